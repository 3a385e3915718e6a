/-
  Part 49 of the proof that the statement FnExactStatesWithPattern holds.
-/
import Derived.Test.YtebabhocakedaaaCStatesWithPattern47
namespace Go.Proofs.Ytebabhocakedaaa
open Go.RowKit
theorem Ayj (p:Int×ByteArray×List (List Int)×Unit) (P:(Option (PP×List (List Int)×List Int×(ByteArray→Option Int)×List Int×List Int×List (List Int)×Unit)×Bool×Unit)→Prop):(∃(y2:Int),
 Jm.fn ((p.1,p.2.1,p.2.2.1,()),())=some y2∧
 ∃(y3:Bool),
 Bd.fn (y2,(1:Int),(3000:Int),())=some y3∧
 Br (!y3) (P (none,false,()))
 (∃(y4:List Int),
 Lf.fn (p.1,())=some y4∧
 ∃(y5:ByteArray),
 Ek.fn (y4,())=some y5∧
 (∃(y6:List Int),
 Jl.fn ((↑p.2.2.1.length:Int),())=some y6∧
 (0:Nat)=(0:Nat)∧
 (1:Nat)= [y4].length∧
 (0:Nat)=(0:Nat)∧
 (1:Nat)= [(0:Int)].length∧
 (0:Nat)=(0:Nat)∧
 (1:Nat)= [(0:Int)].length∧
 (0:Nat)=(0:Nat)∧
 (1:Nat)= [(0:Int)].length∧
 (0:Nat)=(0:Nat)∧
 (0:Nat)=([]:List Int).length∧
 Cb
 (fun
 (v7:
 Int×
 Int×
 ByteArray×
 List (List Int)×
 List (List Int)×List Int×(ByteArray→Option Int)×List Int×List Int×Int×ByteArray×List (List Int)×List (List Int)×PUnit)
 (k8:
 Int×
 Int×
 ByteArray×
 List (List Int)×
 List (List Int)×
 List Int×(ByteArray→Option Int)×List Int×List Int×Int×ByteArray×List (List Int)×List (List Int)×PUnit→
 Prop)=>
 Br (decide (v7.1<(↑v7.2.2.2.2.1.length:Int)))
 (((0:Int)≤v7.1∧v7.1<(↑v7.2.2.2.2.1.length:Int))∧
 ∃(y9:List Int),
 v7.2.2.2.2.1[(0:Nat)+v7.1.toNat]?=some y9∧
 ∃(y10:List (List Int)),
 Aa5.fn ((v7.2.1,v7.2.2.1,v7.2.2.2.1,()),y9,())=some y10∧
 (0:Nat)=(0:Nat)∧
 (0:Nat)=([]:List Int).length∧
 (0:Nat)=(0:Nat)∧
 v7.2.2.2.2.1.length=v7.2.2.2.2.1.length∧
 (0:Nat)=(0:Nat)∧
 v7.2.2.2.2.2.1.length=v7.2.2.2.2.2.1.length∧
 (0:Nat)=(0:Nat)∧
 v7.2.2.2.2.2.2.2.1.length=v7.2.2.2.2.2.2.2.1.length∧
 (0:Nat)=(0:Nat)∧
 v7.2.2.2.2.2.2.2.2.1.length=v7.2.2.2.2.2.2.2.2.1.length∧
 (0:Nat)=(0:Nat)∧
 v7.2.2.2.2.2.2.2.2.2.2.2.2.1.length=v7.2.2.2.2.2.2.2.2.2.2.2.2.1.length∧
 Cb
 (fun
 (v11:
 Int×
 Int×
 ByteArray×
 List (List Int)×
 List Int×
 List (List Int)×
 List Int×
 (ByteArray→Option Int)×
 List Int×List Int×Int×ByteArray×List (List Int)×List (List Int)×PUnit)
 (k12:
 Int×
 Int×
 ByteArray×
 List (List Int)×
 List Int×
 List (List Int)×
 List Int×
 (ByteArray→Option Int)×
 List Int×List Int×Int×ByteArray×List (List Int)×List (List Int)×PUnit→
 Prop)=>
 Br (decide (v11.1<(↑y10.length:Int)))
 (∃(y13:List Int),
 idx y10 v11.1=some y13∧
 ∃(y14:ByteArray),
 Ek.fn (y13,())=some y14∧
 Br (!(v11.2.2.2.2.2.2.2.1 y14).isSome)
 (∃(y15:Int),
 Aa4.fn
 (List.take v11.2.2.2.2.2.1.length (List.drop ((0:Nat)) v11.2.2.2.2.2.1),())=
 some y15∧
 (0:Nat)=(0:Nat)∧
 v11.2.2.2.2.2.1.length=v11.2.2.2.2.2.1.length∧
 v11.2.2.2.2.2.1.length+(List.take (1:Nat) (List.drop (0:Nat) [y13])).length≤
 As∧
 ((0:Int)≤v7.1∧v7.1<(↑v11.2.2.2.2.2.2.1.length:Int))∧
 ∃(y16:Int),
 v11.2.2.2.2.2.2.1[(0:Nat)+v7.1.toNat]?=some y16∧
 (0:Nat)=(0:Nat)∧
 v11.2.2.2.2.2.2.1.length=v11.2.2.2.2.2.2.1.length∧
 v11.2.2.2.2.2.2.1.length+ [IntKind.i64.wrap (y16+(1:Int))].length≤
 As∧
 (0:Nat)=(0:Nat)∧
 v11.2.2.2.2.2.2.2.2.1.length=
 v11.2.2.2.2.2.2.2.2.1.length∧
 v11.2.2.2.2.2.2.2.2.1.length+
 (List.take (1:Nat) (List.drop (0:Nat) [v7.1])).length≤
 As∧
 ∃(y17:Int),
 idx y6 v11.1=some y17∧
 (0:Nat)=(0:Nat)∧
 v11.2.2.2.2.2.2.2.2.2.1.length=
 v11.2.2.2.2.2.2.2.2.2.1.length∧
 v11.2.2.2.2.2.2.2.2.2.1.length+ [y17].length≤
 As∧
 (0:Nat)=(0:Nat)∧
 v11.2.2.2.2.1.length=v11.2.2.2.2.1.length∧
 v11.2.2.2.2.1.length+
 (List.take (1:Nat)
 (List.drop (0:Nat) [y15])).length≤
 As∧
 (0:Nat)=(0:Nat)∧
 (v11.2.2.2.2.1++
 List.take (1:Nat)
 (List.drop (0:Nat) [y15])).length=
 (v11.2.2.2.2.1++
 List.take (1:Nat)
 (List.drop (0:Nat) [y15])).length∧
 (0:Nat)=(0:Nat)∧
 (v11.2.2.2.2.2.1++
 List.take (1:Nat)
 (List.drop (0:Nat) [y13])).length=
 (v11.2.2.2.2.2.1++
 List.take (1:Nat)
 (List.drop (0:Nat) [y13])).length∧
 (0:Nat)=(0:Nat)∧
 (v11.2.2.2.2.2.2.1++
 [IntKind.i64.wrap
 (y16+(1:Int))]).length=
 (v11.2.2.2.2.2.2.1++
 [IntKind.i64.wrap
 (y16+(1:Int))]).length∧
 (0:Nat)=(0:Nat)∧
 (v11.2.2.2.2.2.2.2.2.1++
 List.take (1:Nat)
 (List.drop (0:Nat)
 [v7.1])).length=
 (v11.2.2.2.2.2.2.2.2.1++
 List.take (1:Nat)
 (List.drop (0:Nat)
 [v7.1])).length∧
 (0:Nat)=(0:Nat)∧
 (v11.2.2.2.2.2.2.2.2.2.1++
 [y17]).length=
 (v11.2.2.2.2.2.2.2.2.2.1++
 [y17]).length∧
 (0:Nat)=(0:Nat)∧
 v11.2.2.2.2.2.2.2.2.2.2.2.2.2.1.length=
 v11.2.2.2.2.2.2.2.2.2.2.2.2.2.1.length∧
 k12
 (IntKind.i64.wrap
 (v11.1+(1:Int)),
 v11.2.1,v11.2.2.1,
 v11.2.2.2.1,
 v11.2.2.2.2.1++
 List.take (1:Nat)
 (List.drop (0:Nat)
 [y15]),
 v11.2.2.2.2.2.1++
 List.take (1:Nat)
 (List.drop (0:Nat)
 [y13]),
 v11.2.2.2.2.2.2.1++
 [IntKind.i64.wrap
 (y16+(1:Int))],
 Em
 v11.2.2.2.2.2.2.2.1
 y14 y15,
 v11.2.2.2.2.2.2.2.2.1++
 List.take (1:Nat)
 (List.drop (0:Nat)
 [v7.1]),
 v11.2.2.2.2.2.2.2.2.2.1++
 [y17],
 v11.2.2.2.2.2.2.2.2.2.2.1,
 v11.2.2.2.2.2.2.2.2.2.2.2.1,
 v11.2.2.2.2.2.2.2.2.2.2.2.2.1,
 v11.2.2.2.2.2.2.2.2.2.2.2.2.2.1,
 ()))
 ((0:Nat)=(0:Nat)∧
 v11.2.2.2.2.1.length=v11.2.2.2.2.1.length∧
 v11.2.2.2.2.1.length+
 (List.take (1:Nat)
 (List.drop (0:Nat)
 [(v11.2.2.2.2.2.2.2.1 y14).getD (Int.ofNat (nat_lit 0))])).length≤
 As∧
 (0:Nat)=(0:Nat)∧
 (v11.2.2.2.2.1++
 List.take (1:Nat)
 (List.drop (0:Nat)
 [(v11.2.2.2.2.2.2.2.1 y14).getD (Int.ofNat (nat_lit 0))])).length=
 (v11.2.2.2.2.1++
 List.take (1:Nat)
 (List.drop (0:Nat)
 [(v11.2.2.2.2.2.2.2.1 y14).getD (Int.ofNat (nat_lit 0))])).length∧
 (0:Nat)=(0:Nat)∧
 v11.2.2.2.2.2.1.length=v11.2.2.2.2.2.1.length∧
 (0:Nat)=(0:Nat)∧
 v11.2.2.2.2.2.2.1.length=v11.2.2.2.2.2.2.1.length∧
 (0:Nat)=(0:Nat)∧
 v11.2.2.2.2.2.2.2.2.1.length=
 v11.2.2.2.2.2.2.2.2.1.length∧
 (0:Nat)=(0:Nat)∧
 v11.2.2.2.2.2.2.2.2.2.1.length=
 v11.2.2.2.2.2.2.2.2.2.1.length∧
 (0:Nat)=(0:Nat)∧
 v11.2.2.2.2.2.2.2.2.2.2.2.2.2.1.length=
 v11.2.2.2.2.2.2.2.2.2.2.2.2.2.1.length∧
 k12
 (IntKind.i64.wrap (v11.1+(1:Int)),v11.2.1,v11.2.2.1,
 v11.2.2.2.1,
 v11.2.2.2.2.1++
 List.take (1:Nat)
 (List.drop (0:Nat)
 [(v11.2.2.2.2.2.2.2.1 y14).getD
 (Int.ofNat (nat_lit 0))]),
 v11.2.2.2.2.2.1,v11.2.2.2.2.2.2.1,
 v11.2.2.2.2.2.2.2.1,v11.2.2.2.2.2.2.2.2.1,
 v11.2.2.2.2.2.2.2.2.2.1,
 v11.2.2.2.2.2.2.2.2.2.2.1,
 v11.2.2.2.2.2.2.2.2.2.2.2.1,
 v11.2.2.2.2.2.2.2.2.2.2.2.2.1,
 v11.2.2.2.2.2.2.2.2.2.2.2.2.2.1,())))
 ((0:Nat)=(0:Nat)∧
 v11.2.2.2.2.2.2.2.2.2.2.2.2.2.1.length=
 v11.2.2.2.2.2.2.2.2.2.2.2.2.2.1.length∧
 v11.2.2.2.2.2.2.2.2.2.2.2.2.2.1.length+
 (List.take (1:Nat)
 (List.drop (0:Nat)
 [List.take v11.2.2.2.2.1.length (List.drop ((0:Nat)) v11.2.2.2.2.1)])).length≤
 As∧
 (0:Nat)=(0:Nat)∧
 v11.2.2.2.2.2.1.length=v11.2.2.2.2.2.1.length∧
 (0:Nat)=(0:Nat)∧
 v11.2.2.2.2.2.2.1.length=v11.2.2.2.2.2.2.1.length∧
 (0:Nat)=(0:Nat)∧
 v11.2.2.2.2.2.2.2.2.1.length=v11.2.2.2.2.2.2.2.2.1.length∧
 (0:Nat)=(0:Nat)∧
 v11.2.2.2.2.2.2.2.2.2.1.length=v11.2.2.2.2.2.2.2.2.2.1.length∧
 (0:Nat)=(0:Nat)∧
 (v11.2.2.2.2.2.2.2.2.2.2.2.2.2.1++
 List.take (1:Nat)
 (List.drop (0:Nat)
 [List.take v11.2.2.2.2.1.length
 (List.drop ((0:Nat)) v11.2.2.2.2.1)])).length=
 (v11.2.2.2.2.2.2.2.2.2.2.2.2.2.1++
 List.take (1:Nat)
 (List.drop (0:Nat)
 [List.take v11.2.2.2.2.1.length
 (List.drop ((0:Nat)) v11.2.2.2.2.1)])).length∧
 k8
 (IntKind.i64.wrap (v7.1+(1:Int)),v11.2.1,v11.2.2.1,v11.2.2.2.1,
 v11.2.2.2.2.2.1,v11.2.2.2.2.2.2.1,v11.2.2.2.2.2.2.2.1,
 v11.2.2.2.2.2.2.2.2.1,v11.2.2.2.2.2.2.2.2.2.1,
 v11.2.2.2.2.2.2.2.2.2.2.1,v11.2.2.2.2.2.2.2.2.2.2.2.1,
 v11.2.2.2.2.2.2.2.2.2.2.2.2.1,
 v11.2.2.2.2.2.2.2.2.2.2.2.2.2.1++
 List.take (1:Nat)
 (List.drop (0:Nat)
 [List.take v11.2.2.2.2.1.length
 (List.drop ((0:Nat)) v11.2.2.2.2.1)]),
 ())))
 ((0:Int),v7.2.1,v7.2.2.1,v7.2.2.2.1,[],v7.2.2.2.2.1,v7.2.2.2.2.2.1,
 v7.2.2.2.2.2.2.1,v7.2.2.2.2.2.2.2.1,v7.2.2.2.2.2.2.2.2.1,
 v7.2.2.2.2.2.2.2.2.2.1,v7.2.2.2.2.2.2.2.2.2.2.1,v7.2.2.2.2.2.2.2.2.2.2.2.1,
 v7.2.2.2.2.2.2.2.2.2.2.2.2.1,PUnit.unit))
 (P
 (some
 ((v7.2.2.2.2.2.2.2.2.2.1,v7.2.2.2.2.2.2.2.2.2.2.1,v7.2.2.2.2.2.2.2.2.2.2.2.1,()),
 List.take v7.2.2.2.2.1.length (List.drop ((0:Nat)) v7.2.2.2.2.1),
 List.take v7.2.2.2.2.2.1.length (List.drop ((0:Nat)) v7.2.2.2.2.2.1),v7.2.2.2.2.2.2.1,
 List.take v7.2.2.2.2.2.2.2.1.length (List.drop ((0:Nat)) v7.2.2.2.2.2.2.2.1),
 List.take v7.2.2.2.2.2.2.2.2.1.length (List.drop ((0:Nat)) v7.2.2.2.2.2.2.2.2.1),
 List.take v7.2.2.2.2.2.2.2.2.2.2.2.2.1.length (List.drop ((0:Nat)) v7.2.2.2.2.2.2.2.2.2.2.2.2.1),()),
 true,())))
 ((0:Int),p.1,p.2.1,p.2.2.1,[y4],[(0:Int)],Em (fun (_:ByteArray)=>none) y5 (0:Int),[(0:Int)],[(0:Int)],p.1,p.2.1,
 p.2.2.1,([]:List (List Int)),PUnit.unit))∧
 ((∃(y6:ByteArray),
 Ek.fn (y4,())=some y6∧
 [((0:Nat),(1:Nat)),((0:Nat),(1:Nat)),((0:Nat),(1:Nat)),((0:Nat),(1:Nat)),((0:Nat),(1:Nat)),((0:Nat),(1:Nat)),((0:Nat),(1:Nat)),
 ((0:Nat),(1:Nat)),((0:Nat),(1:Nat)),((0:Nat),(1:Nat)),((0:Nat),(1:Nat)),((0:Nat),(1:Nat)),((0:Nat),(0:Nat))]=
 [((0:Nat),(1:Nat)),((0:Nat),(1:Nat)),((0:Nat),(1:Nat)),((0:Nat),(1:Nat)),((0:Nat),(1:Nat)),((0:Nat),(1:Nat)),((0:Nat),(1:Nat)),
 ((0:Nat),(1:Nat)),((0:Nat),(1:Nat)),((0:Nat),(1:Nat)),((0:Nat),(1:Nat)),((0:Nat),(1:Nat)),((0:Nat),(0:Nat))]∧
 (p,false,y4,p.1,p.2.1,p.2.2.1,y2,y3,!y3,p.1,y4,p.1,p.2.1,p.2.2.1,y4,y4,y6,p.1,p.2.1,p.2.2.1,p.1,p.2.1,p.2.2.1,
 [y4],[(0:Int)],Em (fun (_:ByteArray)=>none) y6 (0:Int),[(0:Int)],[(0:Int)],p.1,p.2.1,p.2.2.1,([]:List (List Int)),())=
 (p,false,y4,p.1,p.2.1,p.2.2.1,y2,y3,!y3,p.1,y4,p.1,p.2.1,p.2.2.1,y4,y4,y5,p.1,p.2.1,p.2.2.1,p.1,p.2.1,p.2.2.1,
 [y4],[(0:Int)],Em (fun (_:ByteArray)=>none) y5 (0:Int),[(0:Int)],[(0:Int)],p.1,p.2.1,p.2.2.1,([]:List (List Int)),PUnit.unit))∧
 ∃(y6:ByteArray),
 Ek.fn (y4,())=some y6∧
 ([((0:Nat),(1:Nat)),((0:Nat),(1:Nat)),((0:Nat),(1:Nat)),((0:Nat),(1:Nat)),((0:Nat),(1:Nat)),((0:Nat),(1:Nat)),((0:Nat),(1:Nat)),
 ((0:Nat),(1:Nat)),((0:Nat),(1:Nat)),((0:Nat),(1:Nat)),((0:Nat),(1:Nat)),((0:Nat),(1:Nat)),((0:Nat),(0:Nat))]=
 [((0:Nat),(1:Nat)),((0:Nat),(1:Nat)),((0:Nat),(1:Nat)),((0:Nat),(1:Nat)),((0:Nat),(1:Nat)),((0:Nat),(1:Nat)),
 ((0:Nat),(1:Nat)),((0:Nat),(1:Nat)),((0:Nat),(1:Nat)),((0:Nat),(1:Nat)),((0:Nat),(1:Nat)),((0:Nat),(1:Nat)),
 ((0:Nat),(0:Nat))]∧
 (p,false,y4,p.1,p.2.1,p.2.2.1,y2,y3,!y3,p.1,y4,p.1,p.2.1,p.2.2.1,y4,y4,y6,p.1,p.2.1,p.2.2.1,p.1,p.2.1,p.2.2.1,
 [y4],[(0:Int)],Em (fun (_:ByteArray)=>none) y6 (0:Int),[(0:Int)],[(0:Int)],p.1,p.2.1,p.2.2.1,([]:List (List Int)),())=
 (p,false,y4,p.1,p.2.1,p.2.2.1,y2,y3,!y3,p.1,y4,p.1,p.2.1,p.2.2.1,y4,y4,y5,p.1,p.2.1,p.2.2.1,p.1,p.2.1,p.2.2.1,
 [y4],[(0:Int)],Em (fun (_:ByteArray)=>none) y5 (0:Int),[(0:Int)],[(0:Int)],p.1,p.2.1,p.2.2.1,([]:List (List Int)),PUnit.unit))∧
 ([((0:Nat),(1:Nat)),((0:Nat),(1:Nat)),((0:Nat),(1:Nat)),((0:Nat),(1:Nat)),((0:Nat),(1:Nat)),((0:Nat),(1:Nat)),((0:Nat),(1:Nat)),
 ((0:Nat),(1:Nat)),((0:Nat),(1:Nat)),((0:Nat),(1:Nat)),((0:Nat),(1:Nat)),((0:Nat),(1:Nat)),((0:Nat),(0:Nat))]=
 [((0:Nat),(1:Nat)),((0:Nat),(1:Nat)),((0:Nat),(1:Nat)),((0:Nat),(1:Nat)),((0:Nat),(1:Nat)),((0:Nat),(1:Nat)),
 ((0:Nat),(1:Nat)),((0:Nat),(1:Nat)),((0:Nat),(1:Nat)),((0:Nat),(1:Nat)),((0:Nat),(1:Nat)),((0:Nat),(1:Nat)),
 ((0:Nat),(0:Nat))]∧
 (p,false,y4,p.1,p.2.1,p.2.2.1,y2,y3,!y3,p.1,y4,p.1,p.2.1,p.2.2.1,y4,y4,y6,p.1,p.2.1,p.2.2.1,p.1,p.2.1,p.2.2.1,
 [y4],[(0:Int)],Em (fun (_:ByteArray)=>none) y6 (0:Int),[(0:Int)],[(0:Int)],p.1,p.2.1,p.2.2.1,([]:List (List Int)),())=
 (p,false,y4,p.1,p.2.1,p.2.2.1,y2,y3,!y3,p.1,y4,p.1,p.2.1,p.2.2.1,y4,y4,y5,p.1,p.2.1,p.2.2.1,p.1,p.2.1,
 p.2.2.1,[y4],[(0:Int)],Em (fun (_:ByteArray)=>none) y5 (0:Int),[(0:Int)],[(0:Int)],p.1,p.2.1,p.2.2.1,([]:List (List Int)),PUnit.unit))∧
 [((0:Nat),(1:Nat)),((0:Nat),(1:Nat)),((0:Nat),(1:Nat)),((0:Nat),(1:Nat)),((0:Nat),(1:Nat)),((0:Nat),(1:Nat)),((0:Nat),(1:Nat)),
 ((0:Nat),(1:Nat)),((0:Nat),(1:Nat)),((0:Nat),(1:Nat)),((0:Nat),(1:Nat)),((0:Nat),(1:Nat)),((0:Nat),(0:Nat))]=
 [((0:Nat),(1:Nat)),((0:Nat),(1:Nat)),((0:Nat),(1:Nat)),((0:Nat),(1:Nat)),((0:Nat),(1:Nat)),((0:Nat),(1:Nat)),
 ((0:Nat),(1:Nat)),((0:Nat),(1:Nat)),((0:Nat),(1:Nat)),((0:Nat),(1:Nat)),((0:Nat),(1:Nat)),((0:Nat),(1:Nat)),
 ((0:Nat),(0:Nat))]∧
 (p,false,y4,p.1,p.2.1,p.2.2.1,y2,y3,!y3,p.1,y4,p.1,p.2.1,p.2.2.1,y4,y4,y6,p.1,p.2.1,p.2.2.1,p.1,p.2.1,p.2.2.1,
 [y4],[(0:Int)],Em (fun (_:ByteArray)=>none) y6 (0:Int),[(0:Int)],[(0:Int)],p.1,p.2.1,p.2.2.1,([]:List (List Int)),())=
 (p,false,y4,p.1,p.2.1,p.2.2.1,y2,y3,!y3,p.1,y4,p.1,p.2.1,p.2.2.1,y4,y4,y5,p.1,p.2.1,p.2.2.1,p.1,p.2.1,
 p.2.2.1,[y4],[(0:Int)],Em (fun (_:ByteArray)=>none) y5 (0:Int),[(0:Int)],[(0:Int)],p.1,p.2.1,p.2.2.1,([]:List (List Int)),PUnit.unit))∧
 ((∃(y6:ByteArray),
 Ek.fn (y4,())=some y6∧
 [((0:Nat),(1:Nat)),((0:Nat),(1:Nat)),((0:Nat),(1:Nat)),((0:Nat),(1:Nat)),((0:Nat),(1:Nat)),((0:Nat),(1:Nat)),((0:Nat),(1:Nat)),
 ((0:Nat),(1:Nat)),((0:Nat),(1:Nat)),((0:Nat),(1:Nat)),((0:Nat),(1:Nat)),((0:Nat),(1:Nat)),((0:Nat),(0:Nat))]=
 [((0:Nat),(1:Nat)),((0:Nat),(1:Nat)),((0:Nat),(1:Nat)),((0:Nat),(1:Nat)),((0:Nat),(1:Nat)),((0:Nat),(1:Nat)),
 ((0:Nat),(1:Nat)),((0:Nat),(1:Nat)),((0:Nat),(1:Nat)),((0:Nat),(1:Nat)),((0:Nat),(1:Nat)),((0:Nat),(1:Nat)),
 ((0:Nat),(0:Nat))]∧
 (p,false,y4,p.1,p.2.1,p.2.2.1,y2,y3,!y3,p.1,y4,p.1,p.2.1,p.2.2.1,y4,y4,y6,p.1,p.2.1,p.2.2.1,p.1,p.2.1,p.2.2.1,
 [y4],[(0:Int)],Em (fun (_:ByteArray)=>none) y6 (0:Int),[(0:Int)],[(0:Int)],p.1,p.2.1,p.2.2.1,([]:List (List Int)),())=
 (p,false,y4,p.1,p.2.1,p.2.2.1,y2,y3,!y3,p.1,y4,p.1,p.2.1,p.2.2.1,y4,y4,y5,p.1,p.2.1,p.2.2.1,p.1,p.2.1,p.2.2.1,
 [y4],[(0:Int)],Em (fun (_:ByteArray)=>none) y5 (0:Int),[(0:Int)],[(0:Int)],p.1,p.2.1,p.2.2.1,([]:List (List Int)),PUnit.unit))∧
 ∃(y6:ByteArray),
 Ek.fn (y4,())=some y6∧
 ([((0:Nat),(1:Nat)),((0:Nat),(1:Nat)),((0:Nat),(1:Nat)),((0:Nat),(1:Nat)),((0:Nat),(1:Nat)),((0:Nat),(1:Nat)),((0:Nat),(1:Nat)),
 ((0:Nat),(1:Nat)),((0:Nat),(1:Nat)),((0:Nat),(1:Nat)),((0:Nat),(1:Nat)),((0:Nat),(1:Nat)),((0:Nat),(0:Nat))]=
 [((0:Nat),(1:Nat)),((0:Nat),(1:Nat)),((0:Nat),(1:Nat)),((0:Nat),(1:Nat)),((0:Nat),(1:Nat)),((0:Nat),(1:Nat)),
 ((0:Nat),(1:Nat)),((0:Nat),(1:Nat)),((0:Nat),(1:Nat)),((0:Nat),(1:Nat)),((0:Nat),(1:Nat)),((0:Nat),(1:Nat)),
 ((0:Nat),(0:Nat))]∧
 (p,false,y4,p.1,p.2.1,p.2.2.1,y2,y3,!y3,p.1,y4,p.1,p.2.1,p.2.2.1,y4,y4,y6,p.1,p.2.1,p.2.2.1,p.1,p.2.1,p.2.2.1,
 [y4],[(0:Int)],Em (fun (_:ByteArray)=>none) y6 (0:Int),[(0:Int)],[(0:Int)],p.1,p.2.1,p.2.2.1,([]:List (List Int)),())=
 (p,false,y4,p.1,p.2.1,p.2.2.1,y2,y3,!y3,p.1,y4,p.1,p.2.1,p.2.2.1,y4,y4,y5,p.1,p.2.1,p.2.2.1,p.1,p.2.1,
 p.2.2.1,[y4],[(0:Int)],Em (fun (_:ByteArray)=>none) y5 (0:Int),[(0:Int)],[(0:Int)],p.1,p.2.1,p.2.2.1,([]:List (List Int)),PUnit.unit))∧
 ([((0:Nat),(1:Nat)),((0:Nat),(1:Nat)),((0:Nat),(1:Nat)),((0:Nat),(1:Nat)),((0:Nat),(1:Nat)),((0:Nat),(1:Nat)),
 ((0:Nat),(1:Nat)),((0:Nat),(1:Nat)),((0:Nat),(1:Nat)),((0:Nat),(1:Nat)),((0:Nat),(1:Nat)),((0:Nat),(1:Nat)),
 ((0:Nat),(0:Nat))]=
 [((0:Nat),(1:Nat)),((0:Nat),(1:Nat)),((0:Nat),(1:Nat)),((0:Nat),(1:Nat)),((0:Nat),(1:Nat)),((0:Nat),(1:Nat)),
 ((0:Nat),(1:Nat)),((0:Nat),(1:Nat)),((0:Nat),(1:Nat)),((0:Nat),(1:Nat)),((0:Nat),(1:Nat)),((0:Nat),(1:Nat)),
 ((0:Nat),(0:Nat))]∧
 (p,false,y4,p.1,p.2.1,p.2.2.1,y2,y3,!y3,p.1,y4,p.1,p.2.1,p.2.2.1,y4,y4,y6,p.1,p.2.1,p.2.2.1,p.1,p.2.1,
 p.2.2.1,[y4],[(0:Int)],Em (fun (_:ByteArray)=>none) y6 (0:Int),[(0:Int)],[(0:Int)],p.1,p.2.1,p.2.2.1,([]:List (List Int)),())=
 (p,false,y4,p.1,p.2.1,p.2.2.1,y2,y3,!y3,p.1,y4,p.1,p.2.1,p.2.2.1,y4,y4,y5,p.1,p.2.1,p.2.2.1,p.1,p.2.1,
 p.2.2.1,[y4],[(0:Int)],Em (fun (_:ByteArray)=>none) y5 (0:Int),[(0:Int)],[(0:Int)],p.1,p.2.1,p.2.2.1,([]:List (List Int)),PUnit.unit))∧
 [((0:Nat),(1:Nat)),((0:Nat),(1:Nat)),((0:Nat),(1:Nat)),((0:Nat),(1:Nat)),((0:Nat),(1:Nat)),((0:Nat),(1:Nat)),
 ((0:Nat),(1:Nat)),((0:Nat),(1:Nat)),((0:Nat),(1:Nat)),((0:Nat),(1:Nat)),((0:Nat),(1:Nat)),((0:Nat),(1:Nat)),
 ((0:Nat),(0:Nat))]=
 [((0:Nat),(1:Nat)),((0:Nat),(1:Nat)),((0:Nat),(1:Nat)),((0:Nat),(1:Nat)),((0:Nat),(1:Nat)),((0:Nat),(1:Nat)),
 ((0:Nat),(1:Nat)),((0:Nat),(1:Nat)),((0:Nat),(1:Nat)),((0:Nat),(1:Nat)),((0:Nat),(1:Nat)),((0:Nat),(1:Nat)),
 ((0:Nat),(0:Nat))]∧
 (p,false,y4,p.1,p.2.1,p.2.2.1,y2,y3,!y3,p.1,y4,p.1,p.2.1,p.2.2.1,y4,y4,y6,p.1,p.2.1,p.2.2.1,p.1,p.2.1,
 p.2.2.1,[y4],[(0:Int)],Em (fun (_:ByteArray)=>none) y6 (0:Int),[(0:Int)],[(0:Int)],p.1,p.2.1,p.2.2.1,([]:List (List Int)),())=
 (p,false,y4,p.1,p.2.1,p.2.2.1,y2,y3,!y3,p.1,y4,p.1,p.2.1,p.2.2.1,y4,y4,y5,p.1,p.2.1,p.2.2.1,p.1,p.2.1,
 p.2.2.1,[y4],[(0:Int)],Em (fun (_:ByteArray)=>none) y5 (0:Int),[(0:Int)],[(0:Int)],p.1,p.2.1,p.2.2.1,([]:List (List Int)),PUnit.unit))∧
 ∃(y6:ByteArray),
 Ek.fn (y4,())=some y6∧
 (([((0:Nat),(1:Nat)),((0:Nat),(1:Nat)),((0:Nat),(1:Nat)),((0:Nat),(1:Nat)),((0:Nat),(1:Nat)),((0:Nat),(1:Nat)),((0:Nat),(1:Nat)),
 ((0:Nat),(1:Nat)),((0:Nat),(1:Nat)),((0:Nat),(1:Nat)),((0:Nat),(1:Nat)),((0:Nat),(1:Nat)),((0:Nat),(0:Nat))]=
 [((0:Nat),(1:Nat)),((0:Nat),(1:Nat)),((0:Nat),(1:Nat)),((0:Nat),(1:Nat)),((0:Nat),(1:Nat)),((0:Nat),(1:Nat)),
 ((0:Nat),(1:Nat)),((0:Nat),(1:Nat)),((0:Nat),(1:Nat)),((0:Nat),(1:Nat)),((0:Nat),(1:Nat)),((0:Nat),(1:Nat)),
 ((0:Nat),(0:Nat))]∧
 (p,false,y4,p.1,p.2.1,p.2.2.1,y2,y3,!y3,p.1,y4,p.1,p.2.1,p.2.2.1,y4,y4,y6,p.1,p.2.1,p.2.2.1,p.1,p.2.1,p.2.2.1,
 [y4],[(0:Int)],Em (fun (_:ByteArray)=>none) y6 (0:Int),[(0:Int)],[(0:Int)],p.1,p.2.1,p.2.2.1,([]:List (List Int)),())=
 (p,false,y4,p.1,p.2.1,p.2.2.1,y2,y3,!y3,p.1,y4,p.1,p.2.1,p.2.2.1,y4,y4,y5,p.1,p.2.1,p.2.2.1,p.1,p.2.1,
 p.2.2.1,[y4],[(0:Int)],Em (fun (_:ByteArray)=>none) y5 (0:Int),[(0:Int)],[(0:Int)],p.1,p.2.1,p.2.2.1,([]:List (List Int)),PUnit.unit))∧
 ([((0:Nat),(1:Nat)),((0:Nat),(1:Nat)),((0:Nat),(1:Nat)),((0:Nat),(1:Nat)),((0:Nat),(1:Nat)),((0:Nat),(1:Nat)),
 ((0:Nat),(1:Nat)),((0:Nat),(1:Nat)),((0:Nat),(1:Nat)),((0:Nat),(1:Nat)),((0:Nat),(1:Nat)),((0:Nat),(1:Nat)),
 ((0:Nat),(0:Nat))]=
 [((0:Nat),(1:Nat)),((0:Nat),(1:Nat)),((0:Nat),(1:Nat)),((0:Nat),(1:Nat)),((0:Nat),(1:Nat)),((0:Nat),(1:Nat)),
 ((0:Nat),(1:Nat)),((0:Nat),(1:Nat)),((0:Nat),(1:Nat)),((0:Nat),(1:Nat)),((0:Nat),(1:Nat)),((0:Nat),(1:Nat)),
 ((0:Nat),(0:Nat))]∧
 (p,false,y4,p.1,p.2.1,p.2.2.1,y2,y3,!y3,p.1,y4,p.1,p.2.1,p.2.2.1,y4,y4,y6,p.1,p.2.1,p.2.2.1,p.1,p.2.1,
 p.2.2.1,[y4],[(0:Int)],Em (fun (_:ByteArray)=>none) y6 (0:Int),[(0:Int)],[(0:Int)],p.1,p.2.1,p.2.2.1,([]:List (List Int)),())=
 (p,false,y4,p.1,p.2.1,p.2.2.1,y2,y3,!y3,p.1,y4,p.1,p.2.1,p.2.2.1,y4,y4,y5,p.1,p.2.1,p.2.2.1,p.1,p.2.1,
 p.2.2.1,[y4],[(0:Int)],Em (fun (_:ByteArray)=>none) y5 (0:Int),[(0:Int)],[(0:Int)],p.1,p.2.1,p.2.2.1,([]:List (List Int)),PUnit.unit))∧
 [((0:Nat),(1:Nat)),((0:Nat),(1:Nat)),((0:Nat),(1:Nat)),((0:Nat),(1:Nat)),((0:Nat),(1:Nat)),((0:Nat),(1:Nat)),
 ((0:Nat),(1:Nat)),((0:Nat),(1:Nat)),((0:Nat),(1:Nat)),((0:Nat),(1:Nat)),((0:Nat),(1:Nat)),((0:Nat),(1:Nat)),
 ((0:Nat),(0:Nat))]=
 [((0:Nat),(1:Nat)),((0:Nat),(1:Nat)),((0:Nat),(1:Nat)),((0:Nat),(1:Nat)),((0:Nat),(1:Nat)),((0:Nat),(1:Nat)),
 ((0:Nat),(1:Nat)),((0:Nat),(1:Nat)),((0:Nat),(1:Nat)),((0:Nat),(1:Nat)),((0:Nat),(1:Nat)),((0:Nat),(1:Nat)),
 ((0:Nat),(0:Nat))]∧
 (p,false,y4,p.1,p.2.1,p.2.2.1,y2,y3,!y3,p.1,y4,p.1,p.2.1,p.2.2.1,y4,y4,y6,p.1,p.2.1,p.2.2.1,p.1,p.2.1,
 p.2.2.1,[y4],[(0:Int)],Em (fun (_:ByteArray)=>none) y6 (0:Int),[(0:Int)],[(0:Int)],p.1,p.2.1,p.2.2.1,([]:List (List Int)),())=
 (p,false,y4,p.1,p.2.1,p.2.2.1,y2,y3,!y3,p.1,y4,p.1,p.2.1,p.2.2.1,y4,y4,y5,p.1,p.2.1,p.2.2.1,p.1,p.2.1,
 p.2.2.1,[y4],[(0:Int)],Em (fun (_:ByteArray)=>none) y5 (0:Int),[(0:Int)],[(0:Int)],p.1,p.2.1,p.2.2.1,([]:List (List Int)),PUnit.unit))∧
 (([((0:Nat),(1:Nat)),((0:Nat),(1:Nat)),((0:Nat),(1:Nat)),((0:Nat),(1:Nat)),((0:Nat),(1:Nat)),((0:Nat),(1:Nat)),((0:Nat),(1:Nat)),
 ((0:Nat),(1:Nat)),((0:Nat),(1:Nat)),((0:Nat),(1:Nat)),((0:Nat),(1:Nat)),((0:Nat),(1:Nat)),((0:Nat),(0:Nat))]=
 [((0:Nat),(1:Nat)),((0:Nat),(1:Nat)),((0:Nat),(1:Nat)),((0:Nat),(1:Nat)),((0:Nat),(1:Nat)),((0:Nat),(1:Nat)),
 ((0:Nat),(1:Nat)),((0:Nat),(1:Nat)),((0:Nat),(1:Nat)),((0:Nat),(1:Nat)),((0:Nat),(1:Nat)),((0:Nat),(1:Nat)),
 ((0:Nat),(0:Nat))]∧
 (p,false,y4,p.1,p.2.1,p.2.2.1,y2,y3,!y3,p.1,y4,p.1,p.2.1,p.2.2.1,y4,y4,y6,p.1,p.2.1,p.2.2.1,p.1,p.2.1,
 p.2.2.1,[y4],[(0:Int)],Em (fun (_:ByteArray)=>none) y6 (0:Int),[(0:Int)],[(0:Int)],p.1,p.2.1,p.2.2.1,([]:List (List Int)),())=
 (p,false,y4,p.1,p.2.1,p.2.2.1,y2,y3,!y3,p.1,y4,p.1,p.2.1,p.2.2.1,y4,y4,y5,p.1,p.2.1,p.2.2.1,p.1,p.2.1,
 p.2.2.1,[y4],[(0:Int)],Em (fun (_:ByteArray)=>none) y5 (0:Int),[(0:Int)],[(0:Int)],p.1,p.2.1,p.2.2.1,([]:List (List Int)),PUnit.unit))∧
 ([((0:Nat),(1:Nat)),((0:Nat),(1:Nat)),((0:Nat),(1:Nat)),((0:Nat),(1:Nat)),((0:Nat),(1:Nat)),((0:Nat),(1:Nat)),
 ((0:Nat),(1:Nat)),((0:Nat),(1:Nat)),((0:Nat),(1:Nat)),((0:Nat),(1:Nat)),((0:Nat),(1:Nat)),((0:Nat),(1:Nat)),
 ((0:Nat),(0:Nat))]=
 [((0:Nat),(1:Nat)),((0:Nat),(1:Nat)),((0:Nat),(1:Nat)),((0:Nat),(1:Nat)),((0:Nat),(1:Nat)),((0:Nat),(1:Nat)),
 ((0:Nat),(1:Nat)),((0:Nat),(1:Nat)),((0:Nat),(1:Nat)),((0:Nat),(1:Nat)),((0:Nat),(1:Nat)),((0:Nat),(1:Nat)),
 ((0:Nat),(0:Nat))]∧
 (p,false,y4,p.1,p.2.1,p.2.2.1,y2,y3,!y3,p.1,y4,p.1,p.2.1,p.2.2.1,y4,y4,y6,p.1,p.2.1,p.2.2.1,p.1,p.2.1,
 p.2.2.1,[y4],[(0:Int)],Em (fun (_:ByteArray)=>none) y6 (0:Int),[(0:Int)],[(0:Int)],p.1,p.2.1,p.2.2.1,([]:List (List Int)),())=
 (p,false,y4,p.1,p.2.1,p.2.2.1,y2,y3,!y3,p.1,y4,p.1,p.2.1,p.2.2.1,y4,y4,y5,p.1,p.2.1,p.2.2.1,p.1,p.2.1,
 p.2.2.1,[y4],[(0:Int)],Em (fun (_:ByteArray)=>none) y5 (0:Int),[(0:Int)],[(0:Int)],p.1,p.2.1,p.2.2.1,([]:List (List Int)),PUnit.unit))∧
 [((0:Nat),(1:Nat)),((0:Nat),(1:Nat)),((0:Nat),(1:Nat)),((0:Nat),(1:Nat)),((0:Nat),(1:Nat)),((0:Nat),(1:Nat)),
 ((0:Nat),(1:Nat)),((0:Nat),(1:Nat)),((0:Nat),(1:Nat)),((0:Nat),(1:Nat)),((0:Nat),(1:Nat)),((0:Nat),(1:Nat)),
 ((0:Nat),(0:Nat))]=
 [((0:Nat),(1:Nat)),((0:Nat),(1:Nat)),((0:Nat),(1:Nat)),((0:Nat),(1:Nat)),((0:Nat),(1:Nat)),((0:Nat),(1:Nat)),
 ((0:Nat),(1:Nat)),((0:Nat),(1:Nat)),((0:Nat),(1:Nat)),((0:Nat),(1:Nat)),((0:Nat),(1:Nat)),((0:Nat),(1:Nat)),
 ((0:Nat),(0:Nat))]∧
 (p,false,y4,p.1,p.2.1,p.2.2.1,y2,y3,!y3,p.1,y4,p.1,p.2.1,p.2.2.1,y4,y4,y6,p.1,p.2.1,p.2.2.1,p.1,p.2.1,
 p.2.2.1,[y4],[(0:Int)],Em (fun (_:ByteArray)=>none) y6 (0:Int),[(0:Int)],[(0:Int)],p.1,p.2.1,p.2.2.1,([]:List (List Int)),())=
 (p,false,y4,p.1,p.2.1,p.2.2.1,y2,y3,!y3,p.1,y4,p.1,p.2.1,p.2.2.1,y4,y4,y5,p.1,p.2.1,p.2.2.1,p.1,p.2.1,
 p.2.2.1,[y4],[(0:Int)],Em (fun (_:ByteArray)=>none) y5 (0:Int),[(0:Int)],[(0:Int)],p.1,p.2.1,p.2.2.1,([]:List (List Int)),PUnit.unit))∧
 (([((0:Nat),(1:Nat)),((0:Nat),(1:Nat)),((0:Nat),(1:Nat)),((0:Nat),(1:Nat)),((0:Nat),(1:Nat)),((0:Nat),(1:Nat)),
 ((0:Nat),(1:Nat)),((0:Nat),(1:Nat)),((0:Nat),(1:Nat)),((0:Nat),(1:Nat)),((0:Nat),(1:Nat)),((0:Nat),(1:Nat)),
 ((0:Nat),(0:Nat))]=
 [((0:Nat),(1:Nat)),((0:Nat),(1:Nat)),((0:Nat),(1:Nat)),((0:Nat),(1:Nat)),((0:Nat),(1:Nat)),((0:Nat),(1:Nat)),
 ((0:Nat),(1:Nat)),((0:Nat),(1:Nat)),((0:Nat),(1:Nat)),((0:Nat),(1:Nat)),((0:Nat),(1:Nat)),((0:Nat),(1:Nat)),
 ((0:Nat),(0:Nat))]∧
 (p,false,y4,p.1,p.2.1,p.2.2.1,y2,y3,!y3,p.1,y4,p.1,p.2.1,p.2.2.1,y4,y4,y6,p.1,p.2.1,p.2.2.1,p.1,p.2.1,
 p.2.2.1,[y4],[(0:Int)],Em (fun (_:ByteArray)=>none) y6 (0:Int),[(0:Int)],[(0:Int)],p.1,p.2.1,p.2.2.1,([]:List (List Int)),())=
 (p,false,y4,p.1,p.2.1,p.2.2.1,y2,y3,!y3,p.1,y4,p.1,p.2.1,p.2.2.1,y4,y4,y5,p.1,p.2.1,p.2.2.1,p.1,p.2.1,
 p.2.2.1,[y4],[(0:Int)],Em (fun (_:ByteArray)=>none) y5 (0:Int),[(0:Int)],[(0:Int)],p.1,p.2.1,p.2.2.1,([]:List (List Int)),PUnit.unit))∧
 [((0:Nat),(1:Nat)),((0:Nat),(1:Nat)),((0:Nat),(1:Nat)),((0:Nat),(1:Nat)),((0:Nat),(1:Nat)),((0:Nat),(1:Nat)),
 ((0:Nat),(1:Nat)),((0:Nat),(1:Nat)),((0:Nat),(1:Nat)),((0:Nat),(1:Nat)),((0:Nat),(1:Nat)),((0:Nat),(1:Nat)),
 ((0:Nat),(0:Nat))]=
 [((0:Nat),(1:Nat)),((0:Nat),(1:Nat)),((0:Nat),(1:Nat)),((0:Nat),(1:Nat)),((0:Nat),(1:Nat)),((0:Nat),(1:Nat)),
 ((0:Nat),(1:Nat)),((0:Nat),(1:Nat)),((0:Nat),(1:Nat)),((0:Nat),(1:Nat)),((0:Nat),(1:Nat)),((0:Nat),(1:Nat)),
 ((0:Nat),(0:Nat))]∧
 (p,false,y4,p.1,p.2.1,p.2.2.1,y2,y3,!y3,p.1,y4,p.1,p.2.1,p.2.2.1,y4,y4,y6,p.1,p.2.1,p.2.2.1,p.1,p.2.1,
 p.2.2.1,[y4],[(0:Int)],Em (fun (_:ByteArray)=>none) y6 (0:Int),[(0:Int)],[(0:Int)],p.1,p.2.1,p.2.2.1,([]:List (List Int)),())=
 (p,false,y4,p.1,p.2.1,p.2.2.1,y2,y3,!y3,p.1,y4,p.1,p.2.1,p.2.2.1,y4,y4,y5,p.1,p.2.1,p.2.2.1,p.1,p.2.1,
 p.2.2.1,[y4],[(0:Int)],Em (fun (_:ByteArray)=>none) y5 (0:Int),[(0:Int)],[(0:Int)],p.1,p.2.1,p.2.2.1,([]:List (List Int)),PUnit.unit))∧
 (([((0:Nat),(1:Nat)),((0:Nat),(1:Nat)),((0:Nat),(1:Nat)),((0:Nat),(1:Nat)),((0:Nat),(1:Nat)),((0:Nat),(1:Nat)),
 ((0:Nat),(1:Nat)),((0:Nat),(1:Nat)),((0:Nat),(1:Nat)),((0:Nat),(1:Nat)),((0:Nat),(1:Nat)),((0:Nat),(1:Nat)),
 ((0:Nat),(0:Nat))]=
 [((0:Nat),(1:Nat)),((0:Nat),(1:Nat)),((0:Nat),(1:Nat)),((0:Nat),(1:Nat)),((0:Nat),(1:Nat)),((0:Nat),(1:Nat)),
 ((0:Nat),(1:Nat)),((0:Nat),(1:Nat)),((0:Nat),(1:Nat)),((0:Nat),(1:Nat)),((0:Nat),(1:Nat)),((0:Nat),(1:Nat)),
 ((0:Nat),(0:Nat))]∧
 (p,false,y4,p.1,p.2.1,p.2.2.1,y2,y3,!y3,p.1,y4,p.1,p.2.1,p.2.2.1,y4,y4,y6,p.1,p.2.1,p.2.2.1,p.1,p.2.1,
 p.2.2.1,[y4],[(0:Int)],Em (fun (_:ByteArray)=>none) y6 (0:Int),[(0:Int)],[(0:Int)],p.1,p.2.1,p.2.2.1,([]:List (List Int)),())=
 (p,false,y4,p.1,p.2.1,p.2.2.1,y2,y3,!y3,p.1,y4,p.1,p.2.1,p.2.2.1,y4,y4,y5,p.1,p.2.1,p.2.2.1,p.1,p.2.1,
 p.2.2.1,[y4],[(0:Int)],Em (fun (_:ByteArray)=>none) y5 (0:Int),[(0:Int)],[(0:Int)],p.1,p.2.1,p.2.2.1,([]:List (List Int)),PUnit.unit))∧
 [((0:Nat),(1:Nat)),((0:Nat),(1:Nat)),((0:Nat),(1:Nat)),((0:Nat),(1:Nat)),((0:Nat),(1:Nat)),((0:Nat),(1:Nat)),
 ((0:Nat),(1:Nat)),((0:Nat),(1:Nat)),((0:Nat),(1:Nat)),((0:Nat),(1:Nat)),((0:Nat),(1:Nat)),((0:Nat),(1:Nat)),
 ((0:Nat),(0:Nat))]=
 [((0:Nat),(1:Nat)),((0:Nat),(1:Nat)),((0:Nat),(1:Nat)),((0:Nat),(1:Nat)),((0:Nat),(1:Nat)),((0:Nat),(1:Nat)),
 ((0:Nat),(1:Nat)),((0:Nat),(1:Nat)),((0:Nat),(1:Nat)),((0:Nat),(1:Nat)),((0:Nat),(1:Nat)),((0:Nat),(1:Nat)),
 ((0:Nat),(0:Nat))]∧
 (p,false,y4,p.1,p.2.1,p.2.2.1,y2,y3,!y3,p.1,y4,p.1,p.2.1,p.2.2.1,y4,y4,y6,p.1,p.2.1,p.2.2.1,p.1,p.2.1,
 p.2.2.1,[y4],[(0:Int)],Em (fun (_:ByteArray)=>none) y6 (0:Int),[(0:Int)],[(0:Int)],p.1,p.2.1,p.2.2.1,([]:List (List Int)),())=
 (p,false,y4,p.1,p.2.1,p.2.2.1,y2,y3,!y3,p.1,y4,p.1,p.2.1,p.2.2.1,y4,y4,y5,p.1,p.2.1,p.2.2.1,p.1,p.2.1,
 p.2.2.1,[y4],[(0:Int)],Em (fun (_:ByteArray)=>none) y5 (0:Int),[(0:Int)],[(0:Int)],p.1,p.2.1,p.2.2.1,([]:List (List Int)),PUnit.unit))∧
 ([((0:Nat),(1:Nat)),((0:Nat),(1:Nat)),((0:Nat),(1:Nat)),((0:Nat),(1:Nat)),((0:Nat),(1:Nat)),((0:Nat),(1:Nat)),
 ((0:Nat),(1:Nat)),((0:Nat),(1:Nat)),((0:Nat),(1:Nat)),((0:Nat),(1:Nat)),((0:Nat),(1:Nat)),((0:Nat),(1:Nat)),
 ((0:Nat),(0:Nat))]=
 [((0:Nat),(1:Nat)),((0:Nat),(1:Nat)),((0:Nat),(1:Nat)),((0:Nat),(1:Nat)),((0:Nat),(1:Nat)),((0:Nat),(1:Nat)),
 ((0:Nat),(1:Nat)),((0:Nat),(1:Nat)),((0:Nat),(1:Nat)),((0:Nat),(1:Nat)),((0:Nat),(1:Nat)),((0:Nat),(1:Nat)),
 ((0:Nat),(0:Nat))]∧
 (p,false,y4,p.1,p.2.1,p.2.2.1,y2,y3,!y3,p.1,y4,p.1,p.2.1,p.2.2.1,y4,y4,y6,p.1,p.2.1,p.2.2.1,p.1,p.2.1,
 p.2.2.1,[y4],[(0:Int)],Em (fun (_:ByteArray)=>none) y6 (0:Int),[(0:Int)],[(0:Int)],p.1,p.2.1,p.2.2.1,([]:List (List Int)),())=
 (p,false,y4,p.1,p.2.1,p.2.2.1,y2,y3,!y3,p.1,y4,p.1,p.2.1,p.2.2.1,y4,y4,y5,p.1,p.2.1,p.2.2.1,p.1,p.2.1,
 p.2.2.1,[y4],[(0:Int)],Em (fun (_:ByteArray)=>none) y5 (0:Int),[(0:Int)],[(0:Int)],p.1,p.2.1,p.2.2.1,([]:List (List Int)),PUnit.unit))∧
 [((0:Nat),(1:Nat)),((0:Nat),(1:Nat)),((0:Nat),(1:Nat)),((0:Nat),(1:Nat)),((0:Nat),(1:Nat)),((0:Nat),(1:Nat)),
 ((0:Nat),(1:Nat)),((0:Nat),(1:Nat)),((0:Nat),(1:Nat)),((0:Nat),(1:Nat)),((0:Nat),(1:Nat)),((0:Nat),(1:Nat)),
 ((0:Nat),(0:Nat))]=
 [((0:Nat),(1:Nat)),((0:Nat),(1:Nat)),((0:Nat),(1:Nat)),((0:Nat),(1:Nat)),((0:Nat),(1:Nat)),((0:Nat),(1:Nat)),
 ((0:Nat),(1:Nat)),((0:Nat),(1:Nat)),((0:Nat),(1:Nat)),((0:Nat),(1:Nat)),((0:Nat),(1:Nat)),((0:Nat),(1:Nat)),
 ((0:Nat),(0:Nat))]∧
 (p,false,y4,p.1,p.2.1,p.2.2.1,y2,y3,!y3,p.1,y4,p.1,p.2.1,p.2.2.1,y4,y4,y6,p.1,p.2.1,p.2.2.1,p.1,p.2.1,
 p.2.2.1,[y4],[(0:Int)],Em (fun (_:ByteArray)=>none) y6 (0:Int),[(0:Int)],[(0:Int)],p.1,p.2.1,p.2.2.1,([]:List (List Int)),())=
 (p,false,y4,p.1,p.2.1,p.2.2.1,y2,y3,!y3,p.1,y4,p.1,p.2.1,p.2.2.1,y4,y4,y5,p.1,p.2.1,p.2.2.1,p.1,p.2.1,
 p.2.2.1,[y4],[(0:Int)],Em (fun (_:ByteArray)=>none) y5 (0:Int),[(0:Int)],[(0:Int)],p.1,p.2.1,p.2.2.1,[],PUnit.unit)))=fnW tab (look [(109,Jm),(108,Bd),(110,Lf),(111,Ek),(112,Jl),(113,Aa5),(67,Aa4)]) Le Try.f61 (p,()) P:=by kernel_rfl
theorem Ai6 {g:List (List Int)} {k:Int} {x:List Int} {d:Int} : ∀(ls:List Int) (s:EX) (row:List Int) (L':List (List Int)) (D':List Int),Fl g x d ls s.1 s.2.1=(L',D',true)→
  (Ai5 g k x d ls s row).1.1=L'∧(Ai5 g k x d ls s row).1.2.1=D'
 | [],s,row,L',D',h=>by
  simp only [Fl,Prod.mk.injEq] at h
  exact ⟨h.1,h.2.1⟩
 |l::ls,s,row,L',D',h=>by
  simp only [Fl] at h
  simp only [Ai5]
  by_cases hm:Aa x (Af g l)∈s.1
  ·rw [if_pos hm] at h
   rw [if_pos hm]
   exact Ai6 ls s _ L' D' h
  ·rw [if_neg hm] at h
   rw [if_neg hm]
   by_cases hf:s.1.length=3000
   ·rw [if_pos hf] at h
    simp at h
   ·rw [if_neg hf] at h
    exact Ai6 ls _ _ L' D' h
theorem Aqp {g:List (List Int)} {ls:List Int} : ∀(f k:Nat) (s:EX) (N:List (List Int)) (L':List (List Int)) (D':List Int),Gv g ls f k s.1 s.2.1=(L',D',true)→
  (Akb g ls f k s N).1.1=L'∧(Akb g ls f k s N).1.2.1=D'
 |0,k,s,N,L',D',h=>by
  simp only [Gv,Prod.mk.injEq] at h
  exact ⟨h.1,h.2.1⟩
 |f+1,k,s,N,L',D',h=>by
  simp only [Gv] at h
  simp only [Akb]
  by_cases hk:k<s.1.length
  ·rw [if_pos hk] at h
   rw [if_pos hk]
   split at h
   ·rename_i L1 D1 he
    obtain ⟨a1,a2⟩:=Ai6 (k:=(k:Int)) ls s [] L1 D1 he
    refine Aqp f (k+1) _ _ L' D' ?_
    rw [a1,a2]
    exact h
   ·simp at h
  ·rw [if_neg hk] at h
   rw [if_neg hk]
   simp only [Prod.mk.injEq] at h
   exact ⟨h.1,h.2.1⟩
theorem Adg {key:ByteArray} {x:List Int} : ∀(L:List (List Int)) (i:Nat),Yf key (L++ [x]) i=if (Yf key L i).isSome=true then Yf key L i else if Ky x=key then some ((i+L.length:Nat):Int) else none
 | [],i=>by simp [Yf]
 |y::L,i=>by
  simp only [List.cons_append,Yf]
  split
  ·rfl
  ·rw [Adg L (i+1),List.length_cons,show i+1+L.length=i+(L.length+1) by omega]
theorem Aeu {x:List Int} (hx:Pz x): ∀(L:List (List Int)) (i:Nat),(∀y∈L,Pz y)→Yf (Ky x) L i=if x∈L then some ((i+L.idxOf x:Nat):Int) else none
 | [],i,_=>by simp [Yf]
 |y::L,i,h=>by
  have hy:=h y (by simp)
  simp only [Yf]
  by_cases e:y=x
  ·subst e
   rw [if_pos rfl,if_pos (by simp),List.idxOf_cons_self]
   rfl
  ·rw [if_neg fun hk=>e (key_inj hy hx hk),Aeu hx L (i+1) fun z hz=>h z (List.mem_cons_of_mem _ hz),show List.idxOf x (y::L)=(List.idxOf x L).succ by rw [List.idxOf_cons,beq_false_of_ne e];rfl]
   have:(x∈y::L)↔(x∈L):=by simp [Ne.symm e]
   by_cases hm:x∈L
   ·rw [if_pos hm,if_pos (this.2 hm),show i+1+List.idxOf x L=i+(List.idxOf x L).succ by omega]
   ·rw [if_neg hm,if_neg fun h=>hm (this.1 h)]
theorem Ax7 {x:List Int} {L:List (List Int)} (hx:Pz x) (hL: ∀y∈L,Pz y):Pc L (Ky x)=if x∈L then some (L.idxOf x:Int) else none:=by
 unfold Pc
 rw [Aeu hx L 0 hL,Nat.zero_add]
theorem Am7 {x:List Int} {L:List (List Int)} (hx:Pz x) (hL: ∀y∈L,Pz y) (hn:x∉L):Em (Pc L) (Ky x) (L.length:Int)=Pc (L++ [x]):=by
 funext key
 unfold Em Pc
 rw [Adg,Nat.zero_add]
 by_cases e:key=Ky x
 ·subst e
  rw [if_pos rfl,Aeu hx L 0 hL,if_neg hn,if_neg (by simp),if_pos rfl]
 ·rw [if_neg e,if_neg (c:=Ky x=key) fun h=>e h.symm]
  split
  ·rfl
  ·rename_i h
   cases hk:Yf key L 0 with
   |none=>rfl
   |some v=>rw [hk] at h;simp at h
theorem Ate (p:PP):Fk (Lo p) 1 3000=Hv p:=by
 unfold Hv
 by_cases hv:Bm p=true
 ·rw [hv,Bool.true_and,Aqk hv]
  rfl
 ·have hv:Bm p=false:=by simpa using hv
  rw [hv,Bool.false_and]
  have:Lo p=0:=by unfold Lo;rw [if_neg (by simp [hv])]
  rw [this]
  rfl
theorem Axm (p:PP) (h:Ec p):fnW tab (look [(109,Jm),(108,Bd),(110,Lf),(111,Ek),(112,Jl),(113,Aa5),(67,Aa4)]) Le Try.f61 (p,()) (fun (z:Option (PP×List (List Int)×List Int×(ByteArray→Option Int)×List Int×List Int×List (List Int)×Unit)×Bool×Unit)=>z=(if Hv p=true then (some (Aby p),true,()) else (none,false,()))):=by
 refine Eq.mp (Ayj p _) ⟨_,if_pos h,_,if_pos trivial,?_⟩
 show Br (!Fk (Lo p) 1 3000) _ _
 rw [Ate p]
 refine Br.of (fun hb=>?_) fun hb=>?_
 ·rw [if_neg (by simpa using hb)]
 have hw:Hv p=true:=by simpa using hb
 rw [if_pos hw]
 obtain ⟨hv,hbw⟩:=Bool.and_eq_true_iff.1 hw
 have hV:=valid hv
 have hfew:=hV.few
 have hn:=hV.n
 obtain ⟨pn,ps,g,⟨⟩⟩:=p
 dsimp only at hfew hn hbw⊢
 have hI:(upto pn.toNat).length≤20:=by rw [Qv];omega
 have hIr: ∀y∈upto pn.toNat,0≤y∧y<pn:=fun y hy=>by have:=Ig.1 hy;omega
 have hb0:=Zo (p:=(pn,ps,g,())) hI hIr
 obtain ⟨ls,hls⟩: ∃ls,Bc g.length=ls:=⟨_,rfl⟩
 have hll:ls.length≤16:=by rw [←hls,Ke];omega
 have hmem: ∀l∈ls,Ft (List.length g) l:=fun l hl=>La (hls▸hl)
 have hbyte: ∀x:List Int,(∀y∈x,0≤y∧y<pn)→Pz x:=fun x hx y hy=>by have:=hx y hy;omega
 have hstart:Gv g ls 3001 0 [upto pn.toNat] [0]=Fa g (upto pn.toNat):=by unfold Fa;rw [hls]
 have hk0:Em (fun (_:ByteArray)=>(none:Option Int)) (Ky (upto pn.toNat)) 0=Pc [upto pn.toNat]:=by
  have:=Am7 (L:= []) (hbyte _ hIr) (fun y hy=>by cases hy) (by simp)
  exact this
 refine ⟨upto pn.toNat,if_pos ⟨by show (0:Int)≤pn;omega,by show pn≤20;omega⟩,Ky (upto pn.toNat),if_pos (by show short (upto pn.toNat);unfold short;omega),⟨ls,?_,rfl,rfl,rfl,rfl,rfl,rfl,rfl,rfl,rfl,rfl,?_⟩,?_⟩
 ·refine (if_pos ⟨by show (0:Int)≤((g.length:Nat):Int);omega,by show ((g.length:Nat):Int)≤8;omega⟩).trans (congrArg some ?_)
  show Bc (((g.length:Nat):Int)).toNat=ls
  rw [Int.toNat_natCast];exact hls
 ·obtain ⟨R,hR⟩: ∃R,Akb g ls 3001 0 ([upto pn.toNat],[0],[0],[0]) []=R:=⟨_,rfl⟩
  have hexp:Aby (pn,ps,g,())=Bd8 (pn,ps,g,()) R:=by unfold Aby;rw [hls];exact congrArg _ hR
  rw [hexp]
  refine Cb.mk (fun v=> ∃(k:Nat) (s:EX) (N:List (List Int)),v=((k:Int),pn,ps,g,s.1,s.2.1,Pc s.1,s.2.2.1,s.2.2.2,pn,ps,g,N,())∧k≤s.1.length∧Og (pn,ps,g,()) (upto pn.toNat).length s.1 s.2.1∧s.2.2.1.length=s.1.length∧s.2.2.2.length=s.1.length∧N.length=k∧
    Gv g ls (3001-k) k s.1 s.2.1=Fa g (upto pn.toNat)∧Akb g ls (3001-k) k s N=R) (fun v=>3001-v.1.toNat)
   ⟨0,([upto pn.toNat],[0],[0],[0]),[],?_,by simp,hb0,rfl,rfl,rfl,hstart,hR⟩ ?_
  ·rw [←hk0];rfl
  rintro v ⟨k,s0,N,rfl,h1,h2,h3,h4,h5,h6,h7⟩
  obtain ⟨L0,D0,P0,B0⟩:=s0
  dsimp only at h1 h2 h3 h4 h6 h7⊢
  have hL0:=h2.ok.few
  have hD0:=h2.len
  obtain ⟨f,hf⟩: ∃f,3001-k=f+1:=⟨3000-k,by omega⟩
  refine Br.dec (fun hl=>?_) fun hl=>?_
  ·have hk:k<L0.length:=by omega
   have hkD:k<D0.length:=by omega
   have hx: ∀y∈L0[k],0≤y∧y<pn:=h2.row _ (List.getElem_mem hk)
   have hxl:L0[k].length=(upto pn.toNat).length:=h2.ok.len _ (List.getElem_mem hk)
   have hdk:=h2.dep k hkD
   have hxe:L0.getD k []=L0[k]:=Ll hk
   have hde:D0.getD k 0=D0[k]:=by rw [List.getD_eq_getElem?_getD,List.getElem?_eq_getElem hkD];rfl
   have hgo: ∀L' D' ok,Fl g L0[k] D0[k] ls L0 D0=(L',D',ok)→Fa g (upto pn.toNat)=if ok=true then Gv g ls f (k+1) L' D' else (L',D',false):=by
    intro L' D' ok he
    rw [←h6,hf,Gv,if_pos hk,hxe,hde,he]
    cases ok<;>rfl
   obtain ⟨E,hE⟩: ∃E,Ai5 g (k:Int) L0[k] D0[k] ls (L0,D0,P0,B0) []=E:=⟨_,rfl⟩
   have hex:R=Akb g ls f (k+1) E.1 (N++ [E.2]):=by
    rw [←h7,hf,Akb,if_pos hk]
    dsimp only
    rw [hxe,hde,hE]
   refine ⟨⟨by omega,by omega⟩,L0[k],by rw [Int.toNat_natCast,Nat.zero_add];exact List.getElem?_eq_getElem hk,ls.map (fun l=>Aa L0[k] (Af g l)),?_,?_⟩
   ·refine (if_pos ⟨hv,by show L0[k].length≤20;omega,hx⟩).trans (congrArg some ?_)
    show Aoa g L0[k]=_
    unfold Aoa
    rw [hls]
   refine ⟨rfl,rfl,rfl,rfl,rfl,rfl,rfl,rfl,rfl,rfl,rfl,rfl,?_⟩
   obtain ⟨nb,hnb⟩: ∃nb,ls.map (fun l=>Aa L0[k] (Af g l))=nb:=⟨_,rfl⟩
   have hnl:nb.length=ls.length:=by rw [←hnb,List.length_map]
   have hni: ∀i (h:i<ls.length),nb[i]'(by omega)=Aa L0[k] (Af g ls[i]):=fun i h=>by simp only [←hnb,List.getElem_map]
   rw [hnb]
   refine Cb.mk (fun v=> ∃(i:Nat) (row:List Int) (s:EX),v=((i:Int),pn,ps,g,row,s.1,s.2.1,Pc s.1,s.2.2.1,s.2.2.2,pn,ps,g,N,())∧i≤ls.length∧row.length=i∧Og (pn,ps,g,()) (upto pn.toNat).length s.1 s.2.1∧s.2.2.1.length=s.1.length∧s.2.2.2.length=s.1.length∧
     (∃A,s.1=L0++A)∧(∃A,s.2.1=D0++A)∧Fl g L0[k] D0[k] (ls.drop i) s.1 s.2.1=Fl g L0[k] D0[k] ls L0 D0∧Ai5 g (k:Int) L0[k] D0[k] (ls.drop i) s row=E) (fun v=>ls.length-v.1.toNat)
    ⟨0,[],(L0,D0,P0,B0),rfl,Nat.zero_le _,rfl,h2,h3,h4,⟨[],by simp⟩,⟨[],by simp⟩,rfl,hE⟩ ?_
   rintro v ⟨i,row,s,rfl,g1,g2,g3,g4,g5,⟨A,g6⟩,⟨A',g7⟩,g8,g9⟩
   obtain ⟨L,D,Pa,By⟩:=s
   dsimp only at g3 g4 g5 g6 g7 g8 g9⊢
   have hLf:=g3.ok.few
   have hDl:=g3.len
   refine Br.dec (fun hli=>?_) fun hli=>?_
   ·have hi:i<ls.length:=by omega
    have hkL:k<L.length:=by rw [g6,List.length_append];omega
    have hkD2:k<D.length:=by rw [hDl];exact hkL
    have hDk:D[k]=D0[k]:=by simp only [g7];exact List.getElem_append_left hkD
    have hlet:=hmem _ (List.getElem_mem hi)
    obtain ⟨nl,nr⟩:=Aod hV hx hlet
    dsimp only at nl nr
    rw [List.drop_eq_getElem_cons hi] at g8 g9
    simp only [Fl] at g8
    simp only [Ai5] at g9
    have hyb:=hbyte _ nr
    refine ⟨_,Az (by omega),?_⟩
    rw [hni i hi]
    generalize hyv:Aa L0[k] (Af g ls[i])=yv at*
    refine ⟨Ky yv,if_pos (by show short yv;unfold short;rw [nl];omega),?_⟩
    rw [Ax7 hyb fun y hy=>hbyte _ (g3.row y hy)]
    refine Br.of (fun hin=>?_) fun hin=>?_
    ·have hin:yv∉L:=fun hm=>by rw [if_pos hm] at hin;simp at hin
     rw [if_neg hin] at g8 g9
     by_cases hfull:L.length=3000
     ·rw [if_pos hfull] at g8
      have:=hgo _ _ _ g8.symm
      rw [if_neg (by decide)] at this
      rw [this] at hbw
      cases hbw
     rw [if_neg hfull] at g8
     refine ⟨_,if_pos trivial,rfl,rfl,?_,⟨by omega,by omega⟩,D0[k],?_,rfl,rfl,?_,rfl,rfl,?_,_,Az hi,rfl,rfl,?_,rfl,rfl,?_,rfl,rfl,rfl,rfl,rfl,rfl,rfl,rfl,rfl,rfl,rfl,rfl,?_⟩
     ·show L.length+1≤4294967296;omega
     ·rw [Int.toNat_natCast,Nat.zero_add,List.getElem?_eq_getElem hkD2,hDk]
     ·show D.length+1≤4294967296;omega
     ·show Pa.length+1≤4294967296;omega
     ·show By.length+1≤4294967296;omega
     ·show row.length+1≤4294967296;omega
     ·dsimp only
      rw [Cp L,Bz (n:=D0[k]+1) (by omega) (by omega),Am (by omega),Am7 hyb (fun y hy=>hbyte _ (g3.row y hy)) hin]
      refine ⟨⟨i+1,row++ [(L.length:Int)],(L++ [yv],D++ [D0[k]+1],Pa++ [(k:Int)],By++ [ls[i]]),rfl,hi,by rw [List.length_append,g2];rfl,g3.add hin (by rw [nl,hxl]) (by omega) nr ⟨by omega,by omega⟩,?_,?_,⟨A++ [yv],by rw [g6,List.append_assoc]⟩,⟨A'++ [D0[k]+1],by rw [g7,List.append_assoc]⟩,g8,g9⟩,by omega⟩
      ·simp [g4]
      ·simp [g5]
    ·have hin:yv∈L:=Classical.byContradiction fun hm=>by rw [if_neg hm] at hin;simp at hin
     rw [if_pos hin] at g8 g9
     rw [if_pos hin]
     refine ⟨rfl,rfl,?_,rfl,rfl,rfl,rfl,rfl,rfl,rfl,rfl,rfl,rfl,rfl,rfl,?_⟩
     ·show row.length+1≤4294967296;omega
     ·rw [Am (by omega)]
      exact ⟨⟨i+1,row++ [(L.idxOf yv:Int)],(L,D,Pa,By),rfl,hi,by rw [List.length_append,g2];rfl,g3,g4,g5,⟨A,g6⟩,⟨A',g7⟩,g8,g9⟩,by omega⟩
   ·have:i=ls.length:=by omega
    subst this
    rw [List.drop_length,Fl] at g8
    rw [List.drop_length,Ai5] at g9
    have:=hgo _ _ _ g8.symm
    rw [if_pos rfl] at this
    rw [Cp row,Am (by omega)]
    refine ⟨rfl,rfl,?_,rfl,rfl,rfl,rfl,rfl,rfl,rfl,rfl,rfl,rfl,⟨k+1,(L,D,Pa,By),N++ [row],rfl,by rw [g6,List.length_append];omega,g3,g4,g5,by rw [List.length_append,h5];rfl,?_,?_⟩,by omega⟩
    ·show N.length+1≤4294967296;omega
    ·rw [show 3001-(k+1)=f by omega]
     exact this.symm
    ·rw [show 3001-(k+1)=f by omega,hex,←g9]
  ·have hk:k=L0.length:=by omega
   rw [hf,Akb,if_neg (by show ¬k<L0.length;omega)] at h7
   subst h7
   simp only [List.drop_zero,List.take_length]
   rfl
 ·have hkey:Ek.fn (upto pn.toNat,())=some (Ky (upto pn.toNat)):=if_pos (by show short (upto pn.toNat);unfold short;omega)
  repeat' (first|exact ⟨rfl,rfl⟩|refine ⟨_,hkey,?_⟩|refine ⟨?_,?_⟩)
theorem Al2:Sound Try.prog 61 Le:=
 Sound.mkS Ca (Ad Afk (Ad Ly (Ad Wt (Ad Ajs (Ad Aav (Ad Asn (Ad Asm Ba))))))) mixed Try.func61 (by kernel_rfl) (by kernel_rfl) fun x h=>Axm x.1 h
end Go.Proofs.Ytebabhocakedaaa

namespace Go.Proofs.Ytebabhocakedaaa
open Go.RowKit
noncomputable def Di (p:PP):List (List Int):=(Fa p.2.2.1 (upto p.1.toNat)).1
noncomputable def Aio (p:PP):List Int:=(Fa p.2.2.1 (upto p.1.toNat)).2.1
noncomputable def Abz (p:PP):SS×Bool×Unit:=if Bm p=true then (Hg p.2.2.1 (upto p.1.toNat),Hv p,()) else (([],[],[],false,()),false,())
noncomputable abbrev Jd:Spec:=mkS (.pair Ds .unit) (.pair Aa7 (.pair .bool .unit)) true false (fun x=>Ec x.1) (fun x=>Abz x.1)
noncomputable def Pb (p:PP) (t q:List Int):Bool:=Dm p t&&Qm p.1 q (t.length:Int)
noncomputable abbrev Kk:Spec:=mkS (.pair Ds (.pair tL (.pair tL .unit))) .bool false true (fun x=>Ec x.1∧short x.2.1∧short x.2.2.1) (fun x=>Pb x.1 x.2.1 x.2.2.1)
noncomputable def Pk (p:PP) (t q:List Int):Int:=if (Hv p&&Pb p t q)=true then (((Di p).countP fun s=>decide (Co s t=q):Nat):Int) else-1
noncomputable abbrev Gg:Spec:=mkS (.pair Ds (.pair tL (.pair tL .unit))) tI false true (fun x=>Ec x.1∧short x.2.1∧short x.2.2.1) (fun x=>Pk x.1 x.2.1 x.2.2.1)
noncomputable abbrev Pp:Spec:=mkS (.pair tL (.pair tL .unit)) tL false true (fun x=>short x.2.1∧Ja (List.length x.1) x.2.1) (fun x=>Co x.1 x.2.1)
noncomputable abbrev Afb:Spec:=mkS (.pair Ds (.pair tL (.pair tL .unit))) .bool false true (fun x=>Ec x.1∧short x.2.1∧short x.2.2.1) (fun _=>true)
theorem Avy (p:Int×ByteArray×List (List Int)×Unit) (P:((List (List Int)×List Int×List Int×Bool×Unit)×Bool×Unit)→Prop):(∃(y2:Bool),
 Ei.fn ((p.1,p.2.1,p.2.2.1,()),())=some y2∧
 Br (!y2) (P ((List.take (0:Nat) (List.drop (0:Nat) []),List.take (0:Nat) (List.drop (0:Nat) []),List.take (0:Nat) (List.drop (0:Nat) []),false,()),false,()))
 (((((∃(y3:List Int),
 Bq.fn (p.1,())=some y3∧
 (∃(y4:List (List Int)×List Int×List Int×Bool×PUnit),
 Ct.fn ((p.1,p.2.1,p.2.2.1,()),y3,())=some y4∧
 ((P ((y4.1,y4.2.1,y4.2.2.1,y4.2.2.2.1,()),y4.2.2.2.1,())∧P ((y4.1,y4.2.1,y4.2.2.1,y4.2.2.2.1,()),y4.2.2.2.1,()))∧
 P ((y4.1,y4.2.1,y4.2.2.1,y4.2.2.2.1,()),y4.2.2.2.1,()))∧
 (P ((y4.1,y4.2.1,y4.2.2.1,y4.2.2.2.1,()),y4.2.2.2.1,())∧P ((y4.1,y4.2.1,y4.2.2.1,y4.2.2.2.1,()),y4.2.2.2.1,()))∧
 P ((y4.1,y4.2.1,y4.2.2.1,y4.2.2.2.1,()),y4.2.2.2.1,()))∧
 ∃(y4:List (List Int)×List Int×List Int×Bool×PUnit),
 Ct.fn ((p.1,p.2.1,p.2.2.1,()),y3,())=some y4∧
 ((P ((y4.1,y4.2.1,y4.2.2.1,y4.2.2.2.1,()),y4.2.2.2.1,())∧P ((y4.1,y4.2.1,y4.2.2.1,y4.2.2.2.1,()),y4.2.2.2.1,()))∧
 P ((y4.1,y4.2.1,y4.2.2.1,y4.2.2.2.1,()),y4.2.2.2.1,()))∧
 (P ((y4.1,y4.2.1,y4.2.2.1,y4.2.2.2.1,()),y4.2.2.2.1,())∧P ((y4.1,y4.2.1,y4.2.2.1,y4.2.2.2.1,()),y4.2.2.2.1,()))∧
 P ((y4.1,y4.2.1,y4.2.2.1,y4.2.2.2.1,()),y4.2.2.2.1,()))∧
 ∃(y3:List Int),
 Bq.fn (p.1,())=some y3∧
 ∃(y4:List (List Int)×List Int×List Int×Bool×PUnit),
 Ct.fn ((p.1,p.2.1,p.2.2.1,()),y3,())=some y4∧
 ((P ((y4.1,y4.2.1,y4.2.2.1,y4.2.2.2.1,()),y4.2.2.2.1,())∧P ((y4.1,y4.2.1,y4.2.2.1,y4.2.2.2.1,()),y4.2.2.2.1,()))∧
 P ((y4.1,y4.2.1,y4.2.2.1,y4.2.2.2.1,()),y4.2.2.2.1,()))∧
 (P ((y4.1,y4.2.1,y4.2.2.1,y4.2.2.2.1,()),y4.2.2.2.1,())∧P ((y4.1,y4.2.1,y4.2.2.1,y4.2.2.2.1,()),y4.2.2.2.1,()))∧
 P ((y4.1,y4.2.1,y4.2.2.1,y4.2.2.2.1,()),y4.2.2.2.1,()))∧
 ∃(y3:List Int),
 Bq.fn (p.1,())=some y3∧
 ∃(y4:List (List Int)×List Int×List Int×Bool×PUnit),
 Ct.fn ((p.1,p.2.1,p.2.2.1,()),y3,())=some y4∧
 ((P ((y4.1,y4.2.1,y4.2.2.1,y4.2.2.2.1,()),y4.2.2.2.1,())∧P ((y4.1,y4.2.1,y4.2.2.1,y4.2.2.2.1,()),y4.2.2.2.1,()))∧
 P ((y4.1,y4.2.1,y4.2.2.1,y4.2.2.2.1,()),y4.2.2.2.1,()))∧
 (P ((y4.1,y4.2.1,y4.2.2.1,y4.2.2.2.1,()),y4.2.2.2.1,())∧P ((y4.1,y4.2.1,y4.2.2.1,y4.2.2.2.1,()),y4.2.2.2.1,()))∧
 P ((y4.1,y4.2.1,y4.2.2.1,y4.2.2.2.1,()),y4.2.2.2.1,()))∧
 ∃(y3:List Int),
 Bq.fn (p.1,())=some y3∧
 ∃(y4:List (List Int)×List Int×List Int×Bool×PUnit),
 Ct.fn ((p.1,p.2.1,p.2.2.1,()),y3,())=some y4∧
 ((P ((y4.1,y4.2.1,y4.2.2.1,y4.2.2.2.1,()),y4.2.2.2.1,())∧P ((y4.1,y4.2.1,y4.2.2.1,y4.2.2.2.1,()),y4.2.2.2.1,()))∧
 P ((y4.1,y4.2.1,y4.2.2.1,y4.2.2.2.1,()),y4.2.2.2.1,()))∧
 (P ((y4.1,y4.2.1,y4.2.2.1,y4.2.2.2.1,()),y4.2.2.2.1,())∧P ((y4.1,y4.2.1,y4.2.2.1,y4.2.2.2.1,()),y4.2.2.2.1,()))∧
 P ((y4.1,y4.2.1,y4.2.2.1,y4.2.2.2.1,()),y4.2.2.2.1,()))∧
 ((((∃(y3:List Int),
 Bq.fn (p.1,())=some y3∧
 (∃(y4:List (List Int)×List Int×List Int×Bool×PUnit),
 Ct.fn ((p.1,p.2.1,p.2.2.1,()),y3,())=some y4∧
 ((P ((y4.1,y4.2.1,y4.2.2.1,y4.2.2.2.1,()),y4.2.2.2.1,())∧P ((y4.1,y4.2.1,y4.2.2.1,y4.2.2.2.1,()),y4.2.2.2.1,()))∧
 P ((y4.1,y4.2.1,y4.2.2.1,y4.2.2.2.1,()),y4.2.2.2.1,()))∧
 (P ((y4.1,y4.2.1,y4.2.2.1,y4.2.2.2.1,()),y4.2.2.2.1,())∧P ((y4.1,y4.2.1,y4.2.2.1,y4.2.2.2.1,()),y4.2.2.2.1,()))∧
 P ((y4.1,y4.2.1,y4.2.2.1,y4.2.2.2.1,()),y4.2.2.2.1,()))∧
 ∃(y4:List (List Int)×List Int×List Int×Bool×PUnit),
 Ct.fn ((p.1,p.2.1,p.2.2.1,()),y3,())=some y4∧
 ((P ((y4.1,y4.2.1,y4.2.2.1,y4.2.2.2.1,()),y4.2.2.2.1,())∧P ((y4.1,y4.2.1,y4.2.2.1,y4.2.2.2.1,()),y4.2.2.2.1,()))∧
 P ((y4.1,y4.2.1,y4.2.2.1,y4.2.2.2.1,()),y4.2.2.2.1,()))∧
 (P ((y4.1,y4.2.1,y4.2.2.1,y4.2.2.2.1,()),y4.2.2.2.1,())∧P ((y4.1,y4.2.1,y4.2.2.1,y4.2.2.2.1,()),y4.2.2.2.1,()))∧
 P ((y4.1,y4.2.1,y4.2.2.1,y4.2.2.2.1,()),y4.2.2.2.1,()))∧
 ∃(y3:List Int),
 Bq.fn (p.1,())=some y3∧
 ∃(y4:List (List Int)×List Int×List Int×Bool×PUnit),
 Ct.fn ((p.1,p.2.1,p.2.2.1,()),y3,())=some y4∧
 ((P ((y4.1,y4.2.1,y4.2.2.1,y4.2.2.2.1,()),y4.2.2.2.1,())∧P ((y4.1,y4.2.1,y4.2.2.1,y4.2.2.2.1,()),y4.2.2.2.1,()))∧
 P ((y4.1,y4.2.1,y4.2.2.1,y4.2.2.2.1,()),y4.2.2.2.1,()))∧
 (P ((y4.1,y4.2.1,y4.2.2.1,y4.2.2.2.1,()),y4.2.2.2.1,())∧P ((y4.1,y4.2.1,y4.2.2.1,y4.2.2.2.1,()),y4.2.2.2.1,()))∧
 P ((y4.1,y4.2.1,y4.2.2.1,y4.2.2.2.1,()),y4.2.2.2.1,()))∧
 ∃(y3:List Int),
 Bq.fn (p.1,())=some y3∧
 ∃(y4:List (List Int)×List Int×List Int×Bool×PUnit),
 Ct.fn ((p.1,p.2.1,p.2.2.1,()),y3,())=some y4∧
 ((P ((y4.1,y4.2.1,y4.2.2.1,y4.2.2.2.1,()),y4.2.2.2.1,())∧P ((y4.1,y4.2.1,y4.2.2.1,y4.2.2.2.1,()),y4.2.2.2.1,()))∧
 P ((y4.1,y4.2.1,y4.2.2.1,y4.2.2.2.1,()),y4.2.2.2.1,()))∧
 (P ((y4.1,y4.2.1,y4.2.2.1,y4.2.2.2.1,()),y4.2.2.2.1,())∧P ((y4.1,y4.2.1,y4.2.2.1,y4.2.2.2.1,()),y4.2.2.2.1,()))∧
 P ((y4.1,y4.2.1,y4.2.2.1,y4.2.2.2.1,()),y4.2.2.2.1,()))∧
 (((∃(y3:List Int),
 Bq.fn (p.1,())=some y3∧
 (∃(y4:List (List Int)×List Int×List Int×Bool×PUnit),
 Ct.fn ((p.1,p.2.1,p.2.2.1,()),y3,())=some y4∧
 ((P ((y4.1,y4.2.1,y4.2.2.1,y4.2.2.2.1,()),y4.2.2.2.1,())∧P ((y4.1,y4.2.1,y4.2.2.1,y4.2.2.2.1,()),y4.2.2.2.1,()))∧
 P ((y4.1,y4.2.1,y4.2.2.1,y4.2.2.2.1,()),y4.2.2.2.1,()))∧
 (P ((y4.1,y4.2.1,y4.2.2.1,y4.2.2.2.1,()),y4.2.2.2.1,())∧P ((y4.1,y4.2.1,y4.2.2.1,y4.2.2.2.1,()),y4.2.2.2.1,()))∧
 P ((y4.1,y4.2.1,y4.2.2.1,y4.2.2.2.1,()),y4.2.2.2.1,()))∧
 ∃(y4:List (List Int)×List Int×List Int×Bool×PUnit),
 Ct.fn ((p.1,p.2.1,p.2.2.1,()),y3,())=some y4∧
 ((P ((y4.1,y4.2.1,y4.2.2.1,y4.2.2.2.1,()),y4.2.2.2.1,())∧P ((y4.1,y4.2.1,y4.2.2.1,y4.2.2.2.1,()),y4.2.2.2.1,()))∧
 P ((y4.1,y4.2.1,y4.2.2.1,y4.2.2.2.1,()),y4.2.2.2.1,()))∧
 (P ((y4.1,y4.2.1,y4.2.2.1,y4.2.2.2.1,()),y4.2.2.2.1,())∧P ((y4.1,y4.2.1,y4.2.2.1,y4.2.2.2.1,()),y4.2.2.2.1,()))∧
 P ((y4.1,y4.2.1,y4.2.2.1,y4.2.2.2.1,()),y4.2.2.2.1,()))∧
 ∃(y3:List Int),
 Bq.fn (p.1,())=some y3∧
 ∃(y4:List (List Int)×List Int×List Int×Bool×PUnit),
 Ct.fn ((p.1,p.2.1,p.2.2.1,()),y3,())=some y4∧
 ((P ((y4.1,y4.2.1,y4.2.2.1,y4.2.2.2.1,()),y4.2.2.2.1,())∧P ((y4.1,y4.2.1,y4.2.2.1,y4.2.2.2.1,()),y4.2.2.2.1,()))∧
 P ((y4.1,y4.2.1,y4.2.2.1,y4.2.2.2.1,()),y4.2.2.2.1,()))∧
 (P ((y4.1,y4.2.1,y4.2.2.1,y4.2.2.2.1,()),y4.2.2.2.1,())∧P ((y4.1,y4.2.1,y4.2.2.1,y4.2.2.2.1,()),y4.2.2.2.1,()))∧
 P ((y4.1,y4.2.1,y4.2.2.1,y4.2.2.2.1,()),y4.2.2.2.1,()))∧
 (∃(y3:List Int),
 Bq.fn (p.1,())=some y3∧
 ((∃(y4:List (List Int)×List Int×List Int×Bool×PUnit),
 Ct.fn ((p.1,p.2.1,p.2.2.1,()),y3,())=some y4∧
 ((P ((y4.1,y4.2.1,y4.2.2.1,y4.2.2.2.1,()),y4.2.2.2.1,())∧P ((y4.1,y4.2.1,y4.2.2.1,y4.2.2.2.1,()),y4.2.2.2.1,()))∧
 P ((y4.1,y4.2.1,y4.2.2.1,y4.2.2.2.1,()),y4.2.2.2.1,()))∧
 (P ((y4.1,y4.2.1,y4.2.2.1,y4.2.2.2.1,()),y4.2.2.2.1,())∧P ((y4.1,y4.2.1,y4.2.2.1,y4.2.2.2.1,()),y4.2.2.2.1,()))∧
 P ((y4.1,y4.2.1,y4.2.2.1,y4.2.2.2.1,()),y4.2.2.2.1,()))∧
 ∃(y4:List (List Int)×List Int×List Int×Bool×PUnit),
 Ct.fn ((p.1,p.2.1,p.2.2.1,()),y3,())=some y4∧
 ((P ((y4.1,y4.2.1,y4.2.2.1,y4.2.2.2.1,()),y4.2.2.2.1,())∧P ((y4.1,y4.2.1,y4.2.2.1,y4.2.2.2.1,()),y4.2.2.2.1,()))∧
 P ((y4.1,y4.2.1,y4.2.2.1,y4.2.2.2.1,()),y4.2.2.2.1,()))∧
 (P ((y4.1,y4.2.1,y4.2.2.1,y4.2.2.2.1,()),y4.2.2.2.1,())∧P ((y4.1,y4.2.1,y4.2.2.1,y4.2.2.2.1,()),y4.2.2.2.1,()))∧
 P ((y4.1,y4.2.1,y4.2.2.1,y4.2.2.2.1,()),y4.2.2.2.1,()))∧
 ∃(y4:List (List Int)×List Int×List Int×Bool×PUnit),
 Ct.fn ((p.1,p.2.1,p.2.2.1,()),y3,())=some y4∧
 ((P ((y4.1,y4.2.1,y4.2.2.1,y4.2.2.2.1,()),y4.2.2.2.1,())∧P ((y4.1,y4.2.1,y4.2.2.1,y4.2.2.2.1,()),y4.2.2.2.1,()))∧
 P ((y4.1,y4.2.1,y4.2.2.1,y4.2.2.2.1,()),y4.2.2.2.1,()))∧
 (P ((y4.1,y4.2.1,y4.2.2.1,y4.2.2.2.1,()),y4.2.2.2.1,())∧P ((y4.1,y4.2.1,y4.2.2.1,y4.2.2.2.1,()),y4.2.2.2.1,()))∧
 P ((y4.1,y4.2.1,y4.2.2.1,y4.2.2.2.1,()),y4.2.2.2.1,()))∧
 (∃(y3:List Int),
 Bq.fn (p.1,())=some y3∧
 ∃(y4:List (List Int)×List Int×List Int×Bool×PUnit),
 Ct.fn ((p.1,p.2.1,p.2.2.1,()),y3,())=some y4∧
 ((P ((y4.1,y4.2.1,y4.2.2.1,y4.2.2.2.1,()),y4.2.2.2.1,())∧P ((y4.1,y4.2.1,y4.2.2.1,y4.2.2.2.1,()),y4.2.2.2.1,()))∧
 P ((y4.1,y4.2.1,y4.2.2.1,y4.2.2.2.1,()),y4.2.2.2.1,()))∧
 (P ((y4.1,y4.2.1,y4.2.2.1,y4.2.2.2.1,()),y4.2.2.2.1,())∧P ((y4.1,y4.2.1,y4.2.2.1,y4.2.2.2.1,()),y4.2.2.2.1,()))∧
 P ((y4.1,y4.2.1,y4.2.2.1,y4.2.2.2.1,()),y4.2.2.2.1,()))∧
 ∃(y3:List Int),
 Bq.fn (p.1,())=some y3∧
 ∃(y4:List (List Int)×List Int×List Int×Bool×PUnit),
 Ct.fn ((p.1,p.2.1,p.2.2.1,()),y3,())=some y4∧
 ((P ((y4.1,y4.2.1,y4.2.2.1,y4.2.2.2.1,()),y4.2.2.2.1,())∧P ((y4.1,y4.2.1,y4.2.2.1,y4.2.2.2.1,()),y4.2.2.2.1,()))∧
 P ((y4.1,y4.2.1,y4.2.2.1,y4.2.2.2.1,()),y4.2.2.2.1,()))∧
 (P ((y4.1,y4.2.1,y4.2.2.1,y4.2.2.2.1,()),y4.2.2.2.1,())∧P ((y4.1,y4.2.1,y4.2.2.1,y4.2.2.2.1,()),y4.2.2.2.1,()))∧
 P ((y4.1,y4.2.1,y4.2.2.1,y4.2.2.2.1,()),y4.2.2.2.1,()))∧
 (∃(y3:List Int),
 Bq.fn (p.1,())=some y3∧
 ∃(y4:List (List Int)×List Int×List Int×Bool×PUnit),
 Ct.fn ((p.1,p.2.1,p.2.2.1,()),y3,())=some y4∧
 ((P ((y4.1,y4.2.1,y4.2.2.1,y4.2.2.2.1,()),y4.2.2.2.1,())∧P ((y4.1,y4.2.1,y4.2.2.1,y4.2.2.2.1,()),y4.2.2.2.1,()))∧
 P ((y4.1,y4.2.1,y4.2.2.1,y4.2.2.2.1,()),y4.2.2.2.1,()))∧
 (P ((y4.1,y4.2.1,y4.2.2.1,y4.2.2.2.1,()),y4.2.2.2.1,())∧P ((y4.1,y4.2.1,y4.2.2.1,y4.2.2.2.1,()),y4.2.2.2.1,()))∧
 P ((y4.1,y4.2.1,y4.2.2.1,y4.2.2.2.1,()),y4.2.2.2.1,()))∧
 (∃(y3:List Int),
 Bq.fn (p.1,())=some y3∧
 ∃(y4:List (List Int)×List Int×List Int×Bool×PUnit),
 Ct.fn ((p.1,p.2.1,p.2.2.1,()),y3,())=some y4∧
 ((P ((y4.1,y4.2.1,y4.2.2.1,y4.2.2.2.1,()),y4.2.2.2.1,())∧P ((y4.1,y4.2.1,y4.2.2.1,y4.2.2.2.1,()),y4.2.2.2.1,()))∧
 P ((y4.1,y4.2.1,y4.2.2.1,y4.2.2.2.1,()),y4.2.2.2.1,()))∧
 (P ((y4.1,y4.2.1,y4.2.2.1,y4.2.2.2.1,()),y4.2.2.2.1,())∧P ((y4.1,y4.2.1,y4.2.2.1,y4.2.2.2.1,()),y4.2.2.2.1,()))∧
 P ((y4.1,y4.2.1,y4.2.2.1,y4.2.2.2.1,()),y4.2.2.2.1,()))∧
 ∃(y3:List Int),
 Bq.fn (p.1,())=some y3∧
 ∃(y4:List (List Int)×List Int×List Int×Bool×PUnit),
 Ct.fn ((p.1,p.2.1,p.2.2.1,()),y3,())=some y4∧
 ((P ((y4.1,y4.2.1,y4.2.2.1,y4.2.2.2.1,()),y4.2.2.2.1,())∧P ((y4.1,y4.2.1,y4.2.2.1,y4.2.2.2.1,()),y4.2.2.2.1,()))∧
 P ((y4.1,y4.2.1,y4.2.2.1,y4.2.2.2.1,()),y4.2.2.2.1,()))∧
 (P ((y4.1,y4.2.1,y4.2.2.1,y4.2.2.2.1,()),y4.2.2.2.1,())∧P ((y4.1,y4.2.1,y4.2.2.1,y4.2.2.2.1,()),y4.2.2.2.1,()))∧
 P ((y4.1,y4.2.1,y4.2.2.1,y4.2.2.2.1,()),y4.2.2.2.1,()))∧
 (∃(y3:List Int),
 Bq.fn (p.1,())=some y3∧
 ∃(y4:List (List Int)×List Int×List Int×Bool×PUnit),
 Ct.fn ((p.1,p.2.1,p.2.2.1,()),y3,())=some y4∧
 ((P ((y4.1,y4.2.1,y4.2.2.1,y4.2.2.2.1,()),y4.2.2.2.1,())∧P ((y4.1,y4.2.1,y4.2.2.1,y4.2.2.2.1,()),y4.2.2.2.1,()))∧
 P ((y4.1,y4.2.1,y4.2.2.1,y4.2.2.2.1,()),y4.2.2.2.1,()))∧
 (P ((y4.1,y4.2.1,y4.2.2.1,y4.2.2.2.1,()),y4.2.2.2.1,())∧P ((y4.1,y4.2.1,y4.2.2.1,y4.2.2.2.1,()),y4.2.2.2.1,()))∧
 P ((y4.1,y4.2.1,y4.2.2.1,y4.2.2.2.1,()),y4.2.2.2.1,()))∧
 (∃(y3:List Int),
 Bq.fn (p.1,())=some y3∧
 ∃(y4:List (List Int)×List Int×List Int×Bool×PUnit),
 Ct.fn ((p.1,p.2.1,p.2.2.1,()),y3,())=some y4∧
 ((P ((y4.1,y4.2.1,y4.2.2.1,y4.2.2.2.1,()),y4.2.2.2.1,())∧P ((y4.1,y4.2.1,y4.2.2.1,y4.2.2.2.1,()),y4.2.2.2.1,()))∧
 P ((y4.1,y4.2.1,y4.2.2.1,y4.2.2.2.1,()),y4.2.2.2.1,()))∧
 (P ((y4.1,y4.2.1,y4.2.2.1,y4.2.2.2.1,()),y4.2.2.2.1,())∧P ((y4.1,y4.2.1,y4.2.2.1,y4.2.2.2.1,()),y4.2.2.2.1,()))∧
 P ((y4.1,y4.2.1,y4.2.2.1,y4.2.2.2.1,()),y4.2.2.2.1,()))∧
 (∃(y3:List Int),
 Bq.fn (p.1,())=some y3∧
 ∃(y4:List (List Int)×List Int×List Int×Bool×PUnit),
 Ct.fn ((p.1,p.2.1,p.2.2.1,()),y3,())=some y4∧
 ((P ((y4.1,y4.2.1,y4.2.2.1,y4.2.2.2.1,()),y4.2.2.2.1,())∧P ((y4.1,y4.2.1,y4.2.2.1,y4.2.2.2.1,()),y4.2.2.2.1,()))∧
 P ((y4.1,y4.2.1,y4.2.2.1,y4.2.2.2.1,()),y4.2.2.2.1,()))∧
 (P ((y4.1,y4.2.1,y4.2.2.1,y4.2.2.2.1,()),y4.2.2.2.1,())∧P ((y4.1,y4.2.1,y4.2.2.1,y4.2.2.2.1,()),y4.2.2.2.1,()))∧
 P ((y4.1,y4.2.1,y4.2.2.1,y4.2.2.2.1,()),y4.2.2.2.1,()))∧
 ∃(y3:List Int),
 Bq.fn (p.1,())=some y3∧
 ∃(y4:List (List Int)×List Int×List Int×Bool×PUnit),
 Ct.fn ((p.1,p.2.1,p.2.2.1,()),y3,())=some y4∧
 ((P ((y4.1,y4.2.1,y4.2.2.1,y4.2.2.2.1,()),y4.2.2.2.1,())∧P ((y4.1,y4.2.1,y4.2.2.1,y4.2.2.2.1,()),y4.2.2.2.1,()))∧
 P ((y4.1,y4.2.1,y4.2.2.1,y4.2.2.2.1,()),y4.2.2.2.1,()))∧
 (P ((y4.1,y4.2.1,y4.2.2.1,y4.2.2.2.1,()),y4.2.2.2.1,())∧P ((y4.1,y4.2.1,y4.2.2.1,y4.2.2.2.1,()),y4.2.2.2.1,()))∧
 P ((y4.1,y4.2.1,y4.2.2.1,y4.2.2.2.1,()),y4.2.2.2.1,())))=fnW tab (look [(99,Ei),(106,Bq),(105,Ct)]) Jd Try.f57 (p,()) P:=by kernel_rfl
theorem At5 (p:Int×ByteArray×List (List Int)×Unit) (t q:List Int) (P:Bool→Prop):(∃(y4:Bool),Dr.fn ((p.1,p.2.1,p.2.2.1,()),t,())=some y4∧Br y4 (∃(y5:Bool),Lg.fn (p.1,(↑t.length:Int),q,())=some y5∧P y5) (P false))=fnW tab (look [(114,Dr),(115,Lg)]) Kk Try.f62 (p,t,q,()) P:=by kernel_rfl
theorem Ata (p:Int×ByteArray×List (List Int)×Unit) (t q:List Int) (P:Bool→Prop):(∃(y4:Bool),Dr.fn ((p.1,p.2.1,p.2.2.1,()),t,())=some y4∧Br y4 (∃(y5:Bool),Mr.fn (p.1,q,(↑t.length:Int),())=some y5∧P y5) (P false))=fnW tab (look [(51,Dr),(107,Mr)]) Kk Try.f58 (p,t,q,()) P:=by kernel_rfl
theorem Ayp (xs is:List Int) (P:List Int→Prop):(((0:Int)≤(↑is.length:Int)∧(↑is.length:Int)<(↑As:Int)+(1:Int))∧
 (↑is.length:Int)=(↑is.length:Int)∧
 (0:Nat)=(0:Nat)∧
 (List.replicate (↑is.length:Int).toNat (Int.ofNat (nat_lit 0))).length=(List.replicate (↑is.length:Int).toNat (Int.ofNat (nat_lit 0))).length∧
 Cb
 (fun (v3:Int×List Int×PUnit) (k4:Int×List Int×PUnit→Prop)=>
 Br (decide (v3.1<(↑is.length:Int)))
 (∃(y5:Int),
 idx is v3.1=some y5∧
 ∃(y6:Int),
 idx xs y5=some y6∧
 ((0:Int)≤v3.1∧v3.1<(↑v3.2.1.length:Int))∧
 (0:Nat)+v3.1.toNat<v3.2.1.length∧
 (0:Nat)=(0:Nat)∧
 v3.2.1.length=(v3.2.1.set ((0:Nat)+v3.1.toNat) y6).length∧k4 (IntKind.i64.wrap (v3.1+(1:Int)),v3.2.1.set ((0:Nat)+v3.1.toNat) y6,()))
 (P (List.take v3.2.1.length (List.drop ((0:Nat)) v3.2.1))))
 ((0:Int),List.replicate (↑is.length:Int).toNat (Int.ofNat (nat_lit 0)),PUnit.unit))=fnW tab (look []) Pp Try.f64 (xs,is,()) P:=by kernel_rfl
theorem Ab5 (p:Int×ByteArray×List (List Int)×Unit) (t q:List Int) (P:Int→Prop):(∃(y4:Option ((Int×ByteArray×List (List Int)×PUnit)×List (List Int)×List Int×(ByteArray→Option Int)×List Int×List Int×List (List Int)×PUnit)×Bool×PUnit),
 Le.fn ((p.1,p.2.1,p.2.2.1,()),())=some y4∧
 Br (!y4.2.1) (P (-1:Int))
 (∃(y5:Bool),
 Kk.fn ((p.1,p.2.1,p.2.2.1,()),t,q,())=some y5∧
 Br (!y5) (P (-1:Int))
 (∃(y6:(Int×ByteArray×List (List Int)×PUnit)×List (List Int)×List Int×(ByteArray→Option Int)×List Int×List Int×List (List Int)×PUnit),
 y4.1=some y6∧
 Cb
 (fun (v7:Int×Int×PUnit) (k8:Int×Int×PUnit→Prop)=>
 Br (decide (v7.2.1<(↑y6.2.1.length:Int)))
 (∃(y9:List Int),
 idx y6.2.1 v7.2.1=some y9∧
 ∃(y10:List Int),
 Pp.fn (y9,t,())=some y10∧
 ∃(y11:Bool),
 Bk.fn (y10,q,())=some y11∧
 Br y11 (k8 (IntKind.i64.wrap (v7.1+(1:Int)),IntKind.i64.wrap (v7.2.1+(1:Int)),())) (k8 (v7.1,IntKind.i64.wrap (v7.2.1+(1:Int)),())))
 (P v7.1))
 ((0:Int),(0:Int),PUnit.unit))))=fnW tab (look [(61,Le),(62,Kk),(64,Pp),(63,Bk)]) Gg Try.f23 (p,t,q,()) P:=by kernel_rfl
theorem Ab6 (p:Int×ByteArray×List (List Int)×Unit) (t q:List Int) (P:Int→Prop):(∃(y4:(List (List Int)×List Int×List Int×Bool×PUnit)×Bool×PUnit),
 Jd.fn ((p.1,p.2.1,p.2.2.1,()),())=some y4∧
 Br (!y4.2.1) (P (-1:Int))
 (∃(y5:Bool),
 Kk.fn ((p.1,p.2.1,p.2.2.1,()),t,q,())=some y5∧
 Br (!y5) (P (-1:Int))
 (Cb
 (fun (v6:Int×Int×List (List Int)×List Int×List Int×Bool×PUnit) (k7:Int×Int×List (List Int)×List Int×List Int×Bool×PUnit→Prop)=>
 Br (decide (v6.2.1<(↑v6.2.2.1.length:Int)))
 (∃(y8:List Int),
 idx v6.2.2.1 v6.2.1=some y8∧
 ∃(y9:List Int),
 Pq.fn (t,y8,())=some y9∧
 ∃(y10:Bool),
 Bk.fn (y9,q,())=some y10∧
 Br y10 (k7 (IntKind.i64.wrap (v6.1+(1:Int)),IntKind.i64.wrap (v6.2.1+(1:Int)),v6.2.2.1,v6.2.2.2.1,v6.2.2.2.2.1,v6.2.2.2.2.2.1,()))
 (k7 (v6.1,IntKind.i64.wrap (v6.2.1+(1:Int)),v6.2.2.1,v6.2.2.2.1,v6.2.2.2.2.1,v6.2.2.2.2.2.1,())))
 (P v6.1))
 ((0:Int),(0:Int),y4.1.1,y4.1.2.1,y4.1.2.2.1,y4.1.2.2.2.1,PUnit.unit))))=fnW tab (look [(57,Jd),(58,Kk),(60,Pq),(59,Bk)]) Gg Try.f22 (p,t,q,()) P:=by kernel_rfl
theorem Apr (p:Int×ByteArray×List (List Int)×Unit) (a b:List Int) (P:Bool→Prop):(Br (decide ((↑a.length:Int)>(1048576:Int))) (P true)
 (Br (decide ((↑b.length:Int)>(1048576:Int))) (P true)
 (∃(y4:Int),
 Amv.fn ((p.1,p.2.1,p.2.2.1,()),(1048576:Int),())=some y4∧
 Br (decide (y4<(0:Int))) (P true)
 (∃(y5:Int×ByteArray×List (List Int)×PUnit),
 Agi.fn ((p.1,p.2.1,p.2.2.1,()),())=some y5∧
 ∃(y6:List Int),
 Rr.fn (a,())=some y6∧
 ∃(y7:List Int),
 Rr.fn (b,())=some y7∧
 ∃(y8:Int),
 Gg.fn (y5,y6,y7,())=some y8∧
 ∃(y9:Int×ByteArray×List (List Int)×PUnit),
 Agi.fn ((p.1,p.2.1,p.2.2.1,()),())=some y9∧
 ∃(y10:List Int),
 Rr.fn (a,())=some y10∧
 ∃(y11:List Int),
 Rr.fn (b,())=some y11∧
 ∃(y12:Int),
 Gg.fn ((y9.1,y9.2.1,y9.2.2.1,()),y10,y11,())=some y12∧
 Br (y12 !=y8) (P false)
 (∃(y13:Int×ByteArray×List (List Int)×PUnit),
 Agi.fn ((p.1,p.2.1,p.2.2.1,()),())=some y13∧
 ∃(y14:Bool),
 Amr.fn ((y9.1,y9.2.1,y9.2.2.1,()),y13,())=some y14∧
 Br (!y14) (P false)
 (∃(y15:List Int),
 Rr.fn (a,())=some y15∧
 ∃(y16:Bool),
 Bk.fn (y10,y15,())=some y16∧
 Br (!y16) (P false)
 (∃(y17:List Int),
 Rr.fn (b,())=some y17∧ ∃(y18:Bool),Bk.fn (y11,y17,())=some y18∧Br (!y18) (P false) (P true))))))))=fnW tab (look [(15,Amv),(22,Gg),(23,Gg),(17,Agi),(18,Rr),(20,Amr),(21,Bk)]) Afb Try.f4 (p,a,b,()) P:=by kernel_rfl
theorem Sd {p:PP} (hw:Hv p=true):Bm p=true∧(Fa p.2.2.1 (upto p.1.toNat)).2.2=true:=Bool.and_eq_true_iff.1 hw
theorem Bct {p:PP} (hv:Bm p=true):Og p p.1.toNat (Di p) (Aio p):=(Aj8 hv).ok
theorem Az7 {p:PP} (hV:Valid p):PmS p.1.toNat fun g=>some g∈p.2.2.1.map some:=
 ⟨by have:=hV.n;omega,fun g hg'=>by obtain ⟨g',e,h⟩:=Aj5 (Aco hV).2.2 _ hg';cases e;exact h⟩
theorem Bdm {p:PP} (hv:Bm p=true) {x:List Int} (hx:x∈Di p):Pm p.1.toNat x:=Gen.pm (Az7 (valid hv)) ((Aj8 hv).gen x hx)
theorem Bb1 {p:PP} (hw:Hv p=true):(Aby p).2.1=Di p∧(Aby p).2.2.1=Aio p:=by
 have h:=(Sd hw).2
 refine Aqp 3001 0 ([upto p.1.toNat],[0],[0],[0]) [] _ _ ?_
 show Gv p.2.2.1 (Bc p.2.2.1.length) 3001 0 [upto p.1.toNat] [0]=(Di p,Aio p,true)
 rw [←h]
 rfl
theorem Aux (p:PP) (h:Ec p):fnW tab (look [(99,Ei),(106,Bq),(105,Ct)]) Jd Try.f57 (p,()) (fun (z:SS×Bool×Unit)=>z=Abz p):=by
 refine Eq.mp (Avy p _) ⟨_,if_pos h,?_⟩
 show Br (!Bm p) _ _
 unfold Abz
 by_cases hv:Bm p=true
 ·rw [if_pos hv,hv]
  refine ⟨fun hb=>by simp at hb,fun _=>?_⟩
  have hn:=(valid hv).n
  have hid:Bq.fn (p.1,())=some (upto p.1.toNat):=if_pos ⟨by show 0≤p.1;omega,by show p.1≤20;omega⟩
  have hup: ∀y∈upto p.1.toNat,0≤y∧y<p.1:=fun y hy=>by have:=Ig.1 hy;omega
  have hfr:Ct.fn ((p.1,p.2.1,p.2.2.1,()),upto p.1.toNat,())=some (Hg p.2.2.1 (upto p.1.toNat)):=if_pos ⟨hv,by show (upto p.1.toNat).length≤20;rw [Qv];omega,hup⟩
  have hz:(((Hg p.2.2.1 (upto p.1.toNat)).1,(Hg p.2.2.1 (upto p.1.toNat)).2.1,(Hg p.2.2.1 (upto p.1.toNat)).2.2.1,(Hg p.2.2.1 (upto p.1.toNat)).2.2.2.1,()),(Hg p.2.2.1 (upto p.1.toNat)).2.2.2.1,())=(Hg p.2.2.1 (upto p.1.toNat),Hv p,()):=by
   unfold Hv
   rw [hv,Bool.true_and]
   rfl
  repeat' (first|exact hz|refine ⟨_,hid,?_⟩|refine ⟨_,hfr,?_⟩|refine ⟨?_,?_⟩)
 ·rw [if_neg hv]
  refine ⟨fun _=>rfl,fun hb=>?_⟩
  exact absurd (by simpa using hb) hv
theorem Ajr:Sound Try.prog 57 Jd:=
 Sound.mkS Ca (Ad Ud (Ad Ajm (Ad Asp Ba))) mixed Try.func57 (by kernel_rfl) (by kernel_rfl) fun x h=>Aux x.1 h
theorem Ut {a b:List Int} :Dd a b=true↔a=b:=decide_eq_true_iff
theorem Rc {α:Type} (q:α→Bool) (xs:List α) {j:Nat} (h:j<xs.length):(xs.take (j+1)).countP q=(xs.take j).countP q+if q xs[j]=true then 1 else 0:=by
 rw [List.take_add_one,List.getElem?_eq_getElem h,List.countP_append]
 simp [List.countP_cons]
theorem Acs {α:Type} (q:α→Bool) (xs:List α) (j:Nat):(xs.take j).countP q≤xs.length:=
 Nat.le_trans List.countP_le_length (by rw [List.length_take];omega)
theorem An1 {p:PP} {t:List Int} (h:Dm p t=true):nOK p.1:=by
 have:=(valid (Agn.1 h).1).n
 unfold nOK;omega
theorem As2 (p:PP) (t q:List Int) (h:Ec p∧short t∧short q):fnW tab (look [(114,Dr),(115,Lg)]) Kk Try.f62 (p,t,q,()) (fun (z:Bool)=>z=Pb p t q):=by
 refine Eq.mp (At5 p t q _) ⟨_,if_pos ⟨h.1,h.2.1⟩,?_⟩
 unfold Pb
 refine Br.of (fun ht=>?_) fun ht=>?_
 ·have ht:Dm p t=true:=ht
  rw [ht,Bool.true_and]
  exact ⟨_,if_pos ⟨An1 ht,h.2.2⟩,rfl⟩
 ·have ht:Dm p t=false:=ht
  rw [ht,Bool.false_and]
theorem Agy:Sound Try.prog 62 Kk:=
 Sound.mkS Ca (Ad Ae0 (Ad Agz Ba)) mixed Try.func62 (by kernel_rfl) (by kernel_rfl) fun x h=>As2 x.1 x.2.1 x.2.2.1 h
theorem As7 (p:PP) (t q:List Int) (h:Ec p∧short t∧short q):fnW tab (look [(51,Dr),(107,Mr)]) Kk Try.f58 (p,t,q,()) (fun (z:Bool)=>z=Pb p t q):=by
 refine Eq.mp (Ata p t q _) ⟨_,if_pos ⟨h.1,h.2.1⟩,?_⟩
 unfold Pb
 refine Br.of (fun ht=>?_) fun ht=>?_
 ·have ht:Dm p t=true:=ht
  rw [ht,Bool.true_and]
  exact ⟨_,if_pos ⟨An1 ht,h.2.2⟩,rfl⟩
 ·have ht:Dm p t=false:=ht
  rw [ht,Bool.false_and]
theorem Ah3:Sound Try.prog 58 Kk:=
 Sound.mkS Ca (Ad Ae5 (Ad Yz Ba)) mixed Try.func58 (by kernel_rfl) (by kernel_rfl) fun x h=>As7 x.1 x.2.1 x.2.2.1 h
theorem Axs (xs is:List Int) (h:short is∧Ja xs.length is):fnW tab (look []) Pp Try.f64 (xs,is,()) (fun (z:List Int)=>z=Co xs is):=by
 obtain ⟨h,hr⟩:=h
 unfold short at h
 have hcl:(Co xs is).length=is.length:=Adq xs is
 refine Eq.mp (Ayp xs is _) ⟨⟨by omega,by show (is.length:Int)<(4294967296:Int)+1;omega⟩,rfl,rfl,rfl,?_⟩
 refine Ao is.length (fun v=>v.1) (fun j v=>v.2.1.length=(Co xs is).length∧v.2.1.take j=(Co xs is).take j) rfl ⟨by rw [hcl];simp,by simp⟩ ?_
 rintro j ⟨i,ys,⟨⟩⟩ K hj hi ⟨h1,h2⟩ hK
 dsimp only at hi h1 h2⊢
 subst hi
 refine Br.dec (fun hl=>?_) fun hl=>?_
 ·have hl:j<is.length:=by omega
  have hx:=hr _ (List.getElem_mem hl)
  obtain ⟨xn,hxe⟩:=Int.eq_ofNat_of_zero_le hx.1
  have hl':j<(Co xs is).length:=by rw [hcl];exact hl
  have e:xs[xn]'(by omega)=(Co xs is)[j]:=by
   simp only [Co,List.getElem_map,Jt,hxe,Int.toNat_natCast]
   rw [Bb3]
  refine ⟨_,Az hl,xs[xn]'(by omega),by rw [hxe];exact Az (by omega),⟨by omega,by omega⟩,by rw [Int.toNat_natCast,Nat.zero_add];omega,rfl,by rw [List.length_set],?_⟩
  rw [Am (by omega),Int.toNat_natCast,Nat.zero_add,e]
  refine hK hl _ rfl ⟨by rw [List.length_set];exact h1,?_⟩
  rw [List.take_add_one,List.take_set_of_le (by omega),h2,List.getElem?_set_self (by omega),List.take_add_one,List.getElem?_eq_getElem hl']
 ·have:j=is.length:=by omega
  subst this
  rw [Cp,←List.take_length (l:=ys),h1,hcl,h2,←hcl,List.take_length]
theorem Al4:Sound Try.prog 64 Pp:=
 Sound.mkS Ca Ba mixed Try.func64 (by kernel_rfl) (by kernel_rfl) fun x h=>Axs x.1 x.2.1 h
theorem Asq {p:PP} (hv:Bm p=true):(Di p).length≤3000:=(Bct hv).ok.few
theorem Awk {p:PP} {t s:List Int} (hv:Bm p=true) (hs:s∈Di p) (ht:Dm p t=true):Ja s.length t:=by
 have h1:=(Bdm hv hs).1
 have hn:=(valid hv).n
 intro y hy
 have:=(Asy ht).2 y hy
 omega
theorem Am3 {p:PP} {t q:List Int} (h:Pb p t q=true):Dm p t=true:=(Bool.and_eq_true_iff.1 h).1
theorem Akp (p:PP) (t q:List Int) (h:Ec p∧short t∧short q):fnW tab (look [(61,Le),(62,Kk),(64,Pp),(63,Bk)]) Gg Try.f23 (p,t,q,()) (fun (z:Int)=>z=Pk p t q):=by
 obtain ⟨hp,ht,hq⟩:=h
 unfold Pk
 by_cases hw:Hv p=true
 ·have he:Le.fn ((p.1,p.2.1,p.2.2.1,()),())=some (some (Aby p),true,()):=(if_pos hp).trans (congrArg some (if_pos hw))
  have hv:=(Sd hw).1
  rw [hw,Bool.true_and]
  refine Eq.mp (Ab5 p t q _) ⟨_,he,fun hb=>by simp at hb,fun _=>⟨_,if_pos ⟨hp,ht,hq⟩,Br.of (fun hm=>?_) fun hm=>⟨_,rfl,?_⟩⟩⟩
  ·rw [if_neg (Cz hm)]
  have hm:Pb p t q=true:=by simpa using hm
  rw [if_pos hm,(Bb1 hw).1]
  have hlen:=Asq hv
  refine Ao (Di p).length (fun v=>v.2.1) (fun j v=>v.1=((((Di p).take j).countP fun s=>decide (Co s t=q):Nat):Int)) rfl (by simp) ?_
  rintro j ⟨c,i,⟨⟩⟩ K hj hi hR hK
  dsimp only at hi hR⊢
  subst hi hR
  have hb:=Acs (fun s=>decide (Co s t=q)) (Di p) j
  refine Br.dec (fun hl=>?_) fun hl=>?_
  ·have hl:j<(Di p).length:=by omega
   refine ⟨_,Az hl,_,if_pos ⟨ht,Awk hv (List.getElem_mem hl) (Am3 hm)⟩,_,if_pos (by show short (Co _ t);unfold short at*;rw [Adq];exact ht),Br.of (fun hb=>?_) fun hb=>?_⟩
   ·have hb:Dd (Co (Di p)[j] t) q=true:=hb
    rw [Am (by omega),Am (by omega)]
    refine hK hl _ rfl ?_
    rw [Rc _ _ hl,if_pos (decide_eq_true (Ut.1 hb))]
   ·have hb:Dd (Co (Di p)[j] t) q=false:=hb
    rw [Am (by omega)]
    refine hK hl _ rfl ?_
    rw [Rc _ _ hl,if_neg (by simp only [decide_eq_true_eq];exact fun e=>by rw [Ut.2 e] at hb;cases hb)]
    rfl
  ·have:j=(Di p).length:=by omega
   subst this
   rw [List.take_length]
 ·have he:Le.fn ((p.1,p.2.1,p.2.2.1,()),())=some (none,false,()):=(if_pos hp).trans (congrArg some (if_neg hw))
  rw [Bool.not_eq_true _|>.mp hw,Bool.false_and,if_neg (by decide)]
  exact Eq.mp (Ab5 p t q _) ⟨_,he,fun _=>rfl,fun hb=>by simp at hb⟩
theorem Ae1:Sound Try.prog 23 Gg:=
 Sound.mkS Ca (Ad Al2 (Ad Agy (Ad Al4 (Ad Ae3 Ba)))) mixed Try.func23 (by kernel_rfl) (by kernel_rfl) fun x h=>Akp x.1 x.2.1 x.2.2.1 h
theorem Aju {p:PP} (hp:Ec p) (hw:Hv p=true):Jd.fn ((p.1,p.2.1,p.2.2.1,()),())=some (Hg p.2.2.1 (upto p.1.toNat),true,()):=
 (if_pos hp).trans (congrArg some ((if_pos (Sd hw).1).trans (by rw [←hw])))
theorem Ap7 {p:PP} (hp:Ec p) (hw: ¬Hv p=true): ∃f,Jd.fn ((p.1,p.2.1,p.2.2.1,()),())=some (f,false,()):=by
 by_cases hv:Bm p=true
 ·exact ⟨_,(if_pos hp).trans (congrArg some ((if_pos hv).trans (by rw [←Bool.not_eq_true _|>.mp hw])))⟩
 ·exact ⟨_,(if_pos hp).trans (congrArg some (if_neg hv))⟩
theorem Aku (p:PP) (t q:List Int) (h:Ec p∧short t∧short q):fnW tab (look [(57,Jd),(58,Kk),(60,Pq),(59,Bk)]) Gg Try.f22 (p,t,q,()) (fun (z:Int)=>z=Pk p t q):=by
 obtain ⟨hp,ht,hq⟩:=h
 unfold Pk
 by_cases hw:Hv p=true
 ·have hv:=(Sd hw).1
  rw [hw,Bool.true_and]
  refine Eq.mp (Ab6 p t q _) ⟨_,Aju hp hw,fun hb=>by simp at hb,fun _=>⟨_,if_pos ⟨hp,ht,hq⟩,Br.of (fun hm=>?_) fun hm=>?_⟩⟩
  ·rw [if_neg (Cz hm)]
  have hm:Pb p t q=true:=by simpa using hm
  rw [if_pos hm]
  have hlen:=Asq hv
  have htr:=Am3 hm
  refine Ao (Di p).length (fun v=>v.2.1) (fun j v=>v.1=((((Di p).take j).countP fun s=>decide (Co s t=q):Nat):Int)∧v.2.2.1=Di p) rfl ⟨by simp,rfl⟩ ?_
  rintro j ⟨c,i,L,x1,x2,x3,⟨⟩⟩ K hj hi ⟨hR,hL⟩ hK
  dsimp only at hi hR hL⊢
  subst hi hR hL
  have hb:=Acs (fun s=>decide (Co s t=q)) (Di p) j
  refine Br.dec (fun hl=>?_) fun hl=>?_
  ·have hl:j<(Di p).length:=by omega
   refine ⟨_,Az hl,_,if_pos ⟨ht,Awk hv (List.getElem_mem hl) htr⟩,_,if_pos (by show short (Co _ t);unfold short at*;rw [Adq];exact ht),Br.of (fun hb=>?_) fun hb=>?_⟩
   ·have hb:Dd (Co (Di p)[j] t) q=true:=hb
    rw [Am (by omega),Am (by omega)]
    refine hK hl _ rfl ⟨?_,rfl⟩
    rw [Rc _ _ hl,if_pos (decide_eq_true (Ut.1 hb))]
   ·have hb:Dd (Co (Di p)[j] t) q=false:=hb
    rw [Am (by omega)]
    refine hK hl _ rfl ⟨?_,rfl⟩
    rw [Rc _ _ hl,if_neg (by simp only [decide_eq_true_eq];exact fun e=>by rw [Ut.2 e] at hb;cases hb)]
    rfl
  ·have:j=(Di p).length:=by omega
   subst this
   rw [List.take_length]
 ·obtain ⟨f,he⟩:=Ap7 hp hw
  rw [Bool.not_eq_true _|>.mp hw,Bool.false_and,if_neg (by decide)]
  exact Eq.mp (Ab6 p t q _) ⟨_,he,fun _=>rfl,fun hb=>by simp at hb⟩
theorem Ae6:Sound Try.prog 22 Gg:=
 Sound.mkS Ca (Ad Ajr (Ad Ah3 (Ad Al5 (Ad Ws Ba)))) mixed Try.func22 (by kernel_rfl) (by kernel_rfl) fun x h=>Aku x.1 x.2.1 x.2.2.1 h
theorem Aoi (p:PP) (a:List Int) (b:List Int) (h:Ec p∧short a∧short b):fnW tab (look [(15,Amv),(22,Gg),(23,Gg),(17,Agi),(18,Rr),(20,Amr),(21,Bk)]) Afb Try.f4 (p,a,b,()) (fun (z:Bool)=>z=true):=by
 have h0:Ec (p.1,p.2.1,p.2.2.1,()):=h.1
 have h1:short a:=h.2.1
 have h2:short b:=h.2.2
 refine Eq.mp (Apr p a b _) ?_
 refine Br.dec (fun _=>rfl) fun hl_a=>?_
 refine Br.dec (fun _=>rfl) fun hl_b=>?_
 refine ⟨_,if_pos ⟨h0,Asc⟩,Br.dec (fun _=>rfl) fun hs_p=>?_⟩
 have hz_p:(((Nf p.2.2.1:Nat):Nat):Int)≤(1048576)-(Yi (p.1,p.2.1,p.2.2.1,()) (1048576))∧roomy (Yi (p.1,p.2.1,p.2.2.1,()) (1048576)):=Bad Asc hs_p
 have hy_p:=hz_p.1
 have hr_p:0≤Yi (p.1,p.2.1,p.2.2.1,()) (1048576)∧Yi (p.1,p.2.1,p.2.2.1,()) (1048576)≤4294967296:=hz_p.2
 have l0:low (1+(Nf p.2.2.1:Nat)):=⟨by omega,by omega⟩
 have l1:low (1+(Nf p.2.2.1:Nat)+(a.length:Nat)):=⟨by omega,by omega⟩
 have l2:low (1+(Nf p.2.2.1:Nat)+(a.length:Nat)+(b.length:Nat)):=⟨by omega,by omega⟩
 refine ⟨_,if_pos h0,_,if_pos h1,_,if_pos h2,?_⟩
 try simp only [Cp]
 refine ⟨_,if_pos ⟨h0,h1,h2⟩,_,if_pos h0,_,if_pos h1,_,if_pos h2,?_⟩
 try simp only [Cp]
 generalize he0:Pk p a b=g0
 refine ⟨_,if_pos ⟨h0,h1,h2⟩,?_⟩
 simp only [Cp,he0]
 refine ⟨fun he=>Azf he,fun _=>?_⟩
 refine ⟨_,if_pos h0,_,if_pos h0,⟨fun he=>absurd (Auh _) (Cz he),fun _=>?_⟩⟩
 refine ⟨_,if_pos h1,?_⟩
 try simp only [Cp]
 refine ⟨_,if_pos h1,⟨fun he=>absurd (Tr _) (Cz he),fun _=>?_⟩⟩
 refine ⟨_,if_pos h2,?_⟩
 try simp only [Cp]
 refine ⟨_,if_pos h2,⟨fun he=>absurd (Tr _) (Cz he),fun _=>?_⟩⟩
 first|rfl|trivial
theorem Afi:Sound Try.prog 4 Afb:=
 Sound.mkS Ca (Ad Aya (Ad Ae6 (Ad Ae1 (Ad Ayb (Ad An0 (Ad Ay6 (Ad Amz Ba))))))) mixed Try.func4 (by kernel_rfl) (by kernel_rfl) fun x h=>Aoi x.1 x.2.1 x.2.2.1 h
end Go.Proofs.Ytebabhocakedaaa
