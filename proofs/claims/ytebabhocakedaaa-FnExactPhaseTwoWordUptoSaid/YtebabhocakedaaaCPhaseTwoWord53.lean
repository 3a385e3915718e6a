/-
  Part 54 of the proof that the statement FnExactPhaseTwoWord holds.
-/
import Derived.Test.YtebabhocakedaaaCPhaseTwoWord52
namespace Go.Proofs.Ytebabhocakedaaa
open Go.RowKit
noncomputable abbrev Mr:Spec:=mkS (.pair Np (.pair tL .unit)) tI false true (fun x=>Cp (List.length x.2.1) x.1.1 x.1.2.2.1∧List.length x.1.2.1=List.length x.1.1) (fun x=>Fw x.1.1 x.1.2.1 x.2.1)
def Aot (w:List Int):List Int×Bool×Unit:=if w.length>200 then ([],false,()) else (w,true,())
noncomputable abbrev Apd:Spec:=mkS (.pair tL .unit) (.pair tL (.pair .bool .unit)) true false (fun x=>short x.1) (fun x=>Aot x.1)
theorem Bc8 (f:List (List Int)×List Int×List Int×Bool×Unit) (s:List Int) (P:Int→Prop):(∃(y3:Int),Gt.fn ((f.1,f.2.1,f.2.2.1,f.2.2.2.1,()),s,())=some y3∧Br (decide (y3<(0:Int))) (P (-1:Int)) (∃(y4:Int),idx f.2.1 y3=some y4∧P y4))=fnW tab (look [(69,Gt)]) Mr Try.f143 (f,s,()) P:=by kernel_rfl
theorem Bis (w:List Int) (P:(List Int×Bool×Unit)→Prop):(Br (decide ((↑w.length:Int)>(200:Int))) (P (List.take (0:Nat) (List.drop (0:Nat) []),false,())) (P (w,true,())))=fnW tab (look []) Apd Try.f89 (w,()) P:=by kernel_rfl
theorem Bb5 (f:SS) (s:List Int) (h:Cp (List.length s) f.1 f.2.2.1∧List.length f.2.1=List.length f.1):fnW tab (look [(69,Gt)]) Mr Try.f143 (f,s,()) (fun (z:Int)=>z=Fw f.1 f.2.1 s):=by
 obtain ⟨h1,h2⟩:=h
 refine Eq.mp (Bc8 f s _) ⟨_,if_pos h1,?_⟩
 show Br (decide (Ts f.1 s<0)) _ _
 unfold Ts Fw
 by_cases hm:s∈f.1
 ·have hl:=List.idxOf_lt_length_of_mem hm
  rw [if_pos hm,if_pos hm]
  refine Br.dec (fun hn=>absurd hn (by omega)) fun _=>?_
  have hl2:List.idxOf s f.1<f.2.1.length:=by omega
  refine ⟨f.2.1[List.idxOf s f.1],?_,by rw [Cv hl2]⟩
  show idx f.2.1 (if s∈f.1 then ((List.idxOf s f.1:Nat):Int) else-1)=_
  rw [if_pos hm]
  exact Aw hl2
 ·rw [if_neg hm,if_neg hm]
  exact ⟨fun _=>rfl,fun hn=>by simp at hn⟩
theorem Anj:Sound Try.prog 143 Mr:=
 Sound.mkS Cc (Ag Rd As) mixed Try.func143 (by kernel_rfl) (by kernel_rfl) fun x h=>Bb5 x.1 x.2.1 h
theorem Bie (w:List Int) (h:short w):fnW tab (look []) Apd Try.f89 (w,()) (fun (z:List Int×Bool×Unit)=>z=Aot w):=by
 refine Eq.mp (Bis w _) ?_
 unfold Aot
 refine Br.dec (fun hl=>?_) fun hl=>?_
 ·rw [if_pos (by omega)];rfl
 ·rw [if_neg (by omega)]
theorem Bbs:Sound Try.prog 89 Apd:=
 Sound.mkS Cc As mixed Try.func89 (by kernel_rfl) (by kernel_rfl) fun x h=>Bie x.1 h
end Go.Proofs.Ytebabhocakedaaa

namespace Go.Proofs.Ytebabhocakedaaa
open Go.RowKit
def Sq (ls N d:List Int) (i:Int):List Int×List Int:=(((ls.zip N).filter (fun q=>decide (Bv d q.2<Bv d i))).map Prod.1,((ls.zip N).filter (fun q=>decide (Bv d q.2<Bv d i))).map Prod.2)
noncomputable def Azw (e:Option XP) (i:Int):(List Int×List Int×Unit)×Unit:=match e with|some e=>(((Sq (Ae e.1.2.2.1.length) (Io e.1 i.toNat) (Ah e.1) i).1,(Sq (Ae e.1.2.2.1.length) (Io e.1 i.toNat) (Ah e.1) i).2,()),())|none=>(([],[],()),())
noncomputable abbrev Qb:Bl:=mkM [none,none] [(false, .dat (.optr Acz)),(false, .dat tI)] true [none,none] [rL,rL]
 (fun x=> ∃e':XP,x.1=some e'∧Aps e'∧0≤x.2.1∧x.2.1<(Ab e'.1).length) (fun x=>Azw x.1 x.2.1)
noncomputable def Oi (p:PP) (i:Int):List Int×Bool×Unit:=((Oh p (Ah p) i).1,(Oh p (Ah p) i).2.2.1,())
noncomputable def Bdk (e:Option XP) (i:Int):(List Int×Bool×Unit)×Unit:=match e with|some e=>(Oi e.1 i,())|none=>(([],false,()),())
noncomputable abbrev Ab0:Bl:=mkM [none,none] [(false, .dat (.optr Acz)),(false, .dat tI)] true [none,none] [rL, .dat .bool]
 (fun x=> ∃e':XP,x.1=some e'∧Aps e'∧0≤x.2.1∧x.2.1<(Ab e'.1).length) (fun x=>Bdk x.1 x.2.1)
def Qh (t:List Int) (l:Int):Int:=if l>0 then Bv t (l-1)+1 else-(Bv t (-l-1)+1)
noncomputable def Nd (p:PP) (t s:List Int):List Int×Bool×Unit:=if s∈Ab (At p t) then ((Oi (At p t) (Nc (At p t) s).1).1.map (Qh t),(Oi (At p t) (Nc (At p t) s).1).2.1,()) else ([],false,())
noncomputable def Auh (h:Option HP) (i:Int):(List Int×Bool×Unit)×Unit:=match h with
 |some (some e,t,_)=>(Nd e.1 t ((Ab e.1).getD i.toNat []),())
 |_=>(([],false,()),())
noncomputable abbrev Xx:Bl:=mkM [none,none] [(false, .dat (.optr Ag2)),(false, .dat tI)] true [none,none] [rL, .dat .bool]
 (fun x=> ∃p t,La p t=true∧x.1=some (Ii p t)∧0≤x.2.1∧x.2.1<(Ab p).length) (fun x=>Auh x.1 x.2.1)
noncomputable def Fc (p:PP) (t s:List Int):List Int×Bool×Unit:=if (La p t&&decide (s∈Ab p))=true then Nd p t s else ([],false,())
noncomputable abbrev On:Bl:=mkM [some 3,none,none] [(false, .dat tI),(false, .dat .str),(false, .dat tLL),(false, .dat tL),(false, .dat tL)] true [none,none] [rL, .dat .bool]
 (fun x=>Cg (x.1,x.2.1,x.2.2.1,())∧short x.2.2.2.1∧short x.2.2.2.2.1) (fun x=>(((Fc (x.1,x.2.1,x.2.2.1,()) x.2.2.2.1 x.2.2.2.2.1).1,(Fc (x.1,x.2.1,x.2.2.1,()) x.2.2.2.1 x.2.2.2.2.1).2.1,()),()))
noncomputable def Sr (p:PP) (s:List Int):List Int:=(Ahl p.2.2.1 (Fw (Ab p) (Ah p)) (Ae p.2.2.1.length) (Fw (Ab p) (Ah p) s).toNat s []).1
noncomputable abbrev Xv:Bl:=mkM [some 3,some 4,none] [(false, .dat tI),(false, .dat .str),(false, .dat tLL),(false, .dat tLL),(false, .dat tL),(false, .dat tL),(false, .dat .bool),(false, .dat tL)] false [none] [rL]
 (fun x=>Cd (x.1,x.2.1,x.2.2.1,())=true∧(x.2.2.2.1,x.2.2.2.2.1,x.2.2.2.2.2.1,x.2.2.2.2.2.2.1,())=Bf x.2.2.1 (upto x.1.toNat)∧x.2.2.2.2.2.2.2.1∈Ab (x.1,x.2.1,x.2.2.1,())) (fun x=>((Sr (x.1,x.2.1,x.2.2.1,()) x.2.2.2.2.2.2.2.1,()),()))
noncomputable def Pv (p:PP) (t s:List Int):List Int:=(Sr (At p t) s).map (Qh t)
noncomputable abbrev Wa:Spec:=mkS (.pair Cq (.pair tL (.pair Np (.pair tL .unit)))) tL false true (fun x=>Cg x.1∧La x.1 x.2.1=true∧x.2.2.1=Bf (At x.1 x.2.1).2.2.1 (upto x.1.1.toNat)∧x.2.2.2.1∈Ab (At x.1 x.2.1)) (fun x=>Pv x.1 x.2.1 x.2.2.2.1)
noncomputable abbrev Rq:Spec:=mkS (.pair Cq (.pair tL (.pair tL .unit))) (.pair tL (.pair .bool .unit)) true false (fun x=>Cg x.1∧short x.2.1∧short x.2.2.1) (fun x=>Fc x.1 x.2.1 x.2.2.1)
noncomputable abbrev Abz:Spec:=mkS (.pair Cq (.pair tL (.pair tI .unit))) tL false false (fun x=>Bg x.1=true∧List.length x.2.1≤20∧(∀y∈x.2.1,0≤y∧y<x.1.1)∧En (List.length x.1.2.2.1) x.2.2.1) (fun x=>Aa x.2.1 (Af x.1.2.2.1 x.2.2.1))
theorem Bew (e:Option XP) (i:Int) (P:((List Int×List Int×Unit)×Unit)→Prop):(∃(y3:(Int×ByteArray×List (List Int)×PUnit)×List (List Int)×List Int×(ByteArray→Option Int)×List Int×List Int×List (List Int)×PUnit),
 e=some y3∧
 ∃(y4:List Int),
 Hc.fn ((↑y3.1.2.2.1.length:Int),())=some y4∧
 ∃(y5:(Int×ByteArray×List (List Int)×PUnit)×List (List Int)×List Int×(ByteArray→Option Int)×List Int×List Int×List (List Int)×PUnit),
 e=some y5∧
 ∃(y6:List Int),
 idx y5.2.2.2.2.2.2.1 i=some y6∧
 (0:Nat)=(0:Nat)∧
 (0:Nat)=([]:List Int).length∧
 (0:Nat)=(0:Nat)∧
 (0:Nat)=([]:List Int).length∧
 Bx
 (fun (v7:Int×List Int×List Int×PUnit) (k8:Int×List Int×List Int×PUnit→Prop)=>
 Br (decide (v7.1<(↑y6.length:Int)))
 (∃(y9:Int),
 idx y6 v7.1=some y9∧
 ∃(y10:(Int×ByteArray×List (List Int)×PUnit)×List (List Int)×List Int×(ByteArray→Option Int)×List Int×List Int×List (List Int)×PUnit),
 e=some y10∧
 ∃(y11:Int),
 idx y10.2.2.1 y9=some y11∧
 ∃(y12:(Int×ByteArray×List (List Int)×PUnit)×List (List Int)×List Int×(ByteArray→Option Int)×List Int×List Int×List (List Int)×PUnit),
 e=some y12∧
 ∃(y13:Int),
 idx y12.2.2.1 i=some y13∧
 Br (decide (y11<y13))
 (∃(y14:Int),
 idx y4 v7.1=some y14∧
 (0:Nat)=(0:Nat)∧
 v7.2.1.length=v7.2.1.length∧
 v7.2.1.length+(List.take (1:Nat) (List.drop (0:Nat) [y14])).length≤Ap∧
 (0:Nat)=(0:Nat)∧
 v7.2.2.1.length=v7.2.2.1.length∧
 v7.2.2.1.length+(List.take (1:Nat) (List.drop (0:Nat) [y9])).length≤Ap∧
 (0:Nat)=(0:Nat)∧
 (v7.2.1++List.take (1:Nat) (List.drop (0:Nat) [y14])).length=
 (v7.2.1++List.take (1:Nat) (List.drop (0:Nat) [y14])).length∧
 (0:Nat)=(0:Nat)∧
 (v7.2.2.1++List.take (1:Nat) (List.drop (0:Nat) [y9])).length=
 (v7.2.2.1++List.take (1:Nat) (List.drop (0:Nat) [y9])).length∧
 k8
 (IntKind.i64.wrap (v7.1+(1:Int)),v7.2.1++List.take (1:Nat) (List.drop (0:Nat) [y14]),
 v7.2.2.1++List.take (1:Nat) (List.drop (0:Nat) [y9]),()))
 ((0:Nat)=(0:Nat)∧
 v7.2.1.length=v7.2.1.length∧
 (0:Nat)=(0:Nat)∧v7.2.2.1.length=v7.2.2.1.length∧k8 (IntKind.i64.wrap (v7.1+(1:Int)),v7.2.1,v7.2.2.1,())))
 (P ((List.take v7.2.1.length (List.drop ((0:Nat)) v7.2.1),List.take v7.2.2.1.length (List.drop ((0:Nat)) v7.2.2.1),()),())))
 ((0:Int),[],[],PUnit.unit))=Hy Mu (look [(112,Hc)]) Qb Try.f167 (e,i,()) P:=by kernel_rfl
theorem Bhw (e:Option XP) (i:Int) (P:((List Int×Bool×Unit)×Unit)→Prop):(∃(y3:(Int×ByteArray×List (List Int)×PUnit)×List (List Int)×List Int×(ByteArray→Option Int)×List Int×List Int×List (List Int)×PUnit),
 e=some y3∧
 ∃(y4:Int),
 idx y3.2.2.1 i=some y4∧
 Br (decide (y4>(200:Int))) (P ((List.take (0:Nat) (List.drop (0:Nat) []),false,()),()))
 ((0:Nat)=(0:Nat)∧
 (0:Nat)=([]:List Int).length∧
 Bx
 (fun (v5:Int×List Int×PUnit) (k6:Int×List Int×PUnit→Prop)=>
 ∃(y7:(Int×ByteArray×List (List Int)×PUnit)×List (List Int)×List Int×(ByteArray→Option Int)×List Int×List Int×List (List Int)×PUnit),
 e=some y7∧
 ∃(y8:Int),
 idx y7.2.2.1 v5.1=some y8∧
 Br (decide (y8>(0:Int)))
 (∃(y9:(List Int×List Int×PUnit)×PUnit),
 Qb.fn (e,v5.1,())=some y9∧
 ((0:Int)≤(0:Int)∧(0:Int)<(↑y9.1.1.length:Int))∧
 ∃(y10:Int),
 y9.1.1[(0:Nat)+Int.toNat (0:Int)]?=some y10∧
 (0:Nat)=(0:Nat)∧
 v5.2.1.length=v5.2.1.length∧
 v5.2.1.length+(List.take (1:Nat) (List.drop (0:Nat) [y10])).length≤Ap∧
 ((0:Int)≤(0:Int)∧(0:Int)<(↑y9.1.2.1.length:Int))∧
 ∃(y11:Int),
 y9.1.2.1[(0:Nat)+Int.toNat (0:Int)]?=some y11∧
 (0:Nat)=(0:Nat)∧
 (v5.2.1++List.take (1:Nat) (List.drop (0:Nat) [y10])).length=(v5.2.1++List.take (1:Nat) (List.drop (0:Nat) [y10])).length∧
 k6 (y11,v5.2.1++List.take (1:Nat) (List.drop (0:Nat) [y10]),()))
 (P ((List.take v5.2.1.length (List.drop ((0:Nat)) v5.2.1),true,()),())))
 (i,[],PUnit.unit)))=Hy Mu (look [(167,Qb)]) Ab0 Try.f141 (e,i,()) P:=by kernel_rfl
theorem Bgh (h:Option HP) (i:Int) (P:((List Int×Bool×Unit)×Unit)→Prop):(∃(y3:
 Option ((Int×ByteArray×List (List Int)×PUnit)×List (List Int)×List Int×(ByteArray→Option Int)×List Int×List Int×List (List Int)×PUnit)×
 List Int×Option ((Int×ByteArray×List (List Int)×PUnit)×List (List Int)×List Int×(ByteArray→Option Int)×List Int×List Int×List (List Int)×PUnit)×PUnit),
 h=some y3∧
 ∃(y4:
 Option ((Int×ByteArray×List (List Int)×PUnit)×List (List Int)×List Int×(ByteArray→Option Int)×List Int×List Int×List (List Int)×PUnit)×
 List Int×Option ((Int×ByteArray×List (List Int)×PUnit)×List (List Int)×List Int×(ByteArray→Option Int)×List Int×List Int×List (List Int)×PUnit)×PUnit),
 h=some y4∧
 ∃(y5:(Int×ByteArray×List (List Int)×PUnit)×List (List Int)×List Int×(ByteArray→Option Int)×List Int×List Int×List (List Int)×PUnit),
 y4.1=some y5∧
 ∃(y6:List Int),
 idx y5.2.1 i=some y6∧
 ∃(y7:Int×Bool×PUnit),
 Us.fn (y3.2.2.1,y6,())=some y7∧
 Br (!y7.2.1) (P ((List.take (0:Nat) (List.drop (0:Nat) []),false,()),()))
 (∃(y8:
 Option ((Int×ByteArray×List (List Int)×PUnit)×List (List Int)×List Int×(ByteArray→Option Int)×List Int×List Int×List (List Int)×PUnit)×
 List Int×
 Option ((Int×ByteArray×List (List Int)×PUnit)×List (List Int)×List Int×(ByteArray→Option Int)×List Int×List Int×List (List Int)×PUnit)×PUnit),
 h=some y8∧
 ∃(y9:(List Int×Bool×PUnit)×PUnit),
 Ab0.fn (y8.2.2.1,y7.1,())=some y9∧
 Br (!y9.1.2.1) (P ((List.take (0:Nat) (List.drop (0:Nat) []),false,()),()))
 ((0:Nat)=(0:Nat)∧
 y9.1.1.length=y9.1.1.length∧
 (0:Nat)=(0:Nat)∧
 y9.1.1.length=y9.1.1.length∧
 Bx
 (fun (v10:Int×List Int×PUnit) (k11:Int×List Int×PUnit→Prop)=>
 Br (decide (v10.1<(↑y9.1.1.length:Int)))
 (((0:Int)≤v10.1∧v10.1<(↑v10.2.1.length:Int))∧
 ∃(y12:Int),
 v10.2.1[(0:Nat)+v10.1.toNat]?=some y12∧
 Br (decide (y12>(0:Int)))
 (∃(y13:
 Option
 ((Int×ByteArray×List (List Int)×PUnit)×
 List (List Int)×List Int×(ByteArray→Option Int)×List Int×List Int×List (List Int)×PUnit)×
 List Int×
 Option
 ((Int×ByteArray×List (List Int)×PUnit)×
 List (List Int)×List Int×(ByteArray→Option Int)×List Int×List Int×List (List Int)×PUnit)×
 PUnit),
 h=some y13∧
 ∃(y14:Int),
 idx y13.2.1 (IntKind.i64.wrap (y12-(1:Int)))=some y14∧
 ((0:Int)≤v10.1∧v10.1<(↑v10.2.1.length:Int))∧
 (0:Nat)+v10.1.toNat<v10.2.1.length∧
 (0:Nat)=(0:Nat)∧
 v10.2.1.length=(v10.2.1.set ((0:Nat)+v10.1.toNat) (IntKind.i64.wrap (y14+(1:Int)))).length∧
 (0:Nat)=(0:Nat)∧
 v10.2.1.length=(v10.2.1.set ((0:Nat)+v10.1.toNat) (IntKind.i64.wrap (y14+(1:Int)))).length∧
 k11
 (IntKind.i64.wrap (v10.1+(1:Int)),v10.2.1.set ((0:Nat)+v10.1.toNat) (IntKind.i64.wrap (y14+(1:Int))),
 ()))
 (∃(y13:
 Option
 ((Int×ByteArray×List (List Int)×PUnit)×
 List (List Int)×List Int×(ByteArray→Option Int)×List Int×List Int×List (List Int)×PUnit)×
 List Int×
 Option
 ((Int×ByteArray×List (List Int)×PUnit)×
 List (List Int)×List Int×(ByteArray→Option Int)×List Int×List Int×List (List Int)×PUnit)×
 PUnit),
 h=some y13∧
 ∃(y14:Int),
 idx y13.2.1 (IntKind.i64.wrap (IntKind.i64.wrap ((0:Int)-y12)-(1:Int)))=some y14∧
 ((0:Int)≤v10.1∧v10.1<(↑v10.2.1.length:Int))∧
 (0:Nat)+v10.1.toNat<v10.2.1.length∧
 (0:Nat)=(0:Nat)∧
 v10.2.1.length=
 (v10.2.1.set ((0:Nat)+v10.1.toNat) (IntKind.i64.wrap ((0:Int)-IntKind.i64.wrap (y14+(1:Int))))).length∧
 (0:Nat)=(0:Nat)∧
 v10.2.1.length=
 (v10.2.1.set ((0:Nat)+v10.1.toNat) (IntKind.i64.wrap ((0:Int)-IntKind.i64.wrap (y14+(1:Int))))).length∧
 k11
 (IntKind.i64.wrap (v10.1+(1:Int)),
 v10.2.1.set ((0:Nat)+v10.1.toNat) (IntKind.i64.wrap ((0:Int)-IntKind.i64.wrap (y14+(1:Int)))),())))
 (P ((List.take v10.2.1.length (List.drop ((0:Nat)) v10.2.1),true,()),())))
 ((0:Int),y9.1.1,PUnit.unit))))=Hy Mu (look [(101,Us),(141,Ab0)]) Xx Try.f91 (h,i,()) P:=by kernel_rfl
theorem Bcb (n:Int) (str:ByteArray) (g:List (List Int)) (t s:List Int) (P:((List Int×Bool×Unit)×Unit)→Prop):(∃(y6:
 Option
 (Option ((Int×ByteArray×List (List Int)×PUnit)×List (List Int)×List Int×(ByteArray→Option Int)×List Int×List Int×List (List Int)×PUnit)×
 List Int×Option ((Int×ByteArray×List (List Int)×PUnit)×List (List Int)×List Int×(ByteArray→Option Int)×List Int×List Int×List (List Int)×PUnit)×PUnit)×
 Int×Bool×PUnit),
 Ki.fn ((n,str,g,()),t,s,())=some y6∧
 Br (!y6.2.2.1) (P ((List.take (0:Nat) (List.drop (0:Nat) []),false,()),()))
 (∃(y7:(List Int×Bool×PUnit)×PUnit),Xx.fn (y6.1,y6.2.1,())=some y7∧P ((List.take y7.1.1.length (List.drop (0:Nat) y7.1.1),y7.1.2.1,()),())))=Hy Mu (look [(70,Ki),(91,Xx)]) On Try.f43 (n,str,g,t,s,()) P:=by kernel_rfl
theorem Bhs (n:Int) (str:ByteArray) (g L:List (List Int)) (D srt:List Int) (b:Bool) (s:List Int) (P:((List Int×Unit)×Unit)→Prop):(∃(y9:List Int),
 Hm.fn ((n,str,g,()),())=some y9∧
 ∃(y10:Int),
 Mr.fn ((L,D,srt,b,()),s,())=some y10∧
 (0:Nat)=(0:Nat)∧
 (0:Nat)=([]:List Int).length∧
 Bx
 (fun (v11:List Int×Int×Int×ByteArray×List (List Int)×List (List Int)×List Int×List Int×Bool×List Int×PUnit)
 (k12:List Int×Int×Int×ByteArray×List (List Int)×List (List Int)×List Int×List Int×Bool×List Int×PUnit→Prop)=>
 Br (decide (v11.2.1>(0:Int)))
 ((0:Nat)=(0:Nat)∧
 v11.2.2.2.2.2.2.2.2.2.1.length=v11.2.2.2.2.2.2.2.2.2.1.length∧
 Bx
 (fun (v13:List Int×Int×Int×ByteArray×List (List Int)×List (List Int)×List Int×List Int×Bool×List Int×PUnit)
 (k14:List Int×Int×Int×ByteArray×List (List Int)×List (List Int)×List Int×List Int×Bool×List Int×PUnit→Prop)=>
 Br (decide (v13.2.1<(↑y9.length:Int)))
 (∃(y15:Int),
 idx y9 v13.2.1=some y15∧
 ∃(y16:List Int),
 Abz.fn ((v13.2.2.1,v13.2.2.2.1,v13.2.2.2.2.1,()),v13.1,y15,())=some y16∧
 ∃(y17:Int),
 Mr.fn ((v13.2.2.2.2.2.1,v13.2.2.2.2.2.2.1,v13.2.2.2.2.2.2.2.1,v13.2.2.2.2.2.2.2.2.1,()),y16,())=some y17∧
 Br (y17==IntKind.i64.wrap (v11.2.1-(1:Int)))
 (∃(y18:Int),
 idx y9 v13.2.1=some y18∧
 (0:Nat)=(0:Nat)∧
 v13.2.2.2.2.2.2.2.2.2.1.length=v13.2.2.2.2.2.2.2.2.2.1.length∧
 v13.2.2.2.2.2.2.2.2.2.1.length+(List.take (1:Nat) (List.drop (0:Nat) [y18])).length≤Ap∧
 (0:Nat)=(0:Nat)∧
 (v13.2.2.2.2.2.2.2.2.2.1++List.take (1:Nat) (List.drop (0:Nat) [y18])).length=
 (v13.2.2.2.2.2.2.2.2.2.1++List.take (1:Nat) (List.drop (0:Nat) [y18])).length∧
 k12
 (y16,IntKind.i64.wrap (v11.2.1-(1:Int)),v13.2.2.1,v13.2.2.2.1,v13.2.2.2.2.1,v13.2.2.2.2.2.1,
 v13.2.2.2.2.2.2.1,v13.2.2.2.2.2.2.2.1,v13.2.2.2.2.2.2.2.2.1,
 v13.2.2.2.2.2.2.2.2.2.1++List.take (1:Nat) (List.drop (0:Nat) [y18]),()))
 ((0:Nat)=(0:Nat)∧
 v13.2.2.2.2.2.2.2.2.2.1.length=v13.2.2.2.2.2.2.2.2.2.1.length∧
 k14
 (v13.1,IntKind.i64.wrap (v13.2.1+(1:Int)),v13.2.2.1,v13.2.2.2.1,v13.2.2.2.2.1,v13.2.2.2.2.2.1,
 v13.2.2.2.2.2.2.1,v13.2.2.2.2.2.2.2.1,v13.2.2.2.2.2.2.2.2.1,v13.2.2.2.2.2.2.2.2.2.1,())))
 ((0:Nat)=(0:Nat)∧
 v13.2.2.2.2.2.2.2.2.2.1.length=v13.2.2.2.2.2.2.2.2.2.1.length∧
 k12
 (v13.1,IntKind.i64.wrap (v11.2.1-(1:Int)),v13.2.2.1,v13.2.2.2.1,v13.2.2.2.2.1,v13.2.2.2.2.2.1,v13.2.2.2.2.2.2.1,
 v13.2.2.2.2.2.2.2.1,v13.2.2.2.2.2.2.2.2.1,v13.2.2.2.2.2.2.2.2.2.1,())))
 (v11.1,(0:Int),v11.2.2.1,v11.2.2.2.1,v11.2.2.2.2.1,v11.2.2.2.2.2.1,v11.2.2.2.2.2.2.1,v11.2.2.2.2.2.2.2.1,
 v11.2.2.2.2.2.2.2.2.1,v11.2.2.2.2.2.2.2.2.2.1,PUnit.unit))
 (P ((List.take v11.2.2.2.2.2.2.2.2.2.1.length (List.drop ((0:Nat)) v11.2.2.2.2.2.2.2.2.2.1),()),())))
 (s,y10,n,str,g,L,D,srt,b,[],PUnit.unit))=Hy Mu (look [(142,Hm),(143,Mr),(129,Abz)]) Xv Try.f140 (n,str,g,L,D,srt,b,s,()) P:=by kernel_rfl
theorem Awb (n:Int) (str:ByteArray) (g:List (List Int)) (t:List Int) (P:((Int×ByteArray×List (List Int)×Unit)×Unit)→Prop):((0:Nat)=(0:Nat)∧
 (0:Nat)=([]:List Int).length∧
 (0:Nat)=(0:Nat)∧
 (0:Nat)=([]:List Int).length∧
 Bx
 (fun (v5:Int×Int×ByteArray×List (List Int)×Int×ByteArray×Int×ByteArray×List (List Int)×List (List Int)×PUnit)
 (k6:Int×Int×ByteArray×List (List Int)×Int×ByteArray×Int×ByteArray×List (List Int)×List (List Int)×PUnit→Prop)=>
 Br (decide (v5.1<(↑t.length:Int)))
 (∃(y7:Int),
 idx t v5.1=some y7∧
 ((0:Int)≤y7∧y7≤IntKind.i64.wrap (y7+(1:Int))∧IntKind.i64.wrap (y7+(1:Int))≤(↑v5.2.2.1.size:Int))∧
 v5.2.2.2.2.2.2.2.1.size+(v5.2.2.1.extract y7.toNat (IntKind.i64.wrap (y7+(1:Int))).toNat).size≤(4294967296:Nat)∧
 ∃(y8:List Int),
 idx v5.2.2.2.1 y7=some y8∧
 ∃(y9:(List Int×PUnit)×PUnit),
 Ew.fn (y8,())=some y9∧
 (0:Nat)=(0:Nat)∧
 v5.2.2.2.2.2.2.2.2.2.1.length=v5.2.2.2.2.2.2.2.2.2.1.length∧
 v5.2.2.2.2.2.2.2.2.2.1.length+(List.take (1:Nat) (List.drop (0:Nat) [List.take y9.1.1.length (List.drop (0:Nat) y9.1.1)])).length≤Ap∧
 ((0:Nat)=(0:Nat)∧
 v5.2.2.2.2.2.2.2.2.1.length=v5.2.2.2.2.2.2.2.2.1.length∧
 (0:Nat)=(0:Nat)∧
 (v5.2.2.2.2.2.2.2.2.2.1++List.take (1:Nat) (List.drop (0:Nat) [List.take y9.1.1.length (List.drop (0:Nat) y9.1.1)])).length=
 (v5.2.2.2.2.2.2.2.2.2.1++List.take (1:Nat) (List.drop (0:Nat) [List.take y9.1.1.length (List.drop (0:Nat) y9.1.1)])).length∧
 k6
 (IntKind.i64.wrap (v5.1+(1:Int)),v5.2.1,v5.2.2.1,v5.2.2.2.1,v5.2.2.2.2.1,v5.2.2.2.2.2.1,v5.2.2.2.2.2.2.1,
 v5.2.2.2.2.2.2.2.1++v5.2.2.1.extract y7.toNat (IntKind.i64.wrap (y7+(1:Int))).toNat,v5.2.2.2.2.2.2.2.2.1,
 v5.2.2.2.2.2.2.2.2.2.1++List.take (1:Nat) (List.drop (0:Nat) [List.take y9.1.1.length (List.drop (0:Nat) y9.1.1)]),()))∧
 (∃(y10:List Int),
 idx v5.2.2.2.1 y7=some y10∧
 ∃(y11:(List Int×PUnit)×PUnit),
 Ew.fn (y10,())=some y11∧
 (0:Nat)=(0:Nat)∧
 v5.2.2.2.2.2.2.2.2.2.1.length=v5.2.2.2.2.2.2.2.2.2.1.length∧
 v5.2.2.2.2.2.2.2.2.2.1.length+
 (List.take (1:Nat) (List.drop (0:Nat) [List.take y11.1.1.length (List.drop (0:Nat) y11.1.1)])).length≤
 Ap∧
 [((0:Nat),
 (v5.2.2.2.2.2.2.2.2.2.1++
 List.take (1:Nat) (List.drop (0:Nat) [List.take y11.1.1.length (List.drop (0:Nat) y11.1.1)])).length),
 ((0:Nat),v5.2.2.2.2.2.2.2.2.1.length),
 ((0:Nat),
 (v5.2.2.2.2.2.2.2.2.2.1++
 List.take (1:Nat) (List.drop (0:Nat) [List.take y11.1.1.length (List.drop (0:Nat) y11.1.1)])).length)]=
 [((0:Nat),
 (v5.2.2.2.2.2.2.2.2.2.1++
 List.take (1:Nat) (List.drop (0:Nat) [List.take y9.1.1.length (List.drop (0:Nat) y9.1.1)])).length),
 ((0:Nat),v5.2.2.2.2.2.2.2.2.1.length),
 ((0:Nat),
 (v5.2.2.2.2.2.2.2.2.2.1++
 List.take (1:Nat) (List.drop (0:Nat) [List.take y9.1.1.length (List.drop (0:Nat) y9.1.1)])).length)]∧
 (t,v5.1,y7,v5.1,t,(↑t.length:Int),decide (v5.1<(↑t.length:Int)),t,v5.1,y7,y7,v5.2.2.2.2.2.2.2.1,v5.2.2.1,
 y7,y7,IntKind.i64.wrap (y7+(1:Int)),v5.2.2.1.extract y7.toNat (IntKind.i64.wrap (y7+(1:Int))).toNat,
 v5.2.2.2.2.2.2.2.1++v5.2.2.1.extract y7.toNat (IntKind.i64.wrap (y7+(1:Int))).toNat,v5.2.2.2.1,y7,y10,y10,
 List.take y11.1.1.length (List.drop (0:Nat) y11.1.1),
 List.take (1:Nat) (List.drop (0:Nat) [List.take y11.1.1.length (List.drop (0:Nat) y11.1.1)]),v5.2.1,v5.2.2.1,
 v5.2.2.2.1,v5.2.2.2.2.1,v5.2.2.2.2.2.1,v5.2.2.2.2.2.2.1,
 v5.2.2.2.2.2.2.2.1++v5.2.2.1.extract y7.toNat (IntKind.i64.wrap (y7+(1:Int))).toNat,v5.2.2.2.2.2.2.2.2.1,
 v5.2.2.2.2.2.2.2.2.2.1++List.take (1:Nat) (List.drop (0:Nat) [List.take y11.1.1.length (List.drop (0:Nat) y11.1.1)]),
 ())=
 (t,v5.1,y7,v5.1,t,(↑t.length:Int),decide (v5.1<(↑t.length:Int)),t,v5.1,y7,y7,v5.2.2.2.2.2.2.2.1,
 v5.2.2.1,y7,y7,IntKind.i64.wrap (y7+(1:Int)),v5.2.2.1.extract y7.toNat (IntKind.i64.wrap (y7+(1:Int))).toNat,
 v5.2.2.2.2.2.2.2.1++v5.2.2.1.extract y7.toNat (IntKind.i64.wrap (y7+(1:Int))).toNat,v5.2.2.2.1,y7,y8,y8,
 List.take y9.1.1.length (List.drop (0:Nat) y9.1.1),
 List.take (1:Nat) (List.drop (0:Nat) [List.take y9.1.1.length (List.drop (0:Nat) y9.1.1)]),v5.2.1,v5.2.2.1,
 v5.2.2.2.1,v5.2.2.2.2.1,v5.2.2.2.2.2.1,v5.2.2.2.2.2.2.1,
 v5.2.2.2.2.2.2.2.1++v5.2.2.1.extract y7.toNat (IntKind.i64.wrap (y7+(1:Int))).toNat,v5.2.2.2.2.2.2.2.2.1,
 v5.2.2.2.2.2.2.2.2.2.1++List.take (1:Nat) (List.drop (0:Nat) [List.take y9.1.1.length (List.drop (0:Nat) y9.1.1)]),
 PUnit.unit))∧
 (∃(y10:List Int),
 idx v5.2.2.2.1 y7=some y10∧
 ∃(y11:(List Int×PUnit)×PUnit),
 Ew.fn (y10,())=some y11∧
 (0:Nat)=(0:Nat)∧
 v5.2.2.2.2.2.2.2.2.2.1.length=v5.2.2.2.2.2.2.2.2.2.1.length∧
 v5.2.2.2.2.2.2.2.2.2.1.length+
 (List.take (1:Nat) (List.drop (0:Nat) [List.take y11.1.1.length (List.drop (0:Nat) y11.1.1)])).length≤
 Ap∧
 [((0:Nat),
 (v5.2.2.2.2.2.2.2.2.2.1++
 List.take (1:Nat) (List.drop (0:Nat) [List.take y11.1.1.length (List.drop (0:Nat) y11.1.1)])).length),
 ((0:Nat),v5.2.2.2.2.2.2.2.2.1.length),
 ((0:Nat),
 (v5.2.2.2.2.2.2.2.2.2.1++
 List.take (1:Nat) (List.drop (0:Nat) [List.take y11.1.1.length (List.drop (0:Nat) y11.1.1)])).length)]=
 [((0:Nat),
 (v5.2.2.2.2.2.2.2.2.2.1++
 List.take (1:Nat) (List.drop (0:Nat) [List.take y9.1.1.length (List.drop (0:Nat) y9.1.1)])).length),
 ((0:Nat),v5.2.2.2.2.2.2.2.2.1.length),
 ((0:Nat),
 (v5.2.2.2.2.2.2.2.2.2.1++
 List.take (1:Nat) (List.drop (0:Nat) [List.take y9.1.1.length (List.drop (0:Nat) y9.1.1)])).length)]∧
 (t,v5.1,y7,v5.1,t,(↑t.length:Int),decide (v5.1<(↑t.length:Int)),t,v5.1,y7,y7,v5.2.2.2.2.2.2.2.1,
 v5.2.2.1,y7,y7,IntKind.i64.wrap (y7+(1:Int)),v5.2.2.1.extract y7.toNat (IntKind.i64.wrap (y7+(1:Int))).toNat,
 v5.2.2.2.2.2.2.2.1++v5.2.2.1.extract y7.toNat (IntKind.i64.wrap (y7+(1:Int))).toNat,v5.2.2.2.1,y7,y10,y10,
 List.take y11.1.1.length (List.drop (0:Nat) y11.1.1),
 List.take (1:Nat) (List.drop (0:Nat) [List.take y11.1.1.length (List.drop (0:Nat) y11.1.1)]),v5.2.1,v5.2.2.1,
 v5.2.2.2.1,v5.2.2.2.2.1,v5.2.2.2.2.2.1,v5.2.2.2.2.2.2.1,
 v5.2.2.2.2.2.2.2.1++v5.2.2.1.extract y7.toNat (IntKind.i64.wrap (y7+(1:Int))).toNat,v5.2.2.2.2.2.2.2.2.1,
 v5.2.2.2.2.2.2.2.2.2.1++
 List.take (1:Nat) (List.drop (0:Nat) [List.take y11.1.1.length (List.drop (0:Nat) y11.1.1)]),
 ())=
 (t,v5.1,y7,v5.1,t,(↑t.length:Int),decide (v5.1<(↑t.length:Int)),t,v5.1,y7,y7,v5.2.2.2.2.2.2.2.1,
 v5.2.2.1,y7,y7,IntKind.i64.wrap (y7+(1:Int)),v5.2.2.1.extract y7.toNat (IntKind.i64.wrap (y7+(1:Int))).toNat,
 v5.2.2.2.2.2.2.2.1++v5.2.2.1.extract y7.toNat (IntKind.i64.wrap (y7+(1:Int))).toNat,v5.2.2.2.1,y7,y8,y8,
 List.take y9.1.1.length (List.drop (0:Nat) y9.1.1),
 List.take (1:Nat) (List.drop (0:Nat) [List.take y9.1.1.length (List.drop (0:Nat) y9.1.1)]),v5.2.1,v5.2.2.1,
 v5.2.2.2.1,v5.2.2.2.2.1,v5.2.2.2.2.2.1,v5.2.2.2.2.2.2.1,
 v5.2.2.2.2.2.2.2.1++v5.2.2.1.extract y7.toNat (IntKind.i64.wrap (y7+(1:Int))).toNat,v5.2.2.2.2.2.2.2.2.1,
 v5.2.2.2.2.2.2.2.2.2.1++List.take (1:Nat) (List.drop (0:Nat) [List.take y9.1.1.length (List.drop (0:Nat) y9.1.1)]),
 PUnit.unit))∧
 ∃(y10:List Int),
 idx v5.2.2.2.1 y7=some y10∧
 (∃(y11:(List Int×PUnit)×PUnit),
 Ew.fn (y10,())=some y11∧
 (0:Nat)=(0:Nat)∧
 v5.2.2.2.2.2.2.2.2.2.1.length=v5.2.2.2.2.2.2.2.2.2.1.length∧
 v5.2.2.2.2.2.2.2.2.2.1.length+
 (List.take (1:Nat) (List.drop (0:Nat) [List.take y11.1.1.length (List.drop (0:Nat) y11.1.1)])).length≤
 Ap∧
 [((0:Nat),
 (v5.2.2.2.2.2.2.2.2.2.1++
 List.take (1:Nat) (List.drop (0:Nat) [List.take y11.1.1.length (List.drop (0:Nat) y11.1.1)])).length),
 ((0:Nat),v5.2.2.2.2.2.2.2.2.1.length),
 ((0:Nat),
 (v5.2.2.2.2.2.2.2.2.2.1++
 List.take (1:Nat) (List.drop (0:Nat) [List.take y11.1.1.length (List.drop (0:Nat) y11.1.1)])).length)]=
 [((0:Nat),
 (v5.2.2.2.2.2.2.2.2.2.1++
 List.take (1:Nat) (List.drop (0:Nat) [List.take y9.1.1.length (List.drop (0:Nat) y9.1.1)])).length),
 ((0:Nat),v5.2.2.2.2.2.2.2.2.1.length),
 ((0:Nat),
 (v5.2.2.2.2.2.2.2.2.2.1++
 List.take (1:Nat) (List.drop (0:Nat) [List.take y9.1.1.length (List.drop (0:Nat) y9.1.1)])).length)]∧
 (t,v5.1,y7,v5.1,t,(↑t.length:Int),decide (v5.1<(↑t.length:Int)),t,v5.1,y7,y7,v5.2.2.2.2.2.2.2.1,
 v5.2.2.1,y7,y7,IntKind.i64.wrap (y7+(1:Int)),v5.2.2.1.extract y7.toNat (IntKind.i64.wrap (y7+(1:Int))).toNat,
 v5.2.2.2.2.2.2.2.1++v5.2.2.1.extract y7.toNat (IntKind.i64.wrap (y7+(1:Int))).toNat,v5.2.2.2.1,y7,y10,y10,
 List.take y11.1.1.length (List.drop (0:Nat) y11.1.1),
 List.take (1:Nat) (List.drop (0:Nat) [List.take y11.1.1.length (List.drop (0:Nat) y11.1.1)]),v5.2.1,v5.2.2.1,
 v5.2.2.2.1,v5.2.2.2.2.1,v5.2.2.2.2.2.1,v5.2.2.2.2.2.2.1,
 v5.2.2.2.2.2.2.2.1++v5.2.2.1.extract y7.toNat (IntKind.i64.wrap (y7+(1:Int))).toNat,v5.2.2.2.2.2.2.2.2.1,
 v5.2.2.2.2.2.2.2.2.2.1++
 List.take (1:Nat) (List.drop (0:Nat) [List.take y11.1.1.length (List.drop (0:Nat) y11.1.1)]),
 ())=
 (t,v5.1,y7,v5.1,t,(↑t.length:Int),decide (v5.1<(↑t.length:Int)),t,v5.1,y7,y7,v5.2.2.2.2.2.2.2.1,
 v5.2.2.1,y7,y7,IntKind.i64.wrap (y7+(1:Int)),v5.2.2.1.extract y7.toNat (IntKind.i64.wrap (y7+(1:Int))).toNat,
 v5.2.2.2.2.2.2.2.1++v5.2.2.1.extract y7.toNat (IntKind.i64.wrap (y7+(1:Int))).toNat,v5.2.2.2.1,y7,y8,y8,
 List.take y9.1.1.length (List.drop (0:Nat) y9.1.1),
 List.take (1:Nat) (List.drop (0:Nat) [List.take y9.1.1.length (List.drop (0:Nat) y9.1.1)]),v5.2.1,v5.2.2.1,
 v5.2.2.2.1,v5.2.2.2.2.1,v5.2.2.2.2.2.1,v5.2.2.2.2.2.2.1,
 v5.2.2.2.2.2.2.2.1++v5.2.2.1.extract y7.toNat (IntKind.i64.wrap (y7+(1:Int))).toNat,v5.2.2.2.2.2.2.2.2.1,
 v5.2.2.2.2.2.2.2.2.2.1++
 List.take (1:Nat) (List.drop (0:Nat) [List.take y9.1.1.length (List.drop (0:Nat) y9.1.1)]),
 PUnit.unit))∧
 (∃(y11:(List Int×PUnit)×PUnit),
 Ew.fn (y10,())=some y11∧
 (0:Nat)=(0:Nat)∧
 v5.2.2.2.2.2.2.2.2.2.1.length=v5.2.2.2.2.2.2.2.2.2.1.length∧
 v5.2.2.2.2.2.2.2.2.2.1.length+
 (List.take (1:Nat) (List.drop (0:Nat) [List.take y11.1.1.length (List.drop (0:Nat) y11.1.1)])).length≤
 Ap∧
 [((0:Nat),
 (v5.2.2.2.2.2.2.2.2.2.1++
 List.take (1:Nat) (List.drop (0:Nat) [List.take y11.1.1.length (List.drop (0:Nat) y11.1.1)])).length),
 ((0:Nat),v5.2.2.2.2.2.2.2.2.1.length),
 ((0:Nat),
 (v5.2.2.2.2.2.2.2.2.2.1++
 List.take (1:Nat) (List.drop (0:Nat) [List.take y11.1.1.length (List.drop (0:Nat) y11.1.1)])).length)]=
 [((0:Nat),
 (v5.2.2.2.2.2.2.2.2.2.1++
 List.take (1:Nat) (List.drop (0:Nat) [List.take y9.1.1.length (List.drop (0:Nat) y9.1.1)])).length),
 ((0:Nat),v5.2.2.2.2.2.2.2.2.1.length),
 ((0:Nat),
 (v5.2.2.2.2.2.2.2.2.2.1++
 List.take (1:Nat) (List.drop (0:Nat) [List.take y9.1.1.length (List.drop (0:Nat) y9.1.1)])).length)]∧
 (t,v5.1,y7,v5.1,t,(↑t.length:Int),decide (v5.1<(↑t.length:Int)),t,v5.1,y7,y7,v5.2.2.2.2.2.2.2.1,
 v5.2.2.1,y7,y7,IntKind.i64.wrap (y7+(1:Int)),v5.2.2.1.extract y7.toNat (IntKind.i64.wrap (y7+(1:Int))).toNat,
 v5.2.2.2.2.2.2.2.1++v5.2.2.1.extract y7.toNat (IntKind.i64.wrap (y7+(1:Int))).toNat,v5.2.2.2.1,y7,y10,y10,
 List.take y11.1.1.length (List.drop (0:Nat) y11.1.1),
 List.take (1:Nat) (List.drop (0:Nat) [List.take y11.1.1.length (List.drop (0:Nat) y11.1.1)]),v5.2.1,v5.2.2.1,
 v5.2.2.2.1,v5.2.2.2.2.1,v5.2.2.2.2.2.1,v5.2.2.2.2.2.2.1,
 v5.2.2.2.2.2.2.2.1++v5.2.2.1.extract y7.toNat (IntKind.i64.wrap (y7+(1:Int))).toNat,v5.2.2.2.2.2.2.2.2.1,
 v5.2.2.2.2.2.2.2.2.2.1++
 List.take (1:Nat) (List.drop (0:Nat) [List.take y11.1.1.length (List.drop (0:Nat) y11.1.1)]),
 ())=
 (t,v5.1,y7,v5.1,t,(↑t.length:Int),decide (v5.1<(↑t.length:Int)),t,v5.1,y7,y7,v5.2.2.2.2.2.2.2.1,
 v5.2.2.1,y7,y7,IntKind.i64.wrap (y7+(1:Int)),v5.2.2.1.extract y7.toNat (IntKind.i64.wrap (y7+(1:Int))).toNat,
 v5.2.2.2.2.2.2.2.1++v5.2.2.1.extract y7.toNat (IntKind.i64.wrap (y7+(1:Int))).toNat,v5.2.2.2.1,y7,y8,y8,
 List.take y9.1.1.length (List.drop (0:Nat) y9.1.1),
 List.take (1:Nat) (List.drop (0:Nat) [List.take y9.1.1.length (List.drop (0:Nat) y9.1.1)]),v5.2.1,v5.2.2.1,
 v5.2.2.2.1,v5.2.2.2.2.1,v5.2.2.2.2.2.1,v5.2.2.2.2.2.2.1,
 v5.2.2.2.2.2.2.2.1++v5.2.2.1.extract y7.toNat (IntKind.i64.wrap (y7+(1:Int))).toNat,v5.2.2.2.2.2.2.2.2.1,
 v5.2.2.2.2.2.2.2.2.2.1++
 List.take (1:Nat) (List.drop (0:Nat) [List.take y9.1.1.length (List.drop (0:Nat) y9.1.1)]),
 PUnit.unit))∧
 ∃(y11:(List Int×PUnit)×PUnit),
 Ew.fn (y10,())=some y11∧
 ((0:Nat)=(0:Nat)∧
 v5.2.2.2.2.2.2.2.2.2.1.length=v5.2.2.2.2.2.2.2.2.2.1.length∧
 v5.2.2.2.2.2.2.2.2.2.1.length+
 (List.take (1:Nat) (List.drop (0:Nat) [List.take y11.1.1.length (List.drop (0:Nat) y11.1.1)])).length≤
 Ap∧
 [((0:Nat),
 (v5.2.2.2.2.2.2.2.2.2.1++
 List.take (1:Nat) (List.drop (0:Nat) [List.take y11.1.1.length (List.drop (0:Nat) y11.1.1)])).length),
 ((0:Nat),v5.2.2.2.2.2.2.2.2.1.length),
 ((0:Nat),
 (v5.2.2.2.2.2.2.2.2.2.1++
 List.take (1:Nat) (List.drop (0:Nat) [List.take y11.1.1.length (List.drop (0:Nat) y11.1.1)])).length)]=
 [((0:Nat),
 (v5.2.2.2.2.2.2.2.2.2.1++
 List.take (1:Nat) (List.drop (0:Nat) [List.take y9.1.1.length (List.drop (0:Nat) y9.1.1)])).length),
 ((0:Nat),v5.2.2.2.2.2.2.2.2.1.length),
 ((0:Nat),
 (v5.2.2.2.2.2.2.2.2.2.1++
 List.take (1:Nat) (List.drop (0:Nat) [List.take y9.1.1.length (List.drop (0:Nat) y9.1.1)])).length)]∧
 (t,v5.1,y7,v5.1,t,(↑t.length:Int),decide (v5.1<(↑t.length:Int)),t,v5.1,y7,y7,v5.2.2.2.2.2.2.2.1,
 v5.2.2.1,y7,y7,IntKind.i64.wrap (y7+(1:Int)),v5.2.2.1.extract y7.toNat (IntKind.i64.wrap (y7+(1:Int))).toNat,
 v5.2.2.2.2.2.2.2.1++v5.2.2.1.extract y7.toNat (IntKind.i64.wrap (y7+(1:Int))).toNat,v5.2.2.2.1,y7,y10,y10,
 List.take y11.1.1.length (List.drop (0:Nat) y11.1.1),
 List.take (1:Nat) (List.drop (0:Nat) [List.take y11.1.1.length (List.drop (0:Nat) y11.1.1)]),v5.2.1,v5.2.2.1,
 v5.2.2.2.1,v5.2.2.2.2.1,v5.2.2.2.2.2.1,v5.2.2.2.2.2.2.1,
 v5.2.2.2.2.2.2.2.1++v5.2.2.1.extract y7.toNat (IntKind.i64.wrap (y7+(1:Int))).toNat,
 v5.2.2.2.2.2.2.2.2.1,
 v5.2.2.2.2.2.2.2.2.2.1++
 List.take (1:Nat) (List.drop (0:Nat) [List.take y11.1.1.length (List.drop (0:Nat) y11.1.1)]),
 ())=
 (t,v5.1,y7,v5.1,t,(↑t.length:Int),decide (v5.1<(↑t.length:Int)),t,v5.1,y7,y7,v5.2.2.2.2.2.2.2.1,
 v5.2.2.1,y7,y7,IntKind.i64.wrap (y7+(1:Int)),v5.2.2.1.extract y7.toNat (IntKind.i64.wrap (y7+(1:Int))).toNat,
 v5.2.2.2.2.2.2.2.1++v5.2.2.1.extract y7.toNat (IntKind.i64.wrap (y7+(1:Int))).toNat,v5.2.2.2.1,y7,y8,y8,
 List.take y9.1.1.length (List.drop (0:Nat) y9.1.1),
 List.take (1:Nat) (List.drop (0:Nat) [List.take y9.1.1.length (List.drop (0:Nat) y9.1.1)]),v5.2.1,v5.2.2.1,
 v5.2.2.2.1,v5.2.2.2.2.1,v5.2.2.2.2.2.1,v5.2.2.2.2.2.2.1,
 v5.2.2.2.2.2.2.2.1++v5.2.2.1.extract y7.toNat (IntKind.i64.wrap (y7+(1:Int))).toNat,
 v5.2.2.2.2.2.2.2.2.1,
 v5.2.2.2.2.2.2.2.2.2.1++
 List.take (1:Nat) (List.drop (0:Nat) [List.take y9.1.1.length (List.drop (0:Nat) y9.1.1)]),
 PUnit.unit))∧
 (0:Nat)=(0:Nat)∧
 v5.2.2.2.2.2.2.2.2.2.1.length=v5.2.2.2.2.2.2.2.2.2.1.length∧
 v5.2.2.2.2.2.2.2.2.2.1.length+
 (List.take (1:Nat) (List.drop (0:Nat) [List.take y11.1.1.length (List.drop (0:Nat) y11.1.1)])).length≤
 Ap∧
 [((0:Nat),
 (v5.2.2.2.2.2.2.2.2.2.1++
 List.take (1:Nat) (List.drop (0:Nat) [List.take y11.1.1.length (List.drop (0:Nat) y11.1.1)])).length),
 ((0:Nat),v5.2.2.2.2.2.2.2.2.1.length),
 ((0:Nat),
 (v5.2.2.2.2.2.2.2.2.2.1++
 List.take (1:Nat) (List.drop (0:Nat) [List.take y11.1.1.length (List.drop (0:Nat) y11.1.1)])).length)]=
 [((0:Nat),
 (v5.2.2.2.2.2.2.2.2.2.1++
 List.take (1:Nat) (List.drop (0:Nat) [List.take y9.1.1.length (List.drop (0:Nat) y9.1.1)])).length),
 ((0:Nat),v5.2.2.2.2.2.2.2.2.1.length),
 ((0:Nat),
 (v5.2.2.2.2.2.2.2.2.2.1++
 List.take (1:Nat) (List.drop (0:Nat) [List.take y9.1.1.length (List.drop (0:Nat) y9.1.1)])).length)]∧
 (t,v5.1,y7,v5.1,t,(↑t.length:Int),decide (v5.1<(↑t.length:Int)),t,v5.1,y7,y7,v5.2.2.2.2.2.2.2.1,
 v5.2.2.1,y7,y7,IntKind.i64.wrap (y7+(1:Int)),v5.2.2.1.extract y7.toNat (IntKind.i64.wrap (y7+(1:Int))).toNat,
 v5.2.2.2.2.2.2.2.1++v5.2.2.1.extract y7.toNat (IntKind.i64.wrap (y7+(1:Int))).toNat,v5.2.2.2.1,y7,y10,y10,
 List.take y11.1.1.length (List.drop (0:Nat) y11.1.1),
 List.take (1:Nat) (List.drop (0:Nat) [List.take y11.1.1.length (List.drop (0:Nat) y11.1.1)]),v5.2.1,v5.2.2.1,
 v5.2.2.2.1,v5.2.2.2.2.1,v5.2.2.2.2.2.1,v5.2.2.2.2.2.2.1,
 v5.2.2.2.2.2.2.2.1++v5.2.2.1.extract y7.toNat (IntKind.i64.wrap (y7+(1:Int))).toNat,
 v5.2.2.2.2.2.2.2.2.1,
 v5.2.2.2.2.2.2.2.2.2.1++
 List.take (1:Nat) (List.drop (0:Nat) [List.take y11.1.1.length (List.drop (0:Nat) y11.1.1)]),
 ())=
 (t,v5.1,y7,v5.1,t,(↑t.length:Int),decide (v5.1<(↑t.length:Int)),t,v5.1,y7,y7,v5.2.2.2.2.2.2.2.1,
 v5.2.2.1,y7,y7,IntKind.i64.wrap (y7+(1:Int)),v5.2.2.1.extract y7.toNat (IntKind.i64.wrap (y7+(1:Int))).toNat,
 v5.2.2.2.2.2.2.2.1++v5.2.2.1.extract y7.toNat (IntKind.i64.wrap (y7+(1:Int))).toNat,v5.2.2.2.1,y7,y8,y8,
 List.take y9.1.1.length (List.drop (0:Nat) y9.1.1),
 List.take (1:Nat) (List.drop (0:Nat) [List.take y9.1.1.length (List.drop (0:Nat) y9.1.1)]),v5.2.1,v5.2.2.1,
 v5.2.2.2.1,v5.2.2.2.2.1,v5.2.2.2.2.2.1,v5.2.2.2.2.2.2.1,
 v5.2.2.2.2.2.2.2.1++v5.2.2.1.extract y7.toNat (IntKind.i64.wrap (y7+(1:Int))).toNat,
 v5.2.2.2.2.2.2.2.2.1,
 v5.2.2.2.2.2.2.2.2.2.1++
 List.take (1:Nat) (List.drop (0:Nat) [List.take y9.1.1.length (List.drop (0:Nat) y9.1.1)]),
 PUnit.unit))
 (P ((v5.2.2.2.2.2.2.1,v5.2.2.2.2.2.2.2.1,List.take v5.2.2.2.2.2.2.2.2.2.1.length (List.drop ((0:Nat)) v5.2.2.2.2.2.2.2.2.2.1),()),())))
 ((0:Int),n,str,g,Int.ofNat (nat_lit 0), {data:= #[]},n, {data:= #[]},[],[],PUnit.unit))=Hy Mu (look [(120,Ew)]) Ho Try.f72 (n,str,g,t,()) P:=by kernel_rfl
theorem Bf1 (p:Int×ByteArray×List (List Int)×Unit) (t:List Int) (f:List (List Int)×List Int×List Int×Bool×Unit) (s:List Int) (P:List Int→Prop):(((∃(y5:(Int×ByteArray×List (List Int)×PUnit)×PUnit),
 Ho.fn (p.1,p.2.1,p.2.2.1,t,())=some y5∧
 ∃(y6:(List Int×PUnit)×PUnit),
 Xv.fn (y5.1.1,y5.1.2.1,List.take y5.1.2.2.1.length (List.drop (0:Nat) y5.1.2.2.1),f.1,f.2.1,f.2.2.1,f.2.2.2.1,s,())=some y6∧
 (0:Nat)=(0:Nat)∧
 y6.1.1.length=y6.1.1.length∧
 Bx
 (fun (v7:Int×List Int×PUnit) (k8:Int×List Int×PUnit→Prop)=>
 Br (decide (v7.1<(↑v7.2.1.length:Int)))
 (((0:Int)≤v7.1∧v7.1<(↑v7.2.1.length:Int))∧
 ∃(y9:Int),
 v7.2.1[(0:Nat)+v7.1.toNat]?=some y9∧
 Br (decide (y9>(0:Int)))
 (((0:Int)≤v7.1∧v7.1<(↑v7.2.1.length:Int))∧
 ∃(y10:Int),
 v7.2.1[(0:Nat)+v7.1.toNat]?=some y10∧
 ∃(y11:Int),
 idx t (IntKind.i64.wrap (y10-(1:Int)))=some y11∧
 ((0:Int)≤v7.1∧v7.1<(↑v7.2.1.length:Int))∧
 (0:Nat)+v7.1.toNat<v7.2.1.length∧
 (0:Nat)=(0:Nat)∧
 v7.2.1.length=(v7.2.1.set ((0:Nat)+v7.1.toNat) (IntKind.i64.wrap (y11+(1:Int)))).length∧
 k8 (IntKind.i64.wrap (v7.1+(1:Int)),v7.2.1.set ((0:Nat)+v7.1.toNat) (IntKind.i64.wrap (y11+(1:Int))),()))
 (((0:Int)≤v7.1∧v7.1<(↑v7.2.1.length:Int))∧
 ∃(y10:Int),
 v7.2.1[(0:Nat)+v7.1.toNat]?=some y10∧
 ∃(y11:Int),
 idx t (IntKind.i64.wrap (IntKind.i64.wrap ((0:Int)-y10)-(1:Int)))=some y11∧
 ((0:Int)≤v7.1∧v7.1<(↑v7.2.1.length:Int))∧
 (0:Nat)+v7.1.toNat<v7.2.1.length∧
 (0:Nat)=(0:Nat)∧
 v7.2.1.length=(v7.2.1.set ((0:Nat)+v7.1.toNat) (IntKind.i64.wrap (IntKind.i64.wrap ((0:Int)-y11)-(1:Int)))).length∧
 k8
 (IntKind.i64.wrap (v7.1+(1:Int)),v7.2.1.set ((0:Nat)+v7.1.toNat) (IntKind.i64.wrap (IntKind.i64.wrap ((0:Int)-y11)-(1:Int))),
 ())))
 (P (List.take v7.2.1.length (List.drop ((0:Nat)) v7.2.1))))
 ((0:Int),y6.1.1,PUnit.unit))∧
 ∃(y5:(Int×ByteArray×List (List Int)×PUnit)×PUnit),
 Ho.fn (p.1,p.2.1,p.2.2.1,t,())=some y5∧
 ∃(y6:(List Int×PUnit)×PUnit),
 Xv.fn (y5.1.1,y5.1.2.1,List.take y5.1.2.2.1.length (List.drop (0:Nat) y5.1.2.2.1),f.1,f.2.1,f.2.2.1,f.2.2.2.1,s,())=some y6∧
 (0:Nat)=(0:Nat)∧
 y6.1.1.length=y6.1.1.length∧
 Bx
 (fun (v7:Int×List Int×PUnit) (k8:Int×List Int×PUnit→Prop)=>
 Br (decide (v7.1<(↑v7.2.1.length:Int)))
 (((0:Int)≤v7.1∧v7.1<(↑v7.2.1.length:Int))∧
 ∃(y9:Int),
 v7.2.1[(0:Nat)+v7.1.toNat]?=some y9∧
 Br (decide (y9>(0:Int)))
 (((0:Int)≤v7.1∧v7.1<(↑v7.2.1.length:Int))∧
 ∃(y10:Int),
 v7.2.1[(0:Nat)+v7.1.toNat]?=some y10∧
 ∃(y11:Int),
 idx t (IntKind.i64.wrap (y10-(1:Int)))=some y11∧
 ((0:Int)≤v7.1∧v7.1<(↑v7.2.1.length:Int))∧
 (0:Nat)+v7.1.toNat<v7.2.1.length∧
 (0:Nat)=(0:Nat)∧
 v7.2.1.length=(v7.2.1.set ((0:Nat)+v7.1.toNat) (IntKind.i64.wrap (y11+(1:Int)))).length∧
 k8 (IntKind.i64.wrap (v7.1+(1:Int)),v7.2.1.set ((0:Nat)+v7.1.toNat) (IntKind.i64.wrap (y11+(1:Int))),()))
 (((0:Int)≤v7.1∧v7.1<(↑v7.2.1.length:Int))∧
 ∃(y10:Int),
 v7.2.1[(0:Nat)+v7.1.toNat]?=some y10∧
 ∃(y11:Int),
 idx t (IntKind.i64.wrap (IntKind.i64.wrap ((0:Int)-y10)-(1:Int)))=some y11∧
 ((0:Int)≤v7.1∧v7.1<(↑v7.2.1.length:Int))∧
 (0:Nat)+v7.1.toNat<v7.2.1.length∧
 (0:Nat)=(0:Nat)∧
 v7.2.1.length=(v7.2.1.set ((0:Nat)+v7.1.toNat) (IntKind.i64.wrap (IntKind.i64.wrap ((0:Int)-y11)-(1:Int)))).length∧
 k8
 (IntKind.i64.wrap (v7.1+(1:Int)),v7.2.1.set ((0:Nat)+v7.1.toNat) (IntKind.i64.wrap (IntKind.i64.wrap ((0:Int)-y11)-(1:Int))),
 ())))
 (P (List.take v7.2.1.length (List.drop ((0:Nat)) v7.2.1))))
 ((0:Int),y6.1.1,PUnit.unit))∧
 ∃(y5:(Int×ByteArray×List (List Int)×PUnit)×PUnit),
 Ho.fn (p.1,p.2.1,p.2.2.1,t,())=some y5∧
 ∃(y6:(List Int×PUnit)×PUnit),
 Xv.fn (y5.1.1,y5.1.2.1,List.take y5.1.2.2.1.length (List.drop (0:Nat) y5.1.2.2.1),f.1,f.2.1,f.2.2.1,f.2.2.2.1,s,())=some y6∧
 (0:Nat)=(0:Nat)∧
 y6.1.1.length=y6.1.1.length∧
 Bx
 (fun (v7:Int×List Int×PUnit) (k8:Int×List Int×PUnit→Prop)=>
 Br (decide (v7.1<(↑v7.2.1.length:Int)))
 (((0:Int)≤v7.1∧v7.1<(↑v7.2.1.length:Int))∧
 ∃(y9:Int),
 v7.2.1[(0:Nat)+v7.1.toNat]?=some y9∧
 Br (decide (y9>(0:Int)))
 (((0:Int)≤v7.1∧v7.1<(↑v7.2.1.length:Int))∧
 ∃(y10:Int),
 v7.2.1[(0:Nat)+v7.1.toNat]?=some y10∧
 ∃(y11:Int),
 idx t (IntKind.i64.wrap (y10-(1:Int)))=some y11∧
 ((0:Int)≤v7.1∧v7.1<(↑v7.2.1.length:Int))∧
 (0:Nat)+v7.1.toNat<v7.2.1.length∧
 (0:Nat)=(0:Nat)∧
 v7.2.1.length=(v7.2.1.set ((0:Nat)+v7.1.toNat) (IntKind.i64.wrap (y11+(1:Int)))).length∧
 k8 (IntKind.i64.wrap (v7.1+(1:Int)),v7.2.1.set ((0:Nat)+v7.1.toNat) (IntKind.i64.wrap (y11+(1:Int))),()))
 (((0:Int)≤v7.1∧v7.1<(↑v7.2.1.length:Int))∧
 ∃(y10:Int),
 v7.2.1[(0:Nat)+v7.1.toNat]?=some y10∧
 ∃(y11:Int),
 idx t (IntKind.i64.wrap (IntKind.i64.wrap ((0:Int)-y10)-(1:Int)))=some y11∧
 ((0:Int)≤v7.1∧v7.1<(↑v7.2.1.length:Int))∧
 (0:Nat)+v7.1.toNat<v7.2.1.length∧
 (0:Nat)=(0:Nat)∧
 v7.2.1.length=(v7.2.1.set ((0:Nat)+v7.1.toNat) (IntKind.i64.wrap (IntKind.i64.wrap ((0:Int)-y11)-(1:Int)))).length∧
 k8
 (IntKind.i64.wrap (v7.1+(1:Int)),v7.2.1.set ((0:Nat)+v7.1.toNat) (IntKind.i64.wrap (IntKind.i64.wrap ((0:Int)-y11)-(1:Int))),
 ())))
 (P (List.take v7.2.1.length (List.drop ((0:Nat)) v7.2.1))))
 ((0:Int),y6.1.1,PUnit.unit))=fnW tab (look [(72,Ho),(140,Xv)]) Wa Try.f90 (p,t,f,s,()) P:=by kernel_rfl
theorem Apq (p:Int×ByteArray×List (List Int)×Unit) (t s:List Int) (P:(List Int×Bool×Unit)→Prop):(∃(y4:(List (List Int)×List Int×List Int×Bool×PUnit)×(List (List Int)×List Int×List Int×Bool×PUnit)×Bool×PUnit),
 Aay.fn ((p.1,p.2.1,p.2.2.1,()),t,())=some y4∧
 Br (!y4.2.2.1) (P (List.take (0:Nat) (List.drop (0:Nat) []),false,()))
 (∃(y5:Bool),
 Rl.fn ((p.1,p.2.1,p.2.2.1,()),(y4.1.1,y4.1.2.1,y4.1.2.2.1,y4.1.2.2.2.1,()),s,())=some y5∧
 Br (!y5) (P (List.take (0:Nat) (List.drop (0:Nat) []),false,()))
 (∃(y6:Int),
 Gt.fn ((y4.2.1.1,y4.2.1.2.1,y4.2.1.2.2.1,y4.2.1.2.2.2.1,()),s,())=some y6∧
 Br (decide (y6<(0:Int))) (P (List.take (0:Nat) (List.drop (0:Nat) []),false,()))
 (∃(y7:List Int),
 Wa.fn ((p.1,p.2.1,p.2.2.1,()),t,(y4.2.1.1,y4.2.1.2.1,y4.2.1.2.2.1,y4.2.1.2.2.2.1,()),s,())=some y7∧
 ∃(y8:List Int×Bool×PUnit),Apd.fn (y7,())=some y8∧P (y8.1,y8.2.1,())))))=fnW tab (look [(65,Aay),(68,Rl),(69,Gt),(90,Wa),(89,Apd)]) Rq Try.f42 (p,t,s,()) P:=by kernel_rfl
theorem Bex (p:Int×ByteArray×List (List Int)×Unit) (a b:List Int) (P:Bool→Prop):(Br (decide ((↑a.length:Int)>(1048576:Int))) (P true)
 (Br (decide ((↑b.length:Int)>(1048576:Int))) (P true)
 (∃(y4:Int),
 Aph.fn ((p.1,p.2.1,p.2.2.1,()),(1048576:Int),())=some y4∧
 Br (decide (y4<(0:Int))) (P true)
 (∃(y5:(Int×ByteArray×List (List Int)×PUnit)×PUnit),
 Iu.fn (p.1,p.2.1,p.2.2.1,())=some y5∧
 ∃(y6:(List Int×PUnit)×PUnit),
 Ld.fn (a,())=some y6∧
 ∃(y7:(List Int×PUnit)×PUnit),
 Ld.fn (b,())=some y7∧
 ∃(y8:List Int×Bool×PUnit),
 Rq.fn
 ((y5.1.1,y5.1.2.1,List.take y5.1.2.2.1.length (List.drop (0:Nat) y5.1.2.2.1),()),List.take y6.1.1.length (List.drop (0:Nat) y6.1.1),
 List.take y7.1.1.length (List.drop (0:Nat) y7.1.1),())=
 some y8∧
 ∃(y9:(Int×ByteArray×List (List Int)×PUnit)×PUnit),
 Iu.fn (p.1,p.2.1,p.2.2.1,())=some y9∧
 ∃(y10:(List Int×PUnit)×PUnit),
 Ld.fn (a,())=some y10∧
 ∃(y11:(List Int×PUnit)×PUnit),
 Ld.fn (b,())=some y11∧
 ∃(y12:(List Int×Bool×PUnit)×PUnit),
 On.fn
 (y9.1.1,y9.1.2.1,List.take y9.1.2.2.1.length (List.drop (0:Nat) y9.1.2.2.1),List.take y10.1.1.length (List.drop (0:Nat) y10.1.1),
 List.take y11.1.1.length (List.drop (0:Nat) y11.1.1),())=
 some y12∧
 ∃(y13:Bool),
 Ct.fn (List.take y12.1.1.length (List.drop (0:Nat) y12.1.1),y8.1,())=some y13∧
 Br (!y13) (P false)
 (Br (!y12.1.2.1==y8.2.1) (P false)
 (∃(y14:Int×ByteArray×List (List Int)×PUnit),
 Api.fn ((p.1,p.2.1,p.2.2.1,()),())=some y14∧
 ∃(y15:Bool),
 Apc.fn ((y9.1.1,y9.1.2.1,List.take y9.1.2.2.1.length (List.drop (0:Nat) y9.1.2.2.1),()),y14,())=some y15∧
 Br (!y15) (P false)
 (∃(y16:(List Int×PUnit)×PUnit),
 Ld.fn (a,())=some y16∧
 ∃(y17:Bool),
 Ct.fn
 (List.take y10.1.1.length (List.drop (0:Nat) y10.1.1),List.take y16.1.1.length (List.drop (0:Nat) y16.1.1),())=
 some y17∧
 Br (!y17) (P false)
 (∃(y18:(List Int×PUnit)×PUnit),
 Ld.fn (b,())=some y18∧
 ∃(y19:Bool),
 Ct.fn
 (List.take y11.1.1.length (List.drop (0:Nat) y11.1.1),
 List.take y18.1.1.length (List.drop (0:Nat) y18.1.1),())=
 some y19∧
 Br (!y19) (P false)
 ((0:Nat)=(0:Nat)∧
 y9.1.2.2.1.length=y9.1.2.2.1.length∧
 ∃(y20:(Int×PUnit)×List (List Int)×PUnit),
 Kp.fn (y9.1.1,y9.1.2.1,y9.1.2.2.1,(1:Int),())=some y20∧
 (y20.2.1.length=y9.1.2.2.1.length∧y9.1.2.2.1.length=y9.1.2.2.1.length)∧
 (0:Nat)=(0:Nat)∧
 y10.1.1.length=y10.1.1.length∧
 ∃(y21:(Int×PUnit)×List Int×PUnit),
 Nk.fn (y10.1.1,y20.1.1,())=some y21∧
 (y21.2.1.length=y10.1.1.length∧y10.1.1.length=y10.1.1.length)∧
 (0:Nat)=(0:Nat)∧
 y11.1.1.length=y11.1.1.length∧
 ∃(y22:(Int×PUnit)×List Int×PUnit),
 Nk.fn (y11.1.1,y21.1.1,())=some y22∧
 (y22.2.1.length=y11.1.1.length∧y11.1.1.length=y11.1.1.length)∧
 Br (decide (y22.1.1<(0:Int))) (P false)
 (∃(y23:Bool),
 Ct.fn
 (List.take y12.1.1.length (List.drop (0:Nat) y12.1.1),y8.1,())=
 some y23∧
 Br (!y23) (P false)
 (Br (!y12.1.2.1==y8.2.1) (P false)
 ((0:Nat)=(0:Nat)∧
 y12.1.1.length=y12.1.1.length∧
 ∃(y24:(Int×PUnit)×List Int×PUnit),
 Nk.fn (y12.1.1,(1:Int),())=some y24∧
 (y24.2.1.length=y12.1.1.length∧
 y12.1.1.length=y12.1.1.length)∧
 ∃(y25:Int),
 Xw.fn
 (List.take y12.1.1.length (List.drop (0:Nat) y24.2.1),
 (1:Int),())=
 some y25∧
 Br (decide (y25<(0:Int))) (P false)
 (Br (y25 !=y24.1.1) (P false)
 (∃(y26:
 (Int×ByteArray×List (List Int)×PUnit)×PUnit),
 Iu.fn (p.1,p.2.1,p.2.2.1,())=
 some y26∧
 ∃(y27:(List Int×PUnit)×PUnit),
 Ld.fn (a,())=some y27∧
 ∃(y28:(List Int×PUnit)×PUnit),
 Ld.fn (b,())=some y28∧
 ∃(y29:(List Int×Bool×PUnit)×PUnit),
 On.fn
 (y26.1.1,y26.1.2.1,
 List.take y26.1.2.2.1.length
 (List.drop (0:Nat) y26.1.2.2.1),
 List.take y27.1.1.length
 (List.drop (0:Nat) y27.1.1),
 List.take y28.1.1.length
 (List.drop (0:Nat) y28.1.1),
 ())=
 some y29∧
 ∃(y30:Bool),
 Ct.fn
 (List.take y29.1.1.length
 (List.drop (0:Nat) y29.1.1),
 y8.1,())=
 some y30∧
 Br (!y30) (P false)
 (Br (!y29.1.2.1==y8.2.1)
 (P false)
 (∃(y31:Int),
 Xw.fn
 (List.take y12.1.1.length
 (List.drop (0:Nat)
 y24.2.1),
 (1:Int),())=
 some y31∧
 Br (decide (y31<(0:Int)))
 (P false)
 (Br (y31 !=y24.1.1) (P false)
 (P true))))))))))))))))))=fnW tab (look [(15,Aph),(42,Rq),(43,On),(17,Tg.b Api Iu),(18,Tg.b Ail Ld),(20,Apc),(21,Ct),(30,Kp),(31,Nk),(44,Xw)]) Ahb Try.f11 (p,a,b,()) P:=by kernel_rfl
theorem Anh:Sound Try.prog 129 Abz:=Afw.loose
theorem Akd {p:PP} (hw:Cd p=true):Iv p.2.2.1 (Ae p.2.2.1.length) (Ab p) (fun x=>x=(Ab p).getD 0 []) (Fw (Ab p) (Ah p)):=
 Auc (valid (Cn hw).1) (Yb (Cn hw).1) (Bby hw)
theorem Ui {p:PP} {x:List Int} (hx:x∈Ab p):(Ah p).getD ((Ab p).idxOf x) 0=Fw (Ab p) (Ah p) x:=by unfold Fw;rw [if_pos hx]
theorem Adp {p:PP} (hw:Cd p=true):Iv p.2.2.1 (Ae p.2.2.1.length) (Ab p) (fun x=>x=(Ab p).getD 0 []) (fun x=>(Ah p).getD ((Ab p).idxOf x) 0):=by
 have h:=Akd hw
 have hc:=Rt hw
 exact ⟨fun x hx=>by rw [Ui hx];exact h.nn x hx,fun x hx=>by rw [Ui hx];exact h.zero x hx,fun x hx l hl=>by rw [Ui hx,Ui (hc.next x hx l hl)];exact h.step x hx l hl,
  fun x hx h0=>by
   rw [Ui hx] at h0⊢
   obtain ⟨l,hl,e⟩:=h.down x hx h0
   exact ⟨l,hl,by rw [Ui (hc.next x hx l hl)];exact e⟩⟩
theorem Sb {p:PP} (hw:Cd p=true):(Ah p).length=(Ab p).length:=(Yb (Cn hw).1).len
theorem Aq8 {p:PP} (hw:Cd p=true):Bcl p (Ah p):=Bfd hw (Sb hw) (Adp hw)
theorem Bf6 {α β:Type} (P:α×β→Bool) (xs:List α) (ys:List β) {j:Nat} (h1:j<xs.length) (h2:j<ys.length):((xs.zip ys).take (j+1)).filter P=if P (xs[j],ys[j])=true then ((xs.zip ys).take j).filter P++ [(xs[j],ys[j])] else ((xs.zip ys).take j).filter P:=by
 have hz:j<(xs.zip ys).length:=by rw [List.length_zip];omega
 rw [List.take_add_one,List.getElem?_eq_getElem hz,Option.toList_some,List.filter_append,List.getElem_zip]
 by_cases h:P (xs[j],ys[j])=true
 ·rw [if_pos h,List.filter_cons_of_pos h];rfl
 ·rw [if_neg h,List.filter_cons_of_neg h];simp
theorem Bdv (e:Option XP) (i:Int) (h: ∃e':XP,e=some e'∧Aps e'∧0≤i∧i<(Ab e'.1).length):Hy Mu (look [(112,Hc)]) Qb Try.f167 (e,i,()) (fun (z:(List Int×List Int×Unit)×Unit)=>z=Azw e i):=by
 obtain ⟨e',rfl,hx,h1,h2⟩:=h
 obtain ⟨i0,rfl⟩:=Int.eq_ofNat_of_zero_le h1
 have hi0:i0<(Ab e'.1).length:=by omega
 have hwv:=Cn hx.1
 have hV:=valid hwv.1
 have hf:=hV.few
 have hdl:=Sb hx.1
 have hde:=Bd0 hx
 obtain ⟨ls,hls⟩: ∃ls,Ae e'.1.2.2.1.length=ls:=⟨_,rfl⟩
 have hlf:=Ai8 hV
 obtain ⟨N,hN⟩: ∃N,Io e'.1 i0=N:=⟨_,rfl⟩
 have hNl:N.length=ls.length:=by rw [←hN,←hls,Al8]
 have hNr: ∀t∈N,0≤t∧t<(Ah e'.1).length:=fun t ht=>by have:=Ar1 hx.1 i0 hi0 t (by rw [hN];exact ht);omega
 show Hy _ _ Qb _ _ (fun z=>z=(((Sq (Ae e'.1.2.2.1.length) (Io e'.1 ((i0:Nat):Int).toNat) (Ah e'.1) (i0:Int)).1,(Sq (Ae e'.1.2.2.1.length) (Io e'.1 ((i0:Nat):Int).toNat) (Ah e'.1) (i0:Int)).2,()),()))
 rw [Int.toNat_natCast,hls,hN]
 rw [hls] at hlf
 refine Eq.mp (Bew _ _ _) ⟨e',rfl,ls,(if_pos ⟨by show (0:Int)≤((e'.1.2.2.1.length:Nat):Int);omega,by show ((e'.1.2.2.1.length:Nat):Int)≤8;omega⟩).trans (congrArg some (by show Ae (((e'.1.2.2.1.length:Nat):Int)).toNat=_;rw [Int.toNat_natCast];exact hls)),e',rfl,N,by rw [←hN];exact Bi6 hx hi0,rfl,rfl,rfl,rfl,?_⟩
 refine Ao N.length (fun v=>v.1) (fun j v=>v.2.1=(((ls.zip N).take j).filter (fun q=>decide (Bv (Ah e'.1) q.2<Bv (Ah e'.1) (i0:Int)))).map Prod.1∧v.2.2.1=(((ls.zip N).take j).filter (fun q=>decide (Bv (Ah e'.1) q.2<Bv (Ah e'.1) (i0:Int)))).map Prod.2∧v.2.1.length≤j∧v.2.2.1.length≤j) rfl ⟨rfl,rfl,Nat.le_refl _,Nat.le_refl _⟩ ?_
 rintro j ⟨jj,a,b,⟨⟩⟩ K hj hji ⟨r1,r2,r3,r4⟩ hK
 dsimp only at hji r1 r2 r3 r4⊢
 subst hji
 refine Br.dec (fun hl=>?_) fun hl=>?_
 ·have hl:j<N.length:=by omega
  have hjl:j<ls.length:=by omega
  have ht:=hNr _ (List.getElem_mem hl)
  have hzt:=Bf6 (fun q=>decide (Bv (Ah e'.1) q.2<Bv (Ah e'.1) (i0:Int))) ls N hjl hl
  refine ⟨_,Aw hl,e',rfl,_,by rw [hde];exact Lm ht.1 ht.2,e',rfl,_,by rw [hde];exact Lm (y:=(i0:Int)) (by omega) (by omega),Br.dec (fun hb=>?_) fun hb=>?_⟩
  ·rw [if_pos (decide_eq_true hb)] at hzt
   refine ⟨_,Aw hjl,rfl,rfl,?_,rfl,rfl,?_,rfl,rfl,rfl,rfl,?_⟩
   ·show a.length+1≤4294967296;omega
   ·show b.length+1≤4294967296;omega
   ·rw [An (by omega)]
    refine hK hl _ rfl ⟨?_,?_,?_,?_⟩
    ·show a++ [ls[j]]=_
     rw [hzt,List.map_append,r1];rfl
    ·show b++ [N[j]]=_
     rw [hzt,List.map_append,r2];rfl
    ·show (a++ [ls[j]]).length≤j+1
     rw [List.length_append,List.length_singleton];omega
    ·show (b++ [N[j]]).length≤j+1
     rw [List.length_append,List.length_singleton];omega
  ·rw [if_neg (by simpa using hb)] at hzt
   refine ⟨rfl,rfl,rfl,rfl,?_⟩
   rw [An (by omega)]
   refine hK hl _ rfl ⟨?_,?_,by show a.length≤j+1;omega,by show b.length≤j+1;omega⟩
   ·rw [hzt];exact r1
   ·rw [hzt];exact r2
 ·have:j=N.length:=by omega
  subst this
  rw [List.take_of_length_le (by rw [List.length_zip];omega)] at r1 r2
  rw [Bi,Bi,r1,r2]
  rfl
theorem Arw:Bn Try.prog 167 Qb:=
 Bn.mkM Mh (Ag Uv As) mixed Try.func167 (by kernel_rfl) (by kernel_rfl) fun x h=>Bdv x.1 x.2.1 h
theorem Aez {α:Type} {P:α→Bool} : ∀(l:List α) (k:Nat) (h:k<l.length),P l[k]=true→(∀j (hj:j<k),P (l[j]'(by omega))=false)→ ∃r,l.filter P=l[k]::r
 | [],k,h,_,_=>by simp at h
 |y::r,0,_,h1,_=>⟨_,List.filter_cons_of_pos (show P y=true from h1)⟩
 |y::r,k+1,h,h1,h2=>by
  rw [List.filter_cons_of_neg (by have:=h2 0 (by omega);simp at this;simp [this])]
  exact Aez r k (by simpa using h) h1 fun j hj=>h2 (j+1) (by omega)
theorem Bhe (e:Option XP) (i:Int) (h: ∃e':XP,e=some e'∧Aps e'∧0≤i∧i<(Ab e'.1).length):Hy Mu (look [(167,Qb)]) Ab0 Try.f141 (e,i,()) (fun (z:(List Int×Bool×Unit)×Unit)=>z=Bdk e i):=by
 obtain ⟨e',rfl,hx,h1,h2⟩:=h
 have hwv:=Cn hx.1
 have hV:=valid hwv.1
 have hdl:=Sb hx.1
 have hde:=Bd0 hx
 have hd:=Aq8 hx.1
 show Hy _ _ Ab0 _ _ (fun z=>z=(Oi e'.1 i,()))
 unfold Oi Oh
 refine Eq.mp (Bhw _ _ _) ⟨e',rfl,Bv (Ah e'.1) i,by rw [hde];exact Lm h1 (by omega),Br.dec (fun hb=>by rw [if_pos hb];rfl) fun hb=>⟨rfl,rfl,?_⟩⟩
 rw [if_neg hb]
 have hnn: ∀k:Nat,k<(Ah e'.1).length→0≤Bv (Ah e'.1) (k:Int):=fun k hk=>by unfold Bv;rw [Int.toNat_natCast];exact hd.nn k hk
 obtain ⟨R,hRR⟩: ∃R,Ti (Io e'.1) (Ae e'.1.2.2.1.length) (Ah e'.1) (Bv (Ah e'.1) i).toNat i []=R:=⟨_,rfl⟩
 rw [hRR]
 obtain ⟨i0,rfl⟩:=Int.eq_ofNat_of_zero_le h1
 refine Bx.mk (fun v=> ∃(k:Nat) (w:List Int) (f:Nat),v=((k:Int),w,())∧k<(Ah e'.1).length∧Bv (Ah e'.1) (k:Int)≤f∧w.length+f≤200∧Ti (Io e'.1) (Ae e'.1.2.2.1.length) (Ah e'.1) f (k:Int) w=R) (fun v=>(Bv (Ah e'.1) v.1).toNat)
  ⟨i0,[],(Bv (Ah e'.1) (i0:Int)).toNat,rfl,by omega,by omega,by have:=hnn i0 (by omega);simp only [List.length_nil];omega,hRR⟩ ?_
 rintro v ⟨k,w,f,rfl,k1,k2,k3,k4⟩
 dsimp only
 refine ⟨e',rfl,Bv (Ah e'.1) (k:Int),by rw [hde];exact Lm (by omega) (by omega),Br.dec (fun hl=>?_) fun hl=>?_⟩
 ·have hl':0<(Ah e'.1).getD k 0:=by unfold Bv at hl;rwa [Int.toNat_natCast] at hl
  obtain ⟨f,rfl⟩: ∃f',f=f'+1:=⟨f-1,by omega⟩
  obtain ⟨t0,ht0,htl⟩:=hd.dn k (by omega) hl'
  have hgk:Bv (Ah e'.1) (k:Int)=(Ah e'.1).getD k 0:=by unfold Bv;rw [Int.toNat_natCast]
  have hany:(Io e'.1 k).any (fun y=>decide (Bv (Ah e'.1) y<Bv (Ah e'.1) (k:Int)))=true:=List.any_eq_true.2 ⟨t0,ht0,decide_eq_true (by rw [hgk];exact htl)⟩
  obtain ⟨n,n2,n3,q1,q2⟩:=Abt (Io e'.1 k) 0 hany
  have n3:Dq (fun y=>decide (Bv (Ah e'.1) y<Bv (Ah e'.1) (k:Int))) (Io e'.1 k) 0=(n:Int):=by rw [Nat.zero_add] at n3;exact n3
  have n1:n<(Ae e'.1.2.2.1.length).length:=by rw [←Al8 e'.1 k];exact n2
  obtain ⟨r1,r2⟩:=Ar1 hx.1 k (by omega) _ (List.getElem_mem n2)
  obtain ⟨t,n4⟩:=Int.eq_ofNat_of_zero_le r1
  have n6:Bv (Ah e'.1) (t:Int)<Bv (Ah e'.1) (k:Int):=by have:=of_decide_eq_true q1;rwa [n4] at this
  simp only [Ti] at k4
  rw [if_pos hl,Int.toNat_natCast,n3,Int.toNat_natCast,Cv n2,n4,Cv n1] at k4
  have hz:n<((Ae e'.1.2.2.1.length).zip (Io e'.1 k)).length:=by rw [List.length_zip];omega
  obtain ⟨rest,hrest⟩:=Aez (P:=fun q:Int×Int=>decide (Bv (Ah e'.1) q.2<Bv (Ah e'.1) (k:Int))) ((Ae e'.1.2.2.1.length).zip (Io e'.1 k)) n hz (by rw [List.getElem_zip];exact q1) fun j hj=>by rw [List.getElem_zip];exact q2 j hj
  rw [List.getElem_zip,n4] at hrest
  have hcl:Qb.fn (some e',(k:Int),())=some (((Ae e'.1.2.2.1.length)[n]::rest.map Prod.1,(t:Int)::rest.map Prod.2,()),()):=by
   refine (if_pos ⟨e',rfl,hx,by show (0:Int)≤(k:Int);omega,by show (k:Int)<((Ab e'.1).length:Int);omega⟩).trans (congrArg some ?_)
   show (((Sq (Ae e'.1.2.2.1.length) (Io e'.1 ((k:Nat):Int).toNat) (Ah e'.1) (k:Int)).1,(Sq (Ae e'.1.2.2.1.length) (Io e'.1 ((k:Nat):Int).toNat) (Ah e'.1) (k:Int)).2,()),())=_
   rw [Int.toNat_natCast]
   unfold Sq
   rw [hrest]
   rfl
  have h0:=hnn t (by omega)
  refine ⟨_,hcl,⟨by omega,by simp only [List.length_cons];omega⟩,(Ae e'.1.2.2.1.length)[n],rfl,rfl,rfl,?_,⟨by omega,by simp only [List.length_cons];omega⟩,(t:Int),rfl,rfl,rfl,⟨t,w++ [(Ae e'.1.2.2.1.length)[n]],f,rfl,by omega,by omega,by rw [List.length_append,List.length_singleton];omega,k4⟩,?_⟩
  ·show w.length+1≤4294967296;omega
  ·show (Bv (Ah e'.1) (t:Int)).toNat<(Bv (Ah e'.1) (k:Int)).toNat
   omega
 ·rw [Bi]
  have:Ti (Io e'.1) (Ae e'.1.2.2.1.length) (Ah e'.1) f (k:Int) w=(w,(k:Int)):=by
   cases f with
   |zero=>rfl
   |succ f=>simp only [Ti];rw [if_neg (by omega)]
  rw [this] at k4
  subst k4
  rfl
theorem Ays:Bn Try.prog 141 Ab0:=
 Bn.mkM Mh (Es Arw As) mixed Try.func141 (by kernel_rfl) (by kernel_rfl) fun x h=>Bhe x.1 x.2.1 h
theorem Bdr {p:PP} {i:Int} (hw:Cd p=true) (h1:0≤i) (h2:i<(Ab p).length):(Oi p i).1.length≤200:=by
 unfold Oi Oh
 split
 ·simp
 ·rename_i hb
  obtain ⟨i0,rfl⟩:=Int.eq_ofNat_of_zero_le h1
  have hd:=Aq8 hw
  have hg:Bv (Ah p) (i0:Int)=(Ah p).getD i0 0:=by unfold Bv;rw [Int.toNat_natCast]
  have hnn:=hd.nn i0 (by rw [Sb hw];omega)
  obtain ⟨_,r2,_⟩:=Ax3 hw hd (Adp hw) (see:=fun x=>x) (dep:=Fw (Ab p) (Ah p)) (fun _ _ _ _=>rfl) (fun x hx=>Ui hx) (Bv (Ah p) (i0:Int)).toNat i0 [] (by omega) (by rw [←hg];omega)
  rw [r2]
  simp only [List.length_nil]
  omega
theorem Aca {p:PP} (hw:Cd p=true) {d:List Int} (hd:Bcl p d): ∀(f:Nat) (i:Nat) (w:List Int),i<d.length→(∀l∈w,l∈Ae p.2.2.1.length)→ ∀l∈(Ti (Io p) (Ae p.2.2.1.length) d f (i:Int) w).1,l∈Ae p.2.2.1.length
 |0,i,w,_,h=>h
 |f+1,i,w,hi,h=>by
  simp only [Ti]
  split
  ·rename_i hl
   have hl':0<d.getD i 0:=by unfold Bv at hl;rwa [Int.toNat_natCast] at hl
   obtain ⟨n,n1,n2,n3,t,n4,n5,n6⟩:=Bff hw hd hi hl'
   rw [Int.toNat_natCast,n3,Int.toNat_natCast,Cv n2,n4,Cv n1]
   refine Aca hw hd f t _ n5 fun l hl2=>?_
   rcases List.mem_append.1 hl2 with h2|h2
   ·exact h l h2
   ·rw [List.mem_singleton.1 h2];exact List.getElem_mem n1
  ·exact h
theorem Ar2 {p:PP} {i:Int} (hw:Cd p=true) (h1:0≤i) (h2:i<(Ab p).length): ∀l∈(Oi p i).1,En (List.length p.2.2.1) l:=by
 unfold Oi Oh
 split
 ·intro l hl;cases hl
 ·obtain ⟨i0,rfl⟩:=Int.eq_ofNat_of_zero_le h1
  intro l hl
  exact Gh (Aca hw (Aq8 hw) _ i0 [] (by rw [Sb hw];omega) (fun l hl=>by cases hl) l hl)
theorem Ba6 {p:PP} {t:List Int} (hs:Bk p t=true) {l:Int} (hl:En (List.length (At p t).2.2.1) l):
  (l>0→0≤l-1∧l-1<t.length∧0≤Bv t (l-1)∧Bv t (l-1)<8)∧(¬l>0→0≤ -l-1∧ -l-1<t.length∧0≤Bv t (-l-1)∧Bv t (-l-1)<8):=by
 have hsub:=Tb hs
 have hlen:List.length (At p t).2.2.1=t.length:=List.length_map _
 rw [hlen] at hl
 have h8:=hsub.g8
 have key: ∀k:Int,0≤k→k<t.length→0≤Bv t k∧Bv t k<8:=fun k k1 k2=>by
  obtain ⟨kn,rfl⟩:=Int.eq_ofNat_of_zero_le k1
  have hk:kn<t.length:=by omega
  obtain ⟨j,e,hj⟩:=hsub.at' hk
  have:Bv t (kn:Int)=(j:Int):=by unfold Bv;rw [Int.toNat_natCast,Cv hk,e]
  rw [this];omega
 obtain ⟨l1,l2,l3⟩:=hl
 exact ⟨fun h=>⟨by omega,by omega,key _ (by omega) (by omega)⟩,fun h=>⟨by omega,by omega,key _ (by omega) (by omega)⟩⟩
theorem Ag3 {f:Int→Int} {w ys:List Int} {j:Nat} (hj:j<w.length) (hl:ys.length=w.length) (h1:ys.take j=(w.take j).map f) (h2:ys.drop j=w.drop j):
  (ys.set j (f w[j])).take (j+1)=(w.take (j+1)).map f∧(ys.set j (f w[j])).drop (j+1)=w.drop (j+1)∧ys.getD j 0=w[j]:=by
 have hjy:j<ys.length:=by omega
 refine ⟨?_,?_,?_⟩
 ·rw [List.take_add_one,List.take_set_of_le (by omega),h1,List.getElem?_set_self hjy,List.take_add_one,List.getElem?_eq_getElem hj,List.map_append]
  rfl
 ·rw [List.drop_set_of_lt (by omega)]
  have:=congrArg (List.drop 1) h2
  rwa [List.drop_drop,List.drop_drop] at this
 ·have:=congrArg (fun z=>z[0]?) h2
  simp only [List.getElem?_drop,Nat.add_zero] at this
  rw [List.getElem?_eq_getElem hjy,List.getElem?_eq_getElem hj] at this
  rw [Cv hjy]
  exact Option.some.inj this
theorem Bfv (h:Option HP) (i:Int) (hh: ∃p t,La p t=true∧h=some (Ii p t)∧0≤i∧i<(Ab p).length):Hy Mu (look [(101,Us),(141,Ab0)]) Xx Try.f91 (h,i,()) (fun (z:(List Int×Bool×Unit)×Unit)=>z=Auh h i):=by
 obtain ⟨p,t,hw,rfl,h1,h2⟩:=hh
 obtain ⟨k,rfl⟩:=Int.eq_ofNat_of_zero_le h1
 have hk:k<(Ab p).length:=by omega
 obtain ⟨hwp,hm⟩:=Kg.1 hw
 have hst:=(Aje hwp).1
 have hws:=Ru hwp hm
 obtain ⟨s,hs⟩: ∃s,(Ab p)[k]=s:=⟨_,rfl⟩
 have hfd:Us.fn (some (Gz (At p t)),s,())=some (Nc (At p t) s):=if_pos ⟨⟨Gz (At p t),rfl,hws,rfl⟩,by rw [←hs];exact Be5 (Avr (Cn hwp).1 (List.getElem_mem hk))⟩
 show Hy _ _ Xx _ _ (fun z=>z=(Nd p t ((Ab p).getD ((k:Nat):Int).toNat []),()))
 rw [Int.toNat_natCast,Cv hk,hs]
 unfold Nd
 refine Eq.mp (Bgh _ _ _) ⟨Ii p t,rfl,Ii p t,rfl,Gz p,rfl,s,by rw [hst,←hs];exact Aw hk,_,hfd,?_⟩
 rw [Bgp]
 refine Br.of (fun hb=>?_) fun hb=>?_
 ·have hn:s∉Ab (At p t):=by simpa using hb
  rw [if_neg hn];rfl
 have hin:s∈Ab (At p t):=by simpa using hb
 rw [if_pos hin]
 obtain ⟨i1,i2,_⟩:=Bgo hin
 have hop:Ab0.fn (some (Gz (At p t)),(Nc (At p t) s).1,())=some (Oi (At p t) (Nc (At p t) s).1,()):=if_pos ⟨Gz (At p t),rfl,⟨hws,rfl⟩,i1,i2⟩
 have hln:=Bdr hws i1 i2
 have hlt:=Ar2 hws i1 i2
 have hst8:=(Tb hm).few
 have hst9:=(Tb hm).g8
 refine ⟨Ii p t,rfl,_,hop,?_⟩
 generalize hO:Oi (At p t) (Nc (At p t) s).1=O at*
 obtain ⟨w,ok,⟨⟩⟩:=O
 dsimp only at hln hlt⊢
 cases ok with
 |false=>
  refine ⟨fun _=>?_,fun hb=>by simp at hb⟩
  have:w= []:=by
   unfold Oi Oh at hO
   split at hO
   ·simp only [Prod.mk.injEq] at hO;exact hO.1.symm
   ·simp only [Prod.mk.injEq] at hO;exact absurd hO.2.1 (by simp)
  subst this
  rfl
 |true=>
  refine ⟨fun hb=>by simp at hb,fun _=>⟨rfl,rfl,rfl,rfl,?_⟩⟩
  refine Ao w.length (fun v=>v.1) (fun j v=>v.2.1.length=w.length∧v.2.1.take j=(w.take j).map (Qh t)∧v.2.1.drop j=w.drop j) rfl ⟨rfl,rfl,rfl⟩ ?_
  rintro j ⟨jj,ys,⟨⟩⟩ K hj hji ⟨g1,g2,g3⟩ hK
  dsimp only at hji g1 g2 g3⊢
  subst hji
  refine Br.dec (fun hl=>?_) fun hl=>?_
  ·have hl:j<w.length:=by omega
   obtain ⟨e1,e2,e3⟩:=Ag3 (f:=Qh t) hl g1 g2 g3
   obtain ⟨b1,b2⟩:=Ba6 hm (hlt _ (List.getElem_mem hl))
   refine ⟨⟨by omega,by omega⟩,w[j],by rw [Bi7 (by omega),e3],Br.dec (fun hp=>?_) fun hp=>?_⟩
   ·obtain ⟨c1,c2,c3,c4⟩:=b1 hp
    have hsl:Qh t w[j]=Bv t (w[j]-1)+1:=if_pos hp
    refine ⟨Ii p t,rfl,Bv t (w[j]-1),by rw [Bj (n:=w[j]-1) (by omega) (by omega)];exact Lm c1 c2,⟨by omega,by omega⟩,by rw [Int.toNat_natCast];omega,rfl,by rw [List.length_set],rfl,by rw [List.length_set],?_⟩
    rw [An (by omega),Int.toNat_natCast,Nat.zero_add,Bj (n:=Bv t (w[j]-1)+1) (by omega) (by omega),←hsl]
    exact hK hl _ rfl ⟨by rw [List.length_set];exact g1,e1,e2⟩
   ·obtain ⟨c1,c2,c3,c4⟩:=b2 hp
    have hsl:Qh t w[j]= -(Bv t (-w[j]-1)+1):=if_neg hp
    have e5:IntKind.i64.wrap (IntKind.i64.wrap (0-w[j])-1)= -w[j]-1:=by rw [Bj (n:=0-w[j]) (by omega) (by omega),Bj (by omega) (by omega)];omega
    have e6:IntKind.i64.wrap (0-IntKind.i64.wrap (Bv t (-w[j]-1)+1))=Qh t w[j]:=by rw [Bj (n:=Bv t (-w[j]-1)+1) (by omega) (by omega),Bj (by omega) (by omega),hsl];omega
    refine ⟨Ii p t,rfl,Bv t (-w[j]-1),by rw [e5];exact Lm c1 c2,⟨by omega,by omega⟩,by rw [Int.toNat_natCast];omega,rfl,by rw [List.length_set],rfl,by rw [List.length_set],?_⟩
    rw [An (by omega),Int.toNat_natCast,Nat.zero_add,e6]
    exact hK hl _ rfl ⟨by rw [List.length_set];exact g1,e1,e2⟩
  ·have:j=w.length:=by omega
   subst this
   rw [Bi]
   rw [←g1,List.take_length,g1,List.take_length] at g2
   rw [g2]
theorem Avo:Bn Try.prog 91 Xx:=
 Bn.mkM Mh (Ag Alx (Es Ays As)) mixed Try.func91 (by kernel_rfl) (by kernel_rfl) fun x h=>Bfv x.1 x.2.1 h
theorem Bb8 (n:Int) (str:ByteArray) (g:List (List Int)) (t s:List Int) (h:Cg (n,str,g,())∧short t∧short s):
  Hy Mu (look [(70,Ki),(91,Xx)]) On Try.f43 (n,str,g,t,s,()) (fun (z:(List Int×Bool×Unit)×Unit)=>z=(((Fc (n,str,g,()) t s).1,(Fc (n,str,g,()) t s).2.1,()),())):=by
 obtain ⟨p,hpe⟩: ∃p:PP,p=(n,str,g,()):=⟨_,rfl⟩
 refine Eq.mp (Bcb n str g t s _) ?_
 rw [←hpe] at h⊢
 unfold Fc
 by_cases hw:La p t=true
 ·have he:Ki.fn (p,t,s,())=some (some (Ii p t),(Nc p s).1,(Nc p s).2.1,()):=(if_pos h).trans (congrArg some (if_pos hw))
  rw [hw,Bool.true_and]
  refine ⟨_,he,?_⟩
  dsimp only
  rw [Bgp]
  refine Br.of (fun hb=>?_) fun hb=>?_
  ·rw [if_neg (Cu hb)];rfl
  have hin:s∈Ab p:=by simpa using hb
  obtain ⟨i1,i2,i3⟩:=Bgo hin
  rw [if_pos (decide_eq_true hin)]
  refine ⟨_,if_pos ⟨p,t,hw,rfl,i1,i2⟩,?_⟩
  show ((List.take (Nd p t ((Ab p).getD (Nc p s).1.toNat [])).1.length (List.drop 0 (Nd p t ((Ab p).getD (Nc p s).1.toNat [])).1),(Nd p t ((Ab p).getD (Nc p s).1.toNat [])).2.1,()),())=_
  rw [i3,Bi]
 ·have he:Ki.fn (p,t,s,())=some (none,0,false,()):=(if_pos h).trans (congrArg some (if_neg hw))
  rw [Bool.not_eq_true _|>.mp hw,Bool.false_and,if_neg (by decide)]
  exact ⟨_,he,fun _=>rfl,fun hb=>by simp at hb⟩
theorem Anm:Bn Try.prog 43 On:=
 Bn.mkM Mh (Ag Am1 (Es Avo As)) mixed Try.func43 (by kernel_rfl) (by kernel_rfl) fun x h=>Bb8 x.1 x.2.1 x.2.2.1 x.2.2.2.1 x.2.2.2.2.1 h
theorem Av7 (n:Int) (str:ByteArray) (g:List (List Int)) (t:List Int) (h:Cg (n,str,g,())∧Bk (n,str,g,()) t=true):
  Hy Mu (look [(120,Ew)]) Ho Try.f72 (n,str,g,t,()) (fun (z:(Int×ByteArray×List (List Int)×Unit)×Unit)=>z=(((At (n,str,g,()) t).1,(At (n,str,g,()) t).2.1,(At (n,str,g,()) t).2.2.1,()),())):=by
 obtain ⟨hp,hsub⟩:=h
 have hs:=Tb hsub
 have hsize:=hs.size
 dsimp only at hsize
 refine Eq.mp (Awb n str g t _) ⟨rfl,rfl,rfl,rfl,?_⟩
 refine Ao t.length (fun v=>v.1) (fun j v=>v=((j:Int),n,str,g,0,ByteArray.empty,n,Mc str (t.take j),[],(t.take j).map fun k=>g.getD k.toNat [],())) rfl rfl ?_
 rintro j v K hj hi hR hK
 subst hR
 dsimp only
 have hlen:=hs.few
 have hg8:=hs.g8
 dsimp only at hlen hg8
 refine Br.dec (fun hl=>?_) fun hl=>?_
 ·have hl:j<t.length:=by omega
  obtain ⟨kn,hk,hkn⟩:=hs.at' hl
  dsimp only at hkn
  have hkb:kn<str.size:=by omega
  have hw:IntKind.i64.wrap ((kn:Int)+1)=(kn:Int)+1:=Bj (by omega) (by omega)
  have hsz:=Wg (b:=str) (t.take j) fun k hk'=>hs.in' k (List.mem_of_mem_take hk')
  have hex:(str.extract kn (kn+1)).size=1:=by rw [ByteArray.size_extract];omega
  have hsh:short g[kn]:=hp.2.2 _ (List.getElem_mem hkn)
  have hidx:idx g (kn:Int)=some g[kn]:=Aw hkn
  have hcl:Ew.fn (g[kn],())=some ((g[kn],()),()):=if_pos hsh
  have hmax:((t.take j).map fun k=>g.getD k.toNat []).length+(List.take 1 (List.drop 0 [List.take (g[kn]).length (List.drop 0 g[kn])])).length≤4294967296:=by
   show ((t.take j).map _).length+1≤4294967296
   rw [List.length_map];have:=List.length_take_le j t;omega
  refine ⟨_,Aw hl,?_⟩
  rw [hk,hw]
  refine ⟨⟨by omega,by omega,by omega⟩,by rw [show ((kn:Int)+1).toNat=kn+1 by omega,Int.toNat_natCast,hex,hsz];have:=List.length_take_le j t;omega,_,hidx,_,hcl,rfl,rfl,hmax,⟨rfl,rfl,rfl,rfl,?_⟩,?_⟩
  ·rw [An (by omega),show ((kn:Int)+1).toNat=kn+1 by omega,Int.toNat_natCast]
   refine hK hl _ rfl ?_
   rw [Ahn _ hl,map_take _ hl,hk,Int.toNat_natCast,show ((kn:Int)+1).toNat=kn+1 by omega,Cv hkn,Bi]
   rfl
  ·repeat' (first|exact ⟨rfl,rfl⟩|exact rfl|exact hmax|refine ⟨_,hidx,?_⟩|refine ⟨_,hcl,?_⟩|refine ⟨?_,?_⟩)
 ·have:j=t.length:=by omega
  subst this
  rw [List.take_length,Bi]
  rfl
theorem Aj8:Bn Try.prog 72 Ho:=
 Bn.mkM Mh (Es Aj2 As) mixed Try.func72 (by kernel_rfl) (by kernel_rfl) fun x h=>Av7 x.1 x.2.1 x.2.2.1 x.2.2.2.1 h
theorem Agd {p:PP} (hw:Cd p=true) {x:List Int} (hx:x∈Ab p):0≤Fw (Ab p) (Ah p) x∧Fw (Ab p) (Ah p) x≤3000:=by
 have hok:=Yb (Cn hw).1
 have hfew:=hok.ok.few
 refine ⟨(Akd hw).nn x hx,?_⟩
 obtain ⟨i,hi,rfl⟩:=List.mem_iff_getElem.1 hx
 have hiD:i<(Ah p).length:=by rw [hok.len];exact hi
 have h1:=hok.dep i hiD
 have h2:Fw (Ab p) (Ah p) ((Ab p)[i])=(Ah p).getD i 0:=by
  rw [←Cv (d:= []) hi];exact Ado hok.ok.nodup hi
 rw [h2,Cv hiD]
 omega
theorem Bha (n0:Int) (str:ByteArray) (g L:List (List Int)) (D srt:List Int) (b:Bool) (s:List Int) (h:Cd (n0,str,g,())=true∧(L,D,srt,b,())=Bf g (upto n0.toNat)∧s∈Ab (n0,str,g,())):
  Hy Mu (look [(142,Hm),(143,Mr),(129,Abz)]) Xv Try.f140 (n0,str,g,L,D,srt,b,s,()) (fun (z:(List Int×Unit)×Unit)=>z=((Sr (n0,str,g,()) s,()),())):=by
 obtain ⟨hw,hse,hs⟩:=h
 obtain ⟨p,hpe⟩: ∃p:PP,(n0,str,g,())=p:=⟨_,rfl⟩
 have e1:n0=p.1:=by rw [←hpe]
 have e2:str=p.2.1:=by rw [←hpe]
 have e3:g=p.2.2.1:=by rw [←hpe]
 rw [hpe] at hw hs
 have hL:L=(Bf p.2.2.1 (upto p.1.toNat)).1:=by rw [←e3,←e1,←hse]
 have hD:D=(Bf p.2.2.1 (upto p.1.toNat)).2.1:=by rw [←e3,←e1,←hse]
 have hS:srt=(Bf p.2.2.1 (upto p.1.toNat)).2.2.1:=by rw [←e3,←e1,←hse]
 have hB:b=(Bf p.2.2.1 (upto p.1.toNat)).2.2.2.1:=by rw [←e3,←e1,←hse]
 refine Eq.mp (Bhs n0 str g L D srt b s _) ?_
 rw [hpe,e1,e2,e3,hL,hD,hS,hB]
 clear hse hL hD hS hB hpe e1 e2 e3
 have hv:=(Cn hw).1
 have hV:=valid hv
 have hn:=hV.n
 have hok:=Yb hv
 have hfew:=hok.ok.few
 have hc:=Rt hw
 have hd:=Akd hw
 obtain ⟨ls,hls⟩: ∃ls,Ae p.2.2.1.length=ls:=⟨_,rfl⟩
 have hmem: ∀l∈ls,En (List.length p.2.2.1) l:=fun l hl=>Gh (hls▸hl)
 have hdp: ∀x,Fw (Ab p) (Ah p) x=Fw (Ab p) (Ah p) x:=fun x=>rfl
 rw [hls] at hc hd
 have hdo: ∀x:List Int,x.length=p.1.toNat→Mr.fn (((Bf p.2.2.1 (upto p.1.toNat)).1,(Bf p.2.2.1 (upto p.1.toNat)).2.1,(Bf p.2.2.1 (upto p.1.toNat)).2.2.1,(Bf p.2.2.1 (upto p.1.toNat)).2.2.2.1,()),x,())=some (Fw (Ab p) (Ah p) x):=fun x hx=>
  if_pos ⟨by show Cp x.length (Ab p) (Qc (Ab p));rw [hx];exact hok.ok,hok.len⟩
 have hlf:=Ai8 hV
 rw [hls] at hlf
 have hsl:=(Avr hv hs).1
 have hd0:0≤Fw (Ab p) (Ah p) s∧Fw (Ab p) (Ah p) s≤3000:=Agd hw hs
 unfold Sr
 rw [hls]
 refine ⟨ls,(if_pos hV.few.2).trans (congrArg some hls),_,hdo _ hsl,rfl,rfl,?_⟩
 obtain ⟨R,hR⟩: ∃R,Ahl p.2.2.1 (Fw (Ab p) (Ah p)) ls (Fw (Ab p) (Ah p) s).toNat s []=R:=⟨_,rfl⟩
 rw [hR]
 obtain ⟨n0,hn0⟩:=Int.eq_ofNat_of_zero_le hd0.1
 rw [hn0] at hR hd0⊢
 rw [Int.toNat_natCast] at hR
 refine Bx.mk (fun v=> ∃(x:List Int) (n:Nat) (w:List Int),v=(x,(n:Int),p.1,p.2.1,p.2.2.1,(Bf p.2.2.1 (upto p.1.toNat)).1,(Bf p.2.2.1 (upto p.1.toNat)).2.1,(Bf p.2.2.1 (upto p.1.toNat)).2.2.1,(Bf p.2.2.1 (upto p.1.toNat)).2.2.2.1,w,())∧x∈Ab p∧Fw (Ab p) (Ah p) x=n∧w.length+n≤3000∧Ahl p.2.2.1 (Fw (Ab p) (Ah p)) ls n x w=R) (fun v=>v.2.1.toNat)
  ⟨s,n0,[],rfl,hs,hn0,by simp only [List.length_nil];omega,hR⟩ ?_
 rintro v ⟨x,n,w,rfl,g1,g2,g3,g4⟩
 dsimp only
 refine Br.dec (fun hl=>⟨rfl,rfl,?_⟩) fun hl=>?_
 ·obtain ⟨n,rfl⟩: ∃n',n=n'+1:=⟨n-1,by omega⟩
  simp only [Ahl] at g4
  have hxl:x.length=p.1.toNat:=(Avr hv g1).1
  have hxr: ∀y∈x,0≤y∧y<p.1:=hok.row x g1
  have hwr:IntKind.i64.wrap (((n+1:Nat):Int)-1)=(n:Int):=by rw [Bj (by omega) (by omega)];omega
  rw [hwr]
  refine Ao ls.length (fun v=>v.2.1) (fun i v=>v=(x,(i:Int),p.1,p.2.1,p.2.2.1,(Bf p.2.2.1 (upto p.1.toNat)).1,(Bf p.2.2.1 (upto p.1.toNat)).2.1,(Bf p.2.2.1 (upto p.1.toNat)).2.2.1,(Bf p.2.2.1 (upto p.1.toNat)).2.2.2.1,w,())∧
   (ls.drop i).find? (fun l=>decide (Fw (Ab p) (Ah p) (Aa x (Af p.2.2.1 l))=n))=ls.find? (fun l=>decide (Fw (Ab p) (Ah p) (Aa x (Af p.2.2.1 l))=n))) rfl ⟨rfl,by rw [List.drop_zero]⟩ ?_
  rintro i v K hi hii ⟨rfl,hf⟩ hK
  dsimp only
  refine Br.dec (fun hil=>?_) fun hil=>?_
  ·have hil:i<ls.length:=by omega
   have hlm:=List.getElem_mem hil
   have hlet:=hmem _ hlm
   obtain ⟨nl,nr⟩:=Ajm hV hxr hlet
   have hnx:=hc.next x g1 _ hlm
   rw [List.drop_eq_getElem_cons hil] at hf
   refine ⟨_,Aw hil,_,if_pos ⟨hv,by show x.length≤20;omega,hxr,hlet⟩,_,hdo _ (by rw [←hxl];exact nl),Br.of (fun hb=>?_) fun hb=>?_⟩
   ·have hb:Fw (Ab p) (Ah p) (Aa x (Af p.2.2.1 ls[i]))=n:=by simpa using hb
    rw [List.find?_cons_of_pos (by simpa using hb)] at hf
    rw [←hf] at g4
    refine ⟨_,Aw hil,rfl,rfl,?_,rfl,rfl,⟨_,n,w++ [ls[i]],rfl,hnx,hb,by rw [List.length_append,List.length_singleton];omega,g4⟩,?_⟩
    ·show w.length+1≤4294967296;omega
    ·show ((n:Int)).toNat<(((n+1:Nat):Int)).toNat
     omega
   ·have hb: ¬Fw (Ab p) (Ah p) (Aa x (Af p.2.2.1 ls[i]))=n:=by simpa using hb
    rw [List.find?_cons_of_neg (by simpa using hb)] at hf
    refine ⟨rfl,rfl,?_⟩
    rw [An (by omega)]
    exact hK hil _ rfl ⟨rfl,hf⟩
  ·have:i=ls.length:=by omega
   subst this
   rw [List.drop_length,List.find?_nil] at hf
   obtain ⟨l,hlm,hle⟩:=hd.down x g1 (by rw [hdp,g2];omega)
   have:=List.find?_eq_none.1 hf.symm l hlm
   rw [hdp,hdp,g2] at hle
   exact absurd (decide_eq_true (by rw [hle];omega)) this
 ·rw [Bi]
  have:n=0:=by omega
  subst this
  rw [←g4]
  rfl
theorem Ayq:Bn Try.prog 140 Xv:=
 Bn.mkM Mh (Ag Yz (Ag Anj (Ag Anh As))) mixed Try.func140 (by kernel_rfl) (by kernel_rfl) fun x h=>Bha x.1 x.2.1 x.2.2.1 x.2.2.2.1 x.2.2.2.2.1 x.2.2.2.2.2.1 x.2.2.2.2.2.2.1 x.2.2.2.2.2.2.2.1 h
theorem Aeb {g:List (List Int)} {dep:List Int→Int} {ls:List Int} : ∀(n:Nat) (x w:List Int),(∀l∈w,l∈ls)→ ∀l∈(Ahl g dep ls n x w).1,l∈ls
 |0,x,w,h=>h
 |n+1,x,w,h=>by
  simp only [Ahl]
  split
  ·rename_i l hf
   refine Aeb n _ _ fun l' hl=>?_
   rcases List.mem_append.1 hl with h2|h2
   ·exact h l' h2
   ·rw [List.mem_singleton.1 h2];exact List.mem_of_find?_eq_some hf
  ·exact Aeb n x w h
theorem Ayy {g:List (List Int)} {dep:List Int→Int} {ls:List Int} : ∀(n:Nat) (x w:List Int),(Ahl g dep ls n x w).1.length≤w.length+n
 |0,x,w=>Nat.le_refl _
 |n+1,x,w=>by
  simp only [Ahl]
  split
  ·rename_i l hf
   have:=Ayy (g:=g) (dep:=dep) (ls:=ls) n (Aa x (Af g l)) (w++ [l])
   rw [List.length_append,List.length_singleton] at this
   omega
  ·have:=Ayy (g:=g) (dep:=dep) (ls:=ls) n x w
   omega
theorem Atj {p:PP} (hw:Cd p=true) {s:List Int} (hs:s∈Ab p):(Sr p s).length≤3000:=by
 have h1:=Ayy (g:=p.2.2.1) (dep:=Fw (Ab p) (Ah p)) (ls:=Ae p.2.2.1.length) (Fw (Ab p) (Ah p) s).toNat s []
 have h2:=Agd hw hs
 unfold Sr
 simp only [List.length_nil] at h1
 omega
theorem dup3 {A:Prop} (h:A):(A∧A)∧A:=⟨⟨h,h⟩,h⟩
theorem Be0 (p:PP) (t:List Int) (f:SS) (s:List Int) (h:Cg p∧La p t=true∧f=Bf (At p t).2.2.1 (upto p.1.toNat)∧s∈Ab (At p t)):fnW tab (look [(72,Ho),(140,Xv)]) Wa Try.f90 (p,t,f,s,()) (fun (z:List Int)=>z=Pv p t s):=by
 obtain ⟨hp,hw,rfl,hs⟩:=h
 obtain ⟨hwp,hm⟩:=Kg.1 hw
 have hws:=Ru hwp hm
 have hst8:=(Tb hm).few
 have hst9:=(Tb hm).g8
 refine Eq.mp (Bf1 p t _ s _) (dup3 ?_)
 have hln:=Atj hws hs
 have hlt: ∀l∈Sr (At p t) s,En (List.length (At p t).2.2.1) l:=fun l hl=>Gh (Aeb _ _ _ (fun l hl=>by cases hl) l hl)
 have hds:Xv.fn ((At p t).1,(At p t).2.1,(At p t).2.2.1,(Bf (At p t).2.2.1 (upto p.1.toNat)).1,(Bf (At p t).2.2.1 (upto p.1.toNat)).2.1,(Bf (At p t).2.2.1 (upto p.1.toNat)).2.2.1,(Bf (At p t).2.2.1 (upto p.1.toNat)).2.2.2.1,s,())=some ((Sr (At p t) s,()),()):=if_pos ⟨hws,rfl,hs⟩
 refine ⟨(((At p t).1,(At p t).2.1,(At p t).2.2.1,()),()),if_pos ⟨hp,hm⟩,((Sr (At p t) s,()),()),?_,rfl,rfl,?_⟩
 ·dsimp only
  rw [Bi]
  exact hds
 unfold Pv
 generalize Sr (At p t) s=w at*
 dsimp only
 refine Ao w.length (fun v=>v.1) (fun j v=>v.2.1.length=w.length∧v.2.1.take j=(w.take j).map (Qh t)∧v.2.1.drop j=w.drop j) rfl ⟨rfl,rfl,rfl⟩ ?_
 rintro j ⟨jj,ys,⟨⟩⟩ K hj hji ⟨g1,g2,g3⟩ hK
 dsimp only at hji g1 g2 g3⊢
 subst hji
 refine Br.dec (fun hl=>?_) fun hl=>?_
 ·have hl:j<w.length:=by omega
  obtain ⟨e1,e2,e3⟩:=Ag3 (f:=Qh t) hl g1 g2 g3
  obtain ⟨b1,b2⟩:=Ba6 hm (hlt _ (List.getElem_mem hl))
  have Ad:ys[0+((j:Nat):Int).toNat]?=some w[j]:=by rw [Bi7 (by omega),e3]
  refine ⟨⟨by omega,by omega⟩,w[j],Ad,Br.dec (fun hp=>?_) fun hp=>?_⟩
  ·obtain ⟨c1,c2,c3,c4⟩:=b1 hp
   have hsl:Qh t w[j]=Bv t (w[j]-1)+1:=if_pos hp
   refine ⟨⟨by omega,by omega⟩,w[j],Ad,Bv t (w[j]-1),by rw [Bj (n:=w[j]-1) (by omega) (by omega)];exact Lm c1 c2,⟨by omega,by omega⟩,by rw [Int.toNat_natCast];omega,rfl,by rw [List.length_set],?_⟩
   rw [An (by omega),Int.toNat_natCast,Nat.zero_add,Bj (n:=Bv t (w[j]-1)+1) (by omega) (by omega),←hsl]
   exact hK hl _ rfl ⟨by rw [List.length_set];exact g1,e1,e2⟩
  ·obtain ⟨c1,c2,c3,c4⟩:=b2 hp
   have hsl:Qh t w[j]= -(Bv t (-w[j]-1)+1):=if_neg hp
   have e5:IntKind.i64.wrap (IntKind.i64.wrap (0-w[j])-1)= -w[j]-1:=by rw [Bj (n:=0-w[j]) (by omega) (by omega),Bj (by omega) (by omega)];omega
   have e6:IntKind.i64.wrap (IntKind.i64.wrap (0-Bv t (-w[j]-1))-1)=Qh t w[j]:=by rw [Bj (n:=0-Bv t (-w[j]-1)) (by omega) (by omega),Bj (by omega) (by omega),hsl];omega
   refine ⟨⟨by omega,by omega⟩,w[j],Ad,Bv t (-w[j]-1),by rw [e5];exact Lm c1 c2,⟨by omega,by omega⟩,by rw [Int.toNat_natCast];omega,rfl,by rw [List.length_set],?_⟩
   rw [An (by omega),Int.toNat_natCast,Nat.zero_add,e6]
   exact hK hl _ rfl ⟨by rw [List.length_set];exact g1,e1,e2⟩
 ·have:j=w.length:=by omega
  subst this
  rw [Bi]
  rw [←g1,List.take_length,g1,List.take_length] at g2
  rw [g2]
theorem As1:Sound Try.prog 90 Wa:=
 Sound.mkS Cc (Es Aj8 (Es Ayq As)) mixed Try.func90 (by kernel_rfl) (by kernel_rfl) fun x h=>Be0 x.1 x.2.1 x.2.2.1 x.2.2.2.1 h
theorem Beu {p:PP} {t s:List Int} (hwp:Cd p=true) (hm:Bk p t=true) (hin:s∈Ab (At p t)):Nd p t s=Aot (Pv p t s):=by
 have hws:=Ru hwp hm
 have hi:=List.idxOf_lt_length_of_mem hin
 have hb:=Agd hws hin
 have hix:(Nc (At p t) s).1=(((Ab (At p t)).idxOf s:Nat):Int):=by unfold Nc;rw [if_pos hin]
 have hg:Bv (Ah (At p t)) (Nc (At p t) s).1=Fw (Ab (At p t)) (Ah (At p t)) s:=by
  rw [hix];unfold Bv;rw [Int.toNat_natCast];exact Ui hin
 have hsi:(Ab (At p t)).getD ((Ab (At p t)).idxOf s) []=s:=by rw [Cv hi];exact List.getElem_idxOf hi
 obtain ⟨r1,r2,_⟩:=Ax3 hws (Aq8 hws) (Adp hws) (see:=fun x=>x) (dep:=Fw (Ab (At p t)) (Ah (At p t))) (fun _ _ _ _=>rfl) (fun x hx=>Ui hx)
  (Fw (Ab (At p t)) (Ah (At p t)) s).toNat ((Ab (At p t)).idxOf s) [] hi (by rw [Ui hin];omega)
 rw [hsi] at r1
 have r1:_=Sr (At p t) s:=r1
 rw [r1] at r2
 simp only [List.length_nil,Nat.zero_add] at r2
 unfold Nd Oi Oh Aot Pv
 rw [if_pos hin,hg,List.length_map]
 by_cases h:Fw (Ab (At p t)) (Ah (At p t)) s>200
 ·rw [if_pos h,if_pos (by omega)];rfl
 ·rw [if_neg h,if_neg (by omega)]
  dsimp only
  rw [hix,r1]
theorem Bbf (p:PP) (t s:List Int) (h:Cg p∧short t∧short s):fnW tab (look [(65,Aay),(68,Rl),(69,Gt),(90,Wa),(89,Apd)]) Rq Try.f42 (p,t,s,()) (fun (z:List Int×Bool×Unit)=>z=Fc p t s):=by
 obtain ⟨hp,ht,hs⟩:=h
 unfold Fc
 by_cases hw:La p t=true
 ·have he:Aay.fn ((p.1,p.2.1,p.2.2.1,()),t,())=some (Bf p.2.2.1 (upto p.1.toNat),Bf (At p t).2.2.1 (upto p.1.toNat),true,()):=(if_pos ⟨hp,ht⟩).trans (congrArg some (if_pos hw))
  obtain ⟨hwp,hm⟩:=Kg.1 hw
  have hv:=(Cn hwp).1
  have hws:=Ru hwp hm
  rw [hw,Bool.true_and]
  refine Eq.mp (Apq p t s _) ⟨_,he,fun hb=>by simp at hb,fun _=>⟨_,if_pos ⟨hp,hs,hv,rfl⟩,Br.of (fun hin=>?_) fun hin=>?_⟩⟩
  ·rw [if_neg (Cu hin)];rfl
  have hin:s∈Ab p:=by simpa using hin
  have hl:=(Avr hv hin).1
  rw [if_pos (decide_eq_true hin)]
  refine ⟨Ts (Ab (At p t)) s,if_pos (by show Cp s.length (Ab (At p t)) (Qc (Ab (At p t)));rw [hl];exact (Yb (Amb hm)).ok),?_⟩
  unfold Ts
  by_cases h2:s∈Ab (At p t)
  ·rw [if_pos h2]
   refine Br.dec (fun hn=>absurd hn (by omega)) fun _=>⟨_,if_pos ⟨hp,hw,rfl,h2⟩,_,if_pos ?_,?_⟩
   ·show (Pv p t s).length≤4294967296
    unfold Pv
    rw [List.length_map]
    have:=Atj hws h2
    omega
   ·rw [Beu hwp hm h2]
  ·rw [if_neg h2]
   have:Nd p t s=([],false,()):=if_neg h2
   rw [this]
   exact Br.dec (fun _=>rfl) fun hn=>absurd (show (-1:Int)<0 by omega) hn
 ·have he:Aay.fn ((p.1,p.2.1,p.2.2.1,()),t,())=some ((Fe p).1,(Fe p).1,false,()):=(if_pos ⟨hp,ht⟩).trans (congrArg some (if_neg hw))
  rw [Bool.not_eq_true _|>.mp hw,Bool.false_and,if_neg (by decide)]
  exact Eq.mp (Apq p t s _) ⟨_,he,fun _=>rfl,fun hb=>by simp at hb⟩
theorem Anq:Sound Try.prog 42 Rq:=
 Sound.mkS Cc (Ag Ayp (Ag Anl (Ag Rd (Ag As1 (Ag Bbs As))))) mixed Try.func42 (by kernel_rfl) (by kernel_rfl) fun x h=>Bbf x.1 x.2.1 x.2.2.1 h
theorem Bc5 {p:PP} {t s:List Int} :short (Fc p t s).1:=by
 unfold Fc
 split
 ·rename_i h
  obtain ⟨hw,_⟩:=Bool.and_eq_true_iff.1 h
  obtain ⟨hwp,hm⟩:=Kg.1 hw
  by_cases hin:s∈Ab (At p t)
  ·rw [Beu hwp hm hin]
   unfold Aot
   split
   ·simp [short]
   ·show (Pv p t s).length≤4294967296
    omega
  ·have:Nd p t s=([],false,()):=if_neg hin
   rw [this];simp [short]
 ·simp [short]
theorem Bdw (p:PP) (a:List Int) (b:List Int) (h:Cg p∧short a∧short b):fnW tab (look [(15,Aph),(42,Rq),(43,On),(17,Tg.b Api Iu),(18,Tg.b Ail Ld),(20,Apc),(21,Ct),(30,Kp),(31,Nk),(44,Xw)]) Ahb Try.f11 (p,a,b,()) (fun (z:Bool)=>z=true):=by
 have h0:Cg (p.1,p.2.1,p.2.2.1,()):=h.1
 have h1:short a:=h.2.1
 have h2:short b:=h.2.2
 refine Eq.mp (Bex p a b _) ?_
 refine Br.dec (fun _=>rfl) fun hl_a=>?_
 refine Br.dec (fun _=>rfl) fun hl_b=>?_
 refine ⟨_,if_pos ⟨h0,Avd⟩,Br.dec (fun _=>rfl) fun hs_p=>?_⟩
 have hz_p:(((Ck p.2.2.1:Nat):Nat):Int)≤(1048576)-(Aag (p.1,p.2.1,p.2.2.1,()) (1048576))∧roomy (Aag (p.1,p.2.1,p.2.2.1,()) (1048576)):=Bej Avd hs_p
 have hy_p:=hz_p.1
 have hr_p:0≤Aag (p.1,p.2.1,p.2.2.1,()) (1048576)∧Aag (p.1,p.2.1,p.2.2.1,()) (1048576)≤4294967296:=hz_p.2
 have l0:low (1+(Ck p.2.2.1:Nat)):=⟨by omega,by omega⟩
 have l1:low (1+(Ck p.2.2.1:Nat)+(a.length:Nat)):=⟨by omega,by omega⟩
 have l2:low (1+(Ck p.2.2.1:Nat)+(a.length:Nat)+(b.length:Nat)):=⟨by omega,by omega⟩
 refine ⟨_,if_pos h0,_,if_pos h1,_,if_pos h2,?_⟩
 try simp only [Bi]
 refine ⟨_,if_pos ⟨h0,h1,h2⟩,_,if_pos h0,_,if_pos h1,_,if_pos h2,?_⟩
 try simp only [Bi]
 have hg0:short ((Fc p a b).1):=Bc5
 generalize he0:(Fc p a b).1=g0 at hg0
 generalize he1:(Fc p a b).2.1=g1
 refine ⟨_,if_pos ⟨h0,h1,h2⟩,?_⟩
 simp only [Bi,he0,he1]
 refine ⟨_,if_pos hg0,⟨fun he=>absurd (Ih _) (Cu he),fun _=>?_⟩⟩
 refine ⟨fun he=>Agc he,fun _=>?_⟩
 refine ⟨_,if_pos h0,_,if_pos h0,⟨fun he=>absurd (Axm _) (Cu he),fun _=>?_⟩⟩
 refine ⟨_,if_pos h1,?_⟩
 try simp only [Bi]
 refine ⟨_,if_pos h1,⟨fun he=>absurd (Ih _) (Cu he),fun _=>?_⟩⟩
 refine ⟨_,if_pos h2,?_⟩
 try simp only [Bi]
 refine ⟨_,if_pos h2,⟨fun he=>absurd (Ih _) (Cu he),fun _=>?_⟩⟩
 refine ⟨trivial,trivial,_,if_pos ⟨h0.2,Ajl,l0⟩,⟨Un _ _,trivial⟩,trivial,trivial,_,if_pos ⟨h1,l0⟩,⟨Ke _ _,trivial⟩,trivial,trivial,_,if_pos ⟨h2,l1⟩,⟨Ke _ _,trivial⟩,Br.dec (fun hn=>absurd l2.1 (Int.not_le.2 hn)) fun _=>?_⟩
 refine ⟨_,if_pos hg0,⟨fun he=>absurd (Ih _) (Cu he),fun _=>?_⟩⟩
 refine ⟨fun he=>Agc he,fun _=>?_⟩
 refine ⟨trivial,trivial,_,if_pos ⟨hg0,Ajl⟩,⟨Ke _ _,trivial⟩,?_⟩
 simp only [Awi]
 have hm0: ∀k,short (Gf k g0.length):=fun k=>by unfold short at*;rw [Ke];exact hg0
 refine ⟨_,if_pos ⟨hm0 _,Ajl⟩,?_⟩
 simp only [Acq]
 refine Br.dec (fun hn=>by omega) fun _=>⟨fun he=>by simp at he,fun _=>?_⟩
 refine ⟨_,if_pos h0,_,if_pos h1,_,if_pos h2,?_⟩
 try simp only [Bi]
 refine ⟨_,if_pos ⟨h0,h1,h2⟩,?_⟩
 simp only [Bi,he0,he1]
 refine ⟨_,if_pos hg0,⟨fun he=>absurd (Ih _) (Cu he),fun _=>?_⟩⟩
 refine ⟨fun he=>Agc he,fun _=>?_⟩
 refine ⟨_,if_pos ⟨hm0 _,Ajl⟩,?_⟩
 simp only [Acq]
 exact Br.dec (fun hn=>by omega) fun _=>⟨fun he=>by simp at he,fun _=>trivial⟩
theorem Arx:Sound Try.prog 11 Ahb:=
 Sound.mkS Cc (Ag Bbw (Ag Anq (Es Anm (Atk Bbx Aj9 (Atk Apn Am6 (Ag Bbr (Ag Apm (Es Ahh (Es Ain (Ag Avl As)))))))))) mixed Try.func11 (by kernel_rfl) (by kernel_rfl) fun x h=>Bdw x.1 x.2.1 x.2.2.1 h
end Go.Proofs.Ytebabhocakedaaa
