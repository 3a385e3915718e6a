/-
  Part 39 of the proof that the statement FnExactStateClassCount holds.
-/
import Derived.Test.YtebabhocakedaaaCStateClassCount37
namespace Go.Proofs.Ytebabhocakedaaa
open Go.RowKit
abbrev SS:Type:=List (List Int)×List Int×List Int×Bool×Unit
abbrev rLS:CK:= .row tL 25
abbrev rN:CK:= .row tI 3
def Ck (L:List (List Int)) (srt:List Int) (s:List Int):Nat:=(srt.takeWhile fun i=>Nn (L.getD i.toNat []) s).length
structure Cq (m:Nat) (L:List (List Int)) (srt:List Int):Prop where
 few:L.length≤3000
 len: ∀x∈L,x.length=m
 short:m≤20
 perm:srt.Perm (upto L.length)
 sorted:srt.Pairwise fun i j=>Nn (L.getD i.toNat []) (L.getD j.toNat [])=true
def Ah0 (L:List (List Int)) (s:List Int):Int:=if s∈L then (L.idxOf s:Int) else-1
def My (srt:List Int) (k:Nat) (x:Int):List Int:=srt.take k++x::srt.drop k
noncomputable abbrev Wr:Spec:=mkS (.pair Ab0 (.pair tL .unit)) tI false true (fun x=>Cq (List.length x.2.1) x.1.1 x.1.2.2.1) (fun x=>(Ck x.1.1 x.1.2.2.1 x.2.1:Int))
noncomputable abbrev Uw:Spec:=mkS (.pair Ab0 (.pair tL .unit)) tI false true (fun x=>Cq (List.length x.2.1) x.1.1 x.1.2.2.1) (fun x=>Ah0 x.1.1 x.2.1)
noncomputable abbrev Ad3:Be:=mkM [some 4,none,none] [(false,rLS),(false,rL),(false,rN),(false, .dat .bool),(false, .dat tL),(false, .dat tI)] false [some 4] [rLS,rL,rN, .dat .bool]
 (fun x=>Cq (List.length x.2.2.2.2.1) x.1 x.2.2.1∧List.length x.2.1≤3000) (fun x=>((x.1++ [x.2.2.2.2.1],x.2.1++ [x.2.2.2.2.2.1],My x.2.2.1 (Ck x.1 x.2.2.1 x.2.2.2.2.1) (List.length x.1),x.2.2.2.1,()),()))
def Sw (L:List (List Int)):List Int:=(List.range L.length).foldl (fun (S:List Int) (i:Nat)=>My S (Ck (L.take i) S (L.getD i [])) (i:Int)) []
def Fz (g:List (List Int)) (x:List Int) (d:Int):List Int→List (List Int)→List Int→List (List Int)×List Int×Bool
 | [],L,D=>(L,D,true)
 |l::ls,L,D=>if Aa x (Ad g l)∈L then Fz g x d ls L D else if L.length=3000 then (L,D,false) else Fz g x d ls (L++ [Aa x (Ad g l)]) (D++ [d+1])
def Hj (g:List (List Int)) (ls:List Int):Nat→Nat→List (List Int)→List Int→List (List Int)×List Int×Bool
 |0,_,L,D=>(L,D,true)
 |f+1,k,L,D=>if k<L.length then (match Fz g (L.getD k []) (D.getD k 0) ls L D with
  |(L',D',true)=>Hj g ls f (k+1) L' D'
  |(L',D',false)=>(L',D',false)) else (L,D,true)
def Fh (g:List (List Int)) (s:List Int):List (List Int)×List Int×Bool:=Hj g (Aq g.length) 3001 0 [s] [0]
def Hv (g:List (List Int)) (s:List Int):SS:=((Fh g s).1,(Fh g s).2.1,Sw (Fh g s).1,(Fh g s).2.2,())
noncomputable abbrev Cs:Spec:=mkS (.pair Db (.pair tL .unit)) Ab0 false false (fun x=>At x.1=true∧List.length x.2.1≤20∧ ∀y∈x.2.1,0≤y∧y<x.1.1) (fun x=>Hv x.1.2.2.1 x.2.1)
theorem Bfi (f:List (List Int)×List Int×List Int×Bool×Unit) (s:List Int) (P:Int→Prop):(Bo
 (fun (v3:Int×Int×List (List Int)×List Int×List Int×Bool×PUnit) (k4:Int×Int×List (List Int)×List Int×List Int×Bool×PUnit→Prop)=>
  Br (decide (v3.1<v3.2.1))
   ((2:Int)≠(0:Int)∧
    ∃(y5:Int),
     idx v3.2.2.2.2.1 (IntKind.i64.wrap ((IntKind.i64.wrap (v3.1+v3.2.1)).tdiv (2:Int)))=some y5∧
      ∃(y6:List Int),
       idx v3.2.2.1 y5=some y6∧
        ∃(y7:Bool),
         Ir.fn (y6,s,())=some y7∧
          Br y7
           (k4
            (IntKind.i64.wrap (IntKind.i64.wrap ((IntKind.i64.wrap (v3.1+v3.2.1)).tdiv (2:Int))+(1:Int)),v3.2.1,v3.2.2.1,v3.2.2.2.1,v3.2.2.2.2.1,
             v3.2.2.2.2.2.1,()))
           (k4 (v3.1,IntKind.i64.wrap ((IntKind.i64.wrap (v3.1+v3.2.1)).tdiv (2:Int)),v3.2.2.1,v3.2.2.2.1,v3.2.2.2.2.1,v3.2.2.2.2.2.1,())))
   (P v3.1))
 ((0:Int),(↑f.2.2.1.length:Int),f.1,f.2.1,f.2.2.1,f.2.2.2.1,PUnit.unit))=fnW tab (look [(135,Ir)]) Wr Try.f119 (f,s,()) P:=by kernel_rfl
theorem Bd4 (f:List (List Int)×List Int×List Int×Bool×Unit) (s:List Int) (P:Int→Prop):(∃(y3:Int),
 Wr.fn ((f.1,f.2.1,f.2.2.1,f.2.2.2.1,()),s,())=some y3∧
  Br (decide (y3<(↑f.2.2.1.length:Int)))
   (∃(y4:Int),
    idx f.2.2.1 y3=some y4∧
     ∃(y5:List Int),idx f.1 y4=some y5∧ ∃(y6:Bool),Bd.fn (y5,s,())=some y6∧Br y6 (∃(y7:Int),idx f.2.2.1 y3=some y7∧P y7) (P (-1:Int)))
   (P (-1:Int)))=fnW tab (look [(119,Wr),(59,Bd)]) Uw Try.f69 (f,s,()) P:=by kernel_rfl
theorem Bfh (L:List (List Int)) (D S:List Int) (b:Bool) (s:List Int) (d:Int) (P:((List (List Int)×List Int×List Int×Bool×Unit)×Unit)→Prop):(∃(y7:Int),
 Wr.fn ((List.take L.length (List.drop (0:Nat) L),List.take D.length (List.drop (0:Nat) D),List.take S.length (List.drop (0:Nat) S),b,()),s,())=some y7∧
  (0:Nat)=(0:Nat)∧
   S.length=S.length∧
    S.length+(List.take (1:Nat) (List.drop (0:Nat) [(0:Int)])).length≤Am∧
     ((0:Int)≤IntKind.i64.wrap (y7+(1:Int))∧
       IntKind.i64.wrap (y7+(1:Int))≤(↑(S++List.take (1:Nat) (List.drop (0:Nat) [(0:Int)])).length:Int)∧
        (↑(S++List.take (1:Nat) (List.drop (0:Nat) [(0:Int)])).length:Int)≤(↑(S++List.take (1:Nat) (List.drop (0:Nat) [(0:Int)])).length:Int))∧
      ((0:Int)≤y7∧
        y7≤(↑(S++List.take (1:Nat) (List.drop (0:Nat) [(0:Int)])).length:Int)∧
         (↑(S++List.take (1:Nat) (List.drop (0:Nat) [(0:Int)])).length:Int)≤(↑(S++List.take (1:Nat) (List.drop (0:Nat) [(0:Int)])).length:Int))∧
       ((0:Int)≤y7∧y7<(↑(S++List.take (1:Nat) (List.drop (0:Nat) [(0:Int)])).length:Int))∧
        (0:Nat)+y7.toNat<
          (Bk (S++List.take (1:Nat) (List.drop (0:Nat) [(0:Int)])) ((0:Nat)+(IntKind.i64.wrap (y7+(1:Int))).toNat)
            (List.take ((↑(S++List.take (1:Nat) (List.drop (0:Nat) [(0:Int)])).length:Int).toNat-(IntKind.i64.wrap (y7+(1:Int))).toNat)
             (List.take ((↑(S++List.take (1:Nat) (List.drop (0:Nat) [(0:Int)])).length:Int).toNat-y7.toNat)
              (List.drop ((0:Nat)+y7.toNat) (S++List.take (1:Nat) (List.drop (0:Nat) [(0:Int)])))))).length∧
         (0:Nat)=(0:Nat)∧
          L.length=L.length∧
           L.length+(List.take (1:Nat) (List.drop (0:Nat) [s])).length≤Am∧
            (0:Nat)=(0:Nat)∧
             D.length=D.length∧
              D.length+(List.take (1:Nat) (List.drop (0:Nat) [d])).length≤Am∧
               P
                ((List.take (L++List.take (1:Nat) (List.drop (0:Nat) [s])).length (List.drop (0:Nat) (L++List.take (1:Nat) (List.drop (0:Nat) [s]))),
                  List.take (D++List.take (1:Nat) (List.drop (0:Nat) [d])).length (List.drop (0:Nat) (D++List.take (1:Nat) (List.drop (0:Nat) [d]))),
                  List.take (S++List.take (1:Nat) (List.drop (0:Nat) [(0:Int)])).length
                   (List.drop (0:Nat)
                    ((Bk (S++List.take (1:Nat) (List.drop (0:Nat) [(0:Int)])) ((0:Nat)+(IntKind.i64.wrap (y7+(1:Int))).toNat)
                       (List.take ((↑(S++List.take (1:Nat) (List.drop (0:Nat) [(0:Int)])).length:Int).toNat-(IntKind.i64.wrap (y7+(1:Int))).toNat)
                        (List.take ((↑(S++List.take (1:Nat) (List.drop (0:Nat) [(0:Int)])).length:Int).toNat-y7.toNat)
                         (List.drop ((0:Nat)+y7.toNat) (S++List.take (1:Nat) (List.drop (0:Nat) [(0:Int)])))))).set
                     ((0:Nat)+y7.toNat) (↑L.length:Int))),
                  b,()),
                 ()))=Nj Aa6 (look [(119,Wr)]) Ad3 Try.f151 (L,D,S,b,s,d,()) P:=by kernel_rfl
theorem Be6 (p:Int×ByteArray×List (List Int)×Unit) (s:List Int) (P:(List (List Int)×List Int×List Int×Bool×Unit)→Prop):(∃(y3:List Int),
 Iq.fn (s,())=some y3∧
  ∃(y4:(List (List Int)×List Int×List Int×Bool×PUnit)×PUnit),
   Ad3.fn ([],[],[],false,y3,(0:Int),())=some y4∧
    ∃(y5:List Int),
     Mh.fn ((p.1,p.2.1,p.2.2.1,()),())=some y5∧
      (0:Nat)=(0:Nat)∧
       (0:Nat)=([]:List Int).length∧
        (0:Nat)=(0:Nat)∧
         (0:Nat)=([]:List Int).length∧
          (0:Nat)=(0:Nat)∧
           (0:Nat)=([]:List Int).length∧
            (0:Nat)=(0:Nat)∧
             y4.1.1.length=y4.1.1.length∧
              (0:Nat)=(0:Nat)∧
               y4.1.2.1.length=y4.1.2.1.length∧
                (0:Nat)=(0:Nat)∧
                 y4.1.2.2.1.length=y4.1.2.2.1.length∧
                  Bo
                   (fun (v6:Int×Int×ByteArray×List (List Int)×Bool×Bool×List (List Int)×List Int×List Int×List (List Int)×List Int×List Int×PUnit)
                     (k7:Int×Int×ByteArray×List (List Int)×Bool×Bool×List (List Int)×List Int×List Int×List (List Int)×List Int×List Int×PUnit→Prop)=>
                    Br (decide (v6.1<(↑v6.2.2.2.2.2.2.2.2.2.1.length:Int)))
                     ((0:Nat)=(0:Nat)∧
                      v6.2.2.2.2.2.2.1.length=v6.2.2.2.2.2.2.1.length∧
                       (0:Nat)=(0:Nat)∧
                        v6.2.2.2.2.2.2.2.1.length=v6.2.2.2.2.2.2.2.1.length∧
                         (0:Nat)=(0:Nat)∧
                          v6.2.2.2.2.2.2.2.2.1.length=v6.2.2.2.2.2.2.2.2.1.length∧
                           (0:Nat)=(0:Nat)∧
                            v6.2.2.2.2.2.2.2.2.2.1.length=v6.2.2.2.2.2.2.2.2.2.1.length∧
                             (0:Nat)=(0:Nat)∧
                              v6.2.2.2.2.2.2.2.2.2.2.1.length=v6.2.2.2.2.2.2.2.2.2.2.1.length∧
                               (0:Nat)=(0:Nat)∧
                                v6.2.2.2.2.2.2.2.2.2.2.2.1.length=v6.2.2.2.2.2.2.2.2.2.2.2.1.length∧
                                 Bo
                                  (fun
                                    (v8:
                                     Int×
                                      Int×
                                       ByteArray×
                                        List (List Int)×Bool×Bool×List (List Int)×List Int×List Int×List (List Int)×List Int×List Int×PUnit)
                                    (k9:
                                     Int×
                                       Int×
                                        ByteArray×
                                         List (List Int)×
                                          Bool×Bool×List (List Int)×List Int×List Int×List (List Int)×List Int×List Int×PUnit→
                                      Prop)=>
                                   Br (decide (v8.1<(↑y5.length:Int)))
                                    (((0:Int)≤v6.1∧v6.1<(↑v8.2.2.2.2.2.2.2.2.2.1.length:Int))∧
                                     ∃(y10:List Int),
                                      v8.2.2.2.2.2.2.2.2.2.1[(0:Nat)+v6.1.toNat]?=some y10∧
                                       ∃(y11:Int),
                                        idx y5 v8.1=some y11∧
                                         ∃(y12:List Int),
                                          Ut.fn ((v8.2.1,v8.2.2.1,v8.2.2.2.1,()),y10,y11,())=some y12∧
                                           ∃(y13:Int),
                                            Uw.fn
                                               ((List.take v8.2.2.2.2.2.2.2.2.2.1.length
                                                  (List.drop ((0:Nat)) v8.2.2.2.2.2.2.2.2.2.1),
                                                 List.take v8.2.2.2.2.2.2.2.2.2.2.1.length
                                                  (List.drop ((0:Nat)) v8.2.2.2.2.2.2.2.2.2.2.1),
                                                 List.take v8.2.2.2.2.2.2.2.2.2.2.2.1.length
                                                  (List.drop ((0:Nat)) v8.2.2.2.2.2.2.2.2.2.2.2.1),
                                                 v8.2.2.2.2.2.1,()),
                                                y12,())=
                                              some y13∧
                                             Br (decide (y13≥(0:Int)))
                                              ((0:Nat)=(0:Nat)∧
                                               v8.2.2.2.2.2.2.1.length=v8.2.2.2.2.2.2.1.length∧
                                                (0:Nat)=(0:Nat)∧
                                                 v8.2.2.2.2.2.2.2.1.length=v8.2.2.2.2.2.2.2.1.length∧
                                                  (0:Nat)=(0:Nat)∧
                                                   v8.2.2.2.2.2.2.2.2.1.length=v8.2.2.2.2.2.2.2.2.1.length∧
                                                    (0:Nat)=(0:Nat)∧
                                                     v8.2.2.2.2.2.2.2.2.2.1.length=v8.2.2.2.2.2.2.2.2.2.1.length∧
                                                      (0:Nat)=(0:Nat)∧
                                                       v8.2.2.2.2.2.2.2.2.2.2.1.length=
                                                         v8.2.2.2.2.2.2.2.2.2.2.1.length∧
                                                        (0:Nat)=(0:Nat)∧
                                                         v8.2.2.2.2.2.2.2.2.2.2.2.1.length=
                                                           v8.2.2.2.2.2.2.2.2.2.2.2.1.length∧
                                                          k9
                                                           (IntKind.i64.wrap (v8.1+(1:Int)),v8.2.1,v8.2.2.1,v8.2.2.2.1,
                                                            v8.2.2.2.2.1,v8.2.2.2.2.2.1,v8.2.2.2.2.2.2.1,
                                                            v8.2.2.2.2.2.2.2.1,v8.2.2.2.2.2.2.2.2.1,
                                                            v8.2.2.2.2.2.2.2.2.2.1,v8.2.2.2.2.2.2.2.2.2.2.1,
                                                            v8.2.2.2.2.2.2.2.2.2.2.2.1,()))
                                              (Br ((↑v8.2.2.2.2.2.2.2.2.2.1.length:Int)==(3000:Int))
                                               (P
                                                (List.take v8.2.2.2.2.2.2.2.2.2.1.length
                                                  (List.drop ((0:Nat)) v8.2.2.2.2.2.2.2.2.2.1),
                                                 List.take v8.2.2.2.2.2.2.2.2.2.2.1.length
                                                  (List.drop ((0:Nat)) v8.2.2.2.2.2.2.2.2.2.2.1),
                                                 List.take v8.2.2.2.2.2.2.2.2.2.2.2.1.length
                                                  (List.drop ((0:Nat)) v8.2.2.2.2.2.2.2.2.2.2.2.1),
                                                 v8.2.2.2.2.2.1,()))
                                               (((0:Int)≤v6.1∧v6.1<(↑v8.2.2.2.2.2.2.2.2.2.2.1.length:Int))∧
                                                ∃(y14:Int),
                                                 v8.2.2.2.2.2.2.2.2.2.2.1[(0:Nat)+v6.1.toNat]?=some y14∧
                                                  (0:Nat)=(0:Nat)∧
                                                   v8.2.2.2.2.2.2.2.2.2.1.length=v8.2.2.2.2.2.2.2.2.2.1.length∧
                                                    (0:Nat)=(0:Nat)∧
                                                     v8.2.2.2.2.2.2.2.2.2.2.1.length=v8.2.2.2.2.2.2.2.2.2.2.1.length∧
                                                      (0:Nat)=(0:Nat)∧
                                                       v8.2.2.2.2.2.2.2.2.2.2.2.1.length=
                                                         v8.2.2.2.2.2.2.2.2.2.2.2.1.length∧
                                                        ∃(y15:(List (List Int)×List Int×List Int×Bool×PUnit)×PUnit),
                                                         Ad3.fn
                                                            (v8.2.2.2.2.2.2.2.2.2.1,v8.2.2.2.2.2.2.2.2.2.2.1,
                                                             v8.2.2.2.2.2.2.2.2.2.2.2.1,v8.2.2.2.2.2.1,y12,
                                                             IntKind.i64.wrap (y14+(1:Int)),())=
                                                           some y15∧
                                                          (0:Nat)=(0:Nat)∧
                                                           v8.2.2.2.2.2.2.1.length=v8.2.2.2.2.2.2.1.length∧
                                                            (0:Nat)=(0:Nat)∧
                                                             v8.2.2.2.2.2.2.2.1.length=v8.2.2.2.2.2.2.2.1.length∧
                                                              (0:Nat)=(0:Nat)∧
                                                               v8.2.2.2.2.2.2.2.2.1.length=
                                                                 v8.2.2.2.2.2.2.2.2.1.length∧
                                                                (0:Nat)=(0:Nat)∧
                                                                 y15.1.1.length=y15.1.1.length∧
                                                                  (0:Nat)=(0:Nat)∧
                                                                   y15.1.2.1.length=y15.1.2.1.length∧
                                                                    (0:Nat)=(0:Nat)∧
                                                                     y15.1.2.2.1.length=y15.1.2.2.1.length∧
                                                                      k9
                                                                       (IntKind.i64.wrap (v8.1+(1:Int)),v8.2.1,
                                                                        v8.2.2.1,v8.2.2.2.1,v8.2.2.2.2.1,
                                                                        y15.1.2.2.2.1,v8.2.2.2.2.2.2.1,
                                                                        v8.2.2.2.2.2.2.2.1,
                                                                        v8.2.2.2.2.2.2.2.2.1,y15.1.1,
                                                                        y15.1.2.1,y15.1.2.2.1,()))))
                                    ((0:Nat)=(0:Nat)∧
                                     v8.2.2.2.2.2.2.1.length=v8.2.2.2.2.2.2.1.length∧
                                      (0:Nat)=(0:Nat)∧
                                       v8.2.2.2.2.2.2.2.1.length=v8.2.2.2.2.2.2.2.1.length∧
                                        (0:Nat)=(0:Nat)∧
                                         v8.2.2.2.2.2.2.2.2.1.length=v8.2.2.2.2.2.2.2.2.1.length∧
                                          (0:Nat)=(0:Nat)∧
                                           v8.2.2.2.2.2.2.2.2.2.1.length=v8.2.2.2.2.2.2.2.2.2.1.length∧
                                            (0:Nat)=(0:Nat)∧
                                             v8.2.2.2.2.2.2.2.2.2.2.1.length=v8.2.2.2.2.2.2.2.2.2.2.1.length∧
                                              (0:Nat)=(0:Nat)∧
                                               v8.2.2.2.2.2.2.2.2.2.2.2.1.length=v8.2.2.2.2.2.2.2.2.2.2.2.1.length∧
                                                k7
                                                 (IntKind.i64.wrap (v6.1+(1:Int)),v8.2.1,v8.2.2.1,v8.2.2.2.1,v8.2.2.2.2.1,
                                                  v8.2.2.2.2.2.1,v8.2.2.2.2.2.2.1,v8.2.2.2.2.2.2.2.1,
                                                  v8.2.2.2.2.2.2.2.2.1,v8.2.2.2.2.2.2.2.2.2.1,
                                                  v8.2.2.2.2.2.2.2.2.2.2.1,v8.2.2.2.2.2.2.2.2.2.2.2.1,())))
                                  ((0:Int),v6.2.1,v6.2.2.1,v6.2.2.2.1,v6.2.2.2.2.1,v6.2.2.2.2.2.1,v6.2.2.2.2.2.2.1,
                                   v6.2.2.2.2.2.2.2.1,v6.2.2.2.2.2.2.2.2.1,v6.2.2.2.2.2.2.2.2.2.1,
                                   v6.2.2.2.2.2.2.2.2.2.2.1,v6.2.2.2.2.2.2.2.2.2.2.2.1,PUnit.unit))
                     (P
                      (List.take v6.2.2.2.2.2.2.2.2.2.1.length (List.drop ((0:Nat)) v6.2.2.2.2.2.2.2.2.2.1),
                       List.take v6.2.2.2.2.2.2.2.2.2.2.1.length (List.drop ((0:Nat)) v6.2.2.2.2.2.2.2.2.2.2.1),
                       List.take v6.2.2.2.2.2.2.2.2.2.2.2.1.length (List.drop ((0:Nat)) v6.2.2.2.2.2.2.2.2.2.2.2.1),true,())))
                   ((0:Int),p.1,p.2.1,p.2.2.1,false,y4.1.2.2.2.1,[],[],[],y4.1.1,y4.1.2.1,y4.1.2.2.1,PUnit.unit))=fnW Bfc (look [(120,Iq),(151,Ad3),(142,Mh),(129,Ut),(69,Uw)]) Cs Try.f105 (p,s,()) P:=by kernel_rfl
theorem Aiq: ∀ {a b:List Int},Bf a b=0↔a=b
 | [],[]=>by simp [Bf]
 | [],_::_=>by simp [Bf]
 |_::_,[]=>by simp [Bf]
 |x::a,y::b=>by
  simp only [Bf,List.cons.injEq]
  by_cases h1:x<y
  ·rw [if_pos h1]
   exact ⟨fun h=>by omega,fun h=>by omega⟩
  ·rw [if_neg h1]
   by_cases h2:x>y
   ·rw [if_pos h2]
    exact ⟨fun h=>by omega,fun h=>by omega⟩
   ·rw [if_neg h2,Aiq]
    exact ⟨fun h=>⟨by omega,h⟩,fun h=>h.2⟩
theorem Axr: ∀(a b:List Int),Bf b a= -Bf a b
 | [],[]=>by simp [Bf]
 | [],_::_=>by simp [Bf]
 |_::_,[]=>by simp [Bf]
 |x::a,y::b=>by
  simp only [Bf]
  rcases Int.lt_trichotomy x y with h1|h1|h1
  ·simp [h1,show ¬y<x by omega]
  ·subst h1
   simp [Axr a b]
  ·simp [h1,show ¬x<y by omega]
theorem Ame: ∀ {a b c:List Int},Bf a b<0→Bf b c<0→Bf a c<0
 | [],[],_,h,_=>by simp [Bf] at h
 |_::_,[],_,h,_=>by simp [Bf] at h
 |_,_::_,[],_,h=>by simp [Bf] at h
 | [],_::_,_::_,_,_=>by simp [Bf]
 |x::a,y::b,z::c,h1,h2=>by
  simp only [Bf] at h1 h2⊢
  by_cases e1:x<y
  ·by_cases e2:y<z
   ·rw [if_pos (by omega)];omega
   ·rw [if_neg e2] at h2
    by_cases e3:y>z
    ·rw [if_pos e3] at h2;omega
    ·rw [if_pos (by omega)];omega
  ·rw [if_neg e1] at h1
   by_cases e2:x>y
   ·rw [if_pos e2] at h1;omega
   ·rw [if_neg e2] at h1
    by_cases e3:y<z
    ·rw [if_pos (by omega)];omega
    ·rw [if_neg e3] at h2
     by_cases e4:y>z
     ·rw [if_pos e4] at h2;omega
     ·rw [if_neg e4] at h2
      rw [if_neg (by omega),if_neg (by omega)]
      exact Ame h1 h2
theorem lt_iff {a b:List Int} :Nn a b=true↔Bf a b<0:=decide_eq_true_iff
theorem Az4 {a b c:List Int} (h1:Nn a b=true) (h2:Nn b c=true):Nn a c=true:=lt_iff.2 (Ame (lt_iff.1 h1) (lt_iff.1 h2))
theorem Acs (a:List Int):Nn a a=false:=by
 have:Bf a a=0:=Aiq.2 rfl
 unfold Nn;rw [this];rfl
theorem Bbt {a b:List Int} (h:Nn a b=false) (hne:a≠b):Nn b a=true:=by
 rw [lt_iff,Axr a b]
 have h1: ¬Bf a b<0:=fun h'=>by rw [lt_iff.2 h'] at h;cases h
 have h2:Bf a b≠0:=fun h'=>hne (Aiq.1 h')
 omega
theorem Abu {α:Type} (q:α→Bool): ∀(l:List α),l.Pairwise (fun i j=>q j=true→q i=true)→ ∀k (hk:k<l.length),k<(l.takeWhile q).length↔q l[k]=true
 | [],_,k,hk=>by simp at hk
 |a::l,h,k,hk=>by
  obtain ⟨h1,h2⟩:=List.pairwise_cons.1 h
  by_cases ha:q a=true
  ·rw [List.takeWhile_cons_of_pos ha]
   rcases k with _|k
   ·simpa using ha
   ·simp only [List.length_cons,List.getElem_cons_succ,Nat.add_lt_add_iff_right]
    exact Abu q l h2 k (by simpa using hk)
  ·rw [List.takeWhile_cons_of_neg ha]
   simp only [List.length_nil,Nat.not_lt_zero,false_iff]
   rcases k with _|k
   ·exact ha
   ·simp only [List.getElem_cons_succ]
    exact fun hq=>ha (h1 _ (List.getElem_mem _) hq)
theorem Cq.Ajf {m:Nat} {L:List (List Int)} {srt:List Int} (h:Cq m L srt):srt.length=L.length:=by rw [h.perm.length_eq,Ia]
theorem Cq.idx {m:Nat} {L:List (List Int)} {srt:List Int} (h:Cq m L srt) {k:Nat} (hk:k<srt.length):0≤srt[k]∧srt[k]<L.length:=Hw.1 (h.perm.mem_iff.1 (List.getElem_mem hk))
theorem Cq.Ux {m:Nat} {L:List (List Int)} {srt:List Int} (h:Cq m L srt) (s:List Int) {k:Nat} (hk:k<srt.length):k<Ck L srt s↔Nn (L.getD srt[k].toNat []) s=true:=
 Abu _ srt (h.sorted.imp fun hij hj=>Az4 hij hj) k hk
theorem Aya (L:List (List Int)) (srt s:List Int):Ck L srt s≤srt.length:=(List.takeWhile_sublist _).length_le
theorem Cq.inj {m:Nat} {L:List (List Int)} {srt:List Int} (h:Cq m L srt) {i j:Nat} (hi:i<L.length) (hj:j<L.length) (e:L[i]=L[j]):i=j:=by
 have mem: ∀i,i<L.length→(i:Int)∈srt:=fun i hi=>h.perm.mem_iff.2 (Hw.2 ⟨by omega,by omega⟩)
 obtain ⟨p,hp,ep⟩:=List.mem_iff_getElem.1 (mem i hi)
 obtain ⟨q,hq,eq⟩:=List.mem_iff_getElem.1 (mem j hj)
 have get: ∀i (hi:i<L.length),L.getD ((i:Int)).toNat []=L[i]:=fun i hi=>by rw [Int.toNat_natCast,List.getD_eq_getElem?_getD,List.getElem?_eq_getElem hi];rfl
 rcases Nat.lt_trichotomy p q with h1|h1|h1
 ·have:=List.pairwise_iff_getElem.1 h.sorted p q hp hq h1
  rw [ep,eq,get i hi,get j hj,e,Acs] at this
  cases this
 ·subst h1
  rw [ep] at eq
  omega
 ·have:=List.pairwise_iff_getElem.1 h.sorted q p hq hp h1
  rw [ep,eq,get i hi,get j hj,e,Acs] at this
  cases this
theorem Mm {L:List (List Int)} {k:Nat} (h:k<L.length):L.getD k []=L[k]:=by rw [List.getD_eq_getElem?_getD,List.getElem?_eq_getElem h];rfl
theorem Cq.Ao4 {m:Nat} {L:List (List Int)} {srt:List Int} (h:Cq m L srt) {s:List Int} :
  (∃hk:Ck L srt s<srt.length,L.getD srt[Ck L srt s].toNat []=s∧Ah0 L s=srt[Ck L srt s])∨(Ah0 L s= -1∧ ∀hk:Ck L srt s<srt.length,L.getD srt[Ck L srt s].toNat []≠s):=by
 by_cases hm:s∈L
 ·left
  obtain ⟨j,hj,rfl⟩:=List.mem_iff_getElem.1 hm
  obtain ⟨p,hp,ep⟩:=List.mem_iff_getElem.1 (h.perm.mem_iff.2 (Hw.2 ⟨by omega,by omega⟩):(j:Int)∈srt)
  have gj:L.getD srt[p].toNat []=L[j]:=by rw [ep,Int.toNat_natCast,Mm hj]
  have hs:Ck L srt L[j]=p:=by
   have h1: ¬p<Ck L srt L[j]:=fun h1=>by
    have:=(h.Ux L[j] hp).1 h1
    rw [gj,Acs] at this;cases this
   have h2: ¬Ck L srt L[j]<p:=fun h2=>by
    have h3:=(h.Ux L[j] (k:=Ck L srt L[j]) (by omega)).2 (by
     have:=List.pairwise_iff_getElem.1 h.sorted (Ck L srt L[j]) p (by omega) hp h2
     rw [gj] at this;exact this)
    omega
   omega
  have hx:L.idxOf L[j]=j:=by
   have h1:L.idxOf L[j]<L.length:=List.idxOf_lt_length_of_mem hm
   exact h.inj h1 hj (List.getElem_idxOf h1)
  refine ⟨by omega,?_,?_⟩
  ·simp only [hs];exact gj
  ·unfold Ah0
   rw [if_pos hm,hx]
   simp only [hs];exact ep.symm
 ·right
  refine ⟨by unfold Ah0;rw [if_neg hm],fun hk e=>hm ?_⟩
  have hi:=h.idx hk
  rw [Mm (by omega)] at e
  rw [←e]
  exact List.getElem_mem _
theorem Bbk (srt:List Int) (k:Nat) (x:Int):(My srt k x).Perm (x::srt):=by
 unfold My
 refine List.perm_middle.trans (List.Perm.cons x ?_)
 rw [List.take_append_drop]
theorem Cq.add {m:Nat} {L:List (List Int)} {srt s:List Int} (h:Cq m L srt) (hn:s∉L) (hl:s.length=m) (hr:L.length<3000):Cq m (L++ [s]) (My srt (Ck L srt s) L.length):=by
 have get1: ∀i∈srt,(L++ [s]).getD i.toNat []=L.getD i.toNat []:=fun i hi=>by
  have:=Hw.1 (h.perm.mem_iff.1 hi)
  rw [List.getD_eq_getElem?_getD,List.getD_eq_getElem?_getD,List.getElem?_append_left (by omega)]
 have get2:(L++ [s]).getD ((L.length:Int)).toNat []=s:=by
  rw [Int.toNat_natCast,List.getD_eq_getElem?_getD,List.getElem?_append_right (by omega),Nat.sub_self];rfl
 refine ⟨by rw [List.length_append,List.length_singleton];omega,fun x hx=>?_,h.short,?_,?_⟩
 ·rcases List.mem_append.1 hx with hx|hx
  ·exact h.len x hx
  ·rw [List.mem_singleton.1 hx];exact hl
 ·refine (Bbk _ _ _).trans ?_
  rw [List.length_append,List.length_singleton,Nx]
  exact (List.Perm.cons _ h.perm).trans (List.perm_append_singleton _ _).symm
 ·unfold My
  have hs:=h.sorted
  rw [←List.take_append_drop (Ck L srt s) srt] at hs
  obtain ⟨s1,s2,s3⟩:=List.pairwise_append.1 hs
  have mt: ∀i∈srt.take (Ck L srt s),i∈srt∧Nn (L.getD i.toNat []) s=true:=fun i hi=>by
   obtain ⟨k,hk,rfl⟩:=List.mem_iff_getElem.1 hi
   have hk2:k<Ck L srt s:=by rw [List.length_take] at hk;omega
   have hk3:k<srt.length:=by rw [List.length_take] at hk;omega
   rw [List.getElem_take]
   exact ⟨List.getElem_mem _,(h.Ux s hk3).1 hk2⟩
  have md: ∀i∈srt.drop (Ck L srt s),i∈srt∧Nn s (L.getD i.toNat [])=true:=fun i hi=>by
   obtain ⟨k,hk,rfl⟩:=List.mem_iff_getElem.1 hi
   rw [List.length_drop] at hk
   have hk3:Ck L srt s+k<srt.length:=by omega
   rw [List.getElem_drop]
   refine ⟨List.getElem_mem _,Bbt ?_ fun e=>hn ?_⟩
   ·exact Bool.eq_false_iff.2 fun hh=>by
     have:=(h.Ux s hk3).2 hh
     omega
   ·have hi:=h.idx hk3
    rw [Mm (by omega)] at e
    rw [←e];exact List.getElem_mem _
  refine List.pairwise_append.2 ⟨s1.imp_of_mem fun {a b} ha hb hab=>?_,List.pairwise_cons.2 ⟨fun b hb=>?_,s2.imp_of_mem fun {a b} ha hb hab=>?_⟩,fun a ha b hb=>?_⟩
  ·rw [get1 a (mt a ha).1,get1 b (mt b hb).1];exact hab
  ·rw [get2,get1 b (md b hb).1];exact (md b hb).2
  ·rw [get1 a (md a ha).1,get1 b (md b hb).1];exact hab
  ·rcases List.mem_cons.1 hb with rfl|hb
   ·rw [get2,get1 a (mt a ha).1];exact (mt a ha).2
   ·rw [get1 a (mt a ha).1,get1 b (md b hb).1];exact s3 a ha b hb
theorem Ws (L:List (List Int)) (s:List Int):Sw (L++ [s])=My (Sw L) (Ck L (Sw L) s) L.length:=by
 unfold Sw
 rw [List.length_append,List.length_singleton,List.range_succ,List.foldl_append]
 have e: ∀(is:List Nat) (S:List Int),(∀i∈is,i<L.length)→is.foldl (fun (S:List Int) (i:Nat)=>My S (Ck ((L++ [s]).take i) S ((L++ [s]).getD i [])) (i:Int)) S=is.foldl (fun (S:List Int) (i:Nat)=>My S (Ck (L.take i) S (L.getD i [])) (i:Int)) S:=by
  intro is
  induction is with
  |nil=>intro S _;rfl
  |cons i is ih=>
   intro S h
   have hi:=h i (by simp)
   rw [List.foldl_cons,List.foldl_cons,ih _ fun j hj=>h j (List.mem_cons_of_mem _ hj)]
   congr 2
   rw [List.take_append_of_le_length (by omega),List.getD_eq_getElem?_getD,List.getElem?_append_left hi,←List.getD_eq_getElem?_getD]
 rw [e _ _ fun i hi=>List.mem_range.1 hi]
 simp only [List.foldl_cons,List.foldl_nil]
 congr 2
 ·rw [List.take_append_of_le_length (Nat.le_refl _),List.take_length]
 ·rw [List.getD_eq_getElem?_getD,List.getElem?_append_right (by omega),Nat.sub_self];rfl
theorem Aet {m:Nat} (h:m≤20):Cq m [] []:=⟨by simp,fun x hx=>(by cases hx),h,by simp [upto],List.Pairwise.nil⟩
theorem Bbi {α:Type} {xs:List α} {y:Int} (h0:0≤y) (h:y.toNat<xs.length):idx xs y=some xs[y.toNat]:=by
 unfold idx
 rw [if_pos h0,List.getElem?_eq_getElem h]
theorem Bf0 (f:SS) (s:List Int) (h:Cq s.length f.1 f.2.2.1):fnW tab (look [(135,Ir)]) Wr Try.f119 (f,s,()) (fun (z:Int)=>z=(Ck f.1 f.2.2.1 s:Int)):=by
 obtain ⟨L,D,srt,b,⟨⟩⟩:=f
 dsimp only at h⊢
 have hle:=Aya L srt s
 have hl2:=h.Ajf
 have hfew:=h.few
 refine Eq.mp (Bfi (L,D,srt,b,()) s _) ?_
 refine Bo.mk (fun v=>v.2.2.1=L∧v.2.2.2.2.1=srt∧ ∃lo hi:Nat,v.1=lo∧v.2.1=hi∧lo≤hi∧hi≤srt.length∧lo≤Ck L srt s∧Ck L srt s≤hi) (fun v=>(v.2.1-v.1).toNat)
  ⟨rfl,rfl,0,srt.length,rfl,rfl,by omega,by omega,by omega,hle⟩ ?_
 rintro ⟨lo',hi',L',D',srt',b',⟨⟩⟩ ⟨h1,h2,lo,hi,h3,h4,h5,h6,h7,h8⟩
 dsimp only at h1 h2 h3 h4⊢
 subst h1 h2 h3 h4
 refine Br.dec (fun hl=>?_) fun hl=>?_
 ·have em:IntKind.i64.wrap ((IntKind.i64.wrap ((lo:Int)+(hi:Int))).tdiv 2)=(((lo+hi)/2:Nat):Int):=by
   rw [Bp (n:=(lo:Int)+(hi:Int)) (by omega) (by omega),Int.tdiv_eq_ediv_of_nonneg (by omega),Bp (by omega) (by omega)]
   omega
  rw [em]
  have hm1:(lo+hi)/2<srt'.length:=by omega
  have hi1:=h.idx hm1
  have hi2:srt'[(lo+hi)/2].toNat<L'.length:=by omega
  have hgd:=Mm hi2
  have hlen:=h.len _ (List.getElem_mem hi2)
  have hsh:short L'[srt'[(lo+hi)/2].toNat]:=by
   unfold short
   have:=h.short;omega
  refine ⟨by decide,_,Bc hm1,_,Bbi hi1.1 hi2,_,if_pos ⟨hsh,hlen⟩,⟨fun hc=>?_,fun hc=>?_⟩⟩
  ·have hc:Nn L'[srt'[(lo+hi)/2].toNat] s=true:=hc
   have hs:=(h.Ux s hm1).2 (by rw [hgd];exact hc)
   rw [Ak (by omega)]
   exact ⟨⟨rfl,rfl,(lo+hi)/2+1,hi,rfl,rfl,by omega,h6,by omega,h8⟩,by omega⟩
  ·have hc:Nn L'[srt'[(lo+hi)/2].toNat] s=false:=hc
   have hs: ¬(lo+hi)/2<Ck L' srt' s:=fun hh=>by
    have:=(h.Ux s hm1).1 hh
    rw [hgd,hc] at this;cases this
   exact ⟨⟨rfl,rfl,lo,(lo+hi)/2,rfl,rfl,by omega,by omega,h7,by omega⟩,by omega⟩
 ·show (lo:Int)=_
  omega
theorem Akk:Sound Try.prog 119 Wr:=
 Sound.mkS Cb (Ae Aa1 Ar) mixed Try.func119 (by kernel_rfl) (by kernel_rfl) fun x h=>Bf0 x.1 x.2.1 h
theorem Bc5 (f:SS) (s:List Int) (h:Cq s.length f.1 f.2.2.1):fnW tab (look [(119,Wr),(59,Bd)]) Uw Try.f69 (f,s,()) (fun (z:Int)=>z=Ah0 f.1 s):=by
 obtain ⟨L,D,srt,b,⟨⟩⟩:=f
 dsimp only at h⊢
 refine Eq.mp (Bd4 (L,D,srt,b,()) s _) ⟨_,if_pos h,Br.dec (fun hl=>?_) fun hl=>?_⟩
 ·have hl:Ck L srt s<srt.length:=by
   have hl:((Ck L srt s:Nat):Int)<(srt.length:Int):=hl
   omega
  have hi1:=h.idx hl
  have hi2:srt[Ck L srt s].toNat<L.length:=by omega
  have hgd:=Mm hi2
  have hlen:=h.len _ (List.getElem_mem hi2)
  have hsh:short L[srt[Ck L srt s].toNat]:=by
   unfold short
   have:=h.short;omega
  refine ⟨_,Bc hl,_,Bbi hi1.1 hi2,_,if_pos hsh,⟨fun hc=>⟨_,Bc hl,?_⟩,fun hc=>?_⟩⟩
  ·have hc:L[srt[Ck L srt s].toNat]=s:=of_decide_eq_true hc
   rcases h.Ao4 (s:=s) with ⟨hk,_,e⟩|⟨_,hne⟩
   ·exact e.symm
   ·exact absurd (by rw [hgd];exact hc) (hne hl)
  ·have hc: ¬L[srt[Ck L srt s].toNat]=s:=of_decide_eq_false hc
   rcases h.Ao4 (s:=s) with ⟨hk,e,_⟩|⟨e,_⟩
   ·rw [hgd] at e;exact absurd e hc
   ·exact e.symm
 ·have hl: ¬Ck L srt s<srt.length:=by
   have hl: ¬((Ck L srt s:Nat):Int)<(srt.length:Int):=hl
   omega
  rcases h.Ao4 (s:=s) with ⟨hk,e,_⟩|⟨e,_⟩
  ·exact absurd hk hl
  ·exact e.symm
theorem Aq6:Sound Try.prog 69 Uw:=
 Sound.mkS Cb (Ae Akk (Ae Pk Ar)) mixed Try.func69 (by kernel_rfl) (by kernel_rfl) fun x h=>Bc5 x.1 x.2.1 h
theorem Avk {S:List Int} {k:Nat} (h:k≤S.length) (n:Int):
  (Bk (S++ [0]) (k+1) (List.take ((S++ [0]).length-(k+1)) (List.take ((S++ [0]).length-k) (List.drop k (S++ [0]))))).set k n=My S k n:=by
 obtain ⟨A,B,rfl,hA⟩: ∃A B,S=A++B∧A.length=k:=⟨S.take k,S.drop k,(List.take_append_drop k S).symm,by rw [List.length_take];omega⟩
 subst hA
 have e1:List.drop A.length (A++B++ [0])=B++ [0]:=by rw [List.append_assoc,List.drop_left]
 have e2:List.take ((A++B++ [0]).length-A.length) (B++ [0])=B++ [0]:=List.take_of_length_le (by simp only [List.length_append,List.length_singleton];omega)
 have e3:List.take ((A++B++ [0]).length-(A.length+1)) (B++ [0])=B:=by
  have:(A++B++ [(0:Int)]).length-(A.length+1)=B.length:=by simp only [List.length_append,List.length_singleton];omega
  rw [this,List.take_left]
 rw [e1,e2,e3]
 unfold Bk My
 have e4:List.drop (A.length+1+B.length) (A++B++ [0])= []:=List.drop_eq_nil_of_le (by simp only [List.length_append,List.length_singleton];omega)
 obtain ⟨c,hc⟩: ∃c,List.take (A.length+1) (A++B++ [0])=A++ [c]:=by
  rw [List.append_assoc,List.take_append,List.take_of_length_le (by omega)]
  cases B with
  |nil=>exact ⟨0,by simp⟩
  |cons b B=>exact ⟨b,by simp⟩
 rw [e4,hc,List.append_nil,List.append_assoc,List.singleton_append,Apu,List.take_left,List.drop_left]
theorem Bez (L:List (List Int)) (D S:List Int) (b:Bool) (s:List Int) (d:Int) (h:Cq s.length L S∧D.length≤3000):
  Nj Aa6 (look [(119,Wr)]) Ad3 Try.f151 (L,D,S,b,s,d,()) (fun (z:(List (List Int)×List Int×List Int×Bool×Unit)×Unit)=>z=((L++ [s],D++ [d],My S (Ck L S s) L.length,b,()),())):=by
 obtain ⟨h,hD⟩:=h
 have hle:=Aya L S s
 have hl2:=h.Ajf
 have hfew:=h.few
 refine Eq.mp (Bfh L D S b s d _) ?_
 rw [Bq L,Bq D,Bq S]
 refine ⟨_,if_pos h,?_⟩
 dsimp only
 have es:List.take 1 (List.drop 0 [(0:Int)])= [0]:=rfl
 have el:(S++ [(0:Int)]).length=S.length+1:=by simp
 rw [es,Ak (by omega),Nat.zero_add,Nat.zero_add,Int.toNat_natCast,Int.toNat_natCast,Int.toNat_natCast]
 refine ⟨rfl,rfl,by show S.length+1≤4294967296;omega,⟨by omega,by omega,by omega⟩,⟨by omega,by omega,by omega⟩,⟨by omega,by omega⟩,?_,rfl,rfl,by show L.length+1≤4294967296;omega,rfl,rfl,by show D.length+1≤4294967296;omega,?_⟩
 ·unfold Bk
  simp only [List.length_append,List.length_take,List.length_drop,List.length_singleton]
  omega
 ·rw [Avk hle,Bq,Bq]
  have e5:List.take (S++ [(0:Int)]).length (List.drop 0 (My S (Ck L S s) (L.length:Int)))=My S (Ck L S s) (L.length:Int):=by
   rw [List.drop_zero,List.take_of_length_le]
   unfold My
   simp only [List.length_append,List.length_cons,List.length_take,List.length_drop,List.length_nil]
   omega
  rw [e5]
  rfl
theorem Awz:Bi Try.prog 151 Ad3:=
 Bi.mkM Tr (Ae Akk Ar) mixed Try.func151 (by kernel_rfl) (by kernel_rfl) fun x h=>Bez x.1 x.2.1 x.2.2.1 x.2.2.2.1 x.2.2.2.2.1 x.2.2.2.2.2.1 h
structure Pn (p:PP) (m:Nat) (L:List (List Int)) (D:List Int):Prop where
 ok:Cq m L (Sw L)
 len:D.length=L.length
 row: ∀x∈L,∀y∈x,0≤y∧y<p.1
 dep: ∀j (h:j<D.length),0≤D[j]∧D[j]≤j
theorem Ap2 {p:PP} (hv:Valid p) {x:List Int} {l:Int} (hx: ∀y∈x,0≤y∧y<p.1) (hl:Eu (List.length p.2.2.1) l):
  (Aa x (Ad p.2.2.1 l)).length=x.length∧ ∀y∈Aa x (Ad p.2.2.1 l),0≤y∧y<p.1:=by
 obtain ⟨h1,h2⟩:=Uo hv hl
 refine ⟨Jr _ _,fun y hy=>?_⟩
 have:=Sb (n:=(Ad p.2.2.1 l).length) (fun z hz=>by have:=hx z hz;omega) h2 y hy
 omega
theorem Pn.add {p:PP} {m:Nat} {L:List (List Int)} {D:List Int} (h:Pn p m L D) {y:List Int} {d:Int} (hn:y∉L) (hl:y.length=m) (hr:L.length<3000) (hy: ∀z∈y,0≤z∧z<p.1) (hd:0≤d∧d≤L.length):Pn p m (L++ [y]) (D++ [d]):=by
 have hlen:=h.len
 refine ⟨by rw [Ws];exact h.ok.add hn hl hr,by simp [hlen],fun x hx=>?_,fun j hj=>?_⟩
 ·rcases List.mem_append.1 hx with hx|hx
  ·exact h.row x hx
  ·rw [List.mem_singleton.1 hx];exact hy
 ·by_cases e:j<D.length
  ·rw [List.getElem_append_left e];exact h.dep j e
  ·simp only [List.length_append,List.length_singleton] at hj
   have:j=D.length:=by omega
   subst this
   rw [List.getElem_append_right (by omega)]
   simp only [Nat.sub_self,List.getElem_cons_zero]
   omega
theorem Aai {p:PP} {s:List Int} (hs:s.length≤20) (hr: ∀y∈s,0≤y∧y<p.1):Pn p s.length [s] [0]:=by
 refine ⟨?_,rfl,fun x hx=>by rw [List.mem_singleton.1 hx];exact hr,fun j hj=>?_⟩
 ·have:=(Aet hs).add (s:=s) (by simp) rfl (by simp)
  have e:Sw [s]=My [] (Ck [] [] s) 0:=Ws [] s
  rw [e];exact this
 ·simp only [List.length_singleton] at hj
  have:j=0:=by omega
  subst this
  simp
theorem An1 {L:List (List Int)} {s:List Int} :Ah0 L s≥0↔s∈L:=by
 unfold Ah0
 split
 ·rename_i h;exact ⟨fun _=>h,fun _=>by omega⟩
 ·rename_i h;exact ⟨fun hh=>by omega,fun hh=>absurd hh h⟩
theorem Bdq (p:PP) (s:List Int) (h:At p=true∧s.length≤20∧ ∀y∈s,0≤y∧y<p.1):fnW Bfc (look [(120,Iq),(151,Ad3),(142,Mh),(129,Ut),(69,Uw)]) Cs Try.f105 (p,s,()) (fun (z:SS)=>z=Hv p.2.2.1 s):=by
 obtain ⟨hv,hs,hr⟩:=h
 have hV:=valid hv
 have hfew:=hV.few
 have hb0:=Aai hs hr
 have hsh:short s:=by unfold short;omega
 obtain ⟨ls,hls⟩: ∃ls,Aq (List.length p.2.2.1)=ls:=⟨_,rfl⟩
 refine Eq.mp (Be6 p s _) ⟨_,if_pos hsh,_,if_pos ⟨Aet hs,by show 0≤3000;omega⟩,ls,(if_pos (by show List.length p.2.2.1≤8;exact hfew.2)).trans (congrArg some hls),rfl,rfl,rfl,rfl,rfl,rfl,rfl,rfl,rfl,rfl,rfl,rfl,?_⟩
 have e0:My [] (Ck [] [] s) ((([]:List (List Int)).length:Nat):Int)=Sw [s]:=(Ws [] s).symm
 show Bo _ ((0:Int),p.1,p.2.1,p.2.2.1,false,false,[],[],[],[s],[(0:Int)],My [] (Ck [] [] s) ((([]:List (List Int)).length:Nat):Int),PUnit.unit)
 rw [e0]
 have hll:ls.length≤16:=by rw [←hls,Je];omega
 have hmem: ∀l∈ls,Eu (List.length p.2.2.1) l:=fun l hl=>Jy (hls▸hl)
 have hstart:Hj p.2.2.1 ls 3001 0 [s] [0]=Fh p.2.2.1 s:=by unfold Fh;rw [hls]
 refine Bo.mk (fun v=>v.2.1=p.1∧v.2.2.1=p.2.1∧v.2.2.2.1=p.2.2.1∧v.2.2.2.2.2.1=false∧ ∃k:Nat,v.1=k∧k≤v.2.2.2.2.2.2.2.2.2.1.length∧
   Pn p s.length v.2.2.2.2.2.2.2.2.2.1 v.2.2.2.2.2.2.2.2.2.2.1∧v.2.2.2.2.2.2.2.2.2.2.2.1=Sw v.2.2.2.2.2.2.2.2.2.1∧
   Hj p.2.2.1 ls (3001-k) k v.2.2.2.2.2.2.2.2.2.1 v.2.2.2.2.2.2.2.2.2.2.1=Fh p.2.2.1 s) (fun v=>3001-v.1.toNat)
  ⟨rfl,rfl,rfl,rfl,0,rfl,by simp,hb0,rfl,hstart⟩ ?_
 rintro ⟨k',n1,n2,n3,b0,wh,x1,x2,x3,L0,D0,S0,⟨⟩⟩ ⟨h1,h2,h3,h4,k,h5,h6,h7,h8,h9⟩
 dsimp only at h1 h2 h3 h4 h5 h6 h7 h8 h9
 subst h1 h2 h3 h4 h5 h8
 dsimp only
 have hL0:=h7.ok.few
 have hD0:=h7.len
 refine Br.dec (fun hl=>⟨rfl,rfl,rfl,rfl,rfl,rfl,rfl,rfl,rfl,rfl,rfl,rfl,?_⟩) fun hl=>?_
 ·have hk:k<L0.length:=by omega
  have hkD:k<D0.length:=by omega
  have hx: ∀y∈L0[k],0≤y∧y<p.1:=h7.row _ (List.getElem_mem hk)
  have hxl:L0[k].length=s.length:=h7.ok.len _ (List.getElem_mem hk)
  have hdk:=h7.dep k hkD
  obtain ⟨f,hf⟩: ∃f,3001-k=f+1:=⟨3000-k,by omega⟩
  have hgo: ∀L' D' ok,Fz p.2.2.1 L0[k] D0[k] ls L0 D0=(L',D',ok)→Fh p.2.2.1 s=if ok=true then Hj p.2.2.1 ls f (k+1) L' D' else (L',D',false):=by
   intro L' D' ok he
   rw [←h9,hf,Hj,if_pos hk,Mm hk,List.getD_eq_getElem?_getD,List.getElem?_eq_getElem hkD]
   simp only [Option.getD_some]
   rw [he]
   cases ok<;>rfl
  refine Bo.mk (fun v=>v.2.1=p.1∧v.2.2.1=p.2.1∧v.2.2.2.1=p.2.2.1∧v.2.2.2.2.2.1=false∧ ∃i:Nat,v.1=i∧i≤ls.length∧Pn p s.length v.2.2.2.2.2.2.2.2.2.1 v.2.2.2.2.2.2.2.2.2.2.1∧
    v.2.2.2.2.2.2.2.2.2.2.2.1=Sw v.2.2.2.2.2.2.2.2.2.1∧(∃A,v.2.2.2.2.2.2.2.2.2.1=L0++A)∧(∃A,v.2.2.2.2.2.2.2.2.2.2.1=D0++A)∧
    Fz p.2.2.1 L0[k] D0[k] (ls.drop i) v.2.2.2.2.2.2.2.2.2.1 v.2.2.2.2.2.2.2.2.2.2.1=Fz p.2.2.1 L0[k] D0[k] ls L0 D0) (fun v=>ls.length-v.1.toNat)
   ⟨rfl,rfl,rfl,rfl,0,rfl,Nat.zero_le _,h7,rfl,⟨[],by simp⟩,⟨[],by simp⟩,rfl⟩ ?_
  rintro ⟨i',m1,m2,m3,b1,wh1,y1,y2,y3,L,D,S,⟨⟩⟩ ⟨g1,g2,g3,g4,i,g5,g6,g7,g8,⟨A,g9⟩,⟨A',g10⟩,g11⟩
  dsimp only at g1 g2 g3 g4 g5 g6 g7 g8 g9 g10 g11
  subst g1 g2 g3 g4 g5 g8
  dsimp only
  have hLf:=g7.ok.few
  have hDl:=g7.len
  rw [Bq L,Bq D,Bq (Sw L)]
  refine Br.dec (fun hli=>?_) fun hli=>?_
  ·have hi:i<ls.length:=by omega
   have hkL:k<L.length:=by rw [g9,List.length_append];omega
   have hLk:L[k]=L0[k]:=by simp only [g9];exact List.getElem_append_left hk
   have hkD2:k<D.length:=by rw [hDl];exact hkL
   have hDk:D[k]=D0[k]:=by simp only [g10];exact List.getElem_append_left hkD
   have hlet:=hmem _ (List.getElem_mem hi)
   obtain ⟨nl,nr⟩:=Ap2 hV hx hlet
   rw [List.drop_eq_getElem_cons hi] at g11
   simp only [Fz] at g11
   refine ⟨⟨by omega,by omega⟩,L0[k],by rw [Int.toNat_natCast,Nat.zero_add,List.getElem?_eq_getElem hkL,hLk],_,Bc hi,_,if_pos ⟨hv,by show L0[k].length≤20;omega,hx,hlet⟩,?_⟩
   dsimp only
   have hyl:(Aa L0[k] (Ad p.2.2.1 ls[i])).length=s.length:=by rw [nl,hxl]
   refine ⟨_,if_pos (by show Cq (Aa L0[k] (Ad p.2.2.1 ls[i])).length L (Sw L);rw [hyl];exact g7.ok),Br.dec (fun hin=>?_) fun hin=>?_⟩
   ·have hin:Aa L0[k] (Ad p.2.2.1 ls[i])∈L:=An1.1 hin
    rw [if_pos hin] at g11
    rw [Ak (by omega)]
    exact ⟨rfl,rfl,rfl,rfl,rfl,rfl,rfl,rfl,rfl,rfl,rfl,rfl,⟨rfl,rfl,rfl,rfl,i+1,rfl,hi,g7,rfl,⟨A,g9⟩,⟨A',g10⟩,g11⟩,by omega⟩
   ·have hin:Aa L0[k] (Ad p.2.2.1 ls[i])∉L:=fun hh=>hin (An1.2 hh)
    rw [if_neg hin] at g11
    refine ⟨fun hfull=>?_,fun hfull=>⟨⟨by omega,by omega⟩,D0[k],by rw [Int.toNat_natCast,Nat.zero_add,List.getElem?_eq_getElem hkD2,hDk],rfl,rfl,rfl,rfl,rfl,rfl,?_⟩⟩
    ·have hfull:L.length=3000:=by
      have:(L.length:Int)=3000:=by simpa using hfull
      omega
     rw [if_pos hfull] at g11
     have:=hgo _ _ _ g11.symm
     rw [if_neg (by decide)] at this
     unfold Hv
     rw [this]
    ·have hfull:L.length≠3000:=by
      have:(L.length:Int)≠3000:=by simpa using hfull
      omega
     rw [if_neg hfull] at g11
     rw [Bp (n:=D0[k]+1) (by omega) (by omega)]
     refine ⟨_,if_pos ⟨by show Cq (Aa L0[k] (Ad p.2.2.1 ls[i])).length L (Sw L);rw [hyl];exact g7.ok,by show D.length≤3000;omega⟩,?_⟩
     dsimp only
     rw [Ak (by omega),←Ws]
     refine ⟨rfl,rfl,rfl,rfl,rfl,rfl,rfl,rfl,rfl,rfl,rfl,rfl,⟨rfl,rfl,rfl,rfl,i+1,rfl,hi,g7.add hin hyl (by omega) nr ⟨by omega,by omega⟩,rfl,⟨A++ [Aa L0[k] (Ad p.2.2.1 ls[i])],by rw [g9,List.append_assoc]⟩,⟨A'++ [D0[k]+1],by rw [g10,List.append_assoc]⟩,g11⟩,by omega⟩
  ·have:i=ls.length:=by omega
   subst this
   rw [List.drop_length,Fz] at g11
   have:=hgo _ _ _ g11.symm
   rw [if_pos rfl] at this
   rw [Ak (by omega)]
   refine ⟨rfl,rfl,rfl,rfl,rfl,rfl,rfl,rfl,rfl,rfl,rfl,rfl,⟨rfl,rfl,rfl,rfl,k+1,rfl,by rw [g9,List.length_append];omega,g7,rfl,?_⟩,by omega⟩
   rw [show 3001-(k+1)=f by omega]
   exact this.symm
 ·have hk:k=L0.length:=by omega
  rw [Bq L0,Bq D0,Bq (Sw L0)]
  obtain ⟨f,hf⟩: ∃f,3001-k=f+1:=⟨3000-k,by omega⟩
  rw [hf,Hj,if_neg (by omega)] at h9
  unfold Hv
  rw [←h9]
theorem Au0:Sound Try.prog 105 Cs:=
 Sound.mkS Bfd (Ae Zz (Gs Awz (Ae Ahu (Ae Apz (Ae Aq6 Ar))))) mixed Try.func105 (by kernel_rfl) (by kernel_rfl) fun x h=>Bdq x.1 x.2.1 h
end Go.Proofs.Ytebabhocakedaaa

namespace Go.Proofs.Ytebabhocakedaaa
open Go.RowKit
theorem Adi {p:PP} (hV:Valid p) {m:Nat} {x:List Int} {d:Int} (hx: ∀y∈x,0≤y∧y<p.1) (hxl:x.length=m): ∀(ls:List Int) (L:List (List Int)) (D:List Int),(∀l∈ls,Eu (List.length p.2.2.1) l)→
  Pn p m L D→(0≤d∧d<L.length)→Pn p m (Fz p.2.2.1 x d ls L D).1 (Fz p.2.2.1 x d ls L D).2.1∧(∃A,(Fz p.2.2.1 x d ls L D).1=L++A)∧(∃A,(Fz p.2.2.1 x d ls L D).2.1=D++A)
 | [],L,D,_,h,_=>⟨h,⟨[],by simp [Fz]⟩,⟨[],by simp [Fz]⟩⟩
 |l::ls,L,D,hl,h,hd=>by
  obtain ⟨n1,n2⟩:=Ap2 hV hx (hl l (by simp))
  have hl': ∀l∈ls,Eu (List.length p.2.2.1) l:=fun l' h'=>hl l' (List.mem_cons_of_mem _ h')
  simp only [Fz]
  split
  ·exact Adi hV hx hxl ls L D hl' h hd
  ·rename_i hn
   split
   ·exact ⟨h,⟨[],by simp⟩,⟨[],by simp⟩⟩
   ·rename_i hf
    have hfew:=h.ok.few
    obtain ⟨k1,⟨A,k2⟩,⟨A',k3⟩⟩:=Adi hV hx hxl ls (L++ [Aa x (Ad p.2.2.1 l)]) (D++ [d+1]) hl' (h.add hn (by rw [n1,hxl]) (by omega) n2 ⟨by omega,by omega⟩) ⟨hd.1,by rw [List.length_append];omega⟩
    exact ⟨k1,⟨_::A,by rw [k2,List.append_assoc];rfl⟩,⟨_::A',by rw [k3,List.append_assoc];rfl⟩⟩
theorem Arc {p:PP} (hV:Valid p) {m:Nat} {ls:List Int} (hl: ∀l∈ls,Eu (List.length p.2.2.1) l): ∀(f k:Nat) (L:List (List Int)) (D:List Int),Pn p m L D→
  Pn p m (Hj p.2.2.1 ls f k L D).1 (Hj p.2.2.1 ls f k L D).2.1∧(∃A,(Hj p.2.2.1 ls f k L D).1=L++A)
 |0,k,L,D,h=>⟨h,⟨[],by simp [Hj]⟩⟩
 |f+1,k,L,D,h=>by
  simp only [Hj]
  split
  ·rename_i hk
   have hkD:k<D.length:=by rw [h.len];exact hk
   have hd:=h.dep k hkD
   have e:D.getD k 0=D[k]:=by rw [List.getD_eq_getElem?_getD,List.getElem?_eq_getElem hkD];rfl
   rw [Mm hk,e]
   obtain ⟨k1,⟨A,k2⟩,_⟩:=Adi hV (h.row _ (List.getElem_mem hk)) (h.ok.len _ (List.getElem_mem hk)) (d:=D[k]) ls L D hl h ⟨by omega,by omega⟩
   split
   ·rename_i L' D' he
    rw [he] at k1 k2
    obtain ⟨g1,⟨B,g2⟩⟩:=Arc hV hl f (k+1) L' D' k1
    have k2:L'=L++A:=k2
    exact ⟨g1,⟨A++B,by rw [g2,k2,List.append_assoc]⟩⟩
   ·rename_i L' D' he
    rw [he] at k1 k2
    exact ⟨k1,⟨A,k2⟩⟩
  ·exact ⟨h,⟨[],by simp⟩⟩
theorem Beh {p:PP} {s:List Int} (hv:At p=true) (hs:s.length≤20) (hr: ∀y∈s,0≤y∧y<p.1):Pn p s.length (Fh p.2.2.1 s).1 (Fh p.2.2.1 s).2.1∧ ∃A,(Fh p.2.2.1 s).1=s::A:=
 Arc (valid hv) (fun _ hl=>Jy hl) _ _ _ _ (Aai hs hr)
def Auw (m:ByteArray→Option Bool) (L:List (List Int)):Prop:= ∀q,Qy q→(m (Lz q)).getD false=decide (q∈L)
theorem Auw.add {m:ByteArray→Option Bool} {L:List (List Int)} {y:List Int} (h:Auw m L) (hy:Qy y):Auw (Ek m (Lz y) true) (L++ [y]):=by
 intro q hq
 unfold Ek
 by_cases e:q=y
 ·subst e
  rw [if_pos rfl];simp
 ·rw [if_neg fun hk=>e (key_inj hq hy hk),h q hq]
  simp [e]
end Go.Proofs.Ytebabhocakedaaa
