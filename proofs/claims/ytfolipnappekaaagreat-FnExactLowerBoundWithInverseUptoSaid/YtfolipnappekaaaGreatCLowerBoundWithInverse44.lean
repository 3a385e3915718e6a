/-
  Part 45 of the proof that the statement FnExactLowerBoundWithInverse holds.
-/
import Derived.Test.YtfolipnappekaaaGreatCLowerBoundWithInverse43
namespace Go.Proofs.YtfolipnappekaaaGreat
open Go.RowKit
noncomputable abbrev ka:Spec:=Co (.pair (.ptr j5) (.pair tI (.pair tL .unit))) (.pair tL (.pair tI .unit)) true false (λx=> ∃N L,On N L x.1.1 x.1.2.2.1 x.1.2.1 x.2.1 x.2.2.1) (λx=>Iu x.1.2.1 (x.1.1-x.2.1).toNat x.2.1.toNat x.2.2.1)
noncomputable abbrev XA:MSpec:= {ptr:=some (153,3),Fc:= [none,none],ins:= [(false, .Ee tI),(false, .Ah tO pw false),(false, .Ah tO pw false),(false, .Ee tI),(false, .Ee tL)],Dh:=true,Ef:= [none,none],outs:= [.Ee tI, .Ah tO pw false, .Ah tO pw false, .Ee tL, .Ee tI],fn:= λ_=>none}
noncomputable abbrev dV:MSpec:=gD XA (λx=> ∃N L,On N L x.1 x.2.2.1 x.2.1 x.2.2.2.1 x.2.2.2.2.1)
 (λx=>((x.1,x.2.1,x.2.2.1,(Iu x.2.1 (x.1-x.2.2.2.1).toNat x.2.2.2.1.toNat x.2.2.2.2.1).1,(Iu x.2.1 (x.1-x.2.2.2.1).toNat x.2.2.2.1.toNat x.2.2.2.2.1).2.1,()),()))
structure RX (N L:Nat) (n:Int) (G T:Av) (l:Int) (p:List Int):Prop where
 n1:1<=N
 n2:N<=20
 en:n=N
 el:l=L
 lt:L<N
 part:Part N L (G,T)
 pm:Pm N p
 fx:Fx L p
 gn:Gn N (G.getD L []) p
 gl:(G.getD L []).length<=401
noncomputable abbrev LM:MSpec:= {ptr:=some (153,3),Fc:= [none,none],ins:= [(false, .Ee tI),(false, .Ah tO pw false),(false, .Ah tO pw false),(false, .Ee tI),(false, .Ee tO)],Dh:=false,Ef:= [],outs:= [.Ee tI, .Ah tO pw false, .Ah tO pw false],fn:= λ_=>none}
noncomputable abbrev iL (m:Nat):MSpec:=gD LM (λx=>(∃N L q,x.2.2.2.2.1=some q/\On N L x.1 x.2.2.1 x.2.1 x.2.2.2.1 q)/\DY x.1.toNat x.2.2.2.1.toNat<m)
 (λx=>((x.1,(ee x.1.toNat 1000 x.2.2.2.1.toNat (x.2.2.2.2.1.getD []) (x.2.2.1,x.2.1)).2,(ee x.1.toNat 1000 x.2.2.2.1.toNat (x.2.2.2.2.1.getD []) (x.2.2.1,x.2.1)).1,()),()))
noncomputable abbrev Ze (m:Nat):MSpec:=gD LM (λx=>(∃N L q,x.2.2.2.2.1=some q/\RX N L x.1 x.2.2.1 x.2.1 x.2.2.2.1 q)/\gE x.1.toNat x.2.2.2.1.toNat (x.2.2.1,x.2.1)<m)
 (λx=>((x.1,(ba x.1.toNat 1000 x.2.2.2.1.toNat (x.2.2.2.2.1.getD []) (x.2.2.1,x.2.1)).2,(ba x.1.toNat 1000 x.2.2.2.1.toNat (x.2.2.2.2.1.getD []) (x.2.2.1,x.2.1)).1,()),()))
noncomputable abbrev uk:MSpec:=gD LM (λx=> ∃N L q,x.2.2.2.2.1=some q/\On N L x.1 x.2.2.1 x.2.1 x.2.2.2.1 q)
 (λx=>((x.1,(ee x.1.toNat 1000 x.2.2.2.1.toNat (x.2.2.2.2.1.getD []) (x.2.2.1,x.2.1)).2,(ee x.1.toNat 1000 x.2.2.2.1.toNat (x.2.2.2.2.1.getD []) (x.2.2.1,x.2.1)).1,()),()))
theorem qO (p q:List Int) (P:List Int->Prop):(0=0/\0=([]:List Int).length/\Bm (λ(v3:Int×List Int×PUnit) (k4:Int×List Int×PUnit->Prop)=>Br (decide (v3.1<(↑p.length:Int))) (∃(y5:Int),idx p v3.1=some y5/\ ∃(y6:Int),idx q y5=some y6/\0=0/\v3.2.1.length=v3.2.1.length/\v3.2.1.length+(List.take 1 (List.drop 0 [y6])).length<=Bj/\0=0/\(v3.2.1++List.take 1 (List.drop 0 [y6])).length=(v3.2.1++List.take 1 (List.drop 0 [y6])).length/\k4 (IntKind.i64.wrap (v3.1+(1:Int)),v3.2.1++List.take 1 (List.drop 0 [y6]),())) (P (List.take v3.2.1.length (List.drop 0 v3.2.1)))) ((0:Int),[],PUnit.unit))=fnW Cg (look []) Ud Tryz.f156 (p,q,()) P:=by kernel_rfl
theorem YS (c:Int×List (List (Option (List Int)))×List (List (Option (List Int)))×Unit) (l:Int) (p:List Int) (P:(List Int×Int×Unit)->Prop):(Bm (λ(v4:List Int×Int×PUnit) (k5:List Int×Int×PUnit->Prop)=>Br (decide (v4.2.1<c.1)) (∃(y6:List (Option (List Int))),idx c.2.1 v4.2.1=some y6/\ ∃(y7:Int),idx v4.1 v4.2.1=some y7/\ ∃(y8:Option (List Int)),idx y6 y7=some y8/\Br ((↑(y8.getD []).length:Int)==(0:Int)) (P (v4.1,v4.2.1,())) (∃(y9:List Int),Ca.fn (y8.getD [],())=some y9/\ ∃(Ya:List Int),Ht.fn (v4.1,y9,())=some Ya/\k5 (Ya,IntKind.i64.wrap (v4.2.1+(1:Int)),()))) (P (v4.1,c.1,()))) (p,l,PUnit.unit))=fnW Ps (look [(76,Ca),(156,Ht)]) ka Tryz.f144 (c,l,p,()) P:=by kernel_rfl
abbrev xZ:Type:=List Int×Int×List (List (Option (List Int)))×List (List (Option (List Int)))×Int×PUnit
theorem RV (n:Int) (T G:List (List (Option (List Int)))) (l:Int) (p:List Int) (P:(Int×List (List (Option (List Int)))×List (List (Option (List Int)))×List Int×Int×Unit)×Unit->Prop):(0=0/\T.length=T.length/\0=0/\G.length=G.length/\Bm (λ(v6:xZ) (k7:xZ->Prop)=>Br (decide (v6.2.1<v6.2.2.2.2.1)) (((0:Int)<=v6.2.1/\v6.2.1<(↑v6.2.2.1.length:Int))/\ ∃(y8:Int),idx v6.1 v6.2.1=some y8/\((0:Int)<=y8/\y8<(↑(v6.2.2.1.getD (0+v6.2.1.toNat) []).length:Int))/\Br ((↑(((v6.2.2.1.getD (0+v6.2.1.toNat) []).getD y8.toNat (none:Option (List Int))).getD []).length:Int)==(0:Int)) ((0=0/\v6.2.2.1.length=v6.2.2.1.length)/\(0=0/\v6.2.2.2.1.length=v6.2.2.2.1.length)/\P ((v6.2.2.2.2.1,v6.2.2.1,v6.2.2.2.1,v6.1,v6.2.1,()),())) (∃(y9:List Int),Ca.fn (((v6.2.2.1.getD (0+v6.2.1.toNat) []).getD y8.toNat (none:Option (List Int))).getD [],())=some y9/\ ∃(Ya:List Int),Ht.fn (v6.1,y9,())=some Ya/\0=0/\v6.2.2.1.length=v6.2.2.1.length/\0=0/\v6.2.2.2.1.length=v6.2.2.2.1.length/\k7 (Ya,IntKind.i64.wrap (v6.2.1+(1:Int)),v6.2.2.1,v6.2.2.2.1,v6.2.2.2.2.1,()))) ((0=0/\v6.2.2.1.length=v6.2.2.1.length)/\(0=0/\v6.2.2.2.1.length=v6.2.2.2.1.length)/\P ((v6.2.2.2.2.1,v6.2.2.1,v6.2.2.2.1,v6.1,v6.2.2.2.2.1,()),()))) (p,l,T,G,n,PUnit.unit))=fnMW Ps (look [(76,Ca),(156,Ht)]) dV Tryz.f144 (n,T,G,l,p,()) P:=by kernel_rfl
abbrev uL:Type:=Int×List (Option (List Int))×List (List (Option (List Int)))×List (List (Option (List Int)))×Int×PUnit
abbrev NK:Type:=(Int×List (List (Option (List Int)))×List (List (Option (List Int)))×List Int×Int×PUnit)×PUnit
abbrev Gq (y7:NK) (l:Int) (p:Option (List Int)) (n:Int):Prop:=0=0/\(y7.1.2.2.1.getD (0+l.toNat) []).length=(y7.1.2.2.1.getD (0+l.toNat) []).length/\(y7.1.2.2.1.getD (0+l.toNat) []).length+(List.take 1 (List.drop 0 [p])).length<=Bj/\((0:Int)<=l/\l<(↑y7.1.2.2.1.length:Int))/\0=0/\(y7.1.2.2.1.getD (0+l.toNat) []++List.take 1 (List.drop 0 [p])).length=(y7.1.2.2.1.getD (0+l.toNat) []++List.take 1 (List.drop 0 [p])).length/\0+l.toNat=0+l.toNat/\ [(0,y7.1.2.2.1.length),(0,y7.1.2.2.1.length),(0,y7.1.2.1.length),(0,y7.1.2.2.1.length)]= [(0,y7.1.2.2.1.length),(0,y7.1.2.2.1.length),(0,y7.1.2.1.length),(0,y7.1.2.2.1.length)]/\(l,p,y7.1.2.2.2.1,y7.1.2.2.2.2.1,l,n,decide (l>=n),l,p,y7.1.2.2.2.1,y7.1.2.2.2.2.1,y7.1.2.2.2.2.1,y7.1.1,y7.1.2.2.2.2.1==y7.1.1,l,l,0+l.toNat,p,List.take 1 (List.drop 0 [p]),0+l.toNat,y7.1.2.1,y7.1.2.2.1.set (0+l.toNat) (y7.1.2.2.1.getD (0+l.toNat) []++List.take 1 (List.drop 0 [p])),y7.1.1,())=(l,p,y7.1.2.2.2.1,y7.1.2.2.2.2.1,l,n,decide (l>=n),l,p,y7.1.2.2.2.1,y7.1.2.2.2.2.1,y7.1.2.2.2.2.1,y7.1.1,y7.1.2.2.2.2.1==y7.1.1,l,l,0+l.toNat,p,List.take 1 (List.drop 0 [p]),0+l.toNat,y7.1.2.1,y7.1.2.2.1.set (0+l.toNat) (y7.1.2.2.1.getD (0+l.toNat) []++List.take 1 (List.drop 0 [p])),y7.1.1,PUnit.unit)
theorem Acm {m:Nat} (n:Int) (T G:List (List (Option (List Int)))) (l:Int) (p:Option (List Int)) (P:(Int×List (List (Option (List Int)))×List (List (Option (List Int)))×Unit)×Unit->Prop):(Br (decide (l>=n)) ((0=0/\T.length=T.length)/\(0=0/\G.length=G.length)/\P ((n,T,G,()),())) (0=0/\T.length=T.length/\0=0/\G.length=G.length/\ ∃(y7:NK),dV.fn (n,T,G,l,p.getD [],())=some y7/\Br (y7.1.2.2.2.2.1==y7.1.1) ((0=0/\y7.1.2.1.length=y7.1.2.1.length)/\(0=0/\y7.1.2.2.1.length=y7.1.2.2.1.length)/\P ((y7.1.1,y7.1.2.1,y7.1.2.2.1,()),())) (((0:Int)<=l/\l<(↑y7.1.2.2.1.length:Int))/\0=0/\(y7.1.2.2.1.getD (0+l.toNat) []).length=(y7.1.2.2.1.getD (0+l.toNat) []).length/\(y7.1.2.2.1.getD (0+l.toNat) []).length+(List.take 1 (List.drop 0 [p])).length<=Bj/\((0:Int)<=l/\l<(↑y7.1.2.2.1.length:Int))/\0=0/\(y7.1.2.2.1.getD (0+l.toNat) []++List.take 1 (List.drop 0 [p])).length=(y7.1.2.2.1.getD (0+l.toNat) []++List.take 1 (List.drop 0 [p])).length/\0+l.toNat=0+l.toNat/\(0=0/\0=([]:List Int).length/\0=0/\y7.1.2.1.length=y7.1.2.1.length/\0=0/\y7.1.2.2.1.length=(y7.1.2.2.1.set (0+l.toNat) (y7.1.2.2.1.getD (0+l.toNat) []++List.take 1 (List.drop 0 [p]))).length/\Bm (λ(v8:uL) (k9:uL->Prop)=>Br (decide (v8.1<v8.2.2.2.2.1)) (((0:Int)<=l/\l<(↑v8.2.2.1.length:Int))/\((0:Int)<=v8.1/\v8.1<(↑(v8.2.2.1.getD (0+l.toNat) []).length:Int))/\Br (decide ((↑(((v8.2.2.1.getD (0+l.toNat) []).getD v8.1.toNat (none:Option (List Int))).getD []).length:Int)>(0:Int))) (((0:Int)<=l/\l<(↑v8.2.2.1.length:Int))/\((0:Int)<=v8.1/\v8.1<(↑(v8.2.2.1.getD (0+l.toNat) []).length:Int))/\0=0/\v8.2.1.length=v8.2.1.length/\v8.2.1.length+(List.take 1 (List.drop 0 [(v8.2.2.1.getD (0+l.toNat) []).getD v8.1.toNat none])).length<=Bj/\0=0/\(v8.2.1++List.take 1 (List.drop 0 [(v8.2.2.1.getD (0+l.toNat) []).getD v8.1.toNat none])).length=(v8.2.1++List.take 1 (List.drop 0 [(v8.2.2.1.getD (0+l.toNat) []).getD v8.1.toNat none])).length/\0=0/\v8.2.2.1.length=v8.2.2.1.length/\0=0/\v8.2.2.2.1.length=v8.2.2.2.1.length/\k9 (IntKind.i64.wrap (v8.1+(1:Int)),v8.2.1++List.take 1 (List.drop 0 [(v8.2.2.1.getD (0+l.toNat) []).getD v8.1.toNat none]),v8.2.2.1,v8.2.2.2.1,v8.2.2.2.2.1,())) (0=0/\v8.2.1.length=v8.2.1.length/\0=0/\v8.2.2.1.length=v8.2.2.1.length/\0=0/\v8.2.2.2.1.length=v8.2.2.2.1.length/\k9 (IntKind.i64.wrap (v8.1+(1:Int)),v8.2.1,v8.2.2.1,v8.2.2.2.1,v8.2.2.2.2.1,()))) (0=0/\v8.2.1.length=v8.2.1.length/\0=0/\v8.2.2.1.length=v8.2.2.1.length/\0=0/\v8.2.2.2.1.length=v8.2.2.2.1.length/\Bm (λ(v10:uL) (k11:uL->Prop)=>Br (decide (v10.1<(↑v10.2.1.length:Int))) (((0:Int)<=v10.1/\v10.1<(↑v10.2.1.length:Int))/\ ∃(vn:Option (List Int)),v10.2.1[0+v10.1.toNat]?=some vn/\ ∃(OO:Option (List Int)),Fa.fn (vn.getD [],p.getD [],())=some OO/\0=0/\v10.2.2.1.length=v10.2.2.1.length/\0=0/\v10.2.2.2.1.length=v10.2.2.2.1.length/\ ∃(aW:(Int×List (List (Option (List Int)))×List (List (Option (List Int)))×PUnit)×PUnit),(Ze m).fn (v10.2.2.2.2.1,v10.2.2.1,v10.2.2.2.1,l,OO,())=some aW/\0=0/\v10.2.1.length=v10.2.1.length/\0=0/\aW.1.2.1.length=aW.1.2.1.length/\0=0/\aW.1.2.2.1.length=aW.1.2.2.1.length/\k11 (IntKind.i64.wrap (v10.1+(1:Int)),v10.2.1,aW.1.2.1,aW.1.2.2.1,aW.1.1,())) ((0=0/\v10.2.2.1.length=v10.2.2.1.length)/\(0=0/\v10.2.2.2.1.length=v10.2.2.2.1.length)/\P ((v10.2.2.2.2.1,v10.2.2.1,v10.2.2.2.1,()),()))) ((0:Int),v8.2.1,v8.2.2.1,v8.2.2.2.1,v8.2.2.2.2.1,PUnit.unit))) ((0:Int),[],y7.1.2.1,y7.1.2.2.1.set (0+l.toNat) (y7.1.2.2.1.getD (0+l.toNat) []++List.take 1 (List.drop 0 [p])),y7.1.1,PUnit.unit))/\(((((0:Int)<=l/\l<(↑y7.1.2.2.1.length:Int))/\((Gq y7 l p n))/\(Gq y7 l p n))/\((0:Int)<=l/\l<(↑y7.1.2.2.1.length:Int))/\(Gq y7 l p n))/\((0:Int)<=l/\l<(↑y7.1.2.2.1.length:Int))/\(Gq y7 l p n))/\(((((0:Int)<=l/\l<(↑y7.1.2.2.1.length:Int))/\((Gq y7 l p n))/\(Gq y7 l p n))/\((0:Int)<=l/\l<(↑y7.1.2.2.1.length:Int))/\(Gq y7 l p n))/\(((0:Int)<=l/\l<(↑y7.1.2.2.1.length:Int))/\(((Gq y7 l p n))/\(Gq y7 l p n))/\(((Gq y7 l p n))/\((Gq y7 l p n))/\(Gq y7 l p n))/\((Gq y7 l p n))/\((Gq y7 l p n))/\(Gq y7 l p n))/\(((0:Int)<=l/\l<(↑y7.1.2.2.1.length:Int))/\(Gq y7 l p n))/\((0:Int)<=l/\l<(↑y7.1.2.2.1.length:Int))/\((Gq y7 l p n))/\((Gq y7 l p n))/\(Gq y7 l p n))/\(((0:Int)<=l/\l<(↑y7.1.2.2.1.length:Int))/\(Gq y7 l p n))/\(((0:Int)<=l/\l<(↑y7.1.2.2.1.length:Int))/\(Gq y7 l p n))/\((0:Int)<=l/\l<(↑y7.1.2.2.1.length:Int))/\((Gq y7 l p n))/\((Gq y7 l p n))/\(Gq y7 l p n))))=fnMW (NV [pj+46]) (look [(144,dV),(156,Fa),(157,Up.m (Ze m))]) (iL (m+1)) Tryz.f146 (n,T,G,l,p,()) P:=by kernel_rfl
abbrev NI:Type:=(Int×List (List (Option (List Int)))×List (List (Option (List Int)))×PUnit)×PUnit
abbrev NL:Type:=Int×List (List (Option (List Int)))×List (List (Option (List Int)))×Int×PUnit
theorem Acn {m:Nat} (n:Int) (T G:List (List (Option (List Int)))) (l:Int) (p:Option (List Int)) (P:(Int×List (List (Option (List Int)))×List (List (Option (List Int)))×Unit)×Unit->Prop):(((0:Int)<=l/\l<(↑T.length:Int))/\ ∃(y7:Int),idx (p.getD []) l=some y7/\((0:Int)<=y7/\y7<(↑(T.getD (0+l.toNat) []).length:Int))/\Br (decide ((↑(((T.getD (0+l.toNat) []).getD y7.toNat (none:Option (List Int))).getD []).length:Int)>(0:Int))) (∃(y8:List Int),Ca.fn (((T.getD (0+l.toNat) []).getD y7.toNat (none:Option (List Int))).getD [],())=some y8/\ ∃(y9:Option (List Int)),Fa.fn (p.getD [],y8,())=some y9/\0=0/\T.length=T.length/\0=0/\G.length=G.length/\ ∃(Ya:NI),(iL m).fn (n,T,G,IntKind.i64.wrap (l+(1:Int)),y9,())=some Ya/\(0=0/\Ya.1.2.1.length=Ya.1.2.1.length)/\(0=0/\Ya.1.2.2.1.length=Ya.1.2.2.1.length)/\P ((Ya.1.1,Ya.1.2.1,Ya.1.2.2.1,()),())) (((0:Int)<=l/\l<(↑T.length:Int))/\ ∃(y8:Int),idx (p.getD []) l=some y8/\((0:Int)<=y8/\y8<(↑(T.getD (0+l.toNat) []).length:Int))/\0=0/\T.length=(T.set (0+l.toNat) ((T.getD (0+l.toNat) []).set y8.toNat p)).length/\0=0/\G.length=G.length/\Bm (λ(v9:NL) (k10:NL->Prop)=>((0:Int)<=l/\l<(↑v9.2.2.1.length:Int))/\Br (decide (v9.1<(↑(v9.2.2.1.getD (0+l.toNat) []).length:Int))) (((0:Int)<=l/\l<(↑v9.2.2.1.length:Int))/\((0:Int)<=v9.1/\v9.1<(↑(v9.2.2.1.getD (0+l.toNat) []).length:Int))/\ ∃(qS:Option (List Int)),Fa.fn (p.getD [],((v9.2.2.1.getD (0+l.toNat) []).getD v9.1.toNat (none:Option (List Int))).getD [],())=some qS/\0=0/\v9.2.1.length=v9.2.1.length/\0=0/\v9.2.2.1.length=v9.2.2.1.length/\ ∃(vn:NI),(Ze m).fn (v9.2.2.2.1,v9.2.1,v9.2.2.1,l,qS,())=some vn/\0=0/\vn.1.2.1.length=vn.1.2.1.length/\0=0/\vn.1.2.2.1.length=vn.1.2.2.1.length/\k10 (IntKind.i64.wrap (v9.1+(1:Int)),vn.1.2.1,vn.1.2.2.1,vn.1.1,())) ((0=0/\v9.2.1.length=v9.2.1.length)/\(0=0/\v9.2.2.1.length=v9.2.2.1.length)/\P ((v9.2.2.2.1,v9.2.1,v9.2.2.1,()),()))) ((0:Int),T.set (0+l.toNat) ((T.getD (0+l.toNat) []).set y8.toNat p),G,n,PUnit.unit)))=fnMW Ps (look [(76,Ca),(156,Fa),(146,Up.m (iL m)),(157,Up.m (Ze m))]) (Ze (m+1)) Tryz.f157 (n,T,G,l,p,()) P:=by kernel_rfl
theorem ES {p q:List Int} {j:Nat} (h:j<p.length):(Aa p q).take (j+1)=(Aa p q).take j++ [Ii q p[j]]:=by
 unfold Aa
 rw [List.take_succ_eq_append_getElem (by rw [List.length_map];exact h),List.getElem_map]
theorem qa (p q:List Int) (h:List.length p<=20/\Hq (List.length q) p):fnW Cg (look []) Ud Tryz.f156 (p,q,()) (λ(z:List Int)=>z=Aa p q):=by
 obtain ⟨h1,h2⟩:=h
 refine Eq.mp (qO p q _) ⟨rfl,rfl,?_⟩
 refine Ai p.length (λv=>v.1) (λj v=>v=((j:Int),(Aa p q).take j,())) rfl rfl ?_
 rintro j v K hj hi rfl hK
 dsimp only
 have hlen:((Aa p q).take j).length<=20:=by rw [List.length_take];unfold Aa;rw [List.length_map];omega
 refine Br.dec (λhl=>?_) λhl=>?_
 ·have hl:j<p.length:=by omega
  have hr:=h2 p[j] (List.getElem_mem hl)
  refine ⟨_,Ap hl,Ii q p[j],cA hr.1 hr.2,rfl,rfl,?_,rfl,rfl,?_⟩
  ·show ((Aa p q).take j).length+1<=4294967296
   omega
  ·rw [Ag (by omega)]
   refine hK hl _ rfl ?_
   rw [ES hl]
   rfl
 ·have:j=p.length:=by omega
  subst this
  rw [Bi,<-Jp p q,List.take_length]
theorem Xe:Sound Tryz.prog 156 Ud:=
 Sound.Co Bg Al mixed Tryz.func156 (by kernel_rfl) (by kernel_rfl) λx h=>qa x.1 x.2.1 h
theorem Vt:Sound Tryz.prog 156 Ht:=Sound.loose Xe
theorem Vu:Sound Tryz.prog 156 Fa:=Sound.YK Xe λx h=>⟨⟨h.1.2,h.2⟩,λe=>by
 have:=Jp x.1 x.2.1
 rw [e] at this
 have:=h.1.1
 simp only [List.length_nil] at*
 omega⟩
theorem so {N L i:Nat} {G T:Av} {p:List Int} (n2:N<=20) (v3:ec N (N-L) L (G,T)) (v2:T.length=N) (h1:L<=i) (hl:i<N) (h4:Pm N p) (h5:Fx i p):
  ∃o,idx p (i:Int)=some (ap p i:Int)/\T[i]?=some (T.getD i [])/\ap p i<(T.getD i []).length/\(T.getD i [])[ap p i]?=some o/\(T.getD i []).getD (ap p i) none=o/\
   (o=none->(o.getD []).length=0/\ ∀k,Iu T (k+1) i p=(p,(i:Int),()))/\
   (∀t,o=some t->(t.length≠0/\t.length<=20/\Hq t.length t)/\(p.length<=20/\Hq (Af t).length p)/\Pm N (Aa p (Af t))/\Fx (i+1) (Aa p (Af t))/\ ∀k,Iu T (k+1) i p=Iu T k (i+1) (Aa p (Af t))):=by
 have Gf:=mN (N-L) L v3 i h1 (by omega)
 have hT:i<T.length:=by omega
 have hlen:(T.getD i []).length=N:=Gf.rl
 obtain ⟨a1,a2⟩:=h4.Tj hl
 have hg:(Ii p (i:Int)).toNat=ap p i:=rfl
 refine ⟨(T.getD i []).getD (ap p i) none,?_,?_,by omega,?_,rfl,λho=>?_,λt ho=>?_⟩
 ·rw [<-a1,Ho (by rw [h4.1];exact hl)];exact Ap (by rw [h4.1];exact hl)
 ·rw [List.getD_eq_getElem?_getD,List.getElem?_eq_getElem hT];rfl
 ·rw [List.getD_eq_getElem?_getD (l:=T.getD i []),List.getElem?_eq_getElem (by omega)];rfl
 ·refine ⟨by rw [ho];rfl,λk=>?_⟩
  simp only [Iu,hg,ho]
 ·obtain ⟨t1,t2,t3,t4⟩:=Gf.rt _ _ ho
  have hn1:=h4.n1
  refine ⟨⟨by rw [t1.1];omega,by rw [t1.1];exact n2,t1.2.row⟩,⟨by rw [h4.1];exact n2,by rw [il,t1.1];exact h4.row⟩,h4.comp t1.inv,Fx.div h4 t1 h5 t2 hl t3,λk=>?_⟩
  simp only [Iu,hg,ho]
theorem XS (c:Int×List (List (Option (List Int)))×List (List (Option (List Int)))×Unit) (l:Int) (p:List Int) (h: ∃N L,On N L c.1 c.2.2.1 c.2.1 l p):
  fnW Ps (look [(76,Ca),(156,Ht)]) ka Tryz.f144 (c,l,p,()) (λ(z:List Int×Int×Unit)=>z=Iu c.2.1 (c.1-l).toNat l.toNat p):=by
 obtain ⟨n,T,G,⟨⟩⟩:=c
 obtain ⟨N,L,h⟩:=h
 obtain ⟨n1,n2,en,el,hle,v,pm,fx⟩:=h
 dsimp only at en el v⊢
 subst en el
 refine Eq.mp (YS ((N:Int),T,G,()) (L:Int) p _) ?_
 obtain ⟨v1,v2,v3,v4⟩:=v
 dsimp only at v1 v2
 refine ⟨λv=> ∃i:Nat,L<=i/\i<=N/\v.2.1=i/\Pm N v.1/\Fx i v.1/\Iu T (N-i) i v.1=Iu T (N-L) L p,λv=>N-v.2.1.toNat,⟨L,Nat.le_refl _,hle,rfl,pm,fx,rfl⟩,?_⟩
 rintro ⟨p',i',⟨⟩⟩ ⟨i,h1,h2,h3,h4,h5,h6⟩
 dsimp only at h3 h4 h5 h6⊢
 subst h3
 rw [show (((N:Int)-(L:Int)).toNat)=N-L by omega,show ((L:Int)).toNat=L by omega,<-h6]
 refine Br.dec (λhl=>?_) λhl=>?_
 ·have hl:i<N:=by omega
  obtain ⟨o,s1,s2,s3,s4,s5,s6,s7⟩:=so n2 v3 v2 h1 hl h4 h5
  have hT:i<T.length:=by omega
  refine ⟨T.getD i [],by rw [Ap hT,<-s2,List.getElem?_eq_getElem hT],_,s1,o,by rw [Ap s3,<-s4,List.getElem?_eq_getElem s3],?_⟩
  rw [show N-i=(N-i-1)+1 by omega]
  cases o with
  |none=>
   rw [(s6 rfl).2]
   exact Br.of (λ_=>rfl) λhb=>by simp at hb
  |some t=>
   obtain ⟨⟨q1,q2⟩,q3,q4,q5,q6⟩:=s7 t rfl
   refine Br.of (λhb=>absurd (by simpa using hb) q1) λ_=>?_
   refine ⟨_,if_pos q2,_,if_pos q3,⟨i+1,by omega,by omega,Ag (by omega),q4,q5,?_⟩,?_⟩
   ·rw [q6,show N-(i+1)=N-i-1 by omega];rfl
   ·show N-(IntKind.i64.wrap ((i:Int)+1)).toNat<N-((i:Int)).toNat
    rw [Ag (by omega)]
    omega
 ·have:i=N:=by omega
  subst this
  rw [Nat.sub_self]
  rfl
theorem BK:Sound Tryz.prog 144 ka:=
 Sound.Co gw (Ae Rp (Ae Vt Al)) mixed Tryz.func144 (by kernel_rfl) (by kernel_rfl) λx h=>XS x.1 x.2.1 x.2.2.1 h
theorem RD (n:Int) (T G:List (List (Option (List Int)))) (l:Int) (p:List Int) (h: ∃N L,On N L n G T l p):
  fnMW Ps (look [(76,Ca),(156,Ht)]) dV Tryz.f144 (n,T,G,l,p,()) (λ(z:(Int×List (List (Option (List Int)))×List (List (Option (List Int)))×List Int×Int×Unit)×Unit)=>z=((n,T,G,(Iu T (n-l).toNat l.toNat p).1,(Iu T (n-l).toNat l.toNat p).2.1,()),())):=by
 obtain ⟨N,L,h⟩:=h
 obtain ⟨n1,n2,en,el,hle,v,pm,fx⟩:=h
 subst en el
 refine Eq.mp (RV (N:Int) T G (L:Int) p _) ⟨rfl,rfl,rfl,rfl,?_⟩
 obtain ⟨v1,v2,v3,v4⟩:=v
 dsimp only at v1 v2
 refine ⟨λv=> ∃i:Nat,L<=i/\i<=N/\v.2=((i:Int),T,G,(N:Int),())/\Pm N v.1/\Fx i v.1/\Iu T (N-i) i v.1=Iu T (N-L) L p,λv=>N-v.2.1.toNat,⟨L,Nat.le_refl _,hle,rfl,pm,fx,rfl⟩,?_⟩
 rintro ⟨p',v'⟩ ⟨i,h1,h2,h3,h4,h5,h6⟩
 dsimp only at h3 h4 h5 h6⊢
 subst h3
 dsimp only
 rw [show (((N:Int)-(L:Int)).toNat)=N-L by omega,show ((L:Int)).toNat=L by omega,<-h6]
 refine Br.dec (λhl=>?_) λhl=>?_
 ·have hl:i<N:=by omega
  obtain ⟨o,s1,s2,s3,s4,s5,s6,s7⟩:=so n2 v3 v2 h1 hl h4 h5
  simp only [Int.toNat_natCast,Nat.zero_add,true_and,and_true]
  refine ⟨⟨by omega,by omega⟩,_,s1,⟨by omega,by omega⟩,?_⟩
  rw [Int.toNat_natCast,s5,show N-i=(N-i-1)+1 by omega]
  cases o with
  |none=>
   rw [(s6 rfl).2]
   exact Br.of (λ_=>rfl) λhb=>by simp at hb
  |some t=>
   obtain ⟨⟨q1,q2⟩,q3,q4,q5,q6⟩:=s7 t rfl
   refine Br.of (λhb=>absurd (by simpa using hb) q1) λ_=>?_
   refine ⟨_,if_pos q2,_,if_pos q3,⟨i+1,by omega,by omega,?_,q4,q5,?_⟩,?_⟩
   ·rw [Ag (by omega)]
   ·rw [q6,show N-(i+1)=N-i-1 by omega];rfl
   ·show N-(IntKind.i64.wrap ((i:Int)+1)).toNat<N-i-1+1
    rw [Ag (by omega)]
    omega
 ·have:i=N:=by omega
  subst this
  rw [Nat.sub_self]
  exact ⟨⟨rfl,rfl⟩,⟨rfl,rfl⟩,rfl⟩
theorem xV:Bf Tryz.prog 144 dV:=
 Bf.gD gw (Ae Rp (Ae Vt Al)) mixed Tryz.func144 (by kernel_rfl) (by kernel_rfl) λx h=>RD x.1 x.2.1 x.2.2.1 x.2.2.2.1 x.2.2.2.2.1 h
theorem Aby {m:Nat} (n:Int) (T G:List (List (Option (List Int)))) (l:Int) (p:Option (List Int)) (h:(∃N L q,p=some q/\RX N L n G T l q)/\gE n.toNat l.toNat (G,T)<m+1):
  fnMW Ps (look [(76,Ca),(156,Fa),(146,Up.m (iL m)),(157,Up.m (Ze m))]) (Ze (m+1)) Tryz.f157 (n,T,G,l,p,()) (λ(z:(Int×List (List (Option (List Int)))×List (List (Option (List Int)))×Unit)×Unit)=>z=((n,(ba n.toNat 1000 l.toNat (p.getD []) (G,T)).2,(ba n.toNat 1000 l.toNat (p.getD []) (G,T)).1,()),())):=by
 obtain ⟨⟨N,L,q,rfl,h⟩,hm⟩:=h
 obtain ⟨n1,n2,en,el,Fh,part,pm,fx,gn,gl⟩:=h
 subst en el
 refine Eq.mp (Acn (N:Int) T G (L:Int) (some q) _) ?_
 have l1:G.length=N:=part.l1
 have l2:T.length=N:=part.l2
 have row:=part.row
 dsimp only at row
 have TN:=row.rl
 have hy:=pm.lt Fh
 simp only [Int.toNat_natCast,Nat.zero_add,Option.getD_some,true_and,and_true,List.length_set] at hm⊢
 refine ⟨⟨by omega,by omega⟩,_,tt pm Fh,⟨by omega,by omega⟩,?_⟩
 simp only [Int.toNat_natCast]
 rcases Option.eq_none_or_eq_some ((T.getD L []).getD (ap q L) none) with Gf|⟨t,Gf⟩
 case inr=>
  obtain ⟨t1,t2,t3,t4⟩:=row.rt _ _ Gf
  have htl:=t1.1
  refine Br.dec (λ_=>?_) λhb=>?_
  ·rw [Gf,Option.getD_some]
   have hw:IntKind.i64.wrap ((L:Int)+1)=((L+1:Nat):Int):=Ag (by omega)
   rw [hw]
   have OZ:=MB (s:=(G,T)) Fh
   refine ⟨_,if_pos ⟨by show t.length<=20;omega,t1.2.row⟩,some (Aa q (Af t)),if_pos ⟨Pz pm,jV pm t1.inv⟩,_,
    if_pos ⟨⟨N,L+1,_,rfl,n1,n2,rfl,rfl,by omega,part.v,pm.comp t1.inv,Fx.div pm t1 fx t2 Fh t3⟩,by show DY (N:Int).toNat ((L+1:Nat):Int).toNat<m;rw [Int.toNat_natCast,Int.toNat_natCast];omega⟩,?_⟩
   simp only [Int.toNat_natCast,Option.getD_some]
   rw [JJ n1 n2 Fh part pm fx Gf]
  ·rw [Gf,Option.getD_some] at hb
   omega
 case inl=>
  refine Br.dec (λhb=>by rw [Gf] at hb;simp at hb) λ_=>?_
  obtain ⟨a1,a2⟩:=vG Fh part pm fx gn Gf
  have nu:=JI n1 n2 Fh part pm fx gn Gf
  have OZ:=QT (n:=N) (q:=q) (s:=(G,T)) (k:=L) (y:=ap q L) (by show L<T.length;omega) (by show ap q L<(T.getD L []).length;omega) Gf
  have run:= λj=>rh n1 n2 Fh a1 a2 j
  dsimp only at a1 a2 nu OZ run
  refine ⟨⟨by omega,by omega⟩,_,tt pm Fh,⟨by omega,by omega⟩,?_⟩
  simp only [Int.toNat_natCast]
  rw [nu]
  generalize WJ:((G,T.set L ((T.getD L []).set (ap q L) (some q))):Av×Av)=s0 at OZ run⊢
  have WK:T.set L ((T.getD L []).set (ap q L) (some q))=s0.2:=by rw [<-WJ]
  have KS:G=s0.1:=by rw [<-WJ]
  have WE:((G.getD L []).map λo=>Aa q (o.getD [])).length=(G.getD L []).length:=List.length_map _
  refine Ai (G.getD L []).length (λv=>v.1) (λj v=> ∃s:Av×Av,v=((j:Int),s.2,s.1,(N:Int),())/\s=cm N L (((G.getD L []).map λo=>Aa q (o.getD [])).take j) s0) rfl ⟨s0,by rw [<-KS,WK];rfl,rfl⟩ ?_
  rintro j v K hj hi ⟨s,rfl,hs⟩ hK
  have hr:=run j
  rw [<-hs] at hr
  have g1:s.1.getD L []=G.getD L []:=by rw [hr.same,KS]
  have g2:s.1.length=N:=hr.part.l1
  have g4:gE N L (s.1,s.2)<=gE N L s0:=hr.mu
  dsimp only
  simp only [g1]
  refine ⟨⟨by omega,by omega⟩,Br.dec (λhl=>?_) λhl=>?_⟩
  ·have hl:j<(G.getD L []).length:=by omega
   obtain ⟨g,jd,Mu,SX⟩:=part.pg _ (List.getElem_mem hl)
   have hgj:(G.getD L []).getD j none=some g:=by rw [wu hl];exact jd
   have hqj:(((G.getD L []).map λo=>Aa q (o.getD []))[j]'(by rw [WE];exact hl))=Aa q g:=by rw [List.getElem_map,jd];rfl
   obtain ⟨b1,b2,b3⟩:=a2 (Aa q g) (by rw [<-hqj];exact List.getElem_mem _)
   simp only [Int.toNat_natCast,hgj,Option.getD_some]
   refine ⟨⟨by omega,by omega⟩,⟨by omega,by omega⟩,some (Aa q g),if_pos ⟨Pz pm,jV pm Mu⟩,_,
    if_pos ⟨⟨N,L,_,rfl,n1,n2,rfl,rfl,Fh,hr.part,b1,b2,by rw [g1];exact b3,by rw [g1];exact gl⟩,by show gE (N:Int).toNat (L:Int).toNat (s.1,s.2)<m;rw [Int.toNat_natCast,Int.toNat_natCast];omega⟩,?_⟩
   simp only [Int.toNat_natCast,Option.getD_some]
   rw [Ag (by omega)]
   refine hK hl _ rfl ⟨_,rfl,?_⟩
   rw [mW (by rw [WE];exact hl),<-hs,hqj]
  ·have:j=(G.getD L []).length:=by omega
   subst this
   rw [<-WE,List.take_length] at hs
   rw [hs]
theorem NC {m:Nat} (WX:Bf Tryz.prog 146 (iL m)) (zt:Bf Tryz.prog 157 (Ze m)):Bf Tryz.prog 157 (Ze (m+1)):=
 Bf.gD gw (Ae Rp (Ae Vu (Ft WX (Ft zt Al)))) mixed Tryz.func157 (by kernel_rfl) (by kernel_rfl) λx h=>Aby x.1 x.2.1 x.2.2.1 x.2.2.2.1 x.2.2.2.2.1 h
theorem Abx {m:Nat} (n:Int) (T G:List (List (Option (List Int)))) (l:Int) (p:Option (List Int)) (h:(∃N L q,p=some q/\On N L n G T l q)/\DY n.toNat l.toNat<m+1):
  fnMW (NV [pj+46]) (look [(144,dV),(156,Fa),(157,Up.m (Ze m))]) (iL (m+1)) Tryz.f146 (n,T,G,l,p,()) (λ(z:(Int×List (List (Option (List Int)))×List (List (Option (List Int)))×Unit)×Unit)=>z=((n,(ee n.toNat 1000 l.toNat (p.getD []) (G,T)).2,(ee n.toNat 1000 l.toNat (p.getD []) (G,T)).1,()),())):=by
 obtain ⟨⟨N,L,q,rfl,h⟩,hm⟩:=h
 have h':=h
 obtain ⟨n1,n2,en,el,hle,v,pm,fx⟩:=h
 subst en el
 have hk:((N:Int)-(L:Int)).toNat=N-L:=by omega
 have back: ∀s:Av×Av,ee N 1000 L q (G,T)=s->((((N:Int),s.2,s.1,()),()):(Int×Av×Av×Unit)×Unit)=((((N:Int),(ee N 1000 L q (G,T)).2,(ee N 1000 L q (G,T)).1,()),()):(Int×Av×Av×Unit)×Unit):= λs e=>by rw [e]
 refine Eq.mp (Acm (N:Int) T G (L:Int) (some q) _) ?_
 simp only [Int.toNat_natCast,Nat.zero_add,Option.getD_some,true_and,and_true] at hm⊢
 refine Br.dec (λjd=>?_) λFh=>?_
 ·exact back (G,T) (CP (by rw [show N-L=0 by omega];rfl))
 have Fh:L<N:=by omega
 have hv:=v
 obtain ⟨v1,v2,v3,v4⟩:=v
 dsimp only at v1 v2
 have hsl:(Iu T (N-L) L q).2.1=(N:Int)↔Dx T (N-L) L q=true:=by
  have:=ou (T:=T) (N-L) L q
  rw [show L+(N-L)=N by omega] at this
  exact this
 refine ⟨_,if_pos ⟨N,L,h'⟩,?_⟩
 simp only [Gq]
 simp only [hk,Int.toNat_natCast]
 refine Br.of (λhh=>?_) λhh=>?_
 ·exact back (G,T) (CP (hsl.1 (eq_of_beq hh)))
 have TG: ¬Dx T (N-L) L q=true:= λhc=>by rw [hsl.2 hc] at hh;simp at hh
 have wM:=JH n1 n2 (s:=(G,T)) Fh hv pm fx TG
 obtain ⟨a1,a2⟩:=vF n1 n2 (s:=(G,T)) Fh hv pm fx
 have hgl:(G.getD L []).length<=400:=by
  obtain ⟨k,hk1⟩: ∃k,N-L=k+1:=⟨N-L-1,by omega⟩
  rw [hk1] at hv
  exact DD n2 (by omega) hv
 have e1:(0:Int)<=(L:Int)/\(L:Int)<(G.length:Int):=by omega
 have e2:(G.getD L []).length+1<=Bj:=by show _<=4294967296;omega
 have row:=a1.row
 dsimp only at row a1 a2 wM
 have TN:=row.rl
 have run:= λj=>rh n1 n2 Fh a1 a2 j
 have OZ:=zM a1
 simp only [List.drop_zero,List.take_succ_cons,List.take_zero,List.length_cons,List.length_nil,List.length_set,Nat.zero_add,e1,e2,and_self,true_and,and_true]
 have UY:(G.set L (G.getD L []++ [some q])).getD L []=G.getD L []++ [some q]:=Xp G L (by omega) _
 generalize WJ:((G.set L (G.getD L []++ [some q]),T):Av×Av)=s0 at OZ run wM⊢
 have KS:G.set L (G.getD L []++ [some q])=s0.1:=by rw [<-WJ]
 have WK:T=s0.2:=by rw [<-WJ]
 refine Ai N (λv=>v.1) (λy v=>v=((y:Int),(known ((T.getD L []).take y)).map some,T,G.set L (G.getD L []++ [some q]),(N:Int),())) rfl rfl ?_
 rintro y v K hj hi rfl hK
 dsimp only
 refine Br.dec (λhl=>?_) λhl=>?_
 ·have hl:y<N:=by omega
  have hy:y<(T.getD L []).length:=by omega
  have OV:=zE hy
  have Ls:=rM ((T.getD L []).take y)
  rw [List.length_take] at Ls
  have hye:(T.getD L []).getD y none=(T.getD L [])[y]:=wu hy
  simp only [Int.toNat_natCast]
  refine ⟨by omega,⟨by omega,by omega⟩,?_⟩
  rcases Option.eq_none_or_eq_some ((T.getD L []).getD y none) with ho|⟨t,ho⟩
  ·refine Br.dec (λhb=>by rw [ho] at hb;simp at hb) λ_=>?_
   rw [Ag (by omega)]
   refine hK hl _ rfl ?_
   rw [OV,<-hye,ho]
   simp
  ·obtain ⟨t1,t2,t3,t4⟩:=row.rt _ _ ho
   have htl:=t1.1
   refine Br.dec (λ_=>?_) λhb=>by rw [ho,Option.getD_some] at hb;omega
   refine ⟨by omega,⟨by omega,by omega⟩,?_,?_⟩
   ·show _<=4294967296
    rw [List.length_map];omega
   ·rw [Ag (by omega)]
    refine hK hl _ rfl ?_
    rw [OV,<-hye,ho]
    simp
 ·have:y=N:=by omega
  subst this
  have KL:(T.getD L []).take y=T.getD L []:=List.take_of_length_le (by omega)
  rw [KL]
  have WE:((known (T.getD L [])).map λu=>Aa u q).length=(known (T.getD L [])).length:=List.length_map _
  have Ls:=rM (T.getD L [])
  refine Ai (known (T.getD L [])).length (λv=>v.1) (λj v=> ∃s:Av×Av,v=((j:Int),(known (T.getD L [])).map some,s.2,s.1,(y:Int),())/\s=cm y L (((known (T.getD L [])).map λu=>Aa u q).take j) s0) rfl ⟨s0,by rw [<-WK,KS];rfl,rfl⟩ ?_
  rintro j v K' tf kN ⟨s,rfl,hs⟩ PV
  have hr:=run j
  rw [<-hs] at hr
  have g1:s.1.getD L []=G.getD L []++ [some q]:=by rw [hr.same,<-KS];exact UY
  have g4:gE y L (s.1,s.2)<=gE y L s0:=hr.mu
  dsimp only
  refine Br.dec (λGm=>?_) λGm=>?_
  ·rw [List.length_map] at Gm
   have Gm:j<(known (T.getD L [])).length:=by omega
   obtain ⟨w,hw⟩:=dP.1 (List.getElem_mem Gm)
   obtain ⟨t1,t2,t3,t4⟩:=row.rt _ _ hw
   have hqj:(((known (T.getD L [])).map λu=>Aa u q)[j]'(by rw [WE];exact Gm))=Aa (known (T.getD L []))[j] q:=by rw [List.getElem_map]
   obtain ⟨b1,b2,b3⟩:=a2 (Aa (known (T.getD L []))[j] q) (by rw [<-hqj];exact List.getElem_mem _)
   simp only [Int.toNat_natCast]
   refine ⟨⟨by omega,by rw [List.length_map];omega⟩,some (known (T.getD L []))[j],by rw [List.getElem?_map,List.getElem?_eq_getElem Gm];rfl,some (Aa (known (T.getD L []))[j] q),if_pos ⟨Pz t1,jV t1 pm⟩,_,
    if_pos ⟨⟨y,L,_,rfl,n1,n2,rfl,rfl,Fh,hr.part,b1,b2,by rw [g1,<-UY];exact b3,by rw [g1,List.length_append,List.length_singleton];omega⟩,by show gE (y:Int).toNat (L:Int).toNat (s.1,s.2)<m;rw [Int.toNat_natCast,Int.toNat_natCast];omega⟩,?_⟩
   simp only [Int.toNat_natCast,Option.getD_some]
   rw [Ag (by omega)]
   refine PV Gm _ rfl ⟨_,rfl,?_⟩
   rw [mW (by rw [WE];exact Gm),<-hs,hqj]
  ·rw [List.length_map] at Gm
   have:j=(known (T.getD L [])).length:=by omega
   subst this
   rw [<-WE,List.take_length] at hs
   exact back s (wM.trans hs.symm)
theorem NB {m:Nat} (zt:Bf Tryz.prog 157 (Ze m)):Bf Tryz.prog 146 (iL (m+1)):=
 Bf.gD (RP [pj+46]) (Ft xV (Ae Vu (Ft zt Al))) mixed Tryz.func146 (by kernel_rfl) (by kernel_rfl) λx h=>Abx x.1 x.2.1 x.2.2.1 x.2.2.2.1 x.2.2.2.2.1 h
theorem HH:Bf Tryz.prog 146 (iL 0)/\Bf Tryz.prog 157 (Ze 0):=
 ⟨Bf.gD Bg Al mixed Tryz.func146 (by kernel_rfl) (by kernel_rfl) λ_ h=>absurd h.2 (Nat.not_lt_zero _),
  Bf.gD Bg Al mixed Tryz.func157 (by kernel_rfl) (by kernel_rfl) λ_ h=>absurd h.2 (Nat.not_lt_zero _)⟩
theorem dW: ∀m,Bf Tryz.prog 146 (iL m)/\Bf Tryz.prog 157 (Ze m)
 |0=>HH
 |m+1=>⟨NB (dW m).2,NC (dW m).1 (dW m).2⟩
theorem BC:Bf Tryz.prog 146 uk:=Bf.TX (λx=>DY x.1.toNat x.2.2.2.1.toNat) λm=>(dW m).1
end Go.Proofs.YtfolipnappekaaaGreat

namespace Go.Proofs.YtfolipnappekaaaGreat
open Go.RowKit
noncomputable abbrev Wz:Spec:=Co (.pair tL .unit) tO false true (λx=>short x.1/\1<=List.length x.1) (λx=>some x.1)
noncomputable abbrev tA:MSpec:= {Fc:= [none],ins:= [(false, .Ee tI)],Dh:=false,Ef:= [none,none,none],outs:= [.Ee tI, .Ah tO pw false, .Ah tO pw false],fn:= λ_=>none,rp:=some 153}
noncomputable abbrev Mc:MSpec:=gD tA (λx=>1<=x.1/\x.1<=20) (λx=>((x.1,Rf x.1.toNat,Mq x.1.toNat,()),()))
noncomputable abbrev pK:MSpec:= {Fc:= [none,none],ins:= [(false, .Ee tI),(false, .Ee RK)],Dh:=false,Ef:= [none,none,none],outs:= [.Ee tI, .Ah tO pw false, .Ah tO pw false],fn:= λ_=>none,rp:=some 153}
noncomputable abbrev Xw:MSpec:=gD pK (λx=>(1<=x.1/\x.1<=20)/\List.length x.2.1<=4294967296/\ ∀o∈(x.2.1:List PO),∃g,o=some g/\Pm x.1.toNat g)
 (λx=>((x.1,(Jx x.1.toNat x.2.1).2,(Jx x.1.toNat x.2.1).1,()),()))
noncomputable abbrev pL:MSpec:= {Fc:= [none,none],ins:= [(false, .Ee tI),(false, .Ee dX)],Dh:=false,Ef:= [none,none,none],outs:= [.Ee tI, .Ah tO pw false, .Ah tO pw false],fn:= λ_=>none,rp:=some 153}
noncomputable abbrev Mb:MSpec:=gD pL (λx=>(1<=x.1/\x.1<=20)/\List.length x.2.1<=4294967296/\ ∀g∈(x.2.1:List (List Int)),Pm x.1.toNat g)
 (λx=>((x.1,(jm x.1 x.2.1).2,(jm x.1 x.2.1).1,()),()))
noncomputable abbrev Qr:Spec:=Co (.pair (.ptr j5) (.pair tL .unit)) .bool false true (λx=> ∃N,On N 0 x.1.1 x.1.2.2.1 x.1.2.1 0 x.2.1) (λx=>Dx x.1.2.1 x.1.1.toNat 0 x.2.1)
noncomputable def cF (n:Int) (g:List (List Int)) (p:List Int):Bool:=(Ll n g&&Cw n p)&&Dx (jm n g).2 n.toNat 0 p
noncomputable abbrev Qt:Spec:=Co (.pair tI (.pair dX (.pair tL .unit))) .bool false true (λx=>Ew x.2.1/\short x.2.2.1) (λx=>cF x.1 x.2.1 x.2.2.1)
abbrev fa:Type:=Int×Int×List (List (Option (List Int)))×List (List (Option (List Int)))×PUnit
theorem uW (n:Int) (P:(Int×List (List (Option (List Int)))×List (List (Option (List Int)))×Unit)×Unit->Prop):(0=0/\0=([]:List Int).length/\0=0/\0=([]:List Int).length/\Bm (λ(v2:fa) (k3:fa->Prop)=>Br (decide (v2.1<n)) (((0:Int)<=n/\n<(↑Bj:Int)+(1:Int))/\n=n/\ ∃(y4:Option (List Int)),Jw.fn (n,())=some y4/\((0:Int)<=v2.1/\v2.1<(↑(List.replicate n.toNat (none:Option (List Int))).length:Int))/\0+v2.1.toNat<(List.replicate n.toNat (none:Option (List Int))).length/\0=0/\(List.replicate n.toNat (none:Option (List Int))).length=((List.replicate n.toNat (none:Option (List Int))).set (0+v2.1.toNat) y4).length/\(0=0/\v2.2.2.1.length=v2.2.2.1.length)/\(0=0/\1= [(List.replicate n.toNat (none:Option (List Int))).set (0+v2.1.toNat) y4].length)/\0< [(List.replicate n.toNat (none:Option (List Int))).set (0+v2.1.toNat) y4].length/\v2.2.2.1.length+ [(List.replicate n.toNat (none:Option (List Int))).set (0+v2.1.toNat) y4].length<=Bj/\0=0/\0=([]:List Int).length/\(0=0/\v2.2.2.2.1.length=v2.2.2.2.1.length)/\(0=0/\1=([[]]:List (List (Option (List Int)))).length)/\0<([[]]:List (List (Option (List Int)))).length/\v2.2.2.2.1.length+([[]]:List (List (Option (List Int)))).length<=Bj/\0=0/\(v2.2.2.1++ [(List.replicate n.toNat (none:Option (List Int))).set (0+v2.1.toNat) y4]).length=(v2.2.2.1++ [(List.replicate n.toNat (none:Option (List Int))).set (0+v2.1.toNat) y4]).length/\0=0/\(v2.2.2.2.1++ [[]]).length=(v2.2.2.2.1++ [[]]).length/\k3 (IntKind.i64.wrap (v2.1+(1:Int)),v2.2.1,v2.2.2.1++ [(List.replicate n.toNat (none:Option (List Int))).set (0+v2.1.toNat) y4],v2.2.2.2.1++ [[]],())) ((0=0/\v2.2.2.1.length=v2.2.2.1.length)/\(0=0/\v2.2.2.2.1.length=v2.2.2.2.1.length)/\P ((v2.2.1,v2.2.2.1,v2.2.2.2.1,()),()))) ((0:Int),n,[],[],PUnit.unit))=fnMW Ps (look [(115,Jw)]) Mc Tryz.f145 (n,()) P:=by kernel_rfl
abbrev di:Type:=(Int×List (List (Option (List Int)))×List (List (Option (List Int)))×PUnit)×PUnit
abbrev dj:Type:=Int×List (List (Option (List Int)))×List (List (Option (List Int)))×Int×PUnit
theorem qG (n:Int) (gens:List (Option (List Int))) (P:(Int×List (List (Option (List Int)))×List (List (Option (List Int)))×Unit)×Unit->Prop):(∃(y3:di),Mc.fn (n,())=some y3/\0=0/\y3.1.2.1.length=y3.1.2.1.length/\0=0/\y3.1.2.2.1.length=y3.1.2.2.1.length/\Bm (λ(v4:dj) (k5:dj->Prop)=>Br (decide (v4.1<(↑gens.length:Int))) (∃(y6:Option (List Int)),idx gens v4.1=some y6/\ ∃(y7:Option (List Int)),Wz.fn (y6.getD [],())=some y7/\0=0/\v4.2.1.length=v4.2.1.length/\0=0/\v4.2.2.1.length=v4.2.2.1.length/\ ∃(y8:di),uk.fn (v4.2.2.2.1,v4.2.1,v4.2.2.1,(0:Int),y7,())=some y8/\0=0/\y8.1.2.1.length=y8.1.2.1.length/\0=0/\y8.1.2.2.1.length=y8.1.2.2.1.length/\k5 (IntKind.i64.wrap (v4.1+(1:Int)),y8.1.2.1,y8.1.2.2.1,y8.1.1,())) ((0=0/\v4.2.1.length=v4.2.1.length)/\(0=0/\v4.2.2.1.length=v4.2.2.1.length)/\P ((v4.2.2.2.1,v4.2.1,v4.2.2.1,()),()))) ((0:Int),y3.1.2.1,y3.1.2.2.1,y3.1.1,PUnit.unit))=fnMW Ps (look [(145,Mc),(116,Wz),(146,uk)]) Xw Tryz.f129 (n,gens,()) P:=by kernel_rfl
theorem BW (c:Int×List (List (Option (List Int)))×List (List (Option (List Int)))×Unit) (p:List Int) (P:Bool->Prop):(∃(y3:List Int×Int×PUnit),ka.fn (c,(0:Int),p,())=some y3/\P (y3.2.1==c.1))=fnW Ps (look [(144,ka)]) Qr Tryz.f128 (c,p,()) P:=by kernel_rfl
theorem CB (n:Int) (g:List (List Int)) (p:List Int) (P:Bool->Prop):(∃(y4:Bool),Hu.fn (n,g,())=some y4/\Br y4 (Br ((↑p.length:Int)==n) (∃(y5:Bool),Du.fn (p,())=some y5/\Br y5 (∃(y6:(Int×List (List (Option (List Int)))×List (List (Option (List Int)))×PUnit)×PUnit),Mb.fn (n,g,())=some y6/\ ∃(y7:Bool),Qr.fn ((y6.1.1,List.take y6.1.2.1.length (List.drop 0 y6.1.2.1),List.take y6.1.2.2.1.length (List.drop 0 y6.1.2.2.1),()),p,())=some y7/\P y7) (P false)) (P false)) (P false))=fnW Cg (look [(123,Hu),(75,Du),(129,Mb),(128,Qr)]) Qt Tryz.f96 (n,g,p,()) P:=by kernel_rfl
theorem yx (p:Int×ByteArray×List (List Int)×Unit) (s:List Int) (P:Bool->Prop):(∃(y3:Bool),Ih.fn ((p.1,p.2.1,p.2.2.1,()),s,())=some y3/\Br y3 (∃(y4:Bool),Qt.fn (p.1,p.2.2.1,s,())=some y4/\P y4) (P false))=fnW Cg (look [(95,Ih),(96,Qt)]) Ig Tryz.f73 (p,s,()) P:=by kernel_rfl
theorem yo (p:Int×ByteArray×List (List Int)×Unit) (s:List Int) (P:Bool->Prop):(∃(y3:Bool),Ih.fn ((p.1,p.2.1,p.2.2.1,()),s,())=some y3/\Br y3 (∃(y4:(Int×List (List (Option (List Int)))×List (List (Option (List Int)))×PUnit)×PUnit),Qx.fn (p.1,p.2.2.1,())=some y4/\ ∃(y5:Bool),iM.fn ((y4.1.1,List.take y4.1.2.1.length (List.drop 0 y4.1.2.1),List.take y4.1.2.2.1.length (List.drop 0 y4.1.2.2.1),()),(0:Int),s,())=some y5/\P y5) (P false))=fnW Cg (look [(97,Ih),(98,Qx),(99,iM)]) Ig Tryz.f74 (p,s,()) P:=by kernel_rfl
theorem er:Sound Tryz.prog 115 Jw:=Sound.YK oG λ_ h=>EJ h
theorem lJ:Sound Tryz.prog 116 Wz:=Sound.YK Pk λx h=>⟨h.1,λe=>by
 have h2:=h.2
 replace e:x.1= []:=e
 rw [e] at h2
 simp at h2⟩
theorem tU (n:Int) (h:1<=n/\n<=20):fnMW Ps (look [(115,Jw)]) Mc Tryz.f145 (n,()) (λ(z:(Int×List (List (Option (List Int)))×List (List (Option (List Int)))×Unit)×Unit)=>z=((n,Rf n.toNat,Mq n.toNat,()),())):=by
 obtain ⟨h1,h2⟩:=h
 obtain ⟨N,rfl⟩: ∃N:Nat,n=N:=⟨n.toNat,by omega⟩
 rw [Int.toNat_natCast]
 refine Eq.mp (uW (N:Int) _) ?_
 have hm:((0:Int)<=(N:Int)/\(N:Int)<(Bj:Int)+1):=⟨by omega,by show (N:Int)<(4294967296:Int)+1;omega⟩
 simp only [hm,and_self,eq_self,true_and,and_true,Int.toNat_natCast,Nat.zero_add,List.length_nil,List.length_set,List.length_replicate,List.length_cons,Nat.lt_add_one]
 refine Ai N (λv=>v.1) (λj v=>v=((j:Int),(N:Int),(List.range j).map (Vw N),List.replicate j [],())) rfl rfl ?_
 rintro j v K hj hi rfl hK
 dsimp only
 refine Br.dec (λhl=>?_) λhl=>?_
 ·simp only [Int.toNat_natCast,List.length_map,List.length_range,List.length_replicate]
  refine ⟨_,if_pos ⟨by show (1:Int)<=N;omega,by show (N:Int)<=20;omega⟩,⟨by omega,by omega⟩,by omega,?_,?_,?_⟩
  ·show _<=4294967296
   omega
  ·show _<=4294967296
   omega
  ·rw [Ag (by omega)]
   refine hK (by omega) _ rfl ?_
   rw [List.range_succ,List.map_append,List.replicate_succ']
   rfl
 ·have:j=N:=by omega
  subst this
  rfl
theorem kh:Bf Tryz.prog 145 Mc:=
 Bf.gD gw (Ae er Al) mixed Tryz.func145 (by kernel_rfl) (by kernel_rfl) λx h=>tU x.1 h
theorem pV (n:Int) (gens:List (Option (List Int))) (h:(1<=n/\n<=20)/\List.length gens<=4294967296/\ ∀o∈(gens:List PO),∃g,o=some g/\Pm n.toNat g):
  fnMW Ps (look [(145,Mc),(116,Wz),(146,uk)]) Xw Tryz.f129 (n,gens,()) (λ(z:(Int×List (List (Option (List Int)))×List (List (Option (List Int)))×Unit)×Unit)=>z=((n,(Jx n.toNat gens).2,(Jx n.toNat gens).1,()),())):=by
 obtain ⟨⟨h1,h2⟩,h3,hg⟩:=h
 obtain ⟨N,rfl⟩: ∃N:Nat,n=N:=⟨n.toNat,by omega⟩
 rw [Int.toNat_natCast] at hg⊢
 have h1:1<=N:=by omega
 have h2:N<=20:=by omega
 refine Eq.mp (qG (N:Int) gens _) ⟨_,if_pos ⟨by show (1:Int)<=N;omega,by show (N:Int)<=20;omega⟩,rfl,rfl,rfl,rfl,?_⟩
 simp only [Int.toNat_natCast,true_and,and_true]
 refine Ai gens.length (λv=>v.1) (λi v=>v=((i:Int),(Jx N (gens.take i)).2,(Jx N (gens.take i)).1,(N:Int),())) rfl rfl ?_
 rintro i v K' kN Afr rfl PV
 dsimp only
 refine Br.dec (λGm=>?_) λGm=>?_
 ·have Gm:i<gens.length:=by omega
  obtain ⟨g,jd,Mu⟩:=hg gens[i] (List.getElem_mem Gm)
  have hgl:=Mu.1
  have hv:=qT h1 h2 (gens:=gens.take i) λo ho=>hg o (List.mem_of_mem_take ho)
  refine ⟨some g,by rw [Ap Gm,jd],some g,if_pos ⟨by show g.length<=4294967296;omega,by show 1<=g.length;omega⟩,_,if_pos ⟨N,0,g,rfl,h1,h2,rfl,rfl,Nat.zero_le _,hv,Mu,λi hi=>absurd hi (Nat.not_lt_zero _)⟩,?_⟩
  rw [Ag (by omega)]
  refine PV Gm _ rfl ?_
  rw [sE Gm,jd]
  rfl
 ·have:i=gens.length:=by omega
  subst this
  rw [List.take_length]
theorem iP:Bf Tryz.prog 129 Xw:=
 Bf.gD gw (Ft kh (Ae lJ (Ft BC Al))) mixed Tryz.func129 (by kernel_rfl) (by kernel_rfl) λx h=>pV x.1 x.2.1 h
theorem kf:Bf Tryz.prog 129 Mb:=by
 have h:=iP
 refine ⟨h.enter,λw S π us x r o g vs h1 hg h2 h3 hS h4 h5=>?_⟩
 obtain ⟨n,gens,⟨⟩⟩:=x
 match us,h2 with
 |u1::u2::us,h2=>
  obtain ⟨h6,⟨h7,h8⟩,h9⟩:=h2
  obtain ⟨os,jc,bF⟩:=Bb.UF (e:=tI) h8
  have bF:os.map (·.getD [])=(gens:List (List Int)):=bF
  have Xq:(1<=n/\n<=20)/\List.length gens<=4294967296/\ ∀g∈(gens:List (List Int)),Pm n.toNat g:=Classical.byContradiction λhn=>by
   have:Mb.fn (n,gens,())=none:=if_neg hn
   rw [this] at h5;cases h5
  have VY:os=gens.map some:=by
   rw [<-bF,List.map_map]
   refine (List.map_id os).symm.trans (List.map_congr_left λx hx=>?_)
   cases x with
   |some y=>rfl
   |none=>
    have:=Xq.2.2 [] (by rw [<-bF];exact List.mem_map.2 ⟨none,hx,rfl⟩)
    have h1:=this.n1
    have h2:=this.1
    simp at h2
    omega
  have hv:Mb.fn (n,gens,())=some ((n,(jm n gens).2,(jm n gens).1,()),()):=if_pos Xq
  rw [hv] at h5
  have h5:=Option.some.inj h5
  refine h.calls w S π (u1::u2::us) (n,os,()) r o g vs h1 hg ⟨h6,⟨h7,jc⟩,h9⟩ h3 hS h4 ?_
  refine (if_pos ⟨Xq.1,by rw [VY,List.length_map];exact Xq.2.1,λy hy=>?pp⟩).trans (congrArg some ?qq)
  case pp=>
   replace hy:y∈os:=hy
   rw [VY] at hy
   obtain ⟨g,hg,rfl⟩:=List.mem_map.1 hy
   exact ⟨g,rfl,Xq.2.2 g hg⟩
  case qq=>subst VY;exact h5
theorem zW (c:Int×List (List (Option (List Int)))×List (List (Option (List Int)))×Unit) (p:List Int) (h: ∃N,On N 0 c.1 c.2.2.1 c.2.1 0 p):
  fnW Ps (look [(144,ka)]) Qr Tryz.f128 (c,p,()) (λ(z:Bool)=>z=Dx c.2.1 c.1.toNat 0 p):=by
 obtain ⟨n,T,G,⟨⟩⟩:=c
 obtain ⟨N,h⟩:=h
 have h':=h
 obtain ⟨n1,n2,en,el,hle,v,pm,fx⟩:=h
 dsimp only at en
 subst en
 refine Eq.mp (BW ((N:Int),T,G,()) p _) ⟨_,if_pos ⟨N,0,h'⟩,?_⟩
 have hs:=ou (T:=T) N 0 p
 rw [Nat.zero_add] at hs
 show ((Iu T ((N:Int)-0).toNat (0:Int).toNat p).2.1==(N:Int))=Dx T (N:Int).toNat 0 p
 rw [Int.sub_zero,Int.toNat_natCast]
 exact Bool.eq_iff_iff.2 (beq_iff_eq.trans hs)
theorem oB:Sound Tryz.prog 128 Qr:=
 Sound.Co gw (Ae BK Al) mixed Tryz.func128 (by kernel_rfl) (by kernel_rfl) λx h=>zW x.1 x.2.1 h
theorem AB (n:Int) (g:List (List Int)) (p:List Int) (h:Ew g/\short p):fnW Cg (look [(123,Hu),(75,Du),(129,Mb),(128,Qr)]) Qt Tryz.f96 (n,g,p,()) (λ(z:Bool)=>z=cF n g p):=by
 obtain ⟨hg,hp⟩:=h
 refine Eq.mp (CB n g p _) ⟨_,if_pos hg,?_⟩
 unfold cF
 show Br (Ll n g) _ _
 refine Br.of (λh1=>?_) λh1=>by rw [h1];rfl
 obtain ⟨⟨n1,n2⟩,h8,Gy⟩:=Di.1 h1
 refine Br.of (λh2=>?_) λh2=>?_
 ·have h2:(p.length:Int)=n:=eq_of_beq h2
  refine ⟨_,if_pos hp,?_⟩
  show Br (Ej p) _ _
  refine Br.of (λh3=>?_) λh3=>?_
  ·have SY:Cw n p=true:=Di.2 ⟨h2,h3⟩
   have KP: ∀x,Cw n x=true->Pm n.toNat x:= λx hx=>by
    obtain ⟨a,b⟩:=Di.1 hx
    exact ⟨by omega,az b⟩
   have ig: ∀x∈g,Pm n.toNat x:= λx hx=>KP x (Gy x hx)
   have hV:=qT (n:=n.toNat) (by omega) (by omega) (Zb ig)
   refine ⟨_,if_pos ⟨⟨n1,n2⟩,hg.1,ig⟩,_,if_pos ⟨n.toNat,?vv⟩,?_⟩
   case vv=>
    simp only [Bi]
    exact ⟨by omega,by omega,(Int.toNat_of_nonneg (by omega)).symm,rfl,Nat.zero_le _,hV,KP p SY,λi hi=>absurd hi (Nat.not_lt_zero _)⟩
   simp only [Bi]
   rw [h1,SY]
   rfl
  ·have:Cw n p=false:=by
    rw [Bool.eq_false_iff]
    intro hc
    rw [(Di.1 hc).2] at h3
    cases h3
   rw [this,Bool.and_false,Bool.false_and]
 ·have:Cw n p=false:=by
   rw [Bool.eq_false_iff]
   intro hc
   rw [(Di.1 hc).1] at h2
   simp at h2
  rw [this,Bool.and_false,Bool.false_and]
theorem oI:Sound Tryz.prog 96 Qt:=
 Sound.Co Bg (Ae Zm (Ae Md (Ft kf (Ae oB Al)))) mixed Tryz.func96 (by kernel_rfl) (by kernel_rfl) λx h=>AB x.1 x.2.1 x.2.2.1 h
theorem EP {p:PP} (hv:Bt p=true) {s:List Int} (hs:Pm p.1.toNat s):Dx (jm p.1 p.2.2.1).2 p.1.toNat 0 s=Dx (Wh p.1 p.2.2.1).2 p.1.toNat 0 s:=by
 have hV:=valid hv
 have hn:=hV.n
 have hg:=Zb (Ye hV).2.2
 exact Bool.eq_iff_iff.2 ((wy (by omega) (by omega) hg hs).trans (fL (by omega) (by omega) hg hs).symm)
theorem wo {n:Int} {s:List Int} (h:Cw n s=true):Pm n.toNat s:=by
 obtain ⟨a,b⟩:=Di.1 h
 exact ⟨by omega,az b⟩
theorem xE (p:PP) (s:List Int) (h:Cl p/\short s):fnW Cg (look [(95,Ih),(96,Qt)]) Ig Tryz.f73 (p,s,()) (λ(z:Bool)=>z=Ga p s):=by
 refine Eq.mp (yx p s _) ⟨_,if_pos h,?_⟩
 show Br (Bt p&&Cw p.1 s) _ _
 unfold Ga
 refine Br.of (λhb=>?_) λhb=>by rw [hb];rfl
 obtain ⟨hv,hg⟩:=Bool.and_eq_true_iff.1 hb
 have hV:=valid hv
 have hn:=hV.n
 have Aal:Ll p.1 p.2.2.1=true:=by
  refine Di.2 ⟨⟨by omega,by omega⟩,by have:=hV.sW;omega,λx hx=>Di.2 ⟨by have:=hV.len x hx;omega,hV.perm x hx⟩⟩
 refine ⟨_,if_pos ⟨h.1.2,h.2⟩,?_⟩
 show cF p.1 p.2.2.1 s=_
 unfold cF
 rw [Aal,hg,hv,EP hv (wo hg)]
theorem lV:Sound Tryz.prog 73 Ig:=
 Sound.Co Bg (Ae iV (Ae oI Al)) mixed Tryz.func73 (by kernel_rfl) (by kernel_rfl) λx h=>xE x.1 x.2.1 h
theorem xx (p:PP) (s:List Int) (h:Cl p/\short s):fnW Cg (look [(97,Ih),(98,Qx),(99,iM)]) Ig Tryz.f74 (p,s,()) (λ(z:Bool)=>z=Ga p s):=by
 refine Eq.mp (yo p s _) ⟨_,if_pos h,?_⟩
 show Br (Bt p&&Cw p.1 s) _ _
 unfold Ga
 refine Br.of (λhb=>?_) λhb=>by rw [hb];rfl
 obtain ⟨hv,hg⟩:=Bool.and_eq_true_iff.1 hb
 have hV:=valid hv
 have hn:=hV.n
 have wC:=PM hV
 refine ⟨_,if_pos (Ye hV),_,if_pos ⟨p.1.toNat,0,?vv⟩,?_⟩
 case vv=>
  simp only [Bi]
  exact ⟨by omega,by omega,(Int.toNat_of_nonneg (by omega)).symm,rfl,Nat.zero_le _,by rw [Nat.sub_zero];exact wC,wo hg,λi hi=>absurd hi (Nat.not_lt_zero _)⟩
 simp only [Bi]
 rw [hb,Bool.true_and,Int.sub_zero]
 rfl
theorem lO:Sound Tryz.prog 74 Ig:=
 Sound.Co Bg (Ae iS (Ft oK (Ae sr Al))) mixed Tryz.func74 (by kernel_rfl) (by kernel_rfl) λx h=>xx x.1 x.2.1 h
end Go.Proofs.YtfolipnappekaaaGreat

namespace Go.Proofs.YtfolipnappekaaaGreat
open Go.RowKit
noncomputable def Pb (p:PP) (ts:List TT) (s:List Int):Bool:=Ga p s&&Cy p ts
noncomputable abbrev Qq:Spec:=Co (.pair Dc (.pair ya (.pair tL .unit))) (.pair (.optr aR) (.pair .bool .unit)) true false (λx=>Cl x.1/\Fe x.2.1/\short x.2.2.1) (λx=>if Pb x.1 x.2.1 x.2.2.1=true then (some (Vj x.2.1),true,()) else (none,false,()))
noncomputable abbrev jY:Spec:=Co (.pair Dc (.pair ya (.pair tL .unit))) .bool false true (λx=>Cl x.1/\Fe x.2.1/\short x.2.2.1) (λx=>Pb x.1 x.2.1 x.2.2.1)
noncomputable def nG (p:PP) (ts:List TT) (s:List Int):Int:=if Pb p ts s=true then max (rQ ts s) (rQ ts (Af s)) else-1
noncomputable abbrev Sw:Spec:=Co (.pair Dc (.pair ya (.pair tL .unit))) tI false true (λx=>Cl x.1/\Fe x.2.1/\short x.2.2.1) (λx=>nG x.1 x.2.1 x.2.2.1)
noncomputable abbrev k8:Spec:=Co (.pair Dc (.pair ya (.pair tL .unit))) .bool false true (λx=>Cl x.1/\Fe x.2.1/\short x.2.2.1) (λ_=>true)
theorem BV (p:Int×ByteArray×List (List Int)×Unit) (ts:List (List Int×List (List Int)×List Int×Unit)) (s:List Int) (P:(Option (List (List Int×List (List Int)×List Int×Unit)×List (ByteArray->Option Int)×Unit)×Bool×Unit)->Prop):(∃(y4:Bool),Ig.fn ((p.1,p.2.1,p.2.2.1,()),s,())=some y4/\Br (!y4) (P (none,false,())) (∃(y5:Bool),Gs.fn ((p.1,p.2.1,p.2.2.1,()),ts,())=some y5/\Br (!y5) (P (none,false,())) (∃(y6:Option (List (List Int×List (List Int)×List Int×PUnit)×List (ByteArray->Option Int)×PUnit)),Oe.fn (ts,())=some y6/\P (y6,true,()))))=fnW Cg (look [(74,Ig),(63,Gs),(64,Oe)]) Qq Tryz.f51 (p,ts,s,()) P:=by kernel_rfl
theorem YO (p:Int×ByteArray×List (List Int)×Unit) (ts:List (List Int×List (List Int)×List Int×Unit)) (s:List Int) (P:Bool->Prop):(∃(y4:Bool),Gs.fn ((p.1,p.2.1,p.2.2.1,()),ts,())=some y4/\Br y4 (∃(y5:Bool),Ig.fn ((p.1,p.2.1,p.2.2.1,()),s,())=some y5/\P y5) (P false))=fnW Cg (look [(72,Gs),(73,Ig)]) jY Tryz.f47 (p,ts,s,()) P:=by kernel_rfl
theorem CA (p:Int×ByteArray×List (List Int)×Unit) (ts:List (List Int×List (List Int)×List Int×Unit)) (s:List Int) (P:Int->Prop):(∃(y4:Option (List (List Int×List (List Int)×List Int×PUnit)×List (ByteArray->Option Int)×PUnit)×Bool×PUnit),Qq.fn ((p.1,p.2.1,p.2.2.1,()),ts,s,())=some y4/\Br (!y4.2.1) (P (-1:Int)) (∃(y5:Int),aK.fn (y4.1,s,())=some y5/\ ∃(y6:List Int),Ca.fn (s,())=some y6/\ ∃(y7:Int),aK.fn (y4.1,y6,())=some y7/\P (if true=true then if y7>y5 then y7 else y5 else if y7<y5 then y7 else y5)))=fnW Cg (look [(51,Qq),(52,aK),(56,Ca)]) Sw Tryz.f24 (p,ts,s,()) P:=by kernel_rfl
theorem CG (p:Int×ByteArray×List (List Int)×Unit) (ts:List (List Int×List (List Int)×List Int×Unit)) (s:List Int) (P:Int->Prop):(∃(y4:Bool),jY.fn ((p.1,p.2.1,p.2.2.1,()),ts,s,())=some y4/\Br (!y4) (P (-1:Int)) (∃(y5:Int),aJ.fn (ts,s,())=some y5/\ ∃(y6:List Int),Gb.fn (s,())=some y6/\ ∃(y7:Int),aJ.fn (ts,y6,())=some y7/\P (if true=true then if y7>y5 then y7 else y5 else if y7<y5 then y7 else y5)))=fnW Cg (look [(47,jY),(48,aJ),(55,Gb)]) Sw Tryz.f23 (p,ts,s,()) P:=by kernel_rfl
abbrev gr:Type:=List (List Int×List (List Int)×List Int×PUnit)
abbrev gu:Type:=Int×ByteArray×List (List Int)×PUnit
theorem IE (p:Int×ByteArray×List (List Int)×Unit) (ts:List (List Int×List (List Int)×List Int×Unit)) (s:List Int) (P:Bool->Prop):(Br (decide ((↑s.length:Int)>(1048576:Int))) (P true) (∃(y4:Int),sl.fn ((p.1,p.2.1,p.2.2.1,()),(1048576:Int),())=some y4/\Br (decide (y4<(0:Int))) (P true) (∃(y5:Int),kb.fn (ts,y4,())=some y5/\Br (decide (y5<(0:Int))) (P true) (∃(y6:gu),lb.fn ((p.1,p.2.1,p.2.2.1,()),())=some y6/\ ∃(y7:gr),dc.fn (ts,())=some y7/\ ∃(y8:List Int),Vr.fn (s,())=some y8/\ ∃(y9:Int),Sw.fn (y6,y7,y8,())=some y9/\ ∃(Ya:gu),lb.fn ((p.1,p.2.1,p.2.2.1,()),())=some Ya/\ ∃(qS:gr),dc.fn (ts,())=some qS/\ ∃(vn:List Int),Vr.fn (s,())=some vn/\ ∃(OO:Int),Sw.fn ((Ya.1,Ya.2.1,Ya.2.2.1,()),qS,vn,())=some OO/\Br (OO !=y9) (P false) (∃(aW:gu),lb.fn ((p.1,p.2.1,p.2.2.1,()),())=some aW/\ ∃(px:Bool),sj.fn ((Ya.1,Ya.2.1,Ya.2.2.1,()),aW,())=some px/\Br (!px) (P false) (∃(vA:gr),dc.fn (ts,())=some vA/\ ∃(RW:Bool),jX.fn (qS,vA,())=some RW/\Br (!RW) (P false) (∃(IQ:List Int),Vr.fn (s,())=some IQ/\ ∃(y19:Bool),Ao.fn (vn,IQ,())=some y19/\Br (!y19) (P false) (P true))))))))=fnW Cg (look [(13,sl),(14,kb),(23,Sw),(24,Sw),(16,lb),(17,dc),(18,Vr),(20,sj),(21,jX),(22,Ao)]) k8 Tryz.f4 (p,ts,s,()) P:=by kernel_rfl
theorem ru {p:PP} {ts:List TT} {s:List Int} (h:Pb p ts s=true):Zt ts/\bR ts s/\Ga p s=true:=by
 unfold Pb at h
 obtain ⟨h1,h2⟩:=Bool.and_eq_true_iff.1 h
 exact ⟨(dk h2).2.1,o6 h1 h2,h1⟩
theorem wE {p:PP} {ts:List TT} {s:List Int} (h:Pb p ts s=true):bR ts (Af s)/\Ej s=true:=by
 unfold Pb at h
 obtain ⟨h1,h2⟩:=Bool.and_eq_true_iff.1 h
 exact ⟨o6 (GY h1) h2,AN h1⟩
theorem zV (p:PP) (ts:List TT) (s:List Int) (h:Cl p/\Fe ts/\short s):fnW Cg (look [(74,Ig),(63,Gs),(64,Oe)]) Qq Tryz.f51 (p,ts,s,()) (λ(z:Option BB×Bool×Unit)=>z=if Pb p ts s=true then (some (Vj ts),true,()) else (none,false,())):=by
 obtain ⟨h0,h1,h2⟩:=h
 refine Eq.mp (BV p ts s _) ⟨_,if_pos ⟨h0,h2⟩,?_⟩
 show Br (!Ga p s) _ _
 have hh:Pb p ts s=(Ga p s&&Cy p ts):=rfl
 rw [hh]
 refine Br.of (λhb=>?_) λhb=>?_
 ·have hb:Ga p s=false:=by simpa using hb
  rw [hb];rfl
 ·have hb:Ga p s=true:=by simpa using hb
  refine ⟨_,if_pos ⟨h0,h1⟩,?_⟩
  show Br (!Cy p ts) _ _
  refine Br.of (λhc=>?_) λhc=>?_
  ·have hc:Cy p ts=false:=by simpa using hc
   rw [hb,hc];rfl
  ·have hc:Cy p ts=true:=by simpa using hc
   refine ⟨_,if_pos (dk hc).2.1,?_⟩
   rw [hb,hc];rfl
theorem oA:Sound Tryz.prog 51 Qq:=
 Sound.Co Bg (Ae lO (Ae gk (Ae lR Al))) mixed Tryz.func51 (by kernel_rfl) (by kernel_rfl) λx h=>zV x.1 x.2.1 x.2.2.1 h
theorem XO (p:PP) (ts:List TT) (s:List Int) (h:Cl p/\Fe ts/\short s):fnW Cg (look [(72,Gs),(73,Ig)]) jY Tryz.f47 (p,ts,s,()) (λ(z:Bool)=>z=Pb p ts s):=by
 obtain ⟨h0,h1,h2⟩:=h
 refine Eq.mp (YO p ts s _) ⟨_,if_pos ⟨h0,h1⟩,?_⟩
 show Br (Cy p ts) _ _
 have hh:Pb p ts s=(Ga p s&&Cy p ts):=rfl
 rw [hh]
 refine Br.of (λhb=>⟨_,if_pos ⟨h0,h2⟩,?_⟩) λhb=>?_
 ·rw [hb,Bool.and_true]
 ·rw [hb,Bool.and_false]
theorem BH:Sound Tryz.prog 47 jY:=
 Sound.Co Bg (Ae gp (Ae lV Al)) mixed Tryz.func47 (by kernel_rfl) (by kernel_rfl) λx h=>XO x.1 x.2.1 x.2.2.1 h
theorem AA (p:PP) (ts:List TT) (s:List Int) (h:Cl p/\Fe ts/\short s):fnW Cg (look [(51,Qq),(52,aK),(56,Ca)]) Sw Tryz.f24 (p,ts,s,()) (λ(z:Int)=>z=nG p ts s):=by
 refine Eq.mp (CA p ts s _) ?_
 unfold nG
 by_cases hh:Pb p ts s=true
 ·obtain ⟨a,b,hr⟩:=ru hh
  obtain ⟨b',_⟩:=wE hh
  obtain ⟨_,hp,_⟩:=o5 hr
  rw [if_pos hh]
  refine ⟨_,(if_pos h).trans (congrArg some (if_pos hh)),λhb=>by simp at hb,λ_=>⟨_,if_pos ⟨ts,a,rfl,b⟩,_,if_pos ⟨hp.2.len,hp.2.row⟩,_,if_pos ⟨ts,a,rfl,b'⟩,?_⟩⟩
  exact tR _ _
 ·rw [if_neg hh]
  exact ⟨_,(if_pos h).trans (congrArg some (if_neg hh)),λ_=>rfl,λhb=>by simp at hb⟩
theorem oH:Sound Tryz.prog 24 Sw:=
 Sound.Co Bg (Ae oA (Ae xT (Ae Kz Al))) mixed Tryz.func24 (by kernel_rfl) (by kernel_rfl) λx h=>AA x.1 x.2.1 x.2.2.1 h
theorem AH (p:PP) (ts:List TT) (s:List Int) (h:Cl p/\Fe ts/\short s):fnW Cg (look [(47,jY),(48,aJ),(55,Gb)]) Sw Tryz.f23 (p,ts,s,()) (λ(z:Int)=>z=nG p ts s):=by
 refine Eq.mp (CG p ts s _) ⟨_,if_pos h,?_⟩
 show Br (!Pb p ts s) _ _
 unfold nG
 refine Br.of (λhb=>?_) λhb=>?_
 ·rw [if_neg (Dk hb)]
 ·have hh:Pb p ts s=true:=by simpa using hb
  obtain ⟨a,b,_⟩:=ru hh
  obtain ⟨b',hi⟩:=wE hh
  rw [if_pos hh]
  exact ⟨_,if_pos ⟨a,b⟩,_,if_pos hi,_,if_pos ⟨a,b'⟩,tR _ _⟩
theorem oP:Sound Tryz.prog 23 Sw:=
 Sound.Co Bg (Ae BH (Ae xS (Ae Xf Al))) mixed Tryz.func23 (by kernel_rfl) (by kernel_rfl) λx h=>AH x.1 x.2.1 x.2.2.1 h
theorem GH (p:PP) (ts:List TT) (s:List Int) (h:Cl p/\Fe ts/\short s):fnW Cg (look [(13,sl),(14,kb),(23,Sw),(24,Sw),(16,lb),(17,dc),(18,Vr),(20,sj),(21,jX),(22,Ao)]) k8 Tryz.f4 (p,ts,s,()) (λ(z:Bool)=>z=true):=by
 obtain ⟨h0,h1,h2⟩:=h
 refine Eq.mp (IE p ts s _) (Br.dec (λ_=>rfl) λ_=>?_)
 refine ⟨_,if_pos ⟨h0,xI⟩,Br.dec (λ_=>rfl) λhn=>⟨_,if_pos ⟨h1,(NG xI hn).2⟩,Br.dec (λ_=>rfl) λ_=>?_⟩⟩
 refine ⟨_,if_pos h0,_,if_pos h1,_,if_pos h2,_,if_pos ⟨h0,h1,h2⟩,_,if_pos h0,_,if_pos h1,_,if_pos h2,_,if_pos ⟨h0,h1,h2⟩,⟨λhe=>LG he,λ_=>?_⟩⟩
 refine ⟨_,if_pos h0,_,if_pos h0,⟨λhe=>nO (zG p) he,λ_=>?_⟩⟩
 refine ⟨_,if_pos h1,_,if_pos h1,⟨λhe=>nO (decide_eq_true rfl) he,λ_=>?_⟩⟩
 exact ⟨_,if_pos h2,_,if_pos h2,⟨λhe=>nO (jH s) he,λ_=>rfl⟩⟩
theorem qo:Sound Tryz.prog 4 k8:=
 Sound.Co Bg (Ae HN (Ae BL (Ae oP (Ae oH (Ae HO (Ae BM (Ae kq (Ae HK (Ae BG (Ae ki Al)))))))))) mixed Tryz.func4 (by kernel_rfl) (by kernel_rfl) λx h=>GH x.1 x.2.1 x.2.2.1 h
end Go.Proofs.YtfolipnappekaaaGreat
