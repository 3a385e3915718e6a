/-
  Part 45 of the proof that the statement FnExactBestTableIndex holds.
-/
import Derived.Test.YtfolipnappekaaaGreatCBestTableIndex43
namespace Go.Proofs.YtfolipnappekaaaGreat
open Go.RowKit
noncomputable abbrev kd:Spec:=Co (.pair (.ptr j8) (.pair tI (.pair tL .unit))) (.pair tL (.pair tI .unit)) true false (λx=> ∃N L,Oo N L x.1.1 x.1.2.2.1 x.1.2.1 x.2.1 x.2.2.1) (λx=>Is x.1.2.1 (x.1.1-x.2.1).toNat x.2.1.toNat x.2.2.1)
noncomputable abbrev XA:MSpec:= {ptr:=some (153,3),Fb:= [none,none],ins:= [(false, .Ee tI),(false, .Ai tO pz false),(false, .Ai tO pz false),(false, .Ee tI),(false, .Ee tL)],Dh:=true,Ef:= [none,none],outs:= [.Ee tI, .Ai tO pz false, .Ai tO pz false, .Ee tL, .Ee tI],fn:= λ_=>none}
noncomputable abbrev dY:MSpec:=gF XA (λx=> ∃N L,Oo N L x.1 x.2.2.1 x.2.1 x.2.2.2.1 x.2.2.2.2.1)
 (λx=>((x.1,x.2.1,x.2.2.1,(Is x.2.1 (x.1-x.2.2.2.1).toNat x.2.2.2.1.toNat x.2.2.2.2.1).1,(Is x.2.1 (x.1-x.2.2.2.1).toNat x.2.2.2.1.toNat x.2.2.2.2.1).2.1,()),()))
structure RY (N L:Nat) (n:Int) (G T:Av) (l:Int) (p:List Int):Prop where
 n1:1<=N
 n2:N<=20
 en:n=N
 el:l=L
 lt:L<N
 part:Part N L (G,T)
 pm:Pm N p
 fx:Fx L p
 gn:Gn N (G.getD L []) p
 gl:(G.getD L []).length<=401
noncomputable abbrev LI:MSpec:= {ptr:=some (153,3),Fb:= [none,none],ins:= [(false, .Ee tI),(false, .Ai tO pz false),(false, .Ai tO pz false),(false, .Ee tI),(false, .Ee tO)],Dh:=false,Ef:= [],outs:= [.Ee tI, .Ai tO pz false, .Ai tO pz false],fn:= λ_=>none}
noncomputable abbrev iL (m:Nat):MSpec:=gF LI (λx=>(∃N L q,x.2.2.2.2.1=some q/\Oo N L x.1 x.2.2.1 x.2.1 x.2.2.2.1 q)/\EA x.1.toNat x.2.2.2.1.toNat<m)
 (λx=>((x.1,(eh x.1.toNat 1000 x.2.2.2.1.toNat (x.2.2.2.2.1.getD []) (x.2.2.1,x.2.1)).2,(eh x.1.toNat 1000 x.2.2.2.1.toNat (x.2.2.2.2.1.getD []) (x.2.2.1,x.2.1)).1,()),()))
noncomputable abbrev Zb (m:Nat):MSpec:=gF LI (λx=>(∃N L q,x.2.2.2.2.1=some q/\RY N L x.1 x.2.2.1 x.2.1 x.2.2.2.1 q)/\gG x.1.toNat x.2.2.2.1.toNat (x.2.2.1,x.2.1)<m)
 (λx=>((x.1,(aW x.1.toNat 1000 x.2.2.2.1.toNat (x.2.2.2.2.1.getD []) (x.2.2.1,x.2.1)).2,(aW x.1.toNat 1000 x.2.2.2.1.toNat (x.2.2.2.2.1.getD []) (x.2.2.1,x.2.1)).1,()),()))
noncomputable abbrev uk:MSpec:=gF LI (λx=> ∃N L q,x.2.2.2.2.1=some q/\Oo N L x.1 x.2.2.1 x.2.1 x.2.2.2.1 q)
 (λx=>((x.1,(eh x.1.toNat 1000 x.2.2.2.1.toNat (x.2.2.2.2.1.getD []) (x.2.2.1,x.2.1)).2,(eh x.1.toNat 1000 x.2.2.2.1.toNat (x.2.2.2.2.1.getD []) (x.2.2.1,x.2.1)).1,()),()))
theorem qQ (p q:List Int) (P:List Int->Prop):(0=0/\0=([]:List Int).length/\Bk (λ(v3:Int×List Int×PUnit) (k4:Int×List Int×PUnit->Prop)=>Br (decide (v3.1<(↑p.length:Int))) (∃(y5:Int),idx p v3.1=some y5/\ ∃(y6:Int),idx q y5=some y6/\0=0/\v3.2.1.length=v3.2.1.length/\v3.2.1.length+(List.take 1 (List.drop 0 [y6])).length<=Bj/\0=0/\(v3.2.1++List.take 1 (List.drop 0 [y6])).length=(v3.2.1++List.take 1 (List.drop 0 [y6])).length/\k4 (IntKind.i64.wrap (v3.1+(1:Int)),v3.2.1++List.take 1 (List.drop 0 [y6]),())) (P (List.take v3.2.1.length (List.drop 0 v3.2.1)))) ((0:Int),[],PUnit.unit))=fnW Cc (look []) Ud Tryz.f156 (p,q,()) P:=by kernel_rfl
theorem YR (c:Int×List (List (Option (List Int)))×List (List (Option (List Int)))×Unit) (l:Int) (p:List Int) (P:(List Int×Int×Unit)->Prop):(Bk (λ(v4:List Int×Int×PUnit) (k5:List Int×Int×PUnit->Prop)=>Br (decide (v4.2.1<c.1)) (∃(y6:List (Option (List Int))),idx c.2.1 v4.2.1=some y6/\ ∃(y7:Int),idx v4.1 v4.2.1=some y7/\ ∃(y8:Option (List Int)),idx y6 y7=some y8/\Br ((↑(y8.getD []).length:Int)==(0:Int)) (P (v4.1,v4.2.1,())) (∃(y9:List Int),Ck.fn (y8.getD [],())=some y9/\ ∃(Xy:List Int),Hr.fn (v4.1,y9,())=some Xy/\k5 (Xy,IntKind.i64.wrap (v4.2.1+(1:Int)),()))) (P (v4.1,c.1,()))) (p,l,PUnit.unit))=fnW Pu (look [(76,Ck),(156,Hr)]) kd Tryz.f144 (c,l,p,()) P:=by kernel_rfl
abbrev ya:Type:=List Int×Int×List (List (Option (List Int)))×List (List (Option (List Int)))×Int×PUnit
theorem RW (n:Int) (T G:List (List (Option (List Int)))) (l:Int) (p:List Int) (P:(Int×List (List (Option (List Int)))×List (List (Option (List Int)))×List Int×Int×Unit)×Unit->Prop):(0=0/\T.length=T.length/\0=0/\G.length=G.length/\Bk (λ(v6:ya) (k7:ya->Prop)=>Br (decide (v6.2.1<v6.2.2.2.2.1)) (((0:Int)<=v6.2.1/\v6.2.1<(↑v6.2.2.1.length:Int))/\ ∃(y8:Int),idx v6.1 v6.2.1=some y8/\((0:Int)<=y8/\y8<(↑(v6.2.2.1.getD (0+v6.2.1.toNat) []).length:Int))/\Br ((↑(((v6.2.2.1.getD (0+v6.2.1.toNat) []).getD y8.toNat (none:Option (List Int))).getD []).length:Int)==(0:Int)) ((0=0/\v6.2.2.1.length=v6.2.2.1.length)/\(0=0/\v6.2.2.2.1.length=v6.2.2.2.1.length)/\P ((v6.2.2.2.2.1,v6.2.2.1,v6.2.2.2.1,v6.1,v6.2.1,()),())) (∃(y9:List Int),Ck.fn (((v6.2.2.1.getD (0+v6.2.1.toNat) []).getD y8.toNat (none:Option (List Int))).getD [],())=some y9/\ ∃(Xy:List Int),Hr.fn (v6.1,y9,())=some Xy/\0=0/\v6.2.2.1.length=v6.2.2.1.length/\0=0/\v6.2.2.2.1.length=v6.2.2.2.1.length/\k7 (Xy,IntKind.i64.wrap (v6.2.1+(1:Int)),v6.2.2.1,v6.2.2.2.1,v6.2.2.2.2.1,()))) ((0=0/\v6.2.2.1.length=v6.2.2.1.length)/\(0=0/\v6.2.2.2.1.length=v6.2.2.2.1.length)/\P ((v6.2.2.2.2.1,v6.2.2.1,v6.2.2.2.1,v6.1,v6.2.2.2.2.1,()),()))) (p,l,T,G,n,PUnit.unit))=fnMW Pu (look [(76,Ck),(156,Hr)]) dY Tryz.f144 (n,T,G,l,p,()) P:=by kernel_rfl
abbrev uK:Type:=Int×List (Option (List Int))×List (List (Option (List Int)))×List (List (Option (List Int)))×Int×PUnit
abbrev NI:Type:=(Int×List (List (Option (List Int)))×List (List (Option (List Int)))×List Int×Int×PUnit)×PUnit
abbrev Gm (y7:NI) (l:Int) (p:Option (List Int)) (n:Int):Prop:=0=0/\(y7.1.2.2.1.getD (0+l.toNat) []).length=(y7.1.2.2.1.getD (0+l.toNat) []).length/\(y7.1.2.2.1.getD (0+l.toNat) []).length+(List.take 1 (List.drop 0 [p])).length<=Bj/\((0:Int)<=l/\l<(↑y7.1.2.2.1.length:Int))/\0=0/\(y7.1.2.2.1.getD (0+l.toNat) []++List.take 1 (List.drop 0 [p])).length=(y7.1.2.2.1.getD (0+l.toNat) []++List.take 1 (List.drop 0 [p])).length/\0+l.toNat=0+l.toNat/\ [(0,y7.1.2.2.1.length),(0,y7.1.2.2.1.length),(0,y7.1.2.1.length),(0,y7.1.2.2.1.length)]= [(0,y7.1.2.2.1.length),(0,y7.1.2.2.1.length),(0,y7.1.2.1.length),(0,y7.1.2.2.1.length)]/\(l,p,y7.1.2.2.2.1,y7.1.2.2.2.2.1,l,n,decide (l>=n),l,p,y7.1.2.2.2.1,y7.1.2.2.2.2.1,y7.1.2.2.2.2.1,y7.1.1,y7.1.2.2.2.2.1==y7.1.1,l,l,0+l.toNat,p,List.take 1 (List.drop 0 [p]),0+l.toNat,y7.1.2.1,y7.1.2.2.1.set (0+l.toNat) (y7.1.2.2.1.getD (0+l.toNat) []++List.take 1 (List.drop 0 [p])),y7.1.1,())=(l,p,y7.1.2.2.2.1,y7.1.2.2.2.2.1,l,n,decide (l>=n),l,p,y7.1.2.2.2.1,y7.1.2.2.2.2.1,y7.1.2.2.2.2.1,y7.1.1,y7.1.2.2.2.2.1==y7.1.1,l,l,0+l.toNat,p,List.take 1 (List.drop 0 [p]),0+l.toNat,y7.1.2.1,y7.1.2.2.1.set (0+l.toNat) (y7.1.2.2.1.getD (0+l.toNat) []++List.take 1 (List.drop 0 [p])),y7.1.1,PUnit.unit)
theorem Acl {m:Nat} (n:Int) (T G:List (List (Option (List Int)))) (l:Int) (p:Option (List Int)) (P:(Int×List (List (Option (List Int)))×List (List (Option (List Int)))×Unit)×Unit->Prop):(Br (decide (l>=n)) ((0=0/\T.length=T.length)/\(0=0/\G.length=G.length)/\P ((n,T,G,()),())) (0=0/\T.length=T.length/\0=0/\G.length=G.length/\ ∃(y7:NI),dY.fn (n,T,G,l,p.getD [],())=some y7/\Br (y7.1.2.2.2.2.1==y7.1.1) ((0=0/\y7.1.2.1.length=y7.1.2.1.length)/\(0=0/\y7.1.2.2.1.length=y7.1.2.2.1.length)/\P ((y7.1.1,y7.1.2.1,y7.1.2.2.1,()),())) (((0:Int)<=l/\l<(↑y7.1.2.2.1.length:Int))/\0=0/\(y7.1.2.2.1.getD (0+l.toNat) []).length=(y7.1.2.2.1.getD (0+l.toNat) []).length/\(y7.1.2.2.1.getD (0+l.toNat) []).length+(List.take 1 (List.drop 0 [p])).length<=Bj/\((0:Int)<=l/\l<(↑y7.1.2.2.1.length:Int))/\0=0/\(y7.1.2.2.1.getD (0+l.toNat) []++List.take 1 (List.drop 0 [p])).length=(y7.1.2.2.1.getD (0+l.toNat) []++List.take 1 (List.drop 0 [p])).length/\0+l.toNat=0+l.toNat/\(0=0/\0=([]:List Int).length/\0=0/\y7.1.2.1.length=y7.1.2.1.length/\0=0/\y7.1.2.2.1.length=(y7.1.2.2.1.set (0+l.toNat) (y7.1.2.2.1.getD (0+l.toNat) []++List.take 1 (List.drop 0 [p]))).length/\Bk (λ(v8:uK) (k9:uK->Prop)=>Br (decide (v8.1<v8.2.2.2.2.1)) (((0:Int)<=l/\l<(↑v8.2.2.1.length:Int))/\((0:Int)<=v8.1/\v8.1<(↑(v8.2.2.1.getD (0+l.toNat) []).length:Int))/\Br (decide ((↑(((v8.2.2.1.getD (0+l.toNat) []).getD v8.1.toNat (none:Option (List Int))).getD []).length:Int)>(0:Int))) (((0:Int)<=l/\l<(↑v8.2.2.1.length:Int))/\((0:Int)<=v8.1/\v8.1<(↑(v8.2.2.1.getD (0+l.toNat) []).length:Int))/\0=0/\v8.2.1.length=v8.2.1.length/\v8.2.1.length+(List.take 1 (List.drop 0 [(v8.2.2.1.getD (0+l.toNat) []).getD v8.1.toNat none])).length<=Bj/\0=0/\(v8.2.1++List.take 1 (List.drop 0 [(v8.2.2.1.getD (0+l.toNat) []).getD v8.1.toNat none])).length=(v8.2.1++List.take 1 (List.drop 0 [(v8.2.2.1.getD (0+l.toNat) []).getD v8.1.toNat none])).length/\0=0/\v8.2.2.1.length=v8.2.2.1.length/\0=0/\v8.2.2.2.1.length=v8.2.2.2.1.length/\k9 (IntKind.i64.wrap (v8.1+(1:Int)),v8.2.1++List.take 1 (List.drop 0 [(v8.2.2.1.getD (0+l.toNat) []).getD v8.1.toNat none]),v8.2.2.1,v8.2.2.2.1,v8.2.2.2.2.1,())) (0=0/\v8.2.1.length=v8.2.1.length/\0=0/\v8.2.2.1.length=v8.2.2.1.length/\0=0/\v8.2.2.2.1.length=v8.2.2.2.1.length/\k9 (IntKind.i64.wrap (v8.1+(1:Int)),v8.2.1,v8.2.2.1,v8.2.2.2.1,v8.2.2.2.2.1,()))) (0=0/\v8.2.1.length=v8.2.1.length/\0=0/\v8.2.2.1.length=v8.2.2.1.length/\0=0/\v8.2.2.2.1.length=v8.2.2.2.1.length/\Bk (λ(v10:uK) (k11:uK->Prop)=>Br (decide (v10.1<(↑v10.2.1.length:Int))) (((0:Int)<=v10.1/\v10.1<(↑v10.2.1.length:Int))/\ ∃(vh:Option (List Int)),v10.2.1[0+v10.1.toNat]?=some vh/\ ∃(OM:Option (List Int)),Ez.fn (vh.getD [],p.getD [],())=some OM/\0=0/\v10.2.2.1.length=v10.2.2.1.length/\0=0/\v10.2.2.2.1.length=v10.2.2.2.1.length/\ ∃(aS:(Int×List (List (Option (List Int)))×List (List (Option (List Int)))×PUnit)×PUnit),(Zb m).fn (v10.2.2.2.2.1,v10.2.2.1,v10.2.2.2.1,l,OM,())=some aS/\0=0/\v10.2.1.length=v10.2.1.length/\0=0/\aS.1.2.1.length=aS.1.2.1.length/\0=0/\aS.1.2.2.1.length=aS.1.2.2.1.length/\k11 (IntKind.i64.wrap (v10.1+(1:Int)),v10.2.1,aS.1.2.1,aS.1.2.2.1,aS.1.1,())) ((0=0/\v10.2.2.1.length=v10.2.2.1.length)/\(0=0/\v10.2.2.2.1.length=v10.2.2.2.1.length)/\P ((v10.2.2.2.2.1,v10.2.2.1,v10.2.2.2.1,()),()))) ((0:Int),v8.2.1,v8.2.2.1,v8.2.2.2.1,v8.2.2.2.2.1,PUnit.unit))) ((0:Int),[],y7.1.2.1,y7.1.2.2.1.set (0+l.toNat) (y7.1.2.2.1.getD (0+l.toNat) []++List.take 1 (List.drop 0 [p])),y7.1.1,PUnit.unit))/\(((((0:Int)<=l/\l<(↑y7.1.2.2.1.length:Int))/\((Gm y7 l p n))/\(Gm y7 l p n))/\((0:Int)<=l/\l<(↑y7.1.2.2.1.length:Int))/\(Gm y7 l p n))/\((0:Int)<=l/\l<(↑y7.1.2.2.1.length:Int))/\(Gm y7 l p n))/\(((((0:Int)<=l/\l<(↑y7.1.2.2.1.length:Int))/\((Gm y7 l p n))/\(Gm y7 l p n))/\((0:Int)<=l/\l<(↑y7.1.2.2.1.length:Int))/\(Gm y7 l p n))/\(((0:Int)<=l/\l<(↑y7.1.2.2.1.length:Int))/\(((Gm y7 l p n))/\(Gm y7 l p n))/\(((Gm y7 l p n))/\((Gm y7 l p n))/\(Gm y7 l p n))/\((Gm y7 l p n))/\((Gm y7 l p n))/\(Gm y7 l p n))/\(((0:Int)<=l/\l<(↑y7.1.2.2.1.length:Int))/\(Gm y7 l p n))/\((0:Int)<=l/\l<(↑y7.1.2.2.1.length:Int))/\((Gm y7 l p n))/\((Gm y7 l p n))/\(Gm y7 l p n))/\(((0:Int)<=l/\l<(↑y7.1.2.2.1.length:Int))/\(Gm y7 l p n))/\(((0:Int)<=l/\l<(↑y7.1.2.2.1.length:Int))/\(Gm y7 l p n))/\((0:Int)<=l/\l<(↑y7.1.2.2.1.length:Int))/\((Gm y7 l p n))/\((Gm y7 l p n))/\(Gm y7 l p n))))=fnMW (NT [po+46]) (look [(144,dY),(156,Ez),(157,Up.m (Zb m))]) (iL (m+1)) Tryz.f146 (n,T,G,l,p,()) P:=by kernel_rfl
abbrev NG:Type:=(Int×List (List (Option (List Int)))×List (List (Option (List Int)))×PUnit)×PUnit
abbrev NJ:Type:=Int×List (List (Option (List Int)))×List (List (Option (List Int)))×Int×PUnit
theorem Acm {m:Nat} (n:Int) (T G:List (List (Option (List Int)))) (l:Int) (p:Option (List Int)) (P:(Int×List (List (Option (List Int)))×List (List (Option (List Int)))×Unit)×Unit->Prop):(((0:Int)<=l/\l<(↑T.length:Int))/\ ∃(y7:Int),idx (p.getD []) l=some y7/\((0:Int)<=y7/\y7<(↑(T.getD (0+l.toNat) []).length:Int))/\Br (decide ((↑(((T.getD (0+l.toNat) []).getD y7.toNat (none:Option (List Int))).getD []).length:Int)>(0:Int))) (∃(y8:List Int),Ck.fn (((T.getD (0+l.toNat) []).getD y7.toNat (none:Option (List Int))).getD [],())=some y8/\ ∃(y9:Option (List Int)),Ez.fn (p.getD [],y8,())=some y9/\0=0/\T.length=T.length/\0=0/\G.length=G.length/\ ∃(Xy:NG),(iL m).fn (n,T,G,IntKind.i64.wrap (l+(1:Int)),y9,())=some Xy/\(0=0/\Xy.1.2.1.length=Xy.1.2.1.length)/\(0=0/\Xy.1.2.2.1.length=Xy.1.2.2.1.length)/\P ((Xy.1.1,Xy.1.2.1,Xy.1.2.2.1,()),())) (((0:Int)<=l/\l<(↑T.length:Int))/\ ∃(y8:Int),idx (p.getD []) l=some y8/\((0:Int)<=y8/\y8<(↑(T.getD (0+l.toNat) []).length:Int))/\0=0/\T.length=(T.set (0+l.toNat) ((T.getD (0+l.toNat) []).set y8.toNat p)).length/\0=0/\G.length=G.length/\Bk (λ(v9:NJ) (k10:NJ->Prop)=>((0:Int)<=l/\l<(↑v9.2.2.1.length:Int))/\Br (decide (v9.1<(↑(v9.2.2.1.getD (0+l.toNat) []).length:Int))) (((0:Int)<=l/\l<(↑v9.2.2.1.length:Int))/\((0:Int)<=v9.1/\v9.1<(↑(v9.2.2.1.getD (0+l.toNat) []).length:Int))/\ ∃(qU:Option (List Int)),Ez.fn (p.getD [],((v9.2.2.1.getD (0+l.toNat) []).getD v9.1.toNat (none:Option (List Int))).getD [],())=some qU/\0=0/\v9.2.1.length=v9.2.1.length/\0=0/\v9.2.2.1.length=v9.2.2.1.length/\ ∃(vh:NG),(Zb m).fn (v9.2.2.2.1,v9.2.1,v9.2.2.1,l,qU,())=some vh/\0=0/\vh.1.2.1.length=vh.1.2.1.length/\0=0/\vh.1.2.2.1.length=vh.1.2.2.1.length/\k10 (IntKind.i64.wrap (v9.1+(1:Int)),vh.1.2.1,vh.1.2.2.1,vh.1.1,())) ((0=0/\v9.2.1.length=v9.2.1.length)/\(0=0/\v9.2.2.1.length=v9.2.2.1.length)/\P ((v9.2.2.2.1,v9.2.1,v9.2.2.1,()),()))) ((0:Int),T.set (0+l.toNat) ((T.getD (0+l.toNat) []).set y8.toNat p),G,n,PUnit.unit)))=fnMW Pu (look [(76,Ck),(156,Ez),(146,Up.m (iL m)),(157,Up.m (Zb m))]) (Zb (m+1)) Tryz.f157 (n,T,G,l,p,()) P:=by kernel_rfl
theorem EU {p q:List Int} {j:Nat} (h:j<p.length):(Aa p q).take (j+1)=(Aa p q).take j++ [Ig q p[j]]:=by
 unfold Aa
 rw [List.take_succ_eq_append_getElem (by rw [List.length_map];exact h),List.getElem_map]
theorem qd (p q:List Int) (h:List.length p<=20/\Ho (List.length q) p):fnW Cc (look []) Ud Tryz.f156 (p,q,()) (λ(z:List Int)=>z=Aa p q):=by
 obtain ⟨h1,h2⟩:=h
 refine Eq.mp (qQ p q _) ⟨rfl,rfl,?_⟩
 refine Ah p.length (λv=>v.1) (λj v=>v=((j:Int),(Aa p q).take j,())) rfl rfl ?_
 rintro j v K hj hi rfl hK
 dsimp only
 have hlen:((Aa p q).take j).length<=20:=by rw [List.length_take];unfold Aa;rw [List.length_map];omega
 refine Br.dec (λhl=>?_) λhl=>?_
 ·have hl:j<p.length:=by omega
  have hr:=h2 p[j] (List.getElem_mem hl)
  refine ⟨_,Ap hl,Ig q p[j],cv hr.1 hr.2,rfl,rfl,?_,rfl,rfl,?_⟩
  ·show ((Aa p q).take j).length+1<=4294967296
   omega
  ·rw [Ag (by omega)]
   refine hK hl _ rfl ?_
   rw [EU hl]
   rfl
 ·have:j=p.length:=by omega
  subst this
  rw [Bi,<-Jn p q,List.take_length]
theorem Xc:Sound Tryz.prog 156 Ud:=
 Sound.Co Bg Al mixed Tryz.func156 (by kernel_rfl) (by kernel_rfl) λx h=>qd x.1 x.2.1 h
theorem Vs:Sound Tryz.prog 156 Hr:=Sound.loose Xc
theorem Vt:Sound Tryz.prog 156 Ez:=Sound.YJ Xc λx h=>⟨⟨h.1.2,h.2⟩,λe=>by
 have:=Jn x.1 x.2.1
 rw [e] at this
 have:=h.1.1
 simp only [List.length_nil] at*
 omega⟩
theorem so {N L i:Nat} {G T:Av} {p:List Int} (n2:N<=20) (v3:ef N (N-L) L (G,T)) (v2:T.length=N) (h1:L<=i) (hl:i<N) (h4:Pm N p) (h5:Fx i p):
  ∃o,idx p (i:Int)=some (ap p i:Int)/\T[i]?=some (T.getD i [])/\ap p i<(T.getD i []).length/\(T.getD i [])[ap p i]?=some o/\(T.getD i []).getD (ap p i) none=o/\
   (o=none->(o.getD []).length=0/\ ∀k,Is T (k+1) i p=(p,(i:Int),()))/\
   (∀t,o=some t->(t.length≠0/\t.length<=20/\Ho t.length t)/\(p.length<=20/\Ho (Af t).length p)/\Pm N (Aa p (Af t))/\Fx (i+1) (Aa p (Af t))/\ ∀k,Is T (k+1) i p=Is T k (i+1) (Aa p (Af t))):=by
 have Ge:=mT (N-L) L v3 i h1 (by omega)
 have hT:i<T.length:=by omega
 have hlen:(T.getD i []).length=N:=Ge.rl
 obtain ⟨a1,a2⟩:=h4.Tk hl
 have hg:(Ig p (i:Int)).toNat=ap p i:=rfl
 refine ⟨(T.getD i []).getD (ap p i) none,?_,?_,by omega,?_,rfl,λho=>?_,λt ho=>?_⟩
 ·rw [<-a1,Hl (by rw [h4.1];exact hl)];exact Ap (by rw [h4.1];exact hl)
 ·rw [List.getD_eq_getElem?_getD,List.getElem?_eq_getElem hT];rfl
 ·rw [List.getD_eq_getElem?_getD (l:=T.getD i []),List.getElem?_eq_getElem (by omega)];rfl
 ·refine ⟨by rw [ho];rfl,λk=>?_⟩
  simp only [Is,hg,ho]
 ·obtain ⟨t1,t2,t3,t4⟩:=Ge.rt _ _ ho
  have hn1:=h4.n1
  refine ⟨⟨by rw [t1.1];omega,by rw [t1.1];exact n2,t1.2.row⟩,⟨by rw [h4.1];exact n2,by rw [il,t1.1];exact h4.row⟩,h4.comp t1.inv,Fx.div h4 t1 h5 t2 hl t3,λk=>?_⟩
  simp only [Is,hg,ho]
theorem XS (c:Int×List (List (Option (List Int)))×List (List (Option (List Int)))×Unit) (l:Int) (p:List Int) (h: ∃N L,Oo N L c.1 c.2.2.1 c.2.1 l p):
  fnW Pu (look [(76,Ck),(156,Hr)]) kd Tryz.f144 (c,l,p,()) (λ(z:List Int×Int×Unit)=>z=Is c.2.1 (c.1-l).toNat l.toNat p):=by
 obtain ⟨n,T,G,⟨⟩⟩:=c
 obtain ⟨N,L,h⟩:=h
 obtain ⟨n1,n2,en,el,hle,v,pm,fx⟩:=h
 dsimp only at en el v⊢
 subst en el
 refine Eq.mp (YR ((N:Int),T,G,()) (L:Int) p _) ?_
 obtain ⟨v1,v2,v3,v4⟩:=v
 dsimp only at v1 v2
 refine ⟨λv=> ∃i:Nat,L<=i/\i<=N/\v.2.1=i/\Pm N v.1/\Fx i v.1/\Is T (N-i) i v.1=Is T (N-L) L p,λv=>N-v.2.1.toNat,⟨L,Nat.le_refl _,hle,rfl,pm,fx,rfl⟩,?_⟩
 rintro ⟨p',i',⟨⟩⟩ ⟨i,h1,h2,h3,h4,h5,h6⟩
 dsimp only at h3 h4 h5 h6⊢
 subst h3
 rw [show (((N:Int)-(L:Int)).toNat)=N-L by omega,show ((L:Int)).toNat=L by omega,<-h6]
 refine Br.dec (λhl=>?_) λhl=>?_
 ·have hl:i<N:=by omega
  obtain ⟨o,s1,s2,s3,s4,s5,s6,s7⟩:=so n2 v3 v2 h1 hl h4 h5
  have hT:i<T.length:=by omega
  refine ⟨T.getD i [],by rw [Ap hT,<-s2,List.getElem?_eq_getElem hT],_,s1,o,by rw [Ap s3,<-s4,List.getElem?_eq_getElem s3],?_⟩
  rw [show N-i=(N-i-1)+1 by omega]
  cases o with
  |none=>
   rw [(s6 rfl).2]
   exact Br.of (λ_=>rfl) λhb=>by simp at hb
  |some t=>
   obtain ⟨⟨q1,q2⟩,q3,q4,q5,q6⟩:=s7 t rfl
   refine Br.of (λhb=>absurd (by simpa using hb) q1) λ_=>?_
   refine ⟨_,if_pos q2,_,if_pos q3,⟨i+1,by omega,by omega,Ag (by omega),q4,q5,?_⟩,?_⟩
   ·rw [q6,show N-(i+1)=N-i-1 by omega];rfl
   ·show N-(IntKind.i64.wrap ((i:Int)+1)).toNat<N-((i:Int)).toNat
    rw [Ag (by omega)]
    omega
 ·have:i=N:=by omega
  subst this
  rw [Nat.sub_self]
  rfl
theorem BN:Sound Tryz.prog 144 kd:=
 Sound.Co gy (Ae Rr (Ae Vs Al)) mixed Tryz.func144 (by kernel_rfl) (by kernel_rfl) λx h=>XS x.1 x.2.1 x.2.2.1 h
theorem RD (n:Int) (T G:List (List (Option (List Int)))) (l:Int) (p:List Int) (h: ∃N L,Oo N L n G T l p):
  fnMW Pu (look [(76,Ck),(156,Hr)]) dY Tryz.f144 (n,T,G,l,p,()) (λ(z:(Int×List (List (Option (List Int)))×List (List (Option (List Int)))×List Int×Int×Unit)×Unit)=>z=((n,T,G,(Is T (n-l).toNat l.toNat p).1,(Is T (n-l).toNat l.toNat p).2.1,()),())):=by
 obtain ⟨N,L,h⟩:=h
 obtain ⟨n1,n2,en,el,hle,v,pm,fx⟩:=h
 subst en el
 refine Eq.mp (RW (N:Int) T G (L:Int) p _) ⟨rfl,rfl,rfl,rfl,?_⟩
 obtain ⟨v1,v2,v3,v4⟩:=v
 dsimp only at v1 v2
 refine ⟨λv=> ∃i:Nat,L<=i/\i<=N/\v.2=((i:Int),T,G,(N:Int),())/\Pm N v.1/\Fx i v.1/\Is T (N-i) i v.1=Is T (N-L) L p,λv=>N-v.2.1.toNat,⟨L,Nat.le_refl _,hle,rfl,pm,fx,rfl⟩,?_⟩
 rintro ⟨p',v'⟩ ⟨i,h1,h2,h3,h4,h5,h6⟩
 dsimp only at h3 h4 h5 h6⊢
 subst h3
 dsimp only
 rw [show (((N:Int)-(L:Int)).toNat)=N-L by omega,show ((L:Int)).toNat=L by omega,<-h6]
 refine Br.dec (λhl=>?_) λhl=>?_
 ·have hl:i<N:=by omega
  obtain ⟨o,s1,s2,s3,s4,s5,s6,s7⟩:=so n2 v3 v2 h1 hl h4 h5
  simp only [Int.toNat_natCast,Nat.zero_add,true_and,and_true]
  refine ⟨⟨by omega,by omega⟩,_,s1,⟨by omega,by omega⟩,?_⟩
  rw [Int.toNat_natCast,s5,show N-i=(N-i-1)+1 by omega]
  cases o with
  |none=>
   rw [(s6 rfl).2]
   exact Br.of (λ_=>rfl) λhb=>by simp at hb
  |some t=>
   obtain ⟨⟨q1,q2⟩,q3,q4,q5,q6⟩:=s7 t rfl
   refine Br.of (λhb=>absurd (by simpa using hb) q1) λ_=>?_
   refine ⟨_,if_pos q2,_,if_pos q3,⟨i+1,by omega,by omega,?_,q4,q5,?_⟩,?_⟩
   ·rw [Ag (by omega)]
   ·rw [q6,show N-(i+1)=N-i-1 by omega];rfl
   ·show N-(IntKind.i64.wrap ((i:Int)+1)).toNat<N-i-1+1
    rw [Ag (by omega)]
    omega
 ·have:i=N:=by omega
  subst this
  rw [Nat.sub_self]
  exact ⟨⟨rfl,rfl⟩,⟨rfl,rfl⟩,rfl⟩
theorem xX:Bf Tryz.prog 144 dY:=
 Bf.gF gy (Ae Rr (Ae Vs Al)) mixed Tryz.func144 (by kernel_rfl) (by kernel_rfl) λx h=>RD x.1 x.2.1 x.2.2.1 x.2.2.2.1 x.2.2.2.2.1 h
theorem Abx {m:Nat} (n:Int) (T G:List (List (Option (List Int)))) (l:Int) (p:Option (List Int)) (h:(∃N L q,p=some q/\RY N L n G T l q)/\gG n.toNat l.toNat (G,T)<m+1):
  fnMW Pu (look [(76,Ck),(156,Ez),(146,Up.m (iL m)),(157,Up.m (Zb m))]) (Zb (m+1)) Tryz.f157 (n,T,G,l,p,()) (λ(z:(Int×List (List (Option (List Int)))×List (List (Option (List Int)))×Unit)×Unit)=>z=((n,(aW n.toNat 1000 l.toNat (p.getD []) (G,T)).2,(aW n.toNat 1000 l.toNat (p.getD []) (G,T)).1,()),())):=by
 obtain ⟨⟨N,L,q,rfl,h⟩,hm⟩:=h
 obtain ⟨n1,n2,en,el,Fg,part,pm,fx,gn,gl⟩:=h
 subst en el
 refine Eq.mp (Acm (N:Int) T G (L:Int) (some q) _) ?_
 have l1:G.length=N:=part.l1
 have l2:T.length=N:=part.l2
 have row:=part.row
 dsimp only at row
 have TO:=row.rl
 have hy:=pm.lt Fg
 simp only [Int.toNat_natCast,Nat.zero_add,Option.getD_some,true_and,and_true,List.length_set] at hm⊢
 refine ⟨⟨by omega,by omega⟩,_,tu pm Fg,⟨by omega,by omega⟩,?_⟩
 simp only [Int.toNat_natCast]
 rcases Option.eq_none_or_eq_some ((T.getD L []).getD (ap q L) none) with Ge|⟨t,Ge⟩
 case inr=>
  obtain ⟨t1,t2,t3,t4⟩:=row.rt _ _ Ge
  have htl:=t1.1
  refine Br.dec (λ_=>?_) λhb=>?_
  ·rw [Ge,Option.getD_some]
   have hw:IntKind.i64.wrap ((L:Int)+1)=((L+1:Nat):Int):=Ag (by omega)
   rw [hw]
   have OX:=LX (s:=(G,T)) Fg
   refine ⟨_,if_pos ⟨by show t.length<=20;omega,t1.2.row⟩,some (Aa q (Af t)),if_pos ⟨Qa pm,jY pm t1.inv⟩,_,
    if_pos ⟨⟨N,L+1,_,rfl,n1,n2,rfl,rfl,by omega,part.v,pm.comp t1.inv,Fx.div pm t1 fx t2 Fg t3⟩,by show EA (N:Int).toNat ((L+1:Nat):Int).toNat<m;rw [Int.toNat_natCast,Int.toNat_natCast];omega⟩,?_⟩
   simp only [Int.toNat_natCast,Option.getD_some]
   rw [JG n1 n2 Fg part pm fx Ge]
  ·rw [Ge,Option.getD_some] at hb
   omega
 case inl=>
  refine Br.dec (λhb=>by rw [Ge] at hb;simp at hb) λ_=>?_
  obtain ⟨a1,a2⟩:=vF Fg part pm fx gn Ge
  have nC:=JF n1 n2 Fg part pm fx gn Ge
  have OX:=QS (n:=N) (q:=q) (s:=(G,T)) (k:=L) (y:=ap q L) (by show L<T.length;omega) (by show ap q L<(T.getD L []).length;omega) Ge
  have run:= λj=>rj n1 n2 Fg a1 a2 j
  dsimp only at a1 a2 nC OX run
  refine ⟨⟨by omega,by omega⟩,_,tu pm Fg,⟨by omega,by omega⟩,?_⟩
  simp only [Int.toNat_natCast]
  rw [nC]
  generalize WK:((G,T.set L ((T.getD L []).set (ap q L) (some q))):Av×Av)=s0 at OX run⊢
  have WL:T.set L ((T.getD L []).set (ap q L) (some q))=s0.2:=by rw [<-WK]
  have KO:G=s0.1:=by rw [<-WK]
  have WG:((G.getD L []).map λo=>Aa q (o.getD [])).length=(G.getD L []).length:=List.length_map _
  refine Ah (G.getD L []).length (λv=>v.1) (λj v=> ∃s:Av×Av,v=((j:Int),s.2,s.1,(N:Int),())/\s=cf N L (((G.getD L []).map λo=>Aa q (o.getD [])).take j) s0) rfl ⟨s0,by rw [<-KO,WL];rfl,rfl⟩ ?_
  rintro j v K hj hi ⟨s,rfl,hs⟩ hK
  have hr:=run j
  rw [<-hs] at hr
  have g1:s.1.getD L []=G.getD L []:=by rw [hr.same,KO]
  have g2:s.1.length=N:=hr.part.l1
  have g4:gG N L (s.1,s.2)<=gG N L s0:=hr.mu
  dsimp only
  simp only [g1]
  refine ⟨⟨by omega,by omega⟩,Br.dec (λhl=>?_) λhl=>?_⟩
  ·have hl:j<(G.getD L []).length:=by omega
   obtain ⟨g,jg,Mu,SY⟩:=part.pg _ (List.getElem_mem hl)
   have hgj:(G.getD L []).getD j none=some g:=by rw [wu hl];exact jg
   have hqj:(((G.getD L []).map λo=>Aa q (o.getD []))[j]'(by rw [WG];exact hl))=Aa q g:=by rw [List.getElem_map,jg];rfl
   obtain ⟨b1,b2,b3⟩:=a2 (Aa q g) (by rw [<-hqj];exact List.getElem_mem _)
   simp only [Int.toNat_natCast,hgj,Option.getD_some]
   refine ⟨⟨by omega,by omega⟩,⟨by omega,by omega⟩,some (Aa q g),if_pos ⟨Qa pm,jY pm Mu⟩,_,
    if_pos ⟨⟨N,L,_,rfl,n1,n2,rfl,rfl,Fg,hr.part,b1,b2,by rw [g1];exact b3,by rw [g1];exact gl⟩,by show gG (N:Int).toNat (L:Int).toNat (s.1,s.2)<m;rw [Int.toNat_natCast,Int.toNat_natCast];omega⟩,?_⟩
   simp only [Int.toNat_natCast,Option.getD_some]
   rw [Ag (by omega)]
   refine hK hl _ rfl ⟨_,rfl,?_⟩
   rw [nd (by rw [WG];exact hl),<-hs,hqj]
  ·have:j=(G.getD L []).length:=by omega
   subst this
   rw [<-WG,List.take_length] at hs
   rw [hs]
theorem NA {m:Nat} (WX:Bf Tryz.prog 146 (iL m)) (zx:Bf Tryz.prog 157 (Zb m)):Bf Tryz.prog 157 (Zb (m+1)):=
 Bf.gF gy (Ae Rr (Ae Vt (Fq WX (Fq zx Al)))) mixed Tryz.func157 (by kernel_rfl) (by kernel_rfl) λx h=>Abx x.1 x.2.1 x.2.2.1 x.2.2.2.1 x.2.2.2.2.1 h
theorem Abw {m:Nat} (n:Int) (T G:List (List (Option (List Int)))) (l:Int) (p:Option (List Int)) (h:(∃N L q,p=some q/\Oo N L n G T l q)/\EA n.toNat l.toNat<m+1):
  fnMW (NT [po+46]) (look [(144,dY),(156,Ez),(157,Up.m (Zb m))]) (iL (m+1)) Tryz.f146 (n,T,G,l,p,()) (λ(z:(Int×List (List (Option (List Int)))×List (List (Option (List Int)))×Unit)×Unit)=>z=((n,(eh n.toNat 1000 l.toNat (p.getD []) (G,T)).2,(eh n.toNat 1000 l.toNat (p.getD []) (G,T)).1,()),())):=by
 obtain ⟨⟨N,L,q,rfl,h⟩,hm⟩:=h
 have h':=h
 obtain ⟨n1,n2,en,el,hle,v,pm,fx⟩:=h
 subst en el
 have hk:((N:Int)-(L:Int)).toNat=N-L:=by omega
 have back: ∀s:Av×Av,eh N 1000 L q (G,T)=s->((((N:Int),s.2,s.1,()),()):(Int×Av×Av×Unit)×Unit)=((((N:Int),(eh N 1000 L q (G,T)).2,(eh N 1000 L q (G,T)).1,()),()):(Int×Av×Av×Unit)×Unit):= λs e=>by rw [e]
 refine Eq.mp (Acl (N:Int) T G (L:Int) (some q) _) ?_
 simp only [Int.toNat_natCast,Nat.zero_add,Option.getD_some,true_and,and_true] at hm⊢
 refine Br.dec (λjg=>?_) λFg=>?_
 ·exact back (G,T) (CR (by rw [show N-L=0 by omega];rfl))
 have Fg:L<N:=by omega
 have hv:=v
 obtain ⟨v1,v2,v3,v4⟩:=v
 dsimp only at v1 v2
 have hsl:(Is T (N-L) L q).2.1=(N:Int)↔Dy T (N-L) L q=true:=by
  have:=oA (T:=T) (N-L) L q
  rw [show L+(N-L)=N by omega] at this
  exact this
 refine ⟨_,if_pos ⟨N,L,h'⟩,?_⟩
 simp only [Gm]
 simp only [hk,Int.toNat_natCast]
 refine Br.of (λhh=>?_) λhh=>?_
 ·exact back (G,T) (CR (hsl.1 (eq_of_beq hh)))
 have TH: ¬Dy T (N-L) L q=true:= λhc=>by rw [hsl.2 hc] at hh;simp at hh
 have wL:=JE n1 n2 (s:=(G,T)) Fg hv pm fx TH
 obtain ⟨a1,a2⟩:=vE n1 n2 (s:=(G,T)) Fg hv pm fx
 have hgl:(G.getD L []).length<=400:=by
  obtain ⟨k,hk1⟩: ∃k,N-L=k+1:=⟨N-L-1,by omega⟩
  rw [hk1] at hv
  exact DF n2 (by omega) hv
 have e1:(0:Int)<=(L:Int)/\(L:Int)<(G.length:Int):=by omega
 have e2:(G.getD L []).length+1<=Bj:=by show _<=4294967296;omega
 have row:=a1.row
 dsimp only at row a1 a2 wL
 have TO:=row.rl
 have run:= λj=>rj n1 n2 Fg a1 a2 j
 have OX:=zQ a1
 simp only [List.drop_zero,List.take_succ_cons,List.take_zero,List.length_cons,List.length_nil,List.length_set,Nat.zero_add,e1,e2,and_self,true_and,and_true]
 have UZ:(G.set L (G.getD L []++ [some q])).getD L []=G.getD L []++ [some q]:=Xn G L (by omega) _
 generalize WK:((G.set L (G.getD L []++ [some q]),T):Av×Av)=s0 at OX run wL⊢
 have KO:G.set L (G.getD L []++ [some q])=s0.1:=by rw [<-WK]
 have WL:T=s0.2:=by rw [<-WK]
 refine Ah N (λv=>v.1) (λy v=>v=((y:Int),(known ((T.getD L []).take y)).map some,T,G.set L (G.getD L []++ [some q]),(N:Int),())) rfl rfl ?_
 rintro y v K hj hi rfl hK
 dsimp only
 refine Br.dec (λhl=>?_) λhl=>?_
 ·have hl:y<N:=by omega
  have hy:y<(T.getD L []).length:=by omega
  have OT:=zI hy
  have Ls:=rP ((T.getD L []).take y)
  rw [List.length_take] at Ls
  have hye:(T.getD L []).getD y none=(T.getD L [])[y]:=wu hy
  simp only [Int.toNat_natCast]
  refine ⟨by omega,⟨by omega,by omega⟩,?_⟩
  rcases Option.eq_none_or_eq_some ((T.getD L []).getD y none) with ho|⟨t,ho⟩
  ·refine Br.dec (λhb=>by rw [ho] at hb;simp at hb) λ_=>?_
   rw [Ag (by omega)]
   refine hK hl _ rfl ?_
   rw [OT,<-hye,ho]
   simp
  ·obtain ⟨t1,t2,t3,t4⟩:=row.rt _ _ ho
   have htl:=t1.1
   refine Br.dec (λ_=>?_) λhb=>by rw [ho,Option.getD_some] at hb;omega
   refine ⟨by omega,⟨by omega,by omega⟩,?_,?_⟩
   ·show _<=4294967296
    rw [List.length_map];omega
   ·rw [Ag (by omega)]
    refine hK hl _ rfl ?_
    rw [OT,<-hye,ho]
    simp
 ·have:y=N:=by omega
  subst this
  have KH:(T.getD L []).take y=T.getD L []:=List.take_of_length_le (by omega)
  rw [KH]
  have WG:((known (T.getD L [])).map λu=>Aa u q).length=(known (T.getD L [])).length:=List.length_map _
  have Ls:=rP (T.getD L [])
  refine Ah (known (T.getD L [])).length (λv=>v.1) (λj v=> ∃s:Av×Av,v=((j:Int),(known (T.getD L [])).map some,s.2,s.1,(y:Int),())/\s=cf y L (((known (T.getD L [])).map λu=>Aa u q).take j) s0) rfl ⟨s0,by rw [<-WL,KO];rfl,rfl⟩ ?_
  rintro j v K' th mf ⟨s,rfl,hs⟩ PU
  have hr:=run j
  rw [<-hs] at hr
  have g1:s.1.getD L []=G.getD L []++ [some q]:=by rw [hr.same,<-KO];exact UZ
  have g4:gG y L (s.1,s.2)<=gG y L s0:=hr.mu
  dsimp only
  refine Br.dec (λFz=>?_) λFz=>?_
  ·rw [List.length_map] at Fz
   have Fz:j<(known (T.getD L [])).length:=by omega
   obtain ⟨w,hw⟩:=dP.1 (List.getElem_mem Fz)
   obtain ⟨t1,t2,t3,t4⟩:=row.rt _ _ hw
   have hqj:(((known (T.getD L [])).map λu=>Aa u q)[j]'(by rw [WG];exact Fz))=Aa (known (T.getD L []))[j] q:=by rw [List.getElem_map]
   obtain ⟨b1,b2,b3⟩:=a2 (Aa (known (T.getD L []))[j] q) (by rw [<-hqj];exact List.getElem_mem _)
   simp only [Int.toNat_natCast]
   refine ⟨⟨by omega,by rw [List.length_map];omega⟩,some (known (T.getD L []))[j],by rw [List.getElem?_map,List.getElem?_eq_getElem Fz];rfl,some (Aa (known (T.getD L []))[j] q),if_pos ⟨Qa t1,jY t1 pm⟩,_,
    if_pos ⟨⟨y,L,_,rfl,n1,n2,rfl,rfl,Fg,hr.part,b1,b2,by rw [g1,<-UZ];exact b3,by rw [g1,List.length_append,List.length_singleton];omega⟩,by show gG (y:Int).toNat (L:Int).toNat (s.1,s.2)<m;rw [Int.toNat_natCast,Int.toNat_natCast];omega⟩,?_⟩
   simp only [Int.toNat_natCast,Option.getD_some]
   rw [Ag (by omega)]
   refine PU Fz _ rfl ⟨_,rfl,?_⟩
   rw [nd (by rw [WG];exact Fz),<-hs,hqj]
  ·rw [List.length_map] at Fz
   have:j=(known (T.getD L [])).length:=by omega
   subst this
   rw [<-WG,List.take_length] at hs
   exact back s (wL.trans hs.symm)
theorem MZ {m:Nat} (zx:Bf Tryz.prog 157 (Zb m)):Bf Tryz.prog 146 (iL (m+1)):=
 Bf.gF (RP [po+46]) (Fq xX (Ae Vt (Fq zx Al))) mixed Tryz.func146 (by kernel_rfl) (by kernel_rfl) λx h=>Abw x.1 x.2.1 x.2.2.1 x.2.2.2.1 x.2.2.2.2.1 h
theorem HG:Bf Tryz.prog 146 (iL 0)/\Bf Tryz.prog 157 (Zb 0):=
 ⟨Bf.gF Bg Al mixed Tryz.func146 (by kernel_rfl) (by kernel_rfl) λ_ h=>absurd h.2 (Nat.not_lt_zero _),
  Bf.gF Bg Al mixed Tryz.func157 (by kernel_rfl) (by kernel_rfl) λ_ h=>absurd h.2 (Nat.not_lt_zero _)⟩
theorem dZ: ∀m,Bf Tryz.prog 146 (iL m)/\Bf Tryz.prog 157 (Zb m)
 |0=>HG
 |m+1=>⟨MZ (dZ m).2,NA (dZ m).1 (dZ m).2⟩
theorem BF:Bf Tryz.prog 146 uk:=Bf.TY (λx=>EA x.1.toNat x.2.2.2.1.toNat) λm=>(dZ m).1
end Go.Proofs.YtfolipnappekaaaGreat

namespace Go.Proofs.YtfolipnappekaaaGreat
open Go.RowKit
noncomputable abbrev Wx:Spec:=Co (.pair tL .unit) tO false true (λx=>short x.1/\1<=List.length x.1) (λx=>some x.1)
noncomputable abbrev tB:MSpec:= {Fb:= [none],ins:= [(false, .Ee tI)],Dh:=false,Ef:= [none,none,none],outs:= [.Ee tI, .Ai tO pz false, .Ai tO pz false],fn:= λ_=>none,rp:=some 153}
noncomputable abbrev Mc:MSpec:=gF tB (λx=>1<=x.1/\x.1<=20) (λx=>((x.1,Rg x.1.toNat,Mq x.1.toNat,()),()))
noncomputable abbrev pN:MSpec:= {Fb:= [none,none],ins:= [(false, .Ee tI),(false, .Ee RK)],Dh:=false,Ef:= [none,none,none],outs:= [.Ee tI, .Ai tO pz false, .Ai tO pz false],fn:= λ_=>none,rp:=some 153}
noncomputable abbrev Xu:MSpec:=gF pN (λx=>(1<=x.1/\x.1<=20)/\List.length x.2.1<=4294967296/\ ∀o∈(x.2.1:List PO),∃g,o=some g/\Pm x.1.toNat g)
 (λx=>((x.1,(Jv x.1.toNat x.2.1).2,(Jv x.1.toNat x.2.1).1,()),()))
noncomputable abbrev pO:MSpec:= {Fb:= [none,none],ins:= [(false, .Ee tI),(false, .Ee e8)],Dh:=false,Ef:= [none,none,none],outs:= [.Ee tI, .Ai tO pz false, .Ai tO pz false],fn:= λ_=>none,rp:=some 153}
noncomputable abbrev Mb:MSpec:=gF pO (λx=>(1<=x.1/\x.1<=20)/\List.length x.2.1<=4294967296/\ ∀g∈(x.2.1:List (List Int)),Pm x.1.toNat g)
 (λx=>((x.1,(jq x.1 x.2.1).2,(jq x.1 x.2.1).1,()),()))
noncomputable abbrev Qs:Spec:=Co (.pair (.ptr j8) (.pair tL .unit)) .bool false true (λx=> ∃N,Oo N 0 x.1.1 x.1.2.2.1 x.1.2.1 0 x.2.1) (λx=>Dy x.1.2.1 x.1.1.toNat 0 x.2.1)
noncomputable def cC (n:Int) (g:List (List Int)) (p:List Int):Bool:=(Ll n g&&Da n p)&&Dy (jq n g).2 n.toNat 0 p
noncomputable abbrev Qu:Spec:=Co (.pair tI (.pair e8 (.pair tL .unit))) .bool false true (λx=>Ev x.2.1/\short x.2.2.1) (λx=>cC x.1 x.2.1 x.2.2.1)
abbrev ff:Type:=Int×Int×List (List (Option (List Int)))×List (List (Option (List Int)))×PUnit
theorem uV (n:Int) (P:(Int×List (List (Option (List Int)))×List (List (Option (List Int)))×Unit)×Unit->Prop):(0=0/\0=([]:List Int).length/\0=0/\0=([]:List Int).length/\Bk (λ(v2:ff) (k3:ff->Prop)=>Br (decide (v2.1<n)) (((0:Int)<=n/\n<(↑Bj:Int)+(1:Int))/\n=n/\ ∃(y4:Option (List Int)),Ju.fn (n,())=some y4/\((0:Int)<=v2.1/\v2.1<(↑(List.replicate n.toNat (none:Option (List Int))).length:Int))/\0+v2.1.toNat<(List.replicate n.toNat (none:Option (List Int))).length/\0=0/\(List.replicate n.toNat (none:Option (List Int))).length=((List.replicate n.toNat (none:Option (List Int))).set (0+v2.1.toNat) y4).length/\(0=0/\v2.2.2.1.length=v2.2.2.1.length)/\(0=0/\1= [(List.replicate n.toNat (none:Option (List Int))).set (0+v2.1.toNat) y4].length)/\0< [(List.replicate n.toNat (none:Option (List Int))).set (0+v2.1.toNat) y4].length/\v2.2.2.1.length+ [(List.replicate n.toNat (none:Option (List Int))).set (0+v2.1.toNat) y4].length<=Bj/\0=0/\0=([]:List Int).length/\(0=0/\v2.2.2.2.1.length=v2.2.2.2.1.length)/\(0=0/\1=([[]]:List (List (Option (List Int)))).length)/\0<([[]]:List (List (Option (List Int)))).length/\v2.2.2.2.1.length+([[]]:List (List (Option (List Int)))).length<=Bj/\0=0/\(v2.2.2.1++ [(List.replicate n.toNat (none:Option (List Int))).set (0+v2.1.toNat) y4]).length=(v2.2.2.1++ [(List.replicate n.toNat (none:Option (List Int))).set (0+v2.1.toNat) y4]).length/\0=0/\(v2.2.2.2.1++ [[]]).length=(v2.2.2.2.1++ [[]]).length/\k3 (IntKind.i64.wrap (v2.1+(1:Int)),v2.2.1,v2.2.2.1++ [(List.replicate n.toNat (none:Option (List Int))).set (0+v2.1.toNat) y4],v2.2.2.2.1++ [[]],())) ((0=0/\v2.2.2.1.length=v2.2.2.1.length)/\(0=0/\v2.2.2.2.1.length=v2.2.2.2.1.length)/\P ((v2.2.1,v2.2.2.1,v2.2.2.2.1,()),()))) ((0:Int),n,[],[],PUnit.unit))=fnMW Pu (look [(115,Ju)]) Mc Tryz.f145 (n,()) P:=by kernel_rfl
abbrev dg:Type:=(Int×List (List (Option (List Int)))×List (List (Option (List Int)))×PUnit)×PUnit
abbrev di:Type:=Int×List (List (Option (List Int)))×List (List (Option (List Int)))×Int×PUnit
theorem qI (n:Int) (gens:List (Option (List Int))) (P:(Int×List (List (Option (List Int)))×List (List (Option (List Int)))×Unit)×Unit->Prop):(∃(y3:dg),Mc.fn (n,())=some y3/\0=0/\y3.1.2.1.length=y3.1.2.1.length/\0=0/\y3.1.2.2.1.length=y3.1.2.2.1.length/\Bk (λ(v4:di) (k5:di->Prop)=>Br (decide (v4.1<(↑gens.length:Int))) (∃(y6:Option (List Int)),idx gens v4.1=some y6/\ ∃(y7:Option (List Int)),Wx.fn (y6.getD [],())=some y7/\0=0/\v4.2.1.length=v4.2.1.length/\0=0/\v4.2.2.1.length=v4.2.2.1.length/\ ∃(y8:dg),uk.fn (v4.2.2.2.1,v4.2.1,v4.2.2.1,(0:Int),y7,())=some y8/\0=0/\y8.1.2.1.length=y8.1.2.1.length/\0=0/\y8.1.2.2.1.length=y8.1.2.2.1.length/\k5 (IntKind.i64.wrap (v4.1+(1:Int)),y8.1.2.1,y8.1.2.2.1,y8.1.1,())) ((0=0/\v4.2.1.length=v4.2.1.length)/\(0=0/\v4.2.2.1.length=v4.2.2.1.length)/\P ((v4.2.2.2.1,v4.2.1,v4.2.2.1,()),()))) ((0:Int),y3.1.2.1,y3.1.2.2.1,y3.1.1,PUnit.unit))=fnMW Pu (look [(145,Mc),(116,Wx),(146,uk)]) Xu Tryz.f129 (n,gens,()) P:=by kernel_rfl
theorem BZ (c:Int×List (List (Option (List Int)))×List (List (Option (List Int)))×Unit) (p:List Int) (P:Bool->Prop):(∃(y3:List Int×Int×PUnit),kd.fn (c,(0:Int),p,())=some y3/\P (y3.2.1==c.1))=fnW Pu (look [(144,kd)]) Qs Tryz.f128 (c,p,()) P:=by kernel_rfl
theorem CD (n:Int) (g:List (List Int)) (p:List Int) (P:Bool->Prop):(∃(y4:Bool),Hs.fn (n,g,())=some y4/\Br y4 (Br ((↑p.length:Int)==n) (∃(y5:Bool),Dt.fn (p,())=some y5/\Br y5 (∃(y6:(Int×List (List (Option (List Int)))×List (List (Option (List Int)))×PUnit)×PUnit),Mb.fn (n,g,())=some y6/\ ∃(y7:Bool),Qs.fn ((y6.1.1,List.take y6.1.2.1.length (List.drop 0 y6.1.2.1),List.take y6.1.2.2.1.length (List.drop 0 y6.1.2.2.1),()),p,())=some y7/\P y7) (P false)) (P false)) (P false))=fnW Cc (look [(123,Hs),(75,Dt),(129,Mb),(128,Qs)]) Qu Tryz.f96 (n,g,p,()) P:=by kernel_rfl
theorem yB (p:Int×ByteArray×List (List Int)×Unit) (s:List Int) (P:Bool->Prop):(∃(y3:Bool),Ie.fn ((p.1,p.2.1,p.2.2.1,()),s,())=some y3/\Br y3 (∃(y4:Bool),Qu.fn (p.1,p.2.2.1,s,())=some y4/\P y4) (P false))=fnW Cc (look [(95,Ie),(96,Qu)]) Ic Tryz.f73 (p,s,()) P:=by kernel_rfl
theorem yr (p:Int×ByteArray×List (List Int)×Unit) (s:List Int) (P:Bool->Prop):(∃(y3:Bool),Ie.fn ((p.1,p.2.1,p.2.2.1,()),s,())=some y3/\Br y3 (∃(y4:(Int×List (List (Option (List Int)))×List (List (Option (List Int)))×PUnit)×PUnit),Qy.fn (p.1,p.2.2.1,())=some y4/\ ∃(y5:Bool),iN.fn ((y4.1.1,List.take y4.1.2.1.length (List.drop 0 y4.1.2.1),List.take y4.1.2.2.1.length (List.drop 0 y4.1.2.2.1),()),(0:Int),s,())=some y5/\P y5) (P false))=fnW Cc (look [(97,Ie),(98,Qy),(99,iN)]) Ic Tryz.f74 (p,s,()) P:=by kernel_rfl
theorem ey:Sound Tryz.prog 115 Ju:=Sound.YJ oK λ_ h=>EL h
theorem lL:Sound Tryz.prog 116 Wx:=Sound.YJ Pk λx h=>⟨h.1,λe=>by
 have h2:=h.2
 replace e:x.1= []:=e
 rw [e] at h2
 simp at h2⟩
theorem tU (n:Int) (h:1<=n/\n<=20):fnMW Pu (look [(115,Ju)]) Mc Tryz.f145 (n,()) (λ(z:(Int×List (List (Option (List Int)))×List (List (Option (List Int)))×Unit)×Unit)=>z=((n,Rg n.toNat,Mq n.toNat,()),())):=by
 obtain ⟨h1,h2⟩:=h
 obtain ⟨N,rfl⟩: ∃N:Nat,n=N:=⟨n.toNat,by omega⟩
 rw [Int.toNat_natCast]
 refine Eq.mp (uV (N:Int) _) ?_
 have hm:((0:Int)<=(N:Int)/\(N:Int)<(Bj:Int)+1):=⟨by omega,by show (N:Int)<(4294967296:Int)+1;omega⟩
 simp only [hm,and_self,eq_self,true_and,and_true,Int.toNat_natCast,Nat.zero_add,List.length_nil,List.length_set,List.length_replicate,List.length_cons,Nat.lt_add_one]
 refine Ah N (λv=>v.1) (λj v=>v=((j:Int),(N:Int),(List.range j).map (Vv N),List.replicate j [],())) rfl rfl ?_
 rintro j v K hj hi rfl hK
 dsimp only
 refine Br.dec (λhl=>?_) λhl=>?_
 ·simp only [Int.toNat_natCast,List.length_map,List.length_range,List.length_replicate]
  refine ⟨_,if_pos ⟨by show (1:Int)<=N;omega,by show (N:Int)<=20;omega⟩,⟨by omega,by omega⟩,by omega,?_,?_,?_⟩
  ·show _<=4294967296
   omega
  ·show _<=4294967296
   omega
  ·rw [Ag (by omega)]
   refine hK (by omega) _ rfl ?_
   rw [List.range_succ,List.map_append,List.replicate_succ']
   rfl
 ·have:j=N:=by omega
  subst this
  rfl
theorem km:Bf Tryz.prog 145 Mc:=
 Bf.gF gy (Ae ey Al) mixed Tryz.func145 (by kernel_rfl) (by kernel_rfl) λx h=>tU x.1 h
theorem pY (n:Int) (gens:List (Option (List Int))) (h:(1<=n/\n<=20)/\List.length gens<=4294967296/\ ∀o∈(gens:List PO),∃g,o=some g/\Pm n.toNat g):
  fnMW Pu (look [(145,Mc),(116,Wx),(146,uk)]) Xu Tryz.f129 (n,gens,()) (λ(z:(Int×List (List (Option (List Int)))×List (List (Option (List Int)))×Unit)×Unit)=>z=((n,(Jv n.toNat gens).2,(Jv n.toNat gens).1,()),())):=by
 obtain ⟨⟨h1,h2⟩,h3,hg⟩:=h
 obtain ⟨N,rfl⟩: ∃N:Nat,n=N:=⟨n.toNat,by omega⟩
 rw [Int.toNat_natCast] at hg⊢
 have h1:1<=N:=by omega
 have h2:N<=20:=by omega
 refine Eq.mp (qI (N:Int) gens _) ⟨_,if_pos ⟨by show (1:Int)<=N;omega,by show (N:Int)<=20;omega⟩,rfl,rfl,rfl,rfl,?_⟩
 simp only [Int.toNat_natCast,true_and,and_true]
 refine Ah gens.length (λv=>v.1) (λi v=>v=((i:Int),(Jv N (gens.take i)).2,(Jv N (gens.take i)).1,(N:Int),())) rfl rfl ?_
 rintro i v K' mf Afq rfl PU
 dsimp only
 refine Br.dec (λFz=>?_) λFz=>?_
 ·have Fz:i<gens.length:=by omega
  obtain ⟨g,jg,Mu⟩:=hg gens[i] (List.getElem_mem Fz)
  have hgl:=Mu.1
  have hv:=qV h1 h2 (gens:=gens.take i) λo ho=>hg o (List.mem_of_mem_take ho)
  refine ⟨some g,by rw [Ap Fz,jg],some g,if_pos ⟨by show g.length<=4294967296;omega,by show 1<=g.length;omega⟩,_,if_pos ⟨N,0,g,rfl,h1,h2,rfl,rfl,Nat.zero_le _,hv,Mu,λi hi=>absurd hi (Nat.not_lt_zero _)⟩,?_⟩
  rw [Ag (by omega)]
  refine PU Fz _ rfl ?_
  rw [sF Fz,jg]
  rfl
 ·have:i=gens.length:=by omega
  subst this
  rw [List.take_length]
theorem iQ:Bf Tryz.prog 129 Xu:=
 Bf.gF gy (Fq km (Ae lL (Fq BF Al))) mixed Tryz.func129 (by kernel_rfl) (by kernel_rfl) λx h=>pY x.1 x.2.1 h
theorem kl:Bf Tryz.prog 129 Mb:=by
 have h:=iQ
 refine ⟨h.enter,λw S π us x r o g vs h1 hg h2 h3 hS h4 h5=>?_⟩
 obtain ⟨n,gens,⟨⟩⟩:=x
 match us,h2 with
 |u1::u2::us,h2=>
  obtain ⟨h6,⟨h7,h8⟩,h9⟩:=h2
  obtain ⟨os,jf,bB⟩:=Bb.UG (e:=tI) h8
  have bB:os.map (·.getD [])=(gens:List (List Int)):=bB
  have Xo:(1<=n/\n<=20)/\List.length gens<=4294967296/\ ∀g∈(gens:List (List Int)),Pm n.toNat g:=Classical.byContradiction λhn=>by
   have:Mb.fn (n,gens,())=none:=if_neg hn
   rw [this] at h5;cases h5
  have VZ:os=gens.map some:=by
   rw [<-bB,List.map_map]
   refine (List.map_id os).symm.trans (List.map_congr_left λx hx=>?_)
   cases x with
   |some y=>rfl
   |none=>
    have:=Xo.2.2 [] (by rw [<-bB];exact List.mem_map.2 ⟨none,hx,rfl⟩)
    have h1:=this.n1
    have h2:=this.1
    simp at h2
    omega
  have hv:Mb.fn (n,gens,())=some ((n,(jq n gens).2,(jq n gens).1,()),()):=if_pos Xo
  rw [hv] at h5
  have h5:=Option.some.inj h5
  refine h.calls w S π (u1::u2::us) (n,os,()) r o g vs h1 hg ⟨h6,⟨h7,jf⟩,h9⟩ h3 hS h4 ?_
  refine (if_pos ⟨Xo.1,by rw [VZ,List.length_map];exact Xo.2.1,λy hy=>?pp⟩).trans (congrArg some ?qq)
  case pp=>
   replace hy:y∈os:=hy
   rw [VZ] at hy
   obtain ⟨g,hg,rfl⟩:=List.mem_map.1 hy
   exact ⟨g,rfl,Xo.2.2 g hg⟩
  case qq=>subst VZ;exact h5
theorem AA (c:Int×List (List (Option (List Int)))×List (List (Option (List Int)))×Unit) (p:List Int) (h: ∃N,Oo N 0 c.1 c.2.2.1 c.2.1 0 p):
  fnW Pu (look [(144,kd)]) Qs Tryz.f128 (c,p,()) (λ(z:Bool)=>z=Dy c.2.1 c.1.toNat 0 p):=by
 obtain ⟨n,T,G,⟨⟩⟩:=c
 obtain ⟨N,h⟩:=h
 have h':=h
 obtain ⟨n1,n2,en,el,hle,v,pm,fx⟩:=h
 dsimp only at en
 subst en
 refine Eq.mp (BZ ((N:Int),T,G,()) p _) ⟨_,if_pos ⟨N,0,h'⟩,?_⟩
 have hs:=oA (T:=T) N 0 p
 rw [Nat.zero_add] at hs
 show ((Is T ((N:Int)-0).toNat (0:Int).toNat p).2.1==(N:Int))=Dy T (N:Int).toNat 0 p
 rw [Int.sub_zero,Int.toNat_natCast]
 exact Bool.eq_iff_iff.2 (beq_iff_eq.trans hs)
theorem oF:Sound Tryz.prog 128 Qs:=
 Sound.Co gy (Ae BN Al) mixed Tryz.func128 (by kernel_rfl) (by kernel_rfl) λx h=>AA x.1 x.2.1 h
theorem AF (n:Int) (g:List (List Int)) (p:List Int) (h:Ev g/\short p):fnW Cc (look [(123,Hs),(75,Dt),(129,Mb),(128,Qs)]) Qu Tryz.f96 (n,g,p,()) (λ(z:Bool)=>z=cC n g p):=by
 obtain ⟨hg,hp⟩:=h
 refine Eq.mp (CD n g p _) ⟨_,if_pos hg,?_⟩
 unfold cC
 show Br (Ll n g) _ _
 refine Br.of (λh1=>?_) λh1=>by rw [h1];rfl
 obtain ⟨⟨n1,n2⟩,h8,Gw⟩:=Eb.1 h1
 refine Br.of (λh2=>?_) λh2=>?_
 ·have h2:(p.length:Int)=n:=eq_of_beq h2
  refine ⟨_,if_pos hp,?_⟩
  show Br (Ft p) _ _
  refine Br.of (λh3=>?_) λh3=>?_
  ·have SZ:Da n p=true:=Eb.2 ⟨h2,h3⟩
   have KK: ∀x,Da n x=true->Pm n.toNat x:= λx hx=>by
    obtain ⟨a,b⟩:=Eb.1 hx
    exact ⟨by omega,aw b⟩
   have ig: ∀x∈g,Pm n.toNat x:= λx hx=>KK x (Gw x hx)
   have hV:=qV (n:=n.toNat) (by omega) (by omega) (cI ig)
   refine ⟨_,if_pos ⟨⟨n1,n2⟩,hg.1,ig⟩,_,if_pos ⟨n.toNat,?vv⟩,?_⟩
   case vv=>
    simp only [Bi]
    exact ⟨by omega,by omega,(Int.toNat_of_nonneg (by omega)).symm,rfl,Nat.zero_le _,hV,KK p SZ,λi hi=>absurd hi (Nat.not_lt_zero _)⟩
   simp only [Bi]
   rw [h1,SZ]
   rfl
  ·have:Da n p=false:=by
    rw [Bool.eq_false_iff]
    intro hc
    rw [(Eb.1 hc).2] at h3
    cases h3
   rw [this,Bool.and_false,Bool.false_and]
 ·have:Da n p=false:=by
   rw [Bool.eq_false_iff]
   intro hc
   rw [(Eb.1 hc).1] at h2
   simp at h2
  rw [this,Bool.and_false,Bool.false_and]
theorem oL:Sound Tryz.prog 96 Qu:=
 Sound.Co Bg (Ae Zi (Ae Md (Fq kl (Ae oF Al)))) mixed Tryz.func96 (by kernel_rfl) (by kernel_rfl) λx h=>AF x.1 x.2.1 x.2.2.1 h
theorem ES {p:PP} (hv:Bv p=true) {s:List Int} (hs:Pm p.1.toNat s):Dy (jq p.1 p.2.2.1).2 p.1.toNat 0 s=Dy (Zx p.1 p.2.2.1).2 p.1.toNat 0 s:=by
 have hV:=valid hv
 have hn:=hV.n
 have hg:=cI (bT hV).2.2
 exact Bool.eq_iff_iff.2 ((wy (by omega) (by omega) hg hs).trans (nk (by omega) (by omega) hg hs).symm)
theorem wm {n:Int} {s:List Int} (h:Da n s=true):Pm n.toNat s:=by
 obtain ⟨a,b⟩:=Eb.1 h
 exact ⟨by omega,aw b⟩
theorem xF (p:PP) (s:List Int) (h:Cl p/\short s):fnW Cc (look [(95,Ie),(96,Qu)]) Ic Tryz.f73 (p,s,()) (λ(z:Bool)=>z=Ka p s):=by
 refine Eq.mp (yB p s _) ⟨_,if_pos h,?_⟩
 show Br (Bv p&&Da p.1 s) _ _
 unfold Ka
 refine Br.of (λhb=>?_) λhb=>by rw [hb];rfl
 obtain ⟨hv,hg⟩:=Bool.and_eq_true_iff.1 hb
 have hV:=valid hv
 have hn:=hV.n
 have Aak:Ll p.1 p.2.2.1=true:=by
  refine Eb.2 ⟨⟨by omega,by omega⟩,by have:=hV.sX;omega,λx hx=>Eb.2 ⟨by have:=hV.len x hx;omega,hV.perm x hx⟩⟩
 refine ⟨_,if_pos ⟨h.1.2,h.2⟩,?_⟩
 show cC p.1 p.2.2.1 s=_
 unfold cC
 rw [Aak,hg,hv,ES hv (wm hg)]
theorem lZ:Sound Tryz.prog 73 Ic:=
 Sound.Co Bg (Ae iY (Ae oL Al)) mixed Tryz.func73 (by kernel_rfl) (by kernel_rfl) λx h=>xF x.1 x.2.1 h
theorem xx (p:PP) (s:List Int) (h:Cl p/\short s):fnW Cc (look [(97,Ie),(98,Qy),(99,iN)]) Ic Tryz.f74 (p,s,()) (λ(z:Bool)=>z=Ka p s):=by
 refine Eq.mp (yr p s _) ⟨_,if_pos h,?_⟩
 show Br (Bv p&&Da p.1 s) _ _
 unfold Ka
 refine Br.of (λhb=>?_) λhb=>by rw [hb];rfl
 obtain ⟨hv,hg⟩:=Bool.and_eq_true_iff.1 hb
 have hV:=valid hv
 have hn:=hV.n
 have wC:=PK hV
 refine ⟨_,if_pos (bT hV),_,if_pos ⟨p.1.toNat,0,?vv⟩,?_⟩
 case vv=>
  simp only [Bi]
  exact ⟨by omega,by omega,(Int.toNat_of_nonneg (by omega)).symm,rfl,Nat.zero_le _,by rw [Nat.sub_zero];exact wC,wm hg,λi hi=>absurd hi (Nat.not_lt_zero _)⟩
 simp only [Bi]
 rw [hb,Bool.true_and,Int.sub_zero]
 rfl
theorem lR:Sound Tryz.prog 74 Ic:=
 Sound.Co Bg (Ae iT (Fq oO (Ae ss Al))) mixed Tryz.func74 (by kernel_rfl) (by kernel_rfl) λx h=>xx x.1 x.2.1 h
end Go.Proofs.YtfolipnappekaaaGreat

namespace Go.Proofs.YtfolipnappekaaaGreat
open Go.RowKit
noncomputable def Sv (p:PP) (ts:List TT) (s:List Int):Bool:=Ka p s&&Cx p ts
noncomputable abbrev Qr:Spec:=Co (.pair Dc (.pair yc (.pair tL .unit))) (.pair (.optr aN) (.pair .bool .unit)) true false (λx=>Cl x.1/\Fc x.2.1/\short x.2.2.1) (λx=>if Sv x.1 x.2.1 x.2.2.1=true then (some (Vi x.2.1),true,()) else (none,false,()))
noncomputable abbrev ka:Spec:=Co (.pair Dc (.pair yc (.pair tL .unit))) .bool false true (λx=>Cl x.1/\Fc x.2.1/\short x.2.2.1) (λx=>Sv x.1 x.2.1 x.2.2.1)
noncomputable def iz (p:PP) (ts:List TT) (s:List Int):Int:=if Sv p ts s=true then Rn (Li ts s) (eW ts s) 0 else-1
noncomputable abbrev Nf:Spec:=Co (.pair Dc (.pair yc (.pair tL .unit))) tI false true (λx=>Cl x.1/\Fc x.2.1/\short x.2.2.1) (λx=>iz x.1 x.2.1 x.2.2.1)
noncomputable abbrev kc:Spec:=Co (.pair Dc (.pair yc (.pair tL .unit))) .bool false true (λx=>Cl x.1/\Fc x.2.1/\short x.2.2.1) (λ_=>true)
theorem BY (p:Int×ByteArray×List (List Int)×Unit) (ts:List (List Int×List (List Int)×List Int×Unit)) (s:List Int) (P:(Option (List (List Int×List (List Int)×List Int×Unit)×List (ByteArray->Option Int)×Unit)×Bool×Unit)->Prop):(∃(y4:Bool),Ic.fn ((p.1,p.2.1,p.2.2.1,()),s,())=some y4/\Br (!y4) (P (none,false,())) (∃(y5:Bool),Gq.fn ((p.1,p.2.1,p.2.2.1,()),ts,())=some y5/\Br (!y5) (P (none,false,())) (∃(y6:Option (List (List Int×List (List Int)×List Int×PUnit)×List (ByteArray->Option Int)×PUnit)),Of.fn (ts,())=some y6/\P (y6,true,()))))=fnW Cc (look [(74,Ic),(63,Gq),(64,Of)]) Qr Tryz.f51 (p,ts,s,()) P:=by kernel_rfl
theorem YN (p:Int×ByteArray×List (List Int)×Unit) (ts:List (List Int×List (List Int)×List Int×Unit)) (s:List Int) (P:Bool->Prop):(∃(y4:Bool),Gq.fn ((p.1,p.2.1,p.2.2.1,()),ts,())=some y4/\Br y4 (∃(y5:Bool),Ic.fn ((p.1,p.2.1,p.2.2.1,()),s,())=some y5/\P y5) (P false))=fnW Cc (look [(72,Gq),(73,Ic)]) ka Tryz.f47 (p,ts,s,()) P:=by kernel_rfl
theorem yp (p:Int×ByteArray×List (List Int)×Unit) (ts:List (List Int×List (List Int)×List Int×Unit)) (s:List Int) (P:Int->Prop):(∃(y4:Option (List (List Int×List (List Int)×List Int×PUnit)×List (ByteArray->Option Int)×PUnit)×Bool×PUnit),Qr.fn ((p.1,p.2.1,p.2.2.1,()),ts,s,())=some y4/\Br (!y4.2.1) (P (-1:Int)) (∃(y5:List Int),iM.fn (y4.1,s,())=some y5/\ ∃(y6:Int),dW.fn (y4.1,s,())=some y6/\ ∃(y7:Int),dU.fn (y5,y6,())=some y7/\P y7))=fnW Cc (look [(51,Qr),(52,dW),(59,iM),(58,dU)]) Nf Tryz.f26 (p,ts,s,()) P:=by kernel_rfl
theorem yz (p:Int×ByteArray×List (List Int)×Unit) (ts:List (List Int×List (List Int)×List Int×Unit)) (s:List Int) (P:Int->Prop):(∃(y4:Bool),ka.fn ((p.1,p.2.1,p.2.2.1,()),ts,s,())=some y4/\Br (!y4) (P (-1:Int)) (∃(y5:List Int),Ph.fn (ts,s,())=some y5/\Bk (λ(v6:Int×PUnit) (k7:Int×PUnit->Prop)=>Br (decide (v6.1<(↑y5.length:Int))) (∃(y8:Int),idx y5 v6.1=some y8/\ ∃(y9:Int),dV.fn (ts,s,())=some y9/\Br (y8==y9) (P v6.1) (k7 (IntKind.i64.wrap (v6.1+(1:Int)),()))) (P (-1:Int))) ((0:Int),PUnit.unit)))=fnW Cc (look [(47,ka),(48,dV),(57,Ph)]) Nf Tryz.f25 (p,ts,s,()) P:=by kernel_rfl
abbrev dh:Type:=List (List Int×List (List Int)×List Int×PUnit)
abbrev dj:Type:=Int×ByteArray×List (List Int)×PUnit
theorem CE (p:Int×ByteArray×List (List Int)×Unit) (ts:List (List Int×List (List Int)×List Int×Unit)) (s:List Int) (P:Bool->Prop):(Br (decide ((↑s.length:Int)>(1048576:Int))) (P true) (∃(y4:Int),sl.fn ((p.1,p.2.1,p.2.2.1,()),(1048576:Int),())=some y4/\Br (decide (y4<(0:Int))) (P true) (∃(y5:Int),ke.fn (ts,y4,())=some y5/\Br (decide (y5<(0:Int))) (P true) (∃(y6:dj),lf.fn ((p.1,p.2.1,p.2.2.1,()),())=some y6/\ ∃(y7:dh),da.fn (ts,())=some y7/\ ∃(y8:List Int),Vq.fn (s,())=some y8/\ ∃(y9:Int),Nf.fn (y6,y7,y8,())=some y9/\ ∃(Xy:dj),lf.fn ((p.1,p.2.1,p.2.2.1,()),())=some Xy/\ ∃(qU:dh),da.fn (ts,())=some qU/\ ∃(vh:List Int),Vq.fn (s,())=some vh/\ ∃(OM:Int),Nf.fn ((Xy.1,Xy.2.1,Xy.2.2.1,()),qU,vh,())=some OM/\Br (OM !=y9) (P false) (∃(aS:dj),lf.fn ((p.1,p.2.1,p.2.2.1,()),())=some aS/\ ∃(pA:Bool),sj.fn ((Xy.1,Xy.2.1,Xy.2.2.1,()),aS,())=some pA/\Br (!pA) (P false) (∃(vz:dh),da.fn (ts,())=some vz/\ ∃(RX:Bool),k8.fn (qU,vz,())=some RX/\Br (!RX) (P false) (∃(IM:List Int),Vq.fn (s,())=some IM/\ ∃(y19:Bool),Ao.fn (vh,IM,())=some y19/\Br (!y19) (P false) (P true))))))))=fnW Cc (look [(13,sl),(14,ke),(25,Nf),(26,Nf),(16,lf),(17,da),(18,Vq),(20,sj),(21,k8),(22,Ao)]) kc Tryz.f5 (p,ts,s,()) P:=by kernel_rfl
theorem ry {p:PP} {ts:List TT} {s:List Int} (h:Sv p ts s=true):Zp ts/\fz ts s/\Ka p s=true:=by
 unfold Sv at h
 obtain ⟨h1,h2⟩:=Bool.and_eq_true_iff.1 h
 exact ⟨(dk h2).2.1,AQ h1 h2,h1⟩
theorem zZ (p:PP) (ts:List TT) (s:List Int) (h:Cl p/\Fc ts/\short s):fnW Cc (look [(74,Ic),(63,Gq),(64,Of)]) Qr Tryz.f51 (p,ts,s,()) (λ(z:Option BB×Bool×Unit)=>z=if Sv p ts s=true then (some (Vi ts),true,()) else (none,false,())):=by
 obtain ⟨h0,h1,h2⟩:=h
 refine Eq.mp (BY p ts s _) ⟨_,if_pos ⟨h0,h2⟩,?_⟩
 show Br (!Ka p s) _ _
 have hh:Sv p ts s=(Ka p s&&Cx p ts):=rfl
 rw [hh]
 refine Br.of (λhb=>?_) λhb=>?_
 ·have hb:Ka p s=false:=by simpa using hb
  rw [hb];rfl
 ·have hb:Ka p s=true:=by simpa using hb
  refine ⟨_,if_pos ⟨h0,h1⟩,?_⟩
  show Br (!Cx p ts) _ _
  refine Br.of (λhc=>?_) λhc=>?_
  ·have hc:Cx p ts=false:=by simpa using hc
   rw [hb,hc];rfl
  ·have hc:Cx p ts=true:=by simpa using hc
   refine ⟨_,if_pos (dk hc).2.1,?_⟩
   rw [hb,hc];rfl
theorem oE:Sound Tryz.prog 51 Qr:=
 Sound.Co Bg (Ae lR (Ae gr (Ae lU Al))) mixed Tryz.func51 (by kernel_rfl) (by kernel_rfl) λx h=>zZ x.1 x.2.1 x.2.2.1 h
theorem XO (p:PP) (ts:List TT) (s:List Int) (h:Cl p/\Fc ts/\short s):fnW Cc (look [(72,Gq),(73,Ic)]) ka Tryz.f47 (p,ts,s,()) (λ(z:Bool)=>z=Sv p ts s):=by
 obtain ⟨h0,h1,h2⟩:=h
 refine Eq.mp (YN p ts s _) ⟨_,if_pos ⟨h0,h1⟩,?_⟩
 show Br (Cx p ts) _ _
 have hh:Sv p ts s=(Ka p s&&Cx p ts):=rfl
 rw [hh]
 refine Br.of (λhb=>⟨_,if_pos ⟨h0,h2⟩,?_⟩) λhb=>?_
 ·rw [hb,Bool.and_true]
 ·rw [hb,Bool.and_false]
theorem BK:Sound Tryz.prog 47 ka:=
 Sound.Co Bg (Ae gw (Ae lZ Al)) mixed Tryz.func47 (by kernel_rfl) (by kernel_rfl) λx h=>XO x.1 x.2.1 x.2.2.1 h
theorem xu (p:PP) (ts:List TT) (s:List Int) (h:Cl p/\Fc ts/\short s):fnW Cc (look [(51,Qr),(52,dW),(59,iM),(58,dU)]) Nf Tryz.f26 (p,ts,s,()) (λ(z:Int)=>z=iz p ts s):=by
 refine Eq.mp (yp p ts s _) ?_
 unfold iz
 by_cases hh:Sv p ts s=true
 ·obtain ⟨a,b,_⟩:=ry hh
  have h4:=a.1
  have hl:=Ya ts s
  rw [if_pos hh]
  exact ⟨_,(if_pos h).trans (congrArg some (if_pos hh)),λhb=>by simp at hb,λ_=>⟨_,if_pos ⟨ts,a,rfl,b⟩,_,if_pos ⟨ts,a,rfl,b⟩,_,if_pos (by show (Li ts s).length<=4294967296;omega),rfl⟩⟩
 ·rw [if_neg hh]
  exact ⟨_,(if_pos h).trans (congrArg some (if_neg hh)),λ_=>rfl,λhb=>by simp at hb⟩
theorem lP:Sound Tryz.prog 26 Nf:=
 Sound.Co Bg (Ae oE (Ae xV (Ae sr (Ae xT Al)))) mixed Tryz.func26 (by kernel_rfl) (by kernel_rfl) λx h=>xu x.1 x.2.1 x.2.2.1 h
theorem xD (p:PP) (ts:List TT) (s:List Int) (h:Cl p/\Fc ts/\short s):fnW Cc (look [(47,ka),(48,dV),(57,Ph)]) Nf Tryz.f25 (p,ts,s,()) (λ(z:Int)=>z=iz p ts s):=by
 refine Eq.mp (yz p ts s _) ⟨_,if_pos h,?_⟩
 show Br (!Sv p ts s) _ _
 unfold iz
 refine Br.of (λhb=>?_) λhb=>?_
 ·rw [if_neg (Dj hb)]
 ·have hh:Sv p ts s=true:=by simpa using hb
  obtain ⟨a,b,_⟩:=ry hh
  have h4:=a.1
  have hl:=Ya ts s
  rw [if_pos hh]
  obtain ⟨xs,PA⟩: ∃xs,Li ts s=xs:=⟨_,rfl⟩
  rw [PA] at hl⊢
  refine ⟨xs,(if_pos ⟨a,b⟩).trans (congrArg some PA),?_⟩
  refine Ah xs.length (λv=>v.1) (λj v=>v=((j:Int),())/\Rn (xs.drop j) (eW ts s) j=Rn xs (eW ts s) 0) rfl ⟨rfl,rfl⟩ ?_
  rintro j v K hj hi ⟨rfl,hR⟩ hK
  dsimp only
  refine Br.dec (λFz=>?_) λFz=>?_
  ·have Fz:j<xs.length:=by omega
   rw [List.drop_eq_getElem_cons Fz] at hR
   simp only [Rn] at hR
   refine ⟨_,Ap Fz,_,if_pos ⟨a,b⟩,Br.of (λhe=>?_) λhe=>?_⟩
   ·have he:xs[j]=eW ts s:=eq_of_beq he
    rw [if_pos he] at hR
    exact hR
   ·have he: ¬xs[j]=eW ts s:= λhc=>by
     have he:(xs[j]==eW ts s)=false:=he
     rw [hc] at he
     simp at he
    rw [if_neg he] at hR
    rw [Ag (by omega)]
    exact hK Fz _ rfl ⟨rfl,by rw [<-hR];rfl⟩
  ·have:j=xs.length:=by omega
   subst this
   rw [List.drop_length] at hR
   exact hR
theorem lX:Sound Tryz.prog 25 Nf:=
 Sound.Co Bg (Ae BK (Ae xU (Ae iW Al))) mixed Tryz.func25 (by kernel_rfl) (by kernel_rfl) λx h=>xD x.1 x.2.1 x.2.2.1 h
theorem AG (p:PP) (ts:List TT) (s:List Int) (h:Cl p/\Fc ts/\short s):fnW Cc (look [(13,sl),(14,ke),(25,Nf),(26,Nf),(16,lf),(17,da),(18,Vq),(20,sj),(21,k8),(22,Ao)]) kc Tryz.f5 (p,ts,s,()) (λ(z:Bool)=>z=true):=by
 obtain ⟨h0,h1,h2⟩:=h
 refine Eq.mp (CE p ts s _) (Br.dec (λ_=>rfl) λ_=>?_)
 refine ⟨_,if_pos ⟨h0,xJ⟩,Br.dec (λ_=>rfl) λhn=>⟨_,if_pos ⟨h1,(ND xJ hn).2⟩,Br.dec (λ_=>rfl) λ_=>?_⟩⟩
 refine ⟨_,if_pos h0,_,if_pos h1,_,if_pos h2,_,if_pos ⟨h0,h1,h2⟩,_,if_pos h0,_,if_pos h1,_,if_pos h2,_,if_pos ⟨h0,h1,h2⟩,⟨λhe=>KZ he,λ_=>?_⟩⟩
 refine ⟨_,if_pos h0,_,if_pos h0,⟨λhe=>nU (zK p) he,λ_=>?_⟩⟩
 refine ⟨_,if_pos h1,_,if_pos h1,⟨λhe=>nU (decide_eq_true rfl) he,λ_=>?_⟩⟩
 exact ⟨_,if_pos h2,_,if_pos h2,⟨λhe=>nU (jK s) he,λ_=>rfl⟩⟩
theorem oM:Sound Tryz.prog 5 kc:=
 Sound.Co Bg (Ae HL (Ae BO (Ae lX (Ae lP (Ae HM (Ae BP (Ae kv (Ae HI (Ae BJ (Ae ko Al)))))))))) mixed Tryz.func5 (by kernel_rfl) (by kernel_rfl) λx h=>AG x.1 x.2.1 x.2.2.1 h
end Go.Proofs.YtfolipnappekaaaGreat
