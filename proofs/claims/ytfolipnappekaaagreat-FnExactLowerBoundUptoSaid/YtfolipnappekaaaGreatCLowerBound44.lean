/-
  Part 45 of the proof that the statement FnExactLowerBound holds.
-/
import Derived.Test.YtfolipnappekaaaGreatCLowerBound43
namespace Go.Proofs.YtfolipnappekaaaGreat
open Go.RowKit
noncomputable abbrev jY:Spec:=Co (.pair (.ptr iY) (.pair tI (.pair tL .unit))) (.pair tL (.pair tI .unit)) true false (λx=> ∃N L,Om N L x.1.1 x.1.2.2.1 x.1.2.1 x.2.1 x.2.2.1) (λx=>Is x.1.2.1 (x.1.1-x.2.1).toNat x.2.1.toNat x.2.2.1)
noncomputable abbrev WV:MSpec:= {ptr:=some (153,3),Fb:= [none,none],ins:= [(false, .Ee tI),(false, .Ah tO pq false),(false, .Ah tO pq false),(false, .Ee tI),(false, .Ee tL)],Dh:=true,Ef:= [none,none],outs:= [.Ee tI, .Ah tO pq false, .Ah tO pq false, .Ee tL, .Ee tI],fn:= λ_=>none}
noncomputable abbrev dR:MSpec:=gA WV (λx=> ∃N L,Om N L x.1 x.2.2.1 x.2.1 x.2.2.2.1 x.2.2.2.2.1)
 (λx=>((x.1,x.2.1,x.2.2.1,(Is x.2.1 (x.1-x.2.2.2.1).toNat x.2.2.2.1.toNat x.2.2.2.2.1).1,(Is x.2.1 (x.1-x.2.2.2.1).toNat x.2.2.2.1.toNat x.2.2.2.2.1).2.1,()),()))
structure RS (N L:Nat) (n:Int) (G T:Av) (l:Int) (p:List Int):Prop where
 n1:1<=N
 n2:N<=20
 en:n=N
 el:l=L
 lt:L<N
 part:Part N L (G,T)
 pm:Pm N p
 fx:Fx L p
 gn:Gn N (G.getD L []) p
 gl:(G.getD L []).length<=401
noncomputable abbrev LF:MSpec:= {ptr:=some (153,3),Fb:= [none,none],ins:= [(false, .Ee tI),(false, .Ah tO pq false),(false, .Ah tO pq false),(false, .Ee tI),(false, .Ee tO)],Dh:=false,Ef:= [],outs:= [.Ee tI, .Ah tO pq false, .Ah tO pq false],fn:= λ_=>none}
noncomputable abbrev iG (m:Nat):MSpec:=gA LF (λx=>(∃N L q,x.2.2.2.2.1=some q/\Om N L x.1 x.2.2.1 x.2.1 x.2.2.2.1 q)/\DU x.1.toNat x.2.2.2.1.toNat<m)
 (λx=>((x.1,(e8 x.1.toNat 1000 x.2.2.2.1.toNat (x.2.2.2.2.1.getD []) (x.2.2.1,x.2.1)).2,(e8 x.1.toNat 1000 x.2.2.2.1.toNat (x.2.2.2.2.1.getD []) (x.2.2.1,x.2.1)).1,()),()))
noncomputable abbrev Yy (m:Nat):MSpec:=gA LF (λx=>(∃N L q,x.2.2.2.2.1=some q/\RS N L x.1 x.2.2.1 x.2.1 x.2.2.2.1 q)/\gB x.1.toNat x.2.2.2.1.toNat (x.2.2.1,x.2.1)<m)
 (λx=>((x.1,(aT x.1.toNat 1000 x.2.2.2.1.toNat (x.2.2.2.2.1.getD []) (x.2.2.1,x.2.1)).2,(aT x.1.toNat 1000 x.2.2.2.1.toNat (x.2.2.2.2.1.getD []) (x.2.2.1,x.2.1)).1,()),()))
noncomputable abbrev uf:MSpec:=gA LF (λx=> ∃N L q,x.2.2.2.2.1=some q/\Om N L x.1 x.2.2.1 x.2.1 x.2.2.2.1 q)
 (λx=>((x.1,(e8 x.1.toNat 1000 x.2.2.2.1.toNat (x.2.2.2.2.1.getD []) (x.2.2.1,x.2.1)).2,(e8 x.1.toNat 1000 x.2.2.2.1.toNat (x.2.2.2.2.1.getD []) (x.2.2.1,x.2.1)).1,()),()))
theorem qL (p q:List Int) (P:List Int->Prop):(0=0/\0=([]:List Int).length/\Bm (λ(v3:Int×List Int×PUnit) (k4:Int×List Int×PUnit->Prop)=>Br (decide (v3.1<(↑p.length:Int))) (∃(y5:Int),idx p v3.1=some y5/\ ∃(y6:Int),idx q y5=some y6/\0=0/\v3.2.1.length=v3.2.1.length/\v3.2.1.length+(List.take 1 (List.drop 0 [y6])).length<=Bj/\0=0/\(v3.2.1++List.take 1 (List.drop 0 [y6])).length=(v3.2.1++List.take 1 (List.drop 0 [y6])).length/\k4 (IntKind.i64.wrap (v3.1+(1:Int)),v3.2.1++List.take 1 (List.drop 0 [y6]),())) (P (List.take v3.2.1.length (List.drop 0 v3.2.1)))) ((0:Int),[],PUnit.unit))=fnW Cf (look []) Ub Tryz.f156 (p,q,()) P:=by kernel_rfl
theorem YM (c:Int×List (List (Option (List Int)))×List (List (Option (List Int)))×Unit) (l:Int) (p:List Int) (P:(List Int×Int×Unit)->Prop):(Bm (λ(v4:List Int×Int×PUnit) (k5:List Int×Int×PUnit->Prop)=>Br (decide (v4.2.1<c.1)) (∃(y6:List (Option (List Int))),idx c.2.1 v4.2.1=some y6/\ ∃(y7:Int),idx v4.1 v4.2.1=some y7/\ ∃(y8:Option (List Int)),idx y6 y7=some y8/\Br ((↑(y8.getD []).length:Int)==(0:Int)) (P (v4.1,v4.2.1,())) (∃(y9:List Int),Ck.fn (y8.getD [],())=some y9/\ ∃(Xw:List Int),Hr.fn (v4.1,y9,())=some Xw/\k5 (Xw,IntKind.i64.wrap (v4.2.1+(1:Int)),()))) (P (v4.1,c.1,()))) (p,l,PUnit.unit))=fnW Pr (look [(76,Ck),(156,Hr)]) jY Tryz.f144 (c,l,p,()) P:=by kernel_rfl
abbrev xV:Type:=List Int×Int×List (List (Option (List Int)))×List (List (Option (List Int)))×Int×PUnit
theorem RQ (n:Int) (T G:List (List (Option (List Int)))) (l:Int) (p:List Int) (P:(Int×List (List (Option (List Int)))×List (List (Option (List Int)))×List Int×Int×Unit)×Unit->Prop):(0=0/\T.length=T.length/\0=0/\G.length=G.length/\Bm (λ(v6:xV) (k7:xV->Prop)=>Br (decide (v6.2.1<v6.2.2.2.2.1)) (((0:Int)<=v6.2.1/\v6.2.1<(↑v6.2.2.1.length:Int))/\ ∃(y8:Int),idx v6.1 v6.2.1=some y8/\((0:Int)<=y8/\y8<(↑(v6.2.2.1.getD (0+v6.2.1.toNat) []).length:Int))/\Br ((↑(((v6.2.2.1.getD (0+v6.2.1.toNat) []).getD y8.toNat (none:Option (List Int))).getD []).length:Int)==(0:Int)) ((0=0/\v6.2.2.1.length=v6.2.2.1.length)/\(0=0/\v6.2.2.2.1.length=v6.2.2.2.1.length)/\P ((v6.2.2.2.2.1,v6.2.2.1,v6.2.2.2.1,v6.1,v6.2.1,()),())) (∃(y9:List Int),Ck.fn (((v6.2.2.1.getD (0+v6.2.1.toNat) []).getD y8.toNat (none:Option (List Int))).getD [],())=some y9/\ ∃(Xw:List Int),Hr.fn (v6.1,y9,())=some Xw/\0=0/\v6.2.2.1.length=v6.2.2.1.length/\0=0/\v6.2.2.2.1.length=v6.2.2.2.1.length/\k7 (Xw,IntKind.i64.wrap (v6.2.1+(1:Int)),v6.2.2.1,v6.2.2.2.1,v6.2.2.2.2.1,()))) ((0=0/\v6.2.2.1.length=v6.2.2.1.length)/\(0=0/\v6.2.2.2.1.length=v6.2.2.2.1.length)/\P ((v6.2.2.2.2.1,v6.2.2.1,v6.2.2.2.1,v6.1,v6.2.2.2.2.1,()),()))) (p,l,T,G,n,PUnit.unit))=fnMW Pr (look [(76,Ck),(156,Hr)]) dR Tryz.f144 (n,T,G,l,p,()) P:=by kernel_rfl
abbrev uG:Type:=Int×List (Option (List Int))×List (List (Option (List Int)))×List (List (Option (List Int)))×Int×PUnit
abbrev NF:Type:=(Int×List (List (Option (List Int)))×List (List (Option (List Int)))×List Int×Int×PUnit)×PUnit
abbrev Gm (y7:NF) (l:Int) (p:Option (List Int)) (n:Int):Prop:=0=0/\(y7.1.2.2.1.getD (0+l.toNat) []).length=(y7.1.2.2.1.getD (0+l.toNat) []).length/\(y7.1.2.2.1.getD (0+l.toNat) []).length+(List.take 1 (List.drop 0 [p])).length<=Bj/\((0:Int)<=l/\l<(↑y7.1.2.2.1.length:Int))/\0=0/\(y7.1.2.2.1.getD (0+l.toNat) []++List.take 1 (List.drop 0 [p])).length=(y7.1.2.2.1.getD (0+l.toNat) []++List.take 1 (List.drop 0 [p])).length/\0+l.toNat=0+l.toNat/\ [(0,y7.1.2.2.1.length),(0,y7.1.2.2.1.length),(0,y7.1.2.1.length),(0,y7.1.2.2.1.length)]= [(0,y7.1.2.2.1.length),(0,y7.1.2.2.1.length),(0,y7.1.2.1.length),(0,y7.1.2.2.1.length)]/\(l,p,y7.1.2.2.2.1,y7.1.2.2.2.2.1,l,n,decide (l>=n),l,p,y7.1.2.2.2.1,y7.1.2.2.2.2.1,y7.1.2.2.2.2.1,y7.1.1,y7.1.2.2.2.2.1==y7.1.1,l,l,0+l.toNat,p,List.take 1 (List.drop 0 [p]),0+l.toNat,y7.1.2.1,y7.1.2.2.1.set (0+l.toNat) (y7.1.2.2.1.getD (0+l.toNat) []++List.take 1 (List.drop 0 [p])),y7.1.1,())=(l,p,y7.1.2.2.2.1,y7.1.2.2.2.2.1,l,n,decide (l>=n),l,p,y7.1.2.2.2.1,y7.1.2.2.2.2.1,y7.1.2.2.2.2.1,y7.1.1,y7.1.2.2.2.2.1==y7.1.1,l,l,0+l.toNat,p,List.take 1 (List.drop 0 [p]),0+l.toNat,y7.1.2.1,y7.1.2.2.1.set (0+l.toNat) (y7.1.2.2.1.getD (0+l.toNat) []++List.take 1 (List.drop 0 [p])),y7.1.1,PUnit.unit)
theorem Acg {m:Nat} (n:Int) (T G:List (List (Option (List Int)))) (l:Int) (p:Option (List Int)) (P:(Int×List (List (Option (List Int)))×List (List (Option (List Int)))×Unit)×Unit->Prop):(Br (decide (l>=n)) ((0=0/\T.length=T.length)/\(0=0/\G.length=G.length)/\P ((n,T,G,()),())) (0=0/\T.length=T.length/\0=0/\G.length=G.length/\ ∃(y7:NF),dR.fn (n,T,G,l,p.getD [],())=some y7/\Br (y7.1.2.2.2.2.1==y7.1.1) ((0=0/\y7.1.2.1.length=y7.1.2.1.length)/\(0=0/\y7.1.2.2.1.length=y7.1.2.2.1.length)/\P ((y7.1.1,y7.1.2.1,y7.1.2.2.1,()),())) (((0:Int)<=l/\l<(↑y7.1.2.2.1.length:Int))/\0=0/\(y7.1.2.2.1.getD (0+l.toNat) []).length=(y7.1.2.2.1.getD (0+l.toNat) []).length/\(y7.1.2.2.1.getD (0+l.toNat) []).length+(List.take 1 (List.drop 0 [p])).length<=Bj/\((0:Int)<=l/\l<(↑y7.1.2.2.1.length:Int))/\0=0/\(y7.1.2.2.1.getD (0+l.toNat) []++List.take 1 (List.drop 0 [p])).length=(y7.1.2.2.1.getD (0+l.toNat) []++List.take 1 (List.drop 0 [p])).length/\0+l.toNat=0+l.toNat/\(0=0/\0=([]:List Int).length/\0=0/\y7.1.2.1.length=y7.1.2.1.length/\0=0/\y7.1.2.2.1.length=(y7.1.2.2.1.set (0+l.toNat) (y7.1.2.2.1.getD (0+l.toNat) []++List.take 1 (List.drop 0 [p]))).length/\Bm (λ(v8:uG) (k9:uG->Prop)=>Br (decide (v8.1<v8.2.2.2.2.1)) (((0:Int)<=l/\l<(↑v8.2.2.1.length:Int))/\((0:Int)<=v8.1/\v8.1<(↑(v8.2.2.1.getD (0+l.toNat) []).length:Int))/\Br (decide ((↑(((v8.2.2.1.getD (0+l.toNat) []).getD v8.1.toNat (none:Option (List Int))).getD []).length:Int)>(0:Int))) (((0:Int)<=l/\l<(↑v8.2.2.1.length:Int))/\((0:Int)<=v8.1/\v8.1<(↑(v8.2.2.1.getD (0+l.toNat) []).length:Int))/\0=0/\v8.2.1.length=v8.2.1.length/\v8.2.1.length+(List.take 1 (List.drop 0 [(v8.2.2.1.getD (0+l.toNat) []).getD v8.1.toNat none])).length<=Bj/\0=0/\(v8.2.1++List.take 1 (List.drop 0 [(v8.2.2.1.getD (0+l.toNat) []).getD v8.1.toNat none])).length=(v8.2.1++List.take 1 (List.drop 0 [(v8.2.2.1.getD (0+l.toNat) []).getD v8.1.toNat none])).length/\0=0/\v8.2.2.1.length=v8.2.2.1.length/\0=0/\v8.2.2.2.1.length=v8.2.2.2.1.length/\k9 (IntKind.i64.wrap (v8.1+(1:Int)),v8.2.1++List.take 1 (List.drop 0 [(v8.2.2.1.getD (0+l.toNat) []).getD v8.1.toNat none]),v8.2.2.1,v8.2.2.2.1,v8.2.2.2.2.1,())) (0=0/\v8.2.1.length=v8.2.1.length/\0=0/\v8.2.2.1.length=v8.2.2.1.length/\0=0/\v8.2.2.2.1.length=v8.2.2.2.1.length/\k9 (IntKind.i64.wrap (v8.1+(1:Int)),v8.2.1,v8.2.2.1,v8.2.2.2.1,v8.2.2.2.2.1,()))) (0=0/\v8.2.1.length=v8.2.1.length/\0=0/\v8.2.2.1.length=v8.2.2.1.length/\0=0/\v8.2.2.2.1.length=v8.2.2.2.1.length/\Bm (λ(v10:uG) (k11:uG->Prop)=>Br (decide (v10.1<(↑v10.2.1.length:Int))) (((0:Int)<=v10.1/\v10.1<(↑v10.2.1.length:Int))/\ ∃(vd:Option (List Int)),v10.2.1[0+v10.1.toNat]?=some vd/\ ∃(OI:Option (List Int)),Ez.fn (vd.getD [],p.getD [],())=some OI/\0=0/\v10.2.2.1.length=v10.2.2.1.length/\0=0/\v10.2.2.2.1.length=v10.2.2.2.1.length/\ ∃(aP:(Int×List (List (Option (List Int)))×List (List (Option (List Int)))×PUnit)×PUnit),(Yy m).fn (v10.2.2.2.2.1,v10.2.2.1,v10.2.2.2.1,l,OI,())=some aP/\0=0/\v10.2.1.length=v10.2.1.length/\0=0/\aP.1.2.1.length=aP.1.2.1.length/\0=0/\aP.1.2.2.1.length=aP.1.2.2.1.length/\k11 (IntKind.i64.wrap (v10.1+(1:Int)),v10.2.1,aP.1.2.1,aP.1.2.2.1,aP.1.1,())) ((0=0/\v10.2.2.1.length=v10.2.2.1.length)/\(0=0/\v10.2.2.2.1.length=v10.2.2.2.1.length)/\P ((v10.2.2.2.2.1,v10.2.2.1,v10.2.2.2.1,()),()))) ((0:Int),v8.2.1,v8.2.2.1,v8.2.2.2.1,v8.2.2.2.2.1,PUnit.unit))) ((0:Int),[],y7.1.2.1,y7.1.2.2.1.set (0+l.toNat) (y7.1.2.2.1.getD (0+l.toNat) []++List.take 1 (List.drop 0 [p])),y7.1.1,PUnit.unit))/\(((((0:Int)<=l/\l<(↑y7.1.2.2.1.length:Int))/\((Gm y7 l p n))/\(Gm y7 l p n))/\((0:Int)<=l/\l<(↑y7.1.2.2.1.length:Int))/\(Gm y7 l p n))/\((0:Int)<=l/\l<(↑y7.1.2.2.1.length:Int))/\(Gm y7 l p n))/\(((((0:Int)<=l/\l<(↑y7.1.2.2.1.length:Int))/\((Gm y7 l p n))/\(Gm y7 l p n))/\((0:Int)<=l/\l<(↑y7.1.2.2.1.length:Int))/\(Gm y7 l p n))/\(((0:Int)<=l/\l<(↑y7.1.2.2.1.length:Int))/\(((Gm y7 l p n))/\(Gm y7 l p n))/\(((Gm y7 l p n))/\((Gm y7 l p n))/\(Gm y7 l p n))/\((Gm y7 l p n))/\((Gm y7 l p n))/\(Gm y7 l p n))/\(((0:Int)<=l/\l<(↑y7.1.2.2.1.length:Int))/\(Gm y7 l p n))/\((0:Int)<=l/\l<(↑y7.1.2.2.1.length:Int))/\((Gm y7 l p n))/\((Gm y7 l p n))/\(Gm y7 l p n))/\(((0:Int)<=l/\l<(↑y7.1.2.2.1.length:Int))/\(Gm y7 l p n))/\(((0:Int)<=l/\l<(↑y7.1.2.2.1.length:Int))/\(Gm y7 l p n))/\((0:Int)<=l/\l<(↑y7.1.2.2.1.length:Int))/\((Gm y7 l p n))/\((Gm y7 l p n))/\(Gm y7 l p n))))=fnMW (NQ [pe+46]) (look [(144,dR),(156,Ez),(157,Un.m (Yy m))]) (iG (m+1)) Tryz.f146 (n,T,G,l,p,()) P:=by kernel_rfl
abbrev NC:Type:=(Int×List (List (Option (List Int)))×List (List (Option (List Int)))×PUnit)×PUnit
abbrev NG:Type:=Int×List (List (Option (List Int)))×List (List (Option (List Int)))×Int×PUnit
theorem Ach {m:Nat} (n:Int) (T G:List (List (Option (List Int)))) (l:Int) (p:Option (List Int)) (P:(Int×List (List (Option (List Int)))×List (List (Option (List Int)))×Unit)×Unit->Prop):(((0:Int)<=l/\l<(↑T.length:Int))/\ ∃(y7:Int),idx (p.getD []) l=some y7/\((0:Int)<=y7/\y7<(↑(T.getD (0+l.toNat) []).length:Int))/\Br (decide ((↑(((T.getD (0+l.toNat) []).getD y7.toNat (none:Option (List Int))).getD []).length:Int)>(0:Int))) (∃(y8:List Int),Ck.fn (((T.getD (0+l.toNat) []).getD y7.toNat (none:Option (List Int))).getD [],())=some y8/\ ∃(y9:Option (List Int)),Ez.fn (p.getD [],y8,())=some y9/\0=0/\T.length=T.length/\0=0/\G.length=G.length/\ ∃(Xw:NC),(iG m).fn (n,T,G,IntKind.i64.wrap (l+(1:Int)),y9,())=some Xw/\(0=0/\Xw.1.2.1.length=Xw.1.2.1.length)/\(0=0/\Xw.1.2.2.1.length=Xw.1.2.2.1.length)/\P ((Xw.1.1,Xw.1.2.1,Xw.1.2.2.1,()),())) (((0:Int)<=l/\l<(↑T.length:Int))/\ ∃(y8:Int),idx (p.getD []) l=some y8/\((0:Int)<=y8/\y8<(↑(T.getD (0+l.toNat) []).length:Int))/\0=0/\T.length=(T.set (0+l.toNat) ((T.getD (0+l.toNat) []).set y8.toNat p)).length/\0=0/\G.length=G.length/\Bm (λ(v9:NG) (k10:NG->Prop)=>((0:Int)<=l/\l<(↑v9.2.2.1.length:Int))/\Br (decide (v9.1<(↑(v9.2.2.1.getD (0+l.toNat) []).length:Int))) (((0:Int)<=l/\l<(↑v9.2.2.1.length:Int))/\((0:Int)<=v9.1/\v9.1<(↑(v9.2.2.1.getD (0+l.toNat) []).length:Int))/\ ∃(qP:Option (List Int)),Ez.fn (p.getD [],((v9.2.2.1.getD (0+l.toNat) []).getD v9.1.toNat (none:Option (List Int))).getD [],())=some qP/\0=0/\v9.2.1.length=v9.2.1.length/\0=0/\v9.2.2.1.length=v9.2.2.1.length/\ ∃(vd:NC),(Yy m).fn (v9.2.2.2.1,v9.2.1,v9.2.2.1,l,qP,())=some vd/\0=0/\vd.1.2.1.length=vd.1.2.1.length/\0=0/\vd.1.2.2.1.length=vd.1.2.2.1.length/\k10 (IntKind.i64.wrap (v9.1+(1:Int)),vd.1.2.1,vd.1.2.2.1,vd.1.1,())) ((0=0/\v9.2.1.length=v9.2.1.length)/\(0=0/\v9.2.2.1.length=v9.2.2.1.length)/\P ((v9.2.2.2.1,v9.2.1,v9.2.2.1,()),()))) ((0:Int),T.set (0+l.toNat) ((T.getD (0+l.toNat) []).set y8.toNat p),G,n,PUnit.unit)))=fnMW Pr (look [(76,Ck),(156,Ez),(146,Un.m (iG m)),(157,Un.m (Yy m))]) (Yy (m+1)) Tryz.f157 (n,T,G,l,p,()) P:=by kernel_rfl
theorem EN {p q:List Int} {j:Nat} (h:j<p.length):(Aa p q).take (j+1)=(Aa p q).take j++ [Ig q p[j]]:=by
 unfold Aa
 rw [List.take_succ_eq_append_getElem (by rw [List.length_map];exact h),List.getElem_map]
theorem q7 (p q:List Int) (h:List.length p<=20/\Ho (List.length q) p):fnW Cf (look []) Ub Tryz.f156 (p,q,()) (λ(z:List Int)=>z=Aa p q):=by
 obtain ⟨h1,h2⟩:=h
 refine Eq.mp (qL p q _) ⟨rfl,rfl,?_⟩
 refine Ai p.length (λv=>v.1) (λj v=>v=((j:Int),(Aa p q).take j,())) rfl rfl ?_
 rintro j v K hj hi rfl hK
 dsimp only
 have hlen:((Aa p q).take j).length<=20:=by rw [List.length_take];unfold Aa;rw [List.length_map];omega
 refine Br.dec (λhl=>?_) λhl=>?_
 ·have hl:j<p.length:=by omega
  have hr:=h2 p[j] (List.getElem_mem hl)
  refine ⟨_,Ap hl,Ig q p[j],cq hr.1 hr.2,rfl,rfl,?_,rfl,rfl,?_⟩
  ·show ((Aa p q).take j).length+1<=4294967296
   omega
  ·rw [Ag (by omega)]
   refine hK hl _ rfl ?_
   rw [EN hl]
   rfl
 ·have:j=p.length:=by omega
  subst this
  rw [Bi,<-Jn p q,List.take_length]
theorem Xa:Sound Tryz.prog 156 Ub:=
 Sound.Co Bg Al mixed Tryz.func156 (by kernel_rfl) (by kernel_rfl) λx h=>q7 x.1 x.2.1 h
theorem Vq:Sound Tryz.prog 156 Hr:=Sound.loose Xa
theorem Vr:Sound Tryz.prog 156 Ez:=Sound.YE Xa λx h=>⟨⟨h.1.2,h.2⟩,λe=>by
 have:=Jn x.1 x.2.1
 rw [e] at this
 have:=h.1.1
 simp only [List.length_nil] at*
 omega⟩
theorem sk {N L i:Nat} {G T:Av} {p:List Int} (n2:N<=20) (v3:dY N (N-L) L (G,T)) (v2:T.length=N) (h1:L<=i) (hl:i<N) (h4:Pm N p) (h5:Fx i p):
  ∃o,idx p (i:Int)=some (ap p i:Int)/\T[i]?=some (T.getD i [])/\ap p i<(T.getD i []).length/\(T.getD i [])[ap p i]?=some o/\(T.getD i []).getD (ap p i) none=o/\
   (o=none->(o.getD []).length=0/\ ∀k,Is T (k+1) i p=(p,(i:Int),()))/\
   (∀t,o=some t->(t.length≠0/\t.length<=20/\Ho t.length t)/\(p.length<=20/\Ho (Af t).length p)/\Pm N (Aa p (Af t))/\Fx (i+1) (Aa p (Af t))/\ ∀k,Is T (k+1) i p=Is T k (i+1) (Aa p (Af t))):=by
 have Gd:=mL (N-L) L v3 i h1 (by omega)
 have hT:i<T.length:=by omega
 have hlen:(T.getD i []).length=N:=Gd.rl
 obtain ⟨a1,a2⟩:=h4.Ti hl
 have hg:(Ig p (i:Int)).toNat=ap p i:=rfl
 refine ⟨(T.getD i []).getD (ap p i) none,?_,?_,by omega,?_,rfl,λho=>?_,λt ho=>?_⟩
 ·rw [<-a1,Hl (by rw [h4.1];exact hl)];exact Ap (by rw [h4.1];exact hl)
 ·rw [List.getD_eq_getElem?_getD,List.getElem?_eq_getElem hT];rfl
 ·rw [List.getD_eq_getElem?_getD (l:=T.getD i []),List.getElem?_eq_getElem (by omega)];rfl
 ·refine ⟨by rw [ho];rfl,λk=>?_⟩
  simp only [Is,hg,ho]
 ·obtain ⟨t1,t2,t3,t4⟩:=Gd.rt _ _ ho
  have hn1:=h4.n1
  refine ⟨⟨by rw [t1.1];omega,by rw [t1.1];exact n2,t1.2.row⟩,⟨by rw [h4.1];exact n2,by rw [ie,t1.1];exact h4.row⟩,h4.comp t1.inv,Fx.div h4 t1 h5 t2 hl t3,λk=>?_⟩
  simp only [Is,hg,ho]
theorem XN (c:Int×List (List (Option (List Int)))×List (List (Option (List Int)))×Unit) (l:Int) (p:List Int) (h: ∃N L,Om N L c.1 c.2.2.1 c.2.1 l p):
  fnW Pr (look [(76,Ck),(156,Hr)]) jY Tryz.f144 (c,l,p,()) (λ(z:List Int×Int×Unit)=>z=Is c.2.1 (c.1-l).toNat l.toNat p):=by
 obtain ⟨n,T,G,⟨⟩⟩:=c
 obtain ⟨N,L,h⟩:=h
 obtain ⟨n1,n2,en,el,hle,v,pm,fx⟩:=h
 dsimp only at en el v⊢
 subst en el
 refine Eq.mp (YM ((N:Int),T,G,()) (L:Int) p _) ?_
 obtain ⟨v1,v2,v3,v4⟩:=v
 dsimp only at v1 v2
 refine ⟨λv=> ∃i:Nat,L<=i/\i<=N/\v.2.1=i/\Pm N v.1/\Fx i v.1/\Is T (N-i) i v.1=Is T (N-L) L p,λv=>N-v.2.1.toNat,⟨L,Nat.le_refl _,hle,rfl,pm,fx,rfl⟩,?_⟩
 rintro ⟨p',i',⟨⟩⟩ ⟨i,h1,h2,h3,h4,h5,h6⟩
 dsimp only at h3 h4 h5 h6⊢
 subst h3
 rw [show (((N:Int)-(L:Int)).toNat)=N-L by omega,show ((L:Int)).toNat=L by omega,<-h6]
 refine Br.dec (λhl=>?_) λhl=>?_
 ·have hl:i<N:=by omega
  obtain ⟨o,s1,s2,s3,s4,s5,s6,s7⟩:=sk n2 v3 v2 h1 hl h4 h5
  have hT:i<T.length:=by omega
  refine ⟨T.getD i [],by rw [Ap hT,<-s2,List.getElem?_eq_getElem hT],_,s1,o,by rw [Ap s3,<-s4,List.getElem?_eq_getElem s3],?_⟩
  rw [show N-i=(N-i-1)+1 by omega]
  cases o with
  |none=>
   rw [(s6 rfl).2]
   exact Br.of (λ_=>rfl) λhb=>by simp at hb
  |some t=>
   obtain ⟨⟨q1,q2⟩,q3,q4,q5,q6⟩:=s7 t rfl
   refine Br.of (λhb=>absurd (by simpa using hb) q1) λ_=>?_
   refine ⟨_,if_pos q2,_,if_pos q3,⟨i+1,by omega,by omega,Ag (by omega),q4,q5,?_⟩,?_⟩
   ·rw [q6,show N-(i+1)=N-i-1 by omega];rfl
   ·show N-(IntKind.i64.wrap ((i:Int)+1)).toNat<N-((i:Int)).toNat
    rw [Ag (by omega)]
    omega
 ·have:i=N:=by omega
  subst this
  rw [Nat.sub_self]
  rfl
theorem BG:Sound Tryz.prog 144 jY:=
 Sound.Co gq (Ae Ro (Ae Vq Al)) mixed Tryz.func144 (by kernel_rfl) (by kernel_rfl) λx h=>XN x.1 x.2.1 x.2.2.1 h
theorem QW (n:Int) (T G:List (List (Option (List Int)))) (l:Int) (p:List Int) (h: ∃N L,Om N L n G T l p):
  fnMW Pr (look [(76,Ck),(156,Hr)]) dR Tryz.f144 (n,T,G,l,p,()) (λ(z:(Int×List (List (Option (List Int)))×List (List (Option (List Int)))×List Int×Int×Unit)×Unit)=>z=((n,T,G,(Is T (n-l).toNat l.toNat p).1,(Is T (n-l).toNat l.toNat p).2.1,()),())):=by
 obtain ⟨N,L,h⟩:=h
 obtain ⟨n1,n2,en,el,hle,v,pm,fx⟩:=h
 subst en el
 refine Eq.mp (RQ (N:Int) T G (L:Int) p _) ⟨rfl,rfl,rfl,rfl,?_⟩
 obtain ⟨v1,v2,v3,v4⟩:=v
 dsimp only at v1 v2
 refine ⟨λv=> ∃i:Nat,L<=i/\i<=N/\v.2=((i:Int),T,G,(N:Int),())/\Pm N v.1/\Fx i v.1/\Is T (N-i) i v.1=Is T (N-L) L p,λv=>N-v.2.1.toNat,⟨L,Nat.le_refl _,hle,rfl,pm,fx,rfl⟩,?_⟩
 rintro ⟨p',v'⟩ ⟨i,h1,h2,h3,h4,h5,h6⟩
 dsimp only at h3 h4 h5 h6⊢
 subst h3
 dsimp only
 rw [show (((N:Int)-(L:Int)).toNat)=N-L by omega,show ((L:Int)).toNat=L by omega,<-h6]
 refine Br.dec (λhl=>?_) λhl=>?_
 ·have hl:i<N:=by omega
  obtain ⟨o,s1,s2,s3,s4,s5,s6,s7⟩:=sk n2 v3 v2 h1 hl h4 h5
  simp only [Int.toNat_natCast,Nat.zero_add,true_and,and_true]
  refine ⟨⟨by omega,by omega⟩,_,s1,⟨by omega,by omega⟩,?_⟩
  rw [Int.toNat_natCast,s5,show N-i=(N-i-1)+1 by omega]
  cases o with
  |none=>
   rw [(s6 rfl).2]
   exact Br.of (λ_=>rfl) λhb=>by simp at hb
  |some t=>
   obtain ⟨⟨q1,q2⟩,q3,q4,q5,q6⟩:=s7 t rfl
   refine Br.of (λhb=>absurd (by simpa using hb) q1) λ_=>?_
   refine ⟨_,if_pos q2,_,if_pos q3,⟨i+1,by omega,by omega,?_,q4,q5,?_⟩,?_⟩
   ·rw [Ag (by omega)]
   ·rw [q6,show N-(i+1)=N-i-1 by omega];rfl
   ·show N-(IntKind.i64.wrap ((i:Int)+1)).toNat<N-i-1+1
    rw [Ag (by omega)]
    omega
 ·have:i=N:=by omega
  subst this
  rw [Nat.sub_self]
  exact ⟨⟨rfl,rfl⟩,⟨rfl,rfl⟩,rfl⟩
theorem xR:Bf Tryz.prog 144 dR:=
 Bf.gA gq (Ae Ro (Ae Vq Al)) mixed Tryz.func144 (by kernel_rfl) (by kernel_rfl) λx h=>QW x.1 x.2.1 x.2.2.1 x.2.2.2.1 x.2.2.2.2.1 h
theorem Abs {m:Nat} (n:Int) (T G:List (List (Option (List Int)))) (l:Int) (p:Option (List Int)) (h:(∃N L q,p=some q/\RS N L n G T l q)/\gB n.toNat l.toNat (G,T)<m+1):
  fnMW Pr (look [(76,Ck),(156,Ez),(146,Un.m (iG m)),(157,Un.m (Yy m))]) (Yy (m+1)) Tryz.f157 (n,T,G,l,p,()) (λ(z:(Int×List (List (Option (List Int)))×List (List (Option (List Int)))×Unit)×Unit)=>z=((n,(aT n.toNat 1000 l.toNat (p.getD []) (G,T)).2,(aT n.toNat 1000 l.toNat (p.getD []) (G,T)).1,()),())):=by
 obtain ⟨⟨N,L,q,rfl,h⟩,hm⟩:=h
 obtain ⟨n1,n2,en,el,Fg,part,pm,fx,gn,gl⟩:=h
 subst en el
 refine Eq.mp (Ach (N:Int) T G (L:Int) (some q) _) ?_
 have l1:G.length=N:=part.l1
 have l2:T.length=N:=part.l2
 have row:=part.row
 dsimp only at row
 have TI:=row.rl
 have hy:=pm.lt Fg
 simp only [Int.toNat_natCast,Nat.zero_add,Option.getD_some,true_and,and_true,List.length_set] at hm⊢
 refine ⟨⟨by omega,by omega⟩,_,tm pm Fg,⟨by omega,by omega⟩,?_⟩
 simp only [Int.toNat_natCast]
 rcases Option.eq_none_or_eq_some ((T.getD L []).getD (ap q L) none) with Gd|⟨t,Gd⟩
 case inr=>
  obtain ⟨t1,t2,t3,t4⟩:=row.rt _ _ Gd
  have htl:=t1.1
  refine Br.dec (λ_=>?_) λhb=>?_
  ·rw [Gd,Option.getD_some]
   have hw:IntKind.i64.wrap ((L:Int)+1)=((L+1:Nat):Int):=Ag (by omega)
   rw [hw]
   have OU:=LU (s:=(G,T)) Fg
   refine ⟨_,if_pos ⟨by show t.length<=20;omega,t1.2.row⟩,some (Aa q (Af t)),if_pos ⟨Py pm,jS pm t1.inv⟩,_,
    if_pos ⟨⟨N,L+1,_,rfl,n1,n2,rfl,rfl,by omega,part.v,pm.comp t1.inv,Fx.div pm t1 fx t2 Fg t3⟩,by show DU (N:Int).toNat ((L+1:Nat):Int).toNat<m;rw [Int.toNat_natCast,Int.toNat_natCast];omega⟩,?_⟩
   simp only [Int.toNat_natCast,Option.getD_some]
   rw [JD n1 n2 Fg part pm fx Gd]
  ·rw [Gd,Option.getD_some] at hb
   omega
 case inl=>
  refine Br.dec (λhb=>by rw [Gd] at hb;simp at hb) λ_=>?_
  obtain ⟨a1,a2⟩:=vB Fg part pm fx gn Gd
  have nt:=JC n1 n2 Fg part pm fx gn Gd
  have OU:=QO (n:=N) (q:=q) (s:=(G,T)) (k:=L) (y:=ap q L) (by show L<T.length;omega) (by show ap q L<(T.getD L []).length;omega) Gd
  have run:= λj=>r9 n1 n2 Fg a1 a2 j
  dsimp only at a1 a2 nt OU run
  refine ⟨⟨by omega,by omega⟩,_,tm pm Fg,⟨by omega,by omega⟩,?_⟩
  simp only [Int.toNat_natCast]
  rw [nt]
  generalize WD:((G,T.set L ((T.getD L []).set (ap q L) (some q))):Av×Av)=s0 at OU run⊢
  have WE:T.set L ((T.getD L []).set (ap q L) (some q))=s0.2:=by rw [<-WD]
  have KK:G=s0.1:=by rw [<-WD]
  have VZ:((G.getD L []).map λo=>Aa q (o.getD [])).length=(G.getD L []).length:=List.length_map _
  refine Ai (G.getD L []).length (λv=>v.1) (λj v=> ∃s:Av×Av,v=((j:Int),s.2,s.1,(N:Int),())/\s=cb N L (((G.getD L []).map λo=>Aa q (o.getD [])).take j) s0) rfl ⟨s0,by rw [<-KK,WE];rfl,rfl⟩ ?_
  rintro j v K hj hi ⟨s,rfl,hs⟩ hK
  have hr:=run j
  rw [<-hs] at hr
  have g1:s.1.getD L []=G.getD L []:=by rw [hr.same,KK]
  have g2:s.1.length=N:=hr.part.l1
  have g4:gB N L (s.1,s.2)<=gB N L s0:=hr.mu
  dsimp only
  simp only [g1]
  refine ⟨⟨by omega,by omega⟩,Br.dec (λhl=>?_) λhl=>?_⟩
  ·have hl:j<(G.getD L []).length:=by omega
   obtain ⟨g,j9,Mt,SQ⟩:=part.pg _ (List.getElem_mem hl)
   have hgj:(G.getD L []).getD j none=some g:=by rw [wk hl];exact j9
   have hqj:(((G.getD L []).map λo=>Aa q (o.getD []))[j]'(by rw [VZ];exact hl))=Aa q g:=by rw [List.getElem_map,j9];rfl
   obtain ⟨b1,b2,b3⟩:=a2 (Aa q g) (by rw [<-hqj];exact List.getElem_mem _)
   simp only [Int.toNat_natCast,hgj,Option.getD_some]
   refine ⟨⟨by omega,by omega⟩,⟨by omega,by omega⟩,some (Aa q g),if_pos ⟨Py pm,jS pm Mt⟩,_,
    if_pos ⟨⟨N,L,_,rfl,n1,n2,rfl,rfl,Fg,hr.part,b1,b2,by rw [g1];exact b3,by rw [g1];exact gl⟩,by show gB (N:Int).toNat (L:Int).toNat (s.1,s.2)<m;rw [Int.toNat_natCast,Int.toNat_natCast];omega⟩,?_⟩
   simp only [Int.toNat_natCast,Option.getD_some]
   rw [Ag (by omega)]
   refine hK hl _ rfl ⟨_,rfl,?_⟩
   rw [mU (by rw [VZ];exact hl),<-hs,hqj]
  ·have:j=(G.getD L []).length:=by omega
   subst this
   rw [<-VZ,List.take_length] at hs
   rw [hs]
theorem MX {m:Nat} (WR:Bf Tryz.prog 146 (iG m)) (zo:Bf Tryz.prog 157 (Yy m)):Bf Tryz.prog 157 (Yy (m+1)):=
 Bf.gA gq (Ae Ro (Ae Vr (Fq WR (Fq zo Al)))) mixed Tryz.func157 (by kernel_rfl) (by kernel_rfl) λx h=>Abs x.1 x.2.1 x.2.2.1 x.2.2.2.1 x.2.2.2.2.1 h
theorem Abr {m:Nat} (n:Int) (T G:List (List (Option (List Int)))) (l:Int) (p:Option (List Int)) (h:(∃N L q,p=some q/\Om N L n G T l q)/\DU n.toNat l.toNat<m+1):
  fnMW (NQ [pe+46]) (look [(144,dR),(156,Ez),(157,Un.m (Yy m))]) (iG (m+1)) Tryz.f146 (n,T,G,l,p,()) (λ(z:(Int×List (List (Option (List Int)))×List (List (Option (List Int)))×Unit)×Unit)=>z=((n,(e8 n.toNat 1000 l.toNat (p.getD []) (G,T)).2,(e8 n.toNat 1000 l.toNat (p.getD []) (G,T)).1,()),())):=by
 obtain ⟨⟨N,L,q,rfl,h⟩,hm⟩:=h
 have h':=h
 obtain ⟨n1,n2,en,el,hle,v,pm,fx⟩:=h
 subst en el
 have hk:((N:Int)-(L:Int)).toNat=N-L:=by omega
 have back: ∀s:Av×Av,e8 N 1000 L q (G,T)=s->((((N:Int),s.2,s.1,()),()):(Int×Av×Av×Unit)×Unit)=((((N:Int),(e8 N 1000 L q (G,T)).2,(e8 N 1000 L q (G,T)).1,()),()):(Int×Av×Av×Unit)×Unit):= λs e=>by rw [e]
 refine Eq.mp (Acg (N:Int) T G (L:Int) (some q) _) ?_
 simp only [Int.toNat_natCast,Nat.zero_add,Option.getD_some,true_and,and_true] at hm⊢
 refine Br.dec (λj9=>?_) λFg=>?_
 ·exact back (G,T) (CL (by rw [show N-L=0 by omega];rfl))
 have Fg:L<N:=by omega
 have hv:=v
 obtain ⟨v1,v2,v3,v4⟩:=v
 dsimp only at v1 v2
 have hsl:(Is T (N-L) L q).2.1=(N:Int)↔Dy T (N-L) L q=true:=by
  have:=om (T:=T) (N-L) L q
  rw [show L+(N-L)=N by omega] at this
  exact this
 refine ⟨_,if_pos ⟨N,L,h'⟩,?_⟩
 simp only [Gm]
 simp only [hk,Int.toNat_natCast]
 refine Br.of (λhh=>?_) λhh=>?_
 ·exact back (G,T) (CL (hsl.1 (eq_of_beq hh)))
 have TB: ¬Dy T (N-L) L q=true:= λhc=>by rw [hsl.2 hc] at hh;simp at hh
 have wH:=JB n1 n2 (s:=(G,T)) Fg hv pm fx TB
 obtain ⟨a1,a2⟩:=vA n1 n2 (s:=(G,T)) Fg hv pm fx
 have hgl:(G.getD L []).length<=400:=by
  obtain ⟨k,hk1⟩: ∃k,N-L=k+1:=⟨N-L-1,by omega⟩
  rw [hk1] at hv
  exact CZ n2 (by omega) hv
 have e1:(0:Int)<=(L:Int)/\(L:Int)<(G.length:Int):=by omega
 have e2:(G.getD L []).length+1<=Bj:=by show _<=4294967296;omega
 have row:=a1.row
 dsimp only at row a1 a2 wH
 have TI:=row.rl
 have run:= λj=>r9 n1 n2 Fg a1 a2 j
 have OU:=zI a1
 simp only [List.drop_zero,List.take_succ_cons,List.take_zero,List.length_cons,List.length_nil,List.length_set,Nat.zero_add,e1,e2,and_self,true_and,and_true]
 have US:(G.set L (G.getD L []++ [some q])).getD L []=G.getD L []++ [some q]:=Xl G L (by omega) _
 generalize WD:((G.set L (G.getD L []++ [some q]),T):Av×Av)=s0 at OU run wH⊢
 have KK:G.set L (G.getD L []++ [some q])=s0.1:=by rw [<-WD]
 have WE:T=s0.2:=by rw [<-WD]
 refine Ai N (λv=>v.1) (λy v=>v=((y:Int),(known ((T.getD L []).take y)).map some,T,G.set L (G.getD L []++ [some q]),(N:Int),())) rfl rfl ?_
 rintro y v K hj hi rfl hK
 dsimp only
 refine Br.dec (λhl=>?_) λhl=>?_
 ·have hl:y<N:=by omega
  have hy:y<(T.getD L []).length:=by omega
  have OQ:=zA hy
  have Lr:=rI ((T.getD L []).take y)
  rw [List.length_take] at Lr
  have hye:(T.getD L []).getD y none=(T.getD L [])[y]:=wk hy
  simp only [Int.toNat_natCast]
  refine ⟨by omega,⟨by omega,by omega⟩,?_⟩
  rcases Option.eq_none_or_eq_some ((T.getD L []).getD y none) with ho|⟨t,ho⟩
  ·refine Br.dec (λhb=>by rw [ho] at hb;simp at hb) λ_=>?_
   rw [Ag (by omega)]
   refine hK hl _ rfl ?_
   rw [OQ,<-hye,ho]
   simp
  ·obtain ⟨t1,t2,t3,t4⟩:=row.rt _ _ ho
   have htl:=t1.1
   refine Br.dec (λ_=>?_) λhb=>by rw [ho,Option.getD_some] at hb;omega
   refine ⟨by omega,⟨by omega,by omega⟩,?_,?_⟩
   ·show _<=4294967296
    rw [List.length_map];omega
   ·rw [Ag (by omega)]
    refine hK hl _ rfl ?_
    rw [OQ,<-hye,ho]
    simp
 ·have:y=N:=by omega
  subst this
  have KE:(T.getD L []).take y=T.getD L []:=List.take_of_length_le (by omega)
  rw [KE]
  have VZ:((known (T.getD L [])).map λu=>Aa u q).length=(known (T.getD L [])).length:=List.length_map _
  have Lr:=rI (T.getD L [])
  refine Ai (known (T.getD L [])).length (λv=>v.1) (λj v=> ∃s:Av×Av,v=((j:Int),(known (T.getD L [])).map some,s.2,s.1,(y:Int),())/\s=cb y L (((known (T.getD L [])).map λu=>Aa u q).take j) s0) rfl ⟨s0,by rw [<-WE,KK];rfl,rfl⟩ ?_
  rintro j v K' sZ m6 ⟨s,rfl,hs⟩ PQ
  have hr:=run j
  rw [<-hs] at hr
  have g1:s.1.getD L []=G.getD L []++ [some q]:=by rw [hr.same,<-KK];exact US
  have g4:gB y L (s.1,s.2)<=gB y L s0:=hr.mu
  dsimp only
  refine Br.dec (λGk=>?_) λGk=>?_
  ·rw [List.length_map] at Gk
   have Gk:j<(known (T.getD L [])).length:=by omega
   obtain ⟨w,hw⟩:=dJ.1 (List.getElem_mem Gk)
   obtain ⟨t1,t2,t3,t4⟩:=row.rt _ _ hw
   have hqj:(((known (T.getD L [])).map λu=>Aa u q)[j]'(by rw [VZ];exact Gk))=Aa (known (T.getD L []))[j] q:=by rw [List.getElem_map]
   obtain ⟨b1,b2,b3⟩:=a2 (Aa (known (T.getD L []))[j] q) (by rw [<-hqj];exact List.getElem_mem _)
   simp only [Int.toNat_natCast]
   refine ⟨⟨by omega,by rw [List.length_map];omega⟩,some (known (T.getD L []))[j],by rw [List.getElem?_map,List.getElem?_eq_getElem Gk];rfl,some (Aa (known (T.getD L []))[j] q),if_pos ⟨Py t1,jS t1 pm⟩,_,
    if_pos ⟨⟨y,L,_,rfl,n1,n2,rfl,rfl,Fg,hr.part,b1,b2,by rw [g1,<-US];exact b3,by rw [g1,List.length_append,List.length_singleton];omega⟩,by show gB (y:Int).toNat (L:Int).toNat (s.1,s.2)<m;rw [Int.toNat_natCast,Int.toNat_natCast];omega⟩,?_⟩
   simp only [Int.toNat_natCast,Option.getD_some]
   rw [Ag (by omega)]
   refine PQ Gk _ rfl ⟨_,rfl,?_⟩
   rw [mU (by rw [VZ];exact Gk),<-hs,hqj]
  ·rw [List.length_map] at Gk
   have:j=(known (T.getD L [])).length:=by omega
   subst this
   rw [<-VZ,List.take_length] at hs
   exact back s (wH.trans hs.symm)
theorem MW {m:Nat} (zo:Bf Tryz.prog 157 (Yy m)):Bf Tryz.prog 146 (iG (m+1)):=
 Bf.gA (RK [pe+46]) (Fq xR (Ae Vr (Fq zo Al))) mixed Tryz.func146 (by kernel_rfl) (by kernel_rfl) λx h=>Abr x.1 x.2.1 x.2.2.1 x.2.2.2.1 x.2.2.2.2.1 h
theorem HB:Bf Tryz.prog 146 (iG 0)/\Bf Tryz.prog 157 (Yy 0):=
 ⟨Bf.gA Bg Al mixed Tryz.func146 (by kernel_rfl) (by kernel_rfl) λ_ h=>absurd h.2 (Nat.not_lt_zero _),
  Bf.gA Bg Al mixed Tryz.func157 (by kernel_rfl) (by kernel_rfl) λ_ h=>absurd h.2 (Nat.not_lt_zero _)⟩
theorem dS: ∀m,Bf Tryz.prog 146 (iG m)/\Bf Tryz.prog 157 (Yy m)
 |0=>HB
 |m+1=>⟨MW (dS m).2,MX (dS m).1 (dS m).2⟩
theorem AX:Bf Tryz.prog 146 uf:=Bf.TR (λx=>DU x.1.toNat x.2.2.2.1.toNat) λm=>(dS m).1
end Go.Proofs.YtfolipnappekaaaGreat

namespace Go.Proofs.YtfolipnappekaaaGreat
open Go.RowKit
noncomputable abbrev Wv:Spec:=Co (.pair tL .unit) tO false true (λx=>short x.1/\1<=List.length x.1) (λx=>some x.1)
noncomputable abbrev tu:MSpec:= {Fb:= [none],ins:= [(false, .Ee tI)],Dh:=false,Ef:= [none,none,none],outs:= [.Ee tI, .Ah tO pq false, .Ah tO pq false],fn:= λ_=>none,rp:=some 153}
noncomputable abbrev Mb:MSpec:=gA tu (λx=>1<=x.1/\x.1<=20) (λx=>((x.1,Re x.1.toNat,Mp x.1.toNat,()),()))
noncomputable abbrev pH:MSpec:= {Fb:= [none,none],ins:= [(false, .Ee tI),(false, .Ee RF)],Dh:=false,Ef:= [none,none,none],outs:= [.Ee tI, .Ah tO pq false, .Ah tO pq false],fn:= λ_=>none,rp:=some 153}
noncomputable abbrev Xs:MSpec:=gA pH (λx=>(1<=x.1/\x.1<=20)/\List.length x.2.1<=4294967296/\ ∀o∈(x.2.1:List PO),∃g,o=some g/\Pm x.1.toNat g)
 (λx=>((x.1,(Jv x.1.toNat x.2.1).2,(Jv x.1.toNat x.2.1).1,()),()))
noncomputable abbrev pI:MSpec:= {Fb:= [none,none],ins:= [(false, .Ee tI),(false, .Ee dT)],Dh:=false,Ef:= [none,none,none],outs:= [.Ee tI, .Ah tO pq false, .Ah tO pq false],fn:= λ_=>none,rp:=some 153}
noncomputable abbrev Ma:MSpec:=gA pI (λx=>(1<=x.1/\x.1<=20)/\List.length x.2.1<=4294967296/\ ∀g∈(x.2.1:List (List Int)),Pm x.1.toNat g)
 (λx=>((x.1,(ji x.1 x.2.1).2,(ji x.1 x.2.1).1,()),()))
noncomputable abbrev Qq:Spec:=Co (.pair (.ptr iY) (.pair tL .unit)) .bool false true (λx=> ∃N,Om N 0 x.1.1 x.1.2.2.1 x.1.2.1 0 x.2.1) (λx=>Dy x.1.2.1 x.1.1.toNat 0 x.2.1)
noncomputable def cy (n:Int) (g:List (List Int)) (p:List Int):Bool:=(Lk n g&&Da n p)&&Dy (ji n g).2 n.toNat 0 p
noncomputable abbrev Qs:Spec:=Co (.pair tI (.pair dT (.pair tL .unit))) .bool false true (λx=>Ev x.2.1/\short x.2.2.1) (λx=>cy x.1 x.2.1 x.2.2.1)
abbrev eW:Type:=Int×Int×List (List (Option (List Int)))×List (List (Option (List Int)))×PUnit
theorem uR (n:Int) (P:(Int×List (List (Option (List Int)))×List (List (Option (List Int)))×Unit)×Unit->Prop):(0=0/\0=([]:List Int).length/\0=0/\0=([]:List Int).length/\Bm (λ(v2:eW) (k3:eW->Prop)=>Br (decide (v2.1<n)) (((0:Int)<=n/\n<(↑Bj:Int)+(1:Int))/\n=n/\ ∃(y4:Option (List Int)),Ju.fn (n,())=some y4/\((0:Int)<=v2.1/\v2.1<(↑(List.replicate n.toNat (none:Option (List Int))).length:Int))/\0+v2.1.toNat<(List.replicate n.toNat (none:Option (List Int))).length/\0=0/\(List.replicate n.toNat (none:Option (List Int))).length=((List.replicate n.toNat (none:Option (List Int))).set (0+v2.1.toNat) y4).length/\(0=0/\v2.2.2.1.length=v2.2.2.1.length)/\(0=0/\1= [(List.replicate n.toNat (none:Option (List Int))).set (0+v2.1.toNat) y4].length)/\0< [(List.replicate n.toNat (none:Option (List Int))).set (0+v2.1.toNat) y4].length/\v2.2.2.1.length+ [(List.replicate n.toNat (none:Option (List Int))).set (0+v2.1.toNat) y4].length<=Bj/\0=0/\0=([]:List Int).length/\(0=0/\v2.2.2.2.1.length=v2.2.2.2.1.length)/\(0=0/\1=([[]]:List (List (Option (List Int)))).length)/\0<([[]]:List (List (Option (List Int)))).length/\v2.2.2.2.1.length+([[]]:List (List (Option (List Int)))).length<=Bj/\0=0/\(v2.2.2.1++ [(List.replicate n.toNat (none:Option (List Int))).set (0+v2.1.toNat) y4]).length=(v2.2.2.1++ [(List.replicate n.toNat (none:Option (List Int))).set (0+v2.1.toNat) y4]).length/\0=0/\(v2.2.2.2.1++ [[]]).length=(v2.2.2.2.1++ [[]]).length/\k3 (IntKind.i64.wrap (v2.1+(1:Int)),v2.2.1,v2.2.2.1++ [(List.replicate n.toNat (none:Option (List Int))).set (0+v2.1.toNat) y4],v2.2.2.2.1++ [[]],())) ((0=0/\v2.2.2.1.length=v2.2.2.1.length)/\(0=0/\v2.2.2.2.1.length=v2.2.2.2.1.length)/\P ((v2.2.1,v2.2.2.1,v2.2.2.2.1,()),()))) ((0:Int),n,[],[],PUnit.unit))=fnMW Pr (look [(115,Ju)]) Mb Tryz.f145 (n,()) P:=by kernel_rfl
abbrev dc:Type:=(Int×List (List (Option (List Int)))×List (List (Option (List Int)))×PUnit)×PUnit
abbrev dd:Type:=Int×List (List (Option (List Int)))×List (List (Option (List Int)))×Int×PUnit
theorem qD (n:Int) (gens:List (Option (List Int))) (P:(Int×List (List (Option (List Int)))×List (List (Option (List Int)))×Unit)×Unit->Prop):(∃(y3:dc),Mb.fn (n,())=some y3/\0=0/\y3.1.2.1.length=y3.1.2.1.length/\0=0/\y3.1.2.2.1.length=y3.1.2.2.1.length/\Bm (λ(v4:dd) (k5:dd->Prop)=>Br (decide (v4.1<(↑gens.length:Int))) (∃(y6:Option (List Int)),idx gens v4.1=some y6/\ ∃(y7:Option (List Int)),Wv.fn (y6.getD [],())=some y7/\0=0/\v4.2.1.length=v4.2.1.length/\0=0/\v4.2.2.1.length=v4.2.2.1.length/\ ∃(y8:dc),uf.fn (v4.2.2.2.1,v4.2.1,v4.2.2.1,(0:Int),y7,())=some y8/\0=0/\y8.1.2.1.length=y8.1.2.1.length/\0=0/\y8.1.2.2.1.length=y8.1.2.2.1.length/\k5 (IntKind.i64.wrap (v4.1+(1:Int)),y8.1.2.1,y8.1.2.2.1,y8.1.1,())) ((0=0/\v4.2.1.length=v4.2.1.length)/\(0=0/\v4.2.2.1.length=v4.2.2.1.length)/\P ((v4.2.2.2.1,v4.2.1,v4.2.2.1,()),()))) ((0:Int),y3.1.2.1,y3.1.2.2.1,y3.1.1,PUnit.unit))=fnMW Pr (look [(145,Mb),(116,Wv),(146,uf)]) Xs Tryz.f129 (n,gens,()) P:=by kernel_rfl
theorem BS (c:Int×List (List (Option (List Int)))×List (List (Option (List Int)))×Unit) (p:List Int) (P:Bool->Prop):(∃(y3:List Int×Int×PUnit),jY.fn (c,(0:Int),p,())=some y3/\P (y3.2.1==c.1))=fnW Pr (look [(144,jY)]) Qq Tryz.f128 (c,p,()) P:=by kernel_rfl
theorem BX (n:Int) (g:List (List Int)) (p:List Int) (P:Bool->Prop):(∃(y4:Bool),Hs.fn (n,g,())=some y4/\Br y4 (Br ((↑p.length:Int)==n) (∃(y5:Bool),Dt.fn (p,())=some y5/\Br y5 (∃(y6:(Int×List (List (Option (List Int)))×List (List (Option (List Int)))×PUnit)×PUnit),Ma.fn (n,g,())=some y6/\ ∃(y7:Bool),Qq.fn ((y6.1.1,List.take y6.1.2.1.length (List.drop 0 y6.1.2.1),List.take y6.1.2.2.1.length (List.drop 0 y6.1.2.2.1),()),p,())=some y7/\P y7) (P false)) (P false)) (P false))=fnW Cf (look [(123,Hs),(75,Dt),(129,Ma),(128,Qq)]) Qs Tryz.f96 (n,g,p,()) P:=by kernel_rfl
theorem yr (p:Int×ByteArray×List (List Int)×Unit) (s:List Int) (P:Bool->Prop):(∃(y3:Bool),Ie.fn ((p.1,p.2.1,p.2.2.1,()),s,())=some y3/\Br y3 (∃(y4:Bool),Qs.fn (p.1,p.2.2.1,s,())=some y4/\P y4) (P false))=fnW Cf (look [(95,Ie),(96,Qs)]) Ic Tryz.f73 (p,s,()) P:=by kernel_rfl
theorem yj (p:Int×ByteArray×List (List Int)×Unit) (s:List Int) (P:Bool->Prop):(∃(y3:Bool),Ie.fn ((p.1,p.2.1,p.2.2.1,()),s,())=some y3/\Br y3 (∃(y4:(Int×List (List (Option (List Int)))×List (List (Option (List Int)))×PUnit)×PUnit),Qw.fn (p.1,p.2.2.1,())=some y4/\ ∃(y5:Bool),iH.fn ((y4.1.1,List.take y4.1.2.1.length (List.drop 0 y4.1.2.1),List.take y4.1.2.2.1.length (List.drop 0 y4.1.2.2.1),()),(0:Int),s,())=some y5/\P y5) (P false))=fnW Cf (look [(97,Ie),(98,Qw),(99,iH)]) Ic Tryz.f74 (p,s,()) P:=by kernel_rfl
theorem ei:Sound Tryz.prog 115 Ju:=Sound.YE oD λ_ h=>EF h
theorem lF:Sound Tryz.prog 116 Wv:=Sound.YE Ph λx h=>⟨h.1,λe=>by
 have h2:=h.2
 replace e:x.1= []:=e
 rw [e] at h2
 simp at h2⟩
theorem tP (n:Int) (h:1<=n/\n<=20):fnMW Pr (look [(115,Ju)]) Mb Tryz.f145 (n,()) (λ(z:(Int×List (List (Option (List Int)))×List (List (Option (List Int)))×Unit)×Unit)=>z=((n,Re n.toNat,Mp n.toNat,()),())):=by
 obtain ⟨h1,h2⟩:=h
 obtain ⟨N,rfl⟩: ∃N:Nat,n=N:=⟨n.toNat,by omega⟩
 rw [Int.toNat_natCast]
 refine Eq.mp (uR (N:Int) _) ?_
 have hm:((0:Int)<=(N:Int)/\(N:Int)<(Bj:Int)+1):=⟨by omega,by show (N:Int)<(4294967296:Int)+1;omega⟩
 simp only [hm,and_self,eq_self,true_and,and_true,Int.toNat_natCast,Nat.zero_add,List.length_nil,List.length_set,List.length_replicate,List.length_cons,Nat.lt_add_one]
 refine Ai N (λv=>v.1) (λj v=>v=((j:Int),(N:Int),(List.range j).map (Vt N),List.replicate j [],())) rfl rfl ?_
 rintro j v K hj hi rfl hK
 dsimp only
 refine Br.dec (λhl=>?_) λhl=>?_
 ·simp only [Int.toNat_natCast,List.length_map,List.length_range,List.length_replicate]
  refine ⟨_,if_pos ⟨by show (1:Int)<=N;omega,by show (N:Int)<=20;omega⟩,⟨by omega,by omega⟩,by omega,?_,?_,?_⟩
  ·show _<=4294967296
   omega
  ·show _<=4294967296
   omega
  ·rw [Ag (by omega)]
   refine hK (by omega) _ rfl ?_
   rw [List.range_succ,List.map_append,List.replicate_succ']
   rfl
 ·have:j=N:=by omega
  subst this
  rfl
theorem kd:Bf Tryz.prog 145 Mb:=
 Bf.gA gq (Ae ei Al) mixed Tryz.func145 (by kernel_rfl) (by kernel_rfl) λx h=>tP x.1 h
theorem pS (n:Int) (gens:List (Option (List Int))) (h:(1<=n/\n<=20)/\List.length gens<=4294967296/\ ∀o∈(gens:List PO),∃g,o=some g/\Pm n.toNat g):
  fnMW Pr (look [(145,Mb),(116,Wv),(146,uf)]) Xs Tryz.f129 (n,gens,()) (λ(z:(Int×List (List (Option (List Int)))×List (List (Option (List Int)))×Unit)×Unit)=>z=((n,(Jv n.toNat gens).2,(Jv n.toNat gens).1,()),())):=by
 obtain ⟨⟨h1,h2⟩,h3,hg⟩:=h
 obtain ⟨N,rfl⟩: ∃N:Nat,n=N:=⟨n.toNat,by omega⟩
 rw [Int.toNat_natCast] at hg⊢
 have h1:1<=N:=by omega
 have h2:N<=20:=by omega
 refine Eq.mp (qD (N:Int) gens _) ⟨_,if_pos ⟨by show (1:Int)<=N;omega,by show (N:Int)<=20;omega⟩,rfl,rfl,rfl,rfl,?_⟩
 simp only [Int.toNat_natCast,true_and,and_true]
 refine Ai gens.length (λv=>v.1) (λi v=>v=((i:Int),(Jv N (gens.take i)).2,(Jv N (gens.take i)).1,(N:Int),())) rfl rfl ?_
 rintro i v K' m6 Afl rfl PQ
 dsimp only
 refine Br.dec (λGk=>?_) λGk=>?_
 ·have Gk:i<gens.length:=by omega
  obtain ⟨g,j9,Mt⟩:=hg gens[i] (List.getElem_mem Gk)
  have hgl:=Mt.1
  have hv:=qQ h1 h2 (gens:=gens.take i) λo ho=>hg o (List.mem_of_mem_take ho)
  refine ⟨some g,by rw [Ap Gk,j9],some g,if_pos ⟨by show g.length<=4294967296;omega,by show 1<=g.length;omega⟩,_,if_pos ⟨N,0,g,rfl,h1,h2,rfl,rfl,Nat.zero_le _,hv,Mt,λi hi=>absurd hi (Nat.not_lt_zero _)⟩,?_⟩
  rw [Ag (by omega)]
  refine PQ Gk _ rfl ?_
  rw [sA Gk,j9]
  rfl
 ·have:i=gens.length:=by omega
  subst this
  rw [List.take_length]
theorem iK:Bf Tryz.prog 129 Xs:=
 Bf.gA gq (Fq kd (Ae lF (Fq AX Al))) mixed Tryz.func129 (by kernel_rfl) (by kernel_rfl) λx h=>pS x.1 x.2.1 h
theorem kc:Bf Tryz.prog 129 Ma:=by
 have h:=iK
 refine ⟨h.enter,λw S π us x r o g vs h1 hg h2 h3 hS h4 h5=>?_⟩
 obtain ⟨n,gens,⟨⟩⟩:=x
 match us,h2 with
 |u1::u2::us,h2=>
  obtain ⟨h6,⟨h7,h8⟩,h9⟩:=h2
  obtain ⟨os,j8,bx⟩:=Bb.UA (e:=tI) h8
  have bx:os.map (·.getD [])=(gens:List (List Int)):=bx
  have Xm:(1<=n/\n<=20)/\List.length gens<=4294967296/\ ∀g∈(gens:List (List Int)),Pm n.toNat g:=Classical.byContradiction λhn=>by
   have:Ma.fn (n,gens,())=none:=if_neg hn
   rw [this] at h5;cases h5
  have VT:os=gens.map some:=by
   rw [<-bx,List.map_map]
   refine (List.map_id os).symm.trans (List.map_congr_left λx hx=>?_)
   cases x with
   |some y=>rfl
   |none=>
    have:=Xm.2.2 [] (by rw [<-bx];exact List.mem_map.2 ⟨none,hx,rfl⟩)
    have h1:=this.n1
    have h2:=this.1
    simp at h2
    omega
  have hv:Ma.fn (n,gens,())=some ((n,(ji n gens).2,(ji n gens).1,()),()):=if_pos Xm
  rw [hv] at h5
  have h5:=Option.some.inj h5
  refine h.calls w S π (u1::u2::us) (n,os,()) r o g vs h1 hg ⟨h6,⟨h7,j8⟩,h9⟩ h3 hS h4 ?_
  refine (if_pos ⟨Xm.1,by rw [VT,List.length_map];exact Xm.2.1,λy hy=>?pp⟩).trans (congrArg some ?qq)
  case pp=>
   replace hy:y∈os:=hy
   rw [VT] at hy
   obtain ⟨g,hg,rfl⟩:=List.mem_map.1 hy
   exact ⟨g,rfl,Xm.2.2 g hg⟩
  case qq=>subst VT;exact h5
theorem zS (c:Int×List (List (Option (List Int)))×List (List (Option (List Int)))×Unit) (p:List Int) (h: ∃N,Om N 0 c.1 c.2.2.1 c.2.1 0 p):
  fnW Pr (look [(144,jY)]) Qq Tryz.f128 (c,p,()) (λ(z:Bool)=>z=Dy c.2.1 c.1.toNat 0 p):=by
 obtain ⟨n,T,G,⟨⟩⟩:=c
 obtain ⟨N,h⟩:=h
 have h':=h
 obtain ⟨n1,n2,en,el,hle,v,pm,fx⟩:=h
 dsimp only at en
 subst en
 refine Eq.mp (BS ((N:Int),T,G,()) p _) ⟨_,if_pos ⟨N,0,h'⟩,?_⟩
 have hs:=om (T:=T) N 0 p
 rw [Nat.zero_add] at hs
 show ((Is T ((N:Int)-0).toNat (0:Int).toNat p).2.1==(N:Int))=Dy T (N:Int).toNat 0 p
 rw [Int.sub_zero,Int.toNat_natCast]
 exact Bool.eq_iff_iff.2 (beq_iff_eq.trans hs)
theorem ow:Sound Tryz.prog 128 Qq:=
 Sound.Co gq (Ae BG Al) mixed Tryz.func128 (by kernel_rfl) (by kernel_rfl) λx h=>zS x.1 x.2.1 h
theorem zX (n:Int) (g:List (List Int)) (p:List Int) (h:Ev g/\short p):fnW Cf (look [(123,Hs),(75,Dt),(129,Ma),(128,Qq)]) Qs Tryz.f96 (n,g,p,()) (λ(z:Bool)=>z=cy n g p):=by
 obtain ⟨hg,hp⟩:=h
 refine Eq.mp (BX n g p _) ⟨_,if_pos hg,?_⟩
 unfold cy
 show Br (Lk n g) _ _
 refine Br.of (λh1=>?_) λh1=>by rw [h1];rfl
 obtain ⟨⟨n1,n2⟩,h8,Gw⟩:=Eb.1 h1
 refine Br.of (λh2=>?_) λh2=>?_
 ·have h2:(p.length:Int)=n:=eq_of_beq h2
  refine ⟨_,if_pos hp,?_⟩
  show Br (Ft p) _ _
  refine Br.of (λh3=>?_) λh3=>?_
  ·have SR:Da n p=true:=Eb.2 ⟨h2,h3⟩
   have KH: ∀x,Da n x=true->Pm n.toNat x:= λx hx=>by
    obtain ⟨a,b⟩:=Eb.1 hx
    exact ⟨by omega,aq b⟩
   have ia: ∀x∈g,Pm n.toNat x:= λx hx=>KH x (Gw x hx)
   have hV:=qQ (n:=n.toNat) (by omega) (by omega) (cE ia)
   refine ⟨_,if_pos ⟨⟨n1,n2⟩,hg.1,ia⟩,_,if_pos ⟨n.toNat,?vv⟩,?_⟩
   case vv=>
    simp only [Bi]
    exact ⟨by omega,by omega,(Int.toNat_of_nonneg (by omega)).symm,rfl,Nat.zero_le _,hV,KH p SR,λi hi=>absurd hi (Nat.not_lt_zero _)⟩
   simp only [Bi]
   rw [h1,SR]
   rfl
  ·have:Da n p=false:=by
    rw [Bool.eq_false_iff]
    intro hc
    rw [(Eb.1 hc).2] at h3
    cases h3
   rw [this,Bool.and_false,Bool.false_and]
 ·have:Da n p=false:=by
   rw [Bool.eq_false_iff]
   intro hc
   rw [(Eb.1 hc).1] at h2
   simp at h2
  rw [this,Bool.and_false,Bool.false_and]
theorem oF:Sound Tryz.prog 96 Qs:=
 Sound.Co Bg (Ae Zg (Ae Mc (Fq kc (Ae ow Al)))) mixed Tryz.func96 (by kernel_rfl) (by kernel_rfl) λx h=>zX x.1 x.2.1 x.2.2.1 h
theorem EL {p:PP} (hv:Bv p=true) {s:List Int} (hs:Pm p.1.toNat s):Dy (ji p.1 p.2.2.1).2 p.1.toNat 0 s=Dy (Zv p.1 p.2.2.1).2 p.1.toNat 0 s:=by
 have hV:=valid hv
 have hn:=hV.n
 have hg:=cE (bQ hV).2.2
 exact Bool.eq_iff_iff.2 ((wq (by omega) (by omega) hg hs).trans (nb (by omega) (by omega) hg hs).symm)
theorem wg {n:Int} {s:List Int} (h:Da n s=true):Pm n.toNat s:=by
 obtain ⟨a,b⟩:=Eb.1 h
 exact ⟨by omega,aq b⟩
theorem xA (p:PP) (s:List Int) (h:Cl p/\short s):fnW Cf (look [(95,Ie),(96,Qs)]) Ic Tryz.f73 (p,s,()) (λ(z:Bool)=>z=Ka p s):=by
 refine Eq.mp (yr p s _) ⟨_,if_pos h,?_⟩
 show Br (Bv p&&Da p.1 s) _ _
 unfold Ka
 refine Br.of (λhb=>?_) λhb=>by rw [hb];rfl
 obtain ⟨hv,hg⟩:=Bool.and_eq_true_iff.1 hb
 have hV:=valid hv
 have hn:=hV.n
 have Aaf:Lk p.1 p.2.2.1=true:=by
  refine Eb.2 ⟨⟨by omega,by omega⟩,by have:=hV.sS;omega,λx hx=>Eb.2 ⟨by have:=hV.len x hx;omega,hV.perm x hx⟩⟩
 refine ⟨_,if_pos ⟨h.1.2,h.2⟩,?_⟩
 show cy p.1 p.2.2.1 s=_
 unfold cy
 rw [Aaf,hg,hv,EL hv (wg hg)]
theorem lR:Sound Tryz.prog 73 Ic:=
 Sound.Co Bg (Ae iR (Ae oF Al)) mixed Tryz.func73 (by kernel_rfl) (by kernel_rfl) λx h=>xA x.1 x.2.1 h
theorem xr (p:PP) (s:List Int) (h:Cl p/\short s):fnW Cf (look [(97,Ie),(98,Qw),(99,iH)]) Ic Tryz.f74 (p,s,()) (λ(z:Bool)=>z=Ka p s):=by
 refine Eq.mp (yj p s _) ⟨_,if_pos h,?_⟩
 show Br (Bv p&&Da p.1 s) _ _
 unfold Ka
 refine Br.of (λhb=>?_) λhb=>by rw [hb];rfl
 obtain ⟨hv,hg⟩:=Bool.and_eq_true_iff.1 hb
 have hV:=valid hv
 have hn:=hV.n
 have wy:=PF hV
 refine ⟨_,if_pos (bQ hV),_,if_pos ⟨p.1.toNat,0,?vv⟩,?_⟩
 case vv=>
  simp only [Bi]
  exact ⟨by omega,by omega,(Int.toNat_of_nonneg (by omega)).symm,rfl,Nat.zero_le _,by rw [Nat.sub_zero];exact wy,wg hg,λi hi=>absurd hi (Nat.not_lt_zero _)⟩
 simp only [Bi]
 rw [hb,Bool.true_and,Int.sub_zero]
 rfl
theorem lK:Sound Tryz.prog 74 Ic:=
 Sound.Co Bg (Ae iN (Fq oH (Ae sm Al))) mixed Tryz.func74 (by kernel_rfl) (by kernel_rfl) λx h=>xr x.1 x.2.1 h
end Go.Proofs.YtfolipnappekaaaGreat

namespace Go.Proofs.YtfolipnappekaaaGreat
open Go.RowKit
noncomputable def Sr (p:PP) (ts:List TT) (s:List Int):Bool:=Ka p s&&Cx p ts
noncomputable abbrev Qp:Spec:=Co (.pair Dc (.pair xX (.pair tL .unit))) (.pair (.optr aK) (.pair .bool .unit)) true false (λx=>Cl x.1/\Fc x.2.1/\short x.2.2.1) (λx=>if Sr x.1 x.2.1 x.2.2.1=true then (some (Vg x.2.1),true,()) else (none,false,()))
noncomputable abbrev jV:Spec:=Co (.pair Dc (.pair xX (.pair tL .unit))) .bool false true (λx=>Cl x.1/\Fc x.2.1/\short x.2.2.1) (λx=>Sr x.1 x.2.1 x.2.2.1)
noncomputable def nF (p:PP) (ts:List TT) (s:List Int):Int:=if Sr p ts s=true then x5 ts s else-1
noncomputable abbrev Sv:Spec:=Co (.pair Dc (.pair xX (.pair tL .unit))) tI false true (λx=>Cl x.1/\Fc x.2.1/\short x.2.2.1) (λx=>nF x.1 x.2.1 x.2.2.1)
noncomputable abbrev jX:Spec:=Co (.pair Dc (.pair xX (.pair tL .unit))) .bool false true (λx=>Cl x.1/\Fc x.2.1/\short x.2.2.1) (λ_=>true)
theorem BR (p:Int×ByteArray×List (List Int)×Unit) (ts:List (List Int×List (List Int)×List Int×Unit)) (s:List Int) (P:(Option (List (List Int×List (List Int)×List Int×Unit)×List (ByteArray->Option Int)×Unit)×Bool×Unit)->Prop):(∃(y4:Bool),Ic.fn ((p.1,p.2.1,p.2.2.1,()),s,())=some y4/\Br (!y4) (P (none,false,())) (∃(y5:Bool),Gq.fn ((p.1,p.2.1,p.2.2.1,()),ts,())=some y5/\Br (!y5) (P (none,false,())) (∃(y6:Option (List (List Int×List (List Int)×List Int×PUnit)×List (ByteArray->Option Int)×PUnit)),Od.fn (ts,())=some y6/\P (y6,true,()))))=fnW Cf (look [(74,Ic),(63,Gq),(64,Od)]) Qp Tryz.f51 (p,ts,s,()) P:=by kernel_rfl
theorem YI (p:Int×ByteArray×List (List Int)×Unit) (ts:List (List Int×List (List Int)×List Int×Unit)) (s:List Int) (P:Bool->Prop):(∃(y4:Bool),Gq.fn ((p.1,p.2.1,p.2.2.1,()),ts,())=some y4/\Br y4 (∃(y5:Bool),Ic.fn ((p.1,p.2.1,p.2.2.1,()),s,())=some y5/\P y5) (P false))=fnW Cf (look [(72,Gq),(73,Ic)]) jV Tryz.f47 (p,ts,s,()) P:=by kernel_rfl
theorem BW (p:Int×ByteArray×List (List Int)×Unit) (ts:List (List Int×List (List Int)×List Int×Unit)) (s:List Int) (P:Int->Prop):(∃(y4:Option (List (List Int×List (List Int)×List Int×PUnit)×List (ByteArray->Option Int)×PUnit)×Bool×PUnit),Qp.fn ((p.1,p.2.1,p.2.2.1,()),ts,s,())=some y4/\Br (!y4.2.1) (P (-1:Int)) (∃(y5:Int),dP.fn (y4.1,s,())=some y5/\P y5))=fnW Cf (look [(51,Qp),(52,dP)]) Sv Tryz.f19 (p,ts,s,()) P:=by kernel_rfl
theorem CC (p:Int×ByteArray×List (List Int)×Unit) (ts:List (List Int×List (List Int)×List Int×Unit)) (s:List Int) (P:Int->Prop):(∃(y4:Bool),jV.fn ((p.1,p.2.1,p.2.2.1,()),ts,s,())=some y4/\Br (!y4) (P (-1:Int)) (∃(y5:Int),dO.fn (ts,s,())=some y5/\P y5))=fnW Cf (look [(47,jV),(48,dO)]) Sv Tryz.f15 (p,ts,s,()) P:=by kernel_rfl
abbrev gm:Type:=List (List Int×List (List Int)×List Int×PUnit)
abbrev gp:Type:=Int×ByteArray×List (List Int)×PUnit
theorem HY (p:Int×ByteArray×List (List Int)×Unit) (ts:List (List Int×List (List Int)×List Int×Unit)) (s:List Int) (P:Bool->Prop):(Br (decide ((↑s.length:Int)>(1048576:Int))) (P true) (∃(y4:Int),sf.fn ((p.1,p.2.1,p.2.2.1,()),(1048576:Int),())=some y4/\Br (decide (y4<(0:Int))) (P true) (∃(y5:Int),jZ.fn (ts,y4,())=some y5/\Br (decide (y5<(0:Int))) (P true) (∃(y6:gp),l6.fn ((p.1,p.2.1,p.2.2.1,()),())=some y6/\ ∃(y7:gm),cW.fn (ts,())=some y7/\ ∃(y8:List Int),Vo.fn (s,())=some y8/\ ∃(y9:Int),Sv.fn (y6,y7,y8,())=some y9/\ ∃(Xw:gp),l6.fn ((p.1,p.2.1,p.2.2.1,()),())=some Xw/\ ∃(qP:gm),cW.fn (ts,())=some qP/\ ∃(vd:List Int),Vo.fn (s,())=some vd/\ ∃(OI:Int),Sv.fn ((Xw.1,Xw.2.1,Xw.2.2.1,()),qP,vd,())=some OI/\Br (OI !=y9) (P false) (∃(aP:gp),l6.fn ((p.1,p.2.1,p.2.2.1,()),())=some aP/\ ∃(pt:Bool),sd.fn ((Xw.1,Xw.2.1,Xw.2.2.1,()),aP,())=some pt/\Br (!pt) (P false) (∃(vo:gm),cW.fn (ts,())=some vo/\ ∃(RR:Bool),jU.fn (qP,vo,())=some RR/\Br (!RR) (P false) (∃(IJ:List Int),Vo.fn (s,())=some IJ/\ ∃(y19:Bool),Ao.fn (vd,IJ,())=some y19/\Br (!y19) (P false) (P true))))))))=fnW Cf (look [(13,sf),(14,jZ),(15,Sv),(19,Sv),(16,l6),(17,cW),(18,Vo),(20,sd),(21,jU),(22,Ao)]) jX Tryz.f3 (p,ts,s,()) P:=by kernel_rfl
theorem rm {p:PP} {ts:List TT} {s:List Int} (h:Sr p ts s=true):Zn ts/\fm ts s/\Ka p s=true:=by
 unfold Sr at h
 obtain ⟨h1,h2⟩:=Bool.and_eq_true_iff.1 h
 exact ⟨(de h2).2.1,AJ h1 h2,h1⟩
theorem zR (p:PP) (ts:List TT) (s:List Int) (h:Cl p/\Fc ts/\short s):fnW Cf (look [(74,Ic),(63,Gq),(64,Od)]) Qp Tryz.f51 (p,ts,s,()) (λ(z:Option BB×Bool×Unit)=>z=if Sr p ts s=true then (some (Vg ts),true,()) else (none,false,())):=by
 obtain ⟨h0,h1,h2⟩:=h
 refine Eq.mp (BR p ts s _) ⟨_,if_pos ⟨h0,h2⟩,?_⟩
 show Br (!Ka p s) _ _
 have hh:Sr p ts s=(Ka p s&&Cx p ts):=rfl
 rw [hh]
 refine Br.of (λhb=>?_) λhb=>?_
 ·have hb:Ka p s=false:=by simpa using hb
  rw [hb];rfl
 ·have hb:Ka p s=true:=by simpa using hb
  refine ⟨_,if_pos ⟨h0,h1⟩,?_⟩
  show Br (!Cx p ts) _ _
  refine Br.of (λhc=>?_) λhc=>?_
  ·have hc:Cx p ts=false:=by simpa using hc
   rw [hb,hc];rfl
  ·have hc:Cx p ts=true:=by simpa using hc
   refine ⟨_,if_pos (de hc).2.1,?_⟩
   rw [hb,hc];rfl
theorem ov:Sound Tryz.prog 51 Qp:=
 Sound.Co Bg (Ae lK (Ae gg (Ae lN Al))) mixed Tryz.func51 (by kernel_rfl) (by kernel_rfl) λx h=>zR x.1 x.2.1 x.2.2.1 h
theorem XJ (p:PP) (ts:List TT) (s:List Int) (h:Cl p/\Fc ts/\short s):fnW Cf (look [(72,Gq),(73,Ic)]) jV Tryz.f47 (p,ts,s,()) (λ(z:Bool)=>z=Sr p ts s):=by
 obtain ⟨h0,h1,h2⟩:=h
 refine Eq.mp (YI p ts s _) ⟨_,if_pos ⟨h0,h1⟩,?_⟩
 show Br (Cx p ts) _ _
 have hh:Sr p ts s=(Ka p s&&Cx p ts):=rfl
 rw [hh]
 refine Br.of (λhb=>⟨_,if_pos ⟨h0,h2⟩,?_⟩) λhb=>?_
 ·rw [hb,Bool.and_true]
 ·rw [hb,Bool.and_false]
theorem BD:Sound Tryz.prog 47 jV:=
 Sound.Co Bg (Ae gi (Ae lR Al)) mixed Tryz.func47 (by kernel_rfl) (by kernel_rfl) λx h=>XJ x.1 x.2.1 x.2.2.1 h
theorem zW (p:PP) (ts:List TT) (s:List Int) (h:Cl p/\Fc ts/\short s):fnW Cf (look [(51,Qp),(52,dP)]) Sv Tryz.f19 (p,ts,s,()) (λ(z:Int)=>z=nF p ts s):=by
 refine Eq.mp (BW p ts s _) ?_
 unfold nF
 by_cases hh:Sr p ts s=true
 ·obtain ⟨a,b,_⟩:=rm hh
  rw [if_pos hh]
  exact ⟨_,(if_pos h).trans (congrArg some (if_pos hh)),λhb=>by simp at hb,λ_=>⟨_,if_pos ⟨ts,a,rfl,b⟩,rfl⟩⟩
 ·rw [if_neg hh]
  exact ⟨_,(if_pos h).trans (congrArg some (if_neg hh)),λ_=>rfl,λhb=>by simp at hb⟩
theorem oE:Sound Tryz.prog 19 Sv:=
 Sound.Co Bg (Ae ov (Ae xP Al)) mixed Tryz.func19 (by kernel_rfl) (by kernel_rfl) λx h=>zW x.1 x.2.1 x.2.2.1 h
theorem AD (p:PP) (ts:List TT) (s:List Int) (h:Cl p/\Fc ts/\short s):fnW Cf (look [(47,jV),(48,dO)]) Sv Tryz.f15 (p,ts,s,()) (λ(z:Int)=>z=nF p ts s):=by
 refine Eq.mp (CC p ts s _) ⟨_,if_pos h,?_⟩
 show Br (!Sr p ts s) _ _
 unfold nF
 refine Br.of (λhb=>?_) λhb=>?_
 ·rw [if_neg (Dj hb)]
 ·have hh:Sr p ts s=true:=by simpa using hb
  obtain ⟨a,b,_⟩:=rm hh
  rw [if_pos hh]
  exact ⟨_,if_pos ⟨a,b⟩,rfl⟩
theorem oM:Sound Tryz.prog 15 Sv:=
 Sound.Co Bg (Ae BD (Ae xO Al)) mixed Tryz.func15 (by kernel_rfl) (by kernel_rfl) λx h=>AD x.1 x.2.1 x.2.2.1 h
theorem GB (p:PP) (ts:List TT) (s:List Int) (h:Cl p/\Fc ts/\short s):fnW Cf (look [(13,sf),(14,jZ),(15,Sv),(19,Sv),(16,l6),(17,cW),(18,Vo),(20,sd),(21,jU),(22,Ao)]) jX Tryz.f3 (p,ts,s,()) (λ(z:Bool)=>z=true):=by
 obtain ⟨h0,h1,h2⟩:=h
 refine Eq.mp (HY p ts s _) (Br.dec (λ_=>rfl) λ_=>?_)
 refine ⟨_,if_pos ⟨h0,xE⟩,Br.dec (λ_=>rfl) λhn=>⟨_,if_pos ⟨h1,(NA xE hn).2⟩,Br.dec (λ_=>rfl) λ_=>?_⟩⟩
 refine ⟨_,if_pos h0,_,if_pos h1,_,if_pos h2,_,if_pos ⟨h0,h1,h2⟩,_,if_pos h0,_,if_pos h1,_,if_pos h2,_,if_pos ⟨h0,h1,h2⟩,⟨λhe=>KW he,λ_=>?_⟩⟩
 refine ⟨_,if_pos h0,_,if_pos h0,⟨λhe=>nN (zC p) he,λ_=>?_⟩⟩
 refine ⟨_,if_pos h1,_,if_pos h1,⟨λhe=>nN (decide_eq_true rfl) he,λ_=>?_⟩⟩
 exact ⟨_,if_pos h2,_,if_pos h2,⟨λhe=>nN (jE s) he,λ_=>rfl⟩⟩
theorem qk:Sound Tryz.prog 3 jX:=
 Sound.Co Bg (Ae HH (Ae BH (Ae oM (Ae oE (Ae HI (Ae BI (Ae kl (Ae HE (Ae BC (Ae ke Al)))))))))) mixed Tryz.func3 (by kernel_rfl) (by kernel_rfl) λx h=>GB x.1 x.2.1 x.2.2.1 h
end Go.Proofs.YtfolipnappekaaaGreat
