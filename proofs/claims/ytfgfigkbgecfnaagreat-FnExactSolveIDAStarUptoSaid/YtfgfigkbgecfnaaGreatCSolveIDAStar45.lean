/-
  Part 46 of the proof that the statement FnExactSolveIDAStar holds.
-/
import Derived.Test.YtfgfigkbgecfnaaGreatCSolveIDAStar44
namespace Go.Proofs.YtfgfigkbgecfnaaGreat
open Go.RowKit
noncomputable abbrev qZ:Spec:=Fb (.pair (.ptr pN) (.pair tI (.pair tL .unit))) (.pair tL (.pair tI .unit)) true false (λx=> ∃N L,Wq N L x.1.1 x.1.2.2.1 x.1.2.1 x.2.1 x.2.2.1) (λx=>On x.1.2.1 (x.1.1-x.2.1).toNat x.2.1.toNat x.2.2.1)
noncomputable abbrev Amz:MSpec:= {ptr:=some (127,3),Ja:= [none,none],ins:= [(false, .Em tI),(false, .Bp tO xF false),(false, .Bp tO xF false),(false, .Em tI),(false, .Em tL)],Hb:=true,Fu:= [none,none],outs:= [.Em tI, .Bp tO xF false, .Bp tO xF false, .Em tL, .Em tI],fn:= λ_=>none}
noncomputable abbrev lu:MSpec:=iy Amz (λx=> ∃N L,Wq N L x.1 x.2.2.1 x.2.1 x.2.2.2.1 x.2.2.2.2.1)
 (λx=>((x.1,x.2.1,x.2.2.1,(On x.2.1 (x.1-x.2.2.2.1).toNat x.2.2.2.1.toNat x.2.2.2.2.1).1,(On x.2.1 (x.1-x.2.2.2.1).toNat x.2.2.2.1.toNat x.2.2.2.2.1).2.1,()),()))
structure Aj5 (N L:Nat) (n:Int) (G T:Cp) (l:Int) (p:List Int):Prop where
 n1:1<=N
 n2:N<=20
 en:n=N
 el:l=L
 lt:L<N
 part:Part N L (G,T)
 pm:Pm N p
 fx:Fx L p
 gn:Gn N (G.getD L []) p
 gl:(G.getD L []).length<=401
noncomputable abbrev Adl:MSpec:= {ptr:=some (127,3),Ja:= [none,none],ins:= [(false, .Em tI),(false, .Bp tO xF false),(false, .Bp tO xF false),(false, .Em tI),(false, .Em tO)],Hb:=false,Fu:= [],outs:= [.Em tI, .Bp tO xF false, .Bp tO xF false],fn:= λ_=>none}
noncomputable abbrev ph (m:Nat):MSpec:=iy Adl (λx=>(∃N L q,x.2.2.2.2.1=some q/\Wq N L x.1 x.2.2.1 x.2.1 x.2.2.2.1 q)/\VW x.1.toNat x.2.2.2.1.toNat<m)
 (λx=>((x.1,(lD x.1.toNat 1000 x.2.2.2.1.toNat (x.2.2.2.2.1.getD []) (x.2.2.1,x.2.1)).2,(lD x.1.toNat 1000 x.2.2.2.1.toNat (x.2.2.2.2.1.getD []) (x.2.2.1,x.2.1)).1,()),()))
noncomputable abbrev fq (m:Nat):MSpec:=iy Adl (λx=>(∃N L q,x.2.2.2.2.1=some q/\Aj5 N L x.1 x.2.2.1 x.2.1 x.2.2.2.1 q)/\nP x.1.toNat x.2.2.2.1.toNat (x.2.2.1,x.2.1)<m)
 (λx=>((x.1,(ic x.1.toNat 1000 x.2.2.2.1.toNat (x.2.2.2.2.1.getD []) (x.2.2.1,x.2.1)).2,(ic x.1.toNat 1000 x.2.2.2.1.toNat (x.2.2.2.2.1.getD []) (x.2.2.1,x.2.1)).1,()),()))
noncomputable abbrev EJ:MSpec:=iy Adl (λx=> ∃N L q,x.2.2.2.2.1=some q/\Wq N L x.1 x.2.2.1 x.2.1 x.2.2.2.1 q)
 (λx=>((x.1,(lD x.1.toNat 1000 x.2.2.2.1.toNat (x.2.2.2.2.1.getD []) (x.2.2.1,x.2.1)).2,(lD x.1.toNat 1000 x.2.2.2.1.toNat (x.2.2.2.2.1.getD []) (x.2.2.1,x.2.1)).1,()),()))
theorem z0 (p q:List Int) (P:List Int->Prop):(0=0/\0=([]:List Int).length/\Db (λ(v3:Int×List Int×PUnit) (k4:Int×List Int×PUnit->Prop)=>Br (decide (v3.1<(↑p.length:Int))) (∃(y5:Int),idx p v3.1=some y5/\ ∃(y6:Int),idx q y5=some y6/\0=0/\v3.2.1.length=v3.2.1.length/\v3.2.1.length+(List.take 1 (List.drop 0 [y6])).length<=Cr/\0=0/\(v3.2.1++List.take 1 (List.drop 0 [y6])).length=(v3.2.1++List.take 1 (List.drop 0 [y6])).length/\k4 (IntKind.i64.wrap (v3.1+(1:Int)),v3.2.1++List.take 1 (List.drop 0 [y6]),())) (P (List.take v3.2.1.length (List.drop 0 v3.2.1)))) ((0:Int),[],PUnit.unit))=fnW En (look []) Np Tryz.f114 (p,q,()) P:=by kernel_rfl
theorem Aog (c:Int×List (List (Option (List Int)))×List (List (Option (List Int)))×Unit) (l:Int) (p:List Int) (P:(List Int×Int×Unit)->Prop):(Db (λ(v4:List Int×Int×PUnit) (k5:List Int×Int×PUnit->Prop)=>Br (decide (v4.2.1<c.1)) (∃(y6:List (Option (List Int))),idx c.2.1 v4.2.1=some y6/\ ∃(y7:Int),idx v4.1 v4.2.1=some y7/\ ∃(y8:Option (List Int)),idx y6 y7=some y8/\Br ((↑(y8.getD []).length:Int)==(0:Int)) (P (v4.1,v4.2.1,())) (∃(y9:List Int),Fp.fn (y8.getD [],())=some y9/\ ∃(Il:List Int),My.fn (v4.1,y9,())=some Il/\k5 (Il,IntKind.i64.wrap (v4.2.1+(1:Int)),()))) (P (v4.1,c.1,()))) (p,l,PUnit.unit))=fnW Ya (look [(106,Fp),(114,My)]) qZ Tryz.f103 (c,l,p,()) P:=by kernel_rfl
abbrev MO:Type:=List Int×Int×List (List (Option (List Int)))×List (List (Option (List Int)))×Int×PUnit
theorem Aj1 (n:Int) (T G:List (List (Option (List Int)))) (l:Int) (p:List Int) (P:(Int×List (List (Option (List Int)))×List (List (Option (List Int)))×List Int×Int×Unit)×Unit->Prop):(0=0/\T.length=T.length/\0=0/\G.length=G.length/\Db (λ(v6:MO) (k7:MO->Prop)=>Br (decide (v6.2.1<v6.2.2.2.2.1)) (((0:Int)<=v6.2.1/\v6.2.1<(↑v6.2.2.1.length:Int))/\ ∃(y8:Int),idx v6.1 v6.2.1=some y8/\((0:Int)<=y8/\y8<(↑(v6.2.2.1.getD (0+v6.2.1.toNat) []).length:Int))/\Br ((↑(((v6.2.2.1.getD (0+v6.2.1.toNat) []).getD y8.toNat (none:Option (List Int))).getD []).length:Int)==(0:Int)) ((0=0/\v6.2.2.1.length=v6.2.2.1.length)/\(0=0/\v6.2.2.2.1.length=v6.2.2.2.1.length)/\P ((v6.2.2.2.2.1,v6.2.2.1,v6.2.2.2.1,v6.1,v6.2.1,()),())) (∃(y9:List Int),Fp.fn (((v6.2.2.1.getD (0+v6.2.1.toNat) []).getD y8.toNat (none:Option (List Int))).getD [],())=some y9/\ ∃(Il:List Int),My.fn (v6.1,y9,())=some Il/\0=0/\v6.2.2.1.length=v6.2.2.1.length/\0=0/\v6.2.2.2.1.length=v6.2.2.2.1.length/\k7 (Il,IntKind.i64.wrap (v6.2.1+(1:Int)),v6.2.2.1,v6.2.2.2.1,v6.2.2.2.2.1,()))) ((0=0/\v6.2.2.1.length=v6.2.2.1.length)/\(0=0/\v6.2.2.2.1.length=v6.2.2.2.1.length)/\P ((v6.2.2.2.2.1,v6.2.2.1,v6.2.2.2.1,v6.1,v6.2.2.2.2.1,()),()))) (p,l,T,G,n,PUnit.unit))=fnMW Ya (look [(106,Fp),(114,My)]) lu Tryz.f103 (n,T,G,l,p,()) P:=by kernel_rfl
abbrev FI:Type:=Int×List (Option (List Int))×List (List (Option (List Int)))×List (List (Option (List Int)))×Int×PUnit
abbrev Af2:Type:=(Int×List (List (Option (List Int)))×List (List (Option (List Int)))×List Int×Int×PUnit)×PUnit
abbrev Ln (y7:Af2) (l:Int) (p:Option (List Int)) (n:Int):Prop:=0=0/\(y7.1.2.2.1.getD (0+l.toNat) []).length=(y7.1.2.2.1.getD (0+l.toNat) []).length/\(y7.1.2.2.1.getD (0+l.toNat) []).length+(List.take 1 (List.drop 0 [p])).length<=Cr/\((0:Int)<=l/\l<(↑y7.1.2.2.1.length:Int))/\0=0/\(y7.1.2.2.1.getD (0+l.toNat) []++List.take 1 (List.drop 0 [p])).length=(y7.1.2.2.1.getD (0+l.toNat) []++List.take 1 (List.drop 0 [p])).length/\0+l.toNat=0+l.toNat/\ [(0,y7.1.2.2.1.length),(0,y7.1.2.2.1.length),(0,y7.1.2.1.length),(0,y7.1.2.2.1.length)]= [(0,y7.1.2.2.1.length),(0,y7.1.2.2.1.length),(0,y7.1.2.1.length),(0,y7.1.2.2.1.length)]/\(l,p,y7.1.2.2.2.1,y7.1.2.2.2.2.1,l,n,decide (l>=n),l,p,y7.1.2.2.2.1,y7.1.2.2.2.2.1,y7.1.2.2.2.2.1,y7.1.1,y7.1.2.2.2.2.1==y7.1.1,l,l,0+l.toNat,p,List.take 1 (List.drop 0 [p]),0+l.toNat,y7.1.2.1,y7.1.2.2.1.set (0+l.toNat) (y7.1.2.2.1.getD (0+l.toNat) []++List.take 1 (List.drop 0 [p])),y7.1.1,())=(l,p,y7.1.2.2.2.1,y7.1.2.2.2.2.1,l,n,decide (l>=n),l,p,y7.1.2.2.2.1,y7.1.2.2.2.2.1,y7.1.2.2.2.2.1,y7.1.1,y7.1.2.2.2.2.1==y7.1.1,l,l,0+l.toNat,p,List.take 1 (List.drop 0 [p]),0+l.toNat,y7.1.2.1,y7.1.2.2.1.set (0+l.toNat) (y7.1.2.2.1.getD (0+l.toNat) []++List.take 1 (List.drop 0 [p])),y7.1.1,PUnit.unit)
theorem Asg {m:Nat} (n:Int) (T G:List (List (Option (List Int)))) (l:Int) (p:Option (List Int)) (P:(Int×List (List (Option (List Int)))×List (List (Option (List Int)))×Unit)×Unit->Prop):(Br (decide (l>=n)) ((0=0/\T.length=T.length)/\(0=0/\G.length=G.length)/\P ((n,T,G,()),())) (0=0/\T.length=T.length/\0=0/\G.length=G.length/\ ∃(y7:Af2),lu.fn (n,T,G,l,p.getD [],())=some y7/\Br (y7.1.2.2.2.2.1==y7.1.1) ((0=0/\y7.1.2.1.length=y7.1.2.1.length)/\(0=0/\y7.1.2.2.1.length=y7.1.2.2.1.length)/\P ((y7.1.1,y7.1.2.1,y7.1.2.2.1,()),())) (((0:Int)<=l/\l<(↑y7.1.2.2.1.length:Int))/\0=0/\(y7.1.2.2.1.getD (0+l.toNat) []).length=(y7.1.2.2.1.getD (0+l.toNat) []).length/\(y7.1.2.2.1.getD (0+l.toNat) []).length+(List.take 1 (List.drop 0 [p])).length<=Cr/\((0:Int)<=l/\l<(↑y7.1.2.2.1.length:Int))/\0=0/\(y7.1.2.2.1.getD (0+l.toNat) []++List.take 1 (List.drop 0 [p])).length=(y7.1.2.2.1.getD (0+l.toNat) []++List.take 1 (List.drop 0 [p])).length/\0+l.toNat=0+l.toNat/\(0=0/\0=([]:List Int).length/\0=0/\y7.1.2.1.length=y7.1.2.1.length/\0=0/\y7.1.2.2.1.length=(y7.1.2.2.1.set (0+l.toNat) (y7.1.2.2.1.getD (0+l.toNat) []++List.take 1 (List.drop 0 [p]))).length/\Db (λ(v8:FI) (k9:FI->Prop)=>Br (decide (v8.1<v8.2.2.2.2.1)) (((0:Int)<=l/\l<(↑v8.2.2.1.length:Int))/\((0:Int)<=v8.1/\v8.1<(↑(v8.2.2.1.getD (0+l.toNat) []).length:Int))/\Br (decide ((↑(((v8.2.2.1.getD (0+l.toNat) []).getD v8.1.toNat (none:Option (List Int))).getD []).length:Int)>(0:Int))) (((0:Int)<=l/\l<(↑v8.2.2.1.length:Int))/\((0:Int)<=v8.1/\v8.1<(↑(v8.2.2.1.getD (0+l.toNat) []).length:Int))/\0=0/\v8.2.1.length=v8.2.1.length/\v8.2.1.length+(List.take 1 (List.drop 0 [(v8.2.2.1.getD (0+l.toNat) []).getD v8.1.toNat none])).length<=Cr/\0=0/\(v8.2.1++List.take 1 (List.drop 0 [(v8.2.2.1.getD (0+l.toNat) []).getD v8.1.toNat none])).length=(v8.2.1++List.take 1 (List.drop 0 [(v8.2.2.1.getD (0+l.toNat) []).getD v8.1.toNat none])).length/\0=0/\v8.2.2.1.length=v8.2.2.1.length/\0=0/\v8.2.2.2.1.length=v8.2.2.2.1.length/\k9 (IntKind.i64.wrap (v8.1+(1:Int)),v8.2.1++List.take 1 (List.drop 0 [(v8.2.2.1.getD (0+l.toNat) []).getD v8.1.toNat none]),v8.2.2.1,v8.2.2.2.1,v8.2.2.2.2.1,())) (0=0/\v8.2.1.length=v8.2.1.length/\0=0/\v8.2.2.1.length=v8.2.2.1.length/\0=0/\v8.2.2.2.1.length=v8.2.2.2.1.length/\k9 (IntKind.i64.wrap (v8.1+(1:Int)),v8.2.1,v8.2.2.1,v8.2.2.2.1,v8.2.2.2.2.1,()))) (0=0/\v8.2.1.length=v8.2.1.length/\0=0/\v8.2.2.1.length=v8.2.2.1.length/\0=0/\v8.2.2.2.1.length=v8.2.2.2.1.length/\Db (λ(v10:FI) (k11:FI->Prop)=>Br (decide (v10.1<(↑v10.2.1.length:Int))) (((0:Int)<=v10.1/\v10.1<(↑v10.2.1.length:Int))/\ ∃(eF:Option (List Int)),v10.2.1[0+v10.1.toNat]?=some eF/\ ∃(Me:Option (List Int)),Jx.fn (eF.getD [],p.getD [],())=some Me/\0=0/\v10.2.2.1.length=v10.2.2.1.length/\0=0/\v10.2.2.2.1.length=v10.2.2.2.1.length/\ ∃(Jj:(Int×List (List (Option (List Int)))×List (List (Option (List Int)))×PUnit)×PUnit),(fq m).fn (v10.2.2.2.2.1,v10.2.2.1,v10.2.2.2.1,l,Me,())=some Jj/\0=0/\v10.2.1.length=v10.2.1.length/\0=0/\Jj.1.2.1.length=Jj.1.2.1.length/\0=0/\Jj.1.2.2.1.length=Jj.1.2.2.1.length/\k11 (IntKind.i64.wrap (v10.1+(1:Int)),v10.2.1,Jj.1.2.1,Jj.1.2.2.1,Jj.1.1,())) ((0=0/\v10.2.2.1.length=v10.2.2.1.length)/\(0=0/\v10.2.2.2.1.length=v10.2.2.2.1.length)/\P ((v10.2.2.2.2.1,v10.2.2.1,v10.2.2.2.1,()),()))) ((0:Int),v8.2.1,v8.2.2.1,v8.2.2.2.1,v8.2.2.2.2.1,PUnit.unit))) ((0:Int),[],y7.1.2.1,y7.1.2.2.1.set (0+l.toNat) (y7.1.2.2.1.getD (0+l.toNat) []++List.take 1 (List.drop 0 [p])),y7.1.1,PUnit.unit))/\(((((0:Int)<=l/\l<(↑y7.1.2.2.1.length:Int))/\((Ln y7 l p n))/\(Ln y7 l p n))/\((0:Int)<=l/\l<(↑y7.1.2.2.1.length:Int))/\(Ln y7 l p n))/\((0:Int)<=l/\l<(↑y7.1.2.2.1.length:Int))/\(Ln y7 l p n))/\(((((0:Int)<=l/\l<(↑y7.1.2.2.1.length:Int))/\((Ln y7 l p n))/\(Ln y7 l p n))/\((0:Int)<=l/\l<(↑y7.1.2.2.1.length:Int))/\(Ln y7 l p n))/\(((0:Int)<=l/\l<(↑y7.1.2.2.1.length:Int))/\(((Ln y7 l p n))/\(Ln y7 l p n))/\(((Ln y7 l p n))/\((Ln y7 l p n))/\(Ln y7 l p n))/\((Ln y7 l p n))/\((Ln y7 l p n))/\(Ln y7 l p n))/\(((0:Int)<=l/\l<(↑y7.1.2.2.1.length:Int))/\(Ln y7 l p n))/\((0:Int)<=l/\l<(↑y7.1.2.2.1.length:Int))/\((Ln y7 l p n))/\((Ln y7 l p n))/\(Ln y7 l p n))/\(((0:Int)<=l/\l<(↑y7.1.2.2.1.length:Int))/\(Ln y7 l p n))/\(((0:Int)<=l/\l<(↑y7.1.2.2.1.length:Int))/\(Ln y7 l p n))/\((0:Int)<=l/\l<(↑y7.1.2.2.1.length:Int))/\((Ln y7 l p n))/\((Ln y7 l p n))/\(Ln y7 l p n))))=fnMW (Afb [kR+46]) (look [(103,lu),(114,Jx),(115,Pp.m (fq m))]) (ph (m+1)) Tryz.f105 (n,T,G,l,p,()) P:=by kernel_rfl
abbrev Af0:Type:=(Int×List (List (Option (List Int)))×List (List (Option (List Int)))×PUnit)×PUnit
abbrev Af3:Type:=Int×List (List (Option (List Int)))×List (List (Option (List Int)))×Int×PUnit
theorem Ash {m:Nat} (n:Int) (T G:List (List (Option (List Int)))) (l:Int) (p:Option (List Int)) (P:(Int×List (List (Option (List Int)))×List (List (Option (List Int)))×Unit)×Unit->Prop):(((0:Int)<=l/\l<(↑T.length:Int))/\ ∃(y7:Int),idx (p.getD []) l=some y7/\((0:Int)<=y7/\y7<(↑(T.getD (0+l.toNat) []).length:Int))/\Br (decide ((↑(((T.getD (0+l.toNat) []).getD y7.toNat (none:Option (List Int))).getD []).length:Int)>(0:Int))) (∃(y8:List Int),Fp.fn (((T.getD (0+l.toNat) []).getD y7.toNat (none:Option (List Int))).getD [],())=some y8/\ ∃(y9:Option (List Int)),Jx.fn (p.getD [],y8,())=some y9/\0=0/\T.length=T.length/\0=0/\G.length=G.length/\ ∃(Il:Af0),(ph m).fn (n,T,G,IntKind.i64.wrap (l+(1:Int)),y9,())=some Il/\(0=0/\Il.1.2.1.length=Il.1.2.1.length)/\(0=0/\Il.1.2.2.1.length=Il.1.2.2.1.length)/\P ((Il.1.1,Il.1.2.1,Il.1.2.2.1,()),())) (((0:Int)<=l/\l<(↑T.length:Int))/\ ∃(y8:Int),idx (p.getD []) l=some y8/\((0:Int)<=y8/\y8<(↑(T.getD (0+l.toNat) []).length:Int))/\0=0/\T.length=(T.set (0+l.toNat) ((T.getD (0+l.toNat) []).set y8.toNat p)).length/\0=0/\G.length=G.length/\Db (λ(v9:Af3) (k10:Af3->Prop)=>((0:Int)<=l/\l<(↑v9.2.2.1.length:Int))/\Br (decide (v9.1<(↑(v9.2.2.1.getD (0+l.toNat) []).length:Int))) (((0:Int)<=l/\l<(↑v9.2.2.1.length:Int))/\((0:Int)<=v9.1/\v9.1<(↑(v9.2.2.1.getD (0+l.toNat) []).length:Int))/\ ∃(gZ:Option (List Int)),Jx.fn (p.getD [],((v9.2.2.1.getD (0+l.toNat) []).getD v9.1.toNat (none:Option (List Int))).getD [],())=some gZ/\0=0/\v9.2.1.length=v9.2.1.length/\0=0/\v9.2.2.1.length=v9.2.2.1.length/\ ∃(eF:Af0),(fq m).fn (v9.2.2.2.1,v9.2.1,v9.2.2.1,l,gZ,())=some eF/\0=0/\eF.1.2.1.length=eF.1.2.1.length/\0=0/\eF.1.2.2.1.length=eF.1.2.2.1.length/\k10 (IntKind.i64.wrap (v9.1+(1:Int)),eF.1.2.1,eF.1.2.2.1,eF.1.1,())) ((0=0/\v9.2.1.length=v9.2.1.length)/\(0=0/\v9.2.2.1.length=v9.2.2.1.length)/\P ((v9.2.2.2.1,v9.2.1,v9.2.2.1,()),()))) ((0:Int),T.set (0+l.toNat) ((T.getD (0+l.toNat) []).set y8.toNat p),G,n,PUnit.unit)))=fnMW Ya (look [(106,Fp),(114,Jx),(105,Pp.m (ph m)),(115,Pp.m (fq m))]) (fq (m+1)) Tryz.f115 (n,T,G,l,p,()) P:=by kernel_rfl
theorem XC {p q:List Int} {j:Nat} (h:j<p.length):(Al p q).take (j+1)=(Al p q).take j++ [Kb q p[j]]:=by
 unfold Al
 rw [Bb (by rw [Dl];exact h),Tp]
theorem yo (p q:List Int) (h:List.length p<=20/\Mt (List.length q) p):fnW En (look []) Np Tryz.f114 (p,q,()) (λ(z:List Int)=>z=Al p q):=by
 obtain ⟨h1,h2⟩:=h
 refine Eq.mp (z0 p q _) ⟨rfl,rfl,?_⟩
 refine Bf p.length (λv=>v.1) (λj v=>v=((j:Int),(Al p q).take j,())) rfl rfl ?_
 rintro j v K hj hi rfl hK
 dsimp only
 have hlen:((Al p q).take j).length<=20:=by rw [Cq];unfold Al;rw [Dl];omega
 refine Br.dec (λhl=>?_) λhl=>?_
 ·have hl:j<p.length:=by omega
  have hr:=h2 p[j] (Ak hl)
  refine ⟨_,Bu hl,Kb q p[j],jH hr.1 hr.2,rfl,rfl,?_,rfl,rfl,?_⟩
  ·show ((Al p q).take j).length+1<=4294967296
   omega
  ·rw [Bg (by omega)]
   refine hK hl _ rfl ?_
   rw [XC hl]
   rfl
 ·have:j=p.length:=by omega
  subst this
  rw [Bz,<-Ps p q,Ap]
theorem dN:Sound Tryz.prog 114 Np:=
 Sound.Fb De Bh mixed Tryz.func114 (by kernel_rfl) (by kernel_rfl) λx h=>yo x.1 x.2.1 h
theorem cQ:Sound Tryz.prog 114 My:=Sound.loose dN
theorem cR:Sound Tryz.prog 114 Jx:=Sound.toO dN λx h=>⟨⟨h.1.2,h.2⟩,λe=>by
 have:=Ps x.1 x.2.1
 rw [e] at this
 have:=h.1.1
 simp only [Ex] at*
 omega⟩
theorem AM {N L i:Nat} {G T:Cp} {p:List Int} (n2:N<=20) (v3:lC N (N-L) L (G,T)) (v2:T.length=N) (h1:L<=i) (hl:i<N) (h4:Pm N p) (h5:Fx i p):
  ∃o,idx p (i:Int)=some (ap p i:Int)/\T[i]?=some (T.getD i [])/\ap p i<(T.getD i []).length/\(T.getD i [])[ap p i]?=some o/\(T.getD i []).getD (ap p i) none=o/\
   (o=none->(o.getD []).length=0/\ ∀k,On T (k+1) i p=(p,(i:Int),()))/\
   (∀t,o=some t->(t.length≠0/\t.length<=20/\Mt t.length t)/\(p.length<=20/\Mt (Bl t).length p)/\Pm N (Al p (Bl t))/\Fx (i+1) (Al p (Bl t))/\ ∀k,On T (k+1) i p=On T k (i+1) (Al p (Bl t))):=by
 have La:=uO (N-L) L v3 i h1 (by omega)
 have hT:i<T.length:=by omega
 have hlen:(T.getD i []).length=N:=La.rl
 obtain ⟨a1,a2⟩:=h4.bj hl
 have hg:(Kb p (i:Int)).toNat=ap p i:=rfl
 refine ⟨(T.getD i []).getD (ap p i) none,?_,?_,by omega,?_,rfl,λho=>?_,λt ho=>?_⟩
 ·rw [<-a1,Mr (by rw [h4.1];exact hl)];exact Bu (by rw [h4.1];exact hl)
 ·rw [Aj,Ac hT];rfl
 ·rw [Aj (l:=T.getD i []),Ac (by omega)];rfl
 ·refine ⟨by rw [ho];rfl,λk=>?_⟩
  simp only [On,hg,ho]
 ·obtain ⟨t1,t2,t3,t4⟩:=La.rt _ _ ho
  have hn1:=h4.n1
  refine ⟨⟨by rw [t1.1];omega,by rw [t1.1];exact n2,t1.2.row⟩,⟨by rw [h4.1];exact n2,by rw [oI,t1.1];exact h4.row⟩,h4.comp t1.inv,Fx.div h4 t1 h5 t2 hl t3,λk=>?_⟩
  simp only [On,hg,ho]
theorem Anm (c:Int×List (List (Option (List Int)))×List (List (Option (List Int)))×Unit) (l:Int) (p:List Int) (h: ∃N L,Wq N L c.1 c.2.2.1 c.2.1 l p):
  fnW Ya (look [(106,Fp),(114,My)]) qZ Tryz.f103 (c,l,p,()) (λ(z:List Int×Int×Unit)=>z=On c.2.1 (c.1-l).toNat l.toNat p):=by
 obtain ⟨n,T,G,⟨⟩⟩:=c
 obtain ⟨N,L,h⟩:=h
 obtain ⟨n1,n2,en,el,hle,v,pm,fx⟩:=h
 dsimp only at en el v⊢
 subst en el
 refine Eq.mp (Aog ((N:Int),T,G,()) (L:Int) p _) ?_
 obtain ⟨v1,v2,v3,v4⟩:=v
 dsimp only at v1 v2
 refine ⟨λv=> ∃i:Nat,L<=i/\i<=N/\v.2.1=i/\Pm N v.1/\Fx i v.1/\On T (N-i) i v.1=On T (N-L) L p,λv=>N-v.2.1.toNat,⟨L,Ao _,hle,rfl,pm,fx,rfl⟩,?_⟩
 rintro ⟨p',i',⟨⟩⟩ ⟨i,h1,h2,h3,h4,h5,h6⟩
 dsimp only at h3 h4 h5 h6⊢
 subst h3
 rw [show (((N:Int)-(L:Int)).toNat)=N-L by omega,show ((L:Int)).toNat=L by omega,<-h6]
 refine Br.dec (λhl=>?_) λhl=>?_
 ·have hl:i<N:=by omega
  obtain ⟨o,s1,s2,s3,s4,s5,s6,s7⟩:=AM n2 v3 v2 h1 hl h4 h5
  have hT:i<T.length:=by omega
  refine ⟨T.getD i [],by rw [Bu hT,<-s2,Ac hT],_,s1,o,by rw [Bu s3,<-s4,Ac s3],?_⟩
  rw [show N-i=(N-i-1)+1 by omega]
  cases o with
  |none=>
   rw [(s6 rfl).2]
   exact Br.of (λ_=>rfl) λhb=>by simp at hb
  |some t=>
   obtain ⟨⟨q1,q2⟩,q3,q4,q5,q6⟩:=s7 t rfl
   refine Br.of (λhb=>absurd (by simpa using hb) q1) λ_=>?_
   refine ⟨_,Ab q2,_,Ab q3,⟨i+1,by omega,by omega,Bg (by omega),q4,q5,?_⟩,?_⟩
   ·rw [q6,show N-(i+1)=N-i-1 by omega];rfl
   ·show N-(IntKind.i64.wrap ((i:Int)+1)).toNat<N-((i:Int)).toNat
    rw [Bg (by omega)]
    omega
 ·have:i=N:=by omega
  subst this
  rw [Nat.sub_self]
  rfl
theorem TE:Sound Tryz.prog 103 qZ:=
 Sound.Fb nL (Av an (Av cQ Bh)) mixed Tryz.func103 (by kernel_rfl) (by kernel_rfl) λx h=>Anm x.1 x.2.1 x.2.2.1 h
theorem Ai9 (n:Int) (T G:List (List (Option (List Int)))) (l:Int) (p:List Int) (h: ∃N L,Wq N L n G T l p):
  fnMW Ya (look [(106,Fp),(114,My)]) lu Tryz.f103 (n,T,G,l,p,()) (λ(z:(Int×List (List (Option (List Int)))×List (List (Option (List Int)))×List Int×Int×Unit)×Unit)=>z=((n,T,G,(On T (n-l).toNat l.toNat p).1,(On T (n-l).toNat l.toNat p).2.1,()),())):=by
 obtain ⟨N,L,h⟩:=h
 obtain ⟨n1,n2,en,el,hle,v,pm,fx⟩:=h
 subst en el
 refine Eq.mp (Aj1 (N:Int) T G (L:Int) p _) ⟨rfl,rfl,rfl,rfl,?_⟩
 obtain ⟨v1,v2,v3,v4⟩:=v
 dsimp only at v1 v2
 refine ⟨λv=> ∃i:Nat,L<=i/\i<=N/\v.2=((i:Int),T,G,(N:Int),())/\Pm N v.1/\Fx i v.1/\On T (N-i) i v.1=On T (N-L) L p,λv=>N-v.2.1.toNat,⟨L,Ao _,hle,rfl,pm,fx,rfl⟩,?_⟩
 rintro ⟨p',v'⟩ ⟨i,h1,h2,h3,h4,h5,h6⟩
 dsimp only at h3 h4 h5 h6⊢
 subst h3
 dsimp only
 rw [show (((N:Int)-(L:Int)).toNat)=N-L by omega,show ((L:Int)).toNat=L by omega,<-h6]
 refine Br.dec (λhl=>?_) λhl=>?_
 ·have hl:i<N:=by omega
  obtain ⟨o,s1,s2,s3,s4,s5,s6,s7⟩:=AM n2 v3 v2 h1 hl h4 h5
  simp only [Ai,Bo,true_and,Ow]
  refine ⟨⟨by omega,by omega⟩,_,s1,⟨by omega,by omega⟩,?_⟩
  rw [Ai,s5,show N-i=(N-i-1)+1 by omega]
  cases o with
  |none=>
   rw [(s6 rfl).2]
   exact Br.of (λ_=>rfl) λhb=>by simp at hb
  |some t=>
   obtain ⟨⟨q1,q2⟩,q3,q4,q5,q6⟩:=s7 t rfl
   refine Br.of (λhb=>absurd (by simpa using hb) q1) λ_=>?_
   refine ⟨_,Ab q2,_,Ab q3,⟨i+1,by omega,by omega,?_,q4,q5,?_⟩,?_⟩
   ·rw [Bg (by omega)]
   ·rw [q6,show N-(i+1)=N-i-1 by omega];rfl
   ·show N-(IntKind.i64.wrap ((i:Int)+1)).toNat<N-i-1+1
    rw [Bg (by omega)]
    omega
 ·have:i=N:=by omega
  subst this
  rw [Nat.sub_self]
  exact ⟨⟨rfl,rfl⟩,⟨rfl,rfl⟩,rfl⟩
theorem MC:Cb Tryz.prog 103 lu:=
 Cb.iy nL (Av an (Av cQ Bh)) mixed Tryz.func103 (by kernel_rfl) (by kernel_rfl) λx h=>Ai9 x.1 x.2.1 x.2.2.1 x.2.2.2.1 x.2.2.2.2.1 h
theorem Ars {m:Nat} (n:Int) (T G:List (List (Option (List Int)))) (l:Int) (p:Option (List Int)) (h:(∃N L q,p=some q/\Aj5 N L n G T l q)/\nP n.toNat l.toNat (G,T)<m+1):
  fnMW Ya (look [(106,Fp),(114,Jx),(105,Pp.m (ph m)),(115,Pp.m (fq m))]) (fq (m+1)) Tryz.f115 (n,T,G,l,p,()) (λ(z:(Int×List (List (Option (List Int)))×List (List (Option (List Int)))×Unit)×Unit)=>z=((n,(ic n.toNat 1000 l.toNat (p.getD []) (G,T)).2,(ic n.toNat 1000 l.toNat (p.getD []) (G,T)).1,()),())):=by
 obtain ⟨⟨N,L,q,rfl,h⟩,hm⟩:=h
 obtain ⟨n1,n2,en,el,Iz,part,pm,fx,gn,gl⟩:=h
 subst en el
 refine Eq.mp (Ash (N:Int) T G (L:Int) (some q) _) ?_
 have l1:G.length=N:=part.l1
 have l2:T.length=N:=part.l2
 have row:=part.row
 dsimp only at row
 have hrl:=row.rl
 have hy:=pm.lt Iz
 simp only [Ai,Bo,Cc,true_and,Ow,Bj] at hm⊢
 refine ⟨⟨by omega,by omega⟩,_,CM pm Iz,⟨by omega,by omega⟩,?_⟩
 simp only [Ai]
 rcases Option.eq_none_or_eq_some ((T.getD L []).getD (ap q L) none) with La|⟨t,La⟩
 case inr=>
  obtain ⟨t1,t2,t3,t4⟩:=row.rt _ _ La
  have htl:=t1.1
  refine Br.dec (λ_=>?_) λhb=>?_
  ·rw [La,Cc]
   have hw:IntKind.i64.wrap ((L:Int)+1)=((L+1:Nat):Int):=Bg (by omega)
   rw [hw]
   have hmu:=Ae0 (s:=(G,T)) Iz
   refine ⟨_,Ab ⟨by show t.length<=20;omega,t1.2.row⟩,some (Al q (Bl t)),Ab ⟨Yo pm,qR pm t1.inv⟩,_,
    Ab ⟨⟨N,L+1,_,rfl,n1,n2,rfl,rfl,by omega,part.v,pm.comp t1.inv,Fx.div pm t1 fx t2 Iz t3⟩,by show VW (N:Int).toNat ((L+1:Nat):Int).toNat<m;rw [Ai,Ai];omega⟩,?_⟩
   simp only [Ai,Cc]
   rw [Abo n1 n2 Iz part pm fx La]
  ·rw [La,Cc] at hb
   omega
 case inl=>
  refine Br.dec (λhb=>by rw [La] at hb;simp at hb) λ_=>?_
  obtain ⟨a1,a2⟩:=GP Iz part pm fx gn La
  have tb:=Abn n1 n2 Iz part pm fx gn La
  have hmu:=Ahu (n:=N) (q:=q) (s:=(G,T)) (k:=L) (y:=ap q L) (by show L<T.length;omega) (by show ap q L<(T.getD L []).length;omega) La
  have run:= λj=>zp n1 n2 Iz a1 a2 j
  dsimp only at a1 a2 tb hmu run
  refine ⟨⟨by omega,by omega⟩,_,CM pm Iz,⟨by omega,by omega⟩,?_⟩
  simp only [Ai]
  rw [tb]
  generalize hs0:((G,T.set L ((T.getD L []).set (ap q L) (some q))):Cp×Cp)=s0 at hmu run⊢
  have Amk:T.set L ((T.getD L []).set (ap q L) (some q))=s0.2:=by rw [<-hs0]
  have Ad1:G=s0.1:=by rw [<-hs0]
  have hql:((G.getD L []).map λo=>Al q (o.getD [])).length=(G.getD L []).length:=Dl _
  refine Bf (G.getD L []).length (λv=>v.1) (λj v=> ∃s:Cp×Cp,v=((j:Int),s.2,s.1,(N:Int),())/\s=ju N L (((G.getD L []).map λo=>Al q (o.getD [])).take j) s0) rfl ⟨s0,by rw [<-Ad1,Amk];rfl,rfl⟩ ?_
  rintro j v K hj hi ⟨s,rfl,hs⟩ hK
  have hr:=run j
  rw [<-hs] at hr
  have g1:s.1.getD L []=G.getD L []:=by rw [hr.same,Ad1]
  have g2:s.1.length=N:=hr.part.l1
  have g4:nP N L (s.1,s.2)<=nP N L s0:=hr.mu
  dsimp only
  simp only [g1]
  refine ⟨⟨by omega,by omega⟩,Br.dec (λhl=>?_) λhl=>?_⟩
  ·have hl:j<(G.getD L []).length:=by omega
   obtain ⟨g,pX,Uj,hgf⟩:=part.pg _ (Ak hl)
   have hgj:(G.getD L []).getD j none=some g:=by rw [IC hl];exact pX
   have hqj:(((G.getD L []).map λo=>Al q (o.getD []))[j]'(by rw [hql];exact hl))=Al q g:=by rw [Tp,pX];rfl
   obtain ⟨b1,b2,b3⟩:=a2 (Al q g) (by rw [<-hqj];exact Ak _)
   simp only [Ai,hgj,Cc]
   refine ⟨⟨by omega,by omega⟩,⟨by omega,by omega⟩,some (Al q g),Ab ⟨Yo pm,qR pm Uj⟩,_,
    Ab ⟨⟨N,L,_,rfl,n1,n2,rfl,rfl,Iz,hr.part,b1,b2,by rw [g1];exact b3,by rw [g1];exact gl⟩,by show nP (N:Int).toNat (L:Int).toNat (s.1,s.2)<m;rw [Ai,Ai];omega⟩,?_⟩
   simp only [Ai,Cc]
   rw [Bg (by omega)]
   refine hK hl _ rfl ⟨_,rfl,?_⟩
   rw [vd (by rw [hql];exact hl),<-hs,hqj]
  ·have:j=(G.getD L []).length:=by omega
   subst this
   rw [<-hql,Ap] at hs
   rw [hs]
theorem Aew {m:Nat} (Amu:Cb Tryz.prog 105 (ph m)) (QG:Cb Tryz.prog 115 (fq m)):Cb Tryz.prog 115 (fq (m+1)):=
 Cb.iy nL (Av an (Av cR (Et Amu (Et QG Bh)))) mixed Tryz.func115 (by kernel_rfl) (by kernel_rfl) λx h=>Ars x.1 x.2.1 x.2.2.1 x.2.2.2.1 x.2.2.2.2.1 h
theorem Arr {m:Nat} (n:Int) (T G:List (List (Option (List Int)))) (l:Int) (p:Option (List Int)) (h:(∃N L q,p=some q/\Wq N L n G T l q)/\VW n.toNat l.toNat<m+1):
  fnMW (Afb [kR+46]) (look [(103,lu),(114,Jx),(115,Pp.m (fq m))]) (ph (m+1)) Tryz.f105 (n,T,G,l,p,()) (λ(z:(Int×List (List (Option (List Int)))×List (List (Option (List Int)))×Unit)×Unit)=>z=((n,(lD n.toNat 1000 l.toNat (p.getD []) (G,T)).2,(lD n.toNat 1000 l.toNat (p.getD []) (G,T)).1,()),())):=by
 obtain ⟨⟨N,L,q,rfl,h⟩,hm⟩:=h
 have h':=h
 obtain ⟨n1,n2,en,el,hle,v,pm,fx⟩:=h
 subst en el
 have hk:((N:Int)-(L:Int)).toNat=N-L:=by omega
 have back: ∀s:Cp×Cp,lD N 1000 L q (G,T)=s->((((N:Int),s.2,s.1,()),()):(Int×Cp×Cp×Unit)×Unit)=((((N:Int),(lD N 1000 L q (G,T)).2,(lD N 1000 L q (G,T)).1,()),()):(Int×Cp×Cp×Unit)×Unit):= λs e=>by rw [e]
 refine Eq.mp (Asg (N:Int) T G (L:Int) (some q) _) ?_
 simp only [Ai,Bo,Cc,true_and,Ow] at hm⊢
 refine Br.dec (λpX=>?_) λIz=>?_
 ·exact back (G,T) (UI (by rw [show N-L=0 by omega];rfl))
 have Iz:L<N:=by omega
 have hv:=v
 obtain ⟨v1,v2,v3,v4⟩:=v
 dsimp only at v1 v2
 have hsl:(On T (N-L) L q).2.1=(N:Int)↔Ig T (N-L) L q=true:=by
  have:=wM (T:=T) (N-L) L q
  rw [show L+(N-L)=N by omega] at this
  exact this
 refine ⟨_,Ab ⟨N,L,h'⟩,?_⟩
 simp only [Ln]
 simp only [hk,Ai]
 refine Br.of (λhh=>?_) λhh=>?_
 ·exact back (G,T) (UI (hsl.1 (eq_of_beq hh)))
 have hno: ¬Ig T (N-L) L q=true:= λhc=>by rw [hsl.2 hc] at hh;simp at hh
 have ma:=Abm n1 n2 (s:=(G,T)) Iz hv pm fx hno
 obtain ⟨a1,a2⟩:=GO n1 n2 (s:=(G,T)) Iz hv pm fx
 have hgl:(G.getD L []).length<=400:=by
  obtain ⟨k,hk1⟩: ∃k,N-L=k+1:=⟨N-L-1,by omega⟩
  rw [hk1] at hv
  exact UX n2 (by omega) hv
 have e1:(0:Int)<=(L:Int)/\(L:Int)<(G.length:Int):=by omega
 have e2:(G.getD L []).length+1<=Cr:=by show _<=4294967296;omega
 have row:=a1.row
 dsimp only at row a1 a2 ma
 have hrl:=row.rl
 have run:= λj=>zp n1 n2 Iz a1 a2 j
 have hmu:=RC a1
 simp only [Dp,List.take_succ_cons,List.take_zero,Aw,Ex,Bj,Bo,e1,e2,and_self,true_and,Ow]
 have hG1:(G.set L (G.getD L []++ [some q])).getD L []=G.getD L []++ [some q]:=ed G L (by omega) _
 generalize hs0:((G.set L (G.getD L []++ [some q]),T):Cp×Cp)=s0 at hmu run ma⊢
 have Ad1:G.set L (G.getD L []++ [some q])=s0.1:=by rw [<-hs0]
 have Amk:T=s0.2:=by rw [<-hs0]
 refine Bf N (λv=>v.1) (λy v=>v=((y:Int),(known ((T.getD L []).take y)).map some,T,G.set L (G.getD L []++ [some q]),(N:Int),())) rfl rfl ?_
 rintro y v K hj hi rfl hK
 dsimp only
 refine Br.dec (λhl=>?_) λhl=>?_
 ·have hl:y<N:=by omega
  have hy:y<(T.getD L []).length:=by omega
  have hkt:=QT hy
  have Rz:=zJ ((T.getD L []).take y)
  rw [Cq] at Rz
  have hye:(T.getD L []).getD y none=(T.getD L [])[y]:=IC hy
  simp only [Ai]
  refine ⟨by omega,⟨by omega,by omega⟩,?_⟩
  rcases Option.eq_none_or_eq_some ((T.getD L []).getD y none) with ho|⟨t,ho⟩
  ·refine Br.dec (λhb=>by rw [ho] at hb;simp at hb) λ_=>?_
   rw [Bg (by omega)]
   refine hK hl _ rfl ?_
   rw [hkt,<-hye,ho]
   simp
  ·obtain ⟨t1,t2,t3,t4⟩:=row.rt _ _ ho
   have htl:=t1.1
   refine Br.dec (λ_=>?_) λhb=>by rw [ho,Cc] at hb;omega
   refine ⟨by omega,⟨by omega,by omega⟩,?_,?_⟩
   ·show _<=4294967296
    rw [Dl];omega
   ·rw [Bg (by omega)]
    refine hK hl _ rfl ?_
    rw [hkt,<-hye,ho]
    simp
 ·have:y=N:=by omega
  subst this
  have hkn:(T.getD L []).take y=T.getD L []:=bg (by omega)
  rw [hkn]
  have hql:((known (T.getD L [])).map λu=>Al u q).length=(known (T.getD L [])).length:=Dl _
  have Rz:=zJ (T.getD L [])
  refine Bf (known (T.getD L [])).length (λv=>v.1) (λj v=> ∃s:Cp×Cp,v=((j:Int),(known (T.getD L [])).map some,s.2,s.1,(y:Int),())/\s=ju y L (((known (T.getD L [])).map λu=>Al u q).take j) s0) rfl ⟨s0,by rw [<-Amk,Ad1];rfl,rfl⟩ ?_
  rintro j v K' sY oD ⟨s,rfl,hs⟩ hK'
  have hr:=run j
  rw [<-hs] at hr
  have g1:s.1.getD L []=G.getD L []++ [some q]:=by rw [hr.same,<-Ad1];exact hG1
  have g4:nP y L (s.1,s.2)<=nP y L s0:=hr.mu
  dsimp only
  refine Br.dec (λKp=>?_) λKp=>?_
  ·rw [Dl] at Kp
   have Kp:j<(known (T.getD L [])).length:=by omega
   obtain ⟨w,hw⟩:=lh.1 (Ak Kp)
   obtain ⟨t1,t2,t3,t4⟩:=row.rt _ _ hw
   have hqj:(((known (T.getD L [])).map λu=>Al u q)[j]'(by rw [hql];exact Kp))=Al (known (T.getD L []))[j] q:=by rw [Tp]
   obtain ⟨b1,b2,b3⟩:=a2 (Al (known (T.getD L []))[j] q) (by rw [<-hqj];exact Ak _)
   simp only [Ai]
   refine ⟨⟨by omega,by rw [Dl];omega⟩,some (known (T.getD L []))[j],by rw [Fm,Ac Kp];rfl,some (Al (known (T.getD L []))[j] q),Ab ⟨Yo t1,qR t1 pm⟩,_,
    Ab ⟨⟨y,L,_,rfl,n1,n2,rfl,rfl,Iz,hr.part,b1,b2,by rw [g1,<-hG1];exact b3,by rw [g1,Ax,Bt];omega⟩,by show nP (y:Int).toNat (L:Int).toNat (s.1,s.2)<m;rw [Ai,Ai];omega⟩,?_⟩
   simp only [Ai,Cc]
   rw [Bg (by omega)]
   refine hK' Kp _ rfl ⟨_,rfl,?_⟩
   rw [vd (by rw [hql];exact Kp),<-hs,hqj]
  ·rw [Dl] at Kp
   have:j=(known (T.getD L [])).length:=by omega
   subst this
   rw [<-hql,Ap] at hs
   exact back s (ma.trans hs.symm)
theorem Aev {m:Nat} (QG:Cb Tryz.prog 115 (fq m)):Cb Tryz.prog 105 (ph (m+1)):=
 Cb.iy (Aip [kR+46]) (Et MC (Av cR (Et QG Bh))) mixed Tryz.func105 (by kernel_rfl) (by kernel_rfl) λx h=>Arr x.1 x.2.1 x.2.2.1 x.2.2.2.1 x.2.2.2.2.1 h
theorem ZW:Cb Tryz.prog 105 (ph 0)/\Cb Tryz.prog 115 (fq 0):=
 ⟨Cb.iy De Bh mixed Tryz.func105 (by kernel_rfl) (by kernel_rfl) λ_ h=>absurd h.2 (Dq _),
  Cb.iy De Bh mixed Tryz.func115 (by kernel_rfl) (by kernel_rfl) λ_ h=>absurd h.2 (Dq _)⟩
theorem lv: ∀m,Cb Tryz.prog 105 (ph m)/\Cb Tryz.prog 115 (fq m)
 |0=>ZW
 |m+1=>⟨Aev (lv m).2,Aew (lv m).1 (lv m).2⟩
theorem SU:Cb Tryz.prog 105 EJ:=Cb.Ae3 (λx=>VW x.1.toNat x.2.2.2.1.toNat) λm=>(lv m).1
noncomputable abbrev dL:Spec:=Fb (.pair tL .unit) tO false true (λx=>short x.1/\1<=List.length x.1) (λx=>some x.1)
noncomputable abbrev CR:MSpec:= {Ja:= [none],ins:= [(false, .Em tI)],Hb:=false,Fu:= [none,none,none],outs:= [.Em tI, .Bp tO xF false, .Bp tO xF false],fn:= λ_=>none,rp:=some 127}
noncomputable abbrev Th:MSpec:=iy CR (λx=>1<=x.1/\x.1<=20) (λx=>((x.1,Zv x.1.toNat,Ud x.1.toNat,()),()))
noncomputable abbrev xT:MSpec:= {Ja:= [none,none],ins:= [(false, .Em tI),(false, .Em tLO)],Hb:=false,Fu:= [none,none,none],outs:= [.Em tI, .Bp tO xF false, .Bp tO xF false],fn:= λ_=>none,rp:=some 127}
noncomputable abbrev er:MSpec:=iy xT (λx=>(1<=x.1/\x.1<=20)/\List.length x.2.1<=4294967296/\ ∀o∈(x.2.1:List PO),∃g,o=some g/\Pm x.1.toNat g)
 (λx=>((x.1,(Qd x.1.toNat x.2.1).2,(Qd x.1.toNat x.2.1).1,()),()))
noncomputable abbrev xU:MSpec:= {Ja:= [none,none],ins:= [(false, .Em tI),(false, .Em dS)],Hb:=false,Fu:= [none,none,none],outs:= [.Em tI, .Bp tO xF false, .Bp tO xF false],fn:= λ_=>none,rp:=some 127}
noncomputable abbrev Tg:MSpec:=iy xU (λx=>(1<=x.1/\x.1<=20)/\List.length x.2.1<=4294967296/\ ∀g∈(x.2.1:List (List Int)),Pm x.1.toNat g)
 (λx=>((x.1,(qf x.1 x.2.1).2,(qf x.1 x.2.1).1,()),()))
noncomputable abbrev Ze:Spec:=Fb (.pair (.ptr pN) (.pair tL .unit)) .bool false true (λx=> ∃N,Wq N 0 x.1.1 x.1.2.2.1 x.1.2.1 0 x.2.1) (λx=>Ig x.1.2.1 x.1.1.toNat 0 x.2.1)
noncomputable def jN (n:Int) (g:List (List Int)) (p:List Int):Bool:=(Sm n g&&Gt n p)&&Ig (qf n g).2 n.toNat 0 p
noncomputable abbrev Zi:Spec:=Fb (.pair tI (.pair dS (.pair tL .unit))) .bool false true (λx=>Hj x.2.1/\short x.2.2.1) (λx=>jN x.1 x.2.1 x.2.2.1)
abbrev mz:Type:=Int×Int×List (List (Option (List Int)))×List (List (Option (List Int)))×PUnit
theorem FV (n:Int) (P:(Int×List (List (Option (List Int)))×List (List (Option (List Int)))×Unit)×Unit->Prop):(0=0/\0=([]:List Int).length/\0=0/\0=([]:List Int).length/\Db (λ(v2:mz) (k3:mz->Prop)=>Br (decide (v2.1<n)) (((0:Int)<=n/\n<(↑Cr:Int)+(1:Int))/\n=n/\ ∃(y4:Option (List Int)),Qb.fn (n,())=some y4/\((0:Int)<=v2.1/\v2.1<(↑(List.replicate n.toNat (none:Option (List Int))).length:Int))/\0+v2.1.toNat<(List.replicate n.toNat (none:Option (List Int))).length/\0=0/\(List.replicate n.toNat (none:Option (List Int))).length=((List.replicate n.toNat (none:Option (List Int))).set (0+v2.1.toNat) y4).length/\(0=0/\v2.2.2.1.length=v2.2.2.1.length)/\(0=0/\1= [(List.replicate n.toNat (none:Option (List Int))).set (0+v2.1.toNat) y4].length)/\0< [(List.replicate n.toNat (none:Option (List Int))).set (0+v2.1.toNat) y4].length/\v2.2.2.1.length+ [(List.replicate n.toNat (none:Option (List Int))).set (0+v2.1.toNat) y4].length<=Cr/\0=0/\0=([]:List Int).length/\(0=0/\v2.2.2.2.1.length=v2.2.2.2.1.length)/\(0=0/\1=([[]]:List (List (Option (List Int)))).length)/\0<([[]]:List (List (Option (List Int)))).length/\v2.2.2.2.1.length+([[]]:List (List (Option (List Int)))).length<=Cr/\0=0/\(v2.2.2.1++ [(List.replicate n.toNat (none:Option (List Int))).set (0+v2.1.toNat) y4]).length=(v2.2.2.1++ [(List.replicate n.toNat (none:Option (List Int))).set (0+v2.1.toNat) y4]).length/\0=0/\(v2.2.2.2.1++ [[]]).length=(v2.2.2.2.1++ [[]]).length/\k3 (IntKind.i64.wrap (v2.1+(1:Int)),v2.2.1,v2.2.2.1++ [(List.replicate n.toNat (none:Option (List Int))).set (0+v2.1.toNat) y4],v2.2.2.2.1++ [[]],())) ((0=0/\v2.2.2.1.length=v2.2.2.1.length)/\(0=0/\v2.2.2.2.1.length=v2.2.2.2.1.length)/\P ((v2.2.1,v2.2.2.1,v2.2.2.2.1,()),()))) ((0:Int),n,[],[],PUnit.unit))=fnMW Ya (look [(63,Qb)]) Th Tryz.f104 (n,()) P:=by kernel_rfl
abbrev kD:Type:=(Int×List (List (Option (List Int)))×List (List (Option (List Int)))×PUnit)×PUnit
abbrev kE:Type:=Int×List (List (Option (List Int)))×List (List (Option (List Int)))×Int×PUnit
theorem yS (n:Int) (gens:List (Option (List Int))) (P:(Int×List (List (Option (List Int)))×List (List (Option (List Int)))×Unit)×Unit->Prop):(∃(y3:kD),Th.fn (n,())=some y3/\0=0/\y3.1.2.1.length=y3.1.2.1.length/\0=0/\y3.1.2.2.1.length=y3.1.2.2.1.length/\Db (λ(v4:kE) (k5:kE->Prop)=>Br (decide (v4.1<(↑gens.length:Int))) (∃(y6:Option (List Int)),idx gens v4.1=some y6/\ ∃(y7:Option (List Int)),dL.fn (y6.getD [],())=some y7/\0=0/\v4.2.1.length=v4.2.1.length/\0=0/\v4.2.2.1.length=v4.2.2.1.length/\ ∃(y8:kD),EJ.fn (v4.2.2.2.1,v4.2.1,v4.2.2.1,(0:Int),y7,())=some y8/\0=0/\y8.1.2.1.length=y8.1.2.1.length/\0=0/\y8.1.2.2.1.length=y8.1.2.2.1.length/\k5 (IntKind.i64.wrap (v4.1+(1:Int)),y8.1.2.1,y8.1.2.2.1,y8.1.1,())) ((0=0/\v4.2.1.length=v4.2.1.length)/\(0=0/\v4.2.2.1.length=v4.2.2.1.length)/\P ((v4.2.2.2.1,v4.2.1,v4.2.2.1,()),()))) ((0:Int),y3.1.2.1,y3.1.2.2.1,y3.1.1,PUnit.unit))=fnMW Ya (look [(104,Th),(64,dL),(105,EJ)]) er Tryz.f89 (n,gens,()) P:=by kernel_rfl
theorem TR (c:Int×List (List (Option (List Int)))×List (List (Option (List Int)))×Unit) (p:List Int) (P:Bool->Prop):(∃(y3:List Int×Int×PUnit),qZ.fn (c,(0:Int),p,())=some y3/\P (y3.2.1==c.1))=fnW Ya (look [(103,qZ)]) Ze Tryz.f88 (c,p,()) P:=by kernel_rfl
theorem TW (n:Int) (g:List (List Int)) (p:List Int) (P:Bool->Prop):(∃(y4:Bool),Mz.fn (n,g,())=some y4/\Br y4 (Br ((↑p.length:Int)==n) (∃(y5:Bool),Hz.fn (p,())=some y5/\Br y5 (∃(y6:(Int×List (List (Option (List Int)))×List (List (Option (List Int)))×PUnit)×PUnit),Tg.fn (n,g,())=some y6/\ ∃(y7:Bool),Ze.fn ((y6.1.1,List.take y6.1.2.1.length (List.drop 0 y6.1.2.1),List.take y6.1.2.2.1.length (List.drop 0 y6.1.2.2.1),()),p,())=some y7/\P y7) (P false)) (P false)) (P false))=fnW En (look [(82,Mz),(87,Hz),(89,Tg),(88,Ze)]) Zi Tryz.f59 (n,g,p,()) P:=by kernel_rfl
theorem NQ (p:Int×ByteArray×List (List Int)×Unit) (s:List Int) (P:Bool->Prop):(∃(y3:Bool),Nr.fn ((p.1,p.2.1,p.2.2.1,()),s,())=some y3/\Br y3 (∃(y4:Bool),Zi.fn (p.1,p.2.2.1,s,())=some y4/\P y4) (P false))=fnW En (look [(58,Nr),(59,Zi)]) Nq Tryz.f43 (p,s,()) P:=by kernel_rfl
theorem NI (p:Int×ByteArray×List (List Int)×Unit) (s:List Int) (P:Bool->Prop):(∃(y3:Bool),Nr.fn ((p.1,p.2.1,p.2.2.1,()),s,())=some y3/\Br y3 (∃(y4:(Int×List (List (Option (List Int)))×List (List (Option (List Int)))×PUnit)×PUnit),Zk.fn (p.1,p.2.2.1,())=some y4/\ ∃(y5:Bool),pj.fn ((y4.1.1,List.take y4.1.2.1.length (List.drop 0 y4.1.2.1),List.take y4.1.2.2.1.length (List.drop 0 y4.1.2.2.1),()),(0:Int),s,())=some y5/\P y5) (P false))=fnW En (look [(46,Nr),(47,Zk),(48,pj)]) Nq Tryz.f36 (p,s,()) P:=by kernel_rfl
theorem lN:Sound Tryz.prog 63 Qb:=Sound.toO kv λ_ h=>WN h
theorem tp:Sound Tryz.prog 64 dL:=Sound.toO Xo λx h=>⟨h.1,λe=>by
 have h2:=h.2
 replace e:x.1= []:=e
 rw [e] at h2
 simp at h2⟩
theorem DM (n:Int) (h:1<=n/\n<=20):fnMW Ya (look [(63,Qb)]) Th Tryz.f104 (n,()) (λ(z:(Int×List (List (Option (List Int)))×List (List (Option (List Int)))×Unit)×Unit)=>z=((n,Zv n.toNat,Ud n.toNat,()),())):=by
 obtain ⟨h1,h2⟩:=h
 obtain ⟨N,rfl⟩: ∃N:Nat,n=N:=⟨n.toNat,by omega⟩
 rw [Ai]
 refine Eq.mp (FV (N:Int) _) ?_
 have hm:((0:Int)<=(N:Int)/\(N:Int)<(Cr:Int)+1):=⟨by omega,by show (N:Int)<(4294967296:Int)+1;omega⟩
 simp only [hm,and_self,eq_self,true_and,Ow,Ai,Bo,Ex,Bj,Gg,Aw,Nat.lt_add_one]
 refine Bf N (λv=>v.1) (λj v=>v=((j:Int),(N:Int),(List.range j).map (cT N),List.replicate j [],())) rfl rfl ?_
 rintro j v K hj hi rfl hK
 dsimp only
 refine Br.dec (λhl=>?_) λhl=>?_
 ·simp only [Ai,Dl,List.length_range,Gg]
  refine ⟨_,Ab ⟨by show (1:Int)<=N;omega,by show (N:Int)<=20;omega⟩,⟨by omega,by omega⟩,by omega,?_,?_,?_⟩
  ·show _<=4294967296
   omega
  ·show _<=4294967296
   omega
  ·rw [Bg (by omega)]
   refine hK (by omega) _ rfl ?_
   rw [j8,Kl,List.replicate_succ']
   rfl
 ·have:j=N:=by omega
  subst this
  rfl
theorem rf:Cb Tryz.prog 104 Th:=
 Cb.iy nL (Av lN Bh) mixed Tryz.func104 (by kernel_rfl) (by kernel_rfl) λx h=>DM x.1 h
theorem yf (n:Int) (gens:List (Option (List Int))) (h:(1<=n/\n<=20)/\List.length gens<=4294967296/\ ∀o∈(gens:List PO),∃g,o=some g/\Pm n.toNat g):
  fnMW Ya (look [(104,Th),(64,dL),(105,EJ)]) er Tryz.f89 (n,gens,()) (λ(z:(Int×List (List (Option (List Int)))×List (List (Option (List Int)))×Unit)×Unit)=>z=((n,(Qd n.toNat gens).2,(Qd n.toNat gens).1,()),())):=by
 obtain ⟨⟨h1,h2⟩,h3,hg⟩:=h
 obtain ⟨N,rfl⟩: ∃N:Nat,n=N:=⟨n.toNat,by omega⟩
 rw [Ai] at hg⊢
 have h1:1<=N:=by omega
 have h2:N<=20:=by omega
 refine Eq.mp (yS (N:Int) gens _) ⟨_,Ab ⟨by show (1:Int)<=N;omega,by show (N:Int)<=20;omega⟩,rfl,rfl,rfl,rfl,?_⟩
 simp only [Ai,true_and,Ow]
 refine Bf gens.length (λv=>v.1) (λi v=>v=((i:Int),(Qd N (gens.take i)).2,(Qd N (gens.take i)).1,(N:Int),())) rfl rfl ?_
 rintro i v K' oD Avt rfl hK'
 dsimp only
 refine Br.dec (λKp=>?_) λKp=>?_
 ·have Kp:i<gens.length:=by omega
  obtain ⟨g,pX,Uj⟩:=hg gens[i] (Ak Kp)
  have hgl:=Uj.1
  have hv:=zd h1 h2 (gens:=gens.take i) λo ho=>hg o (El ho)
  refine ⟨some g,by rw [Bu Kp,pX],some g,Ab ⟨by show g.length<=4294967296;omega,by show 1<=g.length;omega⟩,_,Ab ⟨N,0,g,rfl,h1,h2,rfl,rfl,Ip _,hv,Uj,λi hi=>absurd hi (Dq _)⟩,?_⟩
  rw [Bg (by omega)]
  refine hK' Kp _ rfl ?_
  rw [BI Kp,pX]
  rfl
 ·have:i=gens.length:=by omega
  subst this
  rw [Ap]
theorem pv:Cb Tryz.prog 89 er:=
 Cb.iy nL (Et rf (Av tp (Et SU Bh))) mixed Tryz.func89 (by kernel_rfl) (by kernel_rfl) λx h=>yf x.1 x.2.1 h
theorem re:Cb Tryz.prog 89 Tg:=by
 have h:=pv
 refine ⟨h.enter,λw S π us x r o g vs h1 hg h2 h3 hS h4 h5=>?_⟩
 obtain ⟨n,gens,⟨⟩⟩:=x
 match us,h2 with
 |u1::u2::us,h2=>
  obtain ⟨h6,⟨h7,h8⟩,h9⟩:=h2
  obtain ⟨os,pW,iO⟩:=Cw.Akt (e:=tI) h8
  have iO:os.map (·.getD [])=(gens:List (List Int)):=iO
  have iQ:(1<=n/\n<=20)/\List.length gens<=4294967296/\ ∀g∈(gens:List (List Int)),Pm n.toNat g:=Bw λhn=>by
   have:Tg.fn (n,gens,())=none:=Ag hn
   rw [this] at h5;cases h5
  have hos:os=gens.map some:=by
   rw [<-iO,List.map_map]
   refine (List.map_id os).symm.trans (Ev λx hx=>?_)
   cases x with
   |some y=>rfl
   |none=>
    have:=iQ.2.2 [] (by rw [<-iO];exact Bi.2 ⟨none,hx,rfl⟩)
    have h1:=this.n1
    have h2:=this.1
    simp at h2
    omega
  have hv:Tg.fn (n,gens,())=some ((n,(qf n gens).2,(qf n gens).1,()),()):=Ab iQ
  rw [hv] at h5
  have h5:=Ba h5
  refine h.calls w S π (u1::u2::us) (n,os,()) r o g vs h1 hg ⟨h6,⟨h7,pW⟩,h9⟩ h3 hS h4 ?_
  refine (Ab ⟨iQ.1,by rw [hos,Dl];exact iQ.2.1,λy hy=>?pp⟩).trans (Lr some ?qq)
  case pp=>
   replace hy:y∈os:=hy
   rw [hos] at hy
   obtain ⟨g,hg,rfl⟩:=Bi.1 hy
   exact ⟨g,rfl,iQ.2.2 g hg⟩
  case qq=>subst hos;exact h5
theorem RM (c:Int×List (List (Option (List Int)))×List (List (Option (List Int)))×Unit) (p:List Int) (h: ∃N,Wq N 0 c.1 c.2.2.1 c.2.1 0 p):
  fnW Ya (look [(103,qZ)]) Ze Tryz.f88 (c,p,()) (λ(z:Bool)=>z=Ig c.2.1 c.1.toNat 0 p):=by
 obtain ⟨n,T,G,⟨⟩⟩:=c
 obtain ⟨N,h⟩:=h
 have h':=h
 obtain ⟨n1,n2,en,el,hle,v,pm,fx⟩:=h
 dsimp only at en
 subst en
 refine Eq.mp (TR ((N:Int),T,G,()) p _) ⟨_,Ab ⟨N,0,h'⟩,?_⟩
 have hs:=wM (T:=T) N 0 p
 rw [Bo] at hs
 show ((On T ((N:Int)-0).toNat (0:Int).toNat p).2.1==(N:Int))=Ig T (N:Int).toNat 0 p
 rw [Int.sub_zero,Ai]
 exact Bool.eq_iff_iff.2 (Xw.trans hs)
theorem wR:Sound Tryz.prog 88 Ze:=
 Sound.Fb nL (Av TE Bh) mixed Tryz.func88 (by kernel_rfl) (by kernel_rfl) λx h=>RM x.1 x.2.1 h
theorem RQ (n:Int) (g:List (List Int)) (p:List Int) (h:Hj g/\short p):fnW En (look [(82,Mz),(87,Hz),(89,Tg),(88,Ze)]) Zi Tryz.f59 (n,g,p,()) (λ(z:Bool)=>z=jN n g p):=by
 obtain ⟨hg,hp⟩:=h
 refine Eq.mp (TW n g p _) ⟨_,Ab hg,?_⟩
 unfold jN
 show Br (Sm n g) _ _
 refine Br.of (λh1=>?_) λh1=>by rw [h1];rfl
 obtain ⟨⟨n1,n2⟩,h8,Js⟩:=Hv.1 h1
 refine Br.of (λh2=>?_) λh2=>?_
 ·have h2:(p.length:Int)=n:=eq_of_beq h2
  refine ⟨_,Ab hp,?_⟩
  show Br (Jv p) _ _
  refine Br.of (λh3=>?_) λh3=>?_
  ·have hgo:Gt n p=true:=Hv.2 ⟨h2,h3⟩
   have hpm: ∀x,Gt n x=true->Pm n.toNat x:= λx hx=>by
    obtain ⟨a,b⟩:=Hv.1 hx
    exact ⟨by omega,ek b⟩
   have oC: ∀x∈g,Pm n.toNat x:= λx hx=>hpm x (Js x hx)
   have hV:=zd (n:=n.toNat) (by omega) (by omega) (fj oC)
   refine ⟨_,Ab ⟨⟨n1,n2⟩,hg.1,oC⟩,_,Ab ⟨n.toNat,?vv⟩,?_⟩
   case vv=>
    simp only [Bz]
    exact ⟨by omega,by omega,(Int.toNat_of_nonneg (by omega)).symm,rfl,Ip _,hV,hpm p hgo,λi hi=>absurd hi (Dq _)⟩
   simp only [Bz]
   rw [h1,hgo]
   rfl
  ·have:Gt n p=false:=by
    rw [Jt]
    intro hc
    rw [(Hv.1 hc).2] at h3
    cases h3
   rw [this,Bool.and_false,Bool.false_and]
 ·have:Gt n p=false:=by
   rw [Jt]
   intro hc
   rw [(Hv.1 hc).1] at h2
   simp at h2
  rw [this,Bool.and_false,Bool.false_and]
theorem wX:Sound Tryz.prog 59 Zi:=
 Sound.Fb De (Av fE (Av Tk (Et re (Av wR Bh)))) mixed Tryz.func59 (by kernel_rfl) (by kernel_rfl) λx h=>RQ x.1 x.2.1 x.2.2.1 h
theorem XA {p:PP} (hv:Ds p=true) {s:List Int} (hs:Pm p.1.toNat s):Ig (qf p.1 p.2.2.1).2 p.1.toNat 0 s=Ig (dp p.1 p.2.2.1).2 p.1.toNat 0 s:=by
 have hV:=valid hv
 have hn:=hV.n
 have hg:=fj (eJ hV).2.2
 exact Bool.eq_iff_iff.2 ((IF (by omega) (by omega) hg hs).trans (nb (by omega) (by omega) hg hs).symm)
theorem IA {n:Int} {s:List Int} (h:Gt n s=true):Pm n.toNat s:=by
 obtain ⟨a,b⟩:=Hv.1 h
 exact ⟨by omega,ek b⟩
theorem LG (p:PP) (s:List Int) (h:Ek p/\short s):fnW En (look [(58,Nr),(59,Zi)]) Nq Tryz.f43 (p,s,()) (λ(z:Bool)=>z=Oa p s):=by
 refine Eq.mp (NQ p s _) ⟨_,Ab h,?_⟩
 show Br (Ds p&&Gt p.1 s) _ _
 unfold Oa
 refine Br.of (λhb=>?_) λhb=>by rw [hb];rfl
 obtain ⟨hv,hg⟩:=Dz.1 hb
 have hV:=valid hv
 have hn:=hV.n
 have Aq6:Sm p.1 p.2.2.1=true:=by
  refine Hv.2 ⟨⟨by omega,by omega⟩,by have:=hV.uX;omega,λx hx=>Hv.2 ⟨by have:=hV.len x hx;omega,hV.perm x hx⟩⟩
 refine ⟨_,Ab ⟨h.1.2,h.2⟩,?_⟩
 show jN p.1 p.2.2.1 s=_
 unfold jN
 rw [Aq6,hg,hv,XA hv (IA hg)]
theorem tF:Sound Tryz.prog 43 Nq:=
 Sound.Fb De (Av pD (Av wX Bh)) mixed Tryz.func43 (by kernel_rfl) (by kernel_rfl) λx h=>LG x.1 x.2.1 h
theorem KV (p:PP) (s:List Int) (h:Ek p/\short s):fnW En (look [(46,Nr),(47,Zk),(48,pj)]) Nq Tryz.f36 (p,s,()) (λ(z:Bool)=>z=Oa p s):=by
 refine Eq.mp (NI p s _) ⟨_,Ab h,?_⟩
 show Br (Ds p&&Gt p.1 s) _ _
 unfold Oa
 refine Br.of (λhb=>?_) λhb=>by rw [hb];rfl
 obtain ⟨hv,hg⟩:=Dz.1 hb
 have hV:=valid hv
 have hn:=hV.n
 have IK:=Agr hV
 refine ⟨_,Ab (eJ hV),_,Ab ⟨p.1.toNat,0,?vv⟩,?_⟩
 case vv=>
  simp only [Bz]
  exact ⟨by omega,by omega,(Int.toNat_of_nonneg (by omega)).symm,rfl,Ip _,by rw [Nat.sub_zero];exact IK,IA hg,λi hi=>absurd hi (Dq _)⟩
 simp only [Bz]
 rw [hb,cg,Int.sub_zero]
 rfl
theorem tw:Sound Tryz.prog 36 Nq:=
 Sound.Fb De (Av py (Et wY (Av AO Bh))) mixed Tryz.func36 (by kernel_rfl) (by kernel_rfl) λx h=>KV x.1 x.2.1 h
noncomputable def Ok (p:PP) (ts:List TT) (s:List Int):Bool:=Oa p s&&Ge p ts
noncomputable abbrev Zd:Spec:=Fb (.pair Ga (.pair ue (.pair tL .unit))) (.pair (.optr Tl) (.pair .bool .unit)) true false (λx=>Ek x.1/\Gu x.2.1/\short x.2.2.1) (λx=>if Ok x.1 x.2.1 x.2.2.1=true then (some (Cu x.2.1),true,()) else (none,false,()))
noncomputable abbrev qV:Spec:=Fb (.pair Ga (.pair ue (.pair tL .unit))) .bool false true (λx=>Ek x.1/\Gu x.2.1/\short x.2.2.1) (λx=>Ok x.1 x.2.1 x.2.2.1)
theorem TQ (p:Int×ByteArray×List (List Int)×Unit) (ts:List (List Int×List (List Int)×List Int×Unit)) (s:List Int) (P:(Option (List (List Int×List (List Int)×List Int×Unit)×List (ByteArray->Option Int)×Unit)×Bool×Unit)->Prop):(∃(y4:Bool),Nq.fn ((p.1,p.2.1,p.2.2.1,()),s,())=some y4/\Br (!y4) (P (none,false,())) (∃(y5:Bool),Lq.fn ((p.1,p.2.1,p.2.2.1,()),ts,())=some y5/\Br (!y5) (P (none,false,())) (∃(y6:Option (List (List Int×List (List Int)×List Int×PUnit)×List (ByteArray->Option Int)×PUnit)),Wh.fn (ts,())=some y6/\P (y6,true,()))))=fnW En (look [(36,Nq),(37,Lq),(38,Wh)]) Zd Tryz.f24 (p,ts,s,()) P:=by kernel_rfl
theorem Aob (p:Int×ByteArray×List (List Int)×Unit) (ts:List (List Int×List (List Int)×List Int×Unit)) (s:List Int) (P:Bool->Prop):(∃(y4:Bool),Lq.fn ((p.1,p.2.1,p.2.2.1,()),ts,())=some y4/\Br y4 (∃(y5:Bool),Nq.fn ((p.1,p.2.1,p.2.2.1,()),s,())=some y5/\P y5) (P false))=fnW En (look [(42,Lq),(43,Nq)]) qV Tryz.f31 (p,ts,s,()) P:=by kernel_rfl
theorem eX {p:PP} {ts:List TT} {s:List Int} (h:Ok p ts s=true):aR ts/\dW ts s/\Oa p s=true:=by
 unfold Ok at h
 obtain ⟨h1,h2⟩:=Dz.1 h
 exact ⟨(kF h2).2.1,SC h1 h2,h1⟩
theorem RL (p:PP) (ts:List TT) (s:List Int) (h:Ek p/\Gu ts/\short s):fnW En (look [(36,Nq),(37,Lq),(38,Wh)]) Zd Tryz.f24 (p,ts,s,()) (λ(z:Option BB×Bool×Unit)=>z=if Ok p ts s=true then (some (Cu ts),true,()) else (none,false,())):=by
 obtain ⟨h0,h1,h2⟩:=h
 refine Eq.mp (TQ p ts s _) ⟨_,Ab ⟨h0,h2⟩,?_⟩
 show Br (!Oa p s) _ _
 have hh:Ok p ts s=(Oa p s&&Ge p ts):=rfl
 rw [hh]
 refine Br.of (λhb=>?_) λhb=>?_
 ·have hb:Oa p s=false:=by simpa using hb
  rw [hb];rfl
 ·have hb:Oa p s=true:=by simpa using hb
  refine ⟨_,Ab ⟨h0,h1⟩,?_⟩
  show Br (!Ge p ts) _ _
  refine Br.of (λhc=>?_) λhc=>?_
  ·have hc:Ge p ts=false:=by simpa using hc
   rw [hb,hc];rfl
  ·have hc:Ge p ts=true:=by simpa using hc
   refine ⟨_,Ab (kF hc).2.1,?_⟩
   rw [hb,hc];rfl
theorem wQ:Sound Tryz.prog 24 Zd:=
 Sound.Fb De (Av tw (Av nH (Av tA Bh))) mixed Tryz.func24 (by kernel_rfl) (by kernel_rfl) λx h=>RL x.1 x.2.1 x.2.2.1 h
theorem Anh (p:PP) (ts:List TT) (s:List Int) (h:Ek p/\Gu ts/\short s):fnW En (look [(42,Lq),(43,Nq)]) qV Tryz.f31 (p,ts,s,()) (λ(z:Bool)=>z=Ok p ts s):=by
 obtain ⟨h0,h1,h2⟩:=h
 refine Eq.mp (Aob p ts s _) ⟨_,Ab ⟨h0,h1⟩,?_⟩
 show Br (Ge p ts) _ _
 have hh:Ok p ts s=(Oa p s&&Ge p ts):=rfl
 rw [hh]
 refine Br.of (λhb=>⟨_,Ab ⟨h0,h2⟩,?_⟩) λhb=>?_
 ·rw [hb,Bool.and_true]
 ·rw [hb,Bool.and_false]
theorem TA:Sound Tryz.prog 31 qV:=
 Sound.Fb De (Av nI (Av tF Bh)) mixed Tryz.func31 (by kernel_rfl) (by kernel_rfl) λx h=>Anh x.1 x.2.1 x.2.2.1 h
abbrev DS:Type:=Int×Int×List Int×Bool×Bool×Unit
def Ic (v:DS):Bool:=v.2.2.2.1||(decide (0<v.2.1)&&!v.2.2.2.2.1)
def Mv (w:List Int):Int:=w.getLastD 0
def vN (nx:List Int->Int->List Int) (low:List Int->Int) (one:List Int) (ls:List Int) (depth:Int):Nat->List Int->List Int->DS->DS
 |0,_,_,v=>v
 |f+1,s,w,v=>
  if v.1=20000 then (v.1,v.2.1,v.2.2.1,true,v.2.2.2.2)
  else if (w.length:Int)+low s>depth then (v.1+1,v.2)
  else if (w.length:Int)=depth then (if s=one then (v.1+1,v.2.1+1,(if v.2.1=0 then w else v.2.2.1),v.2.2.2) else (v.1+1,v.2))
  else (ls.filter λl=>!(l== -Mv w)).foldl (λv l=>if Ic v=true then v else vN nx low one ls depth f (nx s l) (w++ [l]) v) (v.1+1,v.2)
abbrev IS:Type:=Bool×List Int×Int×Int×Bool
def iN (nx:List Int->Int->List Int) (low:List Int->Int) (one:List Int) (ls:List Int) (depth:Int) (every:Bool):Nat->List Int->List Int->Int->Int->Bool->IS
 |0,_,w,n,m,a=>(false,w,n,m,a)
 |f+1,s,w,n,m,a=>
  if n=20000 then (true,w,n,m,true)
  else if (w.length:Int)+low s>depth then (false,w,n+1,m,a)
  else if s=one/\(w.length:Int)=depth then (!every,w,n+1,m+1,a)
  else if (w.length:Int)=depth then (false,w,n+1,m,a)
  else ls.foldl (λr l=>if r.1=true\/l= -Mv w then r else
   if (iN nx low one ls depth every f (nx s l) (w++ [l]) r.2.2.1 r.2.2.2.1 r.2.2.2.2).1=true then iN nx low one ls depth every f (nx s l) (w++ [l]) r.2.2.1 r.2.2.2.1 r.2.2.2.2
   else (false,w,(iN nx low one ls depth every f (nx s l) (w++ [l]) r.2.2.1 r.2.2.2.1 r.2.2.2.2).2.2)) (false,w,n+1,m,a)
structure AZ (v:DS):Prop where
 n0:0<=v.1
 n1:v.1<=20000
 m0:0<=v.2.1
 m1:v.2.1<=v.1
theorem Vw {α β:Type} {f:β->α->β} {R:β->Prop} : ∀(ls:List α) (b:β),R b->(∀b l,l∈ls->R b->R (f b l))->R (ls.foldl f b)
 | [],_,h,_=>h
 |l::ls,b,h,hs=>Vw ls _ (hs b l (Jc ..) h) λb l hl=>hs b l (Ar _ hl)
theorem ve {α β γ:Type} {f:β->α->β} {g:γ->α->γ} {R:β->γ->Prop} : ∀(ls:List α) (b:β) (c:γ),R b c->(∀b c l,l∈ls->R b c->R (f b l) (g c l))->R (ls.foldl f b) (ls.foldl g c)
 | [],_,_,h,_=>h
 |l::ls,b,c,h,hs=>ve ls _ _ (hs b c l (Jc ..) h) λb c l hl=>hs b c l (Ar _ hl)
theorem Afp {nx:List Int->Int->List Int} {low:List Int->Int} {one ls:List Int} {depth:Int} : ∀(f:Nat) (s w:List Int) (v:DS),AZ v->AZ (vN nx low one ls depth f s w v)
 |0,_,_,_,h=>h
 |f+1,s,w,v,h=>by
  have h0:=h.n0;have h1:=h.n1;have h2:=h.m0;have h3:=h.m1
  unfold vN
  split
  ·exact ⟨h0,h1,h2,h3⟩
  ·have hs:AZ ((v.1+1,v.2):DS):=⟨by show 0<=v.1+1;omega,by show v.1+1<=20000;omega,h2,by show v.2.1<=v.1+1;omega⟩
   split
   ·exact hs
   ·split
    ·split
     ·exact ⟨by show 0<=v.1+1;omega,by show v.1+1<=20000;omega,by show 0<=v.2.1+1;omega,by show v.2.1+1<=v.1+1;omega⟩
     ·exact hs
    ·refine Vw _ _ hs λb l _ hb=>?_
     split
     ·exact hb
     ·exact Afp f _ _ _ hb
theorem Afn {nx:List Int->Int->List Int} {low:List Int->Int} {one ls:List Int} {depth:Int} : ∀(f:Nat) (s w:List Int) (v:DS),(vN nx low one ls depth f s w v).2.2.2.2=v.2.2.2.2
 |0,_,_,_=>rfl
 |f+1,s,w,v=>by
  unfold vN
  split
  ·rfl
  ·split
   ·rfl
   ·split
    ·split<;>rfl
    ·refine Vw (R:= λ(b:DS)=>b.2.2.2.2=v.2.2.2.2) _ _ rfl λb l _ hb=>?_
     split
     ·exact hb
     ·rw [Afn f];exact hb
theorem Aki {nx:List Int->Int->List Int} {low:List Int->Int} {one ls:List Int} {depth:Int} {every:Bool} : ∀(f:Nat) (s w:List Int) (n m:Int) (a:Bool),(0<=n/\n<=20000/\0<=m/\m<=n)->
  (0<=(iN nx low one ls depth every f s w n m a).2.2.1/\(iN nx low one ls depth every f s w n m a).2.2.1<=20000/\0<=(iN nx low one ls depth every f s w n m a).2.2.2.1/\(iN nx low one ls depth every f s w n m a).2.2.2.1<=(iN nx low one ls depth every f s w n m a).2.2.1)
 |0,_,_,_,_,_,h=>h
 |f+1,s,w,n,m,a,h=>by
  obtain ⟨h0,h1,h2,h3⟩:=h
  unfold iN
  split
  ·exact ⟨h0,h1,h2,h3⟩
  ·have hs:(0<=n+1/\n+1<=20000/\0<=m/\m<=n+1):=by omega
   split
   ·exact hs
   ·split
    ·show 0<=n+1/\n+1<=20000/\0<=m+1/\m+1<=n+1
     omega
    ·split
     ·exact hs
     ·refine Vw (R:= λ(b:IS)=>0<=b.2.2.1/\b.2.2.1<=20000/\0<=b.2.2.2.1/\b.2.2.2.1<=b.2.2.1) _ _ hs λb l _ hb=>?_
      split
      ·exact hb
      ·have ih:=Aki (nx:=nx) (low:=low) (one:=one) (ls:=ls) (depth:=depth) (every:=every) f (nx s l) (w++ [l]) b.2.2.1 b.2.2.2.1 b.2.2.2.2 hb
       split
       ·exact ih
       ·exact ih
theorem Aho {nx:List Int->Int->List Int} {low:List Int->Int} {one ls:List Int} {depth:Int} {every:Bool} : ∀(f:Nat) (s w:List Int) (n m:Int) (a:Bool),(iN nx low one ls depth every f s w n m a).1=false->(iN nx low one ls depth every f s w n m a).2.1=w
 |0,_,_,_,_,_,_=>rfl
 |f+1,s,w,n,m,a,h=>by
  unfold iN at h⊢
  split
  ·rename_i h1;rw [Ab h1] at h
  ·rename_i h1
   rw [Ag h1] at h
   split
   ·rfl
   ·rename_i h2
    rw [Ag h2] at h
    split
    ·rfl
    ·rename_i h3
     rw [Ag h3] at h
     split
     ·rfl
     ·rename_i h4
      rw [Ag h4] at h
      refine Vw (R:= λ(r:IS)=>r.1=false->r.2.1=w) _ _ (λ_=>rfl) (λr l _ hr=>?_) h
      split
      ·exact hr
      ·split
       ·rename_i h5;exact λh6=>by rw [h5] at h6;cases h6
       ·exact λ_=>rfl
theorem VO {nx:List Int->Int->List Int} {low:List Int->Int} {one ls:List Int} {depth:Int} {every:Bool} {f:Nat} {s w:List Int} : ∀(xs:List Int) (r:IS),r.1=true->
  xs.foldl (λ(r:IS) l=>if r.1=true\/l= -Mv w then r else
   if (iN nx low one ls depth every f (nx s l) (w++ [l]) r.2.2.1 r.2.2.2.1 r.2.2.2.2).1=true then iN nx low one ls depth every f (nx s l) (w++ [l]) r.2.2.1 r.2.2.2.1 r.2.2.2.2
   else (false,w,(iN nx low one ls depth every f (nx s l) (w++ [l]) r.2.2.1 r.2.2.2.1 r.2.2.2.2).2.2)) r=r
 | [],_,_=>rfl
 |x::xs,r,h=>by
  rw [Hr,Ab (.inl h)]
  exact VO xs r h
theorem WO {nx:List Int->Int->List Int} {low:List Int->Int} {one ls:List Int} {depth:Int} {f:Nat} {s w:List Int} : ∀(xs:List Int) (r:DS),Ic r=true->
  xs.foldl (λ(v:DS) l=>if Ic v=true then v else vN nx low one ls depth f (nx s l) (w++ [l]) v) r=r
 | [],_,_=>rfl
 |x::xs,r,h=>by
  rw [Hr,Ab h]
  exact WO xs r h
structure Abi (every:Bool) (w:List Int) (r:IS) (v:DS):Prop where
 stop:r.1=Ic v
 word:r.1=false->r.2.1=w
 n:r.2.2.1=v.1
 m:r.2.2.2.1=v.2.1
 a:r.2.2.2.2=v.2.2.2.1
 all:v.2.2.2.2.1=every
 ok:AZ v
 found:r.1=true->v.2.2.2.1=false->r.2.1=v.2.2.1
theorem Akj {nx:List Int->Int->List Int} {low:List Int->Int} {one ls:List Int} {depth:Int} {every:Bool} : ∀(f:Nat) (s w:List Int) (v:DS),Ic v=false->v.2.2.2.2.1=every->AZ v->
  Abi every w (iN nx low one ls depth every f s w v.1 v.2.1 v.2.2.2.1) (vN nx low one ls depth f s w v)
 |0,s,w,v,hd,he,hv=>⟨hd.symm,λ_=>rfl,rfl,rfl,rfl,he,hv,λh=>by simp [iN] at h⟩
 |f+1,s,w,v,hd,he,hv=>by
  have hvo:=Afp (nx:=nx) (low:=low) (one:=one) (ls:=ls) (depth:=depth) (f+1) s w v hv
  have hd':=hd
  unfold Ic at hd'
  rw [he,Bool.or_eq_false_iff,Bool.and_eq_false_iff] at hd'
  obtain ⟨ha,hm⟩:=hd'
  have h0:=hv.m0
  have hm:every=false->v.2.1=0:= λe=>by
   rcases hm with h|h
   ·have:=of_decide_eq_false h;omega
   ·rw [e] at h;cases h
  by_cases h1:v.1=20000
  ·have e1:vN nx low one ls depth (f+1) s w v=(v.1,v.2.1,v.2.2.1,true,v.2.2.2.2):=by rw [vN,Ab h1]
   have e2:iN nx low one ls depth every (f+1) s w v.1 v.2.1 v.2.2.2.1=(true,w,v.1,v.2.1,true):=by rw [iN,Ab h1]
   rw [e1] at hvo⊢
   rw [e2]
   exact {stop:=rfl,word:= λh=>by simp at h,n:=rfl,m:=rfl,a:=rfl,all:=he,ok:=hvo,found:= λ_ h=>by simp at h}
  by_cases h2:(w.length:Int)+low s>depth
  ·have e1:vN nx low one ls depth (f+1) s w v=(v.1+1,v.2):=by rw [vN,Ag h1,Ab h2]
   have e2:iN nx low one ls depth every (f+1) s w v.1 v.2.1 v.2.2.2.1=(false,w,v.1+1,v.2.1,v.2.2.2.1):=by rw [iN,Ag h1,Ab h2]
   rw [e1] at hvo⊢
   rw [e2]
   exact {stop:=hd.symm,word:= λ_=>rfl,n:=rfl,m:=rfl,a:=rfl,all:=he,ok:=hvo,found:= λh=>by simp at h}
  by_cases h3:(w.length:Int)=depth
  ·by_cases h4:s=one
   ·have e1:vN nx low one ls depth (f+1) s w v=(v.1+1,v.2.1+1,(if v.2.1=0 then w else v.2.2.1),v.2.2.2):=by rw [vN,Ag h1,Ag h2,Ab h3,Ab h4]
    have e2:iN nx low one ls depth every (f+1) s w v.1 v.2.1 v.2.2.2.1=(!every,w,v.1+1,v.2.1+1,v.2.2.2.1):=by rw [iN,Ag h1,Ag h2,Ab ⟨h4,h3⟩]
    rw [e1] at hvo⊢
    rw [e2]
    refine {stop:=?_,word:= λ_=>rfl,n:=rfl,m:=rfl,a:=rfl,all:=he,ok:=hvo,found:= λh _=>?_}
    ·show (!every)=(v.2.2.2.1||(decide (0<v.2.1+1)&&!v.2.2.2.2.1))
     rw [ha,he,Er (by omega)]
     simp
    ·have h:(!every)=true:=h
     show w=if v.2.1=0 then w else v.2.2.1
     rw [Ab (hm (by cases every<;>simp_all))]
   ·have e1:vN nx low one ls depth (f+1) s w v=(v.1+1,v.2):=by rw [vN,Ag h1,Ag h2,Ab h3,Ag h4]
    have e2:iN nx low one ls depth every (f+1) s w v.1 v.2.1 v.2.2.2.1=(false,w,v.1+1,v.2.1,v.2.2.2.1):=by rw [iN,Ag h1,Ag h2,Ag (λh=>h4 h.1),Ab h3]
    rw [e1] at hvo⊢
    rw [e2]
    exact {stop:=hd.symm,word:= λ_=>rfl,n:=rfl,m:=rfl,a:=rfl,all:=he,ok:=hvo,found:= λh=>by simp at h}
  have hs:AZ ((v.1+1,v.2):DS):=by
   have:=hv.n0;have:=hv.n1;have:=hv.m1
   exact ⟨by show 0<=v.1+1;omega,by show v.1+1<=20000;omega,h0,by show v.2.1<=v.1+1;omega⟩
  rw [vN,Ag h1,Ag h2,Ag h3,iN,Ag h1,Ag h2,Ag (λh=>h3 h.2),Ag h3,List.foldl_filter]
  refine ve (R:= λ(r:IS) (u:DS)=>Abi every w r u) ls _ _ {stop:=hd.symm,word:= λ_=>rfl,n:=rfl,m:=rfl,a:=rfl,all:=he,ok:=hs,found:= λh=>by simp at h} λr u l _ hR=>?_
  by_cases hl:l= -Mv w
  ·rw [Ab (.inr hl),Ag (by simp [hl])]
   exact hR
  rw [Ab (show (!(l== -Mv w))=true by simp [hl])]
  by_cases Uk:r.1=true
  ·have hu:Ic u=true:=by rw [<-hR.stop];exact Uk
   rw [Ab (.inl Uk),Ab hu]
   exact hR
  have Uk:r.1=false:=by simpa using Uk
  have hu:Ic u=false:=by rw [<-hR.stop,Uk]
  have ga: ¬Ic u=true:=by rw [hu];simp
  rw [Ag (show ¬(r.1=true\/l= -Mv w) by rw [Uk];simp [hl]),Ag ga]
  have ih:=Akj (nx:=nx) (low:=low) (one:=one) (ls:=ls) (depth:=depth) (every:=every) f (nx s l) (w++ [l]) u hu hR.all hR.ok
  rw [hR.n,hR.m,hR.a]
  by_cases hq:(iN nx low one ls depth every f (nx s l) (w++ [l]) u.1 u.2.1 u.2.2.2.1).1=true
  ·rw [Ab hq]
   exact {stop:=ih.stop,word:= λh=>by rw [hq] at h;simp at h,n:=ih.n,m:=ih.m,a:=ih.a,all:=ih.all,ok:=ih.ok,found:=ih.found}
  ·rw [Ag hq]
   have hq:(iN nx low one ls depth every f (nx s l) (w++ [l]) u.1 u.2.1 u.2.2.2.1).1=false:=by simpa using hq
   exact {stop:=by rw [<-ih.stop,hq],word:= λ_=>rfl,n:=ih.n,m:=ih.m,a:=ih.a,all:=ih.all,ok:=ih.ok,found:= λh=>by simp at h}
abbrev SR:Type:=PP×Option BB×Int×Bool×List Int×Int×Int×Bool×Unit
noncomputable def eh (s:List Int):Bool:=decide (s=upto s.length)
noncomputable abbrev qX:Spec:=Fb (.pair tL .unit) .bool false true (λx=>short x.1) (λx=>eh x.1)
def Ru (g:List (List Int)) (s:List Int) (l:Int):List Int:=Al s (Bm g l)
noncomputable def td (n:Int) (g:List (List Int)) (b:Option BB) (Dw:Int) (every:Bool) (w:List Int) (nodes found:Int) (ab:Bool) (x:List Int):IS:=
 iN (Ru g) (Xd b) (upto n.toNat) (Ay g.length) Dw every ((Dw-w.length).toNat+1) x w nodes found ab
noncomputable def JU (p:PP) (ts:List TT) (s w:List Int) (depth:Int) (v:DS):DS:=
 vN (Ru p.2.2.1) (Kw ts) (upto p.1.toNat) (Ay p.2.2.1.length) depth ((depth-w.length).toNat+1) s w v
def BG (n:Int) (str:ByteArray) (g:List (List Int)) (b:Option BB) (Dw:Int) (w:List Int) (nodes found:Int) (x:List Int):Prop:=
 ∃ts,b=some (Cu ts)/\Ok (n,str,g,()) ts x=true/\Dw<=30/\(w.length:Int)<=Dw/\(∀l∈w,Iu g.length l)/\(0<=nodes/\nodes<=20000)/\0<=found/\found<=nodes
def Abl (p:PP) (ts:List TT) (s w:List Int) (depth:Int) (v:DS):Prop:=
 Ok p ts s=true/\depth<=30/\(w.length:Int)<=depth/\(∀l∈w,Iu p.2.2.1.length l)/\AZ v
noncomputable abbrev VQ:MSpec:= {ptr:=some (63,10),Ja:= [none],ins:= [(false, .Em tI),(false, .Em .str),(false, .Em dS),(false, .Em (.optr Tl)),(false, .Em tI),(false, .Em .bool),(false,rL),(false, .Em tI),(false, .Em tI),(false, .Em .bool),(false, .Em tL)],Hb:=false,Fu:= [none],outs:= [.Em tI, .Em .str, .Em dS, .Em (.optr Tl), .Em tI, .Em .bool,rL, .Em tI, .Em tI, .Em .bool, .Em .bool],fn:= λ_=>none}
noncomputable def jQ (n:Int) (str:ByteArray) (g:List (List Int)) (b:Option BB) (Dw:Int) (every:Bool) (q:IS):Int×ByteArray×List (List Int)×Option BB×Int×Bool×List Int×Int×Int×Bool×Bool×Unit:=(n,str,g,b,Dw,every,q.2.1,q.2.2.1,q.2.2.2.1,q.2.2.2.2,q.1,())
noncomputable abbrev Vd (m:Nat):MSpec:=iy VQ (λx=>BG x.1 x.2.1 x.2.2.1 x.2.2.2.1 x.2.2.2.2.1 x.2.2.2.2.2.2.1 x.2.2.2.2.2.2.2.1 x.2.2.2.2.2.2.2.2.1 x.2.2.2.2.2.2.2.2.2.2.1/\(x.2.2.2.2.1-List.length x.2.2.2.2.2.2.1).toNat<m)
 (λx=>(jQ x.1 x.2.1 x.2.2.1 x.2.2.2.1 x.2.2.2.2.1 x.2.2.2.2.2.1 (td x.1 x.2.2.1 x.2.2.2.1 x.2.2.2.2.1 x.2.2.2.2.2.1 x.2.2.2.2.2.2.1 x.2.2.2.2.2.2.2.1 x.2.2.2.2.2.2.2.2.1 x.2.2.2.2.2.2.2.2.2.1 x.2.2.2.2.2.2.2.2.2.2.1),()))
noncomputable abbrev pk:MSpec:=iy VQ (λx=>BG x.1 x.2.1 x.2.2.1 x.2.2.2.1 x.2.2.2.2.1 x.2.2.2.2.2.2.1 x.2.2.2.2.2.2.2.1 x.2.2.2.2.2.2.2.2.1 x.2.2.2.2.2.2.2.2.2.2.1)
 (λx=>(jQ x.1 x.2.1 x.2.2.1 x.2.2.2.1 x.2.2.2.2.1 x.2.2.2.2.2.1 (td x.1 x.2.2.1 x.2.2.2.1 x.2.2.2.2.1 x.2.2.2.2.2.1 x.2.2.2.2.2.2.1 x.2.2.2.2.2.2.2.1 x.2.2.2.2.2.2.2.2.1 x.2.2.2.2.2.2.2.2.2.1 x.2.2.2.2.2.2.2.2.2.2.1),()))
noncomputable abbrev Zq (m:Nat):Spec:=Fb (.pair Ga (.pair ue (.pair tL (.pair tL (.pair tI (.pair pO .unit)))))) pO false false (λx=>Abl x.1 x.2.1 x.2.2.1 x.2.2.2.1 x.2.2.2.2.1 x.2.2.2.2.2.1/\(x.2.2.2.2.1-List.length x.2.2.2.1).toNat<m) (λx=>JU x.1 x.2.1 x.2.2.1 x.2.2.2.1 x.2.2.2.2.1 x.2.2.2.2.2.1)
noncomputable abbrev eu:Spec:=Fb (.pair pO .unit) .bool false true (λ_=>True) (λx=>Ic x.1)
theorem Aoc (s:List Int) (P:Bool->Prop):(Db (λ(v2:Int×PUnit) (k3:Int×PUnit->Prop)=>Br (decide (v2.1<(↑s.length:Int))) (∃(y4:Int),idx s v2.1=some y4/\Br (v2.1 !=y4) (P false) (k3 (IntKind.i64.wrap (v2.1+(1:Int)),()))) (P true)) ((0:Int),PUnit.unit))=fnW En (look []) qX Tryz.f79 (s,()) P:=by kernel_rfl
theorem Ao8 (v:Int×Int×List Int×Bool×Bool×Unit) (P:Bool->Prop):(Br v.2.2.2.1 (P true) (Br (decide (v.2.1>(0:Int))) (P !v.2.2.2.2.1) (P false)))=fnW En (look []) eu Tryz.f34 (v,()) P:=by kernel_rfl
abbrev Pa:Type:=Int×Int×ByteArray×List (List Int)×Int×Int×List Int×Bool×Bool×Int×Int×Bool×Bool×List Int×PUnit
abbrev dR:Type:=Int×Int×List Int×Bool×Bool×PUnit
abbrev VX (m:Nat) (v11:Pa) (ts:List (List Int×List (List Int)×List Int×Unit)) (Sy:List Int) (Ov:(List Int×PUnit)×PUnit) (Ri:Int) (depth:Int) (Il:List Int) (Jj:Int) (s:List Int) (w:List Int) (Me:Bool) (Yc:List Int) (ba:(List Int×PUnit)×PUnit) (Yd:dR):Prop:= ∃(Xv:dR),(Zq m).fn ((v11.2.1,v11.2.2.1,v11.2.2.2.1,()),ts,Sy,List.take (Ov.1.1++List.take 1 (List.drop 0 [Ri])).length (List.drop 0 (Ov.1.1++List.take 1 (List.drop 0 [Ri]))),depth,(v11.2.2.2.2.1,v11.2.2.2.2.2.1,v11.2.2.2.2.2.2.1,v11.2.2.2.2.2.2.2.1,v11.2.2.2.2.2.2.2.2.1,()),())=some Xv/\(∃(To:Int),idx Il v11.1=some To/\([]:List (Nat×Nat))= []/\(To,())=(Jj,PUnit.unit))/\(∃(To:Int),idx Il v11.1=some To/\([]:List (Nat×Nat))= []/\(To,())=(Ri,PUnit.unit))/\ [(0,v11.2.2.2.2.2.2.2.2.2.2.2.2.2.1.length)]= [(0,v11.2.2.2.2.2.2.2.2.2.2.2.2.2.1.length)]/\(ts,s,w,depth,Il,v11.1,v11.1,Il,(↑Il.length:Int),decide (v11.1<(↑Il.length:Int)),decide (v11.1<(↑Il.length:Int)),v11.2.2.2.2.1,v11.2.2.2.2.2.1,v11.2.2.2.2.2.2.1,v11.2.2.2.2.2.2.2.1,v11.2.2.2.2.2.2.2.2.1,Me,!Me,!Me,v11.2.1,v11.2.2.1,v11.2.2.2.1,ts,v11.2.1,v11.2.2.1,v11.2.2.2.1,s,Il,v11.1,Jj,Jj,Sy,w,Il,v11.1,Ri,Ri,List.take 1 (List.drop 0 [Ri]),List.take (Ov.1.1++List.take 1 (List.drop 0 [Ri])).length (List.drop 0 (Ov.1.1++List.take 1 (List.drop 0 [Ri]))),depth,v11.2.2.2.2.1,v11.2.2.2.2.2.1,v11.2.2.2.2.2.2.1,v11.2.2.2.2.2.2.2.1,v11.2.2.2.2.2.2.2.2.1,Xv,v11.2.1,v11.2.2.1,v11.2.2.2.1,Xv.1,Xv.2.1,Xv.2.2.1,Xv.2.2.2.1,Xv.2.2.2.2.1,v11.2.2.2.2.2.2.2.2.2.1,v11.2.2.2.2.2.2.2.2.2.2.1,v11.2.2.2.2.2.2.2.2.2.2.2.1,v11.2.2.2.2.2.2.2.2.2.2.2.2.1,v11.2.2.2.2.2.2.2.2.2.2.2.2.2.1,())=(ts,s,w,depth,Il,v11.1,v11.1,Il,(↑Il.length:Int),decide (v11.1<(↑Il.length:Int)),decide (v11.1<(↑Il.length:Int)),v11.2.2.2.2.1,v11.2.2.2.2.2.1,v11.2.2.2.2.2.2.1,v11.2.2.2.2.2.2.2.1,v11.2.2.2.2.2.2.2.2.1,Me,!Me,!Me,v11.2.1,v11.2.2.1,v11.2.2.2.1,ts,v11.2.1,v11.2.2.1,v11.2.2.2.1,s,Il,v11.1,Jj,Jj,Yc,w,Il,v11.1,Ri,Ri,List.take 1 (List.drop 0 [Ri]),List.take (ba.1.1++List.take 1 (List.drop 0 [Ri])).length (List.drop 0 (ba.1.1++List.take 1 (List.drop 0 [Ri]))),depth,v11.2.2.2.2.1,v11.2.2.2.2.2.1,v11.2.2.2.2.2.2.1,v11.2.2.2.2.2.2.2.1,v11.2.2.2.2.2.2.2.2.1,Yd,v11.2.1,v11.2.2.1,v11.2.2.2.1,Yd.1,Yd.2.1,Yd.2.2.1,Yd.2.2.2.1,Yd.2.2.2.2.1,v11.2.2.2.2.2.2.2.2.2.1,v11.2.2.2.2.2.2.2.2.2.2.1,v11.2.2.2.2.2.2.2.2.2.2.2.1,v11.2.2.2.2.2.2.2.2.2.2.2.2.1,v11.2.2.2.2.2.2.2.2.2.2.2.2.2.1,PUnit.unit)
abbrev VY (m:Nat) (v10:Pa) (ts:List (List Int×List (List Int)×List Int×Unit)) (Yd:List Int) (Sy:(List Int×PUnit)×PUnit) (Jj:Int) (depth:Int) (y9:List Int) (Me:Int) (s:List Int) (w:List Int) (eF:Bool) (Ri:List Int) (Yc:(List Int×PUnit)×PUnit) (ba:dR):Prop:= ∃(Ov:dR),(Zq m).fn ((v10.2.1,v10.2.2.1,v10.2.2.2.1,()),ts,Yd,List.take (Sy.1.1++List.take 1 (List.drop 0 [Jj])).length (List.drop 0 (Sy.1.1++List.take 1 (List.drop 0 [Jj]))),depth,(v10.2.2.2.2.1,v10.2.2.2.2.2.1,v10.2.2.2.2.2.2.1,v10.2.2.2.2.2.2.2.1,v10.2.2.2.2.2.2.2.2.1,()),())=some Ov/\(∃(Xv:Int),idx y9 v10.1=some Xv/\([]:List (Nat×Nat))= []/\(Xv,())=(Me,PUnit.unit))/\(∃(Xv:Int),idx y9 v10.1=some Xv/\([]:List (Nat×Nat))= []/\(Xv,())=(Jj,PUnit.unit))/\ [(0,v10.2.2.2.2.2.2.2.2.2.2.2.2.2.1.length)]= [(0,v10.2.2.2.2.2.2.2.2.2.2.2.2.2.1.length)]/\(ts,s,w,depth,y9,v10.1,v10.1,y9,(↑y9.length:Int),decide (v10.1<(↑y9.length:Int)),decide (v10.1<(↑y9.length:Int)),v10.2.2.2.2.1,v10.2.2.2.2.2.1,v10.2.2.2.2.2.2.1,v10.2.2.2.2.2.2.2.1,v10.2.2.2.2.2.2.2.2.1,eF,!eF,!eF,v10.2.1,v10.2.2.1,v10.2.2.2.1,ts,v10.2.1,v10.2.2.1,v10.2.2.2.1,s,y9,v10.1,Me,Me,Yd,w,y9,v10.1,Jj,Jj,List.take 1 (List.drop 0 [Jj]),List.take (Sy.1.1++List.take 1 (List.drop 0 [Jj])).length (List.drop 0 (Sy.1.1++List.take 1 (List.drop 0 [Jj]))),depth,v10.2.2.2.2.1,v10.2.2.2.2.2.1,v10.2.2.2.2.2.2.1,v10.2.2.2.2.2.2.2.1,v10.2.2.2.2.2.2.2.2.1,Ov,v10.2.1,v10.2.2.1,v10.2.2.2.1,Ov.1,Ov.2.1,Ov.2.2.1,Ov.2.2.2.1,Ov.2.2.2.2.1,v10.2.2.2.2.2.2.2.2.2.1,v10.2.2.2.2.2.2.2.2.2.2.1,v10.2.2.2.2.2.2.2.2.2.2.2.1,v10.2.2.2.2.2.2.2.2.2.2.2.2.1,v10.2.2.2.2.2.2.2.2.2.2.2.2.2.1,())=(ts,s,w,depth,y9,v10.1,v10.1,y9,(↑y9.length:Int),decide (v10.1<(↑y9.length:Int)),decide (v10.1<(↑y9.length:Int)),v10.2.2.2.2.1,v10.2.2.2.2.2.1,v10.2.2.2.2.2.2.1,v10.2.2.2.2.2.2.2.1,v10.2.2.2.2.2.2.2.2.1,eF,!eF,!eF,v10.2.1,v10.2.2.1,v10.2.2.2.1,ts,v10.2.1,v10.2.2.1,v10.2.2.2.1,s,y9,v10.1,Me,Me,Ri,w,y9,v10.1,Jj,Jj,List.take 1 (List.drop 0 [Jj]),List.take (Yc.1.1++List.take 1 (List.drop 0 [Jj])).length (List.drop 0 (Yc.1.1++List.take 1 (List.drop 0 [Jj]))),depth,v10.2.2.2.2.1,v10.2.2.2.2.2.1,v10.2.2.2.2.2.2.1,v10.2.2.2.2.2.2.2.1,v10.2.2.2.2.2.2.2.2.1,ba,v10.2.1,v10.2.2.1,v10.2.2.2.1,ba.1,ba.2.1,ba.2.2.1,ba.2.2.2.1,ba.2.2.2.2.1,v10.2.2.2.2.2.2.2.2.2.1,v10.2.2.2.2.2.2.2.2.2.2.1,v10.2.2.2.2.2.2.2.2.2.2.2.1,v10.2.2.2.2.2.2.2.2.2.2.2.2.1,v10.2.2.2.2.2.2.2.2.2.2.2.2.2.1,PUnit.unit)
abbrev bF (v11:Pa):Prop:=(([]:List (Nat×Nat))= []/\(v11.2.2.2.2.1,v11.2.2.2.2.2.1,v11.2.2.2.2.2.2.1,v11.2.2.2.2.2.2.2.1,v11.2.2.2.2.2.2.2.2.1,())=(v11.2.2.2.2.1,v11.2.2.2.2.2.1,v11.2.2.2.2.2.2.1,v11.2.2.2.2.2.2.2.1,v11.2.2.2.2.2.2.2.2.1,PUnit.unit))
abbrev bG (v10:Pa):Prop:=(([]:List (Nat×Nat))= []/\(v10.2.2.2.2.1,v10.2.2.2.2.2.1,v10.2.2.2.2.2.2.1,v10.2.2.2.2.2.2.2.1,v10.2.2.2.2.2.2.2.2.1,())=(v10.2.2.2.2.1,v10.2.2.2.2.2.1,v10.2.2.2.2.2.2.1,v10.2.2.2.2.2.2.2.1,v10.2.2.2.2.2.2.2.2.1,PUnit.unit))
abbrev u5 (v11:Pa) (Il:List Int) (Jj:Int) (Ri:Int) (Ov:(List Int×PUnit)×PUnit) (m:Nat) (ts:List (List Int×List (List Int)×List Int×Unit)) (Sy:List Int) (depth:Int) (s:List Int) (w:List Int) (Me:Bool) (Yc:List Int) (ba:(List Int×PUnit)×PUnit) (Yd:dR):Prop:=(([]:List (Nat×Nat))= []/\(v11.2.1,v11.2.2.1,v11.2.2.2.1,())=(v11.2.1,v11.2.2.1,v11.2.2.2.1,PUnit.unit))/\(∃(Xv:Int),idx Il v11.1=some Xv/\([]:List (Nat×Nat))= []/\(Xv,())=(Jj,PUnit.unit))/\(∃(Xv:Int),idx Il v11.1=some Xv/\([]:List (Nat×Nat))= []/\(Xv,())=(Ri,PUnit.unit))/\(bF v11)/\0=0/\Ov.1.1.length=Ov.1.1.length/\Ov.1.1.length+(List.take 1 (List.drop 0 [Ri])).length<=Cr/\(([]:List (Nat×Nat))= []/\(v11.2.1,v11.2.2.1,v11.2.2.2.1,())=(v11.2.1,v11.2.2.1,v11.2.2.2.1,PUnit.unit))/\(∃(Xv:Int),idx Il v11.1=some Xv/\([]:List (Nat×Nat))= []/\(Xv,())=(Jj,PUnit.unit))/\(∃(Xv:Int),idx Il v11.1=some Xv/\([]:List (Nat×Nat))= []/\(Xv,())=(Ri,PUnit.unit))/\(bF v11)/\(VX m v11 ts Sy Ov Ri depth Il Jj s w Me Yc ba Yd)
abbrev u6 (v10:Pa) (y9:List Int) (Me:Int) (Jj:Int) (Sy:(List Int×PUnit)×PUnit) (m:Nat) (ts:List (List Int×List (List Int)×List Int×Unit)) (Yd:List Int) (depth:Int) (s:List Int) (w:List Int) (eF:Bool) (Ri:List Int) (Yc:(List Int×PUnit)×PUnit) (ba:dR):Prop:=(([]:List (Nat×Nat))= []/\(v10.2.1,v10.2.2.1,v10.2.2.2.1,())=(v10.2.1,v10.2.2.1,v10.2.2.2.1,PUnit.unit))/\(∃(Ov:Int),idx y9 v10.1=some Ov/\([]:List (Nat×Nat))= []/\(Ov,())=(Me,PUnit.unit))/\(∃(Ov:Int),idx y9 v10.1=some Ov/\([]:List (Nat×Nat))= []/\(Ov,())=(Jj,PUnit.unit))/\(bG v10)/\0=0/\Sy.1.1.length=Sy.1.1.length/\Sy.1.1.length+(List.take 1 (List.drop 0 [Jj])).length<=Cr/\(([]:List (Nat×Nat))= []/\(v10.2.1,v10.2.2.1,v10.2.2.2.1,())=(v10.2.1,v10.2.2.1,v10.2.2.2.1,PUnit.unit))/\(∃(Ov:Int),idx y9 v10.1=some Ov/\([]:List (Nat×Nat))= []/\(Ov,())=(Me,PUnit.unit))/\(∃(Ov:Int),idx y9 v10.1=some Ov/\([]:List (Nat×Nat))= []/\(Ov,())=(Jj,PUnit.unit))/\(bG v10)/\(VY m v10 ts Yd Sy Jj depth y9 Me s w eF Ri Yc ba)
abbrev bH (v11:Pa):Prop:=(([]:List (Nat×Nat))= []/\(v11.2.1,v11.2.2.1,v11.2.2.2.1,())=(v11.2.1,v11.2.2.1,v11.2.2.2.1,PUnit.unit))
abbrev bI (v10:Pa):Prop:=(([]:List (Nat×Nat))= []/\(v10.2.1,v10.2.2.1,v10.2.2.2.1,())=(v10.2.1,v10.2.2.1,v10.2.2.2.1,PUnit.unit))
abbrev u7 (Il:List Int) (v11:Pa) (Jj:Int):Prop:=(∃(Ov:Int),idx Il v11.1=some Ov/\([]:List (Nat×Nat))= []/\(Ov,())=(Jj,PUnit.unit))
abbrev oX (Il:List Int) (v11:Pa) (Ri:Int):Prop:=(∃(Ov:Int),idx Il v11.1=some Ov/\([]:List (Nat×Nat))= []/\(Ov,())=(Ri,PUnit.unit))
abbrev oY (y9:List Int) (v10:Pa) (Me:Int):Prop:=(∃(Sy:Int),idx y9 v10.1=some Sy/\([]:List (Nat×Nat))= []/\(Sy,())=(Me,PUnit.unit))
abbrev oZ (y9:List Int) (v10:Pa) (Jj:Int):Prop:=(∃(Sy:Int),idx y9 v10.1=some Sy/\([]:List (Nat×Nat))= []/\(Sy,())=(Jj,PUnit.unit))
theorem Aon {m:Nat} (p:Int×ByteArray×List (List Int)×Unit) (ts:List (List Int×List (List Int)×List Int×Unit)) (s w:List Int) (depth:Int) (v:Int×Int×List Int×Bool×Bool×Unit) (P:(Int×Int×List Int×Bool×Bool×Unit)->Prop):(Br (v.1==(20000:Int)) (P (v.1,v.2.1,v.2.2.1,true,v.2.2.2.2.1,())) (∃(y8:Int),bK.fn (ts,s,())=some y8/\Br (decide (IntKind.i64.wrap ((↑w.length:Int)+y8)>depth)) (P (IntKind.i64.wrap (v.1+(1:Int)),v.2.1,v.2.2.1,v.2.2.2.1,v.2.2.2.2.1,())) (Br ((↑w.length:Int)==depth) (∃(y9:List Int),Zg.fn (p.1,())=some y9/\ ∃(Il:Bool),Bq.fn (s,y9,())=some Il/\Br Il (Br (v.2.1==(0:Int)) (∃(gZ:(List Int×PUnit)×PUnit),Ij.fn (w,())=some gZ/\P (IntKind.i64.wrap (v.1+(1:Int)),IntKind.i64.wrap (v.2.1+(1:Int)),List.take gZ.1.1.length (List.drop 0 gZ.1.1),v.2.2.2.1,v.2.2.2.2.1,())) (P (IntKind.i64.wrap (v.1+(1:Int)),IntKind.i64.wrap (v.2.1+(1:Int)),v.2.2.1,v.2.2.2.1,v.2.2.2.2.1,()))) (P (IntKind.i64.wrap (v.1+(1:Int)),v.2.1,v.2.2.1,v.2.2.2.1,v.2.2.2.2.1,()))) (Br (decide ((↑w.length:Int)>(0:Int))) (∃(y9:Int),idx w (IntKind.i64.wrap ((↑w.length:Int)-(1:Int)))=some y9/\ ∃(Il:List Int),dK.fn ((p.1,p.2.1,p.2.2.1,()),y9,())=some Il/\0=0/\0=([]:List Int).length/\Db (λ(v11:Pa) (k12:Pa->Prop)=>Br (decide (v11.1<(↑Il.length:Int))) (∃(Me:Bool),eu.fn ((v11.2.2.2.2.1,v11.2.2.2.2.2.1,v11.2.2.2.2.2.2.1,v11.2.2.2.2.2.2.2.1,v11.2.2.2.2.2.2.2.2.1,()),())=some Me/\Br (!Me) (∃(Jj:Int),idx Il v11.1=some Jj/\ ∃(Ri:Int),idx Il v11.1=some Ri/\ ∃(Yc:List Int),Mx.fn ((v11.2.1,v11.2.2.1,v11.2.2.2.1,()),s,Jj,())=some Yc/\ ∃(ba:(List Int×PUnit)×PUnit),Ij.fn (w,())=some ba/\0=0/\ba.1.1.length=ba.1.1.length/\ba.1.1.length+(List.take 1 (List.drop 0 [Ri])).length<=Cr/\ ∃(Yd:dR),(Zq m).fn ((v11.2.1,v11.2.2.1,v11.2.2.2.1,()),ts,Yc,List.take (ba.1.1++List.take 1 (List.drop 0 [Ri])).length (List.drop 0 (ba.1.1++List.take 1 (List.drop 0 [Ri]))),depth,(v11.2.2.2.2.1,v11.2.2.2.2.2.1,v11.2.2.2.2.2.2.1,v11.2.2.2.2.2.2.2.1,v11.2.2.2.2.2.2.2.2.1,()),())=some Yd/\(0=0/\v11.2.2.2.2.2.2.2.2.2.2.2.2.2.1.length=v11.2.2.2.2.2.2.2.2.2.2.2.2.2.1.length/\k12 (IntKind.i64.wrap (v11.1+(1:Int)),v11.2.1,v11.2.2.1,v11.2.2.2.1,Yd.1,Yd.2.1,Yd.2.2.1,Yd.2.2.2.1,Yd.2.2.2.2.1,v11.2.2.2.2.2.2.2.2.2.1,v11.2.2.2.2.2.2.2.2.2.2.1,v11.2.2.2.2.2.2.2.2.2.2.2.1,v11.2.2.2.2.2.2.2.2.2.2.2.2.1,v11.2.2.2.2.2.2.2.2.2.2.2.2.2.1,()))/\(bH v11)/\(bH v11)/\(∃(Sy:Int),idx Il v11.1=some Sy/\([]:List (Nat×Nat))= []/\(Sy,())=(Jj,PUnit.unit))/\(([]:List (Nat×Nat))= []/\(Jj,())=(Jj,PUnit.unit))/\(∃(Sy:Int),idx Il v11.1=some Sy/\([]:List (Nat×Nat))= []/\(Sy,())=(Ri,PUnit.unit))/\(([]:List (Nat×Nat))= []/\(Ri,())=(Ri,PUnit.unit))/\(bF v11)/\(∃(Sy:List Int),Mx.fn ((v11.2.1,v11.2.2.1,v11.2.2.2.1,()),s,Jj,())=some Sy/\(bH v11)/\(u7 Il v11 Jj)/\(oX Il v11 Ri)/\(([]:List (Nat×Nat))= []/\(Ri,())=(Ri,PUnit.unit))/\(bF v11)/\(∃(Ov:(List Int×PUnit)×PUnit),Ij.fn (w,())=some Ov/\(bH v11)/\(∃(Xv:Int),idx Il v11.1=some Xv/\([]:List (Nat×Nat))= []/\(Xv,())=(Jj,PUnit.unit))/\(∃(Xv:Int),idx Il v11.1=some Xv/\([]:List (Nat×Nat))= []/\(Xv,())=(Ri,PUnit.unit))/\(([]:List (Nat×Nat))= []/\(Ri,())=(Ri,PUnit.unit))/\(bF v11)/\(u5 v11 Il Jj Ri Ov m ts Sy depth s w Me Yc ba Yd))/\(bH v11)/\(u7 Il v11 Jj)/\(oX Il v11 Ri)/\(bF v11)/\ ∃(Ov:(List Int×PUnit)×PUnit),Ij.fn (w,())=some Ov/\(u5 v11 Il Jj Ri Ov m ts Sy depth s w Me Yc ba Yd))/\(bH v11)/\(bH v11)/\(∃(Sy:Int),idx Il v11.1=some Sy/\([]:List (Nat×Nat))= []/\(Sy,())=(Jj,PUnit.unit))/\(([]:List (Nat×Nat))= []/\(Jj,())=(Jj,PUnit.unit))/\(∃(Sy:Int),idx Il v11.1=some Sy/\([]:List (Nat×Nat))= []/\(Sy,())=(Ri,PUnit.unit))/\(bF v11)/\ ∃(Sy:List Int),Mx.fn ((v11.2.1,v11.2.2.1,v11.2.2.2.1,()),s,Jj,())=some Sy/\(bH v11)/\(u7 Il v11 Jj)/\(oX Il v11 Ri)/\(bF v11)/\ ∃(Ov:(List Int×PUnit)×PUnit),Ij.fn (w,())=some Ov/\(u5 v11 Il Jj Ri Ov m ts Sy depth s w Me Yc ba Yd)) (P (v11.2.2.2.2.1,v11.2.2.2.2.2.1,v11.2.2.2.2.2.2.1,v11.2.2.2.2.2.2.2.1,v11.2.2.2.2.2.2.2.2.1,()))) (P (v11.2.2.2.2.1,v11.2.2.2.2.2.1,v11.2.2.2.2.2.2.1,v11.2.2.2.2.2.2.2.1,v11.2.2.2.2.2.2.2.2.1,()))) ((0:Int),p.1,p.2.1,p.2.2.1,IntKind.i64.wrap (v.1+(1:Int)),v.2.1,v.2.2.1,v.2.2.2.1,v.2.2.2.2.1,Int.ofNat (nat_lit 0),Int.ofNat (nat_lit 0),false,false,[],PUnit.unit)) (∃(y9:List Int),dK.fn ((p.1,p.2.1,p.2.2.1,()),(0:Int),())=some y9/\0=0/\0=([]:List Int).length/\Db (λ(v10:Pa) (k11:Pa->Prop)=>Br (decide (v10.1<(↑y9.length:Int))) (∃(eF:Bool),eu.fn ((v10.2.2.2.2.1,v10.2.2.2.2.2.1,v10.2.2.2.2.2.2.1,v10.2.2.2.2.2.2.2.1,v10.2.2.2.2.2.2.2.2.1,()),())=some eF/\Br (!eF) (∃(Me:Int),idx y9 v10.1=some Me/\ ∃(Jj:Int),idx y9 v10.1=some Jj/\ ∃(Ri:List Int),Mx.fn ((v10.2.1,v10.2.2.1,v10.2.2.2.1,()),s,Me,())=some Ri/\ ∃(Yc:(List Int×PUnit)×PUnit),Ij.fn (w,())=some Yc/\0=0/\Yc.1.1.length=Yc.1.1.length/\Yc.1.1.length+(List.take 1 (List.drop 0 [Jj])).length<=Cr/\ ∃(ba:dR),(Zq m).fn ((v10.2.1,v10.2.2.1,v10.2.2.2.1,()),ts,Ri,List.take (Yc.1.1++List.take 1 (List.drop 0 [Jj])).length (List.drop 0 (Yc.1.1++List.take 1 (List.drop 0 [Jj]))),depth,(v10.2.2.2.2.1,v10.2.2.2.2.2.1,v10.2.2.2.2.2.2.1,v10.2.2.2.2.2.2.2.1,v10.2.2.2.2.2.2.2.2.1,()),())=some ba/\(0=0/\v10.2.2.2.2.2.2.2.2.2.2.2.2.2.1.length=v10.2.2.2.2.2.2.2.2.2.2.2.2.2.1.length/\k11 (IntKind.i64.wrap (v10.1+(1:Int)),v10.2.1,v10.2.2.1,v10.2.2.2.1,ba.1,ba.2.1,ba.2.2.1,ba.2.2.2.1,ba.2.2.2.2.1,v10.2.2.2.2.2.2.2.2.2.1,v10.2.2.2.2.2.2.2.2.2.2.1,v10.2.2.2.2.2.2.2.2.2.2.2.1,v10.2.2.2.2.2.2.2.2.2.2.2.2.1,v10.2.2.2.2.2.2.2.2.2.2.2.2.2.1,()))/\(bI v10)/\(bI v10)/\(∃(Yd:Int),idx y9 v10.1=some Yd/\([]:List (Nat×Nat))= []/\(Yd,())=(Me,PUnit.unit))/\(([]:List (Nat×Nat))= []/\(Me,())=(Me,PUnit.unit))/\(∃(Yd:Int),idx y9 v10.1=some Yd/\([]:List (Nat×Nat))= []/\(Yd,())=(Jj,PUnit.unit))/\(([]:List (Nat×Nat))= []/\(Jj,())=(Jj,PUnit.unit))/\(bG v10)/\(∃(Yd:List Int),Mx.fn ((v10.2.1,v10.2.2.1,v10.2.2.2.1,()),s,Me,())=some Yd/\(bI v10)/\(oY y9 v10 Me)/\(oZ y9 v10 Jj)/\(([]:List (Nat×Nat))= []/\(Jj,())=(Jj,PUnit.unit))/\(bG v10)/\(∃(Sy:(List Int×PUnit)×PUnit),Ij.fn (w,())=some Sy/\(bI v10)/\(∃(Ov:Int),idx y9 v10.1=some Ov/\([]:List (Nat×Nat))= []/\(Ov,())=(Me,PUnit.unit))/\(∃(Ov:Int),idx y9 v10.1=some Ov/\([]:List (Nat×Nat))= []/\(Ov,())=(Jj,PUnit.unit))/\(([]:List (Nat×Nat))= []/\(Jj,())=(Jj,PUnit.unit))/\(bG v10)/\(u6 v10 y9 Me Jj Sy m ts Yd depth s w eF Ri Yc ba))/\(bI v10)/\(oY y9 v10 Me)/\(oZ y9 v10 Jj)/\(bG v10)/\ ∃(Sy:(List Int×PUnit)×PUnit),Ij.fn (w,())=some Sy/\(u6 v10 y9 Me Jj Sy m ts Yd depth s w eF Ri Yc ba))/\(bI v10)/\(bI v10)/\(∃(Yd:Int),idx y9 v10.1=some Yd/\([]:List (Nat×Nat))= []/\(Yd,())=(Me,PUnit.unit))/\(([]:List (Nat×Nat))= []/\(Me,())=(Me,PUnit.unit))/\(∃(Yd:Int),idx y9 v10.1=some Yd/\([]:List (Nat×Nat))= []/\(Yd,())=(Jj,PUnit.unit))/\(bG v10)/\ ∃(Yd:List Int),Mx.fn ((v10.2.1,v10.2.2.1,v10.2.2.2.1,()),s,Me,())=some Yd/\(bI v10)/\(oY y9 v10 Me)/\(oZ y9 v10 Jj)/\(bG v10)/\ ∃(Sy:(List Int×PUnit)×PUnit),Ij.fn (w,())=some Sy/\(u6 v10 y9 Me Jj Sy m ts Yd depth s w eF Ri Yc ba)) (P (v10.2.2.2.2.1,v10.2.2.2.2.2.1,v10.2.2.2.2.2.2.1,v10.2.2.2.2.2.2.2.1,v10.2.2.2.2.2.2.2.2.1,()))) (P (v10.2.2.2.2.1,v10.2.2.2.2.2.1,v10.2.2.2.2.2.2.1,v10.2.2.2.2.2.2.2.1,v10.2.2.2.2.2.2.2.2.1,()))) ((0:Int),p.1,p.2.1,p.2.2.1,IntKind.i64.wrap (v.1+(1:Int)),v.2.1,v.2.2.1,v.2.2.2.1,v.2.2.2.2.1,Int.ofNat (nat_lit 0),Int.ofNat (nat_lit 0),false,false,[],PUnit.unit))))))=fnW Afd (look [(33,bK),(63,Zg),(62,Bq),(64,Ij),(65,dK),(66,Mx),(34,eu),(45,Pp.q (Zq m))]) (Zq (m+1)) Tryz.f45 (p,ts,s,w,depth,v,()) P:=by kernel_rfl
abbrev aO:Type:=Int×List Int×Int×ByteArray×List (List Int)×Option (List (List Int×List (List Int)×List Int×PUnit)×List (ByteArray->Option Int)×PUnit)×Int×Bool×Int×Int×Bool×PUnit
abbrev pM:Type:=(Int×ByteArray×List (List Int)×Option (List (List Int×List (List Int)×List Int×PUnit)×List (ByteArray->Option Int)×PUnit)×Int×Bool×List Int×Int×Int×Bool×Bool×PUnit)×PUnit
theorem Aj4 {m:Nat} (n:Int) (str:ByteArray) (g:List (List Int)) (b:Option (List (List Int×List (List Int)×List Int×Unit)×List (ByteArray->Option Int)×Unit)) (Dw:Int) (every:Bool) (w:List Int) (nodes found:Int) (ab:Bool) (x:List Int) (P:((Int×ByteArray×List (List Int)×Option BB×Int×Bool×List Int×Int×Int×Bool×Bool×Unit)×Unit)->Prop):(Br (nodes==(20000:Int)) (P ((n,str,g,b,Dw,every,List.take w.length (List.drop 0 w),nodes,found,true,true,()),())) (∃(Me:Int),Tz.fn (List.take w.length (List.drop 0 w),())=some Me/\ ∃(Jj:Int),bL.fn (b,x,())=some Jj/\Br (decide (IntKind.i64.wrap (Me+Jj)>Dw)) (P ((n,str,g,b,Dw,every,List.take w.length (List.drop 0 w),IntKind.i64.wrap (nodes+(1:Int)),found,ab,false,()),())) (∃(Ri:Bool),qX.fn (x,())=some Ri/\Br Ri (Br (Me==Dw) (P ((n,str,g,b,Dw,every,List.take w.length (List.drop 0 w),IntKind.i64.wrap (nodes+(1:Int)),IntKind.i64.wrap (found+(1:Int)),ab,!every,()),())) (Br (Me==Dw) (P ((n,str,g,b,Dw,every,List.take w.length (List.drop 0 w),IntKind.i64.wrap (nodes+(1:Int)),found,ab,false,()),())) (Br (decide (Me>(0:Int))) (((0:Int)<=IntKind.i64.wrap (Me-(1:Int))/\IntKind.i64.wrap (Me-(1:Int))<(↑w.length:Int))/\ ∃(Yc:Int),w[0+(IntKind.i64.wrap (Me-(1:Int))).toNat]?=some Yc/\ ∃(ba:List Int),Mm.fn ((↑g.length:Int),())=some ba/\0=0/\(List.take w.length (List.drop 0 w)).length=(List.take w.length (List.drop 0 w)).length/\Db (λ(Nh:aO) (k19:aO->Prop)=>Br (decide (Nh.1<(↑ba.length:Int))) (∃(Ov:Int),idx ba Nh.1=some Ov/\Br (Ov==IntKind.i64.wrap ((0:Int)-Yc)) (0=0/\(List.take Nh.2.1.length (List.drop 0 Nh.2.1)).length=(List.take Nh.2.1.length (List.drop 0 Nh.2.1)).length/\k19 (IntKind.i64.wrap (Nh.1+(1:Int)),List.take Nh.2.1.length (List.drop 0 Nh.2.1),Nh.2.2.1,Nh.2.2.2.1,Nh.2.2.2.2.1,Nh.2.2.2.2.2.1,Nh.2.2.2.2.2.2.1,Nh.2.2.2.2.2.2.2.1,Nh.2.2.2.2.2.2.2.2.1,Nh.2.2.2.2.2.2.2.2.2.1,Nh.2.2.2.2.2.2.2.2.2.2.1,())) (0=0/\Nh.2.1.length=Nh.2.1.length/\Nh.2.1.length+(List.take 1 (List.drop 0 [Ov])).length<=Cr/\ ∃(Xv:List Int),Lp.fn (Nh.2.2.2.2.1,Ov,())=some Xv/\ ∃(To:List Int),Np.fn (x,Xv,())=some To/\0=0/\(Nh.2.1++List.take 1 (List.drop 0 [Ov])).length=(Nh.2.1++List.take 1 (List.drop 0 [Ov])).length/\ ∃(Yi:pM),(Vd m).fn (Nh.2.2.1,Nh.2.2.2.1,Nh.2.2.2.2.1,Nh.2.2.2.2.2.1,Nh.2.2.2.2.2.2.1,Nh.2.2.2.2.2.2.2.1,Nh.2.1++List.take 1 (List.drop 0 [Ov]),Nh.2.2.2.2.2.2.2.2.1,Nh.2.2.2.2.2.2.2.2.2.1,Nh.2.2.2.2.2.2.2.2.2.2.1,To,())=some Yi/\Br Yi.1.2.2.2.2.2.2.2.2.2.2.1 (P ((Yi.1.1,Yi.1.2.1,Yi.1.2.2.1,Yi.1.2.2.2.1,Yi.1.2.2.2.2.1,Yi.1.2.2.2.2.2.1,List.take Yi.1.2.2.2.2.2.2.1.length (List.drop 0 Yi.1.2.2.2.2.2.2.1),Yi.1.2.2.2.2.2.2.2.1,Yi.1.2.2.2.2.2.2.2.2.1,Yi.1.2.2.2.2.2.2.2.2.2.1,true,()),())) (((0:Int)<=(0:Int)/\(0:Int)<=Me/\Me<=(↑Yi.1.2.2.2.2.2.2.1.length:Int))/\0=0/\(List.take (Me.toNat-Int.toNat (0:Int)) (List.drop (0+Int.toNat (0:Int)) Yi.1.2.2.2.2.2.2.1)).length=(List.take (Me.toNat-Int.toNat (0:Int)) (List.drop (0+Int.toNat (0:Int)) Yi.1.2.2.2.2.2.2.1)).length/\k19 (IntKind.i64.wrap (Nh.1+(1:Int)),List.take (Me.toNat-Int.toNat (0:Int)) (List.drop (0+Int.toNat (0:Int)) Yi.1.2.2.2.2.2.2.1),Yi.1.1,Yi.1.2.1,Yi.1.2.2.1,Yi.1.2.2.2.1,Yi.1.2.2.2.2.1,Yi.1.2.2.2.2.2.1,Yi.1.2.2.2.2.2.2.2.1,Yi.1.2.2.2.2.2.2.2.2.1,Yi.1.2.2.2.2.2.2.2.2.2.1,())))) (P ((Nh.2.2.1,Nh.2.2.2.1,Nh.2.2.2.2.1,Nh.2.2.2.2.2.1,Nh.2.2.2.2.2.2.1,Nh.2.2.2.2.2.2.2.1,List.take Nh.2.1.length (List.drop 0 Nh.2.1),Nh.2.2.2.2.2.2.2.2.1,Nh.2.2.2.2.2.2.2.2.2.1,Nh.2.2.2.2.2.2.2.2.2.2.1,false,()),()))) ((0:Int),List.take w.length (List.drop 0 w),n,str,g,b,Dw,every,IntKind.i64.wrap (nodes+(1:Int)),found,ab,PUnit.unit)) (∃(Yc:List Int),Mm.fn ((↑g.length:Int),())=some Yc/\0=0/\(List.take w.length (List.drop 0 w)).length=(List.take w.length (List.drop 0 w)).length/\Db (λ(Ng:aO) (k18:aO->Prop)=>Br (decide (Ng.1<(↑Yc.length:Int))) (∃(Sy:Int),idx Yc Ng.1=some Sy/\Br (Sy==IntKind.i64.wrap ((0:Int)-(0:Int))) (0=0/\(List.take Ng.2.1.length (List.drop 0 Ng.2.1)).length=(List.take Ng.2.1.length (List.drop 0 Ng.2.1)).length/\k18 (IntKind.i64.wrap (Ng.1+(1:Int)),List.take Ng.2.1.length (List.drop 0 Ng.2.1),Ng.2.2.1,Ng.2.2.2.1,Ng.2.2.2.2.1,Ng.2.2.2.2.2.1,Ng.2.2.2.2.2.2.1,Ng.2.2.2.2.2.2.2.1,Ng.2.2.2.2.2.2.2.2.1,Ng.2.2.2.2.2.2.2.2.2.1,Ng.2.2.2.2.2.2.2.2.2.2.1,())) (0=0/\Ng.2.1.length=Ng.2.1.length/\Ng.2.1.length+(List.take 1 (List.drop 0 [Sy])).length<=Cr/\ ∃(Ov:List Int),Lp.fn (Ng.2.2.2.2.1,Sy,())=some Ov/\ ∃(Xv:List Int),Np.fn (x,Ov,())=some Xv/\0=0/\(Ng.2.1++List.take 1 (List.drop 0 [Sy])).length=(Ng.2.1++List.take 1 (List.drop 0 [Sy])).length/\ ∃(To:pM),(Vd m).fn (Ng.2.2.1,Ng.2.2.2.1,Ng.2.2.2.2.1,Ng.2.2.2.2.2.1,Ng.2.2.2.2.2.2.1,Ng.2.2.2.2.2.2.2.1,Ng.2.1++List.take 1 (List.drop 0 [Sy]),Ng.2.2.2.2.2.2.2.2.1,Ng.2.2.2.2.2.2.2.2.2.1,Ng.2.2.2.2.2.2.2.2.2.2.1,Xv,())=some To/\Br To.1.2.2.2.2.2.2.2.2.2.2.1 (P ((To.1.1,To.1.2.1,To.1.2.2.1,To.1.2.2.2.1,To.1.2.2.2.2.1,To.1.2.2.2.2.2.1,List.take To.1.2.2.2.2.2.2.1.length (List.drop 0 To.1.2.2.2.2.2.2.1),To.1.2.2.2.2.2.2.2.1,To.1.2.2.2.2.2.2.2.2.1,To.1.2.2.2.2.2.2.2.2.2.1,true,()),())) (((0:Int)<=(0:Int)/\(0:Int)<=Me/\Me<=(↑To.1.2.2.2.2.2.2.1.length:Int))/\0=0/\(List.take (Me.toNat-Int.toNat (0:Int)) (List.drop (0+Int.toNat (0:Int)) To.1.2.2.2.2.2.2.1)).length=(List.take (Me.toNat-Int.toNat (0:Int)) (List.drop (0+Int.toNat (0:Int)) To.1.2.2.2.2.2.2.1)).length/\k18 (IntKind.i64.wrap (Ng.1+(1:Int)),List.take (Me.toNat-Int.toNat (0:Int)) (List.drop (0+Int.toNat (0:Int)) To.1.2.2.2.2.2.2.1),To.1.1,To.1.2.1,To.1.2.2.1,To.1.2.2.2.1,To.1.2.2.2.2.1,To.1.2.2.2.2.2.1,To.1.2.2.2.2.2.2.2.1,To.1.2.2.2.2.2.2.2.2.1,To.1.2.2.2.2.2.2.2.2.2.1,())))) (P ((Ng.2.2.1,Ng.2.2.2.1,Ng.2.2.2.2.1,Ng.2.2.2.2.2.1,Ng.2.2.2.2.2.2.1,Ng.2.2.2.2.2.2.2.1,List.take Ng.2.1.length (List.drop 0 Ng.2.1),Ng.2.2.2.2.2.2.2.2.1,Ng.2.2.2.2.2.2.2.2.2.1,Ng.2.2.2.2.2.2.2.2.2.2.1,false,()),()))) ((0:Int),List.take w.length (List.drop 0 w),n,str,g,b,Dw,every,IntKind.i64.wrap (nodes+(1:Int)),found,ab,PUnit.unit))))) (Br (Me==Dw) (P ((n,str,g,b,Dw,every,List.take w.length (List.drop 0 w),IntKind.i64.wrap (nodes+(1:Int)),found,ab,false,()),())) (Br (decide (Me>(0:Int))) (((0:Int)<=IntKind.i64.wrap (Me-(1:Int))/\IntKind.i64.wrap (Me-(1:Int))<(↑w.length:Int))/\ ∃(Yc:Int),w[0+(IntKind.i64.wrap (Me-(1:Int))).toNat]?=some Yc/\ ∃(ba:List Int),Mm.fn ((↑g.length:Int),())=some ba/\0=0/\(List.take w.length (List.drop 0 w)).length=(List.take w.length (List.drop 0 w)).length/\Db (λ(Nh:aO) (k19:aO->Prop)=>Br (decide (Nh.1<(↑ba.length:Int))) (∃(Ov:Int),idx ba Nh.1=some Ov/\Br (Ov==IntKind.i64.wrap ((0:Int)-Yc)) (0=0/\(List.take Nh.2.1.length (List.drop 0 Nh.2.1)).length=(List.take Nh.2.1.length (List.drop 0 Nh.2.1)).length/\k19 (IntKind.i64.wrap (Nh.1+(1:Int)),List.take Nh.2.1.length (List.drop 0 Nh.2.1),Nh.2.2.1,Nh.2.2.2.1,Nh.2.2.2.2.1,Nh.2.2.2.2.2.1,Nh.2.2.2.2.2.2.1,Nh.2.2.2.2.2.2.2.1,Nh.2.2.2.2.2.2.2.2.1,Nh.2.2.2.2.2.2.2.2.2.1,Nh.2.2.2.2.2.2.2.2.2.2.1,())) (0=0/\Nh.2.1.length=Nh.2.1.length/\Nh.2.1.length+(List.take 1 (List.drop 0 [Ov])).length<=Cr/\ ∃(Xv:List Int),Lp.fn (Nh.2.2.2.2.1,Ov,())=some Xv/\ ∃(To:List Int),Np.fn (x,Xv,())=some To/\0=0/\(Nh.2.1++List.take 1 (List.drop 0 [Ov])).length=(Nh.2.1++List.take 1 (List.drop 0 [Ov])).length/\ ∃(Yi:pM),(Vd m).fn (Nh.2.2.1,Nh.2.2.2.1,Nh.2.2.2.2.1,Nh.2.2.2.2.2.1,Nh.2.2.2.2.2.2.1,Nh.2.2.2.2.2.2.2.1,Nh.2.1++List.take 1 (List.drop 0 [Ov]),Nh.2.2.2.2.2.2.2.2.1,Nh.2.2.2.2.2.2.2.2.2.1,Nh.2.2.2.2.2.2.2.2.2.2.1,To,())=some Yi/\Br Yi.1.2.2.2.2.2.2.2.2.2.2.1 (P ((Yi.1.1,Yi.1.2.1,Yi.1.2.2.1,Yi.1.2.2.2.1,Yi.1.2.2.2.2.1,Yi.1.2.2.2.2.2.1,List.take Yi.1.2.2.2.2.2.2.1.length (List.drop 0 Yi.1.2.2.2.2.2.2.1),Yi.1.2.2.2.2.2.2.2.1,Yi.1.2.2.2.2.2.2.2.2.1,Yi.1.2.2.2.2.2.2.2.2.2.1,true,()),())) (((0:Int)<=(0:Int)/\(0:Int)<=Me/\Me<=(↑Yi.1.2.2.2.2.2.2.1.length:Int))/\0=0/\(List.take (Me.toNat-Int.toNat (0:Int)) (List.drop (0+Int.toNat (0:Int)) Yi.1.2.2.2.2.2.2.1)).length=(List.take (Me.toNat-Int.toNat (0:Int)) (List.drop (0+Int.toNat (0:Int)) Yi.1.2.2.2.2.2.2.1)).length/\k19 (IntKind.i64.wrap (Nh.1+(1:Int)),List.take (Me.toNat-Int.toNat (0:Int)) (List.drop (0+Int.toNat (0:Int)) Yi.1.2.2.2.2.2.2.1),Yi.1.1,Yi.1.2.1,Yi.1.2.2.1,Yi.1.2.2.2.1,Yi.1.2.2.2.2.1,Yi.1.2.2.2.2.2.1,Yi.1.2.2.2.2.2.2.2.1,Yi.1.2.2.2.2.2.2.2.2.1,Yi.1.2.2.2.2.2.2.2.2.2.1,())))) (P ((Nh.2.2.1,Nh.2.2.2.1,Nh.2.2.2.2.1,Nh.2.2.2.2.2.1,Nh.2.2.2.2.2.2.1,Nh.2.2.2.2.2.2.2.1,List.take Nh.2.1.length (List.drop 0 Nh.2.1),Nh.2.2.2.2.2.2.2.2.1,Nh.2.2.2.2.2.2.2.2.2.1,Nh.2.2.2.2.2.2.2.2.2.2.1,false,()),()))) ((0:Int),List.take w.length (List.drop 0 w),n,str,g,b,Dw,every,IntKind.i64.wrap (nodes+(1:Int)),found,ab,PUnit.unit)) (∃(Yc:List Int),Mm.fn ((↑g.length:Int),())=some Yc/\0=0/\(List.take w.length (List.drop 0 w)).length=(List.take w.length (List.drop 0 w)).length/\Db (λ(Ng:aO) (k18:aO->Prop)=>Br (decide (Ng.1<(↑Yc.length:Int))) (∃(Sy:Int),idx Yc Ng.1=some Sy/\Br (Sy==IntKind.i64.wrap ((0:Int)-(0:Int))) (0=0/\(List.take Ng.2.1.length (List.drop 0 Ng.2.1)).length=(List.take Ng.2.1.length (List.drop 0 Ng.2.1)).length/\k18 (IntKind.i64.wrap (Ng.1+(1:Int)),List.take Ng.2.1.length (List.drop 0 Ng.2.1),Ng.2.2.1,Ng.2.2.2.1,Ng.2.2.2.2.1,Ng.2.2.2.2.2.1,Ng.2.2.2.2.2.2.1,Ng.2.2.2.2.2.2.2.1,Ng.2.2.2.2.2.2.2.2.1,Ng.2.2.2.2.2.2.2.2.2.1,Ng.2.2.2.2.2.2.2.2.2.2.1,())) (0=0/\Ng.2.1.length=Ng.2.1.length/\Ng.2.1.length+(List.take 1 (List.drop 0 [Sy])).length<=Cr/\ ∃(Ov:List Int),Lp.fn (Ng.2.2.2.2.1,Sy,())=some Ov/\ ∃(Xv:List Int),Np.fn (x,Ov,())=some Xv/\0=0/\(Ng.2.1++List.take 1 (List.drop 0 [Sy])).length=(Ng.2.1++List.take 1 (List.drop 0 [Sy])).length/\ ∃(To:pM),(Vd m).fn (Ng.2.2.1,Ng.2.2.2.1,Ng.2.2.2.2.1,Ng.2.2.2.2.2.1,Ng.2.2.2.2.2.2.1,Ng.2.2.2.2.2.2.2.1,Ng.2.1++List.take 1 (List.drop 0 [Sy]),Ng.2.2.2.2.2.2.2.2.1,Ng.2.2.2.2.2.2.2.2.2.1,Ng.2.2.2.2.2.2.2.2.2.2.1,Xv,())=some To/\Br To.1.2.2.2.2.2.2.2.2.2.2.1 (P ((To.1.1,To.1.2.1,To.1.2.2.1,To.1.2.2.2.1,To.1.2.2.2.2.1,To.1.2.2.2.2.2.1,List.take To.1.2.2.2.2.2.2.1.length (List.drop 0 To.1.2.2.2.2.2.2.1),To.1.2.2.2.2.2.2.2.1,To.1.2.2.2.2.2.2.2.2.1,To.1.2.2.2.2.2.2.2.2.2.1,true,()),())) (((0:Int)<=(0:Int)/\(0:Int)<=Me/\Me<=(↑To.1.2.2.2.2.2.2.1.length:Int))/\0=0/\(List.take (Me.toNat-Int.toNat (0:Int)) (List.drop (0+Int.toNat (0:Int)) To.1.2.2.2.2.2.2.1)).length=(List.take (Me.toNat-Int.toNat (0:Int)) (List.drop (0+Int.toNat (0:Int)) To.1.2.2.2.2.2.2.1)).length/\k18 (IntKind.i64.wrap (Ng.1+(1:Int)),List.take (Me.toNat-Int.toNat (0:Int)) (List.drop (0+Int.toNat (0:Int)) To.1.2.2.2.2.2.2.1),To.1.1,To.1.2.1,To.1.2.2.1,To.1.2.2.2.1,To.1.2.2.2.2.1,To.1.2.2.2.2.2.1,To.1.2.2.2.2.2.2.2.1,To.1.2.2.2.2.2.2.2.2.1,To.1.2.2.2.2.2.2.2.2.2.1,())))) (P ((Ng.2.2.1,Ng.2.2.2.1,Ng.2.2.2.2.1,Ng.2.2.2.2.2.1,Ng.2.2.2.2.2.2.1,Ng.2.2.2.2.2.2.2.1,List.take Ng.2.1.length (List.drop 0 Ng.2.1),Ng.2.2.2.2.2.2.2.2.1,Ng.2.2.2.2.2.2.2.2.2.1,Ng.2.2.2.2.2.2.2.2.2.2.1,false,()),()))) ((0:Int),List.take w.length (List.drop 0 w),n,str,g,b,Dw,every,IntKind.i64.wrap (nodes+(1:Int)),found,ab,PUnit.unit)))))))=fnMW (ry [o1+6]) (look [(78,Tz),(40,bL),(79,qX),(80,Mm),(81,Lp),(70,Np),(55,Pp.m (Vd m))]) (Vd (m+1)) Tryz.f55 (n,str,g,b,Dw,every,w,nodes,found,ab,x,()) P:=by kernel_rfl
theorem Ani (s:List Int) (h:short s):fnW En (look []) qX Tryz.f79 (s,()) (λ(z:Bool)=>z=eh s):=by
 unfold short at h
 refine Eq.mp (Aoc s _) ?_
 refine Bf s.length (λv=>v.1) (λj _=> ∀i (hi:i<s.length),i<j->s[i]=(i:Int)) rfl (λi _ h=>absurd h (by omega)) ?_
 rintro j ⟨i,⟨⟩⟩ K hj hi hR hK
 dsimp only at hi⊢
 subst hi
 refine Br.dec (λhl=>?_) λhl=>?_
 ·have hl:j<s.length:=by omega
  refine ⟨_,Bu hl,Br.of (λhb=>?_) λhb=>?_⟩
  ·have hb:(j:Int)≠s[j]:=by simpa using hb
   show false=eh s
   unfold eh
   refine (Dr λe=>hb ?_).symm
   have:(upto s.length)[j]?=some (j:Int):=by rw [kJ hl]
   rw [<-e,Ac hl] at this
   exact (Ba this).symm
  ·have hb:(j:Int)=s[j]:=by simpa using hb
   rw [Bg (by omega)]
   refine hK hl _ rfl λi hi jC=>?_
   by_cases e:i=j
   ·subst e;exact hb.symm
   ·exact hR i hi (by omega)
 ·have:j=s.length:=by omega
  subst this
  show true=eh s
  unfold eh
  refine (Er (List.ext_getElem (by rw [kK]) λi h1 h2=>?_)).symm
  rw [hR i h1 h1]
  have:(upto s.length)[i]?=some (i:Int):=by rw [kJ h1]
  rw [Ac h2] at this
  exact (Ba this).symm
theorem TB:Sound Tryz.prog 79 qX:=
 Sound.Fb De Bh mixed Tryz.func79 (by kernel_rfl) (by kernel_rfl) λx h=>Ani x.1 h
theorem Ane (v:DS) (_:True):fnW En (look []) eu Tryz.f34 (v,()) (λ(z:Bool)=>z=Ic v):=by
 refine Eq.mp (Ao8 v _) ?_
 unfold Ic
 refine Br.of (λh=>by rw [h];rfl) λh=>?_
 rw [h,Pq]
 refine Br.of (λh=>?_) λh=>?_
 ·rw [show decide (0<v.2.1)=true from h,cg]
 ·rw [show decide (0<v.2.1)=false from h,Bool.false_and]
theorem wU:Sound Tryz.prog 34 eu:=
 Sound.Fb De Bh mixed Tryz.func34 (by kernel_rfl) (by kernel_rfl) λx h=>Ane x.1 h
theorem zv {p:PP} {ts:List TT} {s:List Int} {l:Int} (h:Ok p ts s=true) (hl:Iu (List.length p.2.2.1) l):Ok p ts (Ru p.2.2.1 s l)=true:=by
 obtain ⟨_,_,hr⟩:=eX h
 obtain ⟨hv,hp,hg⟩:=pb hr
 have hm:l∈Ay p.2.2.1.length:=by
  obtain ⟨k,hk,rfl|rfl⟩:=Qj hl
  ·exact (Vz hk).1
  ·exact (Vz hk).2
 unfold Ok at h⊢
 obtain ⟨_,h2⟩:=Dz.1 h
 exact Dz.2 ⟨Ac6 hv (QU hg hm),h2⟩
theorem IM {p:PP} {ts:List TT} {s:List Int} (h:Ok p ts s=true):Valid p/\s.length=p.1.toNat/\s.length<=20/\(∀y∈s,0<=y/\y<p.1)/\aR ts/\dW ts s:=by
 obtain ⟨ha,hb,hr⟩:=eX h
 obtain ⟨hv,hp,hg⟩:=pb hr
 have hV:=valid hv
 have hn:=hV.n
 have h1:=hp.1
 exact ⟨hV,h1,by omega,λy hy=>by have:=hp.row y hy;omega,ha,hb⟩
theorem nk {w:List Int} (h:0<w.length):w[w.length-1]?=some (Mv w):=by
 unfold Mv
 rw [List.getLastD_eq_getLast?,List.getLast?_eq_getElem?]
 cases hw:w[w.length-1]? with
 |none=>rw [List.getElem?_eq_none_iff] at hw;omega
 |some x=>rfl
theorem vU {w:List Int} {n:Nat} (hn:n<=8) (h: ∀l∈w,Iu n l): -8<=Mv w/\Mv w<=8:=by
 cases hw:w with
 |nil=>simp [Mv]
 |cons a r=>
  have hp:0<w.length:=by rw [hw];simp
  have:=h _ (Bv (nk hp))
  rw [hw] at this
  unfold Iu at this
  omega
theorem Aic {m:Nat} (n:Int) (str:ByteArray) (g:List (List Int)) (b:Option BB) (Dw:Int) (every:Bool) (w:List Int) (nodes found:Int) (ab:Bool) (x:List Int)
  (h:BG n str g b Dw w nodes found x/\(Dw-w.length).toNat<m+1):
  fnMW (ry [o1+6]) (look [(78,Tz),(40,bL),(79,qX),(80,Mm),(81,Lp),(70,Np),(55,Pp.m (Vd m))]) (Vd (m+1)) Tryz.f55 (n,str,g,b,Dw,every,w,nodes,found,ab,x,()) (λ(z:(Int×ByteArray×List (List Int)×Option BB×Int×Bool×List Int×Int×Int×Bool×Bool×Unit)×Unit)=>z=(jQ n str g b Dw every (td n g b Dw every w nodes found ab x),())):=by
 obtain ⟨⟨ts,rfl,hh,Am5,XZ,qx,⟨hn0,hn1⟩,hf0,hf1⟩,hm⟩:=h
 obtain ⟨hV,hxl,Ax7,hxr,ha,hb⟩:=IM hh
 have hN:=hV.n
 have hxr: ∀y∈x,0<=y/\y<n:=hxr
 have lF:1<=g.length/\g.length<=8:=hV.uX
 have PW:=tX ha hb
 have hbd:Abd (some (Cu ts)) x:=⟨ts,ha,rfl,hb⟩
 have hid:eh x=decide (x=upto n.toNat):=by unfold eh;rw [hxl]
 have hlb:=vU lF.2 qx
 obtain ⟨q,hq⟩: ∃q,td n g (some (Cu ts)) Dw every w nodes found ab x=q:=⟨_,rfl⟩
 refine Eq.mp (Aj4 n str g (some (Cu ts)) Dw every w nodes found ab x _) ?_
 rw [hq]
 unfold td at hq
 obtain ⟨k,hk⟩: ∃k,(Dw-w.length).toNat=k:=⟨_,rfl⟩
 rw [hk] at hq hm
 rw [iN] at hq
 simp only [Bz,true_and]
 have fin: ∀r:IS,r=q->(((n,str,g,some (Cu ts),Dw,every,r.2.1,r.2.2.1,r.2.2.2.1,r.2.2.2.2,r.1,()),()):(Int×ByteArray×List (List Int)×Option BB×Int×Bool×List Int×Int×Int×Bool×Bool×Unit)×Unit)=(jQ n str g (some (Cu ts)) Dw every q,()):= λr e=>by subst e;rfl
 refine Br.of (λh1=>?_) λh1=>?_
 ·rw [Ab (eq_of_beq h1)] at hq
  exact fin _ hq
 have h1: ¬nodes=20000:=by simpa using h1
 rw [Ag h1] at hq
 refine ⟨(w.length:Int),Ab trivial,Kw ts x,Ab hbd,?_⟩
 show Br (decide (IntKind.i64.wrap ((w.length:Int)+Kw ts x)>Dw)) _ _
 rw [Di (n:=(w.length:Int)+Kw ts x) (by omega) (by omega),Di (n:=nodes+1) (by omega) (by omega),Di (n:=found+1) (by omega) (by omega)]
 have hlE:Xd (some (Cu ts)) x=Kw ts x:=rfl
 refine Br.dec (λh2=>?_) λh2=>?_
 ·rw [Ab (by rw [hlE];exact h2)] at hq
  exact fin _ hq
 rw [Ag (by rw [hlE];exact h2)] at hq
 refine ⟨eh x,Ab (by show x.length<=4294967296;omega),?_⟩
 show Br (eh x) _ _
 rw [hid]
 have rX:Mm.fn ((g.length:Int),())=some (Ay g.length):=Ab ⟨Int.natCast_nonneg _,by show ((g.length:Nat):Int)<=8;omega⟩
 have hL:=Ol g.length
 refine Br.of (λh3=>Br.of (λh4=>?a) λh4=>Br.of (λh5=>?b) λh5=>?c) λh3=>Br.of (λh5=>?d) λh5=>?e
 case a=>
  rw [Ab ⟨Gx h3,eq_of_beq h4⟩] at hq
  exact fin _ hq
 case b=>
  rw [h4] at h5;cases h5
 case d=>
  rw [Ag (λhc=>of_decide_eq_false h3 hc.1),Ab (eq_of_beq h5)] at hq
  exact fin _ hq
 all_goals
  have h6: ¬(w.length:Int)=Dw:= λhc=>by rw [hc] at h5;simp at h5
  rw [Ag (λhc=>h6 hc.2),Ag h6] at hq
  have hk1:k=(Dw-((w.length+1:Nat):Int)).toNat+1:=by omega
 all_goals
  refine Br.dec (λh7=>⟨⟨by rw [Di (by omega) (by omega)];omega,by rw [Di (by omega) (by omega)];omega⟩,Mv w,?_,Ay g.length,rX,?_⟩) λh7=>⟨Ay g.length,rX,?_⟩
 all_goals first
  |(have h7:0<w.length:=by omega
    rw [Di (by omega) (by omega),Bo,show ((w.length:Int)-1).toNat=w.length-1 by omega]
    exact nk h7)
  |skip
 all_goals first
  |rw [show IntKind.i64.wrap ((0:Int)-Mv w)= -Mv w by rw [Di (by omega) (by omega)];omega]
  |rw [show IntKind.i64.wrap ((0:Int)-(0:Int))= -Mv w by
    have:w= []:=List.length_eq_zero_iff.1 (by omega)
    rw [this];rfl]
 all_goals
  refine Bf (Ay g.length).length (λv=>v.1) (λj v=> ∃r:IS,v=((j:Int),w,n,str,g,some (Cu ts),Dw,every,r.2.2.1,r.2.2.2.1,r.2.2.2.2,())/\r.1=false/\r.2.1=w/\(0<=r.2.2.1/\r.2.2.1<=20000/\0<=r.2.2.2.1/\r.2.2.2.1<=r.2.2.1)/\
   ((Ay g.length).drop j).foldl (λ(r:IS) l=>if r.1=true\/l= -Mv w then r else
    if (iN (Ru g) (Xd (some (Cu ts))) (upto n.toNat) (Ay g.length) Dw every k (Ru g x l) (w++ [l]) r.2.2.1 r.2.2.2.1 r.2.2.2.2).1=true then iN (Ru g) (Xd (some (Cu ts))) (upto n.toNat) (Ay g.length) Dw every k (Ru g x l) (w++ [l]) r.2.2.1 r.2.2.2.1 r.2.2.2.2
    else (false,w,(iN (Ru g) (Xd (some (Cu ts))) (upto n.toNat) (Ay g.length) Dw every k (Ru g x l) (w++ [l]) r.2.2.1 r.2.2.2.1 r.2.2.2.2).2.2)) r=q) rfl
   ⟨(false,w,nodes+1,found,ab),rfl,rfl,rfl,⟨by show 0<=nodes+1;omega,by show nodes+1<=20000;omega,hf0,by show found<=nodes+1;omega⟩,by rw [Dp];exact hq⟩ ?_
  rintro j v K hj hi ⟨r,rfl,XY,hr2,hr3,hR⟩ hK
  dsimp only
  refine Br.dec (λhl=>?_) λhl=>?_
  ·have hl:j<(Ay g.length).length:=by omega
   have hlj:Iu g.length (Ay g.length)[j]:=Ob (Ak hl)
   have Bbj:((Bm g (Ay g.length)[j]).length:Int)=n:=(lb hV hlj).1
   rw [Co hl,Hr] at hR
   refine ⟨_,Bu hl,Br.of (λhe=>?_) λhe=>?_⟩
   ·rw [Ab (.inr (eq_of_beq he))] at hR
    rw [Bg (by omega)]
    exact hK hl _ rfl ⟨r,by simp only [Bz],XY,hr2,hr3,hR⟩
   ·have he: ¬(Ay g.length)[j]= -Mv w:=by simpa using he
    rw [Ag (by rw [XY];simpa using he)] at hR
    have jE:=Aki (nx:=Ru g) (low:=Xd (some (Cu ts))) (one:=upto n.toNat) (ls:=Ay g.length) (depth:=Dw) (every:=every) k (Ru g x (Ay g.length)[j]) (w++ [(Ay g.length)[j]]) r.2.2.1 r.2.2.2.1 r.2.2.2.2 hr3
    have hqe:td n g (some (Cu ts)) Dw every (w++ [(Ay g.length)[j]]) r.2.2.1 r.2.2.2.1 r.2.2.2.2 (Ru g x (Ay g.length)[j])=iN (Ru g) (Xd (some (Cu ts))) (upto n.toNat) (Ay g.length) Dw every k (Ru g x (Ay g.length)[j]) (w++ [(Ay g.length)[j]]) r.2.2.1 r.2.2.2.1 r.2.2.2.2:=by
     unfold td
     rw [Ax,Bt,hk1]
    refine ⟨by show w.length+1<=4294967296;omega,_,Ab ⟨hlj,lF.2,hV.perm⟩,_,Ab ⟨Ax7,λy hy=>by have:=hxr y hy;show 0<=y/\y<((Bm g (Ay g.length)[j]).length:Int);omega⟩,_,
     Ab ⟨⟨ts,rfl,zv hh hlj,Am5,by show ((w++ [(Ay g.length)[j]]).length:Int)<=Dw;rw [Ax,Bt];omega,λl hm=>by
      have hm:l∈w++ [(Ay g.length)[j]]:=hm
      rcases Az.1 hm with hm|hm
      ·exact qx l hm
      ·rw [Ad.1 hm];exact hlj,⟨hr3.1,hr3.2.1⟩,hr3.2.2.1,hr3.2.2.2⟩,by show (Dw-((w++ [(Ay g.length)[j]]).length:Int)).toNat<m;rw [Ax,Bt];omega⟩,?_⟩
    show Br (td n g (some (Cu ts)) Dw every (w++ [(Ay g.length)[j]]) r.2.2.1 r.2.2.2.1 r.2.2.2.2 (Ru g x (Ay g.length)[j])).1 _ _
    dsimp only
    refine Br.of (λUk=>?_) λUk=>?_
    ·have QC:=Uk
     rw [hqe] at QC
     rw [Ab QC,VO _ _ QC] at hR
     have e:=fin _ hR
     rw [<-hqe,Uk] at e
     refine Eq.trans ?_ e
     simp only [jQ,Bz]
     rfl
    ·have QC:=Uk
     rw [hqe] at QC
     have hwd:=Aho _ _ _ _ _ _ QC
     rw [Ag (by rw [QC];simp)] at hR
     rw [<-hqe] at hwd
     refine ⟨⟨Oe _,Int.natCast_nonneg _,?_⟩,?_⟩
     ·show (w.length:Int)<=((td n g (some (Cu ts)) Dw every (w++ [(Ay g.length)[j]]) r.2.2.1 r.2.2.2.1 r.2.2.2.2 (Ru g x (Ay g.length)[j])).2.1.length:Int)
      rw [hwd,Ax]
      omega
     ·rw [Bg (by omega)]
      refine hK hl _ rfl ⟨(false,w,(iN (Ru g) (Xd (some (Cu ts))) (upto n.toNat) (Ay g.length) Dw every k (Ru g x (Ay g.length)[j]) (w++ [(Ay g.length)[j]]) r.2.2.1 r.2.2.2.1 r.2.2.2.2).2.2),?_,rfl,rfl,jE,hR⟩
      have htk:List.take w.length (td n g (some (Cu ts)) Dw every (w++ [(Ay g.length)[j]]) r.2.2.1 r.2.2.2.1 r.2.2.2.2 (Ru g x (Ay g.length)[j])).2.1=w:=by rw [hwd];simp
      rw [<-hqe]
      show (((j+1:Nat):Int),List.take w.length (td n g (some (Cu ts)) Dw every (w++ [(Ay g.length)[j]]) r.2.2.1 r.2.2.2.1 r.2.2.2.2 (Ru g x (Ay g.length)[j])).2.1,_)=_
      rw [htk]
      rfl
  ·have:j=(Ay g.length).length:=by omega
   subst this
   rw [Is,List.foldl_nil] at hR
   have:=fin r hR
   rw [XY,hr2] at this
   exact this
theorem TJ {m:Nat} (Ade:Cb Tryz.prog 55 (Vd m)):Cb Tryz.prog 55 (Vd (m+1)):=
 Cb.iy (rz [o1+6]) (Av gP (Av sA (Av TB (Av mw (Av kx (Av Xp (Et Ade Bh))))))) mixed Tryz.func55 (by kernel_rfl) (by kernel_rfl) λx h=>Aic x.1 x.2.1 x.2.2.1 x.2.2.2.1 x.2.2.2.2.1 x.2.2.2.2.2.1 x.2.2.2.2.2.2.1 x.2.2.2.2.2.2.2.1 x.2.2.2.2.2.2.2.2.1 x.2.2.2.2.2.2.2.2.2.1 x.2.2.2.2.2.2.2.2.2.2.1 h
theorem Ant {m:Nat} (p:PP) (ts:List TT) (s w:List Int) (depth:Int) (v:DS) (h:Abl p ts s w depth v/\(depth-w.length).toNat<m+1):fnW Afd (look [(33,bK),(63,Zg),(62,Bq),(64,Ij),(65,dK),(66,Mx),(34,eu),(45,Pp.q (Zq m))]) (Zq (m+1)) Tryz.f45 (p,ts,s,w,depth,v,()) (λ(z:DS)=>z=JU p ts s w depth v):=by
 obtain ⟨⟨hh,Am5,XZ,qx,hv⟩,hm⟩:=h
 obtain ⟨hV,hsl,Awl,hsr,ha,hb⟩:=IM hh
 have hN:=hV.n
 have lF:=hV.uX
 have PW:=tX ha hb
 have hlb:=vU lF.2 qx
 have hv0:=hv.n0
 have hv1:=hv.n1
 have hv2:=hv.m0
 have hv3:=hv.m1
 obtain ⟨q,hq⟩: ∃q,JU p ts s w depth v=q:=⟨_,rfl⟩
 refine Eq.mp (Aon p ts s w depth v _) ?_
 rw [hq]
 unfold JU at hq
 obtain ⟨k,hk⟩: ∃k,(depth-w.length).toNat=k:=⟨_,rfl⟩
 rw [hk] at hq hm
 rw [vN] at hq
 simp only [VX,VY,bF,bG,u5,u6,bH,bI,u7,oX,oY,oZ]
 simp only [Bz,true_and]
 refine Br.of (λh1=>?_) λh1=>?_
 ·rw [Ab (eq_of_beq h1)] at hq
  exact hq
 have h1: ¬v.1=20000:=by simpa using h1
 rw [Ag h1] at hq
 refine ⟨Kw ts s,Ab ⟨ha,hb⟩,?_⟩
 rw [Di (n:=(w.length:Int)+Kw ts s) (by omega) (by omega),Di (n:=v.1+1) (by omega) (by omega),Di (n:=v.2.1+1) (by omega) (by omega)]
 refine Br.dec (λh2=>?_) λh2=>?_
 ·rw [Ab h2] at hq
  exact hq
 rw [Ag h2] at hq
 refine Br.of (λh3=>?_) λh3=>?_
 ·rw [Ab (eq_of_beq h3)] at hq
  refine ⟨upto p.1.toNat,Ab ⟨by show 0<=p.1;omega,by show p.1<=20;omega⟩,Ck s (upto p.1.toNat),Ab (by show s.length<=4294967296;omega),?_⟩
  refine Br.of (λh4=>?_) λh4=>?_
  ·rw [Ab (uR.1 h4)] at hq
   refine Br.of (λh5=>?_) λh5=>?_
   ·rw [Ab (eq_of_beq h5)] at hq
    exact ⟨((w,()),()),Ab (by show w.length<=4294967296;omega),hq⟩
   ·rw [Ag (by simpa using h5)] at hq
    exact hq
  ·rw [Ag (λhc=>by rw [uR.2 hc] at h4;cases h4)] at hq
   exact hq
 have h3: ¬(w.length:Int)=depth:=by simpa using h3
 rw [Ag h3] at hq
 have hk1:k=(depth-((w.length+1:Nat):Int)).toNat+1:=by omega
 have haf:dK.fn ((p.1,p.2.1,p.2.2.1,()),Mv w,())=some (ld p.2.2.1.length (Mv w)):=Ab ⟨lF.2,hlb⟩
 obtain ⟨ls,rX⟩: ∃ls,ld p.2.2.1.length (Mv w)=ls:=⟨_,rfl⟩
 have oF: ∀l∈ls,Iu p.2.2.1.length l:= λl hl=>by
  rw [<-rX] at hl
  exact Ob (Ch.1 hl).1
 have hlen:ls.length<=16:=by
  rw [<-rX]
  have h1:=List.length_filter_le (λl=>!(l== -Mv w)) (Ay p.2.2.1.length)
  have h2:=Ol p.2.2.1.length
  unfold ld
  omega
 rw [rX] at haf
 have hq:ls.foldl (λ(v:DS) l=>if Ic v=true then v else vN (Ru p.2.2.1) (Kw ts) (upto p.1.toNat) (Ay p.2.2.1.length) depth k (Ru p.2.2.1 s l) (w++ [l]) v) (v.1+1,v.2)=q:=by rw [<-rX];exact hq
 refine Br.dec (λh7=>⟨Mv w,?_,ls,haf,?_⟩) λh7=>⟨ls,?_,?_⟩
 ·have h7:0<w.length:=by omega
  rw [Di (by omega) (by omega),show (w.length:Int)-1=((w.length-1:Nat):Int) by omega,Bu (by omega)]
  have:=nk h7
  rw [Ac (by omega)] at this
  exact this
 rotate_left
 ·have:w= []:=List.length_eq_zero_iff.1 (by omega)
  rw [this] at haf
  exact haf
 all_goals
  refine ⟨rfl,Bf ls.length (λv=>v.1) (λj y=> ∃u:DS,y=((j:Int),p.1,p.2.1,p.2.2.1,u.1,u.2.1,u.2.2.1,u.2.2.2.1,u.2.2.2.2.1,(0:Int),(0:Int),false,false,[],())/\AZ u/\
   (ls.drop j).foldl (λ(v:DS) l=>if Ic v=true then v else vN (Ru p.2.2.1) (Kw ts) (upto p.1.toNat) (Ay p.2.2.1.length) depth k (Ru p.2.2.1 s l) (w++ [l]) v) u=q) rfl
   ⟨(v.1+1,v.2),rfl,⟨by show 0<=v.1+1;omega,by show v.1+1<=20000;omega,hv2,by show v.2.1<=v.1+1;omega⟩,by rw [Dp];exact hq⟩ ?_⟩
  rintro j y K hj hi ⟨u,rfl,hu,hR⟩ hK
  dsimp only
  refine Br.dec (λhl=>?_) λhl=>?_
  ·have hl:j<ls.length:=by omega
   have hlj:=oF _ (Ak hl)
   rw [Co hl,Hr] at hR
   refine ⟨Ic u,Ab trivial,?_⟩
   refine Br.of (λhd=>?_) λhd=>?_
   ·have hd:Ic u=false:=by simpa using hd
    rw [Ag (by rw [hd];simp)] at hR
    obtain ⟨l,hle⟩: ∃l,ls[j]=l:=⟨_,rfl⟩
    have hix:idx ls (j:Int)=some l:=by rw [Bu hl,hle]
    rw [hle] at hR hlj
    have hap:Mx.fn ((p.1,p.2.1,p.2.2.1,()),s,l,())=some (Ru p.2.2.1 s l):=Ab ⟨(pb (eX hh).2.2).1,Awl,hsr,hlj⟩
    have hcp:Ij.fn (w,())=some ((w,()),()):=Ab (by show w.length<=4294967296;omega)
    have hmr:w.length+(List.take 1 (List.drop 0 [l])).length<=Cr:=by show w.length+1<=4294967296;omega
    have hvv:JU p ts (Ru p.2.2.1 s l) (w++ [l]) depth u=vN (Ru p.2.2.1) (Kw ts) (upto p.1.toNat) (Ay p.2.2.1.length) depth k (Ru p.2.2.1 s l) (w++ [l]) u:=by
     unfold JU
     rw [Ax,Bt,hk1]
    have hvo:=Afp (nx:=Ru p.2.2.1) (low:=Kw ts) (one:=upto p.1.toNat) (ls:=Ay p.2.2.1.length) (depth:=depth) k (Ru p.2.2.1 s l) (w++ [l]) u hu
    have hvi:(Zq m).fn ((p.1,p.2.1,p.2.2.1,()),ts,Ru p.2.2.1 s l,w++List.take 1 (List.drop 0 [l]),depth,(u.1,u.2.1,u.2.2.1,u.2.2.2.1,u.2.2.2.2.1,()),())=some (vN (Ru p.2.2.1) (Kw ts) (upto p.1.toNat) (Ay p.2.2.1.length) depth k (Ru p.2.2.1 s l) (w++ [l]) u):=
     (Ab ⟨⟨zv hh hlj,Am5,by show ((w++ [l]).length:Int)<=depth;rw [Ax,Bt];omega,λx hx=>by
      have hx:x∈w++ [l]:=hx
      rcases Az.1 hx with hx|hx
      ·exact qx x hx
      ·rw [Ad.1 hx];exact hlj,hu⟩,by show (depth-((w++ [l]).length:Int)).toNat<m;rw [Ax,Bt];omega⟩).trans (Lr some hvv)
    generalize vN (Ru p.2.2.1) (Kw ts) (upto p.1.toNat) (Ay p.2.2.1.length) depth k (Ru p.2.2.1 s l) (w++ [l]) u=u' at hR hvi hvo
    refine ⟨l,hix,l,hix,_,hap,_,hcp,hmr,_,hvi,?_,?_⟩
    ·rw [Bg (by omega)]
     exact hK hl _ rfl ⟨u',rfl,hvo,hR⟩
    ·repeat' (first|rfl|exact hmr|refine ⟨_,hix,?_⟩|refine ⟨_,hap,?_⟩|refine ⟨_,hcp,?_⟩|refine ⟨_,hvi,?_⟩|refine ⟨?_,?_⟩)
   ·have hd:Ic u=true:=by simpa using hd
    rw [Ab hd,WO _ _ hd] at hR
    exact hR
  ·have:j=ls.length:=by omega
   subst this
   rw [Is] at hR
   exact hR
theorem Aa7 {m:Nat} (Ahp:Sound Tryz.prog 45 (Zq m)):Sound Tryz.prog 45 (Zq (m+1)):=
 Sound.Fb Afe (Av sy (Av kv (Av Vf (Et tn (Av LW (Av pt (Av wU (Av Ahp Bh)))))))) mixed Tryz.func45 (by kernel_rfl) (by kernel_rfl) λx h=>Ant x.1 x.2.1 x.2.2.1 x.2.2.2.1 x.2.2.2.2.1 x.2.2.2.2.2.1 h
theorem EY:Cb Tryz.prog 55 (Vd 0):=
 Cb.iy De Bh mixed Tryz.func55 (by kernel_rfl) (by kernel_rfl) λ_ h=>absurd h.2 (Dq _)
theorem pF: ∀m,Cb Tryz.prog 55 (Vd m)
 |0=>EY
 |m+1=>TJ (pF m)
theorem EZ:Cb Tryz.prog 55 pk:=Cb.Ae3 (λx=>(x.2.2.2.2.1-List.length x.2.2.2.2.2.2.1).toNat) pF
noncomputable abbrev uc:Spec:=Fb (.pair Ga (.pair ue (.pair tL (.pair tL (.pair tI (.pair pO .unit)))))) pO false false (λx=>Abl x.1 x.2.1 x.2.2.1 x.2.2.2.1 x.2.2.2.2.1 x.2.2.2.2.2.1) (λx=>JU x.1 x.2.1 x.2.2.1 x.2.2.2.1 x.2.2.2.2.1 x.2.2.2.2.2.1)
theorem ME:Sound Tryz.prog 45 (Zq 0):=
 Sound.Fb De Bh mixed Tryz.func45 (by kernel_rfl) (by kernel_rfl) λ_ h=>absurd h.2 (Dq _)
theorem sC: ∀m,Sound Tryz.prog 45 (Zq m)
 |0=>ME
 |m+1=>Aa7 (sC m)
theorem MF:Sound Tryz.prog 45 uc:=Sound.Axh (λx=>(x.2.2.2.2.1-List.length x.2.2.2.1).toNat) sC
noncomputable def Qw (p:PP) (b:Option BB) (x:List Int) (Dw:Int) (every:Bool):IS:=td p.1 p.2.2.1 b Dw every [] 0 0 false x
noncomputable def Ahs (p:PP) (b:Option BB) (x:List Int) (Dw:Int) (every:Bool):SR:=(p,b,Dw,every,(Qw p b x Dw every).2.1,(Qw p b x Dw every).2.2.1,(Qw p b x Dw every).2.2.2.1,(Qw p b x Dw every).2.2.2.2,())
def GN (p:PP) (b:Option BB) (x:List Int) (Dw:Int):Prop:= ∃ts,b=some (Cu ts)/\Ok p ts x=true/\0<=Dw/\Dw<=30
noncomputable abbrev QM:MSpec:= {Ja:= [some 3,none,none,none,none],ins:= [(false, .Em tI),(false, .Em .str),(false, .Em dS),(false, .Em (.optr Tl)),(false, .Em tL),(false, .Em tI),(false, .Em .bool)],Hb:=false,Fu:= [none,none,none,none,none,none,none,none,none,none],outs:= [.Em tI, .Em .str, .Em dS, .Em (.optr Tl), .Em tI, .Em .bool,rL, .Em tI, .Em tI, .Em .bool],fn:= λ_=>none,rp:=some 63}
noncomputable abbrev Wj:MSpec:=iy QM (λx=>GN (x.1,x.2.1,x.2.2.1,()) x.2.2.2.1 x.2.2.2.2.1 x.2.2.2.2.2.1)
 (λx=>((x.1,x.2.1,x.2.2.1,x.2.2.2.1,x.2.2.2.2.2.1,x.2.2.2.2.2.2.1,(Qw (x.1,x.2.1,x.2.2.1,()) x.2.2.2.1 x.2.2.2.2.1 x.2.2.2.2.2.1 x.2.2.2.2.2.2.1).2.1,(Qw (x.1,x.2.1,x.2.2.1,()) x.2.2.2.1 x.2.2.2.2.1 x.2.2.2.2.2.1 x.2.2.2.2.2.2.1).2.2.1,(Qw (x.1,x.2.1,x.2.2.1,()) x.2.2.2.1 x.2.2.2.2.1 x.2.2.2.2.2.1 x.2.2.2.2.2.2.1).2.2.2.1,(Qw (x.1,x.2.1,x.2.2.1,()) x.2.2.2.1 x.2.2.2.2.1 x.2.2.2.2.2.1 x.2.2.2.2.2.2.1).2.2.2.2,()),()))
noncomputable def aF (p:PP) (ts:List TT) (s:List Int) (depth:Int) (all:Bool):DS:=JU p ts s [] depth (0,0,[],false,all,())
noncomputable abbrev cb:Spec:=Fb (.pair Ga (.pair ue (.pair tL (.pair tI (.pair .bool .unit))))) pO false false (λx=>Ok x.1 x.2.1 x.2.2.1=true/\0<=x.2.2.2.1/\x.2.2.2.1<=30) (λx=>aF x.1 x.2.1 x.2.2.1 x.2.2.2.1 x.2.2.2.2.1)
noncomputable def qB (d:Int):Bool:=decide (0<=d/\d<=30)
noncomputable abbrev bZ:Spec:=Fb (.pair tI .unit) .bool false true (λ_=>True) (λx=>qB x.1)
noncomputable def Xc (p:PP) (ts:List TT) (s:List Int) (d:Int):Bool:=Ok p ts s&&qB d
noncomputable abbrev qS:Spec:=Fb (.pair Ga (.pair ue (.pair tL (.pair tI .unit)))) .bool false true (λx=>Ek x.1/\Gu x.2.1/\short x.2.2.1) (λx=>Xc x.1 x.2.1 x.2.2.1 x.2.2.2.1)
noncomputable abbrev nE:Spec:=Fb (.pair Ga (.pair ue (.pair tL (.pair tI .unit)))) .bool false true (λx=>Ek x.1/\Gu x.2.1/\short x.2.2.1) (λ_=>true)
theorem NO (n:Int) (str:ByteArray) (g:List (List Int)) (b:Option (List (List Int×List (List Int)×List Int×Unit)×List (ByteArray->Option Int)×Unit)) (x:List Int) (Dw:Int) (every:Bool) (P:((Int×ByteArray×List (List Int)×Option BB×Int×Bool×List Int×Int×Int×Bool×Unit)×Unit)->Prop):(0=0/\0=([]:List Int).length/\ ∃(y8:(Int×ByteArray×List (List Int)×Option (List (List Int×List (List Int)×List Int×PUnit)×List (ByteArray->Option Int)×PUnit)×Int×Bool×List Int×Int×Int×Bool×Bool×PUnit)×PUnit),pk.fn (n,str,g,b,Dw,every,[],Int.ofNat (nat_lit 0),Int.ofNat (nat_lit 0),false,x,())=some y8/\P ((y8.1.1,y8.1.2.1,y8.1.2.2.1,y8.1.2.2.2.1,y8.1.2.2.2.2.1,y8.1.2.2.2.2.2.1,List.take y8.1.2.2.2.2.2.2.1.length (List.drop 0 y8.1.2.2.2.2.2.2.1),y8.1.2.2.2.2.2.2.2.1,y8.1.2.2.2.2.2.2.2.2.1,y8.1.2.2.2.2.2.2.2.2.2.1,()),()))=fnMW Uf (look [(55,pk)]) Wj Tryz.f41 (n,str,g,b,x,Dw,every,()) P:=by kernel_rfl
theorem Aav (p:Int×ByteArray×List (List Int)×Unit) (ts:List (List Int×List (List Int)×List Int×Unit)) (s:List Int) (d:Int) (all:Bool) (P:(Int×Int×List Int×Bool×Bool×Unit)->Prop):(∃(y6:Int×Int×List Int×Bool×Bool×PUnit),uc.fn ((p.1,p.2.1,p.2.2.1,()),ts,s,List.take 0 (List.drop 0 []),d,(Int.ofNat (nat_lit 0),Int.ofNat (nat_lit 0),[],false,all,()),())=some y6/\P (y6.1,y6.2.1,y6.2.2.1,y6.2.2.2.1,y6.2.2.2.2.1,()))=fnW En (look [(45,uc)]) cb Tryz.f35 (p,ts,s,d,all,()) P:=by kernel_rfl
theorem Aak (d:Int) (P:Bool->Prop):(∃(y2:Bool),Dn.fn (d,(0:Int),(30:Int),())=some y2/\P y2)=fnW En (look [(39,Dn)]) bZ Tryz.f25 (d,()) P:=by kernel_rfl
theorem Ao6 (p:Int×ByteArray×List (List Int)×Unit) (ts:List (List Int×List (List Int)×List Int×Unit)) (s:List Int) (d:Int) (P:Bool->Prop):(∃(y5:Bool),qV.fn ((p.1,p.2.1,p.2.2.1,()),ts,s,())=some y5/\Br y5 (∃(y6:Bool),Dn.fn (d,(0:Int),(30:Int),())=some y6/\P y6) (P false))=fnW En (look [(31,qV),(32,Dn)]) qS Tryz.f20 (p,ts,s,d,()) P:=by kernel_rfl
theorem ds0 (all:Bool):AZ ((0,0,[],false,all,()):DS):=⟨Oe _,(by decide:(0:Int)<=20000),Oe _,Oe _⟩
theorem pG (p:PP) (ts:List TT) (x:List Int) (Dw:Int) (every:Bool):Abi every [] (Qw p (some (Cu ts)) x Dw every) (aF p ts x Dw every):=
 Akj (nx:=Ru p.2.2.1) (low:=Kw ts) (one:=upto p.1.toNat) (ls:=Ay p.2.2.1.length) (depth:=Dw) (every:=every) ((Dw-(0:Nat)).toNat+1) x [] (0,0,[],false,every,()) rfl rfl (ds0 every)
theorem Ao0 {p:PP} {b:Option BB} {x:List Int} {Dw:Int} (h:GN p b x Dw):BG p.1 p.2.1 p.2.2.1 b Dw [] (Int.ofNat 0) (Int.ofNat 0) x:=by
 obtain ⟨ts,hb,hh,h0,h30⟩:=h
 exact ⟨ts,hb,hh,h30,h0,λl hl=>(by cases hl),⟨by decide,by decide⟩,by decide,by decide⟩
theorem LD (n:Int) (str:ByteArray) (g:List (List Int)) (b:Option BB) (x:List Int) (Dw:Int) (every:Bool) (h:GN (n,str,g,()) b x Dw):
  fnMW Uf (look [(55,pk)]) Wj Tryz.f41 (n,str,g,b,x,Dw,every,()) (λ(z:(Int×ByteArray×List (List Int)×Option BB×Int×Bool×List Int×Int×Int×Bool×Unit)×Unit)=>z=((n,str,g,b,Dw,every,(Qw (n,str,g,()) b x Dw every).2.1,(Qw (n,str,g,()) b x Dw every).2.2.1,(Qw (n,str,g,()) b x Dw every).2.2.2.1,(Qw (n,str,g,()) b x Dw every).2.2.2.2,()),())):=by
 refine Eq.mp (NO n str g b x Dw every _) ⟨rfl,rfl,_,Ab (Ao0 h),?_⟩
 dsimp only
 rw [Bz]
 rfl
theorem tD:Cb Tryz.prog 41 Wj:=
 Cb.iy Su (Et EZ Bh) mixed Tryz.func41 (by kernel_rfl) (by kernel_rfl) λx h=>LD x.1 x.2.1 x.2.2.1 x.2.2.2.1 x.2.2.2.2.1 x.2.2.2.2.2.1 x.2.2.2.2.2.2.1 h
theorem ZG (p:PP) (ts:List TT) (s:List Int) (d:Int) (all:Bool) (h:Ok p ts s=true/\0<=d/\d<=30):fnW En (look [(45,uc)]) cb Tryz.f35 (p,ts,s,d,all,()) (λ(z:DS)=>z=aF p ts s d all):=by
 obtain ⟨hh,h0,h30⟩:=h
 exact Eq.mp (Aav p ts s d all _) ⟨_,Ab ⟨hh,h30,h0,λl hl=>(by cases hl),ds0 all⟩,rfl⟩
theorem yL:Sound Tryz.prog 35 cb:=
 Sound.Fb De (Av MF Bh) mixed Tryz.func35 (by kernel_rfl) (by kernel_rfl) λx h=>ZG x.1 x.2.1 x.2.2.1 x.2.2.2.1 x.2.2.2.2.1 h
theorem YV (d:Int) (_:True):fnW En (look [(39,Dn)]) bZ Tryz.f25 (d,()) (λ(z:Bool)=>z=qB d):=Eq.mp (Aak d _) ⟨_,Ab trivial,rfl⟩
theorem yC:Sound Tryz.prog 25 bZ:=
 Sound.Fb De (Av Xr Bh) mixed Tryz.func25 (by kernel_rfl) (by kernel_rfl) λx h=>YV x.1 h
theorem Anb (p:PP) (ts:List TT) (s:List Int) (d:Int) (h:Ek p/\Gu ts/\short s):fnW En (look [(31,qV),(32,Dn)]) qS Tryz.f20 (p,ts,s,d,()) (λ(z:Bool)=>z=Xc p ts s d):=by
 refine Eq.mp (Ao6 p ts s d _) ⟨_,Ab h,?_⟩
 show Br (Ok p ts s) _ _
 unfold Xc
 refine Br.of (λhb=>⟨_,Ab trivial,?_⟩) λhb=>?_
 ·rw [hb,cg];rfl
 ·rw [hb,Bool.false_and]
theorem SX:Sound Tryz.prog 20 qS:=
 Sound.Fb De (Av TA (Av al Bh)) mixed Tryz.func20 (by kernel_rfl) (by kernel_rfl) λx h=>Anb x.1 x.2.1 x.2.2.1 x.2.2.2.1 h
theorem o0 {p:PP} {ts:List TT} {s:List Int} {d:Int} :Xc p ts s d=true↔Ok p ts s=true/\0<=d/\d<=30:=by
 unfold Xc qB
 rw [Af,Je]
theorem PH (v:DS):Ic v=(v.2.2.2.1||(decide (0<v.2.1)&&!v.2.2.2.2.1)):=rfl
theorem WQ {nx:List Int->Int->List Int} {low:List Int->Int} {one ls:List Int} {depth:Int} {B:Nat} : ∀(f:Nat) (s w:List Int) (v:DS),w.length+f<=B+1->v.2.2.1.length<=B->(vN nx low one ls depth f s w v).2.2.1.length<=B
 |0,_,_,_,_,h=>h
 |f+1,s,w,v,hw,h=>by
  unfold vN
  split
  ·exact h
  ·split
   ·exact h
   ·split
    ·split
     ·show (if v.2.1=0 then w else v.2.2.1).length<=B
      split
      ·omega
      ·exact h
     ·exact h
    ·refine Vw (R:= λ(b:DS)=>b.2.2.1.length<=B) _ _ h λb l _ hb=>?_
     split
     ·exact hb
     ·exact WQ f _ _ _ (by rw [Ax,Bt];omega) hb
noncomputable def Qe (p:PP) (ts:List TT) (s:List Int) (d:Int):Nat->Int->DS->List Int->List Int×DS
 |0,_,v,out=>(out,v)
 |f+1,k,v,out=>if k<=d/\Ic v=false then Qe p ts s d f (k+1) (aF p ts s k false) (out++ [(aF p ts s k false).1]) else (out,v)
noncomputable def Lj (p:PP) (ts:List TT) (s:List Int) (d:Int):List Int×DS:=Qe p ts s d 40 (Kw ts s) (0,0,[],false,false,()) []
noncomputable abbrev gL:Spec:=Fb (.pair Ga (.pair ue (.pair tL (.pair tI .unit)))) (.pair tL (.pair pO .unit)) true false (λx=>Xc x.1 x.2.1 x.2.2.1 x.2.2.2.1=true) (λx=>((Lj x.1 x.2.1 x.2.2.1 x.2.2.2.1).1,(Lj x.1 x.2.1 x.2.2.1 x.2.2.2.1).2,()))
noncomputable def Qk (p:PP) (b:Option BB) (s:List Int) (d:Int):Nat->Int->Option SR->List Int->List Int×Option SR
 |0,_,v,out=>(out,v)
 |f+1,k,v,out=>if k<=d then
   (if ((Qw p b s k false).2.2.2.2||decide ((Qw p b s k false).2.2.2.1>0))=true then (out++ [(Qw p b s k false).2.2.1],some (Ahs p b s k false))
    else Qk p b s d f (k+1) (some (Ahs p b s k false)) (out++ [(Qw p b s k false).2.2.1])) else (out,v)
noncomputable def Zt:SR:=((0,ByteArray.empty,[],()),none,0,false,[],0,0,false,())
abbrev MN:Type:=Int×Int×ByteArray×List (List Int)×Int×Int×Bool×Bool×Int×Int×List Int×Bool×Bool×List Int×List Int×PUnit
theorem Aiw (p:Int×ByteArray×List (List Int)×Unit) (ts:List (List Int×List (List Int)×List Int×Unit)) (s:List Int) (d:Int) (P:(List Int×(Int×Int×List Int×Bool×Bool×Unit)×Unit)->Prop):(∃(y5:Int),bK.fn (ts,s,())=some y5/\0=0/\0=([]:List Int).length/\0=0/\0=([]:List Int).length/\Db (λ(v6:MN) (k7:MN->Prop)=>Br (decide (v6.1<=d)) (∃(y8:Bool),eu.fn ((v6.2.2.2.2.2.2.2.2.1,v6.2.2.2.2.2.2.2.2.2.1,v6.2.2.2.2.2.2.2.2.2.2.1,v6.2.2.2.2.2.2.2.2.2.2.2.1,v6.2.2.2.2.2.2.2.2.2.2.2.2.1,()),())=some y8/\Br (!y8) (∃(y9:Int×Int×List Int×Bool×Bool×PUnit),cb.fn ((v6.2.1,v6.2.2.1,v6.2.2.2.1,()),ts,s,v6.1,false,())=some y9/\0=0/\v6.2.2.2.2.2.2.2.2.2.2.2.2.2.1.length=v6.2.2.2.2.2.2.2.2.2.2.2.2.2.1.length/\v6.2.2.2.2.2.2.2.2.2.2.2.2.2.1.length+(List.take 1 (List.drop 0 [y9.1])).length<=Cr/\0=0/\(v6.2.2.2.2.2.2.2.2.2.2.2.2.2.1++List.take 1 (List.drop 0 [y9.1])).length=(v6.2.2.2.2.2.2.2.2.2.2.2.2.2.1++List.take 1 (List.drop 0 [y9.1])).length/\0=0/\v6.2.2.2.2.2.2.2.2.2.2.2.2.2.2.1.length=v6.2.2.2.2.2.2.2.2.2.2.2.2.2.2.1.length/\k7 (IntKind.i64.wrap (v6.1+(1:Int)),v6.2.1,v6.2.2.1,v6.2.2.2.1,v6.2.2.2.2.1,v6.2.2.2.2.2.1,v6.2.2.2.2.2.2.1,v6.2.2.2.2.2.2.2.1,y9.1,y9.2.1,y9.2.2.1,y9.2.2.2.1,y9.2.2.2.2.1,v6.2.2.2.2.2.2.2.2.2.2.2.2.2.1++List.take 1 (List.drop 0 [y9.1]),v6.2.2.2.2.2.2.2.2.2.2.2.2.2.2.1,())) (P (List.take v6.2.2.2.2.2.2.2.2.2.2.2.2.2.1.length (List.drop 0 v6.2.2.2.2.2.2.2.2.2.2.2.2.2.1),(v6.2.2.2.2.2.2.2.2.1,v6.2.2.2.2.2.2.2.2.2.1,v6.2.2.2.2.2.2.2.2.2.2.1,v6.2.2.2.2.2.2.2.2.2.2.2.1,v6.2.2.2.2.2.2.2.2.2.2.2.2.1,()),()))) (P (List.take v6.2.2.2.2.2.2.2.2.2.2.2.2.2.1.length (List.drop 0 v6.2.2.2.2.2.2.2.2.2.2.2.2.2.1),(v6.2.2.2.2.2.2.2.2.1,v6.2.2.2.2.2.2.2.2.2.1,v6.2.2.2.2.2.2.2.2.2.2.1,v6.2.2.2.2.2.2.2.2.2.2.2.1,v6.2.2.2.2.2.2.2.2.2.2.2.2.1,()),()))) (y5,p.1,p.2.1,p.2.2.1,Int.ofNat (nat_lit 0),Int.ofNat (nat_lit 0),false,false,Int.ofNat (nat_lit 0),Int.ofNat (nat_lit 0),[],false,false,[],[],PUnit.unit))=fnW (ry [eL+11]) (look [(33,bK),(34,eu),(35,cb)]) gL Tryz.f21 (p,ts,s,d,()) P:=by kernel_rfl
theorem mV (p:PP) (ts:List TT) (s:List Int) (d:Int): ∀(f:Nat) (k:Int) (v:DS) (out:List Int),(Qe p ts s d f k v out).1.length<=out.length+f
 |0,_,_,_=>Ao _
 |f+1,k,v,out=>by
  unfold Qe
  split
  ·have:=mV p ts s d f (k+1) (aF p ts s k false) (out++ [(aF p ts s k false).1])
   rw [Ax,Bt] at this
   omega
  ·show out.length<=_
   omega
theorem jm {p:PP} {ts:List TT} {s:List Int} {d:Int} {v:DS} (h:Ic v=true) (f:Nat) (k:Int) (out:List Int):Qe p ts s d f k v out=(out,v):=by
 cases f with
 |zero=>rfl
 |succ f=>unfold Qe;rw [Ag (λhc=>by rw [h] at hc;simp at hc)]
theorem WE (p:PP) (ts:List TT) (s:List Int) (k:Int):((Qw p (some (Cu ts)) s k false).2.2.2.2||decide ((Qw p (some (Cu ts)) s k false).2.2.2.1>0))=Ic (aF p ts s k false):=by
 have hs:=pG p ts s k false
 rw [hs.a,hs.m,PH,hs.all]
 simp
theorem sa (p:PP) (ts:List TT) (s:List Int) (d:Int): ∀(f:Nat) (k:Int) (v:DS) (r:Option SR) (out:List Int),Ic v=false->(Qk p (some (Cu ts)) s d f k r out).1=(Qe p ts s d f k v out).1
 |0,_,_,_,_,_=>rfl
 |f+1,k,v,r,out,hv=>by
  have hsd:=WE p ts s k
  have hn:=(pG p ts s k false).n
  rw [Qk,Qe,hsd,hn]
  by_cases hk:k<=d
  ·rw [Ab hk,Ab (show k<=d/\Ic v=false from ⟨hk,hv⟩)]
   by_cases hd:Ic (aF p ts s k false)=true
   ·rw [Ab hd,jm hd]
   ·rw [Ag hd]
    exact sa p ts s d f (k+1) _ _ _ (by simpa using hd)
  ·rw [Ag hk,Ag (λhc=>hk hc.1)]
theorem Ai4 (p:PP) (ts:List TT) (s:List Int) (d:Int) (h:Xc p ts s d=true):fnW (ry [eL+11]) (look [(33,bK),(34,eu),(35,cb)]) gL Tryz.f21 (p,ts,s,d,()) (λ(z:List Int×DS×Unit)=>z=((Lj p ts s d).1,(Lj p ts s d).2,())):=by
 obtain ⟨hh,h0,h30⟩:=o0.1 h
 obtain ⟨ha,hb,_⟩:=eX hh
 have PW:=tX ha hb
 obtain ⟨R,hR⟩: ∃R,Lj p ts s d=R:=⟨_,rfl⟩
 refine Eq.mp (Aiw p ts s d _) ?_
 rw [hR]
 unfold Lj at hR
 refine ⟨Kw ts s,Ab ⟨ha,hb⟩,rfl,rfl,rfl,rfl,?_⟩
 refine Db.mk (λy=> ∃(f:Nat) (k:Int) (v:DS) (out:List Int),y=(k,p.1,p.2.1,p.2.2.1,(0:Int),(0:Int),false,false,v.1,v.2.1,v.2.2.1,v.2.2.2.1,v.2.2.2.2.1,out,[],())/\0<=k/\k<=3001/\d-k<f/\out.length+f=40/\Qe p ts s d f k v out=R) (λy=>(d+1-y.1).toNat)
  ⟨40,Kw ts s,(0,0,[],false,false,()),[],rfl,PW.1,by omega,by omega,rfl,hR⟩ ?_
 rintro y ⟨f,k,v,out,rfl,vD,hk1,hf,hlen,hv⟩
 dsimp only
 refine Br.dec (λhk=>?_) λhk=>?_
 ·refine ⟨Ic v,Ab trivial,Br.of (λhd=>?_) λhd=>?_⟩
  ·have hd:Ic v=false:=Al5 hd
   obtain ⟨f,rfl⟩: ∃f',f=f'+1:=⟨f-1,by omega⟩
   rw [Qe,Ab (show k<=d/\Ic v=false from ⟨hk,hd⟩)] at hv
   refine ⟨aF p ts s k false,Ab ⟨hh,vD,by show k<=30;omega⟩,rfl,rfl,by show out.length+1<=4294967296;omega,rfl,rfl,rfl,rfl,?_⟩
   rw [Di (by omega) (by omega)]
   exact ⟨⟨f,k+1,_,_,rfl,by omega,by omega,by omega,by rw [Ax];show out.length+1+f=40;omega,hv⟩,by show (d+1-(k+1)).toNat<(d+1-k).toNat;omega⟩
  ·have hd:Ic v=true:=by simpa using hd
   rw [jm hd] at hv
   rw [<-hv]
   simp only [Bz]
 ·have xS:Qe p ts s d f k v out=(out,v):=by
   cases f with
   |zero=>rfl
   |succ f=>rw [Qe,Ag (λhc=>hk hc.1)]
  rw [xS] at hv
  rw [<-hv]
  simp only [Bz]
theorem MA:Sound Tryz.prog 21 gL:=
 Sound.Fb (rz [eL+11]) (Av sy (Av wU (Av yL Bh))) mixed Tryz.func21 (by kernel_rfl) (by kernel_rfl) λx h=>Ai4 x.1 x.2.1 x.2.2.1 x.2.2.2.1 h
def hN (h:Int):Int:=IntKind.u64.wrap (IntKind.u64.wrap (h*(6364136223846793005:Int))+(1442695040888963407:Int))
def dI (b:List Int) (i:Int):Int:=if i<(b.length:Int) then i+1 else i
structure DOK (b:List Int) (i:Int):Prop where
 len:b.length<=4096
 byte: ∀y∈b,0<=y/\y<256
 lo:0<=i
 hi:i<=b.length
theorem DOK.Kb {b:List Int} {i:Int} (h:DOK b i) (hi:i<b.length):0<=Kb b i/\Kb b i<256:=by
 have h0:=h.lo
 have hl:i.toNat<b.length:=by omega
 refine h.byte _ ?_
 unfold Go.Proofs.YtfgfigkbgecfnaaGreat.Kb
 rw [Aj,Ac hl]
 exact Ak hl
theorem DOK.next {b:List Int} {i:Int} (h:DOK b i):DOK b (dI b i):=by
 have h0:=h.lo
 have h1:=h.hi
 unfold dI
 split
 ·exact ⟨h.len,h.byte,by omega,by omega⟩
 ·exact h
section
variable {Q:List Int->Prop} {code:List Int->Nat} {B:Nat}
theorem Abz (inj: ∀x y,Q x->Q y->code x=code y->x=y) (lt: ∀x,Q x->code x<B) {L:List (List Int)} (hQ: ∀y∈L,Q y) (hn:L.Nodup):L.length<=B:=by
 have h1:(L.map code).Nodup:=by
  unfold List.Nodup
  rw [List.pairwise_map]
  exact List.Pairwise.imp_of_mem (λha hb Ih he=>Ih (inj _ _ (hQ _ ha) (hQ _ hb) he)) hn
 have h2:=KF h1 (l2:=List.range B) λx hx=>by
  obtain ⟨y,hy,rfl⟩:=Bi.1 hx
  exact Eo.2 (lt y (hQ y hy))
 simpa using h2
theorem mS (hB:B<3000) (inj: ∀x y,Q x->Q y->code x=code y->x=y) (lt: ∀x,Q x->code x<B) {g:List (List Int)} {x:List Int} {d:Int} :
  ∀(ls:List Int) (L:List (List Int)) (D:List Int),(∀l∈ls,Q (Al x (Bm g l)))->(∀y∈L,Q y)->L.Nodup->
   (Kv g x d ls L D).2.2=true/\(∀y∈(Kv g x d ls L D).1,Q y)/\(Kv g x d ls L D).1.Nodup
 | [],L,D,_,hQ,hn=>⟨rfl,hQ,hn⟩
 |l::ls,L,D,hl,hQ,hn=>by
  have Kp: ∀l∈ls,Q (Al x (Bm g l)):= λl h=>hl l (Ar _ h)
  rw [Kv]
  split
  ·exact mS hB inj lt ls L D Kp hQ hn
  ·rename_i hni
   have:=Abz inj lt hQ hn
   rw [Ag (by omega)]
   refine mS hB inj lt ls _ _ Kp (λy hy=>?_) ?_
   ·rcases Az.1 hy with h|h
    ·exact hQ y h
    ·rw [Ad.1 h];exact hl l (by simp)
   ·rw [Cv]
    exact ⟨hn,by simp,λa ha b hb e=>hni (by rw [Ad.1 hb] at e;rw [<-e];exact ha)⟩
theorem uH (hB:B<3000) (inj: ∀x y,Q x->Q y->code x=code y->x=y) (lt: ∀x,Q x->code x<B) {g:List (List Int)} {ls:List Int} (step: ∀x,Q x-> ∀l∈ls,Q (Al x (Bm g l))):
  ∀(f k:Nat) (L:List (List Int)) (D:List Int),(∀y∈L,Q y)->L.Nodup->(Qr g ls f k L D).2.2=true
 |0,_,_,_,_,_=>rfl
 |f+1,k,L,D,hQ,hn=>by
  rw [Qr]
  split
  ·rename_i hk
   have hx:Q (L.getD k []):=by
    rw [Aj,Ac hk]
    exact hQ _ (Ak hk)
   obtain ⟨h1,h2,h3⟩:=mS hB inj lt (d:=D.getD k 0) ls L D (step _ hx) hQ hn
   generalize Kv g (L.getD k []) (D.getD k 0) ls L D=r at h1 h2 h3
   obtain ⟨L',D',b⟩:=r
   have h1:b=true:=h1
   subst h1
   exact uH hB inj lt step f (k+1) L' D' h2 h3
  ·rfl
theorem Abu (hB:B<3000) (inj: ∀x y,Q x->Q y->code x=code y->x=y) (lt: ∀x,Q x->code x<B) {g:List (List Int)} {s:List Int} (hs:Q s)
  (step: ∀x,Q x-> ∀l∈Ay g.length,Q (Al x (Bm g l))):(Kf g s).2.2=true:=
 uH hB inj lt step _ _ _ _ (λy hy=>by rw [Ad.1 hy];exact hs) (by simp)
end
def zm (x:List Int):Nat:=(Kb x 0+5*Kb x 1+25*Kb x 2+125*Kb x 3).toNat
theorem Ac5 {x:List Int} {k:Nat} (h:x.length<=k):Kb x (k:Int)=0:=by
 unfold Kb
 rw [Ai,Aj,Ec h]
 rfl
theorem Qx {n:Nat} {x:List Int} (hn:n<=5) (h:Pm n x) (k:Nat):0<=Kb x (k:Int)/\Kb x (k:Int)<5:=by
 by_cases hk:k<n
 ·have:=h.bj hk
  omega
 ·rw [Ac5 (by rw [h.1];omega)]
  decide
theorem RZ {n:Nat} {x:List Int} (hn:n<=5) (h:Pm n x):zm x<625:=by
 have h0:=Qx hn h 0
 have h1:=Qx hn h 1
 have h2:=Qx hn h 2
 have h3:=Qx hn h 3
 simp only [Int.natCast_zero] at h0
 unfold zm
 have e1:((1:Nat):Int)=1:=rfl
 have e2:((2:Nat):Int)=2:=rfl
 have e3:((3:Nat):Int)=3:=rfl
 rw [e1] at h1;rw [e2] at h2;rw [e3] at h3
 omega
theorem LJ {n:Nat} (hn:n<=5) (x y:List Int) (hx:Pm n x) (hy:Pm n y) (e:zm x=zm y):x=y:=by
 have e1:((1:Nat):Int)=1:=rfl
 have e2:((2:Nat):Int)=2:=rfl
 have e3:((3:Nat):Int)=3:=rfl
 have a0:=Qx hn hx 0
 have a1:=Qx hn hx 1
 have a2:=Qx hn hx 2
 have a3:=Qx hn hx 3
 have b0:=Qx hn hy 0
 have b1:=Qx hn hy 1
 have b2:=Qx hn hy 2
 have b3:=Qx hn hy 3
 simp only [Int.natCast_zero] at a0 b0
 rw [e1] at a1 b1;rw [e2] at a2 b2;rw [e3] at a3 b3
 unfold zm at e
 have low: ∀i:Nat,i<4->Kb x (i:Int)=Kb y (i:Int):=by
  intro i hi
  match i,hi with
  |0,_=>simp only [Int.natCast_zero];omega
  |1,_=>rw [e1];omega
  |2,_=>rw [e2];omega
  |3,_=>rw [e3];omega
 have Aro: ∀i,i<4->ap x i=ap y i:= λi hi=>by unfold ap;rw [low i hi]
 refine hx.ext hy λi hi=>?_
 by_cases h4:i<4
 ·exact Aro i h4
 ·obtain ⟨j,hj,hjx⟩:=hy.YP (hx.lt hi)
  by_cases hj4:j<4
  ·rw [<-Aro j hj4] at hjx
   have:=hx.inj hj hi hjx
   omega
  ·have:j=i:=by omega
   rw [this] at hjx
   exact hjx.symm
theorem NX {p:PP} (hv:Ds p=true) (h5:p.1<=5):tZ p=true:=by
 have hV:=valid hv
 have hn:=hV.n
 refine Dz.2 ⟨hv,Abu (Q:=Pm p.1.toNat) (code:=zm) (B:=625) (by decide) (LJ (by omega)) (λx hx=>RZ (by omega) hx) (Pm.id (by omega) (by omega)) λx hx l hl=>?_⟩
 exact hx.comp (YK hV (Ob hl))
structure ur (p:PP):Prop where
 valid:Ds p=true
 two:p.2.2.1.length=2
 lo:3<=p.1
 hi:p.1<=5
 short:Ek p
structure Asc (n:Int) (o:List Int):Prop where
 asc:o.Pairwise (· < ·)
 row: ∀y∈o,0<=y/\y<n
theorem Asc.more {j:Int} {o:List Int} (h:Asc j o):Asc (j+1) o:=⟨h.asc,λy hy=>by have:=h.row y hy;omega⟩
theorem Asc.add {j:Int} {o:List Int} (h:Asc j o) (h0:0<=j):Asc (j+1) (o++ [j]):=by
 refine ⟨List.pairwise_append.2 ⟨h.asc,by simp,λa ha b hb=>?_⟩,λy hy=>?_⟩
 ·rw [Ad.1 hb];exact (h.row a ha).2
 ·rcases Az.1 hy with h1|h1
  ·have:=h.row y h1;omega
  ·rw [Ad.1 h1];omega
theorem Asc.le {j n:Int} {o:List Int} (h:Asc j o) (hj:j<=n):Asc n o:=⟨h.asc,λy hy=>by have:=h.row y hy;omega⟩
theorem ur.whole {p:PP} (hp:ur p):tZ p=true:=NX hp.valid hp.hi
structure uq (p:PP) (ts:List TT):Prop where
 set:Ge p ts=true
 uX:ts.length<=2
 short:Gu ts
 valid: ∀t∈ts,Gq p t=true
theorem uq.add {p:PP} (hp:ur p) {ts:List TT} (h:uq p ts) {t:TT} (ht:Gq p t=true):Ge p (ts++ [t])=true:=by
 have:=h.uX
 refine Dz.2 ⟨Dz.2 ⟨hp.valid,Er (by rw [Ax,Bt];omega)⟩,Bc.2 λt' xD=>?_⟩
 rcases Az.1 xD with h4|h4
 ·exact h.valid t' h4
 ·rw [Ad.1 h4];exact ht
section
variable {p:PP} {ts:List TT} {s:List Int}
theorem ur.found (hp:ur p) (hs:s∈vX p):DD p s=true:=XM.2 ⟨hp.whole,hs⟩
end
noncomputable def bo (p:PP) (ts:List TT) (s:List Int) (d:Int):List Int×Int×Bool×Unit:=
 if Xc p ts s d=true then (if (Lj p ts s d).2.2.1=0 then ([],(Lj p ts s d).1.foldl (· + ·) 0,false,()) else ((Lj p ts s d).2.2.2.1,(Lj p ts s d).1.foldl (· + ·) 0,true,())) else ([],0,false,())
noncomputable abbrev AG:Spec:=Fb (.pair Ga (.pair ue (.pair tL (.pair tI .unit)))) (.pair tL (.pair tI (.pair .bool .unit))) true false (λx=>Ek x.1/\Gu x.2.1/\short x.2.2.1) (λx=>bo x.1 x.2.1 x.2.2.1 x.2.2.2.1)
theorem MX {nx:List Int->Int->List Int} {low:List Int->Int} {one ls:List Int} {depth:Int} : ∀(f:Nat) (s w:List Int) (v:DS),v.2.2.2.2.1=false->v.2.2.2.1=false->v.2.1=0->
  (vN nx low one ls depth f s w v).2.2.2.1=true->(vN nx low one ls depth f s w v).2.1=0
 |0,_,_,_,_,h,_,h2=>by rw [vN,h] at h2;cases h2
 |f+1,s,w,v,ha,h,hm,h2=>by
  unfold vN at h2⊢
  split at h2
  ·rename_i hc
   rw [Ab hc]
   exact hm
  ·rename_i hc
   rw [Ag hc]
   split at h2
   ·rename_i hc2
    rw [Ab hc2]
    exact hm
   ·rename_i hc2
    rw [Ag hc2]
    split at h2
    ·rename_i hc3
     rw [Ab hc3]
     split at h2
     ·exact absurd h2 (by show ¬v.2.2.2.1=true;rw [h];decide)
     ·exact absurd h2 (by show ¬v.2.2.2.1=true;rw [h];decide)
    ·rename_i hc3
     rw [Ag hc3]
     refine (Vw (R:= λb:DS=>b.2.2.2.2.1=false/\(b.2.2.2.1=true->b.2.1=0)/\(Ic b=false->b.2.1=0)) (ls.filter λl=>!(l== -Mv w)) ((v.1+1,v.2):DS) ⟨ha,λ_=>hm,λ_=>hm⟩ λb l _ hb=>?_).2.1 h2
     split
     ·exact hb
     ·rename_i hd
      have hd:Ic b=false:=by simpa using hd
      have hb3:=hb.2.2 hd
      have fH:b.2.2.2.1=false:=by
       unfold Ic at hd
       exact (Bool.or_eq_false_iff.1 hd).1
      have e:=Afn (nx:=nx) (low:=low) (one:=one) (ls:=ls) (depth:=depth) f (nx s l) (w++ [l]) b
      have Js:(vN nx low one ls depth f (nx s l) (w++ [l]) b).2.2.2.2.1=false:=by rw [e];exact hb.1
      refine ⟨Js,MX f _ _ b hb.1 fH hb3,λhd2=>?_⟩
      unfold Ic at hd2
      obtain ⟨_,h5⟩:=Bool.or_eq_false_iff.1 hd2
      rw [Js] at h5
      have h6:=Int.not_lt.1 (of_decide_eq_false (by simpa using h5))
      have h7:=Afo (nx:=nx) (low:=low) (one:=one) (ls:=ls) (depth:=depth) f (nx s l) (w++ [l]) b (by omega)
      omega
where
 Afo {nx:List Int->Int->List Int} {low:List Int->Int} {one ls:List Int} {depth:Int} : ∀(f:Nat) (s w:List Int) (v:DS),0<=v.2.1->0<=(vN nx low one ls depth f s w v).2.1
  |0,_,_,_,h=>h
  |f+1,s,w,v,h=>by
   unfold vN
   split
   ·exact h
   ·split
    ·exact h
    ·split
     ·split
      ·show 0<=v.2.1+1
       omega
      ·exact h
     ·refine Vw (R:= λb:DS=>0<=b.2.1) _ _ h λb l _ hb=>?_
      split
      ·exact hb
      ·exact Afo f _ _ _ hb
def OH (r:Option SR) (v:DS):Prop:= ∃x,r=some x/\x.2.2.2.2.2.2.1=v.2.1/\(v.2.1≠0->x.2.2.2.2.1=v.2.2.1)
theorem WG (p:PP) (ts:List TT) (s:List Int) (k:Int):OH (some (Ahs p (some (Cu ts)) s k false)) (aF p ts s k false):=by
 have h:=pG p ts s k false
 refine ⟨_,rfl,h.m,λIh=>?_⟩
 have Js:(aF p ts s k false).2.2.2.2.1=false:=h.all
 have fH:(aF p ts s k false).2.2.2.1=false:=by
  cases e:(aF p ts s k false).2.2.2.1 with
  |false=>rfl
  |true=>exact absurd (MX _ _ _ _ rfl rfl rfl e) Ih
 refine h.found ?_ fH
 rw [h.stop]
 unfold Ic
 have:=h.ok.m0
 rw [Js,fH,Er (show 0<(aF p ts s k false).2.1 by omega)]
 rfl
theorem vT (p:PP) (ts:List TT) (s:List Int) (d:Int): ∀(f:Nat) (k:Int) (v:DS) (r:Option SR) (out:List Int),Ic v=false->OH r v->OH (Qk p (some (Cu ts)) s d f k r out).2 (Qe p ts s d f k v out).2
 |0,_,_,_,_,_,h=>h
 |f+1,k,v,r,out,hv,h=>by
  have hsd:=WE p ts s k
  have hn:=(pG p ts s k false).n
  rw [Qk,Qe,hsd,hn]
  by_cases hk:k<=d
  ·rw [Ab hk,Ab (show k<=d/\Ic v=false from ⟨hk,hv⟩)]
   by_cases hd:Ic (aF p ts s k false)=true
   ·rw [Ab hd,jm hd]
    exact WG p ts s k
   ·rw [Ag hd]
    exact vT p ts s d f (k+1) _ _ _ (by simpa using hd) (WG p ts s k)
  ·rw [Ag hk,Ag (λhc=>hk hc.1)]
   exact h
theorem eb: ∀(l:List Int) (a:Int),(∀x∈l,0<=x/\x<=20000)->a<=l.foldl (· + ·) a/\l.foldl (· + ·) a<=a+l.length*20000
 | [],a,_=>by simp
 |x::l,a,h=>by
  rw [Hr]
  have h1:=h x (by simp)
  have h2:=eb l (a+x) λy hy=>h y (Ar _ hy)
  rw [Aw]
  push_cast
  omega
theorem qz (p:PP) (ts:List TT) (s:List Int) (d:Int): ∀(f:Nat) (k:Int) (v:DS) (out:List Int),(∀x∈out,0<=x/\x<=20000)-> ∀x∈(Qe p ts s d f k v out).1,0<=x/\x<=20000
 |0,_,_,_,h=>h
 |f+1,k,v,out,h=>by
  rw [Qe]
  split
  ·refine qz p ts s d f (k+1) _ _ λx hx=>?_
   rcases Az.1 hx with hx|hx
   ·exact h x hx
   ·rw [Ad.1 hx]
    have:=(pG p ts s k false).ok
    exact ⟨this.n0,this.n1⟩
  ·exact h
noncomputable def srX (p:PP) (b:Option BB) (s:List Int) (d:Int):SR:=(Qk p b s d 40 (Xd b s) (some Zt) []).2.getD Zt
noncomputable def srN (p:PP) (b:Option BB) (s:List Int) (d:Int):List Int:=(Qk p b s d 40 (Xd b s) (some Zt) []).1
noncomputable def lf (X:SR) (out:List Int):Int×ByteArray×List (List Int)×Option BB×Int×Bool×List Int×Int×Int×Bool×List Int×Unit:=(X.1.1,X.1.2.1,X.1.2.2.1,X.2.1,X.2.2.1,X.2.2.2.1,X.2.2.2.2.1,X.2.2.2.2.2.1,X.2.2.2.2.2.2.1,X.2.2.2.2.2.2.2.1,out,())
noncomputable abbrev Amy:MSpec:= {Ja:= [some 3,none,none,none],ins:= [(false, .Em tI),(false, .Em .str),(false, .Em dS),(false, .Em (.optr Tl)),(false, .Em tL),(false, .Em tI)],Hb:=true,Fu:= [none],outs:= [.Em tI, .Em .str, .Em dS, .Em (.optr Tl), .Em tI, .Em .bool,rL, .Em tI, .Em tI, .Em .bool,rL],fn:= λ_=>none,rp:=some 63,rx:=some 10}
noncomputable abbrev gJ:MSpec:=iy Amy (λx=>GN (x.1,x.2.1,x.2.2.1,()) x.2.2.2.1 x.2.2.2.2.1 x.2.2.2.2.2.1)
 (λx=>(lf (srX (x.1,x.2.1,x.2.2.1,()) x.2.2.2.1 x.2.2.2.2.1 x.2.2.2.2.2.1) (srN (x.1,x.2.1,x.2.2.1,()) x.2.2.2.1 x.2.2.2.2.1 x.2.2.2.2.2.1),()))
noncomputable abbrev Zh:MSpec:=de [some 3,none,none,none] [(false, .Em tI),(false, .Em .str),(false, .Em dS),(false, .Em ue),(false, .Em tL),(false, .Em tI)] true [none,none,none] [rL, .Em tI, .Em .bool] (λx=>Ek (x.1,x.2.1,x.2.2.1,())/\Gu x.2.2.2.1/\short x.2.2.2.2.1)
 (λx=>(((bo (x.1,x.2.1,x.2.2.1,()) x.2.2.2.1 x.2.2.2.2.1 x.2.2.2.2.2.1).1,(bo (x.1,x.2.1,x.2.2.1,()) x.2.2.2.1 x.2.2.2.2.1 x.2.2.2.2.2.1).2.1,(bo (x.1,x.2.1,x.2.2.1,()) x.2.2.2.1 x.2.2.2.2.1 x.2.2.2.2.2.1).2.2.1,()),()))
abbrev MM:Type:=Int×List Int×Int×ByteArray×List (List Int)×Int×ByteArray×List (List Int)×Option (List (List Int×List (List Int)×List Int×PUnit)×List (ByteArray->Option Int)×PUnit)×Int×Bool×Int×Int×Bool×List Int×PUnit
theorem Ait (n:Int) (str:ByteArray) (g:List (List Int)) (b:Option (List (List Int×List (List Int)×List Int×Unit)×List (ByteArray->Option Int)×Unit)) (s:List Int) (d:Int) (P:((Int×ByteArray×List (List Int)×Option BB×Int×Bool×List Int×Int×Int×Bool×List Int×Unit)×Unit)->Prop):(∃(y7:Int),bL.fn (b,s,())=some y7/\0=0/\0=([]:List Int).length/\0=0/\0=([]:List Int).length/\Db (λ(v8:MM) (k9:MM->Prop)=>Br (decide (v8.1<=d)) (∃(Il:(Int×ByteArray×List (List Int)×Option (List (List Int×List (List Int)×List Int×PUnit)×List (ByteArray->Option Int)×PUnit)×Int×Bool×List Int×Int×Int×Bool×PUnit)×PUnit),Wj.fn (v8.2.2.1,v8.2.2.2.1,v8.2.2.2.2.1,b,s,v8.1,false,())=some Il/\0=0/\v8.2.1.length=v8.2.1.length/\v8.2.1.length+(List.take 1 (List.drop 0 [Il.1.2.2.2.2.2.2.2.1])).length<=Cr/\Br Il.1.2.2.2.2.2.2.2.2.2.1 (P ((Il.1.1,Il.1.2.1,Il.1.2.2.1,Il.1.2.2.2.1,Il.1.2.2.2.2.1,Il.1.2.2.2.2.2.1,List.take Il.1.2.2.2.2.2.2.1.length (List.drop 0 Il.1.2.2.2.2.2.2.1),Il.1.2.2.2.2.2.2.2.1,Il.1.2.2.2.2.2.2.2.2.1,Il.1.2.2.2.2.2.2.2.2.2.1,List.take (v8.2.1++List.take 1 (List.drop 0 [Il.1.2.2.2.2.2.2.2.1])).length (List.drop 0 (v8.2.1++List.take 1 (List.drop 0 [Il.1.2.2.2.2.2.2.2.1]))),()),())) (Br (decide (Il.1.2.2.2.2.2.2.2.2.1>(0:Int))) (P ((Il.1.1,Il.1.2.1,Il.1.2.2.1,Il.1.2.2.2.1,Il.1.2.2.2.2.1,Il.1.2.2.2.2.2.1,List.take Il.1.2.2.2.2.2.2.1.length (List.drop 0 Il.1.2.2.2.2.2.2.1),Il.1.2.2.2.2.2.2.2.1,Il.1.2.2.2.2.2.2.2.2.1,Il.1.2.2.2.2.2.2.2.2.2.1,List.take (v8.2.1++List.take 1 (List.drop 0 [Il.1.2.2.2.2.2.2.2.1])).length (List.drop 0 (v8.2.1++List.take 1 (List.drop 0 [Il.1.2.2.2.2.2.2.2.1]))),()),())) (0=0/\(v8.2.1++List.take 1 (List.drop 0 [Il.1.2.2.2.2.2.2.2.1])).length=(v8.2.1++List.take 1 (List.drop 0 [Il.1.2.2.2.2.2.2.2.1])).length/\0=0/\Il.1.2.2.2.2.2.2.1.length=Il.1.2.2.2.2.2.2.1.length/\k9 (IntKind.i64.wrap (v8.1+(1:Int)),v8.2.1++List.take 1 (List.drop 0 [Il.1.2.2.2.2.2.2.2.1]),v8.2.2.1,v8.2.2.2.1,v8.2.2.2.2.1,Il.1.1,Il.1.2.1,Il.1.2.2.1,Il.1.2.2.2.1,Il.1.2.2.2.2.1,Il.1.2.2.2.2.2.1,Il.1.2.2.2.2.2.2.2.1,Il.1.2.2.2.2.2.2.2.2.1,Il.1.2.2.2.2.2.2.2.2.2.1,Il.1.2.2.2.2.2.2.1,())))) (P ((v8.2.2.2.2.2.1,v8.2.2.2.2.2.2.1,v8.2.2.2.2.2.2.2.1,v8.2.2.2.2.2.2.2.2.1,v8.2.2.2.2.2.2.2.2.2.1,v8.2.2.2.2.2.2.2.2.2.2.1,List.take v8.2.2.2.2.2.2.2.2.2.2.2.2.2.2.1.length (List.drop 0 v8.2.2.2.2.2.2.2.2.2.2.2.2.2.2.1),v8.2.2.2.2.2.2.2.2.2.2.2.1,v8.2.2.2.2.2.2.2.2.2.2.2.2.1,v8.2.2.2.2.2.2.2.2.2.2.2.2.2.1,List.take v8.2.1.length (List.drop 0 v8.2.1),()),()))) (y7,[],n,str,g,Int.ofNat (nat_lit 0), {data:= #[]},[],none,Int.ofNat (nat_lit 0),false,Int.ofNat (nat_lit 0),Int.ofNat (nat_lit 0),false,[],PUnit.unit))=fnMW (ry [gW,oW+14,Sx+741006]) (look [(40,bL),(41,Wj)]) gJ Tryz.f26 (n,str,g,b,s,d,()) P:=by kernel_rfl
abbrev xj:Type:=Int×Int×List Int×List Int×Int×ByteArray×List (List Int)×Option (List (List Int×List (List Int)×List Int×PUnit)×List (ByteArray->Option Int)×PUnit)×Int×Bool×Int×Int×Bool×PUnit
theorem Aai (n:Int) (str:ByteArray) (g:List (List Int)) (ts:List (List Int×List (List Int)×List Int×Unit)) (s:List Int) (d:Int) (P:((List Int×Int×Bool×Unit)×Unit)->Prop):(∃(y7:Option (List (List Int×List (List Int)×List Int×PUnit)×List (ByteArray->Option Int)×PUnit)×Bool×PUnit),Zd.fn ((n,str,g,()),ts,s,())=some y7/\Br (!y7.2.1) (P ((List.take 0 (List.drop 0 []),(0:Int),false,()),())) (∃(y8:Bool),bZ.fn (d,())=some y8/\Br (!y8) (P ((List.take 0 (List.drop 0 []),(0:Int),false,()),())) (∃(y9:(Int×ByteArray×List (List Int)×Option (List (List Int×List (List Int)×List Int×PUnit)×List (ByteArray->Option Int)×PUnit)×Int×Bool×List Int×Int×Int×Bool×List Int×PUnit)×PUnit),gJ.fn (n,str,g,y7.1,s,d,())=some y9/\0=0/\y9.1.2.2.2.2.2.2.2.2.2.2.1.length=y9.1.2.2.2.2.2.2.2.2.2.2.1.length/\0=0/\y9.1.2.2.2.2.2.2.1.length=y9.1.2.2.2.2.2.2.1.length/\Db (λ(v10:xj) (k11:xj->Prop)=>Br (decide (v10.2.1<(↑y9.1.2.2.2.2.2.2.2.2.2.2.1.length:Int))) (((0:Int)<=v10.2.1/\v10.2.1<(↑v10.2.2.2.1.length:Int))/\ ∃(eF:Int),v10.2.2.2.1[0+v10.2.1.toNat]?=some eF/\0=0/\v10.2.2.2.1.length=v10.2.2.2.1.length/\0=0/\v10.2.2.1.length=v10.2.2.1.length/\k11 (IntKind.i64.wrap (v10.1+eF),IntKind.i64.wrap (v10.2.1+(1:Int)),v10.2.2.1,v10.2.2.2.1,v10.2.2.2.2.1,v10.2.2.2.2.2.1,v10.2.2.2.2.2.2.1,v10.2.2.2.2.2.2.2.1,v10.2.2.2.2.2.2.2.2.1,v10.2.2.2.2.2.2.2.2.2.1,v10.2.2.2.2.2.2.2.2.2.2.1,v10.2.2.2.2.2.2.2.2.2.2.2.1,v10.2.2.2.2.2.2.2.2.2.2.2.2.1,())) (Br (v10.2.2.2.2.2.2.2.2.2.2.2.1==(0:Int)) (P ((List.take 0 (List.drop 0 []),v10.1,false,()),())) (P ((List.take v10.2.2.1.length (List.drop 0 v10.2.2.1),v10.1,true,()),())))) ((0:Int),(0:Int),y9.1.2.2.2.2.2.2.1,y9.1.2.2.2.2.2.2.2.2.2.2.1,y9.1.1,y9.1.2.1,y9.1.2.2.1,y9.1.2.2.2.1,y9.1.2.2.2.2.1,y9.1.2.2.2.2.2.1,y9.1.2.2.2.2.2.2.2.1,y9.1.2.2.2.2.2.2.2.2.1,y9.1.2.2.2.2.2.2.2.2.2.1,PUnit.unit))))=fnMW Uf (look [(24,Zd),(25,bZ),(26,gJ)]) Zh Tryz.f10 (n,str,g,ts,s,d,()) P:=by kernel_rfl
abbrev xk:Type:=Int×Int×Int×Int×List Int×Bool×Bool×PUnit
theorem Aas (p:Int×ByteArray×List (List Int)×Unit) (ts:List (List Int×List (List Int)×List Int×Unit)) (s:List Int) (d:Int) (P:(List Int×Int×Bool×Unit)->Prop):(∃(y5:Bool),qS.fn ((p.1,p.2.1,p.2.2.1,()),ts,s,d,())=some y5/\Br (!y5) (P (List.take 0 (List.drop 0 []),(0:Int),false,())) (∃(y6:List Int×(Int×Int×List Int×Bool×Bool×PUnit)×PUnit),gL.fn ((p.1,p.2.1,p.2.2.1,()),ts,s,d,())=some y6/\Db (λ(v7:xk) (k8:xk->Prop)=>Br (decide (v7.2.1<(↑y6.1.length:Int))) (∃(y9:Int),idx y6.1 v7.2.1=some y9/\k8 (IntKind.i64.wrap (v7.1+y9),IntKind.i64.wrap (v7.2.1+(1:Int)),v7.2.2.1,v7.2.2.2.1,v7.2.2.2.2.1,v7.2.2.2.2.2.1,v7.2.2.2.2.2.2.1,())) (Br (v7.2.2.2.1==(0:Int)) (P (List.take 0 (List.drop 0 []),v7.1,false,())) (P (v7.2.2.2.2.1,v7.1,true,())))) ((0:Int),(0:Int),y6.2.1.1,y6.2.1.2.1,y6.2.1.2.2.1,y6.2.1.2.2.2.1,y6.2.1.2.2.2.2.1,PUnit.unit)))=fnW En (look [(20,qS),(21,gL)]) AG Tryz.f6 (p,ts,s,d,()) P:=by kernel_rfl
abbrev lx:Type:=(List (List Int×List (List Int)×List Int×PUnit)×PUnit)×PUnit
abbrev rv:Type:=(Int×ByteArray×List (List Int)×PUnit)×PUnit
theorem Aft (p:Int×ByteArray×List (List Int)×Unit) (ts:List (List Int×List (List Int)×List Int×Unit)) (s:List Int) (d:Int) (P:Bool->Prop):(Br (decide ((↑s.length:Int)>(1048576:Int))) (P true) (∃(y5:Int),AI.fn ((p.1,p.2.1,p.2.2.1,()),(1048576:Int),())=some y5/\Br (decide (y5<(0:Int))) (P true) (∃(y6:Int),r6.fn (ts,y5,())=some y6/\Br (decide (y6<(0:Int))) (P true) (∃(y7:rv),Qc.fn (p.1,p.2.1,p.2.2.1,())=some y7/\ ∃(y8:lx),bN.fn (ts,())=some y8/\ ∃(y9:(List Int×PUnit)×PUnit),Ua.fn (s,())=some y9/\ ∃(Il:List Int×Int×Bool×PUnit),AG.fn ((y7.1.1,y7.1.2.1,List.take y7.1.2.2.1.length (List.drop 0 y7.1.2.2.1),()),List.take y8.1.1.length (List.drop 0 y8.1.1),List.take y9.1.1.length (List.drop 0 y9.1.1),d,())=some Il/\ ∃(gZ:rv),Qc.fn (p.1,p.2.1,p.2.2.1,())=some gZ/\ ∃(eF:lx),bN.fn (ts,())=some eF/\ ∃(Me:(List Int×PUnit)×PUnit),Ua.fn (s,())=some Me/\ ∃(Jj:(List Int×Int×Bool×PUnit)×PUnit),Zh.fn (gZ.1.1,gZ.1.2.1,List.take gZ.1.2.2.1.length (List.drop 0 gZ.1.2.2.1),List.take eF.1.1.length (List.drop 0 eF.1.1),List.take Me.1.1.length (List.drop 0 Me.1.1),d,())=some Jj/\ ∃(Ri:Bool),Bq.fn (List.take Jj.1.1.length (List.drop 0 Jj.1.1),Il.1,())=some Ri/\Br (!Ri) (P false) (Br (Jj.1.2.1 !=Il.2.1) (P false) (Br (!Jj.1.2.2.1==Il.2.2.1) (P false) (∃(Yc:Int×ByteArray×List (List Int)×PUnit),AJ.fn ((p.1,p.2.1,p.2.2.1,()),())=some Yc/\ ∃(ba:Bool),AF.fn ((gZ.1.1,gZ.1.2.1,List.take gZ.1.2.2.1.length (List.drop 0 gZ.1.2.2.1),()),Yc,())=some ba/\Br (!ba) (P false) (∃(Yd:lx),bN.fn (ts,())=some Yd/\ ∃(Sy:Bool),qU.fn (List.take eF.1.1.length (List.drop 0 eF.1.1),List.take Yd.1.1.length (List.drop 0 Yd.1.1),())=some Sy/\Br (!Sy) (P false) (∃(Ov:(List Int×PUnit)×PUnit),Ua.fn (s,())=some Ov/\ ∃(Xv:Bool),Bq.fn (List.take Me.1.1.length (List.drop 0 Me.1.1),List.take Ov.1.1.length (List.drop 0 Ov.1.1),())=some Xv/\Br (!Xv) (P false) (0=0/\gZ.1.2.2.1.length=gZ.1.2.2.1.length/\ ∃(To:(Int×PUnit)×List (List Int)×PUnit),Ti.fn (gZ.1.1,gZ.1.2.1,gZ.1.2.2.1,(1:Int),())=some To/\(To.2.1.length=gZ.1.2.2.1.length/\gZ.1.2.2.1.length=gZ.1.2.2.1.length)/\0=0/\eF.1.1.length=eF.1.1.length/\ ∃(Yi:(Int×PUnit)×PUnit),Lw.fn (eF.1.1,To.1.1,())=some Yi/\0=0/\Me.1.1.length=Me.1.1.length/\ ∃(y24:(Int×PUnit)×List Int×PUnit),ak.fn (Me.1.1,Yi.1.1,())=some y24/\(y24.2.1.length=Me.1.1.length/\Me.1.1.length=Me.1.1.length)/\Br (decide (y24.1.1<(0:Int))) (P false) (∃(y25:Bool),Bq.fn (List.take Jj.1.1.length (List.drop 0 Jj.1.1),Il.1,())=some y25/\Br (!y25) (P false) (Br (Jj.1.2.1 !=Il.2.1) (P false) (Br (!Jj.1.2.2.1==Il.2.2.1) (P false) (0=0/\Jj.1.1.length=Jj.1.1.length/\ ∃(y26:(Int×PUnit)×List Int×PUnit),ak.fn (Jj.1.1,(1:Int),())=some y26/\(y26.2.1.length=Jj.1.1.length/\Jj.1.1.length=Jj.1.1.length)/\ ∃(y27:Int),gK.fn (List.take Jj.1.1.length (List.drop 0 y26.2.1),(1:Int),())=some y27/\Br (decide (y27<(0:Int))) (P false) (Br (y27 !=y26.1.1) (P false) (∃(y28:rv),Qc.fn (p.1,p.2.1,p.2.2.1,())=some y28/\ ∃(y29:lx),bN.fn (ts,())=some y29/\ ∃(y30:(List Int×PUnit)×PUnit),Ua.fn (s,())=some y30/\ ∃(y31:(List Int×Int×Bool×PUnit)×PUnit),Zh.fn (y28.1.1,y28.1.2.1,List.take y28.1.2.2.1.length (List.drop 0 y28.1.2.2.1),List.take y29.1.1.length (List.drop 0 y29.1.1),List.take y30.1.1.length (List.drop 0 y30.1.1),d,())=some y31/\ ∃(y32:Bool),Bq.fn (List.take y31.1.1.length (List.drop 0 y31.1.1),Il.1,())=some y32/\Br (!y32) (P false) (Br (y31.1.2.1 !=Il.2.1) (P false) (Br (!y31.1.2.2.1==Il.2.2.1) (P false) (∃(y33:Int),gK.fn (List.take Jj.1.1.length (List.drop 0 y26.2.1),(1:Int),())=some y33/\Br (decide (y33<(0:Int))) (P false) (Br (y33 !=y26.1.1) (P false) (P true)))))))))))))))))))))=fnW En (look [(4,AI),(5,r6),(6,AG),(10,Zh),(7,Pp.b AJ Qc),(8,Pp.b wI bN),(9,Pp.b iE Ua),(11,Bq),(12,AF),(13,qU),(14,Ti),(15,Lw),(16,ak),(17,gK)]) nE Tryz.f3 (p,ts,s,d,()) P:=by kernel_rfl
theorem Ai1 (n:Int) (str:ByteArray) (g:List (List Int)) (b:Option BB) (s:List Int) (d:Int) (h:GN (n,str,g,()) b s d):
  fnMW (ry [gW,oW+14,Sx+741006]) (look [(40,bL),(41,Wj)]) gJ Tryz.f26 (n,str,g,b,s,d,()) (λ(z:(Int×ByteArray×List (List Int)×Option BB×Int×Bool×List Int×Int×Int×Bool×List Int×Unit)×Unit)=>z=(lf (srX (n,str,g,()) b s d) (srN (n,str,g,()) b s d),())):=by
 obtain ⟨ts,rfl,hh,h0,h30⟩:=h
 obtain ⟨ha,hb,_⟩:=eX hh
 have PW:=tX ha hb
 obtain ⟨R,hR⟩: ∃R,Qk (n,str,g,()) (some (Cu ts)) s d 40 (Xd (some (Cu ts)) s) (some Zt) []=R:=⟨_,rfl⟩
 have e1:srX (n,str,g,()) (some (Cu ts)) s d=R.2.getD Zt:=by unfold srX;rw [hR]
 have e2:srN (n,str,g,()) (some (Cu ts)) s d=R.1:=by unfold srN;rw [hR]
 refine Eq.mp (Ait n str g (some (Cu ts)) s d _) ?_
 rw [e1,e2]
 refine ⟨Kw ts s,Ab ⟨ts,ha,rfl,hb⟩,rfl,rfl,rfl,rfl,?_⟩
 refine Db.mk (λv=> ∃(f:Nat) (k:Int) (r:SR) (out:List Int),v=(k,out,n,str,g,r.1.1,r.1.2.1,r.1.2.2.1,r.2.1,r.2.2.1,r.2.2.2.1,r.2.2.2.2.2.1,r.2.2.2.2.2.2.1,r.2.2.2.2.2.2.2.1,r.2.2.2.2.1,())/\0<=k/\k<=3001/\d-k<f/\out.length+f=40/\Qk (n,str,g,()) (some (Cu ts)) s d f k (some r) out=R) (λv=>(d+1-v.1).toNat)
  ⟨40,Kw ts s,Zt,[],rfl,PW.1,by omega,by omega,rfl,hR⟩ ?_
 rintro v ⟨f,k,r,out,rfl,vD,hk1,hf,hlen,hv⟩
 dsimp only
 refine Br.dec (λhk=>?_) λhk=>?_
 ·obtain ⟨f,rfl⟩: ∃f',f=f'+1:=⟨f-1,by omega⟩
  rw [Qk,Ab hk] at hv
  refine ⟨_,Ab ⟨ts,rfl,hh,vD,by show k<=30;omega⟩,rfl,rfl,by show out.length+1<=4294967296;omega,?_⟩
  show Br (Qw (n,str,g,()) (some (Cu ts)) s k false).2.2.2.2 _ _
  have hsr:Ahs (n,str,g,()) (some (Cu ts)) s k false=((n,str,g,()),some (Cu ts),k,false,(Qw (n,str,g,()) (some (Cu ts)) s k false).2.1,(Qw (n,str,g,()) (some (Cu ts)) s k false).2.2.1,(Qw (n,str,g,()) (some (Cu ts)) s k false).2.2.2.1,(Qw (n,str,g,()) (some (Cu ts)) s k false).2.2.2.2,()):=rfl
  refine Br.of (λfH=>?_) λfH=>?_
  ·rw [fH,Bool.true_or,Ab rfl] at hv
   rw [<-hv]
   simp only [Bz]
   rfl
  show Br (decide ((Qw (n,str,g,()) (some (Cu ts)) s k false).2.2.2.1>0)) _ _
  rw [fH,Pq] at hv
  refine Br.of (λhm=>?_) λhm=>?_
  ·rw [Ab hm] at hv
   rw [<-hv]
   simp only [Bz]
   rfl
  ·rw [Ag (by rw [hm];simp)] at hv
   rw [Di (by omega) (by omega)]
   exact ⟨rfl,rfl,rfl,rfl,⟨f,k+1,_,_,rfl,by omega,by omega,by omega,by rw [Ax];show out.length+1+f=40;omega,hv⟩,by show (d+1-(k+1)).toNat<(d+1-k).toNat;omega⟩
 ·have xS:Qk (n,str,g,()) (some (Cu ts)) s d f k (some r) out=(out,some r):=by
   cases f with
   |zero=>rfl
   |succ f=>rw [Qk,Ag hk]
  rw [xS] at hv
  rw [<-hv]
  simp only [Bz]
  rfl
theorem LX:Cb Tryz.prog 26 gJ:=
 Cb.iy (rz [gW,oW+14,Sx+741006]) (Av sA (Et tD Bh)) mixed Tryz.func26 (by kernel_rfl) (by kernel_rfl) λx h=>Ai1 x.1 x.2.1 x.2.2.1 x.2.2.2.1 x.2.2.2.2.1 x.2.2.2.2.2.1 h
theorem YT (n:Int) (str:ByteArray) (g:List (List Int)) (ts:List TT) (s:List Int) (d:Int) (h:Ek (n,str,g,())/\Gu ts/\short s):
  fnMW Uf (look [(24,Zd),(25,bZ),(26,gJ)]) Zh Tryz.f10 (n,str,g,ts,s,d,()) (λ(z:(List Int×Int×Bool×Unit)×Unit)=>z=(((bo (n,str,g,()) ts s d).1,(bo (n,str,g,()) ts s d).2.1,(bo (n,str,g,()) ts s d).2.2.1,()),())):=by
 obtain ⟨p,hpe⟩: ∃p:PP,p=(n,str,g,()):=⟨_,rfl⟩
 refine Eq.mp (Aai n str g ts s d _) ?_
 rw [<-hpe] at h⊢
 unfold bo
 by_cases hh:Ok p ts s=true
 ·refine ⟨(some (Cu ts),true,()),(Ab h).trans (Lr some (Ab hh)),Br.of (λhb=>by cases hb) λ_=>⟨qB d,Ab trivial,?_⟩⟩
  have hc:Xc p ts s d=qB d:=by unfold Xc;rw [hh,cg]
  refine Br.of (λhd=>?_) λhd=>?_
  ·rw [Ag (by rw [hc];exact Fc hd)]
   rfl
  ·have hd:Xc p ts s d=true:=by rw [hc];simpa using hd
   obtain ⟨_,h0,h30⟩:=o0.1 hd
   rw [Ab hd]
   have hl:=vT p ts s d 40 (Kw ts s) (0,0,[],false,false,()) (some Zt) [] rfl ⟨Zt,rfl,rfl,λIh=>absurd rfl Ih⟩
   have hi:=sa p ts s d 40 (Kw ts s) (0,0,[],false,false,()) (some Zt) [] rfl
   have Avd:=qz p ts s d 40 (Kw ts s) (0,0,[],false,false,()) [] λx hx=>by cases hx
   have Aw6:=mV p ts s d 40 (Kw ts s) (0,0,[],false,false,()) []
   have iq:(Lj p ts s d).1.length<=0+40:=Aw6
   have hbn: ∀x∈(Lj p ts s d).1,0<=x/\x<=20000:=Avd
   obtain ⟨X,hX⟩: ∃X,Qk p (some (Cu ts)) s d 40 (Kw ts s) (some Zt) []=X:=⟨_,rfl⟩
   obtain ⟨Y,hY⟩: ∃Y,Lj p ts s d=Y:=⟨_,rfl⟩
   have hY':Qe p ts s d 40 (Kw ts s) (0,0,[],false,false,()) []=Y:=hY
   rw [hX,hY'] at hl hi
   rw [hY] at hbn iq⊢
   obtain ⟨x,hx,l1,l2⟩:=hl
   have e7:gJ.fn (p.1,p.2.1,p.2.2.1,some (Cu ts),s,d,())=some (lf x Y.1,()):=(Ab ⟨ts,rfl,hh,h0,h30⟩).trans (Lr some (by
    show (lf (Option.getD (Qk p (some (Cu ts)) s d 40 (Kw ts s) (some Zt) []).2 Zt) (Qk p (some (Cu ts)) s d 40 (Kw ts s) (some Zt) []).1,())=_
    rw [hX,hi,hx]
    rfl))
   subst hpe
   refine ⟨_,e7,rfl,rfl,rfl,rfl,?_⟩
   refine Bf Y.1.length (λv=>v.2.1) (λk v=>v.1=(Y.1.take k).foldl (· + ·) 0/\v.2.2=(x.2.2.2.2.1,Y.1,x.1.1,x.1.2.1,x.1.2.2.1,x.2.1,x.2.2.1,x.2.2.2.1,x.2.2.2.2.2.1,x.2.2.2.2.2.2.1,x.2.2.2.2.2.2.2.1,())) rfl ⟨rfl,rfl⟩ ?_
   rintro k ⟨a,k',V⟩ K hk oE ⟨ha,hV⟩ hK
   dsimp only at oE ha hV
   subst hV oE ha
   dsimp only
   refine Br.dec (λhl=>?_) λhl=>?_
   ·have hl:k<Y.1.length:=by have hl:(k:Int)<(Y.1.length:Nat):=hl;omega
    refine ⟨⟨by omega,by omega⟩,Y.1[k],by rw [Bo,Ai];exact Ac hl,rfl,rfl,rfl,rfl,?_⟩
    have e:(Y.1.take (k+1)).foldl (· + ·) 0=(Y.1.take k).foldl (· + ·) 0+Y.1[k]:=by
     rw [Ep,Ac hl,Nk]
     rfl
    have hb:=eb (Y.1.take (k+1)) 0 λx hx=>hbn x (El hx)
    have htl:(Y.1.take (k+1)).length<=40:=by rw [Cq];omega
    rw [e] at hb
    rw [Di (by omega) (by omega),Bg (by omega)]
    exact hK hl _ rfl ⟨e.symm,rfl⟩
   ·have hl: ¬(k:Int)<(Y.1.length:Nat):=hl
    have:k=Y.1.length:=by omega
    subst this
    rw [Ap]
    refine Br.of (λhm=>?_) λhm=>?_
    ·have hm:x.2.2.2.2.2.2.1=0:=eq_of_beq hm
     rw [Ab (by rw [<-l1];exact hm)]
     rfl
    ·have hm: ¬x.2.2.2.2.2.2.1=0:= λe=>by rw [e] at hm;simp at hm
     have hm2: ¬Y.2.2.1=0:= λe=>hm (by rw [l1];exact e)
     rw [Ag hm2,Bz,l2 hm2]
 ·have hc: ¬Xc p ts s d=true:= λhc=>hh (o0.1 hc).1
  rw [Ag hc]
  exact ⟨(none,false,()),(Ab h).trans (Lr some (Ag hh)),Br.of (λ_=>rfl) λhb=>by cases hb⟩
theorem yB:Cb Tryz.prog 10 Zh:=
 Cb.de Su (Av wQ (Av yC (Et LX Bh))) mixed Tryz.func10 (by kernel_rfl) (by kernel_rfl) λx h=>YT x.1 x.2.1 x.2.2.1 x.2.2.2.1 x.2.2.2.2.1 x.2.2.2.2.2.1 h
theorem ZD (p:PP) (ts:List TT) (s:List Int) (d:Int) (h:Ek p/\Gu ts/\short s):fnW En (look [(20,qS),(21,gL)]) AG Tryz.f6 (p,ts,s,d,()) (λ(z:List Int×Int×Bool×Unit)=>z=bo p ts s d):=by
 refine Eq.mp (Aas p ts s d _) ⟨Xc p ts s d,Ab h,?_⟩
 unfold bo
 refine Br.of (λhb=>?_) λhb=>?_
 ·rw [Ag (Fc hb)]
  rfl
 ·have hc:Xc p ts s d=true:=by simpa using hb
  rw [Ab hc]
  have hbn:=qz p ts s d 40 (Kw ts s) (0,0,[],false,false,()) [] λx hx=>by cases hx
  have iq:=mV p ts s d 40 (Kw ts s) (0,0,[],false,false,()) []
  have iq:(Lj p ts s d).1.length<=0+40:=iq
  have hbn: ∀x∈(Lj p ts s d).1,0<=x/\x<=20000:=hbn
  have e6:gL.fn ((p.1,p.2.1,p.2.2.1,()),ts,s,d,())=some ((Lj p ts s d).1,(Lj p ts s d).2,()):=Ab hc
  refine ⟨_,e6,?_⟩
  obtain ⟨Y,hY⟩: ∃Y,Lj p ts s d=Y:=⟨_,rfl⟩
  rw [hY] at hbn iq⊢
  refine Bf Y.1.length (λv=>v.2.1) (λk v=>v.1=(Y.1.take k).foldl (· + ·) 0/\v.2.2=(Y.2.1,Y.2.2.1,Y.2.2.2.1,Y.2.2.2.2.1,Y.2.2.2.2.2.1,())) rfl ⟨rfl,rfl⟩ ?_
  rintro k ⟨a,k',V⟩ K hk oE ⟨ha,hV⟩ hK
  dsimp only at oE ha hV
  subst hV oE ha
  dsimp only
  refine Br.dec (λhl=>?_) λhl=>?_
  ·have hl:k<Y.1.length:=by omega
   refine ⟨Y.1[k],Bu hl,?_⟩
   have e:(Y.1.take (k+1)).foldl (· + ·) 0=(Y.1.take k).foldl (· + ·) 0+Y.1[k]:=by
    rw [Ep,Ac hl,Nk]
    rfl
   have hb:=eb (Y.1.take (k+1)) 0 λx hx=>hbn x (El hx)
   have htl:(Y.1.take (k+1)).length<=40:=by rw [Cq];omega
   rw [e] at hb
   rw [Di (by omega) (by omega),Bg (by omega)]
   exact hK hl _ rfl ⟨e.symm,rfl⟩
  ·have:k=Y.1.length:=by omega
   subst this
   rw [Ap]
   refine Br.of (λhm=>?_) λhm=>?_
   ·have hm:Y.2.2.1=0:=eq_of_beq hm
    rw [Ab hm]
    rfl
   ·have hm: ¬Y.2.2.1=0:= λe=>by rw [e] at hm;simp at hm
    rw [Ag hm]
theorem yJ:Sound Tryz.prog 6 AG:=
 Sound.Fb De (Av SX (Av MA Bh)) mixed Tryz.func6 (by kernel_rfl) (by kernel_rfl) λx h=>ZD x.1 x.2.1 x.2.2.1 x.2.2.2.1 h
theorem XH {p:PP} {ts:List TT} {s:List Int} {k:Int} (h30:k<=30):(aF p ts s k false).2.2.1.length<=40:=
 WQ ((k-(0:Nat)).toNat+1) s [] (0,0,[],false,false,()) (by simp only [Ex];omega) (by simp)
theorem o5 {p:PP} {ts:List TT} {s:List Int} {d:Int} (h30:d<=30): ∀(f:Nat) (k:Int) (v:DS) (out:List Int),v.2.2.1.length<=40->(Qe p ts s d f k v out).2.2.2.1.length<=40
 |0,_,_,_,h=>h
 |f+1,k,v,out,h=>by
  rw [Qe]
  split
  ·rename_i hc
   exact o5 h30 f (k+1) _ _ (XH (by omega))
  ·exact h
theorem JT (p:PP) (ts:List TT) (s:List Int) (d:Int):short (bo p ts s d).1:=by
 unfold bo short
 split
 ·rename_i hc
  obtain ⟨_,h0,h30⟩:=o0.1 hc
  have hw:(Lj p ts s d).2.2.2.1.length<=40:=o5 h30 40 (Kw ts s) (0,0,[],false,false,()) [] (by simp)
  split
  ·simp
  ·show (Lj p ts s d).2.2.2.1.length<=4294967296
   omega
 ·simp
theorem Aea (p:PP) (ts:List TT) (s:List Int) (d:Int) (h:Ek p/\Gu ts/\short s):fnW En (look [(4,AI),(5,r6),(6,AG),(10,Zh),(7,Pp.b AJ Qc),(8,Pp.b wI bN),(9,Pp.b iE Ua),(11,Bq),(12,AF),(13,qU),(14,Ti),(15,Lw),(16,ak),(17,gK)]) nE Tryz.f3 (p,ts,s,d,()) (λ(z:Bool)=>z=true):=by
 have h0:Ek (p.1,p.2.1,p.2.2.1,()):=h.1
 have h1:Gu ts:=h.2.1
 have h2:short s:=h.2.2
 refine Eq.mp (Aft p ts s d _) ?_
 refine Br.dec (λ_=>rfl) λBbg=>?_
 refine ⟨_,Ab ⟨h0,LN⟩,Br.dec (λ_=>rfl) λAwn=>?_⟩
 have Ahm:(((Ef p.2.2.1:Nat):Nat):Int)<=(1048576)-(bp (p.1,p.2.1,p.2.2.1,()) (1048576))/\roomy (bp (p.1,p.2.1,p.2.2.1,()) (1048576)):=Aey LN Awn
 have Bcl:=Ahm.1
 have Bc0:0<=bp (p.1,p.2.1,p.2.2.1,()) (1048576)/\bp (p.1,p.2.1,p.2.2.1,()) (1048576)<=4294967296:=Ahm.2
 refine ⟨_,Ab ⟨h1,Ahm.2⟩,Br.dec (λ_=>rfl) λAqz=>?_⟩
 have Akg:(((Lz ts:Nat):Nat):Int)<=(bp (p.1,p.2.1,p.2.2.1,()) (1048576))-(cK ts (bp (p.1,p.2.1,p.2.2.1,()) (1048576)))/\roomy (cK ts (bp (p.1,p.2.1,p.2.2.1,()) (1048576))):=Aa9 Ahm.2 Aqz
 have Azi:=Akg.1
 have Aza:0<=cK ts (bp (p.1,p.2.1,p.2.2.1,()) (1048576))/\cK ts (bp (p.1,p.2.1,p.2.2.1,()) (1048576))<=4294967296:=Akg.2
 have l0:low (1+(Ef p.2.2.1:Nat)):=⟨by omega,by omega⟩
 have l1:low (1+(Ef p.2.2.1:Nat)+(Lz ts:Nat)):=⟨by omega,by omega⟩
 have l2:low (1+(Ef p.2.2.1:Nat)+(Lz ts:Nat)+(s.length:Nat)):=⟨by omega,by omega⟩
 refine ⟨_,Ab h0,_,Ab h1,_,Ab h2,?_⟩
 simp only [Bz]
 refine ⟨_,Ab ⟨h0,h1,h2⟩,_,Ab h0,_,Ab h1,_,Ab h2,?_⟩
 have hg0:short ((bo (p.1,p.2.1,p.2.2.1,()) ts s d).1):=JT _ _ _ _
 generalize he0:(bo (p.1,p.2.1,p.2.2.1,()) ts s d).1=g0 at hg0
 generalize he1:(bo (p.1,p.2.1,p.2.2.1,()) ts s d).2.1=g1
 generalize he2:(bo (p.1,p.2.1,p.2.2.1,()) ts s d).2.2.1=g2
 refine ⟨_,Ab ⟨h0,h1,h2⟩,?_⟩
 simp only [he0,he1,he2]
 refine ⟨_,Ab hg0,⟨λhe=>absurd (Tf _) (Fc he),λ_=>?_⟩⟩
 refine ⟨λhe=>vM he,λ_=>?_⟩
 refine ⟨λhe=>qd he,λ_=>?_⟩
 refine ⟨_,Ab h0,_,Ab h0,⟨λhe=>absurd (QW _) (Fc he),λ_=>?_⟩⟩
 refine ⟨_,Ab h1,?_⟩
 refine ⟨_,Ab h1,⟨λhe=>absurd (JS _) (Fc he),λ_=>?_⟩⟩
 refine ⟨_,Ab h2,?_⟩
 refine ⟨_,Ab h2,⟨λhe=>absurd (Tf _) (Fc he),λ_=>?_⟩⟩
 refine ⟨trivial,trivial,_,Ab ⟨h0.2,tY,l0⟩,⟨ei _ _,trivial⟩,trivial,trivial,_,Ab ⟨h1,l0,l1⟩,trivial,trivial,_,Ab ⟨h2,l1⟩,⟨Wa _ _,trivial⟩,Br.dec (λhn=>absurd l2.1 (Int.not_le.2 hn)) λ_=>?_⟩
 refine ⟨_,Ab hg0,⟨λhe=>absurd (Tf _) (Fc he),λ_=>?_⟩⟩
 refine ⟨λhe=>vM he,λ_=>?_⟩
 refine ⟨λhe=>qd he,λ_=>?_⟩
 refine ⟨trivial,trivial,_,Ab ⟨hg0,tY⟩,⟨Wa _ _,trivial⟩,?_⟩
 simp only [NW]
 have hm0: ∀k,short (Lk k g0.length):= λk=>by unfold short at*;rw [Wa];exact hg0
 refine ⟨_,Ab ⟨hm0 _,tY⟩,?_⟩
 simp only [mi]
 refine Br.dec (λhn=>by omega) λ_=>⟨λhe=>by simp at he,λ_=>?_⟩
 refine ⟨_,Ab h0,_,Ab h1,_,Ab h2,?_⟩
 refine ⟨_,Ab ⟨h0,h1,h2⟩,?_⟩
 simp only [he0,he1,he2]
 refine ⟨_,Ab hg0,⟨λhe=>absurd (Tf _) (Fc he),λ_=>?_⟩⟩
 refine ⟨λhe=>vM he,λ_=>?_⟩
 refine ⟨λhe=>qd he,λ_=>?_⟩
 refine ⟨_,Ab ⟨hm0 _,tY⟩,?_⟩
 simp only [mi]
 exact Br.dec (λhn=>by omega) λ_=>⟨λhe=>by simp at he,λ_=>trivial⟩
theorem ES:Sound Tryz.prog 3 nE:=
 Sound.Fb De (Av Aa2 (Av TF (Av yJ (Et yB (uQ Aa3 tG (uQ TG MD (uQ rn nJ (Av rh (Av ZZ (Av SZ (Et rk (Et EU (Et ky (Av LZ Bh)))))))))))))) mixed Tryz.func3 (by kernel_rfl) (by kernel_rfl) λx h=>Aea x.1 x.2.1 x.2.2.1 x.2.2.2.1 h
end Go.Proofs.YtfgfigkbgecfnaaGreat
