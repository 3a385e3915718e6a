/-
  Part 46 of the proof that the statement FnExactSearchDepth holds.
-/
import Derived.Test.YtfolipnappekaaaGreatCSearchDepth44
namespace Go.Proofs.YtfolipnappekaaaGreat
open Go.RowKit
noncomputable abbrev pU:Spec:=Ev (.pair (.ptr oH) (.pair tI (.pair tL .unit))) (.pair tL (.pair tI .unit)) true false (λx=> ∃N L,Vv N L x.1.1 x.1.2.2.1 x.1.2.1 x.2.1 x.2.2.1) (λx=>Oc x.1.2.1 (x.1.1-x.2.1).toNat x.2.1.toNat x.2.2.1)
noncomputable abbrev Ajn:MSpec:= {ptr:=some (153,3),Je:= [none,none],ins:= [(false, .Eu tI),(false, .Bm tO wa false),(false, .Bm tO wa false),(false, .Eu tI),(false, .Eu tL)],Gy:=true,Hz:= [none,none],outs:= [.Eu tI, .Bm tO wa false, .Bm tO wa false, .Eu tL, .Eu tI],fn:= λ_=>none}
noncomputable abbrev kr:MSpec:=gS Ajn (λx=> ∃N L,Vv N L x.1 x.2.2.1 x.2.1 x.2.2.2.1 x.2.2.2.2.1)
 (λx=>((x.1,x.2.1,x.2.2.1,(Oc x.2.1 (x.1-x.2.2.2.1).toNat x.2.2.2.1.toNat x.2.2.2.2.1).1,(Oc x.2.1 (x.1-x.2.2.2.1).toNat x.2.2.2.1.toNat x.2.2.2.2.1).2.1,()),()))
structure Aft (N L:Nat) (n:Int) (G T:Co) (l:Int) (p:List Int):Prop where
 n1:1<=N
 n2:N<=20
 en:n=N
 el:l=L
 lt:L<N
 part:Part N L (G,T)
 pm:Pm N p
 fx:Fx L p
 gn:Gn N (G.getD L []) p
 gl:(G.getD L []).length<=401
noncomputable abbrev Aad:MSpec:= {ptr:=some (153,3),Je:= [none,none],ins:= [(false, .Eu tI),(false, .Bm tO wa false),(false, .Bm tO wa false),(false, .Eu tI),(false, .Eu tO)],Gy:=false,Hz:= [],outs:= [.Eu tI, .Bm tO wa false, .Bm tO wa false],fn:= λ_=>none}
noncomputable abbrev o5 (m:Nat):MSpec:=gS Aad (λx=>(∃N L q,x.2.2.2.2.1=some q/\Vv N L x.1 x.2.2.1 x.2.1 x.2.2.2.1 q)/\SG x.1.toNat x.2.2.2.1.toNat<m)
 (λx=>((x.1,(kB x.1.toNat 1000 x.2.2.2.1.toNat (x.2.2.2.2.1.getD []) (x.2.2.1,x.2.1)).2,(kB x.1.toNat 1000 x.2.2.2.1.toNat (x.2.2.2.2.1.getD []) (x.2.2.1,x.2.1)).1,()),()))
noncomputable abbrev ei (m:Nat):MSpec:=gS Aad (λx=>(∃N L q,x.2.2.2.2.1=some q/\Aft N L x.1 x.2.2.1 x.2.1 x.2.2.2.1 q)/\mJ x.1.toNat x.2.2.2.1.toNat (x.2.2.1,x.2.1)<m)
 (λx=>((x.1,(fW x.1.toNat 1000 x.2.2.2.1.toNat (x.2.2.2.2.1.getD []) (x.2.2.1,x.2.1)).2,(fW x.1.toNat 1000 x.2.2.2.1.toNat (x.2.2.2.2.1.getD []) (x.2.2.1,x.2.1)).1,()),()))
noncomputable abbrev BH:MSpec:=gS Aad (λx=> ∃N L q,x.2.2.2.2.1=some q/\Vv N L x.1 x.2.2.1 x.2.1 x.2.2.2.1 q)
 (λx=>((x.1,(kB x.1.toNat 1000 x.2.2.2.1.toNat (x.2.2.2.2.1.getD []) (x.2.2.1,x.2.1)).2,(kB x.1.toNat 1000 x.2.2.2.1.toNat (x.2.2.2.2.1.getD []) (x.2.2.1,x.2.1)).1,()),()))
theorem xz (p q:List Int) (P:List Int->Prop):(0=0/\0=([]:List Int).length/\Df (λ(v3:Int×List Int×PUnit) (k4:Int×List Int×PUnit->Prop)=>Br (decide (v3.1<(↑p.length:Int))) (∃(y5:Int),idx p v3.1=some y5/\ ∃(y6:Int),idx q y5=some y6/\0=0/\v3.2.1.length=v3.2.1.length/\v3.2.1.length+(List.take 1 (List.drop 0 [y6])).length<=Cr/\0=0/\(v3.2.1++List.take 1 (List.drop 0 [y6])).length=(v3.2.1++List.take 1 (List.drop 0 [y6])).length/\k4 (IntKind.i64.wrap (v3.1+(1:Int)),v3.2.1++List.take 1 (List.drop 0 [y6]),())) (P (List.take v3.2.1.length (List.drop 0 v3.2.1)))) ((0:Int),[],PUnit.unit))=fnW Ei (look []) Nh Tryz.f156 (p,q,()) P:=by kernel_rfl
theorem Al2 (c:Int×List (List (Option (List Int)))×List (List (Option (List Int)))×Unit) (l:Int) (p:List Int) (P:(List Int×Int×Unit)->Prop):(Df (λ(v4:List Int×Int×PUnit) (k5:List Int×Int×PUnit->Prop)=>Br (decide (v4.2.1<c.1)) (∃(y6:List (Option (List Int))),idx c.2.1 v4.2.1=some y6/\ ∃(y7:Int),idx v4.1 v4.2.1=some y7/\ ∃(y8:Option (List Int)),idx y6 y7=some y8/\Br ((↑(y8.getD []).length:Int)==(0:Int)) (P (v4.1,v4.2.1,())) (∃(y9:List Int),Ff.fn (y8.getD [],())=some y9/\ ∃(Md:List Int),Mo.fn (v4.1,y9,())=some Md/\k5 (Md,IntKind.i64.wrap (v4.2.1+(1:Int)),()))) (P (v4.1,c.1,()))) (p,l,PUnit.unit))=fnW Xc (look [(76,Ff),(156,Mo)]) pU Tryz.f144 (c,l,p,()) P:=by kernel_rfl
abbrev JC:Type:=List Int×Int×List (List (Option (List Int)))×List (List (Option (List Int)))×Int×PUnit
theorem Afp (n:Int) (T G:List (List (Option (List Int)))) (l:Int) (p:List Int) (P:(Int×List (List (Option (List Int)))×List (List (Option (List Int)))×List Int×Int×Unit)×Unit->Prop):(0=0/\T.length=T.length/\0=0/\G.length=G.length/\Df (λ(v6:JC) (k7:JC->Prop)=>Br (decide (v6.2.1<v6.2.2.2.2.1)) (((0:Int)<=v6.2.1/\v6.2.1<(↑v6.2.2.1.length:Int))/\ ∃(y8:Int),idx v6.1 v6.2.1=some y8/\((0:Int)<=y8/\y8<(↑(v6.2.2.1.getD (0+v6.2.1.toNat) []).length:Int))/\Br ((↑(((v6.2.2.1.getD (0+v6.2.1.toNat) []).getD y8.toNat (none:Option (List Int))).getD []).length:Int)==(0:Int)) ((0=0/\v6.2.2.1.length=v6.2.2.1.length)/\(0=0/\v6.2.2.2.1.length=v6.2.2.2.1.length)/\P ((v6.2.2.2.2.1,v6.2.2.1,v6.2.2.2.1,v6.1,v6.2.1,()),())) (∃(y9:List Int),Ff.fn (((v6.2.2.1.getD (0+v6.2.1.toNat) []).getD y8.toNat (none:Option (List Int))).getD [],())=some y9/\ ∃(Md:List Int),Mo.fn (v6.1,y9,())=some Md/\0=0/\v6.2.2.1.length=v6.2.2.1.length/\0=0/\v6.2.2.2.1.length=v6.2.2.2.1.length/\k7 (Md,IntKind.i64.wrap (v6.2.1+(1:Int)),v6.2.2.1,v6.2.2.2.1,v6.2.2.2.2.1,()))) ((0=0/\v6.2.2.1.length=v6.2.2.1.length)/\(0=0/\v6.2.2.2.1.length=v6.2.2.2.1.length)/\P ((v6.2.2.2.2.1,v6.2.2.1,v6.2.2.2.1,v6.1,v6.2.2.2.2.1,()),()))) (p,l,T,G,n,PUnit.unit))=fnMW Xc (look [(76,Ff),(156,Mo)]) kr Tryz.f144 (n,T,G,l,p,()) P:=by kernel_rfl
abbrev CG:Type:=Int×List (Option (List Int))×List (List (Option (List Int)))×List (List (Option (List Int)))×Int×PUnit
abbrev Abt:Type:=(Int×List (List (Option (List Int)))×List (List (Option (List Int)))×List Int×Int×PUnit)×PUnit
abbrev La (y7:Abt) (l:Int) (p:Option (List Int)) (n:Int):Prop:=0=0/\(y7.1.2.2.1.getD (0+l.toNat) []).length=(y7.1.2.2.1.getD (0+l.toNat) []).length/\(y7.1.2.2.1.getD (0+l.toNat) []).length+(List.take 1 (List.drop 0 [p])).length<=Cr/\((0:Int)<=l/\l<(↑y7.1.2.2.1.length:Int))/\0=0/\(y7.1.2.2.1.getD (0+l.toNat) []++List.take 1 (List.drop 0 [p])).length=(y7.1.2.2.1.getD (0+l.toNat) []++List.take 1 (List.drop 0 [p])).length/\0+l.toNat=0+l.toNat/\ [(0,y7.1.2.2.1.length),(0,y7.1.2.2.1.length),(0,y7.1.2.1.length),(0,y7.1.2.2.1.length)]= [(0,y7.1.2.2.1.length),(0,y7.1.2.2.1.length),(0,y7.1.2.1.length),(0,y7.1.2.2.1.length)]/\(l,p,y7.1.2.2.2.1,y7.1.2.2.2.2.1,l,n,decide (l>=n),l,p,y7.1.2.2.2.1,y7.1.2.2.2.2.1,y7.1.2.2.2.2.1,y7.1.1,y7.1.2.2.2.2.1==y7.1.1,l,l,0+l.toNat,p,List.take 1 (List.drop 0 [p]),0+l.toNat,y7.1.2.1,y7.1.2.2.1.set (0+l.toNat) (y7.1.2.2.1.getD (0+l.toNat) []++List.take 1 (List.drop 0 [p])),y7.1.1,())=(l,p,y7.1.2.2.2.1,y7.1.2.2.2.2.1,l,n,decide (l>=n),l,p,y7.1.2.2.2.1,y7.1.2.2.2.2.1,y7.1.2.2.2.2.1,y7.1.1,y7.1.2.2.2.2.1==y7.1.1,l,l,0+l.toNat,p,List.take 1 (List.drop 0 [p]),0+l.toNat,y7.1.2.1,y7.1.2.2.1.set (0+l.toNat) (y7.1.2.2.1.getD (0+l.toNat) []++List.take 1 (List.drop 0 [p])),y7.1.1,PUnit.unit)
theorem Ap5 {m:Nat} (n:Int) (T G:List (List (Option (List Int)))) (l:Int) (p:Option (List Int)) (P:(Int×List (List (Option (List Int)))×List (List (Option (List Int)))×Unit)×Unit->Prop):(Br (decide (l>=n)) ((0=0/\T.length=T.length)/\(0=0/\G.length=G.length)/\P ((n,T,G,()),())) (0=0/\T.length=T.length/\0=0/\G.length=G.length/\ ∃(y7:Abt),kr.fn (n,T,G,l,p.getD [],())=some y7/\Br (y7.1.2.2.2.2.1==y7.1.1) ((0=0/\y7.1.2.1.length=y7.1.2.1.length)/\(0=0/\y7.1.2.2.1.length=y7.1.2.2.1.length)/\P ((y7.1.1,y7.1.2.1,y7.1.2.2.1,()),())) (((0:Int)<=l/\l<(↑y7.1.2.2.1.length:Int))/\0=0/\(y7.1.2.2.1.getD (0+l.toNat) []).length=(y7.1.2.2.1.getD (0+l.toNat) []).length/\(y7.1.2.2.1.getD (0+l.toNat) []).length+(List.take 1 (List.drop 0 [p])).length<=Cr/\((0:Int)<=l/\l<(↑y7.1.2.2.1.length:Int))/\0=0/\(y7.1.2.2.1.getD (0+l.toNat) []++List.take 1 (List.drop 0 [p])).length=(y7.1.2.2.1.getD (0+l.toNat) []++List.take 1 (List.drop 0 [p])).length/\0+l.toNat=0+l.toNat/\(0=0/\0=([]:List Int).length/\0=0/\y7.1.2.1.length=y7.1.2.1.length/\0=0/\y7.1.2.2.1.length=(y7.1.2.2.1.set (0+l.toNat) (y7.1.2.2.1.getD (0+l.toNat) []++List.take 1 (List.drop 0 [p]))).length/\Df (λ(v8:CG) (k9:CG->Prop)=>Br (decide (v8.1<v8.2.2.2.2.1)) (((0:Int)<=l/\l<(↑v8.2.2.1.length:Int))/\((0:Int)<=v8.1/\v8.1<(↑(v8.2.2.1.getD (0+l.toNat) []).length:Int))/\Br (decide ((↑(((v8.2.2.1.getD (0+l.toNat) []).getD v8.1.toNat (none:Option (List Int))).getD []).length:Int)>(0:Int))) (((0:Int)<=l/\l<(↑v8.2.2.1.length:Int))/\((0:Int)<=v8.1/\v8.1<(↑(v8.2.2.1.getD (0+l.toNat) []).length:Int))/\0=0/\v8.2.1.length=v8.2.1.length/\v8.2.1.length+(List.take 1 (List.drop 0 [(v8.2.2.1.getD (0+l.toNat) []).getD v8.1.toNat none])).length<=Cr/\0=0/\(v8.2.1++List.take 1 (List.drop 0 [(v8.2.2.1.getD (0+l.toNat) []).getD v8.1.toNat none])).length=(v8.2.1++List.take 1 (List.drop 0 [(v8.2.2.1.getD (0+l.toNat) []).getD v8.1.toNat none])).length/\0=0/\v8.2.2.1.length=v8.2.2.1.length/\0=0/\v8.2.2.2.1.length=v8.2.2.2.1.length/\k9 (IntKind.i64.wrap (v8.1+(1:Int)),v8.2.1++List.take 1 (List.drop 0 [(v8.2.2.1.getD (0+l.toNat) []).getD v8.1.toNat none]),v8.2.2.1,v8.2.2.2.1,v8.2.2.2.2.1,())) (0=0/\v8.2.1.length=v8.2.1.length/\0=0/\v8.2.2.1.length=v8.2.2.1.length/\0=0/\v8.2.2.2.1.length=v8.2.2.2.1.length/\k9 (IntKind.i64.wrap (v8.1+(1:Int)),v8.2.1,v8.2.2.1,v8.2.2.2.1,v8.2.2.2.2.1,()))) (0=0/\v8.2.1.length=v8.2.1.length/\0=0/\v8.2.2.1.length=v8.2.2.1.length/\0=0/\v8.2.2.2.1.length=v8.2.2.2.1.length/\Df (λ(v10:CG) (k11:CG->Prop)=>Br (decide (v10.1<(↑v10.2.1.length:Int))) (((0:Int)<=v10.1/\v10.1<(↑v10.2.1.length:Int))/\ ∃(fR:Option (List Int)),v10.2.1[0+v10.1.toNat]?=some fR/\ ∃(Lo:Option (List Int)),Jq.fn (fR.getD [],p.getD [],())=some Lo/\0=0/\v10.2.2.1.length=v10.2.2.1.length/\0=0/\v10.2.2.2.1.length=v10.2.2.2.1.length/\ ∃(Jc:(Int×List (List (Option (List Int)))×List (List (Option (List Int)))×PUnit)×PUnit),(ei m).fn (v10.2.2.2.2.1,v10.2.2.1,v10.2.2.2.1,l,Lo,())=some Jc/\0=0/\v10.2.1.length=v10.2.1.length/\0=0/\Jc.1.2.1.length=Jc.1.2.1.length/\0=0/\Jc.1.2.2.1.length=Jc.1.2.2.1.length/\k11 (IntKind.i64.wrap (v10.1+(1:Int)),v10.2.1,Jc.1.2.1,Jc.1.2.2.1,Jc.1.1,())) ((0=0/\v10.2.2.1.length=v10.2.2.1.length)/\(0=0/\v10.2.2.2.1.length=v10.2.2.2.1.length)/\P ((v10.2.2.2.2.1,v10.2.2.1,v10.2.2.2.1,()),()))) ((0:Int),v8.2.1,v8.2.2.1,v8.2.2.2.1,v8.2.2.2.2.1,PUnit.unit))) ((0:Int),[],y7.1.2.1,y7.1.2.2.1.set (0+l.toNat) (y7.1.2.2.1.getD (0+l.toNat) []++List.take 1 (List.drop 0 [p])),y7.1.1,PUnit.unit))/\(((((0:Int)<=l/\l<(↑y7.1.2.2.1.length:Int))/\((La y7 l p n))/\(La y7 l p n))/\((0:Int)<=l/\l<(↑y7.1.2.2.1.length:Int))/\(La y7 l p n))/\((0:Int)<=l/\l<(↑y7.1.2.2.1.length:Int))/\(La y7 l p n))/\(((((0:Int)<=l/\l<(↑y7.1.2.2.1.length:Int))/\((La y7 l p n))/\(La y7 l p n))/\((0:Int)<=l/\l<(↑y7.1.2.2.1.length:Int))/\(La y7 l p n))/\(((0:Int)<=l/\l<(↑y7.1.2.2.1.length:Int))/\(((La y7 l p n))/\(La y7 l p n))/\(((La y7 l p n))/\((La y7 l p n))/\(La y7 l p n))/\((La y7 l p n))/\((La y7 l p n))/\(La y7 l p n))/\(((0:Int)<=l/\l<(↑y7.1.2.2.1.length:Int))/\(La y7 l p n))/\((0:Int)<=l/\l<(↑y7.1.2.2.1.length:Int))/\((La y7 l p n))/\((La y7 l p n))/\(La y7 l p n))/\(((0:Int)<=l/\l<(↑y7.1.2.2.1.length:Int))/\(La y7 l p n))/\(((0:Int)<=l/\l<(↑y7.1.2.2.1.length:Int))/\(La y7 l p n))/\((0:Int)<=l/\l<(↑y7.1.2.2.1.length:Int))/\((La y7 l p n))/\((La y7 l p n))/\(La y7 l p n))))=fnMW (Ac2 [jI+46]) (look [(144,kr),(156,Jq),(157,Pc.m (ei m))]) (o5 (m+1)) Tryz.f146 (n,T,G,l,p,()) P:=by kernel_rfl
abbrev Abr:Type:=(Int×List (List (Option (List Int)))×List (List (Option (List Int)))×PUnit)×PUnit
abbrev Abu:Type:=Int×List (List (Option (List Int)))×List (List (Option (List Int)))×Int×PUnit
theorem Ap6 {m:Nat} (n:Int) (T G:List (List (Option (List Int)))) (l:Int) (p:Option (List Int)) (P:(Int×List (List (Option (List Int)))×List (List (Option (List Int)))×Unit)×Unit->Prop):(((0:Int)<=l/\l<(↑T.length:Int))/\ ∃(y7:Int),idx (p.getD []) l=some y7/\((0:Int)<=y7/\y7<(↑(T.getD (0+l.toNat) []).length:Int))/\Br (decide ((↑(((T.getD (0+l.toNat) []).getD y7.toNat (none:Option (List Int))).getD []).length:Int)>(0:Int))) (∃(y8:List Int),Ff.fn (((T.getD (0+l.toNat) []).getD y7.toNat (none:Option (List Int))).getD [],())=some y8/\ ∃(y9:Option (List Int)),Jq.fn (p.getD [],y8,())=some y9/\0=0/\T.length=T.length/\0=0/\G.length=G.length/\ ∃(Md:Abr),(o5 m).fn (n,T,G,IntKind.i64.wrap (l+(1:Int)),y9,())=some Md/\(0=0/\Md.1.2.1.length=Md.1.2.1.length)/\(0=0/\Md.1.2.2.1.length=Md.1.2.2.1.length)/\P ((Md.1.1,Md.1.2.1,Md.1.2.2.1,()),())) (((0:Int)<=l/\l<(↑T.length:Int))/\ ∃(y8:Int),idx (p.getD []) l=some y8/\((0:Int)<=y8/\y8<(↑(T.getD (0+l.toNat) []).length:Int))/\0=0/\T.length=(T.set (0+l.toNat) ((T.getD (0+l.toNat) []).set y8.toNat p)).length/\0=0/\G.length=G.length/\Df (λ(v9:Abu) (k10:Abu->Prop)=>((0:Int)<=l/\l<(↑v9.2.2.1.length:Int))/\Br (decide (v9.1<(↑(v9.2.2.1.getD (0+l.toNat) []).length:Int))) (((0:Int)<=l/\l<(↑v9.2.2.1.length:Int))/\((0:Int)<=v9.1/\v9.1<(↑(v9.2.2.1.getD (0+l.toNat) []).length:Int))/\ ∃(fQ:Option (List Int)),Jq.fn (p.getD [],((v9.2.2.1.getD (0+l.toNat) []).getD v9.1.toNat (none:Option (List Int))).getD [],())=some fQ/\0=0/\v9.2.1.length=v9.2.1.length/\0=0/\v9.2.2.1.length=v9.2.2.1.length/\ ∃(fR:Abr),(ei m).fn (v9.2.2.2.1,v9.2.1,v9.2.2.1,l,fQ,())=some fR/\0=0/\fR.1.2.1.length=fR.1.2.1.length/\0=0/\fR.1.2.2.1.length=fR.1.2.2.1.length/\k10 (IntKind.i64.wrap (v9.1+(1:Int)),fR.1.2.1,fR.1.2.2.1,fR.1.1,())) ((0=0/\v9.2.1.length=v9.2.1.length)/\(0=0/\v9.2.2.1.length=v9.2.2.1.length)/\P ((v9.2.2.2.1,v9.2.1,v9.2.2.1,()),()))) ((0:Int),T.set (0+l.toNat) ((T.getD (0+l.toNat) []).set y8.toNat p),G,n,PUnit.unit)))=fnMW Xc (look [(76,Ff),(156,Jq),(146,Pc.m (o5 m)),(157,Pc.m (ei m))]) (ei (m+1)) Tryz.f157 (n,T,G,l,p,()) P:=by kernel_rfl
theorem TI {p q:List Int} {j:Nat} (h:j<p.length):(Al p q).take (j+1)=(Al p q).take j++ [Nm q p[j]]:=by
 unfold Al
 rw [Ay (by rw [Di];exact h),Sv]
theorem wS (p q:List Int) (h:List.length p<=20/\Mk (List.length q) p):fnW Ei (look []) Nh Tryz.f156 (p,q,()) (λ(z:List Int)=>z=Al p q):=by
 obtain ⟨h1,h2⟩:=h
 refine Eq.mp (xz p q _) ⟨rfl,rfl,?_⟩
 refine Bf p.length (λv=>v.1) (λj v=>v=((j:Int),(Al p q).take j,())) rfl rfl ?_
 rintro j v K hj hi rfl hK
 dsimp only
 have hlen:((Al p q).take j).length<=20:=by rw [Dd];unfold Al;rw [Di];omega
 refine Br.dec (λhl=>?_) λhl=>?_
 ·have hl:j<p.length:=by omega
  have hr:=h2 p[j] (Aj hl)
  refine ⟨_,Bp hl,Nm q p[j],iQ hr.1 hr.2,rfl,rfl,?_,rfl,rfl,?_⟩
  ·show ((Al p q).take j).length+1<=4294967296
   omega
  ·rw [Bg (by omega)]
   refine hK hl _ rfl ?_
   rw [TI hl]
   rfl
 ·have:j=p.length:=by omega
  subst this
  rw [Cf,<-Pe p q,Ap]
theorem cV:Sound Tryz.prog 156 Nh:=
 Sound.Ev Db Bh mixed Tryz.func156 (by kernel_rfl) (by kernel_rfl) λx h=>wS x.1 x.2.1 h
theorem c9:Sound Tryz.prog 156 Mo:=Sound.loose cV
theorem ca:Sound Tryz.prog 156 Jq:=Sound.toO cV λx h=>⟨⟨h.1.2,h.2⟩,λe=>by
 have:=Pe x.1 x.2.1
 rw [e] at this
 have:=h.1.1
 simp only [Gc] at*
 omega⟩
theorem yQ {N L i:Nat} {G T:Co} {p:List Int} (n2:N<=20) (v3:kA N (N-L) L (G,T)) (v2:T.length=N) (h1:L<=i) (hl:i<N) (h4:Pm N p) (h5:Fx i p):
  ∃o,idx p (i:Int)=some (ap p i:Int)/\T[i]?=some (T.getD i [])/\ap p i<(T.getD i []).length/\(T.getD i [])[ap p i]?=some o/\(T.getD i []).getD (ap p i) none=o/\
   (o=none->(o.getD []).length=0/\ ∀k,Oc T (k+1) i p=(p,(i:Int),()))/\
   (∀t,o=some t->(t.length≠0/\t.length<=20/\Mk t.length t)/\(p.length<=20/\Mk (Bk t).length p)/\Pm N (Al p (Bk t))/\Fx (i+1) (Al p (Bk t))/\ ∀k,Oc T (k+1) i p=Oc T k (i+1) (Al p (Bk t))):=by
 have Kp:=tp (N-L) L v3 i h1 (by omega)
 have hT:i<T.length:=by omega
 have hlen:(T.getD i []).length=N:=Kp.rl
 obtain ⟨a1,a2⟩:=h4.aL hl
 have hg:(Nm p (i:Int)).toNat=ap p i:=rfl
 refine ⟨(T.getD i []).getD (ap p i) none,?_,?_,by omega,?_,rfl,λho=>?_,λt ho=>?_⟩
 ·rw [<-a1,Mi (by rw [h4.1];exact hl)];exact Bp (by rw [h4.1];exact hl)
 ·rw [Ak,Ac hT];rfl
 ·rw [Ak (l:=T.getD i []),Ac (by omega)];rfl
 ·refine ⟨by rw [ho];rfl,λk=>?_⟩
  simp only [Oc,hg,ho]
 ·obtain ⟨t1,t2,t3,t4⟩:=Kp.rt _ _ ho
  have hn1:=h4.n1
  refine ⟨⟨by rw [t1.1];omega,by rw [t1.1];exact n2,t1.2.row⟩,⟨by rw [h4.1];exact n2,by rw [nD,t1.1];exact h4.row⟩,h4.comp t1.inv,Fx.div h4 t1 h5 t2 hl t3,λk=>?_⟩
  simp only [Oc,hg,ho]
theorem Ak9 (c:Int×List (List (Option (List Int)))×List (List (Option (List Int)))×Unit) (l:Int) (p:List Int) (h: ∃N L,Vv N L c.1 c.2.2.1 c.2.1 l p):
  fnW Xc (look [(76,Ff),(156,Mo)]) pU Tryz.f144 (c,l,p,()) (λ(z:List Int×Int×Unit)=>z=Oc c.2.1 (c.1-l).toNat l.toNat p):=by
 obtain ⟨n,T,G,⟨⟩⟩:=c
 obtain ⟨N,L,h⟩:=h
 obtain ⟨n1,n2,en,el,hle,v,pm,fx⟩:=h
 dsimp only at en el v⊢
 subst en el
 refine Eq.mp (Al2 ((N:Int),T,G,()) (L:Int) p _) ?_
 obtain ⟨v1,v2,v3,v4⟩:=v
 dsimp only at v1 v2
 refine ⟨λv=> ∃i:Nat,L<=i/\i<=N/\v.2.1=i/\Pm N v.1/\Fx i v.1/\Oc T (N-i) i v.1=Oc T (N-L) L p,λv=>N-v.2.1.toNat,⟨L,Ao _,hle,rfl,pm,fx,rfl⟩,?_⟩
 rintro ⟨p',i',⟨⟩⟩ ⟨i,h1,h2,h3,h4,h5,h6⟩
 dsimp only at h3 h4 h5 h6⊢
 subst h3
 rw [show (((N:Int)-(L:Int)).toNat)=N-L by omega,show ((L:Int)).toNat=L by omega,<-h6]
 refine Br.dec (λhl=>?_) λhl=>?_
 ·have hl:i<N:=by omega
  obtain ⟨o,s1,s2,s3,s4,s5,s6,s7⟩:=yQ n2 v3 v2 h1 hl h4 h5
  have hT:i<T.length:=by omega
  refine ⟨T.getD i [],by rw [Bp hT,<-s2,Ac hT],_,s1,o,by rw [Bp s3,<-s4,Ac s3],?_⟩
  rw [show N-i=(N-i-1)+1 by omega]
  cases o with
  |none=>
   rw [(s6 rfl).2]
   exact Br.of (λ_=>rfl) λhb=>by simp at hb
  |some t=>
   obtain ⟨⟨q1,q2⟩,q3,q4,q5,q6⟩:=s7 t rfl
   refine Br.of (λhb=>absurd (by simpa using hb) q1) λ_=>?_
   refine ⟨_,Ab q2,_,Ab q3,⟨i+1,by omega,by omega,Bg (by omega),q4,q5,?_⟩,?_⟩
   ·rw [q6,show N-(i+1)=N-i-1 by omega];rfl
   ·show N-(IntKind.i64.wrap ((i:Int)+1)).toNat<N-((i:Int)).toNat
    rw [Bg (by omega)]
    omega
 ·have:i=N:=by omega
  subst this
  rw [Nat.sub_self]
  rfl
theorem PK:Sound Tryz.prog 144 pU:=
 Sound.Ev mD (Av Zi (Av c9 Bh)) mixed Tryz.func144 (by kernel_rfl) (by kernel_rfl) λx h=>Ak9 x.1 x.2.1 x.2.2.1 h
theorem Aex (n:Int) (T G:List (List (Option (List Int)))) (l:Int) (p:List Int) (h: ∃N L,Vv N L n G T l p):
  fnMW Xc (look [(76,Ff),(156,Mo)]) kr Tryz.f144 (n,T,G,l,p,()) (λ(z:(Int×List (List (Option (List Int)))×List (List (Option (List Int)))×List Int×Int×Unit)×Unit)=>z=((n,T,G,(Oc T (n-l).toNat l.toNat p).1,(Oc T (n-l).toNat l.toNat p).2.1,()),())):=by
 obtain ⟨N,L,h⟩:=h
 obtain ⟨n1,n2,en,el,hle,v,pm,fx⟩:=h
 subst en el
 refine Eq.mp (Afp (N:Int) T G (L:Int) p _) ⟨rfl,rfl,rfl,rfl,?_⟩
 obtain ⟨v1,v2,v3,v4⟩:=v
 dsimp only at v1 v2
 refine ⟨λv=> ∃i:Nat,L<=i/\i<=N/\v.2=((i:Int),T,G,(N:Int),())/\Pm N v.1/\Fx i v.1/\Oc T (N-i) i v.1=Oc T (N-L) L p,λv=>N-v.2.1.toNat,⟨L,Ao _,hle,rfl,pm,fx,rfl⟩,?_⟩
 rintro ⟨p',v'⟩ ⟨i,h1,h2,h3,h4,h5,h6⟩
 dsimp only at h3 h4 h5 h6⊢
 subst h3
 dsimp only
 rw [show (((N:Int)-(L:Int)).toNat)=N-L by omega,show ((L:Int)).toNat=L by omega,<-h6]
 refine Br.dec (λhl=>?_) λhl=>?_
 ·have hl:i<N:=by omega
  obtain ⟨o,s1,s2,s3,s4,s5,s6,s7⟩:=yQ n2 v3 v2 h1 hl h4 h5
  simp only [Ai,Bv,true_and,Oi]
  refine ⟨⟨by omega,by omega⟩,_,s1,⟨by omega,by omega⟩,?_⟩
  rw [Ai,s5,show N-i=(N-i-1)+1 by omega]
  cases o with
  |none=>
   rw [(s6 rfl).2]
   exact Br.of (λ_=>rfl) λhb=>by simp at hb
  |some t=>
   obtain ⟨⟨q1,q2⟩,q3,q4,q5,q6⟩:=s7 t rfl
   refine Br.of (λhb=>absurd (by simpa using hb) q1) λ_=>?_
   refine ⟨_,Ab q2,_,Ab q3,⟨i+1,by omega,by omega,?_,q4,q5,?_⟩,?_⟩
   ·rw [Bg (by omega)]
   ·rw [q6,show N-(i+1)=N-i-1 by omega];rfl
   ·show N-(IntKind.i64.wrap ((i:Int)+1)).toNat<N-i-1+1
    rw [Bg (by omega)]
    omega
 ·have:i=N:=by omega
  subst this
  rw [Nat.sub_self]
  exact ⟨⟨rfl,rfl⟩,⟨rfl,rfl⟩,rfl⟩
theorem IT:By Tryz.prog 144 kr:=
 By.gS mD (Av Zi (Av c9 Bh)) mixed Tryz.func144 (by kernel_rfl) (by kernel_rfl) λx h=>Aex x.1 x.2.1 x.2.2.1 x.2.2.2.1 x.2.2.2.2.1 h
theorem Aoi {m:Nat} (n:Int) (T G:List (List (Option (List Int)))) (l:Int) (p:Option (List Int)) (h:(∃N L q,p=some q/\Aft N L n G T l q)/\mJ n.toNat l.toNat (G,T)<m+1):
  fnMW Xc (look [(76,Ff),(156,Jq),(146,Pc.m (o5 m)),(157,Pc.m (ei m))]) (ei (m+1)) Tryz.f157 (n,T,G,l,p,()) (λ(z:(Int×List (List (Option (List Int)))×List (List (Option (List Int)))×Unit)×Unit)=>z=((n,(fW n.toNat 1000 l.toNat (p.getD []) (G,T)).2,(fW n.toNat 1000 l.toNat (p.getD []) (G,T)).1,()),())):=by
 obtain ⟨⟨N,L,q,rfl,h⟩,hm⟩:=h
 obtain ⟨n1,n2,en,el,It,part,pm,fx,gn,gl⟩:=h
 subst en el
 refine Eq.mp (Ap6 (N:Int) T G (L:Int) (some q) _) ?_
 have l1:G.length=N:=part.l1
 have l2:T.length=N:=part.l2
 have row:=part.row
 dsimp only at row
 have hrl:=row.rl
 have hy:=pm.lt It
 simp only [Ai,Bv,Bx,true_and,Oi,Bi] at hm⊢
 refine ⟨⟨by omega,by omega⟩,_,zJ pm It,⟨by omega,by omega⟩,?_⟩
 simp only [Ai]
 rcases Option.eq_none_or_eq_some ((T.getD L []).getD (ap q L) none) with Kp|⟨t,Kp⟩
 case inr=>
  obtain ⟨t1,t2,t3,t4⟩:=row.rt _ _ Kp
  have htl:=t1.1
  refine Br.dec (λ_=>?_) λhb=>?_
  ·rw [Kp,Bx]
   have hw:IntKind.i64.wrap ((L:Int)+1)=((L+1:Nat):Int):=Bg (by omega)
   rw [hw]
   have hmu:=Aar (s:=(G,T)) It
   refine ⟨_,Ab ⟨by show t.length<=20;omega,t1.2.row⟩,some (Al q (Bk t)),Ab ⟨Xp pm,pN pm t1.inv⟩,_,
    Ab ⟨⟨N,L+1,_,rfl,n1,n2,rfl,rfl,by omega,part.v,pm.comp t1.inv,Fx.div pm t1 fx t2 It t3⟩,by show SG (N:Int).toNat ((L+1:Nat):Int).toNat<m;rw [Ai,Ai];omega⟩,?_⟩
   simp only [Ai,Bx]
   rw [YG n1 n2 It part pm fx Kp]
  ·rw [Kp,Bx] at hb
   omega
 case inl=>
  refine Br.dec (λhb=>by rw [Kp] at hb;simp at hb) λ_=>?_
  obtain ⟨a1,a2⟩:=DN It part pm fx gn Kp
  have rQ:=YF n1 n2 It part pm fx gn Kp
  have hmu:=Aej (n:=N) (q:=q) (s:=(G,T)) (k:=L) (y:=ap q L) (by show L<T.length;omega) (by show ap q L<(T.getD L []).length;omega) Kp
  have run:= λj=>xS n1 n2 It a1 a2 j
  dsimp only at a1 a2 rQ hmu run
  refine ⟨⟨by omega,by omega⟩,_,zJ pm It,⟨by omega,by omega⟩,?_⟩
  simp only [Ai]
  rw [rQ]
  generalize hs0:((G,T.set L ((T.getD L []).set (ap q L) (some q))):Co×Co)=s0 at hmu run⊢
  have Aja:T.set L ((T.getD L []).set (ap q L) (some q))=s0.2:=by rw [<-hs0]
  have ZV:G=s0.1:=by rw [<-hs0]
  have hql:((G.getD L []).map λo=>Al q (o.getD [])).length=(G.getD L []).length:=Di _
  refine Bf (G.getD L []).length (λv=>v.1) (λj v=> ∃s:Co×Co,v=((j:Int),s.2,s.1,(N:Int),())/\s=iB N L (((G.getD L []).map λo=>Al q (o.getD [])).take j) s0) rfl ⟨s0,by rw [<-ZV,Aja];rfl,rfl⟩ ?_
  rintro j v K hj hi ⟨s,rfl,hs⟩ hK
  have hr:=run j
  rw [<-hs] at hr
  have g1:s.1.getD L []=G.getD L []:=by rw [hr.same,ZV]
  have g2:s.1.length=N:=hr.part.l1
  have g4:mJ N L (s.1,s.2)<=mJ N L s0:=hr.mu
  dsimp only
  simp only [g1]
  refine ⟨⟨by omega,by omega⟩,Br.dec (λhl=>?_) λhl=>?_⟩
  ·have hl:j<(G.getD L []).length:=by omega
   obtain ⟨g,oP,Tp,hgf⟩:=part.pg _ (Aj hl)
   have hgj:(G.getD L []).getD j none=some g:=by rw [FA hl];exact oP
   have hqj:(((G.getD L []).map λo=>Al q (o.getD []))[j]'(by rw [hql];exact hl))=Al q g:=by rw [Sv,oP];rfl
   obtain ⟨b1,b2,b3⟩:=a2 (Al q g) (by rw [<-hqj];exact Aj _)
   simp only [Ai,hgj,Bx]
   refine ⟨⟨by omega,by omega⟩,⟨by omega,by omega⟩,some (Al q g),Ab ⟨Xp pm,pN pm Tp⟩,_,
    Ab ⟨⟨N,L,_,rfl,n1,n2,rfl,rfl,It,hr.part,b1,b2,by rw [g1];exact b3,by rw [g1];exact gl⟩,by show mJ (N:Int).toNat (L:Int).toNat (s.1,s.2)<m;rw [Ai,Ai];omega⟩,?_⟩
   simp only [Ai,Bx]
   rw [Bg (by omega)]
   refine hK hl _ rfl ⟨_,rfl,?_⟩
   rw [tE (by rw [hql];exact hl),<-hs,hqj]
  ·have:j=(G.getD L []).length:=by omega
   subst this
   rw [<-hql,Ap] at hs
   rw [hs]
theorem Abn {m:Nat} (Ajk:By Tryz.prog 146 (o5 m)) (MN:By Tryz.prog 157 (ei m)):By Tryz.prog 157 (ei (m+1)):=
 By.gS mD (Av Zi (Av ca (En Ajk (En MN Bh)))) mixed Tryz.func157 (by kernel_rfl) (by kernel_rfl) λx h=>Aoi x.1 x.2.1 x.2.2.1 x.2.2.2.1 x.2.2.2.2.1 h
theorem Aoh {m:Nat} (n:Int) (T G:List (List (Option (List Int)))) (l:Int) (p:Option (List Int)) (h:(∃N L q,p=some q/\Vv N L n G T l q)/\SG n.toNat l.toNat<m+1):
  fnMW (Ac2 [jI+46]) (look [(144,kr),(156,Jq),(157,Pc.m (ei m))]) (o5 (m+1)) Tryz.f146 (n,T,G,l,p,()) (λ(z:(Int×List (List (Option (List Int)))×List (List (Option (List Int)))×Unit)×Unit)=>z=((n,(kB n.toNat 1000 l.toNat (p.getD []) (G,T)).2,(kB n.toNat 1000 l.toNat (p.getD []) (G,T)).1,()),())):=by
 obtain ⟨⟨N,L,q,rfl,h⟩,hm⟩:=h
 have h':=h
 obtain ⟨n1,n2,en,el,hle,v,pm,fx⟩:=h
 subst en el
 have hk:((N:Int)-(L:Int)).toNat=N-L:=by omega
 have back: ∀s:Co×Co,kB N 1000 L q (G,T)=s->((((N:Int),s.2,s.1,()),()):(Int×Co×Co×Unit)×Unit)=((((N:Int),(kB N 1000 L q (G,T)).2,(kB N 1000 L q (G,T)).1,()),()):(Int×Co×Co×Unit)×Unit):= λs e=>by rw [e]
 refine Eq.mp (Ap5 (N:Int) T G (L:Int) (some q) _) ?_
 simp only [Ai,Bv,Bx,true_and,Oi] at hm⊢
 refine Br.dec (λoP=>?_) λIt=>?_
 ·exact back (G,T) (QQ (by rw [show N-L=0 by omega];rfl))
 have It:L<N:=by omega
 have hv:=v
 obtain ⟨v1,v2,v3,v4⟩:=v
 dsimp only at v1 v2
 have hsl:(Oc T (N-L) L q).2.1=(N:Int)↔Hy T (N-L) L q=true:=by
  have:=uZ (T:=T) (N-L) L q
  rw [show L+(N-L)=N by omega] at this
  exact this
 refine ⟨_,Ab ⟨N,L,h'⟩,?_⟩
 simp only [La]
 simp only [hk,Ai]
 refine Br.of (λhh=>?_) λhh=>?_
 ·exact back (G,T) (QQ (hsl.1 (eq_of_beq hh)))
 have hno: ¬Hy T (N-L) L q=true:= λhc=>by rw [hsl.2 hc] at hh;simp at hh
 have l9:=YE n1 n2 (s:=(G,T)) It hv pm fx hno
 obtain ⟨a1,a2⟩:=DM n1 n2 (s:=(G,T)) It hv pm fx
 have hgl:(G.getD L []).length<=400:=by
  obtain ⟨k,hk1⟩: ∃k,N-L=k+1:=⟨N-L-1,by omega⟩
  rw [hk1] at hv
  exact RG n2 (by omega) hv
 have e1:(0:Int)<=(L:Int)/\(L:Int)<(G.length:Int):=by omega
 have e2:(G.getD L []).length+1<=Cr:=by show _<=4294967296;omega
 have row:=a1.row
 dsimp only at row a1 a2 l9
 have hrl:=row.rl
 have run:= λj=>xS n1 n2 It a1 a2 j
 have hmu:=NI a1
 simp only [Dm,List.take_succ_cons,List.take_zero,Az,Gc,Bi,Bv,e1,e2,and_self,true_and,Oi]
 have hG1:(G.set L (G.getD L []++ [some q])).getD L []=G.getD L []++ [some q]:=dk G L (by omega) _
 generalize hs0:((G.set L (G.getD L []++ [some q]),T):Co×Co)=s0 at hmu run l9⊢
 have ZV:G.set L (G.getD L []++ [some q])=s0.1:=by rw [<-hs0]
 have Aja:T=s0.2:=by rw [<-hs0]
 refine Bf N (λv=>v.1) (λy v=>v=((y:Int),(known ((T.getD L []).take y)).map some,T,G.set L (G.getD L []++ [some q]),(N:Int),())) rfl rfl ?_
 rintro y v K hj hi rfl hK
 dsimp only
 refine Br.dec (λhl=>?_) λhl=>?_
 ·have hl:y<N:=by omega
  have hy:y<(T.getD L []).length:=by omega
  have hkt:=MZ hy
  have Sa:=ym ((T.getD L []).take y)
  rw [Dd] at Sa
  have hye:(T.getD L []).getD y none=(T.getD L [])[y]:=FA hy
  simp only [Ai]
  refine ⟨by omega,⟨by omega,by omega⟩,?_⟩
  rcases Option.eq_none_or_eq_some ((T.getD L []).getD y none) with ho|⟨t,ho⟩
  ·refine Br.dec (λhb=>by rw [ho] at hb;simp at hb) λ_=>?_
   rw [Bg (by omega)]
   refine hK hl _ rfl ?_
   rw [hkt,<-hye,ho]
   simp
  ·obtain ⟨t1,t2,t3,t4⟩:=row.rt _ _ ho
   have htl:=t1.1
   refine Br.dec (λ_=>?_) λhb=>by rw [ho,Bx] at hb;omega
   refine ⟨by omega,⟨by omega,by omega⟩,?_,?_⟩
   ·show _<=4294967296
    rw [Di];omega
   ·rw [Bg (by omega)]
    refine hK hl _ rfl ?_
    rw [hkt,<-hye,ho]
    simp
 ·have:y=N:=by omega
  subst this
  have ZK:(T.getD L []).take y=T.getD L []:=aC (by omega)
  rw [ZK]
  have hql:((known (T.getD L [])).map λu=>Al u q).length=(known (T.getD L [])).length:=Di _
  have Sa:=ym (T.getD L [])
  refine Bf (known (T.getD L [])).length (λv=>v.1) (λj v=> ∃s:Co×Co,v=((j:Int),(known (T.getD L [])).map some,s.2,s.1,(y:Int),())/\s=iB y L (((known (T.getD L [])).map λu=>Al u q).take j) s0) rfl ⟨s0,by rw [<-Aja,ZV];rfl,rfl⟩ ?_
  rintro j v K' rM nz ⟨s,rfl,hs⟩ hK'
  have hr:=run j
  rw [<-hs] at hr
  have g1:s.1.getD L []=G.getD L []++ [some q]:=by rw [hr.same,<-ZV];exact hG1
  have g4:mJ y L (s.1,s.2)<=mJ y L s0:=hr.mu
  dsimp only
  refine Br.dec (λKm=>?_) λKm=>?_
  ·rw [Di] at Km
   have Km:j<(known (T.getD L [])).length:=by omega
   obtain ⟨w,hw⟩:=kc.1 (Aj Km)
   obtain ⟨t1,t2,t3,t4⟩:=row.rt _ _ hw
   have hqj:(((known (T.getD L [])).map λu=>Al u q)[j]'(by rw [hql];exact Km))=Al (known (T.getD L []))[j] q:=by rw [Sv]
   obtain ⟨b1,b2,b3⟩:=a2 (Al (known (T.getD L []))[j] q) (by rw [<-hqj];exact Aj _)
   simp only [Ai]
   refine ⟨⟨by omega,by rw [Di];omega⟩,some (known (T.getD L []))[j],by rw [Fc,Ac Km];rfl,some (Al (known (T.getD L []))[j] q),Ab ⟨Xp t1,pN t1 pm⟩,_,
    Ab ⟨⟨y,L,_,rfl,n1,n2,rfl,rfl,It,hr.part,b1,b2,by rw [g1,<-hG1];exact b3,by rw [g1,Ax,Bw];omega⟩,by show mJ (y:Int).toNat (L:Int).toNat (s.1,s.2)<m;rw [Ai,Ai];omega⟩,?_⟩
   simp only [Ai,Bx]
   rw [Bg (by omega)]
   refine hK' Km _ rfl ⟨_,rfl,?_⟩
   rw [tE (by rw [hql];exact Km),<-hs,hqj]
  ·rw [Di] at Km
   have:j=(known (T.getD L [])).length:=by omega
   subst this
   rw [<-hql,Ap] at hs
   exact back s (l9.trans hs.symm)
theorem Abm {m:Nat} (MN:By Tryz.prog 157 (ei m)):By Tryz.prog 146 (o5 (m+1)):=
 By.gS (Afe [jI+46]) (En IT (Av ca (En MN Bh))) mixed Tryz.func146 (by kernel_rfl) (by kernel_rfl) λx h=>Aoh x.1 x.2.1 x.2.2.1 x.2.2.2.1 x.2.2.2.2.1 h
theorem VW:By Tryz.prog 146 (o5 0)/\By Tryz.prog 157 (ei 0):=
 ⟨By.gS Db Bh mixed Tryz.func146 (by kernel_rfl) (by kernel_rfl) λ_ h=>absurd h.2 (Dp _),
  By.gS Db Bh mixed Tryz.func157 (by kernel_rfl) (by kernel_rfl) λ_ h=>absurd h.2 (Dp _)⟩
theorem ku: ∀m,By Tryz.prog 146 (o5 m)/\By Tryz.prog 157 (ei m)
 |0=>VW
 |m+1=>⟨Abm (ku m).2,Abn (ku m).1 (ku m).2⟩
theorem OY:By Tryz.prog 146 BH:=By.Aau (λx=>SG x.1.toNat x.2.2.2.1.toNat) λm=>(ku m).1
noncomputable abbrev cS:Spec:=Ev (.pair tL .unit) tO false true (λx=>short x.1/\1<=List.length x.1) (λx=>some x.1)
noncomputable abbrev zO:MSpec:= {Je:= [none],ins:= [(false, .Eu tI)],Gy:=false,Hz:= [none,none,none],outs:= [.Eu tI, .Bm tO wa false, .Bm tO wa false],fn:= λ_=>none,rp:=some 153}
noncomputable abbrev Sp:MSpec:=gS zO (λx=>1<=x.1/\x.1<=20) (λx=>((x.1,Yv x.1.toNat,Ti x.1.toNat,()),()))
noncomputable abbrev wy:MSpec:= {Je:= [none,none],ins:= [(false, .Eu tI),(false, .Eu tLO)],Gy:=false,Hz:= [none,none,none],outs:= [.Eu tI, .Bm tO wa false, .Bm tO wa false],fn:= λ_=>none,rp:=some 153}
noncomputable abbrev dx:MSpec:=gS wy (λx=>(1<=x.1/\x.1<=20)/\List.length x.2.1<=4294967296/\ ∀o∈(x.2.1:List PO),∃g,o=some g/\Pm x.1.toNat g)
 (λx=>((x.1,(Ps x.1.toNat x.2.1).2,(Ps x.1.toNat x.2.1).1,()),()))
noncomputable abbrev wz:MSpec:= {Je:= [none,none],ins:= [(false, .Eu tI),(false, .Eu da)],Gy:=false,Hz:= [none,none,none],outs:= [.Eu tI, .Bm tO wa false, .Bm tO wa false],fn:= λ_=>none,rp:=some 153}
noncomputable abbrev So:MSpec:=gS wz (λx=>(1<=x.1/\x.1<=20)/\List.length x.2.1<=4294967296/\ ∀g∈(x.2.1:List (List Int)),Pm x.1.toNat g)
 (λx=>((x.1,(p7 x.1 x.2.1).2,(p7 x.1 x.2.1).1,()),()))
noncomputable abbrev Yg:Spec:=Ev (.pair (.ptr oH) (.pair tL .unit)) .bool false true (λx=> ∃N,Vv N 0 x.1.1 x.1.2.2.1 x.1.2.1 0 x.2.1) (λx=>Hy x.1.2.1 x.1.1.toNat 0 x.2.1)
noncomputable def iU (n:Int) (g:List (List Int)) (p:List Int):Bool:=(Rp n g&&Gk n p)&&Hy (p7 n g).2 n.toNat 0 p
noncomputable abbrev Yj:Spec:=Ev (.pair tI (.pair da (.pair tL .unit))) .bool false true (λx=>Hb x.2.1/\short x.2.2.1) (λx=>iU x.1 x.2.1 x.2.2.1)
abbrev lx:Type:=Int×Int×List (List (Option (List Int)))×List (List (Option (List Int)))×PUnit
theorem CU (n:Int) (P:(Int×List (List (Option (List Int)))×List (List (Option (List Int)))×Unit)×Unit->Prop):(0=0/\0=([]:List Int).length/\0=0/\0=([]:List Int).length/\Df (λ(v2:lx) (k3:lx->Prop)=>Br (decide (v2.1<n)) (((0:Int)<=n/\n<(↑Cr:Int)+(1:Int))/\n=n/\ ∃(y4:Option (List Int)),Pq.fn (n,())=some y4/\((0:Int)<=v2.1/\v2.1<(↑(List.replicate n.toNat (none:Option (List Int))).length:Int))/\0+v2.1.toNat<(List.replicate n.toNat (none:Option (List Int))).length/\0=0/\(List.replicate n.toNat (none:Option (List Int))).length=((List.replicate n.toNat (none:Option (List Int))).set (0+v2.1.toNat) y4).length/\(0=0/\v2.2.2.1.length=v2.2.2.1.length)/\(0=0/\1= [(List.replicate n.toNat (none:Option (List Int))).set (0+v2.1.toNat) y4].length)/\0< [(List.replicate n.toNat (none:Option (List Int))).set (0+v2.1.toNat) y4].length/\v2.2.2.1.length+ [(List.replicate n.toNat (none:Option (List Int))).set (0+v2.1.toNat) y4].length<=Cr/\0=0/\0=([]:List Int).length/\(0=0/\v2.2.2.2.1.length=v2.2.2.2.1.length)/\(0=0/\1=([[]]:List (List (Option (List Int)))).length)/\0<([[]]:List (List (Option (List Int)))).length/\v2.2.2.2.1.length+([[]]:List (List (Option (List Int)))).length<=Cr/\0=0/\(v2.2.2.1++ [(List.replicate n.toNat (none:Option (List Int))).set (0+v2.1.toNat) y4]).length=(v2.2.2.1++ [(List.replicate n.toNat (none:Option (List Int))).set (0+v2.1.toNat) y4]).length/\0=0/\(v2.2.2.2.1++ [[]]).length=(v2.2.2.2.1++ [[]]).length/\k3 (IntKind.i64.wrap (v2.1+(1:Int)),v2.2.1,v2.2.2.1++ [(List.replicate n.toNat (none:Option (List Int))).set (0+v2.1.toNat) y4],v2.2.2.2.1++ [[]],())) ((0=0/\v2.2.2.1.length=v2.2.2.1.length)/\(0=0/\v2.2.2.2.1.length=v2.2.2.2.1.length)/\P ((v2.2.1,v2.2.2.1,v2.2.2.2.1,()),()))) ((0:Int),n,[],[],PUnit.unit))=fnMW Xc (look [(115,Pq)]) Sp Tryz.f145 (n,()) P:=by kernel_rfl
abbrev ju:Type:=(Int×List (List (Option (List Int)))×List (List (Option (List Int)))×PUnit)×PUnit
abbrev jv:Type:=Int×List (List (Option (List Int)))×List (List (Option (List Int)))×Int×PUnit
theorem xp (n:Int) (gens:List (Option (List Int))) (P:(Int×List (List (Option (List Int)))×List (List (Option (List Int)))×Unit)×Unit->Prop):(∃(y3:ju),Sp.fn (n,())=some y3/\0=0/\y3.1.2.1.length=y3.1.2.1.length/\0=0/\y3.1.2.2.1.length=y3.1.2.2.1.length/\Df (λ(v4:jv) (k5:jv->Prop)=>Br (decide (v4.1<(↑gens.length:Int))) (∃(y6:Option (List Int)),idx gens v4.1=some y6/\ ∃(y7:Option (List Int)),cS.fn (y6.getD [],())=some y7/\0=0/\v4.2.1.length=v4.2.1.length/\0=0/\v4.2.2.1.length=v4.2.2.1.length/\ ∃(y8:ju),BH.fn (v4.2.2.2.1,v4.2.1,v4.2.2.1,(0:Int),y7,())=some y8/\0=0/\y8.1.2.1.length=y8.1.2.1.length/\0=0/\y8.1.2.2.1.length=y8.1.2.2.1.length/\k5 (IntKind.i64.wrap (v4.1+(1:Int)),y8.1.2.1,y8.1.2.2.1,y8.1.1,())) ((0=0/\v4.2.1.length=v4.2.1.length)/\(0=0/\v4.2.2.1.length=v4.2.2.1.length)/\P ((v4.2.2.2.1,v4.2.1,v4.2.2.1,()),()))) ((0:Int),y3.1.2.1,y3.1.2.2.1,y3.1.1,PUnit.unit))=fnMW Xc (look [(145,Sp),(116,cS),(146,BH)]) dx Tryz.f129 (n,gens,()) P:=by kernel_rfl
theorem QA (c:Int×List (List (Option (List Int)))×List (List (Option (List Int)))×Unit) (p:List Int) (P:Bool->Prop):(∃(y3:List Int×Int×PUnit),pU.fn (c,(0:Int),p,())=some y3/\P (y3.2.1==c.1))=fnW Xc (look [(144,pU)]) Yg Tryz.f128 (c,p,()) P:=by kernel_rfl
theorem QE (n:Int) (g:List (List Int)) (p:List Int) (P:Bool->Prop):(∃(y4:Bool),Mp.fn (n,g,())=some y4/\Br y4 (Br ((↑p.length:Int)==n) (∃(y5:Bool),Hu.fn (p,())=some y5/\Br y5 (∃(y6:(Int×List (List (Option (List Int)))×List (List (Option (List Int)))×PUnit)×PUnit),So.fn (n,g,())=some y6/\ ∃(y7:Bool),Yg.fn ((y6.1.1,List.take y6.1.2.1.length (List.drop 0 y6.1.2.1),List.take y6.1.2.2.1.length (List.drop 0 y6.1.2.2.1),()),p,())=some y7/\P y7) (P false)) (P false)) (P false))=fnW Ei (look [(123,Mp),(75,Hu),(129,So),(128,Yg)]) Yj Tryz.f96 (n,g,p,()) P:=by kernel_rfl
theorem KB (p:Int×ByteArray×List (List Int)×Unit) (s:List Int) (P:Bool->Prop):(∃(y3:Bool),Nj.fn ((p.1,p.2.1,p.2.2.1,()),s,())=some y3/\Br y3 (∃(y4:Bool),Yj.fn (p.1,p.2.2.1,s,())=some y4/\P y4) (P false))=fnW Ei (look [(95,Nj),(96,Yj)]) Ni Tryz.f73 (p,s,()) P:=by kernel_rfl
theorem JT (p:Int×ByteArray×List (List Int)×Unit) (s:List Int) (P:Bool->Prop):(∃(y3:Bool),Nj.fn ((p.1,p.2.1,p.2.2.1,()),s,())=some y3/\Br y3 (∃(y4:(Int×List (List (Option (List Int)))×List (List (Option (List Int)))×PUnit)×PUnit),Yl.fn (p.1,p.2.2.1,())=some y4/\ ∃(y5:Bool),o6.fn ((y4.1.1,List.take y4.1.2.1.length (List.drop 0 y4.1.2.1),List.take y4.1.2.2.1.length (List.drop 0 y4.1.2.2.1),()),(0:Int),s,())=some y5/\P y5) (P false))=fnW Ei (look [(97,Nj),(98,Yl),(99,o6)]) Ni Tryz.f74 (p,s,()) P:=by kernel_rfl
theorem kM:Sound Tryz.prog 115 Pq:=Sound.toO jm λ_ h=>SV h
theorem rX:Sound Tryz.prog 116 cS:=Sound.toO Wp λx h=>⟨h.1,λe=>by
 have h2:=h.2
 replace e:x.1= []:=e
 rw [e] at h2
 simp at h2⟩
theorem AI (n:Int) (h:1<=n/\n<=20):fnMW Xc (look [(115,Pq)]) Sp Tryz.f145 (n,()) (λ(z:(Int×List (List (Option (List Int)))×List (List (Option (List Int)))×Unit)×Unit)=>z=((n,Yv n.toNat,Ti n.toNat,()),())):=by
 obtain ⟨h1,h2⟩:=h
 obtain ⟨N,rfl⟩: ∃N:Nat,n=N:=⟨n.toNat,by omega⟩
 rw [Ai]
 refine Eq.mp (CU (N:Int) _) ?_
 have hm:((0:Int)<=(N:Int)/\(N:Int)<(Cr:Int)+1):=⟨by omega,by show (N:Int)<(4294967296:Int)+1;omega⟩
 simp only [hm,and_self,eq_self,true_and,Oi,Ai,Bv,Gc,Bi,Fy,Az,Nat.lt_add_one]
 refine Bf N (λv=>v.1) (λj v=>v=((j:Int),(N:Int),(List.range j).map (cc N),List.replicate j [],())) rfl rfl ?_
 rintro j v K hj hi rfl hK
 dsimp only
 refine Br.dec (λhl=>?_) λhl=>?_
 ·simp only [Ai,Di,List.length_range,Fy]
  refine ⟨_,Ab ⟨by show (1:Int)<=N;omega,by show (N:Int)<=20;omega⟩,⟨by omega,by omega⟩,by omega,?_,?_,?_⟩
  ·show _<=4294967296
   omega
  ·show _<=4294967296
   omega
  ·rw [Bg (by omega)]
   refine hK (by omega) _ rfl ?_
   rw [hJ,Kb,List.replicate_succ']
   rfl
 ·have:j=N:=by omega
  subst this
  rfl
theorem q7:By Tryz.prog 145 Sp:=
 By.gS mD (Av kM Bh) mixed Tryz.func145 (by kernel_rfl) (by kernel_rfl) λx h=>AI x.1 h
theorem wK (n:Int) (gens:List (Option (List Int))) (h:(1<=n/\n<=20)/\List.length gens<=4294967296/\ ∀o∈(gens:List PO),∃g,o=some g/\Pm n.toNat g):
  fnMW Xc (look [(145,Sp),(116,cS),(146,BH)]) dx Tryz.f129 (n,gens,()) (λ(z:(Int×List (List (Option (List Int)))×List (List (Option (List Int)))×Unit)×Unit)=>z=((n,(Ps n.toNat gens).2,(Ps n.toNat gens).1,()),())):=by
 obtain ⟨⟨h1,h2⟩,h3,hg⟩:=h
 obtain ⟨N,rfl⟩: ∃N:Nat,n=N:=⟨n.toNat,by omega⟩
 rw [Ai] at hg⊢
 have h1:1<=N:=by omega
 have h2:N<=20:=by omega
 refine Eq.mp (xp (N:Int) gens _) ⟨_,Ab ⟨by show (1:Int)<=N;omega,by show (N:Int)<=20;omega⟩,rfl,rfl,rfl,rfl,?_⟩
 simp only [Ai,true_and,Oi]
 refine Bf gens.length (λv=>v.1) (λi v=>v=((i:Int),(Ps N (gens.take i)).2,(Ps N (gens.take i)).1,(N:Int),())) rfl rfl ?_
 rintro i v K' nz Asd rfl hK'
 dsimp only
 refine Br.dec (λKm=>?_) λKm=>?_
 ·have Km:i<gens.length:=by omega
  obtain ⟨g,oP,Tp⟩:=hg gens[i] (Aj Km)
  have hgl:=Tp.1
  have hv:=xH h1 h2 (gens:=gens.take i) λo ho=>hg o (Gl ho)
  refine ⟨some g,by rw [Bp Km,oP],some g,Ab ⟨by show g.length<=4294967296;omega,by show 1<=g.length;omega⟩,_,Ab ⟨N,0,g,rfl,h1,h2,rfl,rfl,Iq _,hv,Tp,λi hi=>absurd hi (Dp _)⟩,?_⟩
  rw [Bg (by omega)]
  refine hK' Km _ rfl ?_
  rw [ze Km,oP]
  rfl
 ·have:i=gens.length:=by omega
  subst this
  rw [Ap]
theorem od:By Tryz.prog 129 dx:=
 By.gS mD (En q7 (Av rX (En OY Bh))) mixed Tryz.func129 (by kernel_rfl) (by kernel_rfl) λx h=>wK x.1 x.2.1 h
theorem pZ:By Tryz.prog 129 So:=by
 have h:=od
 refine ⟨h.enter,λw S π us x r o g vs h1 hg h2 h3 hS h4 h5=>?_⟩
 obtain ⟨n,gens,⟨⟩⟩:=x
 match us,h2 with
 |u1::u2::us,h2=>
  obtain ⟨h6,⟨h7,h8⟩,h9⟩:=h2
  obtain ⟨os,oO,gJ⟩:=Cs.Ahk (e:=tI) h8
  have gJ:os.map (·.getD [])=(gens:List (List Int)):=gJ
  have gL:(1<=n/\n<=20)/\List.length gens<=4294967296/\ ∀g∈(gens:List (List Int)),Pm n.toNat g:=Cc λhn=>by
   have:So.fn (n,gens,())=none:=Ag hn
   rw [this] at h5;cases h5
  have hos:os=gens.map some:=by
   rw [<-gJ,List.map_map]
   refine (List.map_id os).symm.trans (Ek λx hx=>?_)
   cases x with
   |some y=>rfl
   |none=>
    have:=gL.2.2 [] (by rw [<-gJ];exact Bj.2 ⟨none,hx,rfl⟩)
    have h1:=this.n1
    have h2:=this.1
    simp at h2
    omega
  have hv:So.fn (n,gens,())=some ((n,(p7 n gens).2,(p7 n gens).1,()),()):=Ab gL
  rw [hv] at h5
  have h5:=Ba h5
  refine h.calls w S π (u1::u2::us) (n,os,()) r o g vs h1 hg ⟨h6,⟨h7,oO⟩,h9⟩ h3 hS h4 ?_
  refine (Ab ⟨gL.1,by rw [hos,Di];exact gL.2.1,λy hy=>?pp⟩).trans (Mc some ?qq)
  case pp=>
   replace hy:y∈os:=hy
   rw [hos] at hy
   obtain ⟨g,hg,rfl⟩:=Bj.1 hy
   exact ⟨g,rfl,gL.2.2 g hg⟩
  case qq=>subst hos;exact h5
theorem NS (c:Int×List (List (Option (List Int)))×List (List (Option (List Int)))×Unit) (p:List Int) (h: ∃N,Vv N 0 c.1 c.2.2.1 c.2.1 0 p):
  fnW Xc (look [(144,pU)]) Yg Tryz.f128 (c,p,()) (λ(z:Bool)=>z=Hy c.2.1 c.1.toNat 0 p):=by
 obtain ⟨n,T,G,⟨⟩⟩:=c
 obtain ⟨N,h⟩:=h
 have h':=h
 obtain ⟨n1,n2,en,el,hle,v,pm,fx⟩:=h
 dsimp only at en
 subst en
 refine Eq.mp (QA ((N:Int),T,G,()) p _) ⟨_,Ab ⟨N,0,h'⟩,?_⟩
 have hs:=uZ (T:=T) N 0 p
 rw [Bv] at hs
 show ((Oc T ((N:Int)-0).toNat (0:Int).toNat p).2.1==(N:Int))=Hy T (N:Int).toNat 0 p
 rw [Int.sub_zero,Ai]
 exact Bool.eq_iff_iff.2 (Ww.trans hs)
theorem vg:Sound Tryz.prog 128 Yg:=
 Sound.Ev mD (Av PK Bh) mixed Tryz.func128 (by kernel_rfl) (by kernel_rfl) λx h=>NS x.1 x.2.1 h
theorem NW (n:Int) (g:List (List Int)) (p:List Int) (h:Hb g/\short p):fnW Ei (look [(123,Mp),(75,Hu),(129,So),(128,Yg)]) Yj Tryz.f96 (n,g,p,()) (λ(z:Bool)=>z=iU n g p):=by
 obtain ⟨hg,hp⟩:=h
 refine Eq.mp (QE n g p _) ⟨_,Ab hg,?_⟩
 unfold iU
 show Br (Rp n g) _ _
 refine Br.of (λh1=>?_) λh1=>by rw [h1];rfl
 obtain ⟨⟨n1,n2⟩,h8,Ke⟩:=Hq.1 h1
 refine Br.of (λh2=>?_) λh2=>?_
 ·have h2:(p.length:Int)=n:=eq_of_beq h2
  refine ⟨_,Ab hp,?_⟩
  show Br (Jo p) _ _
  refine Br.of (λh3=>?_) λh3=>?_
  ·have hgo:Gk n p=true:=Hq.2 ⟨h2,h3⟩
   have ZP: ∀x,Gk n x=true->Pm n.toNat x:= λx hx=>by
    obtain ⟨a,b⟩:=Hq.1 hx
    exact ⟨by omega,fm b⟩
   have ny: ∀x∈g,Pm n.toNat x:= λx hx=>ZP x (Ke x hx)
   have hV:=xH (n:=n.toNat) (by omega) (by omega) (ee ny)
   refine ⟨_,Ab ⟨⟨n1,n2⟩,hg.1,ny⟩,_,Ab ⟨n.toNat,?vv⟩,?_⟩
   case vv=>
    simp only [Cf]
    exact ⟨by omega,by omega,(Int.toNat_of_nonneg (by omega)).symm,rfl,Iq _,hV,ZP p hgo,λi hi=>absurd hi (Dp _)⟩
   simp only [Cf]
   rw [h1,hgo]
   rfl
  ·have:Gk n p=false:=by
    rw [Jm]
    intro hc
    rw [(Hq.1 hc).2] at h3
    cases h3
   rw [this,Bool.and_false,Bool.false_and]
 ·have:Gk n p=false:=by
   rw [Jm]
   intro hc
   rw [(Hq.1 hc).1] at h2
   simp at h2
  rw [this,Bool.and_false,Bool.false_and]
theorem vr:Sound Tryz.prog 96 Yj:=
 Sound.Ev Db (Av eA (Av Ss (En pZ (Av vg Bh)))) mixed Tryz.func96 (by kernel_rfl) (by kernel_rfl) λx h=>NW x.1 x.2.1 x.2.2.1 h
theorem TG {p:PP} (hv:Dy p=true) {s:List Int} (hs:Pm p.1.toNat s):Hy (p7 p.1 p.2.2.1).2 p.1.toNat 0 s=Hy (cA p.1 p.2.2.1).2 p.1.toNat 0 s:=by
 have hV:=valid hv
 have hn:=hV.n
 have hg:=ee (dF hV).2.2
 exact Bool.eq_iff_iff.2 ((FD (by omega) (by omega) hg hs).trans (lZ (by omega) (by omega) hg hs).symm)
theorem EY {n:Int} {s:List Int} (h:Gk n s=true):Pm n.toNat s:=by
 obtain ⟨a,b⟩:=Hq.1 h
 exact ⟨by omega,fm b⟩
theorem HU (p:PP) (s:List Int) (h:Eh p/\short s):fnW Ei (look [(95,Nj),(96,Yj)]) Ni Tryz.f73 (p,s,()) (λ(z:Bool)=>z=Nq p s):=by
 refine Eq.mp (KB p s _) ⟨_,Ab h,?_⟩
 show Br (Dy p&&Gk p.1 s) _ _
 unfold Nq
 refine Br.of (λhb=>?_) λhb=>by rw [hb];rfl
 obtain ⟨hv,hg⟩:=Ho.1 hb
 have hV:=valid hv
 have hn:=hV.n
 have Amu:Rp p.1 p.2.2.1=true:=by
  refine Hq.2 ⟨⟨by omega,by omega⟩,by have:=hV.wo;omega,λx hx=>Hq.2 ⟨by have:=hV.len x hx;omega,hV.perm x hx⟩⟩
 refine ⟨_,Ab ⟨h.1.2,h.2⟩,?_⟩
 show iU p.1 p.2.2.1 s=_
 unfold iU
 rw [Amu,hg,hv,TG hv (EY hg)]
theorem sl:Sound Tryz.prog 73 Ni:=
 Sound.Ev Db (Av ov (Av vr Bh)) mixed Tryz.func73 (by kernel_rfl) (by kernel_rfl) λx h=>HU x.1 x.2.1 h
theorem HM (p:PP) (s:List Int) (h:Eh p/\short s):fnW Ei (look [(97,Nj),(98,Yl),(99,o6)]) Ni Tryz.f74 (p,s,()) (λ(z:Bool)=>z=Nq p s):=by
 refine Eq.mp (JT p s _) ⟨_,Ab h,?_⟩
 show Br (Dy p&&Gk p.1 s) _ _
 unfold Nq
 refine Br.of (λhb=>?_) λhb=>by rw [hb];rfl
 obtain ⟨hv,hg⟩:=Ho.1 hb
 have hV:=valid hv
 have hn:=hV.n
 have FH:=Adi hV
 refine ⟨_,Ab (dF hV),_,Ab ⟨p.1.toNat,0,?vv⟩,?_⟩
 case vv=>
  simp only [Cf]
  exact ⟨by omega,by omega,(Int.toNat_of_nonneg (by omega)).symm,rfl,Iq _,by rw [Nat.sub_zero];exact FH,EY hg,λi hi=>absurd hi (Dp _)⟩
 simp only [Cf]
 rw [hb,bA,Int.sub_zero]
 rfl
theorem sa:Sound Tryz.prog 74 Ni:=
 Sound.Ev Db (Av oh (En vu (Av yS Bh))) mixed Tryz.func74 (by kernel_rfl) (by kernel_rfl) λx h=>HM x.1 x.2.1 h
noncomputable def Ny (p:PP) (ts:List TT) (s:List Int):Bool:=Nq p s&&Gp p ts
noncomputable abbrev Yf:Spec:=Ev (.pair Fl (.pair vQ (.pair tL .unit))) (.pair (.optr Wt) (.pair .bool .unit)) true false (λx=>Eh x.1/\Gv x.2.1/\short x.2.2.1) (λx=>if Ny x.1 x.2.1 x.2.2.1=true then (some (Fb x.2.1),true,()) else (none,false,()))
noncomputable abbrev pR:Spec:=Ev (.pair Fl (.pair vQ (.pair tL .unit))) .bool false true (λx=>Eh x.1/\Gv x.2.1/\short x.2.2.1) (λx=>Ny x.1 x.2.1 x.2.2.1)
theorem PZ (p:Int×ByteArray×List (List Int)×Unit) (ts:List (List Int×List (List Int)×List Int×Unit)) (s:List Int) (P:(Option (List (List Int×List (List Int)×List Int×Unit)×List (ByteArray->Option Int)×Unit)×Bool×Unit)->Prop):(∃(y4:Bool),Ni.fn ((p.1,p.2.1,p.2.2.1,()),s,())=some y4/\Br (!y4) (P (none,false,())) (∃(y5:Bool),Ld.fn ((p.1,p.2.1,p.2.2.1,()),ts,())=some y5/\Br (!y5) (P (none,false,())) (∃(y6:Option (List (List Int×List (List Int)×List Int×PUnit)×List (ByteArray->Option Int)×PUnit)),Vl.fn (ts,())=some y6/\P (y6,true,()))))=fnW Ei (look [(74,Ni),(63,Ld),(64,Vl)]) Yf Tryz.f51 (p,ts,s,()) P:=by kernel_rfl
theorem Akx (p:Int×ByteArray×List (List Int)×Unit) (ts:List (List Int×List (List Int)×List Int×Unit)) (s:List Int) (P:Bool->Prop):(∃(y4:Bool),Ld.fn ((p.1,p.2.1,p.2.2.1,()),ts,())=some y4/\Br y4 (∃(y5:Bool),Ni.fn ((p.1,p.2.1,p.2.2.1,()),s,())=some y5/\P y5) (P false))=fnW Ei (look [(72,Ld),(73,Ni)]) pR Tryz.f47 (p,ts,s,()) P:=by kernel_rfl
theorem po {p:PP} {ts:List TT} {s:List Int} (h:Ny p ts s=true):ae ts/\df ts s/\Nq p s=true:=by
 unfold Ny at h
 obtain ⟨h1,h2⟩:=Ho.1 h
 exact ⟨(jw h2).2.1,OI h1 h2,h1⟩
theorem NR (p:PP) (ts:List TT) (s:List Int) (h:Eh p/\Gv ts/\short s):fnW Ei (look [(74,Ni),(63,Ld),(64,Vl)]) Yf Tryz.f51 (p,ts,s,()) (λ(z:Option BB×Bool×Unit)=>z=if Ny p ts s=true then (some (Fb ts),true,()) else (none,false,())):=by
 obtain ⟨h0,h1,h2⟩:=h
 refine Eq.mp (PZ p ts s _) ⟨_,Ab ⟨h0,h2⟩,?_⟩
 show Br (!Nq p s) _ _
 have hh:Ny p ts s=(Nq p s&&Gp p ts):=rfl
 rw [hh]
 refine Br.of (λhb=>?_) λhb=>?_
 ·have hb:Nq p s=false:=by simpa using hb
  rw [hb];rfl
 ·have hb:Nq p s=true:=by simpa using hb
  refine ⟨_,Ab ⟨h0,h1⟩,?_⟩
  show Br (!Gp p ts) _ _
  refine Br.of (λhc=>?_) λhc=>?_
  ·have hc:Gp p ts=false:=by simpa using hc
   rw [hb,hc];rfl
  ·have hc:Gp p ts=true:=by simpa using hc
   refine ⟨_,Ab (jw hc).2.1,?_⟩
   rw [hb,hc];rfl
theorem vf:Sound Tryz.prog 51 Yf:=
 Sound.Ev Db (Av sa (Av mz (Av se Bh))) mixed Tryz.func51 (by kernel_rfl) (by kernel_rfl) λx h=>NR x.1 x.2.1 x.2.2.1 h
theorem Ak4 (p:PP) (ts:List TT) (s:List Int) (h:Eh p/\Gv ts/\short s):fnW Ei (look [(72,Ld),(73,Ni)]) pR Tryz.f47 (p,ts,s,()) (λ(z:Bool)=>z=Ny p ts s):=by
 obtain ⟨h0,h1,h2⟩:=h
 refine Eq.mp (Akx p ts s _) ⟨_,Ab ⟨h0,h1⟩,?_⟩
 show Br (Gp p ts) _ _
 have hh:Ny p ts s=(Nq p s&&Gp p ts):=rfl
 rw [hh]
 refine Br.of (λhb=>⟨_,Ab ⟨h0,h2⟩,?_⟩) λhb=>?_
 ·rw [hb,Bool.and_true]
 ·rw [hb,Bool.and_false]
theorem PF:Sound Tryz.prog 47 pR:=
 Sound.Ev Db (Av mA (Av sl Bh)) mixed Tryz.func47 (by kernel_rfl) (by kernel_rfl) λx h=>Ak4 x.1 x.2.1 x.2.2.1 h
abbrev DS:Type:=Int×Int×List Int×Bool×Bool×Unit
def Qs (v:DS):Bool:=v.2.2.2.1||(decide (0<v.2.1)&&!v.2.2.2.2.1)
def Mz (w:List Int):Int:=w.getLastD 0
def vN (nx:List Int->Int->List Int) (low:List Int->Int) (one:List Int) (ls:List Int) (depth:Int):Nat->List Int->List Int->DS->DS
 |0,_,_,v=>v
 |f+1,s,w,v=>
  if v.1=20000 then (v.1,v.2.1,v.2.2.1,true,v.2.2.2.2)
  else if (w.length:Int)+low s>depth then (v.1+1,v.2)
  else if (w.length:Int)=depth then (if s=one then (v.1+1,v.2.1+1,(if v.2.1=0 then w else v.2.2.1),v.2.2.2) else (v.1+1,v.2))
  else (ls.filter λl=>!(l== -Mz w)).foldl (λv l=>if Qs v=true then v else vN nx low one ls depth f (nx s l) (w++ [l]) v) (v.1+1,v.2)
abbrev IS:Type:=Bool×List Int×Int×Int×Bool
def iN (nx:List Int->Int->List Int) (low:List Int->Int) (one:List Int) (ls:List Int) (depth:Int) (every:Bool):Nat->List Int->List Int->Int->Int->Bool->IS
 |0,_,w,n,m,a=>(false,w,n,m,a)
 |f+1,s,w,n,m,a=>
  if n=20000 then (true,w,n,m,true)
  else if (w.length:Int)+low s>depth then (false,w,n+1,m,a)
  else if s=one/\(w.length:Int)=depth then (!every,w,n+1,m+1,a)
  else if (w.length:Int)=depth then (false,w,n+1,m,a)
  else ls.foldl (λr l=>if r.1=true\/l= -Mz w then r else
   if (iN nx low one ls depth every f (nx s l) (w++ [l]) r.2.2.1 r.2.2.2.1 r.2.2.2.2).1=true then iN nx low one ls depth every f (nx s l) (w++ [l]) r.2.2.1 r.2.2.2.1 r.2.2.2.2
   else (false,w,(iN nx low one ls depth every f (nx s l) (w++ [l]) r.2.2.1 r.2.2.2.1 r.2.2.2.2).2.2)) (false,w,n+1,m,a)
structure z7 (v:DS):Prop where
 n0:0<=v.1
 n1:v.1<=20000
 m0:0<=v.2.1
 m1:v.2.1<=v.1
theorem dO {α β:Type} {f:β->α->β} {R:β->Prop} : ∀(ls:List α) (b:β),R b->(∀b l,l∈ls->R b->R (f b l))->R (ls.foldl f b)
 | [],_,h,_=>h
 |l::ls,b,h,hs=>dO ls _ (hs b l (Iw ..) h) λb l hl=>hs b l (As _ hl)
theorem tF {α β γ:Type} {f:β->α->β} {g:γ->α->γ} {R:β->γ->Prop} : ∀(ls:List α) (b:β) (c:γ),R b c->(∀b c l,l∈ls->R b c->R (f b l) (g c l))->R (ls.foldl f b) (ls.foldl g c)
 | [],_,_,h,_=>h
 |l::ls,b,c,h,hs=>tF ls _ _ (hs b c l (Iw ..) h) λb c l hl=>hs b c l (As _ hl)
theorem Acf {nx:List Int->Int->List Int} {low:List Int->Int} {one ls:List Int} {depth:Int} : ∀(f:Nat) (s w:List Int) (v:DS),z7 v->z7 (vN nx low one ls depth f s w v)
 |0,_,_,_,h=>h
 |f+1,s,w,v,h=>by
  have h0:=h.n0;have h1:=h.n1;have h2:=h.m0;have h3:=h.m1
  unfold vN
  split
  ·exact ⟨h0,h1,h2,h3⟩
  ·have hs:z7 ((v.1+1,v.2):DS):=⟨by show 0<=v.1+1;omega,by show v.1+1<=20000;omega,h2,by show v.2.1<=v.1+1;omega⟩
   split
   ·exact hs
   ·split
    ·split
     ·exact ⟨by show 0<=v.1+1;omega,by show v.1+1<=20000;omega,by show 0<=v.2.1+1;omega,by show v.2.1+1<=v.1+1;omega⟩
     ·exact hs
    ·refine dO _ _ hs λb l _ hb=>?_
     split
     ·exact hb
     ·exact Acf f _ _ _ hb
theorem Ah8 {nx:List Int->Int->List Int} {low:List Int->Int} {one ls:List Int} {depth:Int} {every:Bool} : ∀(f:Nat) (s w:List Int) (n m:Int) (a:Bool),(0<=n/\n<=20000/\0<=m/\m<=n)->
  (0<=(iN nx low one ls depth every f s w n m a).2.2.1/\(iN nx low one ls depth every f s w n m a).2.2.1<=20000/\0<=(iN nx low one ls depth every f s w n m a).2.2.2.1/\(iN nx low one ls depth every f s w n m a).2.2.2.1<=(iN nx low one ls depth every f s w n m a).2.2.1)
 |0,_,_,_,_,_,h=>h
 |f+1,s,w,n,m,a,h=>by
  obtain ⟨h0,h1,h2,h3⟩:=h
  unfold iN
  split
  ·exact ⟨h0,h1,h2,h3⟩
  ·have hs:(0<=n+1/\n+1<=20000/\0<=m/\m<=n+1):=by omega
   split
   ·exact hs
   ·split
    ·show 0<=n+1/\n+1<=20000/\0<=m+1/\m+1<=n+1
     omega
    ·split
     ·exact hs
     ·refine dO (R:= λ(b:IS)=>0<=b.2.2.1/\b.2.2.1<=20000/\0<=b.2.2.2.1/\b.2.2.2.1<=b.2.2.1) _ _ hs λb l _ hb=>?_
      split
      ·exact hb
      ·have ih:=Ah8 (nx:=nx) (low:=low) (one:=one) (ls:=ls) (depth:=depth) (every:=every) f (nx s l) (w++ [l]) b.2.2.1 b.2.2.2.1 b.2.2.2.2 hb
       split
       ·exact ih
       ·exact ih
theorem Aee {nx:List Int->Int->List Int} {low:List Int->Int} {one ls:List Int} {depth:Int} {every:Bool} : ∀(f:Nat) (s w:List Int) (n m:Int) (a:Bool),(iN nx low one ls depth every f s w n m a).1=false->(iN nx low one ls depth every f s w n m a).2.1=w
 |0,_,_,_,_,_,_=>rfl
 |f+1,s,w,n,m,a,h=>by
  unfold iN at h⊢
  split
  ·rename_i h1;rw [Ab h1] at h
  ·rename_i h1
   rw [Ag h1] at h
   split
   ·rfl
   ·rename_i h2
    rw [Ag h2] at h
    split
    ·rfl
    ·rename_i h3
     rw [Ag h3] at h
     split
     ·rfl
     ·rename_i h4
      rw [Ag h4] at h
      refine dO (R:= λ(r:IS)=>r.1=false->r.2.1=w) _ _ (λ_=>rfl) (λr l _ hr=>?_) h
      split
      ·exact hr
      ·split
       ·rename_i h5;exact λh6=>by rw [h5] at h6;cases h6
       ·exact λ_=>rfl
theorem RX {nx:List Int->Int->List Int} {low:List Int->Int} {one ls:List Int} {depth:Int} {every:Bool} {f:Nat} {s w:List Int} : ∀(xs:List Int) (r:IS),r.1=true->
  xs.foldl (λ(r:IS) l=>if r.1=true\/l= -Mz w then r else
   if (iN nx low one ls depth every f (nx s l) (w++ [l]) r.2.2.1 r.2.2.2.1 r.2.2.2.2).1=true then iN nx low one ls depth every f (nx s l) (w++ [l]) r.2.2.1 r.2.2.2.1 r.2.2.2.2
   else (false,w,(iN nx low one ls depth every f (nx s l) (w++ [l]) r.2.2.1 r.2.2.2.1 r.2.2.2.2).2.2)) r=r
 | [],_,_=>rfl
 |x::xs,r,h=>by
  rw [Ih,Ab (.inl h)]
  exact RX xs r h
theorem SW {nx:List Int->Int->List Int} {low:List Int->Int} {one ls:List Int} {depth:Int} {f:Nat} {s w:List Int} : ∀(xs:List Int) (r:DS),Qs r=true->
  xs.foldl (λ(v:DS) l=>if Qs v=true then v else vN nx low one ls depth f (nx s l) (w++ [l]) v) r=r
 | [],_,_=>rfl
 |x::xs,r,h=>by
  rw [Ih,Ab h]
  exact SW xs r h
structure XZ (every:Bool) (w:List Int) (r:IS) (v:DS):Prop where
 stop:r.1=Qs v
 word:r.1=false->r.2.1=w
 n:r.2.2.1=v.1
 m:r.2.2.2.1=v.2.1
 a:r.2.2.2.2=v.2.2.2.1
 all:v.2.2.2.2.1=every
 ok:z7 v
 found:r.1=true->v.2.2.2.1=false->r.2.1=v.2.2.1
theorem Ah9 {nx:List Int->Int->List Int} {low:List Int->Int} {one ls:List Int} {depth:Int} {every:Bool} : ∀(f:Nat) (s w:List Int) (v:DS),Qs v=false->v.2.2.2.2.1=every->z7 v->
  XZ every w (iN nx low one ls depth every f s w v.1 v.2.1 v.2.2.2.1) (vN nx low one ls depth f s w v)
 |0,s,w,v,hd,he,hv=>⟨hd.symm,λ_=>rfl,rfl,rfl,rfl,he,hv,λh=>by simp [iN] at h⟩
 |f+1,s,w,v,hd,he,hv=>by
  have ZX:=Acf (nx:=nx) (low:=low) (one:=one) (ls:=ls) (depth:=depth) (f+1) s w v hv
  have YZ:=hd
  unfold Qs at YZ
  rw [he,Bool.or_eq_false_iff,Bool.and_eq_false_iff] at YZ
  obtain ⟨ha,hm⟩:=YZ
  have h0:=hv.m0
  have hm:every=false->v.2.1=0:= λe=>by
   rcases hm with h|h
   ·have:=of_decide_eq_false h;omega
   ·rw [e] at h;cases h
  by_cases h1:v.1=20000
  ·have e1:vN nx low one ls depth (f+1) s w v=(v.1,v.2.1,v.2.2.1,true,v.2.2.2.2):=by rw [vN,Ab h1]
   have e2:iN nx low one ls depth every (f+1) s w v.1 v.2.1 v.2.2.2.1=(true,w,v.1,v.2.1,true):=by rw [iN,Ab h1]
   rw [e1] at ZX⊢
   rw [e2]
   exact {stop:=rfl,word:= λh=>by simp at h,n:=rfl,m:=rfl,a:=rfl,all:=he,ok:=ZX,found:= λ_ h=>by simp at h}
  by_cases h2:(w.length:Int)+low s>depth
  ·have e1:vN nx low one ls depth (f+1) s w v=(v.1+1,v.2):=by rw [vN,Ag h1,Ab h2]
   have e2:iN nx low one ls depth every (f+1) s w v.1 v.2.1 v.2.2.2.1=(false,w,v.1+1,v.2.1,v.2.2.2.1):=by rw [iN,Ag h1,Ab h2]
   rw [e1] at ZX⊢
   rw [e2]
   exact {stop:=hd.symm,word:= λ_=>rfl,n:=rfl,m:=rfl,a:=rfl,all:=he,ok:=ZX,found:= λh=>by simp at h}
  by_cases h3:(w.length:Int)=depth
  ·by_cases h4:s=one
   ·have e1:vN nx low one ls depth (f+1) s w v=(v.1+1,v.2.1+1,(if v.2.1=0 then w else v.2.2.1),v.2.2.2):=by rw [vN,Ag h1,Ag h2,Ab h3,Ab h4]
    have e2:iN nx low one ls depth every (f+1) s w v.1 v.2.1 v.2.2.2.1=(!every,w,v.1+1,v.2.1+1,v.2.2.2.1):=by rw [iN,Ag h1,Ag h2,Ab ⟨h4,h3⟩]
    rw [e1] at ZX⊢
    rw [e2]
    refine {stop:=?_,word:= λ_=>rfl,n:=rfl,m:=rfl,a:=rfl,all:=he,ok:=ZX,found:= λh _=>?_}
    ·show (!every)=(v.2.2.2.1||(decide (0<v.2.1+1)&&!v.2.2.2.2.1))
     rw [ha,he,Fa (by omega)]
     simp
    ·have h:(!every)=true:=h
     show w=if v.2.1=0 then w else v.2.2.1
     rw [Ab (hm (by cases every<;>simp_all))]
   ·have e1:vN nx low one ls depth (f+1) s w v=(v.1+1,v.2):=by rw [vN,Ag h1,Ag h2,Ab h3,Ag h4]
    have e2:iN nx low one ls depth every (f+1) s w v.1 v.2.1 v.2.2.2.1=(false,w,v.1+1,v.2.1,v.2.2.2.1):=by rw [iN,Ag h1,Ag h2,Ag (λh=>h4 h.1),Ab h3]
    rw [e1] at ZX⊢
    rw [e2]
    exact {stop:=hd.symm,word:= λ_=>rfl,n:=rfl,m:=rfl,a:=rfl,all:=he,ok:=ZX,found:= λh=>by simp at h}
  have hs:z7 ((v.1+1,v.2):DS):=by
   have:=hv.n0;have:=hv.n1;have:=hv.m1
   exact ⟨by show 0<=v.1+1;omega,by show v.1+1<=20000;omega,h0,by show v.2.1<=v.1+1;omega⟩
  rw [vN,Ag h1,Ag h2,Ag h3,iN,Ag h1,Ag h2,Ag (λh=>h3 h.2),Ag h3,List.foldl_filter]
  refine tF (R:= λ(r:IS) (u:DS)=>XZ every w r u) ls _ _ {stop:=hd.symm,word:= λ_=>rfl,n:=rfl,m:=rfl,a:=rfl,all:=he,ok:=hs,found:= λh=>by simp at h} λr u l _ hR=>?_
  by_cases hl:l= -Mz w
  ·rw [Ab (.inr hl),Ag (by simp [hl])]
   exact hR
  rw [Ab (show (!(l== -Mz w))=true by simp [hl])]
  by_cases Tq:r.1=true
  ·have hu:Qs u=true:=by rw [<-hR.stop];exact Tq
   rw [Ab (.inl Tq),Ab hu]
   exact hR
  have Tq:r.1=false:=by simpa using Tq
  have hu:Qs u=false:=by rw [<-hR.stop,Tq]
  have eX: ¬Qs u=true:=by rw [hu];simp
  rw [Ag (show ¬(r.1=true\/l= -Mz w) by rw [Tq];simp [hl]),Ag eX]
  have ih:=Ah9 (nx:=nx) (low:=low) (one:=one) (ls:=ls) (depth:=depth) (every:=every) f (nx s l) (w++ [l]) u hu hR.all hR.ok
  rw [hR.n,hR.m,hR.a]
  by_cases hq:(iN nx low one ls depth every f (nx s l) (w++ [l]) u.1 u.2.1 u.2.2.2.1).1=true
  ·rw [Ab hq]
   exact {stop:=ih.stop,word:= λh=>by rw [hq] at h;simp at h,n:=ih.n,m:=ih.m,a:=ih.a,all:=ih.all,ok:=ih.ok,found:=ih.found}
  ·rw [Ag hq]
   have hq:(iN nx low one ls depth every f (nx s l) (w++ [l]) u.1 u.2.1 u.2.2.2.1).1=false:=by simpa using hq
   exact {stop:=by rw [<-ih.stop,hq],word:= λ_=>rfl,n:=ih.n,m:=ih.m,a:=ih.a,all:=ih.all,ok:=ih.ok,found:= λh=>by simp at h}
noncomputable def dr (s:List Int):Bool:=decide (s=upto s.length)
noncomputable abbrev pS:Spec:=Ev (.pair tL .unit) .bool false true (λx=>short x.1) (λx=>dr x.1)
def Ra (g:List (List Int)) (s:List Int) (l:Int):List Int:=Al s (Bs g l)
noncomputable def rR (n:Int) (g:List (List Int)) (b:Option BB) (Ed:Int) (every:Bool) (w:List Int) (nodes found:Int) (ab:Bool) (x:List Int):IS:=
 iN (Ra g) (bU b) (upto n.toNat) (Aw g.length) Ed every ((Ed-w.length).toNat+1) x w nodes found ab
noncomputable def GO (p:PP) (ts:List TT) (s w:List Int) (depth:Int) (v:DS):DS:=
 vN (Ra p.2.2.1) (Ve ts) (upto p.1.toNat) (Aw p.2.2.1.length) depth ((depth-w.length).toNat+1) s w v
def zc (n:Int) (str:ByteArray) (g:List (List Int)) (b:Option BB) (Ed:Int) (w:List Int) (nodes found:Int) (x:List Int):Prop:=
 ∃ts,b=some (Fb ts)/\Ny (n,str,g,()) ts x=true/\Ed<=30/\(w.length:Int)<=Ed/\(∀l∈w,Iu g.length l)/\(0<=nodes/\nodes<=20000)/\0<=found/\found<=nodes
def YD (p:PP) (ts:List TT) (s w:List Int) (depth:Int) (v:DS):Prop:=
 Ny p ts s=true/\depth<=30/\(w.length:Int)<=depth/\(∀l∈w,Iu p.2.2.1.length l)/\z7 v
noncomputable abbrev RZ:MSpec:= {ptr:=some (84,10),Je:= [none],ins:= [(false, .Eu tI),(false, .Eu .str),(false, .Eu da),(false, .Eu (.optr Wt)),(false, .Eu tI),(false, .Eu .bool),(false,rL),(false, .Eu tI),(false, .Eu tI),(false, .Eu .bool),(false, .Eu tL)],Gy:=false,Hz:= [none],outs:= [.Eu tI, .Eu .str, .Eu da, .Eu (.optr Wt), .Eu tI, .Eu .bool,rL, .Eu tI, .Eu tI, .Eu .bool, .Eu .bool],fn:= λ_=>none}
noncomputable def iX (n:Int) (str:ByteArray) (g:List (List Int)) (b:Option BB) (Ed:Int) (every:Bool) (q:IS):Int×ByteArray×List (List Int)×Option BB×Int×Bool×List Int×Int×Int×Bool×Bool×Unit:=(n,str,g,b,Ed,every,q.2.1,q.2.2.1,q.2.2.2.1,q.2.2.2.2,q.1,())
noncomputable abbrev Uh (m:Nat):MSpec:=gS RZ (λx=>zc x.1 x.2.1 x.2.2.1 x.2.2.2.1 x.2.2.2.2.1 x.2.2.2.2.2.2.1 x.2.2.2.2.2.2.2.1 x.2.2.2.2.2.2.2.2.1 x.2.2.2.2.2.2.2.2.2.2.1/\(x.2.2.2.2.1-List.length x.2.2.2.2.2.2.1).toNat<m)
 (λx=>(iX x.1 x.2.1 x.2.2.1 x.2.2.2.1 x.2.2.2.2.1 x.2.2.2.2.2.1 (rR x.1 x.2.2.1 x.2.2.2.1 x.2.2.2.2.1 x.2.2.2.2.2.1 x.2.2.2.2.2.2.1 x.2.2.2.2.2.2.2.1 x.2.2.2.2.2.2.2.2.1 x.2.2.2.2.2.2.2.2.2.1 x.2.2.2.2.2.2.2.2.2.2.1),()))
noncomputable abbrev o7:MSpec:=gS RZ (λx=>zc x.1 x.2.1 x.2.2.1 x.2.2.2.1 x.2.2.2.2.1 x.2.2.2.2.2.2.1 x.2.2.2.2.2.2.2.1 x.2.2.2.2.2.2.2.2.1 x.2.2.2.2.2.2.2.2.2.2.1)
 (λx=>(iX x.1 x.2.1 x.2.2.1 x.2.2.2.1 x.2.2.2.2.1 x.2.2.2.2.2.1 (rR x.1 x.2.2.1 x.2.2.2.1 x.2.2.2.2.1 x.2.2.2.2.2.1 x.2.2.2.2.2.2.1 x.2.2.2.2.2.2.2.1 x.2.2.2.2.2.2.2.2.1 x.2.2.2.2.2.2.2.2.2.1 x.2.2.2.2.2.2.2.2.2.2.1),()))
noncomputable abbrev Yr (m:Nat):Spec:=Ev (.pair Fl (.pair vQ (.pair tL (.pair tL (.pair tI (.pair rq .unit)))))) rq false false (λx=>YD x.1 x.2.1 x.2.2.1 x.2.2.2.1 x.2.2.2.2.1 x.2.2.2.2.2.1/\(x.2.2.2.2.1-List.length x.2.2.2.1).toNat<m) (λx=>GO x.1 x.2.1 x.2.2.1 x.2.2.2.1 x.2.2.2.2.1 x.2.2.2.2.2.1)
noncomputable abbrev mq:Spec:=Ev (.pair rq .unit) .bool false true (λ_=>True) (λx=>Qs x.1)
theorem Aky (s:List Int) (P:Bool->Prop):(Df (λ(v2:Int×PUnit) (k3:Int×PUnit->Prop)=>Br (decide (v2.1<(↑s.length:Int))) (∃(y4:Int),idx s v2.1=some y4/\Br (v2.1 !=y4) (P false) (k3 (IntKind.i64.wrap (v2.1+(1:Int)),()))) (P true)) ((0:Int),PUnit.unit))=fnW Ei (look []) pS Tryz.f120 (s,()) P:=by kernel_rfl
theorem Aku (v:Int×Int×List Int×Bool×Bool×Unit) (P:Bool->Prop):(Br v.2.2.2.1 (P true) (Br (decide (v.2.1>(0:Int))) (P !v.2.2.2.2.1) (P false)))=fnW Ei (look []) mq Tryz.f92 (v,()) P:=by kernel_rfl
abbrev Ol:Type:=Int×Int×ByteArray×List (List Int)×Int×Int×List Int×Bool×Bool×Int×Int×Bool×Bool×List Int×PUnit
abbrev cZ:Type:=Int×Int×List Int×Bool×Bool×PUnit
abbrev SH (m:Nat) (v11:Ol) (ts:List (List Int×List (List Int)×List Int×Unit)) (Sd:List Int) (Oh:(List Int×PUnit)×PUnit) (Qq:Int) (depth:Int) (Md:List Int) (Jc:Int) (s:List Int) (w:List Int) (Lo:Bool) (Xe:List Int) (ay:(List Int×PUnit)×PUnit) (Xf:cZ):Prop:= ∃(Wv:cZ),(Yr m).fn ((v11.2.1,v11.2.2.1,v11.2.2.2.1,()),ts,Sd,List.take (Oh.1.1++List.take 1 (List.drop 0 [Qq])).length (List.drop 0 (Oh.1.1++List.take 1 (List.drop 0 [Qq]))),depth,(v11.2.2.2.2.1,v11.2.2.2.2.2.1,v11.2.2.2.2.2.2.1,v11.2.2.2.2.2.2.2.1,v11.2.2.2.2.2.2.2.2.1,()),())=some Wv/\(∃(Su:Int),idx Md v11.1=some Su/\([]:List (Nat×Nat))= []/\(Su,())=(Jc,PUnit.unit))/\(∃(Su:Int),idx Md v11.1=some Su/\([]:List (Nat×Nat))= []/\(Su,())=(Qq,PUnit.unit))/\ [(0,v11.2.2.2.2.2.2.2.2.2.2.2.2.2.1.length)]= [(0,v11.2.2.2.2.2.2.2.2.2.2.2.2.2.1.length)]/\(ts,s,w,depth,Md,v11.1,v11.1,Md,(↑Md.length:Int),decide (v11.1<(↑Md.length:Int)),decide (v11.1<(↑Md.length:Int)),v11.2.2.2.2.1,v11.2.2.2.2.2.1,v11.2.2.2.2.2.2.1,v11.2.2.2.2.2.2.2.1,v11.2.2.2.2.2.2.2.2.1,Lo,!Lo,!Lo,v11.2.1,v11.2.2.1,v11.2.2.2.1,ts,v11.2.1,v11.2.2.1,v11.2.2.2.1,s,Md,v11.1,Jc,Jc,Sd,w,Md,v11.1,Qq,Qq,List.take 1 (List.drop 0 [Qq]),List.take (Oh.1.1++List.take 1 (List.drop 0 [Qq])).length (List.drop 0 (Oh.1.1++List.take 1 (List.drop 0 [Qq]))),depth,v11.2.2.2.2.1,v11.2.2.2.2.2.1,v11.2.2.2.2.2.2.1,v11.2.2.2.2.2.2.2.1,v11.2.2.2.2.2.2.2.2.1,Wv,v11.2.1,v11.2.2.1,v11.2.2.2.1,Wv.1,Wv.2.1,Wv.2.2.1,Wv.2.2.2.1,Wv.2.2.2.2.1,v11.2.2.2.2.2.2.2.2.2.1,v11.2.2.2.2.2.2.2.2.2.2.1,v11.2.2.2.2.2.2.2.2.2.2.2.1,v11.2.2.2.2.2.2.2.2.2.2.2.2.1,v11.2.2.2.2.2.2.2.2.2.2.2.2.2.1,())=(ts,s,w,depth,Md,v11.1,v11.1,Md,(↑Md.length:Int),decide (v11.1<(↑Md.length:Int)),decide (v11.1<(↑Md.length:Int)),v11.2.2.2.2.1,v11.2.2.2.2.2.1,v11.2.2.2.2.2.2.1,v11.2.2.2.2.2.2.2.1,v11.2.2.2.2.2.2.2.2.1,Lo,!Lo,!Lo,v11.2.1,v11.2.2.1,v11.2.2.2.1,ts,v11.2.1,v11.2.2.1,v11.2.2.2.1,s,Md,v11.1,Jc,Jc,Xe,w,Md,v11.1,Qq,Qq,List.take 1 (List.drop 0 [Qq]),List.take (ay.1.1++List.take 1 (List.drop 0 [Qq])).length (List.drop 0 (ay.1.1++List.take 1 (List.drop 0 [Qq]))),depth,v11.2.2.2.2.1,v11.2.2.2.2.2.1,v11.2.2.2.2.2.2.1,v11.2.2.2.2.2.2.2.1,v11.2.2.2.2.2.2.2.2.1,Xf,v11.2.1,v11.2.2.1,v11.2.2.2.1,Xf.1,Xf.2.1,Xf.2.2.1,Xf.2.2.2.1,Xf.2.2.2.2.1,v11.2.2.2.2.2.2.2.2.2.1,v11.2.2.2.2.2.2.2.2.2.2.1,v11.2.2.2.2.2.2.2.2.2.2.2.1,v11.2.2.2.2.2.2.2.2.2.2.2.2.1,v11.2.2.2.2.2.2.2.2.2.2.2.2.2.1,PUnit.unit)
abbrev SI (m:Nat) (v10:Ol) (ts:List (List Int×List (List Int)×List Int×Unit)) (Xf:List Int) (Sd:(List Int×PUnit)×PUnit) (Jc:Int) (depth:Int) (y9:List Int) (Lo:Int) (s:List Int) (w:List Int) (fR:Bool) (Qq:List Int) (Xe:(List Int×PUnit)×PUnit) (ay:cZ):Prop:= ∃(Oh:cZ),(Yr m).fn ((v10.2.1,v10.2.2.1,v10.2.2.2.1,()),ts,Xf,List.take (Sd.1.1++List.take 1 (List.drop 0 [Jc])).length (List.drop 0 (Sd.1.1++List.take 1 (List.drop 0 [Jc]))),depth,(v10.2.2.2.2.1,v10.2.2.2.2.2.1,v10.2.2.2.2.2.2.1,v10.2.2.2.2.2.2.2.1,v10.2.2.2.2.2.2.2.2.1,()),())=some Oh/\(∃(Wv:Int),idx y9 v10.1=some Wv/\([]:List (Nat×Nat))= []/\(Wv,())=(Lo,PUnit.unit))/\(∃(Wv:Int),idx y9 v10.1=some Wv/\([]:List (Nat×Nat))= []/\(Wv,())=(Jc,PUnit.unit))/\ [(0,v10.2.2.2.2.2.2.2.2.2.2.2.2.2.1.length)]= [(0,v10.2.2.2.2.2.2.2.2.2.2.2.2.2.1.length)]/\(ts,s,w,depth,y9,v10.1,v10.1,y9,(↑y9.length:Int),decide (v10.1<(↑y9.length:Int)),decide (v10.1<(↑y9.length:Int)),v10.2.2.2.2.1,v10.2.2.2.2.2.1,v10.2.2.2.2.2.2.1,v10.2.2.2.2.2.2.2.1,v10.2.2.2.2.2.2.2.2.1,fR,!fR,!fR,v10.2.1,v10.2.2.1,v10.2.2.2.1,ts,v10.2.1,v10.2.2.1,v10.2.2.2.1,s,y9,v10.1,Lo,Lo,Xf,w,y9,v10.1,Jc,Jc,List.take 1 (List.drop 0 [Jc]),List.take (Sd.1.1++List.take 1 (List.drop 0 [Jc])).length (List.drop 0 (Sd.1.1++List.take 1 (List.drop 0 [Jc]))),depth,v10.2.2.2.2.1,v10.2.2.2.2.2.1,v10.2.2.2.2.2.2.1,v10.2.2.2.2.2.2.2.1,v10.2.2.2.2.2.2.2.2.1,Oh,v10.2.1,v10.2.2.1,v10.2.2.2.1,Oh.1,Oh.2.1,Oh.2.2.1,Oh.2.2.2.1,Oh.2.2.2.2.1,v10.2.2.2.2.2.2.2.2.2.1,v10.2.2.2.2.2.2.2.2.2.2.1,v10.2.2.2.2.2.2.2.2.2.2.2.1,v10.2.2.2.2.2.2.2.2.2.2.2.2.1,v10.2.2.2.2.2.2.2.2.2.2.2.2.2.1,())=(ts,s,w,depth,y9,v10.1,v10.1,y9,(↑y9.length:Int),decide (v10.1<(↑y9.length:Int)),decide (v10.1<(↑y9.length:Int)),v10.2.2.2.2.1,v10.2.2.2.2.2.1,v10.2.2.2.2.2.2.1,v10.2.2.2.2.2.2.2.1,v10.2.2.2.2.2.2.2.2.1,fR,!fR,!fR,v10.2.1,v10.2.2.1,v10.2.2.2.1,ts,v10.2.1,v10.2.2.1,v10.2.2.2.1,s,y9,v10.1,Lo,Lo,Qq,w,y9,v10.1,Jc,Jc,List.take 1 (List.drop 0 [Jc]),List.take (Xe.1.1++List.take 1 (List.drop 0 [Jc])).length (List.drop 0 (Xe.1.1++List.take 1 (List.drop 0 [Jc]))),depth,v10.2.2.2.2.1,v10.2.2.2.2.2.1,v10.2.2.2.2.2.2.1,v10.2.2.2.2.2.2.2.1,v10.2.2.2.2.2.2.2.2.1,ay,v10.2.1,v10.2.2.1,v10.2.2.2.1,ay.1,ay.2.1,ay.2.2.1,ay.2.2.2.1,ay.2.2.2.2.1,v10.2.2.2.2.2.2.2.2.2.1,v10.2.2.2.2.2.2.2.2.2.2.1,v10.2.2.2.2.2.2.2.2.2.2.2.1,v10.2.2.2.2.2.2.2.2.2.2.2.2.1,v10.2.2.2.2.2.2.2.2.2.2.2.2.2.1,PUnit.unit)
abbrev aW (v11:Ol):Prop:=(([]:List (Nat×Nat))= []/\(v11.2.2.2.2.1,v11.2.2.2.2.2.1,v11.2.2.2.2.2.2.1,v11.2.2.2.2.2.2.2.1,v11.2.2.2.2.2.2.2.2.1,())=(v11.2.2.2.2.1,v11.2.2.2.2.2.1,v11.2.2.2.2.2.2.1,v11.2.2.2.2.2.2.2.1,v11.2.2.2.2.2.2.2.2.1,PUnit.unit))
abbrev aX (v10:Ol):Prop:=(([]:List (Nat×Nat))= []/\(v10.2.2.2.2.1,v10.2.2.2.2.2.1,v10.2.2.2.2.2.2.1,v10.2.2.2.2.2.2.2.1,v10.2.2.2.2.2.2.2.2.1,())=(v10.2.2.2.2.1,v10.2.2.2.2.2.1,v10.2.2.2.2.2.2.1,v10.2.2.2.2.2.2.2.1,v10.2.2.2.2.2.2.2.2.1,PUnit.unit))
abbrev sE (v11:Ol) (Md:List Int) (Jc:Int) (Qq:Int) (Oh:(List Int×PUnit)×PUnit) (m:Nat) (ts:List (List Int×List (List Int)×List Int×Unit)) (Sd:List Int) (depth:Int) (s:List Int) (w:List Int) (Lo:Bool) (Xe:List Int) (ay:(List Int×PUnit)×PUnit) (Xf:cZ):Prop:=(([]:List (Nat×Nat))= []/\(v11.2.1,v11.2.2.1,v11.2.2.2.1,())=(v11.2.1,v11.2.2.1,v11.2.2.2.1,PUnit.unit))/\(∃(Wv:Int),idx Md v11.1=some Wv/\([]:List (Nat×Nat))= []/\(Wv,())=(Jc,PUnit.unit))/\(∃(Wv:Int),idx Md v11.1=some Wv/\([]:List (Nat×Nat))= []/\(Wv,())=(Qq,PUnit.unit))/\(aW v11)/\0=0/\Oh.1.1.length=Oh.1.1.length/\Oh.1.1.length+(List.take 1 (List.drop 0 [Qq])).length<=Cr/\(([]:List (Nat×Nat))= []/\(v11.2.1,v11.2.2.1,v11.2.2.2.1,())=(v11.2.1,v11.2.2.1,v11.2.2.2.1,PUnit.unit))/\(∃(Wv:Int),idx Md v11.1=some Wv/\([]:List (Nat×Nat))= []/\(Wv,())=(Jc,PUnit.unit))/\(∃(Wv:Int),idx Md v11.1=some Wv/\([]:List (Nat×Nat))= []/\(Wv,())=(Qq,PUnit.unit))/\(aW v11)/\(SH m v11 ts Sd Oh Qq depth Md Jc s w Lo Xe ay Xf)
abbrev sF (v10:Ol) (y9:List Int) (Lo:Int) (Jc:Int) (Sd:(List Int×PUnit)×PUnit) (m:Nat) (ts:List (List Int×List (List Int)×List Int×Unit)) (Xf:List Int) (depth:Int) (s:List Int) (w:List Int) (fR:Bool) (Qq:List Int) (Xe:(List Int×PUnit)×PUnit) (ay:cZ):Prop:=(([]:List (Nat×Nat))= []/\(v10.2.1,v10.2.2.1,v10.2.2.2.1,())=(v10.2.1,v10.2.2.1,v10.2.2.2.1,PUnit.unit))/\(∃(Oh:Int),idx y9 v10.1=some Oh/\([]:List (Nat×Nat))= []/\(Oh,())=(Lo,PUnit.unit))/\(∃(Oh:Int),idx y9 v10.1=some Oh/\([]:List (Nat×Nat))= []/\(Oh,())=(Jc,PUnit.unit))/\(aX v10)/\0=0/\Sd.1.1.length=Sd.1.1.length/\Sd.1.1.length+(List.take 1 (List.drop 0 [Jc])).length<=Cr/\(([]:List (Nat×Nat))= []/\(v10.2.1,v10.2.2.1,v10.2.2.2.1,())=(v10.2.1,v10.2.2.1,v10.2.2.2.1,PUnit.unit))/\(∃(Oh:Int),idx y9 v10.1=some Oh/\([]:List (Nat×Nat))= []/\(Oh,())=(Lo,PUnit.unit))/\(∃(Oh:Int),idx y9 v10.1=some Oh/\([]:List (Nat×Nat))= []/\(Oh,())=(Jc,PUnit.unit))/\(aX v10)/\(SI m v10 ts Xf Sd Jc depth y9 Lo s w fR Qq Xe ay)
abbrev aY (v11:Ol):Prop:=(([]:List (Nat×Nat))= []/\(v11.2.1,v11.2.2.1,v11.2.2.2.1,())=(v11.2.1,v11.2.2.1,v11.2.2.2.1,PUnit.unit))
abbrev aZ (v10:Ol):Prop:=(([]:List (Nat×Nat))= []/\(v10.2.1,v10.2.2.1,v10.2.2.2.1,())=(v10.2.1,v10.2.2.1,v10.2.2.2.1,PUnit.unit))
abbrev sG (Md:List Int) (v11:Ol) (Jc:Int):Prop:=(∃(Oh:Int),idx Md v11.1=some Oh/\([]:List (Nat×Nat))= []/\(Oh,())=(Jc,PUnit.unit))
abbrev nR (Md:List Int) (v11:Ol) (Qq:Int):Prop:=(∃(Oh:Int),idx Md v11.1=some Oh/\([]:List (Nat×Nat))= []/\(Oh,())=(Qq,PUnit.unit))
abbrev nS (y9:List Int) (v10:Ol) (Lo:Int):Prop:=(∃(Sd:Int),idx y9 v10.1=some Sd/\([]:List (Nat×Nat))= []/\(Sd,())=(Lo,PUnit.unit))
abbrev nT (y9:List Int) (v10:Ol) (Jc:Int):Prop:=(∃(Sd:Int),idx y9 v10.1=some Sd/\([]:List (Nat×Nat))= []/\(Sd,())=(Jc,PUnit.unit))
theorem Al9 {m:Nat} (p:Int×ByteArray×List (List Int)×Unit) (ts:List (List Int×List (List Int)×List Int×Unit)) (s w:List Int) (depth:Int) (v:Int×Int×List Int×Bool×Bool×Unit) (P:(Int×Int×List Int×Bool×Bool×Unit)->Prop):(Br (v.1==(20000:Int)) (P (v.1,v.2.1,v.2.2.1,true,v.2.2.2.2.1,())) (∃(y8:Int),km.fn (ts,s,())=some y8/\Br (decide (IntKind.i64.wrap ((↑w.length:Int)+y8)>depth)) (P (IntKind.i64.wrap (v.1+(1:Int)),v.2.1,v.2.2.1,v.2.2.2.1,v.2.2.2.2.1,())) (Br ((↑w.length:Int)==depth) (∃(y9:List Int),Yi.fn (p.1,())=some y9/\ ∃(Md:Bool),Bo.fn (s,y9,())=some Md/\Br Md (Br (v.2.1==(0:Int)) (∃(fQ:(List Int×PUnit)×PUnit),Ib.fn (w,())=some fQ/\P (IntKind.i64.wrap (v.1+(1:Int)),IntKind.i64.wrap (v.2.1+(1:Int)),List.take fQ.1.1.length (List.drop 0 fQ.1.1),v.2.2.2.1,v.2.2.2.2.1,())) (P (IntKind.i64.wrap (v.1+(1:Int)),IntKind.i64.wrap (v.2.1+(1:Int)),v.2.2.1,v.2.2.2.1,v.2.2.2.2.1,()))) (P (IntKind.i64.wrap (v.1+(1:Int)),v.2.1,v.2.2.1,v.2.2.2.1,v.2.2.2.2.1,()))) (Br (decide ((↑w.length:Int)>(0:Int))) (∃(y9:Int),idx w (IntKind.i64.wrap ((↑w.length:Int)-(1:Int)))=some y9/\ ∃(Md:List Int),cR.fn ((p.1,p.2.1,p.2.2.1,()),y9,())=some Md/\0=0/\0=([]:List Int).length/\Df (λ(v11:Ol) (k12:Ol->Prop)=>Br (decide (v11.1<(↑Md.length:Int))) (∃(Lo:Bool),mq.fn ((v11.2.2.2.2.1,v11.2.2.2.2.2.1,v11.2.2.2.2.2.2.1,v11.2.2.2.2.2.2.2.1,v11.2.2.2.2.2.2.2.2.1,()),())=some Lo/\Br (!Lo) (∃(Jc:Int),idx Md v11.1=some Jc/\ ∃(Qq:Int),idx Md v11.1=some Qq/\ ∃(Xe:List Int),Mn.fn ((v11.2.1,v11.2.2.1,v11.2.2.2.1,()),s,Jc,())=some Xe/\ ∃(ay:(List Int×PUnit)×PUnit),Ib.fn (w,())=some ay/\0=0/\ay.1.1.length=ay.1.1.length/\ay.1.1.length+(List.take 1 (List.drop 0 [Qq])).length<=Cr/\ ∃(Xf:cZ),(Yr m).fn ((v11.2.1,v11.2.2.1,v11.2.2.2.1,()),ts,Xe,List.take (ay.1.1++List.take 1 (List.drop 0 [Qq])).length (List.drop 0 (ay.1.1++List.take 1 (List.drop 0 [Qq]))),depth,(v11.2.2.2.2.1,v11.2.2.2.2.2.1,v11.2.2.2.2.2.2.1,v11.2.2.2.2.2.2.2.1,v11.2.2.2.2.2.2.2.2.1,()),())=some Xf/\(0=0/\v11.2.2.2.2.2.2.2.2.2.2.2.2.2.1.length=v11.2.2.2.2.2.2.2.2.2.2.2.2.2.1.length/\k12 (IntKind.i64.wrap (v11.1+(1:Int)),v11.2.1,v11.2.2.1,v11.2.2.2.1,Xf.1,Xf.2.1,Xf.2.2.1,Xf.2.2.2.1,Xf.2.2.2.2.1,v11.2.2.2.2.2.2.2.2.2.1,v11.2.2.2.2.2.2.2.2.2.2.1,v11.2.2.2.2.2.2.2.2.2.2.2.1,v11.2.2.2.2.2.2.2.2.2.2.2.2.1,v11.2.2.2.2.2.2.2.2.2.2.2.2.2.1,()))/\(aY v11)/\(aY v11)/\(∃(Sd:Int),idx Md v11.1=some Sd/\([]:List (Nat×Nat))= []/\(Sd,())=(Jc,PUnit.unit))/\(([]:List (Nat×Nat))= []/\(Jc,())=(Jc,PUnit.unit))/\(∃(Sd:Int),idx Md v11.1=some Sd/\([]:List (Nat×Nat))= []/\(Sd,())=(Qq,PUnit.unit))/\(([]:List (Nat×Nat))= []/\(Qq,())=(Qq,PUnit.unit))/\(aW v11)/\(∃(Sd:List Int),Mn.fn ((v11.2.1,v11.2.2.1,v11.2.2.2.1,()),s,Jc,())=some Sd/\(aY v11)/\(sG Md v11 Jc)/\(nR Md v11 Qq)/\(([]:List (Nat×Nat))= []/\(Qq,())=(Qq,PUnit.unit))/\(aW v11)/\(∃(Oh:(List Int×PUnit)×PUnit),Ib.fn (w,())=some Oh/\(aY v11)/\(∃(Wv:Int),idx Md v11.1=some Wv/\([]:List (Nat×Nat))= []/\(Wv,())=(Jc,PUnit.unit))/\(∃(Wv:Int),idx Md v11.1=some Wv/\([]:List (Nat×Nat))= []/\(Wv,())=(Qq,PUnit.unit))/\(([]:List (Nat×Nat))= []/\(Qq,())=(Qq,PUnit.unit))/\(aW v11)/\(sE v11 Md Jc Qq Oh m ts Sd depth s w Lo Xe ay Xf))/\(aY v11)/\(sG Md v11 Jc)/\(nR Md v11 Qq)/\(aW v11)/\ ∃(Oh:(List Int×PUnit)×PUnit),Ib.fn (w,())=some Oh/\(sE v11 Md Jc Qq Oh m ts Sd depth s w Lo Xe ay Xf))/\(aY v11)/\(aY v11)/\(∃(Sd:Int),idx Md v11.1=some Sd/\([]:List (Nat×Nat))= []/\(Sd,())=(Jc,PUnit.unit))/\(([]:List (Nat×Nat))= []/\(Jc,())=(Jc,PUnit.unit))/\(∃(Sd:Int),idx Md v11.1=some Sd/\([]:List (Nat×Nat))= []/\(Sd,())=(Qq,PUnit.unit))/\(aW v11)/\ ∃(Sd:List Int),Mn.fn ((v11.2.1,v11.2.2.1,v11.2.2.2.1,()),s,Jc,())=some Sd/\(aY v11)/\(sG Md v11 Jc)/\(nR Md v11 Qq)/\(aW v11)/\ ∃(Oh:(List Int×PUnit)×PUnit),Ib.fn (w,())=some Oh/\(sE v11 Md Jc Qq Oh m ts Sd depth s w Lo Xe ay Xf)) (P (v11.2.2.2.2.1,v11.2.2.2.2.2.1,v11.2.2.2.2.2.2.1,v11.2.2.2.2.2.2.2.1,v11.2.2.2.2.2.2.2.2.1,()))) (P (v11.2.2.2.2.1,v11.2.2.2.2.2.1,v11.2.2.2.2.2.2.1,v11.2.2.2.2.2.2.2.1,v11.2.2.2.2.2.2.2.2.1,()))) ((0:Int),p.1,p.2.1,p.2.2.1,IntKind.i64.wrap (v.1+(1:Int)),v.2.1,v.2.2.1,v.2.2.2.1,v.2.2.2.2.1,Int.ofNat (nat_lit 0),Int.ofNat (nat_lit 0),false,false,[],PUnit.unit)) (∃(y9:List Int),cR.fn ((p.1,p.2.1,p.2.2.1,()),(0:Int),())=some y9/\0=0/\0=([]:List Int).length/\Df (λ(v10:Ol) (k11:Ol->Prop)=>Br (decide (v10.1<(↑y9.length:Int))) (∃(fR:Bool),mq.fn ((v10.2.2.2.2.1,v10.2.2.2.2.2.1,v10.2.2.2.2.2.2.1,v10.2.2.2.2.2.2.2.1,v10.2.2.2.2.2.2.2.2.1,()),())=some fR/\Br (!fR) (∃(Lo:Int),idx y9 v10.1=some Lo/\ ∃(Jc:Int),idx y9 v10.1=some Jc/\ ∃(Qq:List Int),Mn.fn ((v10.2.1,v10.2.2.1,v10.2.2.2.1,()),s,Lo,())=some Qq/\ ∃(Xe:(List Int×PUnit)×PUnit),Ib.fn (w,())=some Xe/\0=0/\Xe.1.1.length=Xe.1.1.length/\Xe.1.1.length+(List.take 1 (List.drop 0 [Jc])).length<=Cr/\ ∃(ay:cZ),(Yr m).fn ((v10.2.1,v10.2.2.1,v10.2.2.2.1,()),ts,Qq,List.take (Xe.1.1++List.take 1 (List.drop 0 [Jc])).length (List.drop 0 (Xe.1.1++List.take 1 (List.drop 0 [Jc]))),depth,(v10.2.2.2.2.1,v10.2.2.2.2.2.1,v10.2.2.2.2.2.2.1,v10.2.2.2.2.2.2.2.1,v10.2.2.2.2.2.2.2.2.1,()),())=some ay/\(0=0/\v10.2.2.2.2.2.2.2.2.2.2.2.2.2.1.length=v10.2.2.2.2.2.2.2.2.2.2.2.2.2.1.length/\k11 (IntKind.i64.wrap (v10.1+(1:Int)),v10.2.1,v10.2.2.1,v10.2.2.2.1,ay.1,ay.2.1,ay.2.2.1,ay.2.2.2.1,ay.2.2.2.2.1,v10.2.2.2.2.2.2.2.2.2.1,v10.2.2.2.2.2.2.2.2.2.2.1,v10.2.2.2.2.2.2.2.2.2.2.2.1,v10.2.2.2.2.2.2.2.2.2.2.2.2.1,v10.2.2.2.2.2.2.2.2.2.2.2.2.2.1,()))/\(aZ v10)/\(aZ v10)/\(∃(Xf:Int),idx y9 v10.1=some Xf/\([]:List (Nat×Nat))= []/\(Xf,())=(Lo,PUnit.unit))/\(([]:List (Nat×Nat))= []/\(Lo,())=(Lo,PUnit.unit))/\(∃(Xf:Int),idx y9 v10.1=some Xf/\([]:List (Nat×Nat))= []/\(Xf,())=(Jc,PUnit.unit))/\(([]:List (Nat×Nat))= []/\(Jc,())=(Jc,PUnit.unit))/\(aX v10)/\(∃(Xf:List Int),Mn.fn ((v10.2.1,v10.2.2.1,v10.2.2.2.1,()),s,Lo,())=some Xf/\(aZ v10)/\(nS y9 v10 Lo)/\(nT y9 v10 Jc)/\(([]:List (Nat×Nat))= []/\(Jc,())=(Jc,PUnit.unit))/\(aX v10)/\(∃(Sd:(List Int×PUnit)×PUnit),Ib.fn (w,())=some Sd/\(aZ v10)/\(∃(Oh:Int),idx y9 v10.1=some Oh/\([]:List (Nat×Nat))= []/\(Oh,())=(Lo,PUnit.unit))/\(∃(Oh:Int),idx y9 v10.1=some Oh/\([]:List (Nat×Nat))= []/\(Oh,())=(Jc,PUnit.unit))/\(([]:List (Nat×Nat))= []/\(Jc,())=(Jc,PUnit.unit))/\(aX v10)/\(sF v10 y9 Lo Jc Sd m ts Xf depth s w fR Qq Xe ay))/\(aZ v10)/\(nS y9 v10 Lo)/\(nT y9 v10 Jc)/\(aX v10)/\ ∃(Sd:(List Int×PUnit)×PUnit),Ib.fn (w,())=some Sd/\(sF v10 y9 Lo Jc Sd m ts Xf depth s w fR Qq Xe ay))/\(aZ v10)/\(aZ v10)/\(∃(Xf:Int),idx y9 v10.1=some Xf/\([]:List (Nat×Nat))= []/\(Xf,())=(Lo,PUnit.unit))/\(([]:List (Nat×Nat))= []/\(Lo,())=(Lo,PUnit.unit))/\(∃(Xf:Int),idx y9 v10.1=some Xf/\([]:List (Nat×Nat))= []/\(Xf,())=(Jc,PUnit.unit))/\(aX v10)/\ ∃(Xf:List Int),Mn.fn ((v10.2.1,v10.2.2.1,v10.2.2.2.1,()),s,Lo,())=some Xf/\(aZ v10)/\(nS y9 v10 Lo)/\(nT y9 v10 Jc)/\(aX v10)/\ ∃(Sd:(List Int×PUnit)×PUnit),Ib.fn (w,())=some Sd/\(sF v10 y9 Lo Jc Sd m ts Xf depth s w fR Qq Xe ay)) (P (v10.2.2.2.2.1,v10.2.2.2.2.2.1,v10.2.2.2.2.2.2.1,v10.2.2.2.2.2.2.2.1,v10.2.2.2.2.2.2.2.2.1,()))) (P (v10.2.2.2.2.1,v10.2.2.2.2.2.1,v10.2.2.2.2.2.2.1,v10.2.2.2.2.2.2.2.1,v10.2.2.2.2.2.2.2.2.1,()))) ((0:Int),p.1,p.2.1,p.2.2.1,IntKind.i64.wrap (v.1+(1:Int)),v.2.1,v.2.2.1,v.2.2.2.1,v.2.2.2.2.1,Int.ofNat (nat_lit 0),Int.ofNat (nat_lit 0),false,false,[],PUnit.unit))))))=fnW Ac4 (look [(48,km),(115,Yi),(101,Bo),(116,Ib),(117,cR),(118,Mn),(92,mq),(89,Pc.q (Yr m))]) (Yr (m+1)) Tryz.f89 (p,ts,s,w,depth,v,()) P:=by kernel_rfl
abbrev a7:Type:=Int×List Int×Int×ByteArray×List (List Int)×Option (List (List Int×List (List Int)×List Int×PUnit)×List (ByteArray->Option Int)×PUnit)×Int×Bool×Int×Int×Bool×PUnit
abbrev oG:Type:=(Int×ByteArray×List (List Int)×Option (List (List Int×List (List Int)×List Int×PUnit)×List (ByteArray->Option Int)×PUnit)×Int×Bool×List Int×Int×Int×Bool×Bool×PUnit)×PUnit
theorem Afs {m:Nat} (n:Int) (str:ByteArray) (g:List (List Int)) (b:Option (List (List Int×List (List Int)×List Int×Unit)×List (ByteArray->Option Int)×Unit)) (Ed:Int) (every:Bool) (w:List Int) (nodes found:Int) (ab:Bool) (x:List Int) (P:((Int×ByteArray×List (List Int)×Option BB×Int×Bool×List Int×Int×Int×Bool×Bool×Unit)×Unit)->Prop):(Br (nodes==(20000:Int)) (P ((n,str,g,b,Ed,every,List.take w.length (List.drop 0 w),nodes,found,true,true,()),())) (∃(Lo:Int),Te.fn (List.take w.length (List.drop 0 w),())=some Lo/\ ∃(Jc:Int),ko.fn (b,x,())=some Jc/\Br (decide (IntKind.i64.wrap (Lo+Jc)>Ed)) (P ((n,str,g,b,Ed,every,List.take w.length (List.drop 0 w),IntKind.i64.wrap (nodes+(1:Int)),found,ab,false,()),())) (∃(Qq:Bool),pS.fn (x,())=some Qq/\Br Qq (Br (Lo==Ed) (P ((n,str,g,b,Ed,every,List.take w.length (List.drop 0 w),IntKind.i64.wrap (nodes+(1:Int)),IntKind.i64.wrap (found+(1:Int)),ab,!every,()),())) (Br (Lo==Ed) (P ((n,str,g,b,Ed,every,List.take w.length (List.drop 0 w),IntKind.i64.wrap (nodes+(1:Int)),found,ab,false,()),())) (Br (decide (Lo>(0:Int))) (((0:Int)<=IntKind.i64.wrap (Lo-(1:Int))/\IntKind.i64.wrap (Lo-(1:Int))<(↑w.length:Int))/\ ∃(Xe:Int),w[0+(IntKind.i64.wrap (Lo-(1:Int))).toNat]?=some Xe/\ ∃(ay:List Int),Lz.fn ((↑g.length:Int),())=some ay/\0=0/\(List.take w.length (List.drop 0 w)).length=(List.take w.length (List.drop 0 w)).length/\Df (λ(My:a7) (k19:a7->Prop)=>Br (decide (My.1<(↑ay.length:Int))) (∃(Oh:Int),idx ay My.1=some Oh/\Br (Oh==IntKind.i64.wrap ((0:Int)-Xe)) (0=0/\(List.take My.2.1.length (List.drop 0 My.2.1)).length=(List.take My.2.1.length (List.drop 0 My.2.1)).length/\k19 (IntKind.i64.wrap (My.1+(1:Int)),List.take My.2.1.length (List.drop 0 My.2.1),My.2.2.1,My.2.2.2.1,My.2.2.2.2.1,My.2.2.2.2.2.1,My.2.2.2.2.2.2.1,My.2.2.2.2.2.2.2.1,My.2.2.2.2.2.2.2.2.1,My.2.2.2.2.2.2.2.2.2.1,My.2.2.2.2.2.2.2.2.2.2.1,())) (0=0/\My.2.1.length=My.2.1.length/\My.2.1.length+(List.take 1 (List.drop 0 [Oh])).length<=Cr/\ ∃(Wv:List Int),Lc.fn (My.2.2.2.2.1,Oh,())=some Wv/\ ∃(Su:List Int),Nh.fn (x,Wv,())=some Su/\0=0/\(My.2.1++List.take 1 (List.drop 0 [Oh])).length=(My.2.1++List.take 1 (List.drop 0 [Oh])).length/\ ∃(Xj:oG),(Uh m).fn (My.2.2.1,My.2.2.2.1,My.2.2.2.2.1,My.2.2.2.2.2.1,My.2.2.2.2.2.2.1,My.2.2.2.2.2.2.2.1,My.2.1++List.take 1 (List.drop 0 [Oh]),My.2.2.2.2.2.2.2.2.1,My.2.2.2.2.2.2.2.2.2.1,My.2.2.2.2.2.2.2.2.2.2.1,Su,())=some Xj/\Br Xj.1.2.2.2.2.2.2.2.2.2.2.1 (P ((Xj.1.1,Xj.1.2.1,Xj.1.2.2.1,Xj.1.2.2.2.1,Xj.1.2.2.2.2.1,Xj.1.2.2.2.2.2.1,List.take Xj.1.2.2.2.2.2.2.1.length (List.drop 0 Xj.1.2.2.2.2.2.2.1),Xj.1.2.2.2.2.2.2.2.1,Xj.1.2.2.2.2.2.2.2.2.1,Xj.1.2.2.2.2.2.2.2.2.2.1,true,()),())) (((0:Int)<=(0:Int)/\(0:Int)<=Lo/\Lo<=(↑Xj.1.2.2.2.2.2.2.1.length:Int))/\0=0/\(List.take (Lo.toNat-Int.toNat (0:Int)) (List.drop (0+Int.toNat (0:Int)) Xj.1.2.2.2.2.2.2.1)).length=(List.take (Lo.toNat-Int.toNat (0:Int)) (List.drop (0+Int.toNat (0:Int)) Xj.1.2.2.2.2.2.2.1)).length/\k19 (IntKind.i64.wrap (My.1+(1:Int)),List.take (Lo.toNat-Int.toNat (0:Int)) (List.drop (0+Int.toNat (0:Int)) Xj.1.2.2.2.2.2.2.1),Xj.1.1,Xj.1.2.1,Xj.1.2.2.1,Xj.1.2.2.2.1,Xj.1.2.2.2.2.1,Xj.1.2.2.2.2.2.1,Xj.1.2.2.2.2.2.2.2.1,Xj.1.2.2.2.2.2.2.2.2.1,Xj.1.2.2.2.2.2.2.2.2.2.1,())))) (P ((My.2.2.1,My.2.2.2.1,My.2.2.2.2.1,My.2.2.2.2.2.1,My.2.2.2.2.2.2.1,My.2.2.2.2.2.2.2.1,List.take My.2.1.length (List.drop 0 My.2.1),My.2.2.2.2.2.2.2.2.1,My.2.2.2.2.2.2.2.2.2.1,My.2.2.2.2.2.2.2.2.2.2.1,false,()),()))) ((0:Int),List.take w.length (List.drop 0 w),n,str,g,b,Ed,every,IntKind.i64.wrap (nodes+(1:Int)),found,ab,PUnit.unit)) (∃(Xe:List Int),Lz.fn ((↑g.length:Int),())=some Xe/\0=0/\(List.take w.length (List.drop 0 w)).length=(List.take w.length (List.drop 0 w)).length/\Df (λ(Mx:a7) (k18:a7->Prop)=>Br (decide (Mx.1<(↑Xe.length:Int))) (∃(Sd:Int),idx Xe Mx.1=some Sd/\Br (Sd==IntKind.i64.wrap ((0:Int)-(0:Int))) (0=0/\(List.take Mx.2.1.length (List.drop 0 Mx.2.1)).length=(List.take Mx.2.1.length (List.drop 0 Mx.2.1)).length/\k18 (IntKind.i64.wrap (Mx.1+(1:Int)),List.take Mx.2.1.length (List.drop 0 Mx.2.1),Mx.2.2.1,Mx.2.2.2.1,Mx.2.2.2.2.1,Mx.2.2.2.2.2.1,Mx.2.2.2.2.2.2.1,Mx.2.2.2.2.2.2.2.1,Mx.2.2.2.2.2.2.2.2.1,Mx.2.2.2.2.2.2.2.2.2.1,Mx.2.2.2.2.2.2.2.2.2.2.1,())) (0=0/\Mx.2.1.length=Mx.2.1.length/\Mx.2.1.length+(List.take 1 (List.drop 0 [Sd])).length<=Cr/\ ∃(Oh:List Int),Lc.fn (Mx.2.2.2.2.1,Sd,())=some Oh/\ ∃(Wv:List Int),Nh.fn (x,Oh,())=some Wv/\0=0/\(Mx.2.1++List.take 1 (List.drop 0 [Sd])).length=(Mx.2.1++List.take 1 (List.drop 0 [Sd])).length/\ ∃(Su:oG),(Uh m).fn (Mx.2.2.1,Mx.2.2.2.1,Mx.2.2.2.2.1,Mx.2.2.2.2.2.1,Mx.2.2.2.2.2.2.1,Mx.2.2.2.2.2.2.2.1,Mx.2.1++List.take 1 (List.drop 0 [Sd]),Mx.2.2.2.2.2.2.2.2.1,Mx.2.2.2.2.2.2.2.2.2.1,Mx.2.2.2.2.2.2.2.2.2.2.1,Wv,())=some Su/\Br Su.1.2.2.2.2.2.2.2.2.2.2.1 (P ((Su.1.1,Su.1.2.1,Su.1.2.2.1,Su.1.2.2.2.1,Su.1.2.2.2.2.1,Su.1.2.2.2.2.2.1,List.take Su.1.2.2.2.2.2.2.1.length (List.drop 0 Su.1.2.2.2.2.2.2.1),Su.1.2.2.2.2.2.2.2.1,Su.1.2.2.2.2.2.2.2.2.1,Su.1.2.2.2.2.2.2.2.2.2.1,true,()),())) (((0:Int)<=(0:Int)/\(0:Int)<=Lo/\Lo<=(↑Su.1.2.2.2.2.2.2.1.length:Int))/\0=0/\(List.take (Lo.toNat-Int.toNat (0:Int)) (List.drop (0+Int.toNat (0:Int)) Su.1.2.2.2.2.2.2.1)).length=(List.take (Lo.toNat-Int.toNat (0:Int)) (List.drop (0+Int.toNat (0:Int)) Su.1.2.2.2.2.2.2.1)).length/\k18 (IntKind.i64.wrap (Mx.1+(1:Int)),List.take (Lo.toNat-Int.toNat (0:Int)) (List.drop (0+Int.toNat (0:Int)) Su.1.2.2.2.2.2.2.1),Su.1.1,Su.1.2.1,Su.1.2.2.1,Su.1.2.2.2.1,Su.1.2.2.2.2.1,Su.1.2.2.2.2.2.1,Su.1.2.2.2.2.2.2.2.1,Su.1.2.2.2.2.2.2.2.2.1,Su.1.2.2.2.2.2.2.2.2.2.1,())))) (P ((Mx.2.2.1,Mx.2.2.2.1,Mx.2.2.2.2.1,Mx.2.2.2.2.2.1,Mx.2.2.2.2.2.2.1,Mx.2.2.2.2.2.2.2.1,List.take Mx.2.1.length (List.drop 0 Mx.2.1),Mx.2.2.2.2.2.2.2.2.1,Mx.2.2.2.2.2.2.2.2.2.1,Mx.2.2.2.2.2.2.2.2.2.2.1,false,()),()))) ((0:Int),List.take w.length (List.drop 0 w),n,str,g,b,Ed,every,IntKind.i64.wrap (nodes+(1:Int)),found,ab,PUnit.unit))))) (Br (Lo==Ed) (P ((n,str,g,b,Ed,every,List.take w.length (List.drop 0 w),IntKind.i64.wrap (nodes+(1:Int)),found,ab,false,()),())) (Br (decide (Lo>(0:Int))) (((0:Int)<=IntKind.i64.wrap (Lo-(1:Int))/\IntKind.i64.wrap (Lo-(1:Int))<(↑w.length:Int))/\ ∃(Xe:Int),w[0+(IntKind.i64.wrap (Lo-(1:Int))).toNat]?=some Xe/\ ∃(ay:List Int),Lz.fn ((↑g.length:Int),())=some ay/\0=0/\(List.take w.length (List.drop 0 w)).length=(List.take w.length (List.drop 0 w)).length/\Df (λ(My:a7) (k19:a7->Prop)=>Br (decide (My.1<(↑ay.length:Int))) (∃(Oh:Int),idx ay My.1=some Oh/\Br (Oh==IntKind.i64.wrap ((0:Int)-Xe)) (0=0/\(List.take My.2.1.length (List.drop 0 My.2.1)).length=(List.take My.2.1.length (List.drop 0 My.2.1)).length/\k19 (IntKind.i64.wrap (My.1+(1:Int)),List.take My.2.1.length (List.drop 0 My.2.1),My.2.2.1,My.2.2.2.1,My.2.2.2.2.1,My.2.2.2.2.2.1,My.2.2.2.2.2.2.1,My.2.2.2.2.2.2.2.1,My.2.2.2.2.2.2.2.2.1,My.2.2.2.2.2.2.2.2.2.1,My.2.2.2.2.2.2.2.2.2.2.1,())) (0=0/\My.2.1.length=My.2.1.length/\My.2.1.length+(List.take 1 (List.drop 0 [Oh])).length<=Cr/\ ∃(Wv:List Int),Lc.fn (My.2.2.2.2.1,Oh,())=some Wv/\ ∃(Su:List Int),Nh.fn (x,Wv,())=some Su/\0=0/\(My.2.1++List.take 1 (List.drop 0 [Oh])).length=(My.2.1++List.take 1 (List.drop 0 [Oh])).length/\ ∃(Xj:oG),(Uh m).fn (My.2.2.1,My.2.2.2.1,My.2.2.2.2.1,My.2.2.2.2.2.1,My.2.2.2.2.2.2.1,My.2.2.2.2.2.2.2.1,My.2.1++List.take 1 (List.drop 0 [Oh]),My.2.2.2.2.2.2.2.2.1,My.2.2.2.2.2.2.2.2.2.1,My.2.2.2.2.2.2.2.2.2.2.1,Su,())=some Xj/\Br Xj.1.2.2.2.2.2.2.2.2.2.2.1 (P ((Xj.1.1,Xj.1.2.1,Xj.1.2.2.1,Xj.1.2.2.2.1,Xj.1.2.2.2.2.1,Xj.1.2.2.2.2.2.1,List.take Xj.1.2.2.2.2.2.2.1.length (List.drop 0 Xj.1.2.2.2.2.2.2.1),Xj.1.2.2.2.2.2.2.2.1,Xj.1.2.2.2.2.2.2.2.2.1,Xj.1.2.2.2.2.2.2.2.2.2.1,true,()),())) (((0:Int)<=(0:Int)/\(0:Int)<=Lo/\Lo<=(↑Xj.1.2.2.2.2.2.2.1.length:Int))/\0=0/\(List.take (Lo.toNat-Int.toNat (0:Int)) (List.drop (0+Int.toNat (0:Int)) Xj.1.2.2.2.2.2.2.1)).length=(List.take (Lo.toNat-Int.toNat (0:Int)) (List.drop (0+Int.toNat (0:Int)) Xj.1.2.2.2.2.2.2.1)).length/\k19 (IntKind.i64.wrap (My.1+(1:Int)),List.take (Lo.toNat-Int.toNat (0:Int)) (List.drop (0+Int.toNat (0:Int)) Xj.1.2.2.2.2.2.2.1),Xj.1.1,Xj.1.2.1,Xj.1.2.2.1,Xj.1.2.2.2.1,Xj.1.2.2.2.2.1,Xj.1.2.2.2.2.2.1,Xj.1.2.2.2.2.2.2.2.1,Xj.1.2.2.2.2.2.2.2.2.1,Xj.1.2.2.2.2.2.2.2.2.2.1,())))) (P ((My.2.2.1,My.2.2.2.1,My.2.2.2.2.1,My.2.2.2.2.2.1,My.2.2.2.2.2.2.1,My.2.2.2.2.2.2.2.1,List.take My.2.1.length (List.drop 0 My.2.1),My.2.2.2.2.2.2.2.2.1,My.2.2.2.2.2.2.2.2.2.1,My.2.2.2.2.2.2.2.2.2.2.1,false,()),()))) ((0:Int),List.take w.length (List.drop 0 w),n,str,g,b,Ed,every,IntKind.i64.wrap (nodes+(1:Int)),found,ab,PUnit.unit)) (∃(Xe:List Int),Lz.fn ((↑g.length:Int),())=some Xe/\0=0/\(List.take w.length (List.drop 0 w)).length=(List.take w.length (List.drop 0 w)).length/\Df (λ(Mx:a7) (k18:a7->Prop)=>Br (decide (Mx.1<(↑Xe.length:Int))) (∃(Sd:Int),idx Xe Mx.1=some Sd/\Br (Sd==IntKind.i64.wrap ((0:Int)-(0:Int))) (0=0/\(List.take Mx.2.1.length (List.drop 0 Mx.2.1)).length=(List.take Mx.2.1.length (List.drop 0 Mx.2.1)).length/\k18 (IntKind.i64.wrap (Mx.1+(1:Int)),List.take Mx.2.1.length (List.drop 0 Mx.2.1),Mx.2.2.1,Mx.2.2.2.1,Mx.2.2.2.2.1,Mx.2.2.2.2.2.1,Mx.2.2.2.2.2.2.1,Mx.2.2.2.2.2.2.2.1,Mx.2.2.2.2.2.2.2.2.1,Mx.2.2.2.2.2.2.2.2.2.1,Mx.2.2.2.2.2.2.2.2.2.2.1,())) (0=0/\Mx.2.1.length=Mx.2.1.length/\Mx.2.1.length+(List.take 1 (List.drop 0 [Sd])).length<=Cr/\ ∃(Oh:List Int),Lc.fn (Mx.2.2.2.2.1,Sd,())=some Oh/\ ∃(Wv:List Int),Nh.fn (x,Oh,())=some Wv/\0=0/\(Mx.2.1++List.take 1 (List.drop 0 [Sd])).length=(Mx.2.1++List.take 1 (List.drop 0 [Sd])).length/\ ∃(Su:oG),(Uh m).fn (Mx.2.2.1,Mx.2.2.2.1,Mx.2.2.2.2.1,Mx.2.2.2.2.2.1,Mx.2.2.2.2.2.2.1,Mx.2.2.2.2.2.2.2.1,Mx.2.1++List.take 1 (List.drop 0 [Sd]),Mx.2.2.2.2.2.2.2.2.1,Mx.2.2.2.2.2.2.2.2.2.1,Mx.2.2.2.2.2.2.2.2.2.2.1,Wv,())=some Su/\Br Su.1.2.2.2.2.2.2.2.2.2.2.1 (P ((Su.1.1,Su.1.2.1,Su.1.2.2.1,Su.1.2.2.2.1,Su.1.2.2.2.2.1,Su.1.2.2.2.2.2.1,List.take Su.1.2.2.2.2.2.2.1.length (List.drop 0 Su.1.2.2.2.2.2.2.1),Su.1.2.2.2.2.2.2.2.1,Su.1.2.2.2.2.2.2.2.2.1,Su.1.2.2.2.2.2.2.2.2.2.1,true,()),())) (((0:Int)<=(0:Int)/\(0:Int)<=Lo/\Lo<=(↑Su.1.2.2.2.2.2.2.1.length:Int))/\0=0/\(List.take (Lo.toNat-Int.toNat (0:Int)) (List.drop (0+Int.toNat (0:Int)) Su.1.2.2.2.2.2.2.1)).length=(List.take (Lo.toNat-Int.toNat (0:Int)) (List.drop (0+Int.toNat (0:Int)) Su.1.2.2.2.2.2.2.1)).length/\k18 (IntKind.i64.wrap (Mx.1+(1:Int)),List.take (Lo.toNat-Int.toNat (0:Int)) (List.drop (0+Int.toNat (0:Int)) Su.1.2.2.2.2.2.2.1),Su.1.1,Su.1.2.1,Su.1.2.2.1,Su.1.2.2.2.1,Su.1.2.2.2.2.1,Su.1.2.2.2.2.2.1,Su.1.2.2.2.2.2.2.2.1,Su.1.2.2.2.2.2.2.2.2.1,Su.1.2.2.2.2.2.2.2.2.2.1,())))) (P ((Mx.2.2.1,Mx.2.2.2.1,Mx.2.2.2.2.1,Mx.2.2.2.2.2.1,Mx.2.2.2.2.2.2.1,Mx.2.2.2.2.2.2.2.1,List.take Mx.2.1.length (List.drop 0 Mx.2.1),Mx.2.2.2.2.2.2.2.2.1,Mx.2.2.2.2.2.2.2.2.2.1,Mx.2.2.2.2.2.2.2.2.2.2.1,false,()),()))) ((0:Int),List.take w.length (List.drop 0 w),n,str,g,b,Ed,every,IntKind.i64.wrap (nodes+(1:Int)),found,ab,PUnit.unit)))))))=fnMW (CJ [mV+6]) (look [(119,Te),(52,ko),(120,pS),(106,Lz),(122,Lc),(121,Nh),(91,Pc.m (Uh m))]) (Uh (m+1)) Tryz.f91 (n,str,g,b,Ed,every,w,nodes,found,ab,x,()) P:=by kernel_rfl
theorem Ak5 (s:List Int) (h:short s):fnW Ei (look []) pS Tryz.f120 (s,()) (λ(z:Bool)=>z=dr s):=by
 unfold short at h
 refine Eq.mp (Aky s _) ?_
 refine Bf s.length (λv=>v.1) (λj _=> ∀i (hi:i<s.length),i<j->s[i]=(i:Int)) rfl (λi _ h=>absurd h (by omega)) ?_
 rintro j ⟨i,⟨⟩⟩ K hj hi hR hK
 dsimp only at hi⊢
 subst hi
 refine Br.dec (λhl=>?_) λhl=>?_
 ·have hl:j<s.length:=by omega
  refine ⟨_,Bp hl,Br.of (λhb=>?_) λhb=>?_⟩
  ·have hb:(j:Int)≠s[j]:=by simpa using hb
   show false=dr s
   unfold dr
   refine (Dq λe=>hb ?_).symm
   have:(upto s.length)[j]?=some (j:Int):=by rw [jA hl]
   rw [<-e,Ac hl] at this
   exact (Ba this).symm
  ·have hb:(j:Int)=s[j]:=by simpa using hb
   rw [Bg (by omega)]
   refine hK hl _ rfl λi hi iK=>?_
   by_cases e:i=j
   ·subst e;exact hb.symm
   ·exact hR i hi (by omega)
 ·have:j=s.length:=by omega
  subst this
  show true=dr s
  unfold dr
  refine (Fa (List.ext_getElem (by rw [jB]) λi h1 h2=>?_)).symm
  rw [hR i h1 h1]
  have:(upto s.length)[i]?=some (i:Int):=by rw [jA h1]
  rw [Ac h2] at this
  exact (Ba this).symm
theorem PH:Sound Tryz.prog 120 pS:=
 Sound.Ev Db Bh mixed Tryz.func120 (by kernel_rfl) (by kernel_rfl) λx h=>Ak5 x.1 h
theorem Ak1 (v:DS) (_:True):fnW Ei (look []) mq Tryz.f92 (v,()) (λ(z:Bool)=>z=Qs v):=by
 refine Eq.mp (Aku v _) ?_
 unfold Qs
 refine Br.of (λh=>by rw [h];rfl) λh=>?_
 rw [h,Se]
 refine Br.of (λh=>?_) λh=>?_
 ·rw [show decide (0<v.2.1)=true from h,bA]
 ·rw [show decide (0<v.2.1)=false from h,Bool.false_and]
theorem PD:Sound Tryz.prog 92 mq:=
 Sound.Ev Db Bh mixed Tryz.func92 (by kernel_rfl) (by kernel_rfl) λx h=>Ak1 x.1 h
theorem xX {p:PP} {ts:List TT} {s:List Int} {l:Int} (h:Ny p ts s=true) (hl:Iu (List.length p.2.2.1) l):Ny p ts (Ra p.2.2.1 s l)=true:=by
 obtain ⟨_,_,hr⟩:=po h
 obtain ⟨hv,hp,hg⟩:=nZ hr
 have hm:l∈Aw p.2.2.1.length:=by
  obtain ⟨k,hk,rfl|rfl⟩:=Sm hl
  ·exact (Vd hk).1
  ·exact (Vd hk).2
 unfold Ny at h⊢
 obtain ⟨_,h2⟩:=Ho.1 h
 exact Ho.2 ⟨YU hv (NA hg hm),h2⟩
theorem FJ {p:PP} {ts:List TT} {s:List Int} (h:Ny p ts s=true):Valid p/\s.length=p.1.toNat/\s.length<=20/\(∀y∈s,0<=y/\y<p.1)/\ae ts/\df ts s:=by
 obtain ⟨ha,hb,hr⟩:=po h
 obtain ⟨hv,hp,hg⟩:=nZ hr
 have hV:=valid hv
 have hn:=hV.n
 have h1:=hp.1
 exact ⟨hV,h1,by omega,λy hy=>by have:=hp.row y hy;omega,ha,hb⟩
theorem mb {w:List Int} (h:0<w.length):w[w.length-1]?=some (Mz w):=by
 unfold Mz
 rw [List.getLastD_eq_getLast?,List.getLast?_eq_getElem?]
 cases hw:w[w.length-1]? with
 |none=>rw [List.getElem?_eq_none_iff] at hw;omega
 |some x=>rfl
theorem uf {w:List Int} {n:Nat} (hn:n<=8) (h: ∀l∈w,Iu n l): -8<=Mz w/\Mz w<=8:=by
 cases hw:w with
 |nil=>simp [Mz]
 |cons a r=>
  have hp:0<w.length:=by rw [hw];simp
  have:=h _ (Bq (mb hp))
  rw [hw] at this
  unfold Iu at this
  omega
theorem Af0 {m:Nat} (n:Int) (str:ByteArray) (g:List (List Int)) (b:Option BB) (Ed:Int) (every:Bool) (w:List Int) (nodes found:Int) (ab:Bool) (x:List Int)
  (h:zc n str g b Ed w nodes found x/\(Ed-w.length).toNat<m+1):
  fnMW (CJ [mV+6]) (look [(119,Te),(52,ko),(120,pS),(106,Lz),(122,Lc),(121,Nh),(91,Pc.m (Uh m))]) (Uh (m+1)) Tryz.f91 (n,str,g,b,Ed,every,w,nodes,found,ab,x,()) (λ(z:(Int×ByteArray×List (List Int)×Option BB×Int×Bool×List Int×Int×Int×Bool×Bool×Unit)×Unit)=>z=(iX n str g b Ed every (rR n g b Ed every w nodes found ab x),())):=by
 obtain ⟨⟨ts,rfl,hh,Aiv,UC,pq,⟨hn0,hn1⟩,hf0,hf1⟩,hm⟩:=h
 obtain ⟨hV,ZY,Atr,ZZ,ha,hb⟩:=FJ hh
 have hN:=hV.n
 have ZZ: ∀y∈x,0<=y/\y<n:=ZZ
 have kE:1<=g.length/\g.length<=8:=hV.wo
 have Aiw:=SC ha hb
 have hbd:XU (some (Fb ts)) x:=⟨ts,ha,rfl,hb⟩
 have hid:dr x=decide (x=upto n.toNat):=by unfold dr;rw [ZY]
 have hlb:=uf kE.2 pq
 obtain ⟨q,hq⟩: ∃q,rR n g (some (Fb ts)) Ed every w nodes found ab x=q:=⟨_,rfl⟩
 refine Eq.mp (Afs n str g (some (Fb ts)) Ed every w nodes found ab x _) ?_
 rw [hq]
 unfold rR at hq
 obtain ⟨k,hk⟩: ∃k,(Ed-w.length).toNat=k:=⟨_,rfl⟩
 rw [hk] at hq hm
 rw [iN] at hq
 simp only [Cf,true_and]
 have fin: ∀r:IS,r=q->(((n,str,g,some (Fb ts),Ed,every,r.2.1,r.2.2.1,r.2.2.2.1,r.2.2.2.2,r.1,()),()):(Int×ByteArray×List (List Int)×Option BB×Int×Bool×List Int×Int×Int×Bool×Bool×Unit)×Unit)=(iX n str g (some (Fb ts)) Ed every q,()):= λr e=>by subst e;rfl
 refine Br.of (λh1=>?_) λh1=>?_
 ·rw [Ab (eq_of_beq h1)] at hq
  exact fin _ hq
 have h1: ¬nodes=20000:=by simpa using h1
 rw [Ag h1] at hq
 refine ⟨(w.length:Int),Ab trivial,Ve ts x,Ab hbd,?_⟩
 show Br (decide (IntKind.i64.wrap ((w.length:Int)+Ve ts x)>Ed)) _ _
 rw [Dl (n:=(w.length:Int)+Ve ts x) (by omega) (by omega),Dl (n:=nodes+1) (by omega) (by omega),Dl (n:=found+1) (by omega) (by omega)]
 have hlE:bU (some (Fb ts)) x=Ve ts x:=rfl
 refine Br.dec (λh2=>?_) λh2=>?_
 ·rw [Ab (by rw [hlE];exact h2)] at hq
  exact fin _ hq
 rw [Ag (by rw [hlE];exact h2)] at hq
 refine ⟨dr x,Ab (by show x.length<=4294967296;omega),?_⟩
 show Br (dr x) _ _
 rw [hid]
 have qG:Lz.fn ((g.length:Int),())=some (Aw g.length):=Ab ⟨Int.natCast_nonneg _,by show ((g.length:Nat):Int)<=8;omega⟩
 have hL:=Nz g.length
 refine Br.of (λh3=>Br.of (λh4=>?a) λh4=>Br.of (λh5=>?b) λh5=>?c) λh3=>Br.of (λh5=>?d) λh5=>?e
 case a=>
  rw [Ab ⟨Gs h3,eq_of_beq h4⟩] at hq
  exact fin _ hq
 case b=>
  rw [h4] at h5;cases h5
 case d=>
  rw [Ag (λhc=>of_decide_eq_false h3 hc.1),Ab (eq_of_beq h5)] at hq
  exact fin _ hq
 all_goals
  have h6: ¬(w.length:Int)=Ed:= λhc=>by rw [hc] at h5;simp at h5
  rw [Ag (λhc=>h6 hc.2),Ag h6] at hq
  have hk1:k=(Ed-((w.length+1:Nat):Int)).toNat+1:=by omega
 all_goals
  refine Br.dec (λh7=>⟨⟨by rw [Dl (by omega) (by omega)];omega,by rw [Dl (by omega) (by omega)];omega⟩,Mz w,?_,Aw g.length,qG,?_⟩) λh7=>⟨Aw g.length,qG,?_⟩
 all_goals first
  |(have h7:0<w.length:=by omega
    rw [Dl (by omega) (by omega),Bv,show ((w.length:Int)-1).toNat=w.length-1 by omega]
    exact mb h7)
  |skip
 all_goals first
  |rw [show IntKind.i64.wrap ((0:Int)-Mz w)= -Mz w by rw [Dl (by omega) (by omega)];omega]
  |rw [show IntKind.i64.wrap ((0:Int)-(0:Int))= -Mz w by
    have:w= []:=List.length_eq_zero_iff.1 (by omega)
    rw [this];rfl]
 all_goals
  refine Bf (Aw g.length).length (λv=>v.1) (λj v=> ∃r:IS,v=((j:Int),w,n,str,g,some (Fb ts),Ed,every,r.2.2.1,r.2.2.2.1,r.2.2.2.2,())/\r.1=false/\r.2.1=w/\(0<=r.2.2.1/\r.2.2.1<=20000/\0<=r.2.2.2.1/\r.2.2.2.1<=r.2.2.1)/\
   ((Aw g.length).drop j).foldl (λ(r:IS) l=>if r.1=true\/l= -Mz w then r else
    if (iN (Ra g) (bU (some (Fb ts))) (upto n.toNat) (Aw g.length) Ed every k (Ra g x l) (w++ [l]) r.2.2.1 r.2.2.2.1 r.2.2.2.2).1=true then iN (Ra g) (bU (some (Fb ts))) (upto n.toNat) (Aw g.length) Ed every k (Ra g x l) (w++ [l]) r.2.2.1 r.2.2.2.1 r.2.2.2.2
    else (false,w,(iN (Ra g) (bU (some (Fb ts))) (upto n.toNat) (Aw g.length) Ed every k (Ra g x l) (w++ [l]) r.2.2.1 r.2.2.2.1 r.2.2.2.2).2.2)) r=q) rfl
   ⟨(false,w,nodes+1,found,ab),rfl,rfl,rfl,⟨by show 0<=nodes+1;omega,by show nodes+1<=20000;omega,hf0,by show found<=nodes+1;omega⟩,by rw [Dm];exact hq⟩ ?_
  rintro j v K hj hi ⟨r,rfl,UB,ZT,hr3,hR⟩ hK
  dsimp only
  refine Br.dec (λhl=>?_) λhl=>?_
  ·have hl:j<(Aw g.length).length:=by omega
   have XQ:Iu g.length (Aw g.length)[j]:=Pn (Aj hl)
   have Axz:((Bs g (Aw g.length)[j]).length:Int)=n:=(k8 hV XQ).1
   rw [Cn hl,Ih] at hR
   refine ⟨_,Bp hl,Br.of (λhe=>?_) λhe=>?_⟩
   ·rw [Ab (.inr (eq_of_beq he))] at hR
    rw [Bg (by omega)]
    exact hK hl _ rfl ⟨r,by simp only [Cf],UB,ZT,hr3,hR⟩
   ·have he: ¬(Aw g.length)[j]= -Mz w:=by simpa using he
    rw [Ag (by rw [UB];simpa using he)] at hR
    have iM:=Ah8 (nx:=Ra g) (low:=bU (some (Fb ts))) (one:=upto n.toNat) (ls:=Aw g.length) (depth:=Ed) (every:=every) k (Ra g x (Aw g.length)[j]) (w++ [(Aw g.length)[j]]) r.2.2.1 r.2.2.2.1 r.2.2.2.2 hr3
    have ZS:rR n g (some (Fb ts)) Ed every (w++ [(Aw g.length)[j]]) r.2.2.1 r.2.2.2.1 r.2.2.2.2 (Ra g x (Aw g.length)[j])=iN (Ra g) (bU (some (Fb ts))) (upto n.toNat) (Aw g.length) Ed every k (Ra g x (Aw g.length)[j]) (w++ [(Aw g.length)[j]]) r.2.2.1 r.2.2.2.1 r.2.2.2.2:=by
     unfold rR
     rw [Ax,Bw,hk1]
    refine ⟨by show w.length+1<=4294967296;omega,_,Ab ⟨XQ,kE.2,hV.perm⟩,_,Ab ⟨Atr,λy hy=>by have:=ZZ y hy;show 0<=y/\y<((Bs g (Aw g.length)[j]).length:Int);omega⟩,_,
     Ab ⟨⟨ts,rfl,xX hh XQ,Aiv,by show ((w++ [(Aw g.length)[j]]).length:Int)<=Ed;rw [Ax,Bw];omega,λl hm=>by
      have hm:l∈w++ [(Aw g.length)[j]]:=hm
      rcases Bb.1 hm with hm|hm
      ·exact pq l hm
      ·rw [Ae.1 hm];exact XQ,⟨hr3.1,hr3.2.1⟩,hr3.2.2.1,hr3.2.2.2⟩,by show (Ed-((w++ [(Aw g.length)[j]]).length:Int)).toNat<m;rw [Ax,Bw];omega⟩,?_⟩
    show Br (rR n g (some (Fb ts)) Ed every (w++ [(Aw g.length)[j]]) r.2.2.1 r.2.2.2.1 r.2.2.2.2 (Ra g x (Aw g.length)[j])).1 _ _
    dsimp only
    refine Br.of (λTq=>?_) λTq=>?_
    ·have MJ:=Tq
     rw [ZS] at MJ
     rw [Ab MJ,RX _ _ MJ] at hR
     have e:=fin _ hR
     rw [<-ZS,Tq] at e
     refine Eq.trans ?_ e
     simp only [iX,Cf]
     rfl
    ·have MJ:=Tq
     rw [ZS] at MJ
     have hwd:=Aee _ _ _ _ _ _ MJ
     rw [Ag (by rw [MJ];simp)] at hR
     rw [<-ZS] at hwd
     refine ⟨⟨Nt _,Int.natCast_nonneg _,?_⟩,?_⟩
     ·show (w.length:Int)<=((rR n g (some (Fb ts)) Ed every (w++ [(Aw g.length)[j]]) r.2.2.1 r.2.2.2.1 r.2.2.2.2 (Ra g x (Aw g.length)[j])).2.1.length:Int)
      rw [hwd,Ax]
      omega
     ·rw [Bg (by omega)]
      refine hK hl _ rfl ⟨(false,w,(iN (Ra g) (bU (some (Fb ts))) (upto n.toNat) (Aw g.length) Ed every k (Ra g x (Aw g.length)[j]) (w++ [(Aw g.length)[j]]) r.2.2.1 r.2.2.2.1 r.2.2.2.2).2.2),?_,rfl,rfl,iM,hR⟩
      have htk:List.take w.length (rR n g (some (Fb ts)) Ed every (w++ [(Aw g.length)[j]]) r.2.2.1 r.2.2.2.1 r.2.2.2.2 (Ra g x (Aw g.length)[j])).2.1=w:=by rw [hwd];simp
      rw [<-ZS]
      show (((j+1:Nat):Int),List.take w.length (rR n g (some (Fb ts)) Ed every (w++ [(Aw g.length)[j]]) r.2.2.1 r.2.2.2.1 r.2.2.2.2 (Ra g x (Aw g.length)[j])).2.1,_)=_
      rw [htk]
      rfl
  ·have:j=(Aw g.length).length:=by omega
   subst this
   rw [Ij,List.foldl_nil] at hR
   have:=fin r hR
   rw [UB,ZT] at this
   exact this
theorem PS {m:Nat} (Aa6:By Tryz.prog 91 (Uh m)):By Tryz.prog 91 (Uh (m+1)):=
 By.gS (CL [mV+6]) (Av fH (Av IP (Av PH (Av lu (Av jn (Av Wq (En Aa6 Bh))))))) mixed Tryz.func91 (by kernel_rfl) (by kernel_rfl) λx h=>Af0 x.1 x.2.1 x.2.2.1 x.2.2.2.1 x.2.2.2.2.1 x.2.2.2.2.2.1 x.2.2.2.2.2.2.1 x.2.2.2.2.2.2.2.1 x.2.2.2.2.2.2.2.2.1 x.2.2.2.2.2.2.2.2.2.1 x.2.2.2.2.2.2.2.2.2.2.1 h
theorem Akg {m:Nat} (p:PP) (ts:List TT) (s w:List Int) (depth:Int) (v:DS) (h:YD p ts s w depth v/\(depth-w.length).toNat<m+1):fnW Ac4 (look [(48,km),(115,Yi),(101,Bo),(116,Ib),(117,cR),(118,Mn),(92,mq),(89,Pc.q (Yr m))]) (Yr (m+1)) Tryz.f89 (p,ts,s,w,depth,v,()) (λ(z:DS)=>z=GO p ts s w depth v):=by
 obtain ⟨⟨hh,Aiv,UC,pq,hv⟩,hm⟩:=h
 obtain ⟨hV,hsl,At7,hsr,ha,hb⟩:=FJ hh
 have hN:=hV.n
 have kE:=hV.wo
 have Aiw:=SC ha hb
 have hlb:=uf kE.2 pq
 have hv0:=hv.n0
 have hv1:=hv.n1
 have hv2:=hv.m0
 have hv3:=hv.m1
 obtain ⟨q,hq⟩: ∃q,GO p ts s w depth v=q:=⟨_,rfl⟩
 refine Eq.mp (Al9 p ts s w depth v _) ?_
 rw [hq]
 unfold GO at hq
 obtain ⟨k,hk⟩: ∃k,(depth-w.length).toNat=k:=⟨_,rfl⟩
 rw [hk] at hq hm
 rw [vN] at hq
 simp only [SH,SI,aW,aX,sE,sF,aY,aZ,sG,nR,nS,nT]
 simp only [Cf,true_and]
 refine Br.of (λh1=>?_) λh1=>?_
 ·rw [Ab (eq_of_beq h1)] at hq
  exact hq
 have h1: ¬v.1=20000:=by simpa using h1
 rw [Ag h1] at hq
 refine ⟨Ve ts s,Ab ⟨ha,hb⟩,?_⟩
 rw [Dl (n:=(w.length:Int)+Ve ts s) (by omega) (by omega),Dl (n:=v.1+1) (by omega) (by omega),Dl (n:=v.2.1+1) (by omega) (by omega)]
 refine Br.dec (λh2=>?_) λh2=>?_
 ·rw [Ab h2] at hq
  exact hq
 rw [Ag h2] at hq
 refine Br.of (λh3=>?_) λh3=>?_
 ·rw [Ab (eq_of_beq h3)] at hq
  refine ⟨upto p.1.toNat,Ab ⟨by show 0<=p.1;omega,by show p.1<=20;omega⟩,Ch s (upto p.1.toNat),Ab (by show s.length<=4294967296;omega),?_⟩
  refine Br.of (λh4=>?_) λh4=>?_
  ·rw [Ab (tu.1 h4)] at hq
   refine Br.of (λh5=>?_) λh5=>?_
   ·rw [Ab (eq_of_beq h5)] at hq
    exact ⟨((w,()),()),Ab (by show w.length<=4294967296;omega),hq⟩
   ·rw [Ag (by simpa using h5)] at hq
    exact hq
  ·rw [Ag (λhc=>by rw [tu.2 hc] at h4;cases h4)] at hq
   exact hq
 have h3: ¬(w.length:Int)=depth:=by simpa using h3
 rw [Ag h3] at hq
 have hk1:k=(depth-((w.length+1:Nat):Int)).toNat+1:=by omega
 have haf:cR.fn ((p.1,p.2.1,p.2.2.1,()),Mz w,())=some (ka p.2.2.1.length (Mz w)):=Ab ⟨kE.2,hlb⟩
 obtain ⟨ls,qG⟩: ∃ls,ka p.2.2.1.length (Mz w)=ls:=⟨_,rfl⟩
 have nA: ∀l∈ls,Iu p.2.2.1.length l:= λl hl=>by
  rw [<-qG] at hl
  exact Pn (Cm.1 hl).1
 have hlen:ls.length<=16:=by
  rw [<-qG]
  have h1:=List.length_filter_le (λl=>!(l== -Mz w)) (Aw p.2.2.1.length)
  have h2:=Nz p.2.2.1.length
  unfold ka
  omega
 rw [qG] at haf
 have hq:ls.foldl (λ(v:DS) l=>if Qs v=true then v else vN (Ra p.2.2.1) (Ve ts) (upto p.1.toNat) (Aw p.2.2.1.length) depth k (Ra p.2.2.1 s l) (w++ [l]) v) (v.1+1,v.2)=q:=by rw [<-qG];exact hq
 refine Br.dec (λh7=>⟨Mz w,?_,ls,haf,?_⟩) λh7=>⟨ls,?_,?_⟩
 ·have h7:0<w.length:=by omega
  rw [Dl (by omega) (by omega),show (w.length:Int)-1=((w.length-1:Nat):Int) by omega,Bp (by omega)]
  have:=mb h7
  rw [Ac (by omega)] at this
  exact this
 rotate_left
 ·have:w= []:=List.length_eq_zero_iff.1 (by omega)
  rw [this] at haf
  exact haf
 all_goals
  refine ⟨rfl,Bf ls.length (λv=>v.1) (λj y=> ∃u:DS,y=((j:Int),p.1,p.2.1,p.2.2.1,u.1,u.2.1,u.2.2.1,u.2.2.2.1,u.2.2.2.2.1,(0:Int),(0:Int),false,false,[],())/\z7 u/\
   (ls.drop j).foldl (λ(v:DS) l=>if Qs v=true then v else vN (Ra p.2.2.1) (Ve ts) (upto p.1.toNat) (Aw p.2.2.1.length) depth k (Ra p.2.2.1 s l) (w++ [l]) v) u=q) rfl
   ⟨(v.1+1,v.2),rfl,⟨by show 0<=v.1+1;omega,by show v.1+1<=20000;omega,hv2,by show v.2.1<=v.1+1;omega⟩,by rw [Dm];exact hq⟩ ?_⟩
  rintro j y K hj hi ⟨u,rfl,hu,hR⟩ hK
  dsimp only
  refine Br.dec (λhl=>?_) λhl=>?_
  ·have hl:j<ls.length:=by omega
   have XQ:=nA _ (Aj hl)
   rw [Cn hl,Ih] at hR
   refine ⟨Qs u,Ab trivial,?_⟩
   refine Br.of (λhd=>?_) λhd=>?_
   ·have hd:Qs u=false:=by simpa using hd
    rw [Ag (by rw [hd];simp)] at hR
    obtain ⟨l,hle⟩: ∃l,ls[j]=l:=⟨_,rfl⟩
    have hix:idx ls (j:Int)=some l:=by rw [Bp hl,hle]
    rw [hle] at hR XQ
    have hap:Mn.fn ((p.1,p.2.1,p.2.2.1,()),s,l,())=some (Ra p.2.2.1 s l):=Ab ⟨(nZ (po hh).2.2).1,At7,hsr,XQ⟩
    have hcp:Ib.fn (w,())=some ((w,()),()):=Ab (by show w.length<=4294967296;omega)
    have hmr:w.length+(List.take 1 (List.drop 0 [l])).length<=Cr:=by show w.length+1<=4294967296;omega
    have hvv:GO p ts (Ra p.2.2.1 s l) (w++ [l]) depth u=vN (Ra p.2.2.1) (Ve ts) (upto p.1.toNat) (Aw p.2.2.1.length) depth k (Ra p.2.2.1 s l) (w++ [l]) u:=by
     unfold GO
     rw [Ax,Bw,hk1]
    have ZX:=Acf (nx:=Ra p.2.2.1) (low:=Ve ts) (one:=upto p.1.toNat) (ls:=Aw p.2.2.1.length) (depth:=depth) k (Ra p.2.2.1 s l) (w++ [l]) u hu
    have hvi:(Yr m).fn ((p.1,p.2.1,p.2.2.1,()),ts,Ra p.2.2.1 s l,w++List.take 1 (List.drop 0 [l]),depth,(u.1,u.2.1,u.2.2.1,u.2.2.2.1,u.2.2.2.2.1,()),())=some (vN (Ra p.2.2.1) (Ve ts) (upto p.1.toNat) (Aw p.2.2.1.length) depth k (Ra p.2.2.1 s l) (w++ [l]) u):=
     (Ab ⟨⟨xX hh XQ,Aiv,by show ((w++ [l]).length:Int)<=depth;rw [Ax,Bw];omega,λx hx=>by
      have hx:x∈w++ [l]:=hx
      rcases Bb.1 hx with hx|hx
      ·exact pq x hx
      ·rw [Ae.1 hx];exact XQ,hu⟩,by show (depth-((w++ [l]).length:Int)).toNat<m;rw [Ax,Bw];omega⟩).trans (Mc some hvv)
    generalize vN (Ra p.2.2.1) (Ve ts) (upto p.1.toNat) (Aw p.2.2.1.length) depth k (Ra p.2.2.1 s l) (w++ [l]) u=u' at hR hvi ZX
    refine ⟨l,hix,l,hix,_,hap,_,hcp,hmr,_,hvi,?_,?_⟩
    ·rw [Bg (by omega)]
     exact hK hl _ rfl ⟨u',rfl,ZX,hR⟩
    ·repeat' (first|rfl|exact hmr|refine ⟨_,hix,?_⟩|refine ⟨_,hap,?_⟩|refine ⟨_,hcp,?_⟩|refine ⟨_,hvi,?_⟩|refine ⟨?_,?_⟩)
   ·have hd:Qs u=true:=by simpa using hd
    rw [Ab hd,SW _ _ hd] at hR
    exact hR
  ·have:j=ls.length:=by omega
   subst this
   rw [Ij] at hR
   exact hR
theorem WI {m:Nat} (Aef:Sound Tryz.prog 89 (Yr m)):Sound Tryz.prog 89 (Yr (m+1)):=
 Sound.Ev Ac5 (Av IN (Av jm (Av Uj (En rW (Av IJ (Av oc (Av PD (Av Aef Bh)))))))) mixed Tryz.func89 (by kernel_rfl) (by kernel_rfl) λx h=>Akg x.1 x.2.1 x.2.2.1 x.2.2.2.1 x.2.2.2.2.1 x.2.2.2.2.2.1 h
theorem BW:By Tryz.prog 91 (Uh 0):=
 By.gS Db Bh mixed Tryz.func91 (by kernel_rfl) (by kernel_rfl) λ_ h=>absurd h.2 (Dp _)
theorem oz: ∀m,By Tryz.prog 91 (Uh m)
 |0=>BW
 |m+1=>PS (oz m)
theorem BX:By Tryz.prog 91 o7:=By.Aau (λx=>(x.2.2.2.2.1-List.length x.2.2.2.2.2.2.1).toNat) oz
noncomputable abbrev sJ:Spec:=Ev (.pair Fl (.pair vQ (.pair tL (.pair tL (.pair tI (.pair rq .unit)))))) rq false false (λx=>YD x.1 x.2.1 x.2.2.1 x.2.2.2.1 x.2.2.2.2.1 x.2.2.2.2.2.1) (λx=>GO x.1 x.2.1 x.2.2.1 x.2.2.2.1 x.2.2.2.2.1 x.2.2.2.2.2.1)
theorem IV:Sound Tryz.prog 89 (Yr 0):=
 Sound.Ev Db Bh mixed Tryz.func89 (by kernel_rfl) (by kernel_rfl) λ_ h=>absurd h.2 (Dp _)
theorem rf: ∀m,Sound Tryz.prog 89 (Yr m)
 |0=>IV
 |m+1=>WI (rf m)
theorem IW:Sound Tryz.prog 89 sJ:=Sound.Au1 (λx=>(x.2.2.2.2.1-List.length x.2.2.2.1).toNat) rf
noncomputable def gr (p:PP) (b:Option BB) (x:List Int) (Ed:Int) (every:Bool):IS:=rR p.1 p.2.2.1 b Ed every [] 0 0 false x
def YB (p:PP) (b:Option BB) (x:List Int) (Ed:Int):Prop:= ∃ts,b=some (Fb ts)/\Ny p ts x=true/\0<=Ed/\Ed<=30
noncomputable abbrev MT:MSpec:= {Je:= [some 3,none,none,none,none],ins:= [(false, .Eu tI),(false, .Eu .str),(false, .Eu da),(false, .Eu (.optr Wt)),(false, .Eu tL),(false, .Eu tI),(false, .Eu .bool)],Gy:=false,Hz:= [none,none,none,none,none,none,none,none,none,none],outs:= [.Eu tI, .Eu .str, .Eu da, .Eu (.optr Wt), .Eu tI, .Eu .bool,rL, .Eu tI, .Eu tI, .Eu .bool],fn:= λ_=>none,rp:=some 84}
noncomputable abbrev Vn:MSpec:=gS MT (λx=>YB (x.1,x.2.1,x.2.2.1,()) x.2.2.2.1 x.2.2.2.2.1 x.2.2.2.2.2.1)
 (λx=>((x.1,x.2.1,x.2.2.1,x.2.2.2.1,x.2.2.2.2.2.1,x.2.2.2.2.2.2.1,(gr (x.1,x.2.1,x.2.2.1,()) x.2.2.2.1 x.2.2.2.2.1 x.2.2.2.2.2.1 x.2.2.2.2.2.2.1).2.1,(gr (x.1,x.2.1,x.2.2.1,()) x.2.2.2.1 x.2.2.2.2.1 x.2.2.2.2.2.1 x.2.2.2.2.2.2.1).2.2.1,(gr (x.1,x.2.1,x.2.2.1,()) x.2.2.2.1 x.2.2.2.2.1 x.2.2.2.2.2.1 x.2.2.2.2.2.2.1).2.2.2.1,(gr (x.1,x.2.1,x.2.2.1,()) x.2.2.2.1 x.2.2.2.2.1 x.2.2.2.2.2.1 x.2.2.2.2.2.2.1).2.2.2.2,()),()))
noncomputable def ui (p:PP) (ts:List TT) (s:List Int) (depth:Int) (all:Bool):DS:=GO p ts s [] depth (0,0,[],false,all,())
noncomputable abbrev bu:Spec:=Ev (.pair Fl (.pair vQ (.pair tL (.pair tI (.pair .bool .unit))))) rq false false (λx=>Ny x.1 x.2.1 x.2.2.1=true/\0<=x.2.2.2.1/\x.2.2.2.1<=30) (λx=>ui x.1 x.2.1 x.2.2.1 x.2.2.2.1 x.2.2.2.2.1)
noncomputable def pw (d:Int):Bool:=decide (0<=d/\d<=30)
noncomputable abbrev bm:Spec:=Ev (.pair tI .unit) .bool false true (λ_=>True) (λx=>pw x.1)
noncomputable def ao (p:PP) (ts:List TT) (s:List Int) (d:Int):Bool:=Ny p ts s&&pw d
noncomputable abbrev pO:Spec:=Ev (.pair Fl (.pair vQ (.pair tL (.pair tI .unit)))) .bool false true (λx=>Eh x.1/\Gv x.2.1/\short x.2.2.1) (λx=>ao x.1 x.2.1 x.2.2.1 x.2.2.2.1)
noncomputable abbrev mr:Spec:=Ev (.pair Fl (.pair vQ (.pair tL (.pair tI .unit)))) .bool false true (λx=>Eh x.1/\Gv x.2.1/\short x.2.2.1) (λ_=>true)
theorem JZ (n:Int) (str:ByteArray) (g:List (List Int)) (b:Option (List (List Int×List (List Int)×List Int×Unit)×List (ByteArray->Option Int)×Unit)) (x:List Int) (Ed:Int) (every:Bool) (P:((Int×ByteArray×List (List Int)×Option BB×Int×Bool×List Int×Int×Int×Bool×Unit)×Unit)->Prop):(0=0/\0=([]:List Int).length/\ ∃(y8:(Int×ByteArray×List (List Int)×Option (List (List Int×List (List Int)×List Int×PUnit)×List (ByteArray->Option Int)×PUnit)×Int×Bool×List Int×Int×Int×Bool×Bool×PUnit)×PUnit),o7.fn (n,str,g,b,Ed,every,[],Int.ofNat (nat_lit 0),Int.ofNat (nat_lit 0),false,x,())=some y8/\P ((y8.1.1,y8.1.2.1,y8.1.2.2.1,y8.1.2.2.2.1,y8.1.2.2.2.2.1,y8.1.2.2.2.2.2.1,List.take y8.1.2.2.2.2.2.2.1.length (List.drop 0 y8.1.2.2.2.2.2.2.1),y8.1.2.2.2.2.2.2.2.1,y8.1.2.2.2.2.2.2.2.2.1,y8.1.2.2.2.2.2.2.2.2.2.1,()),()))=fnMW Tk (look [(91,o7)]) Vn Tryz.f68 (n,str,g,b,x,Ed,every,()) P:=by kernel_rfl
theorem XF (p:Int×ByteArray×List (List Int)×Unit) (ts:List (List Int×List (List Int)×List Int×Unit)) (s:List Int) (d:Int) (all:Bool) (P:(Int×Int×List Int×Bool×Bool×Unit)->Prop):(∃(y6:Int×Int×List Int×Bool×Bool×PUnit),sJ.fn ((p.1,p.2.1,p.2.2.1,()),ts,s,List.take 0 (List.drop 0 []),d,(Int.ofNat (nat_lit 0),Int.ofNat (nat_lit 0),[],false,all,()),())=some y6/\P (y6.1,y6.2.1,y6.2.2.1,y6.2.2.2.1,y6.2.2.2.2.1,()))=fnW Ei (look [(89,sJ)]) bu Tryz.f66 (p,ts,s,d,all,()) P:=by kernel_rfl
theorem WV (d:Int) (P:Bool->Prop):(∃(y2:Bool),Dk.fn (d,(0:Int),(30:Int),())=some y2/\P y2)=fnW Ei (look [(90,Dk)]) bm Tryz.f67 (d,()) P:=by kernel_rfl
theorem Aks (p:Int×ByteArray×List (List Int)×Unit) (ts:List (List Int×List (List Int)×List Int×Unit)) (s:List Int) (d:Int) (P:Bool->Prop):(∃(y5:Bool),pR.fn ((p.1,p.2.1,p.2.2.1,()),ts,s,())=some y5/\Br y5 (∃(y6:Bool),Dk.fn (d,(0:Int),(30:Int),())=some y6/\P y6) (P false))=fnW Ei (look [(47,pR),(88,Dk)]) pO Tryz.f65 (p,ts,s,d,()) P:=by kernel_rfl
theorem ds0 (all:Bool):z7 ((0,0,[],false,all,()):DS):=⟨Nt _,(by decide:(0:Int)<=20000),Nt _,Nt _⟩
theorem Af4 (p:PP) (ts:List TT) (x:List Int) (Ed:Int) (every:Bool):XZ every [] (gr p (some (Fb ts)) x Ed every) (ui p ts x Ed every):=
 Ah9 (nx:=Ra p.2.2.1) (low:=Ve ts) (one:=upto p.1.toNat) (ls:=Aw p.2.2.1.length) (depth:=Ed) (every:=every) ((Ed-(0:Nat)).toNat+1) x [] (0,0,[],false,every,()) rfl rfl (ds0 every)
theorem Akm {p:PP} {b:Option BB} {x:List Int} {Ed:Int} (h:YB p b x Ed):zc p.1 p.2.1 p.2.2.1 b Ed [] (Int.ofNat 0) (Int.ofNat 0) x:=by
 obtain ⟨ts,hb,hh,h0,h30⟩:=h
 exact ⟨ts,hb,hh,h30,h0,λl hl=>(by cases hl),⟨by decide,by decide⟩,by decide,by decide⟩
theorem HS (n:Int) (str:ByteArray) (g:List (List Int)) (b:Option BB) (x:List Int) (Ed:Int) (every:Bool) (h:YB (n,str,g,()) b x Ed):
  fnMW Tk (look [(91,o7)]) Vn Tryz.f68 (n,str,g,b,x,Ed,every,()) (λ(z:(Int×ByteArray×List (List Int)×Option BB×Int×Bool×List Int×Int×Int×Bool×Unit)×Unit)=>z=((n,str,g,b,Ed,every,(gr (n,str,g,()) b x Ed every).2.1,(gr (n,str,g,()) b x Ed every).2.2.1,(gr (n,str,g,()) b x Ed every).2.2.2.1,(gr (n,str,g,()) b x Ed every).2.2.2.2,()),())):=by
 refine Eq.mp (JZ n str g b x Ed every _) ⟨rfl,rfl,_,Ab (Akm h),?_⟩
 dsimp only
 rw [Cf]
 rfl
theorem sj:By Tryz.prog 68 Vn:=
 By.gS Rx (En BX Bh) mixed Tryz.func68 (by kernel_rfl) (by kernel_rfl) λx h=>HS x.1 x.2.1 x.2.2.1 x.2.2.2.1 x.2.2.2.2.1 x.2.2.2.2.2.1 x.2.2.2.2.2.2.1 h
theorem VG (p:PP) (ts:List TT) (s:List Int) (d:Int) (all:Bool) (h:Ny p ts s=true/\0<=d/\d<=30):fnW Ei (look [(89,sJ)]) bu Tryz.f66 (p,ts,s,d,all,()) (λ(z:DS)=>z=ui p ts s d all):=by
 obtain ⟨hh,h0,h30⟩:=h
 exact Eq.mp (XF p ts s d all _) ⟨_,Ab ⟨hh,h30,h0,λl hl=>(by cases hl),ds0 all⟩,rfl⟩
theorem xf:Sound Tryz.prog 66 bu:=
 Sound.Ev Db (Av IW Bh) mixed Tryz.func66 (by kernel_rfl) (by kernel_rfl) λx h=>VG x.1 x.2.1 x.2.2.1 x.2.2.2.1 x.2.2.2.2.1 h
theorem UW (d:Int) (_:True):fnW Ei (look [(90,Dk)]) bm Tryz.f67 (d,()) (λ(z:Bool)=>z=pw d):=Eq.mp (WV d _) ⟨_,Ab trivial,rfl⟩
theorem x7:Sound Tryz.prog 67 bm:=
 Sound.Ev Db (Av Ws Bh) mixed Tryz.func67 (by kernel_rfl) (by kernel_rfl) λx h=>UW x.1 h
theorem Ajz (p:PP) (ts:List TT) (s:List Int) (d:Int) (h:Eh p/\Gv ts/\short s):fnW Ei (look [(47,pR),(88,Dk)]) pO Tryz.f65 (p,ts,s,d,()) (λ(z:Bool)=>z=ao p ts s d):=by
 refine Eq.mp (Aks p ts s d _) ⟨_,Ab h,?_⟩
 show Br (Ny p ts s) _ _
 unfold ao
 refine Br.of (λhb=>⟨_,Ab trivial,?_⟩) λhb=>?_
 ·rw [hb,bA];rfl
 ·rw [hb,Bool.false_and]
theorem PB:Sound Tryz.prog 65 pO:=
 Sound.Ev Db (Av PF (Av Zh Bh)) mixed Tryz.func65 (by kernel_rfl) (by kernel_rfl) λx h=>Ajz x.1 x.2.1 x.2.2.1 x.2.2.2.1 h
theorem mU {p:PP} {ts:List TT} {s:List Int} {d:Int} :ao p ts s d=true↔Ny p ts s=true/\0<=d/\d<=30:=by
 unfold ao pw
 rw [Af,Jz]
theorem LS (v:DS):Qs v=(v.2.2.2.1||(decide (0<v.2.1)&&!v.2.2.2.2.1)):=rfl
noncomputable def AA (v:DS):List Int×Int×Int×Unit:=if v.2.2.2.1=true then ([],v.1,-1,()) else if v.2.1=0 then ([],v.1,0,()) else (v.2.2.1,v.1,1,())
noncomputable def kI (p:PP) (ts:List TT) (s:List Int) (d:Int):List Int×Int×Int×Unit:=if ao p ts s d=true then AA (ui p ts s d false) else ([],0,-1,())
noncomputable abbrev ew:Spec:=Ev (.pair Fl (.pair vQ (.pair tL (.pair tI .unit)))) (.pair tL (.pair tI (.pair tI .unit))) true false (λx=>Eh x.1/\Gv x.2.1/\short x.2.2.1) (λx=>kI x.1 x.2.1 x.2.2.1 x.2.2.2.1)
noncomputable abbrev c7:MSpec:=cr [some 3,none,none,none] [(false, .Eu tI),(false, .Eu .str),(false, .Eu da),(false, .Eu vQ),(false, .Eu tL),(false, .Eu tI)] true [none,none,none] [rL, .Eu tI, .Eu tI] (λx=>Eh (x.1,x.2.1,x.2.2.1,())/\Gv x.2.2.2.1/\short x.2.2.2.2.1)
 (λx=>(((kI (x.1,x.2.1,x.2.2.1,()) x.2.2.2.1 x.2.2.2.2.1 x.2.2.2.2.2.1).1,(kI (x.1,x.2.1,x.2.2.1,()) x.2.2.2.1 x.2.2.2.2.1 x.2.2.2.2.2.1).2.1,(kI (x.1,x.2.1,x.2.2.1,()) x.2.2.2.1 x.2.2.2.2.1 x.2.2.2.2.2.1).2.2.1,()),()))
theorem Acp (p:Int×ByteArray×List (List Int)×Unit) (ts:List (List Int×List (List Int)×List Int×Unit)) (s:List Int) (d:Int) (P:(List Int×Int×Int×Unit)->Prop):(∃(y5:Bool),pO.fn ((p.1,p.2.1,p.2.2.1,()),ts,s,d,())=some y5/\Br (!y5) (P (List.take 0 (List.drop 0 []),(0:Int),(-1:Int),())) (∃(y6:Int×Int×List Int×Bool×Bool×PUnit),bu.fn ((p.1,p.2.1,p.2.2.1,()),ts,s,d,false,())=some y6/\Br y6.2.2.2.1 (P ([],y6.1,(-1:Int),())) (Br (y6.2.1==(0:Int)) (P ([],y6.1,(0:Int),())) (P (y6.2.2.1,y6.1,(1:Int),())))))=fnW Ei (look [(65,pO),(66,bu)]) ew Tryz.f35 (p,ts,s,d,()) P:=by kernel_rfl
theorem Acj (n:Int) (str:ByteArray) (g:List (List Int)) (ts:List (List Int×List (List Int)×List Int×Unit)) (s:List Int) (d:Int) (P:((List Int×Int×Int×Unit)×Unit)->Prop):(∃(y7:Option (List (List Int×List (List Int)×List Int×PUnit)×List (ByteArray->Option Int)×PUnit)×Bool×PUnit),Yf.fn ((n,str,g,()),ts,s,())=some y7/\Br (!y7.2.1) (P ((List.take 0 (List.drop 0 []),(0:Int),(-1:Int),()),())) (∃(y8:Bool),bm.fn (d,())=some y8/\Br (!y8) (P ((List.take 0 (List.drop 0 []),(0:Int),(-1:Int),()),())) (∃(y9:(Int×ByteArray×List (List Int)×Option (List (List Int×List (List Int)×List Int×PUnit)×List (ByteArray->Option Int)×PUnit)×Int×Bool×List Int×Int×Int×Bool×PUnit)×PUnit),Vn.fn (n,str,g,y7.1,s,d,false,())=some y9/\Br y9.1.2.2.2.2.2.2.2.2.2.1 (((P ((List.take 0 (List.drop 0 []),y9.1.2.2.2.2.2.2.2.1,(-1:Int),()),())/\P ((List.take 0 (List.drop 0 []),y9.1.2.2.2.2.2.2.2.1,(-1:Int),()),()))/\P ((List.take 0 (List.drop 0 []),y9.1.2.2.2.2.2.2.2.1,(-1:Int),()),()))/\P ((List.take 0 (List.drop 0 []),y9.1.2.2.2.2.2.2.2.1,(-1:Int),()),())) (Br (decide (y9.1.2.2.2.2.2.2.2.2.1>(0:Int))) (P ((List.take y9.1.2.2.2.2.2.2.1.length (List.drop 0 y9.1.2.2.2.2.2.2.1),y9.1.2.2.2.2.2.2.2.1,(1:Int),()),())) (((P ((List.take 0 (List.drop 0 []),y9.1.2.2.2.2.2.2.2.1,(0:Int),()),())/\P ((List.take 0 (List.drop 0 []),y9.1.2.2.2.2.2.2.2.1,(0:Int),()),()))/\P ((List.take 0 (List.drop 0 []),y9.1.2.2.2.2.2.2.2.1,(0:Int),()),()))/\P ((List.take 0 (List.drop 0 []),y9.1.2.2.2.2.2.2.2.1,(0:Int),()),()))))))=fnMW Tk (look [(51,Yf),(67,bm),(68,Vn)]) c7 Tryz.f36 (n,str,g,ts,s,d,()) P:=by kernel_rfl
abbrev oB:Type:=(List (List Int×List (List Int)×List Int×PUnit)×PUnit)×PUnit
abbrev vP:Type:=(Int×ByteArray×List (List Int)×PUnit)×PUnit
theorem Afk (p:Int×ByteArray×List (List Int)×Unit) (ts:List (List Int×List (List Int)×List Int×Unit)) (s:List Int) (d:Int) (P:Bool->Prop):(Br (decide ((↑s.length:Int)>(1048576:Int))) (P true) (∃(y5:Int),yM.fn ((p.1,p.2.1,p.2.2.1,()),(1048576:Int),())=some y5/\Br (decide (y5<(0:Int))) (P true) (∃(y6:Int),pV.fn (ts,y5,())=some y6/\Br (decide (y6<(0:Int))) (P true) (∃(y7:vP),Pr.fn (p.1,p.2.1,p.2.2.1,())=some y7/\ ∃(y8:oB),bd.fn (ts,())=some y8/\ ∃(y9:(List Int×PUnit)×PUnit),Tf.fn (s,())=some y9/\ ∃(Md:List Int×Int×Int×PUnit),ew.fn ((y7.1.1,y7.1.2.1,List.take y7.1.2.2.1.length (List.drop 0 y7.1.2.2.1),()),List.take y8.1.1.length (List.drop 0 y8.1.1),List.take y9.1.1.length (List.drop 0 y9.1.1),d,())=some Md/\ ∃(fQ:vP),Pr.fn (p.1,p.2.1,p.2.2.1,())=some fQ/\ ∃(fR:oB),bd.fn (ts,())=some fR/\ ∃(Lo:(List Int×PUnit)×PUnit),Tf.fn (s,())=some Lo/\ ∃(Jc:(List Int×Int×Int×PUnit)×PUnit),c7.fn (fQ.1.1,fQ.1.2.1,List.take fQ.1.2.2.1.length (List.drop 0 fQ.1.2.2.1),List.take fR.1.1.length (List.drop 0 fR.1.1),List.take Lo.1.1.length (List.drop 0 Lo.1.1),d,())=some Jc/\ ∃(Qq:Bool),Bo.fn (List.take Jc.1.1.length (List.drop 0 Jc.1.1),Md.1,())=some Qq/\Br (!Qq) (P false) (Br (Jc.1.2.1 !=Md.2.1) (P false) (Br (Jc.1.2.2.1 !=Md.2.2.1) (P false) (∃(Xe:Int×ByteArray×List (List Int)×PUnit),yN.fn ((p.1,p.2.1,p.2.2.1,()),())=some Xe/\ ∃(ay:Bool),yK.fn ((fQ.1.1,fQ.1.2.1,List.take fQ.1.2.2.1.length (List.drop 0 fQ.1.2.2.1),()),Xe,())=some ay/\Br (!ay) (P false) (∃(Xf:oB),bd.fn (ts,())=some Xf/\ ∃(Sd:Bool),pQ.fn (List.take fR.1.1.length (List.drop 0 fR.1.1),List.take Xf.1.1.length (List.drop 0 Xf.1.1),())=some Sd/\Br (!Sd) (P false) (∃(Oh:(List Int×PUnit)×PUnit),Tf.fn (s,())=some Oh/\ ∃(Wv:Bool),Bo.fn (List.take Lo.1.1.length (List.drop 0 Lo.1.1),List.take Oh.1.1.length (List.drop 0 Oh.1.1),())=some Wv/\Br (!Wv) (P false) (0=0/\fQ.1.2.2.1.length=fQ.1.2.2.1.length/\ ∃(Su:(Int×PUnit)×List (List Int)×PUnit),Sq.fn (fQ.1.1,fQ.1.2.1,fQ.1.2.2.1,(1:Int),())=some Su/\(Su.2.1.length=fQ.1.2.2.1.length/\fQ.1.2.2.1.length=fQ.1.2.2.1.length)/\0=0/\fR.1.1.length=fR.1.1.length/\ ∃(Xj:(Int×PUnit)×PUnit),Lh.fn (fR.1.1,Su.1.1,())=some Xj/\0=0/\Lo.1.1.length=Lo.1.1.length/\ ∃(y24:(Int×PUnit)×List Int×PUnit),Zg.fn (Lo.1.1,Xj.1.1,())=some y24/\(y24.2.1.length=Lo.1.1.length/\Lo.1.1.length=Lo.1.1.length)/\Br (decide (y24.1.1<(0:Int))) (P false) (∃(y25:Bool),Bo.fn (List.take Jc.1.1.length (List.drop 0 Jc.1.1),Md.1,())=some y25/\Br (!y25) (P false) (Br (Jc.1.2.1 !=Md.2.1) (P false) (Br (Jc.1.2.2.1 !=Md.2.2.1) (P false) (0=0/\Jc.1.1.length=Jc.1.1.length/\ ∃(y26:(Int×PUnit)×List Int×PUnit),Zg.fn (Jc.1.1,(1:Int),())=some y26/\(y26.2.1.length=Jc.1.1.length/\Jc.1.1.length=Jc.1.1.length)/\ ∃(y27:Int),fD.fn (List.take Jc.1.1.length (List.drop 0 y26.2.1),(1:Int),())=some y27/\Br (decide (y27<(0:Int))) (P false) (Br (y27 !=y26.1.1) (P false) (∃(y28:vP),Pr.fn (p.1,p.2.1,p.2.2.1,())=some y28/\ ∃(y29:oB),bd.fn (ts,())=some y29/\ ∃(y30:(List Int×PUnit)×PUnit),Tf.fn (s,())=some y30/\ ∃(y31:(List Int×Int×Int×PUnit)×PUnit),c7.fn (y28.1.1,y28.1.2.1,List.take y28.1.2.2.1.length (List.drop 0 y28.1.2.2.1),List.take y29.1.1.length (List.drop 0 y29.1.1),List.take y30.1.1.length (List.drop 0 y30.1.1),d,())=some y31/\ ∃(y32:Bool),Bo.fn (List.take y31.1.1.length (List.drop 0 y31.1.1),Md.1,())=some y32/\Br (!y32) (P false) (Br (y31.1.2.1 !=Md.2.1) (P false) (Br (y31.1.2.2.1 !=Md.2.2.1) (P false) (∃(y33:Int),fD.fn (List.take Jc.1.1.length (List.drop 0 y26.2.1),(1:Int),())=some y33/\Br (decide (y33<(0:Int))) (P false) (Br (y33 !=y26.1.1) (P false) (P true)))))))))))))))))))))=fnW Ei (look [(13,yM),(14,pV),(35,ew),(36,c7),(16,Pc.b yN Pr),(17,Pc.b uV bd),(18,Pc.b gA Tf),(22,Bo),(20,yK),(21,pQ),(29,Sq),(30,Lh),(31,Zg),(32,fD)]) mr Tryz.f8 (p,ts,s,d,()) P:=by kernel_rfl
theorem SX {nx:List Int->Int->List Int} {low:List Int->Int} {one ls:List Int} {depth:Int} {B:Nat} : ∀(f:Nat) (s w:List Int) (v:DS),w.length+f<=B+1->v.2.2.1.length<=B->(vN nx low one ls depth f s w v).2.2.1.length<=B
 |0,_,_,_,_,h=>h
 |f+1,s,w,v,hw,h=>by
  unfold vN
  split
  ·exact h
  ·split
   ·exact h
   ·split
    ·split
     ·show (if v.2.1=0 then w else v.2.2.1).length<=B
      split
      ·omega
      ·exact h
     ·exact h
    ·refine dO (R:= λ(b:DS)=>b.2.2.1.length<=B) _ _ h λb l _ hb=>?_
     split
     ·exact hb
     ·exact SX f _ _ _ (by rw [Ax,Bw];omega) hb
theorem ND (p:PP) (ts:List TT) (s:List Int) (d:Int):short (kI p ts s d).1:=by
 unfold kI AA short
 split
 ·rename_i hc
  obtain ⟨_,h0,h30⟩:=mU.1 hc
  have hw:(ui p ts s d false).2.2.1.length<=40:=SX ((d-(0:Nat)).toNat+1) s [] (0,0,[],false,false,()) (by simp only [Gc];omega) (by simp)
  split
  ·simp
  ·split
   ·simp
   ·show (ui p ts s d false).2.2.1.length<=4294967296
    omega
 ·simp
theorem Ab6 (p:PP) (ts:List TT) (s:List Int) (d:Int) (h:Eh p/\Gv ts/\short s):fnW Ei (look [(65,pO),(66,bu)]) ew Tryz.f35 (p,ts,s,d,()) (λ(z:List Int×Int×Int×Unit)=>z=kI p ts s d):=by
 refine Eq.mp (Acp p ts s d _) ⟨ao p ts s d,Ab h,?_⟩
 unfold kI
 refine Br.of (λhb=>?_) λhb=>?_
 ·rw [Ag (Es hb)]
  rfl
 ·have hc:ao p ts s d=true:=by simpa using hb
  rw [Ab hc]
  refine ⟨ui p ts s d false,Ab (mU.1 hc),?_⟩
  unfold AA
  refine Br.of (λha=>?_) λha=>?_
  ·rw [Ab ha]
  ·rw [Ag (by rw [ha];simp)]
   refine Br.of (λhm=>?_) λhm=>?_
   ·rw [Ab (eq_of_beq hm)]
   ·rw [Ag (by simpa using hm)]
theorem BV:Sound Tryz.prog 35 ew:=
 Sound.Ev Db (Av PB (Av xf Bh)) mixed Tryz.func35 (by kernel_rfl) (by kernel_rfl) λx h=>Ab6 x.1 x.2.1 x.2.2.1 x.2.2.2.1 h
theorem Ab0 (n:Int) (str:ByteArray) (g:List (List Int)) (ts:List TT) (s:List Int) (d:Int) (h:Eh (n,str,g,())/\Gv ts/\short s):
  fnMW Tk (look [(51,Yf),(67,bm),(68,Vn)]) c7 Tryz.f36 (n,str,g,ts,s,d,()) (λ(z:(List Int×Int×Int×Unit)×Unit)=>z=(((kI (n,str,g,()) ts s d).1,(kI (n,str,g,()) ts s d).2.1,(kI (n,str,g,()) ts s d).2.2.1,()),())):=by
 refine Eq.mp (Acj n str g ts s d _) ?_
 unfold kI
 by_cases hh:Ny (n,str,g,()) ts s=true
 ·refine ⟨(some (Fb ts),true,()),(Ab h).trans (Mc some (Ab hh)),λhb=>by simp at hb,λ_=>⟨pw d,Ab trivial,?_⟩⟩
  have hc:ao (n,str,g,()) ts s d=pw d:=by unfold ao;rw [hh,bA]
  refine Br.of (λhd=>?_) λhd=>?_
  ·rw [Ag (by rw [hc];exact Es hd)]
   rfl
  ·have hd:ao (n,str,g,()) ts s d=true:=by rw [hc];simpa using hd
   obtain ⟨_,h0,h30⟩:=mU.1 hd
   have hs:=Af4 (n,str,g,()) ts s d false
   have hm0:=hs.ok.m0
   rw [Ab hd]
   refine ⟨_,Ab ⟨ts,rfl,hh,h0,h30⟩,?_⟩
   show Br (gr (n,str,g,()) (some (Fb ts)) s d false).2.2.2.2 _ _
   unfold AA
   rw [hs.a]
   refine Br.of (λha=>?_) λha=>?_
   ·rw [Ab ha,<-hs.n]
    exact ⟨⟨⟨rfl,rfl⟩,rfl⟩,rfl⟩
   ·rw [Ag (by rw [ha];simp)]
    show Br (decide ((gr (n,str,g,()) (some (Fb ts)) s d false).2.2.2.1>0)) _ _
    rw [hs.m]
    refine Br.dec (λhm=>?_) λhm=>?_
    ·rw [Ag (by omega)]
     have Tq:(gr (n,str,g,()) (some (Fb ts)) s d false).1=true:=by
      rw [hs.stop,LS,hs.all,Fa (by omega)]
      simp
     have hw:=hs.found Tq ha
     rw [<-hw,<-hs.n]
     dsimp only
     rw [Cf]
    ·rw [Ab (by omega),<-hs.n]
     exact ⟨⟨⟨rfl,rfl⟩,rfl⟩,rfl⟩
 ·have hc: ¬ao (n,str,g,()) ts s d=true:= λhc=>hh (mU.1 hc).1
  rw [Ag hc]
  exact ⟨(none,false,()),(Ab h).trans (Mc some (Ag hh)),λ_=>rfl,λhb=>by simp at hb⟩
theorem BP:By Tryz.prog 36 c7:=
 By.cr Rx (Av vf (Av x7 (En sj Bh))) mixed Tryz.func36 (by kernel_rfl) (by kernel_rfl) λx h=>Ab0 x.1 x.2.1 x.2.2.1 x.2.2.2.1 x.2.2.2.2.1 x.2.2.2.2.2.1 h
theorem Aes (p:PP) (ts:List TT) (s:List Int) (d:Int) (h:Eh p/\Gv ts/\short s):fnW Ei (look [(13,yM),(14,pV),(35,ew),(36,c7),(16,Pc.b yN Pr),(17,Pc.b uV bd),(18,Pc.b gA Tf),(22,Bo),(20,yK),(21,pQ),(29,Sq),(30,Lh),(31,Zg),(32,fD)]) mr Tryz.f8 (p,ts,s,d,()) (λ(z:Bool)=>z=true):=by
 have h0:Eh (p.1,p.2.1,p.2.2.1,()):=h.1
 have h1:Gv ts:=h.2.1
 have h2:short s:=h.2.2
 refine Eq.mp (Afk p ts s d _) ?_
 refine Br.dec (λ_=>rfl) λAxw=>?_
 refine ⟨_,Ab ⟨h0,IA⟩,Br.dec (λ_=>rfl) λAt9=>?_⟩
 have Aec:(((Eb p.2.2.1:Nat):Nat):Int)<=(1048576)-(aI (p.1,p.2.1,p.2.2.1,()) (1048576))/\roomy (aI (p.1,p.2.1,p.2.2.1,()) (1048576)):=Abp IA At9
 have Az1:=Aec.1
 have Ayf:0<=aI (p.1,p.2.1,p.2.2.1,()) (1048576)/\aI (p.1,p.2.1,p.2.2.1,()) (1048576)<=4294967296:=Aec.2
 refine ⟨_,Ab ⟨h1,Aec.2⟩,Br.dec (λ_=>rfl) λAno=>?_⟩
 have Ah6:(((Lk ts:Nat):Nat):Int)<=(aI (p.1,p.2.1,p.2.2.1,()) (1048576))-(bV ts (aI (p.1,p.2.1,p.2.2.1,()) (1048576)))/\roomy (bV ts (aI (p.1,p.2.1,p.2.2.1,()) (1048576))):=WJ Aec.2 Ano
 have Avz:=Ah6.1
 have Avs:0<=bV ts (aI (p.1,p.2.1,p.2.2.1,()) (1048576))/\bV ts (aI (p.1,p.2.1,p.2.2.1,()) (1048576))<=4294967296:=Ah6.2
 have l0:low (1+(Eb p.2.2.1:Nat)):=⟨by omega,by omega⟩
 have l1:low (1+(Eb p.2.2.1:Nat)+(Lk ts:Nat)):=⟨by omega,by omega⟩
 have l2:low (1+(Eb p.2.2.1:Nat)+(Lk ts:Nat)+(s.length:Nat)):=⟨by omega,by omega⟩
 refine ⟨_,Ab h0,_,Ab h1,_,Ab h2,?_⟩
 simp only [Cf]
 refine ⟨_,Ab ⟨h0,h1,h2⟩,_,Ab h0,_,Ab h1,_,Ab h2,?_⟩
 have XN:short ((kI (p.1,p.2.1,p.2.2.1,()) ts s d).1):=ND _ _ _ _
 generalize he0:(kI (p.1,p.2.1,p.2.2.1,()) ts s d).1=g0 at XN
 generalize he1:(kI (p.1,p.2.1,p.2.2.1,()) ts s d).2.1=g1
 generalize he2:(kI (p.1,p.2.1,p.2.2.1,()) ts s d).2.2.1=g2
 refine ⟨_,Ab ⟨h0,h1,h2⟩,?_⟩
 simp only [he0,he1,he2]
 refine ⟨_,Ab XN,⟨λhe=>absurd (Sn _) (Es he),λ_=>?_⟩⟩
 refine ⟨λhe=>dV he,λ_=>?_⟩
 refine ⟨λhe=>dV he,λ_=>?_⟩
 refine ⟨_,Ab h0,_,Ab h0,⟨λhe=>absurd (NC _) (Es he),λ_=>?_⟩⟩
 refine ⟨_,Ab h1,?_⟩
 refine ⟨_,Ab h1,⟨λhe=>absurd (GN _) (Es he),λ_=>?_⟩⟩
 refine ⟨_,Ab h2,?_⟩
 refine ⟨_,Ab h2,⟨λhe=>absurd (Sn _) (Es he),λ_=>?_⟩⟩
 refine ⟨trivial,trivial,_,Ab ⟨h0.2,sD,l0⟩,⟨dt _ _,trivial⟩,trivial,trivial,_,Ab ⟨h1,l0,l1⟩,trivial,trivial,_,Ab ⟨h2,l1⟩,⟨Vf _ _,trivial⟩,Br.dec (λhn=>absurd l2.1 (Int.not_le.2 hn)) λ_=>?_⟩
 refine ⟨_,Ab XN,⟨λhe=>absurd (Sn _) (Es he),λ_=>?_⟩⟩
 refine ⟨λhe=>dV he,λ_=>?_⟩
 refine ⟨λhe=>dV he,λ_=>?_⟩
 refine ⟨trivial,trivial,_,Ab ⟨XN,sD⟩,⟨Vf _ _,trivial⟩,?_⟩
 simp only [KH]
 have hm0: ∀k,short (Ky k g0.length):= λk=>by unfold short at*;rw [Vf];exact XN
 refine ⟨_,Ab ⟨hm0 _,sD⟩,?_⟩
 simp only [lj]
 refine Br.dec (λhn=>by omega) λ_=>⟨λhe=>by simp at he,λ_=>?_⟩
 refine ⟨_,Ab h0,_,Ab h1,_,Ab h2,?_⟩
 refine ⟨_,Ab ⟨h0,h1,h2⟩,?_⟩
 simp only [he0,he1,he2]
 refine ⟨_,Ab XN,⟨λhe=>absurd (Sn _) (Es he),λ_=>?_⟩⟩
 refine ⟨λhe=>dV he,λ_=>?_⟩
 refine ⟨λhe=>dV he,λ_=>?_⟩
 refine ⟨_,Ab ⟨hm0 _,sD⟩,?_⟩
 simp only [lj]
 exact Br.dec (λhn=>by omega) λ_=>⟨λhe=>by simp at he,λ_=>trivial⟩
theorem IM:Sound Tryz.prog 8 mr:=
 Sound.Ev Db (Av WC (Av PM (Av BV (En BP (tt WD sm (tt PN IU (tt qd mB (Av q8 (Av VZ (Av PE (En qb (En BR (En jo (Av IL Bh)))))))))))))) mixed Tryz.func8 (by kernel_rfl) (by kernel_rfl) λx h=>Aes x.1 x.2.1 x.2.2.1 x.2.2.2.1 h
end Go.Proofs.YtfolipnappekaaaGreat
