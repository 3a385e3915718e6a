/-
  Part 45 of the proof that the statement FnExactProvesNoSolutionWithin holds.
-/
import Derived.Test.YtfolipnappekaaaGreatCProvesNoSolutionWithin43
namespace Go.Proofs.YtfolipnappekaaaGreat
open Go.RowKit
noncomputable abbrev mj:Spec:=Cg (.pair (.ptr l6) (.pair tI (.pair tL .unit))) (.pair tL (.pair tI .unit)) true false (λx=> ∃N L,Qm N L x.1.1 x.1.2.2.1 x.1.2.1 x.2.1 x.2.2.1) (λx=>Jp x.1.2.1 (x.1.1-x.2.1).toNat x.2.1.toNat x.2.2.1)
noncomputable abbrev Adi:MSpec:= {ptr:=some (153,3),Eh:= [none,none],ins:= [(false, .Dm tI),(false, .Al tO sd false),(false, .Al tO sd false),(false, .Dm tI),(false, .Dm tL)],Ct:=true,Di:= [none,none],outs:= [.Dm tI, .Al tO sd false, .Al tO sd false, .Dm tL, .Dm tI],fn:= λ_=>none}
noncomputable abbrev fQ:MSpec:=fG Adi (λx=> ∃N L,Qm N L x.1 x.2.2.1 x.2.1 x.2.2.2.1 x.2.2.2.2.1)
 (λx=>((x.1,x.2.1,x.2.2.1,(Jp x.2.1 (x.1-x.2.2.2.1).toNat x.2.2.2.1.toNat x.2.2.2.2.1).1,(Jp x.2.1 (x.1-x.2.2.2.1).toNat x.2.2.2.1.toNat x.2.2.2.2.1).2.1,()),()))
structure ZR (N L:Nat) (n:Int) (G T:Aw) (l:Int) (p:List Int):Prop where
 n1:1<=N
 n2:N<=20
 en:n=N
 el:l=L
 lt:L<N
 part:Part N L (G,T)
 pm:Pm N p
 fx:Fx L p
 gn:Gn N (G.getD L []) p
 gl:(G.getD L []).length<=401
noncomputable abbrev TA:MSpec:= {ptr:=some (153,3),Eh:= [none,none],ins:= [(false, .Dm tI),(false, .Al tO sd false),(false, .Al tO sd false),(false, .Dm tI),(false, .Dm tO)],Ct:=false,Di:= [],outs:= [.Dm tI, .Al tO sd false, .Al tO sd false],fn:= λ_=>none}
noncomputable abbrev kF (m:Nat):MSpec:=fG TA (λx=>(∃N L q,x.2.2.2.2.1=some q/\Qm N L x.1 x.2.2.1 x.2.1 x.2.2.2.1 q)/\KI x.1.toNat x.2.2.2.1.toNat<m)
 (λx=>((x.1,(fZ x.1.toNat 1000 x.2.2.2.1.toNat (x.2.2.2.2.1.getD []) (x.2.2.1,x.2.1)).2,(fZ x.1.toNat 1000 x.2.2.2.1.toNat (x.2.2.2.2.1.getD []) (x.2.2.1,x.2.1)).1,()),()))
noncomputable abbrev aW (m:Nat):MSpec:=fG TA (λx=>(∃N L q,x.2.2.2.2.1=some q/\ZR N L x.1 x.2.2.1 x.2.1 x.2.2.2.1 q)/\jo x.1.toNat x.2.2.2.1.toNat (x.2.2.1,x.2.1)<m)
 (λx=>((x.1,(cv x.1.toNat 1000 x.2.2.2.1.toNat (x.2.2.2.2.1.getD []) (x.2.2.1,x.2.1)).2,(cv x.1.toNat 1000 x.2.2.2.1.toNat (x.2.2.2.2.1.getD []) (x.2.2.1,x.2.1)).1,()),()))
noncomputable abbrev xg:MSpec:=fG TA (λx=> ∃N L q,x.2.2.2.2.1=some q/\Qm N L x.1 x.2.2.1 x.2.1 x.2.2.2.1 q)
 (λx=>((x.1,(fZ x.1.toNat 1000 x.2.2.2.1.toNat (x.2.2.2.2.1.getD []) (x.2.2.1,x.2.1)).2,(fZ x.1.toNat 1000 x.2.2.2.1.toNat (x.2.2.2.2.1.getD []) (x.2.2.1,x.2.1)).1,()),()))
theorem tM (p q:List Int) (P:List Int->Prop):(0=0/\0=([]:List Int).length/\Bk (λ(v3:Int×List Int×PUnit) (k4:Int×List Int×PUnit->Prop)=>Br (decide (v3.1<(↑p.length:Int))) (∃(y5:Int),idx p v3.1=some y5/\ ∃(y6:Int),idx q y5=some y6/\0=0/\v3.2.1.length=v3.2.1.length/\v3.2.1.length+(List.take 1 (List.drop 0 [y6])).length<=Be/\0=0/\(v3.2.1++List.take 1 (List.drop 0 [y6])).length=(v3.2.1++List.take 1 (List.drop 0 [y6])).length/\k4 (IntKind.i64.wrap (v3.1+(1:Int)),v3.2.1++List.take 1 (List.drop 0 [y6]),())) (P (List.take v3.2.1.length (List.drop 0 v3.2.1)))) ((0:Int),[],PUnit.unit))=fnW Cd (look []) Ix Tryz.f156 (p,q,()) P:=by kernel_rfl
theorem Aew (c:Int×List (List (Option (List Int)))×List (List (Option (List Int)))×Unit) (l:Int) (p:List Int) (P:(List Int×Int×Unit)->Prop):(Bk (λ(v4:List Int×Int×PUnit) (k5:List Int×Int×PUnit->Prop)=>Br (decide (v4.2.1<c.1)) (∃(y6:List (Option (List Int))),idx c.2.1 v4.2.1=some y6/\ ∃(y7:Int),idx v4.1 v4.2.1=some y7/\ ∃(y8:Option (List Int)),idx y6 y7=some y8/\Br ((↑(y8.getD []).length:Int)==(0:Int)) (P (v4.1,v4.2.1,())) (∃(y9:List Int),Co.fn (y8.getD [],())=some y9/\ ∃(Iu:List Int),Ie.fn (v4.1,y9,())=some Iu/\k5 (Iu,IntKind.i64.wrap (v4.2.1+(1:Int)),()))) (P (v4.1,c.1,()))) (p,l,PUnit.unit))=fnW Rr (look [(76,Co),(156,Ie)]) mj Tryz.f144 (c,l,p,()) P:=by kernel_rfl
abbrev BK:Type:=List Int×Int×List (List (Option (List Int)))×List (List (Option (List Int)))×Int×PUnit
theorem ZP (n:Int) (T G:List (List (Option (List Int)))) (l:Int) (p:List Int) (P:(Int×List (List (Option (List Int)))×List (List (Option (List Int)))×List Int×Int×Unit)×Unit->Prop):(0=0/\T.length=T.length/\0=0/\G.length=G.length/\Bk (λ(v6:BK) (k7:BK->Prop)=>Br (decide (v6.2.1<v6.2.2.2.2.1)) (((0:Int)<=v6.2.1/\v6.2.1<(↑v6.2.2.1.length:Int))/\ ∃(y8:Int),idx v6.1 v6.2.1=some y8/\((0:Int)<=y8/\y8<(↑(v6.2.2.1.getD (0+v6.2.1.toNat) []).length:Int))/\Br ((↑(((v6.2.2.1.getD (0+v6.2.1.toNat) []).getD y8.toNat (none:Option (List Int))).getD []).length:Int)==(0:Int)) ((0=0/\v6.2.2.1.length=v6.2.2.1.length)/\(0=0/\v6.2.2.2.1.length=v6.2.2.2.1.length)/\P ((v6.2.2.2.2.1,v6.2.2.1,v6.2.2.2.1,v6.1,v6.2.1,()),())) (∃(y9:List Int),Co.fn (((v6.2.2.1.getD (0+v6.2.1.toNat) []).getD y8.toNat (none:Option (List Int))).getD [],())=some y9/\ ∃(Iu:List Int),Ie.fn (v6.1,y9,())=some Iu/\0=0/\v6.2.2.1.length=v6.2.2.1.length/\0=0/\v6.2.2.2.1.length=v6.2.2.2.1.length/\k7 (Iu,IntKind.i64.wrap (v6.2.1+(1:Int)),v6.2.2.1,v6.2.2.2.1,v6.2.2.2.2.1,()))) ((0=0/\v6.2.2.1.length=v6.2.2.1.length)/\(0=0/\v6.2.2.2.1.length=v6.2.2.2.1.length)/\P ((v6.2.2.2.2.1,v6.2.2.1,v6.2.2.2.1,v6.1,v6.2.2.2.2.1,()),()))) (p,l,T,G,n,PUnit.unit))=fnMW Rr (look [(76,Co),(156,Ie)]) fQ Tryz.f144 (n,T,G,l,p,()) P:=by kernel_rfl
abbrev xF:Type:=Int×List (Option (List Int))×List (List (Option (List Int)))×List (List (Option (List Int)))×Int×PUnit
abbrev VB:Type:=(Int×List (List (Option (List Int)))×List (List (Option (List Int)))×List Int×Int×PUnit)×PUnit
abbrev Gv (y7:VB) (l:Int) (p:Option (List Int)) (n:Int):Prop:=0=0/\(y7.1.2.2.1.getD (0+l.toNat) []).length=(y7.1.2.2.1.getD (0+l.toNat) []).length/\(y7.1.2.2.1.getD (0+l.toNat) []).length+(List.take 1 (List.drop 0 [p])).length<=Be/\((0:Int)<=l/\l<(↑y7.1.2.2.1.length:Int))/\0=0/\(y7.1.2.2.1.getD (0+l.toNat) []++List.take 1 (List.drop 0 [p])).length=(y7.1.2.2.1.getD (0+l.toNat) []++List.take 1 (List.drop 0 [p])).length/\0+l.toNat=0+l.toNat/\ [(0,y7.1.2.2.1.length),(0,y7.1.2.2.1.length),(0,y7.1.2.1.length),(0,y7.1.2.2.1.length)]= [(0,y7.1.2.2.1.length),(0,y7.1.2.2.1.length),(0,y7.1.2.1.length),(0,y7.1.2.2.1.length)]/\(l,p,y7.1.2.2.2.1,y7.1.2.2.2.2.1,l,n,decide (l>=n),l,p,y7.1.2.2.2.1,y7.1.2.2.2.2.1,y7.1.2.2.2.2.1,y7.1.1,y7.1.2.2.2.2.1==y7.1.1,l,l,0+l.toNat,p,List.take 1 (List.drop 0 [p]),0+l.toNat,y7.1.2.1,y7.1.2.2.1.set (0+l.toNat) (y7.1.2.2.1.getD (0+l.toNat) []++List.take 1 (List.drop 0 [p])),y7.1.1,())=(l,p,y7.1.2.2.2.1,y7.1.2.2.2.2.1,l,n,decide (l>=n),l,p,y7.1.2.2.2.1,y7.1.2.2.2.2.1,y7.1.2.2.2.2.1,y7.1.1,y7.1.2.2.2.2.1==y7.1.1,l,l,0+l.toNat,p,List.take 1 (List.drop 0 [p]),0+l.toNat,y7.1.2.1,y7.1.2.2.1.set (0+l.toNat) (y7.1.2.2.1.getD (0+l.toNat) []++List.take 1 (List.drop 0 [p])),y7.1.1,PUnit.unit)
theorem Aix {m:Nat} (n:Int) (T G:List (List (Option (List Int)))) (l:Int) (p:Option (List Int)) (P:(Int×List (List (Option (List Int)))×List (List (Option (List Int)))×Unit)×Unit->Prop):(Br (decide (l>=n)) ((0=0/\T.length=T.length)/\(0=0/\G.length=G.length)/\P ((n,T,G,()),())) (0=0/\T.length=T.length/\0=0/\G.length=G.length/\ ∃(y7:VB),fQ.fn (n,T,G,l,p.getD [],())=some y7/\Br (y7.1.2.2.2.2.1==y7.1.1) ((0=0/\y7.1.2.1.length=y7.1.2.1.length)/\(0=0/\y7.1.2.2.1.length=y7.1.2.2.1.length)/\P ((y7.1.1,y7.1.2.1,y7.1.2.2.1,()),())) (((0:Int)<=l/\l<(↑y7.1.2.2.1.length:Int))/\0=0/\(y7.1.2.2.1.getD (0+l.toNat) []).length=(y7.1.2.2.1.getD (0+l.toNat) []).length/\(y7.1.2.2.1.getD (0+l.toNat) []).length+(List.take 1 (List.drop 0 [p])).length<=Be/\((0:Int)<=l/\l<(↑y7.1.2.2.1.length:Int))/\0=0/\(y7.1.2.2.1.getD (0+l.toNat) []++List.take 1 (List.drop 0 [p])).length=(y7.1.2.2.1.getD (0+l.toNat) []++List.take 1 (List.drop 0 [p])).length/\0+l.toNat=0+l.toNat/\(0=0/\0=([]:List Int).length/\0=0/\y7.1.2.1.length=y7.1.2.1.length/\0=0/\y7.1.2.2.1.length=(y7.1.2.2.1.set (0+l.toNat) (y7.1.2.2.1.getD (0+l.toNat) []++List.take 1 (List.drop 0 [p]))).length/\Bk (λ(v8:xF) (k9:xF->Prop)=>Br (decide (v8.1<v8.2.2.2.2.1)) (((0:Int)<=l/\l<(↑v8.2.2.1.length:Int))/\((0:Int)<=v8.1/\v8.1<(↑(v8.2.2.1.getD (0+l.toNat) []).length:Int))/\Br (decide ((↑(((v8.2.2.1.getD (0+l.toNat) []).getD v8.1.toNat (none:Option (List Int))).getD []).length:Int)>(0:Int))) (((0:Int)<=l/\l<(↑v8.2.2.1.length:Int))/\((0:Int)<=v8.1/\v8.1<(↑(v8.2.2.1.getD (0+l.toNat) []).length:Int))/\0=0/\v8.2.1.length=v8.2.1.length/\v8.2.1.length+(List.take 1 (List.drop 0 [(v8.2.2.1.getD (0+l.toNat) []).getD v8.1.toNat none])).length<=Be/\0=0/\(v8.2.1++List.take 1 (List.drop 0 [(v8.2.2.1.getD (0+l.toNat) []).getD v8.1.toNat none])).length=(v8.2.1++List.take 1 (List.drop 0 [(v8.2.2.1.getD (0+l.toNat) []).getD v8.1.toNat none])).length/\0=0/\v8.2.2.1.length=v8.2.2.1.length/\0=0/\v8.2.2.2.1.length=v8.2.2.2.1.length/\k9 (IntKind.i64.wrap (v8.1+(1:Int)),v8.2.1++List.take 1 (List.drop 0 [(v8.2.2.1.getD (0+l.toNat) []).getD v8.1.toNat none]),v8.2.2.1,v8.2.2.2.1,v8.2.2.2.2.1,())) (0=0/\v8.2.1.length=v8.2.1.length/\0=0/\v8.2.2.1.length=v8.2.2.1.length/\0=0/\v8.2.2.2.1.length=v8.2.2.2.1.length/\k9 (IntKind.i64.wrap (v8.1+(1:Int)),v8.2.1,v8.2.2.1,v8.2.2.2.1,v8.2.2.2.2.1,()))) (0=0/\v8.2.1.length=v8.2.1.length/\0=0/\v8.2.2.1.length=v8.2.2.1.length/\0=0/\v8.2.2.2.1.length=v8.2.2.2.1.length/\Bk (λ(v10:xF) (k11:xF->Prop)=>Br (decide (v10.1<(↑v10.2.1.length:Int))) (((0:Int)<=v10.1/\v10.1<(↑v10.2.1.length:Int))/\ ∃(fW:Option (List Int)),v10.2.1[0+v10.1.toNat]?=some fW/\ ∃(Iv:Option (List Int)),Fm.fn (fW.getD [],p.getD [],())=some Iv/\0=0/\v10.2.2.1.length=v10.2.2.1.length/\0=0/\v10.2.2.2.1.length=v10.2.2.2.1.length/\ ∃(Ga:(Int×List (List (Option (List Int)))×List (List (Option (List Int)))×PUnit)×PUnit),(aW m).fn (v10.2.2.2.2.1,v10.2.2.1,v10.2.2.2.1,l,Iv,())=some Ga/\0=0/\v10.2.1.length=v10.2.1.length/\0=0/\Ga.1.2.1.length=Ga.1.2.1.length/\0=0/\Ga.1.2.2.1.length=Ga.1.2.2.1.length/\k11 (IntKind.i64.wrap (v10.1+(1:Int)),v10.2.1,Ga.1.2.1,Ga.1.2.2.1,Ga.1.1,())) ((0=0/\v10.2.2.1.length=v10.2.2.1.length)/\(0=0/\v10.2.2.2.1.length=v10.2.2.2.1.length)/\P ((v10.2.2.2.2.1,v10.2.2.1,v10.2.2.2.1,()),()))) ((0:Int),v8.2.1,v8.2.2.1,v8.2.2.2.1,v8.2.2.2.2.1,PUnit.unit))) ((0:Int),[],y7.1.2.1,y7.1.2.2.1.set (0+l.toNat) (y7.1.2.2.1.getD (0+l.toNat) []++List.take 1 (List.drop 0 [p])),y7.1.1,PUnit.unit))/\(((((0:Int)<=l/\l<(↑y7.1.2.2.1.length:Int))/\((Gv y7 l p n))/\(Gv y7 l p n))/\((0:Int)<=l/\l<(↑y7.1.2.2.1.length:Int))/\(Gv y7 l p n))/\((0:Int)<=l/\l<(↑y7.1.2.2.1.length:Int))/\(Gv y7 l p n))/\(((((0:Int)<=l/\l<(↑y7.1.2.2.1.length:Int))/\((Gv y7 l p n))/\(Gv y7 l p n))/\((0:Int)<=l/\l<(↑y7.1.2.2.1.length:Int))/\(Gv y7 l p n))/\(((0:Int)<=l/\l<(↑y7.1.2.2.1.length:Int))/\(((Gv y7 l p n))/\(Gv y7 l p n))/\(((Gv y7 l p n))/\((Gv y7 l p n))/\(Gv y7 l p n))/\((Gv y7 l p n))/\((Gv y7 l p n))/\(Gv y7 l p n))/\(((0:Int)<=l/\l<(↑y7.1.2.2.1.length:Int))/\(Gv y7 l p n))/\((0:Int)<=l/\l<(↑y7.1.2.2.1.length:Int))/\((Gv y7 l p n))/\((Gv y7 l p n))/\(Gv y7 l p n))/\(((0:Int)<=l/\l<(↑y7.1.2.2.1.length:Int))/\(Gv y7 l p n))/\(((0:Int)<=l/\l<(↑y7.1.2.2.1.length:Int))/\(Gv y7 l p n))/\((0:Int)<=l/\l<(↑y7.1.2.2.1.length:Int))/\((Gv y7 l p n))/\((Gv y7 l p n))/\(Gv y7 l p n))))=fnMW (VL [rX+46]) (look [(144,fQ),(156,Fm),(157,Ql.m (aW m))]) (kF (m+1)) Tryz.f146 (n,T,G,l,p,()) P:=by kernel_rfl
abbrev UZ:Type:=(Int×List (List (Option (List Int)))×List (List (Option (List Int)))×PUnit)×PUnit
abbrev VC:Type:=Int×List (List (Option (List Int)))×List (List (Option (List Int)))×Int×PUnit
theorem Aiy {m:Nat} (n:Int) (T G:List (List (Option (List Int)))) (l:Int) (p:Option (List Int)) (P:(Int×List (List (Option (List Int)))×List (List (Option (List Int)))×Unit)×Unit->Prop):(((0:Int)<=l/\l<(↑T.length:Int))/\ ∃(y7:Int),idx (p.getD []) l=some y7/\((0:Int)<=y7/\y7<(↑(T.getD (0+l.toNat) []).length:Int))/\Br (decide ((↑(((T.getD (0+l.toNat) []).getD y7.toNat (none:Option (List Int))).getD []).length:Int)>(0:Int))) (∃(y8:List Int),Co.fn (((T.getD (0+l.toNat) []).getD y7.toNat (none:Option (List Int))).getD [],())=some y8/\ ∃(y9:Option (List Int)),Fm.fn (p.getD [],y8,())=some y9/\0=0/\T.length=T.length/\0=0/\G.length=G.length/\ ∃(Iu:UZ),(kF m).fn (n,T,G,IntKind.i64.wrap (l+(1:Int)),y9,())=some Iu/\(0=0/\Iu.1.2.1.length=Iu.1.2.1.length)/\(0=0/\Iu.1.2.2.1.length=Iu.1.2.2.1.length)/\P ((Iu.1.1,Iu.1.2.1,Iu.1.2.2.1,()),())) (((0:Int)<=l/\l<(↑T.length:Int))/\ ∃(y8:Int),idx (p.getD []) l=some y8/\((0:Int)<=y8/\y8<(↑(T.getD (0+l.toNat) []).length:Int))/\0=0/\T.length=(T.set (0+l.toNat) ((T.getD (0+l.toNat) []).set y8.toNat p)).length/\0=0/\G.length=G.length/\Bk (λ(v9:VC) (k10:VC->Prop)=>((0:Int)<=l/\l<(↑v9.2.2.1.length:Int))/\Br (decide (v9.1<(↑(v9.2.2.1.getD (0+l.toNat) []).length:Int))) (((0:Int)<=l/\l<(↑v9.2.2.1.length:Int))/\((0:Int)<=v9.1/\v9.1<(↑(v9.2.2.1.getD (0+l.toNat) []).length:Int))/\ ∃(ir:Option (List Int)),Fm.fn (p.getD [],((v9.2.2.1.getD (0+l.toNat) []).getD v9.1.toNat (none:Option (List Int))).getD [],())=some ir/\0=0/\v9.2.1.length=v9.2.1.length/\0=0/\v9.2.2.1.length=v9.2.2.1.length/\ ∃(fW:UZ),(aW m).fn (v9.2.2.2.1,v9.2.1,v9.2.2.1,l,ir,())=some fW/\0=0/\fW.1.2.1.length=fW.1.2.1.length/\0=0/\fW.1.2.2.1.length=fW.1.2.2.1.length/\k10 (IntKind.i64.wrap (v9.1+(1:Int)),fW.1.2.1,fW.1.2.2.1,fW.1.1,())) ((0=0/\v9.2.1.length=v9.2.1.length)/\(0=0/\v9.2.2.1.length=v9.2.2.1.length)/\P ((v9.2.2.2.1,v9.2.1,v9.2.2.1,()),()))) ((0:Int),T.set (0+l.toNat) ((T.getD (0+l.toNat) []).set y8.toNat p),G,n,PUnit.unit)))=fnMW Rr (look [(76,Co),(156,Fm),(146,Ql.m (kF m)),(157,Ql.m (aW m))]) (aW (m+1)) Tryz.f157 (n,T,G,l,p,()) P:=by kernel_rfl
theorem LN {p q:List Int} {j:Nat} (h:j<p.length):(Ab p q).take (j+1)=(Ab p q).take j++ [Ja q p[j]]:=by
 unfold Ab
 rw [List.take_succ_eq_append_getElem (by rw [List.length_map];exact h),List.getElem_map]
theorem sP (p q:List Int) (h:List.length p<=20/\Hz (List.length q) p):fnW Cd (look []) Ix Tryz.f156 (p,q,()) (λ(z:List Int)=>z=Ab p q):=by
 obtain ⟨h1,h2⟩:=h
 refine Eq.mp (tM p q _) ⟨rfl,rfl,?_⟩
 refine Ag p.length (λv=>v.1) (λj v=>v=((j:Int),(Ab p q).take j,())) rfl rfl ?_
 rintro j v K hj hi rfl hK
 dsimp only
 have hlen:((Ab p q).take j).length<=20:=by rw [List.length_take];unfold Ab;rw [List.length_map];omega
 refine Br.dec (λhl=>?_) λhl=>?_
 ·have hl:j<p.length:=by omega
  have hr:=h2 p[j] (List.getElem_mem hl)
  refine ⟨_,Aq hl,Ja q p[j],dS hr.1 hr.2,rfl,rfl,?_,rfl,rfl,?_⟩
  ·show ((Ab p q).take j).length+1<=4294967296
   omega
  ·rw [Ah (by omega)]
   refine hK hl _ rfl ?_
   rw [LN hl]
   rfl
 ·have:j=p.length:=by omega
  subst this
  rw [Bb,<-Kl p q,List.take_length]
theorem Zm:Sound Tryz.prog 156 Ix:=
 Sound.Cg Bi Aj mixed Tryz.func156 (by kernel_rfl) (by kernel_rfl) λx h=>sP x.1 x.2.1 h
theorem Yc:Sound Tryz.prog 156 Ie:=Sound.loose Zm
theorem Yd:Sound Tryz.prog 156 Fm:=Sound.toO Zm λx h=>⟨⟨h.1.2,h.2⟩,λe=>by
 have:=Kl x.1 x.2.1
 rw [e] at this
 have:=h.1.1
 simp only [List.length_nil] at*
 omega⟩
theorem ve {N L i:Nat} {G T:Aw} {p:List Int} (n2:N<=20) (v3:fX N (N-L) L (G,T)) (v2:T.length=N) (h1:L<=i) (hl:i<N) (h4:Pm N p) (h5:Fx i p):
  ∃o,idx p (i:Int)=some (ap p i:Int)/\T[i]?=some (T.getD i [])/\ap p i<(T.getD i []).length/\(T.getD i [])[ap p i]?=some o/\(T.getD i []).getD (ap p i) none=o/\
   (o=none->(o.getD []).length=0/\ ∀k,Jp T (k+1) i p=(p,(i:Int),()))/\
   (∀t,o=some t->(t.length≠0/\t.length<=20/\Hz t.length t)/\(p.length<=20/\Hz (Ai t).length p)/\Pm N (Ab p (Ai t))/\Fx (i+1) (Ab p (Ai t))/\ ∀k,Jp T (k+1) i p=Jp T k (i+1) (Ab p (Ai t))):=by
 have Gj:=px (N-L) L v3 i h1 (by omega)
 have hT:i<T.length:=by omega
 have hlen:(T.getD i []).length=N:=Gj.rl
 obtain ⟨a1,a2⟩:=h4.Vu hl
 have hg:(Ja p (i:Int)).toNat=ap p i:=rfl
 refine ⟨(T.getD i []).getD (ap p i) none,?_,?_,by omega,?_,rfl,λho=>?_,λt ho=>?_⟩
 ·rw [<-a1,Hx (by rw [h4.1];exact hl)];exact Aq (by rw [h4.1];exact hl)
 ·rw [List.getD_eq_getElem?_getD,List.getElem?_eq_getElem hT];rfl
 ·rw [List.getD_eq_getElem?_getD (l:=T.getD i []),List.getElem?_eq_getElem (by omega)];rfl
 ·refine ⟨by rw [ho];rfl,λk=>?_⟩
  simp only [Jp,hg,ho]
 ·obtain ⟨t1,t2,t3,t4⟩:=Gj.rt _ _ ho
  have hn1:=h4.n1
  refine ⟨⟨by rw [t1.1];omega,by rw [t1.1];exact n2,t1.2.row⟩,⟨by rw [h4.1];exact n2,by rw [jZ,t1.1];exact h4.row⟩,h4.comp t1.inv,Fx.div h4 t1 h5 t2 hl t3,λk=>?_⟩
  simp only [Jp,hg,ho]
theorem Ae3 (c:Int×List (List (Option (List Int)))×List (List (Option (List Int)))×Unit) (l:Int) (p:List Int) (h: ∃N L,Qm N L c.1 c.2.2.1 c.2.1 l p):
  fnW Rr (look [(76,Co),(156,Ie)]) mj Tryz.f144 (c,l,p,()) (λ(z:List Int×Int×Unit)=>z=Jp c.2.1 (c.1-l).toNat l.toNat p):=by
 obtain ⟨n,T,G,⟨⟩⟩:=c
 obtain ⟨N,L,h⟩:=h
 obtain ⟨n1,n2,en,el,hle,v,pm,fx⟩:=h
 dsimp only at en el v⊢
 subst en el
 refine Eq.mp (Aew ((N:Int),T,G,()) (L:Int) p _) ?_
 obtain ⟨v1,v2,v3,v4⟩:=v
 dsimp only at v1 v2
 refine ⟨λv=> ∃i:Nat,L<=i/\i<=N/\v.2.1=i/\Pm N v.1/\Fx i v.1/\Jp T (N-i) i v.1=Jp T (N-L) L p,λv=>N-v.2.1.toNat,⟨L,Nat.le_refl _,hle,rfl,pm,fx,rfl⟩,?_⟩
 rintro ⟨p',i',⟨⟩⟩ ⟨i,h1,h2,h3,h4,h5,h6⟩
 dsimp only at h3 h4 h5 h6⊢
 subst h3
 rw [show (((N:Int)-(L:Int)).toNat)=N-L by omega,show ((L:Int)).toNat=L by omega,<-h6]
 refine Br.dec (λhl=>?_) λhl=>?_
 ·have hl:i<N:=by omega
  obtain ⟨o,s1,s2,s3,s4,s5,s6,s7⟩:=ve n2 v3 v2 h1 hl h4 h5
  have hT:i<T.length:=by omega
  refine ⟨T.getD i [],by rw [Aq hT,<-s2,List.getElem?_eq_getElem hT],_,s1,o,by rw [Aq s3,<-s4,List.getElem?_eq_getElem s3],?_⟩
  rw [show N-i=(N-i-1)+1 by omega]
  cases o with
  |none=>
   rw [(s6 rfl).2]
   exact Br.of (λ_=>rfl) λhb=>by simp at hb
  |some t=>
   obtain ⟨⟨q1,q2⟩,q3,q4,q5,q6⟩:=s7 t rfl
   refine Br.of (λhb=>absurd (by simpa using hb) q1) λ_=>?_
   refine ⟨_,if_pos q2,_,if_pos q3,⟨i+1,by omega,by omega,Ah (by omega),q4,q5,?_⟩,?_⟩
   ·rw [q6,show N-(i+1)=N-i-1 by omega];rfl
   ·show N-(IntKind.i64.wrap ((i:Int)+1)).toNat<N-((i:Int)).toNat
    rw [Ah (by omega)]
    omega
 ·have:i=N:=by omega
  subst this
  rw [Nat.sub_self]
  rfl
theorem HK:Sound Tryz.prog 144 mj:=
 Sound.Cg jg (Ae Ub (Ae Yc Aj)) mixed Tryz.func144 (by kernel_rfl) (by kernel_rfl) λx h=>Ae3 x.1 x.2.1 x.2.2.1 h
theorem YV (n:Int) (T G:List (List (Option (List Int)))) (l:Int) (p:List Int) (h: ∃N L,Qm N L n G T l p):
  fnMW Rr (look [(76,Co),(156,Ie)]) fQ Tryz.f144 (n,T,G,l,p,()) (λ(z:(Int×List (List (Option (List Int)))×List (List (Option (List Int)))×List Int×Int×Unit)×Unit)=>z=((n,T,G,(Jp T (n-l).toNat l.toNat p).1,(Jp T (n-l).toNat l.toNat p).2.1,()),())):=by
 obtain ⟨N,L,h⟩:=h
 obtain ⟨n1,n2,en,el,hle,v,pm,fx⟩:=h
 subst en el
 refine Eq.mp (ZP (N:Int) T G (L:Int) p _) ⟨rfl,rfl,rfl,rfl,?_⟩
 obtain ⟨v1,v2,v3,v4⟩:=v
 dsimp only at v1 v2
 refine ⟨λv=> ∃i:Nat,L<=i/\i<=N/\v.2=((i:Int),T,G,(N:Int),())/\Pm N v.1/\Fx i v.1/\Jp T (N-i) i v.1=Jp T (N-L) L p,λv=>N-v.2.1.toNat,⟨L,Nat.le_refl _,hle,rfl,pm,fx,rfl⟩,?_⟩
 rintro ⟨p',v'⟩ ⟨i,h1,h2,h3,h4,h5,h6⟩
 dsimp only at h3 h4 h5 h6⊢
 subst h3
 dsimp only
 rw [show (((N:Int)-(L:Int)).toNat)=N-L by omega,show ((L:Int)).toNat=L by omega,<-h6]
 refine Br.dec (λhl=>?_) λhl=>?_
 ·have hl:i<N:=by omega
  obtain ⟨o,s1,s2,s3,s4,s5,s6,s7⟩:=ve n2 v3 v2 h1 hl h4 h5
  simp only [Int.toNat_natCast,Nat.zero_add,true_and,and_true]
  refine ⟨⟨by omega,by omega⟩,_,s1,⟨by omega,by omega⟩,?_⟩
  rw [Int.toNat_natCast,s5,show N-i=(N-i-1)+1 by omega]
  cases o with
  |none=>
   rw [(s6 rfl).2]
   exact Br.of (λ_=>rfl) λhb=>by simp at hb
  |some t=>
   obtain ⟨⟨q1,q2⟩,q3,q4,q5,q6⟩:=s7 t rfl
   refine Br.of (λhb=>absurd (by simpa using hb) q1) λ_=>?_
   refine ⟨_,if_pos q2,_,if_pos q3,⟨i+1,by omega,by omega,?_,q4,q5,?_⟩,?_⟩
   ·rw [Ah (by omega)]
   ·rw [q6,show N-(i+1)=N-i-1 by omega];rfl
   ·show N-(IntKind.i64.wrap ((i:Int)+1)).toNat<N-i-1+1
    rw [Ah (by omega)]
    omega
 ·have:i=N:=by omega
  subst this
  rw [Nat.sub_self]
  exact ⟨⟨rfl,rfl⟩,⟨rfl,rfl⟩,rfl⟩
theorem BE:Ay Tryz.prog 144 fQ:=
 Ay.fG jg (Ae Ub (Ae Yc Aj)) mixed Tryz.func144 (by kernel_rfl) (by kernel_rfl) λx h=>YV x.1 x.2.1 x.2.2.1 x.2.2.2.1 x.2.2.2.2.1 h
theorem Aia {m:Nat} (n:Int) (T G:List (List (Option (List Int)))) (l:Int) (p:Option (List Int)) (h:(∃N L q,p=some q/\ZR N L n G T l q)/\jo n.toNat l.toNat (G,T)<m+1):
  fnMW Rr (look [(76,Co),(156,Fm),(146,Ql.m (kF m)),(157,Ql.m (aW m))]) (aW (m+1)) Tryz.f157 (n,T,G,l,p,()) (λ(z:(Int×List (List (Option (List Int)))×List (List (Option (List Int)))×Unit)×Unit)=>z=((n,(cv n.toNat 1000 l.toNat (p.getD []) (G,T)).2,(cv n.toNat 1000 l.toNat (p.getD []) (G,T)).1,()),())):=by
 obtain ⟨⟨N,L,q,rfl,h⟩,hm⟩:=h
 obtain ⟨n1,n2,en,el,Ey,part,pm,fx,gn,gl⟩:=h
 subst en el
 refine Eq.mp (Aiy (N:Int) T G (L:Int) (some q) _) ?_
 have l1:G.length=N:=part.l1
 have l2:T.length=N:=part.l2
 have row:=part.row
 dsimp only at row
 have YB:=row.rl
 have hy:=pm.lt Ey
 simp only [Int.toNat_natCast,Nat.zero_add,Option.getD_some,true_and,and_true,List.length_set] at hm⊢
 refine ⟨⟨by omega,by omega⟩,_,wo pm Ey,⟨by omega,by omega⟩,?_⟩
 simp only [Int.toNat_natCast]
 rcases Option.eq_none_or_eq_some ((T.getD L []).getD (ap q L) none) with Gj|⟨t,Gj⟩
 case inr=>
  obtain ⟨t1,t2,t3,t4⟩:=row.rt _ _ Gj
  have htl:=t1.1
  refine Br.dec (λ_=>?_) λhb=>?_
  ·rw [Gj,Option.getD_some]
   have hw:IntKind.i64.wrap ((L:Int)+1)=((L+1:Nat):Int):=Ah (by omega)
   rw [hw]
   have WV:=TO (s:=(G,T)) Ey
   refine ⟨_,if_pos ⟨by show t.length<=20;omega,t1.2.row⟩,some (Ab q (Ai t)),if_pos ⟨Se pm,mb pm t1.inv⟩,_,
    if_pos ⟨⟨N,L+1,_,rfl,n1,n2,rfl,rfl,by omega,part.v,pm.comp t1.inv,Fx.div pm t1 fx t2 Ey t3⟩,by show KI (N:Int).toNat ((L+1:Nat):Int).toNat<m;rw [Int.toNat_natCast,Int.toNat_natCast];omega⟩,?_⟩
   simp only [Int.toNat_natCast,Option.getD_some]
   rw [QL n1 n2 Ey part pm fx Gj]
  ·rw [Gj,Option.getD_some] at hb
   omega
 case inl=>
  refine Br.dec (λhb=>by rw [Gj] at hb;simp at hb) λ_=>?_
  obtain ⟨a1,a2⟩:=yk Ey part pm fx gn Gj
  have o4:=QK n1 n2 Ey part pm fx gn Gj
  have WV:=YL (n:=N) (q:=q) (s:=(G,T)) (k:=L) (y:=ap q L) (by show L<T.length;omega) (by show ap q L<(T.getD L []).length;omega) Gj
  have run:= λj=>ub n1 n2 Ey a1 a2 j
  dsimp only at a1 a2 o4 WV run
  refine ⟨⟨by omega,by omega⟩,_,wo pm Ey,⟨by omega,by omega⟩,?_⟩
  simp only [Int.toNat_natCast]
  rw [o4]
  generalize hs0:((G,T.set L ((T.getD L []).set (ap q L) (some q))):Aw×Aw)=s0 at WV run⊢
  have Ad4:T.set L ((T.getD L []).set (ap q L) (some q))=s0.2:=by rw [<-hs0]
  have SE:G=s0.1:=by rw [<-hs0]
  have hql:((G.getD L []).map λo=>Ab q (o.getD [])).length=(G.getD L []).length:=List.length_map _
  refine Ag (G.getD L []).length (λv=>v.1) (λj v=> ∃s:Aw×Aw,v=((j:Int),s.2,s.1,(N:Int),())/\s=dF N L (((G.getD L []).map λo=>Ab q (o.getD [])).take j) s0) rfl ⟨s0,by rw [<-SE,Ad4];rfl,rfl⟩ ?_
  rintro j v K hj hi ⟨s,rfl,hs⟩ hK
  have hr:=run j
  rw [<-hs] at hr
  have g1:s.1.getD L []=G.getD L []:=by rw [hr.same,SE]
  have g2:s.1.length=N:=hr.part.l1
  have g4:jo N L (s.1,s.2)<=jo N L s0:=hr.mu
  dsimp only
  simp only [g1]
  refine ⟨⟨by omega,by omega⟩,Br.dec (λhl=>?_) λhl=>?_⟩
  ·have hl:j<(G.getD L []).length:=by omega
   obtain ⟨g,lh,Oe,hgf⟩:=part.pg _ (List.getElem_mem hl)
   have hgj:(G.getD L []).getD j none=some g:=by rw [yY hl];exact lh
   have hqj:(((G.getD L []).map λo=>Ab q (o.getD []))[j]'(by rw [hql];exact hl))=Ab q g:=by rw [List.getElem_map,lh];rfl
   obtain ⟨b1,b2,b3⟩:=a2 (Ab q g) (by rw [<-hqj];exact List.getElem_mem _)
   simp only [Int.toNat_natCast,hgj,Option.getD_some]
   refine ⟨⟨by omega,by omega⟩,⟨by omega,by omega⟩,some (Ab q g),if_pos ⟨Se pm,mb pm Oe⟩,_,
    if_pos ⟨⟨N,L,_,rfl,n1,n2,rfl,rfl,Ey,hr.part,b1,b2,by rw [g1];exact b3,by rw [g1];exact gl⟩,by show jo (N:Int).toNat (L:Int).toNat (s.1,s.2)<m;rw [Int.toNat_natCast,Int.toNat_natCast];omega⟩,?_⟩
   simp only [Int.toNat_natCast,Option.getD_some]
   rw [Ah (by omega)]
   refine hK hl _ rfl ⟨_,rfl,?_⟩
   rw [pH (by rw [hql];exact hl),<-hs,hqj]
  ·have:j=(G.getD L []).length:=by omega
   subst this
   rw [<-hql,List.take_length] at hs
   rw [hs]
theorem UT {m:Nat} (Adf:Ay Tryz.prog 146 (kF m)) (EN:Ay Tryz.prog 157 (aW m)):Ay Tryz.prog 157 (aW (m+1)):=
 Ay.fG jg (Ae Ub (Ae Yd (Er Adf (Er EN Aj)))) mixed Tryz.func157 (by kernel_rfl) (by kernel_rfl) λx h=>Aia x.1 x.2.1 x.2.2.1 x.2.2.2.1 x.2.2.2.2.1 h
theorem Ai9 {m:Nat} (n:Int) (T G:List (List (Option (List Int)))) (l:Int) (p:Option (List Int)) (h:(∃N L q,p=some q/\Qm N L n G T l q)/\KI n.toNat l.toNat<m+1):
  fnMW (VL [rX+46]) (look [(144,fQ),(156,Fm),(157,Ql.m (aW m))]) (kF (m+1)) Tryz.f146 (n,T,G,l,p,()) (λ(z:(Int×List (List (Option (List Int)))×List (List (Option (List Int)))×Unit)×Unit)=>z=((n,(fZ n.toNat 1000 l.toNat (p.getD []) (G,T)).2,(fZ n.toNat 1000 l.toNat (p.getD []) (G,T)).1,()),())):=by
 obtain ⟨⟨N,L,q,rfl,h⟩,hm⟩:=h
 have h':=h
 obtain ⟨n1,n2,en,el,hle,v,pm,fx⟩:=h
 subst en el
 have hk:((N:Int)-(L:Int)).toNat=N-L:=by omega
 have back: ∀s:Aw×Aw,fZ N 1000 L q (G,T)=s->((((N:Int),s.2,s.1,()),()):(Int×Aw×Aw×Unit)×Unit)=((((N:Int),(fZ N 1000 L q (G,T)).2,(fZ N 1000 L q (G,T)).1,()),()):(Int×Aw×Aw×Unit)×Unit):= λs e=>by rw [e]
 refine Eq.mp (Aix (N:Int) T G (L:Int) (some q) _) ?_
 simp only [Int.toNat_natCast,Nat.zero_add,Option.getD_some,true_and,and_true] at hm⊢
 refine Br.dec (λlh=>?_) λEy=>?_
 ·exact back (G,T) (IU (by rw [show N-L=0 by omega];rfl))
 have Ey:L<N:=by omega
 have hv:=v
 obtain ⟨v1,v2,v3,v4⟩:=v
 dsimp only at v1 v2
 have hsl:(Jp T (N-L) L q).2.1=(N:Int)↔Ee T (N-L) L q=true:=by
  have:=r6 (T:=T) (N-L) L q
  rw [show L+(N-L)=N by omega] at this
  exact this
 refine ⟨_,if_pos ⟨N,L,h'⟩,?_⟩
 simp only [Gv]
 simp only [hk,Int.toNat_natCast]
 refine Br.of (λhh=>?_) λhh=>?_
 ·exact back (G,T) (IU (hsl.1 (eq_of_beq hh)))
 have hno: ¬Ee T (N-L) L q=true:= λhc=>by rw [hsl.2 hc] at hh;simp at hh
 have gN:=QJ n1 n2 (s:=(G,T)) Ey hv pm fx hno
 obtain ⟨a1,a2⟩:=yj n1 n2 (s:=(G,T)) Ey hv pm fx
 have hgl:(G.getD L []).length<=400:=by
  obtain ⟨k,hk1⟩: ∃k,N-L=k+1:=⟨N-L-1,by omega⟩
  rw [hk1] at hv
  exact JJ n2 (by omega) hv
 have e1:(0:Int)<=(L:Int)/\(L:Int)<(G.length:Int):=by omega
 have e2:(G.getD L []).length+1<=Be:=by show _<=4294967296;omega
 have row:=a1.row
 dsimp only at row a1 a2 gN
 have YB:=row.rl
 have run:= λj=>ub n1 n2 Ey a1 a2 j
 have WV:=FH a1
 simp only [List.drop_zero,List.take_succ_cons,List.take_zero,List.length_cons,List.length_nil,List.length_set,Nat.zero_add,e1,e2,and_self,true_and,and_true]
 have hG1:(G.set L (G.getD L []++ [some q])).getD L []=G.getD L []++ [some q]:=Zz G L (by omega) _
 generalize hs0:((G.set L (G.getD L []++ [some q]),T):Aw×Aw)=s0 at WV run gN⊢
 have SE:G.set L (G.getD L []++ [some q])=s0.1:=by rw [<-hs0]
 have Ad4:T=s0.2:=by rw [<-hs0]
 refine Ag N (λv=>v.1) (λy v=>v=((y:Int),(known ((T.getD L []).take y)).map some,T,G.set L (G.getD L []++ [some q]),(N:Int),())) rfl rfl ?_
 rintro y v K hj hi rfl hK
 dsimp only
 refine Br.dec (λhl=>?_) λhl=>?_
 ·have hl:y<N:=by omega
  have hy:y<(T.getD L []).length:=by omega
  have WQ:=EZ hy
  have Na:=uz ((T.getD L []).take y)
  rw [List.length_take] at Na
  have hye:(T.getD L []).getD y none=(T.getD L [])[y]:=yY hy
  simp only [Int.toNat_natCast]
  refine ⟨by omega,⟨by omega,by omega⟩,?_⟩
  rcases Option.eq_none_or_eq_some ((T.getD L []).getD y none) with ho|⟨t,ho⟩
  ·refine Br.dec (λhb=>by rw [ho] at hb;simp at hb) λ_=>?_
   rw [Ah (by omega)]
   refine hK hl _ rfl ?_
   rw [WQ,<-hye,ho]
   simp
  ·obtain ⟨t1,t2,t3,t4⟩:=row.rt _ _ ho
   have htl:=t1.1
   refine Br.dec (λ_=>?_) λhb=>by rw [ho,Option.getD_some] at hb;omega
   refine ⟨by omega,⟨by omega,by omega⟩,?_,?_⟩
   ·show _<=4294967296
    rw [List.length_map];omega
   ·rw [Ah (by omega)]
    refine hK hl _ rfl ?_
    rw [WQ,<-hye,ho]
    simp
 ·have:y=N:=by omega
  subst this
  have RT:(T.getD L []).take y=T.getD L []:=List.take_of_length_le (by omega)
  rw [RT]
  have hql:((known (T.getD L [])).map λu=>Ab u q).length=(known (T.getD L [])).length:=List.length_map _
  have Na:=uz (T.getD L [])
  refine Ag (known (T.getD L [])).length (λv=>v.1) (λj v=> ∃s:Aw×Aw,v=((j:Int),(known (T.getD L [])).map some,s.2,s.1,(y:Int),())/\s=dF y L (((known (T.getD L [])).map λu=>Ab u q).take j) s0) rfl ⟨s0,by rw [<-Ad4,SE];rfl,rfl⟩ ?_
  rintro j v K' wc jV ⟨s,rfl,hs⟩ XL
  have hr:=run j
  rw [<-hs] at hr
  have g1:s.1.getD L []=G.getD L []++ [some q]:=by rw [hr.same,<-SE];exact hG1
  have g4:jo y L (s.1,s.2)<=jo y L s0:=hr.mu
  dsimp only
  refine Br.dec (λGt=>?_) λGt=>?_
  ·rw [List.length_map] at Gt
   have Gt:j<(known (T.getD L [])).length:=by omega
   obtain ⟨w,hw⟩:=fF.1 (List.getElem_mem Gt)
   obtain ⟨t1,t2,t3,t4⟩:=row.rt _ _ hw
   have hqj:(((known (T.getD L [])).map λu=>Ab u q)[j]'(by rw [hql];exact Gt))=Ab (known (T.getD L []))[j] q:=by rw [List.getElem_map]
   obtain ⟨b1,b2,b3⟩:=a2 (Ab (known (T.getD L []))[j] q) (by rw [<-hqj];exact List.getElem_mem _)
   simp only [Int.toNat_natCast]
   refine ⟨⟨by omega,by rw [List.length_map];omega⟩,some (known (T.getD L []))[j],by rw [List.getElem?_map,List.getElem?_eq_getElem Gt];rfl,some (Ab (known (T.getD L []))[j] q),if_pos ⟨Se t1,mb t1 pm⟩,_,
    if_pos ⟨⟨y,L,_,rfl,n1,n2,rfl,rfl,Ey,hr.part,b1,b2,by rw [g1,<-hG1];exact b3,by rw [g1,List.length_append,List.length_singleton];omega⟩,by show jo (y:Int).toNat (L:Int).toNat (s.1,s.2)<m;rw [Int.toNat_natCast,Int.toNat_natCast];omega⟩,?_⟩
   simp only [Int.toNat_natCast,Option.getD_some]
   rw [Ah (by omega)]
   refine XL Gt _ rfl ⟨_,rfl,?_⟩
   rw [pH (by rw [hql];exact Gt),<-hs,hqj]
  ·rw [List.length_map] at Gt
   have:j=(known (T.getD L [])).length:=by omega
   subst this
   rw [<-hql,List.take_length] at hs
   exact back s (gN.trans hs.symm)
theorem US {m:Nat} (EN:Ay Tryz.prog 157 (aW m)):Ay Tryz.prog 146 (kF (m+1)):=
 Ay.fG (ZI [rX+46]) (Er BE (Ae Yd (Er EN Aj))) mixed Tryz.func146 (by kernel_rfl) (by kernel_rfl) λx h=>Ai9 x.1 x.2.1 x.2.2.1 x.2.2.2.1 x.2.2.2.2.1 h
theorem OC:Ay Tryz.prog 146 (kF 0)/\Ay Tryz.prog 157 (aW 0):=
 ⟨Ay.fG Bi Aj mixed Tryz.func146 (by kernel_rfl) (by kernel_rfl) λ_ h=>absurd h.2 (Nat.not_lt_zero _),
  Ay.fG Bi Aj mixed Tryz.func157 (by kernel_rfl) (by kernel_rfl) λ_ h=>absurd h.2 (Nat.not_lt_zero _)⟩
theorem fR: ∀m,Ay Tryz.prog 146 (kF m)/\Ay Tryz.prog 157 (aW m)
 |0=>OC
 |m+1=>⟨US (fR m).2,UT (fR m).1 (fR m).2⟩
theorem GY:Ay Tryz.prog 146 xg:=Ay.TS (λx=>KI x.1.toNat x.2.2.2.1.toNat) λm=>(fR m).1
end Go.Proofs.YtfolipnappekaaaGreat

namespace Go.Proofs.YtfolipnappekaaaGreat
open Go.RowKit
noncomputable abbrev Zj:Spec:=Cg (.pair tL .unit) tO false true (λx=>short x.1/\1<=List.length x.1) (λx=>some x.1)
noncomputable abbrev wy:MSpec:= {Eh:= [none],ins:= [(false, .Dm tI)],Ct:=false,Di:= [none,none,none],outs:= [.Dm tI, .Al tO sd false, .Al tO sd false],fn:= λ_=>none,rp:=some 153}
noncomputable abbrev Nl:MSpec:=fG wy (λx=>1<=x.1/\x.1<=20) (λx=>((x.1,Tp x.1.toNat,Oa x.1.toNat,()),()))
noncomputable abbrev sv:MSpec:= {Eh:= [none,none],ins:= [(false, .Dm tI),(false, .Dm ZD)],Ct:=false,Di:= [none,none,none],outs:= [.Dm tI, .Al tO sd false, .Al tO sd false],fn:= λ_=>none,rp:=some 153}
noncomputable abbrev aj:MSpec:=fG sv (λx=>(1<=x.1/\x.1<=20)/\List.length x.2.1<=4294967296/\ ∀o∈(x.2.1:List PO),∃g,o=some g/\Pm x.1.toNat g)
 (λx=>((x.1,(Kv x.1.toNat x.2.1).2,(Kv x.1.toNat x.2.1).1,()),()))
noncomputable abbrev sw:MSpec:= {Eh:= [none,none],ins:= [(false, .Dm tI),(false, .Dm cZ)],Ct:=false,Di:= [none,none,none],outs:= [.Dm tI, .Al tO sd false, .Al tO sd false],fn:= λ_=>none,rp:=some 153}
noncomputable abbrev Nk:MSpec:=fG sw (λx=>(1<=x.1/\x.1<=20)/\List.length x.2.1<=4294967296/\ ∀g∈(x.2.1:List (List Int)),Pm x.1.toNat g)
 (λx=>((x.1,(lA x.1 x.2.1).2,(lA x.1 x.2.1).1,()),()))
noncomputable abbrev Ta:Spec:=Cg (.pair (.ptr l6) (.pair tL .unit)) .bool false true (λx=> ∃N,Qm N 0 x.1.1 x.1.2.2.1 x.1.2.1 0 x.2.1) (λx=>Ee x.1.2.1 x.1.1.toNat 0 x.2.1)
noncomputable def dW (n:Int) (g:List (List Int)) (p:List Int):Bool:=(Mr n g&&Dc n p)&&Ee (lA n g).2 n.toNat 0 p
noncomputable abbrev Td:Spec:=Cg (.pair tI (.pair cZ (.pair tL .unit))) .bool false true (λx=>Ff x.2.1/\short x.2.2.1) (λx=>dW x.1 x.2.1 x.2.2.1)
abbrev hI:Type:=Int×Int×List (List (Option (List Int)))×List (List (Option (List Int)))×PUnit
theorem xQ (n:Int) (P:(Int×List (List (Option (List Int)))×List (List (Option (List Int)))×Unit)×Unit->Prop):(0=0/\0=([]:List Int).length/\0=0/\0=([]:List Int).length/\Bk (λ(v2:hI) (k3:hI->Prop)=>Br (decide (v2.1<n)) (((0:Int)<=n/\n<(↑Be:Int)+(1:Int))/\n=n/\ ∃(y4:Option (List Int)),Ku.fn (n,())=some y4/\((0:Int)<=v2.1/\v2.1<(↑(List.replicate n.toNat (none:Option (List Int))).length:Int))/\0+v2.1.toNat<(List.replicate n.toNat (none:Option (List Int))).length/\0=0/\(List.replicate n.toNat (none:Option (List Int))).length=((List.replicate n.toNat (none:Option (List Int))).set (0+v2.1.toNat) y4).length/\(0=0/\v2.2.2.1.length=v2.2.2.1.length)/\(0=0/\1= [(List.replicate n.toNat (none:Option (List Int))).set (0+v2.1.toNat) y4].length)/\0< [(List.replicate n.toNat (none:Option (List Int))).set (0+v2.1.toNat) y4].length/\v2.2.2.1.length+ [(List.replicate n.toNat (none:Option (List Int))).set (0+v2.1.toNat) y4].length<=Be/\0=0/\0=([]:List Int).length/\(0=0/\v2.2.2.2.1.length=v2.2.2.2.1.length)/\(0=0/\1=([[]]:List (List (Option (List Int)))).length)/\0<([[]]:List (List (Option (List Int)))).length/\v2.2.2.2.1.length+([[]]:List (List (Option (List Int)))).length<=Be/\0=0/\(v2.2.2.1++ [(List.replicate n.toNat (none:Option (List Int))).set (0+v2.1.toNat) y4]).length=(v2.2.2.1++ [(List.replicate n.toNat (none:Option (List Int))).set (0+v2.1.toNat) y4]).length/\0=0/\(v2.2.2.2.1++ [[]]).length=(v2.2.2.2.1++ [[]]).length/\k3 (IntKind.i64.wrap (v2.1+(1:Int)),v2.2.1,v2.2.2.1++ [(List.replicate n.toNat (none:Option (List Int))).set (0+v2.1.toNat) y4],v2.2.2.2.1++ [[]],())) ((0=0/\v2.2.2.1.length=v2.2.2.1.length)/\(0=0/\v2.2.2.2.1.length=v2.2.2.2.1.length)/\P ((v2.2.1,v2.2.2.1,v2.2.2.2.1,()),()))) ((0:Int),n,[],[],PUnit.unit))=fnMW Rr (look [(115,Ku)]) Nl Tryz.f145 (n,()) P:=by kernel_rfl
abbrev eL:Type:=(Int×List (List (Option (List Int)))×List (List (Option (List Int)))×PUnit)×PUnit
abbrev eM:Type:=Int×List (List (Option (List Int)))×List (List (Option (List Int)))×Int×PUnit
theorem tC (n:Int) (gens:List (Option (List Int))) (P:(Int×List (List (Option (List Int)))×List (List (Option (List Int)))×Unit)×Unit->Prop):(∃(y3:eL),Nl.fn (n,())=some y3/\0=0/\y3.1.2.1.length=y3.1.2.1.length/\0=0/\y3.1.2.2.1.length=y3.1.2.2.1.length/\Bk (λ(v4:eM) (k5:eM->Prop)=>Br (decide (v4.1<(↑gens.length:Int))) (∃(y6:Option (List Int)),idx gens v4.1=some y6/\ ∃(y7:Option (List Int)),Zj.fn (y6.getD [],())=some y7/\0=0/\v4.2.1.length=v4.2.1.length/\0=0/\v4.2.2.1.length=v4.2.2.1.length/\ ∃(y8:eL),xg.fn (v4.2.2.2.1,v4.2.1,v4.2.2.1,(0:Int),y7,())=some y8/\0=0/\y8.1.2.1.length=y8.1.2.1.length/\0=0/\y8.1.2.2.1.length=y8.1.2.2.1.length/\k5 (IntKind.i64.wrap (v4.1+(1:Int)),y8.1.2.1,y8.1.2.2.1,y8.1.1,())) ((0=0/\v4.2.1.length=v4.2.1.length)/\(0=0/\v4.2.2.1.length=v4.2.2.1.length)/\P ((v4.2.2.2.1,v4.2.1,v4.2.2.1,()),()))) ((0:Int),y3.1.2.1,y3.1.2.2.1,y3.1.1,PUnit.unit))=fnMW Rr (look [(145,Nl),(116,Zj),(146,xg)]) aj Tryz.f129 (n,gens,()) P:=by kernel_rfl
theorem HZ (c:Int×List (List (Option (List Int)))×List (List (Option (List Int)))×Unit) (p:List Int) (P:Bool->Prop):(∃(y3:List Int×Int×PUnit),mj.fn (c,(0:Int),p,())=some y3/\P (y3.2.1==c.1))=fnW Rr (look [(144,mj)]) Ta Tryz.f128 (c,p,()) P:=by kernel_rfl
theorem ID (n:Int) (g:List (List Int)) (p:List Int) (P:Bool->Prop):(∃(y4:Bool),Ig.fn (n,g,())=some y4/\Br y4 (Br ((↑p.length:Int)==n) (∃(y5:Bool),Ea.fn (p,())=some y5/\Br y5 (∃(y6:(Int×List (List (Option (List Int)))×List (List (Option (List Int)))×PUnit)×PUnit),Nk.fn (n,g,())=some y6/\ ∃(y7:Bool),Ta.fn ((y6.1.1,List.take y6.1.2.1.length (List.drop 0 y6.1.2.1),List.take y6.1.2.2.1.length (List.drop 0 y6.1.2.2.1),()),p,())=some y7/\P y7) (P false)) (P false)) (P false))=fnW Cd (look [(123,Ig),(75,Ea),(129,Nk),(128,Ta)]) Td Tryz.f96 (n,g,p,()) P:=by kernel_rfl
theorem CI (p:Int×ByteArray×List (List Int)×Unit) (s:List Int) (P:Bool->Prop):(∃(y3:Bool),Iz.fn ((p.1,p.2.1,p.2.2.1,()),s,())=some y3/\Br y3 (∃(y4:Bool),Td.fn (p.1,p.2.2.1,s,())=some y4/\P y4) (P false))=fnW Cd (look [(95,Iz),(96,Td)]) Iy Tryz.f73 (p,s,()) P:=by kernel_rfl
theorem CA (p:Int×ByteArray×List (List Int)×Unit) (s:List Int) (P:Bool->Prop):(∃(y3:Bool),Iz.fn ((p.1,p.2.1,p.2.2.1,()),s,())=some y3/\Br y3 (∃(y4:(Int×List (List (Option (List Int)))×List (List (Option (List Int)))×PUnit)×PUnit),Tf.fn (p.1,p.2.2.1,())=some y4/\ ∃(y5:Bool),kG.fn ((y4.1.1,List.take y4.1.2.1.length (List.drop 0 y4.1.2.1),List.take y4.1.2.2.1.length (List.drop 0 y4.1.2.2.1),()),(0:Int),s,())=some y5/\P y5) (P false))=fnW Cd (look [(97,Iz),(98,Tf),(99,kG)]) Iy Tryz.f74 (p,s,()) P:=by kernel_rfl
theorem gq:Sound Tryz.prog 115 Ku:=Sound.toO eF λ_ h=>KX h
theorem oc:Sound Tryz.prog 116 Zj:=Sound.toO Rg λx h=>⟨h.1,λe=>by
 have h2:=h.2
 replace e:x.1= []:=e
 rw [e] at h2
 simp at h2⟩
theorem wO (n:Int) (h:1<=n/\n<=20):fnMW Rr (look [(115,Ku)]) Nl Tryz.f145 (n,()) (λ(z:(Int×List (List (Option (List Int)))×List (List (Option (List Int)))×Unit)×Unit)=>z=((n,Tp n.toNat,Oa n.toNat,()),())):=by
 obtain ⟨h1,h2⟩:=h
 obtain ⟨N,rfl⟩: ∃N:Nat,n=N:=⟨n.toNat,by omega⟩
 rw [Int.toNat_natCast]
 refine Eq.mp (xQ (N:Int) _) ?_
 have hm:((0:Int)<=(N:Int)/\(N:Int)<(Be:Int)+1):=⟨by omega,by show (N:Int)<(4294967296:Int)+1;omega⟩
 simp only [hm,and_self,eq_self,true_and,and_true,Int.toNat_natCast,Nat.zero_add,List.length_nil,List.length_set,List.length_replicate,List.length_cons,Nat.lt_add_one]
 refine Ag N (λv=>v.1) (λj v=>v=((j:Int),(N:Int),(List.range j).map (Yf N),List.replicate j [],())) rfl rfl ?_
 rintro j v K hj hi rfl hK
 dsimp only
 refine Br.dec (λhl=>?_) λhl=>?_
 ·simp only [Int.toNat_natCast,List.length_map,List.length_range,List.length_replicate]
  refine ⟨_,if_pos ⟨by show (1:Int)<=N;omega,by show (N:Int)<=20;omega⟩,⟨by omega,by omega⟩,by omega,?_,?_,?_⟩
  ·show _<=4294967296
   omega
  ·show _<=4294967296
   omega
  ·rw [Ah (by omega)]
   refine hK (by omega) _ rfl ?_
   rw [List.range_succ,List.map_append,List.replicate_succ']
   rfl
 ·have:j=N:=by omega
  subst this
  rfl
theorem my:Ay Tryz.prog 145 Nl:=
 Ay.fG jg (Ae gq Aj) mixed Tryz.func145 (by kernel_rfl) (by kernel_rfl) λx h=>wO x.1 h
theorem sH (n:Int) (gens:List (Option (List Int))) (h:(1<=n/\n<=20)/\List.length gens<=4294967296/\ ∀o∈(gens:List PO),∃g,o=some g/\Pm n.toNat g):
  fnMW Rr (look [(145,Nl),(116,Zj),(146,xg)]) aj Tryz.f129 (n,gens,()) (λ(z:(Int×List (List (Option (List Int)))×List (List (Option (List Int)))×Unit)×Unit)=>z=((n,(Kv n.toNat gens).2,(Kv n.toNat gens).1,()),())):=by
 obtain ⟨⟨h1,h2⟩,h3,hg⟩:=h
 obtain ⟨N,rfl⟩: ∃N:Nat,n=N:=⟨n.toNat,by omega⟩
 rw [Int.toNat_natCast] at hg⊢
 have h1:1<=N:=by omega
 have h2:N<=20:=by omega
 refine Eq.mp (tC (N:Int) gens _) ⟨_,if_pos ⟨by show (1:Int)<=N;omega,by show (N:Int)<=20;omega⟩,rfl,rfl,rfl,rfl,?_⟩
 simp only [Int.toNat_natCast,true_and,and_true]
 refine Ag gens.length (λv=>v.1) (λi v=>v=((i:Int),(Kv N (gens.take i)).2,(Kv N (gens.take i)).1,(N:Int),())) rfl rfl ?_
 rintro i v K' jV Am4 rfl XL
 dsimp only
 refine Br.dec (λGt=>?_) λGt=>?_
 ·have Gt:i<gens.length:=by omega
  obtain ⟨g,lh,Oe⟩:=hg gens[i] (List.getElem_mem Gt)
  have hgl:=Oe.1
  have hv:=tU h1 h2 (gens:=gens.take i) λo ho=>hg o (List.mem_of_mem_take ho)
  refine ⟨some g,by rw [Aq Gt,lh],some g,if_pos ⟨by show g.length<=4294967296;omega,by show 1<=g.length;omega⟩,_,if_pos ⟨N,0,g,rfl,h1,h2,rfl,rfl,Nat.zero_le _,hv,Oe,λi hi=>absurd hi (Nat.not_lt_zero _)⟩,?_⟩
  rw [Ah (by omega)]
  refine XL Gt _ rfl ?_
  rw [vI Gt,lh]
  rfl
 ·have:i=gens.length:=by omega
  subst this
  rw [List.take_length]
theorem kM:Ay Tryz.prog 129 aj:=
 Ay.fG jg (Er my (Ae oc (Er GY Aj))) mixed Tryz.func129 (by kernel_rfl) (by kernel_rfl) λx h=>sH x.1 x.2.1 h
theorem mw:Ay Tryz.prog 129 Nk:=by
 have h:=kM
 refine ⟨h.enter,λw S π us x r o g vs h1 hg h2 h3 hS h4 h5=>?_⟩
 obtain ⟨n,gens,⟨⟩⟩:=x
 match us,h2 with
 |u1::u2::us,h2=>
  obtain ⟨h6,⟨h7,h8⟩,h9⟩:=h2
  obtain ⟨os,lg,cV⟩:=Bc.Abf (e:=tI) h8
  have cV:os.map (·.getD [])=(gens:List (List Int)):=cV
  have a5:(1<=n/\n<=20)/\List.length gens<=4294967296/\ ∀g∈(gens:List (List Int)),Pm n.toNat g:=Classical.byContradiction λhn=>by
   have:Nk.fn (n,gens,())=none:=if_neg hn
   rw [this] at h5;cases h5
  have hos:os=gens.map some:=by
   rw [<-cV,List.map_map]
   refine (List.map_id os).symm.trans (List.map_congr_left λx hx=>?_)
   cases x with
   |some y=>rfl
   |none=>
    have:=a5.2.2 [] (by rw [<-cV];exact List.mem_map.2 ⟨none,hx,rfl⟩)
    have h1:=this.n1
    have h2:=this.1
    simp at h2
    omega
  have hv:Nk.fn (n,gens,())=some ((n,(lA n gens).2,(lA n gens).1,()),()):=if_pos a5
  rw [hv] at h5
  have h5:=Option.some.inj h5
  refine h.calls w S π (u1::u2::us) (n,os,()) r o g vs h1 hg ⟨h6,⟨h7,lg⟩,h9⟩ h3 hS h4 ?_
  refine (if_pos ⟨a5.1,by rw [hos,List.length_map];exact a5.2.1,λy hy=>?pp⟩).trans (congrArg some ?qq)
  case pp=>
   replace hy:y∈os:=hy
   rw [hos] at hy
   obtain ⟨g,hg,rfl⟩:=List.mem_map.1 hy
   exact ⟨g,rfl,a5.2.2 g hg⟩
  case qq=>subst hos;exact h5
theorem FR (c:Int×List (List (Option (List Int)))×List (List (Option (List Int)))×Unit) (p:List Int) (h: ∃N,Qm N 0 c.1 c.2.2.1 c.2.1 0 p):
  fnW Rr (look [(144,mj)]) Ta Tryz.f128 (c,p,()) (λ(z:Bool)=>z=Ee c.2.1 c.1.toNat 0 p):=by
 obtain ⟨n,T,G,⟨⟩⟩:=c
 obtain ⟨N,h⟩:=h
 have h':=h
 obtain ⟨n1,n2,en,el,hle,v,pm,fx⟩:=h
 dsimp only at en
 subst en
 refine Eq.mp (HZ ((N:Int),T,G,()) p _) ⟨_,if_pos ⟨N,0,h'⟩,?_⟩
 have hs:=r6 (T:=T) N 0 p
 rw [Nat.zero_add] at hs
 show ((Jp T ((N:Int)-0).toNat (0:Int).toNat p).2.1==(N:Int))=Ee T (N:Int).toNat 0 p
 rw [Int.sub_zero,Int.toNat_natCast]
 exact Bool.eq_iff_iff.2 (beq_iff_eq.trans hs)
theorem rf:Sound Tryz.prog 128 Ta:=
 Sound.Cg jg (Ae HK Aj) mixed Tryz.func128 (by kernel_rfl) (by kernel_rfl) λx h=>FR x.1 x.2.1 h
theorem FW (n:Int) (g:List (List Int)) (p:List Int) (h:Ff g/\short p):fnW Cd (look [(123,Ig),(75,Ea),(129,Nk),(128,Ta)]) Td Tryz.f96 (n,g,p,()) (λ(z:Bool)=>z=dW n g p):=by
 obtain ⟨hg,hp⟩:=h
 refine Eq.mp (ID n g p _) ⟨_,if_pos hg,?_⟩
 unfold dW
 show Br (Mr n g) _ _
 refine Br.of (λh1=>?_) λh1=>by rw [h1];rfl
 obtain ⟨⟨n1,n2⟩,h8,Fh⟩:=Dw.1 h1
 refine Br.of (λh2=>?_) λh2=>?_
 ·have h2:(p.length:Int)=n:=eq_of_beq h2
  refine ⟨_,if_pos hp,?_⟩
  show Br (Fl p) _ _
  refine Br.of (λh3=>?_) λh3=>?_
  ·have hgo:Dc n p=true:=Dw.2 ⟨h2,h3⟩
   have RY: ∀x,Dc n x=true->Pm n.toNat x:= λx hx=>by
    obtain ⟨a,b⟩:=Dw.1 hx
    exact ⟨by omega,bR b⟩
   have jU: ∀x∈g,Pm n.toNat x:= λx hx=>RY x (Fh x hx)
   have hV:=tU (n:=n.toNat) (by omega) (by omega) (aS jU)
   refine ⟨_,if_pos ⟨⟨n1,n2⟩,hg.1,jU⟩,_,if_pos ⟨n.toNat,?vv⟩,?_⟩
   case vv=>
    simp only [Bb]
    exact ⟨by omega,by omega,(Int.toNat_of_nonneg (by omega)).symm,rfl,Nat.zero_le _,hV,RY p hgo,λi hi=>absurd hi (Nat.not_lt_zero _)⟩
   simp only [Bb]
   rw [h1,hgo]
   rfl
  ·have:Dc n p=false:=by
    rw [Bool.eq_false_iff]
    intro hc
    rw [(Dw.1 hc).2] at h3
    cases h3
   rw [this,Bool.and_false,Bool.false_and]
 ·have:Dc n p=false:=by
   rw [Bool.eq_false_iff]
   intro hc
   rw [(Dw.1 hc).1] at h2
   simp at h2
  rw [this,Bool.and_false,Bool.false_and]
theorem rm:Sound Tryz.prog 96 Td:=
 Sound.Cg Bi (Ae bf (Ae Nn (Er mw (Ae rf Aj)))) mixed Tryz.func96 (by kernel_rfl) (by kernel_rfl) λx h=>FW x.1 x.2.1 x.2.2.1 h
theorem LL {p:PP} (hv:Bx p=true) {s:List Int} (hs:Pm p.1.toNat s):Ee (lA p.1 p.2.2.1).2 p.1.toNat 0 s=Ee (Yr p.1 p.2.2.1).2 p.1.toNat 0 s:=by
 have hV:=valid hv
 have hn:=hV.n
 have hg:=aS (ar hV).2.2
 exact Bool.eq_iff_iff.2 ((z6 (by omega) (by omega) hg hs).trans (iM (by omega) (by omega) hg hs).symm)
theorem yW {n:Int} {s:List Int} (h:Dc n s=true):Pm n.toNat s:=by
 obtain ⟨a,b⟩:=Dw.1 h
 exact ⟨by omega,bR b⟩
theorem AK (p:PP) (s:List Int) (h:Ck p/\short s):fnW Cd (look [(95,Iz),(96,Td)]) Iy Tryz.f73 (p,s,()) (λ(z:Bool)=>z=Jf p s):=by
 refine Eq.mp (CI p s _) ⟨_,if_pos h,?_⟩
 show Br (Bx p&&Dc p.1 s) _ _
 unfold Jf
 refine Br.of (λhb=>?_) λhb=>by rw [hb];rfl
 obtain ⟨hv,hg⟩:=Bool.and_eq_true_iff.1 hb
 have hV:=valid hv
 have hn:=hV.n
 have Ago:Mr p.1 p.2.2.1=true:=by
  refine Dw.2 ⟨⟨by omega,by omega⟩,by have:=hV.so;omega,λx hx=>Dw.2 ⟨by have:=hV.len x hx;omega,hV.perm x hx⟩⟩
 refine ⟨_,if_pos ⟨h.1.2,h.2⟩,?_⟩
 show dW p.1 p.2.2.1 s=_
 unfold dW
 rw [Ago,hg,hv,LL hv (yW hg)]
theorem oA:Sound Tryz.prog 73 Iy:=
 Sound.Cg Bi (Ae kT (Ae rm Aj)) mixed Tryz.func73 (by kernel_rfl) (by kernel_rfl) λx h=>AK x.1 x.2.1 h
theorem AB (p:PP) (s:List Int) (h:Ck p/\short s):fnW Cd (look [(97,Iz),(98,Tf),(99,kG)]) Iy Tryz.f74 (p,s,()) (λ(z:Bool)=>z=Jf p s):=by
 refine Eq.mp (CA p s _) ⟨_,if_pos h,?_⟩
 show Br (Bx p&&Dc p.1 s) _ _
 unfold Jf
 refine Br.of (λhb=>?_) λhb=>by rw [hb];rfl
 obtain ⟨hv,hg⟩:=Bool.and_eq_true_iff.1 hb
 have hV:=valid hv
 have hn:=hV.n
 have za:=XE hV
 refine ⟨_,if_pos (ar hV),_,if_pos ⟨p.1.toNat,0,?vv⟩,?_⟩
 case vv=>
  simp only [Bb]
  exact ⟨by omega,by omega,(Int.toNat_of_nonneg (by omega)).symm,rfl,Nat.zero_le _,by rw [Nat.sub_zero];exact za,yW hg,λi hi=>absurd hi (Nat.not_lt_zero _)⟩
 simp only [Bb]
 rw [hb,Bool.true_and,Int.sub_zero]
 rfl
theorem om:Sound Tryz.prog 74 Iy:=
 Sound.Cg Bi (Ae kP (Er rn (Ae vg Aj))) mixed Tryz.func74 (by kernel_rfl) (by kernel_rfl) λx h=>AB x.1 x.2.1 h
end Go.Proofs.YtfolipnappekaaaGreat

namespace Go.Proofs.YtfolipnappekaaaGreat
open Go.RowKit
noncomputable def Jm (p:PP) (ts:List TT) (s:List Int):Bool:=Jf p s&&De p ts
noncomputable abbrev Sz:Spec:=Cg (.pair Cp (.pair tv (.pair tL .unit))) (.pair (.optr Uc) (.pair .bool .unit)) true false (λx=>Ck x.1/\Ew x.2.1/\short x.2.2.1) (λx=>if Jm x.1 x.2.1 x.2.2.1=true then (some (Cq x.2.1),true,()) else (none,false,()))
noncomputable abbrev mg:Spec:=Cg (.pair Cp (.pair tv (.pair tL .unit))) .bool false true (λx=>Ck x.1/\Ew x.2.1/\short x.2.2.1) (λx=>Jm x.1 x.2.1 x.2.2.1)
theorem HY (p:Int×ByteArray×List (List Int)×Unit) (ts:List (List Int×List (List Int)×List Int×Unit)) (s:List Int) (P:(Option (List (List Int×List (List Int)×List Int×Unit)×List (ByteArray->Option Int)×Unit)×Bool×Unit)->Prop):(∃(y4:Bool),Iy.fn ((p.1,p.2.1,p.2.2.1,()),s,())=some y4/\Br (!y4) (P (none,false,())) (∃(y5:Bool),Gy.fn ((p.1,p.2.1,p.2.2.1,()),ts,())=some y5/\Br (!y5) (P (none,false,())) (∃(y6:Option (List (List Int×List (List Int)×List Int×PUnit)×List (ByteArray->Option Int)×PUnit)),Qc.fn (ts,())=some y6/\P (y6,true,()))))=fnW Cd (look [(74,Iy),(63,Gy),(64,Qc)]) Sz Tryz.f51 (p,ts,s,()) P:=by kernel_rfl
theorem Aer (p:Int×ByteArray×List (List Int)×Unit) (ts:List (List Int×List (List Int)×List Int×Unit)) (s:List Int) (P:Bool->Prop):(∃(y4:Bool),Gy.fn ((p.1,p.2.1,p.2.2.1,()),ts,())=some y4/\Br y4 (∃(y5:Bool),Iy.fn ((p.1,p.2.1,p.2.2.1,()),s,())=some y5/\P y5) (P false))=fnW Cd (look [(72,Gy),(73,Iy)]) mg Tryz.f47 (p,ts,s,()) P:=by kernel_rfl
theorem lN {p:PP} {ts:List TT} {s:List Int} (h:Jm p ts s=true):Uz ts/\Zv ts s/\Jf p s=true:=by
 unfold Jm at h
 obtain ⟨h1,h2⟩:=Bool.and_eq_true_iff.1 h
 exact ⟨(eO h2).2.1,GI h1 h2,h1⟩
theorem FQ (p:PP) (ts:List TT) (s:List Int) (h:Ck p/\Ew ts/\short s):fnW Cd (look [(74,Iy),(63,Gy),(64,Qc)]) Sz Tryz.f51 (p,ts,s,()) (λ(z:Option BB×Bool×Unit)=>z=if Jm p ts s=true then (some (Cq ts),true,()) else (none,false,())):=by
 obtain ⟨h0,h1,h2⟩:=h
 refine Eq.mp (HY p ts s _) ⟨_,if_pos ⟨h0,h2⟩,?_⟩
 show Br (!Jf p s) _ _
 have hh:Jm p ts s=(Jf p s&&De p ts):=rfl
 rw [hh]
 refine Br.of (λhb=>?_) λhb=>?_
 ·have hb:Jf p s=false:=by simpa using hb
  rw [hb];rfl
 ·have hb:Jf p s=true:=by simpa using hb
  refine ⟨_,if_pos ⟨h0,h1⟩,?_⟩
  show Br (!De p ts) _ _
  refine Br.of (λhc=>?_) λhc=>?_
  ·have hc:De p ts=false:=by simpa using hc
   rw [hb,hc];rfl
  ·have hc:De p ts=true:=by simpa using hc
   refine ⟨_,if_pos (eO hc).2.1,?_⟩
   rw [hb,hc];rfl
theorem re:Sound Tryz.prog 51 Sz:=
 Sound.Cg Bi (Ae om (Ae jd (Ae ou Aj))) mixed Tryz.func51 (by kernel_rfl) (by kernel_rfl) λx h=>FQ x.1 x.2.1 x.2.2.1 h
theorem Ady (p:PP) (ts:List TT) (s:List Int) (h:Ck p/\Ew ts/\short s):fnW Cd (look [(72,Gy),(73,Iy)]) mg Tryz.f47 (p,ts,s,()) (λ(z:Bool)=>z=Jm p ts s):=by
 obtain ⟨h0,h1,h2⟩:=h
 refine Eq.mp (Aer p ts s _) ⟨_,if_pos ⟨h0,h1⟩,?_⟩
 show Br (De p ts) _ _
 have hh:Jm p ts s=(Jf p s&&De p ts):=rfl
 rw [hh]
 refine Br.of (λhb=>⟨_,if_pos ⟨h0,h2⟩,?_⟩) λhb=>?_
 ·rw [hb,Bool.and_true]
 ·rw [hb,Bool.and_false]
theorem HG:Sound Tryz.prog 47 mg:=
 Sound.Cg Bi (Ae je (Ae oA Aj)) mixed Tryz.func47 (by kernel_rfl) (by kernel_rfl) λx h=>Ady x.1 x.2.1 x.2.2.1 h
end Go.Proofs.YtfolipnappekaaaGreat

namespace Go.Proofs.YtfolipnappekaaaGreat
abbrev DS:Type:=Int×Int×List Int×Bool×Bool×Unit
def Ir (v:DS):Bool:=v.2.2.2.1||(decide (0<v.2.1)&&!v.2.2.2.2.1)
def Is (w:List Int):Int:=w.getLastD 0
def vN (nx:List Int->Int->List Int) (low:List Int->Int) (one:List Int) (ls:List Int) (depth:Int):Nat->List Int->List Int->DS->DS
 |0,_,_,v=>v
 |f+1,s,w,v=>
  if v.1=20000 then (v.1,v.2.1,v.2.2.1,true,v.2.2.2.2)
  else if (w.length:Int)+low s>depth then (v.1+1,v.2)
  else if (w.length:Int)=depth then (if s=one then (v.1+1,v.2.1+1,(if v.2.1=0 then w else v.2.2.1),v.2.2.2) else (v.1+1,v.2))
  else (ls.filter λl=>!(l== -Is w)).foldl (λv l=>if Ir v=true then v else vN nx low one ls depth f (nx s l) (w++ [l]) v) (v.1+1,v.2)
abbrev IS:Type:=Bool×List Int×Int×Int×Bool
def iN (nx:List Int->Int->List Int) (low:List Int->Int) (one:List Int) (ls:List Int) (depth:Int) (every:Bool):Nat->List Int->List Int->Int->Int->Bool->IS
 |0,_,w,n,m,a=>(false,w,n,m,a)
 |f+1,s,w,n,m,a=>
  if n=20000 then (true,w,n,m,true)
  else if (w.length:Int)+low s>depth then (false,w,n+1,m,a)
  else if s=one/\(w.length:Int)=depth then (!every,w,n+1,m+1,a)
  else if (w.length:Int)=depth then (false,w,n+1,m,a)
  else ls.foldl (λr l=>if r.1=true\/l= -Is w then r else
   if (iN nx low one ls depth every f (nx s l) (w++ [l]) r.2.2.1 r.2.2.2.1 r.2.2.2.2).1=true then iN nx low one ls depth every f (nx s l) (w++ [l]) r.2.2.1 r.2.2.2.1 r.2.2.2.2
   else (false,w,(iN nx low one ls depth every f (nx s l) (w++ [l]) r.2.2.1 r.2.2.2.1 r.2.2.2.2).2.2)) (false,w,n+1,m,a)
structure vB (v:DS):Prop where
 n0:0<=v.1
 n1:v.1<=20000
 m0:0<=v.2.1
 m1:v.2.1<=v.1
theorem fh {α β:Type} {f:β->α->β} {R:β->Prop} : ∀(ls:List α) (b:β),R b->(∀b l,l∈ls->R b->R (f b l))->R (ls.foldl f b)
 | [],_,h,_=>h
 |l::ls,b,h,hs=>fh ls _ (hs b l (List.mem_cons_self ..) h) λb l hl=>hs b l (List.mem_cons_of_mem _ hl)
theorem pI {α β γ:Type} {f:β->α->β} {g:γ->α->γ} {R:β->γ->Prop} : ∀(ls:List α) (b:β) (c:γ),R b c->(∀b c l,l∈ls->R b c->R (f b l) (g c l))->R (ls.foldl f b) (ls.foldl g c)
 | [],_,_,h,_=>h
 |l::ls,b,c,h,hs=>pI ls _ _ (hs b c l (List.mem_cons_self ..) h) λb c l hl=>hs b c l (List.mem_cons_of_mem _ hl)
theorem VW {nx:List Int->Int->List Int} {low:List Int->Int} {one ls:List Int} {depth:Int} : ∀(f:Nat) (s w:List Int) (v:DS),vB v->vB (vN nx low one ls depth f s w v)
 |0,_,_,_,h=>h
 |f+1,s,w,v,h=>by
  have h0:=h.n0;have h1:=h.n1;have h2:=h.m0;have h3:=h.m1
  unfold vN
  split
  ·exact ⟨h0,h1,h2,h3⟩
  ·have hs:vB ((v.1+1,v.2):DS):=⟨by show 0<=v.1+1;omega,by show v.1+1<=20000;omega,h2,by show v.2.1<=v.1+1;omega⟩
   split
   ·exact hs
   ·split
    ·split
     ·exact ⟨by show 0<=v.1+1;omega,by show v.1+1<=20000;omega,by show 0<=v.2.1+1;omega,by show v.2.1+1<=v.1+1;omega⟩
     ·exact hs
    ·refine fh _ _ hs λb l _ hb=>?_
     split
     ·exact hb
     ·exact VW f _ _ _ hb
theorem Ab4 {nx:List Int->Int->List Int} {low:List Int->Int} {one ls:List Int} {depth:Int} {every:Bool} : ∀(f:Nat) (s w:List Int) (n m:Int) (a:Bool),(0<=n/\n<=20000/\0<=m/\m<=n)->
  (0<=(iN nx low one ls depth every f s w n m a).2.2.1/\(iN nx low one ls depth every f s w n m a).2.2.1<=20000/\0<=(iN nx low one ls depth every f s w n m a).2.2.2.1/\(iN nx low one ls depth every f s w n m a).2.2.2.1<=(iN nx low one ls depth every f s w n m a).2.2.1)
 |0,_,_,_,_,_,h=>h
 |f+1,s,w,n,m,a,h=>by
  obtain ⟨h0,h1,h2,h3⟩:=h
  unfold iN
  split
  ·exact ⟨h0,h1,h2,h3⟩
  ·have hs:(0<=n+1/\n+1<=20000/\0<=m/\m<=n+1):=by omega
   split
   ·exact hs
   ·split
    ·show 0<=n+1/\n+1<=20000/\0<=m+1/\m+1<=n+1
     omega
    ·split
     ·exact hs
     ·refine fh (R:= λ(b:IS)=>0<=b.2.2.1/\b.2.2.1<=20000/\0<=b.2.2.2.1/\b.2.2.2.1<=b.2.2.1) _ _ hs λb l _ hb=>?_
      split
      ·exact hb
      ·have ih:=Ab4 (nx:=nx) (low:=low) (one:=one) (ls:=ls) (depth:=depth) (every:=every) f (nx s l) (w++ [l]) b.2.2.1 b.2.2.2.1 b.2.2.2.2 hb
       split
       ·exact ih
       ·exact ih
theorem YG {nx:List Int->Int->List Int} {low:List Int->Int} {one ls:List Int} {depth:Int} {every:Bool} : ∀(f:Nat) (s w:List Int) (n m:Int) (a:Bool),(iN nx low one ls depth every f s w n m a).1=false->(iN nx low one ls depth every f s w n m a).2.1=w
 |0,_,_,_,_,_,_=>rfl
 |f+1,s,w,n,m,a,h=>by
  unfold iN at h⊢
  split
  ·rename_i h1;rw [if_pos h1] at h
  ·rename_i h1
   rw [if_neg h1] at h
   split
   ·rfl
   ·rename_i h2
    rw [if_neg h2] at h
    split
    ·rfl
    ·rename_i h3
     rw [if_neg h3] at h
     split
     ·rfl
     ·rename_i h4
      rw [if_neg h4] at h
      refine fh (R:= λ(r:IS)=>r.1=false->r.2.1=w) _ _ (λ_=>rfl) (λr l _ hr=>?_) h
      split
      ·exact hr
      ·split
       ·rename_i h5;exact λh6=>by rw [h5] at h6;cases h6
       ·exact λ_=>rfl
theorem KA {nx:List Int->Int->List Int} {low:List Int->Int} {one ls:List Int} {depth:Int} {every:Bool} {f:Nat} {s w:List Int} : ∀(xs:List Int) (r:IS),r.1=true->
  xs.foldl (λ(r:IS) l=>if r.1=true\/l= -Is w then r else
   if (iN nx low one ls depth every f (nx s l) (w++ [l]) r.2.2.1 r.2.2.2.1 r.2.2.2.2).1=true then iN nx low one ls depth every f (nx s l) (w++ [l]) r.2.2.1 r.2.2.2.1 r.2.2.2.2
   else (false,w,(iN nx low one ls depth every f (nx s l) (w++ [l]) r.2.2.1 r.2.2.2.1 r.2.2.2.2).2.2)) r=r
 | [],_,_=>rfl
 |x::xs,r,h=>by
  rw [List.foldl_cons,if_pos (.inl h)]
  exact KA xs r h
theorem KY {nx:List Int->Int->List Int} {low:List Int->Int} {one ls:List Int} {depth:Int} {f:Nat} {s w:List Int} : ∀(xs:List Int) (r:DS),Ir r=true->
  xs.foldl (λ(v:DS) l=>if Ir v=true then v else vN nx low one ls depth f (nx s l) (w++ [l]) v) r=r
 | [],_,_=>rfl
 |x::xs,r,h=>by
  rw [List.foldl_cons,if_pos h]
  exact KY xs r h
structure QE (every:Bool) (w:List Int) (r:IS) (v:DS):Prop where
 stop:r.1=Ir v
 word:r.1=false->r.2.1=w
 n:r.2.2.1=v.1
 m:r.2.2.2.1=v.2.1
 a:r.2.2.2.2=v.2.2.2.1
 all:v.2.2.2.2.1=every
 ok:vB v
 found:r.1=true->v.2.2.2.1=false->r.2.1=v.2.2.1
theorem Ab5 {nx:List Int->Int->List Int} {low:List Int->Int} {one ls:List Int} {depth:Int} {every:Bool} : ∀(f:Nat) (s w:List Int) (v:DS),Ir v=false->v.2.2.2.2.1=every->vB v->
  QE every w (iN nx low one ls depth every f s w v.1 v.2.1 v.2.2.2.1) (vN nx low one ls depth f s w v)
 |0,s,w,v,hd,he,hv=>⟨hd.symm,λ_=>rfl,rfl,rfl,rfl,he,hv,λh=>by simp [iN] at h⟩
 |f+1,s,w,v,hd,he,hv=>by
  have SH:=VW (nx:=nx) (low:=low) (one:=one) (ls:=ls) (depth:=depth) (f+1) s w v hv
  have RJ:=hd
  unfold Ir at RJ
  rw [he,Bool.or_eq_false_iff,Bool.and_eq_false_iff] at RJ
  obtain ⟨ha,hm⟩:=RJ
  have h0:=hv.m0
  have hm:every=false->v.2.1=0:= λe=>by
   rcases hm with h|h
   ·have:=of_decide_eq_false h;omega
   ·rw [e] at h;cases h
  by_cases h1:v.1=20000
  ·have e1:vN nx low one ls depth (f+1) s w v=(v.1,v.2.1,v.2.2.1,true,v.2.2.2.2):=by rw [vN,if_pos h1]
   have e2:iN nx low one ls depth every (f+1) s w v.1 v.2.1 v.2.2.2.1=(true,w,v.1,v.2.1,true):=by rw [iN,if_pos h1]
   rw [e1] at SH⊢
   rw [e2]
   exact {stop:=rfl,word:= λh=>by simp at h,n:=rfl,m:=rfl,a:=rfl,all:=he,ok:=SH,found:= λ_ h=>by simp at h}
  by_cases h2:(w.length:Int)+low s>depth
  ·have e1:vN nx low one ls depth (f+1) s w v=(v.1+1,v.2):=by rw [vN,if_neg h1,if_pos h2]
   have e2:iN nx low one ls depth every (f+1) s w v.1 v.2.1 v.2.2.2.1=(false,w,v.1+1,v.2.1,v.2.2.2.1):=by rw [iN,if_neg h1,if_pos h2]
   rw [e1] at SH⊢
   rw [e2]
   exact {stop:=hd.symm,word:= λ_=>rfl,n:=rfl,m:=rfl,a:=rfl,all:=he,ok:=SH,found:= λh=>by simp at h}
  by_cases h3:(w.length:Int)=depth
  ·by_cases h4:s=one
   ·have e1:vN nx low one ls depth (f+1) s w v=(v.1+1,v.2.1+1,(if v.2.1=0 then w else v.2.2.1),v.2.2.2):=by rw [vN,if_neg h1,if_neg h2,if_pos h3,if_pos h4]
    have e2:iN nx low one ls depth every (f+1) s w v.1 v.2.1 v.2.2.2.1=(!every,w,v.1+1,v.2.1+1,v.2.2.2.1):=by rw [iN,if_neg h1,if_neg h2,if_pos ⟨h4,h3⟩]
    rw [e1] at SH⊢
    rw [e2]
    refine {stop:=?_,word:= λ_=>rfl,n:=rfl,m:=rfl,a:=rfl,all:=he,ok:=SH,found:= λh _=>?_}
    ·show (!every)=(v.2.2.2.1||(decide (0<v.2.1+1)&&!v.2.2.2.2.1))
     rw [ha,he,decide_eq_true (by omega)]
     simp
    ·have h:(!every)=true:=h
     show w=if v.2.1=0 then w else v.2.2.1
     rw [if_pos (hm (by cases every<;>simp_all))]
   ·have e1:vN nx low one ls depth (f+1) s w v=(v.1+1,v.2):=by rw [vN,if_neg h1,if_neg h2,if_pos h3,if_neg h4]
    have e2:iN nx low one ls depth every (f+1) s w v.1 v.2.1 v.2.2.2.1=(false,w,v.1+1,v.2.1,v.2.2.2.1):=by rw [iN,if_neg h1,if_neg h2,if_neg (λh=>h4 h.1),if_pos h3]
    rw [e1] at SH⊢
    rw [e2]
    exact {stop:=hd.symm,word:= λ_=>rfl,n:=rfl,m:=rfl,a:=rfl,all:=he,ok:=SH,found:= λh=>by simp at h}
  have hs:vB ((v.1+1,v.2):DS):=by
   have:=hv.n0;have:=hv.n1;have:=hv.m1
   exact ⟨by show 0<=v.1+1;omega,by show v.1+1<=20000;omega,h0,by show v.2.1<=v.1+1;omega⟩
  rw [vN,if_neg h1,if_neg h2,if_neg h3,iN,if_neg h1,if_neg h2,if_neg (λh=>h3 h.2),if_neg h3,List.foldl_filter]
  refine pI (R:= λ(r:IS) (u:DS)=>QE every w r u) ls _ _ {stop:=hd.symm,word:= λ_=>rfl,n:=rfl,m:=rfl,a:=rfl,all:=he,ok:=hs,found:= λh=>by simp at h} λr u l _ hR=>?_
  by_cases hl:l= -Is w
  ·rw [if_pos (.inr hl),if_neg (by simp [hl])]
   exact hR
  rw [if_pos (show (!(l== -Is w))=true by simp [hl])]
  by_cases Oq:r.1=true
  ·have hu:Ir u=true:=by rw [<-hR.stop];exact Oq
   rw [if_pos (.inl Oq),if_pos hu]
   exact hR
  have Oq:r.1=false:=by simpa using Oq
  have hu:Ir u=false:=by rw [<-hR.stop,Oq]
  have bE: ¬Ir u=true:=by rw [hu];simp
  rw [if_neg (show ¬(r.1=true\/l= -Is w) by rw [Oq];simp [hl]),if_neg bE]
  have ih:=Ab5 (nx:=nx) (low:=low) (one:=one) (ls:=ls) (depth:=depth) (every:=every) f (nx s l) (w++ [l]) u hu hR.all hR.ok
  rw [hR.n,hR.m,hR.a]
  by_cases hq:(iN nx low one ls depth every f (nx s l) (w++ [l]) u.1 u.2.1 u.2.2.2.1).1=true
  ·rw [if_pos hq]
   exact {stop:=ih.stop,word:= λh=>by rw [hq] at h;simp at h,n:=ih.n,m:=ih.m,a:=ih.a,all:=ih.all,ok:=ih.ok,found:=ih.found}
  ·rw [if_neg hq]
   have hq:(iN nx low one ls depth every f (nx s l) (w++ [l]) u.1 u.2.1 u.2.2.2.1).1=false:=by simpa using hq
   exact {stop:=by rw [<-ih.stop,hq],word:= λ_=>rfl,n:=ih.n,m:=ih.m,a:=ih.a,all:=ih.all,ok:=ih.ok,found:= λh=>by simp at h}
end Go.Proofs.YtfolipnappekaaaGreat

namespace Go.Proofs.YtfolipnappekaaaGreat
open Go.RowKit
abbrev SR:Type:=PP×Option BB×Int×Bool×List Int×Int×Int×Bool×Unit
noncomputable def a9 (s:List Int):Bool:=decide (s=upto s.length)
noncomputable abbrev mh:Spec:=Cg (.pair tL .unit) .bool false true (λx=>short x.1) (λx=>a9 x.1)
def Me (g:List (List Int)) (s:List Int) (l:Int):List Int:=Ab s (An g l)
noncomputable def o5 (n:Int) (g:List (List Int)) (b:Option BB) (Bw:Int) (every:Bool) (w:List Int) (nodes found:Int) (ab:Bool) (x:List Int):IS:=
 iN (Me g) (Xt b) (upto n.toNat) (Af g.length) Bw every ((Bw-w.length).toNat+1) x w nodes found ab
noncomputable def zG (p:PP) (ts:List TT) (s w:List Int) (depth:Int) (v:DS):DS:=
 vN (Me p.2.2.1) (Pw ts) (upto p.1.toNat) (Af p.2.2.1.length) depth ((depth-w.length).toNat+1) s w v
def vG (n:Int) (str:ByteArray) (g:List (List Int)) (b:Option BB) (Bw:Int) (w:List Int) (nodes found:Int) (x:List Int):Prop:=
 ∃ts,b=some (Cq ts)/\Jm (n,str,g,()) ts x=true/\Bw<=30/\(w.length:Int)<=Bw/\(∀l∈w,Es g.length l)/\(0<=nodes/\nodes<=20000)/\0<=found/\found<=nodes
def QI (p:PP) (ts:List TT) (s w:List Int) (depth:Int) (v:DS):Prop:=
 Jm p ts s=true/\depth<=30/\(w.length:Int)<=depth/\(∀l∈w,Es p.2.2.1.length l)/\vB v
noncomputable abbrev KC:MSpec:= {ptr:=some (84,10),Eh:= [none],ins:= [(false, .Dm tI),(false, .Dm .str),(false, .Dm cZ),(false, .Dm (.optr Uc)),(false, .Dm tI),(false, .Dm .bool),(false,rL),(false, .Dm tI),(false, .Dm tI),(false, .Dm .bool),(false, .Dm tL)],Ct:=false,Di:= [none],outs:= [.Dm tI, .Dm .str, .Dm cZ, .Dm (.optr Uc), .Dm tI, .Dm .bool,rL, .Dm tI, .Dm tI, .Dm .bool, .Dm .bool],fn:= λ_=>none}
noncomputable def dY (n:Int) (str:ByteArray) (g:List (List Int)) (b:Option BB) (Bw:Int) (every:Bool) (q:IS):Int×ByteArray×List (List Int)×Option BB×Int×Bool×List Int×Int×Int×Bool×Bool×Unit:=(n,str,g,b,Bw,every,q.2.1,q.2.2.1,q.2.2.2.1,q.2.2.2.2,q.1,())
noncomputable abbrev Ov (m:Nat):MSpec:=fG KC (λx=>vG x.1 x.2.1 x.2.2.1 x.2.2.2.1 x.2.2.2.2.1 x.2.2.2.2.2.2.1 x.2.2.2.2.2.2.2.1 x.2.2.2.2.2.2.2.2.1 x.2.2.2.2.2.2.2.2.2.2.1/\(x.2.2.2.2.1-List.length x.2.2.2.2.2.2.1).toNat<m)
 (λx=>(dY x.1 x.2.1 x.2.2.1 x.2.2.2.1 x.2.2.2.2.1 x.2.2.2.2.2.1 (o5 x.1 x.2.2.1 x.2.2.2.1 x.2.2.2.2.1 x.2.2.2.2.2.1 x.2.2.2.2.2.2.1 x.2.2.2.2.2.2.2.1 x.2.2.2.2.2.2.2.2.1 x.2.2.2.2.2.2.2.2.2.1 x.2.2.2.2.2.2.2.2.2.2.1),()))
noncomputable abbrev kH:MSpec:=fG KC (λx=>vG x.1 x.2.1 x.2.2.1 x.2.2.2.1 x.2.2.2.2.1 x.2.2.2.2.2.2.1 x.2.2.2.2.2.2.2.1 x.2.2.2.2.2.2.2.2.1 x.2.2.2.2.2.2.2.2.2.2.1)
 (λx=>(dY x.1 x.2.1 x.2.2.1 x.2.2.2.1 x.2.2.2.2.1 x.2.2.2.2.2.1 (o5 x.1 x.2.2.1 x.2.2.2.1 x.2.2.2.2.1 x.2.2.2.2.2.1 x.2.2.2.2.2.2.1 x.2.2.2.2.2.2.2.1 x.2.2.2.2.2.2.2.2.1 x.2.2.2.2.2.2.2.2.2.1 x.2.2.2.2.2.2.2.2.2.2.1),()))
noncomputable abbrev Tl (m:Nat):Spec:=Cg (.pair Cp (.pair tv (.pair tL (.pair tL (.pair tI (.pair nO .unit)))))) nO false false (λx=>QI x.1 x.2.1 x.2.2.1 x.2.2.2.1 x.2.2.2.2.1 x.2.2.2.2.2.1/\(x.2.2.2.2.1-List.length x.2.2.2.1).toNat<m) (λx=>zG x.1 x.2.1 x.2.2.1 x.2.2.2.1 x.2.2.2.2.1 x.2.2.2.2.2.1)
noncomputable abbrev j9:Spec:=Cg (.pair nO .unit) .bool false true (λ_=>True) (λx=>Ir x.1)
theorem Aes (s:List Int) (P:Bool->Prop):(Bk (λ(v2:Int×PUnit) (k3:Int×PUnit->Prop)=>Br (decide (v2.1<(↑s.length:Int))) (∃(y4:Int),idx s v2.1=some y4/\Br (v2.1 !=y4) (P false) (k3 (IntKind.i64.wrap (v2.1+(1:Int)),()))) (P true)) ((0:Int),PUnit.unit))=fnW Cd (look []) mh Tryz.f120 (s,()) P:=by kernel_rfl
theorem Aeo (v:Int×Int×List Int×Bool×Bool×Unit) (P:Bool->Prop):(Br v.2.2.2.1 (P true) (Br (decide (v.2.1>(0:Int))) (P !v.2.2.2.2.1) (P false)))=fnW Cd (look []) j9 Tryz.f92 (v,()) P:=by kernel_rfl
abbrev Jw:Type:=Int×Int×ByteArray×List (List Int)×Int×Int×List Int×Bool×Bool×Int×Int×Bool×Bool×List Int×PUnit
abbrev Zq:Type:=Int×Int×List Int×Bool×Bool×PUnit
abbrev KJ (m:Nat) (v11:Jw) (ts:List (List Int×List (List Int)×List Int×Unit)) (Nb:List Int) (Jx:(List Int×PUnit)×PUnit) (Lu:Int) (depth:Int) (Iu:List Int) (Ga:Int) (s:List Int) (w:List Int) (Iv:Bool) (Ru:List Int) (Vk:(List Int×PUnit)×PUnit) (Ry:Zq):Prop:= ∃(Rz:Zq),(Tl m).fn ((v11.2.1,v11.2.2.1,v11.2.2.2.1,()),ts,Nb,List.take (Jx.1.1++List.take 1 (List.drop 0 [Lu])).length (List.drop 0 (Jx.1.1++List.take 1 (List.drop 0 [Lu]))),depth,(v11.2.2.2.2.1,v11.2.2.2.2.2.1,v11.2.2.2.2.2.2.1,v11.2.2.2.2.2.2.2.1,v11.2.2.2.2.2.2.2.2.1,()),())=some Rz/\(∃(Om:Int),idx Iu v11.1=some Om/\([]:List (Nat×Nat))= []/\(Om,())=(Ga,PUnit.unit))/\(∃(Om:Int),idx Iu v11.1=some Om/\([]:List (Nat×Nat))= []/\(Om,())=(Lu,PUnit.unit))/\ [(0,v11.2.2.2.2.2.2.2.2.2.2.2.2.2.1.length)]= [(0,v11.2.2.2.2.2.2.2.2.2.2.2.2.2.1.length)]/\(ts,s,w,depth,Iu,v11.1,v11.1,Iu,(↑Iu.length:Int),decide (v11.1<(↑Iu.length:Int)),decide (v11.1<(↑Iu.length:Int)),v11.2.2.2.2.1,v11.2.2.2.2.2.1,v11.2.2.2.2.2.2.1,v11.2.2.2.2.2.2.2.1,v11.2.2.2.2.2.2.2.2.1,Iv,!Iv,!Iv,v11.2.1,v11.2.2.1,v11.2.2.2.1,ts,v11.2.1,v11.2.2.1,v11.2.2.2.1,s,Iu,v11.1,Ga,Ga,Nb,w,Iu,v11.1,Lu,Lu,List.take 1 (List.drop 0 [Lu]),List.take (Jx.1.1++List.take 1 (List.drop 0 [Lu])).length (List.drop 0 (Jx.1.1++List.take 1 (List.drop 0 [Lu]))),depth,v11.2.2.2.2.1,v11.2.2.2.2.2.1,v11.2.2.2.2.2.2.1,v11.2.2.2.2.2.2.2.1,v11.2.2.2.2.2.2.2.2.1,Rz,v11.2.1,v11.2.2.1,v11.2.2.2.1,Rz.1,Rz.2.1,Rz.2.2.1,Rz.2.2.2.1,Rz.2.2.2.2.1,v11.2.2.2.2.2.2.2.2.2.1,v11.2.2.2.2.2.2.2.2.2.2.1,v11.2.2.2.2.2.2.2.2.2.2.2.1,v11.2.2.2.2.2.2.2.2.2.2.2.2.1,v11.2.2.2.2.2.2.2.2.2.2.2.2.2.1,())=(ts,s,w,depth,Iu,v11.1,v11.1,Iu,(↑Iu.length:Int),decide (v11.1<(↑Iu.length:Int)),decide (v11.1<(↑Iu.length:Int)),v11.2.2.2.2.1,v11.2.2.2.2.2.1,v11.2.2.2.2.2.2.1,v11.2.2.2.2.2.2.2.1,v11.2.2.2.2.2.2.2.2.1,Iv,!Iv,!Iv,v11.2.1,v11.2.2.1,v11.2.2.2.1,ts,v11.2.1,v11.2.2.1,v11.2.2.2.1,s,Iu,v11.1,Ga,Ga,Ru,w,Iu,v11.1,Lu,Lu,List.take 1 (List.drop 0 [Lu]),List.take (Vk.1.1++List.take 1 (List.drop 0 [Lu])).length (List.drop 0 (Vk.1.1++List.take 1 (List.drop 0 [Lu]))),depth,v11.2.2.2.2.1,v11.2.2.2.2.2.1,v11.2.2.2.2.2.2.1,v11.2.2.2.2.2.2.2.1,v11.2.2.2.2.2.2.2.2.1,Ry,v11.2.1,v11.2.2.1,v11.2.2.2.1,Ry.1,Ry.2.1,Ry.2.2.1,Ry.2.2.2.1,Ry.2.2.2.2.1,v11.2.2.2.2.2.2.2.2.2.1,v11.2.2.2.2.2.2.2.2.2.2.1,v11.2.2.2.2.2.2.2.2.2.2.2.1,v11.2.2.2.2.2.2.2.2.2.2.2.2.1,v11.2.2.2.2.2.2.2.2.2.2.2.2.2.1,PUnit.unit)
abbrev KK (m:Nat) (v10:Jw) (ts:List (List Int×List (List Int)×List Int×Unit)) (Ry:List Int) (Nb:(List Int×PUnit)×PUnit) (Ga:Int) (depth:Int) (y9:List Int) (Iv:Int) (s:List Int) (w:List Int) (fW:Bool) (Lu:List Int) (Ru:(List Int×PUnit)×PUnit) (Vk:Zq):Prop:= ∃(Jx:Zq),(Tl m).fn ((v10.2.1,v10.2.2.1,v10.2.2.2.1,()),ts,Ry,List.take (Nb.1.1++List.take 1 (List.drop 0 [Ga])).length (List.drop 0 (Nb.1.1++List.take 1 (List.drop 0 [Ga]))),depth,(v10.2.2.2.2.1,v10.2.2.2.2.2.1,v10.2.2.2.2.2.2.1,v10.2.2.2.2.2.2.2.1,v10.2.2.2.2.2.2.2.2.1,()),())=some Jx/\(∃(Rz:Int),idx y9 v10.1=some Rz/\([]:List (Nat×Nat))= []/\(Rz,())=(Iv,PUnit.unit))/\(∃(Rz:Int),idx y9 v10.1=some Rz/\([]:List (Nat×Nat))= []/\(Rz,())=(Ga,PUnit.unit))/\ [(0,v10.2.2.2.2.2.2.2.2.2.2.2.2.2.1.length)]= [(0,v10.2.2.2.2.2.2.2.2.2.2.2.2.2.1.length)]/\(ts,s,w,depth,y9,v10.1,v10.1,y9,(↑y9.length:Int),decide (v10.1<(↑y9.length:Int)),decide (v10.1<(↑y9.length:Int)),v10.2.2.2.2.1,v10.2.2.2.2.2.1,v10.2.2.2.2.2.2.1,v10.2.2.2.2.2.2.2.1,v10.2.2.2.2.2.2.2.2.1,fW,!fW,!fW,v10.2.1,v10.2.2.1,v10.2.2.2.1,ts,v10.2.1,v10.2.2.1,v10.2.2.2.1,s,y9,v10.1,Iv,Iv,Ry,w,y9,v10.1,Ga,Ga,List.take 1 (List.drop 0 [Ga]),List.take (Nb.1.1++List.take 1 (List.drop 0 [Ga])).length (List.drop 0 (Nb.1.1++List.take 1 (List.drop 0 [Ga]))),depth,v10.2.2.2.2.1,v10.2.2.2.2.2.1,v10.2.2.2.2.2.2.1,v10.2.2.2.2.2.2.2.1,v10.2.2.2.2.2.2.2.2.1,Jx,v10.2.1,v10.2.2.1,v10.2.2.2.1,Jx.1,Jx.2.1,Jx.2.2.1,Jx.2.2.2.1,Jx.2.2.2.2.1,v10.2.2.2.2.2.2.2.2.2.1,v10.2.2.2.2.2.2.2.2.2.2.1,v10.2.2.2.2.2.2.2.2.2.2.2.1,v10.2.2.2.2.2.2.2.2.2.2.2.2.1,v10.2.2.2.2.2.2.2.2.2.2.2.2.2.1,())=(ts,s,w,depth,y9,v10.1,v10.1,y9,(↑y9.length:Int),decide (v10.1<(↑y9.length:Int)),decide (v10.1<(↑y9.length:Int)),v10.2.2.2.2.1,v10.2.2.2.2.2.1,v10.2.2.2.2.2.2.1,v10.2.2.2.2.2.2.2.1,v10.2.2.2.2.2.2.2.2.1,fW,!fW,!fW,v10.2.1,v10.2.2.1,v10.2.2.2.1,ts,v10.2.1,v10.2.2.1,v10.2.2.2.1,s,y9,v10.1,Iv,Iv,Lu,w,y9,v10.1,Ga,Ga,List.take 1 (List.drop 0 [Ga]),List.take (Ru.1.1++List.take 1 (List.drop 0 [Ga])).length (List.drop 0 (Ru.1.1++List.take 1 (List.drop 0 [Ga]))),depth,v10.2.2.2.2.1,v10.2.2.2.2.2.1,v10.2.2.2.2.2.2.1,v10.2.2.2.2.2.2.2.1,v10.2.2.2.2.2.2.2.2.1,Vk,v10.2.1,v10.2.2.1,v10.2.2.2.1,Vk.1,Vk.2.1,Vk.2.2.1,Vk.2.2.2.1,Vk.2.2.2.2.1,v10.2.2.2.2.2.2.2.2.2.1,v10.2.2.2.2.2.2.2.2.2.2.1,v10.2.2.2.2.2.2.2.2.2.2.2.1,v10.2.2.2.2.2.2.2.2.2.2.2.2.1,v10.2.2.2.2.2.2.2.2.2.2.2.2.2.1,PUnit.unit)
abbrev Wf (v11:Jw):Prop:=(([]:List (Nat×Nat))= []/\(v11.2.2.2.2.1,v11.2.2.2.2.2.1,v11.2.2.2.2.2.2.1,v11.2.2.2.2.2.2.2.1,v11.2.2.2.2.2.2.2.2.1,())=(v11.2.2.2.2.1,v11.2.2.2.2.2.1,v11.2.2.2.2.2.2.1,v11.2.2.2.2.2.2.2.1,v11.2.2.2.2.2.2.2.2.1,PUnit.unit))
abbrev Wg (v10:Jw):Prop:=(([]:List (Nat×Nat))= []/\(v10.2.2.2.2.1,v10.2.2.2.2.2.1,v10.2.2.2.2.2.2.1,v10.2.2.2.2.2.2.2.1,v10.2.2.2.2.2.2.2.2.1,())=(v10.2.2.2.2.1,v10.2.2.2.2.2.1,v10.2.2.2.2.2.2.1,v10.2.2.2.2.2.2.2.1,v10.2.2.2.2.2.2.2.2.1,PUnit.unit))
abbrev oO (v11:Jw) (Iu:List Int) (Ga:Int) (Lu:Int) (Jx:(List Int×PUnit)×PUnit) (m:Nat) (ts:List (List Int×List (List Int)×List Int×Unit)) (Nb:List Int) (depth:Int) (s:List Int) (w:List Int) (Iv:Bool) (Ru:List Int) (Vk:(List Int×PUnit)×PUnit) (Ry:Zq):Prop:=(([]:List (Nat×Nat))= []/\(v11.2.1,v11.2.2.1,v11.2.2.2.1,())=(v11.2.1,v11.2.2.1,v11.2.2.2.1,PUnit.unit))/\(∃(Rz:Int),idx Iu v11.1=some Rz/\([]:List (Nat×Nat))= []/\(Rz,())=(Ga,PUnit.unit))/\(∃(Rz:Int),idx Iu v11.1=some Rz/\([]:List (Nat×Nat))= []/\(Rz,())=(Lu,PUnit.unit))/\(Wf v11)/\0=0/\Jx.1.1.length=Jx.1.1.length/\Jx.1.1.length+(List.take 1 (List.drop 0 [Lu])).length<=Be/\(([]:List (Nat×Nat))= []/\(v11.2.1,v11.2.2.1,v11.2.2.2.1,())=(v11.2.1,v11.2.2.1,v11.2.2.2.1,PUnit.unit))/\(∃(Rz:Int),idx Iu v11.1=some Rz/\([]:List (Nat×Nat))= []/\(Rz,())=(Ga,PUnit.unit))/\(∃(Rz:Int),idx Iu v11.1=some Rz/\([]:List (Nat×Nat))= []/\(Rz,())=(Lu,PUnit.unit))/\(Wf v11)/\(KJ m v11 ts Nb Jx Lu depth Iu Ga s w Iv Ru Vk Ry)
abbrev oP (v10:Jw) (y9:List Int) (Iv:Int) (Ga:Int) (Nb:(List Int×PUnit)×PUnit) (m:Nat) (ts:List (List Int×List (List Int)×List Int×Unit)) (Ry:List Int) (depth:Int) (s:List Int) (w:List Int) (fW:Bool) (Lu:List Int) (Ru:(List Int×PUnit)×PUnit) (Vk:Zq):Prop:=(([]:List (Nat×Nat))= []/\(v10.2.1,v10.2.2.1,v10.2.2.2.1,())=(v10.2.1,v10.2.2.1,v10.2.2.2.1,PUnit.unit))/\(∃(Jx:Int),idx y9 v10.1=some Jx/\([]:List (Nat×Nat))= []/\(Jx,())=(Iv,PUnit.unit))/\(∃(Jx:Int),idx y9 v10.1=some Jx/\([]:List (Nat×Nat))= []/\(Jx,())=(Ga,PUnit.unit))/\(Wg v10)/\0=0/\Nb.1.1.length=Nb.1.1.length/\Nb.1.1.length+(List.take 1 (List.drop 0 [Ga])).length<=Be/\(([]:List (Nat×Nat))= []/\(v10.2.1,v10.2.2.1,v10.2.2.2.1,())=(v10.2.1,v10.2.2.1,v10.2.2.2.1,PUnit.unit))/\(∃(Jx:Int),idx y9 v10.1=some Jx/\([]:List (Nat×Nat))= []/\(Jx,())=(Iv,PUnit.unit))/\(∃(Jx:Int),idx y9 v10.1=some Jx/\([]:List (Nat×Nat))= []/\(Jx,())=(Ga,PUnit.unit))/\(Wg v10)/\(KK m v10 ts Ry Nb Ga depth y9 Iv s w fW Lu Ru Vk)
abbrev Wh (v11:Jw):Prop:=(([]:List (Nat×Nat))= []/\(v11.2.1,v11.2.2.1,v11.2.2.2.1,())=(v11.2.1,v11.2.2.1,v11.2.2.2.1,PUnit.unit))
abbrev Wi (v10:Jw):Prop:=(([]:List (Nat×Nat))= []/\(v10.2.1,v10.2.2.1,v10.2.2.2.1,())=(v10.2.1,v10.2.2.1,v10.2.2.2.1,PUnit.unit))
abbrev oQ (Iu:List Int) (v11:Jw) (Ga:Int):Prop:=(∃(Jx:Int),idx Iu v11.1=some Jx/\([]:List (Nat×Nat))= []/\(Jx,())=(Ga,PUnit.unit))
abbrev kq (Iu:List Int) (v11:Jw) (Lu:Int):Prop:=(∃(Jx:Int),idx Iu v11.1=some Jx/\([]:List (Nat×Nat))= []/\(Jx,())=(Lu,PUnit.unit))
abbrev kr (y9:List Int) (v10:Jw) (Iv:Int):Prop:=(∃(Nb:Int),idx y9 v10.1=some Nb/\([]:List (Nat×Nat))= []/\(Nb,())=(Iv,PUnit.unit))
abbrev ku (y9:List Int) (v10:Jw) (Ga:Int):Prop:=(∃(Nb:Int),idx y9 v10.1=some Nb/\([]:List (Nat×Nat))= []/\(Nb,())=(Ga,PUnit.unit))
theorem Af2 {m:Nat} (p:Int×ByteArray×List (List Int)×Unit) (ts:List (List Int×List (List Int)×List Int×Unit)) (s w:List Int) (depth:Int) (v:Int×Int×List Int×Bool×Bool×Unit) (P:(Int×Int×List Int×Bool×Bool×Unit)->Prop):(Br (v.1==(20000:Int)) (P (v.1,v.2.1,v.2.2.1,true,v.2.2.2.2.1,())) (∃(y8:Int),fN.fn (ts,s,())=some y8/\Br (decide (IntKind.i64.wrap ((↑w.length:Int)+y8)>depth)) (P (IntKind.i64.wrap (v.1+(1:Int)),v.2.1,v.2.2.1,v.2.2.2.1,v.2.2.2.2.1,())) (Br ((↑w.length:Int)==depth) (∃(y9:List Int),Tc.fn (p.1,())=some y9/\ ∃(Iu:Bool),Ap.fn (s,y9,())=some Iu/\Br Iu (Br (v.2.1==(0:Int)) (∃(ir:(List Int×PUnit)×PUnit),Eg.fn (w,())=some ir/\P (IntKind.i64.wrap (v.1+(1:Int)),IntKind.i64.wrap (v.2.1+(1:Int)),List.take ir.1.1.length (List.drop 0 ir.1.1),v.2.2.2.1,v.2.2.2.2.1,())) (P (IntKind.i64.wrap (v.1+(1:Int)),IntKind.i64.wrap (v.2.1+(1:Int)),v.2.2.1,v.2.2.2.1,v.2.2.2.2.1,()))) (P (IntKind.i64.wrap (v.1+(1:Int)),v.2.1,v.2.2.1,v.2.2.2.1,v.2.2.2.2.1,()))) (Br (decide ((↑w.length:Int)>(0:Int))) (∃(y9:Int),idx w (IntKind.i64.wrap ((↑w.length:Int)-(1:Int)))=some y9/\ ∃(Iu:List Int),Zi.fn ((p.1,p.2.1,p.2.2.1,()),y9,())=some Iu/\0=0/\0=([]:List Int).length/\Bk (λ(v11:Jw) (k12:Jw->Prop)=>Br (decide (v11.1<(↑Iu.length:Int))) (∃(Iv:Bool),j9.fn ((v11.2.2.2.2.1,v11.2.2.2.2.2.1,v11.2.2.2.2.2.2.1,v11.2.2.2.2.2.2.2.1,v11.2.2.2.2.2.2.2.2.1,()),())=some Iv/\Br (!Iv) (∃(Ga:Int),idx Iu v11.1=some Ga/\ ∃(Lu:Int),idx Iu v11.1=some Lu/\ ∃(Ru:List Int),Ic.fn ((v11.2.1,v11.2.2.1,v11.2.2.2.1,()),s,Ga,())=some Ru/\ ∃(Vk:(List Int×PUnit)×PUnit),Eg.fn (w,())=some Vk/\0=0/\Vk.1.1.length=Vk.1.1.length/\Vk.1.1.length+(List.take 1 (List.drop 0 [Lu])).length<=Be/\ ∃(Ry:Zq),(Tl m).fn ((v11.2.1,v11.2.2.1,v11.2.2.2.1,()),ts,Ru,List.take (Vk.1.1++List.take 1 (List.drop 0 [Lu])).length (List.drop 0 (Vk.1.1++List.take 1 (List.drop 0 [Lu]))),depth,(v11.2.2.2.2.1,v11.2.2.2.2.2.1,v11.2.2.2.2.2.2.1,v11.2.2.2.2.2.2.2.1,v11.2.2.2.2.2.2.2.2.1,()),())=some Ry/\(0=0/\v11.2.2.2.2.2.2.2.2.2.2.2.2.2.1.length=v11.2.2.2.2.2.2.2.2.2.2.2.2.2.1.length/\k12 (IntKind.i64.wrap (v11.1+(1:Int)),v11.2.1,v11.2.2.1,v11.2.2.2.1,Ry.1,Ry.2.1,Ry.2.2.1,Ry.2.2.2.1,Ry.2.2.2.2.1,v11.2.2.2.2.2.2.2.2.2.1,v11.2.2.2.2.2.2.2.2.2.2.1,v11.2.2.2.2.2.2.2.2.2.2.2.1,v11.2.2.2.2.2.2.2.2.2.2.2.2.1,v11.2.2.2.2.2.2.2.2.2.2.2.2.2.1,()))/\(Wh v11)/\(Wh v11)/\(∃(Nb:Int),idx Iu v11.1=some Nb/\([]:List (Nat×Nat))= []/\(Nb,())=(Ga,PUnit.unit))/\(([]:List (Nat×Nat))= []/\(Ga,())=(Ga,PUnit.unit))/\(∃(Nb:Int),idx Iu v11.1=some Nb/\([]:List (Nat×Nat))= []/\(Nb,())=(Lu,PUnit.unit))/\(([]:List (Nat×Nat))= []/\(Lu,())=(Lu,PUnit.unit))/\(Wf v11)/\(∃(Nb:List Int),Ic.fn ((v11.2.1,v11.2.2.1,v11.2.2.2.1,()),s,Ga,())=some Nb/\(Wh v11)/\(oQ Iu v11 Ga)/\(kq Iu v11 Lu)/\(([]:List (Nat×Nat))= []/\(Lu,())=(Lu,PUnit.unit))/\(Wf v11)/\(∃(Jx:(List Int×PUnit)×PUnit),Eg.fn (w,())=some Jx/\(Wh v11)/\(∃(Rz:Int),idx Iu v11.1=some Rz/\([]:List (Nat×Nat))= []/\(Rz,())=(Ga,PUnit.unit))/\(∃(Rz:Int),idx Iu v11.1=some Rz/\([]:List (Nat×Nat))= []/\(Rz,())=(Lu,PUnit.unit))/\(([]:List (Nat×Nat))= []/\(Lu,())=(Lu,PUnit.unit))/\(Wf v11)/\(oO v11 Iu Ga Lu Jx m ts Nb depth s w Iv Ru Vk Ry))/\(Wh v11)/\(oQ Iu v11 Ga)/\(kq Iu v11 Lu)/\(Wf v11)/\ ∃(Jx:(List Int×PUnit)×PUnit),Eg.fn (w,())=some Jx/\(oO v11 Iu Ga Lu Jx m ts Nb depth s w Iv Ru Vk Ry))/\(Wh v11)/\(Wh v11)/\(∃(Nb:Int),idx Iu v11.1=some Nb/\([]:List (Nat×Nat))= []/\(Nb,())=(Ga,PUnit.unit))/\(([]:List (Nat×Nat))= []/\(Ga,())=(Ga,PUnit.unit))/\(∃(Nb:Int),idx Iu v11.1=some Nb/\([]:List (Nat×Nat))= []/\(Nb,())=(Lu,PUnit.unit))/\(Wf v11)/\ ∃(Nb:List Int),Ic.fn ((v11.2.1,v11.2.2.1,v11.2.2.2.1,()),s,Ga,())=some Nb/\(Wh v11)/\(oQ Iu v11 Ga)/\(kq Iu v11 Lu)/\(Wf v11)/\ ∃(Jx:(List Int×PUnit)×PUnit),Eg.fn (w,())=some Jx/\(oO v11 Iu Ga Lu Jx m ts Nb depth s w Iv Ru Vk Ry)) (P (v11.2.2.2.2.1,v11.2.2.2.2.2.1,v11.2.2.2.2.2.2.1,v11.2.2.2.2.2.2.2.1,v11.2.2.2.2.2.2.2.2.1,()))) (P (v11.2.2.2.2.1,v11.2.2.2.2.2.1,v11.2.2.2.2.2.2.1,v11.2.2.2.2.2.2.2.1,v11.2.2.2.2.2.2.2.2.1,()))) ((0:Int),p.1,p.2.1,p.2.2.1,IntKind.i64.wrap (v.1+(1:Int)),v.2.1,v.2.2.1,v.2.2.2.1,v.2.2.2.2.1,Int.ofNat (nat_lit 0),Int.ofNat (nat_lit 0),false,false,[],PUnit.unit)) (∃(y9:List Int),Zi.fn ((p.1,p.2.1,p.2.2.1,()),(0:Int),())=some y9/\0=0/\0=([]:List Int).length/\Bk (λ(v10:Jw) (k11:Jw->Prop)=>Br (decide (v10.1<(↑y9.length:Int))) (∃(fW:Bool),j9.fn ((v10.2.2.2.2.1,v10.2.2.2.2.2.1,v10.2.2.2.2.2.2.1,v10.2.2.2.2.2.2.2.1,v10.2.2.2.2.2.2.2.2.1,()),())=some fW/\Br (!fW) (∃(Iv:Int),idx y9 v10.1=some Iv/\ ∃(Ga:Int),idx y9 v10.1=some Ga/\ ∃(Lu:List Int),Ic.fn ((v10.2.1,v10.2.2.1,v10.2.2.2.1,()),s,Iv,())=some Lu/\ ∃(Ru:(List Int×PUnit)×PUnit),Eg.fn (w,())=some Ru/\0=0/\Ru.1.1.length=Ru.1.1.length/\Ru.1.1.length+(List.take 1 (List.drop 0 [Ga])).length<=Be/\ ∃(Vk:Zq),(Tl m).fn ((v10.2.1,v10.2.2.1,v10.2.2.2.1,()),ts,Lu,List.take (Ru.1.1++List.take 1 (List.drop 0 [Ga])).length (List.drop 0 (Ru.1.1++List.take 1 (List.drop 0 [Ga]))),depth,(v10.2.2.2.2.1,v10.2.2.2.2.2.1,v10.2.2.2.2.2.2.1,v10.2.2.2.2.2.2.2.1,v10.2.2.2.2.2.2.2.2.1,()),())=some Vk/\(0=0/\v10.2.2.2.2.2.2.2.2.2.2.2.2.2.1.length=v10.2.2.2.2.2.2.2.2.2.2.2.2.2.1.length/\k11 (IntKind.i64.wrap (v10.1+(1:Int)),v10.2.1,v10.2.2.1,v10.2.2.2.1,Vk.1,Vk.2.1,Vk.2.2.1,Vk.2.2.2.1,Vk.2.2.2.2.1,v10.2.2.2.2.2.2.2.2.2.1,v10.2.2.2.2.2.2.2.2.2.2.1,v10.2.2.2.2.2.2.2.2.2.2.2.1,v10.2.2.2.2.2.2.2.2.2.2.2.2.1,v10.2.2.2.2.2.2.2.2.2.2.2.2.2.1,()))/\(Wi v10)/\(Wi v10)/\(∃(Ry:Int),idx y9 v10.1=some Ry/\([]:List (Nat×Nat))= []/\(Ry,())=(Iv,PUnit.unit))/\(([]:List (Nat×Nat))= []/\(Iv,())=(Iv,PUnit.unit))/\(∃(Ry:Int),idx y9 v10.1=some Ry/\([]:List (Nat×Nat))= []/\(Ry,())=(Ga,PUnit.unit))/\(([]:List (Nat×Nat))= []/\(Ga,())=(Ga,PUnit.unit))/\(Wg v10)/\(∃(Ry:List Int),Ic.fn ((v10.2.1,v10.2.2.1,v10.2.2.2.1,()),s,Iv,())=some Ry/\(Wi v10)/\(kr y9 v10 Iv)/\(ku y9 v10 Ga)/\(([]:List (Nat×Nat))= []/\(Ga,())=(Ga,PUnit.unit))/\(Wg v10)/\(∃(Nb:(List Int×PUnit)×PUnit),Eg.fn (w,())=some Nb/\(Wi v10)/\(∃(Jx:Int),idx y9 v10.1=some Jx/\([]:List (Nat×Nat))= []/\(Jx,())=(Iv,PUnit.unit))/\(∃(Jx:Int),idx y9 v10.1=some Jx/\([]:List (Nat×Nat))= []/\(Jx,())=(Ga,PUnit.unit))/\(([]:List (Nat×Nat))= []/\(Ga,())=(Ga,PUnit.unit))/\(Wg v10)/\(oP v10 y9 Iv Ga Nb m ts Ry depth s w fW Lu Ru Vk))/\(Wi v10)/\(kr y9 v10 Iv)/\(ku y9 v10 Ga)/\(Wg v10)/\ ∃(Nb:(List Int×PUnit)×PUnit),Eg.fn (w,())=some Nb/\(oP v10 y9 Iv Ga Nb m ts Ry depth s w fW Lu Ru Vk))/\(Wi v10)/\(Wi v10)/\(∃(Ry:Int),idx y9 v10.1=some Ry/\([]:List (Nat×Nat))= []/\(Ry,())=(Iv,PUnit.unit))/\(([]:List (Nat×Nat))= []/\(Iv,())=(Iv,PUnit.unit))/\(∃(Ry:Int),idx y9 v10.1=some Ry/\([]:List (Nat×Nat))= []/\(Ry,())=(Ga,PUnit.unit))/\(Wg v10)/\ ∃(Ry:List Int),Ic.fn ((v10.2.1,v10.2.2.1,v10.2.2.2.1,()),s,Iv,())=some Ry/\(Wi v10)/\(kr y9 v10 Iv)/\(ku y9 v10 Ga)/\(Wg v10)/\ ∃(Nb:(List Int×PUnit)×PUnit),Eg.fn (w,())=some Nb/\(oP v10 y9 Iv Ga Nb m ts Ry depth s w fW Lu Ru Vk)) (P (v10.2.2.2.2.1,v10.2.2.2.2.2.1,v10.2.2.2.2.2.2.1,v10.2.2.2.2.2.2.2.1,v10.2.2.2.2.2.2.2.2.1,()))) (P (v10.2.2.2.2.1,v10.2.2.2.2.2.1,v10.2.2.2.2.2.2.1,v10.2.2.2.2.2.2.2.1,v10.2.2.2.2.2.2.2.2.1,()))) ((0:Int),p.1,p.2.1,p.2.2.1,IntKind.i64.wrap (v.1+(1:Int)),v.2.1,v.2.2.1,v.2.2.2.1,v.2.2.2.2.1,Int.ofNat (nat_lit 0),Int.ofNat (nat_lit 0),false,false,[],PUnit.unit))))))=fnW VN (look [(48,fN),(115,Tc),(101,Ap),(116,Eg),(117,Zi),(118,Ic),(92,j9),(89,Ql.q (Tl m))]) (Tl (m+1)) Tryz.f89 (p,ts,s,w,depth,v,()) P:=by kernel_rfl
abbrev Uu:Type:=Int×List Int×Int×ByteArray×List (List Int)×Option (List (List Int×List (List Int)×List Int×PUnit)×List (ByteArray->Option Int)×PUnit)×Int×Bool×Int×Int×Bool×PUnit
abbrev l5:Type:=(Int×ByteArray×List (List Int)×Option (List (List Int×List (List Int)×List Int×PUnit)×List (ByteArray->Option Int)×PUnit)×Int×Bool×List Int×Int×Int×Bool×Bool×PUnit)×PUnit
theorem ZQ {m:Nat} (n:Int) (str:ByteArray) (g:List (List Int)) (b:Option (List (List Int×List (List Int)×List Int×Unit)×List (ByteArray->Option Int)×Unit)) (Bw:Int) (every:Bool) (w:List Int) (nodes found:Int) (ab:Bool) (x:List Int) (P:((Int×ByteArray×List (List Int)×Option BB×Int×Bool×List Int×Int×Int×Bool×Bool×Unit)×Unit)->Prop):(Br (nodes==(20000:Int)) (P ((n,str,g,b,Bw,every,List.take w.length (List.drop 0 w),nodes,found,true,true,()),())) (∃(Iv:Int),Nx.fn (List.take w.length (List.drop 0 w),())=some Iv/\ ∃(Ga:Int),fO.fn (b,x,())=some Ga/\Br (decide (IntKind.i64.wrap (Iv+Ga)>Bw)) (P ((n,str,g,b,Bw,every,List.take w.length (List.drop 0 w),IntKind.i64.wrap (nodes+(1:Int)),found,ab,false,()),())) (∃(Lu:Bool),mh.fn (x,())=some Lu/\Br Lu (Br (Iv==Bw) (P ((n,str,g,b,Bw,every,List.take w.length (List.drop 0 w),IntKind.i64.wrap (nodes+(1:Int)),IntKind.i64.wrap (found+(1:Int)),ab,!every,()),())) (Br (Iv==Bw) (P ((n,str,g,b,Bw,every,List.take w.length (List.drop 0 w),IntKind.i64.wrap (nodes+(1:Int)),found,ab,false,()),())) (Br (decide (Iv>(0:Int))) (((0:Int)<=IntKind.i64.wrap (Iv-(1:Int))/\IntKind.i64.wrap (Iv-(1:Int))<(↑w.length:Int))/\ ∃(Ru:Int),w[0+(IntKind.i64.wrap (Iv-(1:Int))).toNat]?=some Ru/\ ∃(Vk:List Int),Hs.fn ((↑g.length:Int),())=some Vk/\0=0/\(List.take w.length (List.drop 0 w)).length=(List.take w.length (List.drop 0 w)).length/\Bk (λ(Iq:Uu) (k19:Uu->Prop)=>Br (decide (Iq.1<(↑Vk.length:Int))) (∃(Jx:Int),idx Vk Iq.1=some Jx/\Br (Jx==IntKind.i64.wrap ((0:Int)-Ru)) (0=0/\(List.take Iq.2.1.length (List.drop 0 Iq.2.1)).length=(List.take Iq.2.1.length (List.drop 0 Iq.2.1)).length/\k19 (IntKind.i64.wrap (Iq.1+(1:Int)),List.take Iq.2.1.length (List.drop 0 Iq.2.1),Iq.2.2.1,Iq.2.2.2.1,Iq.2.2.2.2.1,Iq.2.2.2.2.2.1,Iq.2.2.2.2.2.2.1,Iq.2.2.2.2.2.2.2.1,Iq.2.2.2.2.2.2.2.2.1,Iq.2.2.2.2.2.2.2.2.2.1,Iq.2.2.2.2.2.2.2.2.2.2.1,())) (0=0/\Iq.2.1.length=Iq.2.1.length/\Iq.2.1.length+(List.take 1 (List.drop 0 [Jx])).length<=Be/\ ∃(Rz:List Int),Gx.fn (Iq.2.2.2.2.1,Jx,())=some Rz/\ ∃(Om:List Int),Ix.fn (x,Rz,())=some Om/\0=0/\(Iq.2.1++List.take 1 (List.drop 0 [Jx])).length=(Iq.2.1++List.take 1 (List.drop 0 [Jx])).length/\ ∃(Uy:l5),(Ov m).fn (Iq.2.2.1,Iq.2.2.2.1,Iq.2.2.2.2.1,Iq.2.2.2.2.2.1,Iq.2.2.2.2.2.2.1,Iq.2.2.2.2.2.2.2.1,Iq.2.1++List.take 1 (List.drop 0 [Jx]),Iq.2.2.2.2.2.2.2.2.1,Iq.2.2.2.2.2.2.2.2.2.1,Iq.2.2.2.2.2.2.2.2.2.2.1,Om,())=some Uy/\Br Uy.1.2.2.2.2.2.2.2.2.2.2.1 (P ((Uy.1.1,Uy.1.2.1,Uy.1.2.2.1,Uy.1.2.2.2.1,Uy.1.2.2.2.2.1,Uy.1.2.2.2.2.2.1,List.take Uy.1.2.2.2.2.2.2.1.length (List.drop 0 Uy.1.2.2.2.2.2.2.1),Uy.1.2.2.2.2.2.2.2.1,Uy.1.2.2.2.2.2.2.2.2.1,Uy.1.2.2.2.2.2.2.2.2.2.1,true,()),())) (((0:Int)<=(0:Int)/\(0:Int)<=Iv/\Iv<=(↑Uy.1.2.2.2.2.2.2.1.length:Int))/\0=0/\(List.take (Iv.toNat-Int.toNat (0:Int)) (List.drop (0+Int.toNat (0:Int)) Uy.1.2.2.2.2.2.2.1)).length=(List.take (Iv.toNat-Int.toNat (0:Int)) (List.drop (0+Int.toNat (0:Int)) Uy.1.2.2.2.2.2.2.1)).length/\k19 (IntKind.i64.wrap (Iq.1+(1:Int)),List.take (Iv.toNat-Int.toNat (0:Int)) (List.drop (0+Int.toNat (0:Int)) Uy.1.2.2.2.2.2.2.1),Uy.1.1,Uy.1.2.1,Uy.1.2.2.1,Uy.1.2.2.2.1,Uy.1.2.2.2.2.1,Uy.1.2.2.2.2.2.1,Uy.1.2.2.2.2.2.2.2.1,Uy.1.2.2.2.2.2.2.2.2.1,Uy.1.2.2.2.2.2.2.2.2.2.1,())))) (P ((Iq.2.2.1,Iq.2.2.2.1,Iq.2.2.2.2.1,Iq.2.2.2.2.2.1,Iq.2.2.2.2.2.2.1,Iq.2.2.2.2.2.2.2.1,List.take Iq.2.1.length (List.drop 0 Iq.2.1),Iq.2.2.2.2.2.2.2.2.1,Iq.2.2.2.2.2.2.2.2.2.1,Iq.2.2.2.2.2.2.2.2.2.2.1,false,()),()))) ((0:Int),List.take w.length (List.drop 0 w),n,str,g,b,Bw,every,IntKind.i64.wrap (nodes+(1:Int)),found,ab,PUnit.unit)) (∃(Ru:List Int),Hs.fn ((↑g.length:Int),())=some Ru/\0=0/\(List.take w.length (List.drop 0 w)).length=(List.take w.length (List.drop 0 w)).length/\Bk (λ(Ip:Uu) (k18:Uu->Prop)=>Br (decide (Ip.1<(↑Ru.length:Int))) (∃(Nb:Int),idx Ru Ip.1=some Nb/\Br (Nb==IntKind.i64.wrap ((0:Int)-(0:Int))) (0=0/\(List.take Ip.2.1.length (List.drop 0 Ip.2.1)).length=(List.take Ip.2.1.length (List.drop 0 Ip.2.1)).length/\k18 (IntKind.i64.wrap (Ip.1+(1:Int)),List.take Ip.2.1.length (List.drop 0 Ip.2.1),Ip.2.2.1,Ip.2.2.2.1,Ip.2.2.2.2.1,Ip.2.2.2.2.2.1,Ip.2.2.2.2.2.2.1,Ip.2.2.2.2.2.2.2.1,Ip.2.2.2.2.2.2.2.2.1,Ip.2.2.2.2.2.2.2.2.2.1,Ip.2.2.2.2.2.2.2.2.2.2.1,())) (0=0/\Ip.2.1.length=Ip.2.1.length/\Ip.2.1.length+(List.take 1 (List.drop 0 [Nb])).length<=Be/\ ∃(Jx:List Int),Gx.fn (Ip.2.2.2.2.1,Nb,())=some Jx/\ ∃(Rz:List Int),Ix.fn (x,Jx,())=some Rz/\0=0/\(Ip.2.1++List.take 1 (List.drop 0 [Nb])).length=(Ip.2.1++List.take 1 (List.drop 0 [Nb])).length/\ ∃(Om:l5),(Ov m).fn (Ip.2.2.1,Ip.2.2.2.1,Ip.2.2.2.2.1,Ip.2.2.2.2.2.1,Ip.2.2.2.2.2.2.1,Ip.2.2.2.2.2.2.2.1,Ip.2.1++List.take 1 (List.drop 0 [Nb]),Ip.2.2.2.2.2.2.2.2.1,Ip.2.2.2.2.2.2.2.2.2.1,Ip.2.2.2.2.2.2.2.2.2.2.1,Rz,())=some Om/\Br Om.1.2.2.2.2.2.2.2.2.2.2.1 (P ((Om.1.1,Om.1.2.1,Om.1.2.2.1,Om.1.2.2.2.1,Om.1.2.2.2.2.1,Om.1.2.2.2.2.2.1,List.take Om.1.2.2.2.2.2.2.1.length (List.drop 0 Om.1.2.2.2.2.2.2.1),Om.1.2.2.2.2.2.2.2.1,Om.1.2.2.2.2.2.2.2.2.1,Om.1.2.2.2.2.2.2.2.2.2.1,true,()),())) (((0:Int)<=(0:Int)/\(0:Int)<=Iv/\Iv<=(↑Om.1.2.2.2.2.2.2.1.length:Int))/\0=0/\(List.take (Iv.toNat-Int.toNat (0:Int)) (List.drop (0+Int.toNat (0:Int)) Om.1.2.2.2.2.2.2.1)).length=(List.take (Iv.toNat-Int.toNat (0:Int)) (List.drop (0+Int.toNat (0:Int)) Om.1.2.2.2.2.2.2.1)).length/\k18 (IntKind.i64.wrap (Ip.1+(1:Int)),List.take (Iv.toNat-Int.toNat (0:Int)) (List.drop (0+Int.toNat (0:Int)) Om.1.2.2.2.2.2.2.1),Om.1.1,Om.1.2.1,Om.1.2.2.1,Om.1.2.2.2.1,Om.1.2.2.2.2.1,Om.1.2.2.2.2.2.1,Om.1.2.2.2.2.2.2.2.1,Om.1.2.2.2.2.2.2.2.2.1,Om.1.2.2.2.2.2.2.2.2.2.1,())))) (P ((Ip.2.2.1,Ip.2.2.2.1,Ip.2.2.2.2.1,Ip.2.2.2.2.2.1,Ip.2.2.2.2.2.2.1,Ip.2.2.2.2.2.2.2.1,List.take Ip.2.1.length (List.drop 0 Ip.2.1),Ip.2.2.2.2.2.2.2.2.1,Ip.2.2.2.2.2.2.2.2.2.1,Ip.2.2.2.2.2.2.2.2.2.2.1,false,()),()))) ((0:Int),List.take w.length (List.drop 0 w),n,str,g,b,Bw,every,IntKind.i64.wrap (nodes+(1:Int)),found,ab,PUnit.unit))))) (Br (Iv==Bw) (P ((n,str,g,b,Bw,every,List.take w.length (List.drop 0 w),IntKind.i64.wrap (nodes+(1:Int)),found,ab,false,()),())) (Br (decide (Iv>(0:Int))) (((0:Int)<=IntKind.i64.wrap (Iv-(1:Int))/\IntKind.i64.wrap (Iv-(1:Int))<(↑w.length:Int))/\ ∃(Ru:Int),w[0+(IntKind.i64.wrap (Iv-(1:Int))).toNat]?=some Ru/\ ∃(Vk:List Int),Hs.fn ((↑g.length:Int),())=some Vk/\0=0/\(List.take w.length (List.drop 0 w)).length=(List.take w.length (List.drop 0 w)).length/\Bk (λ(Iq:Uu) (k19:Uu->Prop)=>Br (decide (Iq.1<(↑Vk.length:Int))) (∃(Jx:Int),idx Vk Iq.1=some Jx/\Br (Jx==IntKind.i64.wrap ((0:Int)-Ru)) (0=0/\(List.take Iq.2.1.length (List.drop 0 Iq.2.1)).length=(List.take Iq.2.1.length (List.drop 0 Iq.2.1)).length/\k19 (IntKind.i64.wrap (Iq.1+(1:Int)),List.take Iq.2.1.length (List.drop 0 Iq.2.1),Iq.2.2.1,Iq.2.2.2.1,Iq.2.2.2.2.1,Iq.2.2.2.2.2.1,Iq.2.2.2.2.2.2.1,Iq.2.2.2.2.2.2.2.1,Iq.2.2.2.2.2.2.2.2.1,Iq.2.2.2.2.2.2.2.2.2.1,Iq.2.2.2.2.2.2.2.2.2.2.1,())) (0=0/\Iq.2.1.length=Iq.2.1.length/\Iq.2.1.length+(List.take 1 (List.drop 0 [Jx])).length<=Be/\ ∃(Rz:List Int),Gx.fn (Iq.2.2.2.2.1,Jx,())=some Rz/\ ∃(Om:List Int),Ix.fn (x,Rz,())=some Om/\0=0/\(Iq.2.1++List.take 1 (List.drop 0 [Jx])).length=(Iq.2.1++List.take 1 (List.drop 0 [Jx])).length/\ ∃(Uy:l5),(Ov m).fn (Iq.2.2.1,Iq.2.2.2.1,Iq.2.2.2.2.1,Iq.2.2.2.2.2.1,Iq.2.2.2.2.2.2.1,Iq.2.2.2.2.2.2.2.1,Iq.2.1++List.take 1 (List.drop 0 [Jx]),Iq.2.2.2.2.2.2.2.2.1,Iq.2.2.2.2.2.2.2.2.2.1,Iq.2.2.2.2.2.2.2.2.2.2.1,Om,())=some Uy/\Br Uy.1.2.2.2.2.2.2.2.2.2.2.1 (P ((Uy.1.1,Uy.1.2.1,Uy.1.2.2.1,Uy.1.2.2.2.1,Uy.1.2.2.2.2.1,Uy.1.2.2.2.2.2.1,List.take Uy.1.2.2.2.2.2.2.1.length (List.drop 0 Uy.1.2.2.2.2.2.2.1),Uy.1.2.2.2.2.2.2.2.1,Uy.1.2.2.2.2.2.2.2.2.1,Uy.1.2.2.2.2.2.2.2.2.2.1,true,()),())) (((0:Int)<=(0:Int)/\(0:Int)<=Iv/\Iv<=(↑Uy.1.2.2.2.2.2.2.1.length:Int))/\0=0/\(List.take (Iv.toNat-Int.toNat (0:Int)) (List.drop (0+Int.toNat (0:Int)) Uy.1.2.2.2.2.2.2.1)).length=(List.take (Iv.toNat-Int.toNat (0:Int)) (List.drop (0+Int.toNat (0:Int)) Uy.1.2.2.2.2.2.2.1)).length/\k19 (IntKind.i64.wrap (Iq.1+(1:Int)),List.take (Iv.toNat-Int.toNat (0:Int)) (List.drop (0+Int.toNat (0:Int)) Uy.1.2.2.2.2.2.2.1),Uy.1.1,Uy.1.2.1,Uy.1.2.2.1,Uy.1.2.2.2.1,Uy.1.2.2.2.2.1,Uy.1.2.2.2.2.2.1,Uy.1.2.2.2.2.2.2.2.1,Uy.1.2.2.2.2.2.2.2.2.1,Uy.1.2.2.2.2.2.2.2.2.2.1,())))) (P ((Iq.2.2.1,Iq.2.2.2.1,Iq.2.2.2.2.1,Iq.2.2.2.2.2.1,Iq.2.2.2.2.2.2.1,Iq.2.2.2.2.2.2.2.1,List.take Iq.2.1.length (List.drop 0 Iq.2.1),Iq.2.2.2.2.2.2.2.2.1,Iq.2.2.2.2.2.2.2.2.2.1,Iq.2.2.2.2.2.2.2.2.2.2.1,false,()),()))) ((0:Int),List.take w.length (List.drop 0 w),n,str,g,b,Bw,every,IntKind.i64.wrap (nodes+(1:Int)),found,ab,PUnit.unit)) (∃(Ru:List Int),Hs.fn ((↑g.length:Int),())=some Ru/\0=0/\(List.take w.length (List.drop 0 w)).length=(List.take w.length (List.drop 0 w)).length/\Bk (λ(Ip:Uu) (k18:Uu->Prop)=>Br (decide (Ip.1<(↑Ru.length:Int))) (∃(Nb:Int),idx Ru Ip.1=some Nb/\Br (Nb==IntKind.i64.wrap ((0:Int)-(0:Int))) (0=0/\(List.take Ip.2.1.length (List.drop 0 Ip.2.1)).length=(List.take Ip.2.1.length (List.drop 0 Ip.2.1)).length/\k18 (IntKind.i64.wrap (Ip.1+(1:Int)),List.take Ip.2.1.length (List.drop 0 Ip.2.1),Ip.2.2.1,Ip.2.2.2.1,Ip.2.2.2.2.1,Ip.2.2.2.2.2.1,Ip.2.2.2.2.2.2.1,Ip.2.2.2.2.2.2.2.1,Ip.2.2.2.2.2.2.2.2.1,Ip.2.2.2.2.2.2.2.2.2.1,Ip.2.2.2.2.2.2.2.2.2.2.1,())) (0=0/\Ip.2.1.length=Ip.2.1.length/\Ip.2.1.length+(List.take 1 (List.drop 0 [Nb])).length<=Be/\ ∃(Jx:List Int),Gx.fn (Ip.2.2.2.2.1,Nb,())=some Jx/\ ∃(Rz:List Int),Ix.fn (x,Jx,())=some Rz/\0=0/\(Ip.2.1++List.take 1 (List.drop 0 [Nb])).length=(Ip.2.1++List.take 1 (List.drop 0 [Nb])).length/\ ∃(Om:l5),(Ov m).fn (Ip.2.2.1,Ip.2.2.2.1,Ip.2.2.2.2.1,Ip.2.2.2.2.2.1,Ip.2.2.2.2.2.2.1,Ip.2.2.2.2.2.2.2.1,Ip.2.1++List.take 1 (List.drop 0 [Nb]),Ip.2.2.2.2.2.2.2.2.1,Ip.2.2.2.2.2.2.2.2.2.1,Ip.2.2.2.2.2.2.2.2.2.2.1,Rz,())=some Om/\Br Om.1.2.2.2.2.2.2.2.2.2.2.1 (P ((Om.1.1,Om.1.2.1,Om.1.2.2.1,Om.1.2.2.2.1,Om.1.2.2.2.2.1,Om.1.2.2.2.2.2.1,List.take Om.1.2.2.2.2.2.2.1.length (List.drop 0 Om.1.2.2.2.2.2.2.1),Om.1.2.2.2.2.2.2.2.1,Om.1.2.2.2.2.2.2.2.2.1,Om.1.2.2.2.2.2.2.2.2.2.1,true,()),())) (((0:Int)<=(0:Int)/\(0:Int)<=Iv/\Iv<=(↑Om.1.2.2.2.2.2.2.1.length:Int))/\0=0/\(List.take (Iv.toNat-Int.toNat (0:Int)) (List.drop (0+Int.toNat (0:Int)) Om.1.2.2.2.2.2.2.1)).length=(List.take (Iv.toNat-Int.toNat (0:Int)) (List.drop (0+Int.toNat (0:Int)) Om.1.2.2.2.2.2.2.1)).length/\k18 (IntKind.i64.wrap (Ip.1+(1:Int)),List.take (Iv.toNat-Int.toNat (0:Int)) (List.drop (0+Int.toNat (0:Int)) Om.1.2.2.2.2.2.2.1),Om.1.1,Om.1.2.1,Om.1.2.2.1,Om.1.2.2.2.1,Om.1.2.2.2.2.1,Om.1.2.2.2.2.2.1,Om.1.2.2.2.2.2.2.2.1,Om.1.2.2.2.2.2.2.2.2.1,Om.1.2.2.2.2.2.2.2.2.2.1,())))) (P ((Ip.2.2.1,Ip.2.2.2.1,Ip.2.2.2.2.1,Ip.2.2.2.2.2.1,Ip.2.2.2.2.2.2.1,Ip.2.2.2.2.2.2.2.1,List.take Ip.2.1.length (List.drop 0 Ip.2.1),Ip.2.2.2.2.2.2.2.2.1,Ip.2.2.2.2.2.2.2.2.2.1,Ip.2.2.2.2.2.2.2.2.2.2.1,false,()),()))) ((0:Int),List.take w.length (List.drop 0 w),n,str,g,b,Bw,every,IntKind.i64.wrap (nodes+(1:Int)),found,ab,PUnit.unit)))))))=fnMW (HS [jz+6]) (look [(119,Nx),(52,fO),(120,mh),(106,Hs),(122,Gx),(121,Ix),(91,Ql.m (Ov m))]) (Ov (m+1)) Tryz.f91 (n,str,g,b,Bw,every,w,nodes,found,ab,x,()) P:=by kernel_rfl
theorem Adz (s:List Int) (h:short s):fnW Cd (look []) mh Tryz.f120 (s,()) (λ(z:Bool)=>z=a9 s):=by
 unfold short at h
 refine Eq.mp (Aes s _) ?_
 refine Ag s.length (λv=>v.1) (λj _=> ∀i (hi:i<s.length),i<j->s[i]=(i:Int)) rfl (λi _ h=>absurd h (by omega)) ?_
 rintro j ⟨i,⟨⟩⟩ K hj hi hR hK
 dsimp only at hi⊢
 subst hi
 refine Br.dec (λhl=>?_) λhl=>?_
 ·have hl:j<s.length:=by omega
  refine ⟨_,Aq hl,Br.of (λhb=>?_) λhb=>?_⟩
  ·have hb:(j:Int)≠s[j]:=by simpa using hb
   show false=a9 s
   unfold a9
   refine (decide_eq_false λe=>hb ?_).symm
   have:(upto s.length)[j]?=some (j:Int):=by rw [eS hl]
   rw [<-e,List.getElem?_eq_getElem hl] at this
   exact (Option.some.inj this).symm
  ·have hb:(j:Int)=s[j]:=by simpa using hb
   rw [Ah (by omega)]
   refine hK hl _ rfl λi hi dN=>?_
   by_cases e:i=j
   ·subst e;exact hb.symm
   ·exact hR i hi (by omega)
 ·have:j=s.length:=by omega
  subst this
  show true=a9 s
  unfold a9
  refine (decide_eq_true (List.ext_getElem (by rw [eT]) λi h1 h2=>?_)).symm
  rw [hR i h1 h1]
  have:(upto s.length)[i]?=some (i:Int):=by rw [eS h1]
  rw [List.getElem?_eq_getElem h2] at this
  exact (Option.some.inj this).symm
theorem HH:Sound Tryz.prog 120 mh:=
 Sound.Cg Bi Aj mixed Tryz.func120 (by kernel_rfl) (by kernel_rfl) λx h=>Adz x.1 h
theorem Adv (v:DS) (_:True):fnW Cd (look []) j9 Tryz.f92 (v,()) (λ(z:Bool)=>z=Ir v):=by
 refine Eq.mp (Aeo v _) ?_
 unfold Ir
 refine Br.of (λh=>by rw [h];rfl) λh=>?_
 rw [h,Bool.false_or]
 refine Br.of (λh=>?_) λh=>?_
 ·rw [show decide (0<v.2.1)=true from h,Bool.true_and]
 ·rw [show decide (0<v.2.1)=false from h,Bool.false_and]
theorem HE:Sound Tryz.prog 92 j9:=
 Sound.Cg Bi Aj mixed Tryz.func92 (by kernel_rfl) (by kernel_rfl) λx h=>Adv x.1 h
theorem ug {p:PP} {ts:List TT} {s:List Int} {l:Int} (h:Jm p ts s=true) (hl:Es (List.length p.2.2.1) l):Jm p ts (Me p.2.2.1 s l)=true:=by
 obtain ⟨_,_,hr⟩:=lN h
 obtain ⟨hv,hp,hg⟩:=kA hr
 have hm:l∈Af p.2.2.1.length:=by
  obtain ⟨k,hk,rfl|rfl⟩:=Ni hl
  ·exact (Pv hk).1
  ·exact (Pv hk).2
 unfold Jm at h⊢
 obtain ⟨_,h2⟩:=Bool.and_eq_true_iff.1 h
 exact Bool.and_eq_true_iff.2 ⟨RC hv (FA hg hm),h2⟩
theorem zc {p:PP} {ts:List TT} {s:List Int} (h:Jm p ts s=true):Valid p/\s.length=p.1.toNat/\s.length<=20/\(∀y∈s,0<=y/\y<p.1)/\Uz ts/\Zv ts s:=by
 obtain ⟨ha,hb,hr⟩:=lN h
 obtain ⟨hv,hp,hg⟩:=kA hr
 have hV:=valid hv
 have hn:=hV.n
 have h1:=hp.1
 exact ⟨hV,h1,by omega,λy hy=>by have:=hp.row y hy;omega,ha,hb⟩
theorem iV {w:List Int} (h:0<w.length):w[w.length-1]?=some (Is w):=by
 unfold Is
 rw [List.getLastD_eq_getLast?,List.getLast?_eq_getElem?]
 cases hw:w[w.length-1]? with
 |none=>rw [List.getElem?_eq_none_iff] at hw;omega
 |some x=>rfl
theorem qg {w:List Int} {n:Nat} (hn:n<=8) (h: ∀l∈w,Es n l): -8<=Is w/\Is w<=8:=by
 cases hw:w with
 |nil=>simp [Is]
 |cons a r=>
  have hp:0<w.length:=by rw [hw];simp
  have:=h _ (List.mem_of_getElem? (iV hp))
  rw [hw] at this
  unfold Es at this
  omega
theorem YW {m:Nat} (n:Int) (str:ByteArray) (g:List (List Int)) (b:Option BB) (Bw:Int) (every:Bool) (w:List Int) (nodes found:Int) (ab:Bool) (x:List Int)
  (h:vG n str g b Bw w nodes found x/\(Bw-w.length).toNat<m+1):
  fnMW (HS [jz+6]) (look [(119,Nx),(52,fO),(120,mh),(106,Hs),(122,Gx),(121,Ix),(91,Ql.m (Ov m))]) (Ov (m+1)) Tryz.f91 (n,str,g,b,Bw,every,w,nodes,found,ab,x,()) (λ(z:(Int×ByteArray×List (List Int)×Option BB×Int×Bool×List Int×Int×Int×Bool×Bool×Unit)×Unit)=>z=(dY n str g b Bw every (o5 n g b Bw every w nodes found ab x),())):=by
 obtain ⟨⟨ts,rfl,hh,Acp,MH,lO,⟨hn0,hn1⟩,hf0,hf1⟩,hm⟩:=h
 obtain ⟨hV,SI,Anh,SJ,ha,hb⟩:=zc hh
 have hN:=hV.n
 have SJ: ∀y∈x,0<=y/\y<n:=SJ
 have gf:1<=g.length/\g.length<=8:=hV.so
 have Amh:=KF ha hb
 have hbd:PZ (some (Cq ts)) x:=⟨ts,ha,rfl,hb⟩
 have hid:a9 x=decide (x=upto n.toNat):=by unfold a9;rw [SI]
 have XV:=qg gf.2 lO
 obtain ⟨q,hq⟩: ∃q,o5 n g (some (Cq ts)) Bw every w nodes found ab x=q:=⟨_,rfl⟩
 refine Eq.mp (ZQ n str g (some (Cq ts)) Bw every w nodes found ab x _) ?_
 rw [hq]
 unfold o5 at hq
 obtain ⟨k,hk⟩: ∃k,(Bw-w.length).toNat=k:=⟨_,rfl⟩
 rw [hk] at hq hm
 rw [iN] at hq
 simp only [Bb,true_and]
 have fin: ∀r:IS,r=q->(((n,str,g,some (Cq ts),Bw,every,r.2.1,r.2.2.1,r.2.2.2.1,r.2.2.2.2,r.1,()),()):(Int×ByteArray×List (List Int)×Option BB×Int×Bool×List Int×Int×Int×Bool×Bool×Unit)×Unit)=(dY n str g (some (Cq ts)) Bw every q,()):= λr e=>by subst e;rfl
 refine Br.of (λh1=>?_) λh1=>?_
 ·rw [if_pos (eq_of_beq h1)] at hq
  exact fin _ hq
 have h1: ¬nodes=20000:=by simpa using h1
 rw [if_neg h1] at hq
 refine ⟨(w.length:Int),if_pos trivial,Pw ts x,if_pos hbd,?_⟩
 show Br (decide (IntKind.i64.wrap ((w.length:Int)+Pw ts x)>Bw)) _ _
 rw [Bn (n:=(w.length:Int)+Pw ts x) (by omega) (by omega),Bn (n:=nodes+1) (by omega) (by omega),Bn (n:=found+1) (by omega) (by omega)]
 have hlE:Xt (some (Cq ts)) x=Pw ts x:=rfl
 refine Br.dec (λh2=>?_) λh2=>?_
 ·rw [if_pos (by rw [hlE];exact h2)] at hq
  exact fin _ hq
 rw [if_neg (by rw [hlE];exact h2)] at hq
 refine ⟨a9 x,if_pos (by show x.length<=4294967296;omega),?_⟩
 show Br (a9 x) _ _
 rw [hid]
 have nf:Hs.fn ((g.length:Int),())=some (Af g.length):=if_pos ⟨Int.natCast_nonneg _,by show ((g.length:Nat):Int)<=8;omega⟩
 have hL:=Jn g.length
 refine Br.of (λh3=>Br.of (λh4=>?a) λh4=>Br.of (λh5=>?b) λh5=>?c) λh3=>Br.of (λh5=>?d) λh5=>?e
 case a=>
  rw [if_pos ⟨of_decide_eq_true h3,eq_of_beq h4⟩] at hq
  exact fin _ hq
 case b=>
  rw [h4] at h5;cases h5
 case d=>
  rw [if_neg (λhc=>of_decide_eq_false h3 hc.1),if_pos (eq_of_beq h5)] at hq
  exact fin _ hq
 all_goals
  have h6: ¬(w.length:Int)=Bw:= λhc=>by rw [hc] at h5;simp at h5
  rw [if_neg (λhc=>h6 hc.2),if_neg h6] at hq
  have hk1:k=(Bw-((w.length+1:Nat):Int)).toNat+1:=by omega
 all_goals
  refine Br.dec (λh7=>⟨⟨by rw [Bn (by omega) (by omega)];omega,by rw [Bn (by omega) (by omega)];omega⟩,Is w,?_,Af g.length,nf,?_⟩) λh7=>⟨Af g.length,nf,?_⟩
 all_goals first
  |(have h7:0<w.length:=by omega
    rw [Bn (by omega) (by omega),Nat.zero_add,show ((w.length:Int)-1).toNat=w.length-1 by omega]
    exact iV h7)
  |skip
 all_goals first
  |rw [show IntKind.i64.wrap ((0:Int)-Is w)= -Is w by rw [Bn (by omega) (by omega)];omega]
  |rw [show IntKind.i64.wrap ((0:Int)-(0:Int))= -Is w by
    have:w= []:=List.length_eq_zero_iff.1 (by omega)
    rw [this];rfl]
 all_goals
  refine Ag (Af g.length).length (λv=>v.1) (λj v=> ∃r:IS,v=((j:Int),w,n,str,g,some (Cq ts),Bw,every,r.2.2.1,r.2.2.2.1,r.2.2.2.2,())/\r.1=false/\r.2.1=w/\(0<=r.2.2.1/\r.2.2.1<=20000/\0<=r.2.2.2.1/\r.2.2.2.1<=r.2.2.1)/\
   ((Af g.length).drop j).foldl (λ(r:IS) l=>if r.1=true\/l= -Is w then r else
    if (iN (Me g) (Xt (some (Cq ts))) (upto n.toNat) (Af g.length) Bw every k (Me g x l) (w++ [l]) r.2.2.1 r.2.2.2.1 r.2.2.2.2).1=true then iN (Me g) (Xt (some (Cq ts))) (upto n.toNat) (Af g.length) Bw every k (Me g x l) (w++ [l]) r.2.2.1 r.2.2.2.1 r.2.2.2.2
    else (false,w,(iN (Me g) (Xt (some (Cq ts))) (upto n.toNat) (Af g.length) Bw every k (Me g x l) (w++ [l]) r.2.2.1 r.2.2.2.1 r.2.2.2.2).2.2)) r=q) rfl
   ⟨(false,w,nodes+1,found,ab),rfl,rfl,rfl,⟨by show 0<=nodes+1;omega,by show nodes+1<=20000;omega,hf0,by show found<=nodes+1;omega⟩,by rw [List.drop_zero];exact hq⟩ ?_
  rintro j v K hj hi ⟨r,rfl,MG,SC,hr3,hR⟩ hK
  dsimp only
  refine Br.dec (λhl=>?_) λhl=>?_
  ·have hl:j<(Af g.length).length:=by omega
   have PW:Es g.length (Af g.length)[j]:=Kr (List.getElem_mem hl)
   have Arb:((An g (Af g.length)[j]).length:Int)=n:=(fz hV PW).1
   rw [List.drop_eq_getElem_cons hl,List.foldl_cons] at hR
   refine ⟨_,Aq hl,Br.of (λhe=>?_) λhe=>?_⟩
   ·rw [if_pos (.inr (eq_of_beq he))] at hR
    rw [Ah (by omega)]
    exact hK hl _ rfl ⟨r,by simp only [Bb],MG,SC,hr3,hR⟩
   ·have he: ¬(Af g.length)[j]= -Is w:=by simpa using he
    rw [if_neg (by rw [MG];simpa using he)] at hR
    have dP:=Ab4 (nx:=Me g) (low:=Xt (some (Cq ts))) (one:=upto n.toNat) (ls:=Af g.length) (depth:=Bw) (every:=every) k (Me g x (Af g.length)[j]) (w++ [(Af g.length)[j]]) r.2.2.1 r.2.2.2.1 r.2.2.2.2 hr3
    have SB:o5 n g (some (Cq ts)) Bw every (w++ [(Af g.length)[j]]) r.2.2.1 r.2.2.2.1 r.2.2.2.2 (Me g x (Af g.length)[j])=iN (Me g) (Xt (some (Cq ts))) (upto n.toNat) (Af g.length) Bw every k (Me g x (Af g.length)[j]) (w++ [(Af g.length)[j]]) r.2.2.1 r.2.2.2.1 r.2.2.2.2:=by
     unfold o5
     rw [List.length_append,List.length_singleton,hk1]
    refine ⟨by show w.length+1<=4294967296;omega,_,if_pos ⟨PW,gf.2,hV.perm⟩,_,if_pos ⟨Anh,λy hy=>by have:=SJ y hy;show 0<=y/\y<((An g (Af g.length)[j]).length:Int);omega⟩,_,
     if_pos ⟨⟨ts,rfl,ug hh PW,Acp,by show ((w++ [(Af g.length)[j]]).length:Int)<=Bw;rw [List.length_append,List.length_singleton];omega,λl hm=>by
      have hm:l∈w++ [(Af g.length)[j]]:=hm
      rcases List.mem_append.1 hm with hm|hm
      ·exact lO l hm
      ·rw [List.mem_singleton.1 hm];exact PW,⟨hr3.1,hr3.2.1⟩,hr3.2.2.1,hr3.2.2.2⟩,by show (Bw-((w++ [(Af g.length)[j]]).length:Int)).toNat<m;rw [List.length_append,List.length_singleton];omega⟩,?_⟩
    show Br (o5 n g (some (Cq ts)) Bw every (w++ [(Af g.length)[j]]) r.2.2.1 r.2.2.2.1 r.2.2.2.2 (Me g x (Af g.length)[j])).1 _ _
    dsimp only
    refine Br.of (λOq=>?_) λOq=>?_
    ·have EJ:=Oq
     rw [SB] at EJ
     rw [if_pos EJ,KA _ _ EJ] at hR
     have e:=fin _ hR
     rw [<-SB,Oq] at e
     refine Eq.trans ?_ e
     simp only [dY,Bb]
     rfl
    ·have EJ:=Oq
     rw [SB] at EJ
     have hwd:=YG _ _ _ _ _ _ EJ
     rw [if_neg (by rw [EJ];simp)] at hR
     rw [<-SB] at hwd
     refine ⟨⟨Int.le_refl _,Int.natCast_nonneg _,?_⟩,?_⟩
     ·show (w.length:Int)<=((o5 n g (some (Cq ts)) Bw every (w++ [(Af g.length)[j]]) r.2.2.1 r.2.2.2.1 r.2.2.2.2 (Me g x (Af g.length)[j])).2.1.length:Int)
      rw [hwd,List.length_append]
      omega
     ·rw [Ah (by omega)]
      refine hK hl _ rfl ⟨(false,w,(iN (Me g) (Xt (some (Cq ts))) (upto n.toNat) (Af g.length) Bw every k (Me g x (Af g.length)[j]) (w++ [(Af g.length)[j]]) r.2.2.1 r.2.2.2.1 r.2.2.2.2).2.2),?_,rfl,rfl,dP,hR⟩
      have htk:List.take w.length (o5 n g (some (Cq ts)) Bw every (w++ [(Af g.length)[j]]) r.2.2.1 r.2.2.2.1 r.2.2.2.2 (Me g x (Af g.length)[j])).2.1=w:=by rw [hwd];simp
      rw [<-SB]
      show (((j+1:Nat):Int),List.take w.length (o5 n g (some (Cq ts)) Bw every (w++ [(Af g.length)[j]]) r.2.2.1 r.2.2.2.1 r.2.2.2.2 (Me g x (Af g.length)[j])).2.1,_)=_
      rw [htk]
      rfl
  ·have:j=(Af g.length).length:=by omega
   subst this
   rw [List.drop_length,List.foldl_nil] at hR
   have:=fin r hR
   rw [MG,SC] at this
   exact this
theorem HP {m:Nat} (SQ:Ay Tryz.prog 91 (Ov m)):Ay Tryz.prog 91 (Ov (m+1)):=
 Ay.fG (HT [jz+6]) (Ae ca (Ae BC (Ae HH (Ae gY (Ae eG (Ae Rh (Er SQ Aj))))))) mixed Tryz.func91 (by kernel_rfl) (by kernel_rfl) λx h=>YW x.1 x.2.1 x.2.2.1 x.2.2.2.1 x.2.2.2.2.1 x.2.2.2.2.2.1 x.2.2.2.2.2.2.1 x.2.2.2.2.2.2.2.1 x.2.2.2.2.2.2.2.2.1 x.2.2.2.2.2.2.2.2.2.1 x.2.2.2.2.2.2.2.2.2.2.1 h
theorem Ae9 {m:Nat} (p:PP) (ts:List TT) (s w:List Int) (depth:Int) (v:DS) (h:QI p ts s w depth v/\(depth-w.length).toNat<m+1):fnW VN (look [(48,fN),(115,Tc),(101,Ap),(116,Eg),(117,Zi),(118,Ic),(92,j9),(89,Ql.q (Tl m))]) (Tl (m+1)) Tryz.f89 (p,ts,s,w,depth,v,()) (λ(z:DS)=>z=zG p ts s w depth v):=by
 obtain ⟨⟨hh,Acp,MH,lO,hv⟩,hm⟩:=h
 obtain ⟨hV,hsl,Amy,hsr,ha,hb⟩:=zc hh
 have hN:=hV.n
 have gf:=hV.so
 have Amh:=KF ha hb
 have XV:=qg gf.2 lO
 have hv0:=hv.n0
 have hv1:=hv.n1
 have hv2:=hv.m0
 have hv3:=hv.m1
 obtain ⟨q,hq⟩: ∃q,zG p ts s w depth v=q:=⟨_,rfl⟩
 refine Eq.mp (Af2 p ts s w depth v _) ?_
 rw [hq]
 unfold zG at hq
 obtain ⟨k,hk⟩: ∃k,(depth-w.length).toNat=k:=⟨_,rfl⟩
 rw [hk] at hq hm
 rw [vN] at hq
 simp only [KJ,KK,Wf,Wg,oO,oP,Wh,Wi,oQ,kq,kr,ku]
 simp only [Bb,true_and]
 refine Br.of (λh1=>?_) λh1=>?_
 ·rw [if_pos (eq_of_beq h1)] at hq
  exact hq
 have h1: ¬v.1=20000:=by simpa using h1
 rw [if_neg h1] at hq
 refine ⟨Pw ts s,if_pos ⟨ha,hb⟩,?_⟩
 rw [Bn (n:=(w.length:Int)+Pw ts s) (by omega) (by omega),Bn (n:=v.1+1) (by omega) (by omega),Bn (n:=v.2.1+1) (by omega) (by omega)]
 refine Br.dec (λh2=>?_) λh2=>?_
 ·rw [if_pos h2] at hq
  exact hq
 rw [if_neg h2] at hq
 refine Br.of (λh3=>?_) λh3=>?_
 ·rw [if_pos (eq_of_beq h3)] at hq
  refine ⟨upto p.1.toNat,if_pos ⟨by show 0<=p.1;omega,by show p.1<=20;omega⟩,At s (upto p.1.toNat),if_pos (by show s.length<=4294967296;omega),?_⟩
  refine Br.of (λh4=>?_) λh4=>?_
  ·rw [if_pos (pz.1 h4)] at hq
   refine Br.of (λh5=>?_) λh5=>?_
   ·rw [if_pos (eq_of_beq h5)] at hq
    exact ⟨((w,()),()),if_pos (by show w.length<=4294967296;omega),hq⟩
   ·rw [if_neg (by simpa using h5)] at hq
    exact hq
  ·rw [if_neg (λhc=>by rw [pz.2 hc] at h4;cases h4)] at hq
   exact hq
 have h3: ¬(w.length:Int)=depth:=by simpa using h3
 rw [if_neg h3] at hq
 have hk1:k=(depth-((w.length+1:Nat):Int)).toNat+1:=by omega
 have haf:Zi.fn ((p.1,p.2.1,p.2.2.1,()),Is w,())=some (fC p.2.2.1.length (Is w)):=if_pos ⟨gf.2,XV⟩
 obtain ⟨ls,nf⟩: ∃ls,fC p.2.2.1.length (Is w)=ls:=⟨_,rfl⟩
 have jW: ∀l∈ls,Es p.2.2.1.length l:= λl hl=>by
  rw [<-nf] at hl
  exact Kr (List.mem_filter.1 hl).1
 have hlen:ls.length<=16:=by
  rw [<-nf]
  have h1:=List.length_filter_le (λl=>!(l== -Is w)) (Af p.2.2.1.length)
  have h2:=Jn p.2.2.1.length
  unfold fC
  omega
 rw [nf] at haf
 have hq:ls.foldl (λ(v:DS) l=>if Ir v=true then v else vN (Me p.2.2.1) (Pw ts) (upto p.1.toNat) (Af p.2.2.1.length) depth k (Me p.2.2.1 s l) (w++ [l]) v) (v.1+1,v.2)=q:=by rw [<-nf];exact hq
 refine Br.dec (λh7=>⟨Is w,?_,ls,haf,?_⟩) λh7=>⟨ls,?_,?_⟩
 ·have h7:0<w.length:=by omega
  rw [Bn (by omega) (by omega),show (w.length:Int)-1=((w.length-1:Nat):Int) by omega,Aq (by omega)]
  have:=iV h7
  rw [List.getElem?_eq_getElem (by omega)] at this
  exact this
 rotate_left
 ·have:w= []:=List.length_eq_zero_iff.1 (by omega)
  rw [this] at haf
  exact haf
 all_goals
  refine ⟨rfl,Ag ls.length (λv=>v.1) (λj y=> ∃u:DS,y=((j:Int),p.1,p.2.1,p.2.2.1,u.1,u.2.1,u.2.2.1,u.2.2.2.1,u.2.2.2.2.1,(0:Int),(0:Int),false,false,[],())/\vB u/\
   (ls.drop j).foldl (λ(v:DS) l=>if Ir v=true then v else vN (Me p.2.2.1) (Pw ts) (upto p.1.toNat) (Af p.2.2.1.length) depth k (Me p.2.2.1 s l) (w++ [l]) v) u=q) rfl
   ⟨(v.1+1,v.2),rfl,⟨by show 0<=v.1+1;omega,by show v.1+1<=20000;omega,hv2,by show v.2.1<=v.1+1;omega⟩,by rw [List.drop_zero];exact hq⟩ ?_⟩
  rintro j y K hj hi ⟨u,rfl,hu,hR⟩ hK
  dsimp only
  refine Br.dec (λhl=>?_) λhl=>?_
  ·have hl:j<ls.length:=by omega
   have PW:=jW _ (List.getElem_mem hl)
   rw [List.drop_eq_getElem_cons hl,List.foldl_cons] at hR
   refine ⟨Ir u,if_pos trivial,?_⟩
   refine Br.of (λhd=>?_) λhd=>?_
   ·have hd:Ir u=false:=by simpa using hd
    rw [if_neg (by rw [hd];simp)] at hR
    obtain ⟨l,hle⟩: ∃l,ls[j]=l:=⟨_,rfl⟩
    have hix:idx ls (j:Int)=some l:=by rw [Aq hl,hle]
    rw [hle] at hR PW
    have XM:Ic.fn ((p.1,p.2.1,p.2.2.1,()),s,l,())=some (Me p.2.2.1 s l):=if_pos ⟨(kA (lN hh).2.2).1,Amy,hsr,PW⟩
    have hcp:Eg.fn (w,())=some ((w,()),()):=if_pos (by show w.length<=4294967296;omega)
    have hmr:w.length+(List.take 1 (List.drop 0 [l])).length<=Be:=by show w.length+1<=4294967296;omega
    have hvv:zG p ts (Me p.2.2.1 s l) (w++ [l]) depth u=vN (Me p.2.2.1) (Pw ts) (upto p.1.toNat) (Af p.2.2.1.length) depth k (Me p.2.2.1 s l) (w++ [l]) u:=by
     unfold zG
     rw [List.length_append,List.length_singleton,hk1]
    have SH:=VW (nx:=Me p.2.2.1) (low:=Pw ts) (one:=upto p.1.toNat) (ls:=Af p.2.2.1.length) (depth:=depth) k (Me p.2.2.1 s l) (w++ [l]) u hu
    have hvi:(Tl m).fn ((p.1,p.2.1,p.2.2.1,()),ts,Me p.2.2.1 s l,w++List.take 1 (List.drop 0 [l]),depth,(u.1,u.2.1,u.2.2.1,u.2.2.2.1,u.2.2.2.2.1,()),())=some (vN (Me p.2.2.1) (Pw ts) (upto p.1.toNat) (Af p.2.2.1.length) depth k (Me p.2.2.1 s l) (w++ [l]) u):=
     (if_pos ⟨⟨ug hh PW,Acp,by show ((w++ [l]).length:Int)<=depth;rw [List.length_append,List.length_singleton];omega,λx hx=>by
      have hx:x∈w++ [l]:=hx
      rcases List.mem_append.1 hx with hx|hx
      ·exact lO x hx
      ·rw [List.mem_singleton.1 hx];exact PW,hu⟩,by show (depth-((w++ [l]).length:Int)).toNat<m;rw [List.length_append,List.length_singleton];omega⟩).trans (congrArg some hvv)
    generalize vN (Me p.2.2.1) (Pw ts) (upto p.1.toNat) (Af p.2.2.1.length) depth k (Me p.2.2.1 s l) (w++ [l]) u=u' at hR hvi SH
    refine ⟨l,hix,l,hix,_,XM,_,hcp,hmr,_,hvi,?_,?_⟩
    ·rw [Ah (by omega)]
     exact hK hl _ rfl ⟨u',rfl,SH,hR⟩
    ·repeat' (first|rfl|exact hmr|refine ⟨_,hix,?_⟩|refine ⟨_,XM,?_⟩|refine ⟨_,hcp,?_⟩|refine ⟨_,hvi,?_⟩|refine ⟨?_,?_⟩)
   ·have hd:Ir u=true:=by simpa using hd
    rw [if_pos hd,KY _ _ hd] at hR
    exact hR
  ·have:j=ls.length:=by omega
   subst this
   rw [List.drop_length] at hR
   exact hR
theorem OO {m:Nat} (YH:Sound Tryz.prog 89 (Tl m)):Sound Tryz.prog 89 (Tl (m+1)):=
 Sound.Cg VO (Ae BA (Ae eF (Ae Ox (Er oa (Ae AY (Ae kL (Ae HE (Ae YH Aj)))))))) mixed Tryz.func89 (by kernel_rfl) (by kernel_rfl) λx h=>Ae9 x.1 x.2.1 x.2.2.1 x.2.2.2.1 x.2.2.2.2.1 x.2.2.2.2.2.1 h
theorem xw:Ay Tryz.prog 91 (Ov 0):=
 Ay.fG Bi Aj mixed Tryz.func91 (by kernel_rfl) (by kernel_rfl) λ_ h=>absurd h.2 (Nat.not_lt_zero _)
theorem kV: ∀m,Ay Tryz.prog 91 (Ov m)
 |0=>xw
 |m+1=>HP (kV m)
theorem xx:Ay Tryz.prog 91 kH:=Ay.TS (λx=>(x.2.2.2.2.1-List.length x.2.2.2.2.2.2.1).toNat) kV
noncomputable abbrev oS:Spec:=Cg (.pair Cp (.pair tv (.pair tL (.pair tL (.pair tI (.pair nO .unit)))))) nO false false (λx=>QI x.1 x.2.1 x.2.2.1 x.2.2.2.1 x.2.2.2.2.1 x.2.2.2.2.2.1) (λx=>zG x.1 x.2.1 x.2.2.1 x.2.2.2.1 x.2.2.2.2.1 x.2.2.2.2.2.1)
theorem BF:Sound Tryz.prog 89 (Tl 0):=
 Sound.Cg Bi Aj mixed Tryz.func89 (by kernel_rfl) (by kernel_rfl) λ_ h=>absurd h.2 (Nat.not_lt_zero _)
theorem nI: ∀m,Sound Tryz.prog 89 (Tl m)
 |0=>BF
 |m+1=>OO (nI m)
theorem BG:Sound Tryz.prog 89 oS:=Sound.Ai7 (λx=>(x.2.2.2.2.1-List.length x.2.2.2.1).toNat) nI
end Go.Proofs.YtfolipnappekaaaGreat

namespace Go.Proofs.YtfolipnappekaaaGreat
open Go.RowKit
noncomputable def qj (p:PP) (b:Option BB) (x:List Int) (Bw:Int) (every:Bool):IS:=o5 p.1 p.2.2.1 b Bw every [] 0 0 false x
noncomputable def Ai5 (p:PP) (b:Option BB) (x:List Int) (Bw:Int) (every:Bool):SR:=(p,b,Bw,every,(qj p b x Bw every).2.1,(qj p b x Bw every).2.2.1,(qj p b x Bw every).2.2.2.1,(qj p b x Bw every).2.2.2.2,())
def QG (p:PP) (b:Option BB) (x:List Int) (Bw:Int):Prop:= ∃ts,b=some (Cq ts)/\Jm p ts x=true/\0<=Bw/\Bw<=30
noncomputable abbrev Tk:Spec:=Cg (.pair Cp (.pair (.optr Uc) (.pair tL (.pair tI (.pair .bool .unit))))) (.optr VF) false false (λx=>QG x.1 x.2.1 x.2.2.1 x.2.2.2.1) (λx=>some (Ai5 x.1 x.2.1 x.2.2.1 x.2.2.2.1 x.2.2.2.2.1))
noncomputable def ki (p:PP) (ts:List TT) (s:List Int) (depth:Int) (all:Bool):DS:=zG p ts s [] depth (0,0,[],false,all,())
noncomputable abbrev Wx:Spec:=Cg (.pair Cp (.pair tv (.pair tL (.pair tI (.pair .bool .unit))))) nO false false (λx=>Jm x.1 x.2.1 x.2.2.1=true/\0<=x.2.2.2.1/\x.2.2.2.1<=30) (λx=>ki x.1 x.2.1 x.2.2.1 x.2.2.2.1 x.2.2.2.2.1)
noncomputable def iX (d:Int):Bool:=decide (0<=d/\d<=30)
noncomputable abbrev Wq:Spec:=Cg (.pair tI .unit) .bool false true (λ_=>True) (λx=>iX x.1)
noncomputable def Sv (p:PP) (ts:List TT) (s:List Int) (d:Int):Bool:=Jm p ts s&&iX d
noncomputable abbrev mc:Spec:=Cg (.pair Cp (.pair tv (.pair tL (.pair tI .unit)))) .bool false true (λx=>Ck x.1/\Ew x.2.1/\short x.2.2.1) (λx=>Sv x.1 x.2.1 x.2.2.1 x.2.2.2.1)
noncomputable def Je (p:PP) (ts:List TT) (s:List Int) (d:Int):Bool:=Sv p ts s d&&(List.range (d+1).toNat).all λ(k:Nat)=>!(Ir (ki p ts s (k:Int) false))
noncomputable abbrev Li:Spec:=Cg (.pair Cp (.pair tv (.pair tL (.pair tI .unit)))) .bool false true (λx=>Ck x.1/\Ew x.2.1/\short x.2.2.1) (λx=>Je x.1 x.2.1 x.2.2.1 x.2.2.2.1)
noncomputable abbrev ja:Spec:=Cg (.pair Cp (.pair tv (.pair tL (.pair tI .unit)))) .bool false true (λx=>Ck x.1/\Ew x.2.1/\short x.2.2.1) (λ_=>true)
theorem IJ (p:Int×ByteArray×List (List Int)×Unit) (b:Option (List (List Int×List (List Int)×List Int×Unit)×List (ByteArray->Option Int)×Unit)) (x:List Int) (Bw:Int) (every:Bool) (P:Option ((Int×ByteArray×List (List Int)×Unit)×Option (List (List Int×List (List Int)×List Int×Unit)×List (ByteArray->Option Int)×Unit)×Int×Bool×List Int×Int×Int×Bool×Unit)->Prop):(0=0/\0=([]:List Int).length/\ ∃(y6:(Int×ByteArray×List (List Int)×Option (List (List Int×List (List Int)×List Int×PUnit)×List (ByteArray->Option Int)×PUnit)×Int×Bool×List Int×Int×Int×Bool×Bool×PUnit)×PUnit),kH.fn (p.1,p.2.1,p.2.2.1,b,Bw,every,[],Int.ofNat (nat_lit 0),Int.ofNat (nat_lit 0),false,x,())=some y6/\P (some ((y6.1.1,y6.1.2.1,y6.1.2.2.1,()),y6.1.2.2.2.1,y6.1.2.2.2.2.1,y6.1.2.2.2.2.2.1,List.take y6.1.2.2.2.2.2.2.1.length (List.drop 0 y6.1.2.2.2.2.2.2.1),y6.1.2.2.2.2.2.2.2.1,y6.1.2.2.2.2.2.2.2.2.1,y6.1.2.2.2.2.2.2.2.2.2.1,())))=fnW Cd (look [(91,kH)]) Tk Tryz.f68 (p,b,x,Bw,every,()) P:=by kernel_rfl
theorem PJ (p:Int×ByteArray×List (List Int)×Unit) (ts:List (List Int×List (List Int)×List Int×Unit)) (s:List Int) (d:Int) (all:Bool) (P:(Int×Int×List Int×Bool×Bool×Unit)->Prop):(∃(y6:Int×Int×List Int×Bool×Bool×PUnit),oS.fn ((p.1,p.2.1,p.2.2.1,()),ts,s,List.take 0 (List.drop 0 []),d,(Int.ofNat (nat_lit 0),Int.ofNat (nat_lit 0),[],false,all,()),())=some y6/\P (y6.1,y6.2.1,y6.2.2.1,y6.2.2.2.1,y6.2.2.2.2.1,()))=fnW Cd (look [(89,oS)]) Wx Tryz.f66 (p,ts,s,d,all,()) P:=by kernel_rfl
theorem OY (d:Int) (P:Bool->Prop):(∃(y2:Bool),Bm.fn (d,(0:Int),(30:Int),())=some y2/\P y2)=fnW Cd (look [(90,Bm)]) Wq Tryz.f67 (d,()) P:=by kernel_rfl
theorem Aem (p:Int×ByteArray×List (List Int)×Unit) (ts:List (List Int×List (List Int)×List Int×Unit)) (s:List Int) (d:Int) (P:Bool->Prop):(∃(y5:Bool),mg.fn ((p.1,p.2.1,p.2.2.1,()),ts,s,())=some y5/\Br y5 (∃(y6:Bool),Bm.fn (d,(0:Int),(30:Int),())=some y6/\P y6) (P false))=fnW Cd (look [(47,mg),(88,Bm)]) mc Tryz.f65 (p,ts,s,d,()) P:=by kernel_rfl
abbrev hJ:Type:=(Int×ByteArray×List (List Int)×PUnit)×Option (List (List Int×List (List Int)×List Int×PUnit)×List (ByteArray->Option Int)×PUnit)×Int×Bool×List Int×Int×Int×Bool×PUnit
abbrev ia:Type:=Int×Int×ByteArray×List (List Int)×PUnit
theorem xT (p:Int×ByteArray×List (List Int)×Unit) (ts:List (List Int×List (List Int)×List Int×Unit)) (s:List Int) (d:Int) (P:Bool->Prop):(∃(y5:Option (List (List Int×List (List Int)×List Int×PUnit)×List (ByteArray->Option Int)×PUnit)×Bool×PUnit),Sz.fn ((p.1,p.2.1,p.2.2.1,()),ts,s,())=some y5/\Br (!y5.2.1) (P false) (∃(y6:Bool),Wq.fn (d,())=some y6/\Br (!y6) (P false) (Bk (λ(v7:ia) (k8:ia->Prop)=>Br (decide (v7.1<IntKind.i64.wrap (d+(1:Int)))) (∃(y9:Option ((Int×ByteArray×List (List Int)×PUnit)×Option (List (List Int×List (List Int)×List Int×PUnit)×List (ByteArray->Option Int)×PUnit)×Int×Bool×List Int×Int×Int×Bool×PUnit)),Tk.fn ((v7.2.1,v7.2.2.1,v7.2.2.2.1,()),y5.1,s,v7.1,false,())=some y9/\ ∃(Iu:hJ),y9=some Iu/\Br Iu.2.2.2.2.2.2.2.1 (P false) (∃(ir:hJ),y9=some ir/\Br (decide (ir.2.2.2.2.2.2.1>(0:Int))) (P false) (k8 (IntKind.i64.wrap (v7.1+(1:Int)),v7.2.1,v7.2.2.1,v7.2.2.2.1,())))) (P true)) ((0:Int),p.1,p.2.1,p.2.2.1,PUnit.unit))))=fnW Cd (look [(51,Sz),(67,Wq),(68,Tk)]) Li Tryz.f44 (p,ts,s,d,()) P:=by kernel_rfl
abbrev hY:Type:=Int×Int×ByteArray×List (List Int)×PUnit
theorem xY (p:Int×ByteArray×List (List Int)×Unit) (ts:List (List Int×List (List Int)×List Int×Unit)) (s:List Int) (d:Int) (P:Bool->Prop):(∃(y5:Bool),mc.fn ((p.1,p.2.1,p.2.2.1,()),ts,s,d,())=some y5/\Br (!y5) (P false) (Bk (λ(v6:hY) (k7:hY->Prop)=>Br (decide (v6.1<=d)) (∃(y8:Int×Int×List Int×Bool×Bool×PUnit),Wx.fn ((v6.2.1,v6.2.2.1,v6.2.2.2.1,()),ts,s,v6.1,false,())=some y8/\Br y8.2.2.2.1 (P false) (Br (decide (y8.2.1>(0:Int))) (P false) (k7 (IntKind.i64.wrap (v6.1+(1:Int)),v6.2.1,v6.2.2.1,v6.2.2.2.1,())))) (P true)) ((0:Int),p.1,p.2.1,p.2.2.1,PUnit.unit)))=fnW Cd (look [(65,mc),(66,Wx)]) Li Tryz.f43 (p,ts,s,d,()) P:=by kernel_rfl
abbrev cf:Type:=List (List Int×List (List Int)×List Int×PUnit)
abbrev cg:Type:=Int×ByteArray×List (List Int)×PUnit
theorem CC (p:Int×ByteArray×List (List Int)×Unit) (ts:List (List Int×List (List Int)×List Int×Unit)) (s:List Int) (d:Int) (P:Bool->Prop):(Br (decide ((↑s.length:Int)>(1048576:Int))) (P true) (∃(y5:Int),uY.fn ((p.1,p.2.1,p.2.2.1,()),(1048576:Int),())=some y5/\Br (decide (y5<(0:Int))) (P true) (∃(y6:Int),mn.fn (ts,y5,())=some y6/\Br (decide (y6<(0:Int))) (P true) (∃(y7:cg),nG.fn ((p.1,p.2.1,p.2.2.1,()),())=some y7/\ ∃(y8:cf),eD.fn (ts,())=some y8/\ ∃(y9:List Int),Ya.fn (s,())=some y9/\ ∃(Iu:Bool),Li.fn (y7,y8,y9,d,())=some Iu/\ ∃(ir:cg),nG.fn ((p.1,p.2.1,p.2.2.1,()),())=some ir/\ ∃(fW:cf),eD.fn (ts,())=some fW/\ ∃(Iv:List Int),Ya.fn (s,())=some Iv/\ ∃(Ga:Bool),Li.fn ((ir.1,ir.2.1,ir.2.2.1,()),fW,Iv,d,())=some Ga/\Br (!Ga==Iu) (P false) (∃(Lu:cg),nG.fn ((p.1,p.2.1,p.2.2.1,()),())=some Lu/\ ∃(Ru:Bool),uW.fn ((ir.1,ir.2.1,ir.2.2.1,()),Lu,())=some Ru/\Br (!Ru) (P false) (∃(Vk:cf),eD.fn (ts,())=some Vk/\ ∃(Ry:Bool),mf.fn (fW,Vk,())=some Ry/\Br (!Ry) (P false) (∃(Nb:List Int),Ya.fn (s,())=some Nb/\ ∃(Jx:Bool),Ap.fn (Iv,Nb,())=some Jx/\Br (!Jx) (P false) (P true))))))))=fnW Cd (look [(13,uY),(14,mn),(43,Li),(44,Li),(16,nG),(17,eD),(18,Ya),(20,uW),(21,mf),(22,Ap)]) ja Tryz.f12 (p,ts,s,d,()) P:=by kernel_rfl
theorem ds0 (all:Bool):vB ((0,0,[],false,all,()):DS):=⟨Int.le_refl _,(by decide:(0:Int)<=20000),Int.le_refl _,Int.le_refl _⟩
theorem KQ (p:PP) (ts:List TT) (x:List Int) (Bw:Int) (every:Bool):QE every [] (qj p (some (Cq ts)) x Bw every) (ki p ts x Bw every):=
 Ab5 (nx:=Me p.2.2.1) (low:=Pw ts) (one:=upto p.1.toNat) (ls:=Af p.2.2.1.length) (depth:=Bw) (every:=every) ((Bw-(0:Nat)).toNat+1) x [] (0,0,[],false,every,()) rfl rfl (ds0 every)
theorem Aef {p:PP} {b:Option BB} {x:List Int} {Bw:Int} (h:QG p b x Bw):vG p.1 p.2.1 p.2.2.1 b Bw [] (Int.ofNat 0) (Int.ofNat 0) x:=by
 obtain ⟨ts,hb,hh,h0,h30⟩:=h
 exact ⟨ts,hb,hh,h30,h0,λl hl=>(by cases hl),⟨by decide,by decide⟩,by decide,by decide⟩
theorem GB (p:PP) (b:Option BB) (x:List Int) (Bw:Int) (every:Bool) (h:QG p b x Bw):fnW Cd (look [(91,kH)]) Tk Tryz.f68 (p,b,x,Bw,every,()) (λ(z:Option SR)=>z=some (Ai5 p b x Bw every)):=by
 refine Eq.mp (IJ p b x Bw every _) ⟨rfl,rfl,_,if_pos (Aef h),?_⟩
 dsimp only
 rw [Bb]
 rfl
theorem ry:Sound Tryz.prog 68 Tk:=
 Sound.Cg Bi (Er xx Aj) mixed Tryz.func68 (by kernel_rfl) (by kernel_rfl) λx h=>GB x.1 x.2.1 x.2.2.1 x.2.2.2.1 x.2.2.2.2.1 h
theorem NL (p:PP) (ts:List TT) (s:List Int) (d:Int) (all:Bool) (h:Jm p ts s=true/\0<=d/\d<=30):fnW Cd (look [(89,oS)]) Wx Tryz.f66 (p,ts,s,d,all,()) (λ(z:DS)=>z=ki p ts s d all):=by
 obtain ⟨hh,h0,h30⟩:=h
 exact Eq.mp (PJ p ts s d all _) ⟨_,if_pos ⟨hh,h30,h0,λl hl=>(by cases hl),ds0 all⟩,rfl⟩
theorem tp:Sound Tryz.prog 66 Wx:=
 Sound.Cg Bi (Ae BG Aj) mixed Tryz.func66 (by kernel_rfl) (by kernel_rfl) λx h=>NL x.1 x.2.1 x.2.2.1 x.2.2.2.1 x.2.2.2.2.1 h
theorem NA (d:Int) (_:True):fnW Cd (look [(90,Bm)]) Wq Tryz.f67 (d,()) (λ(z:Bool)=>z=iX d):=Eq.mp (OY d _) ⟨_,if_pos trivial,rfl⟩
theorem ta:Sound Tryz.prog 67 Wq:=
 Sound.Cg Bi (Ae Rj Aj) mixed Tryz.func67 (by kernel_rfl) (by kernel_rfl) λx h=>NA x.1 h
theorem Adt (p:PP) (ts:List TT) (s:List Int) (d:Int) (h:Ck p/\Ew ts/\short s):fnW Cd (look [(47,mg),(88,Bm)]) mc Tryz.f65 (p,ts,s,d,()) (λ(z:Bool)=>z=Sv p ts s d):=by
 refine Eq.mp (Aem p ts s d _) ⟨_,if_pos h,?_⟩
 show Br (Jm p ts s) _ _
 unfold Sv
 refine Br.of (λhb=>⟨_,if_pos trivial,?_⟩) λhb=>?_
 ·rw [hb,Bool.true_and];rfl
 ·rw [hb,Bool.false_and]
theorem HC:Sound Tryz.prog 65 mc:=
 Sound.Cg Bi (Ae HG (Ae Ua Aj)) mixed Tryz.func65 (by kernel_rfl) (by kernel_rfl) λx h=>Adt x.1 x.2.1 x.2.2.1 x.2.2.2.1 h
theorem pv {p:PP} {ts:List TT} {s:List Int} {d:Int} :Sv p ts s d=true↔Jm p ts s=true/\0<=d/\d<=30:=by
 unfold Sv iX
 rw [Bool.and_eq_true,decide_eq_true_iff]
theorem lu {q:Nat->Bool} {n:Nat} :(List.range n).all q=true↔ ∀k,k<n->q k=true:=by
 rw [List.all_eq_true]
 exact ⟨λh k hk=>h k (List.mem_range.2 hk),λh k hk=>h k (List.mem_range.1 hk)⟩
theorem Wk {p:PP} {ts:List TT} {s:List Int} {d:Int} {k:Nat} (hk:(k:Int)<=d) (h:Ir (ki p ts s (k:Int) false)=true):Je p ts s d=false:=by
 cases hp:Je p ts s d with
 |false=>rfl
 |true=>
  unfold Je at hp
  rw [Bool.and_eq_true] at hp
  have:=lu.1 hp.2 k (by omega)
  rw [h] at this
  cases this
theorem Sh (v:DS):Ir v=(v.2.2.2.1||(decide (0<v.2.1)&&!v.2.2.2.2.1)):=rfl
theorem JD (p:PP) (ts:List TT) (s:List Int) (d:Int) (all:Bool):(ki p ts s d all).2.2.2.2.1=all:=(KQ p ts s d all).all
theorem wW (p:PP) (ts:List TT) (s:List Int) (d:Int) (h:Ck p/\Ew ts/\short s):fnW Cd (look [(65,mc),(66,Wx)]) Li Tryz.f43 (p,ts,s,d,()) (λ(z:Bool)=>z=Je p ts s d):=by
 refine Eq.mp (xY p ts s d _) ⟨Sv p ts s d,if_pos h,?_⟩
 refine Br.of (λhb=>?_) λhb=>?_
 ·unfold Je
  rw [show Sv p ts s d=false from QR hb,Bool.false_and]
 ·have hc:Sv p ts s d=true:=by simpa using hb
  obtain ⟨hh,h0,h30⟩:=pv.1 hc
  refine Ag (d+1).toNat (λv=>v.1) (λj v=>v=((j:Int),p.1,p.2.1,p.2.2.1,())/\ ∀k,k<j->(!(Ir (ki p ts s (k:Int) false)))=true) rfl ⟨rfl,λk hk=>by omega⟩ ?_
  rintro j v K hj hi ⟨rfl,hR⟩ hK
  dsimp only
  refine Br.dec (λhl=>?_) λhl=>?_
  ·have Fh:=JD p ts s (j:Int) false
   refine ⟨ki p ts s (j:Int) false,if_pos ⟨hh,by show (0:Int)<=(j:Int);omega,by show (j:Int)<=30;omega⟩,Br.of (λha=>?_) λha=>Br.dec (λhm=>?_) λhm=>?_⟩
   ·exact (Wk hl (by rw [Sh,ha];rfl)).symm
   ·exact (Wk hl (by rw [Sh,Fh,decide_eq_true (by omega)];simp)).symm
   ·rw [Ah (by omega)]
    refine hK (by omega) _ rfl ⟨rfl,λk hk=>?_⟩
    by_cases e:k=j
    ·subst e
     rw [Sh,ha,decide_eq_false (by omega)]
     rfl
    ·exact hR k (by omega)
  ·have:j=(d+1).toNat:=by omega
   subst this
   show true=Je p ts s d
   unfold Je
   rw [hc,Bool.true_and]
   exact (lu.2 hR).symm
theorem mD:Sound Tryz.prog 43 Li:=
 Sound.Cg Bi (Ae HC (Ae tp Aj)) mixed Tryz.func43 (by kernel_rfl) (by kernel_rfl) λx h=>wW x.1 x.2.1 x.2.2.1 x.2.2.2.1 h
theorem wR (p:PP) (ts:List TT) (s:List Int) (d:Int) (h:Ck p/\Ew ts/\short s):fnW Cd (look [(51,Sz),(67,Wq),(68,Tk)]) Li Tryz.f44 (p,ts,s,d,()) (λ(z:Bool)=>z=Je p ts s d):=by
 refine Eq.mp (xT p ts s d _) ?_
 by_cases hh:Jm p ts s=true
 ·refine ⟨(some (Cq ts),true,()),(if_pos h).trans (congrArg some (if_pos hh)),λhb=>by simp at hb,λ_=>⟨iX d,if_pos trivial,?_⟩⟩
  have hc:Sv p ts s d=iX d:=by unfold Sv;rw [hh,Bool.true_and]
  refine Br.of (λhd=>?_) λhd=>?_
  ·unfold Je
   rw [hc,show iX d=false from QR hd,Bool.false_and]
  ·have hd:Sv p ts s d=true:=by rw [hc];simpa using hd
   obtain ⟨_,h0,h30⟩:=pv.1 hd
   rw [Bn (by omega) (by omega)]
   refine Ag (d+1).toNat (λv=>v.1) (λj v=>v=((j:Int),p.1,p.2.1,p.2.2.1,())/\ ∀k,k<j->(!(Ir (ki p ts s (k:Int) false)))=true) rfl ⟨rfl,λk hk=>by omega⟩ ?_
   rintro j v K hj hi ⟨rfl,hR⟩ hK
   dsimp only
   refine Br.dec (λhl=>?_) λhl=>?_
   ·have Fh:=JD p ts s (j:Int) false
    have hs:=KQ p ts s (j:Int) false
    refine ⟨_,if_pos ⟨ts,rfl,hh,by show (0:Int)<=(j:Int);omega,by show (j:Int)<=30;omega⟩,_,rfl,?_⟩
    show Br (qj p (some (Cq ts)) s (j:Int) false).2.2.2.2 _ _
    rw [hs.a]
    refine Br.of (λha=>?_) λha=>⟨_,rfl,?_⟩
    ·exact (Wk (k:=j) (by omega) (by rw [Sh,ha];rfl)).symm
    show Br (decide ((qj p (some (Cq ts)) s (j:Int) false).2.2.2.1>0)) _ _
    rw [hs.m]
    refine Br.dec (λhm=>?_) λhm=>?_
    ·exact (Wk (k:=j) (by omega) (by rw [Sh,Fh,decide_eq_true (by omega)];simp)).symm
    ·rw [Ah (by omega)]
     refine hK (by omega) _ rfl ⟨rfl,λk hk=>?_⟩
     by_cases e:k=j
     ·subst e
      rw [Sh,ha,decide_eq_false (by omega)]
      rfl
     ·exact hR k (by omega)
   ·have:j=(d+1).toNat:=by omega
    subst this
    show true=Je p ts s d
    unfold Je
    rw [hd,Bool.true_and]
    exact (lu.2 hR).symm
 ·have hc:Je p ts s d=false:=by
   unfold Je
   rw [show Sv p ts s d=false from Bool.eq_false_iff.2 λhc=>hh (pv.1 hc).1,Bool.false_and]
  rw [hc]
  exact ⟨(none,false,()),(if_pos h).trans (congrArg some (if_neg hh)),λ_=>rfl,λhb=>by simp at hb⟩
theorem mB:Sound Tryz.prog 44 Li:=
 Sound.Cg Bi (Ae re (Ae ta (Ae ry Aj))) mixed Tryz.func44 (by kernel_rfl) (by kernel_rfl) λx h=>wR x.1 x.2.1 x.2.2.1 x.2.2.2.1 h
theorem AE (p:PP) (ts:List TT) (s:List Int) (d:Int) (h:Ck p/\Ew ts/\short s):fnW Cd (look [(13,uY),(14,mn),(43,Li),(44,Li),(16,nG),(17,eD),(18,Ya),(20,uW),(21,mf),(22,Ap)]) ja Tryz.f12 (p,ts,s,d,()) (λ(z:Bool)=>z=true):=by
 obtain ⟨h0,h1,h2⟩:=h
 refine Eq.mp (CC p ts s d _) (Br.dec (λ_=>rfl) λ_=>?_)
 refine ⟨_,if_pos ⟨h0,AP⟩,Br.dec (λ_=>rfl) λhn=>⟨_,if_pos ⟨h1,(UX AP hn).2⟩,Br.dec (λ_=>rfl) λ_=>?_⟩⟩
 refine ⟨_,if_pos h0,_,if_pos h1,_,if_pos h2,_,if_pos ⟨h0,h1,h2⟩,_,if_pos h0,_,if_pos h1,_,if_pos h2,_,if_pos ⟨h0,h1,h2⟩,⟨λhe=>LK he,λ_=>?_⟩⟩
 refine ⟨_,if_pos h0,_,if_pos h0,⟨λhe=>qw (FC p) he,λ_=>?_⟩⟩
 refine ⟨_,if_pos h1,_,if_pos h1,⟨λhe=>qw (decide_eq_true rfl) he,λ_=>?_⟩⟩
 exact ⟨_,if_pos h2,_,if_pos h2,⟨λhe=>qw (lS s) he,λ_=>rfl⟩⟩
theorem oq:Sound Tryz.prog 12 ja:=
 Sound.Cg Bi (Ae OI (Ae HL (Ae mD (Ae mB (Ae OJ (Ae HM (Ae mF (Ae OF (Ae HF (Ae mz Aj)))))))))) mixed Tryz.func12 (by kernel_rfl) (by kernel_rfl) λx h=>AE x.1 x.2.1 x.2.2.1 x.2.2.2.1 h
end Go.Proofs.YtfolipnappekaaaGreat
