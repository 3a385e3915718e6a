/-
  Part 45 of the proof that the statement FnExactSolutionsAtDepth holds.
-/
import Derived.Test.YtfolipnappekaaaGreatCSolutionsAtDepth43
namespace Go.Proofs.YtfolipnappekaaaGreat
open Go.RowKit
noncomputable abbrev mb:Spec:=Cg (.pair (.ptr kU) (.pair tI (.pair tL .unit))) (.pair tL (.pair tI .unit)) true false (λx=> ∃N L,Ql N L x.1.1 x.1.2.2.1 x.1.2.1 x.2.1 x.2.2.1) (λx=>Jn x.1.2.1 (x.1.1-x.2.1).toNat x.2.1.toNat x.2.2.1)
noncomputable abbrev Ad8:MSpec:= {ptr:=some (153,3),Eh:= [none,none],ins:= [(false, .Dn tI),(false, .Al tO rV false),(false, .Al tO rV false),(false, .Dn tI),(false, .Dn tL)],Cs:=true,Di:= [none,none],outs:= [.Dn tI, .Al tO rV false, .Al tO rV false, .Dn tL, .Dn tI],fn:= λ_=>none}
noncomputable abbrev fN:MSpec:=fD Ad8 (λx=> ∃N L,Ql N L x.1 x.2.2.1 x.2.1 x.2.2.2.1 x.2.2.2.2.1)
 (λx=>((x.1,x.2.1,x.2.2.1,(Jn x.2.1 (x.1-x.2.2.2.1).toNat x.2.2.2.1.toNat x.2.2.2.2.1).1,(Jn x.2.1 (x.1-x.2.2.2.1).toNat x.2.2.2.1.toNat x.2.2.2.2.1).2.1,()),()))
structure ZI (N L:Nat) (n:Int) (G T:Aw) (l:Int) (p:List Int):Prop where
 n1:1<=N
 n2:N<=20
 en:n=N
 el:l=L
 lt:L<N
 part:Part N L (G,T)
 pm:Pm N p
 fx:Fx L p
 gn:Gn N (G.getD L []) p
 gl:(G.getD L []).length<=401
noncomputable abbrev SN:MSpec:= {ptr:=some (153,3),Eh:= [none,none],ins:= [(false, .Dn tI),(false, .Al tO rV false),(false, .Al tO rV false),(false, .Dn tI),(false, .Dn tO)],Cs:=false,Di:= [],outs:= [.Dn tI, .Al tO rV false, .Al tO rV false],fn:= λ_=>none}
noncomputable abbrev kv (m:Nat):MSpec:=fD SN (λx=>(∃N L q,x.2.2.2.2.1=some q/\Ql N L x.1 x.2.2.1 x.2.1 x.2.2.2.1 q)/\KA x.1.toNat x.2.2.2.1.toNat<m)
 (λx=>((x.1,(fW x.1.toNat 1000 x.2.2.2.1.toNat (x.2.2.2.2.1.getD []) (x.2.2.1,x.2.1)).2,(fW x.1.toNat 1000 x.2.2.2.1.toNat (x.2.2.2.2.1.getD []) (x.2.2.1,x.2.1)).1,()),()))
noncomputable abbrev aS (m:Nat):MSpec:=fD SN (λx=>(∃N L q,x.2.2.2.2.1=some q/\ZI N L x.1 x.2.2.1 x.2.1 x.2.2.2.1 q)/\jg x.1.toNat x.2.2.2.1.toNat (x.2.2.1,x.2.1)<m)
 (λx=>((x.1,(cn x.1.toNat 1000 x.2.2.2.1.toNat (x.2.2.2.2.1.getD []) (x.2.2.1,x.2.1)).2,(cn x.1.toNat 1000 x.2.2.2.1.toNat (x.2.2.2.2.1.getD []) (x.2.2.1,x.2.1)).1,()),()))
noncomputable abbrev x7:MSpec:=fD SN (λx=> ∃N L q,x.2.2.2.2.1=some q/\Ql N L x.1 x.2.2.1 x.2.1 x.2.2.2.1 q)
 (λx=>((x.1,(fW x.1.toNat 1000 x.2.2.2.1.toNat (x.2.2.2.2.1.getD []) (x.2.2.1,x.2.1)).2,(fW x.1.toNat 1000 x.2.2.2.1.toNat (x.2.2.2.2.1.getD []) (x.2.2.1,x.2.1)).1,()),()))
theorem tC (p q:List Int) (P:List Int->Prop):(0=0/\0=([]:List Int).length/\Bk (λ(v3:Int×List Int×PUnit) (k4:Int×List Int×PUnit->Prop)=>Br (decide (v3.1<(↑p.length:Int))) (∃(y5:Int),idx p v3.1=some y5/\ ∃(y6:Int),idx q y5=some y6/\0=0/\v3.2.1.length=v3.2.1.length/\v3.2.1.length+(List.take 1 (List.drop 0 [y6])).length<=Be/\0=0/\(v3.2.1++List.take 1 (List.drop 0 [y6])).length=(v3.2.1++List.take 1 (List.drop 0 [y6])).length/\k4 (IntKind.i64.wrap (v3.1+(1:Int)),v3.2.1++List.take 1 (List.drop 0 [y6]),())) (P (List.take v3.2.1.length (List.drop 0 v3.2.1)))) ((0:Int),[],PUnit.unit))=fnW Cd (look []) Iv Tryz.f156 (p,q,()) P:=by kernel_rfl
theorem Aen (c:Int×List (List (Option (List Int)))×List (List (Option (List Int)))×Unit) (l:Int) (p:List Int) (P:(List Int×Int×Unit)->Prop):(Bk (λ(v4:List Int×Int×PUnit) (k5:List Int×Int×PUnit->Prop)=>Br (decide (v4.2.1<c.1)) (∃(y6:List (Option (List Int))),idx c.2.1 v4.2.1=some y6/\ ∃(y7:Int),idx v4.1 v4.2.1=some y7/\ ∃(y8:Option (List Int)),idx y6 y7=some y8/\Br ((↑(y8.getD []).length:Int)==(0:Int)) (P (v4.1,v4.2.1,())) (∃(y9:List Int),Co.fn (y8.getD [],())=some y9/\ ∃(Jf:List Int),Ie.fn (v4.1,y9,())=some Jf/\k5 (Jf,IntKind.i64.wrap (v4.2.1+(1:Int)),()))) (P (v4.1,c.1,()))) (p,l,PUnit.unit))=fnW Rq (look [(76,Co),(156,Ie)]) mb Tryz.f144 (c,l,p,()) P:=by kernel_rfl
abbrev AZ:Type:=List Int×Int×List (List (Option (List Int)))×List (List (Option (List Int)))×Int×PUnit
theorem ZG (n:Int) (T G:List (List (Option (List Int)))) (l:Int) (p:List Int) (P:(Int×List (List (Option (List Int)))×List (List (Option (List Int)))×List Int×Int×Unit)×Unit->Prop):(0=0/\T.length=T.length/\0=0/\G.length=G.length/\Bk (λ(v6:AZ) (k7:AZ->Prop)=>Br (decide (v6.2.1<v6.2.2.2.2.1)) (((0:Int)<=v6.2.1/\v6.2.1<(↑v6.2.2.1.length:Int))/\ ∃(y8:Int),idx v6.1 v6.2.1=some y8/\((0:Int)<=y8/\y8<(↑(v6.2.2.1.getD (0+v6.2.1.toNat) []).length:Int))/\Br ((↑(((v6.2.2.1.getD (0+v6.2.1.toNat) []).getD y8.toNat (none:Option (List Int))).getD []).length:Int)==(0:Int)) ((0=0/\v6.2.2.1.length=v6.2.2.1.length)/\(0=0/\v6.2.2.2.1.length=v6.2.2.2.1.length)/\P ((v6.2.2.2.2.1,v6.2.2.1,v6.2.2.2.1,v6.1,v6.2.1,()),())) (∃(y9:List Int),Co.fn (((v6.2.2.1.getD (0+v6.2.1.toNat) []).getD y8.toNat (none:Option (List Int))).getD [],())=some y9/\ ∃(Jf:List Int),Ie.fn (v6.1,y9,())=some Jf/\0=0/\v6.2.2.1.length=v6.2.2.1.length/\0=0/\v6.2.2.2.1.length=v6.2.2.2.1.length/\k7 (Jf,IntKind.i64.wrap (v6.2.1+(1:Int)),v6.2.2.1,v6.2.2.2.1,v6.2.2.2.2.1,()))) ((0=0/\v6.2.2.1.length=v6.2.2.1.length)/\(0=0/\v6.2.2.2.1.length=v6.2.2.2.1.length)/\P ((v6.2.2.2.2.1,v6.2.2.1,v6.2.2.2.1,v6.1,v6.2.2.2.2.1,()),()))) (p,l,T,G,n,PUnit.unit))=fnMW Rq (look [(76,Co),(156,Ie)]) fN Tryz.f144 (n,T,G,l,p,()) P:=by kernel_rfl
abbrev xw:Type:=Int×List (Option (List Int))×List (List (Option (List Int)))×List (List (Option (List Int)))×Int×PUnit
abbrev UQ:Type:=(Int×List (List (Option (List Int)))×List (List (Option (List Int)))×List Int×Int×PUnit)×PUnit
abbrev Gv (y7:UQ) (l:Int) (p:Option (List Int)) (n:Int):Prop:=0=0/\(y7.1.2.2.1.getD (0+l.toNat) []).length=(y7.1.2.2.1.getD (0+l.toNat) []).length/\(y7.1.2.2.1.getD (0+l.toNat) []).length+(List.take 1 (List.drop 0 [p])).length<=Be/\((0:Int)<=l/\l<(↑y7.1.2.2.1.length:Int))/\0=0/\(y7.1.2.2.1.getD (0+l.toNat) []++List.take 1 (List.drop 0 [p])).length=(y7.1.2.2.1.getD (0+l.toNat) []++List.take 1 (List.drop 0 [p])).length/\0+l.toNat=0+l.toNat/\ [(0,y7.1.2.2.1.length),(0,y7.1.2.2.1.length),(0,y7.1.2.1.length),(0,y7.1.2.2.1.length)]= [(0,y7.1.2.2.1.length),(0,y7.1.2.2.1.length),(0,y7.1.2.1.length),(0,y7.1.2.2.1.length)]/\(l,p,y7.1.2.2.2.1,y7.1.2.2.2.2.1,l,n,decide (l>=n),l,p,y7.1.2.2.2.1,y7.1.2.2.2.2.1,y7.1.2.2.2.2.1,y7.1.1,y7.1.2.2.2.2.1==y7.1.1,l,l,0+l.toNat,p,List.take 1 (List.drop 0 [p]),0+l.toNat,y7.1.2.1,y7.1.2.2.1.set (0+l.toNat) (y7.1.2.2.1.getD (0+l.toNat) []++List.take 1 (List.drop 0 [p])),y7.1.1,())=(l,p,y7.1.2.2.2.1,y7.1.2.2.2.2.1,l,n,decide (l>=n),l,p,y7.1.2.2.2.1,y7.1.2.2.2.2.1,y7.1.2.2.2.2.1,y7.1.1,y7.1.2.2.2.2.1==y7.1.1,l,l,0+l.toNat,p,List.take 1 (List.drop 0 [p]),0+l.toNat,y7.1.2.1,y7.1.2.2.1.set (0+l.toNat) (y7.1.2.2.1.getD (0+l.toNat) []++List.take 1 (List.drop 0 [p])),y7.1.1,PUnit.unit)
theorem Aio {m:Nat} (n:Int) (T G:List (List (Option (List Int)))) (l:Int) (p:Option (List Int)) (P:(Int×List (List (Option (List Int)))×List (List (Option (List Int)))×Unit)×Unit->Prop):(Br (decide (l>=n)) ((0=0/\T.length=T.length)/\(0=0/\G.length=G.length)/\P ((n,T,G,()),())) (0=0/\T.length=T.length/\0=0/\G.length=G.length/\ ∃(y7:UQ),fN.fn (n,T,G,l,p.getD [],())=some y7/\Br (y7.1.2.2.2.2.1==y7.1.1) ((0=0/\y7.1.2.1.length=y7.1.2.1.length)/\(0=0/\y7.1.2.2.1.length=y7.1.2.2.1.length)/\P ((y7.1.1,y7.1.2.1,y7.1.2.2.1,()),())) (((0:Int)<=l/\l<(↑y7.1.2.2.1.length:Int))/\0=0/\(y7.1.2.2.1.getD (0+l.toNat) []).length=(y7.1.2.2.1.getD (0+l.toNat) []).length/\(y7.1.2.2.1.getD (0+l.toNat) []).length+(List.take 1 (List.drop 0 [p])).length<=Be/\((0:Int)<=l/\l<(↑y7.1.2.2.1.length:Int))/\0=0/\(y7.1.2.2.1.getD (0+l.toNat) []++List.take 1 (List.drop 0 [p])).length=(y7.1.2.2.1.getD (0+l.toNat) []++List.take 1 (List.drop 0 [p])).length/\0+l.toNat=0+l.toNat/\(0=0/\0=([]:List Int).length/\0=0/\y7.1.2.1.length=y7.1.2.1.length/\0=0/\y7.1.2.2.1.length=(y7.1.2.2.1.set (0+l.toNat) (y7.1.2.2.1.getD (0+l.toNat) []++List.take 1 (List.drop 0 [p]))).length/\Bk (λ(v8:xw) (k9:xw->Prop)=>Br (decide (v8.1<v8.2.2.2.2.1)) (((0:Int)<=l/\l<(↑v8.2.2.1.length:Int))/\((0:Int)<=v8.1/\v8.1<(↑(v8.2.2.1.getD (0+l.toNat) []).length:Int))/\Br (decide ((↑(((v8.2.2.1.getD (0+l.toNat) []).getD v8.1.toNat (none:Option (List Int))).getD []).length:Int)>(0:Int))) (((0:Int)<=l/\l<(↑v8.2.2.1.length:Int))/\((0:Int)<=v8.1/\v8.1<(↑(v8.2.2.1.getD (0+l.toNat) []).length:Int))/\0=0/\v8.2.1.length=v8.2.1.length/\v8.2.1.length+(List.take 1 (List.drop 0 [(v8.2.2.1.getD (0+l.toNat) []).getD v8.1.toNat none])).length<=Be/\0=0/\(v8.2.1++List.take 1 (List.drop 0 [(v8.2.2.1.getD (0+l.toNat) []).getD v8.1.toNat none])).length=(v8.2.1++List.take 1 (List.drop 0 [(v8.2.2.1.getD (0+l.toNat) []).getD v8.1.toNat none])).length/\0=0/\v8.2.2.1.length=v8.2.2.1.length/\0=0/\v8.2.2.2.1.length=v8.2.2.2.1.length/\k9 (IntKind.i64.wrap (v8.1+(1:Int)),v8.2.1++List.take 1 (List.drop 0 [(v8.2.2.1.getD (0+l.toNat) []).getD v8.1.toNat none]),v8.2.2.1,v8.2.2.2.1,v8.2.2.2.2.1,())) (0=0/\v8.2.1.length=v8.2.1.length/\0=0/\v8.2.2.1.length=v8.2.2.1.length/\0=0/\v8.2.2.2.1.length=v8.2.2.2.1.length/\k9 (IntKind.i64.wrap (v8.1+(1:Int)),v8.2.1,v8.2.2.1,v8.2.2.2.1,v8.2.2.2.2.1,()))) (0=0/\v8.2.1.length=v8.2.1.length/\0=0/\v8.2.2.1.length=v8.2.2.1.length/\0=0/\v8.2.2.2.1.length=v8.2.2.2.1.length/\Bk (λ(v10:xw) (k11:xw->Prop)=>Br (decide (v10.1<(↑v10.2.1.length:Int))) (((0:Int)<=v10.1/\v10.1<(↑v10.2.1.length:Int))/\ ∃(fT:Option (List Int)),v10.2.1[0+v10.1.toNat]?=some fT/\ ∃(It:Option (List Int)),Fl.fn (fT.getD [],p.getD [],())=some It/\0=0/\v10.2.2.1.length=v10.2.2.1.length/\0=0/\v10.2.2.2.1.length=v10.2.2.2.1.length/\ ∃(Fz:(Int×List (List (Option (List Int)))×List (List (Option (List Int)))×PUnit)×PUnit),(aS m).fn (v10.2.2.2.2.1,v10.2.2.1,v10.2.2.2.1,l,It,())=some Fz/\0=0/\v10.2.1.length=v10.2.1.length/\0=0/\Fz.1.2.1.length=Fz.1.2.1.length/\0=0/\Fz.1.2.2.1.length=Fz.1.2.2.1.length/\k11 (IntKind.i64.wrap (v10.1+(1:Int)),v10.2.1,Fz.1.2.1,Fz.1.2.2.1,Fz.1.1,())) ((0=0/\v10.2.2.1.length=v10.2.2.1.length)/\(0=0/\v10.2.2.2.1.length=v10.2.2.2.1.length)/\P ((v10.2.2.2.2.1,v10.2.2.1,v10.2.2.2.1,()),()))) ((0:Int),v8.2.1,v8.2.2.1,v8.2.2.2.1,v8.2.2.2.2.1,PUnit.unit))) ((0:Int),[],y7.1.2.1,y7.1.2.2.1.set (0+l.toNat) (y7.1.2.2.1.getD (0+l.toNat) []++List.take 1 (List.drop 0 [p])),y7.1.1,PUnit.unit))/\(((((0:Int)<=l/\l<(↑y7.1.2.2.1.length:Int))/\((Gv y7 l p n))/\(Gv y7 l p n))/\((0:Int)<=l/\l<(↑y7.1.2.2.1.length:Int))/\(Gv y7 l p n))/\((0:Int)<=l/\l<(↑y7.1.2.2.1.length:Int))/\(Gv y7 l p n))/\(((((0:Int)<=l/\l<(↑y7.1.2.2.1.length:Int))/\((Gv y7 l p n))/\(Gv y7 l p n))/\((0:Int)<=l/\l<(↑y7.1.2.2.1.length:Int))/\(Gv y7 l p n))/\(((0:Int)<=l/\l<(↑y7.1.2.2.1.length:Int))/\(((Gv y7 l p n))/\(Gv y7 l p n))/\(((Gv y7 l p n))/\((Gv y7 l p n))/\(Gv y7 l p n))/\((Gv y7 l p n))/\((Gv y7 l p n))/\(Gv y7 l p n))/\(((0:Int)<=l/\l<(↑y7.1.2.2.1.length:Int))/\(Gv y7 l p n))/\((0:Int)<=l/\l<(↑y7.1.2.2.1.length:Int))/\((Gv y7 l p n))/\((Gv y7 l p n))/\(Gv y7 l p n))/\(((0:Int)<=l/\l<(↑y7.1.2.2.1.length:Int))/\(Gv y7 l p n))/\(((0:Int)<=l/\l<(↑y7.1.2.2.1.length:Int))/\(Gv y7 l p n))/\((0:Int)<=l/\l<(↑y7.1.2.2.1.length:Int))/\((Gv y7 l p n))/\((Gv y7 l p n))/\(Gv y7 l p n))))=fnMW (VB [rP+46]) (look [(144,fN),(156,Fl),(157,Qk.m (aS m))]) (kv (m+1)) Tryz.f146 (n,T,G,l,p,()) P:=by kernel_rfl
abbrev UO:Type:=(Int×List (List (Option (List Int)))×List (List (Option (List Int)))×PUnit)×PUnit
abbrev UR:Type:=Int×List (List (Option (List Int)))×List (List (Option (List Int)))×Int×PUnit
theorem Aip {m:Nat} (n:Int) (T G:List (List (Option (List Int)))) (l:Int) (p:Option (List Int)) (P:(Int×List (List (Option (List Int)))×List (List (Option (List Int)))×Unit)×Unit->Prop):(((0:Int)<=l/\l<(↑T.length:Int))/\ ∃(y7:Int),idx (p.getD []) l=some y7/\((0:Int)<=y7/\y7<(↑(T.getD (0+l.toNat) []).length:Int))/\Br (decide ((↑(((T.getD (0+l.toNat) []).getD y7.toNat (none:Option (List Int))).getD []).length:Int)>(0:Int))) (∃(y8:List Int),Co.fn (((T.getD (0+l.toNat) []).getD y7.toNat (none:Option (List Int))).getD [],())=some y8/\ ∃(y9:Option (List Int)),Fl.fn (p.getD [],y8,())=some y9/\0=0/\T.length=T.length/\0=0/\G.length=G.length/\ ∃(Jf:UO),(kv m).fn (n,T,G,IntKind.i64.wrap (l+(1:Int)),y9,())=some Jf/\(0=0/\Jf.1.2.1.length=Jf.1.2.1.length)/\(0=0/\Jf.1.2.2.1.length=Jf.1.2.2.1.length)/\P ((Jf.1.1,Jf.1.2.1,Jf.1.2.2.1,()),())) (((0:Int)<=l/\l<(↑T.length:Int))/\ ∃(y8:Int),idx (p.getD []) l=some y8/\((0:Int)<=y8/\y8<(↑(T.getD (0+l.toNat) []).length:Int))/\0=0/\T.length=(T.set (0+l.toNat) ((T.getD (0+l.toNat) []).set y8.toNat p)).length/\0=0/\G.length=G.length/\Bk (λ(v9:UR) (k10:UR->Prop)=>((0:Int)<=l/\l<(↑v9.2.2.1.length:Int))/\Br (decide (v9.1<(↑(v9.2.2.1.getD (0+l.toNat) []).length:Int))) (((0:Int)<=l/\l<(↑v9.2.2.1.length:Int))/\((0:Int)<=v9.1/\v9.1<(↑(v9.2.2.1.getD (0+l.toNat) []).length:Int))/\ ∃(kZ:Option (List Int)),Fl.fn (p.getD [],((v9.2.2.1.getD (0+l.toNat) []).getD v9.1.toNat (none:Option (List Int))).getD [],())=some kZ/\0=0/\v9.2.1.length=v9.2.1.length/\0=0/\v9.2.2.1.length=v9.2.2.1.length/\ ∃(fT:UO),(aS m).fn (v9.2.2.2.1,v9.2.1,v9.2.2.1,l,kZ,())=some fT/\0=0/\fT.1.2.1.length=fT.1.2.1.length/\0=0/\fT.1.2.2.1.length=fT.1.2.2.1.length/\k10 (IntKind.i64.wrap (v9.1+(1:Int)),fT.1.2.1,fT.1.2.2.1,fT.1.1,())) ((0=0/\v9.2.1.length=v9.2.1.length)/\(0=0/\v9.2.2.1.length=v9.2.2.1.length)/\P ((v9.2.2.2.1,v9.2.1,v9.2.2.1,()),()))) ((0:Int),T.set (0+l.toNat) ((T.getD (0+l.toNat) []).set y8.toNat p),G,n,PUnit.unit)))=fnMW Rq (look [(76,Co),(156,Fl),(146,Qk.m (kv m)),(157,Qk.m (aS m))]) (aS (m+1)) Tryz.f157 (n,T,G,l,p,()) P:=by kernel_rfl
theorem LC {p q:List Int} {j:Nat} (h:j<p.length):(Ab p q).take (j+1)=(Ab p q).take j++ [Iy q p[j]]:=by
 unfold Ab
 rw [List.take_succ_eq_append_getElem (by rw [List.length_map];exact h),List.getElem_map]
theorem sH (p q:List Int) (h:List.length p<=20/\Hz (List.length q) p):fnW Cd (look []) Iv Tryz.f156 (p,q,()) (λ(z:List Int)=>z=Ab p q):=by
 obtain ⟨h1,h2⟩:=h
 refine Eq.mp (tC p q _) ⟨rfl,rfl,?_⟩
 refine Aj p.length (λv=>v.1) (λj v=>v=((j:Int),(Ab p q).take j,())) rfl rfl ?_
 rintro j v K hj hi rfl hK
 dsimp only
 have hlen:((Ab p q).take j).length<=20:=by rw [List.length_take];unfold Ab;rw [List.length_map];omega
 refine Br.dec (λhl=>?_) λhl=>?_
 ·have hl:j<p.length:=by omega
  have hr:=h2 p[j] (List.getElem_mem hl)
  refine ⟨_,Aq hl,Iy q p[j],dN hr.1 hr.2,rfl,rfl,?_,rfl,rfl,?_⟩
  ·show ((Ab p q).take j).length+1<=4294967296
   omega
  ·rw [Ag (by omega)]
   refine hK hl _ rfl ?_
   rw [LC hl]
   rfl
 ·have:j=p.length:=by omega
  subst this
  rw [Bb,<-Kj p q,List.take_length]
theorem Zh:Sound Tryz.prog 156 Iv:=
 Sound.Cg Bi Ai mixed Tryz.func156 (by kernel_rfl) (by kernel_rfl) λx h=>sH x.1 x.2.1 h
theorem Xx:Sound Tryz.prog 156 Ie:=Sound.loose Zh
theorem Xy:Sound Tryz.prog 156 Fl:=Sound.toO Zh λx h=>⟨⟨h.1.2,h.2⟩,λe=>by
 have:=Kj x.1 x.2.1
 rw [e] at this
 have:=h.1.1
 simp only [List.length_nil] at*
 omega⟩
theorem uV {N L i:Nat} {G T:Aw} {p:List Int} (n2:N<=20) (v3:fU N (N-L) L (G,T)) (v2:T.length=N) (h1:L<=i) (hl:i<N) (h4:Pm N p) (h5:Fx i p):
  ∃o,idx p (i:Int)=some (ap p i:Int)/\T[i]?=some (T.getD i [])/\ap p i<(T.getD i []).length/\(T.getD i [])[ap p i]?=some o/\(T.getD i []).getD (ap p i) none=o/\
   (o=none->(o.getD []).length=0/\ ∀k,Jn T (k+1) i p=(p,(i:Int),()))/\
   (∀t,o=some t->(t.length≠0/\t.length<=20/\Hz t.length t)/\(p.length<=20/\Hz (Ah t).length p)/\Pm N (Ab p (Ah t))/\Fx (i+1) (Ab p (Ah t))/\ ∀k,Jn T (k+1) i p=Jn T k (i+1) (Ab p (Ah t))):=by
 have Gj:=pj (N-L) L v3 i h1 (by omega)
 have hT:i<T.length:=by omega
 have hlen:(T.getD i []).length=N:=Gj.rl
 obtain ⟨a1,a2⟩:=h4.Vq hl
 have hg:(Iy p (i:Int)).toNat=ap p i:=rfl
 refine ⟨(T.getD i []).getD (ap p i) none,?_,?_,by omega,?_,rfl,λho=>?_,λt ho=>?_⟩
 ·rw [<-a1,Hx (by rw [h4.1];exact hl)];exact Aq (by rw [h4.1];exact hl)
 ·rw [List.getD_eq_getElem?_getD,List.getElem?_eq_getElem hT];rfl
 ·rw [List.getD_eq_getElem?_getD (l:=T.getD i []),List.getElem?_eq_getElem (by omega)];rfl
 ·refine ⟨by rw [ho];rfl,λk=>?_⟩
  simp only [Jn,hg,ho]
 ·obtain ⟨t1,t2,t3,t4⟩:=Gj.rt _ _ ho
  have hn1:=h4.n1
  refine ⟨⟨by rw [t1.1];omega,by rw [t1.1];exact n2,t1.2.row⟩,⟨by rw [h4.1];exact n2,by rw [jR,t1.1];exact h4.row⟩,h4.comp t1.inv,Fx.div h4 t1 h5 t2 hl t3,λk=>?_⟩
  simp only [Jn,hg,ho]
theorem Adu (c:Int×List (List (Option (List Int)))×List (List (Option (List Int)))×Unit) (l:Int) (p:List Int) (h: ∃N L,Ql N L c.1 c.2.2.1 c.2.1 l p):
  fnW Rq (look [(76,Co),(156,Ie)]) mb Tryz.f144 (c,l,p,()) (λ(z:List Int×Int×Unit)=>z=Jn c.2.1 (c.1-l).toNat l.toNat p):=by
 obtain ⟨n,T,G,⟨⟩⟩:=c
 obtain ⟨N,L,h⟩:=h
 obtain ⟨n1,n2,en,el,hle,v,pm,fx⟩:=h
 dsimp only at en el v⊢
 subst en el
 refine Eq.mp (Aen ((N:Int),T,G,()) (L:Int) p _) ?_
 obtain ⟨v1,v2,v3,v4⟩:=v
 dsimp only at v1 v2
 refine ⟨λv=> ∃i:Nat,L<=i/\i<=N/\v.2.1=i/\Pm N v.1/\Fx i v.1/\Jn T (N-i) i v.1=Jn T (N-L) L p,λv=>N-v.2.1.toNat,⟨L,Nat.le_refl _,hle,rfl,pm,fx,rfl⟩,?_⟩
 rintro ⟨p',i',⟨⟩⟩ ⟨i,h1,h2,h3,h4,h5,h6⟩
 dsimp only at h3 h4 h5 h6⊢
 subst h3
 rw [show (((N:Int)-(L:Int)).toNat)=N-L by omega,show ((L:Int)).toNat=L by omega,<-h6]
 refine Br.dec (λhl=>?_) λhl=>?_
 ·have hl:i<N:=by omega
  obtain ⟨o,s1,s2,s3,s4,s5,s6,s7⟩:=uV n2 v3 v2 h1 hl h4 h5
  have hT:i<T.length:=by omega
  refine ⟨T.getD i [],by rw [Aq hT,<-s2,List.getElem?_eq_getElem hT],_,s1,o,by rw [Aq s3,<-s4,List.getElem?_eq_getElem s3],?_⟩
  rw [show N-i=(N-i-1)+1 by omega]
  cases o with
  |none=>
   rw [(s6 rfl).2]
   exact Br.of (λ_=>rfl) λhb=>by simp at hb
  |some t=>
   obtain ⟨⟨q1,q2⟩,q3,q4,q5,q6⟩:=s7 t rfl
   refine Br.of (λhb=>absurd (by simpa using hb) q1) λ_=>?_
   refine ⟨_,if_pos q2,_,if_pos q3,⟨i+1,by omega,by omega,Ag (by omega),q4,q5,?_⟩,?_⟩
   ·rw [q6,show N-(i+1)=N-i-1 by omega];rfl
   ·show N-(IntKind.i64.wrap ((i:Int)+1)).toNat<N-((i:Int)).toNat
    rw [Ag (by omega)]
    omega
 ·have:i=N:=by omega
  subst this
  rw [Nat.sub_self]
  rfl
theorem HC:Sound Tryz.prog 144 mb:=
 Sound.Cg j8 (Ae Tw (Ae Xx Ai)) mixed Tryz.func144 (by kernel_rfl) (by kernel_rfl) λx h=>Adu x.1 x.2.1 x.2.2.1 h
theorem YL (n:Int) (T G:List (List (Option (List Int)))) (l:Int) (p:List Int) (h: ∃N L,Ql N L n G T l p):
  fnMW Rq (look [(76,Co),(156,Ie)]) fN Tryz.f144 (n,T,G,l,p,()) (λ(z:(Int×List (List (Option (List Int)))×List (List (Option (List Int)))×List Int×Int×Unit)×Unit)=>z=((n,T,G,(Jn T (n-l).toNat l.toNat p).1,(Jn T (n-l).toNat l.toNat p).2.1,()),())):=by
 obtain ⟨N,L,h⟩:=h
 obtain ⟨n1,n2,en,el,hle,v,pm,fx⟩:=h
 subst en el
 refine Eq.mp (ZG (N:Int) T G (L:Int) p _) ⟨rfl,rfl,rfl,rfl,?_⟩
 obtain ⟨v1,v2,v3,v4⟩:=v
 dsimp only at v1 v2
 refine ⟨λv=> ∃i:Nat,L<=i/\i<=N/\v.2=((i:Int),T,G,(N:Int),())/\Pm N v.1/\Fx i v.1/\Jn T (N-i) i v.1=Jn T (N-L) L p,λv=>N-v.2.1.toNat,⟨L,Nat.le_refl _,hle,rfl,pm,fx,rfl⟩,?_⟩
 rintro ⟨p',v'⟩ ⟨i,h1,h2,h3,h4,h5,h6⟩
 dsimp only at h3 h4 h5 h6⊢
 subst h3
 dsimp only
 rw [show (((N:Int)-(L:Int)).toNat)=N-L by omega,show ((L:Int)).toNat=L by omega,<-h6]
 refine Br.dec (λhl=>?_) λhl=>?_
 ·have hl:i<N:=by omega
  obtain ⟨o,s1,s2,s3,s4,s5,s6,s7⟩:=uV n2 v3 v2 h1 hl h4 h5
  simp only [Int.toNat_natCast,Nat.zero_add,true_and,and_true]
  refine ⟨⟨by omega,by omega⟩,_,s1,⟨by omega,by omega⟩,?_⟩
  rw [Int.toNat_natCast,s5,show N-i=(N-i-1)+1 by omega]
  cases o with
  |none=>
   rw [(s6 rfl).2]
   exact Br.of (λ_=>rfl) λhb=>by simp at hb
  |some t=>
   obtain ⟨⟨q1,q2⟩,q3,q4,q5,q6⟩:=s7 t rfl
   refine Br.of (λhb=>absurd (by simpa using hb) q1) λ_=>?_
   refine ⟨_,if_pos q2,_,if_pos q3,⟨i+1,by omega,by omega,?_,q4,q5,?_⟩,?_⟩
   ·rw [Ag (by omega)]
   ·rw [q6,show N-(i+1)=N-i-1 by omega];rfl
   ·show N-(IntKind.i64.wrap ((i:Int)+1)).toNat<N-i-1+1
    rw [Ag (by omega)]
    omega
 ·have:i=N:=by omega
  subst this
  rw [Nat.sub_self]
  exact ⟨⟨rfl,rfl⟩,⟨rfl,rfl⟩,rfl⟩
theorem AS:Ay Tryz.prog 144 fN:=
 Ay.fD j8 (Ae Tw (Ae Xx Ai)) mixed Tryz.func144 (by kernel_rfl) (by kernel_rfl) λx h=>YL x.1 x.2.1 x.2.2.1 x.2.2.2.1 x.2.2.2.2.1 h
theorem Ai1 {m:Nat} (n:Int) (T G:List (List (Option (List Int)))) (l:Int) (p:Option (List Int)) (h:(∃N L q,p=some q/\ZI N L n G T l q)/\jg n.toNat l.toNat (G,T)<m+1):
  fnMW Rq (look [(76,Co),(156,Fl),(146,Qk.m (kv m)),(157,Qk.m (aS m))]) (aS (m+1)) Tryz.f157 (n,T,G,l,p,()) (λ(z:(Int×List (List (Option (List Int)))×List (List (Option (List Int)))×Unit)×Unit)=>z=((n,(cn n.toNat 1000 l.toNat (p.getD []) (G,T)).2,(cn n.toNat 1000 l.toNat (p.getD []) (G,T)).1,()),())):=by
 obtain ⟨⟨N,L,q,rfl,h⟩,hm⟩:=h
 obtain ⟨n1,n2,en,el,Ey,part,pm,fx,gn,gl⟩:=h
 subst en el
 refine Eq.mp (Aip (N:Int) T G (L:Int) (some q) _) ?_
 have l1:G.length=N:=part.l1
 have l2:T.length=N:=part.l2
 have row:=part.row
 dsimp only at row
 have XR:=row.rl
 have hy:=pm.lt Ey
 simp only [Int.toNat_natCast,Nat.zero_add,Option.getD_some,true_and,and_true,List.length_set] at hm⊢
 refine ⟨⟨by omega,by omega⟩,_,wc pm Ey,⟨by omega,by omega⟩,?_⟩
 simp only [Int.toNat_natCast]
 rcases Option.eq_none_or_eq_some ((T.getD L []).getD (ap q L) none) with Gj|⟨t,Gj⟩
 case inr=>
  obtain ⟨t1,t2,t3,t4⟩:=row.rt _ _ Gj
  have htl:=t1.1
  refine Br.dec (λ_=>?_) λhb=>?_
  ·rw [Gj,Option.getD_some]
   have hw:IntKind.i64.wrap ((L:Int)+1)=((L+1:Nat):Int):=Ag (by omega)
   rw [hw]
   have WJ:=TE (s:=(G,T)) Ey
   refine ⟨_,if_pos ⟨by show t.length<=20;omega,t1.2.row⟩,some (Ab q (Ah t)),if_pos ⟨Sd pm,m4 pm t1.inv⟩,_,
    if_pos ⟨⟨N,L+1,_,rfl,n1,n2,rfl,rfl,by omega,part.v,pm.comp t1.inv,Fx.div pm t1 fx t2 Ey t3⟩,by show KA (N:Int).toNat ((L+1:Nat):Int).toNat<m;rw [Int.toNat_natCast,Int.toNat_natCast];omega⟩,?_⟩
   simp only [Int.toNat_natCast,Option.getD_some]
   rw [QB n1 n2 Ey part pm fx Gj]
  ·rw [Gj,Option.getD_some] at hb
   omega
 case inl=>
  refine Br.dec (λhb=>by rw [Gj] at hb;simp at hb) λ_=>?_
  obtain ⟨a1,a2⟩:=xZ Ey part pm fx gn Gj
  have nU:=QA n1 n2 Ey part pm fx gn Gj
  have WJ:=YB (n:=N) (q:=q) (s:=(G,T)) (k:=L) (y:=ap q L) (by show L<T.length;omega) (by show ap q L<(T.getD L []).length;omega) Gj
  have run:= λj=>tX n1 n2 Ey a1 a2 j
  dsimp only at a1 a2 nU WJ run
  refine ⟨⟨by omega,by omega⟩,_,wc pm Ey,⟨by omega,by omega⟩,?_⟩
  simp only [Int.toNat_natCast]
  rw [nU]
  generalize hs0:((G,T.set L ((T.getD L []).set (ap q L) (some q))):Aw×Aw)=s0 at WJ run⊢
  have Acv:T.set L ((T.getD L []).set (ap q L) (some q))=s0.2:=by rw [<-hs0]
  have RT:G=s0.1:=by rw [<-hs0]
  have hql:((G.getD L []).map λo=>Ab q (o.getD [])).length=(G.getD L []).length:=List.length_map _
  refine Aj (G.getD L []).length (λv=>v.1) (λj v=> ∃s:Aw×Aw,v=((j:Int),s.2,s.1,(N:Int),())/\s=dA N L (((G.getD L []).map λo=>Ab q (o.getD [])).take j) s0) rfl ⟨s0,by rw [<-RT,Acv];rfl,rfl⟩ ?_
  rintro j v K hj hi ⟨s,rfl,hs⟩ hK
  have hr:=run j
  rw [<-hs] at hr
  have g1:s.1.getD L []=G.getD L []:=by rw [hr.same,RT]
  have g2:s.1.length=N:=hr.part.l1
  have g4:jg N L (s.1,s.2)<=jg N L s0:=hr.mu
  dsimp only
  simp only [g1]
  refine ⟨⟨by omega,by omega⟩,Br.dec (λhl=>?_) λhl=>?_⟩
  ·have hl:j<(G.getD L []).length:=by omega
   obtain ⟨g,l7,Oc,hgf⟩:=part.pg _ (List.getElem_mem hl)
   have hgj:(G.getD L []).getD j none=some g:=by rw [yN hl];exact l7
   have hqj:(((G.getD L []).map λo=>Ab q (o.getD []))[j]'(by rw [hql];exact hl))=Ab q g:=by rw [List.getElem_map,l7];rfl
   obtain ⟨b1,b2,b3⟩:=a2 (Ab q g) (by rw [<-hqj];exact List.getElem_mem _)
   simp only [Int.toNat_natCast,hgj,Option.getD_some]
   refine ⟨⟨by omega,by omega⟩,⟨by omega,by omega⟩,some (Ab q g),if_pos ⟨Sd pm,m4 pm Oc⟩,_,
    if_pos ⟨⟨N,L,_,rfl,n1,n2,rfl,rfl,Ey,hr.part,b1,b2,by rw [g1];exact b3,by rw [g1];exact gl⟩,by show jg (N:Int).toNat (L:Int).toNat (s.1,s.2)<m;rw [Int.toNat_natCast,Int.toNat_natCast];omega⟩,?_⟩
   simp only [Int.toNat_natCast,Option.getD_some]
   rw [Ag (by omega)]
   refine hK hl _ rfl ⟨_,rfl,?_⟩
   rw [pz (by rw [hql];exact hl),<-hs,hqj]
  ·have:j=(G.getD L []).length:=by omega
   subst this
   rw [<-hql,List.take_length] at hs
   rw [hs]
theorem UJ {m:Nat} (Ad5:Ay Tryz.prog 146 (kv m)) (EE:Ay Tryz.prog 157 (aS m)):Ay Tryz.prog 157 (aS (m+1)):=
 Ay.fD j8 (Ae Tw (Ae Xy (Er Ad5 (Er EE Ai)))) mixed Tryz.func157 (by kernel_rfl) (by kernel_rfl) λx h=>Ai1 x.1 x.2.1 x.2.2.1 x.2.2.2.1 x.2.2.2.2.1 h
theorem Ai0 {m:Nat} (n:Int) (T G:List (List (Option (List Int)))) (l:Int) (p:Option (List Int)) (h:(∃N L q,p=some q/\Ql N L n G T l q)/\KA n.toNat l.toNat<m+1):
  fnMW (VB [rP+46]) (look [(144,fN),(156,Fl),(157,Qk.m (aS m))]) (kv (m+1)) Tryz.f146 (n,T,G,l,p,()) (λ(z:(Int×List (List (Option (List Int)))×List (List (Option (List Int)))×Unit)×Unit)=>z=((n,(fW n.toNat 1000 l.toNat (p.getD []) (G,T)).2,(fW n.toNat 1000 l.toNat (p.getD []) (G,T)).1,()),())):=by
 obtain ⟨⟨N,L,q,rfl,h⟩,hm⟩:=h
 have h':=h
 obtain ⟨n1,n2,en,el,hle,v,pm,fx⟩:=h
 subst en el
 have hk:((N:Int)-(L:Int)).toNat=N-L:=by omega
 have back: ∀s:Aw×Aw,fW N 1000 L q (G,T)=s->((((N:Int),s.2,s.1,()),()):(Int×Aw×Aw×Unit)×Unit)=((((N:Int),(fW N 1000 L q (G,T)).2,(fW N 1000 L q (G,T)).1,()),()):(Int×Aw×Aw×Unit)×Unit):= λs e=>by rw [e]
 refine Eq.mp (Aio (N:Int) T G (L:Int) (some q) _) ?_
 simp only [Int.toNat_natCast,Nat.zero_add,Option.getD_some,true_and,and_true] at hm⊢
 refine Br.dec (λl7=>?_) λEy=>?_
 ·exact back (G,T) (IK (by rw [show N-L=0 by omega];rfl))
 have Ey:L<N:=by omega
 have hv:=v
 obtain ⟨v1,v2,v3,v4⟩:=v
 dsimp only at v1 v2
 have hsl:(Jn T (N-L) L q).2.1=(N:Int)↔Ee T (N-L) L q=true:=by
  have:=qQ (T:=T) (N-L) L q
  rw [show L+(N-L)=N by omega] at this
  exact this
 refine ⟨_,if_pos ⟨N,L,h'⟩,?_⟩
 simp only [Gv]
 simp only [hk,Int.toNat_natCast]
 refine Br.of (λhh=>?_) λhh=>?_
 ·exact back (G,T) (IK (hsl.1 (eq_of_beq hh)))
 have hno: ¬Ee T (N-L) L q=true:= λhc=>by rw [hsl.2 hc] at hh;simp at hh
 have gK:=PZ n1 n2 (s:=(G,T)) Ey hv pm fx hno
 obtain ⟨a1,a2⟩:=xY n1 n2 (s:=(G,T)) Ey hv pm fx
 have hgl:(G.getD L []).length<=400:=by
  obtain ⟨k,hk1⟩: ∃k,N-L=k+1:=⟨N-L-1,by omega⟩
  rw [hk1] at hv
  exact JB n2 (by omega) hv
 have e1:(0:Int)<=(L:Int)/\(L:Int)<(G.length:Int):=by omega
 have e2:(G.getD L []).length+1<=Be:=by show _<=4294967296;omega
 have row:=a1.row
 dsimp only at row a1 a2 gK
 have XR:=row.rl
 have run:= λj=>tX n1 n2 Ey a1 a2 j
 have WJ:=EY a1
 simp only [List.drop_zero,List.take_succ_cons,List.take_zero,List.length_cons,List.length_nil,List.length_set,Nat.zero_add,e1,e2,and_self,true_and,and_true]
 have hG1:(G.set L (G.getD L []++ [some q])).getD L []=G.getD L []++ [some q]:=Zv G L (by omega) _
 generalize hs0:((G.set L (G.getD L []++ [some q]),T):Aw×Aw)=s0 at WJ run gK⊢
 have RT:G.set L (G.getD L []++ [some q])=s0.1:=by rw [<-hs0]
 have Acv:T=s0.2:=by rw [<-hs0]
 refine Aj N (λv=>v.1) (λy v=>v=((y:Int),(known ((T.getD L []).take y)).map some,T,G.set L (G.getD L []++ [some q]),(N:Int),())) rfl rfl ?_
 rintro y v K hj hi rfl hK
 dsimp only
 refine Br.dec (λhl=>?_) λhl=>?_
 ·have hl:y<N:=by omega
  have hy:y<(T.getD L []).length:=by omega
  have WE:=EP hy
  have My:=uo ((T.getD L []).take y)
  rw [List.length_take] at My
  have hye:(T.getD L []).getD y none=(T.getD L [])[y]:=yN hy
  simp only [Int.toNat_natCast]
  refine ⟨by omega,⟨by omega,by omega⟩,?_⟩
  rcases Option.eq_none_or_eq_some ((T.getD L []).getD y none) with ho|⟨t,ho⟩
  ·refine Br.dec (λhb=>by rw [ho] at hb;simp at hb) λ_=>?_
   rw [Ag (by omega)]
   refine hK hl _ rfl ?_
   rw [WE,<-hye,ho]
   simp
  ·obtain ⟨t1,t2,t3,t4⟩:=row.rt _ _ ho
   have htl:=t1.1
   refine Br.dec (λ_=>?_) λhb=>by rw [ho,Option.getD_some] at hb;omega
   refine ⟨by omega,⟨by omega,by omega⟩,?_,?_⟩
   ·show _<=4294967296
    rw [List.length_map];omega
   ·rw [Ag (by omega)]
    refine hK hl _ rfl ?_
    rw [WE,<-hye,ho]
    simp
 ·have:y=N:=by omega
  subst this
  have RI:(T.getD L []).take y=T.getD L []:=List.take_of_length_le (by omega)
  rw [RI]
  have hql:((known (T.getD L [])).map λu=>Ab u q).length=(known (T.getD L [])).length:=List.length_map _
  have My:=uo (T.getD L [])
  refine Aj (known (T.getD L [])).length (λv=>v.1) (λj v=> ∃s:Aw×Aw,v=((j:Int),(known (T.getD L [])).map some,s.2,s.1,(y:Int),())/\s=dA y L (((known (T.getD L [])).map λu=>Ab u q).take j) s0) rfl ⟨s0,by rw [<-Acv,RT];rfl,rfl⟩ ?_
  rintro j v K' w5 jN ⟨s,rfl,hs⟩ XB
  have hr:=run j
  rw [<-hs] at hr
  have g1:s.1.getD L []=G.getD L []++ [some q]:=by rw [hr.same,<-RT];exact hG1
  have g4:jg y L (s.1,s.2)<=jg y L s0:=hr.mu
  dsimp only
  refine Br.dec (λGt=>?_) λGt=>?_
  ·rw [List.length_map] at Gt
   have Gt:j<(known (T.getD L [])).length:=by omega
   obtain ⟨w,hw⟩:=fC.1 (List.getElem_mem Gt)
   obtain ⟨t1,t2,t3,t4⟩:=row.rt _ _ hw
   have hqj:(((known (T.getD L [])).map λu=>Ab u q)[j]'(by rw [hql];exact Gt))=Ab (known (T.getD L []))[j] q:=by rw [List.getElem_map]
   obtain ⟨b1,b2,b3⟩:=a2 (Ab (known (T.getD L []))[j] q) (by rw [<-hqj];exact List.getElem_mem _)
   simp only [Int.toNat_natCast]
   refine ⟨⟨by omega,by rw [List.length_map];omega⟩,some (known (T.getD L []))[j],by rw [List.getElem?_map,List.getElem?_eq_getElem Gt];rfl,some (Ab (known (T.getD L []))[j] q),if_pos ⟨Sd t1,m4 t1 pm⟩,_,
    if_pos ⟨⟨y,L,_,rfl,n1,n2,rfl,rfl,Ey,hr.part,b1,b2,by rw [g1,<-hG1];exact b3,by rw [g1,List.length_append,List.length_singleton];omega⟩,by show jg (y:Int).toNat (L:Int).toNat (s.1,s.2)<m;rw [Int.toNat_natCast,Int.toNat_natCast];omega⟩,?_⟩
   simp only [Int.toNat_natCast,Option.getD_some]
   rw [Ag (by omega)]
   refine XB Gt _ rfl ⟨_,rfl,?_⟩
   rw [pz (by rw [hql];exact Gt),<-hs,hqj]
  ·rw [List.length_map] at Gt
   have:j=(known (T.getD L [])).length:=by omega
   subst this
   rw [<-hql,List.take_length] at hs
   exact back s (gK.trans hs.symm)
theorem UI {m:Nat} (EE:Ay Tryz.prog 157 (aS m)):Ay Tryz.prog 146 (kv (m+1)):=
 Ay.fD (YZ [rP+46]) (Er AS (Ae Xy (Er EE Ai))) mixed Tryz.func146 (by kernel_rfl) (by kernel_rfl) λx h=>Ai0 x.1 x.2.1 x.2.2.1 x.2.2.2.1 x.2.2.2.2.1 h
theorem NR:Ay Tryz.prog 146 (kv 0)/\Ay Tryz.prog 157 (aS 0):=
 ⟨Ay.fD Bi Ai mixed Tryz.func146 (by kernel_rfl) (by kernel_rfl) λ_ h=>absurd h.2 (Nat.not_lt_zero _),
  Ay.fD Bi Ai mixed Tryz.func157 (by kernel_rfl) (by kernel_rfl) λ_ h=>absurd h.2 (Nat.not_lt_zero _)⟩
theorem fO: ∀m,Ay Tryz.prog 146 (kv m)/\Ay Tryz.prog 157 (aS m)
 |0=>NR
 |m+1=>⟨UI (fO m).2,UJ (fO m).1 (fO m).2⟩
theorem GP:Ay Tryz.prog 146 x7:=Ay.TI (λx=>KA x.1.toNat x.2.2.2.1.toNat) λm=>(fO m).1
end Go.Proofs.YtfolipnappekaaaGreat

namespace Go.Proofs.YtfolipnappekaaaGreat
open Go.RowKit
noncomputable abbrev Ze:Spec:=Cg (.pair tL .unit) tO false true (λx=>short x.1/\1<=List.length x.1) (λx=>some x.1)
noncomputable abbrev wk:MSpec:= {Eh:= [none],ins:= [(false, .Dn tI)],Cs:=false,Di:= [none,none,none],outs:= [.Dn tI, .Al tO rV false, .Al tO rV false],fn:= λ_=>none,rp:=some 153}
noncomputable abbrev Nj:MSpec:=fD wk (λx=>1<=x.1/\x.1<=20) (λx=>((x.1,Tl x.1.toNat,Ny x.1.toNat,()),()))
noncomputable abbrev sl:MSpec:= {Eh:= [none,none],ins:= [(false, .Dn tI),(false, .Dn YU)],Cs:=false,Di:= [none,none,none],outs:= [.Dn tI, .Al tO rV false, .Al tO rV false],fn:= λ_=>none,rp:=some 153}
noncomputable abbrev a9:MSpec:=fD sl (λx=>(1<=x.1/\x.1<=20)/\List.length x.2.1<=4294967296/\ ∀o∈(x.2.1:List PO),∃g,o=some g/\Pm x.1.toNat g)
 (λx=>((x.1,(Kt x.1.toNat x.2.1).2,(Kt x.1.toNat x.2.1).1,()),()))
noncomputable abbrev sm:MSpec:= {Eh:= [none,none],ins:= [(false, .Dn tI),(false, .Dn cU)],Cs:=false,Di:= [none,none,none],outs:= [.Dn tI, .Al tO rV false, .Al tO rV false],fn:= λ_=>none,rp:=some 153}
noncomputable abbrev Ni:MSpec:=fD sm (λx=>(1<=x.1/\x.1<=20)/\List.length x.2.1<=4294967296/\ ∀g∈(x.2.1:List (List Int)),Pm x.1.toNat g)
 (λx=>((x.1,(lp x.1 x.2.1).2,(lp x.1 x.2.1).1,()),()))
noncomputable abbrev Sw:Spec:=Cg (.pair (.ptr kU) (.pair tL .unit)) .bool false true (λx=> ∃N,Ql N 0 x.1.1 x.1.2.2.1 x.1.2.1 0 x.2.1) (λx=>Ee x.1.2.1 x.1.1.toNat 0 x.2.1)
noncomputable def dR (n:Int) (g:List (List Int)) (p:List Int):Bool:=(Mp n g&&Dc n p)&&Ee (lp n g).2 n.toNat 0 p
noncomputable abbrev Sz:Spec:=Cg (.pair tI (.pair cU (.pair tL .unit))) .bool false true (λx=>Ff x.2.1/\short x.2.2.1) (λx=>dR x.1 x.2.1 x.2.2.1)
abbrev gX:Type:=Int×Int×List (List (Option (List Int)))×List (List (Option (List Int)))×PUnit
theorem xH (n:Int) (P:(Int×List (List (Option (List Int)))×List (List (Option (List Int)))×Unit)×Unit->Prop):(0=0/\0=([]:List Int).length/\0=0/\0=([]:List Int).length/\Bk (λ(v2:gX) (k3:gX->Prop)=>Br (decide (v2.1<n)) (((0:Int)<=n/\n<(↑Be:Int)+(1:Int))/\n=n/\ ∃(y4:Option (List Int)),Ks.fn (n,())=some y4/\((0:Int)<=v2.1/\v2.1<(↑(List.replicate n.toNat (none:Option (List Int))).length:Int))/\0+v2.1.toNat<(List.replicate n.toNat (none:Option (List Int))).length/\0=0/\(List.replicate n.toNat (none:Option (List Int))).length=((List.replicate n.toNat (none:Option (List Int))).set (0+v2.1.toNat) y4).length/\(0=0/\v2.2.2.1.length=v2.2.2.1.length)/\(0=0/\1= [(List.replicate n.toNat (none:Option (List Int))).set (0+v2.1.toNat) y4].length)/\0< [(List.replicate n.toNat (none:Option (List Int))).set (0+v2.1.toNat) y4].length/\v2.2.2.1.length+ [(List.replicate n.toNat (none:Option (List Int))).set (0+v2.1.toNat) y4].length<=Be/\0=0/\0=([]:List Int).length/\(0=0/\v2.2.2.2.1.length=v2.2.2.2.1.length)/\(0=0/\1=([[]]:List (List (Option (List Int)))).length)/\0<([[]]:List (List (Option (List Int)))).length/\v2.2.2.2.1.length+([[]]:List (List (Option (List Int)))).length<=Be/\0=0/\(v2.2.2.1++ [(List.replicate n.toNat (none:Option (List Int))).set (0+v2.1.toNat) y4]).length=(v2.2.2.1++ [(List.replicate n.toNat (none:Option (List Int))).set (0+v2.1.toNat) y4]).length/\0=0/\(v2.2.2.2.1++ [[]]).length=(v2.2.2.2.1++ [[]]).length/\k3 (IntKind.i64.wrap (v2.1+(1:Int)),v2.2.1,v2.2.2.1++ [(List.replicate n.toNat (none:Option (List Int))).set (0+v2.1.toNat) y4],v2.2.2.2.1++ [[]],())) ((0=0/\v2.2.2.1.length=v2.2.2.1.length)/\(0=0/\v2.2.2.2.1.length=v2.2.2.2.1.length)/\P ((v2.2.1,v2.2.2.1,v2.2.2.2.1,()),()))) ((0:Int),n,[],[],PUnit.unit))=fnMW Rq (look [(115,Ks)]) Nj Tryz.f145 (n,()) P:=by kernel_rfl
abbrev eG:Type:=(Int×List (List (Option (List Int)))×List (List (Option (List Int)))×PUnit)×PUnit
abbrev eI:Type:=Int×List (List (Option (List Int)))×List (List (Option (List Int)))×Int×PUnit
theorem tq (n:Int) (gens:List (Option (List Int))) (P:(Int×List (List (Option (List Int)))×List (List (Option (List Int)))×Unit)×Unit->Prop):(∃(y3:eG),Nj.fn (n,())=some y3/\0=0/\y3.1.2.1.length=y3.1.2.1.length/\0=0/\y3.1.2.2.1.length=y3.1.2.2.1.length/\Bk (λ(v4:eI) (k5:eI->Prop)=>Br (decide (v4.1<(↑gens.length:Int))) (∃(y6:Option (List Int)),idx gens v4.1=some y6/\ ∃(y7:Option (List Int)),Ze.fn (y6.getD [],())=some y7/\0=0/\v4.2.1.length=v4.2.1.length/\0=0/\v4.2.2.1.length=v4.2.2.1.length/\ ∃(y8:eG),x7.fn (v4.2.2.2.1,v4.2.1,v4.2.2.1,(0:Int),y7,())=some y8/\0=0/\y8.1.2.1.length=y8.1.2.1.length/\0=0/\y8.1.2.2.1.length=y8.1.2.2.1.length/\k5 (IntKind.i64.wrap (v4.1+(1:Int)),y8.1.2.1,y8.1.2.2.1,y8.1.1,())) ((0=0/\v4.2.1.length=v4.2.1.length)/\(0=0/\v4.2.2.1.length=v4.2.2.1.length)/\P ((v4.2.2.2.1,v4.2.1,v4.2.2.1,()),()))) ((0:Int),y3.1.2.1,y3.1.2.2.1,y3.1.1,PUnit.unit))=fnMW Rq (look [(145,Nj),(116,Ze),(146,x7)]) a9 Tryz.f129 (n,gens,()) P:=by kernel_rfl
theorem HR (c:Int×List (List (Option (List Int)))×List (List (Option (List Int)))×Unit) (p:List Int) (P:Bool->Prop):(∃(y3:List Int×Int×PUnit),mb.fn (c,(0:Int),p,())=some y3/\P (y3.2.1==c.1))=fnW Rq (look [(144,mb)]) Sw Tryz.f128 (c,p,()) P:=by kernel_rfl
theorem HV (n:Int) (g:List (List Int)) (p:List Int) (P:Bool->Prop):(∃(y4:Bool),Ig.fn (n,g,())=some y4/\Br y4 (Br ((↑p.length:Int)==n) (∃(y5:Bool),Eb.fn (p,())=some y5/\Br y5 (∃(y6:(Int×List (List (Option (List Int)))×List (List (Option (List Int)))×PUnit)×PUnit),Ni.fn (n,g,())=some y6/\ ∃(y7:Bool),Sw.fn ((y6.1.1,List.take y6.1.2.1.length (List.drop 0 y6.1.2.1),List.take y6.1.2.2.1.length (List.drop 0 y6.1.2.2.1),()),p,())=some y7/\P y7) (P false)) (P false)) (P false))=fnW Cd (look [(123,Ig),(75,Eb),(129,Ni),(128,Sw)]) Sz Tryz.f96 (n,g,p,()) P:=by kernel_rfl
theorem BY (p:Int×ByteArray×List (List Int)×Unit) (s:List Int) (P:Bool->Prop):(∃(y3:Bool),Ix.fn ((p.1,p.2.1,p.2.2.1,()),s,())=some y3/\Br y3 (∃(y4:Bool),Sz.fn (p.1,p.2.2.1,s,())=some y4/\P y4) (P false))=fnW Cd (look [(95,Ix),(96,Sz)]) Iw Tryz.f73 (p,s,()) P:=by kernel_rfl
theorem BQ (p:Int×ByteArray×List (List Int)×Unit) (s:List Int) (P:Bool->Prop):(∃(y3:Bool),Ix.fn ((p.1,p.2.1,p.2.2.1,()),s,())=some y3/\Br y3 (∃(y4:(Int×List (List (Option (List Int)))×List (List (Option (List Int)))×PUnit)×PUnit),Tb.fn (p.1,p.2.2.1,())=some y4/\ ∃(y5:Bool),kx.fn ((y4.1.1,List.take y4.1.2.1.length (List.drop 0 y4.1.2.1),List.take y4.1.2.2.1.length (List.drop 0 y4.1.2.2.1),()),(0:Int),s,())=some y5/\P y5) (P false))=fnW Cd (look [(97,Ix),(98,Tb),(99,kx)]) Iw Tryz.f74 (p,s,()) P:=by kernel_rfl
theorem gk:Sound Tryz.prog 115 Ks:=Sound.toO eA λ_ h=>KO h
theorem o1:Sound Tryz.prog 116 Ze:=Sound.toO Rf λx h=>⟨h.1,λe=>by
 have h2:=h.2
 replace e:x.1= []:=e
 rw [e] at h2
 simp at h2⟩
theorem wH (n:Int) (h:1<=n/\n<=20):fnMW Rq (look [(115,Ks)]) Nj Tryz.f145 (n,()) (λ(z:(Int×List (List (Option (List Int)))×List (List (Option (List Int)))×Unit)×Unit)=>z=((n,Tl n.toNat,Ny n.toNat,()),())):=by
 obtain ⟨h1,h2⟩:=h
 obtain ⟨N,rfl⟩: ∃N:Nat,n=N:=⟨n.toNat,by omega⟩
 rw [Int.toNat_natCast]
 refine Eq.mp (xH (N:Int) _) ?_
 have hm:((0:Int)<=(N:Int)/\(N:Int)<(Be:Int)+1):=⟨by omega,by show (N:Int)<(4294967296:Int)+1;omega⟩
 simp only [hm,and_self,eq_self,true_and,and_true,Int.toNat_natCast,Nat.zero_add,List.length_nil,List.length_set,List.length_replicate,List.length_cons,Nat.lt_add_one]
 refine Aj N (λv=>v.1) (λj v=>v=((j:Int),(N:Int),(List.range j).map (Ya N),List.replicate j [],())) rfl rfl ?_
 rintro j v K hj hi rfl hK
 dsimp only
 refine Br.dec (λhl=>?_) λhl=>?_
 ·simp only [Int.toNat_natCast,List.length_map,List.length_range,List.length_replicate]
  refine ⟨_,if_pos ⟨by show (1:Int)<=N;omega,by show (N:Int)<=20;omega⟩,⟨by omega,by omega⟩,by omega,?_,?_,?_⟩
  ·show _<=4294967296
   omega
  ·show _<=4294967296
   omega
  ·rw [Ag (by omega)]
   refine hK (by omega) _ rfl ?_
   rw [List.range_succ,List.map_append,List.replicate_succ']
   rfl
 ·have:j=N:=by omega
  subst this
  rfl
theorem mi:Ay Tryz.prog 145 Nj:=
 Ay.fD j8 (Ae gk Ai) mixed Tryz.func145 (by kernel_rfl) (by kernel_rfl) λx h=>wH x.1 h
theorem sy (n:Int) (gens:List (Option (List Int))) (h:(1<=n/\n<=20)/\List.length gens<=4294967296/\ ∀o∈(gens:List PO),∃g,o=some g/\Pm n.toNat g):
  fnMW Rq (look [(145,Nj),(116,Ze),(146,x7)]) a9 Tryz.f129 (n,gens,()) (λ(z:(Int×List (List (Option (List Int)))×List (List (Option (List Int)))×Unit)×Unit)=>z=((n,(Kt n.toNat gens).2,(Kt n.toNat gens).1,()),())):=by
 obtain ⟨⟨h1,h2⟩,h3,hg⟩:=h
 obtain ⟨N,rfl⟩: ∃N:Nat,n=N:=⟨n.toNat,by omega⟩
 rw [Int.toNat_natCast] at hg⊢
 have h1:1<=N:=by omega
 have h2:N<=20:=by omega
 refine Eq.mp (tq (N:Int) gens _) ⟨_,if_pos ⟨by show (1:Int)<=N;omega,by show (N:Int)<=20;omega⟩,rfl,rfl,rfl,rfl,?_⟩
 simp only [Int.toNat_natCast,true_and,and_true]
 refine Aj gens.length (λv=>v.1) (λi v=>v=((i:Int),(Kt N (gens.take i)).2,(Kt N (gens.take i)).1,(N:Int),())) rfl rfl ?_
 rintro i v K' jN Alv rfl XB
 dsimp only
 refine Br.dec (λGt=>?_) λGt=>?_
 ·have Gt:i<gens.length:=by omega
  obtain ⟨g,l7,Oc⟩:=hg gens[i] (List.getElem_mem Gt)
  have hgl:=Oc.1
  have hv:=tK h1 h2 (gens:=gens.take i) λo ho=>hg o (List.mem_of_mem_take ho)
  refine ⟨some g,by rw [Aq Gt,l7],some g,if_pos ⟨by show g.length<=4294967296;omega,by show 1<=g.length;omega⟩,_,if_pos ⟨N,0,g,rfl,h1,h2,rfl,rfl,Nat.zero_le _,hv,Oc,λi hi=>absurd hi (Nat.not_lt_zero _)⟩,?_⟩
  rw [Ag (by omega)]
  refine XB Gt _ rfl ?_
  rw [vB Gt,l7]
  rfl
 ·have:i=gens.length:=by omega
  subst this
  rw [List.take_length]
theorem kD:Ay Tryz.prog 129 a9:=
 Ay.fD j8 (Er mi (Ae o1 (Er GP Ai))) mixed Tryz.func129 (by kernel_rfl) (by kernel_rfl) λx h=>sy x.1 x.2.1 h
theorem mh:Ay Tryz.prog 129 Ni:=by
 have h:=kD
 refine ⟨h.enter,λw S π us x r o g vs h1 hg h2 h3 hS h4 h5=>?_⟩
 obtain ⟨n,gens,⟨⟩⟩:=x
 match us,h2 with
 |u1::u2::us,h2=>
  obtain ⟨h6,⟨h7,h8⟩,h9⟩:=h2
  obtain ⟨os,l6,cQ⟩:=Bc.Ab6 (e:=tI) h8
  have cQ:os.map (·.getD [])=(gens:List (List Int)):=cQ
  have Zw:(1<=n/\n<=20)/\List.length gens<=4294967296/\ ∀g∈(gens:List (List Int)),Pm n.toNat g:=Classical.byContradiction λhn=>by
   have:Ni.fn (n,gens,())=none:=if_neg hn
   rw [this] at h5;cases h5
  have hos:os=gens.map some:=by
   rw [<-cQ,List.map_map]
   refine (List.map_id os).symm.trans (List.map_congr_left λx hx=>?_)
   cases x with
   |some y=>rfl
   |none=>
    have:=Zw.2.2 [] (by rw [<-cQ];exact List.mem_map.2 ⟨none,hx,rfl⟩)
    have h1:=this.n1
    have h2:=this.1
    simp at h2
    omega
  have hv:Ni.fn (n,gens,())=some ((n,(lp n gens).2,(lp n gens).1,()),()):=if_pos Zw
  rw [hv] at h5
  have h5:=Option.some.inj h5
  refine h.calls w S π (u1::u2::us) (n,os,()) r o g vs h1 hg ⟨h6,⟨h7,l6⟩,h9⟩ h3 hS h4 ?_
  refine (if_pos ⟨Zw.1,by rw [hos,List.length_map];exact Zw.2.1,λy hy=>?pp⟩).trans (congrArg some ?qq)
  case pp=>
   replace hy:y∈os:=hy
   rw [hos] at hy
   obtain ⟨g,hg,rfl⟩:=List.mem_map.1 hy
   exact ⟨g,rfl,Zw.2.2 g hg⟩
  case qq=>subst hos;exact h5
theorem FI (c:Int×List (List (Option (List Int)))×List (List (Option (List Int)))×Unit) (p:List Int) (h: ∃N,Ql N 0 c.1 c.2.2.1 c.2.1 0 p):
  fnW Rq (look [(144,mb)]) Sw Tryz.f128 (c,p,()) (λ(z:Bool)=>z=Ee c.2.1 c.1.toNat 0 p):=by
 obtain ⟨n,T,G,⟨⟩⟩:=c
 obtain ⟨N,h⟩:=h
 have h':=h
 obtain ⟨n1,n2,en,el,hle,v,pm,fx⟩:=h
 dsimp only at en
 subst en
 refine Eq.mp (HR ((N:Int),T,G,()) p _) ⟨_,if_pos ⟨N,0,h'⟩,?_⟩
 have hs:=qQ (T:=T) N 0 p
 rw [Nat.zero_add] at hs
 show ((Jn T ((N:Int)-0).toNat (0:Int).toNat p).2.1==(N:Int))=Ee T (N:Int).toNat 0 p
 rw [Int.sub_zero,Int.toNat_natCast]
 exact Bool.eq_iff_iff.2 (beq_iff_eq.trans hs)
theorem qV:Sound Tryz.prog 128 Sw:=
 Sound.Cg j8 (Ae HC Ai) mixed Tryz.func128 (by kernel_rfl) (by kernel_rfl) λx h=>FI x.1 x.2.1 h
theorem FM (n:Int) (g:List (List Int)) (p:List Int) (h:Ff g/\short p):fnW Cd (look [(123,Ig),(75,Eb),(129,Ni),(128,Sw)]) Sz Tryz.f96 (n,g,p,()) (λ(z:Bool)=>z=dR n g p):=by
 obtain ⟨hg,hp⟩:=h
 refine Eq.mp (HV n g p _) ⟨_,if_pos hg,?_⟩
 unfold dR
 show Br (Mp n g) _ _
 refine Br.of (λh1=>?_) λh1=>by rw [h1];rfl
 obtain ⟨⟨n1,n2⟩,h8,Gc⟩:=Dx.1 h1
 refine Br.of (λh2=>?_) λh2=>?_
 ·have h2:(p.length:Int)=n:=eq_of_beq h2
  refine ⟨_,if_pos hp,?_⟩
  show Br (Fk p) _ _
  refine Br.of (λh3=>?_) λh3=>?_
  ·have hgo:Dc n p=true:=Dx.2 ⟨h2,h3⟩
   have RN: ∀x,Dc n x=true->Pm n.toNat x:= λx hx=>by
    obtain ⟨a,b⟩:=Dx.1 hx
    exact ⟨by omega,bO b⟩
   have jM: ∀x∈g,Pm n.toNat x:= λx hx=>RN x (Gc x hx)
   have hV:=tK (n:=n.toNat) (by omega) (by omega) (aO jM)
   refine ⟨_,if_pos ⟨⟨n1,n2⟩,hg.1,jM⟩,_,if_pos ⟨n.toNat,?vv⟩,?_⟩
   case vv=>
    simp only [Bb]
    exact ⟨by omega,by omega,(Int.toNat_of_nonneg (by omega)).symm,rfl,Nat.zero_le _,hV,RN p hgo,λi hi=>absurd hi (Nat.not_lt_zero _)⟩
   simp only [Bb]
   rw [h1,hgo]
   rfl
  ·have:Dc n p=false:=by
    rw [Bool.eq_false_iff]
    intro hc
    rw [(Dx.1 hc).2] at h3
    cases h3
   rw [this,Bool.and_false,Bool.false_and]
 ·have:Dc n p=false:=by
   rw [Bool.eq_false_iff]
   intro hc
   rw [(Dx.1 hc).1] at h2
   simp at h2
  rw [this,Bool.and_false,Bool.false_and]
theorem r7:Sound Tryz.prog 96 Sz:=
 Sound.Cg Bi (Ae aZ (Ae Nl (Er mh (Ae qV Ai)))) mixed Tryz.func96 (by kernel_rfl) (by kernel_rfl) λx h=>FM x.1 x.2.1 x.2.2.1 h
theorem KY {p:PP} (hv:Bx p=true) {s:List Int} (hs:Pm p.1.toNat s):Ee (lp p.1 p.2.2.1).2 p.1.toNat 0 s=Ee (Ym p.1 p.2.2.1).2 p.1.toNat 0 s:=by
 have hV:=valid hv
 have hn:=hV.n
 have hg:=aO (al hV).2.2
 exact Bool.eq_iff_iff.2 ((yQ (by omega) (by omega) hg hs).trans (iF (by omega) (by omega) hg hs).symm)
theorem yL {n:Int} {s:List Int} (h:Dc n s=true):Pm n.toNat s:=by
 obtain ⟨a,b⟩:=Dx.1 h
 exact ⟨by omega,bO b⟩
theorem zY (p:PP) (s:List Int) (h:Ck p/\short s):fnW Cd (look [(95,Ix),(96,Sz)]) Iw Tryz.f73 (p,s,()) (λ(z:Bool)=>z=Jc p s):=by
 refine Eq.mp (BY p s _) ⟨_,if_pos h,?_⟩
 show Br (Bx p&&Dc p.1 s) _ _
 unfold Jc
 refine Br.of (λhb=>?_) λhb=>by rw [hb];rfl
 obtain ⟨hv,hg⟩:=Bool.and_eq_true_iff.1 hb
 have hV:=valid hv
 have hn:=hV.n
 have Agf:Mp p.1 p.2.2.1=true:=by
  refine Dx.2 ⟨⟨by omega,by omega⟩,by have:=hV.se;omega,λx hx=>Dx.2 ⟨by have:=hV.len x hx;omega,hV.perm x hx⟩⟩
 refine ⟨_,if_pos ⟨h.1.2,h.2⟩,?_⟩
 show dR p.1 p.2.2.1 s=_
 unfold dR
 rw [Agf,hg,hv,KY hv (yL hg)]
theorem og:Sound Tryz.prog 73 Iw:=
 Sound.Cg Bi (Ae kK (Ae r7 Ai)) mixed Tryz.func73 (by kernel_rfl) (by kernel_rfl) λx h=>zY x.1 x.2.1 h
theorem zQ (p:PP) (s:List Int) (h:Ck p/\short s):fnW Cd (look [(97,Ix),(98,Tb),(99,kx)]) Iw Tryz.f74 (p,s,()) (λ(z:Bool)=>z=Jc p s):=by
 refine Eq.mp (BQ p s _) ⟨_,if_pos h,?_⟩
 show Br (Bx p&&Dc p.1 s) _ _
 unfold Jc
 refine Br.of (λhb=>?_) λhb=>by rw [hb];rfl
 obtain ⟨hv,hg⟩:=Bool.and_eq_true_iff.1 hb
 have hV:=valid hv
 have hn:=hV.n
 have yU:=WU hV
 refine ⟨_,if_pos (al hV),_,if_pos ⟨p.1.toNat,0,?vv⟩,?_⟩
 case vv=>
  simp only [Bb]
  exact ⟨by omega,by omega,(Int.toNat_of_nonneg (by omega)).symm,rfl,Nat.zero_le _,by rw [Nat.sub_zero];exact yU,yL hg,λi hi=>absurd hi (Nat.not_lt_zero _)⟩
 simp only [Bb]
 rw [hb,Bool.true_and,Int.sub_zero]
 rfl
theorem o7:Sound Tryz.prog 74 Iw:=
 Sound.Cg Bi (Ae kG (Er r9 (Ae uX Ai))) mixed Tryz.func74 (by kernel_rfl) (by kernel_rfl) λx h=>zQ x.1 x.2.1 h
end Go.Proofs.YtfolipnappekaaaGreat

namespace Go.Proofs.YtfolipnappekaaaGreat
open Go.RowKit
noncomputable def Jk (p:PP) (ts:List TT) (s:List Int):Bool:=Jc p s&&De p ts
noncomputable abbrev Sv:Spec:=Cg (.pair Cp (.pair th (.pair tL .unit))) (.pair (.optr Tx) (.pair .bool .unit)) true false (λx=>Ck x.1/\Ew x.2.1/\short x.2.2.1) (λx=>if Jk x.1 x.2.1 x.2.2.1=true then (some (Cu x.2.1),true,()) else (none,false,()))
noncomputable abbrev m8:Spec:=Cg (.pair Cp (.pair th (.pair tL .unit))) .bool false true (λx=>Ck x.1/\Ew x.2.1/\short x.2.2.1) (λx=>Jk x.1 x.2.1 x.2.2.1)
theorem HQ (p:Int×ByteArray×List (List Int)×Unit) (ts:List (List Int×List (List Int)×List Int×Unit)) (s:List Int) (P:(Option (List (List Int×List (List Int)×List Int×Unit)×List (ByteArray->Option Int)×Unit)×Bool×Unit)->Prop):(∃(y4:Bool),Iw.fn ((p.1,p.2.1,p.2.2.1,()),s,())=some y4/\Br (!y4) (P (none,false,())) (∃(y5:Bool),Gy.fn ((p.1,p.2.1,p.2.2.1,()),ts,())=some y5/\Br (!y5) (P (none,false,())) (∃(y6:Option (List (List Int×List (List Int)×List Int×PUnit)×List (ByteArray->Option Int)×PUnit)),Qb.fn (ts,())=some y6/\P (y6,true,()))))=fnW Cd (look [(74,Iw),(63,Gy),(64,Qb)]) Sv Tryz.f51 (p,ts,s,()) P:=by kernel_rfl
theorem Aei (p:Int×ByteArray×List (List Int)×Unit) (ts:List (List Int×List (List Int)×List Int×Unit)) (s:List Int) (P:Bool->Prop):(∃(y4:Bool),Gy.fn ((p.1,p.2.1,p.2.2.1,()),ts,())=some y4/\Br y4 (∃(y5:Bool),Iw.fn ((p.1,p.2.1,p.2.2.1,()),s,())=some y5/\P y5) (P false))=fnW Cd (look [(72,Gy),(73,Iw)]) m8 Tryz.f47 (p,ts,s,()) P:=by kernel_rfl
theorem lF {p:PP} {ts:List TT} {s:List Int} (h:Jk p ts s=true):Uv ts/\Zq ts s/\Jc p s=true:=by
 unfold Jk at h
 obtain ⟨h1,h2⟩:=Bool.and_eq_true_iff.1 h
 exact ⟨(eL h2).2.1,FZ h1 h2,h1⟩
theorem FH (p:PP) (ts:List TT) (s:List Int) (h:Ck p/\Ew ts/\short s):fnW Cd (look [(74,Iw),(63,Gy),(64,Qb)]) Sv Tryz.f51 (p,ts,s,()) (λ(z:Option BB×Bool×Unit)=>z=if Jk p ts s=true then (some (Cu ts),true,()) else (none,false,())):=by
 obtain ⟨h0,h1,h2⟩:=h
 refine Eq.mp (HQ p ts s _) ⟨_,if_pos ⟨h0,h2⟩,?_⟩
 show Br (!Jc p s) _ _
 have hh:Jk p ts s=(Jc p s&&De p ts):=rfl
 rw [hh]
 refine Br.of (λhb=>?_) λhb=>?_
 ·have hb:Jc p s=false:=by simpa using hb
  rw [hb];rfl
 ·have hb:Jc p s=true:=by simpa using hb
  refine ⟨_,if_pos ⟨h0,h1⟩,?_⟩
  show Br (!De p ts) _ _
  refine Br.of (λhc=>?_) λhc=>?_
  ·have hc:De p ts=false:=by simpa using hc
   rw [hb,hc];rfl
  ·have hc:De p ts=true:=by simpa using hc
   refine ⟨_,if_pos (eL hc).2.1,?_⟩
   rw [hb,hc];rfl
theorem qU:Sound Tryz.prog 51 Sv:=
 Sound.Cg Bi (Ae o7 (Ae j5 (Ae oa Ai))) mixed Tryz.func51 (by kernel_rfl) (by kernel_rfl) λx h=>FH x.1 x.2.1 x.2.2.1 h
theorem Adp (p:PP) (ts:List TT) (s:List Int) (h:Ck p/\Ew ts/\short s):fnW Cd (look [(72,Gy),(73,Iw)]) m8 Tryz.f47 (p,ts,s,()) (λ(z:Bool)=>z=Jk p ts s):=by
 obtain ⟨h0,h1,h2⟩:=h
 refine Eq.mp (Aei p ts s _) ⟨_,if_pos ⟨h0,h1⟩,?_⟩
 show Br (De p ts) _ _
 have hh:Jk p ts s=(Jc p s&&De p ts):=rfl
 rw [hh]
 refine Br.of (λhb=>⟨_,if_pos ⟨h0,h2⟩,?_⟩) λhb=>?_
 ·rw [hb,Bool.and_true]
 ·rw [hb,Bool.and_false]
theorem GX:Sound Tryz.prog 47 m8:=
 Sound.Cg Bi (Ae j6 (Ae og Ai)) mixed Tryz.func47 (by kernel_rfl) (by kernel_rfl) λx h=>Adp x.1 x.2.1 x.2.2.1 h
end Go.Proofs.YtfolipnappekaaaGreat

namespace Go.Proofs.YtfolipnappekaaaGreat
abbrev DS:Type:=Int×Int×List Int×Bool×Bool×Unit
def Mg (v:DS):Bool:=v.2.2.2.1||(decide (0<v.2.1)&&!v.2.2.2.2.1)
def Ir (w:List Int):Int:=w.getLastD 0
def vN (nx:List Int->Int->List Int) (low:List Int->Int) (one:List Int) (ls:List Int) (depth:Int):Nat->List Int->List Int->DS->DS
 |0,_,_,v=>v
 |f+1,s,w,v=>
  if v.1=20000 then (v.1,v.2.1,v.2.2.1,true,v.2.2.2.2)
  else if (w.length:Int)+low s>depth then (v.1+1,v.2)
  else if (w.length:Int)=depth then (if s=one then (v.1+1,v.2.1+1,(if v.2.1=0 then w else v.2.2.1),v.2.2.2) else (v.1+1,v.2))
  else (ls.filter λl=>!(l== -Ir w)).foldl (λv l=>if Mg v=true then v else vN nx low one ls depth f (nx s l) (w++ [l]) v) (v.1+1,v.2)
abbrev IS:Type:=Bool×List Int×Int×Int×Bool
def iN (nx:List Int->Int->List Int) (low:List Int->Int) (one:List Int) (ls:List Int) (depth:Int) (every:Bool):Nat->List Int->List Int->Int->Int->Bool->IS
 |0,_,w,n,m,a=>(false,w,n,m,a)
 |f+1,s,w,n,m,a=>
  if n=20000 then (true,w,n,m,true)
  else if (w.length:Int)+low s>depth then (false,w,n+1,m,a)
  else if s=one/\(w.length:Int)=depth then (!every,w,n+1,m+1,a)
  else if (w.length:Int)=depth then (false,w,n+1,m,a)
  else ls.foldl (λr l=>if r.1=true\/l= -Ir w then r else
   if (iN nx low one ls depth every f (nx s l) (w++ [l]) r.2.2.1 r.2.2.2.1 r.2.2.2.2).1=true then iN nx low one ls depth every f (nx s l) (w++ [l]) r.2.2.1 r.2.2.2.1 r.2.2.2.2
   else (false,w,(iN nx low one ls depth every f (nx s l) (w++ [l]) r.2.2.1 r.2.2.2.1 r.2.2.2.2).2.2)) (false,w,n+1,m,a)
structure vn (v:DS):Prop where
 n0:0<=v.1
 n1:v.1<=20000
 m0:0<=v.2.1
 m1:v.2.1<=v.1
theorem fe {α β:Type} {f:β->α->β} {R:β->Prop} : ∀(ls:List α) (b:β),R b->(∀b l,l∈ls->R b->R (f b l))->R (ls.foldl f b)
 | [],_,h,_=>h
 |l::ls,b,h,hs=>fe ls _ (hs b l (List.mem_cons_self ..) h) λb l hl=>hs b l (List.mem_cons_of_mem _ hl)
theorem pA {α β γ:Type} {f:β->α->β} {g:γ->α->γ} {R:β->γ->Prop} : ∀(ls:List α) (b:β) (c:γ),R b c->(∀b c l,l∈ls->R b c->R (f b l) (g c l))->R (ls.foldl f b) (ls.foldl g c)
 | [],_,_,h,_=>h
 |l::ls,b,c,h,hs=>pA ls _ _ (hs b c l (List.mem_cons_self ..) h) λb c l hl=>hs b c l (List.mem_cons_of_mem _ hl)
theorem VM {nx:List Int->Int->List Int} {low:List Int->Int} {one ls:List Int} {depth:Int} : ∀(f:Nat) (s w:List Int) (v:DS),vn v->vn (vN nx low one ls depth f s w v)
 |0,_,_,_,h=>h
 |f+1,s,w,v,h=>by
  have h0:=h.n0;have h1:=h.n1;have h2:=h.m0;have h3:=h.m1
  unfold vN
  split
  ·exact ⟨h0,h1,h2,h3⟩
  ·have hs:vn ((v.1+1,v.2):DS):=⟨by show 0<=v.1+1;omega,by show v.1+1<=20000;omega,h2,by show v.2.1<=v.1+1;omega⟩
   split
   ·exact hs
   ·split
    ·split
     ·exact ⟨by show 0<=v.1+1;omega,by show v.1+1<=20000;omega,by show 0<=v.2.1+1;omega,by show v.2.1+1<=v.1+1;omega⟩
     ·exact hs
    ·refine fe _ _ hs λb l _ hb=>?_
     split
     ·exact hb
     ·exact VM f _ _ _ hb
theorem Aav {nx:List Int->Int->List Int} {low:List Int->Int} {one ls:List Int} {depth:Int} {every:Bool} : ∀(f:Nat) (s w:List Int) (n m:Int) (a:Bool),(0<=n/\n<=20000/\0<=m/\m<=n)->
  (0<=(iN nx low one ls depth every f s w n m a).2.2.1/\(iN nx low one ls depth every f s w n m a).2.2.1<=20000/\0<=(iN nx low one ls depth every f s w n m a).2.2.2.1/\(iN nx low one ls depth every f s w n m a).2.2.2.1<=(iN nx low one ls depth every f s w n m a).2.2.1)
 |0,_,_,_,_,_,h=>h
 |f+1,s,w,n,m,a,h=>by
  obtain ⟨h0,h1,h2,h3⟩:=h
  unfold iN
  split
  ·exact ⟨h0,h1,h2,h3⟩
  ·have hs:(0<=n+1/\n+1<=20000/\0<=m/\m<=n+1):=by omega
   split
   ·exact hs
   ·split
    ·show 0<=n+1/\n+1<=20000/\0<=m+1/\m+1<=n+1
     omega
    ·split
     ·exact hs
     ·refine fe (R:= λ(b:IS)=>0<=b.2.2.1/\b.2.2.1<=20000/\0<=b.2.2.2.1/\b.2.2.2.1<=b.2.2.1) _ _ hs λb l _ hb=>?_
      split
      ·exact hb
      ·have ih:=Aav (nx:=nx) (low:=low) (one:=one) (ls:=ls) (depth:=depth) (every:=every) f (nx s l) (w++ [l]) b.2.2.1 b.2.2.2.1 b.2.2.2.2 hb
       split
       ·exact ih
       ·exact ih
theorem XW {nx:List Int->Int->List Int} {low:List Int->Int} {one ls:List Int} {depth:Int} {every:Bool} : ∀(f:Nat) (s w:List Int) (n m:Int) (a:Bool),(iN nx low one ls depth every f s w n m a).1=false->(iN nx low one ls depth every f s w n m a).2.1=w
 |0,_,_,_,_,_,_=>rfl
 |f+1,s,w,n,m,a,h=>by
  unfold iN at h⊢
  split
  ·rename_i h1;rw [if_pos h1] at h
  ·rename_i h1
   rw [if_neg h1] at h
   split
   ·rfl
   ·rename_i h2
    rw [if_neg h2] at h
    split
    ·rfl
    ·rename_i h3
     rw [if_neg h3] at h
     split
     ·rfl
     ·rename_i h4
      rw [if_neg h4] at h
      refine fe (R:= λ(r:IS)=>r.1=false->r.2.1=w) _ _ (λ_=>rfl) (λr l _ hr=>?_) h
      split
      ·exact hr
      ·split
       ·rename_i h5;exact λh6=>by rw [h5] at h6;cases h6
       ·exact λ_=>rfl
theorem JS {nx:List Int->Int->List Int} {low:List Int->Int} {one ls:List Int} {depth:Int} {every:Bool} {f:Nat} {s w:List Int} : ∀(xs:List Int) (r:IS),r.1=true->
  xs.foldl (λ(r:IS) l=>if r.1=true\/l= -Ir w then r else
   if (iN nx low one ls depth every f (nx s l) (w++ [l]) r.2.2.1 r.2.2.2.1 r.2.2.2.2).1=true then iN nx low one ls depth every f (nx s l) (w++ [l]) r.2.2.1 r.2.2.2.1 r.2.2.2.2
   else (false,w,(iN nx low one ls depth every f (nx s l) (w++ [l]) r.2.2.1 r.2.2.2.1 r.2.2.2.2).2.2)) r=r
 | [],_,_=>rfl
 |x::xs,r,h=>by
  rw [List.foldl_cons,if_pos (.inl h)]
  exact JS xs r h
theorem KP {nx:List Int->Int->List Int} {low:List Int->Int} {one ls:List Int} {depth:Int} {f:Nat} {s w:List Int} : ∀(xs:List Int) (r:DS),Mg r=true->
  xs.foldl (λ(v:DS) l=>if Mg v=true then v else vN nx low one ls depth f (nx s l) (w++ [l]) v) r=r
 | [],_,_=>rfl
 |x::xs,r,h=>by
  rw [List.foldl_cons,if_pos h]
  exact KP xs r h
structure PU (every:Bool) (w:List Int) (r:IS) (v:DS):Prop where
 stop:r.1=Mg v
 word:r.1=false->r.2.1=w
 n:r.2.2.1=v.1
 m:r.2.2.2.1=v.2.1
 a:r.2.2.2.2=v.2.2.2.1
 all:v.2.2.2.2.1=every
 ok:vn v
 found:r.1=true->v.2.2.2.1=false->r.2.1=v.2.2.1
theorem Aaw {nx:List Int->Int->List Int} {low:List Int->Int} {one ls:List Int} {depth:Int} {every:Bool} : ∀(f:Nat) (s w:List Int) (v:DS),Mg v=false->v.2.2.2.2.1=every->vn v->
  PU every w (iN nx low one ls depth every f s w v.1 v.2.1 v.2.2.2.1) (vN nx low one ls depth f s w v)
 |0,s,w,v,hd,he,hv=>⟨hd.symm,λ_=>rfl,rfl,rfl,rfl,he,hv,λh=>by simp [iN] at h⟩
 |f+1,s,w,v,hd,he,hv=>by
  have RW:=VM (nx:=nx) (low:=low) (one:=one) (ls:=ls) (depth:=depth) (f+1) s w v hv
  have QW:=hd
  unfold Mg at QW
  rw [he,Bool.or_eq_false_iff,Bool.and_eq_false_iff] at QW
  obtain ⟨ha,hm⟩:=QW
  have h0:=hv.m0
  have hm:every=false->v.2.1=0:= λe=>by
   rcases hm with h|h
   ·have:=of_decide_eq_false h;omega
   ·rw [e] at h;cases h
  by_cases h1:v.1=20000
  ·have e1:vN nx low one ls depth (f+1) s w v=(v.1,v.2.1,v.2.2.1,true,v.2.2.2.2):=by rw [vN,if_pos h1]
   have e2:iN nx low one ls depth every (f+1) s w v.1 v.2.1 v.2.2.2.1=(true,w,v.1,v.2.1,true):=by rw [iN,if_pos h1]
   rw [e1] at RW⊢
   rw [e2]
   exact {stop:=rfl,word:= λh=>by simp at h,n:=rfl,m:=rfl,a:=rfl,all:=he,ok:=RW,found:= λ_ h=>by simp at h}
  by_cases h2:(w.length:Int)+low s>depth
  ·have e1:vN nx low one ls depth (f+1) s w v=(v.1+1,v.2):=by rw [vN,if_neg h1,if_pos h2]
   have e2:iN nx low one ls depth every (f+1) s w v.1 v.2.1 v.2.2.2.1=(false,w,v.1+1,v.2.1,v.2.2.2.1):=by rw [iN,if_neg h1,if_pos h2]
   rw [e1] at RW⊢
   rw [e2]
   exact {stop:=hd.symm,word:= λ_=>rfl,n:=rfl,m:=rfl,a:=rfl,all:=he,ok:=RW,found:= λh=>by simp at h}
  by_cases h3:(w.length:Int)=depth
  ·by_cases h4:s=one
   ·have e1:vN nx low one ls depth (f+1) s w v=(v.1+1,v.2.1+1,(if v.2.1=0 then w else v.2.2.1),v.2.2.2):=by rw [vN,if_neg h1,if_neg h2,if_pos h3,if_pos h4]
    have e2:iN nx low one ls depth every (f+1) s w v.1 v.2.1 v.2.2.2.1=(!every,w,v.1+1,v.2.1+1,v.2.2.2.1):=by rw [iN,if_neg h1,if_neg h2,if_pos ⟨h4,h3⟩]
    rw [e1] at RW⊢
    rw [e2]
    refine {stop:=?_,word:= λ_=>rfl,n:=rfl,m:=rfl,a:=rfl,all:=he,ok:=RW,found:= λh _=>?_}
    ·show (!every)=(v.2.2.2.1||(decide (0<v.2.1+1)&&!v.2.2.2.2.1))
     rw [ha,he,decide_eq_true (by omega)]
     simp
    ·have h:(!every)=true:=h
     show w=if v.2.1=0 then w else v.2.2.1
     rw [if_pos (hm (by cases every<;>simp_all))]
   ·have e1:vN nx low one ls depth (f+1) s w v=(v.1+1,v.2):=by rw [vN,if_neg h1,if_neg h2,if_pos h3,if_neg h4]
    have e2:iN nx low one ls depth every (f+1) s w v.1 v.2.1 v.2.2.2.1=(false,w,v.1+1,v.2.1,v.2.2.2.1):=by rw [iN,if_neg h1,if_neg h2,if_neg (λh=>h4 h.1),if_pos h3]
    rw [e1] at RW⊢
    rw [e2]
    exact {stop:=hd.symm,word:= λ_=>rfl,n:=rfl,m:=rfl,a:=rfl,all:=he,ok:=RW,found:= λh=>by simp at h}
  have hs:vn ((v.1+1,v.2):DS):=by
   have:=hv.n0;have:=hv.n1;have:=hv.m1
   exact ⟨by show 0<=v.1+1;omega,by show v.1+1<=20000;omega,h0,by show v.2.1<=v.1+1;omega⟩
  rw [vN,if_neg h1,if_neg h2,if_neg h3,iN,if_neg h1,if_neg h2,if_neg (λh=>h3 h.2),if_neg h3,List.foldl_filter]
  refine pA (R:= λ(r:IS) (u:DS)=>PU every w r u) ls _ _ {stop:=hd.symm,word:= λ_=>rfl,n:=rfl,m:=rfl,a:=rfl,all:=he,ok:=hs,found:= λh=>by simp at h} λr u l _ hR=>?_
  by_cases hl:l= -Ir w
  ·rw [if_pos (.inr hl),if_neg (by simp [hl])]
   exact hR
  rw [if_pos (show (!(l== -Ir w))=true by simp [hl])]
  by_cases On:r.1=true
  ·have hu:Mg u=true:=by rw [<-hR.stop];exact On
   rw [if_pos (.inl On),if_pos hu]
   exact hR
  have On:r.1=false:=by simpa using On
  have hu:Mg u=false:=by rw [<-hR.stop,On]
  have bA: ¬Mg u=true:=by rw [hu];simp
  rw [if_neg (show ¬(r.1=true\/l= -Ir w) by rw [On];simp [hl]),if_neg bA]
  have ih:=Aaw (nx:=nx) (low:=low) (one:=one) (ls:=ls) (depth:=depth) (every:=every) f (nx s l) (w++ [l]) u hu hR.all hR.ok
  rw [hR.n,hR.m,hR.a]
  by_cases hq:(iN nx low one ls depth every f (nx s l) (w++ [l]) u.1 u.2.1 u.2.2.2.1).1=true
  ·rw [if_pos hq]
   exact {stop:=ih.stop,word:= λh=>by rw [hq] at h;simp at h,n:=ih.n,m:=ih.m,a:=ih.a,all:=ih.all,ok:=ih.ok,found:=ih.found}
  ·rw [if_neg hq]
   have hq:(iN nx low one ls depth every f (nx s l) (w++ [l]) u.1 u.2.1 u.2.2.2.1).1=false:=by simpa using hq
   exact {stop:=by rw [<-ih.stop,hq],word:= λ_=>rfl,n:=ih.n,m:=ih.m,a:=ih.a,all:=ih.all,ok:=ih.ok,found:= λh=>by simp at h}
end Go.Proofs.YtfolipnappekaaaGreat

namespace Go.Proofs.YtfolipnappekaaaGreat
open Go.RowKit
abbrev SR:Type:=PP×Option BB×Int×Bool×List Int×Int×Int×Bool×Unit
noncomputable def a5 (s:List Int):Bool:=decide (s=upto s.length)
noncomputable abbrev m9:Spec:=Cg (.pair tL .unit) .bool false true (λx=>short x.1) (λx=>a5 x.1)
def Mb (g:List (List Int)) (s:List Int) (l:Int):List Int:=Ab s (An g l)
noncomputable def nV (n:Int) (g:List (List Int)) (b:Option BB) (Bw:Int) (every:Bool) (w:List Int) (nodes found:Int) (ab:Bool) (x:List Int):IS:=
 iN (Mb g) (Xo b) (upto n.toNat) (Af g.length) Bw every ((Bw-w.length).toNat+1) x w nodes found ab
noncomputable def zv (p:PP) (ts:List TT) (s w:List Int) (depth:Int) (v:DS):DS:=
 vN (Mb p.2.2.1) (Pv ts) (upto p.1.toNat) (Af p.2.2.1.length) depth ((depth-w.length).toNat+1) s w v
def vz (n:Int) (str:ByteArray) (g:List (List Int)) (b:Option BB) (Bw:Int) (w:List Int) (nodes found:Int) (x:List Int):Prop:=
 ∃ts,b=some (Cu ts)/\Jk (n,str,g,()) ts x=true/\Bw<=30/\(w.length:Int)<=Bw/\(∀l∈w,Es g.length l)/\(0<=nodes/\nodes<=20000)/\0<=found/\found<=nodes
def PY (p:PP) (ts:List TT) (s w:List Int) (depth:Int) (v:DS):Prop:=
 Jk p ts s=true/\depth<=30/\(w.length:Int)<=depth/\(∀l∈w,Es p.2.2.1.length l)/\vn v
noncomputable abbrev JU:MSpec:= {ptr:=some (84,10),Eh:= [none],ins:= [(false, .Dn tI),(false, .Dn .str),(false, .Dn cU),(false, .Dn (.optr Tx)),(false, .Dn tI),(false, .Dn .bool),(false,rL),(false, .Dn tI),(false, .Dn tI),(false, .Dn .bool),(false, .Dn tL)],Cs:=false,Di:= [none],outs:= [.Dn tI, .Dn .str, .Dn cU, .Dn (.optr Tx), .Dn tI, .Dn .bool,rL, .Dn tI, .Dn tI, .Dn .bool, .Dn .bool],fn:= λ_=>none}
noncomputable def dT (n:Int) (str:ByteArray) (g:List (List Int)) (b:Option BB) (Bw:Int) (every:Bool) (q:IS):Int×ByteArray×List (List Int)×Option BB×Int×Bool×List Int×Int×Int×Bool×Bool×Unit:=(n,str,g,b,Bw,every,q.2.1,q.2.2.1,q.2.2.2.1,q.2.2.2.2,q.1,())
noncomputable abbrev Ou (m:Nat):MSpec:=fD JU (λx=>vz x.1 x.2.1 x.2.2.1 x.2.2.2.1 x.2.2.2.2.1 x.2.2.2.2.2.2.1 x.2.2.2.2.2.2.2.1 x.2.2.2.2.2.2.2.2.1 x.2.2.2.2.2.2.2.2.2.2.1/\(x.2.2.2.2.1-List.length x.2.2.2.2.2.2.1).toNat<m)
 (λx=>(dT x.1 x.2.1 x.2.2.1 x.2.2.2.1 x.2.2.2.2.1 x.2.2.2.2.2.1 (nV x.1 x.2.2.1 x.2.2.2.1 x.2.2.2.2.1 x.2.2.2.2.2.1 x.2.2.2.2.2.2.1 x.2.2.2.2.2.2.2.1 x.2.2.2.2.2.2.2.2.1 x.2.2.2.2.2.2.2.2.2.1 x.2.2.2.2.2.2.2.2.2.2.1),()))
noncomputable abbrev ky:MSpec:=fD JU (λx=>vz x.1 x.2.1 x.2.2.1 x.2.2.2.1 x.2.2.2.2.1 x.2.2.2.2.2.2.1 x.2.2.2.2.2.2.2.1 x.2.2.2.2.2.2.2.2.1 x.2.2.2.2.2.2.2.2.2.2.1)
 (λx=>(dT x.1 x.2.1 x.2.2.1 x.2.2.2.1 x.2.2.2.2.1 x.2.2.2.2.2.1 (nV x.1 x.2.2.1 x.2.2.2.1 x.2.2.2.2.1 x.2.2.2.2.2.1 x.2.2.2.2.2.2.1 x.2.2.2.2.2.2.2.1 x.2.2.2.2.2.2.2.2.1 x.2.2.2.2.2.2.2.2.2.1 x.2.2.2.2.2.2.2.2.2.2.1),()))
noncomputable abbrev Th (m:Nat):Spec:=Cg (.pair Cp (.pair th (.pair tL (.pair tL (.pair tI (.pair nF .unit)))))) nF false false (λx=>PY x.1 x.2.1 x.2.2.1 x.2.2.2.1 x.2.2.2.2.1 x.2.2.2.2.2.1/\(x.2.2.2.2.1-List.length x.2.2.2.1).toNat<m) (λx=>zv x.1 x.2.1 x.2.2.1 x.2.2.2.1 x.2.2.2.2.1 x.2.2.2.2.2.1)
noncomputable abbrev iY:Spec:=Cg (.pair nF .unit) .bool false true (λ_=>True) (λx=>Mg x.1)
theorem Aej (s:List Int) (P:Bool->Prop):(Bk (λ(v2:Int×PUnit) (k3:Int×PUnit->Prop)=>Br (decide (v2.1<(↑s.length:Int))) (∃(y4:Int),idx s v2.1=some y4/\Br (v2.1 !=y4) (P false) (k3 (IntKind.i64.wrap (v2.1+(1:Int)),()))) (P true)) ((0:Int),PUnit.unit))=fnW Cd (look []) m9 Tryz.f120 (s,()) P:=by kernel_rfl
theorem Aef (v:Int×Int×List Int×Bool×Bool×Unit) (P:Bool->Prop):(Br v.2.2.2.1 (P true) (Br (decide (v.2.1>(0:Int))) (P !v.2.2.2.2.1) (P false)))=fnW Cd (look []) iY Tryz.f92 (v,()) P:=by kernel_rfl
abbrev Ju:Type:=Int×Int×ByteArray×List (List Int)×Int×Int×List Int×Bool×Bool×Int×Int×Bool×Bool×List Int×PUnit
abbrev Zl:Type:=Int×Int×List Int×Bool×Bool×PUnit
abbrev KB (m:Nat) (v11:Ju) (ts:List (List Int×List (List Int)×List Int×Unit)) (Mz:List Int) (Jv:(List Int×PUnit)×PUnit) (Lr:Int) (depth:Int) (Jf:List Int) (Fz:Int) (s:List Int) (w:List Int) (It:Bool) (Rt:List Int) (Vg:(List Int×PUnit)×PUnit) (Rx:Zl):Prop:= ∃(Ry:Zl),(Th m).fn ((v11.2.1,v11.2.2.1,v11.2.2.2.1,()),ts,Mz,List.take (Jv.1.1++List.take 1 (List.drop 0 [Lr])).length (List.drop 0 (Jv.1.1++List.take 1 (List.drop 0 [Lr]))),depth,(v11.2.2.2.2.1,v11.2.2.2.2.2.1,v11.2.2.2.2.2.2.1,v11.2.2.2.2.2.2.2.1,v11.2.2.2.2.2.2.2.2.1,()),())=some Ry/\(∃(Ok:Int),idx Jf v11.1=some Ok/\([]:List (Nat×Nat))= []/\(Ok,())=(Fz,PUnit.unit))/\(∃(Ok:Int),idx Jf v11.1=some Ok/\([]:List (Nat×Nat))= []/\(Ok,())=(Lr,PUnit.unit))/\ [(0,v11.2.2.2.2.2.2.2.2.2.2.2.2.2.1.length)]= [(0,v11.2.2.2.2.2.2.2.2.2.2.2.2.2.1.length)]/\(ts,s,w,depth,Jf,v11.1,v11.1,Jf,(↑Jf.length:Int),decide (v11.1<(↑Jf.length:Int)),decide (v11.1<(↑Jf.length:Int)),v11.2.2.2.2.1,v11.2.2.2.2.2.1,v11.2.2.2.2.2.2.1,v11.2.2.2.2.2.2.2.1,v11.2.2.2.2.2.2.2.2.1,It,!It,!It,v11.2.1,v11.2.2.1,v11.2.2.2.1,ts,v11.2.1,v11.2.2.1,v11.2.2.2.1,s,Jf,v11.1,Fz,Fz,Mz,w,Jf,v11.1,Lr,Lr,List.take 1 (List.drop 0 [Lr]),List.take (Jv.1.1++List.take 1 (List.drop 0 [Lr])).length (List.drop 0 (Jv.1.1++List.take 1 (List.drop 0 [Lr]))),depth,v11.2.2.2.2.1,v11.2.2.2.2.2.1,v11.2.2.2.2.2.2.1,v11.2.2.2.2.2.2.2.1,v11.2.2.2.2.2.2.2.2.1,Ry,v11.2.1,v11.2.2.1,v11.2.2.2.1,Ry.1,Ry.2.1,Ry.2.2.1,Ry.2.2.2.1,Ry.2.2.2.2.1,v11.2.2.2.2.2.2.2.2.2.1,v11.2.2.2.2.2.2.2.2.2.2.1,v11.2.2.2.2.2.2.2.2.2.2.2.1,v11.2.2.2.2.2.2.2.2.2.2.2.2.1,v11.2.2.2.2.2.2.2.2.2.2.2.2.2.1,())=(ts,s,w,depth,Jf,v11.1,v11.1,Jf,(↑Jf.length:Int),decide (v11.1<(↑Jf.length:Int)),decide (v11.1<(↑Jf.length:Int)),v11.2.2.2.2.1,v11.2.2.2.2.2.1,v11.2.2.2.2.2.2.1,v11.2.2.2.2.2.2.2.1,v11.2.2.2.2.2.2.2.2.1,It,!It,!It,v11.2.1,v11.2.2.1,v11.2.2.2.1,ts,v11.2.1,v11.2.2.1,v11.2.2.2.1,s,Jf,v11.1,Fz,Fz,Rt,w,Jf,v11.1,Lr,Lr,List.take 1 (List.drop 0 [Lr]),List.take (Vg.1.1++List.take 1 (List.drop 0 [Lr])).length (List.drop 0 (Vg.1.1++List.take 1 (List.drop 0 [Lr]))),depth,v11.2.2.2.2.1,v11.2.2.2.2.2.1,v11.2.2.2.2.2.2.1,v11.2.2.2.2.2.2.2.1,v11.2.2.2.2.2.2.2.2.1,Rx,v11.2.1,v11.2.2.1,v11.2.2.2.1,Rx.1,Rx.2.1,Rx.2.2.1,Rx.2.2.2.1,Rx.2.2.2.2.1,v11.2.2.2.2.2.2.2.2.2.1,v11.2.2.2.2.2.2.2.2.2.2.1,v11.2.2.2.2.2.2.2.2.2.2.2.1,v11.2.2.2.2.2.2.2.2.2.2.2.2.1,v11.2.2.2.2.2.2.2.2.2.2.2.2.2.1,PUnit.unit)
abbrev KC (m:Nat) (v10:Ju) (ts:List (List Int×List (List Int)×List Int×Unit)) (Rx:List Int) (Mz:(List Int×PUnit)×PUnit) (Fz:Int) (depth:Int) (y9:List Int) (It:Int) (s:List Int) (w:List Int) (fT:Bool) (Lr:List Int) (Rt:(List Int×PUnit)×PUnit) (Vg:Zl):Prop:= ∃(Jv:Zl),(Th m).fn ((v10.2.1,v10.2.2.1,v10.2.2.2.1,()),ts,Rx,List.take (Mz.1.1++List.take 1 (List.drop 0 [Fz])).length (List.drop 0 (Mz.1.1++List.take 1 (List.drop 0 [Fz]))),depth,(v10.2.2.2.2.1,v10.2.2.2.2.2.1,v10.2.2.2.2.2.2.1,v10.2.2.2.2.2.2.2.1,v10.2.2.2.2.2.2.2.2.1,()),())=some Jv/\(∃(Ry:Int),idx y9 v10.1=some Ry/\([]:List (Nat×Nat))= []/\(Ry,())=(It,PUnit.unit))/\(∃(Ry:Int),idx y9 v10.1=some Ry/\([]:List (Nat×Nat))= []/\(Ry,())=(Fz,PUnit.unit))/\ [(0,v10.2.2.2.2.2.2.2.2.2.2.2.2.2.1.length)]= [(0,v10.2.2.2.2.2.2.2.2.2.2.2.2.2.1.length)]/\(ts,s,w,depth,y9,v10.1,v10.1,y9,(↑y9.length:Int),decide (v10.1<(↑y9.length:Int)),decide (v10.1<(↑y9.length:Int)),v10.2.2.2.2.1,v10.2.2.2.2.2.1,v10.2.2.2.2.2.2.1,v10.2.2.2.2.2.2.2.1,v10.2.2.2.2.2.2.2.2.1,fT,!fT,!fT,v10.2.1,v10.2.2.1,v10.2.2.2.1,ts,v10.2.1,v10.2.2.1,v10.2.2.2.1,s,y9,v10.1,It,It,Rx,w,y9,v10.1,Fz,Fz,List.take 1 (List.drop 0 [Fz]),List.take (Mz.1.1++List.take 1 (List.drop 0 [Fz])).length (List.drop 0 (Mz.1.1++List.take 1 (List.drop 0 [Fz]))),depth,v10.2.2.2.2.1,v10.2.2.2.2.2.1,v10.2.2.2.2.2.2.1,v10.2.2.2.2.2.2.2.1,v10.2.2.2.2.2.2.2.2.1,Jv,v10.2.1,v10.2.2.1,v10.2.2.2.1,Jv.1,Jv.2.1,Jv.2.2.1,Jv.2.2.2.1,Jv.2.2.2.2.1,v10.2.2.2.2.2.2.2.2.2.1,v10.2.2.2.2.2.2.2.2.2.2.1,v10.2.2.2.2.2.2.2.2.2.2.2.1,v10.2.2.2.2.2.2.2.2.2.2.2.2.1,v10.2.2.2.2.2.2.2.2.2.2.2.2.2.1,())=(ts,s,w,depth,y9,v10.1,v10.1,y9,(↑y9.length:Int),decide (v10.1<(↑y9.length:Int)),decide (v10.1<(↑y9.length:Int)),v10.2.2.2.2.1,v10.2.2.2.2.2.1,v10.2.2.2.2.2.2.1,v10.2.2.2.2.2.2.2.1,v10.2.2.2.2.2.2.2.2.1,fT,!fT,!fT,v10.2.1,v10.2.2.1,v10.2.2.2.1,ts,v10.2.1,v10.2.2.1,v10.2.2.2.1,s,y9,v10.1,It,It,Lr,w,y9,v10.1,Fz,Fz,List.take 1 (List.drop 0 [Fz]),List.take (Rt.1.1++List.take 1 (List.drop 0 [Fz])).length (List.drop 0 (Rt.1.1++List.take 1 (List.drop 0 [Fz]))),depth,v10.2.2.2.2.1,v10.2.2.2.2.2.1,v10.2.2.2.2.2.2.1,v10.2.2.2.2.2.2.2.1,v10.2.2.2.2.2.2.2.2.1,Vg,v10.2.1,v10.2.2.1,v10.2.2.2.1,Vg.1,Vg.2.1,Vg.2.2.1,Vg.2.2.2.1,Vg.2.2.2.2.1,v10.2.2.2.2.2.2.2.2.2.1,v10.2.2.2.2.2.2.2.2.2.2.1,v10.2.2.2.2.2.2.2.2.2.2.2.1,v10.2.2.2.2.2.2.2.2.2.2.2.2.1,v10.2.2.2.2.2.2.2.2.2.2.2.2.2.1,PUnit.unit)
abbrev Wb (v11:Ju):Prop:=(([]:List (Nat×Nat))= []/\(v11.2.2.2.2.1,v11.2.2.2.2.2.1,v11.2.2.2.2.2.2.1,v11.2.2.2.2.2.2.2.1,v11.2.2.2.2.2.2.2.2.1,())=(v11.2.2.2.2.1,v11.2.2.2.2.2.1,v11.2.2.2.2.2.2.1,v11.2.2.2.2.2.2.2.1,v11.2.2.2.2.2.2.2.2.1,PUnit.unit))
abbrev Wc (v10:Ju):Prop:=(([]:List (Nat×Nat))= []/\(v10.2.2.2.2.1,v10.2.2.2.2.2.1,v10.2.2.2.2.2.2.1,v10.2.2.2.2.2.2.2.1,v10.2.2.2.2.2.2.2.2.1,())=(v10.2.2.2.2.1,v10.2.2.2.2.2.1,v10.2.2.2.2.2.2.1,v10.2.2.2.2.2.2.2.1,v10.2.2.2.2.2.2.2.2.1,PUnit.unit))
abbrev oG (v11:Ju) (Jf:List Int) (Fz:Int) (Lr:Int) (Jv:(List Int×PUnit)×PUnit) (m:Nat) (ts:List (List Int×List (List Int)×List Int×Unit)) (Mz:List Int) (depth:Int) (s:List Int) (w:List Int) (It:Bool) (Rt:List Int) (Vg:(List Int×PUnit)×PUnit) (Rx:Zl):Prop:=(([]:List (Nat×Nat))= []/\(v11.2.1,v11.2.2.1,v11.2.2.2.1,())=(v11.2.1,v11.2.2.1,v11.2.2.2.1,PUnit.unit))/\(∃(Ry:Int),idx Jf v11.1=some Ry/\([]:List (Nat×Nat))= []/\(Ry,())=(Fz,PUnit.unit))/\(∃(Ry:Int),idx Jf v11.1=some Ry/\([]:List (Nat×Nat))= []/\(Ry,())=(Lr,PUnit.unit))/\(Wb v11)/\0=0/\Jv.1.1.length=Jv.1.1.length/\Jv.1.1.length+(List.take 1 (List.drop 0 [Lr])).length<=Be/\(([]:List (Nat×Nat))= []/\(v11.2.1,v11.2.2.1,v11.2.2.2.1,())=(v11.2.1,v11.2.2.1,v11.2.2.2.1,PUnit.unit))/\(∃(Ry:Int),idx Jf v11.1=some Ry/\([]:List (Nat×Nat))= []/\(Ry,())=(Fz,PUnit.unit))/\(∃(Ry:Int),idx Jf v11.1=some Ry/\([]:List (Nat×Nat))= []/\(Ry,())=(Lr,PUnit.unit))/\(Wb v11)/\(KB m v11 ts Mz Jv Lr depth Jf Fz s w It Rt Vg Rx)
abbrev oH (v10:Ju) (y9:List Int) (It:Int) (Fz:Int) (Mz:(List Int×PUnit)×PUnit) (m:Nat) (ts:List (List Int×List (List Int)×List Int×Unit)) (Rx:List Int) (depth:Int) (s:List Int) (w:List Int) (fT:Bool) (Lr:List Int) (Rt:(List Int×PUnit)×PUnit) (Vg:Zl):Prop:=(([]:List (Nat×Nat))= []/\(v10.2.1,v10.2.2.1,v10.2.2.2.1,())=(v10.2.1,v10.2.2.1,v10.2.2.2.1,PUnit.unit))/\(∃(Jv:Int),idx y9 v10.1=some Jv/\([]:List (Nat×Nat))= []/\(Jv,())=(It,PUnit.unit))/\(∃(Jv:Int),idx y9 v10.1=some Jv/\([]:List (Nat×Nat))= []/\(Jv,())=(Fz,PUnit.unit))/\(Wc v10)/\0=0/\Mz.1.1.length=Mz.1.1.length/\Mz.1.1.length+(List.take 1 (List.drop 0 [Fz])).length<=Be/\(([]:List (Nat×Nat))= []/\(v10.2.1,v10.2.2.1,v10.2.2.2.1,())=(v10.2.1,v10.2.2.1,v10.2.2.2.1,PUnit.unit))/\(∃(Jv:Int),idx y9 v10.1=some Jv/\([]:List (Nat×Nat))= []/\(Jv,())=(It,PUnit.unit))/\(∃(Jv:Int),idx y9 v10.1=some Jv/\([]:List (Nat×Nat))= []/\(Jv,())=(Fz,PUnit.unit))/\(Wc v10)/\(KC m v10 ts Rx Mz Fz depth y9 It s w fT Lr Rt Vg)
abbrev Wd (v11:Ju):Prop:=(([]:List (Nat×Nat))= []/\(v11.2.1,v11.2.2.1,v11.2.2.2.1,())=(v11.2.1,v11.2.2.1,v11.2.2.2.1,PUnit.unit))
abbrev We (v10:Ju):Prop:=(([]:List (Nat×Nat))= []/\(v10.2.1,v10.2.2.1,v10.2.2.2.1,())=(v10.2.1,v10.2.2.1,v10.2.2.2.1,PUnit.unit))
abbrev oI (Jf:List Int) (v11:Ju) (Fz:Int):Prop:=(∃(Jv:Int),idx Jf v11.1=some Jv/\([]:List (Nat×Nat))= []/\(Jv,())=(Fz,PUnit.unit))
abbrev kc (Jf:List Int) (v11:Ju) (Lr:Int):Prop:=(∃(Jv:Int),idx Jf v11.1=some Jv/\([]:List (Nat×Nat))= []/\(Jv,())=(Lr,PUnit.unit))
abbrev kd (y9:List Int) (v10:Ju) (It:Int):Prop:=(∃(Mz:Int),idx y9 v10.1=some Mz/\([]:List (Nat×Nat))= []/\(Mz,())=(It,PUnit.unit))
abbrev ke (y9:List Int) (v10:Ju) (Fz:Int):Prop:=(∃(Mz:Int),idx y9 v10.1=some Mz/\([]:List (Nat×Nat))= []/\(Mz,())=(Fz,PUnit.unit))
theorem Aet {m:Nat} (p:Int×ByteArray×List (List Int)×Unit) (ts:List (List Int×List (List Int)×List Int×Unit)) (s w:List Int) (depth:Int) (v:Int×Int×List Int×Bool×Bool×Unit) (P:(Int×Int×List Int×Bool×Bool×Unit)->Prop):(Br (v.1==(20000:Int)) (P (v.1,v.2.1,v.2.2.1,true,v.2.2.2.2.1,())) (∃(y8:Int),fK.fn (ts,s,())=some y8/\Br (decide (IntKind.i64.wrap ((↑w.length:Int)+y8)>depth)) (P (IntKind.i64.wrap (v.1+(1:Int)),v.2.1,v.2.2.1,v.2.2.2.1,v.2.2.2.2.1,())) (Br ((↑w.length:Int)==depth) (∃(y9:List Int),Sy.fn (p.1,())=some y9/\ ∃(Jf:Bool),Ap.fn (s,y9,())=some Jf/\Br Jf (Br (v.2.1==(0:Int)) (∃(kZ:(List Int×PUnit)×PUnit),Eg.fn (w,())=some kZ/\P (IntKind.i64.wrap (v.1+(1:Int)),IntKind.i64.wrap (v.2.1+(1:Int)),List.take kZ.1.1.length (List.drop 0 kZ.1.1),v.2.2.2.1,v.2.2.2.2.1,())) (P (IntKind.i64.wrap (v.1+(1:Int)),IntKind.i64.wrap (v.2.1+(1:Int)),v.2.2.1,v.2.2.2.1,v.2.2.2.2.1,()))) (P (IntKind.i64.wrap (v.1+(1:Int)),v.2.1,v.2.2.1,v.2.2.2.1,v.2.2.2.2.1,()))) (Br (decide ((↑w.length:Int)>(0:Int))) (∃(y9:Int),idx w (IntKind.i64.wrap ((↑w.length:Int)-(1:Int)))=some y9/\ ∃(Jf:List Int),Zd.fn ((p.1,p.2.1,p.2.2.1,()),y9,())=some Jf/\0=0/\0=([]:List Int).length/\Bk (λ(v11:Ju) (k12:Ju->Prop)=>Br (decide (v11.1<(↑Jf.length:Int))) (∃(It:Bool),iY.fn ((v11.2.2.2.2.1,v11.2.2.2.2.2.1,v11.2.2.2.2.2.2.1,v11.2.2.2.2.2.2.2.1,v11.2.2.2.2.2.2.2.2.1,()),())=some It/\Br (!It) (∃(Fz:Int),idx Jf v11.1=some Fz/\ ∃(Lr:Int),idx Jf v11.1=some Lr/\ ∃(Rt:List Int),Ic.fn ((v11.2.1,v11.2.2.1,v11.2.2.2.1,()),s,Fz,())=some Rt/\ ∃(Vg:(List Int×PUnit)×PUnit),Eg.fn (w,())=some Vg/\0=0/\Vg.1.1.length=Vg.1.1.length/\Vg.1.1.length+(List.take 1 (List.drop 0 [Lr])).length<=Be/\ ∃(Rx:Zl),(Th m).fn ((v11.2.1,v11.2.2.1,v11.2.2.2.1,()),ts,Rt,List.take (Vg.1.1++List.take 1 (List.drop 0 [Lr])).length (List.drop 0 (Vg.1.1++List.take 1 (List.drop 0 [Lr]))),depth,(v11.2.2.2.2.1,v11.2.2.2.2.2.1,v11.2.2.2.2.2.2.1,v11.2.2.2.2.2.2.2.1,v11.2.2.2.2.2.2.2.2.1,()),())=some Rx/\(0=0/\v11.2.2.2.2.2.2.2.2.2.2.2.2.2.1.length=v11.2.2.2.2.2.2.2.2.2.2.2.2.2.1.length/\k12 (IntKind.i64.wrap (v11.1+(1:Int)),v11.2.1,v11.2.2.1,v11.2.2.2.1,Rx.1,Rx.2.1,Rx.2.2.1,Rx.2.2.2.1,Rx.2.2.2.2.1,v11.2.2.2.2.2.2.2.2.2.1,v11.2.2.2.2.2.2.2.2.2.2.1,v11.2.2.2.2.2.2.2.2.2.2.2.1,v11.2.2.2.2.2.2.2.2.2.2.2.2.1,v11.2.2.2.2.2.2.2.2.2.2.2.2.2.1,()))/\(Wd v11)/\(Wd v11)/\(∃(Mz:Int),idx Jf v11.1=some Mz/\([]:List (Nat×Nat))= []/\(Mz,())=(Fz,PUnit.unit))/\(([]:List (Nat×Nat))= []/\(Fz,())=(Fz,PUnit.unit))/\(∃(Mz:Int),idx Jf v11.1=some Mz/\([]:List (Nat×Nat))= []/\(Mz,())=(Lr,PUnit.unit))/\(([]:List (Nat×Nat))= []/\(Lr,())=(Lr,PUnit.unit))/\(Wb v11)/\(∃(Mz:List Int),Ic.fn ((v11.2.1,v11.2.2.1,v11.2.2.2.1,()),s,Fz,())=some Mz/\(Wd v11)/\(oI Jf v11 Fz)/\(kc Jf v11 Lr)/\(([]:List (Nat×Nat))= []/\(Lr,())=(Lr,PUnit.unit))/\(Wb v11)/\(∃(Jv:(List Int×PUnit)×PUnit),Eg.fn (w,())=some Jv/\(Wd v11)/\(∃(Ry:Int),idx Jf v11.1=some Ry/\([]:List (Nat×Nat))= []/\(Ry,())=(Fz,PUnit.unit))/\(∃(Ry:Int),idx Jf v11.1=some Ry/\([]:List (Nat×Nat))= []/\(Ry,())=(Lr,PUnit.unit))/\(([]:List (Nat×Nat))= []/\(Lr,())=(Lr,PUnit.unit))/\(Wb v11)/\(oG v11 Jf Fz Lr Jv m ts Mz depth s w It Rt Vg Rx))/\(Wd v11)/\(oI Jf v11 Fz)/\(kc Jf v11 Lr)/\(Wb v11)/\ ∃(Jv:(List Int×PUnit)×PUnit),Eg.fn (w,())=some Jv/\(oG v11 Jf Fz Lr Jv m ts Mz depth s w It Rt Vg Rx))/\(Wd v11)/\(Wd v11)/\(∃(Mz:Int),idx Jf v11.1=some Mz/\([]:List (Nat×Nat))= []/\(Mz,())=(Fz,PUnit.unit))/\(([]:List (Nat×Nat))= []/\(Fz,())=(Fz,PUnit.unit))/\(∃(Mz:Int),idx Jf v11.1=some Mz/\([]:List (Nat×Nat))= []/\(Mz,())=(Lr,PUnit.unit))/\(Wb v11)/\ ∃(Mz:List Int),Ic.fn ((v11.2.1,v11.2.2.1,v11.2.2.2.1,()),s,Fz,())=some Mz/\(Wd v11)/\(oI Jf v11 Fz)/\(kc Jf v11 Lr)/\(Wb v11)/\ ∃(Jv:(List Int×PUnit)×PUnit),Eg.fn (w,())=some Jv/\(oG v11 Jf Fz Lr Jv m ts Mz depth s w It Rt Vg Rx)) (P (v11.2.2.2.2.1,v11.2.2.2.2.2.1,v11.2.2.2.2.2.2.1,v11.2.2.2.2.2.2.2.1,v11.2.2.2.2.2.2.2.2.1,()))) (P (v11.2.2.2.2.1,v11.2.2.2.2.2.1,v11.2.2.2.2.2.2.1,v11.2.2.2.2.2.2.2.1,v11.2.2.2.2.2.2.2.2.1,()))) ((0:Int),p.1,p.2.1,p.2.2.1,IntKind.i64.wrap (v.1+(1:Int)),v.2.1,v.2.2.1,v.2.2.2.1,v.2.2.2.2.1,Int.ofNat (nat_lit 0),Int.ofNat (nat_lit 0),false,false,[],PUnit.unit)) (∃(y9:List Int),Zd.fn ((p.1,p.2.1,p.2.2.1,()),(0:Int),())=some y9/\0=0/\0=([]:List Int).length/\Bk (λ(v10:Ju) (k11:Ju->Prop)=>Br (decide (v10.1<(↑y9.length:Int))) (∃(fT:Bool),iY.fn ((v10.2.2.2.2.1,v10.2.2.2.2.2.1,v10.2.2.2.2.2.2.1,v10.2.2.2.2.2.2.2.1,v10.2.2.2.2.2.2.2.2.1,()),())=some fT/\Br (!fT) (∃(It:Int),idx y9 v10.1=some It/\ ∃(Fz:Int),idx y9 v10.1=some Fz/\ ∃(Lr:List Int),Ic.fn ((v10.2.1,v10.2.2.1,v10.2.2.2.1,()),s,It,())=some Lr/\ ∃(Rt:(List Int×PUnit)×PUnit),Eg.fn (w,())=some Rt/\0=0/\Rt.1.1.length=Rt.1.1.length/\Rt.1.1.length+(List.take 1 (List.drop 0 [Fz])).length<=Be/\ ∃(Vg:Zl),(Th m).fn ((v10.2.1,v10.2.2.1,v10.2.2.2.1,()),ts,Lr,List.take (Rt.1.1++List.take 1 (List.drop 0 [Fz])).length (List.drop 0 (Rt.1.1++List.take 1 (List.drop 0 [Fz]))),depth,(v10.2.2.2.2.1,v10.2.2.2.2.2.1,v10.2.2.2.2.2.2.1,v10.2.2.2.2.2.2.2.1,v10.2.2.2.2.2.2.2.2.1,()),())=some Vg/\(0=0/\v10.2.2.2.2.2.2.2.2.2.2.2.2.2.1.length=v10.2.2.2.2.2.2.2.2.2.2.2.2.2.1.length/\k11 (IntKind.i64.wrap (v10.1+(1:Int)),v10.2.1,v10.2.2.1,v10.2.2.2.1,Vg.1,Vg.2.1,Vg.2.2.1,Vg.2.2.2.1,Vg.2.2.2.2.1,v10.2.2.2.2.2.2.2.2.2.1,v10.2.2.2.2.2.2.2.2.2.2.1,v10.2.2.2.2.2.2.2.2.2.2.2.1,v10.2.2.2.2.2.2.2.2.2.2.2.2.1,v10.2.2.2.2.2.2.2.2.2.2.2.2.2.1,()))/\(We v10)/\(We v10)/\(∃(Rx:Int),idx y9 v10.1=some Rx/\([]:List (Nat×Nat))= []/\(Rx,())=(It,PUnit.unit))/\(([]:List (Nat×Nat))= []/\(It,())=(It,PUnit.unit))/\(∃(Rx:Int),idx y9 v10.1=some Rx/\([]:List (Nat×Nat))= []/\(Rx,())=(Fz,PUnit.unit))/\(([]:List (Nat×Nat))= []/\(Fz,())=(Fz,PUnit.unit))/\(Wc v10)/\(∃(Rx:List Int),Ic.fn ((v10.2.1,v10.2.2.1,v10.2.2.2.1,()),s,It,())=some Rx/\(We v10)/\(kd y9 v10 It)/\(ke y9 v10 Fz)/\(([]:List (Nat×Nat))= []/\(Fz,())=(Fz,PUnit.unit))/\(Wc v10)/\(∃(Mz:(List Int×PUnit)×PUnit),Eg.fn (w,())=some Mz/\(We v10)/\(∃(Jv:Int),idx y9 v10.1=some Jv/\([]:List (Nat×Nat))= []/\(Jv,())=(It,PUnit.unit))/\(∃(Jv:Int),idx y9 v10.1=some Jv/\([]:List (Nat×Nat))= []/\(Jv,())=(Fz,PUnit.unit))/\(([]:List (Nat×Nat))= []/\(Fz,())=(Fz,PUnit.unit))/\(Wc v10)/\(oH v10 y9 It Fz Mz m ts Rx depth s w fT Lr Rt Vg))/\(We v10)/\(kd y9 v10 It)/\(ke y9 v10 Fz)/\(Wc v10)/\ ∃(Mz:(List Int×PUnit)×PUnit),Eg.fn (w,())=some Mz/\(oH v10 y9 It Fz Mz m ts Rx depth s w fT Lr Rt Vg))/\(We v10)/\(We v10)/\(∃(Rx:Int),idx y9 v10.1=some Rx/\([]:List (Nat×Nat))= []/\(Rx,())=(It,PUnit.unit))/\(([]:List (Nat×Nat))= []/\(It,())=(It,PUnit.unit))/\(∃(Rx:Int),idx y9 v10.1=some Rx/\([]:List (Nat×Nat))= []/\(Rx,())=(Fz,PUnit.unit))/\(Wc v10)/\ ∃(Rx:List Int),Ic.fn ((v10.2.1,v10.2.2.1,v10.2.2.2.1,()),s,It,())=some Rx/\(We v10)/\(kd y9 v10 It)/\(ke y9 v10 Fz)/\(Wc v10)/\ ∃(Mz:(List Int×PUnit)×PUnit),Eg.fn (w,())=some Mz/\(oH v10 y9 It Fz Mz m ts Rx depth s w fT Lr Rt Vg)) (P (v10.2.2.2.2.1,v10.2.2.2.2.2.1,v10.2.2.2.2.2.2.1,v10.2.2.2.2.2.2.2.1,v10.2.2.2.2.2.2.2.2.1,()))) (P (v10.2.2.2.2.1,v10.2.2.2.2.2.1,v10.2.2.2.2.2.2.1,v10.2.2.2.2.2.2.2.1,v10.2.2.2.2.2.2.2.2.1,()))) ((0:Int),p.1,p.2.1,p.2.2.1,IntKind.i64.wrap (v.1+(1:Int)),v.2.1,v.2.2.1,v.2.2.2.1,v.2.2.2.2.1,Int.ofNat (nat_lit 0),Int.ofNat (nat_lit 0),false,false,[],PUnit.unit))))))=fnW VD (look [(48,fK),(115,Sy),(101,Ap),(116,Eg),(117,Zd),(118,Ic),(92,iY),(89,Qk.q (Th m))]) (Th (m+1)) Tryz.f89 (p,ts,s,w,depth,v,()) P:=by kernel_rfl
abbrev Uq:Type:=Int×List Int×Int×ByteArray×List (List Int)×Option (List (List Int×List (List Int)×List Int×PUnit)×List (ByteArray->Option Int)×PUnit)×Int×Bool×Int×Int×Bool×PUnit
abbrev kT:Type:=(Int×ByteArray×List (List Int)×Option (List (List Int×List (List Int)×List Int×PUnit)×List (ByteArray->Option Int)×PUnit)×Int×Bool×List Int×Int×Int×Bool×Bool×PUnit)×PUnit
theorem ZH {m:Nat} (n:Int) (str:ByteArray) (g:List (List Int)) (b:Option (List (List Int×List (List Int)×List Int×Unit)×List (ByteArray->Option Int)×Unit)) (Bw:Int) (every:Bool) (w:List Int) (nodes found:Int) (ab:Bool) (x:List Int) (P:((Int×ByteArray×List (List Int)×Option BB×Int×Bool×List Int×Int×Int×Bool×Bool×Unit)×Unit)->Prop):(Br (nodes==(20000:Int)) (P ((n,str,g,b,Bw,every,List.take w.length (List.drop 0 w),nodes,found,true,true,()),())) (∃(It:Int),Nv.fn (List.take w.length (List.drop 0 w),())=some It/\ ∃(Fz:Int),fL.fn (b,x,())=some Fz/\Br (decide (IntKind.i64.wrap (It+Fz)>Bw)) (P ((n,str,g,b,Bw,every,List.take w.length (List.drop 0 w),IntKind.i64.wrap (nodes+(1:Int)),found,ab,false,()),())) (∃(Lr:Bool),m9.fn (x,())=some Lr/\Br Lr (Br (It==Bw) (P ((n,str,g,b,Bw,every,List.take w.length (List.drop 0 w),IntKind.i64.wrap (nodes+(1:Int)),IntKind.i64.wrap (found+(1:Int)),ab,!every,()),())) (Br (It==Bw) (P ((n,str,g,b,Bw,every,List.take w.length (List.drop 0 w),IntKind.i64.wrap (nodes+(1:Int)),found,ab,false,()),())) (Br (decide (It>(0:Int))) (((0:Int)<=IntKind.i64.wrap (It-(1:Int))/\IntKind.i64.wrap (It-(1:Int))<(↑w.length:Int))/\ ∃(Rt:Int),w[0+(IntKind.i64.wrap (It-(1:Int))).toNat]?=some Rt/\ ∃(Vg:List Int),Hs.fn ((↑g.length:Int),())=some Vg/\0=0/\(List.take w.length (List.drop 0 w)).length=(List.take w.length (List.drop 0 w)).length/\Bk (λ(Iq:Uq) (k19:Uq->Prop)=>Br (decide (Iq.1<(↑Vg.length:Int))) (∃(Jv:Int),idx Vg Iq.1=some Jv/\Br (Jv==IntKind.i64.wrap ((0:Int)-Rt)) (0=0/\(List.take Iq.2.1.length (List.drop 0 Iq.2.1)).length=(List.take Iq.2.1.length (List.drop 0 Iq.2.1)).length/\k19 (IntKind.i64.wrap (Iq.1+(1:Int)),List.take Iq.2.1.length (List.drop 0 Iq.2.1),Iq.2.2.1,Iq.2.2.2.1,Iq.2.2.2.2.1,Iq.2.2.2.2.2.1,Iq.2.2.2.2.2.2.1,Iq.2.2.2.2.2.2.2.1,Iq.2.2.2.2.2.2.2.2.1,Iq.2.2.2.2.2.2.2.2.2.1,Iq.2.2.2.2.2.2.2.2.2.2.1,())) (0=0/\Iq.2.1.length=Iq.2.1.length/\Iq.2.1.length+(List.take 1 (List.drop 0 [Jv])).length<=Be/\ ∃(Ry:List Int),Gx.fn (Iq.2.2.2.2.1,Jv,())=some Ry/\ ∃(Ok:List Int),Iv.fn (x,Ry,())=some Ok/\0=0/\(Iq.2.1++List.take 1 (List.drop 0 [Jv])).length=(Iq.2.1++List.take 1 (List.drop 0 [Jv])).length/\ ∃(Uu:kT),(Ou m).fn (Iq.2.2.1,Iq.2.2.2.1,Iq.2.2.2.2.1,Iq.2.2.2.2.2.1,Iq.2.2.2.2.2.2.1,Iq.2.2.2.2.2.2.2.1,Iq.2.1++List.take 1 (List.drop 0 [Jv]),Iq.2.2.2.2.2.2.2.2.1,Iq.2.2.2.2.2.2.2.2.2.1,Iq.2.2.2.2.2.2.2.2.2.2.1,Ok,())=some Uu/\Br Uu.1.2.2.2.2.2.2.2.2.2.2.1 (P ((Uu.1.1,Uu.1.2.1,Uu.1.2.2.1,Uu.1.2.2.2.1,Uu.1.2.2.2.2.1,Uu.1.2.2.2.2.2.1,List.take Uu.1.2.2.2.2.2.2.1.length (List.drop 0 Uu.1.2.2.2.2.2.2.1),Uu.1.2.2.2.2.2.2.2.1,Uu.1.2.2.2.2.2.2.2.2.1,Uu.1.2.2.2.2.2.2.2.2.2.1,true,()),())) (((0:Int)<=(0:Int)/\(0:Int)<=It/\It<=(↑Uu.1.2.2.2.2.2.2.1.length:Int))/\0=0/\(List.take (It.toNat-Int.toNat (0:Int)) (List.drop (0+Int.toNat (0:Int)) Uu.1.2.2.2.2.2.2.1)).length=(List.take (It.toNat-Int.toNat (0:Int)) (List.drop (0+Int.toNat (0:Int)) Uu.1.2.2.2.2.2.2.1)).length/\k19 (IntKind.i64.wrap (Iq.1+(1:Int)),List.take (It.toNat-Int.toNat (0:Int)) (List.drop (0+Int.toNat (0:Int)) Uu.1.2.2.2.2.2.2.1),Uu.1.1,Uu.1.2.1,Uu.1.2.2.1,Uu.1.2.2.2.1,Uu.1.2.2.2.2.1,Uu.1.2.2.2.2.2.1,Uu.1.2.2.2.2.2.2.2.1,Uu.1.2.2.2.2.2.2.2.2.1,Uu.1.2.2.2.2.2.2.2.2.2.1,())))) (P ((Iq.2.2.1,Iq.2.2.2.1,Iq.2.2.2.2.1,Iq.2.2.2.2.2.1,Iq.2.2.2.2.2.2.1,Iq.2.2.2.2.2.2.2.1,List.take Iq.2.1.length (List.drop 0 Iq.2.1),Iq.2.2.2.2.2.2.2.2.1,Iq.2.2.2.2.2.2.2.2.2.1,Iq.2.2.2.2.2.2.2.2.2.2.1,false,()),()))) ((0:Int),List.take w.length (List.drop 0 w),n,str,g,b,Bw,every,IntKind.i64.wrap (nodes+(1:Int)),found,ab,PUnit.unit)) (∃(Rt:List Int),Hs.fn ((↑g.length:Int),())=some Rt/\0=0/\(List.take w.length (List.drop 0 w)).length=(List.take w.length (List.drop 0 w)).length/\Bk (λ(Ip:Uq) (k18:Uq->Prop)=>Br (decide (Ip.1<(↑Rt.length:Int))) (∃(Mz:Int),idx Rt Ip.1=some Mz/\Br (Mz==IntKind.i64.wrap ((0:Int)-(0:Int))) (0=0/\(List.take Ip.2.1.length (List.drop 0 Ip.2.1)).length=(List.take Ip.2.1.length (List.drop 0 Ip.2.1)).length/\k18 (IntKind.i64.wrap (Ip.1+(1:Int)),List.take Ip.2.1.length (List.drop 0 Ip.2.1),Ip.2.2.1,Ip.2.2.2.1,Ip.2.2.2.2.1,Ip.2.2.2.2.2.1,Ip.2.2.2.2.2.2.1,Ip.2.2.2.2.2.2.2.1,Ip.2.2.2.2.2.2.2.2.1,Ip.2.2.2.2.2.2.2.2.2.1,Ip.2.2.2.2.2.2.2.2.2.2.1,())) (0=0/\Ip.2.1.length=Ip.2.1.length/\Ip.2.1.length+(List.take 1 (List.drop 0 [Mz])).length<=Be/\ ∃(Jv:List Int),Gx.fn (Ip.2.2.2.2.1,Mz,())=some Jv/\ ∃(Ry:List Int),Iv.fn (x,Jv,())=some Ry/\0=0/\(Ip.2.1++List.take 1 (List.drop 0 [Mz])).length=(Ip.2.1++List.take 1 (List.drop 0 [Mz])).length/\ ∃(Ok:kT),(Ou m).fn (Ip.2.2.1,Ip.2.2.2.1,Ip.2.2.2.2.1,Ip.2.2.2.2.2.1,Ip.2.2.2.2.2.2.1,Ip.2.2.2.2.2.2.2.1,Ip.2.1++List.take 1 (List.drop 0 [Mz]),Ip.2.2.2.2.2.2.2.2.1,Ip.2.2.2.2.2.2.2.2.2.1,Ip.2.2.2.2.2.2.2.2.2.2.1,Ry,())=some Ok/\Br Ok.1.2.2.2.2.2.2.2.2.2.2.1 (P ((Ok.1.1,Ok.1.2.1,Ok.1.2.2.1,Ok.1.2.2.2.1,Ok.1.2.2.2.2.1,Ok.1.2.2.2.2.2.1,List.take Ok.1.2.2.2.2.2.2.1.length (List.drop 0 Ok.1.2.2.2.2.2.2.1),Ok.1.2.2.2.2.2.2.2.1,Ok.1.2.2.2.2.2.2.2.2.1,Ok.1.2.2.2.2.2.2.2.2.2.1,true,()),())) (((0:Int)<=(0:Int)/\(0:Int)<=It/\It<=(↑Ok.1.2.2.2.2.2.2.1.length:Int))/\0=0/\(List.take (It.toNat-Int.toNat (0:Int)) (List.drop (0+Int.toNat (0:Int)) Ok.1.2.2.2.2.2.2.1)).length=(List.take (It.toNat-Int.toNat (0:Int)) (List.drop (0+Int.toNat (0:Int)) Ok.1.2.2.2.2.2.2.1)).length/\k18 (IntKind.i64.wrap (Ip.1+(1:Int)),List.take (It.toNat-Int.toNat (0:Int)) (List.drop (0+Int.toNat (0:Int)) Ok.1.2.2.2.2.2.2.1),Ok.1.1,Ok.1.2.1,Ok.1.2.2.1,Ok.1.2.2.2.1,Ok.1.2.2.2.2.1,Ok.1.2.2.2.2.2.1,Ok.1.2.2.2.2.2.2.2.1,Ok.1.2.2.2.2.2.2.2.2.1,Ok.1.2.2.2.2.2.2.2.2.2.1,())))) (P ((Ip.2.2.1,Ip.2.2.2.1,Ip.2.2.2.2.1,Ip.2.2.2.2.2.1,Ip.2.2.2.2.2.2.1,Ip.2.2.2.2.2.2.2.1,List.take Ip.2.1.length (List.drop 0 Ip.2.1),Ip.2.2.2.2.2.2.2.2.1,Ip.2.2.2.2.2.2.2.2.2.1,Ip.2.2.2.2.2.2.2.2.2.2.1,false,()),()))) ((0:Int),List.take w.length (List.drop 0 w),n,str,g,b,Bw,every,IntKind.i64.wrap (nodes+(1:Int)),found,ab,PUnit.unit))))) (Br (It==Bw) (P ((n,str,g,b,Bw,every,List.take w.length (List.drop 0 w),IntKind.i64.wrap (nodes+(1:Int)),found,ab,false,()),())) (Br (decide (It>(0:Int))) (((0:Int)<=IntKind.i64.wrap (It-(1:Int))/\IntKind.i64.wrap (It-(1:Int))<(↑w.length:Int))/\ ∃(Rt:Int),w[0+(IntKind.i64.wrap (It-(1:Int))).toNat]?=some Rt/\ ∃(Vg:List Int),Hs.fn ((↑g.length:Int),())=some Vg/\0=0/\(List.take w.length (List.drop 0 w)).length=(List.take w.length (List.drop 0 w)).length/\Bk (λ(Iq:Uq) (k19:Uq->Prop)=>Br (decide (Iq.1<(↑Vg.length:Int))) (∃(Jv:Int),idx Vg Iq.1=some Jv/\Br (Jv==IntKind.i64.wrap ((0:Int)-Rt)) (0=0/\(List.take Iq.2.1.length (List.drop 0 Iq.2.1)).length=(List.take Iq.2.1.length (List.drop 0 Iq.2.1)).length/\k19 (IntKind.i64.wrap (Iq.1+(1:Int)),List.take Iq.2.1.length (List.drop 0 Iq.2.1),Iq.2.2.1,Iq.2.2.2.1,Iq.2.2.2.2.1,Iq.2.2.2.2.2.1,Iq.2.2.2.2.2.2.1,Iq.2.2.2.2.2.2.2.1,Iq.2.2.2.2.2.2.2.2.1,Iq.2.2.2.2.2.2.2.2.2.1,Iq.2.2.2.2.2.2.2.2.2.2.1,())) (0=0/\Iq.2.1.length=Iq.2.1.length/\Iq.2.1.length+(List.take 1 (List.drop 0 [Jv])).length<=Be/\ ∃(Ry:List Int),Gx.fn (Iq.2.2.2.2.1,Jv,())=some Ry/\ ∃(Ok:List Int),Iv.fn (x,Ry,())=some Ok/\0=0/\(Iq.2.1++List.take 1 (List.drop 0 [Jv])).length=(Iq.2.1++List.take 1 (List.drop 0 [Jv])).length/\ ∃(Uu:kT),(Ou m).fn (Iq.2.2.1,Iq.2.2.2.1,Iq.2.2.2.2.1,Iq.2.2.2.2.2.1,Iq.2.2.2.2.2.2.1,Iq.2.2.2.2.2.2.2.1,Iq.2.1++List.take 1 (List.drop 0 [Jv]),Iq.2.2.2.2.2.2.2.2.1,Iq.2.2.2.2.2.2.2.2.2.1,Iq.2.2.2.2.2.2.2.2.2.2.1,Ok,())=some Uu/\Br Uu.1.2.2.2.2.2.2.2.2.2.2.1 (P ((Uu.1.1,Uu.1.2.1,Uu.1.2.2.1,Uu.1.2.2.2.1,Uu.1.2.2.2.2.1,Uu.1.2.2.2.2.2.1,List.take Uu.1.2.2.2.2.2.2.1.length (List.drop 0 Uu.1.2.2.2.2.2.2.1),Uu.1.2.2.2.2.2.2.2.1,Uu.1.2.2.2.2.2.2.2.2.1,Uu.1.2.2.2.2.2.2.2.2.2.1,true,()),())) (((0:Int)<=(0:Int)/\(0:Int)<=It/\It<=(↑Uu.1.2.2.2.2.2.2.1.length:Int))/\0=0/\(List.take (It.toNat-Int.toNat (0:Int)) (List.drop (0+Int.toNat (0:Int)) Uu.1.2.2.2.2.2.2.1)).length=(List.take (It.toNat-Int.toNat (0:Int)) (List.drop (0+Int.toNat (0:Int)) Uu.1.2.2.2.2.2.2.1)).length/\k19 (IntKind.i64.wrap (Iq.1+(1:Int)),List.take (It.toNat-Int.toNat (0:Int)) (List.drop (0+Int.toNat (0:Int)) Uu.1.2.2.2.2.2.2.1),Uu.1.1,Uu.1.2.1,Uu.1.2.2.1,Uu.1.2.2.2.1,Uu.1.2.2.2.2.1,Uu.1.2.2.2.2.2.1,Uu.1.2.2.2.2.2.2.2.1,Uu.1.2.2.2.2.2.2.2.2.1,Uu.1.2.2.2.2.2.2.2.2.2.1,())))) (P ((Iq.2.2.1,Iq.2.2.2.1,Iq.2.2.2.2.1,Iq.2.2.2.2.2.1,Iq.2.2.2.2.2.2.1,Iq.2.2.2.2.2.2.2.1,List.take Iq.2.1.length (List.drop 0 Iq.2.1),Iq.2.2.2.2.2.2.2.2.1,Iq.2.2.2.2.2.2.2.2.2.1,Iq.2.2.2.2.2.2.2.2.2.2.1,false,()),()))) ((0:Int),List.take w.length (List.drop 0 w),n,str,g,b,Bw,every,IntKind.i64.wrap (nodes+(1:Int)),found,ab,PUnit.unit)) (∃(Rt:List Int),Hs.fn ((↑g.length:Int),())=some Rt/\0=0/\(List.take w.length (List.drop 0 w)).length=(List.take w.length (List.drop 0 w)).length/\Bk (λ(Ip:Uq) (k18:Uq->Prop)=>Br (decide (Ip.1<(↑Rt.length:Int))) (∃(Mz:Int),idx Rt Ip.1=some Mz/\Br (Mz==IntKind.i64.wrap ((0:Int)-(0:Int))) (0=0/\(List.take Ip.2.1.length (List.drop 0 Ip.2.1)).length=(List.take Ip.2.1.length (List.drop 0 Ip.2.1)).length/\k18 (IntKind.i64.wrap (Ip.1+(1:Int)),List.take Ip.2.1.length (List.drop 0 Ip.2.1),Ip.2.2.1,Ip.2.2.2.1,Ip.2.2.2.2.1,Ip.2.2.2.2.2.1,Ip.2.2.2.2.2.2.1,Ip.2.2.2.2.2.2.2.1,Ip.2.2.2.2.2.2.2.2.1,Ip.2.2.2.2.2.2.2.2.2.1,Ip.2.2.2.2.2.2.2.2.2.2.1,())) (0=0/\Ip.2.1.length=Ip.2.1.length/\Ip.2.1.length+(List.take 1 (List.drop 0 [Mz])).length<=Be/\ ∃(Jv:List Int),Gx.fn (Ip.2.2.2.2.1,Mz,())=some Jv/\ ∃(Ry:List Int),Iv.fn (x,Jv,())=some Ry/\0=0/\(Ip.2.1++List.take 1 (List.drop 0 [Mz])).length=(Ip.2.1++List.take 1 (List.drop 0 [Mz])).length/\ ∃(Ok:kT),(Ou m).fn (Ip.2.2.1,Ip.2.2.2.1,Ip.2.2.2.2.1,Ip.2.2.2.2.2.1,Ip.2.2.2.2.2.2.1,Ip.2.2.2.2.2.2.2.1,Ip.2.1++List.take 1 (List.drop 0 [Mz]),Ip.2.2.2.2.2.2.2.2.1,Ip.2.2.2.2.2.2.2.2.2.1,Ip.2.2.2.2.2.2.2.2.2.2.1,Ry,())=some Ok/\Br Ok.1.2.2.2.2.2.2.2.2.2.2.1 (P ((Ok.1.1,Ok.1.2.1,Ok.1.2.2.1,Ok.1.2.2.2.1,Ok.1.2.2.2.2.1,Ok.1.2.2.2.2.2.1,List.take Ok.1.2.2.2.2.2.2.1.length (List.drop 0 Ok.1.2.2.2.2.2.2.1),Ok.1.2.2.2.2.2.2.2.1,Ok.1.2.2.2.2.2.2.2.2.1,Ok.1.2.2.2.2.2.2.2.2.2.1,true,()),())) (((0:Int)<=(0:Int)/\(0:Int)<=It/\It<=(↑Ok.1.2.2.2.2.2.2.1.length:Int))/\0=0/\(List.take (It.toNat-Int.toNat (0:Int)) (List.drop (0+Int.toNat (0:Int)) Ok.1.2.2.2.2.2.2.1)).length=(List.take (It.toNat-Int.toNat (0:Int)) (List.drop (0+Int.toNat (0:Int)) Ok.1.2.2.2.2.2.2.1)).length/\k18 (IntKind.i64.wrap (Ip.1+(1:Int)),List.take (It.toNat-Int.toNat (0:Int)) (List.drop (0+Int.toNat (0:Int)) Ok.1.2.2.2.2.2.2.1),Ok.1.1,Ok.1.2.1,Ok.1.2.2.1,Ok.1.2.2.2.1,Ok.1.2.2.2.2.1,Ok.1.2.2.2.2.2.1,Ok.1.2.2.2.2.2.2.2.1,Ok.1.2.2.2.2.2.2.2.2.1,Ok.1.2.2.2.2.2.2.2.2.2.1,())))) (P ((Ip.2.2.1,Ip.2.2.2.1,Ip.2.2.2.2.1,Ip.2.2.2.2.2.1,Ip.2.2.2.2.2.2.1,Ip.2.2.2.2.2.2.2.1,List.take Ip.2.1.length (List.drop 0 Ip.2.1),Ip.2.2.2.2.2.2.2.2.1,Ip.2.2.2.2.2.2.2.2.2.1,Ip.2.2.2.2.2.2.2.2.2.2.1,false,()),()))) ((0:Int),List.take w.length (List.drop 0 w),n,str,g,b,Bw,every,IntKind.i64.wrap (nodes+(1:Int)),found,ab,PUnit.unit)))))))=fnMW (HK [jr+6]) (look [(119,Nv),(52,fL),(120,m9),(106,Hs),(122,Gx),(121,Iv),(91,Qk.m (Ou m))]) (Ou (m+1)) Tryz.f91 (n,str,g,b,Bw,every,w,nodes,found,ab,x,()) P:=by kernel_rfl
theorem Adq (s:List Int) (h:short s):fnW Cd (look []) m9 Tryz.f120 (s,()) (λ(z:Bool)=>z=a5 s):=by
 unfold short at h
 refine Eq.mp (Aej s _) ?_
 refine Aj s.length (λv=>v.1) (λj _=> ∀i (hi:i<s.length),i<j->s[i]=(i:Int)) rfl (λi _ h=>absurd h (by omega)) ?_
 rintro j ⟨i,⟨⟩⟩ K hj hi hR hK
 dsimp only at hi⊢
 subst hi
 refine Br.dec (λhl=>?_) λhl=>?_
 ·have hl:j<s.length:=by omega
  refine ⟨_,Aq hl,Br.of (λhb=>?_) λhb=>?_⟩
  ·have hb:(j:Int)≠s[j]:=by simpa using hb
   show false=a5 s
   unfold a5
   refine (decide_eq_false λe=>hb ?_).symm
   have:(upto s.length)[j]?=some (j:Int):=by rw [eP hl]
   rw [<-e,List.getElem?_eq_getElem hl] at this
   exact (Option.some.inj this).symm
  ·have hb:(j:Int)=s[j]:=by simpa using hb
   rw [Ag (by omega)]
   refine hK hl _ rfl λi hi dI=>?_
   by_cases e:i=j
   ·subst e;exact hb.symm
   ·exact hR i hi (by omega)
 ·have:j=s.length:=by omega
  subst this
  show true=a5 s
  unfold a5
  refine (decide_eq_true (List.ext_getElem (by rw [eQ]) λi h1 h2=>?_)).symm
  rw [hR i h1 h1]
  have:(upto s.length)[i]?=some (i:Int):=by rw [eP h1]
  rw [List.getElem?_eq_getElem h2] at this
  exact (Option.some.inj this).symm
theorem GY:Sound Tryz.prog 120 m9:=
 Sound.Cg Bi Ai mixed Tryz.func120 (by kernel_rfl) (by kernel_rfl) λx h=>Adq x.1 h
theorem Adm (v:DS) (_:True):fnW Cd (look []) iY Tryz.f92 (v,()) (λ(z:Bool)=>z=Mg v):=by
 refine Eq.mp (Aef v _) ?_
 unfold Mg
 refine Br.of (λh=>by rw [h];rfl) λh=>?_
 rw [h,Bool.false_or]
 refine Br.of (λh=>?_) λh=>?_
 ·rw [show decide (0<v.2.1)=true from h,Bool.true_and]
 ·rw [show decide (0<v.2.1)=false from h,Bool.false_and]
theorem GV:Sound Tryz.prog 92 iY:=
 Sound.Cg Bi Ai mixed Tryz.func92 (by kernel_rfl) (by kernel_rfl) λx h=>Adm x.1 h
theorem u7 {p:PP} {ts:List TT} {s:List Int} {l:Int} (h:Jk p ts s=true) (hl:Es (List.length p.2.2.1) l):Jk p ts (Mb p.2.2.1 s l)=true:=by
 obtain ⟨_,_,hr⟩:=lF h
 obtain ⟨hv,hp,hg⟩:=km hr
 have hm:l∈Af p.2.2.1.length:=by
  obtain ⟨k,hk,rfl|rfl⟩:=Ng hl
  ·exact (Pu hk).1
  ·exact (Pu hk).2
 unfold Jk at h⊢
 obtain ⟨_,h2⟩:=Bool.and_eq_true_iff.1 h
 exact Bool.and_eq_true_iff.2 ⟨QP hv (ER hg hm),h2⟩
theorem yW {p:PP} {ts:List TT} {s:List Int} (h:Jk p ts s=true):Valid p/\s.length=p.1.toNat/\s.length<=20/\(∀y∈s,0<=y/\y<p.1)/\Uv ts/\Zq ts s:=by
 obtain ⟨ha,hb,hr⟩:=lF h
 obtain ⟨hv,hp,hg⟩:=km hr
 have hV:=valid hv
 have hn:=hV.n
 have h1:=hp.1
 exact ⟨hV,h1,by omega,λy hy=>by have:=hp.row y hy;omega,ha,hb⟩
theorem iO {w:List Int} (h:0<w.length):w[w.length-1]?=some (Ir w):=by
 unfold Ir
 rw [List.getLastD_eq_getLast?,List.getLast?_eq_getElem?]
 cases hw:w[w.length-1]? with
 |none=>rw [List.getElem?_eq_none_iff] at hw;omega
 |some x=>rfl
theorem q8 {w:List Int} {n:Nat} (hn:n<=8) (h: ∀l∈w,Es n l): -8<=Ir w/\Ir w<=8:=by
 cases hw:w with
 |nil=>simp [Ir]
 |cons a r=>
  have hp:0<w.length:=by rw [hw];simp
  have:=h _ (List.mem_of_getElem? (iO hp))
  rw [hw] at this
  unfold Es at this
  omega
theorem YM {m:Nat} (n:Int) (str:ByteArray) (g:List (List Int)) (b:Option BB) (Bw:Int) (every:Bool) (w:List Int) (nodes found:Int) (ab:Bool) (x:List Int)
  (h:vz n str g b Bw w nodes found x/\(Bw-w.length).toNat<m+1):
  fnMW (HK [jr+6]) (look [(119,Nv),(52,fL),(120,m9),(106,Hs),(122,Gx),(121,Iv),(91,Qk.m (Ou m))]) (Ou (m+1)) Tryz.f91 (n,str,g,b,Bw,every,w,nodes,found,ab,x,()) (λ(z:(Int×ByteArray×List (List Int)×Option BB×Int×Bool×List Int×Int×Int×Bool×Bool×Unit)×Unit)=>z=(dT n str g b Bw every (nV n g b Bw every w nodes found ab x),())):=by
 obtain ⟨⟨ts,rfl,hh,Acg,LX,lG,⟨hn0,hn1⟩,hf0,hf1⟩,hm⟩:=h
 obtain ⟨hV,RX,An7,RY,ha,hb⟩:=yW hh
 have hN:=hV.n
 have RY: ∀y∈x,0<=y/\y<n:=RY
 have fY:1<=g.length/\g.length<=8:=hV.se
 have Am8:=JX ha hb
 have hbd:PN (some (Cu ts)) x:=⟨ts,ha,rfl,hb⟩
 have hid:a5 x=decide (x=upto n.toNat):=by unfold a5;rw [RX]
 have XL:=q8 fY.2 lG
 obtain ⟨q,hq⟩: ∃q,nV n g (some (Cu ts)) Bw every w nodes found ab x=q:=⟨_,rfl⟩
 refine Eq.mp (ZH n str g (some (Cu ts)) Bw every w nodes found ab x _) ?_
 rw [hq]
 unfold nV at hq
 obtain ⟨k,hk⟩: ∃k,(Bw-w.length).toNat=k:=⟨_,rfl⟩
 rw [hk] at hq hm
 rw [iN] at hq
 simp only [Bb,true_and]
 have fin: ∀r:IS,r=q->(((n,str,g,some (Cu ts),Bw,every,r.2.1,r.2.2.1,r.2.2.2.1,r.2.2.2.2,r.1,()),()):(Int×ByteArray×List (List Int)×Option BB×Int×Bool×List Int×Int×Int×Bool×Bool×Unit)×Unit)=(dT n str g (some (Cu ts)) Bw every q,()):= λr e=>by subst e;rfl
 refine Br.of (λh1=>?_) λh1=>?_
 ·rw [if_pos (eq_of_beq h1)] at hq
  exact fin _ hq
 have h1: ¬nodes=20000:=by simpa using h1
 rw [if_neg h1] at hq
 refine ⟨(w.length:Int),if_pos trivial,Pv ts x,if_pos hbd,?_⟩
 show Br (decide (IntKind.i64.wrap ((w.length:Int)+Pv ts x)>Bw)) _ _
 rw [Bo (n:=(w.length:Int)+Pv ts x) (by omega) (by omega),Bo (n:=nodes+1) (by omega) (by omega),Bo (n:=found+1) (by omega) (by omega)]
 have hlE:Xo (some (Cu ts)) x=Pv ts x:=rfl
 refine Br.dec (λh2=>?_) λh2=>?_
 ·rw [if_pos (by rw [hlE];exact h2)] at hq
  exact fin _ hq
 rw [if_neg (by rw [hlE];exact h2)] at hq
 refine ⟨a5 x,if_pos (by show x.length<=4294967296;omega),?_⟩
 show Br (a5 x) _ _
 rw [hid]
 have mU:Hs.fn ((g.length:Int),())=some (Af g.length):=if_pos ⟨Int.natCast_nonneg _,by show ((g.length:Nat):Int)<=8;omega⟩
 have hL:=Jl g.length
 refine Br.of (λh3=>Br.of (λh4=>?a) λh4=>Br.of (λh5=>?b) λh5=>?c) λh3=>Br.of (λh5=>?d) λh5=>?e
 case a=>
  rw [if_pos ⟨of_decide_eq_true h3,eq_of_beq h4⟩] at hq
  exact fin _ hq
 case b=>
  rw [h4] at h5;cases h5
 case d=>
  rw [if_neg (λhc=>of_decide_eq_false h3 hc.1),if_pos (eq_of_beq h5)] at hq
  exact fin _ hq
 all_goals
  have h6: ¬(w.length:Int)=Bw:= λhc=>by rw [hc] at h5;simp at h5
  rw [if_neg (λhc=>h6 hc.2),if_neg h6] at hq
  have hk1:k=(Bw-((w.length+1:Nat):Int)).toNat+1:=by omega
 all_goals
  refine Br.dec (λh7=>⟨⟨by rw [Bo (by omega) (by omega)];omega,by rw [Bo (by omega) (by omega)];omega⟩,Ir w,?_,Af g.length,mU,?_⟩) λh7=>⟨Af g.length,mU,?_⟩
 all_goals first
  |(have h7:0<w.length:=by omega
    rw [Bo (by omega) (by omega),Nat.zero_add,show ((w.length:Int)-1).toNat=w.length-1 by omega]
    exact iO h7)
  |skip
 all_goals first
  |rw [show IntKind.i64.wrap ((0:Int)-Ir w)= -Ir w by rw [Bo (by omega) (by omega)];omega]
  |rw [show IntKind.i64.wrap ((0:Int)-(0:Int))= -Ir w by
    have:w= []:=List.length_eq_zero_iff.1 (by omega)
    rw [this];rfl]
 all_goals
  refine Aj (Af g.length).length (λv=>v.1) (λj v=> ∃r:IS,v=((j:Int),w,n,str,g,some (Cu ts),Bw,every,r.2.2.1,r.2.2.2.1,r.2.2.2.2,())/\r.1=false/\r.2.1=w/\(0<=r.2.2.1/\r.2.2.1<=20000/\0<=r.2.2.2.1/\r.2.2.2.1<=r.2.2.1)/\
   ((Af g.length).drop j).foldl (λ(r:IS) l=>if r.1=true\/l= -Ir w then r else
    if (iN (Mb g) (Xo (some (Cu ts))) (upto n.toNat) (Af g.length) Bw every k (Mb g x l) (w++ [l]) r.2.2.1 r.2.2.2.1 r.2.2.2.2).1=true then iN (Mb g) (Xo (some (Cu ts))) (upto n.toNat) (Af g.length) Bw every k (Mb g x l) (w++ [l]) r.2.2.1 r.2.2.2.1 r.2.2.2.2
    else (false,w,(iN (Mb g) (Xo (some (Cu ts))) (upto n.toNat) (Af g.length) Bw every k (Mb g x l) (w++ [l]) r.2.2.1 r.2.2.2.1 r.2.2.2.2).2.2)) r=q) rfl
   ⟨(false,w,nodes+1,found,ab),rfl,rfl,rfl,⟨by show 0<=nodes+1;omega,by show nodes+1<=20000;omega,hf0,by show found<=nodes+1;omega⟩,by rw [List.drop_zero];exact hq⟩ ?_
  rintro j v K hj hi ⟨r,rfl,LW,RR,hr3,hR⟩ hK
  dsimp only
  refine Br.dec (λhl=>?_) λhl=>?_
  ·have hl:j<(Af g.length).length:=by omega
   have PJ:Es g.length (Af g.length)[j]:=Kp (List.getElem_mem hl)
   have Ar2:((An g (Af g.length)[j]).length:Int)=n:=(fv hV PJ).1
   rw [List.drop_eq_getElem_cons hl,List.foldl_cons] at hR
   refine ⟨_,Aq hl,Br.of (λhe=>?_) λhe=>?_⟩
   ·rw [if_pos (.inr (eq_of_beq he))] at hR
    rw [Ag (by omega)]
    exact hK hl _ rfl ⟨r,by simp only [Bb],LW,RR,hr3,hR⟩
   ·have he: ¬(Af g.length)[j]= -Ir w:=by simpa using he
    rw [if_neg (by rw [LW];simpa using he)] at hR
    have dK:=Aav (nx:=Mb g) (low:=Xo (some (Cu ts))) (one:=upto n.toNat) (ls:=Af g.length) (depth:=Bw) (every:=every) k (Mb g x (Af g.length)[j]) (w++ [(Af g.length)[j]]) r.2.2.1 r.2.2.2.1 r.2.2.2.2 hr3
    have RQ:nV n g (some (Cu ts)) Bw every (w++ [(Af g.length)[j]]) r.2.2.1 r.2.2.2.1 r.2.2.2.2 (Mb g x (Af g.length)[j])=iN (Mb g) (Xo (some (Cu ts))) (upto n.toNat) (Af g.length) Bw every k (Mb g x (Af g.length)[j]) (w++ [(Af g.length)[j]]) r.2.2.1 r.2.2.2.1 r.2.2.2.2:=by
     unfold nV
     rw [List.length_append,List.length_singleton,hk1]
    refine ⟨by show w.length+1<=4294967296;omega,_,if_pos ⟨PJ,fY.2,hV.perm⟩,_,if_pos ⟨An7,λy hy=>by have:=RY y hy;show 0<=y/\y<((An g (Af g.length)[j]).length:Int);omega⟩,_,
     if_pos ⟨⟨ts,rfl,u7 hh PJ,Acg,by show ((w++ [(Af g.length)[j]]).length:Int)<=Bw;rw [List.length_append,List.length_singleton];omega,λl hm=>by
      have hm:l∈w++ [(Af g.length)[j]]:=hm
      rcases List.mem_append.1 hm with hm|hm
      ·exact lG l hm
      ·rw [List.mem_singleton.1 hm];exact PJ,⟨hr3.1,hr3.2.1⟩,hr3.2.2.1,hr3.2.2.2⟩,by show (Bw-((w++ [(Af g.length)[j]]).length:Int)).toNat<m;rw [List.length_append,List.length_singleton];omega⟩,?_⟩
    show Br (nV n g (some (Cu ts)) Bw every (w++ [(Af g.length)[j]]) r.2.2.1 r.2.2.2.1 r.2.2.2.2 (Mb g x (Af g.length)[j])).1 _ _
    dsimp only
    refine Br.of (λOn=>?_) λOn=>?_
    ·have EA:=On
     rw [RQ] at EA
     rw [if_pos EA,JS _ _ EA] at hR
     have e:=fin _ hR
     rw [<-RQ,On] at e
     refine Eq.trans ?_ e
     simp only [dT,Bb]
     rfl
    ·have EA:=On
     rw [RQ] at EA
     have hwd:=XW _ _ _ _ _ _ EA
     rw [if_neg (by rw [EA];simp)] at hR
     rw [<-RQ] at hwd
     refine ⟨⟨Int.le_refl _,Int.natCast_nonneg _,?_⟩,?_⟩
     ·show (w.length:Int)<=((nV n g (some (Cu ts)) Bw every (w++ [(Af g.length)[j]]) r.2.2.1 r.2.2.2.1 r.2.2.2.2 (Mb g x (Af g.length)[j])).2.1.length:Int)
      rw [hwd,List.length_append]
      omega
     ·rw [Ag (by omega)]
      refine hK hl _ rfl ⟨(false,w,(iN (Mb g) (Xo (some (Cu ts))) (upto n.toNat) (Af g.length) Bw every k (Mb g x (Af g.length)[j]) (w++ [(Af g.length)[j]]) r.2.2.1 r.2.2.2.1 r.2.2.2.2).2.2),?_,rfl,rfl,dK,hR⟩
      have htk:List.take w.length (nV n g (some (Cu ts)) Bw every (w++ [(Af g.length)[j]]) r.2.2.1 r.2.2.2.1 r.2.2.2.2 (Mb g x (Af g.length)[j])).2.1=w:=by rw [hwd];simp
      rw [<-RQ]
      show (((j+1:Nat):Int),List.take w.length (nV n g (some (Cu ts)) Bw every (w++ [(Af g.length)[j]]) r.2.2.1 r.2.2.2.1 r.2.2.2.2 (Mb g x (Af g.length)[j])).2.1,_)=_
      rw [htk]
      rfl
  ·have:j=(Af g.length).length:=by omega
   subst this
   rw [List.drop_length,List.foldl_nil] at hR
   have:=fin r hR
   rw [LW,RR] at this
   exact this
theorem HH {m:Nat} (SF:Ay Tryz.prog 91 (Ou m)):Ay Tryz.prog 91 (Ou (m+1)):=
 Ay.fD (HL [jr+6]) (Ae c7 (Ae AQ (Ae GY (Ae gV (Ae eB (Ae Rg (Er SF Ai))))))) mixed Tryz.func91 (by kernel_rfl) (by kernel_rfl) λx h=>YM x.1 x.2.1 x.2.2.1 x.2.2.2.1 x.2.2.2.2.1 x.2.2.2.2.2.1 x.2.2.2.2.2.2.1 x.2.2.2.2.2.2.2.1 x.2.2.2.2.2.2.2.2.1 x.2.2.2.2.2.2.2.2.2.1 x.2.2.2.2.2.2.2.2.2.2.1 h
theorem Ae0 {m:Nat} (p:PP) (ts:List TT) (s w:List Int) (depth:Int) (v:DS) (h:PY p ts s w depth v/\(depth-w.length).toNat<m+1):fnW VD (look [(48,fK),(115,Sy),(101,Ap),(116,Eg),(117,Zd),(118,Ic),(92,iY),(89,Qk.q (Th m))]) (Th (m+1)) Tryz.f89 (p,ts,s,w,depth,v,()) (λ(z:DS)=>z=zv p ts s w depth v):=by
 obtain ⟨⟨hh,Acg,LX,lG,hv⟩,hm⟩:=h
 obtain ⟨hV,hsl,Amp,hsr,ha,hb⟩:=yW hh
 have hN:=hV.n
 have fY:=hV.se
 have Am8:=JX ha hb
 have XL:=q8 fY.2 lG
 have hv0:=hv.n0
 have hv1:=hv.n1
 have hv2:=hv.m0
 have hv3:=hv.m1
 obtain ⟨q,hq⟩: ∃q,zv p ts s w depth v=q:=⟨_,rfl⟩
 refine Eq.mp (Aet p ts s w depth v _) ?_
 rw [hq]
 unfold zv at hq
 obtain ⟨k,hk⟩: ∃k,(depth-w.length).toNat=k:=⟨_,rfl⟩
 rw [hk] at hq hm
 rw [vN] at hq
 simp only [KB,KC,Wb,Wc,oG,oH,Wd,We,oI,kc,kd,ke]
 simp only [Bb,true_and]
 refine Br.of (λh1=>?_) λh1=>?_
 ·rw [if_pos (eq_of_beq h1)] at hq
  exact hq
 have h1: ¬v.1=20000:=by simpa using h1
 rw [if_neg h1] at hq
 refine ⟨Pv ts s,if_pos ⟨ha,hb⟩,?_⟩
 rw [Bo (n:=(w.length:Int)+Pv ts s) (by omega) (by omega),Bo (n:=v.1+1) (by omega) (by omega),Bo (n:=v.2.1+1) (by omega) (by omega)]
 refine Br.dec (λh2=>?_) λh2=>?_
 ·rw [if_pos h2] at hq
  exact hq
 rw [if_neg h2] at hq
 refine Br.of (λh3=>?_) λh3=>?_
 ·rw [if_pos (eq_of_beq h3)] at hq
  refine ⟨upto p.1.toNat,if_pos ⟨by show 0<=p.1;omega,by show p.1<=20;omega⟩,At s (upto p.1.toNat),if_pos (by show s.length<=4294967296;omega),?_⟩
  refine Br.of (λh4=>?_) λh4=>?_
  ·rw [if_pos (pn.1 h4)] at hq
   refine Br.of (λh5=>?_) λh5=>?_
   ·rw [if_pos (eq_of_beq h5)] at hq
    exact ⟨((w,()),()),if_pos (by show w.length<=4294967296;omega),hq⟩
   ·rw [if_neg (by simpa using h5)] at hq
    exact hq
  ·rw [if_neg (λhc=>by rw [pn.2 hc] at h4;cases h4)] at hq
   exact hq
 have h3: ¬(w.length:Int)=depth:=by simpa using h3
 rw [if_neg h3] at hq
 have hk1:k=(depth-((w.length+1:Nat):Int)).toNat+1:=by omega
 have haf:Zd.fn ((p.1,p.2.1,p.2.2.1,()),Ir w,())=some (fw p.2.2.1.length (Ir w)):=if_pos ⟨fY.2,XL⟩
 obtain ⟨ls,mU⟩: ∃ls,fw p.2.2.1.length (Ir w)=ls:=⟨_,rfl⟩
 have jO: ∀l∈ls,Es p.2.2.1.length l:= λl hl=>by
  rw [<-mU] at hl
  exact Kp (List.mem_filter.1 hl).1
 have hlen:ls.length<=16:=by
  rw [<-mU]
  have h1:=List.length_filter_le (λl=>!(l== -Ir w)) (Af p.2.2.1.length)
  have h2:=Jl p.2.2.1.length
  unfold fw
  omega
 rw [mU] at haf
 have hq:ls.foldl (λ(v:DS) l=>if Mg v=true then v else vN (Mb p.2.2.1) (Pv ts) (upto p.1.toNat) (Af p.2.2.1.length) depth k (Mb p.2.2.1 s l) (w++ [l]) v) (v.1+1,v.2)=q:=by rw [<-mU];exact hq
 refine Br.dec (λh7=>⟨Ir w,?_,ls,haf,?_⟩) λh7=>⟨ls,?_,?_⟩
 ·have h7:0<w.length:=by omega
  rw [Bo (by omega) (by omega),show (w.length:Int)-1=((w.length-1:Nat):Int) by omega,Aq (by omega)]
  have:=iO h7
  rw [List.getElem?_eq_getElem (by omega)] at this
  exact this
 rotate_left
 ·have:w= []:=List.length_eq_zero_iff.1 (by omega)
  rw [this] at haf
  exact haf
 all_goals
  refine ⟨rfl,Aj ls.length (λv=>v.1) (λj y=> ∃u:DS,y=((j:Int),p.1,p.2.1,p.2.2.1,u.1,u.2.1,u.2.2.1,u.2.2.2.1,u.2.2.2.2.1,(0:Int),(0:Int),false,false,[],())/\vn u/\
   (ls.drop j).foldl (λ(v:DS) l=>if Mg v=true then v else vN (Mb p.2.2.1) (Pv ts) (upto p.1.toNat) (Af p.2.2.1.length) depth k (Mb p.2.2.1 s l) (w++ [l]) v) u=q) rfl
   ⟨(v.1+1,v.2),rfl,⟨by show 0<=v.1+1;omega,by show v.1+1<=20000;omega,hv2,by show v.2.1<=v.1+1;omega⟩,by rw [List.drop_zero];exact hq⟩ ?_⟩
  rintro j y K hj hi ⟨u,rfl,hu,hR⟩ hK
  dsimp only
  refine Br.dec (λhl=>?_) λhl=>?_
  ·have hl:j<ls.length:=by omega
   have PJ:=jO _ (List.getElem_mem hl)
   rw [List.drop_eq_getElem_cons hl,List.foldl_cons] at hR
   refine ⟨Mg u,if_pos trivial,?_⟩
   refine Br.of (λhd=>?_) λhd=>?_
   ·have hd:Mg u=false:=by simpa using hd
    rw [if_neg (by rw [hd];simp)] at hR
    obtain ⟨l,hle⟩: ∃l,ls[j]=l:=⟨_,rfl⟩
    have hix:idx ls (j:Int)=some l:=by rw [Aq hl,hle]
    rw [hle] at hR PJ
    have XC:Ic.fn ((p.1,p.2.1,p.2.2.1,()),s,l,())=some (Mb p.2.2.1 s l):=if_pos ⟨(km (lF hh).2.2).1,Amp,hsr,PJ⟩
    have hcp:Eg.fn (w,())=some ((w,()),()):=if_pos (by show w.length<=4294967296;omega)
    have hmr:w.length+(List.take 1 (List.drop 0 [l])).length<=Be:=by show w.length+1<=4294967296;omega
    have hvv:zv p ts (Mb p.2.2.1 s l) (w++ [l]) depth u=vN (Mb p.2.2.1) (Pv ts) (upto p.1.toNat) (Af p.2.2.1.length) depth k (Mb p.2.2.1 s l) (w++ [l]) u:=by
     unfold zv
     rw [List.length_append,List.length_singleton,hk1]
    have RW:=VM (nx:=Mb p.2.2.1) (low:=Pv ts) (one:=upto p.1.toNat) (ls:=Af p.2.2.1.length) (depth:=depth) k (Mb p.2.2.1 s l) (w++ [l]) u hu
    have hvi:(Th m).fn ((p.1,p.2.1,p.2.2.1,()),ts,Mb p.2.2.1 s l,w++List.take 1 (List.drop 0 [l]),depth,(u.1,u.2.1,u.2.2.1,u.2.2.2.1,u.2.2.2.2.1,()),())=some (vN (Mb p.2.2.1) (Pv ts) (upto p.1.toNat) (Af p.2.2.1.length) depth k (Mb p.2.2.1 s l) (w++ [l]) u):=
     (if_pos ⟨⟨u7 hh PJ,Acg,by show ((w++ [l]).length:Int)<=depth;rw [List.length_append,List.length_singleton];omega,λx hx=>by
      have hx:x∈w++ [l]:=hx
      rcases List.mem_append.1 hx with hx|hx
      ·exact lG x hx
      ·rw [List.mem_singleton.1 hx];exact PJ,hu⟩,by show (depth-((w++ [l]).length:Int)).toNat<m;rw [List.length_append,List.length_singleton];omega⟩).trans (congrArg some hvv)
    generalize vN (Mb p.2.2.1) (Pv ts) (upto p.1.toNat) (Af p.2.2.1.length) depth k (Mb p.2.2.1 s l) (w++ [l]) u=u' at hR hvi RW
    refine ⟨l,hix,l,hix,_,XC,_,hcp,hmr,_,hvi,?_,?_⟩
    ·rw [Ag (by omega)]
     exact hK hl _ rfl ⟨u',rfl,RW,hR⟩
    ·repeat' (first|rfl|exact hmr|refine ⟨_,hix,?_⟩|refine ⟨_,XC,?_⟩|refine ⟨_,hcp,?_⟩|refine ⟨_,hvi,?_⟩|refine ⟨?_,?_⟩)
   ·have hd:Mg u=true:=by simpa using hd
    rw [if_pos hd,KP _ _ hd] at hR
    exact hR
  ·have:j=ls.length:=by omega
   subst this
   rw [List.drop_length] at hR
   exact hR
theorem OD {m:Nat} (XX:Sound Tryz.prog 89 (Th m)):Sound Tryz.prog 89 (Th (m+1)):=
 Sound.Cg VE (Ae AP (Ae eA (Ae Ow (Er o0 (Ae AN (Ae kC (Ae GV (Ae XX Ai)))))))) mixed Tryz.func89 (by kernel_rfl) (by kernel_rfl) λx h=>Ae0 x.1 x.2.1 x.2.2.1 x.2.2.2.1 x.2.2.2.2.1 x.2.2.2.2.2.1 h
theorem xk:Ay Tryz.prog 91 (Ou 0):=
 Ay.fD Bi Ai mixed Tryz.func91 (by kernel_rfl) (by kernel_rfl) λ_ h=>absurd h.2 (Nat.not_lt_zero _)
theorem kM: ∀m,Ay Tryz.prog 91 (Ou m)
 |0=>xk
 |m+1=>HH (kM m)
theorem xl:Ay Tryz.prog 91 ky:=Ay.TI (λx=>(x.2.2.2.2.1-List.length x.2.2.2.2.2.2.1).toNat) kM
noncomputable abbrev oK:Spec:=Cg (.pair Cp (.pair th (.pair tL (.pair tL (.pair tI (.pair nF .unit)))))) nF false false (λx=>PY x.1 x.2.1 x.2.2.1 x.2.2.2.1 x.2.2.2.2.1 x.2.2.2.2.2.1) (λx=>zv x.1 x.2.1 x.2.2.1 x.2.2.2.1 x.2.2.2.2.1 x.2.2.2.2.2.1)
theorem AT:Sound Tryz.prog 89 (Th 0):=
 Sound.Cg Bi Ai mixed Tryz.func89 (by kernel_rfl) (by kernel_rfl) λ_ h=>absurd h.2 (Nat.not_lt_zero _)
theorem nz: ∀m,Sound Tryz.prog 89 (Th m)
 |0=>AT
 |m+1=>OD (nz m)
theorem AU:Sound Tryz.prog 89 oK:=Sound.Ahy (λx=>(x.2.2.2.2.1-List.length x.2.2.2.1).toNat) nz
end Go.Proofs.YtfolipnappekaaaGreat

namespace Go.Proofs.YtfolipnappekaaaGreat
open Go.RowKit
noncomputable def uw (p:PP) (b:Option BB) (x:List Int) (Bw:Int) (every:Bool):IS:=nV p.1 p.2.2.1 b Bw every [] 0 0 false x
noncomputable def Ahw (p:PP) (b:Option BB) (x:List Int) (Bw:Int) (every:Bool):SR:=(p,b,Bw,every,(uw p b x Bw every).2.1,(uw p b x Bw every).2.2.1,(uw p b x Bw every).2.2.2.1,(uw p b x Bw every).2.2.2.2,())
def PW (p:PP) (b:Option BB) (x:List Int) (Bw:Int):Prop:= ∃ts,b=some (Cu ts)/\Jk p ts x=true/\0<=Bw/\Bw<=30
noncomputable abbrev Tg:Spec:=Cg (.pair Cp (.pair (.optr Tx) (.pair tL (.pair tI (.pair .bool .unit))))) (.optr UU) false false (λx=>PW x.1 x.2.1 x.2.2.1 x.2.2.2.1) (λx=>some (Ahw x.1 x.2.1 x.2.2.1 x.2.2.2.1 x.2.2.2.2.1))
noncomputable def uu (p:PP) (ts:List TT) (s:List Int) (depth:Int) (all:Bool):DS:=zv p ts s [] depth (0,0,[],false,all,())
noncomputable abbrev Ws:Spec:=Cg (.pair Cp (.pair th (.pair tL (.pair tI (.pair .bool .unit))))) nF false false (λx=>Jk x.1 x.2.1 x.2.2.1=true/\0<=x.2.2.2.1/\x.2.2.2.1<=30) (λx=>uu x.1 x.2.1 x.2.2.1 x.2.2.2.1 x.2.2.2.2.1)
noncomputable def lJ (d:Int):Bool:=decide (0<=d/\d<=30)
noncomputable abbrev Wl:Spec:=Cg (.pair tI .unit) .bool false true (λ_=>True) (λx=>lJ x.1)
noncomputable def Vb (p:PP) (ts:List TT) (s:List Int) (d:Int):Bool:=Jk p ts s&&lJ d
noncomputable abbrev m5:Spec:=Cg (.pair Cp (.pair th (.pair tL (.pair tI .unit)))) .bool false true (λx=>Ck x.1/\Ew x.2.1/\short x.2.2.1) (λx=>Vb x.1 x.2.1 x.2.2.1 x.2.2.2.1)
noncomputable def k8 (p:PP) (ts:List TT) (s:List Int) (d:Int):Int:=if Vb p ts s d=true then (if (uu p ts s d true).2.2.2.1=true then-1 else (uu p ts s d true).2.1) else-1
noncomputable abbrev Ot:Spec:=Cg (.pair Cp (.pair th (.pair tL (.pair tI .unit)))) tI false true (λx=>Ck x.1/\Ew x.2.1/\short x.2.2.1) (λx=>k8 x.1 x.2.1 x.2.2.1 x.2.2.2.1)
noncomputable abbrev iZ:Spec:=Cg (.pair Cp (.pair th (.pair tL (.pair tI .unit)))) .bool false true (λx=>Ck x.1/\Ew x.2.1/\short x.2.2.1) (λ_=>true)
theorem IB (p:Int×ByteArray×List (List Int)×Unit) (b:Option (List (List Int×List (List Int)×List Int×Unit)×List (ByteArray->Option Int)×Unit)) (x:List Int) (Bw:Int) (every:Bool) (P:Option ((Int×ByteArray×List (List Int)×Unit)×Option (List (List Int×List (List Int)×List Int×Unit)×List (ByteArray->Option Int)×Unit)×Int×Bool×List Int×Int×Int×Bool×Unit)->Prop):(0=0/\0=([]:List Int).length/\ ∃(y6:(Int×ByteArray×List (List Int)×Option (List (List Int×List (List Int)×List Int×PUnit)×List (ByteArray->Option Int)×PUnit)×Int×Bool×List Int×Int×Int×Bool×Bool×PUnit)×PUnit),ky.fn (p.1,p.2.1,p.2.2.1,b,Bw,every,[],Int.ofNat (nat_lit 0),Int.ofNat (nat_lit 0),false,x,())=some y6/\P (some ((y6.1.1,y6.1.2.1,y6.1.2.2.1,()),y6.1.2.2.2.1,y6.1.2.2.2.2.1,y6.1.2.2.2.2.2.1,List.take y6.1.2.2.2.2.2.2.1.length (List.drop 0 y6.1.2.2.2.2.2.2.1),y6.1.2.2.2.2.2.2.2.1,y6.1.2.2.2.2.2.2.2.2.1,y6.1.2.2.2.2.2.2.2.2.2.1,())))=fnW Cd (look [(91,ky)]) Tg Tryz.f68 (p,b,x,Bw,every,()) P:=by kernel_rfl
theorem OY (p:Int×ByteArray×List (List Int)×Unit) (ts:List (List Int×List (List Int)×List Int×Unit)) (s:List Int) (d:Int) (all:Bool) (P:(Int×Int×List Int×Bool×Bool×Unit)->Prop):(∃(y6:Int×Int×List Int×Bool×Bool×PUnit),oK.fn ((p.1,p.2.1,p.2.2.1,()),ts,s,List.take 0 (List.drop 0 []),d,(Int.ofNat (nat_lit 0),Int.ofNat (nat_lit 0),[],false,all,()),())=some y6/\P (y6.1,y6.2.1,y6.2.2.1,y6.2.2.2.1,y6.2.2.2.2.1,()))=fnW Cd (look [(89,oK)]) Ws Tryz.f66 (p,ts,s,d,all,()) P:=by kernel_rfl
theorem OO (d:Int) (P:Bool->Prop):(∃(y2:Bool),Bm.fn (d,(0:Int),(30:Int),())=some y2/\P y2)=fnW Cd (look [(90,Bm)]) Wl Tryz.f67 (d,()) P:=by kernel_rfl
theorem Aed (p:Int×ByteArray×List (List Int)×Unit) (ts:List (List Int×List (List Int)×List Int×Unit)) (s:List Int) (d:Int) (P:Bool->Prop):(∃(y5:Bool),m8.fn ((p.1,p.2.1,p.2.2.1,()),ts,s,())=some y5/\Br y5 (∃(y6:Bool),Bm.fn (d,(0:Int),(30:Int),())=some y6/\P y6) (P false))=fnW Cd (look [(47,m8),(88,Bm)]) m5 Tryz.f65 (p,ts,s,d,()) P:=by kernel_rfl
abbrev kO:Type:=(Int×ByteArray×List (List Int)×PUnit)×Option (List (List Int×List (List Int)×List Int×PUnit)×List (ByteArray->Option Int)×PUnit)×Int×Bool×List Int×Int×Int×Bool×PUnit
theorem BR (p:Int×ByteArray×List (List Int)×Unit) (ts:List (List Int×List (List Int)×List Int×Unit)) (s:List Int) (d:Int) (P:Int->Prop):(∃(y5:Option (List (List Int×List (List Int)×List Int×PUnit)×List (ByteArray->Option Int)×PUnit)×Bool×PUnit),Sv.fn ((p.1,p.2.1,p.2.2.1,()),ts,s,())=some y5/\Br (!y5.2.1) (P (-1:Int)) (∃(y6:Bool),Wl.fn (d,())=some y6/\Br (!y6) (P (-1:Int)) (∃(y7:Option ((Int×ByteArray×List (List Int)×PUnit)×Option (List (List Int×List (List Int)×List Int×PUnit)×List (ByteArray->Option Int)×PUnit)×Int×Bool×List Int×Int×Int×Bool×PUnit)),Tg.fn ((p.1,p.2.1,p.2.2.1,()),y5.1,s,d,true,())=some y7/\ ∃(y8:kO),y7=some y8/\Br y8.2.2.2.2.2.2.2.1 (P (-1:Int)) (∃(y9:kO),y7=some y9/\P y9.2.2.2.2.2.2.1))))=fnW Cd (look [(51,Sv),(67,Wl),(68,Tg)]) Ot Tryz.f42 (p,ts,s,d,()) P:=by kernel_rfl
theorem BZ (p:Int×ByteArray×List (List Int)×Unit) (ts:List (List Int×List (List Int)×List Int×Unit)) (s:List Int) (d:Int) (P:Int->Prop):(∃(y5:Bool),m5.fn ((p.1,p.2.1,p.2.2.1,()),ts,s,d,())=some y5/\Br (!y5) (P (-1:Int)) (∃(y6:Int×Int×List Int×Bool×Bool×PUnit),Ws.fn ((p.1,p.2.1,p.2.2.1,()),ts,s,d,true,())=some y6/\Br y6.2.2.2.1 (P (-1:Int)) (P y6.2.1)))=fnW Cd (look [(65,m5),(66,Ws)]) Ot Tryz.f41 (p,ts,s,d,()) P:=by kernel_rfl
abbrev eH:Type:=List (List Int×List (List Int)×List Int×PUnit)
abbrev eJ:Type:=Int×ByteArray×List (List Int)×PUnit
theorem HW (p:Int×ByteArray×List (List Int)×Unit) (ts:List (List Int×List (List Int)×List Int×Unit)) (s:List Int) (d:Int) (P:Bool->Prop):(Br (decide ((↑s.length:Int)>(1048576:Int))) (P true) (∃(y5:Int),uS.fn ((p.1,p.2.1,p.2.2.1,()),(1048576:Int),())=some y5/\Br (decide (y5<(0:Int))) (P true) (∃(y6:Int),mc.fn (ts,y5,())=some y6/\Br (decide (y6<(0:Int))) (P true) (∃(y7:eJ),nw.fn ((p.1,p.2.1,p.2.2.1,()),())=some y7/\ ∃(y8:eH),ey.fn (ts,())=some y8/\ ∃(y9:List Int),Xv.fn (s,())=some y9/\ ∃(Jf:Int),Ot.fn (y7,y8,y9,d,())=some Jf/\ ∃(kZ:eJ),nw.fn ((p.1,p.2.1,p.2.2.1,()),())=some kZ/\ ∃(fT:eH),ey.fn (ts,())=some fT/\ ∃(It:List Int),Xv.fn (s,())=some It/\ ∃(Fz:Int),Ot.fn ((kZ.1,kZ.2.1,kZ.2.2.1,()),fT,It,d,())=some Fz/\Br (Fz !=Jf) (P false) (∃(Lr:eJ),nw.fn ((p.1,p.2.1,p.2.2.1,()),())=some Lr/\ ∃(Rt:Bool),uQ.fn ((kZ.1,kZ.2.1,kZ.2.2.1,()),Lr,())=some Rt/\Br (!Rt) (P false) (∃(Vg:eH),ey.fn (ts,())=some Vg/\ ∃(Rx:Bool),m7.fn (fT,Vg,())=some Rx/\Br (!Rx) (P false) (∃(Mz:List Int),Xv.fn (s,())=some Mz/\ ∃(Jv:Bool),Ap.fn (It,Mz,())=some Jv/\Br (!Jv) (P false) (P true))))))))=fnW Cd (look [(13,uS),(14,mc),(41,Ot),(42,Ot),(16,nw),(17,ey),(18,Xv),(20,uQ),(21,m7),(22,Ap)]) iZ Tryz.f11 (p,ts,s,d,()) P:=by kernel_rfl
theorem ds0 (all:Bool):vn ((0,0,[],false,all,()):DS):=⟨Int.le_refl _,(by decide:(0:Int)<=20000),Int.le_refl _,Int.le_refl _⟩
theorem YQ (p:PP) (ts:List TT) (x:List Int) (Bw:Int) (every:Bool):PU every [] (uw p (some (Cu ts)) x Bw every) (uu p ts x Bw every):=
 Aaw (nx:=Mb p.2.2.1) (low:=Pv ts) (one:=upto p.1.toNat) (ls:=Af p.2.2.1.length) (depth:=Bw) (every:=every) ((Bw-(0:Nat)).toNat+1) x [] (0,0,[],false,every,()) rfl rfl (ds0 every)
theorem Ae6 {p:PP} {b:Option BB} {x:List Int} {Bw:Int} (h:PW p b x Bw):vz p.1 p.2.1 p.2.2.1 b Bw [] (Int.ofNat 0) (Int.ofNat 0) x:=by
 obtain ⟨ts,hb,hh,h0,h30⟩:=h
 exact ⟨ts,hb,hh,h30,h0,λl hl=>(by cases hl),⟨by decide,by decide⟩,by decide,by decide⟩
theorem FT (p:PP) (b:Option BB) (x:List Int) (Bw:Int) (every:Bool) (h:PW p b x Bw):fnW Cd (look [(91,ky)]) Tg Tryz.f68 (p,b,x,Bw,every,()) (λ(z:Option SR)=>z=some (Ahw p b x Bw every)):=by
 refine Eq.mp (IB p b x Bw every _) ⟨rfl,rfl,_,if_pos (Ae6 h),?_⟩
 dsimp only
 rw [Bb]
 rfl
theorem ri:Sound Tryz.prog 68 Tg:=
 Sound.Cg Bi (Er xl Ai) mixed Tryz.func68 (by kernel_rfl) (by kernel_rfl) λx h=>FT x.1 x.2.1 x.2.2.1 x.2.2.2.1 x.2.2.2.2.1 h
theorem NA (p:PP) (ts:List TT) (s:List Int) (d:Int) (all:Bool) (h:Jk p ts s=true/\0<=d/\d<=30):fnW Cd (look [(89,oK)]) Ws Tryz.f66 (p,ts,s,d,all,()) (λ(z:DS)=>z=uu p ts s d all):=by
 obtain ⟨hh,h0,h30⟩:=h
 exact Eq.mp (OY p ts s d all _) ⟨_,if_pos ⟨hh,h30,h0,λl hl=>(by cases hl),ds0 all⟩,rfl⟩
theorem ta:Sound Tryz.prog 66 Ws:=
 Sound.Cg Bi (Ae AU Ai) mixed Tryz.func66 (by kernel_rfl) (by kernel_rfl) λx h=>NA x.1 x.2.1 x.2.2.1 x.2.2.2.1 x.2.2.2.2.1 h
theorem MQ (d:Int) (_:True):fnW Cd (look [(90,Bm)]) Wl Tryz.f67 (d,()) (λ(z:Bool)=>z=lJ d):=Eq.mp (OO d _) ⟨_,if_pos trivial,rfl⟩
theorem sS:Sound Tryz.prog 67 Wl:=
 Sound.Cg Bi (Ae Ri Ai) mixed Tryz.func67 (by kernel_rfl) (by kernel_rfl) λx h=>MQ x.1 h
theorem Adk (p:PP) (ts:List TT) (s:List Int) (d:Int) (h:Ck p/\Ew ts/\short s):fnW Cd (look [(47,m8),(88,Bm)]) m5 Tryz.f65 (p,ts,s,d,()) (λ(z:Bool)=>z=Vb p ts s d):=by
 refine Eq.mp (Aed p ts s d _) ⟨_,if_pos h,?_⟩
 show Br (Jk p ts s) _ _
 unfold Vb
 refine Br.of (λhb=>⟨_,if_pos trivial,?_⟩) λhb=>?_
 ·rw [hb,Bool.true_and];rfl
 ·rw [hb,Bool.false_and]
theorem GS:Sound Tryz.prog 65 m5:=
 Sound.Cg Bi (Ae GX (Ae Tv Ai)) mixed Tryz.func65 (by kernel_rfl) (by kernel_rfl) λx h=>Adk x.1 x.2.1 x.2.2.1 x.2.2.2.1 h
theorem pf {p:PP} {ts:List TT} {s:List Int} {d:Int} :Vb p ts s d=true↔Jk p ts s=true/\0<=d/\d<=30:=by
 unfold Vb lJ
 rw [Bool.and_eq_true,decide_eq_true_iff]
theorem zR (p:PP) (ts:List TT) (s:List Int) (d:Int) (h:Ck p/\Ew ts/\short s):fnW Cd (look [(51,Sv),(67,Wl),(68,Tg)]) Ot Tryz.f42 (p,ts,s,d,()) (λ(z:Int)=>z=k8 p ts s d):=by
 refine Eq.mp (BR p ts s d _) ?_
 unfold k8
 by_cases hh:Jk p ts s=true
 ·refine ⟨(some (Cu ts),true,()),(if_pos h).trans (congrArg some (if_pos hh)),λhb=>by simp at hb,λ_=>⟨lJ d,if_pos trivial,?_⟩⟩
  have hc:Vb p ts s d=lJ d:=by unfold Vb;rw [hh,Bool.true_and]
  refine Br.of (λhd=>?_) λhd=>?_
  ·rw [if_neg (by rw [hc];exact Dk hd)]
  ·have hd:Vb p ts s d=true:=by rw [hc];simpa using hd
   obtain ⟨_,h0,h30⟩:=pf.1 hd
   have hs:=YQ p ts s d true
   rw [if_pos hd]
   refine ⟨_,if_pos ⟨ts,rfl,hh,h0,h30⟩,_,rfl,?_⟩
   show Br (uw p (some (Cu ts)) s d true).2.2.2.2 _ _
   rw [hs.a]
   refine Br.of (λha=>by rw [if_pos ha]) λha=>⟨_,rfl,?_⟩
   rw [if_neg (by rw [ha];simp)]
   exact hs.m
 ·have hc: ¬Vb p ts s d=true:= λhc=>hh (pf.1 hc).1
  rw [if_neg hc]
  exact ⟨(none,false,()),(if_pos h).trans (congrArg some (if_neg hh)),λ_=>rfl,λhb=>by simp at hb⟩
theorem o8:Sound Tryz.prog 42 Ot:=
 Sound.Cg Bi (Ae qU (Ae sS (Ae ri Ai))) mixed Tryz.func42 (by kernel_rfl) (by kernel_rfl) λx h=>zR x.1 x.2.1 x.2.2.1 x.2.2.2.1 h
theorem zZ (p:PP) (ts:List TT) (s:List Int) (d:Int) (h:Ck p/\Ew ts/\short s):fnW Cd (look [(65,m5),(66,Ws)]) Ot Tryz.f41 (p,ts,s,d,()) (λ(z:Int)=>z=k8 p ts s d):=by
 refine Eq.mp (BZ p ts s d _) ⟨Vb p ts s d,if_pos h,?_⟩
 unfold k8
 refine Br.of (λhb=>?_) λhb=>?_
 ·rw [if_neg (Dk hb)]
 ·have hc:Vb p ts s d=true:=by simpa using hb
  rw [if_pos hc]
  refine ⟨uu p ts s d true,if_pos (pf.1 hc),Br.of (λha=>by rw [if_pos ha]) λha=>by rw [if_neg (by rw [ha];simp)]⟩
theorem oh:Sound Tryz.prog 41 Ot:=
 Sound.Cg Bi (Ae GS (Ae ta Ai)) mixed Tryz.func41 (by kernel_rfl) (by kernel_rfl) λx h=>zZ x.1 x.2.1 x.2.2.1 x.2.2.2.1 h
theorem FN (p:PP) (ts:List TT) (s:List Int) (d:Int) (h:Ck p/\Ew ts/\short s):fnW Cd (look [(13,uS),(14,mc),(41,Ot),(42,Ot),(16,nw),(17,ey),(18,Xv),(20,uQ),(21,m7),(22,Ap)]) iZ Tryz.f11 (p,ts,s,d,()) (λ(z:Bool)=>z=true):=by
 obtain ⟨h0,h1,h2⟩:=h
 refine Eq.mp (HW p ts s d _) (Br.dec (λ_=>rfl) λ_=>?_)
 refine ⟨_,if_pos ⟨h0,AF⟩,Br.dec (λ_=>rfl) λhn=>⟨_,if_pos ⟨h1,(UM AF hn).2⟩,Br.dec (λ_=>rfl) λ_=>?_⟩⟩
 refine ⟨_,if_pos h0,_,if_pos h1,_,if_pos h2,_,if_pos ⟨h0,h1,h2⟩,_,if_pos h0,_,if_pos h1,_,if_pos h2,_,if_pos ⟨h0,h1,h2⟩,⟨λhe=>SH he,λ_=>?_⟩⟩
 refine ⟨_,if_pos h0,_,if_pos h0,⟨λhe=>qi (ET p) he,λ_=>?_⟩⟩
 refine ⟨_,if_pos h1,_,if_pos h1,⟨λhe=>qi (decide_eq_true rfl) he,λ_=>?_⟩⟩
 exact ⟨_,if_pos h2,_,if_pos h2,⟨λhe=>qi (lL s) he,λ_=>rfl⟩⟩
theorem r8:Sound Tryz.prog 11 iZ:=
 Sound.Cg Bi (Ae NX (Ae HD (Ae oh (Ae o8 (Ae NY (Ae HE (Ae mr (Ae NU (Ae GW (Ae mj Ai)))))))))) mixed Tryz.func11 (by kernel_rfl) (by kernel_rfl) λx h=>FN x.1 x.2.1 x.2.2.1 x.2.2.2.1 h
end Go.Proofs.YtfolipnappekaaaGreat
