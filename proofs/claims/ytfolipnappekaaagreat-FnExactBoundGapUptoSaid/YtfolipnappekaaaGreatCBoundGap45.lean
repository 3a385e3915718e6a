/-
  Part 46 of the proof that the statement FnExactBoundGap holds.
-/
import Derived.Test.YtfolipnappekaaaGreatCBoundGap44
namespace Go.Proofs.YtfolipnappekaaaGreat
open Go.RowKit
noncomputable abbrev ld:Spec:=Cp (.pair (.ptr fc) (.pair tI (.pair tL .unit))) (.pair tL (.pair tI .unit)) true false (λx=> ∃N L,Qf N L x.1.1 x.1.2.2.1 x.1.2.1 x.2.1 x.2.2.1) (λx=>Jh x.1.2.1 (x.1.1-x.2.1).toNat x.2.1.toNat x.2.2.1)
noncomputable abbrev Ab6:MSpec:= {ptr:=some (153,3),Fz:= [none,none],ins:= [(false, .Er tI),(false, .Ak tO qN false),(false, .Ak tO qN false),(false, .Er tI),(false, .Er tL)],Dv:=true,Es:= [none,none],outs:= [.Er tI, .Ak tO qN false, .Ak tO qN false, .Er tL, .Er tI],fn:= λ_=>none}
noncomputable abbrev eZ:MSpec:=ix Ab6 (λx=> ∃N L,Qf N L x.1 x.2.2.1 x.2.1 x.2.2.2.1 x.2.2.2.2.1)
 (λx=>((x.1,x.2.1,x.2.2.1,(Jh x.2.1 (x.1-x.2.2.2.1).toNat x.2.2.2.1.toNat x.2.2.2.2.1).1,(Jh x.2.1 (x.1-x.2.2.2.1).toNat x.2.2.2.1.toNat x.2.2.2.2.1).2.1,()),()))
structure XA (N L:Nat) (n:Int) (G T:As) (l:Int) (p:List Int):Prop where
 n1:1<=N
 n2:N<=20
 en:n=N
 el:l=L
 lt:L<N
 part:Part N L (G,T)
 pm:Pm N p
 fx:Fx L p
 gn:Gn N (G.getD L []) p
 gl:(G.getD L []).length<=401
noncomputable abbrev PY:MSpec:= {ptr:=some (153,3),Fz:= [none,none],ins:= [(false, .Er tI),(false, .Ak tO qN false),(false, .Ak tO qN false),(false, .Er tI),(false, .Er tO)],Dv:=false,Es:= [],outs:= [.Er tI, .Ak tO qN false, .Ak tO qN false],fn:= λ_=>none}
noncomputable abbrev jy (m:Nat):MSpec:=ix PY (λx=>(∃N L q,x.2.2.2.2.1=some q/\Qf N L x.1 x.2.2.1 x.2.1 x.2.2.2.1 q)/\HN x.1.toNat x.2.2.2.1.toNat<m)
 (λx=>((x.1,(fh x.1.toNat 1000 x.2.2.2.1.toNat (x.2.2.2.2.1.getD []) (x.2.2.1,x.2.1)).2,(fh x.1.toNat 1000 x.2.2.2.1.toNat (x.2.2.2.2.1.getD []) (x.2.2.1,x.2.1)).1,()),()))
noncomputable abbrev an (m:Nat):MSpec:=ix PY (λx=>(∃N L q,x.2.2.2.2.1=some q/\XA N L x.1 x.2.2.1 x.2.1 x.2.2.2.1 q)/\iy x.1.toNat x.2.2.2.1.toNat (x.2.2.1,x.2.1)<m)
 (λx=>((x.1,(bQ x.1.toNat 1000 x.2.2.2.1.toNat (x.2.2.2.2.1.getD []) (x.2.2.1,x.2.1)).2,(bQ x.1.toNat 1000 x.2.2.2.1.toNat (x.2.2.2.2.1.getD []) (x.2.2.1,x.2.1)).1,()),()))
noncomputable abbrev w8:MSpec:=ix PY (λx=> ∃N L q,x.2.2.2.2.1=some q/\Qf N L x.1 x.2.2.1 x.2.1 x.2.2.2.1 q)
 (λx=>((x.1,(fh x.1.toNat 1000 x.2.2.2.1.toNat (x.2.2.2.2.1.getD []) (x.2.2.1,x.2.1)).2,(fh x.1.toNat 1000 x.2.2.2.1.toNat (x.2.2.2.2.1.getD []) (x.2.2.1,x.2.1)).1,()),()))
theorem sw (p q:List Int) (P:List Int->Prop):(0=0/\0=([]:List Int).length/\Bm (λ(v3:Int×List Int×PUnit) (k4:Int×List Int×PUnit->Prop)=>Br (decide (v3.1<(↑p.length:Int))) (∃(y5:Int),idx p v3.1=some y5/\ ∃(y6:Int),idx q y5=some y6/\0=0/\v3.2.1.length=v3.2.1.length/\v3.2.1.length+(List.take 1 (List.drop 0 [y6])).length<=Bh/\0=0/\(v3.2.1++List.take 1 (List.drop 0 [y6])).length=(v3.2.1++List.take 1 (List.drop 0 [y6])).length/\k4 (IntKind.i64.wrap (v3.1+(1:Int)),v3.2.1++List.take 1 (List.drop 0 [y6]),())) (P (List.take v3.2.1.length (List.drop 0 v3.2.1)))) ((0:Int),[],PUnit.unit))=fnW Cf (look []) My Tryz.f156 (p,q,()) P:=by kernel_rfl
theorem Aci (c:Int×List (List (Option (List Int)))×List (List (Option (List Int)))×Unit) (l:Int) (p:List Int) (P:(List Int×Int×Unit)->Prop):(Bm (λ(v4:List Int×Int×PUnit) (k5:List Int×Int×PUnit->Prop)=>Br (decide (v4.2.1<c.1)) (∃(y6:List (Option (List Int))),idx c.2.1 v4.2.1=some y6/\ ∃(y7:Int),idx v4.1 v4.2.1=some y7/\ ∃(y8:Option (List Int)),idx y6 y7=some y8/\Br ((↑(y8.getD []).length:Int)==(0:Int)) (P (v4.1,v4.2.1,())) (∃(y9:List Int),Ct.fn (y8.getD [],())=some y9/\ ∃(Xj:List Int),Ij.fn (v4.1,y9,())=some Xj/\k5 (Xj,IntKind.i64.wrap (v4.2.1+(1:Int)),()))) (P (v4.1,c.1,()))) (p,l,PUnit.unit))=fnW Ri (look [(76,Ct),(156,Ij)]) ld Tryz.f144 (c,l,p,()) P:=by kernel_rfl
abbrev zE:Type:=List Int×Int×List (List (Option (List Int)))×List (List (Option (List Int)))×Int×PUnit
theorem WZ (n:Int) (T G:List (List (Option (List Int)))) (l:Int) (p:List Int) (P:(Int×List (List (Option (List Int)))×List (List (Option (List Int)))×List Int×Int×Unit)×Unit->Prop):(0=0/\T.length=T.length/\0=0/\G.length=G.length/\Bm (λ(v6:zE) (k7:zE->Prop)=>Br (decide (v6.2.1<v6.2.2.2.2.1)) (((0:Int)<=v6.2.1/\v6.2.1<(↑v6.2.2.1.length:Int))/\ ∃(y8:Int),idx v6.1 v6.2.1=some y8/\((0:Int)<=y8/\y8<(↑(v6.2.2.1.getD (0+v6.2.1.toNat) []).length:Int))/\Br ((↑(((v6.2.2.1.getD (0+v6.2.1.toNat) []).getD y8.toNat (none:Option (List Int))).getD []).length:Int)==(0:Int)) ((0=0/\v6.2.2.1.length=v6.2.2.1.length)/\(0=0/\v6.2.2.2.1.length=v6.2.2.2.1.length)/\P ((v6.2.2.2.2.1,v6.2.2.1,v6.2.2.2.1,v6.1,v6.2.1,()),())) (∃(y9:List Int),Ct.fn (((v6.2.2.1.getD (0+v6.2.1.toNat) []).getD y8.toNat (none:Option (List Int))).getD [],())=some y9/\ ∃(Xj:List Int),Ij.fn (v6.1,y9,())=some Xj/\0=0/\v6.2.2.1.length=v6.2.2.1.length/\0=0/\v6.2.2.2.1.length=v6.2.2.2.1.length/\k7 (Xj,IntKind.i64.wrap (v6.2.1+(1:Int)),v6.2.2.1,v6.2.2.2.1,v6.2.2.2.2.1,()))) ((0=0/\v6.2.2.1.length=v6.2.2.1.length)/\(0=0/\v6.2.2.2.1.length=v6.2.2.2.1.length)/\P ((v6.2.2.2.2.1,v6.2.2.1,v6.2.2.2.1,v6.1,v6.2.2.2.2.1,()),()))) (p,l,T,G,n,PUnit.unit))=fnMW Ri (look [(76,Ct),(156,Ij)]) eZ Tryz.f144 (n,T,G,l,p,()) P:=by kernel_rfl
abbrev wD:Type:=Int×List (Option (List Int))×List (List (Option (List Int)))×List (List (Option (List Int)))×Int×PUnit
abbrev SE:Type:=(Int×List (List (Option (List Int)))×List (List (Option (List Int)))×List Int×Int×PUnit)×PUnit
abbrev Hb (y7:SE) (l:Int) (p:Option (List Int)) (n:Int):Prop:=0=0/\(y7.1.2.2.1.getD (0+l.toNat) []).length=(y7.1.2.2.1.getD (0+l.toNat) []).length/\(y7.1.2.2.1.getD (0+l.toNat) []).length+(List.take 1 (List.drop 0 [p])).length<=Bh/\((0:Int)<=l/\l<(↑y7.1.2.2.1.length:Int))/\0=0/\(y7.1.2.2.1.getD (0+l.toNat) []++List.take 1 (List.drop 0 [p])).length=(y7.1.2.2.1.getD (0+l.toNat) []++List.take 1 (List.drop 0 [p])).length/\0+l.toNat=0+l.toNat/\ [(0,y7.1.2.2.1.length),(0,y7.1.2.2.1.length),(0,y7.1.2.1.length),(0,y7.1.2.2.1.length)]= [(0,y7.1.2.2.1.length),(0,y7.1.2.2.1.length),(0,y7.1.2.1.length),(0,y7.1.2.2.1.length)]/\(l,p,y7.1.2.2.2.1,y7.1.2.2.2.2.1,l,n,decide (l>=n),l,p,y7.1.2.2.2.1,y7.1.2.2.2.2.1,y7.1.2.2.2.2.1,y7.1.1,y7.1.2.2.2.2.1==y7.1.1,l,l,0+l.toNat,p,List.take 1 (List.drop 0 [p]),0+l.toNat,y7.1.2.1,y7.1.2.2.1.set (0+l.toNat) (y7.1.2.2.1.getD (0+l.toNat) []++List.take 1 (List.drop 0 [p])),y7.1.1,())=(l,p,y7.1.2.2.2.1,y7.1.2.2.2.2.1,l,n,decide (l>=n),l,p,y7.1.2.2.2.1,y7.1.2.2.2.2.1,y7.1.2.2.2.2.1,y7.1.1,y7.1.2.2.2.2.1==y7.1.1,l,l,0+l.toNat,p,List.take 1 (List.drop 0 [p]),0+l.toNat,y7.1.2.1,y7.1.2.2.1.set (0+l.toNat) (y7.1.2.2.1.getD (0+l.toNat) []++List.take 1 (List.drop 0 [p])),y7.1.1,PUnit.unit)
theorem Aga {m:Nat} (n:Int) (T G:List (List (Option (List Int)))) (l:Int) (p:Option (List Int)) (P:(Int×List (List (Option (List Int)))×List (List (Option (List Int)))×Unit)×Unit->Prop):(Br (decide (l>=n)) ((0=0/\T.length=T.length)/\(0=0/\G.length=G.length)/\P ((n,T,G,()),())) (0=0/\T.length=T.length/\0=0/\G.length=G.length/\ ∃(y7:SE),eZ.fn (n,T,G,l,p.getD [],())=some y7/\Br (y7.1.2.2.2.2.1==y7.1.1) ((0=0/\y7.1.2.1.length=y7.1.2.1.length)/\(0=0/\y7.1.2.2.1.length=y7.1.2.2.1.length)/\P ((y7.1.1,y7.1.2.1,y7.1.2.2.1,()),())) (((0:Int)<=l/\l<(↑y7.1.2.2.1.length:Int))/\0=0/\(y7.1.2.2.1.getD (0+l.toNat) []).length=(y7.1.2.2.1.getD (0+l.toNat) []).length/\(y7.1.2.2.1.getD (0+l.toNat) []).length+(List.take 1 (List.drop 0 [p])).length<=Bh/\((0:Int)<=l/\l<(↑y7.1.2.2.1.length:Int))/\0=0/\(y7.1.2.2.1.getD (0+l.toNat) []++List.take 1 (List.drop 0 [p])).length=(y7.1.2.2.1.getD (0+l.toNat) []++List.take 1 (List.drop 0 [p])).length/\0+l.toNat=0+l.toNat/\(0=0/\0=([]:List Int).length/\0=0/\y7.1.2.1.length=y7.1.2.1.length/\0=0/\y7.1.2.2.1.length=(y7.1.2.2.1.set (0+l.toNat) (y7.1.2.2.1.getD (0+l.toNat) []++List.take 1 (List.drop 0 [p]))).length/\Bm (λ(v8:wD) (k9:wD->Prop)=>Br (decide (v8.1<v8.2.2.2.2.1)) (((0:Int)<=l/\l<(↑v8.2.2.1.length:Int))/\((0:Int)<=v8.1/\v8.1<(↑(v8.2.2.1.getD (0+l.toNat) []).length:Int))/\Br (decide ((↑(((v8.2.2.1.getD (0+l.toNat) []).getD v8.1.toNat (none:Option (List Int))).getD []).length:Int)>(0:Int))) (((0:Int)<=l/\l<(↑v8.2.2.1.length:Int))/\((0:Int)<=v8.1/\v8.1<(↑(v8.2.2.1.getD (0+l.toNat) []).length:Int))/\0=0/\v8.2.1.length=v8.2.1.length/\v8.2.1.length+(List.take 1 (List.drop 0 [(v8.2.2.1.getD (0+l.toNat) []).getD v8.1.toNat none])).length<=Bh/\0=0/\(v8.2.1++List.take 1 (List.drop 0 [(v8.2.2.1.getD (0+l.toNat) []).getD v8.1.toNat none])).length=(v8.2.1++List.take 1 (List.drop 0 [(v8.2.2.1.getD (0+l.toNat) []).getD v8.1.toNat none])).length/\0=0/\v8.2.2.1.length=v8.2.2.1.length/\0=0/\v8.2.2.2.1.length=v8.2.2.2.1.length/\k9 (IntKind.i64.wrap (v8.1+(1:Int)),v8.2.1++List.take 1 (List.drop 0 [(v8.2.2.1.getD (0+l.toNat) []).getD v8.1.toNat none]),v8.2.2.1,v8.2.2.2.1,v8.2.2.2.2.1,())) (0=0/\v8.2.1.length=v8.2.1.length/\0=0/\v8.2.2.1.length=v8.2.2.1.length/\0=0/\v8.2.2.2.1.length=v8.2.2.2.1.length/\k9 (IntKind.i64.wrap (v8.1+(1:Int)),v8.2.1,v8.2.2.1,v8.2.2.2.1,v8.2.2.2.2.1,()))) (0=0/\v8.2.1.length=v8.2.1.length/\0=0/\v8.2.2.1.length=v8.2.2.1.length/\0=0/\v8.2.2.2.1.length=v8.2.2.2.1.length/\Bm (λ(v10:wD) (k11:wD->Prop)=>Br (decide (v10.1<(↑v10.2.1.length:Int))) (((0:Int)<=v10.1/\v10.1<(↑v10.2.1.length:Int))/\ ∃(wZ:Option (List Int)),v10.2.1[0+v10.1.toNat]?=some wZ/\ ∃(x9:Option (List Int)),Fw.fn (wZ.getD [],p.getD [],())=some x9/\0=0/\v10.2.2.1.length=v10.2.2.1.length/\0=0/\v10.2.2.2.1.length=v10.2.2.2.1.length/\ ∃(Xk:(Int×List (List (Option (List Int)))×List (List (Option (List Int)))×PUnit)×PUnit),(an m).fn (v10.2.2.2.2.1,v10.2.2.1,v10.2.2.2.1,l,x9,())=some Xk/\0=0/\v10.2.1.length=v10.2.1.length/\0=0/\Xk.1.2.1.length=Xk.1.2.1.length/\0=0/\Xk.1.2.2.1.length=Xk.1.2.2.1.length/\k11 (IntKind.i64.wrap (v10.1+(1:Int)),v10.2.1,Xk.1.2.1,Xk.1.2.2.1,Xk.1.1,())) ((0=0/\v10.2.2.1.length=v10.2.2.1.length)/\(0=0/\v10.2.2.2.1.length=v10.2.2.2.1.length)/\P ((v10.2.2.2.2.1,v10.2.2.1,v10.2.2.2.1,()),()))) ((0:Int),v8.2.1,v8.2.2.1,v8.2.2.2.1,v8.2.2.2.2.1,PUnit.unit))) ((0:Int),[],y7.1.2.1,y7.1.2.2.1.set (0+l.toNat) (y7.1.2.2.1.getD (0+l.toNat) []++List.take 1 (List.drop 0 [p])),y7.1.1,PUnit.unit))/\(((((0:Int)<=l/\l<(↑y7.1.2.2.1.length:Int))/\((Hb y7 l p n))/\(Hb y7 l p n))/\((0:Int)<=l/\l<(↑y7.1.2.2.1.length:Int))/\(Hb y7 l p n))/\((0:Int)<=l/\l<(↑y7.1.2.2.1.length:Int))/\(Hb y7 l p n))/\(((((0:Int)<=l/\l<(↑y7.1.2.2.1.length:Int))/\((Hb y7 l p n))/\(Hb y7 l p n))/\((0:Int)<=l/\l<(↑y7.1.2.2.1.length:Int))/\(Hb y7 l p n))/\(((0:Int)<=l/\l<(↑y7.1.2.2.1.length:Int))/\(((Hb y7 l p n))/\(Hb y7 l p n))/\(((Hb y7 l p n))/\((Hb y7 l p n))/\(Hb y7 l p n))/\((Hb y7 l p n))/\((Hb y7 l p n))/\(Hb y7 l p n))/\(((0:Int)<=l/\l<(↑y7.1.2.2.1.length:Int))/\(Hb y7 l p n))/\((0:Int)<=l/\l<(↑y7.1.2.2.1.length:Int))/\((Hb y7 l p n))/\((Hb y7 l p n))/\(Hb y7 l p n))/\(((0:Int)<=l/\l<(↑y7.1.2.2.1.length:Int))/\(Hb y7 l p n))/\(((0:Int)<=l/\l<(↑y7.1.2.2.1.length:Int))/\(Hb y7 l p n))/\((0:Int)<=l/\l<(↑y7.1.2.2.1.length:Int))/\((Hb y7 l p n))/\((Hb y7 l p n))/\(Hb y7 l p n))))=fnMW (SP [qG+46]) (look [(144,eZ),(156,Fw),(157,Vv.m (an m))]) (jy (m+1)) Tryz.f146 (n,T,G,l,p,()) P:=by kernel_rfl
abbrev SC:Type:=(Int×List (List (Option (List Int)))×List (List (Option (List Int)))×PUnit)×PUnit
abbrev SF:Type:=Int×List (List (Option (List Int)))×List (List (Option (List Int)))×Int×PUnit
theorem Agb {m:Nat} (n:Int) (T G:List (List (Option (List Int)))) (l:Int) (p:Option (List Int)) (P:(Int×List (List (Option (List Int)))×List (List (Option (List Int)))×Unit)×Unit->Prop):(((0:Int)<=l/\l<(↑T.length:Int))/\ ∃(y7:Int),idx (p.getD []) l=some y7/\((0:Int)<=y7/\y7<(↑(T.getD (0+l.toNat) []).length:Int))/\Br (decide ((↑(((T.getD (0+l.toNat) []).getD y7.toNat (none:Option (List Int))).getD []).length:Int)>(0:Int))) (∃(y8:List Int),Ct.fn (((T.getD (0+l.toNat) []).getD y7.toNat (none:Option (List Int))).getD [],())=some y8/\ ∃(y9:Option (List Int)),Fw.fn (p.getD [],y8,())=some y9/\0=0/\T.length=T.length/\0=0/\G.length=G.length/\ ∃(Xj:SC),(jy m).fn (n,T,G,IntKind.i64.wrap (l+(1:Int)),y9,())=some Xj/\(0=0/\Xj.1.2.1.length=Xj.1.2.1.length)/\(0=0/\Xj.1.2.2.1.length=Xj.1.2.2.1.length)/\P ((Xj.1.1,Xj.1.2.1,Xj.1.2.2.1,()),())) (((0:Int)<=l/\l<(↑T.length:Int))/\ ∃(y8:Int),idx (p.getD []) l=some y8/\((0:Int)<=y8/\y8<(↑(T.getD (0+l.toNat) []).length:Int))/\0=0/\T.length=(T.set (0+l.toNat) ((T.getD (0+l.toNat) []).set y8.toNat p)).length/\0=0/\G.length=G.length/\Bm (λ(v9:SF) (k10:SF->Prop)=>((0:Int)<=l/\l<(↑v9.2.2.1.length:Int))/\Br (decide (v9.1<(↑(v9.2.2.1.getD (0+l.toNat) []).length:Int))) (((0:Int)<=l/\l<(↑v9.2.2.1.length:Int))/\((0:Int)<=v9.1/\v9.1<(↑(v9.2.2.1.getD (0+l.toNat) []).length:Int))/\ ∃(sB:Option (List Int)),Fw.fn (p.getD [],((v9.2.2.1.getD (0+l.toNat) []).getD v9.1.toNat (none:Option (List Int))).getD [],())=some sB/\0=0/\v9.2.1.length=v9.2.1.length/\0=0/\v9.2.2.1.length=v9.2.2.1.length/\ ∃(wZ:SC),(an m).fn (v9.2.2.2.1,v9.2.1,v9.2.2.1,l,sB,())=some wZ/\0=0/\wZ.1.2.1.length=wZ.1.2.1.length/\0=0/\wZ.1.2.2.1.length=wZ.1.2.2.1.length/\k10 (IntKind.i64.wrap (v9.1+(1:Int)),wZ.1.2.1,wZ.1.2.2.1,wZ.1.1,())) ((0=0/\v9.2.1.length=v9.2.1.length)/\(0=0/\v9.2.2.1.length=v9.2.2.1.length)/\P ((v9.2.2.2.1,v9.2.1,v9.2.2.1,()),()))) ((0:Int),T.set (0+l.toNat) ((T.getD (0+l.toNat) []).set y8.toNat p),G,n,PUnit.unit)))=fnMW Ri (look [(76,Ct),(156,Fw),(146,Vv.m (jy m)),(157,Vv.m (an m))]) (an (m+1)) Tryz.f157 (n,T,G,l,p,()) P:=by kernel_rfl
theorem IK {p q:List Int} {j:Nat} (h:j<p.length):(Aa p q).take (j+1)=(Aa p q).take j++ [It q p[j]]:=by
 unfold Aa
 rw [List.take_succ_eq_append_getElem (by rw [List.length_map];exact h),List.getElem_map]
theorem rG (p q:List Int) (h:List.length p<=20/\Ie (List.length q) p):fnW Cf (look []) My Tryz.f156 (p,q,()) (λ(z:List Int)=>z=Aa p q):=by
 obtain ⟨h1,h2⟩:=h
 refine Eq.mp (sw p q _) ⟨rfl,rfl,?_⟩
 refine Aj p.length (λv=>v.1) (λj v=>v=((j:Int),(Aa p q).take j,())) rfl rfl ?_
 rintro j v K hj hi rfl hK
 dsimp only
 have hlen:((Aa p q).take j).length<=20:=by rw [List.length_take];unfold Aa;rw [List.length_map];omega
 refine Br.dec (λhl=>?_) λhl=>?_
 ·have hl:j<p.length:=by omega
  have hr:=h2 p[j] (List.getElem_mem hl)
  refine ⟨_,An hl,It q p[j],dt hr.1 hr.2,rfl,rfl,?_,rfl,rfl,?_⟩
  ·show ((Aa p q).take j).length+1<=4294967296
   omega
  ·rw [Ah (by omega)]
   refine hK hl _ rfl ?_
   rw [IK hl]
   rfl
 ·have:j=p.length:=by omega
  subst this
  rw [Bl,<-Ke p q,List.take_length]
theorem Yl:Sound Tryz.prog 156 My:=
 Sound.Cp Bg Ai mixed Tryz.func156 (by kernel_rfl) (by kernel_rfl) λx h=>rG x.1 x.2.1 h
theorem Xe:Sound Tryz.prog 156 Ij:=Sound.loose Yl
theorem Xf:Sound Tryz.prog 156 Fw:=Sound.toO Yl λx h=>⟨⟨h.1.2,h.2⟩,λe=>by
 have:=Ke x.1 x.2.1
 rw [e] at this
 have:=h.1.1
 simp only [List.length_nil] at*
 omega⟩
theorem u6 {N L i:Nat} {G T:As} {p:List Int} (n2:N<=20) (v3:Zj N (N-L) L (G,T)) (v2:T.length=N) (h1:L<=i) (hl:i<N) (h4:Pm N p) (h5:Fx i p):
  ∃o,idx p (i:Int)=some (ap p i:Int)/\T[i]?=some (T.getD i [])/\ap p i<(T.getD i []).length/\(T.getD i [])[ap p i]?=some o/\(T.getD i []).getD (ap p i) none=o/\
   (o=none->(o.getD []).length=0/\ ∀k,Jh T (k+1) i p=(p,(i:Int),()))/\
   (∀t,o=some t->(t.length≠0/\t.length<=20/\Ie t.length t)/\(p.length<=20/\Ie (Ag t).length p)/\Pm N (Aa p (Ag t))/\Fx (i+1) (Aa p (Ag t))/\ ∀k,Jh T (k+1) i p=Jh T k (i+1) (Aa p (Ag t))):=by
 have Gl:=cV (N-L) L v3 i h1 (by omega)
 have hT:i<T.length:=by omega
 have hlen:(T.getD i []).length=N:=Gl.rl
 obtain ⟨a1,a2⟩:=h4.Ur hl
 have hg:(It p (i:Int)).toNat=ap p i:=rfl
 refine ⟨(T.getD i []).getD (ap p i) none,?_,?_,by omega,?_,rfl,λho=>?_,λt ho=>?_⟩
 ·rw [<-a1,Ib (by rw [h4.1];exact hl)];exact An (by rw [h4.1];exact hl)
 ·rw [List.getD_eq_getElem?_getD,List.getElem?_eq_getElem hT];rfl
 ·rw [List.getD_eq_getElem?_getD (l:=T.getD i []),List.getElem?_eq_getElem (by omega)];rfl
 ·refine ⟨by rw [ho];rfl,λk=>?_⟩
  simp only [Jh,hg,ho]
 ·obtain ⟨t1,t2,t3,t4⟩:=Gl.rt _ _ ho
  have hn1:=h4.n1
  refine ⟨⟨by rw [t1.1];omega,by rw [t1.1];exact n2,t1.2.row⟩,⟨by rw [h4.1];exact n2,by rw [j9,t1.1];exact h4.row⟩,h4.comp t1.inv,Fx.div h4 t1 h5 t2 hl t3,λk=>?_⟩
  simp only [Jh,hg,ho]
theorem Abq (c:Int×List (List (Option (List Int)))×List (List (Option (List Int)))×Unit) (l:Int) (p:List Int) (h: ∃N L,Qf N L c.1 c.2.2.1 c.2.1 l p):
  fnW Ri (look [(76,Ct),(156,Ij)]) ld Tryz.f144 (c,l,p,()) (λ(z:List Int×Int×Unit)=>z=Jh c.2.1 (c.1-l).toNat l.toNat p):=by
 obtain ⟨n,T,G,⟨⟩⟩:=c
 obtain ⟨N,L,h⟩:=h
 obtain ⟨n1,n2,en,el,hle,v,pm,fx⟩:=h
 dsimp only at en el v⊢
 subst en el
 refine Eq.mp (Aci ((N:Int),T,G,()) (L:Int) p _) ?_
 obtain ⟨v1,v2,v3,v4⟩:=v
 dsimp only at v1 v2
 refine ⟨λv=> ∃i:Nat,L<=i/\i<=N/\v.2.1=i/\Pm N v.1/\Fx i v.1/\Jh T (N-i) i v.1=Jh T (N-L) L p,λv=>N-v.2.1.toNat,⟨L,Nat.le_refl _,hle,rfl,pm,fx,rfl⟩,?_⟩
 rintro ⟨p',i',⟨⟩⟩ ⟨i,h1,h2,h3,h4,h5,h6⟩
 dsimp only at h3 h4 h5 h6⊢
 subst h3
 rw [show (((N:Int)-(L:Int)).toNat)=N-L by omega,show ((L:Int)).toNat=L by omega,<-h6]
 refine Br.dec (λhl=>?_) λhl=>?_
 ·have hl:i<N:=by omega
  obtain ⟨o,s1,s2,s3,s4,s5,s6,s7⟩:=u6 n2 v3 v2 h1 hl h4 h5
  have hT:i<T.length:=by omega
  refine ⟨T.getD i [],by rw [An hT,<-s2,List.getElem?_eq_getElem hT],_,s1,o,by rw [An s3,<-s4,List.getElem?_eq_getElem s3],?_⟩
  rw [show N-i=(N-i-1)+1 by omega]
  cases o with
  |none=>
   rw [(s6 rfl).2]
   exact Br.of (λ_=>rfl) λhb=>by simp at hb
  |some t=>
   obtain ⟨⟨q1,q2⟩,q3,q4,q5,q6⟩:=s7 t rfl
   refine Br.of (λhb=>absurd (by simpa using hb) q1) λ_=>?_
   refine ⟨_,if_pos q2,_,if_pos q3,⟨i+1,by omega,by omega,Ah (by omega),q4,q5,?_⟩,?_⟩
   ·rw [q6,show N-(i+1)=N-i-1 by omega];rfl
   ·show N-(IntKind.i64.wrap ((i:Int)+1)).toNat<N-((i:Int)).toNat
    rw [Ah (by omega)]
    omega
 ·have:i=N:=by omega
  subst this
  rw [Nat.sub_self]
  rfl
theorem EW:Sound Tryz.prog 144 ld:=
 Sound.Cp il (Ae Tc (Ae Xe Ai)) mixed Tryz.func144 (by kernel_rfl) (by kernel_rfl) λx h=>Abq x.1 x.2.1 x.2.2.1 h
theorem VY (n:Int) (T G:List (List (Option (List Int)))) (l:Int) (p:List Int) (h: ∃N L,Qf N L n G T l p):
  fnMW Ri (look [(76,Ct),(156,Ij)]) eZ Tryz.f144 (n,T,G,l,p,()) (λ(z:(Int×List (List (Option (List Int)))×List (List (Option (List Int)))×List Int×Int×Unit)×Unit)=>z=((n,T,G,(Jh T (n-l).toNat l.toNat p).1,(Jh T (n-l).toNat l.toNat p).2.1,()),())):=by
 obtain ⟨N,L,h⟩:=h
 obtain ⟨n1,n2,en,el,hle,v,pm,fx⟩:=h
 subst en el
 refine Eq.mp (WZ (N:Int) T G (L:Int) p _) ⟨rfl,rfl,rfl,rfl,?_⟩
 obtain ⟨v1,v2,v3,v4⟩:=v
 dsimp only at v1 v2
 refine ⟨λv=> ∃i:Nat,L<=i/\i<=N/\v.2=((i:Int),T,G,(N:Int),())/\Pm N v.1/\Fx i v.1/\Jh T (N-i) i v.1=Jh T (N-L) L p,λv=>N-v.2.1.toNat,⟨L,Nat.le_refl _,hle,rfl,pm,fx,rfl⟩,?_⟩
 rintro ⟨p',v'⟩ ⟨i,h1,h2,h3,h4,h5,h6⟩
 dsimp only at h3 h4 h5 h6⊢
 subst h3
 dsimp only
 rw [show (((N:Int)-(L:Int)).toNat)=N-L by omega,show ((L:Int)).toNat=L by omega,<-h6]
 refine Br.dec (λhl=>?_) λhl=>?_
 ·have hl:i<N:=by omega
  obtain ⟨o,s1,s2,s3,s4,s5,s6,s7⟩:=u6 n2 v3 v2 h1 hl h4 h5
  simp only [Int.toNat_natCast,Nat.zero_add,true_and,and_true]
  refine ⟨⟨by omega,by omega⟩,_,s1,⟨by omega,by omega⟩,?_⟩
  rw [Int.toNat_natCast,s5,show N-i=(N-i-1)+1 by omega]
  cases o with
  |none=>
   rw [(s6 rfl).2]
   exact Br.of (λ_=>rfl) λhb=>by simp at hb
  |some t=>
   obtain ⟨⟨q1,q2⟩,q3,q4,q5,q6⟩:=s7 t rfl
   refine Br.of (λhb=>absurd (by simpa using hb) q1) λ_=>?_
   refine ⟨_,if_pos q2,_,if_pos q3,⟨i+1,by omega,by omega,?_,q4,q5,?_⟩,?_⟩
   ·rw [Ah (by omega)]
   ·rw [q6,show N-(i+1)=N-i-1 by omega];rfl
   ·show N-(IntKind.i64.wrap ((i:Int)+1)).toNat<N-i-1+1
    rw [Ah (by omega)]
    omega
 ·have:i=N:=by omega
  subst this
  rw [Nat.sub_self]
  exact ⟨⟨rfl,rfl⟩,⟨rfl,rfl⟩,rfl⟩
theorem zz:Bj Tryz.prog 144 eZ:=
 Bj.ix il (Ae Tc (Ae Xe Ai)) mixed Tryz.func144 (by kernel_rfl) (by kernel_rfl) λx h=>VY x.1 x.2.1 x.2.2.1 x.2.2.2.1 x.2.2.2.2.1 h
theorem Afm {m:Nat} (n:Int) (T G:List (List (Option (List Int)))) (l:Int) (p:Option (List Int)) (h:(∃N L q,p=some q/\XA N L n G T l q)/\iy n.toNat l.toNat (G,T)<m+1):
  fnMW Ri (look [(76,Ct),(156,Fw),(146,Vv.m (jy m)),(157,Vv.m (an m))]) (an (m+1)) Tryz.f157 (n,T,G,l,p,()) (λ(z:(Int×List (List (Option (List Int)))×List (List (Option (List Int)))×Unit)×Unit)=>z=((n,(bQ n.toNat 1000 l.toNat (p.getD []) (G,T)).2,(bQ n.toNat 1000 l.toNat (p.getD []) (G,T)).1,()),())):=by
 obtain ⟨⟨N,L,q,rfl,h⟩,hm⟩:=h
 obtain ⟨n1,n2,en,el,Gc,part,pm,fx,gn,gl⟩:=h
 subst en el
 refine Eq.mp (Agb (N:Int) T G (L:Int) (some q) _) ?_
 have l1:G.length=N:=part.l1
 have l2:T.length=N:=part.l2
 have row:=part.row
 dsimp only at row
 have OZ:=row.rl
 have hy:=pm.lt Gc
 simp only [Int.toNat_natCast,Nat.zero_add,Option.getD_some,true_and,and_true,List.length_set] at hm⊢
 refine ⟨⟨by omega,by omega⟩,_,uY pm Gc,⟨by omega,by omega⟩,?_⟩
 simp only [Int.toNat_natCast]
 rcases Option.eq_none_or_eq_some ((T.getD L []).getD (ap q L) none) with Gl|⟨t,Gl⟩
 case inr=>
  obtain ⟨t1,t2,t3,t4⟩:=row.rt _ _ Gl
  have htl:=t1.1
  refine Br.dec (λ_=>?_) λhb=>?_
  ·rw [Gl,Option.getD_some]
   have hw:IntKind.i64.wrap ((L:Int)+1)=((L+1:Nat):Int):=Ah (by omega)
   rw [hw]
   have TV:=QN (s:=(G,T)) Gc
   refine ⟨_,if_pos ⟨by show t.length<=20;omega,t1.2.row⟩,some (Aa q (Ag t)),if_pos ⟨Rp pm,kZ pm t1.inv⟩,_,
    if_pos ⟨⟨N,L+1,_,rfl,n1,n2,rfl,rfl,by omega,part.v,pm.comp t1.inv,Fx.div pm t1 fx t2 Gc t3⟩,by show HN (N:Int).toNat ((L+1:Nat):Int).toNat<m;rw [Int.toNat_natCast,Int.toNat_natCast];omega⟩,?_⟩
   simp only [Int.toNat_natCast,Option.getD_some]
   rw [NM n1 n2 Gc part pm fx Gl]
  ·rw [Gl,Option.getD_some] at hb
   omega
 case inl=>
  refine Br.dec (λhb=>by rw [Gl] at hb;simp at hb) λ_=>?_
  obtain ⟨a1,a2⟩:=xe Gc part pm fx gn Gl
  have oO:=NL n1 n2 Gc part pm fx gn Gl
  have TV:=VM (n:=N) (q:=q) (s:=(G,T)) (k:=L) (y:=ap q L) (by show L<T.length;omega) (by show ap q L<(T.getD L []).length;omega) Gl
  have run:= λj=>sQ n1 n2 Gc a1 a2 j
  dsimp only at a1 a2 oO TV run
  refine ⟨⟨by omega,by omega⟩,_,uY pm Gc,⟨by omega,by omega⟩,?_⟩
  simp only [Int.toNat_natCast]
  rw [oO]
  generalize hs0:((G,T.set L ((T.getD L []).set (ap q L) (some q))):As×As)=s0 at TV run⊢
  have Aas:T.set L ((T.getD L []).set (ap q L) (some q))=s0.2:=by rw [<-hs0]
  have PB:G=s0.1:=by rw [<-hs0]
  have hql:((G.getD L []).map λo=>Aa q (o.getD [])).length=(G.getD L []).length:=List.length_map _
  refine Aj (G.getD L []).length (λv=>v.1) (λj v=> ∃s:As×As,v=((j:Int),s.2,s.1,(N:Int),())/\s=dg N L (((G.getD L []).map λo=>Aa q (o.getD [])).take j) s0) rfl ⟨s0,by rw [<-PB,Aas];rfl,rfl⟩ ?_
  rintro j v K hj hi ⟨s,rfl,hs⟩ hK
  have hr:=run j
  rw [<-hs] at hr
  have g1:s.1.getD L []=G.getD L []:=by rw [hr.same,PB]
  have g2:s.1.length=N:=hr.part.l1
  have g4:iy N L (s.1,s.2)<=iy N L s0:=hr.mu
  dsimp only
  simp only [g1]
  refine ⟨⟨by omega,by omega⟩,Br.dec (λhl=>?_) λhl=>?_⟩
  ·have hl:j<(G.getD L []).length:=by omega
   obtain ⟨g,jV,Ny,XV⟩:=part.pg _ (List.getElem_mem hl)
   have hgj:(G.getD L []).getD j none=some g:=by rw [xV hl];exact jV
   have hqj:(((G.getD L []).map λo=>Aa q (o.getD []))[j]'(by rw [hql];exact hl))=Aa q g:=by rw [List.getElem_map,jV];rfl
   obtain ⟨b1,b2,b3⟩:=a2 (Aa q g) (by rw [<-hqj];exact List.getElem_mem _)
   simp only [Int.toNat_natCast,hgj,Option.getD_some]
   refine ⟨⟨by omega,by omega⟩,⟨by omega,by omega⟩,some (Aa q g),if_pos ⟨Rp pm,kZ pm Ny⟩,_,
    if_pos ⟨⟨N,L,_,rfl,n1,n2,rfl,rfl,Gc,hr.part,b1,b2,by rw [g1];exact b3,by rw [g1];exact gl⟩,by show iy (N:Int).toNat (L:Int).toNat (s.1,s.2)<m;rw [Int.toNat_natCast,Int.toNat_natCast];omega⟩,?_⟩
   simp only [Int.toNat_natCast,Option.getD_some]
   rw [Ah (by omega)]
   refine hK hl _ rfl ⟨_,rfl,?_⟩
   rw [oo (by rw [hql];exact hl),<-hs,hqj]
  ·have:j=(G.getD L []).length:=by omega
   subst this
   rw [<-hql,List.take_length] at hs
   rw [hs]
theorem RX {m:Nat} (Ab3:Bj Tryz.prog 146 (jy m)) (CE:Bj Tryz.prog 157 (an m)):Bj Tryz.prog 157 (an (m+1)):=
 Bj.ix il (Ae Tc (Ae Xf (Ft Ab3 (Ft CE Ai)))) mixed Tryz.func157 (by kernel_rfl) (by kernel_rfl) λx h=>Afm x.1 x.2.1 x.2.2.1 x.2.2.2.1 x.2.2.2.2.1 h
theorem Afl {m:Nat} (n:Int) (T G:List (List (Option (List Int)))) (l:Int) (p:Option (List Int)) (h:(∃N L q,p=some q/\Qf N L n G T l q)/\HN n.toNat l.toNat<m+1):
  fnMW (SP [qG+46]) (look [(144,eZ),(156,Fw),(157,Vv.m (an m))]) (jy (m+1)) Tryz.f146 (n,T,G,l,p,()) (λ(z:(Int×List (List (Option (List Int)))×List (List (Option (List Int)))×Unit)×Unit)=>z=((n,(fh n.toNat 1000 l.toNat (p.getD []) (G,T)).2,(fh n.toNat 1000 l.toNat (p.getD []) (G,T)).1,()),())):=by
 obtain ⟨⟨N,L,q,rfl,h⟩,hm⟩:=h
 have h':=h
 obtain ⟨n1,n2,en,el,hle,v,pm,fx⟩:=h
 subst en el
 have hk:((N:Int)-(L:Int)).toNat=N-L:=by omega
 have back: ∀s:As×As,fh N 1000 L q (G,T)=s->((((N:Int),s.2,s.1,()),()):(Int×As×As×Unit)×Unit)=((((N:Int),(fh N 1000 L q (G,T)).2,(fh N 1000 L q (G,T)).1,()),()):(Int×As×As×Unit)×Unit):= λs e=>by rw [e]
 refine Eq.mp (Aga (N:Int) T G (L:Int) (some q) _) ?_
 simp only [Int.toNat_natCast,Nat.zero_add,Option.getD_some,true_and,and_true] at hm⊢
 refine Br.dec (λjV=>?_) λGc=>?_
 ·exact back (G,T) (GA (by rw [show N-L=0 by omega];rfl))
 have Gc:L<N:=by omega
 have hv:=v
 obtain ⟨v1,v2,v3,v4⟩:=v
 dsimp only at v1 v2
 have hsl:(Jh T (N-L) L q).2.1=(N:Int)↔Du T (N-L) L q=true:=by
  have:=pQ (T:=T) (N-L) L q
  rw [show L+(N-L)=N by omega] at this
  exact this
 refine ⟨_,if_pos ⟨N,L,h'⟩,?_⟩
 simp only [Hb]
 simp only [hk,Int.toNat_natCast]
 refine Br.of (λhh=>?_) λhh=>?_
 ·exact back (G,T) (GA (hsl.1 (eq_of_beq hh)))
 have YD: ¬Du T (N-L) L q=true:= λhc=>by rw [hsl.2 hc] at hh;simp at hh
 have yl:=NK n1 n2 (s:=(G,T)) Gc hv pm fx YD
 obtain ⟨a1,a2⟩:=xd n1 n2 (s:=(G,T)) Gc hv pm fx
 have hgl:(G.getD L []).length<=400:=by
  obtain ⟨k,hk1⟩: ∃k,N-L=k+1:=⟨N-L-1,by omega⟩
  rw [hk1] at hv
  exact GQ n2 (by omega) hv
 have e1:(0:Int)<=(L:Int)/\(L:Int)<(G.length:Int):=by omega
 have e2:(G.getD L []).length+1<=Bh:=by show _<=4294967296;omega
 have row:=a1.row
 dsimp only at row a1 a2 yl
 have OZ:=row.rl
 have run:= λj=>sQ n1 n2 Gc a1 a2 j
 have TV:=CZ a1
 simp only [List.drop_zero,List.take_succ_cons,List.take_zero,List.length_cons,List.length_nil,List.length_set,Nat.zero_add,e1,e2,and_self,true_and,and_true]
 have ZU:(G.set L (G.getD L []++ [some q])).getD L []=G.getD L []++ [some q]:=Yw G L (by omega) _
 generalize hs0:((G.set L (G.getD L []++ [some q]),T):As×As)=s0 at TV run yl⊢
 have PB:G.set L (G.getD L []++ [some q])=s0.1:=by rw [<-hs0]
 have Aas:T=s0.2:=by rw [<-hs0]
 refine Aj N (λv=>v.1) (λy v=>v=((y:Int),(known ((T.getD L []).take y)).map some,T,G.set L (G.getD L []++ [some q]),(N:Int),())) rfl rfl ?_
 rintro y v K hj hi rfl hK
 dsimp only
 refine Br.dec (λhl=>?_) λhl=>?_
 ·have hl:y<N:=by omega
  have hy:y<(T.getD L []).length:=by omega
  have TR:=CQ hy
  have Mp:=tv ((T.getD L []).take y)
  rw [List.length_take] at Mp
  have hye:(T.getD L []).getD y none=(T.getD L [])[y]:=xV hy
  simp only [Int.toNat_natCast]
  refine ⟨by omega,⟨by omega,by omega⟩,?_⟩
  rcases Option.eq_none_or_eq_some ((T.getD L []).getD y none) with ho|⟨t,ho⟩
  ·refine Br.dec (λhb=>by rw [ho] at hb;simp at hb) λ_=>?_
   rw [Ah (by omega)]
   refine hK hl _ rfl ?_
   rw [TR,<-hye,ho]
   simp
  ·obtain ⟨t1,t2,t3,t4⟩:=row.rt _ _ ho
   have htl:=t1.1
   refine Br.dec (λ_=>?_) λhb=>by rw [ho,Option.getD_some] at hb;omega
   refine ⟨by omega,⟨by omega,by omega⟩,?_,?_⟩
   ·show _<=4294967296
    rw [List.length_map];omega
   ·rw [Ah (by omega)]
    refine hK hl _ rfl ?_
    rw [TR,<-hye,ho]
    simp
 ·have:y=N:=by omega
  subst this
  have OU:(T.getD L []).take y=T.getD L []:=List.take_of_length_le (by omega)
  rw [OU]
  have hql:((known (T.getD L [])).map λu=>Aa u q).length=(known (T.getD L [])).length:=List.length_map _
  have Mp:=tv (T.getD L [])
  refine Aj (known (T.getD L [])).length (λv=>v.1) (λj v=> ∃s:As×As,v=((j:Int),(known (T.getD L [])).map some,s.2,s.1,(y:Int),())/\s=dg y L (((known (T.getD L [])).map λu=>Aa u q).take j) s0) rfl ⟨s0,by rw [<-Aas,PB];rfl,rfl⟩ ?_
  rintro j v K' uR lX ⟨s,rfl,hs⟩ UM
  have hr:=run j
  rw [<-hs] at hr
  have g1:s.1.getD L []=G.getD L []++ [some q]:=by rw [hr.same,<-PB];exact ZU
  have g4:iy y L (s.1,s.2)<=iy y L s0:=hr.mu
  dsimp only
  refine Br.dec (λGd=>?_) λGd=>?_
  ·rw [List.length_map] at Gd
   have Gd:j<(known (T.getD L [])).length:=by omega
   obtain ⟨w,hw⟩:=eP.1 (List.getElem_mem Gd)
   obtain ⟨t1,t2,t3,t4⟩:=row.rt _ _ hw
   have hqj:(((known (T.getD L [])).map λu=>Aa u q)[j]'(by rw [hql];exact Gd))=Aa (known (T.getD L []))[j] q:=by rw [List.getElem_map]
   obtain ⟨b1,b2,b3⟩:=a2 (Aa (known (T.getD L []))[j] q) (by rw [<-hqj];exact List.getElem_mem _)
   simp only [Int.toNat_natCast]
   refine ⟨⟨by omega,by rw [List.length_map];omega⟩,some (known (T.getD L []))[j],by rw [List.getElem?_map,List.getElem?_eq_getElem Gd];rfl,some (Aa (known (T.getD L []))[j] q),if_pos ⟨Rp t1,kZ t1 pm⟩,_,
    if_pos ⟨⟨y,L,_,rfl,n1,n2,rfl,rfl,Gc,hr.part,b1,b2,by rw [g1,<-ZU];exact b3,by rw [g1,List.length_append,List.length_singleton];omega⟩,by show iy (y:Int).toNat (L:Int).toNat (s.1,s.2)<m;rw [Int.toNat_natCast,Int.toNat_natCast];omega⟩,?_⟩
   simp only [Int.toNat_natCast,Option.getD_some]
   rw [Ah (by omega)]
   refine UM Gd _ rfl ⟨_,rfl,?_⟩
   rw [oo (by rw [hql];exact Gd),<-hs,hqj]
  ·rw [List.length_map] at Gd
   have:j=(known (T.getD L [])).length:=by omega
   subst this
   rw [<-hql,List.take_length] at hs
   exact back s (yl.trans hs.symm)
theorem RW {m:Nat} (CE:Bj Tryz.prog 157 (an m)):Bj Tryz.prog 146 (jy (m+1)):=
 Bj.ix (WN [qG+46]) (Ft zz (Ae Xf (Ft CE Ai))) mixed Tryz.func146 (by kernel_rfl) (by kernel_rfl) λx h=>Afl x.1 x.2.1 x.2.2.1 x.2.2.2.1 x.2.2.2.2.1 h
theorem LG:Bj Tryz.prog 146 (jy 0)/\Bj Tryz.prog 157 (an 0):=
 ⟨Bj.ix Bg Ai mixed Tryz.func146 (by kernel_rfl) (by kernel_rfl) λ_ h=>absurd h.2 (Nat.not_lt_zero _),
  Bj.ix Bg Ai mixed Tryz.func157 (by kernel_rfl) (by kernel_rfl) λ_ h=>absurd h.2 (Nat.not_lt_zero _)⟩
theorem fa: ∀m,Bj Tryz.prog 146 (jy m)/\Bj Tryz.prog 157 (an m)
 |0=>LG
 |m+1=>⟨RW (fa m).2,RX (fa m).1 (fa m).2⟩
theorem EL:Bj Tryz.prog 146 w8:=Bj.YS (λx=>HN x.1.toNat x.2.2.2.1.toNat) λm=>(fa m).1
end Go.Proofs.YtfolipnappekaaaGreat

namespace Go.Proofs.YtfolipnappekaaaGreat
open Go.RowKit
noncomputable abbrev Yh:Spec:=Cp (.pair tL .unit) tO false true (λx=>short x.1/\1<=List.length x.1) (λx=>some x.1)
noncomputable abbrev vg:MSpec:= {Fz:= [none],ins:= [(false, .Er tI)],Dv:=false,Es:= [none,none,none],outs:= [.Er tI, .Ak tO qN false, .Ak tO qN false],fn:= λ_=>none,rp:=some 153}
noncomputable abbrev Mz:MSpec:=ix vg (λx=>1<=x.1/\x.1<=20) (λx=>((x.1,Ss x.1.toNat,Nu x.1.toNat,()),()))
noncomputable abbrev r8:MSpec:= {Fz:= [none,none],ins:= [(false, .Er tI),(false, .Er WI)],Dv:=false,Es:= [none,none,none],outs:= [.Er tI, .Ak tO qN false, .Ak tO qN false],fn:= λ_=>none,rp:=some 153}
noncomputable abbrev Ze:MSpec:=ix r8 (λx=>(1<=x.1/\x.1<=20)/\List.length x.2.1<=4294967296/\ ∀o∈(x.2.1:List PO),∃g,o=some g/\Pm x.1.toNat g)
 (λx=>((x.1,(Kn x.1.toNat x.2.1).2,(Kn x.1.toNat x.2.1).1,()),()))
noncomputable abbrev r9:MSpec:= {Fz:= [none,none],ins:= [(false, .Er tI),(false, .Er cF)],Dv:=false,Es:= [none,none,none],outs:= [.Er tI, .Ak tO qN false, .Ak tO qN false],fn:= λ_=>none,rp:=some 153}
noncomputable abbrev Mx:MSpec:=ix r9 (λx=>(1<=x.1/\x.1<=20)/\List.length x.2.1<=4294967296/\ ∀g∈(x.2.1:List (List Int)),Pm x.1.toNat g)
 (λx=>((x.1,(ke x.1 x.2.1).2,(ke x.1 x.2.1).1,()),()))
noncomputable abbrev Sh:Spec:=Cp (.pair (.ptr fc) (.pair tL .unit)) .bool false true (λx=> ∃N,Qf N 0 x.1.1 x.1.2.2.1 x.1.2.1 0 x.2.1) (λx=>Du x.1.2.1 x.1.1.toNat 0 x.2.1)
noncomputable def dA (n:Int) (g:List (List Int)) (p:List Int):Bool:=(Mh n g&&Cy n p)&&Du (ke n g).2 n.toNat 0 p
noncomputable abbrev Sj:Spec:=Cp (.pair tI (.pair cF (.pair tL .unit))) .bool false true (λx=>Fm x.2.1/\short x.2.2.1) (λx=>dA x.1 x.2.1 x.2.2.1)
abbrev gg:Type:=Int×Int×List (List (Option (List Int)))×List (List (Option (List Int)))×PUnit
theorem wO (n:Int) (P:(Int×List (List (Option (List Int)))×List (List (Option (List Int)))×Unit)×Unit->Prop):(0=0/\0=([]:List Int).length/\0=0/\0=([]:List Int).length/\Bm (λ(v2:gg) (k3:gg->Prop)=>Br (decide (v2.1<n)) (((0:Int)<=n/\n<(↑Bh:Int)+(1:Int))/\n=n/\ ∃(y4:Option (List Int)),Km.fn (n,())=some y4/\((0:Int)<=v2.1/\v2.1<(↑(List.replicate n.toNat (none:Option (List Int))).length:Int))/\0+v2.1.toNat<(List.replicate n.toNat (none:Option (List Int))).length/\0=0/\(List.replicate n.toNat (none:Option (List Int))).length=((List.replicate n.toNat (none:Option (List Int))).set (0+v2.1.toNat) y4).length/\(0=0/\v2.2.2.1.length=v2.2.2.1.length)/\(0=0/\1= [(List.replicate n.toNat (none:Option (List Int))).set (0+v2.1.toNat) y4].length)/\0< [(List.replicate n.toNat (none:Option (List Int))).set (0+v2.1.toNat) y4].length/\v2.2.2.1.length+ [(List.replicate n.toNat (none:Option (List Int))).set (0+v2.1.toNat) y4].length<=Bh/\0=0/\0=([]:List Int).length/\(0=0/\v2.2.2.2.1.length=v2.2.2.2.1.length)/\(0=0/\1=([[]]:List (List (Option (List Int)))).length)/\0<([[]]:List (List (Option (List Int)))).length/\v2.2.2.2.1.length+([[]]:List (List (Option (List Int)))).length<=Bh/\0=0/\(v2.2.2.1++ [(List.replicate n.toNat (none:Option (List Int))).set (0+v2.1.toNat) y4]).length=(v2.2.2.1++ [(List.replicate n.toNat (none:Option (List Int))).set (0+v2.1.toNat) y4]).length/\0=0/\(v2.2.2.2.1++ [[]]).length=(v2.2.2.2.1++ [[]]).length/\k3 (IntKind.i64.wrap (v2.1+(1:Int)),v2.2.1,v2.2.2.1++ [(List.replicate n.toNat (none:Option (List Int))).set (0+v2.1.toNat) y4],v2.2.2.2.1++ [[]],())) ((0=0/\v2.2.2.1.length=v2.2.2.1.length)/\(0=0/\v2.2.2.2.1.length=v2.2.2.2.1.length)/\P ((v2.2.1,v2.2.2.1,v2.2.2.2.1,()),()))) ((0:Int),n,[],[],PUnit.unit))=fnMW Ri (look [(115,Km)]) Mz Tryz.f145 (n,()) P:=by kernel_rfl
abbrev ee:Type:=(Int×List (List (Option (List Int)))×List (List (Option (List Int)))×PUnit)×PUnit
abbrev ef:Type:=Int×List (List (Option (List Int)))×List (List (Option (List Int)))×Int×PUnit
theorem sn (n:Int) (gens:List (Option (List Int))) (P:(Int×List (List (Option (List Int)))×List (List (Option (List Int)))×Unit)×Unit->Prop):(∃(y3:ee),Mz.fn (n,())=some y3/\0=0/\y3.1.2.1.length=y3.1.2.1.length/\0=0/\y3.1.2.2.1.length=y3.1.2.2.1.length/\Bm (λ(v4:ef) (k5:ef->Prop)=>Br (decide (v4.1<(↑gens.length:Int))) (∃(y6:Option (List Int)),idx gens v4.1=some y6/\ ∃(y7:Option (List Int)),Yh.fn (y6.getD [],())=some y7/\0=0/\v4.2.1.length=v4.2.1.length/\0=0/\v4.2.2.1.length=v4.2.2.1.length/\ ∃(y8:ee),w8.fn (v4.2.2.2.1,v4.2.1,v4.2.2.1,(0:Int),y7,())=some y8/\0=0/\y8.1.2.1.length=y8.1.2.1.length/\0=0/\y8.1.2.2.1.length=y8.1.2.2.1.length/\k5 (IntKind.i64.wrap (v4.1+(1:Int)),y8.1.2.1,y8.1.2.2.1,y8.1.1,())) ((0=0/\v4.2.1.length=v4.2.1.length)/\(0=0/\v4.2.2.1.length=v4.2.2.1.length)/\P ((v4.2.2.2.1,v4.2.1,v4.2.2.1,()),()))) ((0:Int),y3.1.2.1,y3.1.2.2.1,y3.1.1,PUnit.unit))=fnMW Ri (look [(145,Mz),(116,Yh),(146,w8)]) Ze Tryz.f129 (n,gens,()) P:=by kernel_rfl
theorem FH (c:Int×List (List (Option (List Int)))×List (List (Option (List Int)))×Unit) (p:List Int) (P:Bool->Prop):(∃(y3:List Int×Int×PUnit),ld.fn (c,(0:Int),p,())=some y3/\P (y3.2.1==c.1))=fnW Ri (look [(144,ld)]) Sh Tryz.f128 (c,p,()) P:=by kernel_rfl
theorem FL (n:Int) (g:List (List Int)) (p:List Int) (P:Bool->Prop):(∃(y4:Bool),Ik.fn (n,g,())=some y4/\Br y4 (Br ((↑p.length:Int)==n) (∃(y5:Bool),Eg.fn (p,())=some y5/\Br y5 (∃(y6:(Int×List (List (Option (List Int)))×List (List (Option (List Int)))×PUnit)×PUnit),Mx.fn (n,g,())=some y6/\ ∃(y7:Bool),Sh.fn ((y6.1.1,List.take y6.1.2.1.length (List.drop 0 y6.1.2.1),List.take y6.1.2.2.1.length (List.drop 0 y6.1.2.2.1),()),p,())=some y7/\P y7) (P false)) (P false)) (P false))=fnW Cf (look [(123,Ik),(75,Eg),(129,Mx),(128,Sh)]) Sj Tryz.f96 (n,g,p,()) P:=by kernel_rfl
theorem zY (p:Int×ByteArray×List (List Int)×Unit) (s:List Int) (P:Bool->Prop):(∃(y3:Bool),Na.fn ((p.1,p.2.1,p.2.2.1,()),s,())=some y3/\Br y3 (∃(y4:Bool),Sj.fn (p.1,p.2.2.1,s,())=some y4/\P y4) (P false))=fnW Cf (look [(95,Na),(96,Sj)]) Vm Tryz.f73 (p,s,()) P:=by kernel_rfl
theorem fq:Sound Tryz.prog 115 Km:=Sound.toO dY λ_ h=>HZ h
theorem mW:Sound Tryz.prog 116 Yh:=Sound.toO Qy λx h=>⟨h.1,λe=>by
 have h2:=h.2
 replace e:x.1= []:=e
 rw [e] at h2
 simp at h2⟩
theorem vI (n:Int) (h:1<=n/\n<=20):fnMW Ri (look [(115,Km)]) Mz Tryz.f145 (n,()) (λ(z:(Int×List (List (Option (List Int)))×List (List (Option (List Int)))×Unit)×Unit)=>z=((n,Ss n.toNat,Nu n.toNat,()),())):=by
 obtain ⟨h1,h2⟩:=h
 obtain ⟨N,rfl⟩: ∃N:Nat,n=N:=⟨n.toNat,by omega⟩
 rw [Int.toNat_natCast]
 refine Eq.mp (wO (N:Int) _) ?_
 have hm:((0:Int)<=(N:Int)/\(N:Int)<(Bh:Int)+1):=⟨by omega,by show (N:Int)<(4294967296:Int)+1;omega⟩
 simp only [hm,and_self,eq_self,true_and,and_true,Int.toNat_natCast,Nat.zero_add,List.length_nil,List.length_set,List.length_replicate,List.length_cons,Nat.lt_add_one]
 refine Aj N (λv=>v.1) (λj v=>v=((j:Int),(N:Int),(List.range j).map (Xg N),List.replicate j [],())) rfl rfl ?_
 rintro j v K hj hi rfl hK
 dsimp only
 refine Br.dec (λhl=>?_) λhl=>?_
 ·simp only [Int.toNat_natCast,List.length_map,List.length_range,List.length_replicate]
  refine ⟨_,if_pos ⟨by show (1:Int)<=N;omega,by show (N:Int)<=20;omega⟩,⟨by omega,by omega⟩,by omega,?_,?_,?_⟩
  ·show _<=4294967296
   omega
  ·show _<=4294967296
   omega
  ·rw [Ah (by omega)]
   refine hK (by omega) _ rfl ?_
   rw [List.range_succ,List.map_append,List.replicate_succ']
   rfl
 ·have:j=N:=by omega
  subst this
  rfl
theorem ll:Bj Tryz.prog 145 Mz:=
 Bj.ix il (Ae fq Ai) mixed Tryz.func145 (by kernel_rfl) (by kernel_rfl) λx h=>vI x.1 h
theorem rv (n:Int) (gens:List (Option (List Int))) (h:(1<=n/\n<=20)/\List.length gens<=4294967296/\ ∀o∈(gens:List PO),∃g,o=some g/\Pm n.toNat g):
  fnMW Ri (look [(145,Mz),(116,Yh),(146,w8)]) Ze Tryz.f129 (n,gens,()) (λ(z:(Int×List (List (Option (List Int)))×List (List (Option (List Int)))×Unit)×Unit)=>z=((n,(Kn n.toNat gens).2,(Kn n.toNat gens).1,()),())):=by
 obtain ⟨⟨h1,h2⟩,h3,hg⟩:=h
 obtain ⟨N,rfl⟩: ∃N:Nat,n=N:=⟨n.toNat,by omega⟩
 rw [Int.toNat_natCast] at hg⊢
 have h1:1<=N:=by omega
 have h2:N<=20:=by omega
 refine Eq.mp (sn (N:Int) gens _) ⟨_,if_pos ⟨by show (1:Int)<=N;omega,by show (N:Int)<=20;omega⟩,rfl,rfl,rfl,rfl,?_⟩
 simp only [Int.toNat_natCast,true_and,and_true]
 refine Aj gens.length (λv=>v.1) (λi v=>v=((i:Int),(Kn N (gens.take i)).2,(Kn N (gens.take i)).1,(N:Int),())) rfl rfl ?_
 rintro i v K' lX Ajf rfl UM
 dsimp only
 refine Br.dec (λGd=>?_) λGd=>?_
 ·have Gd:i<gens.length:=by omega
  obtain ⟨g,jV,Ny⟩:=hg gens[i] (List.getElem_mem Gd)
  have hgl:=Ny.1
  have hv:=sC h1 h2 (gens:=gens.take i) λo ho=>hg o (List.mem_of_mem_take ho)
  refine ⟨some g,by rw [An Gd,jV],some g,if_pos ⟨by show g.length<=4294967296;omega,by show 1<=g.length;omega⟩,_,if_pos ⟨N,0,g,rfl,h1,h2,rfl,rfl,Nat.zero_le _,hv,Ny,λi hi=>absurd hi (Nat.not_lt_zero _)⟩,?_⟩
  rw [Ah (by omega)]
  refine UM Gd _ rfl ?_
  rw [uk Gd,jV]
  rfl
 ·have:i=gens.length:=by omega
  subst this
  rw [List.take_length]
theorem jB:Bj Tryz.prog 129 Ze:=
 Bj.ix il (Ft ll (Ae mW (Ft EL Ai))) mixed Tryz.func129 (by kernel_rfl) (by kernel_rfl) λx h=>rv x.1 x.2.1 h
theorem lk:Bj Tryz.prog 129 Mx:=by
 have h:=jB
 refine ⟨h.enter,λw S π us x r o g vs h1 hg h2 h3 hS h4 h5=>?_⟩
 obtain ⟨n,gens,⟨⟩⟩:=x
 match us,h2 with
 |u1::u2::us,h2=>
  obtain ⟨h6,⟨h7,h8⟩,h9⟩:=h2
  obtain ⟨os,jU,cv⟩:=Bd.YZ (e:=tI) h8
  have cv:os.map (·.getD [])=(gens:List (List Int)):=cv
  have Yx:(1<=n/\n<=20)/\List.length gens<=4294967296/\ ∀g∈(gens:List (List Int)),Pm n.toNat g:=Classical.byContradiction λhn=>by
   have:Mx.fn (n,gens,())=none:=if_neg hn
   rw [this] at h5;cases h5
  have hos:os=gens.map some:=by
   rw [<-cv,List.map_map]
   refine (List.map_id os).symm.trans (List.map_congr_left λx hx=>?_)
   cases x with
   |some y=>rfl
   |none=>
    have:=Yx.2.2 [] (by rw [<-cv];exact List.mem_map.2 ⟨none,hx,rfl⟩)
    have h1:=this.n1
    have h2:=this.1
    simp at h2
    omega
  have hv:Mx.fn (n,gens,())=some ((n,(ke n gens).2,(ke n gens).1,()),()):=if_pos Yx
  rw [hv] at h5
  have h5:=Option.some.inj h5
  refine h.calls w S π (u1::u2::us) (n,os,()) r o g vs h1 hg ⟨h6,⟨h7,jU⟩,h9⟩ h3 hS h4 ?_
  refine (if_pos ⟨Yx.1,by rw [hos,List.length_map];exact Yx.2.1,λy hy=>?pp⟩).trans (congrArg some ?qq)
  case pp=>
   replace hy:y∈os:=hy
   rw [hos] at hy
   obtain ⟨g,hg,rfl⟩:=List.mem_map.1 hy
   exact ⟨g,rfl,Yx.2.2 g hg⟩
  case qq=>subst hos;exact h5
theorem DI (c:Int×List (List (Option (List Int)))×List (List (Option (List Int)))×Unit) (p:List Int) (h: ∃N,Qf N 0 c.1 c.2.2.1 c.2.1 0 p):
  fnW Ri (look [(144,ld)]) Sh Tryz.f128 (c,p,()) (λ(z:Bool)=>z=Du c.2.1 c.1.toNat 0 p):=by
 obtain ⟨n,T,G,⟨⟩⟩:=c
 obtain ⟨N,h⟩:=h
 have h':=h
 obtain ⟨n1,n2,en,el,hle,v,pm,fx⟩:=h
 dsimp only at en
 subst en
 refine Eq.mp (FH ((N:Int),T,G,()) p _) ⟨_,if_pos ⟨N,0,h'⟩,?_⟩
 have hs:=pQ (T:=T) N 0 p
 rw [Nat.zero_add] at hs
 show ((Jh T ((N:Int)-0).toNat (0:Int).toNat p).2.1==(N:Int))=Du T (N:Int).toNat 0 p
 rw [Int.sub_zero,Int.toNat_natCast]
 exact Bool.eq_iff_iff.2 (beq_iff_eq.trans hs)
theorem pU:Sound Tryz.prog 128 Sh:=
 Sound.Cp il (Ae EW Ai) mixed Tryz.func128 (by kernel_rfl) (by kernel_rfl) λx h=>DI x.1 x.2.1 h
theorem DN (n:Int) (g:List (List Int)) (p:List Int) (h:Fm g/\short p):fnW Cf (look [(123,Ik),(75,Eg),(129,Mx),(128,Sh)]) Sj Tryz.f96 (n,g,p,()) (λ(z:Bool)=>z=dA n g p):=by
 obtain ⟨hg,hp⟩:=h
 refine Eq.mp (FL n g p _) ⟨_,if_pos hg,?_⟩
 unfold dA
 show Br (Mh n g) _ _
 refine Br.of (λh1=>?_) λh1=>by rw [h1];rfl
 obtain ⟨⟨n1,n2⟩,h8,Hm⟩:=Ed.1 h1
 refine Br.of (λh2=>?_) λh2=>?_
 ·have h2:(p.length:Int)=n:=eq_of_beq h2
  refine ⟨_,if_pos hp,?_⟩
  show Br (Fv p) _ _
  refine Br.of (λh3=>?_) λh3=>?_
  ·have OO:Cy n p=true:=Ed.2 ⟨h2,h3⟩
   have JD: ∀x,Cy n x=true->Pm n.toNat x:= λx hx=>by
    obtain ⟨a,b⟩:=Ed.1 hx
    exact ⟨by omega,bp b⟩
   have j5: ∀x∈g,Pm n.toNat x:= λx hx=>JD x (Hm x hx)
   have hV:=sC (n:=n.toNat) (by omega) (by omega) (Wx j5)
   refine ⟨_,if_pos ⟨⟨n1,n2⟩,hg.1,j5⟩,_,if_pos ⟨n.toNat,?vv⟩,?_⟩
   case vv=>
    simp only [Bl]
    exact ⟨by omega,by omega,(Int.toNat_of_nonneg (by omega)).symm,rfl,Nat.zero_le _,hV,JD p OO,λi hi=>absurd hi (Nat.not_lt_zero _)⟩
   simp only [Bl]
   rw [h1,OO]
   rfl
  ·have:Cy n p=false:=by
    rw [Bool.eq_false_iff]
    intro hc
    rw [(Ed.1 hc).2] at h3
    cases h3
   rw [this,Bool.and_false,Bool.false_and]
 ·have:Cy n p=false:=by
   rw [Bool.eq_false_iff]
   intro hc
   rw [(Ed.1 hc).1] at h2
   simp at h2
  rw [this,Bool.and_false,Bool.false_and]
theorem pZ:Sound Tryz.prog 96 Sj:=
 Sound.Cp Bg (Ae aB (Ae Nc (Ft lk (Ae pU Ai)))) mixed Tryz.func96 (by kernel_rfl) (by kernel_rfl) λx h=>DN x.1 x.2.1 x.2.2.1 h
theorem II {p:PP} (hv:Ax p=true) {s:List Int} (hs:Pm p.1.toNat s):Du (ke p.1 p.2.2.1).2 p.1.toNat 0 s=Du (Og p.1 p.2.2.1).2 p.1.toNat 0 s:=by
 have hV:=valid hv
 have hn:=hV.n
 have hg:=Wx (We hV).2.2
 exact Bool.eq_iff_iff.2 ((xY (by omega) (by omega) hg hs).trans (Wm (by omega) (by omega) hg hs).symm)
theorem NZ {n:Int} {s:List Int} (h:Cy n s=true):Pm n.toNat s:=by
 obtain ⟨a,b⟩:=Ed.1 h
 exact ⟨by omega,bp b⟩
theorem zf (p:PP) (s:List Int) (h:Cb p/\short s):fnW Cf (look [(95,Na),(96,Sj)]) Vm Tryz.f73 (p,s,()) (λ(z:Bool)=>z=Oj p s):=by
 refine Eq.mp (zY p s _) ⟨_,if_pos h,?_⟩
 show Br (Ax p&&Cy p.1 s) _ _
 unfold Oj
 refine Br.of (λhb=>?_) λhb=>by rw [hb];rfl
 obtain ⟨hv,hg⟩:=Bool.and_eq_true_iff.1 hb
 have hV:=valid hv
 have hn:=hV.n
 have Ae5:Mh p.1 p.2.2.1=true:=by
  refine Ed.2 ⟨⟨by omega,by omega⟩,by have:=hV.lP;omega,λx hx=>Ed.2 ⟨by have:=hV.len x hx;omega,hV.perm x hx⟩⟩
 refine ⟨_,if_pos ⟨h.1.2,h.2⟩,?_⟩
 show dA p.1 p.2.2.1 s=_
 unfold dA
 rw [Ae5,hg,hv,II hv (NZ hg)]
theorem nj:Sound Tryz.prog 73 Vm:=
 Sound.Cp Bg (Ae Ym (Ae pZ Ai)) mixed Tryz.func73 (by kernel_rfl) (by kernel_rfl) λx h=>zf x.1 x.2.1 h
end Go.Proofs.YtfolipnappekaaaGreat

namespace Go.Proofs.YtfolipnappekaaaGreat
open Go.RowKit
noncomputable def Za (p:PP) (ts:List TT) (s:List Int):Bool:=Oj p s&&Dk p ts
noncomputable abbrev l8:Spec:=Cp (.pair Cu (.pair AL (.pair tL .unit))) .bool false true (λx=>Cb x.1/\Gr x.2.1/\short x.2.2.1) (λx=>Za x.1 x.2.1 x.2.2.1)
noncomputable abbrev lb:Spec:=Cp (.pair Cu (.pair AL (.pair tL .unit))) .bool false true (λx=>Cb x.1/\Gr x.2.1/\short x.2.2.1) (λ_=>true)
theorem Ace (p:Int×ByteArray×List (List Int)×Unit) (ts:List (List Int×List (List Int)×List Int×Unit)) (s:List Int) (P:Bool->Prop):(∃(y4:Bool),He.fn ((p.1,p.2.1,p.2.2.1,()),ts,())=some y4/\Br y4 (∃(y5:Bool),Vm.fn ((p.1,p.2.1,p.2.2.1,()),s,())=some y5/\P y5) (P false))=fnW Cf (look [(72,He),(73,Vm)]) l8 Tryz.f47 (p,ts,s,()) P:=by kernel_rfl
theorem sY {p:PP} {ts:List TT} {s:List Int} (h:Za p ts s=true):Vz ts/\aJ ts s/\Oj p s=true:=by
 unfold Za at h
 obtain ⟨h1,h2⟩:=Bool.and_eq_true_iff.1 h
 exact ⟨(mC h2).2.1,DY h1 h2,h1⟩
theorem Abm (p:PP) (ts:List TT) (s:List Int) (h:Cb p/\Gr ts/\short s):fnW Cf (look [(72,He),(73,Vm)]) l8 Tryz.f47 (p,ts,s,()) (λ(z:Bool)=>z=Za p ts s):=by
 obtain ⟨h0,h1,h2⟩:=h
 refine Eq.mp (Ace p ts s _) ⟨_,if_pos ⟨h0,h1⟩,?_⟩
 show Br (Dk p ts) _ _
 have hh:Za p ts s=(Oj p s&&Dk p ts):=rfl
 rw [hh]
 refine Br.of (λhb=>⟨_,if_pos ⟨h0,h2⟩,?_⟩) λhb=>?_
 ·rw [hb,Bool.and_true]
 ·rw [hb,Bool.and_false]
theorem ET:Sound Tryz.prog 47 l8:=
 Sound.Cp Bg (Ae ij (Ae nj Ai)) mixed Tryz.func47 (by kernel_rfl) (by kernel_rfl) λx h=>Abm x.1 x.2.1 x.2.2.1 h
end Go.Proofs.YtfolipnappekaaaGreat

namespace Go.Proofs.YtfolipnappekaaaGreat
open Go.RowKit
noncomputable def Ud (p:PP) (s:List Int):Int:=if Jn p s=true then Jw (Bp p) (Dj p) s else-1
noncomputable def yI (p:PP) (ts:List TT) (s:List Int):Int:=if (Jn p s&&Dk p ts)=true then Jw (Bp p) (Dj p) s-jj ts s else-1
noncomputable abbrev aw:Spec:=Cp (.pair Cu (.pair tL .unit)) (.pair Vb (.pair tI (.pair .bool .unit))) true false (λx=>Cb x.1/\short x.2.1) (λx=>((Cj x.1).1,Ud x.1 x.2.1,Jn x.1 x.2.1,()))
noncomputable abbrev l5:Spec:=Cp (.pair Cu (.pair tL .unit)) tI false true (λx=>Cb x.1/\short x.2.1) (λx=>Ud x.1 x.2.1)
noncomputable abbrev cf:Spec:=Cp (.pair Cu (.pair AL (.pair tL .unit))) tI false true (λx=>Cb x.1/\Gr x.2.1/\short x.2.2.1) (λx=>yI x.1 x.2.1 x.2.2.1)
theorem TG (p:Int×ByteArray×List (List Int)×Unit) (s:List Int) (P:((List (List Int)×List Int×List Int×Bool×Unit)×Int×Bool×Unit)->Prop):(∃(y3:(List (List Int)×List Int×List Int×Bool×PUnit)×Bool×PUnit),Sp.fn ((p.1,p.2.1,p.2.2.1,()),())=some y3/\Br (!y3.2.1) (P ((y3.1.1,y3.1.2.1,y3.1.2.2.1,y3.1.2.2.2.1,()),(-1:Int),false,())) (∃(y4:Bool),Na.fn ((p.1,p.2.1,p.2.2.1,()),s,())=some y4/\Br (!y4) (P ((y3.1.1,y3.1.2.1,y3.1.2.2.1,y3.1.2.2.2.1,()),(-1:Int),false,())) (∃(y5:Int),Vi.fn ((y3.1.1,y3.1.2.1,y3.1.2.2.1,y3.1.2.2.2.1,()),s,())=some y5/\P ((y3.1.1,y3.1.2.1,y3.1.2.2.1,y3.1.2.2.2.1,()),y5,decide (y5>=(0:Int)),()))))=fnW Cf (look [(102,Sp),(95,Na),(103,Vi)]) aw Tryz.f81 (p,s,()) P:=by kernel_rfl
theorem Ac9 (p:Int×ByteArray×List (List Int)×Unit) (s:List Int) (P:Int->Prop):(∃(y3:(List (List Int)×List Int×List Int×Bool×PUnit)×Int×Bool×PUnit),aw.fn ((p.1,p.2.1,p.2.2.1,()),s,())=some y3/\Br (!y3.2.2.1) (P (-1:Int)) (P y3.2.1))=fnW Cf (look [(81,aw)]) l5 Tryz.f61 (p,s,()) P:=by kernel_rfl
theorem MF (p:Int×ByteArray×List (List Int)×Unit) (ts:List (List Int×List (List Int)×List Int×Unit)) (s:List Int) (P:Int->Prop):(∃(y4:Option ((Int×ByteArray×List (List Int)×PUnit)×List (List Int)×List Int×(ByteArray->Option Int)×List Int×List Int×List (List Int)×PUnit)×Int×Bool×PUnit),Vj.fn ((p.1,p.2.1,p.2.2.1,()),s,())=some y4/\Br (!y4.2.2.1) (P (-1:Int)) (∃(y5:Bool),He.fn ((p.1,p.2.1,p.2.2.1,()),ts,())=some y5/\Br (!y5) (P (-1:Int)) (∃(y6:(Int×ByteArray×List (List Int)×PUnit)×List (List Int)×List Int×(ByteArray->Option Int)×List Int×List Int×List (List Int)×PUnit),y4.1=some y6/\ ∃(y7:Int),idx y6.2.2.1 y4.2.1=some y7/\ ∃(y8:Option (List (List Int×List (List Int)×List Int×PUnit)×List (ByteArray->Option Int)×PUnit)),Pw.fn (ts,())=some y8/\ ∃(y9:Int),eW.fn (y8,s,())=some y9/\P (IntKind.i64.wrap (y7-y9)))))=fnW Cf (look [(62,Vj),(63,He),(64,Pw),(52,eW)]) cf Tryz.f34 (p,ts,s,()) P:=by kernel_rfl
theorem MO (p:Int×ByteArray×List (List Int)×Unit) (ts:List (List Int×List (List Int)×List Int×Unit)) (s:List Int) (P:Int->Prop):(∃(y4:Int),l5.fn ((p.1,p.2.1,p.2.2.1,()),s,())=some y4/\Br (decide (y4<(0:Int))) (P (-1:Int)) (∃(y5:Bool),l8.fn ((p.1,p.2.1,p.2.2.1,()),ts,s,())=some y5/\Br (!y5) (P (-1:Int)) (∃(y6:Int),eV.fn (ts,s,())=some y6/\P (IntKind.i64.wrap (y4-y6)))))=fnW Cf (look [(61,l5),(47,l8),(48,eV)]) cf Tryz.f33 (p,ts,s,()) P:=by kernel_rfl
abbrev lB:Type:=List (List Int×List (List Int)×List Int×PUnit)
abbrev lD:Type:=Int×ByteArray×List (List Int)×PUnit
theorem TB (p:Int×ByteArray×List (List Int)×Unit) (ts:List (List Int×List (List Int)×List Int×Unit)) (s:List Int) (P:Bool->Prop):(Br (decide ((↑s.length:Int)>(1048576:Int))) (P true) (∃(y4:Int),tY.fn ((p.1,p.2.1,p.2.2.1,()),(1048576:Int),())=some y4/\Br (decide (y4<(0:Int))) (P true) (∃(y5:Int),lf.fn (ts,y4,())=some y5/\Br (decide (y5<(0:Int))) (P true) (∃(y6:lD),mo.fn ((p.1,p.2.1,p.2.2.1,()),())=some y6/\ ∃(y7:lB),dW.fn (ts,())=some y7/\ ∃(y8:List Int),Xc.fn (s,())=some y8/\ ∃(y9:Int),cf.fn (y6,y7,y8,())=some y9/\ ∃(Xj:lD),mo.fn ((p.1,p.2.1,p.2.2.1,()),())=some Xj/\ ∃(sB:lB),dW.fn (ts,())=some sB/\ ∃(wZ:List Int),Xc.fn (s,())=some wZ/\ ∃(x9:Int),cf.fn ((Xj.1,Xj.2.1,Xj.2.2.1,()),sB,wZ,())=some x9/\Br (x9 !=y9) (P false) (∃(Xk:lD),mo.fn ((p.1,p.2.1,p.2.2.1,()),())=some Xk/\ ∃(jR:Bool),tV.fn ((Xj.1,Xj.2.1,Xj.2.2.1,()),Xk,())=some jR/\Br (!jR) (P false) (∃(nI:lB),dW.fn (ts,())=some nI/\ ∃(FU:Bool),l6.fn (sB,nI,())=some FU/\Br (!FU) (P false) (∃(MT:List Int),Xc.fn (s,())=some MT/\ ∃(y19:Bool),Ap.fn (wZ,MT,())=some y19/\Br (!y19) (P false) (P true))))))))=fnW Cf (look [(13,tY),(14,lf),(33,cf),(34,cf),(16,mo),(17,dW),(18,Xc),(20,tV),(21,l6),(22,Ap)]) lb Tryz.f7 (p,ts,s,()) P:=by kernel_rfl
theorem lU {p:PP} {s:List Int} (h:Jn p s=true):Oj p s=true:=by
 obtain ⟨hw,hs⟩:=kz.1 h
 have hv:=(Hs hw).1
 exact OA hv ((js hv).gen s hs)
theorem sR {p:PP} {s:List Int} (h:Jn p s=true):0<=Jw (Bp p) (Dj p) s/\Jw (Bp p) (Dj p) s<=3000:=by
 obtain ⟨hw,hs⟩:=kz.1 h
 exact sM hw hs
theorem RE (p:PP) (s:List Int) (h:Cb p/\short s):fnW Cf (look [(102,Sp),(95,Na),(103,Vi)]) aw Tryz.f81 (p,s,()) (λ(z:SS×Int×Bool×Unit)=>z=((Cj p).1,Ud p s,Jn p s,())):=by
 refine Eq.mp (TG p s _) ⟨_,if_pos h.1,?_⟩
 by_cases hw:Gq p=true
 ·have hv:=(Hs hw).1
  have e1:Cj p=(Fg p.2.2.1 (upto p.1.toNat),true,()):=by unfold Cj;rw [if_pos hv,hw]
  show Br (!(Cj p).2.1) _ _
  refine ⟨λhb=>by rw [e1] at hb;simp at hb,λ_=>⟨_,if_pos h,?_⟩⟩
  show Br (!(Ax p&&Cy p.1 s)) _ _
  rw [hv,Bool.true_and]
  unfold Ud Jn
  rw [hw,Bool.true_and]
  refine Br.of (λhb=>?_) λhb=>?_
  ·have hm: ¬s∈Bp p:= λhm=>by rw [RV hv hm] at hb;cases hb
   rw [decide_eq_false hm,if_neg (by decide)]
  ·have hb:Cy p.1 s=true:=by simpa using hb
   have JD:=BQ (valid hv) hb
   refine ⟨_,if_pos ⟨by show Dd s.length (Cj p).1.1 (Cj p).1.2.2.1;rw [e1,JD.1];exact (ly hv).ok,by show (Cj p).1.2.1.length=(Cj p).1.1.length;rw [e1];exact (ly hv).len⟩,?_⟩
   have OI:Jw (Cj p).1.1 (Cj p).1.2.1 s=Jw (Bp p) (Dj p) s:=by rw [e1];rfl
   by_cases hm:s∈Bp p
   ·have hd:=(sM hw hm).1
    rw [decide_eq_true hm,if_pos rfl]
    show (_,Jw (Cj p).1.1 (Cj p).1.2.1 s,decide (Jw (Cj p).1.1 (Cj p).1.2.1 s>=0),())=_
    rw [OI,decide_eq_true hd]
   ·have hd:Jw (Bp p) (Dj p) s= -1:=if_neg hm
    rw [decide_eq_false hm,if_neg (by decide)]
    show (_,Jw (Cj p).1.1 (Cj p).1.2.1 s,decide (Jw (Cj p).1.1 (Cj p).1.2.1 s>=0),())=_
    rw [OI,hd]
    rfl
 ·have e1:(Cj p).2.1=false:=by
   unfold Cj
   by_cases hv:Ax p=true
   ·rw [if_pos hv];exact Bool.not_eq_true _|>.mp hw
   ·rw [if_neg hv]
  show Br (!(Cj p).2.1) _ _
  rw [e1]
  refine ⟨λ_=>?_,λhb=>by simp at hb⟩
  have hf:Jn p s=false:=by unfold Jn;rw [Bool.not_eq_true _|>.mp hw,Bool.false_and]
  unfold Ud
  rw [hf,if_neg (by decide)]
theorem wu:Sound Tryz.prog 81 aw:=
 Sound.Cp Bg (Ae qc (Ae Ym (Ae rS Ai))) mixed Tryz.func81 (by kernel_rfl) (by kernel_rfl) λx h=>RE x.1 x.2.1 h
theorem Abi (p:PP) (s:List Int) (h:Cb p/\short s):fnW Cf (look [(81,aw)]) l5 Tryz.f61 (p,s,()) (λ(z:Int)=>z=Ud p s):=by
 refine Eq.mp (Ac9 p s _) ⟨_,if_pos h,?_⟩
 show Br (!Jn p s) _ _
 refine Br.of (λhb=>?_) λ_=>rfl
 unfold Ud
 rw [if_neg (Db hb)]
theorem EP:Sound Tryz.prog 61 l5:=
 Sound.Cp Bg (Ae wu Ai) mixed Tryz.func61 (by kernel_rfl) (by kernel_rfl) λx h=>Abi x.1 x.2.1 h
theorem KK (p:PP) (ts:List TT) (s:List Int) (h:Cb p/\Gr ts/\short s):fnW Cf (look [(61,l5),(47,l8),(48,eV)]) cf Tryz.f33 (p,ts,s,()) (λ(z:Int)=>z=yI p ts s):=by
 refine Eq.mp (MO p ts s _) ⟨_,if_pos ⟨h.1,h.2.2⟩,?_⟩
 unfold yI
 by_cases hf:Jn p s=true
 ·have hd:=sR hf
  have e:Ud p s=Jw (Bp p) (Dj p) s:=if_pos hf
  show Br (decide (Ud p s<0)) _ _
  rw [e]
  refine Br.dec (λhb=>by omega) λ_=>⟨_,if_pos h,?_⟩
  have hh:Za p ts s=Dk p ts:=by unfold Za;rw [lU hf,Bool.true_and]
  show Br (!Za p ts s) _ _
  rw [hf,Bool.true_and,<-hh]
  refine Br.of (λhb=>?_) λhb=>?_
  ·rw [if_neg (Db hb)]
  ·have hm:Za p ts s=true:=by simpa using hb
   obtain ⟨a,b,_⟩:=sY hm
   have hl:=HK a b
   rw [if_pos hm]
   refine ⟨_,if_pos ⟨a,b⟩,?_⟩
   show IntKind.i64.wrap (Ud p s-jj ts s)=_
   rw [e,Cl (by omega) (by omega)]
 ·have e:Ud p s= -1:=if_neg hf
  show Br (decide (Ud p s<0)) _ _
  rw [e,Bool.not_eq_true _|>.mp hf,Bool.false_and,if_neg (by decide)]
  exact Br.dec (λ_=>rfl) λhb=>absurd (by decide) hb
theorem sa:Sound Tryz.prog 33 cf:=
 Sound.Cp Bg (Ae EP (Ae ET (Ae zv Ai))) mixed Tryz.func33 (by kernel_rfl) (by kernel_rfl) λx h=>KK x.1 x.2.1 x.2.2.1 h
theorem KB (p:PP) (ts:List TT) (s:List Int) (h:Cb p/\Gr ts/\short s):fnW Cf (look [(62,Vj),(63,He),(64,Pw),(52,eW)]) cf Tryz.f34 (p,ts,s,()) (λ(z:Int)=>z=yI p ts s):=by
 refine Eq.mp (MF p ts s _) ⟨_,if_pos ⟨h.1,h.2.2⟩,?_⟩
 show Br (!(Pn p s).2.2.1) _ _
 rw [BN]
 unfold yI
 refine Br.of (λhf=>?_) λhf=>?_
 ·rw [ZK hf,Bool.false_and,if_neg (by decide)]
 have hf:Jn p s=true:=by simpa using hf
 obtain ⟨hw,hm⟩:=kz.1 hf
 rw [hf,Bool.true_and]
 refine ⟨_,if_pos ⟨h.1,h.2.1⟩,?_⟩
 show Br (!Dk p ts) _ _
 refine Br.of (λht=>?_) λht=>?_
 ·rw [if_neg (Db ht)]
 have ht:Dk p ts=true:=by simpa using ht
 have hex:Pn p s=(some (Ln p),(kK p s).1,(kK p s).2.1,()):=if_pos hw
 obtain ⟨a,b,_⟩:=sY (p:=p) (ts:=ts) (s:=s) (by unfold Za;rw [lU hf,ht];rfl)
 have hl:=HK a b
 have hd:=sR hf
 have Aj8:(Ln p).2.2.1=Dj p:=ZP (e:=Ln p) ⟨hw,rfl⟩
 have hix:(kK p s).1=((Bp p).idxOf s:Nat):=by unfold kK;rw [if_pos hm]
 have hlen:(Dj p).length=(Bp p).length:=(ly (Hs hw).1).len
 have hi:=List.idxOf_lt_length_of_mem hm
 have hdi:idx (Dj p) (((Bp p).idxOf s:Nat):Int)=some (Jw (Bp p) (Dj p) s):=by
  rw [An (by omega),<-ZL hm,List.getD_eq_getElem?_getD,List.getElem?_eq_getElem (by omega)]
  rfl
 rw [if_pos ht]
 refine ⟨Ln p,congrArg Prod.fst hex,Jw (Bp p) (Dj p) s,?_,_,if_pos a,_,if_pos ⟨ts,a,rfl,b⟩,?_⟩
 ·show idx (Ln p).2.2.1 (Pn p s).2.1=_
  rw [hex,Aj8]
  show idx (Dj p) (kK p s).1=_
  rw [hix,hdi]
 ·show IntKind.i64.wrap (Jw (Bp p) (Dj p) s-jj ts s)=_
  rw [Cl (by omega) (by omega)]
theorem rW:Sound Tryz.prog 34 cf:=
 Sound.Cp Bg (Ae rU (Ae ig (Ae nf (Ae zw Ai)))) mixed Tryz.func34 (by kernel_rfl) (by kernel_rfl) λx h=>KB x.1 x.2.1 x.2.2.1 h
theorem QX (p:PP) (ts:List TT) (s:List Int) (h:Cb p/\Gr ts/\short s):fnW Cf (look [(13,tY),(14,lf),(33,cf),(34,cf),(16,mo),(17,dW),(18,Xc),(20,tV),(21,l6),(22,Ap)]) lb Tryz.f7 (p,ts,s,()) (λ(z:Bool)=>z=true):=by
 obtain ⟨h0,h1,h2⟩:=h
 refine Eq.mp (TB p ts s _) (Br.dec (λ_=>rfl) λ_=>?_)
 refine ⟨_,if_pos ⟨h0,zj⟩,Br.dec (λ_=>rfl) λhn=>⟨_,if_pos ⟨h1,(SA zj hn).2⟩,Br.dec (λ_=>rfl) λ_=>?_⟩⟩
 refine ⟨_,if_pos h0,_,if_pos h1,_,if_pos h2,_,if_pos ⟨h0,h1,h2⟩,_,if_pos h0,_,if_pos h1,_,if_pos h2,_,if_pos ⟨h0,h1,h2⟩,⟨λhe=>PS he,λ_=>?_⟩⟩
 refine ⟨_,if_pos h0,_,if_pos h0,⟨λhe=>pf (CT p) he,λ_=>?_⟩⟩
 refine ⟨_,if_pos h1,_,if_pos h1,⟨λhe=>pf (decide_eq_true rfl) he,λ_=>?_⟩⟩
 exact ⟨_,if_pos h2,_,if_pos h2,⟨λhe=>pf (kJ s) he,λ_=>rfl⟩⟩
theorem wk:Sound Tryz.prog 7 lb:=
 Sound.Cp Bg (Ae LN (Ae EY (Ae sa (Ae rW (Ae LO (Ae EZ (Ae lx (Ae LJ (Ae ER (Ae lp Ai)))))))))) mixed Tryz.func7 (by kernel_rfl) (by kernel_rfl) λx h=>QX x.1 x.2.1 x.2.2.1 h
end Go.Proofs.YtfolipnappekaaaGreat
