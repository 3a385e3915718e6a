/-
  Part 46 of the proof that the statement FnExactLowerBounds holds.
-/
import Derived.Test.YtfolipnappekaaaGreatCLowerBounds44
namespace Go.Proofs.YtfolipnappekaaaGreat
open Go.RowKit
noncomputable abbrev kM:Spec:=Cu (.pair (.ptr jz) (.pair tI (.pair tL .unit))) (.pair tL (.pair tI .unit)) true false (λx=> ∃N L,Pd N L x.1.1 x.1.2.2.1 x.1.2.1 x.2.1 x.2.2.1) (λx=>Ja x.1.2.1 (x.1.1-x.2.1).toNat x.2.1.toNat x.2.2.1)
noncomputable abbrev ZO:MSpec:= {ptr:=some (153,3),Fk:= [none,none],ins:= [(false, .Dh tI),(false, .Aj tO qf false),(false, .Aj tO qf false),(false, .Dh tI),(false, .Dh tL)],Dn:=true,Ek:= [none,none],outs:= [.Dh tI, .Aj tO qf false, .Aj tO qf false, .Dh tL, .Dh tI],fn:= λ_=>none}
noncomputable abbrev eE:MSpec:=hY ZO (λx=> ∃N L,Pd N L x.1 x.2.2.1 x.2.1 x.2.2.2.1 x.2.2.2.2.1)
 (λx=>((x.1,x.2.1,x.2.2.1,(Ja x.2.1 (x.1-x.2.2.2.1).toNat x.2.2.2.1.toNat x.2.2.2.2.1).1,(Ja x.2.1 (x.1-x.2.2.2.1).toNat x.2.2.2.1.toNat x.2.2.2.2.1).2.1,()),()))
structure UL (N L:Nat) (n:Int) (G T:Ax) (l:Int) (p:List Int):Prop where
 n1:1<=N
 n2:N<=20
 en:n=N
 el:l=L
 lt:L<N
 part:Part N L (G,T)
 pm:Pm N p
 fx:Fx L p
 gn:Gn N (G.getD L []) p
 gl:(G.getD L []).length<=401
noncomputable abbrev NQ:MSpec:= {ptr:=some (153,3),Fk:= [none,none],ins:= [(false, .Dh tI),(false, .Aj tO qf false),(false, .Aj tO qf false),(false, .Dh tI),(false, .Dh tO)],Dn:=false,Ek:= [],outs:= [.Dh tI, .Aj tO qf false, .Aj tO qf false],fn:= λ_=>none}
noncomputable abbrev jf (m:Nat):MSpec:=hY NQ (λx=>(∃N L q,x.2.2.2.2.1=some q/\Pd N L x.1 x.2.2.1 x.2.1 x.2.2.2.1 q)/\GD x.1.toNat x.2.2.2.1.toNat<m)
 (λx=>((x.1,(eN x.1.toNat 1000 x.2.2.2.1.toNat (x.2.2.2.2.1.getD []) (x.2.2.1,x.2.1)).2,(eN x.1.toNat 1000 x.2.2.2.1.toNat (x.2.2.2.2.1.getD []) (x.2.2.1,x.2.1)).1,()),()))
noncomputable abbrev Zz (m:Nat):MSpec:=hY NQ (λx=>(∃N L q,x.2.2.2.2.1=some q/\UL N L x.1 x.2.2.1 x.2.1 x.2.2.2.1 q)/\hZ x.1.toNat x.2.2.2.1.toNat (x.2.2.1,x.2.1)<m)
 (λx=>((x.1,(bC x.1.toNat 1000 x.2.2.2.1.toNat (x.2.2.2.2.1.getD []) (x.2.2.1,x.2.1)).2,(bC x.1.toNat 1000 x.2.2.2.1.toNat (x.2.2.2.2.1.getD []) (x.2.2.1,x.2.1)).1,()),()))
noncomputable abbrev vq:MSpec:=hY NQ (λx=> ∃N L q,x.2.2.2.2.1=some q/\Pd N L x.1 x.2.2.1 x.2.1 x.2.2.2.1 q)
 (λx=>((x.1,(eN x.1.toNat 1000 x.2.2.2.1.toNat (x.2.2.2.2.1.getD []) (x.2.2.1,x.2.1)).2,(eN x.1.toNat 1000 x.2.2.2.1.toNat (x.2.2.2.2.1.getD []) (x.2.2.1,x.2.1)).1,()),()))
theorem rS (p q:List Int) (P:List Int->Prop):(0=0/\0=([]:List Int).length/\Bk (λ(v3:Int×List Int×PUnit) (k4:Int×List Int×PUnit->Prop)=>Br (decide (v3.1<(↑p.length:Int))) (∃(y5:Int),idx p v3.1=some y5/\ ∃(y6:Int),idx q y5=some y6/\0=0/\v3.2.1.length=v3.2.1.length/\v3.2.1.length+(List.take 1 (List.drop 0 [y6])).length<=Bh/\0=0/\(v3.2.1++List.take 1 (List.drop 0 [y6])).length=(v3.2.1++List.take 1 (List.drop 0 [y6])).length/\k4 (IntKind.i64.wrap (v3.1+(1:Int)),v3.2.1++List.take 1 (List.drop 0 [y6]),())) (P (List.take v3.2.1.length (List.drop 0 v3.2.1)))) ((0:Int),[],PUnit.unit))=fnW Ck (look []) Uz Tryz.f156 (p,q,()) P:=by kernel_rfl
theorem Aaw (c:Int×List (List (Option (List Int)))×List (List (Option (List Int)))×Unit) (l:Int) (p:List Int) (P:(List Int×Int×Unit)->Prop):(Bk (λ(v4:List Int×Int×PUnit) (k5:List Int×Int×PUnit->Prop)=>Br (decide (v4.2.1<c.1)) (∃(y6:List (Option (List Int))),idx c.2.1 v4.2.1=some y6/\ ∃(y7:Int),idx v4.1 v4.2.1=some y7/\ ∃(y8:Option (List Int)),idx y6 y7=some y8/\Br ((↑(y8.getD []).length:Int)==(0:Int)) (P (v4.1,v4.2.1,())) (∃(y9:List Int),Cn.fn (y8.getD [],())=some y9/\ ∃(Th:List Int),Hz.fn (v4.1,y9,())=some Th/\k5 (Th,IntKind.i64.wrap (v4.2.1+(1:Int)),()))) (P (v4.1,c.1,()))) (p,l,PUnit.unit))=fnW Qf (look [(76,Cn),(156,Hz)]) kM Tryz.f144 (c,l,p,()) P:=by kernel_rfl
abbrev z0:Type:=List Int×Int×List (List (Option (List Int)))×List (List (Option (List Int)))×Int×PUnit
theorem UI (n:Int) (T G:List (List (Option (List Int)))) (l:Int) (p:List Int) (P:(Int×List (List (Option (List Int)))×List (List (Option (List Int)))×List Int×Int×Unit)×Unit->Prop):(0=0/\T.length=T.length/\0=0/\G.length=G.length/\Bk (λ(v6:z0) (k7:z0->Prop)=>Br (decide (v6.2.1<v6.2.2.2.2.1)) (((0:Int)<=v6.2.1/\v6.2.1<(↑v6.2.2.1.length:Int))/\ ∃(y8:Int),idx v6.1 v6.2.1=some y8/\((0:Int)<=y8/\y8<(↑(v6.2.2.1.getD (0+v6.2.1.toNat) []).length:Int))/\Br ((↑(((v6.2.2.1.getD (0+v6.2.1.toNat) []).getD y8.toNat (none:Option (List Int))).getD []).length:Int)==(0:Int)) ((0=0/\v6.2.2.1.length=v6.2.2.1.length)/\(0=0/\v6.2.2.2.1.length=v6.2.2.2.1.length)/\P ((v6.2.2.2.2.1,v6.2.2.1,v6.2.2.2.1,v6.1,v6.2.1,()),())) (∃(y9:List Int),Cn.fn (((v6.2.2.1.getD (0+v6.2.1.toNat) []).getD y8.toNat (none:Option (List Int))).getD [],())=some y9/\ ∃(Th:List Int),Hz.fn (v6.1,y9,())=some Th/\0=0/\v6.2.2.1.length=v6.2.2.1.length/\0=0/\v6.2.2.2.1.length=v6.2.2.2.1.length/\k7 (Th,IntKind.i64.wrap (v6.2.1+(1:Int)),v6.2.2.1,v6.2.2.2.1,v6.2.2.2.2.1,()))) ((0=0/\v6.2.2.1.length=v6.2.2.1.length)/\(0=0/\v6.2.2.2.1.length=v6.2.2.2.1.length)/\P ((v6.2.2.2.2.1,v6.2.2.1,v6.2.2.2.1,v6.1,v6.2.2.2.2.1,()),()))) (p,l,T,G,n,PUnit.unit))=fnMW Qf (look [(76,Cn),(156,Hz)]) eE Tryz.f144 (n,T,G,l,p,()) P:=by kernel_rfl
abbrev vT:Type:=Int×List (Option (List Int))×List (List (Option (List Int)))×List (List (Option (List Int)))×Int×PUnit
abbrev PT:Type:=(Int×List (List (Option (List Int)))×List (List (Option (List Int)))×List Int×Int×PUnit)×PUnit
abbrev Gt (y7:PT) (l:Int) (p:Option (List Int)) (n:Int):Prop:=0=0/\(y7.1.2.2.1.getD (0+l.toNat) []).length=(y7.1.2.2.1.getD (0+l.toNat) []).length/\(y7.1.2.2.1.getD (0+l.toNat) []).length+(List.take 1 (List.drop 0 [p])).length<=Bh/\((0:Int)<=l/\l<(↑y7.1.2.2.1.length:Int))/\0=0/\(y7.1.2.2.1.getD (0+l.toNat) []++List.take 1 (List.drop 0 [p])).length=(y7.1.2.2.1.getD (0+l.toNat) []++List.take 1 (List.drop 0 [p])).length/\0+l.toNat=0+l.toNat/\ [(0,y7.1.2.2.1.length),(0,y7.1.2.2.1.length),(0,y7.1.2.1.length),(0,y7.1.2.2.1.length)]= [(0,y7.1.2.2.1.length),(0,y7.1.2.2.1.length),(0,y7.1.2.1.length),(0,y7.1.2.2.1.length)]/\(l,p,y7.1.2.2.2.1,y7.1.2.2.2.2.1,l,n,decide (l>=n),l,p,y7.1.2.2.2.1,y7.1.2.2.2.2.1,y7.1.2.2.2.2.1,y7.1.1,y7.1.2.2.2.2.1==y7.1.1,l,l,0+l.toNat,p,List.take 1 (List.drop 0 [p]),0+l.toNat,y7.1.2.1,y7.1.2.2.1.set (0+l.toNat) (y7.1.2.2.1.getD (0+l.toNat) []++List.take 1 (List.drop 0 [p])),y7.1.1,())=(l,p,y7.1.2.2.2.1,y7.1.2.2.2.2.1,l,n,decide (l>=n),l,p,y7.1.2.2.2.1,y7.1.2.2.2.2.1,y7.1.2.2.2.2.1,y7.1.1,y7.1.2.2.2.2.1==y7.1.1,l,l,0+l.toNat,p,List.take 1 (List.drop 0 [p]),0+l.toNat,y7.1.2.1,y7.1.2.2.1.set (0+l.toNat) (y7.1.2.2.1.getD (0+l.toNat) []++List.take 1 (List.drop 0 [p])),y7.1.1,PUnit.unit)
theorem Aem {m:Nat} (n:Int) (T G:List (List (Option (List Int)))) (l:Int) (p:Option (List Int)) (P:(Int×List (List (Option (List Int)))×List (List (Option (List Int)))×Unit)×Unit->Prop):(Br (decide (l>=n)) ((0=0/\T.length=T.length)/\(0=0/\G.length=G.length)/\P ((n,T,G,()),())) (0=0/\T.length=T.length/\0=0/\G.length=G.length/\ ∃(y7:PT),eE.fn (n,T,G,l,p.getD [],())=some y7/\Br (y7.1.2.2.2.2.1==y7.1.1) ((0=0/\y7.1.2.1.length=y7.1.2.1.length)/\(0=0/\y7.1.2.2.1.length=y7.1.2.2.1.length)/\P ((y7.1.1,y7.1.2.1,y7.1.2.2.1,()),())) (((0:Int)<=l/\l<(↑y7.1.2.2.1.length:Int))/\0=0/\(y7.1.2.2.1.getD (0+l.toNat) []).length=(y7.1.2.2.1.getD (0+l.toNat) []).length/\(y7.1.2.2.1.getD (0+l.toNat) []).length+(List.take 1 (List.drop 0 [p])).length<=Bh/\((0:Int)<=l/\l<(↑y7.1.2.2.1.length:Int))/\0=0/\(y7.1.2.2.1.getD (0+l.toNat) []++List.take 1 (List.drop 0 [p])).length=(y7.1.2.2.1.getD (0+l.toNat) []++List.take 1 (List.drop 0 [p])).length/\0+l.toNat=0+l.toNat/\(0=0/\0=([]:List Int).length/\0=0/\y7.1.2.1.length=y7.1.2.1.length/\0=0/\y7.1.2.2.1.length=(y7.1.2.2.1.set (0+l.toNat) (y7.1.2.2.1.getD (0+l.toNat) []++List.take 1 (List.drop 0 [p]))).length/\Bk (λ(v8:vT) (k9:vT->Prop)=>Br (decide (v8.1<v8.2.2.2.2.1)) (((0:Int)<=l/\l<(↑v8.2.2.1.length:Int))/\((0:Int)<=v8.1/\v8.1<(↑(v8.2.2.1.getD (0+l.toNat) []).length:Int))/\Br (decide ((↑(((v8.2.2.1.getD (0+l.toNat) []).getD v8.1.toNat (none:Option (List Int))).getD []).length:Int)>(0:Int))) (((0:Int)<=l/\l<(↑v8.2.2.1.length:Int))/\((0:Int)<=v8.1/\v8.1<(↑(v8.2.2.1.getD (0+l.toNat) []).length:Int))/\0=0/\v8.2.1.length=v8.2.1.length/\v8.2.1.length+(List.take 1 (List.drop 0 [(v8.2.2.1.getD (0+l.toNat) []).getD v8.1.toNat none])).length<=Bh/\0=0/\(v8.2.1++List.take 1 (List.drop 0 [(v8.2.2.1.getD (0+l.toNat) []).getD v8.1.toNat none])).length=(v8.2.1++List.take 1 (List.drop 0 [(v8.2.2.1.getD (0+l.toNat) []).getD v8.1.toNat none])).length/\0=0/\v8.2.2.1.length=v8.2.2.1.length/\0=0/\v8.2.2.2.1.length=v8.2.2.2.1.length/\k9 (IntKind.i64.wrap (v8.1+(1:Int)),v8.2.1++List.take 1 (List.drop 0 [(v8.2.2.1.getD (0+l.toNat) []).getD v8.1.toNat none]),v8.2.2.1,v8.2.2.2.1,v8.2.2.2.2.1,())) (0=0/\v8.2.1.length=v8.2.1.length/\0=0/\v8.2.2.1.length=v8.2.2.1.length/\0=0/\v8.2.2.2.1.length=v8.2.2.2.1.length/\k9 (IntKind.i64.wrap (v8.1+(1:Int)),v8.2.1,v8.2.2.1,v8.2.2.2.1,v8.2.2.2.2.1,()))) (0=0/\v8.2.1.length=v8.2.1.length/\0=0/\v8.2.2.1.length=v8.2.2.1.length/\0=0/\v8.2.2.2.1.length=v8.2.2.2.1.length/\Bk (λ(v10:vT) (k11:vT->Prop)=>Br (decide (v10.1<(↑v10.2.1.length:Int))) (((0:Int)<=v10.1/\v10.1<(↑v10.2.1.length:Int))/\ ∃(l6:Option (List Int)),v10.2.1[0+v10.1.toNat]?=some l6/\ ∃(qg:Option (List Int)),Fg.fn (l6.getD [],p.getD [],())=some qg/\0=0/\v10.2.2.1.length=v10.2.2.1.length/\0=0/\v10.2.2.2.1.length=v10.2.2.2.1.length/\ ∃(bx:(Int×List (List (Option (List Int)))×List (List (Option (List Int)))×PUnit)×PUnit),(Zz m).fn (v10.2.2.2.2.1,v10.2.2.1,v10.2.2.2.1,l,qg,())=some bx/\0=0/\v10.2.1.length=v10.2.1.length/\0=0/\bx.1.2.1.length=bx.1.2.1.length/\0=0/\bx.1.2.2.1.length=bx.1.2.2.1.length/\k11 (IntKind.i64.wrap (v10.1+(1:Int)),v10.2.1,bx.1.2.1,bx.1.2.2.1,bx.1.1,())) ((0=0/\v10.2.2.1.length=v10.2.2.1.length)/\(0=0/\v10.2.2.2.1.length=v10.2.2.2.1.length)/\P ((v10.2.2.2.2.1,v10.2.2.1,v10.2.2.2.1,()),()))) ((0:Int),v8.2.1,v8.2.2.1,v8.2.2.2.1,v8.2.2.2.2.1,PUnit.unit))) ((0:Int),[],y7.1.2.1,y7.1.2.2.1.set (0+l.toNat) (y7.1.2.2.1.getD (0+l.toNat) []++List.take 1 (List.drop 0 [p])),y7.1.1,PUnit.unit))/\(((((0:Int)<=l/\l<(↑y7.1.2.2.1.length:Int))/\((Gt y7 l p n))/\(Gt y7 l p n))/\((0:Int)<=l/\l<(↑y7.1.2.2.1.length:Int))/\(Gt y7 l p n))/\((0:Int)<=l/\l<(↑y7.1.2.2.1.length:Int))/\(Gt y7 l p n))/\(((((0:Int)<=l/\l<(↑y7.1.2.2.1.length:Int))/\((Gt y7 l p n))/\(Gt y7 l p n))/\((0:Int)<=l/\l<(↑y7.1.2.2.1.length:Int))/\(Gt y7 l p n))/\(((0:Int)<=l/\l<(↑y7.1.2.2.1.length:Int))/\(((Gt y7 l p n))/\(Gt y7 l p n))/\(((Gt y7 l p n))/\((Gt y7 l p n))/\(Gt y7 l p n))/\((Gt y7 l p n))/\((Gt y7 l p n))/\(Gt y7 l p n))/\(((0:Int)<=l/\l<(↑y7.1.2.2.1.length:Int))/\(Gt y7 l p n))/\((0:Int)<=l/\l<(↑y7.1.2.2.1.length:Int))/\((Gt y7 l p n))/\((Gt y7 l p n))/\(Gt y7 l p n))/\(((0:Int)<=l/\l<(↑y7.1.2.2.1.length:Int))/\(Gt y7 l p n))/\(((0:Int)<=l/\l<(↑y7.1.2.2.1.length:Int))/\(Gt y7 l p n))/\((0:Int)<=l/\l<(↑y7.1.2.2.1.length:Int))/\((Gt y7 l p n))/\((Gt y7 l p n))/\(Gt y7 l p n))))=fnMW (QC [dY+46]) (look [(144,eE),(156,Fg),(157,Mn.m (Zz m))]) (jf (m+1)) Tryz.f146 (n,T,G,l,p,()) P:=by kernel_rfl
abbrev PR:Type:=(Int×List (List (Option (List Int)))×List (List (Option (List Int)))×PUnit)×PUnit
abbrev PU:Type:=Int×List (List (Option (List Int)))×List (List (Option (List Int)))×Int×PUnit
theorem Aen {m:Nat} (n:Int) (T G:List (List (Option (List Int)))) (l:Int) (p:Option (List Int)) (P:(Int×List (List (Option (List Int)))×List (List (Option (List Int)))×Unit)×Unit->Prop):(((0:Int)<=l/\l<(↑T.length:Int))/\ ∃(y7:Int),idx (p.getD []) l=some y7/\((0:Int)<=y7/\y7<(↑(T.getD (0+l.toNat) []).length:Int))/\Br (decide ((↑(((T.getD (0+l.toNat) []).getD y7.toNat (none:Option (List Int))).getD []).length:Int)>(0:Int))) (∃(y8:List Int),Cn.fn (((T.getD (0+l.toNat) []).getD y7.toNat (none:Option (List Int))).getD [],())=some y8/\ ∃(y9:Option (List Int)),Fg.fn (p.getD [],y8,())=some y9/\0=0/\T.length=T.length/\0=0/\G.length=G.length/\ ∃(Th:PR),(jf m).fn (n,T,G,IntKind.i64.wrap (l+(1:Int)),y9,())=some Th/\(0=0/\Th.1.2.1.length=Th.1.2.1.length)/\(0=0/\Th.1.2.2.1.length=Th.1.2.2.1.length)/\P ((Th.1.1,Th.1.2.1,Th.1.2.2.1,()),())) (((0:Int)<=l/\l<(↑T.length:Int))/\ ∃(y8:Int),idx (p.getD []) l=some y8/\((0:Int)<=y8/\y8<(↑(T.getD (0+l.toNat) []).length:Int))/\0=0/\T.length=(T.set (0+l.toNat) ((T.getD (0+l.toNat) []).set y8.toNat p)).length/\0=0/\G.length=G.length/\Bk (λ(v9:PU) (k10:PU->Prop)=>((0:Int)<=l/\l<(↑v9.2.2.1.length:Int))/\Br (decide (v9.1<(↑(v9.2.2.1.getD (0+l.toNat) []).length:Int))) (((0:Int)<=l/\l<(↑v9.2.2.1.length:Int))/\((0:Int)<=v9.1/\v9.1<(↑(v9.2.2.1.getD (0+l.toNat) []).length:Int))/\ ∃(m5:Option (List Int)),Fg.fn (p.getD [],((v9.2.2.1.getD (0+l.toNat) []).getD v9.1.toNat (none:Option (List Int))).getD [],())=some m5/\0=0/\v9.2.1.length=v9.2.1.length/\0=0/\v9.2.2.1.length=v9.2.2.1.length/\ ∃(l6:PR),(Zz m).fn (v9.2.2.2.1,v9.2.1,v9.2.2.1,l,m5,())=some l6/\0=0/\l6.1.2.1.length=l6.1.2.1.length/\0=0/\l6.1.2.2.1.length=l6.1.2.2.1.length/\k10 (IntKind.i64.wrap (v9.1+(1:Int)),l6.1.2.1,l6.1.2.2.1,l6.1.1,())) ((0=0/\v9.2.1.length=v9.2.1.length)/\(0=0/\v9.2.2.1.length=v9.2.2.1.length)/\P ((v9.2.2.2.1,v9.2.1,v9.2.2.1,()),()))) ((0:Int),T.set (0+l.toNat) ((T.getD (0+l.toNat) []).set y8.toNat p),G,n,PUnit.unit)))=fnMW Qf (look [(76,Cn),(156,Fg),(146,Mn.m (jf m)),(157,Mn.m (Zz m))]) (Zz (m+1)) Tryz.f157 (n,T,G,l,p,()) P:=by kernel_rfl
theorem GY {p q:List Int} {j:Nat} (h:j<p.length):(Aa p q).take (j+1)=(Aa p q).take j++ [Io q p[j]]:=by
 unfold Aa
 rw [List.take_succ_eq_append_getElem (by rw [List.length_map];exact h),List.getElem_map]
theorem qU (p q:List Int) (h:List.length p<=20/\Hw (List.length q) p):fnW Ck (look []) Uz Tryz.f156 (p,q,()) (λ(z:List Int)=>z=Aa p q):=by
 obtain ⟨h1,h2⟩:=h
 refine Eq.mp (rS p q _) ⟨rfl,rfl,?_⟩
 refine Ag p.length (λv=>v.1) (λj v=>v=((j:Int),(Aa p q).take j,())) rfl rfl ?_
 rintro j v K hj hi rfl hK
 dsimp only
 have hlen:((Aa p q).take j).length<=20:=by rw [List.length_take];unfold Aa;rw [List.length_map];omega
 refine Br.dec (λhl=>?_) λhl=>?_
 ·have hl:j<p.length:=by omega
  have hr:=h2 p[j] (List.getElem_mem hl)
  refine ⟨_,Ap hl,Io q p[j],cX hr.1 hr.2,rfl,rfl,?_,rfl,rfl,?_⟩
  ·show ((Aa p q).take j).length+1<=4294967296
   omega
  ·rw [Ah (by omega)]
   refine hK hl _ rfl ?_
   rw [GY hl]
   rfl
 ·have:j=p.length:=by omega
  subst this
  rw [Ay,<-Jv p q,List.take_length]
theorem Ya:Sound Tryz.prog 156 Uz:=
 Sound.Cu Bj Ai mixed Tryz.func156 (by kernel_rfl) (by kernel_rfl) λx h=>qU x.1 x.2.1 h
theorem Wo:Sound Tryz.prog 156 Hz:=Sound.loose Ya
theorem Wp:Sound Tryz.prog 156 Fg:=Sound.toO Ya λx h=>⟨⟨h.1.2,h.2⟩,λe=>by
 have:=Jv x.1 x.2.1
 rw [e] at this
 have:=h.1.1
 simp only [List.length_nil] at*
 omega⟩
theorem tn {N L i:Nat} {G T:Ax} {p:List Int} (n2:N<=20) (v3:eM N (N-L) L (G,T)) (v2:T.length=N) (h1:L<=i) (hl:i<N) (h4:Pm N p) (h5:Fx i p):
  ∃o,idx p (i:Int)=some (ap p i:Int)/\T[i]?=some (T.getD i [])/\ap p i<(T.getD i []).length/\(T.getD i [])[ap p i]?=some o/\(T.getD i []).getD (ap p i) none=o/\
   (o=none->(o.getD []).length=0/\ ∀k,Ja T (k+1) i p=(p,(i:Int),()))/\
   (∀t,o=some t->(t.length≠0/\t.length<=20/\Hw t.length t)/\(p.length<=20/\Hw (Af t).length p)/\Pm N (Aa p (Af t))/\Fx (i+1) (Aa p (Af t))/\ ∀k,Ja T (k+1) i p=Ja T k (i+1) (Aa p (Af t))):=by
 have Gh:=nL (N-L) L v3 i h1 (by omega)
 have hT:i<T.length:=by omega
 have hlen:(T.getD i []).length=N:=Gh.rl
 obtain ⟨a1,a2⟩:=h4.Ue hl
 have hg:(Io p (i:Int)).toNat=ap p i:=rfl
 refine ⟨(T.getD i []).getD (ap p i) none,?_,?_,by omega,?_,rfl,λho=>?_,λt ho=>?_⟩
 ·rw [<-a1,Hu (by rw [h4.1];exact hl)];exact Ap (by rw [h4.1];exact hl)
 ·rw [List.getD_eq_getElem?_getD,List.getElem?_eq_getElem hT];rfl
 ·rw [List.getD_eq_getElem?_getD (l:=T.getD i []),List.getElem?_eq_getElem (by omega)];rfl
 ·refine ⟨by rw [ho];rfl,λk=>?_⟩
  simp only [Ja,hg,ho]
 ·obtain ⟨t1,t2,t3,t4⟩:=Gh.rt _ _ ho
  have hn1:=h4.n1
  refine ⟨⟨by rw [t1.1];omega,by rw [t1.1];exact n2,t1.2.row⟩,⟨by rw [h4.1];exact n2,by rw [iO,t1.1];exact h4.row⟩,h4.comp t1.inv,Fx.div h4 t1 h5 t2 hl t3,λk=>?_⟩
  simp only [Ja,hg,ho]
theorem Aa7 (c:Int×List (List (Option (List Int)))×List (List (Option (List Int)))×Unit) (l:Int) (p:List Int) (h: ∃N L,Pd N L c.1 c.2.2.1 c.2.1 l p):
  fnW Qf (look [(76,Cn),(156,Hz)]) kM Tryz.f144 (c,l,p,()) (λ(z:List Int×Int×Unit)=>z=Ja c.2.1 (c.1-l).toNat l.toNat p):=by
 obtain ⟨n,T,G,⟨⟩⟩:=c
 obtain ⟨N,L,h⟩:=h
 obtain ⟨n1,n2,en,el,hle,v,pm,fx⟩:=h
 dsimp only at en el v⊢
 subst en el
 refine Eq.mp (Aaw ((N:Int),T,G,()) (L:Int) p _) ?_
 obtain ⟨v1,v2,v3,v4⟩:=v
 dsimp only at v1 v2
 refine ⟨λv=> ∃i:Nat,L<=i/\i<=N/\v.2.1=i/\Pm N v.1/\Fx i v.1/\Ja T (N-i) i v.1=Ja T (N-L) L p,λv=>N-v.2.1.toNat,⟨L,Nat.le_refl _,hle,rfl,pm,fx,rfl⟩,?_⟩
 rintro ⟨p',i',⟨⟩⟩ ⟨i,h1,h2,h3,h4,h5,h6⟩
 dsimp only at h3 h4 h5 h6⊢
 subst h3
 rw [show (((N:Int)-(L:Int)).toNat)=N-L by omega,show ((L:Int)).toNat=L by omega,<-h6]
 refine Br.dec (λhl=>?_) λhl=>?_
 ·have hl:i<N:=by omega
  obtain ⟨o,s1,s2,s3,s4,s5,s6,s7⟩:=tn n2 v3 v2 h1 hl h4 h5
  have hT:i<T.length:=by omega
  refine ⟨T.getD i [],by rw [Ap hT,<-s2,List.getElem?_eq_getElem hT],_,s1,o,by rw [Ap s3,<-s4,List.getElem?_eq_getElem s3],?_⟩
  rw [show N-i=(N-i-1)+1 by omega]
  cases o with
  |none=>
   rw [(s6 rfl).2]
   exact Br.of (λ_=>rfl) λhb=>by simp at hb
  |some t=>
   obtain ⟨⟨q1,q2⟩,q3,q4,q5,q6⟩:=s7 t rfl
   refine Br.of (λhb=>absurd (by simpa using hb) q1) λ_=>?_
   refine ⟨_,if_pos q2,_,if_pos q3,⟨i+1,by omega,by omega,Ah (by omega),q4,q5,?_⟩,?_⟩
   ·rw [q6,show N-(i+1)=N-i-1 by omega];rfl
   ·show N-(IntKind.i64.wrap ((i:Int)+1)).toNat<N-((i:Int)).toNat
    rw [Ah (by omega)]
    omega
 ·have:i=N:=by omega
  subst this
  rw [Nat.sub_self]
  rfl
theorem DN:Sound Tryz.prog 144 kM:=
 Sound.Cu gV (Ae Sj (Ae Wo Ai)) mixed Tryz.func144 (by kernel_rfl) (by kernel_rfl) λx h=>Aa7 x.1 x.2.1 x.2.2.1 h
theorem TL (n:Int) (T G:List (List (Option (List Int)))) (l:Int) (p:List Int) (h: ∃N L,Pd N L n G T l p):
  fnMW Qf (look [(76,Cn),(156,Hz)]) eE Tryz.f144 (n,T,G,l,p,()) (λ(z:(Int×List (List (Option (List Int)))×List (List (Option (List Int)))×List Int×Int×Unit)×Unit)=>z=((n,T,G,(Ja T (n-l).toNat l.toNat p).1,(Ja T (n-l).toNat l.toNat p).2.1,()),())):=by
 obtain ⟨N,L,h⟩:=h
 obtain ⟨n1,n2,en,el,hle,v,pm,fx⟩:=h
 subst en el
 refine Eq.mp (UI (N:Int) T G (L:Int) p _) ⟨rfl,rfl,rfl,rfl,?_⟩
 obtain ⟨v1,v2,v3,v4⟩:=v
 dsimp only at v1 v2
 refine ⟨λv=> ∃i:Nat,L<=i/\i<=N/\v.2=((i:Int),T,G,(N:Int),())/\Pm N v.1/\Fx i v.1/\Ja T (N-i) i v.1=Ja T (N-L) L p,λv=>N-v.2.1.toNat,⟨L,Nat.le_refl _,hle,rfl,pm,fx,rfl⟩,?_⟩
 rintro ⟨p',v'⟩ ⟨i,h1,h2,h3,h4,h5,h6⟩
 dsimp only at h3 h4 h5 h6⊢
 subst h3
 dsimp only
 rw [show (((N:Int)-(L:Int)).toNat)=N-L by omega,show ((L:Int)).toNat=L by omega,<-h6]
 refine Br.dec (λhl=>?_) λhl=>?_
 ·have hl:i<N:=by omega
  obtain ⟨o,s1,s2,s3,s4,s5,s6,s7⟩:=tn n2 v3 v2 h1 hl h4 h5
  simp only [Int.toNat_natCast,Nat.zero_add,true_and,and_true]
  refine ⟨⟨by omega,by omega⟩,_,s1,⟨by omega,by omega⟩,?_⟩
  rw [Int.toNat_natCast,s5,show N-i=(N-i-1)+1 by omega]
  cases o with
  |none=>
   rw [(s6 rfl).2]
   exact Br.of (λ_=>rfl) λhb=>by simp at hb
  |some t=>
   obtain ⟨⟨q1,q2⟩,q3,q4,q5,q6⟩:=s7 t rfl
   refine Br.of (λhb=>absurd (by simpa using hb) q1) λ_=>?_
   refine ⟨_,if_pos q2,_,if_pos q3,⟨i+1,by omega,by omega,?_,q4,q5,?_⟩,?_⟩
   ·rw [Ah (by omega)]
   ·rw [q6,show N-(i+1)=N-i-1 by omega];rfl
   ·show N-(IntKind.i64.wrap ((i:Int)+1)).toNat<N-i-1+1
    rw [Ah (by omega)]
    omega
 ·have:i=N:=by omega
  subst this
  rw [Nat.sub_self]
  exact ⟨⟨rfl,rfl⟩,⟨rfl,rfl⟩,rfl⟩
theorem yT:Au Tryz.prog 144 eE:=
 Au.hY gV (Ae Sj (Ae Wo Ai)) mixed Tryz.func144 (by kernel_rfl) (by kernel_rfl) λx h=>TL x.1 x.2.1 x.2.2.1 x.2.2.2.1 x.2.2.2.2.1 h
theorem Adz {m:Nat} (n:Int) (T G:List (List (Option (List Int)))) (l:Int) (p:Option (List Int)) (h:(∃N L q,p=some q/\UL N L n G T l q)/\hZ n.toNat l.toNat (G,T)<m+1):
  fnMW Qf (look [(76,Cn),(156,Fg),(146,Mn.m (jf m)),(157,Mn.m (Zz m))]) (Zz (m+1)) Tryz.f157 (n,T,G,l,p,()) (λ(z:(Int×List (List (Option (List Int)))×List (List (Option (List Int)))×Unit)×Unit)=>z=((n,(bC n.toNat 1000 l.toNat (p.getD []) (G,T)).2,(bC n.toNat 1000 l.toNat (p.getD []) (G,T)).1,()),())):=by
 obtain ⟨⟨N,L,q,rfl,h⟩,hm⟩:=h
 obtain ⟨n1,n2,en,el,Fc,part,pm,fx,gn,gl⟩:=h
 subst en el
 refine Eq.mp (Aen (N:Int) T G (L:Int) (some q) _) ?_
 have l1:G.length=N:=part.l1
 have l2:T.length=N:=part.l2
 have row:=part.row
 dsimp only at row
 have VZ:=row.rl
 have hy:=pm.lt Fc
 simp only [Int.toNat_natCast,Nat.zero_add,Option.getD_some,true_and,and_true,List.length_set] at hm⊢
 refine ⟨⟨by omega,by omega⟩,_,uj pm Fc,⟨by omega,by omega⟩,?_⟩
 simp only [Int.toNat_natCast]
 rcases Option.eq_none_or_eq_some ((T.getD L []).getD (ap q L) none) with Gh|⟨t,Gh⟩
 case inr=>
  obtain ⟨t1,t2,t3,t4⟩:=row.rt _ _ Gh
  have htl:=t1.1
  refine Br.dec (λ_=>?_) λhb=>?_
  ·rw [Gh,Option.getD_some]
   have hw:IntKind.i64.wrap ((L:Int)+1)=((L+1:Nat):Int):=Ah (by omega)
   rw [hw]
   have RK:=OE (s:=(G,T)) Fc
   refine ⟨_,if_pos ⟨by show t.length<=20;omega,t1.2.row⟩,some (Aa q (Af t)),if_pos ⟨Ql pm,kG pm t1.inv⟩,_,
    if_pos ⟨⟨N,L+1,_,rfl,n1,n2,rfl,rfl,by omega,part.v,pm.comp t1.inv,Fx.div pm t1 fx t2 Fc t3⟩,by show GD (N:Int).toNat ((L+1:Nat):Int).toNat<m;rw [Int.toNat_natCast,Int.toNat_natCast];omega⟩,?_⟩
   simp only [Int.toNat_natCast,Option.getD_some]
   rw [LU n1 n2 Fc part pm fx Gh]
  ·rw [Gh,Option.getD_some] at hb
   omega
 case inl=>
  refine Br.dec (λhb=>by rw [Gh] at hb;simp at hb) λ_=>?_
  obtain ⟨a1,a2⟩:=wF Fc part pm fx gn Gh
  have og:=LS n1 n2 Fc part pm fx gn Gh
  have RK:=TD (n:=N) (q:=q) (s:=(G,T)) (k:=L) (y:=ap q L) (by show L<T.length;omega) (by show ap q L<(T.getD L []).length;omega) Gh
  have run:= λj=>sl n1 n2 Fc a1 a2 j
  dsimp only at a1 a2 og RK run
  refine ⟨⟨by omega,by omega⟩,_,uj pm Fc,⟨by omega,by omega⟩,?_⟩
  simp only [Int.toNat_natCast]
  rw [og]
  generalize YZ:((G,T.set L ((T.getD L []).set (ap q L) (some q))):Ax×Ax)=s0 at RK run⊢
  have ZA:T.set L ((T.getD L []).set (ap q L) (some q))=s0.2:=by rw [<-YZ]
  have NA:G=s0.1:=by rw [<-YZ]
  have YV:((G.getD L []).map λo=>Aa q (o.getD [])).length=(G.getD L []).length:=List.length_map _
  refine Ag (G.getD L []).length (λv=>v.1) (λj v=> ∃s:Ax×Ax,v=((j:Int),s.2,s.1,(N:Int),())/\s=cM N L (((G.getD L []).map λo=>Aa q (o.getD [])).take j) s0) rfl ⟨s0,by rw [<-NA,ZA];rfl,rfl⟩ ?_
  rintro j v K hj hi ⟨s,rfl,hs⟩ hK
  have hr:=run j
  rw [<-hs] at hr
  have g1:s.1.getD L []=G.getD L []:=by rw [hr.same,NA]
  have g2:s.1.length=N:=hr.part.l1
  have g4:hZ N L (s.1,s.2)<=hZ N L s0:=hr.mu
  dsimp only
  simp only [g1]
  refine ⟨⟨by omega,by omega⟩,Br.dec (λhl=>?_) λhl=>?_⟩
  ·have hl:j<(G.getD L []).length:=by omega
   obtain ⟨g,jH,Ng,VL⟩:=part.pg _ (List.getElem_mem hl)
   have hgj:(G.getD L []).getD j none=some g:=by rw [xl hl];exact jH
   have hqj:(((G.getD L []).map λo=>Aa q (o.getD []))[j]'(by rw [YV];exact hl))=Aa q g:=by rw [List.getElem_map,jH];rfl
   obtain ⟨b1,b2,b3⟩:=a2 (Aa q g) (by rw [<-hqj];exact List.getElem_mem _)
   simp only [Int.toNat_natCast,hgj,Option.getD_some]
   refine ⟨⟨by omega,by omega⟩,⟨by omega,by omega⟩,some (Aa q g),if_pos ⟨Ql pm,kG pm Ng⟩,_,
    if_pos ⟨⟨N,L,_,rfl,n1,n2,rfl,rfl,Fc,hr.part,b1,b2,by rw [g1];exact b3,by rw [g1];exact gl⟩,by show hZ (N:Int).toNat (L:Int).toNat (s.1,s.2)<m;rw [Int.toNat_natCast,Int.toNat_natCast];omega⟩,?_⟩
   simp only [Int.toNat_natCast,Option.getD_some]
   rw [Ah (by omega)]
   refine hK hl _ rfl ⟨_,rfl,?_⟩
   rw [nV (by rw [YV];exact hl),<-hs,hqj]
  ·have:j=(G.getD L []).length:=by omega
   subst this
   rw [<-YV,List.take_length] at hs
   rw [hs]
theorem PK {m:Nat} (ZL:Au Tryz.prog 146 (jf m)) (AZ:Au Tryz.prog 157 (Zz m)):Au Tryz.prog 157 (Zz (m+1)):=
 Au.hY gV (Ae Sj (Ae Wp (Cr ZL (Cr AZ Ai)))) mixed Tryz.func157 (by kernel_rfl) (by kernel_rfl) λx h=>Adz x.1 x.2.1 x.2.2.1 x.2.2.2.1 x.2.2.2.2.1 h
theorem Ady {m:Nat} (n:Int) (T G:List (List (Option (List Int)))) (l:Int) (p:Option (List Int)) (h:(∃N L q,p=some q/\Pd N L n G T l q)/\GD n.toNat l.toNat<m+1):
  fnMW (QC [dY+46]) (look [(144,eE),(156,Fg),(157,Mn.m (Zz m))]) (jf (m+1)) Tryz.f146 (n,T,G,l,p,()) (λ(z:(Int×List (List (Option (List Int)))×List (List (Option (List Int)))×Unit)×Unit)=>z=((n,(eN n.toNat 1000 l.toNat (p.getD []) (G,T)).2,(eN n.toNat 1000 l.toNat (p.getD []) (G,T)).1,()),())):=by
 obtain ⟨⟨N,L,q,rfl,h⟩,hm⟩:=h
 have h':=h
 obtain ⟨n1,n2,en,el,hle,v,pm,fx⟩:=h
 subst en el
 have hk:((N:Int)-(L:Int)).toNat=N-L:=by omega
 have back: ∀s:Ax×Ax,eN N 1000 L q (G,T)=s->((((N:Int),s.2,s.1,()),()):(Int×Ax×Ax×Unit)×Unit)=((((N:Int),(eN N 1000 L q (G,T)).2,(eN N 1000 L q (G,T)).1,()),()):(Int×Ax×Ax×Unit)×Unit):= λs e=>by rw [e]
 refine Eq.mp (Aem (N:Int) T G (L:Int) (some q) _) ?_
 simp only [Int.toNat_natCast,Nat.zero_add,Option.getD_some,true_and,and_true] at hm⊢
 refine Br.dec (λjH=>?_) λFc=>?_
 ·exact back (G,T) (ET (by rw [show N-L=0 by omega];rfl))
 have Fc:L<N:=by omega
 have hv:=v
 obtain ⟨v1,v2,v3,v4⟩:=v
 dsimp only at v1 v2
 have hsl:(Ja T (N-L) L q).2.1=(N:Int)↔Ee T (N-L) L q=true:=by
  have:=pf (T:=T) (N-L) L q
  rw [show L+(N-L)=N by omega] at this
  exact this
 refine ⟨_,if_pos ⟨N,L,h'⟩,?_⟩
 simp only [Gt]
 simp only [hk,Int.toNat_natCast]
 refine Br.of (λhh=>?_) λhh=>?_
 ·exact back (G,T) (ET (hsl.1 (eq_of_beq hh)))
 have SO: ¬Ee T (N-L) L q=true:= λhc=>by rw [hsl.2 hc] at hh;simp at hh
 have xD:=LR n1 n2 (s:=(G,T)) Fc hv pm fx SO
 obtain ⟨a1,a2⟩:=wE n1 n2 (s:=(G,T)) Fc hv pm fx
 have hgl:(G.getD L []).length<=400:=by
  obtain ⟨k,hk1⟩: ∃k,N-L=k+1:=⟨N-L-1,by omega⟩
  rw [hk1] at hv
  exact FH n2 (by omega) hv
 have e1:(0:Int)<=(L:Int)/\(L:Int)<(G.length:Int):=by omega
 have e2:(G.getD L []).length+1<=Bh:=by show _<=4294967296;omega
 have row:=a1.row
 dsimp only at row a1 a2 xD
 have VZ:=row.rl
 have run:= λj=>sl n1 n2 Fc a1 a2 j
 have RK:=BR a1
 simp only [List.drop_zero,List.take_succ_cons,List.take_zero,List.length_cons,List.length_nil,List.length_set,Nat.zero_add,e1,e2,and_self,true_and,and_true]
 have XN:(G.set L (G.getD L []++ [some q])).getD L []=G.getD L []++ [some q]:=Ym G L (by omega) _
 generalize YZ:((G.set L (G.getD L []++ [some q]),T):Ax×Ax)=s0 at RK run xD⊢
 have NA:G.set L (G.getD L []++ [some q])=s0.1:=by rw [<-YZ]
 have ZA:T=s0.2:=by rw [<-YZ]
 refine Ag N (λv=>v.1) (λy v=>v=((y:Int),(known ((T.getD L []).take y)).map some,T,G.set L (G.getD L []++ [some q]),(N:Int),())) rfl rfl ?_
 rintro y v K hj hi rfl hK
 dsimp only
 refine Br.dec (λhl=>?_) λhl=>?_
 ·have hl:y<N:=by omega
  have hy:y<(T.getD L []).length:=by omega
  have RG:=BL hy
  have Ma:=sI ((T.getD L []).take y)
  rw [List.length_take] at Ma
  have hye:(T.getD L []).getD y none=(T.getD L [])[y]:=xl hy
  simp only [Int.toNat_natCast]
  refine ⟨by omega,⟨by omega,by omega⟩,?_⟩
  rcases Option.eq_none_or_eq_some ((T.getD L []).getD y none) with ho|⟨t,ho⟩
  ·refine Br.dec (λhb=>by rw [ho] at hb;simp at hb) λ_=>?_
   rw [Ah (by omega)]
   refine hK hl _ rfl ?_
   rw [RG,<-hye,ho]
   simp
  ·obtain ⟨t1,t2,t3,t4⟩:=row.rt _ _ ho
   have htl:=t1.1
   refine Br.dec (λ_=>?_) λhb=>by rw [ho,Option.getD_some] at hb;omega
   refine ⟨by omega,⟨by omega,by omega⟩,?_,?_⟩
   ·show _<=4294967296
    rw [List.length_map];omega
   ·rw [Ah (by omega)]
    refine hK hl _ rfl ?_
    rw [RG,<-hye,ho]
    simp
 ·have:y=N:=by omega
  subst this
  have MU:(T.getD L []).take y=T.getD L []:=List.take_of_length_le (by omega)
  rw [MU]
  have YV:((known (T.getD L [])).map λu=>Aa u q).length=(known (T.getD L [])).length:=List.length_map _
  have Ma:=sI (T.getD L [])
  refine Ag (known (T.getD L [])).length (λv=>v.1) (λj v=> ∃s:Ax×Ax,v=((j:Int),(known (T.getD L [])).map some,s.2,s.1,(y:Int),())/\s=cM y L (((known (T.getD L [])).map λu=>Aa u q).take j) s0) rfl ⟨s0,by rw [<-ZA,NA];rfl,rfl⟩ ?_
  rintro j v K' mg mV ⟨s,rfl,hs⟩ SC
  have hr:=run j
  rw [<-hs] at hr
  have g1:s.1.getD L []=G.getD L []++ [some q]:=by rw [hr.same,<-NA];exact XN
  have g4:hZ y L (s.1,s.2)<=hZ y L s0:=hr.mu
  dsimp only
  refine Br.dec (λGe=>?_) λGe=>?_
  ·rw [List.length_map] at Ge
   have Ge:j<(known (T.getD L [])).length:=by omega
   obtain ⟨w,hw⟩:=ey.1 (List.getElem_mem Ge)
   obtain ⟨t1,t2,t3,t4⟩:=row.rt _ _ hw
   have hqj:(((known (T.getD L [])).map λu=>Aa u q)[j]'(by rw [YV];exact Ge))=Aa (known (T.getD L []))[j] q:=by rw [List.getElem_map]
   obtain ⟨b1,b2,b3⟩:=a2 (Aa (known (T.getD L []))[j] q) (by rw [<-hqj];exact List.getElem_mem _)
   simp only [Int.toNat_natCast]
   refine ⟨⟨by omega,by rw [List.length_map];omega⟩,some (known (T.getD L []))[j],by rw [List.getElem?_map,List.getElem?_eq_getElem Ge];rfl,some (Aa (known (T.getD L []))[j] q),if_pos ⟨Ql t1,kG t1 pm⟩,_,
    if_pos ⟨⟨y,L,_,rfl,n1,n2,rfl,rfl,Fc,hr.part,b1,b2,by rw [g1,<-XN];exact b3,by rw [g1,List.length_append,List.length_singleton];omega⟩,by show hZ (y:Int).toNat (L:Int).toNat (s.1,s.2)<m;rw [Int.toNat_natCast,Int.toNat_natCast];omega⟩,?_⟩
   simp only [Int.toNat_natCast,Option.getD_some]
   rw [Ah (by omega)]
   refine SC Ge _ rfl ⟨_,rfl,?_⟩
   rw [nV (by rw [YV];exact Ge),<-hs,hqj]
  ·rw [List.length_map] at Ge
   have:j=(known (T.getD L [])).length:=by omega
   subst this
   rw [<-YV,List.take_length] at hs
   exact back s (xD.trans hs.symm)
theorem PJ {m:Nat} (AZ:Au Tryz.prog 157 (Zz m)):Au Tryz.prog 146 (jf (m+1)):=
 Au.hY (UB [dY+46]) (Cr yT (Ae Wp (Cr AZ Ai))) mixed Tryz.func146 (by kernel_rfl) (by kernel_rfl) λx h=>Ady x.1 x.2.1 x.2.2.1 x.2.2.2.1 x.2.2.2.2.1 h
theorem JN:Au Tryz.prog 146 (jf 0)/\Au Tryz.prog 157 (Zz 0):=
 ⟨Au.hY Bj Ai mixed Tryz.func146 (by kernel_rfl) (by kernel_rfl) λ_ h=>absurd h.2 (Nat.not_lt_zero _),
  Au.hY Bj Ai mixed Tryz.func157 (by kernel_rfl) (by kernel_rfl) λ_ h=>absurd h.2 (Nat.not_lt_zero _)⟩
theorem eF: ∀m,Au Tryz.prog 146 (jf m)/\Au Tryz.prog 157 (Zz m)
 |0=>JN
 |m+1=>⟨PJ (eF m).2,PK (eF m).1 (eF m).2⟩
theorem DE:Au Tryz.prog 146 vq:=Au.WK (λx=>GD x.1.toNat x.2.2.2.1.toNat) λm=>(eF m).1
end Go.Proofs.YtfolipnappekaaaGreat

namespace Go.Proofs.YtfolipnappekaaaGreat
open Go.RowKit
noncomputable abbrev Xv:Spec:=Cu (.pair tL .unit) tO false true (λx=>short x.1/\1<=List.length x.1) (λx=>some x.1)
noncomputable abbrev ur:MSpec:= {Fk:= [none],ins:= [(false, .Dh tI)],Dn:=false,Ek:= [none,none,none],outs:= [.Dh tI, .Aj tO qf false, .Aj tO qf false],fn:= λ_=>none,rp:=some 153}
noncomputable abbrev Mk:MSpec:=hY ur (λx=>1<=x.1/\x.1<=20) (λx=>((x.1,Rw x.1.toNat,Na x.1.toNat,()),()))
noncomputable abbrev qz:MSpec:= {Fk:= [none,none],ins:= [(false, .Dh tI),(false, .Dh TW)],Dn:=false,Ek:= [none,none,none],outs:= [.Dh tI, .Aj tO qf false, .Aj tO qf false],fn:= λ_=>none,rp:=some 153}
noncomputable abbrev Yu:MSpec:=hY qz (λx=>(1<=x.1/\x.1<=20)/\List.length x.2.1<=4294967296/\ ∀o∈(x.2.1:List PO),∃g,o=some g/\Pm x.1.toNat g)
 (λx=>((x.1,(Ke x.1.toNat x.2.1).2,(Ke x.1.toNat x.2.1).1,()),()))
noncomputable abbrev qA:MSpec:= {Fk:= [none,none],ins:= [(false, .Dh tI),(false, .Dh an)],Dn:=false,Ek:= [none,none,none],outs:= [.Dh tI, .Aj tO qf false, .Aj tO qf false],fn:= λ_=>none,rp:=some 153}
noncomputable abbrev Mj:MSpec:=hY qA (λx=>(1<=x.1/\x.1<=20)/\List.length x.2.1<=4294967296/\ ∀g∈(x.2.1:List (List Int)),Pm x.1.toNat g)
 (λx=>((x.1,(jS x.1 x.2.1).2,(jS x.1 x.2.1).1,()),()))
noncomputable abbrev Re:Spec:=Cu (.pair (.ptr jz) (.pair tL .unit)) .bool false true (λx=> ∃N,Pd N 0 x.1.1 x.1.2.2.1 x.1.2.1 0 x.2.1) (λx=>Ee x.1.2.1 x.1.1.toNat 0 x.2.1)
noncomputable def dc (n:Int) (g:List (List Int)) (p:List Int):Bool:=(Ls n g&&Dd n p)&&Ee (jS n g).2 n.toNat 0 p
noncomputable abbrev Rh:Spec:=Cu (.pair tI (.pair an (.pair tL .unit))) .bool false true (λx=>Dl x.2.1/\short x.2.2.1) (λx=>dc x.1 x.2.1 x.2.2.1)
abbrev fK:Type:=Int×Int×List (List (Option (List Int)))×List (List (Option (List Int)))×PUnit
theorem w9 (n:Int) (P:(Int×List (List (Option (List Int)))×List (List (Option (List Int)))×Unit)×Unit->Prop):(0=0/\0=([]:List Int).length/\0=0/\0=([]:List Int).length/\Bk (λ(v2:fK) (k3:fK->Prop)=>Br (decide (v2.1<n)) (((0:Int)<=n/\n<(↑Bh:Int)+(1:Int))/\n=n/\ ∃(y4:Option (List Int)),Kc.fn (n,())=some y4/\((0:Int)<=v2.1/\v2.1<(↑(List.replicate n.toNat (none:Option (List Int))).length:Int))/\0+v2.1.toNat<(List.replicate n.toNat (none:Option (List Int))).length/\0=0/\(List.replicate n.toNat (none:Option (List Int))).length=((List.replicate n.toNat (none:Option (List Int))).set (0+v2.1.toNat) y4).length/\(0=0/\v2.2.2.1.length=v2.2.2.1.length)/\(0=0/\1= [(List.replicate n.toNat (none:Option (List Int))).set (0+v2.1.toNat) y4].length)/\0< [(List.replicate n.toNat (none:Option (List Int))).set (0+v2.1.toNat) y4].length/\v2.2.2.1.length+ [(List.replicate n.toNat (none:Option (List Int))).set (0+v2.1.toNat) y4].length<=Bh/\0=0/\0=([]:List Int).length/\(0=0/\v2.2.2.2.1.length=v2.2.2.2.1.length)/\(0=0/\1=([[]]:List (List (Option (List Int)))).length)/\0<([[]]:List (List (Option (List Int)))).length/\v2.2.2.2.1.length+([[]]:List (List (Option (List Int)))).length<=Bh/\0=0/\(v2.2.2.1++ [(List.replicate n.toNat (none:Option (List Int))).set (0+v2.1.toNat) y4]).length=(v2.2.2.1++ [(List.replicate n.toNat (none:Option (List Int))).set (0+v2.1.toNat) y4]).length/\0=0/\(v2.2.2.2.1++ [[]]).length=(v2.2.2.2.1++ [[]]).length/\k3 (IntKind.i64.wrap (v2.1+(1:Int)),v2.2.1,v2.2.2.1++ [(List.replicate n.toNat (none:Option (List Int))).set (0+v2.1.toNat) y4],v2.2.2.2.1++ [[]],())) ((0=0/\v2.2.2.1.length=v2.2.2.1.length)/\(0=0/\v2.2.2.2.1.length=v2.2.2.2.1.length)/\P ((v2.2.1,v2.2.2.1,v2.2.2.2.1,()),()))) ((0:Int),n,[],[],PUnit.unit))=fnMW Qf (look [(115,Kc)]) Mk Tryz.f145 (n,()) P:=by kernel_rfl
abbrev dM:Type:=(Int×List (List (Option (List Int)))×List (List (Option (List Int)))×PUnit)×PUnit
abbrev dN:Type:=Int×List (List (Option (List Int)))×List (List (Option (List Int)))×Int×PUnit
theorem rI (n:Int) (gens:List (Option (List Int))) (P:(Int×List (List (Option (List Int)))×List (List (Option (List Int)))×Unit)×Unit->Prop):(∃(y3:dM),Mk.fn (n,())=some y3/\0=0/\y3.1.2.1.length=y3.1.2.1.length/\0=0/\y3.1.2.2.1.length=y3.1.2.2.1.length/\Bk (λ(v4:dN) (k5:dN->Prop)=>Br (decide (v4.1<(↑gens.length:Int))) (∃(y6:Option (List Int)),idx gens v4.1=some y6/\ ∃(y7:Option (List Int)),Xv.fn (y6.getD [],())=some y7/\0=0/\v4.2.1.length=v4.2.1.length/\0=0/\v4.2.2.1.length=v4.2.2.1.length/\ ∃(y8:dM),vq.fn (v4.2.2.2.1,v4.2.1,v4.2.2.1,(0:Int),y7,())=some y8/\0=0/\y8.1.2.1.length=y8.1.2.1.length/\0=0/\y8.1.2.2.1.length=y8.1.2.2.1.length/\k5 (IntKind.i64.wrap (v4.1+(1:Int)),y8.1.2.1,y8.1.2.2.1,y8.1.1,())) ((0=0/\v4.2.1.length=v4.2.1.length)/\(0=0/\v4.2.2.1.length=v4.2.2.1.length)/\P ((v4.2.2.2.1,v4.2.1,v4.2.2.1,()),()))) ((0:Int),y3.1.2.1,y3.1.2.2.1,y3.1.1,PUnit.unit))=fnMW Qf (look [(145,Mk),(116,Xv),(146,vq)]) Yu Tryz.f129 (n,gens,()) P:=by kernel_rfl
theorem EB (c:Int×List (List (Option (List Int)))×List (List (Option (List Int)))×Unit) (p:List Int) (P:Bool->Prop):(∃(y3:List Int×Int×PUnit),kM.fn (c,(0:Int),p,())=some y3/\P (y3.2.1==c.1))=fnW Qf (look [(144,kM)]) Re Tryz.f128 (c,p,()) P:=by kernel_rfl
theorem EF (n:Int) (g:List (List Int)) (p:List Int) (P:Bool->Prop):(∃(y4:Bool),Ia.fn (n,g,())=some y4/\Br y4 (Br ((↑p.length:Int)==n) (∃(y5:Bool),Dz.fn (p,())=some y5/\Br y5 (∃(y6:(Int×List (List (Option (List Int)))×List (List (Option (List Int)))×PUnit)×PUnit),Mj.fn (n,g,())=some y6/\ ∃(y7:Bool),Re.fn ((y6.1.1,List.take y6.1.2.1.length (List.drop 0 y6.1.2.1),List.take y6.1.2.2.1.length (List.drop 0 y6.1.2.2.1),()),p,())=some y7/\P y7) (P false)) (P false)) (P false))=fnW Ck (look [(123,Ia),(75,Dz),(129,Mj),(128,Re)]) Rh Tryz.f96 (n,g,p,()) P:=by kernel_rfl
theorem zr (p:Int×ByteArray×List (List Int)×Unit) (s:List Int) (P:Bool->Prop):(∃(y3:Bool),Im.fn ((p.1,p.2.1,p.2.2.1,()),s,())=some y3/\Br y3 (∃(y4:Bool),Rh.fn (p.1,p.2.2.1,s,())=some y4/\P y4) (P false))=fnW Ck (look [(95,Im),(96,Rh)]) Il Tryz.f73 (p,s,()) P:=by kernel_rfl
theorem zk (p:Int×ByteArray×List (List Int)×Unit) (s:List Int) (P:Bool->Prop):(∃(y3:Bool),Im.fn ((p.1,p.2.1,p.2.2.1,()),s,())=some y3/\Br y3 (∃(y4:(Int×List (List (Option (List Int)))×List (List (Option (List Int)))×PUnit)×PUnit),Rl.fn (p.1,p.2.2.1,())=some y4/\ ∃(y5:Bool),jg.fn ((y4.1.1,List.take y4.1.2.1.length (List.drop 0 y4.1.2.1),List.take y4.1.2.2.1.length (List.drop 0 y4.1.2.2.1),()),(0:Int),s,())=some y5/\P y5) (P false))=fnW Ck (look [(97,Im),(98,Rl),(99,jg)]) Il Tryz.f74 (p,s,()) P:=by kernel_rfl
theorem eW:Sound Tryz.prog 115 Kc:=Sound.toO px λ_ h=>GP h
theorem mw:Sound Tryz.prog 116 Xv:=Sound.toO Py λx h=>⟨h.1,λe=>by
 have h2:=h.2
 replace e:x.1= []:=e
 rw [e] at h2
 simp at h2⟩
theorem uN (n:Int) (h:1<=n/\n<=20):fnMW Qf (look [(115,Kc)]) Mk Tryz.f145 (n,()) (λ(z:(Int×List (List (Option (List Int)))×List (List (Option (List Int)))×Unit)×Unit)=>z=((n,Rw n.toNat,Na n.toNat,()),())):=by
 obtain ⟨h1,h2⟩:=h
 obtain ⟨N,rfl⟩: ∃N:Nat,n=N:=⟨n.toNat,by omega⟩
 rw [Int.toNat_natCast]
 refine Eq.mp (w9 (N:Int) _) ?_
 have hm:((0:Int)<=(N:Int)/\(N:Int)<(Bh:Int)+1):=⟨by omega,by show (N:Int)<(4294967296:Int)+1;omega⟩
 simp only [hm,and_self,eq_self,true_and,and_true,Int.toNat_natCast,Nat.zero_add,List.length_nil,List.length_set,List.length_replicate,List.length_cons,Nat.lt_add_one]
 refine Ag N (λv=>v.1) (λj v=>v=((j:Int),(N:Int),(List.range j).map (Wr N),List.replicate j [],())) rfl rfl ?_
 rintro j v K hj hi rfl hK
 dsimp only
 refine Br.dec (λhl=>?_) λhl=>?_
 ·simp only [Int.toNat_natCast,List.length_map,List.length_range,List.length_replicate]
  refine ⟨_,if_pos ⟨by show (1:Int)<=N;omega,by show (N:Int)<=20;omega⟩,⟨by omega,by omega⟩,by omega,?_,?_,?_⟩
  ·show _<=4294967296
   omega
  ·show _<=4294967296
   omega
  ·rw [Ah (by omega)]
   refine hK (by omega) _ rfl ?_
   rw [List.range_succ,List.map_append,List.replicate_succ']
   rfl
 ·have:j=N:=by omega
  subst this
  rfl
theorem kS:Au Tryz.prog 145 Mk:=
 Au.hY gV (Ae eW Ai) mixed Tryz.func145 (by kernel_rfl) (by kernel_rfl) λx h=>uN x.1 h
theorem qM (n:Int) (gens:List (Option (List Int))) (h:(1<=n/\n<=20)/\List.length gens<=4294967296/\ ∀o∈(gens:List PO),∃g,o=some g/\Pm n.toNat g):
  fnMW Qf (look [(145,Mk),(116,Xv),(146,vq)]) Yu Tryz.f129 (n,gens,()) (λ(z:(Int×List (List (Option (List Int)))×List (List (Option (List Int)))×Unit)×Unit)=>z=((n,(Ke n.toNat gens).2,(Ke n.toNat gens).1,()),())):=by
 obtain ⟨⟨h1,h2⟩,h3,hg⟩:=h
 obtain ⟨N,rfl⟩: ∃N:Nat,n=N:=⟨n.toNat,by omega⟩
 rw [Int.toNat_natCast] at hg⊢
 have h1:1<=N:=by omega
 have h2:N<=20:=by omega
 refine Eq.mp (rI (N:Int) gens _) ⟨_,if_pos ⟨by show (1:Int)<=N;omega,by show (N:Int)<=20;omega⟩,rfl,rfl,rfl,rfl,?_⟩
 simp only [Int.toNat_natCast,true_and,and_true]
 refine Ag gens.length (λv=>v.1) (λi v=>v=((i:Int),(Ke N (gens.take i)).2,(Ke N (gens.take i)).1,(N:Int),())) rfl rfl ?_
 rintro i v K' mV Ahn rfl SC
 dsimp only
 refine Br.dec (λGe=>?_) λGe=>?_
 ·have Ge:i<gens.length:=by omega
  obtain ⟨g,jH,Ng⟩:=hg gens[i] (List.getElem_mem Ge)
  have hgl:=Ng.1
  have hv:=rX h1 h2 (gens:=gens.take i) λo ho=>hg o (List.mem_of_mem_take ho)
  refine ⟨some g,by rw [Ap Ge,jH],some g,if_pos ⟨by show g.length<=4294967296;omega,by show 1<=g.length;omega⟩,_,if_pos ⟨N,0,g,rfl,h1,h2,rfl,rfl,Nat.zero_le _,hv,Ng,λi hi=>absurd hi (Nat.not_lt_zero _)⟩,?_⟩
  rw [Ah (by omega)]
  refine SC Ge _ rfl ?_
  rw [tF Ge,jH]
  rfl
 ·have:i=gens.length:=by omega
  subst this
  rw [List.take_length]
theorem jj:Au Tryz.prog 129 Yu:=
 Au.hY gV (Cr kS (Ae mw (Cr DE Ai))) mixed Tryz.func129 (by kernel_rfl) (by kernel_rfl) λx h=>qM x.1 x.2.1 h
theorem kR:Au Tryz.prog 129 Mj:=by
 have h:=jj
 refine ⟨h.enter,λw S π us x r o g vs h1 hg h2 h3 hS h4 h5=>?_⟩
 obtain ⟨n,gens,⟨⟩⟩:=x
 match us,h2 with
 |u1::u2::us,h2=>
  obtain ⟨h6,⟨h7,h8⟩,h9⟩:=h2
  obtain ⟨os,jG,c8⟩:=Be.WU (e:=tI) h8
  have c8:os.map (·.getD [])=(gens:List (List Int)):=c8
  have Yn:(1<=n/\n<=20)/\List.length gens<=4294967296/\ ∀g∈(gens:List (List Int)),Pm n.toNat g:=Classical.byContradiction λhn=>by
   have:Mj.fn (n,gens,())=none:=if_neg hn
   rw [this] at h5;cases h5
  have YP:os=gens.map some:=by
   rw [<-c8,List.map_map]
   refine (List.map_id os).symm.trans (List.map_congr_left λx hx=>?_)
   cases x with
   |some y=>rfl
   |none=>
    have:=Yn.2.2 [] (by rw [<-c8];exact List.mem_map.2 ⟨none,hx,rfl⟩)
    have h1:=this.n1
    have h2:=this.1
    simp at h2
    omega
  have hv:Mj.fn (n,gens,())=some ((n,(jS n gens).2,(jS n gens).1,()),()):=if_pos Yn
  rw [hv] at h5
  have h5:=Option.some.inj h5
  refine h.calls w S π (u1::u2::us) (n,os,()) r o g vs h1 hg ⟨h6,⟨h7,jG⟩,h9⟩ h3 hS h4 ?_
  refine (if_pos ⟨Yn.1,by rw [YP,List.length_map];exact Yn.2.1,λy hy=>?pp⟩).trans (congrArg some ?qq)
  case pp=>
   replace hy:y∈os:=hy
   rw [YP] at hy
   obtain ⟨g,hg,rfl⟩:=List.mem_map.1 hy
   exact ⟨g,rfl,Yn.2.2 g hg⟩
  case qq=>subst YP;exact h5
theorem CB (c:Int×List (List (Option (List Int)))×List (List (Option (List Int)))×Unit) (p:List Int) (h: ∃N,Pd N 0 c.1 c.2.2.1 c.2.1 0 p):
  fnW Qf (look [(144,kM)]) Re Tryz.f128 (c,p,()) (λ(z:Bool)=>z=Ee c.2.1 c.1.toNat 0 p):=by
 obtain ⟨n,T,G,⟨⟩⟩:=c
 obtain ⟨N,h⟩:=h
 have h':=h
 obtain ⟨n1,n2,en,el,hle,v,pm,fx⟩:=h
 dsimp only at en
 subst en
 refine Eq.mp (EB ((N:Int),T,G,()) p _) ⟨_,if_pos ⟨N,0,h'⟩,?_⟩
 have hs:=pf (T:=T) N 0 p
 rw [Nat.zero_add] at hs
 show ((Ja T ((N:Int)-0).toNat (0:Int).toNat p).2.1==(N:Int))=Ee T (N:Int).toNat 0 p
 rw [Int.sub_zero,Int.toNat_natCast]
 exact Bool.eq_iff_iff.2 (beq_iff_eq.trans hs)
theorem po:Sound Tryz.prog 128 Re:=
 Sound.Cu gV (Ae DN Ai) mixed Tryz.func128 (by kernel_rfl) (by kernel_rfl) λx h=>CB x.1 x.2.1 h
theorem CF (n:Int) (g:List (List Int)) (p:List Int) (h:Dl g/\short p):fnW Ck (look [(123,Ia),(75,Dz),(129,Mj),(128,Re)]) Rh Tryz.f96 (n,g,p,()) (λ(z:Bool)=>z=dc n g p):=by
 obtain ⟨hg,hp⟩:=h
 refine Eq.mp (EF n g p _) ⟨_,if_pos hg,?_⟩
 unfold dc
 show Br (Ls n g) _ _
 refine Br.of (λh1=>?_) λh1=>by rw [h1];rfl
 obtain ⟨⟨n1,n2⟩,h8,Hf⟩:=Eh.1 h1
 refine Br.of (λh2=>?_) λh2=>?_
 ·have h2:(p.length:Int)=n:=eq_of_beq h2
  refine ⟨_,if_pos hp,?_⟩
  show Br (Fv p) _ _
  refine Br.of (λh3=>?_) λh3=>?_
  ·have VM:Dd n p=true:=Eh.2 ⟨h2,h3⟩
   have MX: ∀x,Dd n x=true->Pm n.toNat x:= λx hx=>by
    obtain ⟨a,b⟩:=Eh.1 hx
    exact ⟨by omega,aX b⟩
   have iL: ∀x∈g,Pm n.toNat x:= λx hx=>MX x (Hf x hx)
   have hV:=rX (n:=n.toNat) (by omega) (by omega) (dk iL)
   refine ⟨_,if_pos ⟨⟨n1,n2⟩,hg.1,iL⟩,_,if_pos ⟨n.toNat,?vv⟩,?_⟩
   case vv=>
    simp only [Ay]
    exact ⟨by omega,by omega,(Int.toNat_of_nonneg (by omega)).symm,rfl,Nat.zero_le _,hV,MX p VM,λi hi=>absurd hi (Nat.not_lt_zero _)⟩
   simp only [Ay]
   rw [h1,VM]
   rfl
  ·have:Dd n p=false:=by
    rw [Bool.eq_false_iff]
    intro hc
    rw [(Eh.1 hc).2] at h3
    cases h3
   rw [this,Bool.and_false,Bool.false_and]
 ·have:Dd n p=false:=by
   rw [Bool.eq_false_iff]
   intro hc
   rw [(Eh.1 hc).1] at h2
   simp at h2
  rw [this,Bool.and_false,Bool.false_and]
theorem py:Sound Tryz.prog 96 Rh:=
 Sound.Cu Bj (Ae ah (Ae Mm (Cr kR (Ae po Ai)))) mixed Tryz.func96 (by kernel_rfl) (by kernel_rfl) λx h=>CF x.1 x.2.1 x.2.2.1 h
theorem GW {p:PP} (hv:Bw p=true) {s:List Int} (hs:Pm p.1.toNat s):Ee (jS p.1 p.2.2.1).2 p.1.toNat 0 s=Ee (aE p.1 p.2.2.1).2 p.1.toNat 0 s:=by
 have hV:=valid hv
 have hn:=hV.n
 have hg:=dk (cw hV).2.2
 exact Bool.eq_iff_iff.2 ((xp (by omega) (by omega) hg hs).trans (o1 (by omega) (by omega) hg hs).symm)
theorem xh {n:Int} {s:List Int} (h:Dd n s=true):Pm n.toNat s:=by
 obtain ⟨a,b⟩:=Eh.1 h
 exact ⟨by omega,aX b⟩
theorem yC (p:PP) (s:List Int) (h:Cb p/\short s):fnW Ck (look [(95,Im),(96,Rh)]) Il Tryz.f73 (p,s,()) (λ(z:Bool)=>z=Kj p s):=by
 refine Eq.mp (zr p s _) ⟨_,if_pos h,?_⟩
 show Br (Bw p&&Dd p.1 s) _ _
 unfold Kj
 refine Br.of (λhb=>?_) λhb=>by rw [hb];rfl
 obtain ⟨hv,hg⟩:=Bool.and_eq_true_iff.1 hb
 have hV:=valid hv
 have hn:=hV.n
 have Ack:Ls p.1 p.2.2.1=true:=by
  refine Eh.2 ⟨⟨by omega,by omega⟩,by have:=hV.u5;omega,λx hx=>Eh.2 ⟨by have:=hV.len x hx;omega,hV.perm x hx⟩⟩
 refine ⟨_,if_pos ⟨h.1.2,h.2⟩,?_⟩
 show dc p.1 p.2.2.1 s=_
 unfold dc
 rw [Ack,hg,hv,GW hv (xh hg)]
theorem mJ:Sound Tryz.prog 73 Il:=
 Sound.Cu Bj (Ae js (Ae py Ai)) mixed Tryz.func73 (by kernel_rfl) (by kernel_rfl) λx h=>yC x.1 x.2.1 h
theorem yu (p:PP) (s:List Int) (h:Cb p/\short s):fnW Ck (look [(97,Im),(98,Rl),(99,jg)]) Il Tryz.f74 (p,s,()) (λ(z:Bool)=>z=Kj p s):=by
 refine Eq.mp (zk p s _) ⟨_,if_pos h,?_⟩
 show Br (Bw p&&Dd p.1 s) _ _
 unfold Kj
 refine Br.of (λhb=>?_) λhb=>by rw [hb];rfl
 obtain ⟨hv,hg⟩:=Bool.and_eq_true_iff.1 hb
 have hV:=valid hv
 have hn:=hV.n
 have xu:=RV hV
 refine ⟨_,if_pos (cw hV),_,if_pos ⟨p.1.toNat,0,?vv⟩,?_⟩
 case vv=>
  simp only [Ay]
  exact ⟨by omega,by omega,(Int.toNat_of_nonneg (by omega)).symm,rfl,Nat.zero_le _,by rw [Nat.sub_zero];exact xu,xh hg,λi hi=>absurd hi (Nat.not_lt_zero _)⟩
 simp only [Ay]
 rw [hb,Bool.true_and,Int.sub_zero]
 rfl
theorem mC:Sound Tryz.prog 74 Il:=
 Sound.Cu Bj (Ae jm (Cr pA (Ae tq Ai))) mixed Tryz.func74 (by kernel_rfl) (by kernel_rfl) λx h=>yu x.1 x.2.1 h
end Go.Proofs.YtfolipnappekaaaGreat

namespace Go.Proofs.YtfolipnappekaaaGreat
open Go.RowKit
noncomputable def Tn (p:PP) (ts:List TT) (s:List Int):Bool:=Kj p s&&Da p ts
noncomputable abbrev Rd:Spec:=Cu (.pair Df (.pair wy (.pair tL .unit))) (.pair (.optr eH) (.pair .bool .unit)) true false (λx=>Cb x.1/\Dq x.2.1/\short x.2.2.1) (λx=>if Tn x.1 x.2.1 x.2.2.1=true then (some (Wf x.2.1),true,()) else (none,false,()))
noncomputable abbrev kJ:Spec:=Cu (.pair Df (.pair wy (.pair tL .unit))) .bool false true (λx=>Cb x.1/\Dq x.2.1/\short x.2.2.1) (λx=>Tn x.1 x.2.1 x.2.2.1)
noncomputable abbrev kL:Spec:=Cu (.pair Df (.pair wy (.pair tL .unit))) .bool false true (λx=>Cb x.1/\Dq x.2.1/\short x.2.2.1) (λ_=>true)
theorem EA (p:Int×ByteArray×List (List Int)×Unit) (ts:List (List Int×List (List Int)×List Int×Unit)) (s:List Int) (P:(Option (List (List Int×List (List Int)×List Int×Unit)×List (ByteArray->Option Int)×Unit)×Bool×Unit)->Prop):(∃(y4:Bool),Il.fn ((p.1,p.2.1,p.2.2.1,()),s,())=some y4/\Br (!y4) (P (none,false,())) (∃(y5:Bool),Gv.fn ((p.1,p.2.1,p.2.2.1,()),ts,())=some y5/\Br (!y5) (P (none,false,())) (∃(y6:Option (List (List Int×List (List Int)×List Int×PUnit)×List (ByteArray->Option Int)×PUnit)),Ov.fn (ts,())=some y6/\P (y6,true,()))))=fnW Ck (look [(74,Il),(63,Gv),(64,Ov)]) Rd Tryz.f51 (p,ts,s,()) P:=by kernel_rfl
theorem Aas (p:Int×ByteArray×List (List Int)×Unit) (ts:List (List Int×List (List Int)×List Int×Unit)) (s:List Int) (P:Bool->Prop):(∃(y4:Bool),Gv.fn ((p.1,p.2.1,p.2.2.1,()),ts,())=some y4/\Br y4 (∃(y5:Bool),Il.fn ((p.1,p.2.1,p.2.2.1,()),s,())=some y5/\P y5) (P false))=fnW Ck (look [(72,Gv),(73,Il)]) kJ Tryz.f47 (p,ts,s,()) P:=by kernel_rfl
theorem kh {p:PP} {ts:List TT} {s:List Int} (h:Tn p ts s=true):fX ts/\np ts s/\Kj p s=true:=by
 unfold Tn at h
 obtain ⟨h1,h2⟩:=Bool.and_eq_true_iff.1 h
 exact ⟨(dO h2).2.1,CR h1 h2,h1⟩
theorem CA (p:PP) (ts:List TT) (s:List Int) (h:Cb p/\Dq ts/\short s):fnW Ck (look [(74,Il),(63,Gv),(64,Ov)]) Rd Tryz.f51 (p,ts,s,()) (λ(z:Option BB×Bool×Unit)=>z=if Tn p ts s=true then (some (Wf ts),true,()) else (none,false,())):=by
 obtain ⟨h0,h1,h2⟩:=h
 refine Eq.mp (EA p ts s _) ⟨_,if_pos ⟨h0,h2⟩,?_⟩
 show Br (!Kj p s) _ _
 have hh:Tn p ts s=(Kj p s&&Da p ts):=rfl
 rw [hh]
 refine Br.of (λhb=>?_) λhb=>?_
 ·have hb:Kj p s=false:=by simpa using hb
  rw [hb];rfl
 ·have hb:Kj p s=true:=by simpa using hb
  refine ⟨_,if_pos ⟨h0,h1⟩,?_⟩
  show Br (!Da p ts) _ _
  refine Br.of (λhc=>?_) λhc=>?_
  ·have hc:Da p ts=false:=by simpa using hc
   rw [hb,hc];rfl
  ·have hc:Da p ts=true:=by simpa using hc
   refine ⟨_,if_pos (dO hc).2.1,?_⟩
   rw [hb,hc];rfl
theorem pn:Sound Tryz.prog 51 Rd:=
 Sound.Cu Bj (Ae mC (Ae gQ (Ae mF Ai))) mixed Tryz.func51 (by kernel_rfl) (by kernel_rfl) λx h=>CA x.1 x.2.1 x.2.2.1 h
theorem Aa3 (p:PP) (ts:List TT) (s:List Int) (h:Cb p/\Dq ts/\short s):fnW Ck (look [(72,Gv),(73,Il)]) kJ Tryz.f47 (p,ts,s,()) (λ(z:Bool)=>z=Tn p ts s):=by
 obtain ⟨h0,h1,h2⟩:=h
 refine Eq.mp (Aas p ts s _) ⟨_,if_pos ⟨h0,h1⟩,?_⟩
 show Br (Da p ts) _ _
 have hh:Tn p ts s=(Kj p s&&Da p ts):=rfl
 rw [hh]
 refine Br.of (λhb=>⟨_,if_pos ⟨h0,h2⟩,?_⟩) λhb=>?_
 ·rw [hb,Bool.and_true]
 ·rw [hb,Bool.and_false]
theorem DJ:Sound Tryz.prog 47 kJ:=
 Sound.Cu Bj (Ae gS (Ae mJ Ai)) mixed Tryz.func47 (by kernel_rfl) (by kernel_rfl) λx h=>Aa3 x.1 x.2.1 x.2.2.1 h
end Go.Proofs.YtfolipnappekaaaGreat

namespace Go.Proofs.YtfolipnappekaaaGreat
open Go.RowKit
noncomputable abbrev td:MSpec:=Wx [none,none] [(false, .Dh (.optr eH)),(false, .Dh tL)] false [none] [rL] (λx=>Abv x.1 x.2.1) (λx=>((WH x.1 x.2.1,()),()))
noncomputable def Se (p:PP) (ts:List TT) (s:List Int):List Int:=if Tn p ts s=true then Qz ts s else []
noncomputable abbrev Rg:MSpec:=Wx [some 3,none,none] [(false, .Dh tI),(false, .Dh .str),(false, .Dh an),(false, .Dh wy),(false, .Dh tL)] false [none] [rL] (λx=>Cb (x.1,x.2.1,x.2.2.1,())/\Dq x.2.2.2.1/\short x.2.2.2.2.1) (λx=>((Se (x.1,x.2.1,x.2.2.1,()) x.2.2.2.1 x.2.2.2.2.1,()),()))
noncomputable abbrev Vg:Spec:=Cu (.pair Df (.pair wy (.pair tL .unit))) tL false true (λx=>Cb x.1/\Dq x.2.1/\short x.2.2.1) (λx=>Se x.1 x.2.1 x.2.2.1)
abbrev PS:Type:=List (List Int×List (List Int)×List Int×PUnit)×List (ByteArray->Option Int)×PUnit
theorem Aeu (b:Option (List (List Int×List (List Int)×List Int×Unit)×List (ByteArray->Option Int)×Unit)) (s:List Int) (P:((List Int×Unit)×Unit)->Prop):(∃(y3:PS),b=some y3/\0=0/\0=([]:List Int).length/\Bk (λ(v4:Int×List Int×PUnit) (k5:Int×List Int×PUnit->Prop)=>Br (decide (v4.1<(↑y3.1.length:Int))) (∃(y6:List Int×List (List Int)×List Int×PUnit),idx y3.1 v4.1=some y6/\ ∃(y7:PS),b=some y7/\ ∃(y8:ByteArray->Option Int),idx y7.2.1 v4.1=some y8/\ ∃(y9:List Int),Ve.fn (s,y6.1,())=some y9/\ ∃(Th:ByteArray),Gb.fn (y9,())=some Th/\0=0/\v4.2.1.length=v4.2.1.length/\v4.2.1.length+(List.take 1 (List.drop 0 [(y8 Th).getD (Int.ofNat (nat_lit 0))])).length<=Bh/\0=0/\(v4.2.1++List.take 1 (List.drop 0 [(y8 Th).getD (Int.ofNat (nat_lit 0))])).length=(v4.2.1++List.take 1 (List.drop 0 [(y8 Th).getD (Int.ofNat (nat_lit 0))])).length/\k5 (IntKind.i64.wrap (v4.1+(1:Int)),v4.2.1++List.take 1 (List.drop 0 [(y8 Th).getD (Int.ofNat (nat_lit 0))]),())) (P ((List.take v4.2.1.length (List.drop 0 v4.2.1),()),()))) ((0:Int),[],PUnit.unit))=fnMW Oe (look [(79,Gb),(80,Ve)]) td Tryz.f59 (b,s,()) P:=by kernel_rfl
theorem KI (n:Int) (str:ByteArray) (g:List (List Int)) (ts:List (List Int×List (List Int)×List Int×Unit)) (s:List Int) (P:((List Int×Unit)×Unit)->Prop):(∃(y6:Option (List (List Int×List (List Int)×List Int×PUnit)×List (ByteArray->Option Int)×PUnit)×Bool×PUnit),Rd.fn ((n,str,g,()),ts,s,())=some y6/\Br (!y6.2.1) (P ((List.take 0 (List.drop 0 []),()),())) (∃(y7:(List Int×PUnit)×PUnit),td.fn (y6.1,s,())=some y7/\P ((List.take y7.1.1.length (List.drop 0 y7.1.1),()),())))=fnMW Oe (look [(51,Rd),(59,td)]) Rg Tryz.f28 (n,str,g,ts,s,()) P:=by kernel_rfl
theorem KT (p:Int×ByteArray×List (List Int)×Unit) (ts:List (List Int×List (List Int)×List Int×Unit)) (s:List Int) (P:List Int->Prop):(∃(y4:Bool),kJ.fn ((p.1,p.2.1,p.2.2.1,()),ts,s,())=some y4/\Br (!y4) (P (List.take 0 (List.drop 0 []))) (∃(y5:List Int),a6.fn (ts,s,())=some y5/\P y5))=fnW Ck (look [(47,kJ),(57,a6)]) Vg Tryz.f27 (p,ts,s,()) P:=by kernel_rfl
abbrev eG:Type:=(List (List Int×List (List Int)×List Int×PUnit)×PUnit)×PUnit
abbrev l5:Type:=(Int×ByteArray×List (List Int)×PUnit)×PUnit
theorem QN (p:Int×ByteArray×List (List Int)×Unit) (ts:List (List Int×List (List Int)×List Int×Unit)) (s:List Int) (P:Bool->Prop):(Br (decide ((↑s.length:Int)>(1048576:Int))) (P true) (∃(y4:Int),tf.fn ((p.1,p.2.1,p.2.2.1,()),(1048576:Int),())=some y4/\Br (decide (y4<(0:Int))) (P true) (∃(y5:Int),kN.fn (ts,y4,())=some y5/\Br (decide (y5<(0:Int))) (P true) (∃(y6:l5),Kd.fn (p.1,p.2.1,p.2.2.1,())=some y6/\ ∃(y7:eG),Ur.fn (ts,())=some y7/\ ∃(y8:(List Int×PUnit)×PUnit),Mx.fn (s,())=some y8/\ ∃(y9:List Int),Vg.fn ((y6.1.1,y6.1.2.1,List.take y6.1.2.2.1.length (List.drop 0 y6.1.2.2.1),()),List.take y7.1.1.length (List.drop 0 y7.1.1),List.take y8.1.1.length (List.drop 0 y8.1.1),())=some y9/\ ∃(Th:l5),Kd.fn (p.1,p.2.1,p.2.2.1,())=some Th/\ ∃(m5:eG),Ur.fn (ts,())=some m5/\ ∃(l6:(List Int×PUnit)×PUnit),Mx.fn (s,())=some l6/\ ∃(qg:(List Int×PUnit)×PUnit),Rg.fn (Th.1.1,Th.1.2.1,List.take Th.1.2.2.1.length (List.drop 0 Th.1.2.2.1),List.take m5.1.1.length (List.drop 0 m5.1.1),List.take l6.1.1.length (List.drop 0 l6.1.1),())=some qg/\ ∃(bx:Bool),Am.fn (List.take qg.1.1.length (List.drop 0 qg.1.1),y9,())=some bx/\Br (!bx) (P false) (∃(qh:Int×ByteArray×List (List Int)×PUnit),th.fn ((p.1,p.2.1,p.2.2.1,()),())=some qh/\ ∃(wA:Bool),ta.fn ((Th.1.1,Th.1.2.1,List.take Th.1.2.2.1.length (List.drop 0 Th.1.2.2.1),()),qh,())=some wA/\Br (!wA) (P false) (∃(RO:eG),Ur.fn (ts,())=some RO/\ ∃(KX:Bool),kI.fn (List.take m5.1.1.length (List.drop 0 m5.1.1),List.take RO.1.1.length (List.drop 0 RO.1.1),())=some KX/\Br (!KX) (P false) (∃(y19:(List Int×PUnit)×PUnit),Mx.fn (s,())=some y19/\ ∃(QW:Bool),Am.fn (List.take l6.1.1.length (List.drop 0 l6.1.1),List.take y19.1.1.length (List.drop 0 y19.1.1),())=some QW/\Br (!QW) (P false) (0=0/\Th.1.2.2.1.length=Th.1.2.2.1.length/\ ∃(zG:(Int×PUnit)×List (List Int)×PUnit),Ml.fn (Th.1.1,Th.1.2.1,Th.1.2.2.1,(1:Int),())=some zG/\(zG.2.1.length=Th.1.2.2.1.length/\Th.1.2.2.1.length=Th.1.2.2.1.length)/\0=0/\m5.1.1.length=m5.1.1.length/\ ∃(y22:(Int×PUnit)×PUnit),Gy.fn (m5.1.1,zG.1.1,())=some y22/\0=0/\l6.1.1.length=l6.1.1.length/\ ∃(y23:(Int×PUnit)×List Int×PUnit),Si.fn (l6.1.1,y22.1.1,())=some y23/\(y23.2.1.length=l6.1.1.length/\l6.1.1.length=l6.1.1.length)/\Br (decide (y23.1.1<(0:Int))) (P false) (∃(y24:Bool),Am.fn (List.take qg.1.1.length (List.drop 0 qg.1.1),y9,())=some y24/\Br (!y24) (P false) (0=0/\qg.1.1.length=qg.1.1.length/\ ∃(y25:(Int×PUnit)×List Int×PUnit),Si.fn (qg.1.1,(1:Int),())=some y25/\(y25.2.1.length=qg.1.1.length/\qg.1.1.length=qg.1.1.length)/\ ∃(y26:Int),bk.fn (List.take qg.1.1.length (List.drop 0 y25.2.1),(1:Int),())=some y26/\Br (decide (y26<(0:Int))) (P false) (Br (y26 !=y25.1.1) (P false) (∃(y27:l5),Kd.fn (p.1,p.2.1,p.2.2.1,())=some y27/\ ∃(y28:eG),Ur.fn (ts,())=some y28/\ ∃(y29:(List Int×PUnit)×PUnit),Mx.fn (s,())=some y29/\ ∃(y30:(List Int×PUnit)×PUnit),Rg.fn (y27.1.1,y27.1.2.1,List.take y27.1.2.2.1.length (List.drop 0 y27.1.2.2.1),List.take y28.1.1.length (List.drop 0 y28.1.1),List.take y29.1.1.length (List.drop 0 y29.1.1),())=some y30/\ ∃(y31:Bool),Am.fn (List.take y30.1.1.length (List.drop 0 y30.1.1),y9,())=some y31/\Br (!y31) (P false) (∃(y32:Int),bk.fn (List.take qg.1.1.length (List.drop 0 y25.2.1),(1:Int),())=some y32/\Br (decide (y32<(0:Int))) (P false) (Br (y32 !=y25.1.1) (P false) (P true)))))))))))))))=fnW Ck (look [(13,tf),(14,kN),(27,Vg),(28,Rg),(16,Mn.b th Kd),(17,Mn.b pb Ur),(18,Mn.b bT Mx),(22,Am),(20,ta),(21,kI),(29,Ml),(30,Gy),(31,Si),(32,bk)]) kL Tryz.f6 (p,ts,s,()) P:=by kernel_rfl
theorem Ae6 (b:Option BB) (s:List Int) (h:Abv b s):fnMW Oe (look [(79,Gb),(80,Ve)]) td Tryz.f59 (b,s,()) (λ(z:(List Int×Unit)×Unit)=>z=((WH b s,()),())):=by
 obtain ⟨ts,⟨h4,hd⟩,rfl,hs⟩:=h
 refine Eq.mp (Aeu _ s _) ⟨Wf ts,rfl,rfl,rfl,?_⟩
 refine Ag ts.length (λv=>v.1) (λi v=>v=((i:Int),Qz (ts.take i) s,())) rfl rfl ?_
 rintro i v K hi hii rfl hK
 dsimp only
 refine Br.dec (λhl=>?_) λhl=>?_
 ·have hl:i<ts.length:=by have hl:(i:Int)<(ts.length:Int):=hl;omega
  have HH:=hd _ (List.getElem_mem hl)
  obtain ⟨gZ,qd⟩:=hs.2 _ (List.getElem_mem hl)
  have htl:=HH.tl
  have eo:=HH.pl _ qd
  refine ⟨ts[i],Ap hl,Wf ts,rfl,Pq ts[i],?_,_,if_pos ⟨by show (ts[i]).1.length<=4294967296;omega,gZ⟩,_,if_pos (by show (By s (ts[i]).1).length<=4294967296;omega),rfl,rfl,?_,rfl,rfl,?_⟩
  ·show idx (ts.map Pq) (i:Int)=_
   rw [Ap (by rw [List.length_map];exact hl),List.getElem_map]
  ·show (Qz (ts.take i) s).length+1<=4294967296
   rw [nG,List.length_take];omega
  ·rw [Ah (by omega)]
   refine hK hl _ rfl ?_
   rw [s8 hl,show Pq ts[i] (Qh (By s (ts[i]).1))=some (nb ts[i] s) from QG HH qd]
   rfl
 ·have:i=ts.length:=by have hl: ¬(i:Int)<(ts.length:Int):=hl;omega
  subst this
  rw [Ay,List.take_length]
  rfl
theorem JR:Au Tryz.prog 59 td:=
 Au.Wx Nc (Ae Wq (Ae rq Ai)) mixed Tryz.func59 (by kernel_rfl) (by kernel_rfl) λx h=>Ae6 x.1 x.2.1 h
theorem IW (p:PP) (ts:List TT) (s:List Int) (h:Cb p/\Dq ts/\short s):fnW Ck (look [(47,kJ),(57,a6)]) Vg Tryz.f27 (p,ts,s,()) (λ(z:List Int)=>z=Se p ts s):=by
 refine Eq.mp (KT p ts s _) ⟨_,if_pos h,?_⟩
 show Br (!Tn p ts s) _ _
 unfold Se
 refine Br.of (λhb=>?_) λhb=>?_
 ·rw [if_neg (Cl hb)]
  rfl
 ·have hh:Tn p ts s=true:=by simpa using hb
  obtain ⟨a,b,_⟩:=kh hh
  rw [if_pos hh]
  exact ⟨_,if_pos ⟨a,b⟩,rfl⟩
theorem rv:Sound Tryz.prog 27 Vg:=
 Sound.Cu Bj (Ae DJ (Ae vG Ai)) mixed Tryz.func27 (by kernel_rfl) (by kernel_rfl) λx h=>IW x.1 x.2.1 x.2.2.1 h
theorem qG (p:PP) (ts:List TT) (s:List Int):short (Se p ts s):=by
 unfold Se short
 split
 ·rename_i hh
  obtain ⟨a,_⟩:=kh hh
  have:=a.1
  rw [nG];omega
 ·simp
theorem IK (n:Int) (str:ByteArray) (g:List (List Int)) (ts:List TT) (s:List Int) (h:Cb (n,str,g,())/\Dq ts/\short s):fnMW Oe (look [(51,Rd),(59,td)]) Rg Tryz.f28 (n,str,g,ts,s,()) (λ(z:(List Int×Unit)×Unit)=>z=((Se (n,str,g,()) ts s,()),())):=by
 refine Eq.mp (KI n str g ts s _) ?_
 unfold Se
 by_cases hh:Tn (n,str,g,()) ts s=true
 ·obtain ⟨a,b,_⟩:=kh hh
  rw [if_pos hh]
  refine ⟨_,(if_pos h).trans (congrArg some (if_pos hh)),λhb=>by simp at hb,λ_=>⟨_,if_pos ⟨ts,a,rfl,b⟩,?_⟩⟩
  dsimp only
  rw [Ay]
  rfl
 ·rw [if_neg hh]
  exact ⟨_,(if_pos h).trans (congrArg some (if_neg hh)),λ_=>rfl,λhb=>by simp at hb⟩
theorem rh:Au Tryz.prog 28 Rg:=
 Au.Wx Nc (Ae pn (Cr JR Ai)) mixed Tryz.func28 (by kernel_rfl) (by kernel_rfl) λx h=>IK x.1 x.2.1 x.2.2.1 x.2.2.2.1 x.2.2.2.2.1 h
theorem ON (p:PP) (ts:List TT) (s:List Int) (h:Cb p/\Dq ts/\short s):fnW Ck (look [(13,tf),(14,kN),(27,Vg),(28,Rg),(16,Mn.b th Kd),(17,Mn.b pb Ur),(18,Mn.b bT Mx),(22,Am),(20,ta),(21,kI),(29,Ml),(30,Gy),(31,Si),(32,bk)]) kL Tryz.f6 (p,ts,s,()) (λ(z:Bool)=>z=true):=by
 have h0:Cb (p.1,p.2.1,p.2.2.1,()):=h.1
 have h1:Dq ts:=h.2.1
 have h2:short s:=h.2.2
 refine Eq.mp (QN p ts s _) ?_
 refine Br.dec (λ_=>rfl) λAn3=>?_
 refine ⟨_,if_pos ⟨h0,yH⟩,Br.dec (λ_=>rfl) λAil=>?_⟩
 have SY:(((Bu p.2.2.1:Nat):Nat):Int)<=(1048576)-(Ua (p.1,p.2.1,p.2.2.1,()) (1048576))/\roomy (Ua (p.1,p.2.1,p.2.2.1,()) (1048576)):=PN yH Ail
 have Ao6:=SY.1
 have Anj:0<=Ua (p.1,p.2.1,p.2.2.1,()) (1048576)/\Ua (p.1,p.2.1,p.2.2.1,()) (1048576)<=4294967296:=SY.2
 refine ⟨_,if_pos ⟨h1,SY.2⟩,Br.dec (λ_=>rfl) λAdb=>?_⟩
 have WB:(((Hb ts:Nat):Nat):Int)<=(Ua (p.1,p.2.1,p.2.2.1,()) (1048576))-(Wh ts (Ua (p.1,p.2.1,p.2.2.1,()) (1048576)))/\roomy (Wh ts (Ua (p.1,p.2.1,p.2.2.1,()) (1048576))):=JY SY.2 Adb
 have Al4:=WB.1
 have Akx:0<=Wh ts (Ua (p.1,p.2.1,p.2.2.1,()) (1048576))/\Wh ts (Ua (p.1,p.2.1,p.2.2.1,()) (1048576))<=4294967296:=WB.2
 have l0:low (1+(Bu p.2.2.1:Nat)):=⟨by omega,by omega⟩
 have l1:low (1+(Bu p.2.2.1:Nat)+(Hb ts:Nat)):=⟨by omega,by omega⟩
 have l2:low (1+(Bu p.2.2.1:Nat)+(Hb ts:Nat)+(s.length:Nat)):=⟨by omega,by omega⟩
 refine ⟨_,if_pos h0,_,if_pos h1,_,if_pos h2,?_⟩
 simp only [Ay]
 refine ⟨_,if_pos ⟨h0,h1,h2⟩,_,if_pos h0,_,if_pos h1,_,if_pos h2,?_⟩
 have LD:short (Se (p.1,p.2.1,p.2.2.1,()) ts s):=qG _ _ _
 generalize he0:Se (p.1,p.2.1,p.2.2.1,()) ts s=g0 at LD
 refine ⟨_,if_pos ⟨h0,h1,h2⟩,?_⟩
 simp only [he0]
 refine ⟨_,if_pos LD,⟨λhe=>absurd (Mi _) (Cl he),λ_=>?_⟩⟩
 refine ⟨_,if_pos h0,_,if_pos h0,⟨λhe=>absurd (BN _) (Cl he),λ_=>?_⟩⟩
 refine ⟨_,if_pos h1,?_⟩
 refine ⟨_,if_pos h1,⟨λhe=>absurd (xX _) (Cl he),λ_=>?_⟩⟩
 refine ⟨_,if_pos h2,?_⟩
 refine ⟨_,if_pos h2,⟨λhe=>absurd (Mi _) (Cl he),λ_=>?_⟩⟩
 refine ⟨trivial,trivial,_,if_pos ⟨h0.2,mZ,l0⟩,⟨Yq _ _,trivial⟩,trivial,trivial,_,if_pos ⟨h1,l0,l1⟩,trivial,trivial,_,if_pos ⟨h2,l1⟩,⟨Ol _ _,trivial⟩,Br.dec (λhn=>absurd l2.1 (Int.not_le.2 hn)) λ_=>?_⟩
 refine ⟨_,if_pos LD,⟨λhe=>absurd (Mi _) (Cl he),λ_=>?_⟩⟩
 refine ⟨trivial,trivial,_,if_pos ⟨LD,mZ⟩,⟨Ol _ _,trivial⟩,?_⟩
 simp only [zy]
 have YM: ∀k,short (Gr k g0.length):= λk=>by unfold short at*;rw [Ol];exact LD
 refine ⟨_,if_pos ⟨YM _,mZ⟩,?_⟩
 simp only [fC]
 refine Br.dec (λhn=>by omega) λ_=>⟨λhe=>by simp at he,λ_=>?_⟩
 refine ⟨_,if_pos h0,_,if_pos h1,_,if_pos h2,?_⟩
 refine ⟨_,if_pos ⟨h0,h1,h2⟩,?_⟩
 simp only [he0]
 refine ⟨_,if_pos LD,⟨λhe=>absurd (Mi _) (Cl he),λ_=>?_⟩⟩
 refine ⟨_,if_pos ⟨YM _,mZ⟩,?_⟩
 simp only [fC]
 exact Br.dec (λhn=>by omega) λ_=>⟨λhe=>by simp at he,λ_=>trivial⟩
theorem vF:Sound Tryz.prog 6 kL:=
 Sound.Cu Bj (Ae JT (Ae DO (Ae rv (Cr rh (nN JU mK (nN DP yU (nN kY gT (Ae kT (Ae JP (Ae DI (Cr kW (Cr vH (Cr dH (Ae yR Ai)))))))))))))) mixed Tryz.func6 (by kernel_rfl) (by kernel_rfl) λx h=>ON x.1 x.2.1 x.2.2.1 h
end Go.Proofs.YtfolipnappekaaaGreat
