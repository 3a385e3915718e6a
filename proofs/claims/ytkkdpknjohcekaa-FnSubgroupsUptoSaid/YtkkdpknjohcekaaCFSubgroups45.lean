/-
  Part 46 of the proof that the statement FnSubgroups holds.
-/
import Derived.Test.YtkkdpknjohcekaaCFSubgroups44
namespace Go.Proofs.Ytkkdpknjohcekaa
open Go.RowKit
noncomputable abbrev qb:Spec:=Ht (.pair (.ptr df) (.pair tI (.pair tL .unit))) (.pair tL (.pair tI .unit)) true false (λx=> ∃N L,Vw N L x.1.1 x.1.2.2.1 x.1.2.1 x.2.1 x.2.2.1) (λx=>Nt x.1.2.1 (x.1.1-x.2.1).toNat x.2.1.toNat x.2.2.1)
noncomputable abbrev Akc:MSpec:= {ptr:=some (189,3),Hw:= [none,none],ins:= [(false, .Fe tI),(false, .Bo tO vQ false),(false, .Bo tO vQ false),(false, .Fe tI),(false, .Fe tL)],Gl:=true,Gz:= [none,none],outs:= [.Fe tI, .Bo tO vQ false, .Bo tO vQ false, .Fe tL, .Fe tI],fn:= λ_=>none}
noncomputable abbrev kJ:MSpec:=dS Akc (λx=> ∃N L,Vw N L x.1 x.2.2.1 x.2.1 x.2.2.2.1 x.2.2.2.2.1)
 (λx=>((x.1,x.2.1,x.2.2.1,(Nt x.2.1 (x.1-x.2.2.2.1).toNat x.2.2.2.1.toNat x.2.2.2.2.1).1,(Nt x.2.1 (x.1-x.2.2.2.1).toNat x.2.2.2.1.toNat x.2.2.2.2.1).2.1,()),()))
structure Agq (N L:Nat) (n:Int) (G T:Ch) (l:Int) (p:List Int):Prop where
 n1:1<=N
 n2:N<=20
 en:n=N
 el:l=L
 lt:L<N
 part:Part N L (G,T)
 pm:Pm N p
 fx:Fx L p
 gn:Gn N (G.getD L []) p
 gl:(G.getD L []).length<=401
noncomputable abbrev Aag:MSpec:= {ptr:=some (189,3),Hw:= [none,none],ins:= [(false, .Fe tI),(false, .Bo tO vQ false),(false, .Bo tO vQ false),(false, .Fe tI),(false, .Fe tO)],Gl:=false,Gz:= [],outs:= [.Fe tI, .Bo tO vQ false, .Bo tO vQ false],fn:= λ_=>none}
noncomputable abbrev oF (m:Nat):MSpec:=dS Aag (λx=>(∃N L q,x.2.2.2.2.1=some q/\Vw N L x.1 x.2.2.1 x.2.1 x.2.2.2.1 q)/\SA x.1.toNat x.2.2.2.1.toNat<m)
 (λx=>((x.1,(kP x.1.toNat 1000 x.2.2.2.1.toNat (x.2.2.2.2.1.getD []) (x.2.2.1,x.2.1)).2,(kP x.1.toNat 1000 x.2.2.2.1.toNat (x.2.2.2.2.1.getD []) (x.2.2.1,x.2.1)).1,()),()))
noncomputable abbrev eJ (m:Nat):MSpec:=dS Aag (λx=>(∃N L q,x.2.2.2.2.1=some q/\Agq N L x.1 x.2.2.1 x.2.1 x.2.2.2.1 q)/\ni x.1.toNat x.2.2.2.1.toNat (x.2.2.1,x.2.1)<m)
 (λx=>((x.1,(gB x.1.toNat 1000 x.2.2.2.1.toNat (x.2.2.2.2.1.getD []) (x.2.2.1,x.2.1)).2,(gB x.1.toNat 1000 x.2.2.2.1.toNat (x.2.2.2.2.1.getD []) (x.2.2.1,x.2.1)).1,()),()))
noncomputable abbrev AU:MSpec:=dS Aag (λx=> ∃N L q,x.2.2.2.2.1=some q/\Vw N L x.1 x.2.2.1 x.2.1 x.2.2.2.1 q)
 (λx=>((x.1,(kP x.1.toNat 1000 x.2.2.2.1.toNat (x.2.2.2.2.1.getD []) (x.2.2.1,x.2.1)).2,(kP x.1.toNat 1000 x.2.2.2.1.toNat (x.2.2.2.2.1.getD []) (x.2.2.1,x.2.1)).1,()),()))
theorem wZ (p q:List Int) (P:List Int->Prop):(0=0/\0=([]:List Int).length/\Ev (λ(v3:Int×List Int×PUnit) (k4:Int×List Int×PUnit->Prop)=>Br (decide (v3.1<(↑p.length:Int))) (∃(y5:Int),idx p v3.1=some y5/\ ∃(y6:Int),idx q y5=some y6/\0=0/\v3.2.1.length=v3.2.1.length/\v3.2.1.length+(List.take 1 (List.drop 0 [y6])).length<=Dn/\0=0/\(v3.2.1++List.take 1 (List.drop 0 [y6])).length=(v3.2.1++List.take 1 (List.drop 0 [y6])).length/\k4 (IntKind.i64.wrap (v3.1+(1:Int)),v3.2.1++List.take 1 (List.drop 0 [y6]),())) (P (List.take v3.2.1.length (List.drop 0 v3.2.1)))) ((0:Int),[],PUnit.unit))=fnW Hz (look []) Kk Try.f75 (p,q,()) P:=by kernel_rfl
theorem Alm (c:Int×List (List (Option (List Int)))×List (List (Option (List Int)))×Unit) (l:Int) (p:List Int) (P:(List Int×Int×Unit)->Prop):(Ev (λ(v4:List Int×Int×PUnit) (k5:List Int×Int×PUnit->Prop)=>Br (decide (v4.2.1<c.1)) (∃(y6:List (Option (List Int))),idx c.2.1 v4.2.1=some y6/\ ∃(y7:Int),idx v4.1 v4.2.1=some y7/\ ∃(y8:Option (List Int)),idx y6 y7=some y8/\Br ((↑(y8.getD []).length:Int)==(0:Int)) (P (v4.1,v4.2.1,())) (∃(y9:List Int),Fp.fn (y8.getD [],())=some y9/\ ∃(Qp:List Int),Mm.fn (v4.1,y9,())=some Qp/\k5 (Qp,IntKind.i64.wrap (v4.2.1+(1:Int)),()))) (P (v4.1,c.1,()))) (p,l,PUnit.unit))=fnW Tz (look [(190,Fp),(75,Mm)]) qb Try.f201 (c,l,p,()) P:=by kernel_rfl
abbrev IZ:Type:=List Int×Int×List (List (Option (List Int)))×List (List (Option (List Int)))×Int×PUnit
theorem Ago (n:Int) (T G:List (List (Option (List Int)))) (l:Int) (p:List Int) (P:(Int×List (List (Option (List Int)))×List (List (Option (List Int)))×List Int×Int×Unit)×Unit->Prop):(0=0/\T.length=T.length/\0=0/\G.length=G.length/\Ev (λ(v6:IZ) (k7:IZ->Prop)=>Br (decide (v6.2.1<v6.2.2.2.2.1)) (((0:Int)<=v6.2.1/\v6.2.1<(↑v6.2.2.1.length:Int))/\ ∃(y8:Int),idx v6.1 v6.2.1=some y8/\((0:Int)<=y8/\y8<(↑(v6.2.2.1.getD (0+v6.2.1.toNat) []).length:Int))/\Br ((↑(((v6.2.2.1.getD (0+v6.2.1.toNat) []).getD y8.toNat (none:Option (List Int))).getD []).length:Int)==(0:Int)) ((0=0/\v6.2.2.1.length=v6.2.2.1.length)/\(0=0/\v6.2.2.2.1.length=v6.2.2.2.1.length)/\P ((v6.2.2.2.2.1,v6.2.2.1,v6.2.2.2.1,v6.1,v6.2.1,()),())) (∃(y9:List Int),Fp.fn (((v6.2.2.1.getD (0+v6.2.1.toNat) []).getD y8.toNat (none:Option (List Int))).getD [],())=some y9/\ ∃(Qp:List Int),Mm.fn (v6.1,y9,())=some Qp/\0=0/\v6.2.2.1.length=v6.2.2.1.length/\0=0/\v6.2.2.2.1.length=v6.2.2.2.1.length/\k7 (Qp,IntKind.i64.wrap (v6.2.1+(1:Int)),v6.2.2.1,v6.2.2.2.1,v6.2.2.2.2.1,()))) ((0=0/\v6.2.2.1.length=v6.2.2.1.length)/\(0=0/\v6.2.2.2.1.length=v6.2.2.2.1.length)/\P ((v6.2.2.2.2.1,v6.2.2.1,v6.2.2.2.1,v6.1,v6.2.2.2.2.1,()),()))) (p,l,T,G,n,PUnit.unit))=fnMW Tz (look [(190,Fp),(75,Mm)]) kJ Try.f201 (n,T,G,l,p,()) P:=by kernel_rfl
abbrev CA:Type:=Int×List (Option (List Int))×List (List (Option (List Int)))×List (List (Option (List Int)))×Int×PUnit
abbrev Aca:Type:=(Int×List (List (Option (List Int)))×List (List (Option (List Int)))×List Int×Int×PUnit)×PUnit
abbrev Le (y7:Aca) (l:Int) (p:Option (List Int)) (n:Int):Prop:=0=0/\(y7.1.2.2.1.getD (0+l.toNat) []).length=(y7.1.2.2.1.getD (0+l.toNat) []).length/\(y7.1.2.2.1.getD (0+l.toNat) []).length+(List.take 1 (List.drop 0 [p])).length<=Dn/\((0:Int)<=l/\l<(↑y7.1.2.2.1.length:Int))/\0=0/\(y7.1.2.2.1.getD (0+l.toNat) []++List.take 1 (List.drop 0 [p])).length=(y7.1.2.2.1.getD (0+l.toNat) []++List.take 1 (List.drop 0 [p])).length/\0+l.toNat=0+l.toNat/\ [(0,y7.1.2.2.1.length),(0,y7.1.2.2.1.length),(0,y7.1.2.1.length),(0,y7.1.2.2.1.length)]= [(0,y7.1.2.2.1.length),(0,y7.1.2.2.1.length),(0,y7.1.2.1.length),(0,y7.1.2.2.1.length)]/\(l,p,y7.1.2.2.2.1,y7.1.2.2.2.2.1,l,n,decide (l>=n),l,p,y7.1.2.2.2.1,y7.1.2.2.2.2.1,y7.1.2.2.2.2.1,y7.1.1,y7.1.2.2.2.2.1==y7.1.1,l,l,0+l.toNat,p,List.take 1 (List.drop 0 [p]),0+l.toNat,y7.1.2.1,y7.1.2.2.1.set (0+l.toNat) (y7.1.2.2.1.getD (0+l.toNat) []++List.take 1 (List.drop 0 [p])),y7.1.1,())=(l,p,y7.1.2.2.2.1,y7.1.2.2.2.2.1,l,n,decide (l>=n),l,p,y7.1.2.2.2.1,y7.1.2.2.2.2.1,y7.1.2.2.2.2.1,y7.1.1,y7.1.2.2.2.2.1==y7.1.1,l,l,0+l.toNat,p,List.take 1 (List.drop 0 [p]),0+l.toNat,y7.1.2.1,y7.1.2.2.1.set (0+l.toNat) (y7.1.2.2.1.getD (0+l.toNat) []++List.take 1 (List.drop 0 [p])),y7.1.1,PUnit.unit)
theorem Aq9 {m:Nat} (n:Int) (T G:List (List (Option (List Int)))) (l:Int) (p:Option (List Int)) (P:(Int×List (List (Option (List Int)))×List (List (Option (List Int)))×Unit)×Unit->Prop):(Br (decide (l>=n)) ((0=0/\T.length=T.length)/\(0=0/\G.length=G.length)/\P ((n,T,G,()),())) (0=0/\T.length=T.length/\0=0/\G.length=G.length/\ ∃(y7:Aca),kJ.fn (n,T,G,l,p.getD [],())=some y7/\Br (y7.1.2.2.2.2.1==y7.1.1) ((0=0/\y7.1.2.1.length=y7.1.2.1.length)/\(0=0/\y7.1.2.2.1.length=y7.1.2.2.1.length)/\P ((y7.1.1,y7.1.2.1,y7.1.2.2.1,()),())) (((0:Int)<=l/\l<(↑y7.1.2.2.1.length:Int))/\0=0/\(y7.1.2.2.1.getD (0+l.toNat) []).length=(y7.1.2.2.1.getD (0+l.toNat) []).length/\(y7.1.2.2.1.getD (0+l.toNat) []).length+(List.take 1 (List.drop 0 [p])).length<=Dn/\((0:Int)<=l/\l<(↑y7.1.2.2.1.length:Int))/\0=0/\(y7.1.2.2.1.getD (0+l.toNat) []++List.take 1 (List.drop 0 [p])).length=(y7.1.2.2.1.getD (0+l.toNat) []++List.take 1 (List.drop 0 [p])).length/\0+l.toNat=0+l.toNat/\(0=0/\0=([]:List Int).length/\0=0/\y7.1.2.1.length=y7.1.2.1.length/\0=0/\y7.1.2.2.1.length=(y7.1.2.2.1.set (0+l.toNat) (y7.1.2.2.1.getD (0+l.toNat) []++List.take 1 (List.drop 0 [p]))).length/\Ev (λ(v8:CA) (k9:CA->Prop)=>Br (decide (v8.1<v8.2.2.2.2.1)) (((0:Int)<=l/\l<(↑v8.2.2.1.length:Int))/\((0:Int)<=v8.1/\v8.1<(↑(v8.2.2.1.getD (0+l.toNat) []).length:Int))/\Br (decide ((↑(((v8.2.2.1.getD (0+l.toNat) []).getD v8.1.toNat (none:Option (List Int))).getD []).length:Int)>(0:Int))) (((0:Int)<=l/\l<(↑v8.2.2.1.length:Int))/\((0:Int)<=v8.1/\v8.1<(↑(v8.2.2.1.getD (0+l.toNat) []).length:Int))/\0=0/\v8.2.1.length=v8.2.1.length/\v8.2.1.length+(List.take 1 (List.drop 0 [(v8.2.2.1.getD (0+l.toNat) []).getD v8.1.toNat none])).length<=Dn/\0=0/\(v8.2.1++List.take 1 (List.drop 0 [(v8.2.2.1.getD (0+l.toNat) []).getD v8.1.toNat none])).length=(v8.2.1++List.take 1 (List.drop 0 [(v8.2.2.1.getD (0+l.toNat) []).getD v8.1.toNat none])).length/\0=0/\v8.2.2.1.length=v8.2.2.1.length/\0=0/\v8.2.2.2.1.length=v8.2.2.2.1.length/\k9 (IntKind.i64.wrap (v8.1+(1:Int)),v8.2.1++List.take 1 (List.drop 0 [(v8.2.2.1.getD (0+l.toNat) []).getD v8.1.toNat none]),v8.2.2.1,v8.2.2.2.1,v8.2.2.2.2.1,())) (0=0/\v8.2.1.length=v8.2.1.length/\0=0/\v8.2.2.1.length=v8.2.2.1.length/\0=0/\v8.2.2.2.1.length=v8.2.2.2.1.length/\k9 (IntKind.i64.wrap (v8.1+(1:Int)),v8.2.1,v8.2.2.1,v8.2.2.2.1,v8.2.2.2.2.1,()))) (0=0/\v8.2.1.length=v8.2.1.length/\0=0/\v8.2.2.1.length=v8.2.2.1.length/\0=0/\v8.2.2.2.1.length=v8.2.2.2.1.length/\Ev (λ(v10:CA) (k11:CA->Prop)=>Br (decide (v10.1<(↑v10.2.1.length:Int))) (((0:Int)<=v10.1/\v10.1<(↑v10.2.1.length:Int))/\ ∃(Vm:Option (List Int)),v10.2.1[0+v10.1.toNat]?=some Vm/\ ∃(hJ:Option (List Int)),Jo.fn (Vm.getD [],p.getD [],())=some hJ/\0=0/\v10.2.2.1.length=v10.2.2.1.length/\0=0/\v10.2.2.2.1.length=v10.2.2.2.1.length/\ ∃(Ub:(Int×List (List (Option (List Int)))×List (List (Option (List Int)))×PUnit)×PUnit),(eJ m).fn (v10.2.2.2.2.1,v10.2.2.1,v10.2.2.2.1,l,hJ,())=some Ub/\0=0/\v10.2.1.length=v10.2.1.length/\0=0/\Ub.1.2.1.length=Ub.1.2.1.length/\0=0/\Ub.1.2.2.1.length=Ub.1.2.2.1.length/\k11 (IntKind.i64.wrap (v10.1+(1:Int)),v10.2.1,Ub.1.2.1,Ub.1.2.2.1,Ub.1.1,())) ((0=0/\v10.2.2.1.length=v10.2.2.1.length)/\(0=0/\v10.2.2.2.1.length=v10.2.2.2.1.length)/\P ((v10.2.2.2.2.1,v10.2.2.1,v10.2.2.2.1,()),()))) ((0:Int),v8.2.1,v8.2.2.1,v8.2.2.2.1,v8.2.2.2.2.1,PUnit.unit))) ((0:Int),[],y7.1.2.1,y7.1.2.2.1.set (0+l.toNat) (y7.1.2.2.1.getD (0+l.toNat) []++List.take 1 (List.drop 0 [p])),y7.1.1,PUnit.unit))/\(((((0:Int)<=l/\l<(↑y7.1.2.2.1.length:Int))/\((Le y7 l p n))/\(Le y7 l p n))/\((0:Int)<=l/\l<(↑y7.1.2.2.1.length:Int))/\(Le y7 l p n))/\((0:Int)<=l/\l<(↑y7.1.2.2.1.length:Int))/\(Le y7 l p n))/\(((((0:Int)<=l/\l<(↑y7.1.2.2.1.length:Int))/\((Le y7 l p n))/\(Le y7 l p n))/\((0:Int)<=l/\l<(↑y7.1.2.2.1.length:Int))/\(Le y7 l p n))/\(((0:Int)<=l/\l<(↑y7.1.2.2.1.length:Int))/\(((Le y7 l p n))/\(Le y7 l p n))/\(((Le y7 l p n))/\((Le y7 l p n))/\(Le y7 l p n))/\((Le y7 l p n))/\((Le y7 l p n))/\(Le y7 l p n))/\(((0:Int)<=l/\l<(↑y7.1.2.2.1.length:Int))/\(Le y7 l p n))/\((0:Int)<=l/\l<(↑y7.1.2.2.1.length:Int))/\((Le y7 l p n))/\((Le y7 l p n))/\(Le y7 l p n))/\(((0:Int)<=l/\l<(↑y7.1.2.2.1.length:Int))/\(Le y7 l p n))/\(((0:Int)<=l/\l<(↑y7.1.2.2.1.length:Int))/\(Le y7 l p n))/\((0:Int)<=l/\l<(↑y7.1.2.2.1.length:Int))/\((Le y7 l p n))/\((Le y7 l p n))/\(Le y7 l p n))))=fnMW (Acm [vI+46]) (look [(201,kJ),(75,Jo),(216,bq.m (eJ m))]) (oF (m+1)) Try.f203 (n,T,G,l,p,()) P:=by kernel_rfl
abbrev Ac6:Type:=(Int×List (List (Option (List Int)))×List (List (Option (List Int)))×PUnit)×PUnit
abbrev Acb:Type:=Int×List (List (Option (List Int)))×List (List (Option (List Int)))×Int×PUnit
theorem Aqa {m:Nat} (n:Int) (T G:List (List (Option (List Int)))) (l:Int) (p:Option (List Int)) (P:(Int×List (List (Option (List Int)))×List (List (Option (List Int)))×Unit)×Unit->Prop):(((0:Int)<=l/\l<(↑T.length:Int))/\ ∃(y7:Int),idx (p.getD []) l=some y7/\((0:Int)<=y7/\y7<(↑(T.getD (0+l.toNat) []).length:Int))/\Br (decide ((↑(((T.getD (0+l.toNat) []).getD y7.toNat (none:Option (List Int))).getD []).length:Int)>(0:Int))) (∃(y8:List Int),Fp.fn (((T.getD (0+l.toNat) []).getD y7.toNat (none:Option (List Int))).getD [],())=some y8/\ ∃(y9:Option (List Int)),Jo.fn (p.getD [],y8,())=some y9/\0=0/\T.length=T.length/\0=0/\G.length=G.length/\ ∃(Qp:Ac6),(oF m).fn (n,T,G,IntKind.i64.wrap (l+(1:Int)),y9,())=some Qp/\(0=0/\Qp.1.2.1.length=Qp.1.2.1.length)/\(0=0/\Qp.1.2.2.1.length=Qp.1.2.2.1.length)/\P ((Qp.1.1,Qp.1.2.1,Qp.1.2.2.1,()),())) (((0:Int)<=l/\l<(↑T.length:Int))/\ ∃(y8:Int),idx (p.getD []) l=some y8/\((0:Int)<=y8/\y8<(↑(T.getD (0+l.toNat) []).length:Int))/\0=0/\T.length=(T.set (0+l.toNat) ((T.getD (0+l.toNat) []).set y8.toNat p)).length/\0=0/\G.length=G.length/\Ev (λ(v9:Acb) (k10:Acb->Prop)=>((0:Int)<=l/\l<(↑v9.2.2.1.length:Int))/\Br (decide (v9.1<(↑(v9.2.2.1.getD (0+l.toNat) []).length:Int))) (((0:Int)<=l/\l<(↑v9.2.2.1.length:Int))/\((0:Int)<=v9.1/\v9.1<(↑(v9.2.2.1.getD (0+l.toNat) []).length:Int))/\ ∃(Nu:Option (List Int)),Jo.fn (p.getD [],((v9.2.2.1.getD (0+l.toNat) []).getD v9.1.toNat (none:Option (List Int))).getD [],())=some Nu/\0=0/\v9.2.1.length=v9.2.1.length/\0=0/\v9.2.2.1.length=v9.2.2.1.length/\ ∃(Vm:Ac6),(eJ m).fn (v9.2.2.2.1,v9.2.1,v9.2.2.1,l,Nu,())=some Vm/\0=0/\Vm.1.2.1.length=Vm.1.2.1.length/\0=0/\Vm.1.2.2.1.length=Vm.1.2.2.1.length/\k10 (IntKind.i64.wrap (v9.1+(1:Int)),Vm.1.2.1,Vm.1.2.2.1,Vm.1.1,())) ((0=0/\v9.2.1.length=v9.2.1.length)/\(0=0/\v9.2.2.1.length=v9.2.2.1.length)/\P ((v9.2.2.2.1,v9.2.1,v9.2.2.1,()),()))) ((0:Int),T.set (0+l.toNat) ((T.getD (0+l.toNat) []).set y8.toNat p),G,n,PUnit.unit)))=fnMW Tz (look [(190,Fp),(75,Jo),(203,bq.m (oF m)),(216,bq.m (eJ m))]) (eJ (m+1)) Try.f216 (n,T,G,l,p,()) P:=by kernel_rfl
theorem TE {p q:List Int} {j:Nat} (h:j<p.length):(Af p q).take (j+1)=(Af p q).take j++ [Cr q p[j]]:=by
 unfold Af
 rw [Ga (by rw [Bs];exact h),Za]
theorem wx (p q:List Int) (h:List.length p<=20/\Rk (List.length q) p):fnW Hz (look []) Kk Try.f75 (p,q,()) (λ(z:List Int)=>z=Af p q):=by
 obtain ⟨h1,h2⟩:=h
 refine Eq.mp (wZ p q _) ⟨rfl,rfl,?_⟩
 refine Cj p.length (λv=>v.1) (λj v=>v=((j:Int),(Af p q).take j,())) rfl rfl ?_
 rintro j v K hj hi rfl hK
 dsimp only
 have hlen:((Af p q).take j).length<=20:=by rw [Hg];unfold Af;rw [Bs];omega
 refine Br.dec (λhl=>?_) λhl=>?_
 ·have hl:j<p.length:=by omega
  have hr:=h2 p[j] (An hl)
  refine ⟨_,Dk hl,Cr q p[j],On hr.1 hr.2,rfl,rfl,?_,rfl,rfl,?_⟩
  ·show ((Af p q).take j).length+1<=4294967296
   omega
  ·rw [Cd (by omega)]
   refine hK hl _ rfl ?_
   rw [TE hl]
   rfl
 ·have:j=p.length:=by omega
  subst this
  rw [Dz,<-Oz p q,Bg]
theorem Qw:Sound Try.prog 75 Kk:=
 Sound.Ht Ge Cb mixed Try.func75 (by kernel_rfl) (by kernel_rfl) λx h=>wx x.1 x.2.1 h
theorem ca:Sound Try.prog 75 Mm:=Sound.loose Qw
theorem cb:Sound Try.prog 75 Jo:=Sound.toO Qw λx h=>⟨⟨h.1.2,h.2⟩,λe=>by
 have:=Oz x.1 x.2.1
 rw [e] at this
 have:=h.1.1
 simp only [Di] at*
 omega⟩
theorem yr {N L i:Nat} {G T:Ch} {p:List Int} (n2:N<=20) (v3:dT N (N-L) L (G,T)) (v2:T.length=N) (h1:L<=i) (hl:i<N) (h4:Pm N p) (h5:Fx i p):
  ∃o,idx p (i:Int)=some (ap p i:Int)/\T[i]?=some (T.getD i [])/\ap p i<(T.getD i []).length/\(T.getD i [])[ap p i]?=some o/\(T.getD i []).getD (ap p i) none=o/\
   (o=none->(o.getD []).length=0/\ ∀k,Nt T (k+1) i p=(p,(i:Int),()))/\
   (∀t,o=some t->(t.length≠0/\t.length<=20/\Rk t.length t)/\(p.length<=20/\Rk (Bb t).length p)/\Pm N (Af p (Bb t))/\Fx (i+1) (Af p (Bb t))/\ ∀k,Nt T (k+1) i p=Nt T k (i+1) (Af p (Bb t))):=by
 have Ka:=dY (N-L) L v3 i h1 (by omega)
 have hT:i<T.length:=by omega
 have hlen:(T.getD i []).length=N:=Ka.rl
 obtain ⟨a1,a2⟩:=h4.Ss hl
 have hg:(Cr p (i:Int)).toNat=ap p i:=rfl
 refine ⟨(T.getD i []).getD (ap p i) none,?_,?_,by omega,?_,rfl,λho=>?_,λt ho=>?_⟩
 ·rw [<-a1,Jj (by rw [h4.1];exact hl)];exact Dk (by rw [h4.1];exact hl)
 ·rw [Al,Ad hT];rfl
 ·rw [Al (l:=T.getD i []),Ad (by omega)];rfl
 ·refine ⟨by rw [ho];rfl,λk=>?_⟩
  simp only [Nt,hg,ho]
 ·obtain ⟨t1,t2,t3,t4⟩:=Ka.rt _ _ ho
  have hn1:=h4.n1
  refine ⟨⟨by rw [t1.1];omega,by rw [t1.1];exact n2,t1.2.row⟩,⟨by rw [h4.1];exact n2,by rw [nY,t1.1];exact h4.row⟩,h4.comp t1.inv,Fx.div h4 t1 h5 t2 hl t3,λk=>?_⟩
  simp only [Nt,hg,ho]
theorem Akv (c:Int×List (List (Option (List Int)))×List (List (Option (List Int)))×Unit) (l:Int) (p:List Int) (h: ∃N L,Vw N L c.1 c.2.2.1 c.2.1 l p):
  fnW Tz (look [(190,Fp),(75,Mm)]) qb Try.f201 (c,l,p,()) (λ(z:List Int×Int×Unit)=>z=Nt c.2.1 (c.1-l).toNat l.toNat p):=by
 obtain ⟨n,T,G,⟨⟩⟩:=c
 obtain ⟨N,L,h⟩:=h
 obtain ⟨n1,n2,en,el,hle,v,pm,fx⟩:=h
 dsimp only at en el v⊢
 subst en el
 refine Eq.mp (Alm ((N:Int),T,G,()) (L:Int) p _) ?_
 obtain ⟨v1,v2,v3,v4⟩:=v
 dsimp only at v1 v2
 refine ⟨λv=> ∃i:Nat,L<=i/\i<=N/\v.2.1=i/\Pm N v.1/\Fx i v.1/\Nt T (N-i) i v.1=Nt T (N-L) L p,λv=>N-v.2.1.toNat,⟨L,Aq _,hle,rfl,pm,fx,rfl⟩,?_⟩
 rintro ⟨p',i',⟨⟩⟩ ⟨i,h1,h2,h3,h4,h5,h6⟩
 dsimp only at h3 h4 h5 h6⊢
 subst h3
 rw [show (((N:Int)-(L:Int)).toNat)=N-L by omega,show ((L:Int)).toNat=L by omega,<-h6]
 refine Br.dec (λhl=>?_) λhl=>?_
 ·have hl:i<N:=by omega
  obtain ⟨o,s1,s2,s3,s4,s5,s6,s7⟩:=yr n2 v3 v2 h1 hl h4 h5
  have hT:i<T.length:=by omega
  refine ⟨T.getD i [],by rw [Dk hT,<-s2,Ad hT],_,s1,o,by rw [Dk s3,<-s4,Ad s3],?_⟩
  rw [show N-i=(N-i-1)+1 by omega]
  cases o with
  |none=>
   rw [(s6 rfl).2]
   exact Br.of (λ_=>rfl) λhb=>by simp at hb
  |some t=>
   obtain ⟨⟨q1,q2⟩,q3,q4,q5,q6⟩:=s7 t rfl
   refine Br.of (λhb=>absurd (by simpa using hb) q1) λ_=>?_
   refine ⟨_,Ab q2,_,Ab q3,⟨i+1,by omega,by omega,Cd (by omega),q4,q5,?_⟩,?_⟩
   ·rw [q6,show N-(i+1)=N-i-1 by omega];rfl
   ·show N-(IntKind.i64.wrap ((i:Int)+1)).toNat<N-((i:Int)).toNat
    rw [Cd (by omega)]
    omega
 ·have:i=N:=by omega
  subst this
  rw [eV]
  rfl
theorem OP:Sound Try.prog 201 qb:=
 Sound.Ht gk (Be Zn (Be ca Cb)) mixed Try.func201 (by kernel_rfl) (by kernel_rfl) λx h=>Akv x.1 x.2.1 x.2.2.1 h
theorem Afu (n:Int) (T G:List (List (Option (List Int)))) (l:Int) (p:List Int) (h: ∃N L,Vw N L n G T l p):
  fnMW Tz (look [(190,Fp),(75,Mm)]) kJ Try.f201 (n,T,G,l,p,()) (λ(z:(Int×List (List (Option (List Int)))×List (List (Option (List Int)))×List Int×Int×Unit)×Unit)=>z=((n,T,G,(Nt T (n-l).toNat l.toNat p).1,(Nt T (n-l).toNat l.toNat p).2.1,()),())):=by
 obtain ⟨N,L,h⟩:=h
 obtain ⟨n1,n2,en,el,hle,v,pm,fx⟩:=h
 subst en el
 refine Eq.mp (Ago (N:Int) T G (L:Int) p _) ⟨rfl,rfl,rfl,rfl,?_⟩
 obtain ⟨v1,v2,v3,v4⟩:=v
 dsimp only at v1 v2
 refine ⟨λv=> ∃i:Nat,L<=i/\i<=N/\v.2=((i:Int),T,G,(N:Int),())/\Pm N v.1/\Fx i v.1/\Nt T (N-i) i v.1=Nt T (N-L) L p,λv=>N-v.2.1.toNat,⟨L,Aq _,hle,rfl,pm,fx,rfl⟩,?_⟩
 rintro ⟨p',v'⟩ ⟨i,h1,h2,h3,h4,h5,h6⟩
 dsimp only at h3 h4 h5 h6⊢
 subst h3
 dsimp only
 rw [show (((N:Int)-(L:Int)).toNat)=N-L by omega,show ((L:Int)).toNat=L by omega,<-h6]
 refine Br.dec (λhl=>?_) λhl=>?_
 ·have hl:i<N:=by omega
  obtain ⟨o,s1,s2,s3,s4,s5,s6,s7⟩:=yr n2 v3 v2 h1 hl h4 h5
  simp only [Ac,Bn,true_and,Oa]
  refine ⟨⟨by omega,by omega⟩,_,s1,⟨by omega,by omega⟩,?_⟩
  rw [Ac,s5,show N-i=(N-i-1)+1 by omega]
  cases o with
  |none=>
   rw [(s6 rfl).2]
   exact Br.of (λ_=>rfl) λhb=>by simp at hb
  |some t=>
   obtain ⟨⟨q1,q2⟩,q3,q4,q5,q6⟩:=s7 t rfl
   refine Br.of (λhb=>absurd (by simpa using hb) q1) λ_=>?_
   refine ⟨_,Ab q2,_,Ab q3,⟨i+1,by omega,by omega,?_,q4,q5,?_⟩,?_⟩
   ·rw [Cd (by omega)]
   ·rw [q6,show N-(i+1)=N-i-1 by omega];rfl
   ·show N-(IntKind.i64.wrap ((i:Int)+1)).toNat<N-i-1+1
    rw [Cd (by omega)]
    omega
 ·have:i=N:=by omega
  subst this
  rw [eV]
  exact ⟨⟨rfl,rfl⟩,⟨rfl,rfl⟩,rfl⟩
theorem IS:Ci Try.prog 201 kJ:=
 Ci.dS gk (Be Zn (Be ca Cb)) mixed Try.func201 (by kernel_rfl) (by kernel_rfl) λx h=>Afu x.1 x.2.1 x.2.2.1 x.2.2.2.1 x.2.2.2.2.1 h
theorem Apq {m:Nat} (n:Int) (T G:List (List (Option (List Int)))) (l:Int) (p:Option (List Int)) (h:(∃N L q,p=some q/\Agq N L n G T l q)/\ni n.toNat l.toNat (G,T)<m+1):
  fnMW Tz (look [(190,Fp),(75,Jo),(203,bq.m (oF m)),(216,bq.m (eJ m))]) (eJ (m+1)) Try.f216 (n,T,G,l,p,()) (λ(z:(Int×List (List (Option (List Int)))×List (List (Option (List Int)))×Unit)×Unit)=>z=((n,(gB n.toNat 1000 l.toNat (p.getD []) (G,T)).2,(gB n.toNat 1000 l.toNat (p.getD []) (G,T)).1,()),())):=by
 obtain ⟨⟨N,L,q,rfl,h⟩,hm⟩:=h
 obtain ⟨n1,n2,en,el,Jc,part,pm,fx,gn,gl⟩:=h
 subst en el
 refine Eq.mp (Aqa (N:Int) T G (L:Int) (some q) _) ?_
 have l1:G.length=N:=part.l1
 have l2:T.length=N:=part.l2
 have row:=part.row
 dsimp only at row
 have KA:=row.rl
 have hy:=pm.lt Jc
 simp only [Ac,Bn,Bx,true_and,Oa,Bv] at hm⊢
 refine ⟨⟨by omega,by omega⟩,_,zu pm Jc,⟨by omega,by omega⟩,?_⟩
 simp only [Ac]
 rcases Option.eq_none_or_eq_some ((T.getD L []).getD (ap q L) none) with Ka|⟨t,Ka⟩
 case inr=>
  obtain ⟨t1,t2,t3,t4⟩:=row.rt _ _ Ka
  have htl:=t1.1
  refine Br.dec (λ_=>?_) λhb=>?_
  ·rw [Ka,Bx]
   have hw:IntKind.i64.wrap ((L:Int)+1)=((L+1:Nat):Int):=Cd (by omega)
   rw [hw]
   have hmu:=Aau (s:=(G,T)) Jc
   refine ⟨_,Ab ⟨by show t.length<=20;omega,t1.2.row⟩,some (Af q (Bb t)),Ab ⟨Xn pm,pY pm t1.inv⟩,_,
    Ab ⟨⟨N,L+1,_,rfl,n1,n2,rfl,rfl,by omega,part.v,pm.comp t1.inv,Fx.div pm t1 fx t2 Jc t3⟩,by show SA (N:Int).toNat ((L+1:Nat):Int).toNat<m;rw [Ac,Ac];omega⟩,?_⟩
   simp only [Ac,Bx]
   rw [YG n1 n2 Jc part pm fx Ka]
  ·rw [Ka,Bx] at hb
   omega
 case inl=>
  refine Br.dec (λhb=>by rw [Ka] at hb;simp at hb) λ_=>?_
  obtain ⟨a1,a2⟩:=DJ Jc part pm fx gn Ka
  have pB:=YF n1 n2 Jc part pm fx gn Ka
  have hmu:=Aff (n:=N) (q:=q) (s:=(G,T)) (k:=L) (y:=ap q L) (by show L<T.length;omega) (by show ap q L<(T.getD L []).length;omega) Ka
  have run:= λj=>xl n1 n2 Jc a1 a2 j
  dsimp only at a1 a2 pB hmu run
  refine ⟨⟨by omega,by omega⟩,_,zu pm Jc,⟨by omega,by omega⟩,?_⟩
  simp only [Ac]
  rw [pB]
  generalize hs0:((G,T.set L ((T.getD L []).set (ap q L) (some q))):Ch×Ch)=s0 at hmu run⊢
  have Ajv:T.set L ((T.getD L []).set (ap q L) (some q))=s0.2:=by rw [<-hs0]
  have Aa1:G=s0.1:=by rw [<-hs0]
  have hql:((G.getD L []).map λo=>Af q (o.getD [])).length=(G.getD L []).length:=Bs _
  refine Cj (G.getD L []).length (λv=>v.1) (λj v=> ∃s:Ch×Ch,v=((j:Int),s.2,s.1,(N:Int),())/\s=iW N L (((G.getD L []).map λo=>Af q (o.getD [])).take j) s0) rfl ⟨s0,by rw [<-Aa1,Ajv];rfl,rfl⟩ ?_
  rintro j v K hj hi ⟨s,rfl,hs⟩ hK
  have hr:=run j
  rw [<-hs] at hr
  have g1:s.1.getD L []=G.getD L []:=by rw [hr.same,Aa1]
  have g2:s.1.length=N:=hr.part.l1
  have g4:ni N L (s.1,s.2)<=ni N L s0:=hr.mu
  dsimp only
  simp only [g1]
  refine ⟨⟨by omega,by omega⟩,Br.dec (λhl=>?_) λhl=>?_⟩
  ·have hl:j<(G.getD L []).length:=by omega
   obtain ⟨g,oY,Tm,hgf⟩:=part.pg _ (An hl)
   have hgj:(G.getD L []).getD j none=some g:=by rw [FD hl];exact oY
   have hqj:(((G.getD L []).map λo=>Af q (o.getD []))[j]'(by rw [hql];exact hl))=Af q g:=by rw [Za,oY];rfl
   obtain ⟨b1,b2,b3⟩:=a2 (Af q g) (by rw [<-hqj];exact An _)
   simp only [Ac,hgj,Bx]
   refine ⟨⟨by omega,by omega⟩,⟨by omega,by omega⟩,some (Af q g),Ab ⟨Xn pm,pY pm Tm⟩,_,
    Ab ⟨⟨N,L,_,rfl,n1,n2,rfl,rfl,Jc,hr.part,b1,b2,by rw [g1];exact b3,by rw [g1];exact gl⟩,by show ni (N:Int).toNat (L:Int).toNat (s.1,s.2)<m;rw [Ac,Ac];omega⟩,?_⟩
   simp only [Ac,Bx]
   rw [Cd (by omega)]
   refine hK hl _ rfl ⟨_,rfl,?_⟩
   rw [tp (by rw [hql];exact hl),<-hs,hqj]
  ·have:j=(G.getD L []).length:=by omega
   subst this
   rw [<-hql,Bg] at hs
   rw [hs]
theorem Ac4 {m:Nat} (Ak7:Ci Try.prog 203 (oF m)) (MA:Ci Try.prog 216 (eJ m)):Ci Try.prog 216 (eJ (m+1)):=
 Ci.dS gk (Be Zn (Be cb (Ez Ak7 (Ez MA Cb)))) mixed Try.func216 (by kernel_rfl) (by kernel_rfl) λx h=>Apq x.1 x.2.1 x.2.2.1 x.2.2.2.1 x.2.2.2.2.1 h
theorem Apo {m:Nat} (n:Int) (T G:List (List (Option (List Int)))) (l:Int) (p:Option (List Int)) (h:(∃N L q,p=some q/\Vw N L n G T l q)/\SA n.toNat l.toNat<m+1):
  fnMW (Acm [vI+46]) (look [(201,kJ),(75,Jo),(216,bq.m (eJ m))]) (oF (m+1)) Try.f203 (n,T,G,l,p,()) (λ(z:(Int×List (List (Option (List Int)))×List (List (Option (List Int)))×Unit)×Unit)=>z=((n,(kP n.toNat 1000 l.toNat (p.getD []) (G,T)).2,(kP n.toNat 1000 l.toNat (p.getD []) (G,T)).1,()),())):=by
 obtain ⟨⟨N,L,q,rfl,h⟩,hm⟩:=h
 have h':=h
 obtain ⟨n1,n2,en,el,hle,v,pm,fx⟩:=h
 subst en el
 have hk:((N:Int)-(L:Int)).toNat=N-L:=by omega
 have back: ∀s:Ch×Ch,kP N 1000 L q (G,T)=s->((((N:Int),s.2,s.1,()),()):(Int×Ch×Ch×Unit)×Unit)=((((N:Int),(kP N 1000 L q (G,T)).2,(kP N 1000 L q (G,T)).1,()),()):(Int×Ch×Ch×Unit)×Unit):= λs e=>by rw [e]
 refine Eq.mp (Aq9 (N:Int) T G (L:Int) (some q) _) ?_
 simp only [Ac,Bn,Bx,true_and,Oa] at hm⊢
 refine Br.dec (λoY=>?_) λJc=>?_
 ·exact back (G,T) (PY (by rw [show N-L=0 by omega];rfl))
 have Jc:L<N:=by omega
 have hv:=v
 obtain ⟨v1,v2,v3,v4⟩:=v
 dsimp only at v1 v2
 have hsl:(Nt T (N-L) L q).2.1=(N:Int)↔Hc T (N-L) L q=true:=by
  have:=uL (T:=T) (N-L) L q
  rw [show L+(N-L)=N by omega] at this
  exact this
 refine ⟨_,Ab ⟨N,L,h'⟩,?_⟩
 simp only [Le]
 simp only [hk,Ac]
 refine Br.of (λhh=>?_) λhh=>?_
 ·exact back (G,T) (PY (hsl.1 (eq_of_beq hh)))
 have hno: ¬Hc T (N-L) L q=true:= λhc=>by rw [hsl.2 hc] at hh;simp at hh
 have lr:=YE n1 n2 (s:=(G,T)) Jc hv pm fx hno
 obtain ⟨a1,a2⟩:=DH n1 n2 (s:=(G,T)) Jc hv pm fx
 have hgl:(G.getD L []).length<=400:=by
  obtain ⟨k,hk1⟩: ∃k,N-L=k+1:=⟨N-L-1,by omega⟩
  rw [hk1] at hv
  exact QT n2 (by omega) hv
 have e1:(0:Int)<=(L:Int)/\(L:Int)<(G.length:Int):=by omega
 have e2:(G.getD L []).length+1<=Dn:=by show _<=4294967296;omega
 have row:=a1.row
 dsimp only at row a1 a2 lr
 have KA:=row.rl
 have run:= λj=>xl n1 n2 Jc a1 a2 j
 have hmu:=MQ a1
 simp only [Dy,List.take_succ_cons,List.take_zero,Av,Di,Bv,Bn,e1,e2,and_self,true_and,Oa]
 have hG1:(G.set L (G.getD L []++ [some q])).getD L []=G.getD L []++ [some q]:=dt G L (by omega) _
 generalize hs0:((G.set L (G.getD L []++ [some q]),T):Ch×Ch)=s0 at hmu run lr⊢
 have Aa1:G.set L (G.getD L []++ [some q])=s0.1:=by rw [<-hs0]
 have Ajv:T=s0.2:=by rw [<-hs0]
 refine Cj N (λv=>v.1) (λy v=>v=((y:Int),(known ((T.getD L []).take y)).map some,T,G.set L (G.getD L []++ [some q]),(N:Int),())) rfl rfl ?_
 rintro y v K hj hi rfl hK
 dsimp only
 refine Br.dec (λhl=>?_) λhl=>?_
 ·have hl:y<N:=by omega
  have hy:y<(T.getD L []).length:=by omega
  have hkt:=MK hy
  have My:=xJ ((T.getD L []).take y)
  rw [Hg] at My
  have hye:(T.getD L []).getD y none=(T.getD L [])[y]:=FD hy
  simp only [Ac]
  refine ⟨by omega,⟨by omega,by omega⟩,?_⟩
  rcases Option.eq_none_or_eq_some ((T.getD L []).getD y none) with ho|⟨t,ho⟩
  ·refine Br.dec (λhb=>by rw [ho] at hb;simp at hb) λ_=>?_
   rw [Cd (by omega)]
   refine hK hl _ rfl ?_
   rw [hkt,<-hye,ho]
   simp
  ·obtain ⟨t1,t2,t3,t4⟩:=row.rt _ _ ho
   have htl:=t1.1
   refine Br.dec (λ_=>?_) λhb=>by rw [ho,Bx] at hb;omega
   refine ⟨by omega,⟨by omega,by omega⟩,?_,?_⟩
   ·show _<=4294967296
    rw [Bs];omega
   ·rw [Cd (by omega)]
    refine hK hl _ rfl ?_
    rw [hkt,<-hye,ho]
    simp
 ·have:y=N:=by omega
  subst this
  have j8:(T.getD L []).take y=T.getD L []:=List.take_of_length_le (by omega)
  rw [j8]
  have hql:((known (T.getD L [])).map λu=>Af u q).length=(known (T.getD L [])).length:=Bs _
  have My:=xJ (T.getD L [])
  refine Cj (known (T.getD L [])).length (λv=>v.1) (λj v=> ∃s:Ch×Ch,v=((j:Int),(known (T.getD L [])).map some,s.2,s.1,(y:Int),())/\s=iW y L (((known (T.getD L [])).map λu=>Af u q).take j) s0) rfl ⟨s0,by rw [<-Ajv,Aa1];rfl,rfl⟩ ?_
  rintro j v K' hj' dP ⟨s,rfl,hs⟩ hK'
  have hr:=run j
  rw [<-hs] at hr
  have g1:s.1.getD L []=G.getD L []++ [some q]:=by rw [hr.same,<-Aa1];exact hG1
  have g4:ni y L (s.1,s.2)<=ni y L s0:=hr.mu
  dsimp only
  refine Br.dec (λJg=>?_) λJg=>?_
  ·rw [Bs] at Jg
   have Jg:j<(known (T.getD L [])).length:=by omega
   obtain ⟨w,hw⟩:=kB.1 (An Jg)
   obtain ⟨t1,t2,t3,t4⟩:=row.rt _ _ hw
   have hqj:(((known (T.getD L [])).map λu=>Af u q)[j]'(by rw [hql];exact Jg))=Af (known (T.getD L []))[j] q:=by rw [Za]
   obtain ⟨b1,b2,b3⟩:=a2 (Af (known (T.getD L []))[j] q) (by rw [<-hqj];exact An _)
   simp only [Ac]
   refine ⟨⟨by omega,by rw [Bs];omega⟩,some (known (T.getD L []))[j],by rw [Ex,Ad Jg];rfl,some (Af (known (T.getD L []))[j] q),Ab ⟨Xn t1,pY t1 pm⟩,_,
    Ab ⟨⟨y,L,_,rfl,n1,n2,rfl,rfl,Jc,hr.part,b1,b2,by rw [g1,<-hG1];exact b3,by rw [g1,Ay,Bu];omega⟩,by show ni (y:Int).toNat (L:Int).toNat (s.1,s.2)<m;rw [Ac,Ac];omega⟩,?_⟩
   simp only [Ac,Bx]
   rw [Cd (by omega)]
   refine hK' Jg _ rfl ⟨_,rfl,?_⟩
   rw [tp (by rw [hql];exact Jg),<-hs,hqj]
  ·rw [Bs] at Jg
   have:j=(known (T.getD L [])).length:=by omega
   subst this
   rw [<-hql,Bg] at hs
   exact back s (lr.trans hs.symm)
theorem Ac3 {m:Nat} (MA:Ci Try.prog 216 (eJ m)):Ci Try.prog 203 (oF (m+1)):=
 Ci.dS (Age [vI+46]) (Ez IS (Be cb (Ez MA Cb))) mixed Try.func203 (by kernel_rfl) (by kernel_rfl) λx h=>Apo x.1 x.2.1 x.2.2.1 x.2.2.2.1 x.2.2.2.2.1 h
theorem VW:Ci Try.prog 203 (oF 0)/\Ci Try.prog 216 (eJ 0):=
 ⟨Ci.dS Ge Cb mixed Try.func203 (by kernel_rfl) (by kernel_rfl) λ_ h=>absurd h.2 (Dj _),
  Ci.dS Ge Cb mixed Try.func216 (by kernel_rfl) (by kernel_rfl) λ_ h=>absurd h.2 (Dj _)⟩
theorem kK: ∀m,Ci Try.prog 203 (oF m)/\Ci Try.prog 216 (eJ m)
 |0=>VW
 |m+1=>⟨Ac3 (kK m).2,Ac4 (kK m).1 (kK m).2⟩
theorem OG:Ci Try.prog 203 AU:=Ci.Ai9 (λx=>SA x.1.toNat x.2.2.2.1.toNat) λm=>(kK m).1
noncomputable abbrev cY:Spec:=Ht (.pair tL .unit) tO false true (λx=>short x.1/\1<=List.length x.1) (λx=>some x.1)
noncomputable abbrev zz:MSpec:= {Hw:= [none],ins:= [(false, .Fe tI)],Gl:=false,Gz:= [none,none,none],outs:= [.Fe tI, .Bo tO vQ false, .Bo tO vQ false],fn:= λ_=>none,rp:=some 189}
noncomputable abbrev Sf:MSpec:=dS zz (λx=>1<=x.1/\x.1<=20) (λx=>((x.1,Yu x.1.toNat,Tf x.1.toNat,()),()))
noncomputable abbrev w8:MSpec:= {Hw:= [none,none],ins:= [(false, .Fe tI),(false, .Fe tLO)],Gl:=false,Gz:= [none,none,none],outs:= [.Fe tI, .Bo tO vQ false, .Bo tO vQ false],fn:= λ_=>none,rp:=some 189}
noncomputable abbrev dB:MSpec:=dS w8 (λx=>(1<=x.1/\x.1<=20)/\List.length x.2.1<=4294967296/\ ∀o∈(x.2.1:List PO),∃g,o=some g/\Pm x.1.toNat g)
 (λx=>((x.1,(Pg x.1.toNat x.2.1).2,(Pg x.1.toNat x.2.1).1,()),()))
noncomputable abbrev w9:MSpec:= {Hw:= [none,none],ins:= [(false, .Fe tI),(false, .Fe se)],Gl:=false,Gz:= [none,none,none],outs:= [.Fe tI, .Bo tO vQ false, .Bo tO vQ false],fn:= λ_=>none,rp:=some 189}
noncomputable abbrev Ko:MSpec:=dS w9 (λx=>(1<=x.1/\x.1<=20)/\List.length x.2.1<=4294967296/\ ∀g∈(x.2.1:List (List Int)),Pm x.1.toNat g)
 (λx=>((x.1,(Xl x.1 x.2.1).2,(Xl x.1 x.2.1).1,()),()))
noncomputable abbrev Yd:Spec:=Ht (.pair (.ptr df) (.pair tL .unit)) .bool false true (λx=> ∃N,Vw N 0 x.1.1 x.1.2.2.1 x.1.2.1 0 x.2.1) (λx=>Hc x.1.2.1 x.1.1.toNat 0 x.2.1)
noncomputable def jl (n:Int) (g:List (List Int)) (p:List Int):Bool:=(Mi n g&&Gr n p)&&Hc (Xl n g).2 n.toNat 0 p
noncomputable abbrev Yl:Spec:=Ht (.pair tI (.pair se (.pair tL .unit))) .bool false true (λx=>So x.2.1/\short x.2.2.1) (λx=>jl x.1 x.2.1 x.2.2.1)
abbrev lG:Type:=Int×Int×List (List (Option (List Int)))×List (List (Option (List Int)))×PUnit
theorem CP (n:Int) (P:(Int×List (List (Option (List Int)))×List (List (Option (List Int)))×Unit)×Unit->Prop):(0=0/\0=([]:List Int).length/\0=0/\0=([]:List Int).length/\Ev (λ(v2:lG) (k3:lG->Prop)=>Br (decide (v2.1<n)) (((0:Int)<=n/\n<(↑Dn:Int)+(1:Int))/\n=n/\ ∃(y4:Option (List Int)),Pf.fn (n,())=some y4/\((0:Int)<=v2.1/\v2.1<(↑(List.replicate n.toNat (none:Option (List Int))).length:Int))/\0+v2.1.toNat<(List.replicate n.toNat (none:Option (List Int))).length/\0=0/\(List.replicate n.toNat (none:Option (List Int))).length=((List.replicate n.toNat (none:Option (List Int))).set (0+v2.1.toNat) y4).length/\(0=0/\v2.2.2.1.length=v2.2.2.1.length)/\(0=0/\1= [(List.replicate n.toNat (none:Option (List Int))).set (0+v2.1.toNat) y4].length)/\0< [(List.replicate n.toNat (none:Option (List Int))).set (0+v2.1.toNat) y4].length/\v2.2.2.1.length+ [(List.replicate n.toNat (none:Option (List Int))).set (0+v2.1.toNat) y4].length<=Dn/\0=0/\0=([]:List Int).length/\(0=0/\v2.2.2.2.1.length=v2.2.2.2.1.length)/\(0=0/\1=([[]]:List (List (Option (List Int)))).length)/\0<([[]]:List (List (Option (List Int)))).length/\v2.2.2.2.1.length+([[]]:List (List (Option (List Int)))).length<=Dn/\0=0/\(v2.2.2.1++ [(List.replicate n.toNat (none:Option (List Int))).set (0+v2.1.toNat) y4]).length=(v2.2.2.1++ [(List.replicate n.toNat (none:Option (List Int))).set (0+v2.1.toNat) y4]).length/\0=0/\(v2.2.2.2.1++ [[]]).length=(v2.2.2.2.1++ [[]]).length/\k3 (IntKind.i64.wrap (v2.1+(1:Int)),v2.2.1,v2.2.2.1++ [(List.replicate n.toNat (none:Option (List Int))).set (0+v2.1.toNat) y4],v2.2.2.2.1++ [[]],())) ((0=0/\v2.2.2.1.length=v2.2.2.1.length)/\(0=0/\v2.2.2.2.1.length=v2.2.2.2.1.length)/\P ((v2.2.1,v2.2.2.1,v2.2.2.2.1,()),()))) ((0:Int),n,[],[],PUnit.unit))=fnMW Tz (look [(66,Pf)]) Sf Try.f202 (n,()) P:=by kernel_rfl
abbrev jS:Type:=(Int×List (List (Option (List Int)))×List (List (Option (List Int)))×PUnit)×PUnit
abbrev jU:Type:=Int×List (List (Option (List Int)))×List (List (Option (List Int)))×Int×PUnit
theorem wV (n:Int) (gens:List (Option (List Int))) (P:(Int×List (List (Option (List Int)))×List (List (Option (List Int)))×Unit)×Unit->Prop):(∃(y3:jS),Sf.fn (n,())=some y3/\0=0/\y3.1.2.1.length=y3.1.2.1.length/\0=0/\y3.1.2.2.1.length=y3.1.2.2.1.length/\Ev (λ(v4:jU) (k5:jU->Prop)=>Br (decide (v4.1<(↑gens.length:Int))) (∃(y6:Option (List Int)),idx gens v4.1=some y6/\ ∃(y7:Option (List Int)),cY.fn (y6.getD [],())=some y7/\0=0/\v4.2.1.length=v4.2.1.length/\0=0/\v4.2.2.1.length=v4.2.2.1.length/\ ∃(y8:jS),AU.fn (v4.2.2.2.1,v4.2.1,v4.2.2.1,(0:Int),y7,())=some y8/\0=0/\y8.1.2.1.length=y8.1.2.1.length/\0=0/\y8.1.2.2.1.length=y8.1.2.2.1.length/\k5 (IntKind.i64.wrap (v4.1+(1:Int)),y8.1.2.1,y8.1.2.2.1,y8.1.1,())) ((0=0/\v4.2.1.length=v4.2.1.length)/\(0=0/\v4.2.2.1.length=v4.2.2.1.length)/\P ((v4.2.2.2.1,v4.2.1,v4.2.2.1,()),()))) ((0:Int),y3.1.2.1,y3.1.2.2.1,y3.1.1,PUnit.unit))=fnMW Tz (look [(202,Sf),(86,cY),(203,AU)]) dB Try.f171 (n,gens,()) P:=by kernel_rfl
theorem PH (c:Int×List (List (Option (List Int)))×List (List (Option (List Int)))×Unit) (p:List Int) (P:Bool->Prop):(∃(y3:List Int×Int×PUnit),qb.fn (c,(0:Int),p,())=some y3/\P (y3.2.1==c.1))=fnW Tz (look [(201,qb)]) Yd Try.f170 (c,p,()) P:=by kernel_rfl
theorem PM (n:Int) (g:List (List Int)) (p:List Int) (P:Bool->Prop):(∃(y4:Bool),Kc.fn (n,g,())=some y4/\Br y4 (Br ((↑p.length:Int)==n) (∃(y5:Bool),Im.fn (p,())=some y5/\Br y5 (∃(y6:(Int×List (List (Option (List Int)))×List (List (Option (List Int)))×PUnit)×PUnit),Ko.fn (n,g,())=some y6/\ ∃(y7:Bool),Yd.fn ((y6.1.1,List.take y6.1.2.1.length (List.drop 0 y6.1.2.1),List.take y6.1.2.2.1.length (List.drop 0 y6.1.2.2.1),()),p,())=some y7/\P y7) (P false)) (P false)) (P false))=fnW Hz (look [(115,Kc),(169,Im),(171,Ko),(170,Yd)]) Yl Try.f117 (n,g,p,()) P:=by kernel_rfl
theorem JL (p:Int×ByteArray×List (List Int)×Unit) (s:List Int) (P:Bool->Prop):(∃(y3:Bool),Sh.fn ((p.1,p.2.1,p.2.2.1,()),s,())=some y3/\Br y3 (∃(y4:Bool),Yl.fn (p.1,p.2.2.1,s,())=some y4/\P y4) (P false))=fnW Hz (look [(73,Sh),(117,Yl)]) Ym Try.f49 (p,s,()) P:=by kernel_rfl
theorem kW:Sound Try.prog 66 Pf:=Sound.toO c8 λ_ h=>SS h
theorem rY:Sound Try.prog 86 cY:=Sound.toO uT λx h=>⟨h.1,λe=>by
 have h2:=h.2
 replace e:x.1= []:=e
 rw [e] at h2
 simp at h2⟩
theorem zV (n:Int) (h:1<=n/\n<=20):fnMW Tz (look [(66,Pf)]) Sf Try.f202 (n,()) (λ(z:(Int×List (List (Option (List Int)))×List (List (Option (List Int)))×Unit)×Unit)=>z=((n,Yu n.toNat,Tf n.toNat,()),())):=by
 obtain ⟨h1,h2⟩:=h
 obtain ⟨N,rfl⟩: ∃N:Nat,n=N:=⟨n.toNat,by omega⟩
 rw [Ac]
 refine Eq.mp (CP (N:Int) _) ?_
 have hm:((0:Int)<=(N:Int)/\(N:Int)<(Dn:Int)+1):=⟨by omega,by show (N:Int)<(4294967296:Int)+1;omega⟩
 simp only [hm,and_self,eq_self,true_and,Oa,Ac,Bn,Di,Bv,Dt,Av,Nat.lt_add_one]
 refine Cj N (λv=>v.1) (λj v=>v=((j:Int),(N:Int),(List.range j).map (cd N),List.replicate j [],())) rfl rfl ?_
 rintro j v K hj hi rfl hK
 dsimp only
 refine Br.dec (λhl=>?_) λhl=>?_
 ·simp only [Ac,Bs,Vt,Dt]
  refine ⟨_,Ab ⟨by show (1:Int)<=N;omega,by show (N:Int)<=20;omega⟩,⟨by omega,by omega⟩,by omega,?_,?_,?_⟩
  ·show _<=4294967296
   omega
  ·show _<=4294967296
   omega
  ·rw [Cd (by omega)]
   refine hK (by omega) _ rfl ?_
   rw [bb,It,List.replicate_succ']
   rfl
 ·have:j=N:=by omega
  subst this
  rfl
theorem qe:Ci Try.prog 202 Sf:=
 Ci.dS gk (Be kW Cb) mixed Try.func202 (by kernel_rfl) (by kernel_rfl) λx h=>zV x.1 h
theorem wo (n:Int) (gens:List (Option (List Int))) (h:(1<=n/\n<=20)/\List.length gens<=4294967296/\ ∀o∈(gens:List PO),∃g,o=some g/\Pm n.toNat g):
  fnMW Tz (look [(202,Sf),(86,cY),(203,AU)]) dB Try.f171 (n,gens,()) (λ(z:(Int×List (List (Option (List Int)))×List (List (Option (List Int)))×Unit)×Unit)=>z=((n,(Pg n.toNat gens).2,(Pg n.toNat gens).1,()),())):=by
 obtain ⟨⟨h1,h2⟩,h3,hg⟩:=h
 obtain ⟨N,rfl⟩: ∃N:Nat,n=N:=⟨n.toNat,by omega⟩
 rw [Ac] at hg⊢
 have h1:1<=N:=by omega
 have h2:N<=20:=by omega
 refine Eq.mp (wV (N:Int) gens _) ⟨_,Ab ⟨by show (1:Int)<=N;omega,by show (N:Int)<=20;omega⟩,rfl,rfl,rfl,rfl,?_⟩
 simp only [Ac,true_and,Oa]
 refine Cj gens.length (λv=>v.1) (λi v=>v=((i:Int),(Pg N (gens.take i)).2,(Pg N (gens.take i)).1,(N:Int),())) rfl rfl ?_
 rintro i v K' dP Ath rfl hK'
 dsimp only
 refine Br.dec (λJg=>?_) λJg=>?_
 ·have Jg:i<gens.length:=by omega
  obtain ⟨g,oY,Tm⟩:=hg gens[i] (An Jg)
  have hgl:=Tm.1
  have hv:=kd h1 h2 (gens:=gens.take i) λo ho=>hg o (Er ho)
  refine ⟨some g,by rw [Dk Jg,oY],some g,Ab ⟨by show g.length<=4294967296;omega,by show 1<=g.length;omega⟩,_,Ab ⟨N,0,g,rfl,h1,h2,rfl,rfl,Jx _,hv,Tm,λi hi=>absurd hi (Dj _)⟩,?_⟩
  rw [Cd (by omega)]
  refine hK' Jg _ rfl ?_
  rw [yN Jg,oY]
  rfl
 ·have:i=gens.length:=by omega
  subst this
  rw [Bg]
theorem oJ:Ci Try.prog 171 dB:=
 Ci.dS gk (Ez qe (Be rY (Ez OG Cb))) mixed Try.func171 (by kernel_rfl) (by kernel_rfl) λx h=>wo x.1 x.2.1 h
theorem eQ:Ci Try.prog 171 Ko:=by
 have h:=oJ
 refine ⟨h.enter,λw S π us x r o g vs h1 hg h2 h3 hS h4 h5=>?_⟩
 obtain ⟨n,gens,⟨⟩⟩:=x
 match us,h2 with
 |u1::u2::us,h2=>
  obtain ⟨h6,⟨h7,h8⟩,h9⟩:=h2
  obtain ⟨os,oX,hZ⟩:=Da.Aie (e:=tI) h8
  have hZ:os.map (·.getD [])=(gens:List (List Int)):=hZ
  have du:(1<=n/\n<=20)/\List.length gens<=4294967296/\ ∀g∈(gens:List (List Int)),Pm n.toNat g:=Bk λhn=>by
   have:Ko.fn (n,gens,())=none:=Ak hn
   rw [this] at h5;cases h5
  have hos:os=gens.map some:=by
   rw [<-hZ,List.map_map]
   refine (List.map_id os).symm.trans (Gj λx hx=>?_)
   cases x with
   |some y=>rfl
   |none=>
    have:=du.2.2 [] (by rw [<-hZ];exact Ba.2 ⟨none,hx,rfl⟩)
    have h1:=this.n1
    have h2:=this.1
    simp at h2
    omega
  have hv:Ko.fn (n,gens,())=some ((n,(Xl n gens).2,(Xl n gens).1,()),()):=Ab du
  rw [hv] at h5
  have h5:=Bd h5
  refine h.calls w S π (u1::u2::us) (n,os,()) r o g vs h1 hg ⟨h6,⟨h7,oX⟩,h9⟩ h3 hS h4 ?_
  refine (Ab ⟨du.1,by rw [hos,Bs];exact du.2.1,λy hy=>?pp⟩).trans (Cx some ?qq)
  case pp=>
   replace hy:y∈os:=hy
   rw [hos] at hy
   obtain ⟨g,hg,rfl⟩:=Ba.1 hy
   exact ⟨g,rfl,du.2.2 g hg⟩
  case qq=>subst hos;exact h5
theorem NB (c:Int×List (List (Option (List Int)))×List (List (Option (List Int)))×Unit) (p:List Int) (h: ∃N,Vw N 0 c.1 c.2.2.1 c.2.1 0 p):
  fnW Tz (look [(201,qb)]) Yd Try.f170 (c,p,()) (λ(z:Bool)=>z=Hc c.2.1 c.1.toNat 0 p):=by
 obtain ⟨n,T,G,⟨⟩⟩:=c
 obtain ⟨N,h⟩:=h
 have h':=h
 obtain ⟨n1,n2,en,el,hle,v,pm,fx⟩:=h
 dsimp only at en
 subst en
 refine Eq.mp (PH ((N:Int),T,G,()) p _) ⟨_,Ab ⟨N,0,h'⟩,?_⟩
 have hs:=uL (T:=T) N 0 p
 rw [Bn] at hs
 show ((Nt T ((N:Int)-0).toNat (0:Int).toNat p).2.1==(N:Int))=Hc T (N:Int).toNat 0 p
 rw [Int.sub_zero,Ac]
 exact iv.2 (aD.trans hs)
theorem uP:Sound Try.prog 170 Yd:=
 Sound.Ht gk (Be OP Cb) mixed Try.func170 (by kernel_rfl) (by kernel_rfl) λx h=>NB x.1 x.2.1 h
theorem NG (n:Int) (g:List (List Int)) (p:List Int) (h:So g/\short p):fnW Hz (look [(115,Kc),(169,Im),(171,Ko),(170,Yd)]) Yl Try.f117 (n,g,p,()) (λ(z:Bool)=>z=jl n g p):=by
 obtain ⟨hg,hp⟩:=h
 refine Eq.mp (PM n g p _) ⟨_,Ab hg,?_⟩
 unfold jl
 show Br (Mi n g) _ _
 refine Br.of (λh1=>?_) λh1=>by rw [h1];rfl
 obtain ⟨⟨n1,n2⟩,h8,Kf⟩:=Ej.1 h1
 refine Br.of (λh2=>?_) λh2=>?_
 ·have h2:(p.length:Int)=n:=eq_of_beq h2
  refine ⟨_,Ab hp,?_⟩
  show Br (Kb p) _ _
  refine Br.of (λh3=>?_) λh3=>?_
  ·have hgo:Gr n p=true:=Ej.2 ⟨h2,h3⟩
   have my: ∀x,Gr n x=true->Pm n.toNat x:= λx hx=>by
    obtain ⟨a,b⟩:=Ej.1 hx
    exact ⟨by omega,dz b⟩
   have lp: ∀x∈g,Pm n.toNat x:= λx hx=>my x (Kf x hx)
   have hV:=kd (n:=n.toNat) (by omega) (by omega) (Wo lp)
   refine ⟨_,Ab ⟨⟨n1,n2⟩,hg.1,lp⟩,_,Ab ⟨n.toNat,?vv⟩,?_⟩
   case vv=>
    simp only [Dz]
    exact ⟨by omega,by omega,(gy (by omega)).symm,rfl,Jx _,hV,my p hgo,λi hi=>absurd hi (Dj _)⟩
   simp only [Dz]
   rw [h1,hgo]
   rfl
  ·have:Gr n p=false:=by
    rw [cr]
    intro hc
    rw [(Ej.1 hc).2] at h3
    cases h3
   rw [this,Bool.and_false,Tk]
 ·have:Gr n p=false:=by
   rw [cr]
   intro hc
   rw [(Ej.1 hc).1] at h2
   simp at h2
  rw [this,Bool.and_false,Tk]
theorem uV:Sound Try.prog 117 Yl:=
 Sound.Ht Ge (Be Yq (Be Yr (Ez eQ (Be uP Cb)))) mixed Try.func117 (by kernel_rfl) (by kernel_rfl) λx h=>NG x.1 x.2.1 x.2.2.1 h
theorem TC {p:PP} (hv:Cs p=true) {s:List Int} (hs:Pm p.1.toNat s):Hc (Xl p.1 p.2.2.1).2 p.1.toNat 0 s=Hc (Ud p.1 p.2.2.1).2 p.1.toNat 0 s:=by
 have hV:=valid hv
 have hn:=hV.n
 have hg:=Wo (Zq hV).2.2
 exact iv.2 ((j7 (by omega) (by omega) hg hs).trans (bL (by omega) (by omega) hg hs).symm)
theorem FA {n:Int} {s:List Int} (h:Gr n s=true):Pm n.toNat s:=by
 obtain ⟨a,b⟩:=Ej.1 h
 exact ⟨by omega,dz b⟩
theorem HU (p:PP) (s:List Int) (h:Gt p/\short s):fnW Hz (look [(73,Sh),(117,Yl)]) Ym Try.f49 (p,s,()) (λ(z:Bool)=>z=cQ p s):=by
 refine Eq.mp (JL p s _) ⟨_,Ab h,?_⟩
 show Br (Cs p&&Gr p.1 s) _ _
 unfold cQ
 refine Br.of (λhb=>?_) λhb=>by rw [hb];rfl
 obtain ⟨hv,hg⟩:=Ct.1 hb
 have hV:=valid hv
 have hn:=hV.n
 have ZQ:Mi p.1 p.2.2.1=true:=by
  refine Ej.2 ⟨⟨by omega,by omega⟩,by have:=hV.oW;omega,λx hx=>Ej.2 ⟨by have:=hV.len x hx;omega,hV.perm x hx⟩⟩
 refine ⟨_,Ab ⟨h.1.2,h.2⟩,?_⟩
 show jl p.1 p.2.2.1 s=_
 unfold jl
 rw [ZQ,hg,hv,TC hv (FA hg)]
theorem sd:Sound Try.prog 49 Ym:=
 Sound.Ht Ge (Be dc (Be uV Cb)) mixed Try.func49 (by kernel_rfl) (by kernel_rfl) λx h=>HU x.1 x.2.1 h
theorem Ju.sub {g:List (List Int)} {ls:List Int} {L:List (List Int)} {S S':List Int->Prop} {d d':List Int->Int} (hc:lX g ls L) (h:Ju g ls L S d) (h':Ju g ls L S' d') (hS: ∀x∈L,S' x->S x):
  ∀(n:Nat) (x:List Int),x∈L->d' x=n->d x<=n
 |0,x,hx,e=>by
  have:=(h.zero x hx).2 (hS x hx ((h'.zero x hx).1 e))
  omega
 |n+1,x,hx,e=>by
  obtain ⟨l,hl,hd⟩:=h'.down x hx (by omega)
  obtain ⟨b1,b2⟩:=hc.back x hx l hl
  have h1:=Ju.sub hc h h' hS n _ (hc.next x hx l hl) (by omega)
  have h2:=h.step _ (hc.next x hx l hl) _ b1
  rw [b2] at h2
  omega
theorem fk {p:PP} (hw:Ds p=true): ∀(n:Nat) (x y:List Int),x∈Ag p->y∈Ag p->Li (Ag p) (Bh p) x=n->
  Af y (Bb x)∈Ag p/\Li (Ag p) (Bh p) (Af y (Bb x))<=Li (Ag p) (Bh p) y+n
 |0,x,y,hx,hy,e=>by
  have hv:=(Cw hw).1
  have hn:=(valid hv).n
  have h0:=((Pv hw).zero x hx).1 e
  have hid:x=upto p.1.toNat:=by rw [h0];exact (Lt hv).1
  have:Af y (Bb x)=y:=by
   rw [hid,MD (by omega) (by omega)]
   exact comp_id (cc hv hy)
  rw [this]
  exact ⟨hy,by omega⟩
 |n+1,x,y,hx,hy,e=>by
  have hv:=(Cw hw).1
  have hV:=valid hv
  obtain ⟨l,hl,hd⟩:=(Pv hw).down x hx (by omega)
  have hL:=eD hV (Nj hl)
  have hpx:=cc hv hx
  have hpy:=cc hv hy
  have hc:=Na hw
  have hx1:=hc.next x hx l hl
  have tH:=cc hv hx1
  have ex:x=Af (Af x (Ax p.2.2.1 l)) (Bb (Ax p.2.2.1 l)):=by
   rw [Fc hpx hL hL.inv,Tq hL,comp_id hpx]
  have ei:Bb x=Af (Ax p.2.2.1 l) (Bb (Af x (Ax p.2.2.1 l))):=by
   have:=Cx Bb ex
   rw [inv_mul tH hL.inv,inv_inv hL] at this
   exact this
  obtain ⟨h1,h2⟩:=fk hw n _ (Af y (Ax p.2.2.1 l)) hx1 (hc.next y hy l hl) (by omega)
  have h3:=(Pv hw).step y hy l hl
  rw [ei,<-Fc hpy hL tH.inv]
  exact ⟨h1,by omega⟩
theorem Ae7 {p:PP} (hw:Ds p=true) {s:List Int} (hs:s∈Ag p):Bb s∈Ag p/\Li (Ag p) (Bh p) (Bb s)=Li (Ag p) (Bh p) s:=by
 have hv:=(Cw hw).1
 have hn:=(valid hv).n
 have key: ∀s,s∈Ag p->Bb s∈Ag p/\Li (Ag p) (Bh p) (Bb s)<=Li (Ag p) (Bh p) s:= λs hs=>by
  have h0:=(Pv hw).nn s hs
  obtain ⟨h1,h2⟩:=fk hw (Li (Ag p) (Bh p) s).toNat s (upto p.1.toNat) hs (Lt hv).2 (by omega)
  have hz:=((Pv hw).zero _ (Lt hv).2).2 (Lt hv).1.symm
  rw [id_comp (cc hv hs).inv] at h1 h2
  exact ⟨h1,by omega⟩
 obtain ⟨h1,h2⟩:=key s hs
 have h3:=(key _ h1).2
 rw [inv_inv (cc hv hs)] at h3
 exact ⟨h1,by omega⟩
abbrev tB:Ty:= .slice (.int .u8)
abbrev XT:Ty:= .int .u64
def hN (h:Int):Int:=IntKind.u64.wrap (IntKind.u64.wrap (h*(6364136223846793005:Int))+(1442695040888963407:Int))
def xN (h:Int):Int:=IntKind.i64.wrap (IntKind.u64.wrap (↑(BitVec.ofInt IntKind.u64.bits (h.fdiv ((2:Int)^min (Int.toNat (33:Int)) IntKind.u64.bits))&&&BitVec.ofInt IntKind.u64.bits (16777215:Int)).toNat:Int))
def dI (b:List Int) (i:Int):Int:=if i<(b.length:Int) then i+1 else i
def dR (b:List Int) (i h n:Int):Int:=if i<(b.length:Int) then (xN (hN h)+Cr b i).tmod n else (xN (hN h)).tmod n
structure eU (b:List Int) (i:Int):Prop where
 len:b.length<=4096
 byte: ∀y∈b,0<=y/\y<256
 lo:0<=i
 hi:i<=b.length
def IB:List Int->Int->Int
 | [],h=>h
 |c::r,h=>IB r (IntKind.u64.wrap (IntKind.u64.wrap (IntKind.u64.wrap (h*(1099511628211:Int))+IntKind.u64.wrap c)+(3:Int)))
def pJ (b:List Int) (s:Int):Int:=IB b (IntKind.u64.wrap (IntKind.u64.wrap (s*(7919:Int))+IntKind.u64.wrap (b.length:Int)))
def Zy (b:List Int) (i h m:Int):Int×Int×Int:=(dI b (dI b i),hN (hN h),if dR b (dI b i) (hN h) 2=0 then-(1+dR b i h m) else 1+dR b i h m)
def wGo (b:List Int) (m:Int):Nat->Int->Int->List Int->Int×Int×List Int
 |0,i,h,w=>(i,h,w)
 |k+1,i,h,w=>wGo b m k (Zy b i h m).1 (Zy b i h m).2.1 (w++ [(Zy b i h m).2.2])
def Vf (b:List Int) (i h m k:Int):Int×Int×List Int:=wGo b m (dR b i h (k+1)).toNat (dI b i) (hN h) []
def gi (b:List Int) (n:Int):Nat->Int->Int->List Int->Int×Int×List Int
 |0,i,h,mv=>(i,h,mv)
 |k+1,i,h,mv=>gi b n k (dI b (dI b i)) (hN (hN h)) ((mv.set (dR b i h n).toNat (Cr mv (dR b (dI b i) (hN h) n))).set (dR b (dI b i) (hN h) n).toNat (Cr mv (dR b i h n)))
def pL (b:List Int) (n i h:Int):Int×Int×List Int:=gi b n (1+dR b i h 3).toNat (dI b i) (hN h) (upto n.toNat)
def aI (b:List Int) (n:Int):Nat->Int->Int->List (List Int)->Int×Int×List (List Int)
 |0,i,h,ms=>(i,h,ms)
 |k+1,i,h,ms=>aI b n k (pL b n i h).1 (pL b n i h).2.1 (ms++ [(pL b n i h).2.2])
def Aax:ByteArray:= {data:= #[(65:UInt8),(66:UInt8)]}
def aH (b:List Int) (i h:Int):Int×Int×PP:=((aI b (3+dR b i h 3) 2 (dI b i) (hN h) []).1,(aI b (3+dR b i h 3) 2 (dI b i) (hN h) []).2.1,(3+dR b i h 3,Aax,(aI b (3+dR b i h 3) 2 (dI b i) (hN h) []).2.2,()))
noncomputable abbrev Akb:MSpec:= {Hw:= [none,none],ins:= [(false, .Fe tB),(false, .Fe XT)],Gl:=false,Gz:= [none,none,none],outs:= [.Fe tB, .Fe tI, .Fe XT],fn:= λ_=>none,rp:=some 75}
noncomputable abbrev qa:MSpec:=dS Akb (λx=>List.length x.1<=4096) (λx=>((x.1,0,pJ x.1 x.2.1,()),()))
noncomputable abbrev Afb:MSpec:= {ptr:=some (75,3),Hw:= [none],ins:= [(false, .Fe tB),(false, .Fe tI),(false, .Fe XT),(false, .Fe tI)],Gl:=false,Gz:= [none],outs:= [.Fe tB, .Fe tI, .Fe XT, .Fe tI],fn:= λ_=>none}
noncomputable abbrev Lb:MSpec:=dS Afb (λx=>eU x.1 x.2.1/\1<=x.2.2.2.1) (λx=>((x.1,dI x.1 x.2.1,hN x.2.2.1,dR x.1 x.2.1 x.2.2.1 x.2.2.2.1,()),()))
noncomputable abbrev eK:MSpec:=ir [none] [(false, .Fe tI)] false [none] [rL] (λx=>0<=x.1/\x.1<=20) (λx=>((upto x.1.toNat,()),()))
noncomputable abbrev bn:MSpec:=ir [none] [(false, .Fe tI)] false [none] [rL] (λx=>1<=x.1/\x.1<=20) (λx=>((upto x.1.toNat,()),()))
noncomputable abbrev Tv:Spec:=Ht (.pair tI .unit) tL false true (λx=>1<=x.1/\x.1<=20) (λx=>upto x.1.toNat)
noncomputable abbrev yh:Spec:=Ht (.pair tB .unit) .bool false true (λ_=>True) (λx=>decide ((List.length x.1:Int)>4096))
noncomputable abbrev Apg:MSpec:= {ptr:=some (75,3),Hw:= [],ins:= [(false, .Fe tB),(false, .Fe tI),(false, .Fe XT)],Gl:=false,Gz:= [some 3],outs:= [.Fe tB, .Fe tI, .Fe XT, .Fe tI, .Fe .str,rLL],fn:= λ_=>none}
noncomputable abbrev yo:MSpec:=dS Apg (λx=>eU x.1 x.2.1) (λx=>((x.1,(aH x.1 x.2.1 x.2.2.1).1,(aH x.1 x.2.1 x.2.2.1).2.1,(aH x.1 x.2.1 x.2.2.1).2.2.1,(aH x.1 x.2.1 x.2.2.1).2.2.2.1,(aH x.1 x.2.1 x.2.2.1).2.2.2.2.1,()),()))
noncomputable abbrev Apf:MSpec:= {ptr:=some (75,3),Hw:= [none],ins:= [(false, .Fe tB),(false, .Fe tI),(false, .Fe XT),(false, .Fe tI)],Gl:=false,Gz:= [none],outs:= [.Fe tB, .Fe tI, .Fe XT, .Fe tI],fn:= λ_=>none}
noncomputable abbrev ym:MSpec:=dS Apf (λx=>eU x.1 x.2.1/\1<=x.2.2.2.1/\x.2.2.2.1<=8) (λx=>((x.1,(Zy x.1 x.2.1 x.2.2.1 x.2.2.2.1).1,(Zy x.1 x.2.1 x.2.2.1 x.2.2.2.1).2.1,(Zy x.1 x.2.1 x.2.2.1 x.2.2.2.1).2.2,()),()))
noncomputable abbrev Api:MSpec:= {ptr:=some (75,3),Hw:= [none,none],ins:= [(false, .Fe tB),(false, .Fe tI),(false, .Fe XT),(false, .Fe tI),(false, .Fe tI)],Gl:=false,Gz:= [none],outs:= [.Fe tB, .Fe tI, .Fe XT,rL],fn:= λ_=>none}
noncomputable abbrev rn:MSpec:=dS Api (λx=>eU x.1 x.2.1/\(1<=x.2.2.2.1/\x.2.2.2.1<=8)/\0<=x.2.2.2.2.1/\x.2.2.2.2.1<=20) (λx=>((x.1,(Vf x.1 x.2.1 x.2.2.1 x.2.2.2.1 x.2.2.2.2.1).1,(Vf x.1 x.2.1 x.2.2.1 x.2.2.2.1 x.2.2.2.2.1).2.1,(Vf x.1 x.2.1 x.2.2.1 x.2.2.2.1 x.2.2.2.2.1).2.2,()),()))
theorem All (code:List Int) (OC:Int) (P:((List Int×Int×Int×Unit)×Unit)->Prop):(Ev (λ(v3:Int×List Int×Int×Int×PUnit) (k4:Int×List Int×Int×Int×PUnit->Prop)=>Br (decide (v3.1<(↑code.length:Int))) (∃(y5:Int),idx code v3.1=some y5/\k4 (IntKind.i64.wrap (v3.1+(1:Int)),v3.2.1,v3.2.2.1,IntKind.u64.wrap (IntKind.u64.wrap (IntKind.u64.wrap (v3.2.2.2.1*(1099511628211:Int))+IntKind.u64.wrap y5)+(3:Int)),())) (P ((v3.2.1,v3.2.2.1,v3.2.2.2.1,()),()))) ((0:Int),code,Int.ofNat (nat_lit 0),IntKind.u64.wrap (IntKind.u64.wrap (OC*(7919:Int))+IntKind.u64.wrap (↑code.length:Int)),PUnit.unit))=fnMW Sp (look []) qa Try.f11 (code,OC,()) P:=by kernel_rfl
theorem Agh (b:List Int) (i h n:Int) (P:((List Int×Int×Int×Int×Unit)×Unit)->Prop):(¬(33:Int)<(0:Int)/\Br (decide (i<(↑b.length:Int))) (∃(y5:Int),idx b i=some y5/\n≠(0:Int)/\P ((b,IntKind.i64.wrap (i+(1:Int)),IntKind.u64.wrap (IntKind.u64.wrap (h*(6364136223846793005:Int))+(1442695040888963407:Int)),(IntKind.i64.wrap (IntKind.i64.wrap (IntKind.u64.wrap (↑(BitVec.ofInt IntKind.u64.bits ((IntKind.u64.wrap (IntKind.u64.wrap (h*(6364136223846793005:Int))+(1442695040888963407:Int))).fdiv ((2:Int)^min (Int.toNat (33:Int)) IntKind.u64.bits))&&&BitVec.ofInt IntKind.u64.bits (16777215:Int)).toNat:Int))+IntKind.i64.wrap y5)).tmod n,()),())) (n≠(0:Int)/\P ((b,i,IntKind.u64.wrap (IntKind.u64.wrap (h*(6364136223846793005:Int))+(1442695040888963407:Int)),(IntKind.i64.wrap (IntKind.u64.wrap (↑(BitVec.ofInt IntKind.u64.bits ((IntKind.u64.wrap (IntKind.u64.wrap (h*(6364136223846793005:Int))+(1442695040888963407:Int))).fdiv ((2:Int)^min (Int.toNat (33:Int)) IntKind.u64.bits))&&&BitVec.ofInt IntKind.u64.bits (16777215:Int)).toNat:Int))).tmod n,()),())))=fnMW Sp (look []) Lb Try.f17 (b,i,h,n,()) P:=by kernel_rfl
theorem Aqc (code:List Int) (P:Bool->Prop):(P (decide ((↑code.length:Int)>(4096:Int))))=fnW Hz (look []) yh Try.f10 (code,()) P:=by kernel_rfl
theorem Ad4 (n:Int) (P:((List Int×Unit)×Unit)->Prop):(0=0/\0=([]:List Int).length/\Ev (λ(v2:Int×List Int×PUnit) (k3:Int×List Int×PUnit->Prop)=>Br (decide (v2.1<n)) (0=0/\v2.2.1.length=v2.2.1.length/\v2.2.1.length+(List.take 1 (List.drop 0 [v2.1])).length<=Dn/\0=0/\(v2.2.1++List.take 1 (List.drop 0 [v2.1])).length=(v2.2.1++List.take 1 (List.drop 0 [v2.1])).length/\k3 (IntKind.i64.wrap (v2.1+(1:Int)),v2.2.1++List.take 1 (List.drop 0 [v2.1]),())) (P ((List.take v2.2.1.length (List.drop 0 v2.2.1),()),()))) ((0:Int),[],PUnit.unit))=fnMW Sp (look []) eK Try.f66 (n,()) P:=by kernel_rfl
theorem XE (n:Int) (P:((List Int×Unit)×Unit)->Prop):(∃(y2:Bool),Dl.fn (n,(1:Int),(20:Int),())=some y2/\Br (!y2) (P ((List.take 0 (List.drop 0 []),()),())) (∃(y3:(List Int×PUnit)×PUnit),eK.fn (n,())=some y3/\P ((List.take y3.1.1.length (List.drop 0 y3.1.1),()),())))=fnMW Sp (look [(65,Dl),(66,eK)]) bn Try.f16 (n,()) P:=by kernel_rfl
theorem Ad9 (n:Int) (P:List Int->Prop):(∃(y2:Bool),Dl.fn (n,(1:Int),(20:Int),())=some y2/\Br (!y2) (P (List.take 0 (List.drop 0 []))) (∃(y3:List Int),Pr.fn (n,())=some y3/\P y3))=fnW Hz (look [(65,Dl),(66,Pr)]) Tv Try.f16 (n,()) P:=by kernel_rfl
abbrev Ac8:Type:=Int×Int×ByteArray×Int×ByteArray×List (List Int)×List (List Int)×List Int×List Int×Int×Int×PUnit
abbrev Ace:Type:=Int×ByteArray×Int×ByteArray×List (List Int)×List (List Int)×List Int×Int×Int×PUnit
abbrev CC:Type:=(List Int×Int×Int×Int×PUnit)×PUnit
theorem Aqj (b:List Int) (i h:Int) (P:((List Int×Int×Int×Int×ByteArray×List (List Int)×Unit)×Unit)->Prop):(∃(y4:CC),Lb.fn (b,i,h,(3:Int),())=some y4/\0=0/\0=([]:List Int).length/\0=0/\0=([]:List Int).length/\Ev (λ(v5:Ace) (k6:Ace->Prop)=>Br (decide ((↑v5.2.2.2.2.2.1.length:Int)<(2:Int))) (∃(y7:(List Int×PUnit)×PUnit),bn.fn (v5.2.2.1,())=some y7/\ ∃(y8:CC),Lb.fn (v5.2.2.2.2.2.2.1,v5.2.2.2.2.2.2.2.1,v5.2.2.2.2.2.2.2.2.1,(3:Int),())=some y8/\0=0/\y7.1.1.length=y7.1.1.length/\0=0/\v5.2.2.2.2.1.length=v5.2.2.2.2.1.length/\0=0/\v5.2.2.2.2.2.1.length=v5.2.2.2.2.2.1.length/\Ev (λ(v9:Ac8) (k10:Ac8->Prop)=>Br (decide (v9.1>(0:Int))) (∃(Nu:CC),Lb.fn (v9.2.2.2.2.2.2.2.2.1,v9.2.2.2.2.2.2.2.2.2.1,v9.2.2.2.2.2.2.2.2.2.2.1,v9.2.2.2.1,())=some Nu/\ ∃(Vm:CC),Lb.fn (Nu.1.1,Nu.1.2.1,Nu.1.2.2.1,v9.2.2.2.1,())=some Vm/\((0:Int)<=Nu.1.2.2.2.1/\Nu.1.2.2.2.1<(↑v9.2.2.2.2.2.2.2.1.length:Int))/\ ∃(hJ:Int),v9.2.2.2.2.2.2.2.1[0+Nu.1.2.2.2.1.toNat]?=some hJ/\((0:Int)<=Vm.1.2.2.2.1/\Vm.1.2.2.2.1<(↑v9.2.2.2.2.2.2.2.1.length:Int))/\ ∃(Ub:Int),v9.2.2.2.2.2.2.2.1[0+Vm.1.2.2.2.1.toNat]?=some Ub/\((0:Int)<=Nu.1.2.2.2.1/\Nu.1.2.2.2.1<(↑v9.2.2.2.2.2.2.2.1.length:Int))/\0+Nu.1.2.2.2.1.toNat<v9.2.2.2.2.2.2.2.1.length/\((0:Int)<=Vm.1.2.2.2.1/\Vm.1.2.2.2.1<(↑v9.2.2.2.2.2.2.2.1.length:Int))/\0+Vm.1.2.2.2.1.toNat<(v9.2.2.2.2.2.2.2.1.set (0+Nu.1.2.2.2.1.toNat) Ub).length/\0=0/\v9.2.2.2.2.2.2.2.1.length=((v9.2.2.2.2.2.2.2.1.set (0+Nu.1.2.2.2.1.toNat) Ub).set (0+Vm.1.2.2.2.1.toNat) hJ).length/\0=0/\v9.2.2.2.2.2.1.length=v9.2.2.2.2.2.1.length/\0=0/\v9.2.2.2.2.2.2.1.length=v9.2.2.2.2.2.2.1.length/\k10 (IntKind.i64.wrap (v9.1-(1:Int)),v9.2.1,v9.2.2.1,v9.2.2.2.1,v9.2.2.2.2.1,v9.2.2.2.2.2.1,v9.2.2.2.2.2.2.1,(v9.2.2.2.2.2.2.2.1.set (0+Nu.1.2.2.2.1.toNat) Ub).set (0+Vm.1.2.2.2.1.toNat) hJ,Vm.1.1,Vm.1.2.1,Vm.1.2.2.1,())) (0=0/\v9.2.2.2.2.2.2.1.length=v9.2.2.2.2.2.2.1.length/\v9.2.2.2.2.2.2.1.length+(List.take 1 (List.drop 0 [List.take v9.2.2.2.2.2.2.2.1.length (List.drop 0 v9.2.2.2.2.2.2.2.1)])).length<=Dn/\0=0/\v9.2.2.2.2.2.1.length=v9.2.2.2.2.2.1.length/\0=0/\(v9.2.2.2.2.2.2.1++List.take 1 (List.drop 0 [List.take v9.2.2.2.2.2.2.2.1.length (List.drop 0 v9.2.2.2.2.2.2.2.1)])).length=(v9.2.2.2.2.2.2.1++List.take 1 (List.drop 0 [List.take v9.2.2.2.2.2.2.2.1.length (List.drop 0 v9.2.2.2.2.2.2.2.1)])).length/\k6 (v9.2.1,v9.2.2.1,v9.2.2.2.1,v9.2.2.2.2.1,v9.2.2.2.2.2.1,v9.2.2.2.2.2.2.1++List.take 1 (List.drop 0 [List.take v9.2.2.2.2.2.2.2.1.length (List.drop 0 v9.2.2.2.2.2.2.2.1)]),v9.2.2.2.2.2.2.2.2.1,v9.2.2.2.2.2.2.2.2.2.1,v9.2.2.2.2.2.2.2.2.2.2.1,()))) (IntKind.i64.wrap ((1:Int)+y8.1.2.2.2.1),v5.1,v5.2.1,v5.2.2.1,v5.2.2.2.1,v5.2.2.2.2.1,v5.2.2.2.2.2.1,y7.1.1,y8.1.1,y8.1.2.1,y8.1.2.2.1,PUnit.unit)) (P ((v5.2.2.2.2.2.2.1,v5.2.2.2.2.2.2.2.1,v5.2.2.2.2.2.2.2.2.1,v5.2.2.1,v5.2.2.2.1,List.take v5.2.2.2.2.2.1.length (List.drop 0 v5.2.2.2.2.2.1),()),()))) (Int.ofNat (nat_lit 0), {data:= #[]},IntKind.i64.wrap ((3:Int)+y4.1.2.2.2.1), {data:= #[(65:UInt8),(66:UInt8)]},[],[],y4.1.1,y4.1.2.1,y4.1.2.2.1,PUnit.unit))=fnMW Sp (look [(17,Lb),(16,bn)]) yo Try.f12 (b,i,h,()) P:=by kernel_rfl
abbrev Ac7:Type:=(List Int×Int×Int×Int×PUnit)×PUnit
theorem Aqi (b:List Int) (i h m:Int) (P:((List Int×Int×Int×Int×Unit)×Unit)->Prop):(∃(y5:Ac7),Lb.fn (b,i,h,m,())=some y5/\ ∃(y6:Ac7),Lb.fn (y5.1.1,y5.1.2.1,y5.1.2.2.1,(2:Int),())=some y6/\Br (y6.1.2.2.2.1==(0:Int)) (P ((y6.1.1,y6.1.2.1,y6.1.2.2.1,IntKind.i64.wrap ((0:Int)-IntKind.i64.wrap ((1:Int)+y5.1.2.2.2.1)),()),())) (P ((y6.1.1,y6.1.2.1,y6.1.2.2.1,IntKind.i64.wrap ((1:Int)+y5.1.2.2.2.1),()),())))=fnMW Sp (look [(17,Lb)]) ym Try.f138 (b,i,h,m,()) P:=by kernel_rfl
abbrev Ac9:Type:=Int×List Int×List Int×Int×Int×PUnit
abbrev Acf:Type:=(List Int×Int×Int×Int×PUnit)×PUnit
theorem Aql (b:List Int) (i h m k:Int) (P:((List Int×Int×Int×List Int×Unit)×Unit)->Prop):(∃(y6:Acf),Lb.fn (b,i,h,IntKind.i64.wrap (k+(1:Int)),())=some y6/\0=0/\0=([]:List Int).length/\Ev (λ(v7:Ac9) (k8:Ac9->Prop)=>Br (decide (v7.1>(0:Int))) (∃(y9:Acf),ym.fn (v7.2.2.1,v7.2.2.2.1,v7.2.2.2.2.1,m,())=some y9/\0=0/\v7.2.1.length=v7.2.1.length/\v7.2.1.length+(List.take 1 (List.drop 0 [y9.1.2.2.2.1])).length<=Dn/\0=0/\(v7.2.1++List.take 1 (List.drop 0 [y9.1.2.2.2.1])).length=(v7.2.1++List.take 1 (List.drop 0 [y9.1.2.2.2.1])).length/\k8 (IntKind.i64.wrap (v7.1-(1:Int)),v7.2.1++List.take 1 (List.drop 0 [y9.1.2.2.2.1]),y9.1.1,y9.1.2.1,y9.1.2.2.1,())) (P ((v7.2.2.1,v7.2.2.2.1,v7.2.2.2.2.1,List.take v7.2.1.length (List.drop 0 v7.2.1),()),()))) (y6.1.2.2.2.1,[],y6.1.1,y6.1.2.1,y6.1.2.2.1,PUnit.unit))=fnMW Sp (look [(17,Lb),(138,ym)]) rn Try.f62 (b,i,h,m,k,()) P:=by kernel_rfl
theorem Aih (h:Int):0<=xN h/\xN h<=16777215:=by
 obtain ⟨a,ha⟩: ∃a,BitVec.ofInt IntKind.u64.bits (h.fdiv ((2:Int)^min (Int.toNat (33:Int)) IntKind.u64.bits))=a:=⟨_,rfl⟩
 have h1:(a&&&BitVec.ofInt IntKind.u64.bits (16777215:Int)).toNat<=16777215:=by
  rw [BitVec.toNat_and]
  exact Nat.and_le_right
 unfold xN
 rw [ha]
 obtain ⟨x,hx⟩: ∃x,(a&&&BitVec.ofInt IntKind.u64.bits (16777215:Int)).toNat=x:=⟨_,rfl⟩
 rw [hx] at h1⊢
 have e:IntKind.u64.wrap (x:Int)=x:=by
  unfold IntKind.wrap
  have e1:IntKind.signed .u64=false:=rfl
  have e2:IntKind.bits .u64=64:=rfl
  rw [e1,e2]
  simp only [Tk,Df,Rb]
  omega
 rw [e,Dq (by omega) (by omega)]
 omega
theorem eU.Cr {b:List Int} {i:Int} (h:eU b i) (hi:i<b.length):0<=Cr b i/\Cr b i<256:=by
 have h0:=h.lo
 have hl:i.toNat<b.length:=by omega
 refine h.byte _ ?_
 unfold Go.Proofs.Ytkkdpknjohcekaa.Cr
 rw [Al,Ad hl]
 exact An hl
theorem eU.next {b:List Int} {i:Int} (h:eU b i):eU b (dI b i):=by
 have h0:=h.lo
 have h1:=h.hi
 unfold dI
 split
 ·exact ⟨h.len,h.byte,by omega,by omega⟩
 ·exact h
theorem gD {b:List Int} {i n:Int} (h:eU b i) (hn:1<=n) (s:Int):0<=dR b i s n/\dR b i s n<n:=by
 have hx:=Aih (hN s)
 unfold dR
 split
 ·rename_i hi
  have:=h.Cr hi
  exact ⟨Int.tmod_nonneg _ (by omega),Int.tmod_lt_of_pos _ (by omega)⟩
 ·exact ⟨Int.tmod_nonneg _ (by omega),Int.tmod_lt_of_pos _ (by omega)⟩
theorem Aku (code:List Int) (OC:Int) (h:code.length<=4096):fnMW Sp (look []) qa Try.f11 (code,OC,()) (λ(z:(List Int×Int×Int×Unit)×Unit)=>z=((code,0,pJ code OC,()),())):=by
 obtain ⟨R,hR⟩: ∃R,pJ code OC=R:=⟨_,rfl⟩
 rw [hR]
 unfold pJ at hR
 refine Eq.mp (All code OC _) ?_
 refine Cj code.length (λv=>v.1) (λj v=>v.2.1=code/\v.2.2.1=0/\IB (code.drop j) v.2.2.2.1=R) rfl ⟨rfl,rfl,hR⟩ ?_
 rintro j ⟨jj,c,i,s,⟨⟩⟩ K hj nf ⟨r1,r2,r3⟩ hK
 dsimp only at nf r1 r2 r3⊢
 subst nf r1 r2
 refine Br.dec (λhl=>?_) λhl=>?_
 ·have hl:j<c.length:=by omega
  refine ⟨_,Dk hl,?_⟩
  rw [Cd (by omega)]
  rw [Nw hl,IB] at r3
  exact hK hl _ rfl ⟨rfl,rfl,r3⟩
 ·have:j=c.length:=by omega
  subst this
  rw [List.drop_length,IB] at r3
  rw [r3]
theorem OO:Ci Try.prog 11 qa:=
 Ci.dS Rt Cb mixed Try.func11 (by kernel_rfl) (by kernel_rfl) λx h=>Aku x.1 x.2.1 h
theorem Afn (b:List Int) (i h n:Int) (hd:eU b i/\1<=n):fnMW Sp (look []) Lb Try.f17 (b,i,h,n,()) (λ(z:(List Int×Int×Int×Int×Unit)×Unit)=>z=((b,dI b i,hN h,dR b i h n,()),())):=by
 obtain ⟨hd,hn⟩:=hd
 have h0:=hd.lo
 have hlen:=hd.len
 have hx:=Aih (hN h)
 refine Eq.mp (Agh b i h n _) ⟨by omega,Br.dec (λhl=>?_) λhl=>?_⟩
 ·have hg:=hd.Cr hl
  refine ⟨_,On h0 hl,by omega,?_⟩
  rw [Dq (n:=Cr b i) (by omega) (by omega)]
  show ((b,IntKind.i64.wrap (i+1),hN h,(IntKind.i64.wrap (xN (hN h)+Cr b i)).tmod n,()),())=_
  rw [Dq (by omega) (by omega),Dq (by omega) (by omega)]
  unfold dI dR
  rw [Ab hl,Ab hl]
 ·refine ⟨by omega,?_⟩
  show ((b,i,hN h,(xN (hN h)).tmod n,()),())=_
  unfold dI dR
  rw [Ak hl,Ak hl]
theorem da:Ci Try.prog 17 Lb:=
 Ci.dS Rt Cb mixed Try.func17 (by kernel_rfl) (by kernel_rfl) λx h=>Afn x.1 x.2.1 x.2.2.1 x.2.2.2.1 h
theorem Aps (code:List Int) (_:True):fnW Hz (look []) yh Try.f10 (code,()) (λ(z:Bool)=>z=decide ((code.length:Int)>4096)):=Eq.mp (Aqc code _) rfl
theorem VX:Sound Try.prog 10 yh:=
 Sound.Ht Ge Cb mixed Try.func10 (by kernel_rfl) (by kernel_rfl) λx h=>Aps x.1 h
theorem Apy (b:List Int) (i h m:Int) (hd:eU b i/\1<=m/\m<=8):fnMW Sp (look [(17,Lb)]) ym Try.f138 (b,i,h,m,()) (λ(z:(List Int×Int×Int×Int×Unit)×Unit)=>z=((b,(Zy b i h m).1,(Zy b i h m).2.1,(Zy b i h m).2.2,()),())):=by
 obtain ⟨hd,h1,h8⟩:=hd
 have hr:=gD hd h1 h
 refine Eq.mp (Aqi b i h m _) ⟨_,Ab ⟨hd,h1⟩,_,Ab ⟨hd.next,by show (1:Int)<=2;decide⟩,Br.of (λhz=>?_) λhz=>?_⟩
 ·have hz:dR b (dI b i) (hN h) 2=0:=by simpa using hz
  show ((b,dI b (dI b i),hN (hN h),IntKind.i64.wrap (0-IntKind.i64.wrap (1+dR b i h m)),()),())=_
  rw [Dq (n:=1+dR b i h m) (by omega) (by omega),Dq (by omega) (by omega)]
  unfold Zy
  rw [Ab hz,Int.zero_sub]
 ·have hz: ¬dR b (dI b i) (hN h) 2=0:=by simpa using hz
  show ((b,dI b (dI b i),hN (hN h),IntKind.i64.wrap (1+dR b i h m),()),())=_
  rw [Dq (by omega) (by omega)]
  unfold Zy
  rw [Ak hz]
theorem WD:Ci Try.prog 138 ym:=
 Ci.dS Rt (Ez da Cb) mixed Try.func138 (by kernel_rfl) (by kernel_rfl) λx h=>Apy x.1 x.2.1 x.2.2.1 x.2.2.2.1 h
theorem Ab9 (n:Int) (h:0<=n/\n<=20):fnMW Sp (look []) eK Try.f66 (n,()) (λ(z:(List Int×Unit)×Unit)=>z=((upto n.toNat,()),())):=by
 refine Eq.mp (Ad4 n _) ⟨rfl,rfl,?_⟩
 refine Cj n.toNat (λv=>v.1) (λj v=>v.2.1=upto j) rfl rfl ?_
 rintro j ⟨i,ys,⟨⟩⟩ K hj hi h1 hK
 dsimp only at hi h1⊢
 subst hi h1
 refine Br.dec (λhl=>?_) λhl=>?_
 ·refine ⟨rfl,rfl,?_,rfl,rfl,?_⟩
  ·show (upto j).length+1<=4294967296
   rw [Ou];omega
  ·rw [Cd (by omega)]
   exact hK (by omega) _ rfl (Yw j).symm
 ·have:j=n.toNat:=by omega
  subst this
  rw [Dz]
theorem BJ:Ci Try.prog 66 eK:=
 Ci.ir Rt Cb mixed Try.func66 (by kernel_rfl) (by kernel_rfl) λx h=>Ab9 x.1 h
theorem VI (n:Int) (h:1<=n/\n<=20):fnMW Sp (look [(65,Dl),(66,eK)]) bn Try.f16 (n,()) (λ(z:(List Int×Unit)×Unit)=>z=((upto n.toNat,()),())):=by
 refine Eq.mp (XE n _) ⟨true,Ab trivial|>.trans (Cx some (Cl ⟨h.1,h.2⟩)),λhc=>(by cases hc),λ_=>⟨_,Ab ⟨by show 0<=n;omega,h.2⟩,?_⟩⟩
 rw [Dz]
theorem wN:Ci Try.prog 16 bn:=
 Ci.ir Rt (Be Tx (Ez BJ Cb)) mixed Try.func16 (by kernel_rfl) (by kernel_rfl) λx h=>VI x.1 h
theorem Abe (n:Int) (h:1<=n/\n<=20):fnW Hz (look [(65,Dl),(66,Pr)]) Tv Try.f16 (n,()) (λ(z:List Int)=>z=upto n.toNat):=
 Eq.mp (Ad9 n _) ⟨true,Ab trivial|>.trans (Cx some (Cl ⟨h.1,h.2⟩)),λhc=>(by cases hc),λ_=>⟨_,Ab ⟨by show 0<=n;omega,h.2⟩,rfl⟩⟩
theorem BO:Sound Try.prog 16 Tv:=
 Sound.Ht Ge (Be Tx (Be c8 Cb)) mixed Try.func16 (by kernel_rfl) (by kernel_rfl) λx h=>Abe x.1 h
theorem SU {b:List Int} {i:Int} (hd:eU b i) (h m:Int):eU b (Zy b i h m).1:=hd.next.next
theorem Aq1 (b:List Int) (i h m k:Int) (hd:eU b i/\(1<=m/\m<=8)/\0<=k/\k<=20):fnMW Sp (look [(17,Lb),(138,ym)]) rn Try.f62 (b,i,h,m,k,()) (λ(z:(List Int×Int×Int×List Int×Unit)×Unit)=>z=((b,(Vf b i h m k).1,(Vf b i h m k).2.1,(Vf b i h m k).2.2,()),())):=by
 obtain ⟨hd,hm,vM,hk⟩:=hd
 have hr:=gD hd (show 1<=k+1 by omega) h
 obtain ⟨R,hR⟩: ∃R,Vf b i h m k=R:=⟨_,rfl⟩
 rw [hR]
 unfold Vf at hR
 refine Eq.mp (Aql b i h m k _) ?_
 rw [Dq (by omega) (by omega)]
 refine ⟨_,Ab ⟨hd,by show 1<=k+1;omega⟩,rfl,rfl,?_⟩
 refine Ev.mk (λy=> ∃(f:Nat) (i h:Int) (w:List Int),y=((f:Int),w,b,i,h,())/\eU b i/\f+w.length<=20/\wGo b m f i h w=R) (λy=>y.1.toNat)
  ⟨(dR b i h (k+1)).toNat,dI b i,hN h,[],by rw [gy hr.1],hd.next,by simp only [Di];omega,hR⟩ ?_
 rintro y ⟨f,i,h,w,rfl,hd,hl,hv⟩
 dsimp only
 refine Br.dec (λhf=>?_) λhf=>?_
 ·obtain ⟨f,rfl⟩: ∃f',f=f'+1:=⟨f-1,by omega⟩
  refine ⟨_,Ab ⟨hd,hm⟩,rfl,rfl,by show w.length+1<=4294967296;omega,rfl,rfl,?_⟩
  rw [Dq (by omega) (by omega)]
  rw [wGo] at hv
  exact ⟨⟨f,_,_,_,by rw [show ((f+1:Nat):Int)-1=(f:Int) by omega];rfl,SU hd h m,by rw [Ay];show f+(w.length+1)<=20;omega,hv⟩,by show ((((f+1:Nat):Int)-1).toNat)<(((f+1:Nat):Int)).toNat;omega⟩
 ·obtain rfl:f=0:=by omega
  rw [wGo] at hv
  rw [<-hv]
  simp only [Dz]
theorem WH:Ci Try.prog 62 rn:=
 Ci.dS Rt (Ez da (Ez WD Cb)) mixed Try.func62 (by kernel_rfl) (by kernel_rfl) λx h=>Aq1 x.1 x.2.1 x.2.2.1 x.2.2.2.1 x.2.2.2.2.1 h
theorem IX {b:List Int} (n:Int): ∀(k:Nat) (i h:Int) (mv:List Int),eU b i->eU b (gi b n k i h mv).1
 |0,_,_,_,hd=>hd
 |k+1,i,h,mv,hd=>by rw [gi];exact IX n k _ _ _ hd.next.next
theorem uc {b:List Int} {n i:Int} (hd:eU b i) (h:Int):eU b (pL b n i h).1:=IX n _ _ _ _ hd.next
theorem SC (b:List Int) (n:Int): ∀(k:Nat) (i h:Int) (ms:List (List Int)),(aI b n k i h ms).2.2.length=k+ms.length
 |0,_,_,ms=>by rw [aI];show ms.length=0+ms.length;omega
 |k+1,i,h,ms=>by rw [aI,SC b n k,Ay,Bu];omega
theorem SB {b:List Int} (n:Int): ∀(k:Nat) (i h:Int) (ms:List (List Int)),eU b i->eU b (aI b n k i h ms).1
 |0,_,_,_,hd=>hd
 |k+1,i,h,ms,hd=>by rw [aI];exact SB n k _ _ _ (uc hd h)
theorem Amu {xs:List Int} {y:Int} (h0:0<=y) (h:y<xs.length):xs[0+y.toNat]?=some (Cr xs y):=by
 have hl:y.toNat<xs.length:=by omega
 unfold Cr
 rw [Bn,Al,Ad hl]
 rfl
theorem Apz (b:List Int) (i h:Int) (hd:eU b i):fnMW Sp (look [(17,Lb),(16,bn)]) yo Try.f12 (b,i,h,()) (λ(z:(List Int×Int×Int×Int×ByteArray×List (List Int)×Unit)×Unit)=>z=((b,(aH b i h).1,(aH b i h).2.1,(aH b i h).2.2.1,(aH b i h).2.2.2.1,(aH b i h).2.2.2.2.1,()),())):=by
 have hr:=gD hd (show (1:Int)<=3 by decide) h
 obtain ⟨n,hn⟩: ∃n,3+dR b i h 3=n:=⟨_,rfl⟩
 obtain ⟨R,hR⟩: ∃R,aI b n 2 (dI b i) (hN h) []=R:=⟨_,rfl⟩
 have hm:aH b i h=(R.1,R.2.1,(n,Aax,R.2.2,())):=by unfold aH;rw [hn,hR]
 rw [hm]
 refine Eq.mp (Aqj b i h _) ⟨_,Ab ⟨hd,by show (1:Int)<=3;decide⟩,rfl,rfl,rfl,rfl,?_⟩
 dsimp only
 rw [Dq (n:=3+dR b i h 3) (by omega) (by omega),hn]
 have hn3:3<=n/\n<=5:=by omega
 refine Ev.mk (λy=> ∃(f:Nat) (i h:Int) (ms:List (List Int)),y=((0:Int), {data:= #[]},n,Aax,[],ms,b,i,h,())/\eU b i/\f+ms.length=2/\aI b n f i h ms=R) (λy=>2-y.2.2.2.2.2.1.length)
  ⟨2,dI b i,hN h,[],rfl,hd.next,rfl,hR⟩ ?_
 rintro y ⟨f,i,h,ms,rfl,hd,hl,hv⟩
 dsimp only
 refine Br.dec (λhf=>?_) λhf=>?_
 ·obtain ⟨f,rfl⟩: ∃f',f=f'+1:=⟨f-1,by omega⟩
  rw [aI] at hv
  obtain ⟨M,hM⟩: ∃M,pL b n i h=M:=⟨_,rfl⟩
  have hMd:eU b M.1:=by rw [<-hM];exact uc hd h
  rw [hM] at hv
  unfold pL at hM
  have hr:=gD hd (show (1:Int)<=3 by decide) h
  refine ⟨_,Ab ⟨by show 1<=n;omega,by show n<=20;omega⟩,_,Ab ⟨hd,by show (1:Int)<=3;decide⟩,rfl,rfl,rfl,rfl,rfl,rfl,?_⟩
  dsimp only
  rw [Dq (n:=1+dR b i h 3) (by omega) (by omega)]
  refine Ev.mk (λz=> ∃(c:Nat) (i h:Int) (mv:List Int),z=((c:Int),(0:Int), {data:= #[]},n,Aax,[],ms,mv,b,i,h,())/\eU b i/\c<=3/\mv.length=n.toNat/\gi b n c i h mv=M) (λz=>z.1.toNat)
   ⟨(1+dR b i h 3).toNat,dI b i,hN h,upto n.toNat,by rw [gy (by omega)],hd.next,by omega,Ou _,hM⟩ ?_
  rintro z ⟨c,i',h',mv,rfl,JX,hc,j9,hsw⟩
  dsimp only
  refine Br.dec (λkq=>?_) λkq=>?_
  ·obtain ⟨c,rfl⟩: ∃c',c=c'+1:=⟨c-1,by omega⟩
   rw [gi] at hsw
   have r1:=gD JX (show 1<=n by omega) h'
   have r2:=gD JX.next (show 1<=n by omega) (hN h')
   have l1:dR b i' h' n<mv.length:=by omega
   have l2:dR b (dI b i') (hN h') n<mv.length:=by omega
   refine ⟨_,Ab ⟨JX,by show 1<=n;omega⟩,_,Ab ⟨JX.next,by show 1<=n;omega⟩,⟨r1.1,l1⟩,_,Amu r1.1 l1,⟨r2.1,l2⟩,_,Amu r2.1 l2,⟨r1.1,l1⟩,by show 0+(dR b i' h' n).toNat<mv.length;omega,⟨r2.1,l2⟩,
    by rw [Bv];show 0+(dR b (dI b i') (hN h') n).toNat<mv.length;omega,rfl,by simp only [Bv],rfl,rfl,rfl,rfl,?_⟩
   dsimp only
   rw [Dq (by omega) (by omega),Bn,Bn]
   exact ⟨⟨c,_,_,_,by rw [show ((c+1:Nat):Int)-1=(c:Int) by omega],JX.next.next,by omega,by simp only [Bv];exact j9,hsw⟩,by show ((((c+1:Nat):Int)-1).toNat)<(((c+1:Nat):Int)).toNat;omega⟩
  ·obtain rfl:c=0:=by omega
   rw [gi] at hsw
   subst hsw
   refine ⟨rfl,rfl,by show ms.length+1<=4294967296;omega,rfl,rfl,rfl,rfl,?_⟩
   rw [Dz]
   exact ⟨⟨f,_,_,_,rfl,hMd,by rw [Ay];show f+(ms.length+1)=2;omega,hv⟩,by show 2-(ms++ [mv]).length<2-ms.length;rw [Ay,Bu];omega⟩
 ·obtain rfl:f=0:=by omega
  rw [aI] at hv
  rw [<-hv]
  simp only [Dz]
theorem WE:Ci Try.prog 12 yo:=
 Ci.dS Rt (Ez da (Ez wN Cb)) mixed Try.func12 (by kernel_rfl) (by kernel_rfl) λx h=>Apz x.1 x.2.1 x.2.2.1 h
end Go.Proofs.Ytkkdpknjohcekaa
