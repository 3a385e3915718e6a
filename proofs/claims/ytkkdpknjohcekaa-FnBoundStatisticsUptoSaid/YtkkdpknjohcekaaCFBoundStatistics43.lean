/-
  Part 44 of the proof that the statement FnBoundStatistics holds.
-/
import Derived.Test.YtkkdpknjohcekaaCFBoundStatistics42
namespace Go.Proofs.Ytkkdpknjohcekaa
open Go.RowKit
noncomputable abbrev Aio:MSpec:= {ptr:=some (189,3),Ip:= [none,none],ins:= [(false, .Fy tI),(false, .Bl tO vA false),(false, .Bl tO vA false),(false, .Fy tI),(false, .Fy tL)],Hi:=true,Hb:= [none,none],outs:= [.Fy tI, .Bl tO vA false, .Bl tO vA false, .Fy tL, .Fy tI],fn:= λ_=>none}
noncomputable abbrev kq:MSpec:=eM Aio (λx=> ∃N L,de N L x.1 x.2.2.1 x.2.1 x.2.2.2.1 x.2.2.2.2.1)
 (λx=>((x.1,x.2.1,x.2.2.1,(Tm x.2.1 (x.1-x.2.2.2.1).toNat x.2.2.2.1.toNat x.2.2.2.2.1).1,(Tm x.2.1 (x.1-x.2.2.2.1).toNat x.2.2.2.1.toNat x.2.2.2.2.1).2.1,()),()))
structure Af3 (N L:Nat) (n:Int) (G T:Cc) (l:Int) (p:List Int):Prop where
 n1:1<=N
 n2:N<=20
 en:n=N
 el:l=L
 lt:L<N
 part:Part N L (G,T)
 pm:Pm N p
 fx:Fx L p
 gn:Gn N (G.getD L []) p
 gl:(G.getD L []).length<=401
noncomputable abbrev ZK:MSpec:= {ptr:=some (189,3),Ip:= [none,none],ins:= [(false, .Fy tI),(false, .Bl tO vA false),(false, .Bl tO vA false),(false, .Fy tI),(false, .Fy tO)],Hi:=false,Hb:= [],outs:= [.Fy tI, .Bl tO vA false, .Bl tO vA false],fn:= λ_=>none}
noncomputable abbrev nY (m:Nat):MSpec:=eM ZK (λx=>(∃N L q,x.2.2.2.2.1=some q/\de N L x.1 x.2.2.1 x.2.1 x.2.2.2.1 q)/\QV x.1.toNat x.2.2.2.1.toNat<m)
 (λx=>((x.1,(kC x.1.toNat 1000 x.2.2.2.1.toNat (x.2.2.2.2.1.getD []) (x.2.2.1,x.2.1)).2,(kC x.1.toNat 1000 x.2.2.2.1.toNat (x.2.2.2.2.1.getD []) (x.2.2.1,x.2.1)).1,()),()))
noncomputable abbrev ey (m:Nat):MSpec:=eM ZK (λx=>(∃N L q,x.2.2.2.2.1=some q/\Af3 N L x.1 x.2.2.1 x.2.1 x.2.2.2.1 q)/\mF x.1.toNat x.2.2.2.1.toNat (x.2.2.1,x.2.1)<m)
 (λx=>((x.1,(fZ x.1.toNat 1000 x.2.2.2.1.toNat (x.2.2.2.2.1.getD []) (x.2.2.1,x.2.1)).2,(fZ x.1.toNat 1000 x.2.2.2.1.toNat (x.2.2.2.2.1.getD []) (x.2.2.1,x.2.1)).1,()),()))
noncomputable abbrev zX:MSpec:=eM ZK (λx=> ∃N L q,x.2.2.2.2.1=some q/\de N L x.1 x.2.2.1 x.2.1 x.2.2.2.1 q)
 (λx=>((x.1,(kC x.1.toNat 1000 x.2.2.2.1.toNat (x.2.2.2.2.1.getD []) (x.2.2.1,x.2.1)).2,(kC x.1.toNat 1000 x.2.2.2.1.toNat (x.2.2.2.2.1.getD []) (x.2.2.1,x.2.1)).1,()),()))
theorem wN (p q:List Int) (P:List Int->Prop):(0=0/\0=([]:List Int).length/\Dh (λ(v3:Int×List Int×PUnit) (k4:Int×List Int×PUnit->Prop)=>Br (decide (v3.1<(↑p.length:Int))) (∃(y5:Int),idx p v3.1=some y5/\ ∃(y6:Int),idx q y5=some y6/\0=0/\v3.2.1.length=v3.2.1.length/\v3.2.1.length+(List.take 1 (List.drop 0 [y6])).length<=Ct/\0=0/\(v3.2.1++List.take 1 (List.drop 0 [y6])).length=(v3.2.1++List.take 1 (List.drop 0 [y6])).length/\k4 (IntKind.i64.wrap (v3.1+(1:Int)),v3.2.1++List.take 1 (List.drop 0 [y6]),())) (P (List.take v3.2.1.length (List.drop 0 v3.2.1)))) ((0:Int),[],PUnit.unit))=fnW Hf (look []) Sw Try.f75 (p,q,()) P:=by kernel_rfl
abbrev HV:Type:=List Int×Int×List (List (Option (List Int)))×List (List (Option (List Int)))×Int×PUnit
theorem Af2 (n:Int) (T G:List (List (Option (List Int)))) (l:Int) (p:List Int) (P:(Int×List (List (Option (List Int)))×List (List (Option (List Int)))×List Int×Int×Unit)×Unit->Prop):(0=0/\T.length=T.length/\0=0/\G.length=G.length/\Dh (λ(v6:HV) (k7:HV->Prop)=>Br (decide (v6.2.1<v6.2.2.2.2.1)) (((0:Int)<=v6.2.1/\v6.2.1<(↑v6.2.2.1.length:Int))/\ ∃(y8:Int),idx v6.1 v6.2.1=some y8/\((0:Int)<=y8/\y8<(↑(v6.2.2.1.getD (0+v6.2.1.toNat) []).length:Int))/\Br ((↑(((v6.2.2.1.getD (0+v6.2.1.toNat) []).getD y8.toNat (none:Option (List Int))).getD []).length:Int)==(0:Int)) ((0=0/\v6.2.2.1.length=v6.2.2.1.length)/\(0=0/\v6.2.2.2.1.length=v6.2.2.2.1.length)/\P ((v6.2.2.2.2.1,v6.2.2.1,v6.2.2.2.1,v6.1,v6.2.1,()),())) (∃(y9:List Int),Gk.fn (((v6.2.2.1.getD (0+v6.2.1.toNat) []).getD y8.toNat (none:Option (List Int))).getD [],())=some y9/\ ∃(Kq:List Int),Sj.fn (v6.1,y9,())=some Kq/\0=0/\v6.2.2.1.length=v6.2.2.1.length/\0=0/\v6.2.2.2.1.length=v6.2.2.2.1.length/\k7 (Kq,IntKind.i64.wrap (v6.2.1+(1:Int)),v6.2.2.1,v6.2.2.2.1,v6.2.2.2.2.1,()))) ((0=0/\v6.2.2.1.length=v6.2.2.1.length)/\(0=0/\v6.2.2.2.1.length=v6.2.2.2.1.length)/\P ((v6.2.2.2.2.1,v6.2.2.1,v6.2.2.2.1,v6.1,v6.2.2.2.2.1,()),()))) (p,l,T,G,n,PUnit.unit))=fnMW Xp (look [(190,Gk),(75,Sj)]) kq Try.f201 (n,T,G,l,p,()) P:=by kernel_rfl
abbrev AX:Type:=Int×List (Option (List Int))×List (List (Option (List Int)))×List (List (Option (List Int)))×Int×PUnit
abbrev Ab5:Type:=(Int×List (List (Option (List Int)))×List (List (Option (List Int)))×List Int×Int×PUnit)×PUnit
abbrev Ll (y7:Ab5) (l:Int) (p:Option (List Int)) (n:Int):Prop:=0=0/\(y7.1.2.2.1.getD (0+l.toNat) []).length=(y7.1.2.2.1.getD (0+l.toNat) []).length/\(y7.1.2.2.1.getD (0+l.toNat) []).length+(List.take 1 (List.drop 0 [p])).length<=Ct/\((0:Int)<=l/\l<(↑y7.1.2.2.1.length:Int))/\0=0/\(y7.1.2.2.1.getD (0+l.toNat) []++List.take 1 (List.drop 0 [p])).length=(y7.1.2.2.1.getD (0+l.toNat) []++List.take 1 (List.drop 0 [p])).length/\0+l.toNat=0+l.toNat/\ [(0,y7.1.2.2.1.length),(0,y7.1.2.2.1.length),(0,y7.1.2.1.length),(0,y7.1.2.2.1.length)]= [(0,y7.1.2.2.1.length),(0,y7.1.2.2.1.length),(0,y7.1.2.1.length),(0,y7.1.2.2.1.length)]/\(l,p,y7.1.2.2.2.1,y7.1.2.2.2.2.1,l,n,decide (l>=n),l,p,y7.1.2.2.2.1,y7.1.2.2.2.2.1,y7.1.2.2.2.2.1,y7.1.1,y7.1.2.2.2.2.1==y7.1.1,l,l,0+l.toNat,p,List.take 1 (List.drop 0 [p]),0+l.toNat,y7.1.2.1,y7.1.2.2.1.set (0+l.toNat) (y7.1.2.2.1.getD (0+l.toNat) []++List.take 1 (List.drop 0 [p])),y7.1.1,())=(l,p,y7.1.2.2.2.1,y7.1.2.2.2.2.1,l,n,decide (l>=n),l,p,y7.1.2.2.2.1,y7.1.2.2.2.2.1,y7.1.2.2.2.2.1,y7.1.1,y7.1.2.2.2.2.1==y7.1.1,l,l,0+l.toNat,p,List.take 1 (List.drop 0 [p]),0+l.toNat,y7.1.2.1,y7.1.2.2.1.set (0+l.toNat) (y7.1.2.2.1.getD (0+l.toNat) []++List.take 1 (List.drop 0 [p])),y7.1.1,PUnit.unit)
theorem Ao3 {m:Nat} (n:Int) (T G:List (List (Option (List Int)))) (l:Int) (p:Option (List Int)) (P:(Int×List (List (Option (List Int)))×List (List (Option (List Int)))×Unit)×Unit->Prop):(Br (decide (l>=n)) ((0=0/\T.length=T.length)/\(0=0/\G.length=G.length)/\P ((n,T,G,()),())) (0=0/\T.length=T.length/\0=0/\G.length=G.length/\ ∃(y7:Ab5),kq.fn (n,T,G,l,p.getD [],())=some y7/\Br (y7.1.2.2.2.2.1==y7.1.1) ((0=0/\y7.1.2.1.length=y7.1.2.1.length)/\(0=0/\y7.1.2.2.1.length=y7.1.2.2.1.length)/\P ((y7.1.1,y7.1.2.1,y7.1.2.2.1,()),())) (((0:Int)<=l/\l<(↑y7.1.2.2.1.length:Int))/\0=0/\(y7.1.2.2.1.getD (0+l.toNat) []).length=(y7.1.2.2.1.getD (0+l.toNat) []).length/\(y7.1.2.2.1.getD (0+l.toNat) []).length+(List.take 1 (List.drop 0 [p])).length<=Ct/\((0:Int)<=l/\l<(↑y7.1.2.2.1.length:Int))/\0=0/\(y7.1.2.2.1.getD (0+l.toNat) []++List.take 1 (List.drop 0 [p])).length=(y7.1.2.2.1.getD (0+l.toNat) []++List.take 1 (List.drop 0 [p])).length/\0+l.toNat=0+l.toNat/\(0=0/\0=([]:List Int).length/\0=0/\y7.1.2.1.length=y7.1.2.1.length/\0=0/\y7.1.2.2.1.length=(y7.1.2.2.1.set (0+l.toNat) (y7.1.2.2.1.getD (0+l.toNat) []++List.take 1 (List.drop 0 [p]))).length/\Dh (λ(v8:AX) (k9:AX->Prop)=>Br (decide (v8.1<v8.2.2.2.2.1)) (((0:Int)<=l/\l<(↑v8.2.2.1.length:Int))/\((0:Int)<=v8.1/\v8.1<(↑(v8.2.2.1.getD (0+l.toNat) []).length:Int))/\Br (decide ((↑(((v8.2.2.1.getD (0+l.toNat) []).getD v8.1.toNat (none:Option (List Int))).getD []).length:Int)>(0:Int))) (((0:Int)<=l/\l<(↑v8.2.2.1.length:Int))/\((0:Int)<=v8.1/\v8.1<(↑(v8.2.2.1.getD (0+l.toNat) []).length:Int))/\0=0/\v8.2.1.length=v8.2.1.length/\v8.2.1.length+(List.take 1 (List.drop 0 [(v8.2.2.1.getD (0+l.toNat) []).getD v8.1.toNat none])).length<=Ct/\0=0/\(v8.2.1++List.take 1 (List.drop 0 [(v8.2.2.1.getD (0+l.toNat) []).getD v8.1.toNat none])).length=(v8.2.1++List.take 1 (List.drop 0 [(v8.2.2.1.getD (0+l.toNat) []).getD v8.1.toNat none])).length/\0=0/\v8.2.2.1.length=v8.2.2.1.length/\0=0/\v8.2.2.2.1.length=v8.2.2.2.1.length/\k9 (IntKind.i64.wrap (v8.1+(1:Int)),v8.2.1++List.take 1 (List.drop 0 [(v8.2.2.1.getD (0+l.toNat) []).getD v8.1.toNat none]),v8.2.2.1,v8.2.2.2.1,v8.2.2.2.2.1,())) (0=0/\v8.2.1.length=v8.2.1.length/\0=0/\v8.2.2.1.length=v8.2.2.1.length/\0=0/\v8.2.2.2.1.length=v8.2.2.2.1.length/\k9 (IntKind.i64.wrap (v8.1+(1:Int)),v8.2.1,v8.2.2.1,v8.2.2.2.1,v8.2.2.2.2.1,()))) (0=0/\v8.2.1.length=v8.2.1.length/\0=0/\v8.2.2.1.length=v8.2.2.1.length/\0=0/\v8.2.2.2.1.length=v8.2.2.2.1.length/\Dh (λ(v10:AX) (k11:AX->Prop)=>Br (decide (v10.1<(↑v10.2.1.length:Int))) (((0:Int)<=v10.1/\v10.1<(↑v10.2.1.length:Int))/\ ∃(He:Option (List Int)),v10.2.1[0+v10.1.toNat]?=some He/\ ∃(Iq:Option (List Int)),Jz.fn (He.getD [],p.getD [],())=some Iq/\0=0/\v10.2.2.1.length=v10.2.2.1.length/\0=0/\v10.2.2.2.1.length=v10.2.2.2.1.length/\ ∃(Fq:(Int×List (List (Option (List Int)))×List (List (Option (List Int)))×PUnit)×PUnit),(ey m).fn (v10.2.2.2.2.1,v10.2.2.1,v10.2.2.2.1,l,Iq,())=some Fq/\0=0/\v10.2.1.length=v10.2.1.length/\0=0/\Fq.1.2.1.length=Fq.1.2.1.length/\0=0/\Fq.1.2.2.1.length=Fq.1.2.2.1.length/\k11 (IntKind.i64.wrap (v10.1+(1:Int)),v10.2.1,Fq.1.2.1,Fq.1.2.2.1,Fq.1.1,())) ((0=0/\v10.2.2.1.length=v10.2.2.1.length)/\(0=0/\v10.2.2.2.1.length=v10.2.2.2.1.length)/\P ((v10.2.2.2.2.1,v10.2.2.1,v10.2.2.2.1,()),()))) ((0:Int),v8.2.1,v8.2.2.1,v8.2.2.2.1,v8.2.2.2.2.1,PUnit.unit))) ((0:Int),[],y7.1.2.1,y7.1.2.2.1.set (0+l.toNat) (y7.1.2.2.1.getD (0+l.toNat) []++List.take 1 (List.drop 0 [p])),y7.1.1,PUnit.unit))/\(((((0:Int)<=l/\l<(↑y7.1.2.2.1.length:Int))/\((Ll y7 l p n))/\(Ll y7 l p n))/\((0:Int)<=l/\l<(↑y7.1.2.2.1.length:Int))/\(Ll y7 l p n))/\((0:Int)<=l/\l<(↑y7.1.2.2.1.length:Int))/\(Ll y7 l p n))/\(((((0:Int)<=l/\l<(↑y7.1.2.2.1.length:Int))/\((Ll y7 l p n))/\(Ll y7 l p n))/\((0:Int)<=l/\l<(↑y7.1.2.2.1.length:Int))/\(Ll y7 l p n))/\(((0:Int)<=l/\l<(↑y7.1.2.2.1.length:Int))/\(((Ll y7 l p n))/\(Ll y7 l p n))/\(((Ll y7 l p n))/\((Ll y7 l p n))/\(Ll y7 l p n))/\((Ll y7 l p n))/\((Ll y7 l p n))/\(Ll y7 l p n))/\(((0:Int)<=l/\l<(↑y7.1.2.2.1.length:Int))/\(Ll y7 l p n))/\((0:Int)<=l/\l<(↑y7.1.2.2.1.length:Int))/\((Ll y7 l p n))/\((Ll y7 l p n))/\(Ll y7 l p n))/\(((0:Int)<=l/\l<(↑y7.1.2.2.1.length:Int))/\(Ll y7 l p n))/\(((0:Int)<=l/\l<(↑y7.1.2.2.1.length:Int))/\(Ll y7 l p n))/\((0:Int)<=l/\l<(↑y7.1.2.2.1.length:Int))/\((Ll y7 l p n))/\((Ll y7 l p n))/\(Ll y7 l p n))))=fnMW (Abg [vh+46]) (look [(201,kq),(75,Jz),(216,bw.m (ey m))]) (nY (m+1)) Try.f203 (n,T,G,l,p,()) P:=by kernel_rfl
abbrev Ab1:Type:=(Int×List (List (Option (List Int)))×List (List (Option (List Int)))×PUnit)×PUnit
abbrev Ab6:Type:=Int×List (List (Option (List Int)))×List (List (Option (List Int)))×Int×PUnit
theorem Ao4 {m:Nat} (n:Int) (T G:List (List (Option (List Int)))) (l:Int) (p:Option (List Int)) (P:(Int×List (List (Option (List Int)))×List (List (Option (List Int)))×Unit)×Unit->Prop):(((0:Int)<=l/\l<(↑T.length:Int))/\ ∃(y7:Int),idx (p.getD []) l=some y7/\((0:Int)<=y7/\y7<(↑(T.getD (0+l.toNat) []).length:Int))/\Br (decide ((↑(((T.getD (0+l.toNat) []).getD y7.toNat (none:Option (List Int))).getD []).length:Int)>(0:Int))) (∃(y8:List Int),Gk.fn (((T.getD (0+l.toNat) []).getD y7.toNat (none:Option (List Int))).getD [],())=some y8/\ ∃(y9:Option (List Int)),Jz.fn (p.getD [],y8,())=some y9/\0=0/\T.length=T.length/\0=0/\G.length=G.length/\ ∃(Kq:Ab1),(nY m).fn (n,T,G,IntKind.i64.wrap (l+(1:Int)),y9,())=some Kq/\(0=0/\Kq.1.2.1.length=Kq.1.2.1.length)/\(0=0/\Kq.1.2.2.1.length=Kq.1.2.2.1.length)/\P ((Kq.1.1,Kq.1.2.1,Kq.1.2.2.1,()),())) (((0:Int)<=l/\l<(↑T.length:Int))/\ ∃(y8:Int),idx (p.getD []) l=some y8/\((0:Int)<=y8/\y8<(↑(T.getD (0+l.toNat) []).length:Int))/\0=0/\T.length=(T.set (0+l.toNat) ((T.getD (0+l.toNat) []).set y8.toNat p)).length/\0=0/\G.length=G.length/\Dh (λ(v9:Ab6) (k10:Ab6->Prop)=>((0:Int)<=l/\l<(↑v9.2.2.1.length:Int))/\Br (decide (v9.1<(↑(v9.2.2.1.getD (0+l.toNat) []).length:Int))) (((0:Int)<=l/\l<(↑v9.2.2.1.length:Int))/\((0:Int)<=v9.1/\v9.1<(↑(v9.2.2.1.getD (0+l.toNat) []).length:Int))/\ ∃(Jq:Option (List Int)),Jz.fn (p.getD [],((v9.2.2.1.getD (0+l.toNat) []).getD v9.1.toNat (none:Option (List Int))).getD [],())=some Jq/\0=0/\v9.2.1.length=v9.2.1.length/\0=0/\v9.2.2.1.length=v9.2.2.1.length/\ ∃(He:Ab1),(ey m).fn (v9.2.2.2.1,v9.2.1,v9.2.2.1,l,Jq,())=some He/\0=0/\He.1.2.1.length=He.1.2.1.length/\0=0/\He.1.2.2.1.length=He.1.2.2.1.length/\k10 (IntKind.i64.wrap (v9.1+(1:Int)),He.1.2.1,He.1.2.2.1,He.1.1,())) ((0=0/\v9.2.1.length=v9.2.1.length)/\(0=0/\v9.2.2.1.length=v9.2.2.1.length)/\P ((v9.2.2.2.1,v9.2.1,v9.2.2.1,()),()))) ((0:Int),T.set (0+l.toNat) ((T.getD (0+l.toNat) []).set y8.toNat p),G,n,PUnit.unit)))=fnMW Xp (look [(190,Gk),(75,Jz),(203,bw.m (nY m)),(216,bw.m (ey m))]) (ey (m+1)) Try.f216 (n,T,G,l,p,()) P:=by kernel_rfl
theorem RZ {p q:List Int} {j:Nat} (h:j<p.length):(Ai p q).take (j+1)=(Ai p q).take j++ [Gw q p[j]]:=by
 unfold Ai
 rw [Ch (by rw [Bt];exact h),Mn]
theorem wb (p q:List Int) (h:List.length p<=20/\Ny (List.length q) p):fnW Hf (look []) Sw Try.f75 (p,q,()) (λ(z:List Int)=>z=Ai p q):=by
 obtain ⟨h1,h2⟩:=h
 refine Eq.mp (wN p q _) ⟨rfl,rfl,?_⟩
 refine Bs p.length (λv=>v.1) (λj v=>v=((j:Int),(Ai p q).take j,())) rfl rfl ?_
 rintro j v K hj hi rfl hK
 dsimp only
 have hlen:((Ai p q).take j).length<=20:=by rw [Db];unfold Ai;rw [Bt];omega
 refine Br.dec (λhl=>?_) λhl=>?_
 ·have hl:j<p.length:=by omega
  have hr:=h2 p[j] (Al hl)
  refine ⟨_,Ck hl,Gw q p[j],iS hr.1 hr.2,rfl,rfl,?_,rfl,rfl,?_⟩
  ·show ((Ai p q).take j).length+1<=4294967296
   omega
  ·rw [Bk (by omega)]
   refine hK hl _ rfl ?_
   rw [RZ hl]
   rfl
 ·have:j=p.length:=by omega
  subst this
  rw [Cq,<-Pl p q,Aw]
theorem cW:Sound Try.prog 75 Sw:=
 Sound.Ib Ew Bw mixed Try.func75 (by kernel_rfl) (by kernel_rfl) λx h=>wb x.1 x.2.1 h
theorem my:Sound Try.prog 75 Sj:=Sound.loose cW
theorem ca:Sound Try.prog 75 Jz:=Sound.toO cW λx h=>⟨⟨h.1.2,h.2⟩,λe=>by
 have:=Pl x.1 x.2.1
 rw [e] at this
 have:=h.1.1
 simp only [Fg] at*
 omega⟩
theorem UO {N L i:Nat} {G T:Cc} {p:List Int} (n2:N<=20) (v3:dH N (N-L) L (G,T)) (v2:T.length=N) (h1:L<=i) (hl:i<N) (h4:Pm N p) (h5:Fx i p):
  ∃o,idx p (i:Int)=some (ap p i:Int)/\T[i]?=some (T.getD i [])/\ap p i<(T.getD i []).length/\(T.getD i [])[ap p i]?=some o/\(T.getD i []).getD (ap p i) none=o/\
   (o=none->(o.getD []).length=0/\ ∀k,Tm T (k+1) i p=(p,(i:Int),()))/\
   (∀t,o=some t->(t.length≠0/\t.length<=20/\Ny t.length t)/\(p.length<=20/\Ny (Bg t).length p)/\Pm N (Ai p (Bg t))/\Fx (i+1) (Ai p (Bg t))/\ ∀k,Tm T (k+1) i p=Tm T k (i+1) (Ai p (Bg t))):=by
 have Kf:=dP (N-L) L v3 i h1 (by omega)
 have hT:i<T.length:=by omega
 have hlen:(T.getD i []).length=N:=Kf.rl
 obtain ⟨a1,a2⟩:=h4.Zk hl
 have hg:(Gw p (i:Int)).toNat=ap p i:=rfl
 refine ⟨(T.getD i []).getD (ap p i) none,?_,?_,by omega,?_,rfl,λho=>?_,λt ho=>?_⟩
 ·rw [<-a1,Ig (by rw [h4.1];exact hl)];exact Ck (by rw [h4.1];exact hl)
 ·rw [Ah,Ab hT];rfl
 ·rw [Ah (l:=T.getD i []),Ab (by omega)];rfl
 ·refine ⟨by rw [ho];rfl,λk=>?_⟩
  simp only [Tm,hg,ho]
 ·obtain ⟨t1,t2,t3,t4⟩:=Kf.rt _ _ ho
  have hn1:=h4.n1
  refine ⟨⟨by rw [t1.1];omega,by rw [t1.1];exact n2,t1.2.row⟩,⟨by rw [h4.1];exact n2,by rw [nA,t1.1];exact h4.row⟩,h4.comp t1.inv,Fx.div h4 t1 h5 t2 hl t3,λk=>?_⟩
  simp only [Tm,hg,ho]
theorem Aed (n:Int) (T G:List (List (Option (List Int)))) (l:Int) (p:List Int) (h: ∃N L,de N L n G T l p):
  fnMW Xp (look [(190,Gk),(75,Sj)]) kq Try.f201 (n,T,G,l,p,()) (λ(z:(Int×List (List (Option (List Int)))×List (List (Option (List Int)))×List Int×Int×Unit)×Unit)=>z=((n,T,G,(Tm T (n-l).toNat l.toNat p).1,(Tm T (n-l).toNat l.toNat p).2.1,()),())):=by
 obtain ⟨N,L,h⟩:=h
 obtain ⟨n1,n2,en,el,hle,v,pm,fx⟩:=h
 subst en el
 refine Eq.mp (Af2 (N:Int) T G (L:Int) p _) ⟨rfl,rfl,rfl,rfl,?_⟩
 obtain ⟨v1,v2,v3,v4⟩:=v
 dsimp only at v1 v2
 refine ⟨λv=> ∃i:Nat,L<=i/\i<=N/\v.2=((i:Int),T,G,(N:Int),())/\Pm N v.1/\Fx i v.1/\Tm T (N-i) i v.1=Tm T (N-L) L p,λv=>N-v.2.1.toNat,⟨L,Ap _,hle,rfl,pm,fx,rfl⟩,?_⟩
 rintro ⟨p',v'⟩ ⟨i,h1,h2,h3,h4,h5,h6⟩
 dsimp only at h3 h4 h5 h6⊢
 subst h3
 dsimp only
 rw [show (((N:Int)-(L:Int)).toNat)=N-L by omega,show ((L:Int)).toNat=L by omega,<-h6]
 refine Br.dec (λhl=>?_) λhl=>?_
 ·have hl:i<N:=by omega
  obtain ⟨o,s1,s2,s3,s4,s5,s6,s7⟩:=UO n2 v3 v2 h1 hl h4 h5
  simp only [Aj,Bo,true_and,On]
  refine ⟨⟨by omega,by omega⟩,_,s1,⟨by omega,by omega⟩,?_⟩
  rw [Aj,s5,show N-i=(N-i-1)+1 by omega]
  cases o with
  |none=>
   rw [(s6 rfl).2]
   exact Br.of (λ_=>rfl) λhb=>by simp at hb
  |some t=>
   obtain ⟨⟨q1,q2⟩,q3,q4,q5,q6⟩:=s7 t rfl
   refine Br.of (λhb=>absurd (by simpa using hb) q1) λ_=>?_
   refine ⟨_,Ac q2,_,Ac q3,⟨i+1,by omega,by omega,?_,q4,q5,?_⟩,?_⟩
   ·rw [Bk (by omega)]
   ·rw [q6,show N-(i+1)=N-i-1 by omega];rfl
   ·show N-(IntKind.i64.wrap ((i:Int)+1)).toNat<N-i-1+1
    rw [Bk (by omega)]
    omega
 ·have:i=N:=by omega
  subst this
  rw [Nat.sub_self]
  exact ⟨⟨rfl,rfl⟩,⟨rfl,rfl⟩,rfl⟩
theorem HO:Cn Try.prog 201 kq:=
 Cn.eM mA (Bd dz (Bd my Bw)) mixed Try.func201 (by kernel_rfl) (by kernel_rfl) λx h=>Aed x.1 x.2.1 x.2.2.1 x.2.2.2.1 x.2.2.2.2.1 h
theorem Anf {m:Nat} (n:Int) (T G:List (List (Option (List Int)))) (l:Int) (p:Option (List Int)) (h:(∃N L q,p=some q/\Af3 N L n G T l q)/\mF n.toNat l.toNat (G,T)<m+1):
  fnMW Xp (look [(190,Gk),(75,Jz),(203,bw.m (nY m)),(216,bw.m (ey m))]) (ey (m+1)) Try.f216 (n,T,G,l,p,()) (λ(z:(Int×List (List (Option (List Int)))×List (List (Option (List Int)))×Unit)×Unit)=>z=((n,(fZ n.toNat 1000 l.toNat (p.getD []) (G,T)).2,(fZ n.toNat 1000 l.toNat (p.getD []) (G,T)).1,()),())):=by
 obtain ⟨⟨N,L,q,rfl,h⟩,hm⟩:=h
 obtain ⟨n1,n2,en,el,Jr,part,pm,fx,gn,gl⟩:=h
 subst en el
 refine Eq.mp (Ao4 (N:Int) T G (L:Int) (some q) _) ?_
 have l1:G.length=N:=part.l1
 have l2:T.length=N:=part.l2
 have row:=part.row
 dsimp only at row
 have JF:=row.rl
 have hy:=pm.lt Jr
 simp only [Aj,Bo,Bp,true_and,On,Cf] at hm⊢
 refine ⟨⟨by omega,by omega⟩,_,za pm Jr,⟨by omega,by omega⟩,?_⟩
 simp only [Aj]
 rcases Option.eq_none_or_eq_some ((T.getD L []).getD (ap q L) none) with Kf|⟨t,Kf⟩
 case inr=>
  obtain ⟨t1,t2,t3,t4⟩:=row.rt _ _ Kf
  have htl:=t1.1
  refine Br.dec (λ_=>?_) λhb=>?_
  ·rw [Kf,Bp]
   have hw:IntKind.i64.wrap ((L:Int)+1)=((L+1:Nat):Int):=Bk (by omega)
   rw [hw]
   have hmu:=ZX (s:=(G,T)) Jr
   refine ⟨_,Ac ⟨by show t.length<=20;omega,t1.2.row⟩,some (Ai q (Bg t)),Ac ⟨Yc pm,pC pm t1.inv⟩,_,
    Ac ⟨⟨N,L+1,_,rfl,n1,n2,rfl,rfl,by omega,part.v,pm.comp t1.inv,Fx.div pm t1 fx t2 Jr t3⟩,by show QV (N:Int).toNat ((L+1:Nat):Int).toNat<m;rw [Aj,Aj];omega⟩,?_⟩
   simp only [Aj,Bp]
   rw [WX n1 n2 Jr part pm fx Kf]
  ·rw [Kf,Bp] at hb
   omega
 case inl=>
  refine Br.dec (λhb=>by rw [Kf] at hb;simp at hb) λ_=>?_
  obtain ⟨a1,a2⟩:=CG Jr part pm fx gn Kf
  have z8:=WW n1 n2 Jr part pm fx gn Kf
  have hmu:=Ae0 (n:=N) (q:=q) (s:=(G,T)) (k:=L) (y:=ap q L) (by show L<T.length;omega) (by show ap q L<(T.getD L []).length;omega) Kf
  have run:= λj=>xa n1 n2 Jr a1 a2 j
  dsimp only at a1 a2 z8 hmu run
  refine ⟨⟨by omega,by omega⟩,_,za pm Jr,⟨by omega,by omega⟩,?_⟩
  simp only [Aj]
  rw [z8]
  generalize hs0:((G,T.set L ((T.getD L []).set (ap q L) (some q))):Cc×Cc)=s0 at hmu run⊢
  have Ai8:T.set L ((T.getD L []).set (ap q L) (some q))=s0.2:=by rw [<-hs0]
  have YT:G=s0.1:=by rw [<-hs0]
  have hql:((G.getD L []).map λo=>Ai q (o.getD [])).length=(G.getD L []).length:=Bt _
  refine Bs (G.getD L []).length (λv=>v.1) (λj v=> ∃s:Cc×Cc,v=((j:Int),s.2,s.1,(N:Int),())/\s=iH N L (((G.getD L []).map λo=>Ai q (o.getD [])).take j) s0) rfl ⟨s0,by rw [<-YT,Ai8];rfl,rfl⟩ ?_
  rintro j v K hj hi ⟨s,rfl,hs⟩ hK
  have hr:=run j
  rw [<-hs] at hr
  have g1:s.1.getD L []=G.getD L []:=by rw [hr.same,YT]
  have g2:s.1.length=N:=hr.part.l1
  have g4:mF N L (s.1,s.2)<=mF N L s0:=hr.mu
  dsimp only
  simp only [g1]
  refine ⟨⟨by omega,by omega⟩,Br.dec (λhl=>?_) λhl=>?_⟩
  ·have hl:j<(G.getD L []).length:=by omega
   obtain ⟨g,oD,Tt,hgf⟩:=part.pg _ (Al hl)
   have hgj:(G.getD L []).getD j none=some g:=by rw [DX hl];exact oD
   have hqj:(((G.getD L []).map λo=>Ai q (o.getD []))[j]'(by rw [hql];exact hl))=Ai q g:=by rw [Mn,oD];rfl
   obtain ⟨b1,b2,b3⟩:=a2 (Ai q g) (by rw [<-hqj];exact Al _)
   simp only [Aj,hgj,Bp]
   refine ⟨⟨by omega,by omega⟩,⟨by omega,by omega⟩,some (Ai q g),Ac ⟨Yc pm,pC pm Tt⟩,_,
    Ac ⟨⟨N,L,_,rfl,n1,n2,rfl,rfl,Jr,hr.part,b1,b2,by rw [g1];exact b3,by rw [g1];exact gl⟩,by show mF (N:Int).toNat (L:Int).toNat (s.1,s.2)<m;rw [Aj,Aj];omega⟩,?_⟩
   simp only [Aj,Bp]
   rw [Bk (by omega)]
   refine hK hl _ rfl ⟨_,rfl,?_⟩
   rw [sV (by rw [hql];exact hl),<-hs,hqj]
  ·have:j=(G.getD L []).length:=by omega
   subst this
   rw [<-hql,Aw] at hs
   rw [hs]
theorem Aaz {m:Nat} (Aij:Cn Try.prog 203 (nY m)) (LD:Cn Try.prog 216 (ey m)):Cn Try.prog 216 (ey (m+1)):=
 Cn.eM mA (Bd dz (Bd ca (Ft Aij (Ft LD Bw)))) mixed Try.func216 (by kernel_rfl) (by kernel_rfl) λx h=>Anf x.1 x.2.1 x.2.2.1 x.2.2.2.1 x.2.2.2.2.1 h
theorem Ane {m:Nat} (n:Int) (T G:List (List (Option (List Int)))) (l:Int) (p:Option (List Int)) (h:(∃N L q,p=some q/\de N L n G T l q)/\QV n.toNat l.toNat<m+1):
  fnMW (Abg [vh+46]) (look [(201,kq),(75,Jz),(216,bw.m (ey m))]) (nY (m+1)) Try.f203 (n,T,G,l,p,()) (λ(z:(Int×List (List (Option (List Int)))×List (List (Option (List Int)))×Unit)×Unit)=>z=((n,(kC n.toNat 1000 l.toNat (p.getD []) (G,T)).2,(kC n.toNat 1000 l.toNat (p.getD []) (G,T)).1,()),())):=by
 obtain ⟨⟨N,L,q,rfl,h⟩,hm⟩:=h
 have h':=h
 obtain ⟨n1,n2,en,el,hle,v,pm,fx⟩:=h
 subst en el
 have hk:((N:Int)-(L:Int)).toNat=N-L:=by omega
 have back: ∀s:Cc×Cc,kC N 1000 L q (G,T)=s->((((N:Int),s.2,s.1,()),()):(Int×Cc×Cc×Unit)×Unit)=((((N:Int),(kC N 1000 L q (G,T)).2,(kC N 1000 L q (G,T)).1,()),()):(Int×Cc×Cc×Unit)×Unit):= λs e=>by rw [e]
 refine Eq.mp (Ao3 (N:Int) T G (L:Int) (some q) _) ?_
 simp only [Aj,Bo,Bp,true_and,On] at hm⊢
 refine Br.dec (λoD=>?_) λJr=>?_
 ·exact back (G,T) (OY (by rw [show N-L=0 by omega];rfl))
 have Jr:L<N:=by omega
 have hv:=v
 obtain ⟨v1,v2,v3,v4⟩:=v
 dsimp only at v1 v2
 have hsl:(Tm T (N-L) L q).2.1=(N:Int)↔Ix T (N-L) L q=true:=by
  have:=HH (T:=T) (N-L) L q
  rw [show L+(N-L)=N by omega] at this
  exact this
 refine ⟨_,Ac ⟨N,L,h'⟩,?_⟩
 simp only [Ll]
 simp only [hk,Aj]
 refine Br.of (λhh=>?_) λhh=>?_
 ·exact back (G,T) (OY (hsl.1 (eq_of_beq hh)))
 have hno: ¬Ix T (N-L) L q=true:= λhc=>by rw [hsl.2 hc] at hh;simp at hh
 have tC:=WV n1 n2 (s:=(G,T)) Jr hv pm fx hno
 obtain ⟨a1,a2⟩:=CF n1 n2 (s:=(G,T)) Jr hv pm fx
 have hgl:(G.getD L []).length<=400:=by
  obtain ⟨k,hk1⟩: ∃k,N-L=k+1:=⟨N-L-1,by omega⟩
  rw [hk1] at hv
  exact PV n2 (by omega) hv
 have e1:(0:Int)<=(L:Int)/\(L:Int)<(G.length:Int):=by omega
 have e2:(G.getD L []).length+1<=Ct:=by show _<=4294967296;omega
 have row:=a1.row
 dsimp only at row a1 a2 tC
 have JF:=row.rl
 have run:= λj=>xa n1 n2 Jr a1 a2 j
 have hmu:=LZ a1
 simp only [Dj,List.take_succ_cons,List.take_zero,Av,Fg,Cf,Bo,e1,e2,and_self,true_and,On]
 have hG1:(G.set L (G.getD L []++ [some q])).getD L []=G.getD L []++ [some q]:=dm G L (by omega) _
 generalize hs0:((G.set L (G.getD L []++ [some q]),T):Cc×Cc)=s0 at hmu run tC⊢
 have YT:G.set L (G.getD L []++ [some q])=s0.1:=by rw [<-hs0]
 have Ai8:T=s0.2:=by rw [<-hs0]
 refine Bs N (λv=>v.1) (λy v=>v=((y:Int),(known ((T.getD L []).take y)).map some,T,G.set L (G.getD L []++ [some q]),(N:Int),())) rfl rfl ?_
 rintro y v K hj hi rfl hK
 dsimp only
 refine Br.dec (λhl=>?_) λhl=>?_
 ·have hl:y<N:=by omega
  have hy:y<(T.getD L []).length:=by omega
  have hkt:=LO hy
  have Rl:=xw ((T.getD L []).take y)
  rw [Db] at Rl
  have hye:(T.getD L []).getD y none=(T.getD L [])[y]:=DX hy
  simp only [Aj]
  refine ⟨by omega,⟨by omega,by omega⟩,?_⟩
  rcases Option.eq_none_or_eq_some ((T.getD L []).getD y none) with ho|⟨t,ho⟩
  ·refine Br.dec (λhb=>by rw [ho] at hb;simp at hb) λ_=>?_
   rw [Bk (by omega)]
   refine hK hl _ rfl ?_
   rw [hkt,<-hye,ho]
   simp
  ·obtain ⟨t1,t2,t3,t4⟩:=row.rt _ _ ho
   have htl:=t1.1
   refine Br.dec (λ_=>?_) λhb=>by rw [ho,Bp] at hb;omega
   refine ⟨by omega,⟨by omega,by omega⟩,?_,?_⟩
   ·show _<=4294967296
    rw [Bt];omega
   ·rw [Bk (by omega)]
    refine hK hl _ rfl ?_
    rw [hkt,<-hye,ho]
    simp
 ·have:y=N:=by omega
  subst this
  have YL:(T.getD L []).take y=T.getD L []:=List.take_of_length_le (by omega)
  rw [YL]
  have hql:((known (T.getD L [])).map λu=>Ai u q).length=(known (T.getD L [])).length:=Bt _
  have Rl:=xw (T.getD L [])
  refine Bs (known (T.getD L [])).length (λv=>v.1) (λj v=> ∃s:Cc×Cc,v=((j:Int),(known (T.getD L [])).map some,s.2,s.1,(y:Int),())/\s=iH y L (((known (T.getD L [])).map λu=>Ai u q).take j) s0) rfl ⟨s0,by rw [<-Ai8,YT];rfl,rfl⟩ ?_
  rintro j v K' KS l5 ⟨s,rfl,hs⟩ hK'
  have hr:=run j
  rw [<-hs] at hr
  have g1:s.1.getD L []=G.getD L []++ [some q]:=by rw [hr.same,<-YT];exact hG1
  have g4:mF y L (s.1,s.2)<=mF y L s0:=hr.mu
  dsimp only
  refine Br.dec (λKe=>?_) λKe=>?_
  ·rw [Bt] at Ke
   have Ke:j<(known (T.getD L [])).length:=by omega
   obtain ⟨w,hw⟩:=kb.1 (Al Ke)
   obtain ⟨t1,t2,t3,t4⟩:=row.rt _ _ hw
   have hqj:(((known (T.getD L [])).map λu=>Ai u q)[j]'(by rw [hql];exact Ke))=Ai (known (T.getD L []))[j] q:=by rw [Mn]
   obtain ⟨b1,b2,b3⟩:=a2 (Ai (known (T.getD L []))[j] q) (by rw [<-hqj];exact Al _)
   simp only [Aj]
   refine ⟨⟨by omega,by rw [Bt];omega⟩,some (known (T.getD L []))[j],by rw [En,Ab Ke];rfl,some (Ai (known (T.getD L []))[j] q),Ac ⟨Yc t1,pC t1 pm⟩,_,
    Ac ⟨⟨y,L,_,rfl,n1,n2,rfl,rfl,Jr,hr.part,b1,b2,by rw [g1,<-hG1];exact b3,by rw [g1,Au,Cd];omega⟩,by show mF (y:Int).toNat (L:Int).toNat (s.1,s.2)<m;rw [Aj,Aj];omega⟩,?_⟩
   simp only [Aj,Bp]
   rw [Bk (by omega)]
   refine hK' Ke _ rfl ⟨_,rfl,?_⟩
   rw [sV (by rw [hql];exact Ke),<-hs,hqj]
  ·rw [Bt] at Ke
   have:j=(known (T.getD L [])).length:=by omega
   subst this
   rw [<-hql,Aw] at hs
   exact back s (tC.trans hs.symm)
theorem Aay {m:Nat} (LD:Cn Try.prog 216 (ey m)):Cn Try.prog 203 (nY (m+1)):=
 Cn.eM (Aer [vh+46]) (Ft HO (Bd ca (Ft LD Bw))) mixed Try.func203 (by kernel_rfl) (by kernel_rfl) λx h=>Ane x.1 x.2.1 x.2.2.1 x.2.2.2.1 x.2.2.2.2.1 h
theorem UQ:Cn Try.prog 203 (nY 0)/\Cn Try.prog 216 (ey 0):=
 ⟨Cn.eM Ew Bw mixed Try.func203 (by kernel_rfl) (by kernel_rfl) λ_ h=>absurd h.2 (Ec _),
  Cn.eM Ew Bw mixed Try.func216 (by kernel_rfl) (by kernel_rfl) λ_ h=>absurd h.2 (Ec _)⟩
theorem kr: ∀m,Cn Try.prog 203 (nY m)/\Cn Try.prog 216 (ey m)
 |0=>UQ
 |m+1=>⟨Aay (kr m).2,Aaz (kr m).1 (kr m).2⟩
theorem NN:Cn Try.prog 203 zX:=Cn.Agk (λx=>QV x.1.toNat x.2.2.2.1.toNat) λm=>(kr m).1
noncomputable abbrev cT:Spec:=Ib (.pair tL .unit) tO false true (λx=>short x.1/\1<=List.length x.1) (λx=>some x.1)
noncomputable abbrev zf:MSpec:= {Ip:= [none],ins:= [(false, .Fy tI)],Hi:=false,Hb:= [none,none,none],outs:= [.Fy tI, .Bl tO vA false, .Bl tO vA false],fn:= λ_=>none,rp:=some 189}
noncomputable abbrev Sx:MSpec:=eM zf (λx=>1<=x.1/\x.1<=20) (λx=>((x.1,Zd x.1.toNat,Tn x.1.toNat,()),()))
noncomputable abbrev vO:MSpec:= {Ip:= [none,none],ins:= [(false, .Fy tI),(false, .Fy tLO)],Hi:=false,Hb:= [none,none,none],outs:= [.Fy tI, .Bl tO vA false, .Bl tO vA false],fn:= λ_=>none,rp:=some 189}
noncomputable abbrev dw:MSpec:=eM vO (λx=>(1<=x.1/\x.1<=20)/\List.length x.2.1<=4294967296/\ ∀o∈(x.2.1:List PO),∃g,o=some g/\Pm x.1.toNat g)
 (λx=>((x.1,(Px x.1.toNat x.2.1).2,(Px x.1.toNat x.2.1).1,()),()))
noncomputable abbrev vP:MSpec:= {Ip:= [none,none],ins:= [(false, .Fy tI),(false, .Fy mG)],Hi:=false,Hb:= [none,none,none],outs:= [.Fy tI, .Bl tO vA false, .Bl tO vA false],fn:= λ_=>none,rp:=some 189}
noncomputable abbrev Qf:MSpec:=eM vP (λx=>(1<=x.1/\x.1<=20)/\List.length x.2.1<=4294967296/\ ∀g∈(x.2.1:List (List Int)),Pm x.1.toNat g)
 (λx=>((x.1,(bE x.1 x.2.1).2,(bE x.1 x.2.1).1,()),()))
abbrev lu:Type:=Int×Int×List (List (Option (List Int)))×List (List (Option (List Int)))×PUnit
theorem BN (n:Int) (P:(Int×List (List (Option (List Int)))×List (List (Option (List Int)))×Unit)×Unit->Prop):(0=0/\0=([]:List Int).length/\0=0/\0=([]:List Int).length/\Dh (λ(v2:lu) (k3:lu->Prop)=>Br (decide (v2.1<n)) (((0:Int)<=n/\n<(↑Ct:Int)+(1:Int))/\n=n/\ ∃(y4:Option (List Int)),Pv.fn (n,())=some y4/\((0:Int)<=v2.1/\v2.1<(↑(List.replicate n.toNat (none:Option (List Int))).length:Int))/\0+v2.1.toNat<(List.replicate n.toNat (none:Option (List Int))).length/\0=0/\(List.replicate n.toNat (none:Option (List Int))).length=((List.replicate n.toNat (none:Option (List Int))).set (0+v2.1.toNat) y4).length/\(0=0/\v2.2.2.1.length=v2.2.2.1.length)/\(0=0/\1= [(List.replicate n.toNat (none:Option (List Int))).set (0+v2.1.toNat) y4].length)/\0< [(List.replicate n.toNat (none:Option (List Int))).set (0+v2.1.toNat) y4].length/\v2.2.2.1.length+ [(List.replicate n.toNat (none:Option (List Int))).set (0+v2.1.toNat) y4].length<=Ct/\0=0/\0=([]:List Int).length/\(0=0/\v2.2.2.2.1.length=v2.2.2.2.1.length)/\(0=0/\1=([[]]:List (List (Option (List Int)))).length)/\0<([[]]:List (List (Option (List Int)))).length/\v2.2.2.2.1.length+([[]]:List (List (Option (List Int)))).length<=Ct/\0=0/\(v2.2.2.1++ [(List.replicate n.toNat (none:Option (List Int))).set (0+v2.1.toNat) y4]).length=(v2.2.2.1++ [(List.replicate n.toNat (none:Option (List Int))).set (0+v2.1.toNat) y4]).length/\0=0/\(v2.2.2.2.1++ [[]]).length=(v2.2.2.2.1++ [[]]).length/\k3 (IntKind.i64.wrap (v2.1+(1:Int)),v2.2.1,v2.2.2.1++ [(List.replicate n.toNat (none:Option (List Int))).set (0+v2.1.toNat) y4],v2.2.2.2.1++ [[]],())) ((0=0/\v2.2.2.1.length=v2.2.2.1.length)/\(0=0/\v2.2.2.2.1.length=v2.2.2.2.1.length)/\P ((v2.2.1,v2.2.2.1,v2.2.2.2.1,()),()))) ((0:Int),n,[],[],PUnit.unit))=fnMW Xp (look [(66,Pv)]) Sx Try.f202 (n,()) P:=by kernel_rfl
abbrev jz:Type:=(Int×List (List (Option (List Int)))×List (List (Option (List Int)))×PUnit)×PUnit
abbrev jA:Type:=Int×List (List (Option (List Int)))×List (List (Option (List Int)))×Int×PUnit
theorem wG (n:Int) (gens:List (Option (List Int))) (P:(Int×List (List (Option (List Int)))×List (List (Option (List Int)))×Unit)×Unit->Prop):(∃(y3:jz),Sx.fn (n,())=some y3/\0=0/\y3.1.2.1.length=y3.1.2.1.length/\0=0/\y3.1.2.2.1.length=y3.1.2.2.1.length/\Dh (λ(v4:jA) (k5:jA->Prop)=>Br (decide (v4.1<(↑gens.length:Int))) (∃(y6:Option (List Int)),idx gens v4.1=some y6/\ ∃(y7:Option (List Int)),cT.fn (y6.getD [],())=some y7/\0=0/\v4.2.1.length=v4.2.1.length/\0=0/\v4.2.2.1.length=v4.2.2.1.length/\ ∃(y8:jz),zX.fn (v4.2.2.2.1,v4.2.1,v4.2.2.1,(0:Int),y7,())=some y8/\0=0/\y8.1.2.1.length=y8.1.2.1.length/\0=0/\y8.1.2.2.1.length=y8.1.2.2.1.length/\k5 (IntKind.i64.wrap (v4.1+(1:Int)),y8.1.2.1,y8.1.2.2.1,y8.1.1,())) ((0=0/\v4.2.1.length=v4.2.1.length)/\(0=0/\v4.2.2.1.length=v4.2.2.1.length)/\P ((v4.2.2.2.1,v4.2.1,v4.2.2.1,()),()))) ((0:Int),y3.1.2.1,y3.1.2.2.1,y3.1.1,PUnit.unit))=fnMW Xp (look [(202,Sx),(86,cT),(203,zX)]) dw Try.f171 (n,gens,()) P:=by kernel_rfl
theorem kK:Sound Try.prog 66 Pv:=Sound.toO jt λ_ h=>RL h
theorem rz:Sound Try.prog 86 cT:=Sound.toO Wz λx h=>⟨h.1,λe=>by
 have h2:=h.2
 replace e:x.1= []:=e
 rw [e] at h2
 simp at h2⟩
theorem zA (n:Int) (h:1<=n/\n<=20):fnMW Xp (look [(66,Pv)]) Sx Try.f202 (n,()) (λ(z:(Int×List (List (Option (List Int)))×List (List (Option (List Int)))×Unit)×Unit)=>z=((n,Zd n.toNat,Tn n.toNat,()),())):=by
 obtain ⟨h1,h2⟩:=h
 obtain ⟨N,rfl⟩: ∃N:Nat,n=N:=⟨n.toNat,by omega⟩
 rw [Aj]
 refine Eq.mp (BN (N:Int) _) ?_
 have hm:((0:Int)<=(N:Int)/\(N:Int)<(Ct:Int)+1):=⟨by omega,by show (N:Int)<(4294967296:Int)+1;omega⟩
 simp only [hm,and_self,eq_self,true_and,On,Aj,Bo,Fg,Cf,Gd,Av,Nat.lt_add_one]
 refine Bs N (λv=>v.1) (λj v=>v=((j:Int),(N:Int),(List.range j).map (cb N),List.replicate j [],())) rfl rfl ?_
 rintro j v K hj hi rfl hK
 dsimp only
 refine Br.dec (λhl=>?_) λhl=>?_
 ·simp only [Aj,Bt,Nl,Gd]
  refine ⟨_,Ac ⟨by show (1:Int)<=N;omega,by show (N:Int)<=20;omega⟩,⟨by omega,by omega⟩,by omega,?_,?_,?_⟩
  ·show _<=4294967296
   omega
  ·show _<=4294967296
   omega
  ·rw [Bk (by omega)]
   refine hK (by omega) _ rfl ?_
   rw [bb,Il,List.replicate_succ']
   rfl
 ·have:j=N:=by omega
  subst this
  rfl
theorem pN:Cn Try.prog 202 Sx:=
 Cn.eM mA (Bd kK Bw) mixed Try.func202 (by kernel_rfl) (by kernel_rfl) λx h=>zA x.1 h
theorem vZ (n:Int) (gens:List (Option (List Int))) (h:(1<=n/\n<=20)/\List.length gens<=4294967296/\ ∀o∈(gens:List PO),∃g,o=some g/\Pm n.toNat g):
  fnMW Xp (look [(202,Sx),(86,cT),(203,zX)]) dw Try.f171 (n,gens,()) (λ(z:(Int×List (List (Option (List Int)))×List (List (Option (List Int)))×Unit)×Unit)=>z=((n,(Px n.toNat gens).2,(Px n.toNat gens).1,()),())):=by
 obtain ⟨⟨h1,h2⟩,h3,hg⟩:=h
 obtain ⟨N,rfl⟩: ∃N:Nat,n=N:=⟨n.toNat,by omega⟩
 rw [Aj] at hg⊢
 have h1:1<=N:=by omega
 have h2:N<=20:=by omega
 refine Eq.mp (wG (N:Int) gens _) ⟨_,Ac ⟨by show (1:Int)<=N;omega,by show (N:Int)<=20;omega⟩,rfl,rfl,rfl,rfl,?_⟩
 simp only [Aj,true_and,On]
 refine Bs gens.length (λv=>v.1) (λi v=>v=((i:Int),(Px N (gens.take i)).2,(Px N (gens.take i)).1,(N:Int),())) rfl rfl ?_
 rintro i v K' l5 Ard rfl hK'
 dsimp only
 refine Br.dec (λKe=>?_) λKe=>?_
 ·have Ke:i<gens.length:=by omega
  obtain ⟨g,oD,Tt⟩:=hg gens[i] (Al Ke)
  have hgl:=Tt.1
  have hv:=oL h1 h2 (gens:=gens.take i) λo ho=>hg o (Et ho)
  refine ⟨some g,by rw [Ck Ke,oD],some g,Ac ⟨by show g.length<=4294967296;omega,by show 1<=g.length;omega⟩,_,Ac ⟨N,0,g,rfl,h1,h2,rfl,rfl,Ja _,hv,Tt,λi hi=>absurd hi (Ec _)⟩,?_⟩
  rw [Bk (by omega)]
  refine hK' Ke _ rfl ?_
  rw [yx Ke,oD]
  rfl
 ·have:i=gens.length:=by omega
  subst this
  rw [Aw]
theorem o3:Cn Try.prog 171 dw:=
 Cn.eM mA (Ft pN (Bd rz (Ft NN Bw))) mixed Try.func171 (by kernel_rfl) (by kernel_rfl) λx h=>vZ x.1 x.2.1 h
theorem pM:Cn Try.prog 171 Qf:=by
 have h:=o3
 refine ⟨h.enter,λw S π us x r o g vs h1 hg h2 h3 hS h4 h5=>?_⟩
 obtain ⟨n,gens,⟨⟩⟩:=x
 match us,h2 with
 |u1::u2::us,h2=>
  obtain ⟨h6,⟨h7,h8⟩,h9⟩:=h2
  obtain ⟨os,oC,gL⟩:=Cw.Agp (e:=tI) h8
  have gL:os.map (·.getD [])=(gens:List (List Int)):=gL
  have gO:(1<=n/\n<=20)/\List.length gens<=4294967296/\ ∀g∈(gens:List (List Int)),Pm n.toNat g:=Bj λhn=>by
   have:Qf.fn (n,gens,())=none:=Ak hn
   rw [this] at h5;cases h5
  have hos:os=gens.map some:=by
   rw [<-gL,List.map_map]
   refine (List.map_id os).symm.trans (Eh λx hx=>?_)
   cases x with
   |some y=>rfl
   |none=>
    have:=gO.2.2 [] (by rw [<-gL];exact Ay.2 ⟨none,hx,rfl⟩)
    have h1:=this.n1
    have h2:=this.1
    simp at h2
    omega
  have hv:Qf.fn (n,gens,())=some ((n,(bE n gens).2,(bE n gens).1,()),()):=Ac gO
  rw [hv] at h5
  have h5:=Bb h5
  refine h.calls w S π (u1::u2::us) (n,os,()) r o g vs h1 hg ⟨h6,⟨h7,oC⟩,h9⟩ h3 hS h4 ?_
  refine (Ac ⟨gO.1,by rw [hos,Bt];exact gO.2.1,λy hy=>?pp⟩).trans (Gc some ?qq)
  case pp=>
   replace hy:y∈os:=hy
   rw [hos] at hy
   obtain ⟨g,hg,rfl⟩:=Ay.1 hy
   exact ⟨g,rfl,gO.2.2 g hg⟩
  case qq=>subst hos;exact h5
theorem XS {n:Int} {s:List Int} (h:Oo n s=true):Pm n.toNat s:=by
 obtain ⟨a,b⟩:=Hy.1 h
 exact ⟨by omega,j8 b⟩
theorem Ro.sub {g:List (List Int)} {ls:List Int} {L:List (List Int)} {S S':List Int->Prop} {d d':List Int->Int} (hc:sl g ls L) (h:Ro g ls L S d) (h':Ro g ls L S' d') (hS: ∀x∈L,S' x->S x):
  ∀(n:Nat) (x:List Int),x∈L->d' x=n->d x<=n
 |0,x,hx,e=>by
  have:=(h.zero x hx).2 (hS x hx ((h'.zero x hx).1 e))
  omega
 |n+1,x,hx,e=>by
  obtain ⟨l,hl,hd⟩:=h'.down x hx (by omega)
  obtain ⟨b1,b2⟩:=hc.back x hx l hl
  have h1:=Ro.sub hc h h' hS n _ (hc.next x hx l hl) (by omega)
  have h2:=h.step _ (hc.next x hx l hl) _ b1
  rw [b2] at h2
  omega
theorem wW {p:PP} {t:TT} (hw:Gz p=true) (ht:Gf p t=true) {s:List Int} (hs:s∈Be p):Zo t s=FI p t.1 (Ef s t.1):=by
 obtain ⟨_,h3,_,e1,e2⟩:=kz ht
 have hm:=MT hw h3 s hs
 unfold Zo
 rw [e1,e2]
 exact (Ac hm).symm
theorem RW {p:PP} {t:TT} (hw:Gz p=true) (ht:Gf p t=true) {s:List Int} (hs:s∈Be p):Zo t s<=cL (Be p) (Fv p) s:=by
 obtain ⟨_,h3,_,_,_⟩:=kz ht
 have hv:=(Gg hw).1
 rw [wW hw ht hs]
 have hn:=(iA hw).nn s hs
 have:=Ro.sub (pS hw) (Aah hw h3) (iA hw) (λx _ hx=>by rw [hx,(Nt hv).1];exact Aii h3) (cL (Be p) (Fv p) s).toNat s hs (by omega)
 omega
theorem PQ {m:Int} : ∀(xs:List Int) (a:Int),a<=m->(∀x∈xs,x<=m)->xs.foldl max a<=m
 | [],a,h,_=>h
 |x::xs,a,h,hx=>PQ xs (max a x) (by have:=hx x (Kn ..);omega) λy hy=>hx y (Aq _ hy)
theorem Adw {p:PP} {ts:List TT} (hw:Gz p=true) (ht:Gr p ts=true) {s:List Int} (hs:s∈Be p):Sb ts s<=cL (Be p) (Fv p) s:=by
 refine PQ _ _ ((iA hw).nn s hs) λx hx=>?_
 obtain ⟨t,Vg,rfl⟩:=Ay.1 hx
 exact RW hw ((Vq ht).2.2 t Vg) hs
abbrev tB:Ty:= .slice (.int .u8)
abbrev tU6:Ty:= .int .u64
def hN (h:Int):Int:=IntKind.u64.wrap (IntKind.u64.wrap (h*(6364136223846793005:Int))+(1442695040888963407:Int))
def xN (h:Int):Int:=IntKind.i64.wrap (IntKind.u64.wrap (↑(BitVec.ofInt IntKind.u64.bits (h.fdiv ((2:Int)^min (Int.toNat (33:Int)) IntKind.u64.bits))&&&BitVec.ofInt IntKind.u64.bits (16777215:Int)).toNat:Int))
def dI (b:List Int) (i:Int):Int:=if i<(b.length:Int) then i+1 else i
def dR (b:List Int) (i h n:Int):Int:=if i<(b.length:Int) then (xN (hN h)+Gw b i).tmod n else (xN (hN h)).tmod n
structure eJ (b:List Int) (i:Int):Prop where
 len:b.length<=4096
 byte: ∀y∈b,0<=y/\y<256
 lo:0<=i
 hi:i<=b.length
def GZ:List Int->Int->Int
 | [],h=>h
 |c::r,h=>GZ r (IntKind.u64.wrap (IntKind.u64.wrap (IntKind.u64.wrap (h*(1099511628211:Int))+IntKind.u64.wrap c)+(3:Int)))
def pd (b:List Int) (s:Int):Int:=GZ b (IntKind.u64.wrap (IntKind.u64.wrap (s*(7919:Int))+IntKind.u64.wrap (b.length:Int)))
def fQ (b:List Int) (n:Int):Nat->Int->Int->List Int->Int×Int×List Int
 |0,i,h,mv=>(i,h,mv)
 |k+1,i,h,mv=>fQ b n k (dI b (dI b i)) (hN (hN h)) ((mv.set (dR b i h n).toNat (Gw mv (dR b (dI b i) (hN h) n))).set (dR b (dI b i) (hN h) n).toNat (Gw mv (dR b i h n)))
def pf (b:List Int) (n i h:Int):Int×Int×List Int:=fQ b n (1+dR b i h 3).toNat (dI b i) (hN h) (upto n.toNat)
def aF (b:List Int) (n:Int):Nat->Int->Int->List (List Int)->Int×Int×List (List Int)
 |0,i,h,ms=>(i,h,ms)
 |k+1,i,h,ms=>aF b n k (pf b n i h).1 (pf b n i h).2.1 (ms++ [(pf b n i h).2.2])
def Aa0:ByteArray:= {data:= #[(65:UInt8),(66:UInt8)]}
def aE (b:List Int) (i h:Int):Int×Int×PP:=((aF b (3+dR b i h 3) 2 (dI b i) (hN h) []).1,(aF b (3+dR b i h 3) 2 (dI b i) (hN h) []).2.1,(3+dR b i h 3,Aa0,(aF b (3+dR b i h 3) 2 (dI b i) (hN h) []).2.2,()))
def WI (b:List Int) (n:Int):Nat->Int->Int->Int->List Int->Int×Int×List Int
 |0,_,i,h,o=>(i,h,o)
 |f+1,j,i,h,o=>if j<n/\o.length<3 then WI b n f (j+1) (dI b i) (hN h) (if dR b i h 2=0 then o++ [j] else o) else (i,h,o)
def XO (b:List Int) (n:Int) (r:Int×Int×List Int):Int×Int×List Int:=if r.2.2.length=0 then (dI b r.1,hN r.2.1,r.2.2++ [dR b r.1 r.2.1 n]) else r
def Ni (b:List Int) (i h n:Int):Int×Int×List Int:=XO b n (WI b n n.toNat 0 i h [])
noncomputable abbrev Ain:MSpec:= {Ip:= [none,none],ins:= [(false, .Fy tB),(false, .Fy tU6)],Hi:=false,Hb:= [none,none,none],outs:= [.Fy tB, .Fy tI, .Fy tU6],fn:= λ_=>none,rp:=some 75}
noncomputable abbrev pI:MSpec:=eM Ain (λx=>List.length x.1<=4096) (λx=>((x.1,0,pd x.1 x.2.1,()),()))
noncomputable abbrev Adu:MSpec:= {ptr:=some (75,3),Ip:= [none],ins:= [(false, .Fy tB),(false, .Fy tI),(false, .Fy tU6),(false, .Fy tI)],Hi:=false,Hb:= [none],outs:= [.Fy tB, .Fy tI, .Fy tU6, .Fy tI],fn:= λ_=>none}
noncomputable abbrev Nb:MSpec:=eM Adu (λx=>eJ x.1 x.2.1/\1<=x.2.2.2.1) (λx=>((x.1,dI x.1 x.2.1,hN x.2.2.1,dR x.1 x.2.1 x.2.2.1 x.2.2.2.1,()),()))
noncomputable abbrev eA:MSpec:=lg [none] [(false, .Fy tI)] false [none] [rL] (λx=>0<=x.1/\x.1<=20) (λx=>((upto x.1.toNat,()),()))
noncomputable abbrev bq:MSpec:=lg [none] [(false, .Fy tI)] false [none] [rL] (λx=>1<=x.1/\x.1<=20) (λx=>((upto x.1.toNat,()),()))
noncomputable abbrev Ww:Spec:=Ib (.pair tI .unit) tL false true (λx=>1<=x.1/\x.1<=20) (λx=>upto x.1.toNat)
noncomputable abbrev xW:Spec:=Ib (.pair tB .unit) .bool false true (λ_=>True) (λx=>decide ((List.length x.1:Int)>4096))
noncomputable abbrev An7:MSpec:= {ptr:=some (75,3),Ip:= [],ins:= [(false, .Fy tB),(false, .Fy tI),(false, .Fy tU6)],Hi:=false,Hb:= [some 3],outs:= [.Fy tB, .Fy tI, .Fy tU6, .Fy tI, .Fy .str,rLL],fn:= λ_=>none}
noncomputable abbrev yb:MSpec:=eM An7 (λx=>eJ x.1 x.2.1) (λx=>((x.1,(aE x.1 x.2.1 x.2.2.1).1,(aE x.1 x.2.1 x.2.2.1).2.1,(aE x.1 x.2.1 x.2.2.1).2.2.1,(aE x.1 x.2.1 x.2.2.1).2.2.2.1,(aE x.1 x.2.1 x.2.2.1).2.2.2.2.1,()),()))
noncomputable abbrev An8:MSpec:= {ptr:=some (75,3),Ip:= [some 3],ins:= [(false, .Fy tB),(false, .Fy tI),(false, .Fy tU6),(false, .Fy tI),(false, .Fy .str),(false, .Fy mG)],Hi:=false,Hb:= [none],outs:= [.Fy tB, .Fy tI, .Fy tU6,rL],fn:= λ_=>none}
noncomputable abbrev Xt:MSpec:=eM An8 (λx=>eJ x.1 x.2.1/\1<=x.2.2.2.1/\x.2.2.2.1<=20) (λx=>((x.1,(Ni x.1 x.2.1 x.2.2.1 x.2.2.2.1).1,(Ni x.1 x.2.1 x.2.2.1 x.2.2.2.1).2.1,(Ni x.1 x.2.1 x.2.2.1 x.2.2.2.1).2.2,()),()))
theorem Ajv (code:List Int) (NJ:Int) (P:((List Int×Int×Int×Unit)×Unit)->Prop):(Dh (λ(v3:Int×List Int×Int×Int×PUnit) (k4:Int×List Int×Int×Int×PUnit->Prop)=>Br (decide (v3.1<(↑code.length:Int))) (∃(y5:Int),idx code v3.1=some y5/\k4 (IntKind.i64.wrap (v3.1+(1:Int)),v3.2.1,v3.2.2.1,IntKind.u64.wrap (IntKind.u64.wrap (IntKind.u64.wrap (v3.2.2.2.1*(1099511628211:Int))+IntKind.u64.wrap y5)+(3:Int)),())) (P ((v3.2.1,v3.2.2.1,v3.2.2.2.1,()),()))) ((0:Int),code,Int.ofNat (nat_lit 0),IntKind.u64.wrap (IntKind.u64.wrap (NJ*(7919:Int))+IntKind.u64.wrap (↑code.length:Int)),PUnit.unit))=fnMW Xe (look []) pI Try.f11 (code,NJ,()) P:=by kernel_rfl
theorem Aev (b:List Int) (i h n:Int) (P:((List Int×Int×Int×Int×Unit)×Unit)->Prop):(¬(33:Int)<(0:Int)/\Br (decide (i<(↑b.length:Int))) (∃(y5:Int),idx b i=some y5/\n≠(0:Int)/\P ((b,IntKind.i64.wrap (i+(1:Int)),IntKind.u64.wrap (IntKind.u64.wrap (h*(6364136223846793005:Int))+(1442695040888963407:Int)),(IntKind.i64.wrap (IntKind.i64.wrap (IntKind.u64.wrap (↑(BitVec.ofInt IntKind.u64.bits ((IntKind.u64.wrap (IntKind.u64.wrap (h*(6364136223846793005:Int))+(1442695040888963407:Int))).fdiv ((2:Int)^min (Int.toNat (33:Int)) IntKind.u64.bits))&&&BitVec.ofInt IntKind.u64.bits (16777215:Int)).toNat:Int))+IntKind.i64.wrap y5)).tmod n,()),())) (n≠(0:Int)/\P ((b,i,IntKind.u64.wrap (IntKind.u64.wrap (h*(6364136223846793005:Int))+(1442695040888963407:Int)),(IntKind.i64.wrap (IntKind.u64.wrap (↑(BitVec.ofInt IntKind.u64.bits ((IntKind.u64.wrap (IntKind.u64.wrap (h*(6364136223846793005:Int))+(1442695040888963407:Int))).fdiv ((2:Int)^min (Int.toNat (33:Int)) IntKind.u64.bits))&&&BitVec.ofInt IntKind.u64.bits (16777215:Int)).toNat:Int))).tmod n,()),())))=fnMW Xe (look []) Nb Try.f17 (b,i,h,n,()) P:=by kernel_rfl
theorem Ao7 (code:List Int) (P:Bool->Prop):(P (decide ((↑code.length:Int)>(4096:Int))))=fnW Hf (look []) xW Try.f10 (code,()) P:=by kernel_rfl
theorem Abt (n:Int) (P:((List Int×Unit)×Unit)->Prop):(0=0/\0=([]:List Int).length/\Dh (λ(v2:Int×List Int×PUnit) (k3:Int×List Int×PUnit->Prop)=>Br (decide (v2.1<n)) (0=0/\v2.2.1.length=v2.2.1.length/\v2.2.1.length+(List.take 1 (List.drop 0 [v2.1])).length<=Ct/\0=0/\(v2.2.1++List.take 1 (List.drop 0 [v2.1])).length=(v2.2.1++List.take 1 (List.drop 0 [v2.1])).length/\k3 (IntKind.i64.wrap (v2.1+(1:Int)),v2.2.1++List.take 1 (List.drop 0 [v2.1]),())) (P ((List.take v2.2.1.length (List.drop 0 v2.2.1),()),()))) ((0:Int),[],PUnit.unit))=fnMW Xe (look []) eA Try.f66 (n,()) P:=by kernel_rfl
theorem VY (n:Int) (P:((List Int×Unit)×Unit)->Prop):(∃(y2:Bool),Df.fn (n,(1:Int),(20:Int),())=some y2/\Br (!y2) (P ((List.take 0 (List.drop 0 []),()),())) (∃(y3:(List Int×PUnit)×PUnit),eA.fn (n,())=some y3/\P ((List.take y3.1.1.length (List.drop 0 y3.1.1),()),())))=fnMW Xe (look [(65,Df),(66,eA)]) bq Try.f16 (n,()) P:=by kernel_rfl
theorem Aby (n:Int) (P:List Int->Prop):(∃(y2:Bool),Df.fn (n,(1:Int),(20:Int),())=some y2/\Br (!y2) (P (List.take 0 (List.drop 0 []))) (∃(y3:List Int),Yu.fn (n,())=some y3/\P y3))=fnW Hf (look [(65,Df),(66,Yu)]) Ww Try.f16 (n,()) P:=by kernel_rfl
abbrev Ab3:Type:=Int×Int×ByteArray×Int×ByteArray×List (List Int)×List (List Int)×List Int×List Int×Int×Int×PUnit
abbrev Ab8:Type:=Int×ByteArray×Int×ByteArray×List (List Int)×List (List Int)×List Int×Int×Int×PUnit
abbrev AZ:Type:=(List Int×Int×Int×Int×PUnit)×PUnit
theorem Aof (b:List Int) (i h:Int) (P:((List Int×Int×Int×Int×ByteArray×List (List Int)×Unit)×Unit)->Prop):(∃(y4:AZ),Nb.fn (b,i,h,(3:Int),())=some y4/\0=0/\0=([]:List Int).length/\0=0/\0=([]:List Int).length/\Dh (λ(v5:Ab8) (k6:Ab8->Prop)=>Br (decide ((↑v5.2.2.2.2.2.1.length:Int)<(2:Int))) (∃(y7:(List Int×PUnit)×PUnit),bq.fn (v5.2.2.1,())=some y7/\ ∃(y8:AZ),Nb.fn (v5.2.2.2.2.2.2.1,v5.2.2.2.2.2.2.2.1,v5.2.2.2.2.2.2.2.2.1,(3:Int),())=some y8/\0=0/\y7.1.1.length=y7.1.1.length/\0=0/\v5.2.2.2.2.1.length=v5.2.2.2.2.1.length/\0=0/\v5.2.2.2.2.2.1.length=v5.2.2.2.2.2.1.length/\Dh (λ(v9:Ab3) (k10:Ab3->Prop)=>Br (decide (v9.1>(0:Int))) (∃(Jq:AZ),Nb.fn (v9.2.2.2.2.2.2.2.2.1,v9.2.2.2.2.2.2.2.2.2.1,v9.2.2.2.2.2.2.2.2.2.2.1,v9.2.2.2.1,())=some Jq/\ ∃(He:AZ),Nb.fn (Jq.1.1,Jq.1.2.1,Jq.1.2.2.1,v9.2.2.2.1,())=some He/\((0:Int)<=Jq.1.2.2.2.1/\Jq.1.2.2.2.1<(↑v9.2.2.2.2.2.2.2.1.length:Int))/\ ∃(Iq:Int),v9.2.2.2.2.2.2.2.1[0+Jq.1.2.2.2.1.toNat]?=some Iq/\((0:Int)<=He.1.2.2.2.1/\He.1.2.2.2.1<(↑v9.2.2.2.2.2.2.2.1.length:Int))/\ ∃(Fq:Int),v9.2.2.2.2.2.2.2.1[0+He.1.2.2.2.1.toNat]?=some Fq/\((0:Int)<=Jq.1.2.2.2.1/\Jq.1.2.2.2.1<(↑v9.2.2.2.2.2.2.2.1.length:Int))/\0+Jq.1.2.2.2.1.toNat<v9.2.2.2.2.2.2.2.1.length/\((0:Int)<=He.1.2.2.2.1/\He.1.2.2.2.1<(↑v9.2.2.2.2.2.2.2.1.length:Int))/\0+He.1.2.2.2.1.toNat<(v9.2.2.2.2.2.2.2.1.set (0+Jq.1.2.2.2.1.toNat) Fq).length/\0=0/\v9.2.2.2.2.2.2.2.1.length=((v9.2.2.2.2.2.2.2.1.set (0+Jq.1.2.2.2.1.toNat) Fq).set (0+He.1.2.2.2.1.toNat) Iq).length/\0=0/\v9.2.2.2.2.2.1.length=v9.2.2.2.2.2.1.length/\0=0/\v9.2.2.2.2.2.2.1.length=v9.2.2.2.2.2.2.1.length/\k10 (IntKind.i64.wrap (v9.1-(1:Int)),v9.2.1,v9.2.2.1,v9.2.2.2.1,v9.2.2.2.2.1,v9.2.2.2.2.2.1,v9.2.2.2.2.2.2.1,(v9.2.2.2.2.2.2.2.1.set (0+Jq.1.2.2.2.1.toNat) Fq).set (0+He.1.2.2.2.1.toNat) Iq,He.1.1,He.1.2.1,He.1.2.2.1,())) (0=0/\v9.2.2.2.2.2.2.1.length=v9.2.2.2.2.2.2.1.length/\v9.2.2.2.2.2.2.1.length+(List.take 1 (List.drop 0 [List.take v9.2.2.2.2.2.2.2.1.length (List.drop 0 v9.2.2.2.2.2.2.2.1)])).length<=Ct/\0=0/\v9.2.2.2.2.2.1.length=v9.2.2.2.2.2.1.length/\0=0/\(v9.2.2.2.2.2.2.1++List.take 1 (List.drop 0 [List.take v9.2.2.2.2.2.2.2.1.length (List.drop 0 v9.2.2.2.2.2.2.2.1)])).length=(v9.2.2.2.2.2.2.1++List.take 1 (List.drop 0 [List.take v9.2.2.2.2.2.2.2.1.length (List.drop 0 v9.2.2.2.2.2.2.2.1)])).length/\k6 (v9.2.1,v9.2.2.1,v9.2.2.2.1,v9.2.2.2.2.1,v9.2.2.2.2.2.1,v9.2.2.2.2.2.2.1++List.take 1 (List.drop 0 [List.take v9.2.2.2.2.2.2.2.1.length (List.drop 0 v9.2.2.2.2.2.2.2.1)]),v9.2.2.2.2.2.2.2.2.1,v9.2.2.2.2.2.2.2.2.2.1,v9.2.2.2.2.2.2.2.2.2.2.1,()))) (IntKind.i64.wrap ((1:Int)+y8.1.2.2.2.1),v5.1,v5.2.1,v5.2.2.1,v5.2.2.2.1,v5.2.2.2.2.1,v5.2.2.2.2.2.1,y7.1.1,y8.1.1,y8.1.2.1,y8.1.2.2.1,PUnit.unit)) (P ((v5.2.2.2.2.2.2.1,v5.2.2.2.2.2.2.2.1,v5.2.2.2.2.2.2.2.2.1,v5.2.2.1,v5.2.2.2.1,List.take v5.2.2.2.2.2.1.length (List.drop 0 v5.2.2.2.2.2.1),()),()))) (Int.ofNat (nat_lit 0), {data:= #[]},IntKind.i64.wrap ((3:Int)+y4.1.2.2.2.1), {data:= #[(65:UInt8),(66:UInt8)]},[],[],y4.1.1,y4.1.2.1,y4.1.2.2.1,PUnit.unit))=fnMW Xe (look [(17,Nb),(16,bq)]) yb Try.f12 (b,i,h,()) P:=by kernel_rfl
abbrev Ab4:Type:=Int×Int×ByteArray×List (List Int)×List Int×List Int×Int×Int×PUnit
abbrev OA:Type:=(List Int×Int×Int×Int×PUnit)×PUnit
theorem Aog (b:List Int) (i h n:Int) (str:ByteArray) (g:List (List Int)) (P:((List Int×Int×Int×List Int×Unit)×Unit)->Prop):(0=0/\0=([]:List Int).length/\Dh (λ(v7:Ab4) (k8:Ab4->Prop)=>Br (decide (v7.1<v7.2.1)) (Br (decide ((↑v7.2.2.2.2.1.length:Int)<(3:Int))) (∃(y9:OA),Nb.fn (v7.2.2.2.2.2.1,v7.2.2.2.2.2.2.1,v7.2.2.2.2.2.2.2.1,(2:Int),())=some y9/\Br (y9.1.2.2.2.1==(0:Int)) (0=0/\v7.2.2.2.2.1.length=v7.2.2.2.2.1.length/\v7.2.2.2.2.1.length+(List.take 1 (List.drop 0 [v7.1])).length<=Ct/\0=0/\(v7.2.2.2.2.1++List.take 1 (List.drop 0 [v7.1])).length=(v7.2.2.2.2.1++List.take 1 (List.drop 0 [v7.1])).length/\k8 (IntKind.i64.wrap (v7.1+(1:Int)),v7.2.1,v7.2.2.1,v7.2.2.2.1,v7.2.2.2.2.1++List.take 1 (List.drop 0 [v7.1]),y9.1.1,y9.1.2.1,y9.1.2.2.1,())) (0=0/\v7.2.2.2.2.1.length=v7.2.2.2.2.1.length/\k8 (IntKind.i64.wrap (v7.1+(1:Int)),v7.2.1,v7.2.2.1,v7.2.2.2.1,v7.2.2.2.2.1,y9.1.1,y9.1.2.1,y9.1.2.2.1,()))) (Br ((↑v7.2.2.2.2.1.length:Int)==(0:Int)) (∃(y9:OA),Nb.fn (v7.2.2.2.2.2.1,v7.2.2.2.2.2.2.1,v7.2.2.2.2.2.2.2.1,v7.2.1,())=some y9/\0=0/\v7.2.2.2.2.1.length=v7.2.2.2.2.1.length/\v7.2.2.2.2.1.length+(List.take 1 (List.drop 0 [y9.1.2.2.2.1])).length<=Ct/\P ((y9.1.1,y9.1.2.1,y9.1.2.2.1,List.take (v7.2.2.2.2.1++List.take 1 (List.drop 0 [y9.1.2.2.2.1])).length (List.drop 0 (v7.2.2.2.2.1++List.take 1 (List.drop 0 [y9.1.2.2.2.1]))),()),())) (P ((v7.2.2.2.2.2.1,v7.2.2.2.2.2.2.1,v7.2.2.2.2.2.2.2.1,List.take v7.2.2.2.2.1.length (List.drop 0 v7.2.2.2.2.1),()),())))) (Br ((↑v7.2.2.2.2.1.length:Int)==(0:Int)) (∃(y9:OA),Nb.fn (v7.2.2.2.2.2.1,v7.2.2.2.2.2.2.1,v7.2.2.2.2.2.2.2.1,v7.2.1,())=some y9/\0=0/\v7.2.2.2.2.1.length=v7.2.2.2.2.1.length/\v7.2.2.2.2.1.length+(List.take 1 (List.drop 0 [y9.1.2.2.2.1])).length<=Ct/\P ((y9.1.1,y9.1.2.1,y9.1.2.2.1,List.take (v7.2.2.2.2.1++List.take 1 (List.drop 0 [y9.1.2.2.2.1])).length (List.drop 0 (v7.2.2.2.2.1++List.take 1 (List.drop 0 [y9.1.2.2.2.1]))),()),())) (P ((v7.2.2.2.2.2.1,v7.2.2.2.2.2.2.1,v7.2.2.2.2.2.2.2.1,List.take v7.2.2.2.2.1.length (List.drop 0 v7.2.2.2.2.1),()),())))) ((0:Int),n,str,g,[],b,i,h,PUnit.unit))=fnMW Xe (look [(17,Nb)]) Xt Try.f32 (b,i,h,n,str,g,()) P:=by kernel_rfl
theorem Ags (h:Int):0<=xN h/\xN h<=16777215:=by
 obtain ⟨a,ha⟩: ∃a,BitVec.ofInt IntKind.u64.bits (h.fdiv ((2:Int)^min (Int.toNat (33:Int)) IntKind.u64.bits))=a:=⟨_,rfl⟩
 have h1:(a&&&BitVec.ofInt IntKind.u64.bits (16777215:Int)).toNat<=16777215:=by
  rw [BitVec.toNat_and]
  exact Nat.and_le_right
 unfold xN
 rw [ha]
 obtain ⟨x,hx⟩: ∃x,(a&&&BitVec.ofInt IntKind.u64.bits (16777215:Int)).toNat=x:=⟨_,rfl⟩
 rw [hx] at h1⊢
 have e:IntKind.u64.wrap (x:Int)=x:=by
  unfold IntKind.wrap
  have e1:IntKind.signed .u64=false:=rfl
  have e2:IntKind.bits .u64=64:=rfl
  rw [e1,e2]
  simp only [Bool.false_and,Dc,Rn]
  omega
 rw [e,Dl (by omega) (by omega)]
 omega
theorem eJ.Gw {b:List Int} {i:Int} (h:eJ b i) (hi:i<b.length):0<=Gw b i/\Gw b i<256:=by
 have h0:=h.lo
 have hl:i.toNat<b.length:=by omega
 refine h.byte _ ?_
 unfold Go.Proofs.Ytkkdpknjohcekaa.Gw
 rw [Ah,Ab hl]
 exact Al hl
theorem eJ.next {b:List Int} {i:Int} (h:eJ b i):eJ b (dI b i):=by
 have h0:=h.lo
 have h1:=h.hi
 unfold dI
 split
 ·exact ⟨h.len,h.byte,by omega,by omega⟩
 ·exact h
theorem kN {b:List Int} {i n:Int} (h:eJ b i) (hn:1<=n) (s:Int):0<=dR b i s n/\dR b i s n<n:=by
 have hx:=Ags (hN s)
 unfold dR
 split
 ·rename_i hi
  have:=h.Gw hi
  exact ⟨Int.tmod_nonneg _ (by omega),Int.tmod_lt_of_pos _ (by omega)⟩
 ·exact ⟨Int.tmod_nonneg _ (by omega),Int.tmod_lt_of_pos _ (by omega)⟩
theorem Aj6 (code:List Int) (NJ:Int) (h:code.length<=4096):fnMW Xe (look []) pI Try.f11 (code,NJ,()) (λ(z:(List Int×Int×Int×Unit)×Unit)=>z=((code,0,pd code NJ,()),())):=by
 obtain ⟨R,hR⟩: ∃R,pd code NJ=R:=⟨_,rfl⟩
 rw [hR]
 unfold pd at hR
 refine Eq.mp (Ajv code NJ _) ?_
 refine Bs code.length (λv=>v.1) (λj v=>v.2.1=code/\v.2.2.1=0/\GZ (code.drop j) v.2.2.2.1=R) rfl ⟨rfl,rfl,hR⟩ ?_
 rintro j ⟨jj,c,i,s,⟨⟩⟩ K hj rZ ⟨r1,r2,r3⟩ hK
 dsimp only at rZ r1 r2 r3⊢
 subst rZ r1 r2
 refine Br.dec (λhl=>?_) λhl=>?_
 ·have hl:j<c.length:=by omega
  refine ⟨_,Ck hl,?_⟩
  rw [Bk (by omega)]
  rw [Ez hl,GZ] at r3
  exact hK hl _ rfl ⟨rfl,rfl,r3⟩
 ·have:j=c.length:=by omega
  subst this
  rw [Pj,GZ] at r3
  rw [r3]
theorem NT:Cn Try.prog 11 pI:=
 Cn.eM Uy Bw mixed Try.func11 (by kernel_rfl) (by kernel_rfl) λx h=>Aj6 x.1 x.2.1 h
theorem Ae6 (b:List Int) (i h n:Int) (hd:eJ b i/\1<=n):fnMW Xe (look []) Nb Try.f17 (b,i,h,n,()) (λ(z:(List Int×Int×Int×Int×Unit)×Unit)=>z=((b,dI b i,hN h,dR b i h n,()),())):=by
 obtain ⟨hd,hn⟩:=hd
 have h0:=hd.lo
 have hlen:=hd.len
 have hx:=Ags (hN h)
 refine Eq.mp (Aev b i h n _) ⟨by omega,Br.dec (λhl=>?_) λhl=>?_⟩
 ·have hg:=hd.Gw hl
  refine ⟨_,iS h0 hl,by omega,?_⟩
  rw [Dl (n:=Gw b i) (by omega) (by omega)]
  show ((b,IntKind.i64.wrap (i+1),hN h,(IntKind.i64.wrap (xN (hN h)+Gw b i)).tmod n,()),())=_
  rw [Dl (by omega) (by omega),Dl (by omega) (by omega)]
  unfold dI dR
  rw [Ac hl,Ac hl]
 ·refine ⟨by omega,?_⟩
  show ((b,i,hN h,(xN (hN h)).tmod n,()),())=_
  unfold dI dR
  rw [Ak hl,Ak hl]
theorem js:Cn Try.prog 17 Nb:=
 Cn.eM Uy Bw mixed Try.func17 (by kernel_rfl) (by kernel_rfl) λx h=>Ae6 x.1 x.2.1 x.2.2.1 x.2.2.2.1 h
theorem Ani (code:List Int) (_:True):fnW Hf (look []) xW Try.f10 (code,()) (λ(z:Bool)=>z=decide ((code.length:Int)>4096)):=Eq.mp (Ao7 code _) rfl
theorem US:Sound Try.prog 10 xW:=
 Sound.Ib Ew Bw mixed Try.func10 (by kernel_rfl) (by kernel_rfl) λx h=>Ani x.1 h
theorem Aa9 (n:Int) (h:0<=n/\n<=20):fnMW Xe (look []) eA Try.f66 (n,()) (λ(z:(List Int×Unit)×Unit)=>z=((upto n.toNat,()),())):=by
 refine Eq.mp (Abt n _) ⟨rfl,rfl,?_⟩
 refine Bs n.toNat (λv=>v.1) (λj v=>v.2.1=upto j) rfl rfl ?_
 rintro j ⟨i,ys,⟨⟩⟩ K hj hi h1 hK
 dsimp only at hi h1⊢
 subst hi h1
 refine Br.dec (λhl=>?_) λhl=>?_
 ·refine ⟨rfl,rfl,?_,rfl,rfl,?_⟩
  ·show (upto j).length+1<=4294967296
   rw [Kb];omega
  ·rw [Bk (by omega)]
   exact hK (by omega) _ rfl (Ze j).symm
 ·have:j=n.toNat:=by omega
  subst this
  rw [Cq]
theorem AH:Cn Try.prog 66 eA:=
 Cn.lg Uy Bw mixed Try.func66 (by kernel_rfl) (by kernel_rfl) λx h=>Aa9 x.1 h
theorem UA (n:Int) (h:1<=n/\n<=20):fnMW Xe (look [(65,Df),(66,eA)]) bq Try.f16 (n,()) (λ(z:(List Int×Unit)×Unit)=>z=((upto n.toNat,()),())):=by
 refine Eq.mp (VY n _) ⟨true,Ac trivial|>.trans (Gc some (Eo ⟨h.1,h.2⟩)),λhc=>(by cases hc),λ_=>⟨_,Ac ⟨by show 0<=n;omega,h.2⟩,?_⟩⟩
 rw [Cq]
theorem wy:Cn Try.prog 16 bq:=
 Cn.lg Uy (Bd Ue (Ft AH Bw)) mixed Try.func16 (by kernel_rfl) (by kernel_rfl) λx h=>UA x.1 h
theorem Aae (n:Int) (h:1<=n/\n<=20):fnW Hf (look [(65,Df),(66,Yu)]) Ww Try.f16 (n,()) (λ(z:List Int)=>z=upto n.toNat):=
 Eq.mp (Aby n _) ⟨true,Ac trivial|>.trans (Gc some (Eo ⟨h.1,h.2⟩)),λhc=>(by cases hc),λ_=>⟨_,Ac ⟨by show 0<=n;omega,h.2⟩,rfl⟩⟩
theorem AM:Sound Try.prog 16 Ww:=
 Sound.Ib Ew (Bd Ue (Bd jt Bw)) mixed Try.func16 (by kernel_rfl) (by kernel_rfl) λx h=>Aae x.1 h
theorem HT {b:List Int} (n:Int): ∀(k:Nat) (i h:Int) (mv:List Int),eJ b i->eJ b (fQ b n k i h mv).1
 |0,_,_,_,hd=>hd
 |k+1,i,h,mv,hd=>by rw [fQ];exact HT n k _ _ _ hd.next.next
theorem tV {b:List Int} {n i:Int} (hd:eJ b i) (h:Int):eJ b (pf b n i h).1:=HT n _ _ _ _ hd.next
theorem QX (b:List Int) (n:Int): ∀(k:Nat) (i h:Int) (ms:List (List Int)),(aF b n k i h ms).2.2.length=k+ms.length
 |0,_,_,ms=>by rw [aF];show ms.length=0+ms.length;omega
 |k+1,i,h,ms=>by rw [aF,QX b n k,Au,Cd];omega
theorem QW {b:List Int} (n:Int): ∀(k:Nat) (i h:Int) (ms:List (List Int)),eJ b i->eJ b (aF b n k i h ms).1
 |0,_,_,_,hd=>hd
 |k+1,i,h,ms,hd=>by rw [aF];exact QW n k _ _ _ (tV hd h)
theorem Akt {xs:List Int} {y:Int} (h0:0<=y) (h:y<xs.length):xs[0+y.toNat]?=some (Gw xs y):=by
 have hl:y.toNat<xs.length:=by omega
 unfold Gw
 rw [Bo,Ah,Ab hl]
 rfl
theorem Anq (b:List Int) (i h:Int) (hd:eJ b i):fnMW Xe (look [(17,Nb),(16,bq)]) yb Try.f12 (b,i,h,()) (λ(z:(List Int×Int×Int×Int×ByteArray×List (List Int)×Unit)×Unit)=>z=((b,(aE b i h).1,(aE b i h).2.1,(aE b i h).2.2.1,(aE b i h).2.2.2.1,(aE b i h).2.2.2.2.1,()),())):=by
 have hr:=kN hd (show (1:Int)<=3 by decide) h
 obtain ⟨n,hn⟩: ∃n,3+dR b i h 3=n:=⟨_,rfl⟩
 obtain ⟨R,hR⟩: ∃R,aF b n 2 (dI b i) (hN h) []=R:=⟨_,rfl⟩
 have hm:aE b i h=(R.1,R.2.1,(n,Aa0,R.2.2,())):=by unfold aE;rw [hn,hR]
 rw [hm]
 refine Eq.mp (Aof b i h _) ⟨_,Ac ⟨hd,by show (1:Int)<=3;decide⟩,rfl,rfl,rfl,rfl,?_⟩
 dsimp only
 rw [Dl (n:=3+dR b i h 3) (by omega) (by omega),hn]
 have hn3:3<=n/\n<=5:=by omega
 refine Dh.mk (λy=> ∃(f:Nat) (i h:Int) (ms:List (List Int)),y=((0:Int), {data:= #[]},n,Aa0,[],ms,b,i,h,())/\eJ b i/\f+ms.length=2/\aF b n f i h ms=R) (λy=>2-y.2.2.2.2.2.1.length)
  ⟨2,dI b i,hN h,[],rfl,hd.next,rfl,hR⟩ ?_
 rintro y ⟨f,i,h,ms,rfl,hd,hl,hv⟩
 dsimp only
 refine Br.dec (λhf=>?_) λhf=>?_
 ·obtain ⟨f,rfl⟩: ∃f',f=f'+1:=⟨f-1,by omega⟩
  rw [aF] at hv
  obtain ⟨M,hM⟩: ∃M,pf b n i h=M:=⟨_,rfl⟩
  have hMd:eJ b M.1:=by rw [<-hM];exact tV hd h
  rw [hM] at hv
  unfold pf at hM
  have hr:=kN hd (show (1:Int)<=3 by decide) h
  refine ⟨_,Ac ⟨by show 1<=n;omega,by show n<=20;omega⟩,_,Ac ⟨hd,by show (1:Int)<=3;decide⟩,rfl,rfl,rfl,rfl,rfl,rfl,?_⟩
  dsimp only
  rw [Dl (n:=1+dR b i h 3) (by omega) (by omega)]
  refine Dh.mk (λz=> ∃(c:Nat) (i h:Int) (mv:List Int),z=((c:Int),(0:Int), {data:= #[]},n,Aa0,[],ms,mv,b,i,h,())/\eJ b i/\c<=3/\mv.length=n.toNat/\fQ b n c i h mv=M) (λz=>z.1.toNat)
   ⟨(1+dR b i h 3).toNat,dI b i,hN h,upto n.toNat,by rw [Int.toNat_of_nonneg (by omega)],hd.next,by omega,Kb _,hM⟩ ?_
  rintro z ⟨c,i',h',mv,rfl,SL,hc,iO,hsw⟩
  dsimp only
  refine Br.dec (λjQ=>?_) λjQ=>?_
  ·obtain ⟨c,rfl⟩: ∃c',c=c'+1:=⟨c-1,by omega⟩
   rw [fQ] at hsw
   have r1:=kN SL (show 1<=n by omega) h'
   have r2:=kN SL.next (show 1<=n by omega) (hN h')
   have l1:dR b i' h' n<mv.length:=by omega
   have l2:dR b (dI b i') (hN h') n<mv.length:=by omega
   refine ⟨_,Ac ⟨SL,by show 1<=n;omega⟩,_,Ac ⟨SL.next,by show 1<=n;omega⟩,⟨r1.1,l1⟩,_,Akt r1.1 l1,⟨r2.1,l2⟩,_,Akt r2.1 l2,⟨r1.1,l1⟩,by show 0+(dR b i' h' n).toNat<mv.length;omega,⟨r2.1,l2⟩,
    by rw [Cf];show 0+(dR b (dI b i') (hN h') n).toNat<mv.length;omega,rfl,by simp only [Cf],rfl,rfl,rfl,rfl,?_⟩
   dsimp only
   rw [Dl (by omega) (by omega),Bo,Bo]
   exact ⟨⟨c,_,_,_,by rw [show ((c+1:Nat):Int)-1=(c:Int) by omega],SL.next.next,by omega,by simp only [Cf];exact iO,hsw⟩,by show ((((c+1:Nat):Int)-1).toNat)<(((c+1:Nat):Int)).toNat;omega⟩
  ·obtain rfl:c=0:=by omega
   rw [fQ] at hsw
   subst hsw
   refine ⟨rfl,rfl,by show ms.length+1<=4294967296;omega,rfl,rfl,rfl,rfl,?_⟩
   rw [Cq]
   exact ⟨⟨f,_,_,_,rfl,hMd,by rw [Au];show f+(ms.length+1)=2;omega,hv⟩,by show 2-(ms++ [mv]).length<2-ms.length;rw [Au,Cd];omega⟩
 ·obtain rfl:f=0:=by omega
  rw [aF] at hv
  rw [<-hv]
  simp only [Cq]
theorem VB:Cn Try.prog 12 yb:=
 Cn.eM Uy (Ft js (Ft wy Bw)) mixed Try.func12 (by kernel_rfl) (by kernel_rfl) λx h=>Anq x.1 x.2.1 x.2.2.1 h
theorem Anr (b:List Int) (i h n:Int) (str:ByteArray) (g:List (List Int)) (hd:eJ b i/\1<=n/\n<=20):fnMW Xe (look [(17,Nb)]) Xt Try.f32 (b,i,h,n,str,g,()) (λ(z:(List Int×Int×Int×List Int×Unit)×Unit)=>z=((b,(Ni b i h n).1,(Ni b i h n).2.1,(Ni b i h n).2.2,()),())):=by
 obtain ⟨hd,hn1,hn⟩:=hd
 obtain ⟨R,hR⟩: ∃R,Ni b i h n=R:=⟨_,rfl⟩
 rw [hR]
 unfold Ni at hR
 refine Eq.mp (Aog b i h n str g _) ⟨rfl,rfl,?_⟩
 refine Dh.mk (λy=> ∃(f:Nat) (j i h:Int) (o:List Int),y=(j,n,str,g,o,b,i,h,())/\eJ b i/\0<=j/\n-j<=f/\o.length<=3/\XO b n (WI b n f j i h o)=R) (λy=>(n-y.1).toNat)
  ⟨n.toNat,0,i,h,[],rfl,hd,by omega,by omega,by simp,hR⟩ ?_
 rintro y ⟨f,j,i,h,o,rfl,hd,hj,hf,ho,hv⟩
 dsimp only
 have fin:WI b n f j i h o=(i,h,o)->Br ((o.length:Int)==0) (∃(y9:(List Int×Int×Int×Int×PUnit)×PUnit),Nb.fn (b,i,h,n,())=some y9/\(0:Nat)=0/\o.length=o.length/\o.length+(List.take (1:Nat) (List.drop (0:Nat) [y9.1.2.2.2.1])).length<=Ct/\
   ((y9.1.1,y9.1.2.1,y9.1.2.2.1,List.take (o++List.take (1:Nat) (List.drop (0:Nat) [y9.1.2.2.2.1])).length (List.drop (0:Nat) (o++List.take (1:Nat) (List.drop (0:Nat) [y9.1.2.2.2.1]))),()),())=((b,R.1,R.2.1,R.2.2,()),()))
   (((b,i,h,List.take o.length (List.drop 0 o),()),())=((b,R.1,R.2.1,R.2.2,()),())):=by
  intro he
  rw [he] at hv
  refine Br.of (λhz=>?_) λhz=>?_
  ·have hz:o.length=0:=by simpa using hz
   rw [XO,Ac hz] at hv
   refine ⟨_,Ac ⟨hd,hn1⟩,rfl,rfl,by show o.length+1<=4294967296;omega,?_⟩
   rw [<-hv,Cq]
   rfl
  ·have hz: ¬o.length=0:=by simpa using hz
   rw [XO,Ak hz] at hv
   rw [<-hv,Cq]
 refine Br.dec (λhjn=>?_) λhjn=>?_
 ·refine Br.dec (λho3=>?_) λho3=>?_
  ·obtain ⟨f,rfl⟩: ∃f',f=f'+1:=⟨f-1,by omega⟩
   rw [WI,Ac ⟨hjn,by omega⟩] at hv
   refine ⟨_,Ac ⟨hd,by show (1:Int)<=2;decide⟩,Br.of (λhz=>?_) λhz=>?_⟩
   ·have hz:dR b i h 2=0:=by simpa using hz
    rw [Ac hz] at hv
    refine ⟨rfl,rfl,by show o.length+1<=4294967296;omega,rfl,rfl,?_⟩
    rw [Dl (by omega) (by omega)]
    exact ⟨⟨f,j+1,_,_,_,rfl,hd.next,by omega,by omega,by rw [Au];show o.length+1<=3;omega,hv⟩,by show (n-(j+1)).toNat<(n-j).toNat;omega⟩
   ·have hz: ¬dR b i h 2=0:=by simpa using hz
    rw [Ak hz] at hv
    refine ⟨rfl,rfl,?_⟩
    rw [Dl (by omega) (by omega)]
    exact ⟨⟨f,j+1,_,_,_,rfl,hd.next,by omega,by omega,ho,hv⟩,by show (n-(j+1)).toNat<(n-j).toNat;omega⟩
  ·refine fin ?_
   cases f with
   |zero=>rfl
   |succ f=>rw [WI,Ak (λhc=>ho3 (by omega))]
 ·refine fin ?_
  cases f with
  |zero=>rfl
  |succ f=>rw [WI,Ak (λhc=>hjn hc.1)]
theorem VC:Cn Try.prog 32 Xt:=
 Cn.eM Uy (Ft js Bw) mixed Try.func32 (by kernel_rfl) (by kernel_rfl) λx h=>Anr x.1 x.2.1 x.2.2.1 x.2.2.2.1 x.2.2.2.2.1 x.2.2.2.2.2.1 h
end Go.Proofs.Ytkkdpknjohcekaa
