/-
  Part 46 of the proof that the statement FnExactIterationNodes holds.
-/
import Derived.Test.YtfolipnappekaaaGreatCIterationNodes44
namespace Go.Proofs.YtfolipnappekaaaGreat
open Go.RowKit
noncomputable abbrev q9:Spec:=En (.pair (.ptr oQ) (.pair tI (.pair tL .unit))) (.pair tL (.pair tI .unit)) true false (λx=> ∃N L,Vy N L x.1.1 x.1.2.2.1 x.1.2.1 x.2.1 x.2.2.1) (λx=>Of x.1.2.1 (x.1.1-x.2.1).toNat x.2.1.toNat x.2.2.1)
noncomputable abbrev Akd:MSpec:= {ptr:=some (153,3),Jj:= [none,none],ins:= [(false, .Fm tI),(false, .Bm tO wG false),(false, .Bm tO wG false),(false, .Fm tI),(false, .Fm tL)],He:=true,Ih:= [none,none],outs:= [.Fm tI, .Bm tO wG false, .Bm tO wG false, .Fm tL, .Fm tI],fn:= λ_=>none}
noncomputable abbrev kH:MSpec:=ky Akd (λx=> ∃N L,Vy N L x.1 x.2.2.1 x.2.1 x.2.2.2.1 x.2.2.2.2.1)
 (λx=>((x.1,x.2.1,x.2.2.1,(Of x.2.1 (x.1-x.2.2.2.1).toNat x.2.2.2.1.toNat x.2.2.2.2.1).1,(Of x.2.1 (x.1-x.2.2.2.1).toNat x.2.2.2.1.toNat x.2.2.2.2.1).2.1,()),()))
structure Agk (N L:Nat) (n:Int) (G T:Co) (l:Int) (p:List Int):Prop where
 n1:1<=N
 n2:N<=20
 en:n=N
 el:l=L
 lt:L<N
 part:Part N L (G,T)
 pm:Pm N p
 fx:Fx L p
 gn:Gn N (G.getD L []) p
 gl:(G.getD L []).length<=401
noncomputable abbrev Ab6:MSpec:= {ptr:=some (153,3),Jj:= [none,none],ins:= [(false, .Fm tI),(false, .Bm tO wG false),(false, .Bm tO wG false),(false, .Fm tI),(false, .Fm tO)],He:=false,Ih:= [],outs:= [.Fm tI, .Bm tO wG false, .Bm tO wG false],fn:= λ_=>none}
noncomputable abbrev oh (m:Nat):MSpec:=ky Ab6 (λx=>(∃N L q,x.2.2.2.2.1=some q/\Vy N L x.1 x.2.2.1 x.2.1 x.2.2.2.1 q)/\TF x.1.toNat x.2.2.2.1.toNat<m)
 (λx=>((x.1,(kP x.1.toNat 1000 x.2.2.2.1.toNat (x.2.2.2.2.1.getD []) (x.2.2.1,x.2.1)).2,(kP x.1.toNat 1000 x.2.2.2.1.toNat (x.2.2.2.2.1.getD []) (x.2.2.1,x.2.1)).1,()),()))
noncomputable abbrev eD (m:Nat):MSpec:=ky Ab6 (λx=>(∃N L q,x.2.2.2.2.1=some q/\Agk N L x.1 x.2.2.1 x.2.1 x.2.2.2.1 q)/\mV x.1.toNat x.2.2.2.1.toNat (x.2.2.1,x.2.1)<m)
 (λx=>((x.1,(gm x.1.toNat 1000 x.2.2.2.1.toNat (x.2.2.2.2.1.getD []) (x.2.2.1,x.2.1)).2,(gm x.1.toNat 1000 x.2.2.2.1.toNat (x.2.2.2.2.1.getD []) (x.2.2.1,x.2.1)).1,()),()))
noncomputable abbrev CG:MSpec:=ky Ab6 (λx=> ∃N L q,x.2.2.2.2.1=some q/\Vy N L x.1 x.2.2.1 x.2.1 x.2.2.2.1 q)
 (λx=>((x.1,(kP x.1.toNat 1000 x.2.2.2.1.toNat (x.2.2.2.2.1.getD []) (x.2.2.1,x.2.1)).2,(kP x.1.toNat 1000 x.2.2.2.1.toNat (x.2.2.2.2.1.getD []) (x.2.2.1,x.2.1)).1,()),()))
theorem xY (p q:List Int) (P:List Int->Prop):(0=0/\0=([]:List Int).length/\Cz (λ(v3:Int×List Int×PUnit) (k4:Int×List Int×PUnit->Prop)=>Br (decide (v3.1<(↑p.length:Int))) (∃(y5:Int),idx p v3.1=some y5/\ ∃(y6:Int),idx q y5=some y6/\0=0/\v3.2.1.length=v3.2.1.length/\v3.2.1.length+(List.take 1 (List.drop 0 [y6])).length<=Cq/\0=0/\(v3.2.1++List.take 1 (List.drop 0 [y6])).length=(v3.2.1++List.take 1 (List.drop 0 [y6])).length/\k4 (IntKind.i64.wrap (v3.1+(1:Int)),v3.2.1++List.take 1 (List.drop 0 [y6]),())) (P (List.take v3.2.1.length (List.drop 0 v3.2.1)))) ((0:Int),[],PUnit.unit))=fnW Ej (look []) Nl Tryz.f156 (p,q,()) P:=by kernel_rfl
theorem Als (c:Int×List (List (Option (List Int)))×List (List (Option (List Int)))×Unit) (l:Int) (p:List Int) (P:(List Int×Int×Unit)->Prop):(Cz (λ(v4:List Int×Int×PUnit) (k5:List Int×Int×PUnit->Prop)=>Br (decide (v4.2.1<c.1)) (∃(y6:List (Option (List Int))),idx c.2.1 v4.2.1=some y6/\ ∃(y7:Int),idx v4.1 v4.2.1=some y7/\ ∃(y8:Option (List Int)),idx y6 y7=some y8/\Br ((↑(y8.getD []).length:Int)==(0:Int)) (P (v4.1,v4.2.1,())) (∃(y9:List Int),Ff.fn (y8.getD [],())=some y9/\ ∃(Ly:List Int),Mq.fn (v4.1,y9,())=some Ly/\k5 (Ly,IntKind.i64.wrap (v4.2.1+(1:Int)),()))) (P (v4.1,c.1,()))) (p,l,PUnit.unit))=fnW Xh (look [(76,Ff),(156,Mq)]) q9 Tryz.f144 (c,l,p,()) P:=by kernel_rfl
abbrev JX:Type:=List Int×Int×List (List (Option (List Int)))×List (List (Option (List Int)))×Int×PUnit
theorem Agg (n:Int) (T G:List (List (Option (List Int)))) (l:Int) (p:List Int) (P:(Int×List (List (Option (List Int)))×List (List (Option (List Int)))×List Int×Int×Unit)×Unit->Prop):(0=0/\T.length=T.length/\0=0/\G.length=G.length/\Cz (λ(v6:JX) (k7:JX->Prop)=>Br (decide (v6.2.1<v6.2.2.2.2.1)) (((0:Int)<=v6.2.1/\v6.2.1<(↑v6.2.2.1.length:Int))/\ ∃(y8:Int),idx v6.1 v6.2.1=some y8/\((0:Int)<=y8/\y8<(↑(v6.2.2.1.getD (0+v6.2.1.toNat) []).length:Int))/\Br ((↑(((v6.2.2.1.getD (0+v6.2.1.toNat) []).getD y8.toNat (none:Option (List Int))).getD []).length:Int)==(0:Int)) ((0=0/\v6.2.2.1.length=v6.2.2.1.length)/\(0=0/\v6.2.2.2.1.length=v6.2.2.2.1.length)/\P ((v6.2.2.2.2.1,v6.2.2.1,v6.2.2.2.1,v6.1,v6.2.1,()),())) (∃(y9:List Int),Ff.fn (((v6.2.2.1.getD (0+v6.2.1.toNat) []).getD y8.toNat (none:Option (List Int))).getD [],())=some y9/\ ∃(Ly:List Int),Mq.fn (v6.1,y9,())=some Ly/\0=0/\v6.2.2.1.length=v6.2.2.1.length/\0=0/\v6.2.2.2.1.length=v6.2.2.2.1.length/\k7 (Ly,IntKind.i64.wrap (v6.2.1+(1:Int)),v6.2.2.1,v6.2.2.2.1,v6.2.2.2.2.1,()))) ((0=0/\v6.2.2.1.length=v6.2.2.1.length)/\(0=0/\v6.2.2.2.1.length=v6.2.2.2.1.length)/\P ((v6.2.2.2.2.1,v6.2.2.1,v6.2.2.2.1,v6.1,v6.2.2.2.2.1,()),()))) (p,l,T,G,n,PUnit.unit))=fnMW Xh (look [(76,Ff),(156,Mq)]) kH Tryz.f144 (n,T,G,l,p,()) P:=by kernel_rfl
abbrev DF:Type:=Int×List (Option (List Int))×List (List (Option (List Int)))×List (List (Option (List Int)))×Int×PUnit
abbrev Acn:Type:=(Int×List (List (Option (List Int)))×List (List (Option (List Int)))×List Int×Int×PUnit)×PUnit
abbrev Lc (y7:Acn) (l:Int) (p:Option (List Int)) (n:Int):Prop:=0=0/\(y7.1.2.2.1.getD (0+l.toNat) []).length=(y7.1.2.2.1.getD (0+l.toNat) []).length/\(y7.1.2.2.1.getD (0+l.toNat) []).length+(List.take 1 (List.drop 0 [p])).length<=Cq/\((0:Int)<=l/\l<(↑y7.1.2.2.1.length:Int))/\0=0/\(y7.1.2.2.1.getD (0+l.toNat) []++List.take 1 (List.drop 0 [p])).length=(y7.1.2.2.1.getD (0+l.toNat) []++List.take 1 (List.drop 0 [p])).length/\0+l.toNat=0+l.toNat/\ [(0,y7.1.2.2.1.length),(0,y7.1.2.2.1.length),(0,y7.1.2.1.length),(0,y7.1.2.2.1.length)]= [(0,y7.1.2.2.1.length),(0,y7.1.2.2.1.length),(0,y7.1.2.1.length),(0,y7.1.2.2.1.length)]/\(l,p,y7.1.2.2.2.1,y7.1.2.2.2.2.1,l,n,decide (l>=n),l,p,y7.1.2.2.2.1,y7.1.2.2.2.2.1,y7.1.2.2.2.2.1,y7.1.1,y7.1.2.2.2.2.1==y7.1.1,l,l,0+l.toNat,p,List.take 1 (List.drop 0 [p]),0+l.toNat,y7.1.2.1,y7.1.2.2.1.set (0+l.toNat) (y7.1.2.2.1.getD (0+l.toNat) []++List.take 1 (List.drop 0 [p])),y7.1.1,())=(l,p,y7.1.2.2.2.1,y7.1.2.2.2.2.1,l,n,decide (l>=n),l,p,y7.1.2.2.2.1,y7.1.2.2.2.2.1,y7.1.2.2.2.2.1,y7.1.1,y7.1.2.2.2.2.1==y7.1.1,l,l,0+l.toNat,p,List.take 1 (List.drop 0 [p]),0+l.toNat,y7.1.2.1,y7.1.2.2.1.set (0+l.toNat) (y7.1.2.2.1.getD (0+l.toNat) []++List.take 1 (List.drop 0 [p])),y7.1.1,PUnit.unit)
theorem Apw {m:Nat} (n:Int) (T G:List (List (Option (List Int)))) (l:Int) (p:Option (List Int)) (P:(Int×List (List (Option (List Int)))×List (List (Option (List Int)))×Unit)×Unit->Prop):(Br (decide (l>=n)) ((0=0/\T.length=T.length)/\(0=0/\G.length=G.length)/\P ((n,T,G,()),())) (0=0/\T.length=T.length/\0=0/\G.length=G.length/\ ∃(y7:Acn),kH.fn (n,T,G,l,p.getD [],())=some y7/\Br (y7.1.2.2.2.2.1==y7.1.1) ((0=0/\y7.1.2.1.length=y7.1.2.1.length)/\(0=0/\y7.1.2.2.1.length=y7.1.2.2.1.length)/\P ((y7.1.1,y7.1.2.1,y7.1.2.2.1,()),())) (((0:Int)<=l/\l<(↑y7.1.2.2.1.length:Int))/\0=0/\(y7.1.2.2.1.getD (0+l.toNat) []).length=(y7.1.2.2.1.getD (0+l.toNat) []).length/\(y7.1.2.2.1.getD (0+l.toNat) []).length+(List.take 1 (List.drop 0 [p])).length<=Cq/\((0:Int)<=l/\l<(↑y7.1.2.2.1.length:Int))/\0=0/\(y7.1.2.2.1.getD (0+l.toNat) []++List.take 1 (List.drop 0 [p])).length=(y7.1.2.2.1.getD (0+l.toNat) []++List.take 1 (List.drop 0 [p])).length/\0+l.toNat=0+l.toNat/\(0=0/\0=([]:List Int).length/\0=0/\y7.1.2.1.length=y7.1.2.1.length/\0=0/\y7.1.2.2.1.length=(y7.1.2.2.1.set (0+l.toNat) (y7.1.2.2.1.getD (0+l.toNat) []++List.take 1 (List.drop 0 [p]))).length/\Cz (λ(v8:DF) (k9:DF->Prop)=>Br (decide (v8.1<v8.2.2.2.2.1)) (((0:Int)<=l/\l<(↑v8.2.2.1.length:Int))/\((0:Int)<=v8.1/\v8.1<(↑(v8.2.2.1.getD (0+l.toNat) []).length:Int))/\Br (decide ((↑(((v8.2.2.1.getD (0+l.toNat) []).getD v8.1.toNat (none:Option (List Int))).getD []).length:Int)>(0:Int))) (((0:Int)<=l/\l<(↑v8.2.2.1.length:Int))/\((0:Int)<=v8.1/\v8.1<(↑(v8.2.2.1.getD (0+l.toNat) []).length:Int))/\0=0/\v8.2.1.length=v8.2.1.length/\v8.2.1.length+(List.take 1 (List.drop 0 [(v8.2.2.1.getD (0+l.toNat) []).getD v8.1.toNat none])).length<=Cq/\0=0/\(v8.2.1++List.take 1 (List.drop 0 [(v8.2.2.1.getD (0+l.toNat) []).getD v8.1.toNat none])).length=(v8.2.1++List.take 1 (List.drop 0 [(v8.2.2.1.getD (0+l.toNat) []).getD v8.1.toNat none])).length/\0=0/\v8.2.2.1.length=v8.2.2.1.length/\0=0/\v8.2.2.2.1.length=v8.2.2.2.1.length/\k9 (IntKind.i64.wrap (v8.1+(1:Int)),v8.2.1++List.take 1 (List.drop 0 [(v8.2.2.1.getD (0+l.toNat) []).getD v8.1.toNat none]),v8.2.2.1,v8.2.2.2.1,v8.2.2.2.2.1,())) (0=0/\v8.2.1.length=v8.2.1.length/\0=0/\v8.2.2.1.length=v8.2.2.1.length/\0=0/\v8.2.2.2.1.length=v8.2.2.2.1.length/\k9 (IntKind.i64.wrap (v8.1+(1:Int)),v8.2.1,v8.2.2.1,v8.2.2.2.1,v8.2.2.2.2.1,()))) (0=0/\v8.2.1.length=v8.2.1.length/\0=0/\v8.2.2.1.length=v8.2.2.1.length/\0=0/\v8.2.2.2.1.length=v8.2.2.2.1.length/\Cz (λ(v10:DF) (k11:DF->Prop)=>Br (decide (v10.1<(↑v10.2.1.length:Int))) (((0:Int)<=v10.1/\v10.1<(↑v10.2.1.length:Int))/\ ∃(dN:Option (List Int)),v10.2.1[0+v10.1.toNat]?=some dN/\ ∃(Lg:Option (List Int)),Jq.fn (dN.getD [],p.getD [],())=some Lg/\0=0/\v10.2.2.1.length=v10.2.2.1.length/\0=0/\v10.2.2.2.1.length=v10.2.2.2.1.length/\ ∃(Ji:(Int×List (List (Option (List Int)))×List (List (Option (List Int)))×PUnit)×PUnit),(eD m).fn (v10.2.2.2.2.1,v10.2.2.1,v10.2.2.2.1,l,Lg,())=some Ji/\0=0/\v10.2.1.length=v10.2.1.length/\0=0/\Ji.1.2.1.length=Ji.1.2.1.length/\0=0/\Ji.1.2.2.1.length=Ji.1.2.2.1.length/\k11 (IntKind.i64.wrap (v10.1+(1:Int)),v10.2.1,Ji.1.2.1,Ji.1.2.2.1,Ji.1.1,())) ((0=0/\v10.2.2.1.length=v10.2.2.1.length)/\(0=0/\v10.2.2.2.1.length=v10.2.2.2.1.length)/\P ((v10.2.2.2.2.1,v10.2.2.1,v10.2.2.2.1,()),()))) ((0:Int),v8.2.1,v8.2.2.1,v8.2.2.2.1,v8.2.2.2.2.1,PUnit.unit))) ((0:Int),[],y7.1.2.1,y7.1.2.2.1.set (0+l.toNat) (y7.1.2.2.1.getD (0+l.toNat) []++List.take 1 (List.drop 0 [p])),y7.1.1,PUnit.unit))/\(((((0:Int)<=l/\l<(↑y7.1.2.2.1.length:Int))/\((Lc y7 l p n))/\(Lc y7 l p n))/\((0:Int)<=l/\l<(↑y7.1.2.2.1.length:Int))/\(Lc y7 l p n))/\((0:Int)<=l/\l<(↑y7.1.2.2.1.length:Int))/\(Lc y7 l p n))/\(((((0:Int)<=l/\l<(↑y7.1.2.2.1.length:Int))/\((Lc y7 l p n))/\(Lc y7 l p n))/\((0:Int)<=l/\l<(↑y7.1.2.2.1.length:Int))/\(Lc y7 l p n))/\(((0:Int)<=l/\l<(↑y7.1.2.2.1.length:Int))/\(((Lc y7 l p n))/\(Lc y7 l p n))/\(((Lc y7 l p n))/\((Lc y7 l p n))/\(Lc y7 l p n))/\((Lc y7 l p n))/\((Lc y7 l p n))/\(Lc y7 l p n))/\(((0:Int)<=l/\l<(↑y7.1.2.2.1.length:Int))/\(Lc y7 l p n))/\((0:Int)<=l/\l<(↑y7.1.2.2.1.length:Int))/\((Lc y7 l p n))/\((Lc y7 l p n))/\(Lc y7 l p n))/\(((0:Int)<=l/\l<(↑y7.1.2.2.1.length:Int))/\(Lc y7 l p n))/\(((0:Int)<=l/\l<(↑y7.1.2.2.1.length:Int))/\(Lc y7 l p n))/\((0:Int)<=l/\l<(↑y7.1.2.2.1.length:Int))/\((Lc y7 l p n))/\((Lc y7 l p n))/\(Lc y7 l p n))))=fnMW (Acx [jV+46]) (look [(144,kH),(156,Jq),(157,Pf.m (eD m))]) (oh (m+1)) Tryz.f146 (n,T,G,l,p,()) P:=by kernel_rfl
abbrev Acl:Type:=(Int×List (List (Option (List Int)))×List (List (Option (List Int)))×PUnit)×PUnit
abbrev Aco:Type:=Int×List (List (Option (List Int)))×List (List (Option (List Int)))×Int×PUnit
theorem Apx {m:Nat} (n:Int) (T G:List (List (Option (List Int)))) (l:Int) (p:Option (List Int)) (P:(Int×List (List (Option (List Int)))×List (List (Option (List Int)))×Unit)×Unit->Prop):(((0:Int)<=l/\l<(↑T.length:Int))/\ ∃(y7:Int),idx (p.getD []) l=some y7/\((0:Int)<=y7/\y7<(↑(T.getD (0+l.toNat) []).length:Int))/\Br (decide ((↑(((T.getD (0+l.toNat) []).getD y7.toNat (none:Option (List Int))).getD []).length:Int)>(0:Int))) (∃(y8:List Int),Ff.fn (((T.getD (0+l.toNat) []).getD y7.toNat (none:Option (List Int))).getD [],())=some y8/\ ∃(y9:Option (List Int)),Jq.fn (p.getD [],y8,())=some y9/\0=0/\T.length=T.length/\0=0/\G.length=G.length/\ ∃(Ly:Acl),(oh m).fn (n,T,G,IntKind.i64.wrap (l+(1:Int)),y9,())=some Ly/\(0=0/\Ly.1.2.1.length=Ly.1.2.1.length)/\(0=0/\Ly.1.2.2.1.length=Ly.1.2.2.1.length)/\P ((Ly.1.1,Ly.1.2.1,Ly.1.2.2.1,()),())) (((0:Int)<=l/\l<(↑T.length:Int))/\ ∃(y8:Int),idx (p.getD []) l=some y8/\((0:Int)<=y8/\y8<(↑(T.getD (0+l.toNat) []).length:Int))/\0=0/\T.length=(T.set (0+l.toNat) ((T.getD (0+l.toNat) []).set y8.toNat p)).length/\0=0/\G.length=G.length/\Cz (λ(v9:Aco) (k10:Aco->Prop)=>((0:Int)<=l/\l<(↑v9.2.2.1.length:Int))/\Br (decide (v9.1<(↑(v9.2.2.1.getD (0+l.toNat) []).length:Int))) (((0:Int)<=l/\l<(↑v9.2.2.1.length:Int))/\((0:Int)<=v9.1/\v9.1<(↑(v9.2.2.1.getD (0+l.toNat) []).length:Int))/\ ∃(bu:Option (List Int)),Jq.fn (p.getD [],((v9.2.2.1.getD (0+l.toNat) []).getD v9.1.toNat (none:Option (List Int))).getD [],())=some bu/\0=0/\v9.2.1.length=v9.2.1.length/\0=0/\v9.2.2.1.length=v9.2.2.1.length/\ ∃(dN:Acl),(eD m).fn (v9.2.2.2.1,v9.2.1,v9.2.2.1,l,bu,())=some dN/\0=0/\dN.1.2.1.length=dN.1.2.1.length/\0=0/\dN.1.2.2.1.length=dN.1.2.2.1.length/\k10 (IntKind.i64.wrap (v9.1+(1:Int)),dN.1.2.1,dN.1.2.2.1,dN.1.1,())) ((0=0/\v9.2.1.length=v9.2.1.length)/\(0=0/\v9.2.2.1.length=v9.2.2.1.length)/\P ((v9.2.2.2.1,v9.2.1,v9.2.2.1,()),()))) ((0:Int),T.set (0+l.toNat) ((T.getD (0+l.toNat) []).set y8.toNat p),G,n,PUnit.unit)))=fnMW Xh (look [(76,Ff),(156,Jq),(146,Pf.m (oh m)),(157,Pf.m (eD m))]) (eD (m+1)) Tryz.f157 (n,T,G,l,p,()) P:=by kernel_rfl
theorem UH {p q:List Int} {j:Nat} (h:j<p.length):(Al p q).take (j+1)=(Al p q).take j++ [Nq q p[j]]:=by
 unfold Al
 rw [Ay (by rw [Dj];exact h),Sx]
theorem xk (p q:List Int) (h:List.length p<=20/\Mm (List.length q) p):fnW Ej (look []) Nl Tryz.f156 (p,q,()) (λ(z:List Int)=>z=Al p q):=by
 obtain ⟨h1,h2⟩:=h
 refine Eq.mp (xY p q _) ⟨rfl,rfl,?_⟩
 refine Bf p.length (λv=>v.1) (λj v=>v=((j:Int),(Al p q).take j,())) rfl rfl ?_
 rintro j v K hj hi rfl hK
 dsimp only
 have hlen:((Al p q).take j).length<=20:=by rw [De];unfold Al;rw [Dj];omega
 refine Br.dec (λhl=>?_) λhl=>?_
 ·have hl:j<p.length:=by omega
  have hr:=h2 p[j] (Aj hl)
  refine ⟨_,Bq hl,Nq q p[j],j4 hr.1 hr.2,rfl,rfl,?_,rfl,rfl,?_⟩
  ·show ((Al p q).take j).length+1<=4294967296
   omega
  ·rw [Bh (by omega)]
   refine hK hl _ rfl ?_
   rw [UH hl]
   rfl
 ·have:j=p.length:=by omega
  subst this
  rw [Bx,<-Pj p q,Ap]
theorem df:Sound Tryz.prog 156 Nl:=
 Sound.En Db Bg mixed Tryz.func156 (by kernel_rfl) (by kernel_rfl) λx h=>xk x.1 x.2.1 h
theorem cp:Sound Tryz.prog 156 Mq:=Sound.loose df
theorem cq:Sound Tryz.prog 156 Jq:=Sound.toO df λx h=>⟨⟨h.1.2,h.2⟩,λe=>by
 have:=Pj x.1 x.2.1
 rw [e] at this
 have:=h.1.1
 simp only [Gd] at*
 omega⟩
theorem zk {N L i:Nat} {G T:Co} {p:List Int} (n2:N<=20) (v3:kO N (N-L) L (G,T)) (v2:T.length=N) (h1:L<=i) (hl:i<N) (h4:Pm N p) (h5:Fx i p):
  ∃o,idx p (i:Int)=some (ap p i:Int)/\T[i]?=some (T.getD i [])/\ap p i<(T.getD i []).length/\(T.getD i [])[ap p i]?=some o/\(T.getD i []).getD (ap p i) none=o/\
   (o=none->(o.getD []).length=0/\ ∀k,Of T (k+1) i p=(p,(i:Int),()))/\
   (∀t,o=some t->(t.length≠0/\t.length<=20/\Mm t.length t)/\(p.length<=20/\Mm (Bk t).length p)/\Pm N (Al p (Bk t))/\Fx (i+1) (Al p (Bk t))/\ ∀k,Of T (k+1) i p=Of T k (i+1) (Al p (Bk t))):=by
 have Kq:=tN (N-L) L v3 i h1 (by omega)
 have hT:i<T.length:=by omega
 have hlen:(T.getD i []).length=N:=Kq.rl
 obtain ⟨a1,a2⟩:=h4.aT hl
 have hg:(Nq p (i:Int)).toNat=ap p i:=rfl
 refine ⟨(T.getD i []).getD (ap p i) none,?_,?_,by omega,?_,rfl,λho=>?_,λt ho=>?_⟩
 ·rw [<-a1,Mk (by rw [h4.1];exact hl)];exact Bq (by rw [h4.1];exact hl)
 ·rw [Ak,Ac hT];rfl
 ·rw [Ak (l:=T.getD i []),Ac (by omega)];rfl
 ·refine ⟨by rw [ho];rfl,λk=>?_⟩
  simp only [Of,hg,ho]
 ·obtain ⟨t1,t2,t3,t4⟩:=Kq.rt _ _ ho
  have hn1:=h4.n1
  refine ⟨⟨by rw [t1.1];omega,by rw [t1.1];exact n2,t1.2.row⟩,⟨by rw [h4.1];exact n2,by rw [nO,t1.1];exact h4.row⟩,h4.comp t1.inv,Fx.div h4 t1 h5 t2 hl t3,λk=>?_⟩
  simp only [Of,hg,ho]
theorem Akz (c:Int×List (List (Option (List Int)))×List (List (Option (List Int)))×Unit) (l:Int) (p:List Int) (h: ∃N L,Vy N L c.1 c.2.2.1 c.2.1 l p):
  fnW Xh (look [(76,Ff),(156,Mq)]) q9 Tryz.f144 (c,l,p,()) (λ(z:List Int×Int×Unit)=>z=Of c.2.1 (c.1-l).toNat l.toNat p):=by
 obtain ⟨n,T,G,⟨⟩⟩:=c
 obtain ⟨N,L,h⟩:=h
 obtain ⟨n1,n2,en,el,hle,v,pm,fx⟩:=h
 dsimp only at en el v⊢
 subst en el
 refine Eq.mp (Als ((N:Int),T,G,()) (L:Int) p _) ?_
 obtain ⟨v1,v2,v3,v4⟩:=v
 dsimp only at v1 v2
 refine ⟨λv=> ∃i:Nat,L<=i/\i<=N/\v.2.1=i/\Pm N v.1/\Fx i v.1/\Of T (N-i) i v.1=Of T (N-L) L p,λv=>N-v.2.1.toNat,⟨L,Ao _,hle,rfl,pm,fx,rfl⟩,?_⟩
 rintro ⟨p',i',⟨⟩⟩ ⟨i,h1,h2,h3,h4,h5,h6⟩
 dsimp only at h3 h4 h5 h6⊢
 subst h3
 rw [show (((N:Int)-(L:Int)).toNat)=N-L by omega,show ((L:Int)).toNat=L by omega,<-h6]
 refine Br.dec (λhl=>?_) λhl=>?_
 ·have hl:i<N:=by omega
  obtain ⟨o,s1,s2,s3,s4,s5,s6,s7⟩:=zk n2 v3 v2 h1 hl h4 h5
  have hT:i<T.length:=by omega
  refine ⟨T.getD i [],by rw [Bq hT,<-s2,Ac hT],_,s1,o,by rw [Bq s3,<-s4,Ac s3],?_⟩
  rw [show N-i=(N-i-1)+1 by omega]
  cases o with
  |none=>
   rw [(s6 rfl).2]
   exact Br.of (λ_=>rfl) λhb=>by simp at hb
  |some t=>
   obtain ⟨⟨q1,q2⟩,q3,q4,q5,q6⟩:=s7 t rfl
   refine Br.of (λhb=>absurd (by simpa using hb) q1) λ_=>?_
   refine ⟨_,Ab q2,_,Ab q3,⟨i+1,by omega,by omega,Bh (by omega),q4,q5,?_⟩,?_⟩
   ·rw [q6,show N-(i+1)=N-i-1 by omega];rfl
   ·show N-(IntKind.i64.wrap ((i:Int)+1)).toNat<N-((i:Int)).toNat
    rw [Bh (by omega)]
    omega
 ·have:i=N:=by omega
  subst this
  rw [Nat.sub_self]
  rfl
theorem QI:Sound Tryz.prog 144 q9:=
 Sound.En mQ (Av Zr (Av cp Bg)) mixed Tryz.func144 (by kernel_rfl) (by kernel_rfl) λx h=>Akz x.1 x.2.1 x.2.2.1 h
theorem Afo (n:Int) (T G:List (List (Option (List Int)))) (l:Int) (p:List Int) (h: ∃N L,Vy N L n G T l p):
  fnMW Xh (look [(76,Ff),(156,Mq)]) kH Tryz.f144 (n,T,G,l,p,()) (λ(z:(Int×List (List (Option (List Int)))×List (List (Option (List Int)))×List Int×Int×Unit)×Unit)=>z=((n,T,G,(Of T (n-l).toNat l.toNat p).1,(Of T (n-l).toNat l.toNat p).2.1,()),())):=by
 obtain ⟨N,L,h⟩:=h
 obtain ⟨n1,n2,en,el,hle,v,pm,fx⟩:=h
 subst en el
 refine Eq.mp (Agg (N:Int) T G (L:Int) p _) ⟨rfl,rfl,rfl,rfl,?_⟩
 obtain ⟨v1,v2,v3,v4⟩:=v
 dsimp only at v1 v2
 refine ⟨λv=> ∃i:Nat,L<=i/\i<=N/\v.2=((i:Int),T,G,(N:Int),())/\Pm N v.1/\Fx i v.1/\Of T (N-i) i v.1=Of T (N-L) L p,λv=>N-v.2.1.toNat,⟨L,Ao _,hle,rfl,pm,fx,rfl⟩,?_⟩
 rintro ⟨p',v'⟩ ⟨i,h1,h2,h3,h4,h5,h6⟩
 dsimp only at h3 h4 h5 h6⊢
 subst h3
 dsimp only
 rw [show (((N:Int)-(L:Int)).toNat)=N-L by omega,show ((L:Int)).toNat=L by omega,<-h6]
 refine Br.dec (λhl=>?_) λhl=>?_
 ·have hl:i<N:=by omega
  obtain ⟨o,s1,s2,s3,s4,s5,s6,s7⟩:=zk n2 v3 v2 h1 hl h4 h5
  simp only [Ai,Bv,true_and,Ol]
  refine ⟨⟨by omega,by omega⟩,_,s1,⟨by omega,by omega⟩,?_⟩
  rw [Ai,s5,show N-i=(N-i-1)+1 by omega]
  cases o with
  |none=>
   rw [(s6 rfl).2]
   exact Br.of (λ_=>rfl) λhb=>by simp at hb
  |some t=>
   obtain ⟨⟨q1,q2⟩,q3,q4,q5,q6⟩:=s7 t rfl
   refine Br.of (λhb=>absurd (by simpa using hb) q1) λ_=>?_
   refine ⟨_,Ab q2,_,Ab q3,⟨i+1,by omega,by omega,?_,q4,q5,?_⟩,?_⟩
   ·rw [Bh (by omega)]
   ·rw [q6,show N-(i+1)=N-i-1 by omega];rfl
   ·show N-(IntKind.i64.wrap ((i:Int)+1)).toNat<N-i-1+1
    rw [Bh (by omega)]
    omega
 ·have:i=N:=by omega
  subst this
  rw [Nat.sub_self]
  exact ⟨⟨rfl,rfl⟩,⟨rfl,rfl⟩,rfl⟩
theorem JN:Ca Tryz.prog 144 kH:=
 Ca.ky mQ (Av Zr (Av cp Bg)) mixed Tryz.func144 (by kernel_rfl) (by kernel_rfl) λx h=>Afo x.1 x.2.1 x.2.2.1 x.2.2.2.1 x.2.2.2.2.1 h
theorem Ap8 {m:Nat} (n:Int) (T G:List (List (Option (List Int)))) (l:Int) (p:Option (List Int)) (h:(∃N L q,p=some q/\Agk N L n G T l q)/\mV n.toNat l.toNat (G,T)<m+1):
  fnMW Xh (look [(76,Ff),(156,Jq),(146,Pf.m (oh m)),(157,Pf.m (eD m))]) (eD (m+1)) Tryz.f157 (n,T,G,l,p,()) (λ(z:(Int×List (List (Option (List Int)))×List (List (Option (List Int)))×Unit)×Unit)=>z=((n,(gm n.toNat 1000 l.toNat (p.getD []) (G,T)).2,(gm n.toNat 1000 l.toNat (p.getD []) (G,T)).1,()),())):=by
 obtain ⟨⟨N,L,q,rfl,h⟩,hm⟩:=h
 obtain ⟨n1,n2,en,el,It,part,pm,fx,gn,gl⟩:=h
 subst en el
 refine Eq.mp (Apx (N:Int) T G (L:Int) (some q) _) ?_
 have l1:G.length=N:=part.l1
 have l2:T.length=N:=part.l2
 have row:=part.row
 dsimp only at row
 have hrl:=row.rl
 have hy:=pm.lt It
 simp only [Ai,Bv,Bz,true_and,Ol,Bi] at hm⊢
 refine ⟨⟨by omega,by omega⟩,_,AI pm It,⟨by omega,by omega⟩,?_⟩
 simp only [Ai]
 rcases Option.eq_none_or_eq_some ((T.getD L []).getD (ap q L) none) with Kq|⟨t,Kq⟩
 case inr=>
  obtain ⟨t1,t2,t3,t4⟩:=row.rt _ _ Kq
  have htl:=t1.1
  refine Br.dec (λ_=>?_) λhb=>?_
  ·rw [Kq,Bz]
   have hw:IntKind.i64.wrap ((L:Int)+1)=((L+1:Nat):Int):=Bh (by omega)
   rw [hw]
   have hmu:=Abl (s:=(G,T)) It
   refine ⟨_,Ab ⟨by show t.length<=20;omega,t1.2.row⟩,some (Al q (Bk t)),Ab ⟨Xu pm,pV pm t1.inv⟩,_,
    Ab ⟨⟨N,L+1,_,rfl,n1,n2,rfl,rfl,by omega,part.v,pm.comp t1.inv,Fx.div pm t1 fx t2 It t3⟩,by show TF (N:Int).toNat ((L+1:Nat):Int).toNat<m;rw [Ai,Ai];omega⟩,?_⟩
   simp only [Ai,Bz]
   rw [ZI n1 n2 It part pm fx Kq]
  ·rw [Kq,Bz] at hb
   omega
 case inl=>
  refine Br.dec (λhb=>by rw [Kq] at hb;simp at hb) λ_=>?_
  obtain ⟨a1,a2⟩:=EL It part pm fx gn Kq
  have si:=ZH n1 n2 It part pm fx gn Kq
  have hmu:=Afa (n:=N) (q:=q) (s:=(G,T)) (k:=L) (y:=ap q L) (by show L<T.length;omega) (by show ap q L<(T.getD L []).length;omega) Kq
  have run:= λj=>yt n1 n2 It a1 a2 j
  dsimp only at a1 a2 si hmu run
  refine ⟨⟨by omega,by omega⟩,_,AI pm It,⟨by omega,by omega⟩,?_⟩
  simp only [Ai]
  rw [si]
  generalize hs0:((G,T.set L ((T.getD L []).set (ap q L) (some q))):Co×Co)=s0 at hmu run⊢
  have Ak0:T.set L ((T.getD L []).set (ap q L) (some q))=s0.2:=by rw [<-hs0]
  have Aao:G=s0.1:=by rw [<-hs0]
  have hql:((G.getD L []).map λo=>Al q (o.getD [])).length=(G.getD L []).length:=Dj _
  refine Bf (G.getD L []).length (λv=>v.1) (λj v=> ∃s:Co×Co,v=((j:Int),s.2,s.1,(N:Int),())/\s=iL N L (((G.getD L []).map λo=>Al q (o.getD [])).take j) s0) rfl ⟨s0,by rw [<-Aao,Ak0];rfl,rfl⟩ ?_
  rintro j v K hj hi ⟨s,rfl,hs⟩ hK
  have hr:=run j
  rw [<-hs] at hr
  have g1:s.1.getD L []=G.getD L []:=by rw [hr.same,Aao]
  have g2:s.1.length=N:=hr.part.l1
  have g4:mV N L (s.1,s.2)<=mV N L s0:=hr.mu
  dsimp only
  simp only [g1]
  refine ⟨⟨by omega,by omega⟩,Br.dec (λhl=>?_) λhl=>?_⟩
  ·have hl:j<(G.getD L []).length:=by omega
   obtain ⟨g,oZ,Tr,hgf⟩:=part.pg _ (Aj hl)
   have hgj:(G.getD L []).getD j none=some g:=by rw [FY hl];exact oZ
   have hqj:(((G.getD L []).map λo=>Al q (o.getD []))[j]'(by rw [hql];exact hl))=Al q g:=by rw [Sx,oZ];rfl
   obtain ⟨b1,b2,b3⟩:=a2 (Al q g) (by rw [<-hqj];exact Aj _)
   simp only [Ai,hgj,Bz]
   refine ⟨⟨by omega,by omega⟩,⟨by omega,by omega⟩,some (Al q g),Ab ⟨Xu pm,pV pm Tr⟩,_,
    Ab ⟨⟨N,L,_,rfl,n1,n2,rfl,rfl,It,hr.part,b1,b2,by rw [g1];exact b3,by rw [g1];exact gl⟩,by show mV (N:Int).toNat (L:Int).toNat (s.1,s.2)<m;rw [Ai,Ai];omega⟩,?_⟩
   simp only [Ai,Bz]
   rw [Bh (by omega)]
   refine hK hl _ rfl ⟨_,rfl,?_⟩
   rw [u5 (by rw [hql];exact hl),<-hs,hqj]
  ·have:j=(G.getD L []).length:=by omega
   subst this
   rw [<-hql,Ap] at hs
   rw [hs]
theorem Ach {m:Nat} (Aka:Ca Tryz.prog 146 (oh m)) (NK:Ca Tryz.prog 157 (eD m)):Ca Tryz.prog 157 (eD (m+1)):=
 Ca.ky mQ (Av Zr (Av cq (Ep Aka (Ep NK Bg)))) mixed Tryz.func157 (by kernel_rfl) (by kernel_rfl) λx h=>Ap8 x.1 x.2.1 x.2.2.1 x.2.2.2.1 x.2.2.2.2.1 h
theorem Ap7 {m:Nat} (n:Int) (T G:List (List (Option (List Int)))) (l:Int) (p:Option (List Int)) (h:(∃N L q,p=some q/\Vy N L n G T l q)/\TF n.toNat l.toNat<m+1):
  fnMW (Acx [jV+46]) (look [(144,kH),(156,Jq),(157,Pf.m (eD m))]) (oh (m+1)) Tryz.f146 (n,T,G,l,p,()) (λ(z:(Int×List (List (Option (List Int)))×List (List (Option (List Int)))×Unit)×Unit)=>z=((n,(kP n.toNat 1000 l.toNat (p.getD []) (G,T)).2,(kP n.toNat 1000 l.toNat (p.getD []) (G,T)).1,()),())):=by
 obtain ⟨⟨N,L,q,rfl,h⟩,hm⟩:=h
 have h':=h
 obtain ⟨n1,n2,en,el,hle,v,pm,fx⟩:=h
 subst en el
 have hk:((N:Int)-(L:Int)).toNat=N-L:=by omega
 have back: ∀s:Co×Co,kP N 1000 L q (G,T)=s->((((N:Int),s.2,s.1,()),()):(Int×Co×Co×Unit)×Unit)=((((N:Int),(kP N 1000 L q (G,T)).2,(kP N 1000 L q (G,T)).1,()),()):(Int×Co×Co×Unit)×Unit):= λs e=>by rw [e]
 refine Eq.mp (Apw (N:Int) T G (L:Int) (some q) _) ?_
 simp only [Ai,Bv,Bz,true_and,Ol] at hm⊢
 refine Br.dec (λoZ=>?_) λIt=>?_
 ·exact back (G,T) (RP (by rw [show N-L=0 by omega];rfl))
 have It:L<N:=by omega
 have hv:=v
 obtain ⟨v1,v2,v3,v4⟩:=v
 dsimp only at v1 v2
 have hsl:(Of T (N-L) L q).2.1=(N:Int)↔Hy T (N-L) L q=true:=by
  have:=vH (T:=T) (N-L) L q
  rw [show L+(N-L)=N by omega] at this
  exact this
 refine ⟨_,Ab ⟨N,L,h'⟩,?_⟩
 simp only [Lc]
 simp only [hk,Ai]
 refine Br.of (λhh=>?_) λhh=>?_
 ·exact back (G,T) (RP (hsl.1 (eq_of_beq hh)))
 have hno: ¬Hy T (N-L) L q=true:= λhc=>by rw [hsl.2 hc] at hh;simp at hh
 have lu:=ZG n1 n2 (s:=(G,T)) It hv pm fx hno
 obtain ⟨a1,a2⟩:=EK n1 n2 (s:=(G,T)) It hv pm fx
 have hgl:(G.getD L []).length<=400:=by
  obtain ⟨k,hk1⟩: ∃k,N-L=k+1:=⟨N-L-1,by omega⟩
  rw [hk1] at hv
  exact SD n2 (by omega) hv
 have e1:(0:Int)<=(L:Int)/\(L:Int)<(G.length:Int):=by omega
 have e2:(G.getD L []).length+1<=Cq:=by show _<=4294967296;omega
 have row:=a1.row
 dsimp only at row a1 a2 lu
 have hrl:=row.rl
 have run:= λj=>yt n1 n2 It a1 a2 j
 have hmu:=OD a1
 simp only [Dn,List.take_succ_cons,List.take_zero,Az,Gd,Bi,Bv,e1,e2,and_self,true_and,Ol]
 have hG1:(G.set L (G.getD L []++ [some q])).getD L []=G.getD L []++ [some q]:=dw G L (by omega) _
 generalize hs0:((G.set L (G.getD L []++ [some q]),T):Co×Co)=s0 at hmu run lu⊢
 have Aao:G.set L (G.getD L []++ [some q])=s0.1:=by rw [<-hs0]
 have Ak0:T=s0.2:=by rw [<-hs0]
 refine Bf N (λv=>v.1) (λy v=>v=((y:Int),(known ((T.getD L []).take y)).map some,T,G.set L (G.getD L []++ [some q]),(N:Int),())) rfl rfl ?_
 rintro y v K hj hi rfl hK
 dsimp only
 refine Br.dec (λhl=>?_) λhl=>?_
 ·have hl:y<N:=by omega
  have hy:y<(T.getD L []).length:=by omega
  have hkt:=NV hy
  have Se:=yO ((T.getD L []).take y)
  rw [De] at Se
  have hye:(T.getD L []).getD y none=(T.getD L [])[y]:=FY hy
  simp only [Ai]
  refine ⟨by omega,⟨by omega,by omega⟩,?_⟩
  rcases Option.eq_none_or_eq_some ((T.getD L []).getD y none) with ho|⟨t,ho⟩
  ·refine Br.dec (λhb=>by rw [ho] at hb;simp at hb) λ_=>?_
   rw [Bh (by omega)]
   refine hK hl _ rfl ?_
   rw [hkt,<-hye,ho]
   simp
  ·obtain ⟨t1,t2,t3,t4⟩:=row.rt _ _ ho
   have htl:=t1.1
   refine Br.dec (λ_=>?_) λhb=>by rw [ho,Bz] at hb;omega
   refine ⟨by omega,⟨by omega,by omega⟩,?_,?_⟩
   ·show _<=4294967296
    rw [Dj];omega
   ·rw [Bh (by omega)]
    refine hK hl _ rfl ?_
    rw [hkt,<-hye,ho]
    simp
 ·have:y=N:=by omega
  subst this
  have hkn:(T.getD L []).take y=T.getD L []:=aK (by omega)
  rw [hkn]
  have hql:((known (T.getD L [])).map λu=>Al u q).length=(known (T.getD L [])).length:=Dj _
  have Se:=yO (T.getD L [])
  refine Bf (known (T.getD L [])).length (λv=>v.1) (λj v=> ∃s:Co×Co,v=((j:Int),(known (T.getD L [])).map some,s.2,s.1,(y:Int),())/\s=iL y L (((known (T.getD L [])).map λu=>Al u q).take j) s0) rfl ⟨s0,by rw [<-Ak0,Aao];rfl,rfl⟩ ?_
  rintro j v K' sd nK ⟨s,rfl,hs⟩ hK'
  have hr:=run j
  rw [<-hs] at hr
  have g1:s.1.getD L []=G.getD L []++ [some q]:=by rw [hr.same,<-Aao];exact hG1
  have g4:mV y L (s.1,s.2)<=mV y L s0:=hr.mu
  dsimp only
  refine Br.dec (λKn=>?_) λKn=>?_
  ·rw [Dj] at Kn
   have Kn:j<(known (T.getD L [])).length:=by omega
   obtain ⟨w,hw⟩:=kx.1 (Aj Kn)
   obtain ⟨t1,t2,t3,t4⟩:=row.rt _ _ hw
   have hqj:(((known (T.getD L [])).map λu=>Al u q)[j]'(by rw [hql];exact Kn))=Al (known (T.getD L []))[j] q:=by rw [Sx]
   obtain ⟨b1,b2,b3⟩:=a2 (Al (known (T.getD L []))[j] q) (by rw [<-hqj];exact Aj _)
   simp only [Ai]
   refine ⟨⟨by omega,by rw [Dj];omega⟩,some (known (T.getD L []))[j],by rw [Fc,Ac Kn];rfl,some (Al (known (T.getD L []))[j] q),Ab ⟨Xu t1,pV t1 pm⟩,_,
    Ab ⟨⟨y,L,_,rfl,n1,n2,rfl,rfl,It,hr.part,b1,b2,by rw [g1,<-hG1];exact b3,by rw [g1,Ax,By];omega⟩,by show mV (y:Int).toNat (L:Int).toNat (s.1,s.2)<m;rw [Ai,Ai];omega⟩,?_⟩
   simp only [Ai,Bz]
   rw [Bh (by omega)]
   refine hK' Kn _ rfl ⟨_,rfl,?_⟩
   rw [u5 (by rw [hql];exact Kn),<-hs,hqj]
  ·rw [Dj] at Kn
   have:j=(known (T.getD L [])).length:=by omega
   subst this
   rw [<-hql,Ap] at hs
   exact back s (lu.trans hs.symm)
theorem Acg {m:Nat} (NK:Ca Tryz.prog 157 (eD m)):Ca Tryz.prog 146 (oh (m+1)):=
 Ca.ky (Ag5 [jV+46]) (Ep JN (Av cq (Ep NK Bg))) mixed Tryz.func146 (by kernel_rfl) (by kernel_rfl) λx h=>Ap7 x.1 x.2.1 x.2.2.1 x.2.2.2.1 x.2.2.2.2.1 h
theorem XA:Ca Tryz.prog 146 (oh 0)/\Ca Tryz.prog 157 (eD 0):=
 ⟨Ca.ky Db Bg mixed Tryz.func146 (by kernel_rfl) (by kernel_rfl) λ_ h=>absurd h.2 (Dq _),
  Ca.ky Db Bg mixed Tryz.func157 (by kernel_rfl) (by kernel_rfl) λ_ h=>absurd h.2 (Dq _)⟩
theorem kI: ∀m,Ca Tryz.prog 146 (oh m)/\Ca Tryz.prog 157 (eD m)
 |0=>XA
 |m+1=>⟨Acg (kI m).2,Ach (kI m).1 (kI m).2⟩
theorem PY:Ca Tryz.prog 146 CG:=Ca.Abo (λx=>TF x.1.toNat x.2.2.2.1.toNat) λm=>(kI m).1
noncomputable abbrev dc:Spec:=En (.pair tL .unit) tO false true (λx=>short x.1/\1<=List.length x.1) (λx=>some x.1)
noncomputable abbrev AN:MSpec:= {Jj:= [none],ins:= [(false, .Fm tI)],He:=false,Ih:= [none,none,none],outs:= [.Fm tI, .Bm tO wG false, .Bm tO wG false],fn:= λ_=>none,rp:=some 153}
noncomputable abbrev Sr:MSpec:=ky AN (λx=>1<=x.1/\x.1<=20) (λx=>((x.1,Ze x.1.toNat,Tk x.1.toNat,()),()))
noncomputable abbrev wV:MSpec:= {Jj:= [none,none],ins:= [(false, .Fm tI),(false, .Fm tLO)],He:=false,Ih:= [none,none,none],outs:= [.Fm tI, .Bm tO wG false, .Bm tO wG false],fn:= λ_=>none,rp:=some 153}
noncomputable abbrev dF:MSpec:=ky wV (λx=>(1<=x.1/\x.1<=20)/\List.length x.2.1<=4294967296/\ ∀o∈(x.2.1:List PO),∃g,o=some g/\Pm x.1.toNat g)
 (λx=>((x.1,(Px x.1.toNat x.2.1).2,(Px x.1.toNat x.2.1).1,()),()))
noncomputable abbrev wW:MSpec:= {Jj:= [none,none],ins:= [(false, .Fm tI),(false, .Fm dI)],He:=false,Ih:= [none,none,none],outs:= [.Fm tI, .Bm tO wG false, .Bm tO wG false],fn:= λ_=>none,rp:=some 153}
noncomputable abbrev Sq:MSpec:=ky wW (λx=>(1<=x.1/\x.1<=20)/\List.length x.2.1<=4294967296/\ ∀g∈(x.2.1:List (List Int)),Pm x.1.toNat g)
 (λx=>((x.1,(pj x.1 x.2.1).2,(pj x.1 x.2.1).1,()),()))
noncomputable abbrev Ym:Spec:=En (.pair (.ptr oQ) (.pair tL .unit)) .bool false true (λx=> ∃N,Vy N 0 x.1.1 x.1.2.2.1 x.1.2.1 0 x.2.1) (λx=>Hy x.1.2.1 x.1.1.toNat 0 x.2.1)
noncomputable def j9 (n:Int) (g:List (List Int)) (p:List Int):Bool:=(Ru n g&&Gl n p)&&Hy (pj n g).2 n.toNat 0 p
noncomputable abbrev Yr:Spec:=En (.pair tI (.pair dI (.pair tL .unit))) .bool false true (λx=>Hc x.2.1/\short x.2.2.1) (λx=>j9 x.1 x.2.1 x.2.2.1)
abbrev lL:Type:=Int×Int×List (List (Option (List Int)))×List (List (Option (List Int)))×PUnit
theorem DR (n:Int) (P:(Int×List (List (Option (List Int)))×List (List (Option (List Int)))×Unit)×Unit->Prop):(0=0/\0=([]:List Int).length/\0=0/\0=([]:List Int).length/\Cz (λ(v2:lL) (k3:lL->Prop)=>Br (decide (v2.1<n)) (((0:Int)<=n/\n<(↑Cq:Int)+(1:Int))/\n=n/\ ∃(y4:Option (List Int)),Pv.fn (n,())=some y4/\((0:Int)<=v2.1/\v2.1<(↑(List.replicate n.toNat (none:Option (List Int))).length:Int))/\0+v2.1.toNat<(List.replicate n.toNat (none:Option (List Int))).length/\0=0/\(List.replicate n.toNat (none:Option (List Int))).length=((List.replicate n.toNat (none:Option (List Int))).set (0+v2.1.toNat) y4).length/\(0=0/\v2.2.2.1.length=v2.2.2.1.length)/\(0=0/\1= [(List.replicate n.toNat (none:Option (List Int))).set (0+v2.1.toNat) y4].length)/\0< [(List.replicate n.toNat (none:Option (List Int))).set (0+v2.1.toNat) y4].length/\v2.2.2.1.length+ [(List.replicate n.toNat (none:Option (List Int))).set (0+v2.1.toNat) y4].length<=Cq/\0=0/\0=([]:List Int).length/\(0=0/\v2.2.2.2.1.length=v2.2.2.2.1.length)/\(0=0/\1=([[]]:List (List (Option (List Int)))).length)/\0<([[]]:List (List (Option (List Int)))).length/\v2.2.2.2.1.length+([[]]:List (List (Option (List Int)))).length<=Cq/\0=0/\(v2.2.2.1++ [(List.replicate n.toNat (none:Option (List Int))).set (0+v2.1.toNat) y4]).length=(v2.2.2.1++ [(List.replicate n.toNat (none:Option (List Int))).set (0+v2.1.toNat) y4]).length/\0=0/\(v2.2.2.2.1++ [[]]).length=(v2.2.2.2.1++ [[]]).length/\k3 (IntKind.i64.wrap (v2.1+(1:Int)),v2.2.1,v2.2.2.1++ [(List.replicate n.toNat (none:Option (List Int))).set (0+v2.1.toNat) y4],v2.2.2.2.1++ [[]],())) ((0=0/\v2.2.2.1.length=v2.2.2.1.length)/\(0=0/\v2.2.2.2.1.length=v2.2.2.2.1.length)/\P ((v2.2.1,v2.2.2.1,v2.2.2.2.1,()),()))) ((0:Int),n,[],[],PUnit.unit))=fnMW Xh (look [(115,Pv)]) Sr Tryz.f145 (n,()) P:=by kernel_rfl
abbrev jG:Type:=(Int×List (List (Option (List Int)))×List (List (Option (List Int)))×PUnit)×PUnit
abbrev jI:Type:=Int×List (List (Option (List Int)))×List (List (Option (List Int)))×Int×PUnit
theorem xQ (n:Int) (gens:List (Option (List Int))) (P:(Int×List (List (Option (List Int)))×List (List (Option (List Int)))×Unit)×Unit->Prop):(∃(y3:jG),Sr.fn (n,())=some y3/\0=0/\y3.1.2.1.length=y3.1.2.1.length/\0=0/\y3.1.2.2.1.length=y3.1.2.2.1.length/\Cz (λ(v4:jI) (k5:jI->Prop)=>Br (decide (v4.1<(↑gens.length:Int))) (∃(y6:Option (List Int)),idx gens v4.1=some y6/\ ∃(y7:Option (List Int)),dc.fn (y6.getD [],())=some y7/\0=0/\v4.2.1.length=v4.2.1.length/\0=0/\v4.2.2.1.length=v4.2.2.1.length/\ ∃(y8:jG),CG.fn (v4.2.2.2.1,v4.2.1,v4.2.2.1,(0:Int),y7,())=some y8/\0=0/\y8.1.2.1.length=y8.1.2.1.length/\0=0/\y8.1.2.2.1.length=y8.1.2.2.1.length/\k5 (IntKind.i64.wrap (v4.1+(1:Int)),y8.1.2.1,y8.1.2.2.1,y8.1.1,())) ((0=0/\v4.2.1.length=v4.2.1.length)/\(0=0/\v4.2.2.1.length=v4.2.2.1.length)/\P ((v4.2.2.2.1,v4.2.1,v4.2.2.1,()),()))) ((0:Int),y3.1.2.1,y3.1.2.2.1,y3.1.1,PUnit.unit))=fnMW Xh (look [(145,Sr),(116,dc),(146,CG)]) dF Tryz.f129 (n,gens,()) P:=by kernel_rfl
theorem QV (c:Int×List (List (Option (List Int)))×List (List (Option (List Int)))×Unit) (p:List Int) (P:Bool->Prop):(∃(y3:List Int×Int×PUnit),q9.fn (c,(0:Int),p,())=some y3/\P (y3.2.1==c.1))=fnW Xh (look [(144,q9)]) Ym Tryz.f128 (c,p,()) P:=by kernel_rfl
theorem RC (n:Int) (g:List (List Int)) (p:List Int) (P:Bool->Prop):(∃(y4:Bool),Mr.fn (n,g,())=some y4/\Br y4 (Br ((↑p.length:Int)==n) (∃(y5:Bool),Hu.fn (p,())=some y5/\Br y5 (∃(y6:(Int×List (List (Option (List Int)))×List (List (Option (List Int)))×PUnit)×PUnit),Sq.fn (n,g,())=some y6/\ ∃(y7:Bool),Ym.fn ((y6.1.1,List.take y6.1.2.1.length (List.drop 0 y6.1.2.1),List.take y6.1.2.2.1.length (List.drop 0 y6.1.2.2.1),()),p,())=some y7/\P y7) (P false)) (P false)) (P false))=fnW Ej (look [(123,Mr),(75,Hu),(129,Sq),(128,Ym)]) Yr Tryz.f96 (n,g,p,()) P:=by kernel_rfl
theorem KW (p:Int×ByteArray×List (List Int)×Unit) (s:List Int) (P:Bool->Prop):(∃(y3:Bool),Nn.fn ((p.1,p.2.1,p.2.2.1,()),s,())=some y3/\Br y3 (∃(y4:Bool),Yr.fn (p.1,p.2.2.1,s,())=some y4/\P y4) (P false))=fnW Ej (look [(95,Nn),(96,Yr)]) Nm Tryz.f73 (p,s,()) P:=by kernel_rfl
theorem KP (p:Int×ByteArray×List (List Int)×Unit) (s:List Int) (P:Bool->Prop):(∃(y3:Bool),Nn.fn ((p.1,p.2.1,p.2.2.1,()),s,())=some y3/\Br y3 (∃(y4:(Int×List (List (Option (List Int)))×List (List (Option (List Int)))×PUnit)×PUnit),Yt.fn (p.1,p.2.2.1,())=some y4/\ ∃(y5:Bool),om.fn ((y4.1.1,List.take y4.1.2.1.length (List.drop 0 y4.1.2.1),List.take y4.1.2.2.1.length (List.drop 0 y4.1.2.2.1),()),(0:Int),s,())=some y5/\P y5) (P false))=fnW Ej (look [(97,Nn),(98,Yt),(99,om)]) Nm Tryz.f74 (p,s,()) P:=by kernel_rfl
theorem kY:Sound Tryz.prog 115 Pv:=Sound.toO jz λ_ h=>TV h
theorem sq:Sound Tryz.prog 116 dc:=Sound.toO Wu λx h=>⟨h.1,λe=>by
 have h2:=h.2
 replace e:x.1= []:=e
 rw [e] at h2
 simp at h2⟩
theorem BJ (n:Int) (h:1<=n/\n<=20):fnMW Xh (look [(115,Pv)]) Sr Tryz.f145 (n,()) (λ(z:(Int×List (List (Option (List Int)))×List (List (Option (List Int)))×Unit)×Unit)=>z=((n,Ze n.toNat,Tk n.toNat,()),())):=by
 obtain ⟨h1,h2⟩:=h
 obtain ⟨N,rfl⟩: ∃N:Nat,n=N:=⟨n.toNat,by omega⟩
 rw [Ai]
 refine Eq.mp (DR (N:Int) _) ?_
 have hm:((0:Int)<=(N:Int)/\(N:Int)<(Cq:Int)+1):=⟨by omega,by show (N:Int)<(4294967296:Int)+1;omega⟩
 simp only [hm,and_self,eq_self,true_and,Ol,Ai,Bv,Gd,Bi,Fz,Az,Nat.lt_add_one]
 refine Bf N (λv=>v.1) (λj v=>v=((j:Int),(N:Int),(List.range j).map (ct N),List.replicate j [],())) rfl rfl ?_
 rintro j v K hj hi rfl hK
 dsimp only
 refine Br.dec (λhl=>?_) λhl=>?_
 ·simp only [Ai,Dj,List.length_range,Fz]
  refine ⟨_,Ab ⟨by show (1:Int)<=N;omega,by show (N:Int)<=20;omega⟩,⟨by omega,by omega⟩,by omega,?_,?_,?_⟩
  ·show _<=4294967296
   omega
  ·show _<=4294967296
   omega
  ·rw [Bh (by omega)]
   refine hK (by omega) _ rfl ?_
   rw [il,Kc,List.replicate_succ']
   rfl
 ·have:j=N:=by omega
  subst this
  rfl
theorem qf:Ca Tryz.prog 145 Sr:=
 Ca.ky mQ (Av kY Bg) mixed Tryz.func145 (by kernel_rfl) (by kernel_rfl) λx h=>BJ x.1 h
theorem xb (n:Int) (gens:List (Option (List Int))) (h:(1<=n/\n<=20)/\List.length gens<=4294967296/\ ∀o∈(gens:List PO),∃g,o=some g/\Pm n.toNat g):
  fnMW Xh (look [(145,Sr),(116,dc),(146,CG)]) dF Tryz.f129 (n,gens,()) (λ(z:(Int×List (List (Option (List Int)))×List (List (Option (List Int)))×Unit)×Unit)=>z=((n,(Px n.toNat gens).2,(Px n.toNat gens).1,()),())):=by
 obtain ⟨⟨h1,h2⟩,h3,hg⟩:=h
 obtain ⟨N,rfl⟩: ∃N:Nat,n=N:=⟨n.toNat,by omega⟩
 rw [Ai] at hg⊢
 have h1:1<=N:=by omega
 have h2:N<=20:=by omega
 refine Eq.mp (xQ (N:Int) gens _) ⟨_,Ab ⟨by show (1:Int)<=N;omega,by show (N:Int)<=20;omega⟩,rfl,rfl,rfl,rfl,?_⟩
 simp only [Ai,true_and,Ol]
 refine Bf gens.length (λv=>v.1) (λi v=>v=((i:Int),(Px N (gens.take i)).2,(Px N (gens.take i)).1,(N:Int),())) rfl rfl ?_
 rintro i v K' nK At2 rfl hK'
 dsimp only
 refine Br.dec (λKn=>?_) λKn=>?_
 ·have Kn:i<gens.length:=by omega
  obtain ⟨g,oZ,Tr⟩:=hg gens[i] (Aj Kn)
  have hgl:=Tr.1
  have hv:=yg h1 h2 (gens:=gens.take i) λo ho=>hg o (Gp ho)
  refine ⟨some g,by rw [Bq Kn,oZ],some g,Ab ⟨by show g.length<=4294967296;omega,by show 1<=g.length;omega⟩,_,Ab ⟨N,0,g,rfl,h1,h2,rfl,rfl,Iq _,hv,Tr,λi hi=>absurd hi (Dq _)⟩,?_⟩
  rw [Bh (by omega)]
  refine hK' Kn _ rfl ?_
  rw [zE Kn,oZ]
  rfl
 ·have:i=gens.length:=by omega
  subst this
  rw [Ap]
theorem oz:Ca Tryz.prog 129 dF:=
 Ca.ky mQ (Ep qf (Av sq (Ep PY Bg))) mixed Tryz.func129 (by kernel_rfl) (by kernel_rfl) λx h=>xb x.1 x.2.1 h
theorem qe:Ca Tryz.prog 129 Sq:=by
 have h:=oz
 refine ⟨h.enter,λw S π us x r o g vs h1 hg h2 h3 hS h4 h5=>?_⟩
 obtain ⟨n,gens,⟨⟩⟩:=x
 match us,h2 with
 |u1::u2::us,h2=>
  obtain ⟨h6,⟨h7,h8⟩,h9⟩:=h2
  obtain ⟨os,oY,gS⟩:=Ct.Ai9 (e:=tI) h8
  have gS:os.map (·.getD [])=(gens:List (List Int)):=gS
  have gU:(1<=n/\n<=20)/\List.length gens<=4294967296/\ ∀g∈(gens:List (List Int)),Pm n.toNat g:=Ce λhn=>by
   have:Sq.fn (n,gens,())=none:=Ag hn
   rw [this] at h5;cases h5
  have hos:os=gens.map some:=by
   rw [<-gS,List.map_map]
   refine (List.map_id os).symm.trans (El λx hx=>?_)
   cases x with
   |some y=>rfl
   |none=>
    have:=gU.2.2 [] (by rw [<-gS];exact Bj.2 ⟨none,hx,rfl⟩)
    have h1:=this.n1
    have h2:=this.1
    simp at h2
    omega
  have hv:Sq.fn (n,gens,())=some ((n,(pj n gens).2,(pj n gens).1,()),()):=Ab gU
  rw [hv] at h5
  have h5:=Ba h5
  refine h.calls w S π (u1::u2::us) (n,os,()) r o g vs h1 hg ⟨h6,⟨h7,oY⟩,h9⟩ h3 hS h4 ?_
  refine (Ab ⟨gU.1,by rw [hos,Dj];exact gU.2.1,λy hy=>?pp⟩).trans (Mf some ?qq)
  case pp=>
   replace hy:y∈os:=hy
   rw [hos] at hy
   obtain ⟨g,hg,rfl⟩:=Bj.1 hy
   exact ⟨g,rfl,gU.2.2 g hg⟩
  case qq=>subst hos;exact h5
theorem OO (c:Int×List (List (Option (List Int)))×List (List (Option (List Int)))×Unit) (p:List Int) (h: ∃N,Vy N 0 c.1 c.2.2.1 c.2.1 0 p):
  fnW Xh (look [(144,q9)]) Ym Tryz.f128 (c,p,()) (λ(z:Bool)=>z=Hy c.2.1 c.1.toNat 0 p):=by
 obtain ⟨n,T,G,⟨⟩⟩:=c
 obtain ⟨N,h⟩:=h
 have h':=h
 obtain ⟨n1,n2,en,el,hle,v,pm,fx⟩:=h
 dsimp only at en
 subst en
 refine Eq.mp (QV ((N:Int),T,G,()) p _) ⟨_,Ab ⟨N,0,h'⟩,?_⟩
 have hs:=vH (T:=T) N 0 p
 rw [Bv] at hs
 show ((Of T ((N:Int)-0).toNat (0:Int).toNat p).2.1==(N:Int))=Hy T (N:Int).toNat 0 p
 rw [Int.sub_zero,Ai]
 exact Bool.eq_iff_iff.2 (Xd.trans hs)
theorem vM:Sound Tryz.prog 128 Ym:=
 Sound.En mQ (Av QI Bg) mixed Tryz.func128 (by kernel_rfl) (by kernel_rfl) λx h=>OO x.1 x.2.1 h
theorem OT (n:Int) (g:List (List Int)) (p:List Int) (h:Hc g/\short p):fnW Ej (look [(123,Mr),(75,Hu),(129,Sq),(128,Ym)]) Yr Tryz.f96 (n,g,p,()) (λ(z:Bool)=>z=j9 n g p):=by
 obtain ⟨hg,hp⟩:=h
 refine Eq.mp (RC n g p _) ⟨_,Ab hg,?_⟩
 unfold j9
 show Br (Ru n g) _ _
 refine Br.of (λh1=>?_) λh1=>by rw [h1];rfl
 obtain ⟨⟨n1,n2⟩,h8,Kf⟩:=Hq.1 h1
 refine Br.of (λh2=>?_) λh2=>?_
 ·have h2:(p.length:Int)=n:=eq_of_beq h2
  refine ⟨_,Ab hp,?_⟩
  show Br (Jo p) _ _
  refine Br.of (λh3=>?_) λh3=>?_
  ·have hgo:Gl n p=true:=Hq.2 ⟨h2,h3⟩
   have hpm: ∀x,Gl n x=true->Pm n.toNat x:= λx hx=>by
    obtain ⟨a,b⟩:=Hq.1 hx
    exact ⟨by omega,fF b⟩
   have nJ: ∀x∈g,Pm n.toNat x:= λx hx=>hpm x (Kf x hx)
   have hV:=yg (n:=n.toNat) (by omega) (by omega) (ez nJ)
   refine ⟨_,Ab ⟨⟨n1,n2⟩,hg.1,nJ⟩,_,Ab ⟨n.toNat,?vv⟩,?_⟩
   case vv=>
    simp only [Bx]
    exact ⟨by omega,by omega,(Int.toNat_of_nonneg (by omega)).symm,rfl,Iq _,hV,hpm p hgo,λi hi=>absurd hi (Dq _)⟩
   simp only [Bx]
   rw [h1,hgo]
   rfl
  ·have:Gl n p=false:=by
    rw [Jm]
    intro hc
    rw [(Hq.1 hc).2] at h3
    cases h3
   rw [this,Bool.and_false,Bool.false_and]
 ·have:Gl n p=false:=by
   rw [Jm]
   intro hc
   rw [(Hq.1 hc).1] at h2
   simp at h2
  rw [this,Bool.and_false,Bool.false_and]
theorem vU:Sound Tryz.prog 96 Yr:=
 Sound.En Db (Av eL (Av Sv (Ep qe (Av vM Bg)))) mixed Tryz.func96 (by kernel_rfl) (by kernel_rfl) λx h=>OT x.1 x.2.1 x.2.2.1 h
theorem UF {p:PP} (hv:Ea p=true) {s:List Int} (hs:Pm p.1.toNat s):Hy (pj p.1 p.2.2.1).2 p.1.toNat 0 s=Hy (cK p.1 p.2.2.1).2 p.1.toNat 0 s:=by
 have hV:=valid hv
 have hn:=hV.n
 have hg:=ez (dR hV).2.2
 exact Bool.eq_iff_iff.2 ((GB (by omega) (by omega) hg hs).trans (mh (by omega) (by omega) hg hs).symm)
theorem FW {n:Int} {s:List Int} (h:Gl n s=true):Pm n.toNat s:=by
 obtain ⟨a,b⟩:=Hq.1 h
 exact ⟨by omega,fF b⟩
theorem IU (p:PP) (s:List Int) (h:Ei p/\short s):fnW Ej (look [(95,Nn),(96,Yr)]) Nm Tryz.f73 (p,s,()) (λ(z:Bool)=>z=Nu p s):=by
 refine Eq.mp (KW p s _) ⟨_,Ab h,?_⟩
 show Br (Ea p&&Gl p.1 s) _ _
 unfold Nu
 refine Br.of (λhb=>?_) λhb=>by rw [hb];rfl
 obtain ⟨hv,hg⟩:=Gm.1 hb
 have hV:=valid hv
 have hn:=hV.n
 have Anl:Ru p.1 p.2.2.1=true:=by
  refine Hq.2 ⟨⟨by omega,by omega⟩,by have:=hV.wP;omega,λx hx=>Hq.2 ⟨by have:=hV.len x hx;omega,hV.perm x hx⟩⟩
 refine ⟨_,Ab ⟨h.1.2,h.2⟩,?_⟩
 show j9 p.1 p.2.2.1 s=_
 unfold j9
 rw [Anl,hg,hv,UF hv (FW hg)]
theorem sD:Sound Tryz.prog 73 Nm:=
 Sound.En Db (Av oH (Av vU Bg)) mixed Tryz.func73 (by kernel_rfl) (by kernel_rfl) λx h=>IU x.1 x.2.1 h
theorem IK (p:PP) (s:List Int) (h:Ei p/\short s):fnW Ej (look [(97,Nn),(98,Yt),(99,om)]) Nm Tryz.f74 (p,s,()) (λ(z:Bool)=>z=Nu p s):=by
 refine Eq.mp (KP p s _) ⟨_,Ab h,?_⟩
 show Br (Ea p&&Gl p.1 s) _ _
 unfold Nu
 refine Br.of (λhb=>?_) λhb=>by rw [hb];rfl
 obtain ⟨hv,hg⟩:=Gm.1 hb
 have hV:=valid hv
 have hn:=hV.n
 have GG:=Aea hV
 refine ⟨_,Ab (dR hV),_,Ab ⟨p.1.toNat,0,?vv⟩,?_⟩
 case vv=>
  simp only [Bx]
  exact ⟨by omega,by omega,(Int.toNat_of_nonneg (by omega)).symm,rfl,Iq _,by rw [Nat.sub_zero];exact GG,FW hg,λi hi=>absurd hi (Dq _)⟩
 simp only [Bx]
 rw [hb,bM,Int.sub_zero]
 rfl
theorem sw:Sound Tryz.prog 74 Nm:=
 Sound.En Db (Av oC (Ep vV (Av zm Bg))) mixed Tryz.func74 (by kernel_rfl) (by kernel_rfl) λx h=>IK x.1 x.2.1 h
noncomputable def Oc (p:PP) (ts:List TT) (s:List Int):Bool:=Nu p s&&Gr p ts
noncomputable abbrev Yl:Spec:=En (.pair Fb (.pair tb (.pair tL .unit))) (.pair (.optr Wy) (.pair .bool .unit)) true false (λx=>Ei x.1/\Gx x.2.1/\short x.2.2.1) (λx=>if Oc x.1 x.2.1 x.2.2.1=true then (some (Dp x.2.1),true,()) else (none,false,()))
noncomputable abbrev pZ:Spec:=En (.pair Fb (.pair tb (.pair tL .unit))) .bool false true (λx=>Ei x.1/\Gx x.2.1/\short x.2.2.1) (λx=>Oc x.1 x.2.1 x.2.2.1)
theorem QU (p:Int×ByteArray×List (List Int)×Unit) (ts:List (List Int×List (List Int)×List Int×Unit)) (s:List Int) (P:(Option (List (List Int×List (List Int)×List Int×Unit)×List (ByteArray->Option Int)×Unit)×Bool×Unit)->Prop):(∃(y4:Bool),Nm.fn ((p.1,p.2.1,p.2.2.1,()),s,())=some y4/\Br (!y4) (P (none,false,())) (∃(y5:Bool),Lf.fn ((p.1,p.2.1,p.2.2.1,()),ts,())=some y5/\Br (!y5) (P (none,false,())) (∃(y6:Option (List (List Int×List (List Int)×List Int×PUnit)×List (ByteArray->Option Int)×PUnit)),Vo.fn (ts,())=some y6/\P (y6,true,()))))=fnW Ej (look [(74,Nm),(63,Lf),(64,Vo)]) Yl Tryz.f51 (p,ts,s,()) P:=by kernel_rfl
theorem Aln (p:Int×ByteArray×List (List Int)×Unit) (ts:List (List Int×List (List Int)×List Int×Unit)) (s:List Int) (P:Bool->Prop):(∃(y4:Bool),Lf.fn ((p.1,p.2.1,p.2.2.1,()),ts,())=some y4/\Br y4 (∃(y5:Bool),Nm.fn ((p.1,p.2.1,p.2.2.1,()),s,())=some y5/\P y5) (P false))=fnW Ej (look [(72,Lf),(73,Nm)]) pZ Tryz.f47 (p,ts,s,()) P:=by kernel_rfl
theorem eg {p:PP} {ts:List TT} {s:List Int} (h:Oc p ts s=true):aw ts/\dq ts s/\Nu p s=true:=by
 unfold Oc at h
 obtain ⟨h1,h2⟩:=Gm.1 h
 exact ⟨(jJ h2).2.1,PF h1 h2,h1⟩
theorem ON (p:PP) (ts:List TT) (s:List Int) (h:Ei p/\Gx ts/\short s):fnW Ej (look [(74,Nm),(63,Lf),(64,Vo)]) Yl Tryz.f51 (p,ts,s,()) (λ(z:Option BB×Bool×Unit)=>z=if Oc p ts s=true then (some (Dp ts),true,()) else (none,false,())):=by
 obtain ⟨h0,h1,h2⟩:=h
 refine Eq.mp (QU p ts s _) ⟨_,Ab ⟨h0,h2⟩,?_⟩
 show Br (!Nu p s) _ _
 have hh:Oc p ts s=(Nu p s&&Gr p ts):=rfl
 rw [hh]
 refine Br.of (λhb=>?_) λhb=>?_
 ·have hb:Nu p s=false:=by simpa using hb
  rw [hb];rfl
 ·have hb:Nu p s=true:=by simpa using hb
  refine ⟨_,Ab ⟨h0,h1⟩,?_⟩
  show Br (!Gr p ts) _ _
  refine Br.of (λhc=>?_) λhc=>?_
  ·have hc:Gr p ts=false:=by simpa using hc
   rw [hb,hc];rfl
  ·have hc:Gr p ts=true:=by simpa using hc
   refine ⟨_,Ab (jJ hc).2.1,?_⟩
   rw [hb,hc];rfl
theorem vL:Sound Tryz.prog 51 Yl:=
 Sound.En Db (Av sw (Av mM (Av sy Bg))) mixed Tryz.func51 (by kernel_rfl) (by kernel_rfl) λx h=>ON x.1 x.2.1 x.2.2.1 h
theorem Aku (p:PP) (ts:List TT) (s:List Int) (h:Ei p/\Gx ts/\short s):fnW Ej (look [(72,Lf),(73,Nm)]) pZ Tryz.f47 (p,ts,s,()) (λ(z:Bool)=>z=Oc p ts s):=by
 obtain ⟨h0,h1,h2⟩:=h
 refine Eq.mp (Aln p ts s _) ⟨_,Ab ⟨h0,h1⟩,?_⟩
 show Br (Gr p ts) _ _
 have hh:Oc p ts s=(Nu p s&&Gr p ts):=rfl
 rw [hh]
 refine Br.of (λhb=>⟨_,Ab ⟨h0,h2⟩,?_⟩) λhb=>?_
 ·rw [hb,Bool.and_true]
 ·rw [hb,Bool.and_false]
theorem QE:Sound Tryz.prog 47 pZ:=
 Sound.En Db (Av mN (Av sD Bg)) mixed Tryz.func47 (by kernel_rfl) (by kernel_rfl) λx h=>Aku x.1 x.2.1 x.2.2.1 h
abbrev DS:Type:=Int×Int×List Int×Bool×Bool×Unit
def Jy (v:DS):Bool:=v.2.2.2.1||(decide (0<v.2.1)&&!v.2.2.2.2.1)
def Nc (w:List Int):Int:=w.getLastD 0
def vN (nx:List Int->Int->List Int) (low:List Int->Int) (one:List Int) (ls:List Int) (depth:Int):Nat->List Int->List Int->DS->DS
 |0,_,_,v=>v
 |f+1,s,w,v=>
  if v.1=20000 then (v.1,v.2.1,v.2.2.1,true,v.2.2.2.2)
  else if (w.length:Int)+low s>depth then (v.1+1,v.2)
  else if (w.length:Int)=depth then (if s=one then (v.1+1,v.2.1+1,(if v.2.1=0 then w else v.2.2.1),v.2.2.2) else (v.1+1,v.2))
  else (ls.filter λl=>!(l== -Nc w)).foldl (λv l=>if Jy v=true then v else vN nx low one ls depth f (nx s l) (w++ [l]) v) (v.1+1,v.2)
abbrev IS:Type:=Bool×List Int×Int×Int×Bool
def iN (nx:List Int->Int->List Int) (low:List Int->Int) (one:List Int) (ls:List Int) (depth:Int) (every:Bool):Nat->List Int->List Int->Int->Int->Bool->IS
 |0,_,w,n,m,a=>(false,w,n,m,a)
 |f+1,s,w,n,m,a=>
  if n=20000 then (true,w,n,m,true)
  else if (w.length:Int)+low s>depth then (false,w,n+1,m,a)
  else if s=one/\(w.length:Int)=depth then (!every,w,n+1,m+1,a)
  else if (w.length:Int)=depth then (false,w,n+1,m,a)
  else ls.foldl (λr l=>if r.1=true\/l= -Nc w then r else
   if (iN nx low one ls depth every f (nx s l) (w++ [l]) r.2.2.1 r.2.2.2.1 r.2.2.2.2).1=true then iN nx low one ls depth every f (nx s l) (w++ [l]) r.2.2.1 r.2.2.2.1 r.2.2.2.2
   else (false,w,(iN nx low one ls depth every f (nx s l) (w++ [l]) r.2.2.1 r.2.2.2.1 r.2.2.2.2).2.2)) (false,w,n+1,m,a)
structure zx (v:DS):Prop where
 n0:0<=v.1
 n1:v.1<=20000
 m0:0<=v.2.1
 m1:v.2.1<=v.1
theorem kb {α β:Type} {f:β->α->β} {R:β->Prop} : ∀(ls:List α) (b:β),R b->(∀b l,l∈ls->R b->R (f b l))->R (ls.foldl f b)
 | [],_,h,_=>h
 |l::ls,b,h,hs=>kb ls _ (hs b l (Iw ..) h) λb l hl=>hs b l (At _ hl)
theorem u6 {α β γ:Type} {f:β->α->β} {g:γ->α->γ} {R:β->γ->Prop} : ∀(ls:List α) (b:β) (c:γ),R b c->(∀b c l,l∈ls->R b c->R (f b l) (g c l))->R (ls.foldl f b) (ls.foldl g c)
 | [],_,_,h,_=>h
 |l::ls,b,c,h,hs=>u6 ls _ _ (hs b c l (Iw ..) h) λb c l hl=>hs b c l (At _ hl)
theorem Ad9 {nx:List Int->Int->List Int} {low:List Int->Int} {one ls:List Int} {depth:Int} : ∀(f:Nat) (s w:List Int) (v:DS),zx v->zx (vN nx low one ls depth f s w v)
 |0,_,_,_,h=>h
 |f+1,s,w,v,h=>by
  have h0:=h.n0;have h1:=h.n1;have h2:=h.m0;have h3:=h.m1
  unfold vN
  split
  ·exact ⟨h0,h1,h2,h3⟩
  ·have hs:zx ((v.1+1,v.2):DS):=⟨by show 0<=v.1+1;omega,by show v.1+1<=20000;omega,h2,by show v.2.1<=v.1+1;omega⟩
   split
   ·exact hs
   ·split
    ·split
     ·exact ⟨by show 0<=v.1+1;omega,by show v.1+1<=20000;omega,by show 0<=v.2.1+1;omega,by show v.2.1+1<=v.1+1;omega⟩
     ·exact hs
    ·refine kb _ _ hs λb l _ hb=>?_
     split
     ·exact hb
     ·exact Ad9 f _ _ _ hb
theorem Ahy {nx:List Int->Int->List Int} {low:List Int->Int} {one ls:List Int} {depth:Int} {every:Bool} : ∀(f:Nat) (s w:List Int) (n m:Int) (a:Bool),(0<=n/\n<=20000/\0<=m/\m<=n)->
  (0<=(iN nx low one ls depth every f s w n m a).2.2.1/\(iN nx low one ls depth every f s w n m a).2.2.1<=20000/\0<=(iN nx low one ls depth every f s w n m a).2.2.2.1/\(iN nx low one ls depth every f s w n m a).2.2.2.1<=(iN nx low one ls depth every f s w n m a).2.2.1)
 |0,_,_,_,_,_,h=>h
 |f+1,s,w,n,m,a,h=>by
  obtain ⟨h0,h1,h2,h3⟩:=h
  unfold iN
  split
  ·exact ⟨h0,h1,h2,h3⟩
  ·have hs:(0<=n+1/\n+1<=20000/\0<=m/\m<=n+1):=by omega
   split
   ·exact hs
   ·split
    ·show 0<=n+1/\n+1<=20000/\0<=m+1/\m+1<=n+1
     omega
    ·split
     ·exact hs
     ·refine kb (R:= λ(b:IS)=>0<=b.2.2.1/\b.2.2.1<=20000/\0<=b.2.2.2.1/\b.2.2.2.1<=b.2.2.1) _ _ hs λb l _ hb=>?_
      split
      ·exact hb
      ·have ih:=Ahy (nx:=nx) (low:=low) (one:=one) (ls:=ls) (depth:=depth) (every:=every) f (nx s l) (w++ [l]) b.2.2.1 b.2.2.2.1 b.2.2.2.2 hb
       split
       ·exact ih
       ·exact ih
theorem Af5 {nx:List Int->Int->List Int} {low:List Int->Int} {one ls:List Int} {depth:Int} {every:Bool} : ∀(f:Nat) (s w:List Int) (n m:Int) (a:Bool),(iN nx low one ls depth every f s w n m a).1=false->(iN nx low one ls depth every f s w n m a).2.1=w
 |0,_,_,_,_,_,_=>rfl
 |f+1,s,w,n,m,a,h=>by
  unfold iN at h⊢
  split
  ·rename_i h1;rw [Ab h1] at h
  ·rename_i h1
   rw [Ag h1] at h
   split
   ·rfl
   ·rename_i h2
    rw [Ag h2] at h
    split
    ·rfl
    ·rename_i h3
     rw [Ag h3] at h
     split
     ·rfl
     ·rename_i h4
      rw [Ag h4] at h
      refine kb (R:= λ(r:IS)=>r.1=false->r.2.1=w) _ _ (λ_=>rfl) (λr l _ hr=>?_) h
      split
      ·exact hr
      ·split
       ·rename_i h5;exact λh6=>by rw [h5] at h6;cases h6
       ·exact λ_=>rfl
theorem SX {nx:List Int->Int->List Int} {low:List Int->Int} {one ls:List Int} {depth:Int} {every:Bool} {f:Nat} {s w:List Int} : ∀(xs:List Int) (r:IS),r.1=true->
  xs.foldl (λ(r:IS) l=>if r.1=true\/l= -Nc w then r else
   if (iN nx low one ls depth every f (nx s l) (w++ [l]) r.2.2.1 r.2.2.2.1 r.2.2.2.2).1=true then iN nx low one ls depth every f (nx s l) (w++ [l]) r.2.2.1 r.2.2.2.1 r.2.2.2.2
   else (false,w,(iN nx low one ls depth every f (nx s l) (w++ [l]) r.2.2.1 r.2.2.2.1 r.2.2.2.2).2.2)) r=r
 | [],_,_=>rfl
 |x::xs,r,h=>by
  rw [Ig,Ab (.inl h)]
  exact SX xs r h
theorem TW {nx:List Int->Int->List Int} {low:List Int->Int} {one ls:List Int} {depth:Int} {f:Nat} {s w:List Int} : ∀(xs:List Int) (r:DS),Jy r=true->
  xs.foldl (λ(v:DS) l=>if Jy v=true then v else vN nx low one ls depth f (nx s l) (w++ [l]) v) r=r
 | [],_,_=>rfl
 |x::xs,r,h=>by
  rw [Ig,Ab h]
  exact TW xs r h
structure ZC (every:Bool) (w:List Int) (r:IS) (v:DS):Prop where
 stop:r.1=Jy v
 word:r.1=false->r.2.1=w
 n:r.2.2.1=v.1
 m:r.2.2.2.1=v.2.1
 a:r.2.2.2.2=v.2.2.2.1
 all:v.2.2.2.2.1=every
 ok:zx v
 found:r.1=true->v.2.2.2.1=false->r.2.1=v.2.2.1
theorem Ahz {nx:List Int->Int->List Int} {low:List Int->Int} {one ls:List Int} {depth:Int} {every:Bool} : ∀(f:Nat) (s w:List Int) (v:DS),Jy v=false->v.2.2.2.2.1=every->zx v->
  ZC every w (iN nx low one ls depth every f s w v.1 v.2.1 v.2.2.2.1) (vN nx low one ls depth f s w v)
 |0,s,w,v,hd,he,hv=>⟨hd.symm,λ_=>rfl,rfl,rfl,rfl,he,hv,λh=>by simp [iN] at h⟩
 |f+1,s,w,v,hd,he,hv=>by
  have hvo:=Ad9 (nx:=nx) (low:=low) (one:=one) (ls:=ls) (depth:=depth) (f+1) s w v hv
  have hd':=hd
  unfold Jy at hd'
  rw [he,Bool.or_eq_false_iff,Bool.and_eq_false_iff] at hd'
  obtain ⟨ha,hm⟩:=hd'
  have h0:=hv.m0
  have hm:every=false->v.2.1=0:= λe=>by
   rcases hm with h|h
   ·have:=of_decide_eq_false h;omega
   ·rw [e] at h;cases h
  by_cases h1:v.1=20000
  ·have e1:vN nx low one ls depth (f+1) s w v=(v.1,v.2.1,v.2.2.1,true,v.2.2.2.2):=by rw [vN,Ab h1]
   have e2:iN nx low one ls depth every (f+1) s w v.1 v.2.1 v.2.2.2.1=(true,w,v.1,v.2.1,true):=by rw [iN,Ab h1]
   rw [e1] at hvo⊢
   rw [e2]
   exact {stop:=rfl,word:= λh=>by simp at h,n:=rfl,m:=rfl,a:=rfl,all:=he,ok:=hvo,found:= λ_ h=>by simp at h}
  by_cases h2:(w.length:Int)+low s>depth
  ·have e1:vN nx low one ls depth (f+1) s w v=(v.1+1,v.2):=by rw [vN,Ag h1,Ab h2]
   have e2:iN nx low one ls depth every (f+1) s w v.1 v.2.1 v.2.2.2.1=(false,w,v.1+1,v.2.1,v.2.2.2.1):=by rw [iN,Ag h1,Ab h2]
   rw [e1] at hvo⊢
   rw [e2]
   exact {stop:=hd.symm,word:= λ_=>rfl,n:=rfl,m:=rfl,a:=rfl,all:=he,ok:=hvo,found:= λh=>by simp at h}
  by_cases h3:(w.length:Int)=depth
  ·by_cases h4:s=one
   ·have e1:vN nx low one ls depth (f+1) s w v=(v.1+1,v.2.1+1,(if v.2.1=0 then w else v.2.2.1),v.2.2.2):=by rw [vN,Ag h1,Ag h2,Ab h3,Ab h4]
    have e2:iN nx low one ls depth every (f+1) s w v.1 v.2.1 v.2.2.2.1=(!every,w,v.1+1,v.2.1+1,v.2.2.2.1):=by rw [iN,Ag h1,Ag h2,Ab ⟨h4,h3⟩]
    rw [e1] at hvo⊢
    rw [e2]
    refine {stop:=?_,word:= λ_=>rfl,n:=rfl,m:=rfl,a:=rfl,all:=he,ok:=hvo,found:= λh _=>?_}
    ·show (!every)=(v.2.2.2.1||(decide (0<v.2.1+1)&&!v.2.2.2.2.1))
     rw [ha,he,Fu (by omega)]
     simp
    ·have h:(!every)=true:=h
     show w=if v.2.1=0 then w else v.2.2.1
     rw [Ab (hm (by cases every<;>simp_all))]
   ·have e1:vN nx low one ls depth (f+1) s w v=(v.1+1,v.2):=by rw [vN,Ag h1,Ag h2,Ab h3,Ag h4]
    have e2:iN nx low one ls depth every (f+1) s w v.1 v.2.1 v.2.2.2.1=(false,w,v.1+1,v.2.1,v.2.2.2.1):=by rw [iN,Ag h1,Ag h2,Ag (λh=>h4 h.1),Ab h3]
    rw [e1] at hvo⊢
    rw [e2]
    exact {stop:=hd.symm,word:= λ_=>rfl,n:=rfl,m:=rfl,a:=rfl,all:=he,ok:=hvo,found:= λh=>by simp at h}
  have hs:zx ((v.1+1,v.2):DS):=by
   have:=hv.n0;have:=hv.n1;have:=hv.m1
   exact ⟨by show 0<=v.1+1;omega,by show v.1+1<=20000;omega,h0,by show v.2.1<=v.1+1;omega⟩
  rw [vN,Ag h1,Ag h2,Ag h3,iN,Ag h1,Ag h2,Ag (λh=>h3 h.2),Ag h3,List.foldl_filter]
  refine u6 (R:= λ(r:IS) (u:DS)=>ZC every w r u) ls _ _ {stop:=hd.symm,word:= λ_=>rfl,n:=rfl,m:=rfl,a:=rfl,all:=he,ok:=hs,found:= λh=>by simp at h} λr u l _ hR=>?_
  by_cases hl:l= -Nc w
  ·rw [Ab (.inr hl),Ag (by simp [hl])]
   exact hR
  rw [Ab (show (!(l== -Nc w))=true by simp [hl])]
  by_cases Ts:r.1=true
  ·have hu:Jy u=true:=by rw [<-hR.stop];exact Ts
   rw [Ab (.inl Ts),Ab hu]
   exact hR
  have Ts:r.1=false:=by simpa using Ts
  have hu:Jy u=false:=by rw [<-hR.stop,Ts]
  have fj: ¬Jy u=true:=by rw [hu];simp
  rw [Ag (show ¬(r.1=true\/l= -Nc w) by rw [Ts];simp [hl]),Ag fj]
  have ih:=Ahz (nx:=nx) (low:=low) (one:=one) (ls:=ls) (depth:=depth) (every:=every) f (nx s l) (w++ [l]) u hu hR.all hR.ok
  rw [hR.n,hR.m,hR.a]
  by_cases hq:(iN nx low one ls depth every f (nx s l) (w++ [l]) u.1 u.2.1 u.2.2.2.1).1=true
  ·rw [Ab hq]
   exact {stop:=ih.stop,word:= λh=>by rw [hq] at h;simp at h,n:=ih.n,m:=ih.m,a:=ih.a,all:=ih.all,ok:=ih.ok,found:=ih.found}
  ·rw [Ag hq]
   have hq:(iN nx low one ls depth every f (nx s l) (w++ [l]) u.1 u.2.1 u.2.2.2.1).1=false:=by simpa using hq
   exact {stop:=by rw [<-ih.stop,hq],word:= λ_=>rfl,n:=ih.n,m:=ih.m,a:=ih.a,all:=ih.all,ok:=ih.ok,found:= λh=>by simp at h}
abbrev SR:Type:=PP×Option BB×Int×Bool×List Int×Int×Int×Bool×Unit
noncomputable def dA (s:List Int):Bool:=decide (s=upto s.length)
noncomputable abbrev q7:Spec:=En (.pair tL .unit) .bool false true (λx=>short x.1) (λx=>dA x.1)
def Re (g:List (List Int)) (s:List Int) (l:Int):List Int:=Al s (Bt g l)
noncomputable def sj (n:Int) (g:List (List Int)) (b:Option BB) (Dz:Int) (every:Bool) (w:List Int) (nodes found:Int) (ab:Bool) (x:List Int):IS:=
 iN (Re g) (Qx b) (upto n.toNat) (Aw g.length) Dz every ((Dz-w.length).toNat+1) x w nodes found ab
noncomputable def HN (p:PP) (ts:List TT) (s w:List Int) (depth:Int) (v:DS):DS:=
 vN (Re p.2.2.1) (Nb ts) (upto p.1.toNat) (Aw p.2.2.1.length) depth ((depth-w.length).toNat+1) s w v
def zC (n:Int) (str:ByteArray) (g:List (List Int)) (b:Option BB) (Dz:Int) (w:List Int) (nodes found:Int) (x:List Int):Prop:=
 ∃ts,b=some (Dp ts)/\Oc (n,str,g,()) ts x=true/\Dz<=30/\(w.length:Int)<=Dz/\(∀l∈w,Iu g.length l)/\(0<=nodes/\nodes<=20000)/\0<=found/\found<=nodes
def ZF (p:PP) (ts:List TT) (s w:List Int) (depth:Int) (v:DS):Prop:=
 Oc p ts s=true/\depth<=30/\(w.length:Int)<=depth/\(∀l∈w,Iu p.2.2.1.length l)/\zx v
noncomputable abbrev SZ:MSpec:= {ptr:=some (84,10),Jj:= [none],ins:= [(false, .Fm tI),(false, .Fm .str),(false, .Fm dI),(false, .Fm (.optr Wy)),(false, .Fm tI),(false, .Fm .bool),(false,rL),(false, .Fm tI),(false, .Fm tI),(false, .Fm .bool),(false, .Fm tL)],He:=false,Ih:= [none],outs:= [.Fm tI, .Fm .str, .Fm dI, .Fm (.optr Wy), .Fm tI, .Fm .bool,rL, .Fm tI, .Fm tI, .Fm .bool, .Fm .bool],fn:= λ_=>none}
noncomputable def jc (n:Int) (str:ByteArray) (g:List (List Int)) (b:Option BB) (Dz:Int) (every:Bool) (q:IS):Int×ByteArray×List (List Int)×Option BB×Int×Bool×List Int×Int×Int×Bool×Bool×Unit:=(n,str,g,b,Dz,every,q.2.1,q.2.2.1,q.2.2.2.1,q.2.2.2.2,q.1,())
noncomputable abbrev Uk (m:Nat):MSpec:=ky SZ (λx=>zC x.1 x.2.1 x.2.2.1 x.2.2.2.1 x.2.2.2.2.1 x.2.2.2.2.2.2.1 x.2.2.2.2.2.2.2.1 x.2.2.2.2.2.2.2.2.1 x.2.2.2.2.2.2.2.2.2.2.1/\(x.2.2.2.2.1-List.length x.2.2.2.2.2.2.1).toNat<m)
 (λx=>(jc x.1 x.2.1 x.2.2.1 x.2.2.2.1 x.2.2.2.2.1 x.2.2.2.2.2.1 (sj x.1 x.2.2.1 x.2.2.2.1 x.2.2.2.2.1 x.2.2.2.2.2.1 x.2.2.2.2.2.2.1 x.2.2.2.2.2.2.2.1 x.2.2.2.2.2.2.2.2.1 x.2.2.2.2.2.2.2.2.2.1 x.2.2.2.2.2.2.2.2.2.2.1),()))
noncomputable abbrev oo:MSpec:=ky SZ (λx=>zC x.1 x.2.1 x.2.2.1 x.2.2.2.1 x.2.2.2.2.1 x.2.2.2.2.2.2.1 x.2.2.2.2.2.2.2.1 x.2.2.2.2.2.2.2.2.1 x.2.2.2.2.2.2.2.2.2.2.1)
 (λx=>(jc x.1 x.2.1 x.2.2.1 x.2.2.2.1 x.2.2.2.2.1 x.2.2.2.2.2.1 (sj x.1 x.2.2.1 x.2.2.2.1 x.2.2.2.2.1 x.2.2.2.2.2.1 x.2.2.2.2.2.2.1 x.2.2.2.2.2.2.2.1 x.2.2.2.2.2.2.2.2.1 x.2.2.2.2.2.2.2.2.2.1 x.2.2.2.2.2.2.2.2.2.2.1),()))
noncomputable abbrev Za (m:Nat):Spec:=En (.pair Fb (.pair tb (.pair tL (.pair tL (.pair tI (.pair oR .unit)))))) oR false false (λx=>ZF x.1 x.2.1 x.2.2.1 x.2.2.2.1 x.2.2.2.2.1 x.2.2.2.2.2.1/\(x.2.2.2.2.1-List.length x.2.2.2.1).toNat<m) (λx=>HN x.1 x.2.1 x.2.2.1 x.2.2.2.1 x.2.2.2.2.1 x.2.2.2.2.2.1)
noncomputable abbrev dG:Spec:=En (.pair oR .unit) .bool false true (λ_=>True) (λx=>Jy x.1)
theorem Alo (s:List Int) (P:Bool->Prop):(Cz (λ(v2:Int×PUnit) (k3:Int×PUnit->Prop)=>Br (decide (v2.1<(↑s.length:Int))) (∃(y4:Int),idx s v2.1=some y4/\Br (v2.1 !=y4) (P false) (k3 (IntKind.i64.wrap (v2.1+(1:Int)),()))) (P true)) ((0:Int),PUnit.unit))=fnW Ej (look []) q7 Tryz.f120 (s,()) P:=by kernel_rfl
theorem Alk (v:Int×Int×List Int×Bool×Bool×Unit) (P:Bool->Prop):(Br v.2.2.2.1 (P true) (Br (decide (v.2.1>(0:Int))) (P !v.2.2.2.2.1) (P false)))=fnW Ej (look []) dG Tryz.f92 (v,()) P:=by kernel_rfl
abbrev Oo:Type:=Int×Int×ByteArray×List (List Int)×Int×Int×List Int×Bool×Bool×Int×Int×Bool×Bool×List Int×PUnit
abbrev dj:Type:=Int×Int×List Int×Bool×Bool×PUnit
abbrev TG (m:Nat) (v11:Oo) (ts:List (List Int×List (List Int)×List Int×Unit)) (Sh:List Int) (Ok:(List Int×PUnit)×PUnit) (Qu:Int) (depth:Int) (Ly:List Int) (Ji:Int) (s:List Int) (w:List Int) (Lg:Bool) (Xj:List Int) (aG:(List Int×PUnit)×PUnit) (Xk:dj):Prop:= ∃(Xc:dj),(Za m).fn ((v11.2.1,v11.2.2.1,v11.2.2.2.1,()),ts,Sh,List.take (Ok.1.1++List.take 1 (List.drop 0 [Qu])).length (List.drop 0 (Ok.1.1++List.take 1 (List.drop 0 [Qu]))),depth,(v11.2.2.2.2.1,v11.2.2.2.2.2.1,v11.2.2.2.2.2.2.1,v11.2.2.2.2.2.2.2.1,v11.2.2.2.2.2.2.2.2.1,()),())=some Xc/\(∃(Sw:Int),idx Ly v11.1=some Sw/\([]:List (Nat×Nat))= []/\(Sw,())=(Ji,PUnit.unit))/\(∃(Sw:Int),idx Ly v11.1=some Sw/\([]:List (Nat×Nat))= []/\(Sw,())=(Qu,PUnit.unit))/\ [(0,v11.2.2.2.2.2.2.2.2.2.2.2.2.2.1.length)]= [(0,v11.2.2.2.2.2.2.2.2.2.2.2.2.2.1.length)]/\(ts,s,w,depth,Ly,v11.1,v11.1,Ly,(↑Ly.length:Int),decide (v11.1<(↑Ly.length:Int)),decide (v11.1<(↑Ly.length:Int)),v11.2.2.2.2.1,v11.2.2.2.2.2.1,v11.2.2.2.2.2.2.1,v11.2.2.2.2.2.2.2.1,v11.2.2.2.2.2.2.2.2.1,Lg,!Lg,!Lg,v11.2.1,v11.2.2.1,v11.2.2.2.1,ts,v11.2.1,v11.2.2.1,v11.2.2.2.1,s,Ly,v11.1,Ji,Ji,Sh,w,Ly,v11.1,Qu,Qu,List.take 1 (List.drop 0 [Qu]),List.take (Ok.1.1++List.take 1 (List.drop 0 [Qu])).length (List.drop 0 (Ok.1.1++List.take 1 (List.drop 0 [Qu]))),depth,v11.2.2.2.2.1,v11.2.2.2.2.2.1,v11.2.2.2.2.2.2.1,v11.2.2.2.2.2.2.2.1,v11.2.2.2.2.2.2.2.2.1,Xc,v11.2.1,v11.2.2.1,v11.2.2.2.1,Xc.1,Xc.2.1,Xc.2.2.1,Xc.2.2.2.1,Xc.2.2.2.2.1,v11.2.2.2.2.2.2.2.2.2.1,v11.2.2.2.2.2.2.2.2.2.2.1,v11.2.2.2.2.2.2.2.2.2.2.2.1,v11.2.2.2.2.2.2.2.2.2.2.2.2.1,v11.2.2.2.2.2.2.2.2.2.2.2.2.2.1,())=(ts,s,w,depth,Ly,v11.1,v11.1,Ly,(↑Ly.length:Int),decide (v11.1<(↑Ly.length:Int)),decide (v11.1<(↑Ly.length:Int)),v11.2.2.2.2.1,v11.2.2.2.2.2.1,v11.2.2.2.2.2.2.1,v11.2.2.2.2.2.2.2.1,v11.2.2.2.2.2.2.2.2.1,Lg,!Lg,!Lg,v11.2.1,v11.2.2.1,v11.2.2.2.1,ts,v11.2.1,v11.2.2.1,v11.2.2.2.1,s,Ly,v11.1,Ji,Ji,Xj,w,Ly,v11.1,Qu,Qu,List.take 1 (List.drop 0 [Qu]),List.take (aG.1.1++List.take 1 (List.drop 0 [Qu])).length (List.drop 0 (aG.1.1++List.take 1 (List.drop 0 [Qu]))),depth,v11.2.2.2.2.1,v11.2.2.2.2.2.1,v11.2.2.2.2.2.2.1,v11.2.2.2.2.2.2.2.1,v11.2.2.2.2.2.2.2.2.1,Xk,v11.2.1,v11.2.2.1,v11.2.2.2.1,Xk.1,Xk.2.1,Xk.2.2.1,Xk.2.2.2.1,Xk.2.2.2.2.1,v11.2.2.2.2.2.2.2.2.2.1,v11.2.2.2.2.2.2.2.2.2.2.1,v11.2.2.2.2.2.2.2.2.2.2.2.1,v11.2.2.2.2.2.2.2.2.2.2.2.2.1,v11.2.2.2.2.2.2.2.2.2.2.2.2.2.1,PUnit.unit)
abbrev TH (m:Nat) (v10:Oo) (ts:List (List Int×List (List Int)×List Int×Unit)) (Xk:List Int) (Sh:(List Int×PUnit)×PUnit) (Ji:Int) (depth:Int) (y9:List Int) (Lg:Int) (s:List Int) (w:List Int) (dN:Bool) (Qu:List Int) (Xj:(List Int×PUnit)×PUnit) (aG:dj):Prop:= ∃(Ok:dj),(Za m).fn ((v10.2.1,v10.2.2.1,v10.2.2.2.1,()),ts,Xk,List.take (Sh.1.1++List.take 1 (List.drop 0 [Ji])).length (List.drop 0 (Sh.1.1++List.take 1 (List.drop 0 [Ji]))),depth,(v10.2.2.2.2.1,v10.2.2.2.2.2.1,v10.2.2.2.2.2.2.1,v10.2.2.2.2.2.2.2.1,v10.2.2.2.2.2.2.2.2.1,()),())=some Ok/\(∃(Xc:Int),idx y9 v10.1=some Xc/\([]:List (Nat×Nat))= []/\(Xc,())=(Lg,PUnit.unit))/\(∃(Xc:Int),idx y9 v10.1=some Xc/\([]:List (Nat×Nat))= []/\(Xc,())=(Ji,PUnit.unit))/\ [(0,v10.2.2.2.2.2.2.2.2.2.2.2.2.2.1.length)]= [(0,v10.2.2.2.2.2.2.2.2.2.2.2.2.2.1.length)]/\(ts,s,w,depth,y9,v10.1,v10.1,y9,(↑y9.length:Int),decide (v10.1<(↑y9.length:Int)),decide (v10.1<(↑y9.length:Int)),v10.2.2.2.2.1,v10.2.2.2.2.2.1,v10.2.2.2.2.2.2.1,v10.2.2.2.2.2.2.2.1,v10.2.2.2.2.2.2.2.2.1,dN,!dN,!dN,v10.2.1,v10.2.2.1,v10.2.2.2.1,ts,v10.2.1,v10.2.2.1,v10.2.2.2.1,s,y9,v10.1,Lg,Lg,Xk,w,y9,v10.1,Ji,Ji,List.take 1 (List.drop 0 [Ji]),List.take (Sh.1.1++List.take 1 (List.drop 0 [Ji])).length (List.drop 0 (Sh.1.1++List.take 1 (List.drop 0 [Ji]))),depth,v10.2.2.2.2.1,v10.2.2.2.2.2.1,v10.2.2.2.2.2.2.1,v10.2.2.2.2.2.2.2.1,v10.2.2.2.2.2.2.2.2.1,Ok,v10.2.1,v10.2.2.1,v10.2.2.2.1,Ok.1,Ok.2.1,Ok.2.2.1,Ok.2.2.2.1,Ok.2.2.2.2.1,v10.2.2.2.2.2.2.2.2.2.1,v10.2.2.2.2.2.2.2.2.2.2.1,v10.2.2.2.2.2.2.2.2.2.2.2.1,v10.2.2.2.2.2.2.2.2.2.2.2.2.1,v10.2.2.2.2.2.2.2.2.2.2.2.2.2.1,())=(ts,s,w,depth,y9,v10.1,v10.1,y9,(↑y9.length:Int),decide (v10.1<(↑y9.length:Int)),decide (v10.1<(↑y9.length:Int)),v10.2.2.2.2.1,v10.2.2.2.2.2.1,v10.2.2.2.2.2.2.1,v10.2.2.2.2.2.2.2.1,v10.2.2.2.2.2.2.2.2.1,dN,!dN,!dN,v10.2.1,v10.2.2.1,v10.2.2.2.1,ts,v10.2.1,v10.2.2.1,v10.2.2.2.1,s,y9,v10.1,Lg,Lg,Qu,w,y9,v10.1,Ji,Ji,List.take 1 (List.drop 0 [Ji]),List.take (Xj.1.1++List.take 1 (List.drop 0 [Ji])).length (List.drop 0 (Xj.1.1++List.take 1 (List.drop 0 [Ji]))),depth,v10.2.2.2.2.1,v10.2.2.2.2.2.1,v10.2.2.2.2.2.2.1,v10.2.2.2.2.2.2.2.1,v10.2.2.2.2.2.2.2.2.1,aG,v10.2.1,v10.2.2.1,v10.2.2.2.1,aG.1,aG.2.1,aG.2.2.1,aG.2.2.2.1,aG.2.2.2.2.1,v10.2.2.2.2.2.2.2.2.2.1,v10.2.2.2.2.2.2.2.2.2.2.1,v10.2.2.2.2.2.2.2.2.2.2.2.1,v10.2.2.2.2.2.2.2.2.2.2.2.2.1,v10.2.2.2.2.2.2.2.2.2.2.2.2.2.1,PUnit.unit)
abbrev bg (v11:Oo):Prop:=(([]:List (Nat×Nat))= []/\(v11.2.2.2.2.1,v11.2.2.2.2.2.1,v11.2.2.2.2.2.2.1,v11.2.2.2.2.2.2.2.1,v11.2.2.2.2.2.2.2.2.1,())=(v11.2.2.2.2.1,v11.2.2.2.2.2.1,v11.2.2.2.2.2.2.1,v11.2.2.2.2.2.2.2.1,v11.2.2.2.2.2.2.2.2.1,PUnit.unit))
abbrev bh (v10:Oo):Prop:=(([]:List (Nat×Nat))= []/\(v10.2.2.2.2.1,v10.2.2.2.2.2.1,v10.2.2.2.2.2.2.1,v10.2.2.2.2.2.2.2.1,v10.2.2.2.2.2.2.2.2.1,())=(v10.2.2.2.2.1,v10.2.2.2.2.2.1,v10.2.2.2.2.2.2.1,v10.2.2.2.2.2.2.2.1,v10.2.2.2.2.2.2.2.2.1,PUnit.unit))
abbrev sU (v11:Oo) (Ly:List Int) (Ji:Int) (Qu:Int) (Ok:(List Int×PUnit)×PUnit) (m:Nat) (ts:List (List Int×List (List Int)×List Int×Unit)) (Sh:List Int) (depth:Int) (s:List Int) (w:List Int) (Lg:Bool) (Xj:List Int) (aG:(List Int×PUnit)×PUnit) (Xk:dj):Prop:=(([]:List (Nat×Nat))= []/\(v11.2.1,v11.2.2.1,v11.2.2.2.1,())=(v11.2.1,v11.2.2.1,v11.2.2.2.1,PUnit.unit))/\(∃(Xc:Int),idx Ly v11.1=some Xc/\([]:List (Nat×Nat))= []/\(Xc,())=(Ji,PUnit.unit))/\(∃(Xc:Int),idx Ly v11.1=some Xc/\([]:List (Nat×Nat))= []/\(Xc,())=(Qu,PUnit.unit))/\(bg v11)/\0=0/\Ok.1.1.length=Ok.1.1.length/\Ok.1.1.length+(List.take 1 (List.drop 0 [Qu])).length<=Cq/\(([]:List (Nat×Nat))= []/\(v11.2.1,v11.2.2.1,v11.2.2.2.1,())=(v11.2.1,v11.2.2.1,v11.2.2.2.1,PUnit.unit))/\(∃(Xc:Int),idx Ly v11.1=some Xc/\([]:List (Nat×Nat))= []/\(Xc,())=(Ji,PUnit.unit))/\(∃(Xc:Int),idx Ly v11.1=some Xc/\([]:List (Nat×Nat))= []/\(Xc,())=(Qu,PUnit.unit))/\(bg v11)/\(TG m v11 ts Sh Ok Qu depth Ly Ji s w Lg Xj aG Xk)
abbrev sV (v10:Oo) (y9:List Int) (Lg:Int) (Ji:Int) (Sh:(List Int×PUnit)×PUnit) (m:Nat) (ts:List (List Int×List (List Int)×List Int×Unit)) (Xk:List Int) (depth:Int) (s:List Int) (w:List Int) (dN:Bool) (Qu:List Int) (Xj:(List Int×PUnit)×PUnit) (aG:dj):Prop:=(([]:List (Nat×Nat))= []/\(v10.2.1,v10.2.2.1,v10.2.2.2.1,())=(v10.2.1,v10.2.2.1,v10.2.2.2.1,PUnit.unit))/\(∃(Ok:Int),idx y9 v10.1=some Ok/\([]:List (Nat×Nat))= []/\(Ok,())=(Lg,PUnit.unit))/\(∃(Ok:Int),idx y9 v10.1=some Ok/\([]:List (Nat×Nat))= []/\(Ok,())=(Ji,PUnit.unit))/\(bh v10)/\0=0/\Sh.1.1.length=Sh.1.1.length/\Sh.1.1.length+(List.take 1 (List.drop 0 [Ji])).length<=Cq/\(([]:List (Nat×Nat))= []/\(v10.2.1,v10.2.2.1,v10.2.2.2.1,())=(v10.2.1,v10.2.2.1,v10.2.2.2.1,PUnit.unit))/\(∃(Ok:Int),idx y9 v10.1=some Ok/\([]:List (Nat×Nat))= []/\(Ok,())=(Lg,PUnit.unit))/\(∃(Ok:Int),idx y9 v10.1=some Ok/\([]:List (Nat×Nat))= []/\(Ok,())=(Ji,PUnit.unit))/\(bh v10)/\(TH m v10 ts Xk Sh Ji depth y9 Lg s w dN Qu Xj aG)
abbrev bj (v11:Oo):Prop:=(([]:List (Nat×Nat))= []/\(v11.2.1,v11.2.2.1,v11.2.2.2.1,())=(v11.2.1,v11.2.2.1,v11.2.2.2.1,PUnit.unit))
abbrev bk (v10:Oo):Prop:=(([]:List (Nat×Nat))= []/\(v10.2.1,v10.2.2.1,v10.2.2.2.1,())=(v10.2.1,v10.2.2.1,v10.2.2.2.1,PUnit.unit))
abbrev sW (Ly:List Int) (v11:Oo) (Ji:Int):Prop:=(∃(Ok:Int),idx Ly v11.1=some Ok/\([]:List (Nat×Nat))= []/\(Ok,())=(Ji,PUnit.unit))
abbrev o1 (Ly:List Int) (v11:Oo) (Qu:Int):Prop:=(∃(Ok:Int),idx Ly v11.1=some Ok/\([]:List (Nat×Nat))= []/\(Ok,())=(Qu,PUnit.unit))
abbrev o3 (y9:List Int) (v10:Oo) (Lg:Int):Prop:=(∃(Sh:Int),idx y9 v10.1=some Sh/\([]:List (Nat×Nat))= []/\(Sh,())=(Lg,PUnit.unit))
abbrev o4 (y9:List Int) (v10:Oo) (Ji:Int):Prop:=(∃(Sh:Int),idx y9 v10.1=some Sh/\([]:List (Nat×Nat))= []/\(Sh,())=(Ji,PUnit.unit))
theorem Am0 {m:Nat} (p:Int×ByteArray×List (List Int)×Unit) (ts:List (List Int×List (List Int)×List Int×Unit)) (s w:List Int) (depth:Int) (v:Int×Int×List Int×Bool×Bool×Unit) (P:(Int×Int×List Int×Bool×Bool×Unit)->Prop):(Br (v.1==(20000:Int)) (P (v.1,v.2.1,v.2.2.1,true,v.2.2.2.2.1,())) (∃(y8:Int),bm.fn (ts,s,())=some y8/\Br (decide (IntKind.i64.wrap ((↑w.length:Int)+y8)>depth)) (P (IntKind.i64.wrap (v.1+(1:Int)),v.2.1,v.2.2.1,v.2.2.2.1,v.2.2.2.2.1,())) (Br ((↑w.length:Int)==depth) (∃(y9:List Int),Yp.fn (p.1,())=some y9/\ ∃(Ly:Bool),Bo.fn (s,y9,())=some Ly/\Br Ly (Br (v.2.1==(0:Int)) (∃(bu:(List Int×PUnit)×PUnit),Ia.fn (w,())=some bu/\P (IntKind.i64.wrap (v.1+(1:Int)),IntKind.i64.wrap (v.2.1+(1:Int)),List.take bu.1.1.length (List.drop 0 bu.1.1),v.2.2.2.1,v.2.2.2.2.1,())) (P (IntKind.i64.wrap (v.1+(1:Int)),IntKind.i64.wrap (v.2.1+(1:Int)),v.2.2.1,v.2.2.2.1,v.2.2.2.2.1,()))) (P (IntKind.i64.wrap (v.1+(1:Int)),v.2.1,v.2.2.1,v.2.2.2.1,v.2.2.2.2.1,()))) (Br (decide ((↑w.length:Int)>(0:Int))) (∃(y9:Int),idx w (IntKind.i64.wrap ((↑w.length:Int)-(1:Int)))=some y9/\ ∃(Ly:List Int),db.fn ((p.1,p.2.1,p.2.2.1,()),y9,())=some Ly/\0=0/\0=([]:List Int).length/\Cz (λ(v11:Oo) (k12:Oo->Prop)=>Br (decide (v11.1<(↑Ly.length:Int))) (∃(Lg:Bool),dG.fn ((v11.2.2.2.2.1,v11.2.2.2.2.2.1,v11.2.2.2.2.2.2.1,v11.2.2.2.2.2.2.2.1,v11.2.2.2.2.2.2.2.2.1,()),())=some Lg/\Br (!Lg) (∃(Ji:Int),idx Ly v11.1=some Ji/\ ∃(Qu:Int),idx Ly v11.1=some Qu/\ ∃(Xj:List Int),Mp.fn ((v11.2.1,v11.2.2.1,v11.2.2.2.1,()),s,Ji,())=some Xj/\ ∃(aG:(List Int×PUnit)×PUnit),Ia.fn (w,())=some aG/\0=0/\aG.1.1.length=aG.1.1.length/\aG.1.1.length+(List.take 1 (List.drop 0 [Qu])).length<=Cq/\ ∃(Xk:dj),(Za m).fn ((v11.2.1,v11.2.2.1,v11.2.2.2.1,()),ts,Xj,List.take (aG.1.1++List.take 1 (List.drop 0 [Qu])).length (List.drop 0 (aG.1.1++List.take 1 (List.drop 0 [Qu]))),depth,(v11.2.2.2.2.1,v11.2.2.2.2.2.1,v11.2.2.2.2.2.2.1,v11.2.2.2.2.2.2.2.1,v11.2.2.2.2.2.2.2.2.1,()),())=some Xk/\(0=0/\v11.2.2.2.2.2.2.2.2.2.2.2.2.2.1.length=v11.2.2.2.2.2.2.2.2.2.2.2.2.2.1.length/\k12 (IntKind.i64.wrap (v11.1+(1:Int)),v11.2.1,v11.2.2.1,v11.2.2.2.1,Xk.1,Xk.2.1,Xk.2.2.1,Xk.2.2.2.1,Xk.2.2.2.2.1,v11.2.2.2.2.2.2.2.2.2.1,v11.2.2.2.2.2.2.2.2.2.2.1,v11.2.2.2.2.2.2.2.2.2.2.2.1,v11.2.2.2.2.2.2.2.2.2.2.2.2.1,v11.2.2.2.2.2.2.2.2.2.2.2.2.2.1,()))/\(bj v11)/\(bj v11)/\(∃(Sh:Int),idx Ly v11.1=some Sh/\([]:List (Nat×Nat))= []/\(Sh,())=(Ji,PUnit.unit))/\(([]:List (Nat×Nat))= []/\(Ji,())=(Ji,PUnit.unit))/\(∃(Sh:Int),idx Ly v11.1=some Sh/\([]:List (Nat×Nat))= []/\(Sh,())=(Qu,PUnit.unit))/\(([]:List (Nat×Nat))= []/\(Qu,())=(Qu,PUnit.unit))/\(bg v11)/\(∃(Sh:List Int),Mp.fn ((v11.2.1,v11.2.2.1,v11.2.2.2.1,()),s,Ji,())=some Sh/\(bj v11)/\(sW Ly v11 Ji)/\(o1 Ly v11 Qu)/\(([]:List (Nat×Nat))= []/\(Qu,())=(Qu,PUnit.unit))/\(bg v11)/\(∃(Ok:(List Int×PUnit)×PUnit),Ia.fn (w,())=some Ok/\(bj v11)/\(∃(Xc:Int),idx Ly v11.1=some Xc/\([]:List (Nat×Nat))= []/\(Xc,())=(Ji,PUnit.unit))/\(∃(Xc:Int),idx Ly v11.1=some Xc/\([]:List (Nat×Nat))= []/\(Xc,())=(Qu,PUnit.unit))/\(([]:List (Nat×Nat))= []/\(Qu,())=(Qu,PUnit.unit))/\(bg v11)/\(sU v11 Ly Ji Qu Ok m ts Sh depth s w Lg Xj aG Xk))/\(bj v11)/\(sW Ly v11 Ji)/\(o1 Ly v11 Qu)/\(bg v11)/\ ∃(Ok:(List Int×PUnit)×PUnit),Ia.fn (w,())=some Ok/\(sU v11 Ly Ji Qu Ok m ts Sh depth s w Lg Xj aG Xk))/\(bj v11)/\(bj v11)/\(∃(Sh:Int),idx Ly v11.1=some Sh/\([]:List (Nat×Nat))= []/\(Sh,())=(Ji,PUnit.unit))/\(([]:List (Nat×Nat))= []/\(Ji,())=(Ji,PUnit.unit))/\(∃(Sh:Int),idx Ly v11.1=some Sh/\([]:List (Nat×Nat))= []/\(Sh,())=(Qu,PUnit.unit))/\(bg v11)/\ ∃(Sh:List Int),Mp.fn ((v11.2.1,v11.2.2.1,v11.2.2.2.1,()),s,Ji,())=some Sh/\(bj v11)/\(sW Ly v11 Ji)/\(o1 Ly v11 Qu)/\(bg v11)/\ ∃(Ok:(List Int×PUnit)×PUnit),Ia.fn (w,())=some Ok/\(sU v11 Ly Ji Qu Ok m ts Sh depth s w Lg Xj aG Xk)) (P (v11.2.2.2.2.1,v11.2.2.2.2.2.1,v11.2.2.2.2.2.2.1,v11.2.2.2.2.2.2.2.1,v11.2.2.2.2.2.2.2.2.1,()))) (P (v11.2.2.2.2.1,v11.2.2.2.2.2.1,v11.2.2.2.2.2.2.1,v11.2.2.2.2.2.2.2.1,v11.2.2.2.2.2.2.2.2.1,()))) ((0:Int),p.1,p.2.1,p.2.2.1,IntKind.i64.wrap (v.1+(1:Int)),v.2.1,v.2.2.1,v.2.2.2.1,v.2.2.2.2.1,Int.ofNat (nat_lit 0),Int.ofNat (nat_lit 0),false,false,[],PUnit.unit)) (∃(y9:List Int),db.fn ((p.1,p.2.1,p.2.2.1,()),(0:Int),())=some y9/\0=0/\0=([]:List Int).length/\Cz (λ(v10:Oo) (k11:Oo->Prop)=>Br (decide (v10.1<(↑y9.length:Int))) (∃(dN:Bool),dG.fn ((v10.2.2.2.2.1,v10.2.2.2.2.2.1,v10.2.2.2.2.2.2.1,v10.2.2.2.2.2.2.2.1,v10.2.2.2.2.2.2.2.2.1,()),())=some dN/\Br (!dN) (∃(Lg:Int),idx y9 v10.1=some Lg/\ ∃(Ji:Int),idx y9 v10.1=some Ji/\ ∃(Qu:List Int),Mp.fn ((v10.2.1,v10.2.2.1,v10.2.2.2.1,()),s,Lg,())=some Qu/\ ∃(Xj:(List Int×PUnit)×PUnit),Ia.fn (w,())=some Xj/\0=0/\Xj.1.1.length=Xj.1.1.length/\Xj.1.1.length+(List.take 1 (List.drop 0 [Ji])).length<=Cq/\ ∃(aG:dj),(Za m).fn ((v10.2.1,v10.2.2.1,v10.2.2.2.1,()),ts,Qu,List.take (Xj.1.1++List.take 1 (List.drop 0 [Ji])).length (List.drop 0 (Xj.1.1++List.take 1 (List.drop 0 [Ji]))),depth,(v10.2.2.2.2.1,v10.2.2.2.2.2.1,v10.2.2.2.2.2.2.1,v10.2.2.2.2.2.2.2.1,v10.2.2.2.2.2.2.2.2.1,()),())=some aG/\(0=0/\v10.2.2.2.2.2.2.2.2.2.2.2.2.2.1.length=v10.2.2.2.2.2.2.2.2.2.2.2.2.2.1.length/\k11 (IntKind.i64.wrap (v10.1+(1:Int)),v10.2.1,v10.2.2.1,v10.2.2.2.1,aG.1,aG.2.1,aG.2.2.1,aG.2.2.2.1,aG.2.2.2.2.1,v10.2.2.2.2.2.2.2.2.2.1,v10.2.2.2.2.2.2.2.2.2.2.1,v10.2.2.2.2.2.2.2.2.2.2.2.1,v10.2.2.2.2.2.2.2.2.2.2.2.2.1,v10.2.2.2.2.2.2.2.2.2.2.2.2.2.1,()))/\(bk v10)/\(bk v10)/\(∃(Xk:Int),idx y9 v10.1=some Xk/\([]:List (Nat×Nat))= []/\(Xk,())=(Lg,PUnit.unit))/\(([]:List (Nat×Nat))= []/\(Lg,())=(Lg,PUnit.unit))/\(∃(Xk:Int),idx y9 v10.1=some Xk/\([]:List (Nat×Nat))= []/\(Xk,())=(Ji,PUnit.unit))/\(([]:List (Nat×Nat))= []/\(Ji,())=(Ji,PUnit.unit))/\(bh v10)/\(∃(Xk:List Int),Mp.fn ((v10.2.1,v10.2.2.1,v10.2.2.2.1,()),s,Lg,())=some Xk/\(bk v10)/\(o3 y9 v10 Lg)/\(o4 y9 v10 Ji)/\(([]:List (Nat×Nat))= []/\(Ji,())=(Ji,PUnit.unit))/\(bh v10)/\(∃(Sh:(List Int×PUnit)×PUnit),Ia.fn (w,())=some Sh/\(bk v10)/\(∃(Ok:Int),idx y9 v10.1=some Ok/\([]:List (Nat×Nat))= []/\(Ok,())=(Lg,PUnit.unit))/\(∃(Ok:Int),idx y9 v10.1=some Ok/\([]:List (Nat×Nat))= []/\(Ok,())=(Ji,PUnit.unit))/\(([]:List (Nat×Nat))= []/\(Ji,())=(Ji,PUnit.unit))/\(bh v10)/\(sV v10 y9 Lg Ji Sh m ts Xk depth s w dN Qu Xj aG))/\(bk v10)/\(o3 y9 v10 Lg)/\(o4 y9 v10 Ji)/\(bh v10)/\ ∃(Sh:(List Int×PUnit)×PUnit),Ia.fn (w,())=some Sh/\(sV v10 y9 Lg Ji Sh m ts Xk depth s w dN Qu Xj aG))/\(bk v10)/\(bk v10)/\(∃(Xk:Int),idx y9 v10.1=some Xk/\([]:List (Nat×Nat))= []/\(Xk,())=(Lg,PUnit.unit))/\(([]:List (Nat×Nat))= []/\(Lg,())=(Lg,PUnit.unit))/\(∃(Xk:Int),idx y9 v10.1=some Xk/\([]:List (Nat×Nat))= []/\(Xk,())=(Ji,PUnit.unit))/\(bh v10)/\ ∃(Xk:List Int),Mp.fn ((v10.2.1,v10.2.2.1,v10.2.2.2.1,()),s,Lg,())=some Xk/\(bk v10)/\(o3 y9 v10 Lg)/\(o4 y9 v10 Ji)/\(bh v10)/\ ∃(Sh:(List Int×PUnit)×PUnit),Ia.fn (w,())=some Sh/\(sV v10 y9 Lg Ji Sh m ts Xk depth s w dN Qu Xj aG)) (P (v10.2.2.2.2.1,v10.2.2.2.2.2.1,v10.2.2.2.2.2.2.1,v10.2.2.2.2.2.2.2.1,v10.2.2.2.2.2.2.2.2.1,()))) (P (v10.2.2.2.2.1,v10.2.2.2.2.2.1,v10.2.2.2.2.2.2.1,v10.2.2.2.2.2.2.2.1,v10.2.2.2.2.2.2.2.2.1,()))) ((0:Int),p.1,p.2.1,p.2.2.1,IntKind.i64.wrap (v.1+(1:Int)),v.2.1,v.2.2.1,v.2.2.2.1,v.2.2.2.2.1,Int.ofNat (nat_lit 0),Int.ofNat (nat_lit 0),false,false,[],PUnit.unit))))))=fnW Acz (look [(48,bm),(115,Yp),(101,Bo),(116,Ia),(117,db),(118,Mp),(92,dG),(89,Pf.q (Za m))]) (Za (m+1)) Tryz.f89 (p,ts,s,w,depth,v,()) P:=by kernel_rfl
abbrev ao:Type:=Int×List Int×Int×ByteArray×List (List Int)×Option (List (List Int×List (List Int)×List Int×PUnit)×List (ByteArray->Option Int)×PUnit)×Int×Bool×Int×Int×Bool×PUnit
abbrev oP:Type:=(Int×ByteArray×List (List Int)×Option (List (List Int×List (List Int)×List Int×PUnit)×List (ByteArray->Option Int)×PUnit)×Int×Bool×List Int×Int×Int×Bool×Bool×PUnit)×PUnit
theorem Agj {m:Nat} (n:Int) (str:ByteArray) (g:List (List Int)) (b:Option (List (List Int×List (List Int)×List Int×Unit)×List (ByteArray->Option Int)×Unit)) (Dz:Int) (every:Bool) (w:List Int) (nodes found:Int) (ab:Bool) (x:List Int) (P:((Int×ByteArray×List (List Int)×Option BB×Int×Bool×List Int×Int×Int×Bool×Bool×Unit)×Unit)->Prop):(Br (nodes==(20000:Int)) (P ((n,str,g,b,Dz,every,List.take w.length (List.drop 0 w),nodes,found,true,true,()),())) (∃(Lg:Int),Tg.fn (List.take w.length (List.drop 0 w),())=some Lg/\ ∃(Ji:Int),bn.fn (b,x,())=some Ji/\Br (decide (IntKind.i64.wrap (Lg+Ji)>Dz)) (P ((n,str,g,b,Dz,every,List.take w.length (List.drop 0 w),IntKind.i64.wrap (nodes+(1:Int)),found,ab,false,()),())) (∃(Qu:Bool),q7.fn (x,())=some Qu/\Br Qu (Br (Lg==Dz) (P ((n,str,g,b,Dz,every,List.take w.length (List.drop 0 w),IntKind.i64.wrap (nodes+(1:Int)),IntKind.i64.wrap (found+(1:Int)),ab,!every,()),())) (Br (Lg==Dz) (P ((n,str,g,b,Dz,every,List.take w.length (List.drop 0 w),IntKind.i64.wrap (nodes+(1:Int)),found,ab,false,()),())) (Br (decide (Lg>(0:Int))) (((0:Int)<=IntKind.i64.wrap (Lg-(1:Int))/\IntKind.i64.wrap (Lg-(1:Int))<(↑w.length:Int))/\ ∃(Xj:Int),w[0+(IntKind.i64.wrap (Lg-(1:Int))).toNat]?=some Xj/\ ∃(aG:List Int),Mc.fn ((↑g.length:Int),())=some aG/\0=0/\(List.take w.length (List.drop 0 w)).length=(List.take w.length (List.drop 0 w)).length/\Cz (λ(Na:ao) (k19:ao->Prop)=>Br (decide (Na.1<(↑aG.length:Int))) (∃(Ok:Int),idx aG Na.1=some Ok/\Br (Ok==IntKind.i64.wrap ((0:Int)-Xj)) (0=0/\(List.take Na.2.1.length (List.drop 0 Na.2.1)).length=(List.take Na.2.1.length (List.drop 0 Na.2.1)).length/\k19 (IntKind.i64.wrap (Na.1+(1:Int)),List.take Na.2.1.length (List.drop 0 Na.2.1),Na.2.2.1,Na.2.2.2.1,Na.2.2.2.2.1,Na.2.2.2.2.2.1,Na.2.2.2.2.2.2.1,Na.2.2.2.2.2.2.2.1,Na.2.2.2.2.2.2.2.2.1,Na.2.2.2.2.2.2.2.2.2.1,Na.2.2.2.2.2.2.2.2.2.2.1,())) (0=0/\Na.2.1.length=Na.2.1.length/\Na.2.1.length+(List.take 1 (List.drop 0 [Ok])).length<=Cq/\ ∃(Xc:List Int),Le.fn (Na.2.2.2.2.1,Ok,())=some Xc/\ ∃(Sw:List Int),Nl.fn (x,Xc,())=some Sw/\0=0/\(Na.2.1++List.take 1 (List.drop 0 [Ok])).length=(Na.2.1++List.take 1 (List.drop 0 [Ok])).length/\ ∃(Xo:oP),(Uk m).fn (Na.2.2.1,Na.2.2.2.1,Na.2.2.2.2.1,Na.2.2.2.2.2.1,Na.2.2.2.2.2.2.1,Na.2.2.2.2.2.2.2.1,Na.2.1++List.take 1 (List.drop 0 [Ok]),Na.2.2.2.2.2.2.2.2.1,Na.2.2.2.2.2.2.2.2.2.1,Na.2.2.2.2.2.2.2.2.2.2.1,Sw,())=some Xo/\Br Xo.1.2.2.2.2.2.2.2.2.2.2.1 (P ((Xo.1.1,Xo.1.2.1,Xo.1.2.2.1,Xo.1.2.2.2.1,Xo.1.2.2.2.2.1,Xo.1.2.2.2.2.2.1,List.take Xo.1.2.2.2.2.2.2.1.length (List.drop 0 Xo.1.2.2.2.2.2.2.1),Xo.1.2.2.2.2.2.2.2.1,Xo.1.2.2.2.2.2.2.2.2.1,Xo.1.2.2.2.2.2.2.2.2.2.1,true,()),())) (((0:Int)<=(0:Int)/\(0:Int)<=Lg/\Lg<=(↑Xo.1.2.2.2.2.2.2.1.length:Int))/\0=0/\(List.take (Lg.toNat-Int.toNat (0:Int)) (List.drop (0+Int.toNat (0:Int)) Xo.1.2.2.2.2.2.2.1)).length=(List.take (Lg.toNat-Int.toNat (0:Int)) (List.drop (0+Int.toNat (0:Int)) Xo.1.2.2.2.2.2.2.1)).length/\k19 (IntKind.i64.wrap (Na.1+(1:Int)),List.take (Lg.toNat-Int.toNat (0:Int)) (List.drop (0+Int.toNat (0:Int)) Xo.1.2.2.2.2.2.2.1),Xo.1.1,Xo.1.2.1,Xo.1.2.2.1,Xo.1.2.2.2.1,Xo.1.2.2.2.2.1,Xo.1.2.2.2.2.2.1,Xo.1.2.2.2.2.2.2.2.1,Xo.1.2.2.2.2.2.2.2.2.1,Xo.1.2.2.2.2.2.2.2.2.2.1,())))) (P ((Na.2.2.1,Na.2.2.2.1,Na.2.2.2.2.1,Na.2.2.2.2.2.1,Na.2.2.2.2.2.2.1,Na.2.2.2.2.2.2.2.1,List.take Na.2.1.length (List.drop 0 Na.2.1),Na.2.2.2.2.2.2.2.2.1,Na.2.2.2.2.2.2.2.2.2.1,Na.2.2.2.2.2.2.2.2.2.2.1,false,()),()))) ((0:Int),List.take w.length (List.drop 0 w),n,str,g,b,Dz,every,IntKind.i64.wrap (nodes+(1:Int)),found,ab,PUnit.unit)) (∃(Xj:List Int),Mc.fn ((↑g.length:Int),())=some Xj/\0=0/\(List.take w.length (List.drop 0 w)).length=(List.take w.length (List.drop 0 w)).length/\Cz (λ(Mz:ao) (k18:ao->Prop)=>Br (decide (Mz.1<(↑Xj.length:Int))) (∃(Sh:Int),idx Xj Mz.1=some Sh/\Br (Sh==IntKind.i64.wrap ((0:Int)-(0:Int))) (0=0/\(List.take Mz.2.1.length (List.drop 0 Mz.2.1)).length=(List.take Mz.2.1.length (List.drop 0 Mz.2.1)).length/\k18 (IntKind.i64.wrap (Mz.1+(1:Int)),List.take Mz.2.1.length (List.drop 0 Mz.2.1),Mz.2.2.1,Mz.2.2.2.1,Mz.2.2.2.2.1,Mz.2.2.2.2.2.1,Mz.2.2.2.2.2.2.1,Mz.2.2.2.2.2.2.2.1,Mz.2.2.2.2.2.2.2.2.1,Mz.2.2.2.2.2.2.2.2.2.1,Mz.2.2.2.2.2.2.2.2.2.2.1,())) (0=0/\Mz.2.1.length=Mz.2.1.length/\Mz.2.1.length+(List.take 1 (List.drop 0 [Sh])).length<=Cq/\ ∃(Ok:List Int),Le.fn (Mz.2.2.2.2.1,Sh,())=some Ok/\ ∃(Xc:List Int),Nl.fn (x,Ok,())=some Xc/\0=0/\(Mz.2.1++List.take 1 (List.drop 0 [Sh])).length=(Mz.2.1++List.take 1 (List.drop 0 [Sh])).length/\ ∃(Sw:oP),(Uk m).fn (Mz.2.2.1,Mz.2.2.2.1,Mz.2.2.2.2.1,Mz.2.2.2.2.2.1,Mz.2.2.2.2.2.2.1,Mz.2.2.2.2.2.2.2.1,Mz.2.1++List.take 1 (List.drop 0 [Sh]),Mz.2.2.2.2.2.2.2.2.1,Mz.2.2.2.2.2.2.2.2.2.1,Mz.2.2.2.2.2.2.2.2.2.2.1,Xc,())=some Sw/\Br Sw.1.2.2.2.2.2.2.2.2.2.2.1 (P ((Sw.1.1,Sw.1.2.1,Sw.1.2.2.1,Sw.1.2.2.2.1,Sw.1.2.2.2.2.1,Sw.1.2.2.2.2.2.1,List.take Sw.1.2.2.2.2.2.2.1.length (List.drop 0 Sw.1.2.2.2.2.2.2.1),Sw.1.2.2.2.2.2.2.2.1,Sw.1.2.2.2.2.2.2.2.2.1,Sw.1.2.2.2.2.2.2.2.2.2.1,true,()),())) (((0:Int)<=(0:Int)/\(0:Int)<=Lg/\Lg<=(↑Sw.1.2.2.2.2.2.2.1.length:Int))/\0=0/\(List.take (Lg.toNat-Int.toNat (0:Int)) (List.drop (0+Int.toNat (0:Int)) Sw.1.2.2.2.2.2.2.1)).length=(List.take (Lg.toNat-Int.toNat (0:Int)) (List.drop (0+Int.toNat (0:Int)) Sw.1.2.2.2.2.2.2.1)).length/\k18 (IntKind.i64.wrap (Mz.1+(1:Int)),List.take (Lg.toNat-Int.toNat (0:Int)) (List.drop (0+Int.toNat (0:Int)) Sw.1.2.2.2.2.2.2.1),Sw.1.1,Sw.1.2.1,Sw.1.2.2.1,Sw.1.2.2.2.1,Sw.1.2.2.2.2.1,Sw.1.2.2.2.2.2.1,Sw.1.2.2.2.2.2.2.2.1,Sw.1.2.2.2.2.2.2.2.2.1,Sw.1.2.2.2.2.2.2.2.2.2.1,())))) (P ((Mz.2.2.1,Mz.2.2.2.1,Mz.2.2.2.2.1,Mz.2.2.2.2.2.1,Mz.2.2.2.2.2.2.1,Mz.2.2.2.2.2.2.2.1,List.take Mz.2.1.length (List.drop 0 Mz.2.1),Mz.2.2.2.2.2.2.2.2.1,Mz.2.2.2.2.2.2.2.2.2.1,Mz.2.2.2.2.2.2.2.2.2.2.1,false,()),()))) ((0:Int),List.take w.length (List.drop 0 w),n,str,g,b,Dz,every,IntKind.i64.wrap (nodes+(1:Int)),found,ab,PUnit.unit))))) (Br (Lg==Dz) (P ((n,str,g,b,Dz,every,List.take w.length (List.drop 0 w),IntKind.i64.wrap (nodes+(1:Int)),found,ab,false,()),())) (Br (decide (Lg>(0:Int))) (((0:Int)<=IntKind.i64.wrap (Lg-(1:Int))/\IntKind.i64.wrap (Lg-(1:Int))<(↑w.length:Int))/\ ∃(Xj:Int),w[0+(IntKind.i64.wrap (Lg-(1:Int))).toNat]?=some Xj/\ ∃(aG:List Int),Mc.fn ((↑g.length:Int),())=some aG/\0=0/\(List.take w.length (List.drop 0 w)).length=(List.take w.length (List.drop 0 w)).length/\Cz (λ(Na:ao) (k19:ao->Prop)=>Br (decide (Na.1<(↑aG.length:Int))) (∃(Ok:Int),idx aG Na.1=some Ok/\Br (Ok==IntKind.i64.wrap ((0:Int)-Xj)) (0=0/\(List.take Na.2.1.length (List.drop 0 Na.2.1)).length=(List.take Na.2.1.length (List.drop 0 Na.2.1)).length/\k19 (IntKind.i64.wrap (Na.1+(1:Int)),List.take Na.2.1.length (List.drop 0 Na.2.1),Na.2.2.1,Na.2.2.2.1,Na.2.2.2.2.1,Na.2.2.2.2.2.1,Na.2.2.2.2.2.2.1,Na.2.2.2.2.2.2.2.1,Na.2.2.2.2.2.2.2.2.1,Na.2.2.2.2.2.2.2.2.2.1,Na.2.2.2.2.2.2.2.2.2.2.1,())) (0=0/\Na.2.1.length=Na.2.1.length/\Na.2.1.length+(List.take 1 (List.drop 0 [Ok])).length<=Cq/\ ∃(Xc:List Int),Le.fn (Na.2.2.2.2.1,Ok,())=some Xc/\ ∃(Sw:List Int),Nl.fn (x,Xc,())=some Sw/\0=0/\(Na.2.1++List.take 1 (List.drop 0 [Ok])).length=(Na.2.1++List.take 1 (List.drop 0 [Ok])).length/\ ∃(Xo:oP),(Uk m).fn (Na.2.2.1,Na.2.2.2.1,Na.2.2.2.2.1,Na.2.2.2.2.2.1,Na.2.2.2.2.2.2.1,Na.2.2.2.2.2.2.2.1,Na.2.1++List.take 1 (List.drop 0 [Ok]),Na.2.2.2.2.2.2.2.2.1,Na.2.2.2.2.2.2.2.2.2.1,Na.2.2.2.2.2.2.2.2.2.2.1,Sw,())=some Xo/\Br Xo.1.2.2.2.2.2.2.2.2.2.2.1 (P ((Xo.1.1,Xo.1.2.1,Xo.1.2.2.1,Xo.1.2.2.2.1,Xo.1.2.2.2.2.1,Xo.1.2.2.2.2.2.1,List.take Xo.1.2.2.2.2.2.2.1.length (List.drop 0 Xo.1.2.2.2.2.2.2.1),Xo.1.2.2.2.2.2.2.2.1,Xo.1.2.2.2.2.2.2.2.2.1,Xo.1.2.2.2.2.2.2.2.2.2.1,true,()),())) (((0:Int)<=(0:Int)/\(0:Int)<=Lg/\Lg<=(↑Xo.1.2.2.2.2.2.2.1.length:Int))/\0=0/\(List.take (Lg.toNat-Int.toNat (0:Int)) (List.drop (0+Int.toNat (0:Int)) Xo.1.2.2.2.2.2.2.1)).length=(List.take (Lg.toNat-Int.toNat (0:Int)) (List.drop (0+Int.toNat (0:Int)) Xo.1.2.2.2.2.2.2.1)).length/\k19 (IntKind.i64.wrap (Na.1+(1:Int)),List.take (Lg.toNat-Int.toNat (0:Int)) (List.drop (0+Int.toNat (0:Int)) Xo.1.2.2.2.2.2.2.1),Xo.1.1,Xo.1.2.1,Xo.1.2.2.1,Xo.1.2.2.2.1,Xo.1.2.2.2.2.1,Xo.1.2.2.2.2.2.1,Xo.1.2.2.2.2.2.2.2.1,Xo.1.2.2.2.2.2.2.2.2.1,Xo.1.2.2.2.2.2.2.2.2.2.1,())))) (P ((Na.2.2.1,Na.2.2.2.1,Na.2.2.2.2.1,Na.2.2.2.2.2.1,Na.2.2.2.2.2.2.1,Na.2.2.2.2.2.2.2.1,List.take Na.2.1.length (List.drop 0 Na.2.1),Na.2.2.2.2.2.2.2.2.1,Na.2.2.2.2.2.2.2.2.2.1,Na.2.2.2.2.2.2.2.2.2.2.1,false,()),()))) ((0:Int),List.take w.length (List.drop 0 w),n,str,g,b,Dz,every,IntKind.i64.wrap (nodes+(1:Int)),found,ab,PUnit.unit)) (∃(Xj:List Int),Mc.fn ((↑g.length:Int),())=some Xj/\0=0/\(List.take w.length (List.drop 0 w)).length=(List.take w.length (List.drop 0 w)).length/\Cz (λ(Mz:ao) (k18:ao->Prop)=>Br (decide (Mz.1<(↑Xj.length:Int))) (∃(Sh:Int),idx Xj Mz.1=some Sh/\Br (Sh==IntKind.i64.wrap ((0:Int)-(0:Int))) (0=0/\(List.take Mz.2.1.length (List.drop 0 Mz.2.1)).length=(List.take Mz.2.1.length (List.drop 0 Mz.2.1)).length/\k18 (IntKind.i64.wrap (Mz.1+(1:Int)),List.take Mz.2.1.length (List.drop 0 Mz.2.1),Mz.2.2.1,Mz.2.2.2.1,Mz.2.2.2.2.1,Mz.2.2.2.2.2.1,Mz.2.2.2.2.2.2.1,Mz.2.2.2.2.2.2.2.1,Mz.2.2.2.2.2.2.2.2.1,Mz.2.2.2.2.2.2.2.2.2.1,Mz.2.2.2.2.2.2.2.2.2.2.1,())) (0=0/\Mz.2.1.length=Mz.2.1.length/\Mz.2.1.length+(List.take 1 (List.drop 0 [Sh])).length<=Cq/\ ∃(Ok:List Int),Le.fn (Mz.2.2.2.2.1,Sh,())=some Ok/\ ∃(Xc:List Int),Nl.fn (x,Ok,())=some Xc/\0=0/\(Mz.2.1++List.take 1 (List.drop 0 [Sh])).length=(Mz.2.1++List.take 1 (List.drop 0 [Sh])).length/\ ∃(Sw:oP),(Uk m).fn (Mz.2.2.1,Mz.2.2.2.1,Mz.2.2.2.2.1,Mz.2.2.2.2.2.1,Mz.2.2.2.2.2.2.1,Mz.2.2.2.2.2.2.2.1,Mz.2.1++List.take 1 (List.drop 0 [Sh]),Mz.2.2.2.2.2.2.2.2.1,Mz.2.2.2.2.2.2.2.2.2.1,Mz.2.2.2.2.2.2.2.2.2.2.1,Xc,())=some Sw/\Br Sw.1.2.2.2.2.2.2.2.2.2.2.1 (P ((Sw.1.1,Sw.1.2.1,Sw.1.2.2.1,Sw.1.2.2.2.1,Sw.1.2.2.2.2.1,Sw.1.2.2.2.2.2.1,List.take Sw.1.2.2.2.2.2.2.1.length (List.drop 0 Sw.1.2.2.2.2.2.2.1),Sw.1.2.2.2.2.2.2.2.1,Sw.1.2.2.2.2.2.2.2.2.1,Sw.1.2.2.2.2.2.2.2.2.2.1,true,()),())) (((0:Int)<=(0:Int)/\(0:Int)<=Lg/\Lg<=(↑Sw.1.2.2.2.2.2.2.1.length:Int))/\0=0/\(List.take (Lg.toNat-Int.toNat (0:Int)) (List.drop (0+Int.toNat (0:Int)) Sw.1.2.2.2.2.2.2.1)).length=(List.take (Lg.toNat-Int.toNat (0:Int)) (List.drop (0+Int.toNat (0:Int)) Sw.1.2.2.2.2.2.2.1)).length/\k18 (IntKind.i64.wrap (Mz.1+(1:Int)),List.take (Lg.toNat-Int.toNat (0:Int)) (List.drop (0+Int.toNat (0:Int)) Sw.1.2.2.2.2.2.2.1),Sw.1.1,Sw.1.2.1,Sw.1.2.2.1,Sw.1.2.2.2.1,Sw.1.2.2.2.2.1,Sw.1.2.2.2.2.2.1,Sw.1.2.2.2.2.2.2.2.1,Sw.1.2.2.2.2.2.2.2.2.1,Sw.1.2.2.2.2.2.2.2.2.2.1,())))) (P ((Mz.2.2.1,Mz.2.2.2.1,Mz.2.2.2.2.1,Mz.2.2.2.2.2.1,Mz.2.2.2.2.2.2.1,Mz.2.2.2.2.2.2.2.1,List.take Mz.2.1.length (List.drop 0 Mz.2.1),Mz.2.2.2.2.2.2.2.2.1,Mz.2.2.2.2.2.2.2.2.2.1,Mz.2.2.2.2.2.2.2.2.2.2.1,false,()),()))) ((0:Int),List.take w.length (List.drop 0 w),n,str,g,b,Dz,every,IntKind.i64.wrap (nodes+(1:Int)),found,ab,PUnit.unit)))))))=fnMW (qv [ni+6]) (look [(119,Tg),(52,bn),(120,q7),(106,Mc),(122,Le),(121,Nl),(91,Pf.m (Uk m))]) (Uk (m+1)) Tryz.f91 (n,str,g,b,Dz,every,w,nodes,found,ab,x,()) P:=by kernel_rfl
theorem Akv (s:List Int) (h:short s):fnW Ej (look []) q7 Tryz.f120 (s,()) (λ(z:Bool)=>z=dA s):=by
 unfold short at h
 refine Eq.mp (Alo s _) ?_
 refine Bf s.length (λv=>v.1) (λj _=> ∀i (hi:i<s.length),i<j->s[i]=(i:Int)) rfl (λi _ h=>absurd h (by omega)) ?_
 rintro j ⟨i,⟨⟩⟩ K hj hi hR hK
 dsimp only at hi⊢
 subst hi
 refine Br.dec (λhl=>?_) λhl=>?_
 ·have hl:j<s.length:=by omega
  refine ⟨_,Bq hl,Br.of (λhb=>?_) λhb=>?_⟩
  ·have hb:(j:Int)≠s[j]:=by simpa using hb
   show false=dA s
   unfold dA
   refine (Dr λe=>hb ?_).symm
   have:(upto s.length)[j]?=some (j:Int):=by rw [jN hl]
   rw [<-e,Ac hl] at this
   exact (Ba this).symm
  ·have hb:(j:Int)=s[j]:=by simpa using hb
   rw [Bh (by omega)]
   refine hK hl _ rfl λi hi iW=>?_
   by_cases e:i=j
   ·subst e;exact hb.symm
   ·exact hR i hi (by omega)
 ·have:j=s.length:=by omega
  subst this
  show true=dA s
  unfold dA
  refine (Fu (List.ext_getElem (by rw [jO]) λi h1 h2=>?_)).symm
  rw [hR i h1 h1]
  have:(upto s.length)[i]?=some (i:Int):=by rw [jN h1]
  rw [Ac h2] at this
  exact (Ba this).symm
theorem QF:Sound Tryz.prog 120 q7:=
 Sound.En Db Bg mixed Tryz.func120 (by kernel_rfl) (by kernel_rfl) λx h=>Akv x.1 h
theorem Akr (v:DS) (_:True):fnW Ej (look []) dG Tryz.f92 (v,()) (λ(z:Bool)=>z=Jy v):=by
 refine Eq.mp (Alk v _) ?_
 unfold Jy
 refine Br.of (λh=>by rw [h];rfl) λh=>?_
 rw [h,Pg]
 refine Br.of (λh=>?_) λh=>?_
 ·rw [show decide (0<v.2.1)=true from h,bM]
 ·rw [show decide (0<v.2.1)=false from h,Bool.false_and]
theorem vR:Sound Tryz.prog 92 dG:=
 Sound.En Db Bg mixed Tryz.func92 (by kernel_rfl) (by kernel_rfl) λx h=>Akr x.1 h
theorem yz {p:PP} {ts:List TT} {s:List Int} {l:Int} (h:Oc p ts s=true) (hl:Iu (List.length p.2.2.1) l):Oc p ts (Re p.2.2.1 s l)=true:=by
 obtain ⟨_,_,hr⟩:=eg h
 obtain ⟨hv,hp,hg⟩:=oa hr
 have hm:l∈Aw p.2.2.1.length:=by
  obtain ⟨k,hk,rfl|rfl⟩:=So hl
  ·exact (Vh hk).1
  ·exact (Vh hk).2
 unfold Oc at h⊢
 obtain ⟨_,h2⟩:=Gm.1 h
 exact Gm.2 ⟨ZX hv (NW hg hm),h2⟩
theorem GI {p:PP} {ts:List TT} {s:List Int} (h:Oc p ts s=true):Valid p/\s.length=p.1.toNat/\s.length<=20/\(∀y∈s,0<=y/\y<p.1)/\aw ts/\dq ts s:=by
 obtain ⟨ha,hb,hr⟩:=eg h
 obtain ⟨hv,hp,hg⟩:=oa hr
 have hV:=valid hv
 have hn:=hV.n
 have h1:=hp.1
 exact ⟨hV,h1,by omega,λy hy=>by have:=hp.row y hy;omega,ha,hb⟩
theorem my {w:List Int} (h:0<w.length):w[w.length-1]?=some (Nc w):=by
 unfold Nc
 rw [List.getLastD_eq_getLast?,List.getLast?_eq_getElem?]
 cases hw:w[w.length-1]? with
 |none=>rw [List.getElem?_eq_none_iff] at hw;omega
 |some x=>rfl
theorem uG {w:List Int} {n:Nat} (hn:n<=8) (h: ∀l∈w,Iu n l): -8<=Nc w/\Nc w<=8:=by
 cases hw:w with
 |nil=>simp [Nc]
 |cons a r=>
  have hp:0<w.length:=by rw [hw];simp
  have:=h _ (Bs (my hp))
  rw [hw] at this
  unfold Iu at this
  omega
theorem Afr {m:Nat} (n:Int) (str:ByteArray) (g:List (List Int)) (b:Option BB) (Dz:Int) (every:Bool) (w:List Int) (nodes found:Int) (ab:Bool) (x:List Int)
  (h:zC n str g b Dz w nodes found x/\(Dz-w.length).toNat<m+1):
  fnMW (qv [ni+6]) (look [(119,Tg),(52,bn),(120,q7),(106,Mc),(122,Le),(121,Nl),(91,Pf.m (Uk m))]) (Uk (m+1)) Tryz.f91 (n,str,g,b,Dz,every,w,nodes,found,ab,x,()) (λ(z:(Int×ByteArray×List (List Int)×Option BB×Int×Bool×List Int×Int×Int×Bool×Bool×Unit)×Unit)=>z=(jc n str g b Dz every (sj n g b Dz every w nodes found ab x),())):=by
 obtain ⟨⟨ts,rfl,hh,Ajl,VC,pC,⟨hn0,hn1⟩,hf0,hf1⟩,hm⟩:=h
 obtain ⟨hV,hxl,Auh,hxr,ha,hb⟩:=GI hh
 have hN:=hV.n
 have hxr: ∀y∈x,0<=y/\y<n:=hxr
 have kR:1<=g.length/\g.length<=8:=hV.wP
 have MZ:=sS ha hb
 have hbd:YX (some (Dp ts)) x:=⟨ts,ha,rfl,hb⟩
 have hid:dA x=decide (x=upto n.toNat):=by unfold dA;rw [hxl]
 have hlb:=uG kR.2 pC
 obtain ⟨q,hq⟩: ∃q,sj n g (some (Dp ts)) Dz every w nodes found ab x=q:=⟨_,rfl⟩
 refine Eq.mp (Agj n str g (some (Dp ts)) Dz every w nodes found ab x _) ?_
 rw [hq]
 unfold sj at hq
 obtain ⟨k,hk⟩: ∃k,(Dz-w.length).toNat=k:=⟨_,rfl⟩
 rw [hk] at hq hm
 rw [iN] at hq
 simp only [Bx,true_and]
 have fin: ∀r:IS,r=q->(((n,str,g,some (Dp ts),Dz,every,r.2.1,r.2.2.1,r.2.2.2.1,r.2.2.2.2,r.1,()),()):(Int×ByteArray×List (List Int)×Option BB×Int×Bool×List Int×Int×Int×Bool×Bool×Unit)×Unit)=(jc n str g (some (Dp ts)) Dz every q,()):= λr e=>by subst e;rfl
 refine Br.of (λh1=>?_) λh1=>?_
 ·rw [Ab (eq_of_beq h1)] at hq
  exact fin _ hq
 have h1: ¬nodes=20000:=by simpa using h1
 rw [Ag h1] at hq
 refine ⟨(w.length:Int),Ab trivial,Nb ts x,Ab hbd,?_⟩
 show Br (decide (IntKind.i64.wrap ((w.length:Int)+Nb ts x)>Dz)) _ _
 rw [Dk (n:=(w.length:Int)+Nb ts x) (by omega) (by omega),Dk (n:=nodes+1) (by omega) (by omega),Dk (n:=found+1) (by omega) (by omega)]
 have hlE:Qx (some (Dp ts)) x=Nb ts x:=rfl
 refine Br.dec (λh2=>?_) λh2=>?_
 ·rw [Ab (by rw [hlE];exact h2)] at hq
  exact fin _ hq
 rw [Ag (by rw [hlE];exact h2)] at hq
 refine ⟨dA x,Ab (by show x.length<=4294967296;omega),?_⟩
 show Br (dA x) _ _
 rw [hid]
 have qT:Mc.fn ((g.length:Int),())=some (Aw g.length):=Ab ⟨Int.natCast_nonneg _,by show ((g.length:Nat):Int)<=8;omega⟩
 have hL:=Od g.length
 refine Br.of (λh3=>Br.of (λh4=>?a) λh4=>Br.of (λh5=>?b) λh5=>?c) λh3=>Br.of (λh5=>?d) λh5=>?e
 case a=>
  rw [Ab ⟨Gt h3,eq_of_beq h4⟩] at hq
  exact fin _ hq
 case b=>
  rw [h4] at h5;cases h5
 case d=>
  rw [Ag (λhc=>of_decide_eq_false h3 hc.1),Ab (eq_of_beq h5)] at hq
  exact fin _ hq
 all_goals
  have h6: ¬(w.length:Int)=Dz:= λhc=>by rw [hc] at h5;simp at h5
  rw [Ag (λhc=>h6 hc.2),Ag h6] at hq
  have hk1:k=(Dz-((w.length+1:Nat):Int)).toNat+1:=by omega
 all_goals
  refine Br.dec (λh7=>⟨⟨by rw [Dk (by omega) (by omega)];omega,by rw [Dk (by omega) (by omega)];omega⟩,Nc w,?_,Aw g.length,qT,?_⟩) λh7=>⟨Aw g.length,qT,?_⟩
 all_goals first
  |(have h7:0<w.length:=by omega
    rw [Dk (by omega) (by omega),Bv,show ((w.length:Int)-1).toNat=w.length-1 by omega]
    exact my h7)
  |skip
 all_goals first
  |rw [show IntKind.i64.wrap ((0:Int)-Nc w)= -Nc w by rw [Dk (by omega) (by omega)];omega]
  |rw [show IntKind.i64.wrap ((0:Int)-(0:Int))= -Nc w by
    have:w= []:=List.length_eq_zero_iff.1 (by omega)
    rw [this];rfl]
 all_goals
  refine Bf (Aw g.length).length (λv=>v.1) (λj v=> ∃r:IS,v=((j:Int),w,n,str,g,some (Dp ts),Dz,every,r.2.2.1,r.2.2.2.1,r.2.2.2.2,())/\r.1=false/\r.2.1=w/\(0<=r.2.2.1/\r.2.2.1<=20000/\0<=r.2.2.2.1/\r.2.2.2.1<=r.2.2.1)/\
   ((Aw g.length).drop j).foldl (λ(r:IS) l=>if r.1=true\/l= -Nc w then r else
    if (iN (Re g) (Qx (some (Dp ts))) (upto n.toNat) (Aw g.length) Dz every k (Re g x l) (w++ [l]) r.2.2.1 r.2.2.2.1 r.2.2.2.2).1=true then iN (Re g) (Qx (some (Dp ts))) (upto n.toNat) (Aw g.length) Dz every k (Re g x l) (w++ [l]) r.2.2.1 r.2.2.2.1 r.2.2.2.2
    else (false,w,(iN (Re g) (Qx (some (Dp ts))) (upto n.toNat) (Aw g.length) Dz every k (Re g x l) (w++ [l]) r.2.2.1 r.2.2.2.1 r.2.2.2.2).2.2)) r=q) rfl
   ⟨(false,w,nodes+1,found,ab),rfl,rfl,rfl,⟨by show 0<=nodes+1;omega,by show nodes+1<=20000;omega,hf0,by show found<=nodes+1;omega⟩,by rw [Dn];exact hq⟩ ?_
  rintro j v K hj hi ⟨r,rfl,VB,hr2,hr3,hR⟩ hK
  dsimp only
  refine Br.dec (λhl=>?_) λhl=>?_
  ·have hl:j<(Aw g.length).length:=by omega
   have YT:Iu g.length (Aw g.length)[j]:=Pr (Aj hl)
   have Ayp:((Bt g (Aw g.length)[j]).length:Int)=n:=(kr hV YT).1
   rw [Cn hl,Ig] at hR
   refine ⟨_,Bq hl,Br.of (λhe=>?_) λhe=>?_⟩
   ·rw [Ab (.inr (eq_of_beq he))] at hR
    rw [Bh (by omega)]
    exact hK hl _ rfl ⟨r,by simp only [Bx],VB,hr2,hr3,hR⟩
   ·have he: ¬(Aw g.length)[j]= -Nc w:=by simpa using he
    rw [Ag (by rw [VB];simpa using he)] at hR
    have iY:=Ahy (nx:=Re g) (low:=Qx (some (Dp ts))) (one:=upto n.toNat) (ls:=Aw g.length) (depth:=Dz) (every:=every) k (Re g x (Aw g.length)[j]) (w++ [(Aw g.length)[j]]) r.2.2.1 r.2.2.2.1 r.2.2.2.2 hr3
    have hqe:sj n g (some (Dp ts)) Dz every (w++ [(Aw g.length)[j]]) r.2.2.1 r.2.2.2.1 r.2.2.2.2 (Re g x (Aw g.length)[j])=iN (Re g) (Qx (some (Dp ts))) (upto n.toNat) (Aw g.length) Dz every k (Re g x (Aw g.length)[j]) (w++ [(Aw g.length)[j]]) r.2.2.1 r.2.2.2.1 r.2.2.2.2:=by
     unfold sj
     rw [Ax,By,hk1]
    refine ⟨by show w.length+1<=4294967296;omega,_,Ab ⟨YT,kR.2,hV.perm⟩,_,Ab ⟨Auh,λy hy=>by have:=hxr y hy;show 0<=y/\y<((Bt g (Aw g.length)[j]).length:Int);omega⟩,_,
     Ab ⟨⟨ts,rfl,yz hh YT,Ajl,by show ((w++ [(Aw g.length)[j]]).length:Int)<=Dz;rw [Ax,By];omega,λl hm=>by
      have hm:l∈w++ [(Aw g.length)[j]]:=hm
      rcases Bb.1 hm with hm|hm
      ·exact pC l hm
      ·rw [Ae.1 hm];exact YT,⟨hr3.1,hr3.2.1⟩,hr3.2.2.1,hr3.2.2.2⟩,by show (Dz-((w++ [(Aw g.length)[j]]).length:Int)).toNat<m;rw [Ax,By];omega⟩,?_⟩
    show Br (sj n g (some (Dp ts)) Dz every (w++ [(Aw g.length)[j]]) r.2.2.1 r.2.2.2.1 r.2.2.2.2 (Re g x (Aw g.length)[j])).1 _ _
    dsimp only
    refine Br.of (λTs=>?_) λTs=>?_
    ·have NG:=Ts
     rw [hqe] at NG
     rw [Ab NG,SX _ _ NG] at hR
     have e:=fin _ hR
     rw [<-hqe,Ts] at e
     refine Eq.trans ?_ e
     simp only [jc,Bx]
     rfl
    ·have NG:=Ts
     rw [hqe] at NG
     have hwd:=Af5 _ _ _ _ _ _ NG
     rw [Ag (by rw [NG];simp)] at hR
     rw [<-hqe] at hwd
     refine ⟨⟨Nx _,Int.natCast_nonneg _,?_⟩,?_⟩
     ·show (w.length:Int)<=((sj n g (some (Dp ts)) Dz every (w++ [(Aw g.length)[j]]) r.2.2.1 r.2.2.2.1 r.2.2.2.2 (Re g x (Aw g.length)[j])).2.1.length:Int)
      rw [hwd,Ax]
      omega
     ·rw [Bh (by omega)]
      refine hK hl _ rfl ⟨(false,w,(iN (Re g) (Qx (some (Dp ts))) (upto n.toNat) (Aw g.length) Dz every k (Re g x (Aw g.length)[j]) (w++ [(Aw g.length)[j]]) r.2.2.1 r.2.2.2.1 r.2.2.2.2).2.2),?_,rfl,rfl,iY,hR⟩
      have htk:List.take w.length (sj n g (some (Dp ts)) Dz every (w++ [(Aw g.length)[j]]) r.2.2.1 r.2.2.2.1 r.2.2.2.2 (Re g x (Aw g.length)[j])).2.1=w:=by rw [hwd];simp
      rw [<-hqe]
      show (((j+1:Nat):Int),List.take w.length (sj n g (some (Dp ts)) Dz every (w++ [(Aw g.length)[j]]) r.2.2.1 r.2.2.2.1 r.2.2.2.2 (Re g x (Aw g.length)[j])).2.1,_)=_
      rw [htk]
      rfl
  ·have:j=(Aw g.length).length:=by omega
   subst this
   rw [Ij,List.foldl_nil] at hR
   have:=fin r hR
   rw [VB,hr2] at this
   exact this
theorem QN {m:Nat} (Aaz:Ca Tryz.prog 91 (Uk m)):Ca Tryz.prog 91 (Uk (m+1)):=
 Ca.ky (qw [ni+6]) (Av fT (Av rE (Av QF (Av lJ (Av jA (Av Wv (Ep Aaz Bg))))))) mixed Tryz.func91 (by kernel_rfl) (by kernel_rfl) λx h=>Afr x.1 x.2.1 x.2.2.1 x.2.2.2.1 x.2.2.2.2.1 x.2.2.2.2.2.1 x.2.2.2.2.2.2.1 x.2.2.2.2.2.2.2.1 x.2.2.2.2.2.2.2.2.1 x.2.2.2.2.2.2.2.2.2.1 x.2.2.2.2.2.2.2.2.2.2.1 h
theorem Al6 {m:Nat} (p:PP) (ts:List TT) (s w:List Int) (depth:Int) (v:DS) (h:ZF p ts s w depth v/\(depth-w.length).toNat<m+1):fnW Acz (look [(48,bm),(115,Yp),(101,Bo),(116,Ia),(117,db),(118,Mp),(92,dG),(89,Pf.q (Za m))]) (Za (m+1)) Tryz.f89 (p,ts,s,w,depth,v,()) (λ(z:DS)=>z=HN p ts s w depth v):=by
 obtain ⟨⟨hh,Ajl,VC,pC,hv⟩,hm⟩:=h
 obtain ⟨hV,hsl,Atw,hsr,ha,hb⟩:=GI hh
 have hN:=hV.n
 have kR:=hV.wP
 have MZ:=sS ha hb
 have hlb:=uG kR.2 pC
 have hv0:=hv.n0
 have hv1:=hv.n1
 have hv2:=hv.m0
 have hv3:=hv.m1
 obtain ⟨q,hq⟩: ∃q,HN p ts s w depth v=q:=⟨_,rfl⟩
 refine Eq.mp (Am0 p ts s w depth v _) ?_
 rw [hq]
 unfold HN at hq
 obtain ⟨k,hk⟩: ∃k,(depth-w.length).toNat=k:=⟨_,rfl⟩
 rw [hk] at hq hm
 rw [vN] at hq
 simp only [TG,TH,bg,bh,sU,sV,bj,bk,sW,o1,o3,o4]
 simp only [Bx,true_and]
 refine Br.of (λh1=>?_) λh1=>?_
 ·rw [Ab (eq_of_beq h1)] at hq
  exact hq
 have h1: ¬v.1=20000:=by simpa using h1
 rw [Ag h1] at hq
 refine ⟨Nb ts s,Ab ⟨ha,hb⟩,?_⟩
 rw [Dk (n:=(w.length:Int)+Nb ts s) (by omega) (by omega),Dk (n:=v.1+1) (by omega) (by omega),Dk (n:=v.2.1+1) (by omega) (by omega)]
 refine Br.dec (λh2=>?_) λh2=>?_
 ·rw [Ab h2] at hq
  exact hq
 rw [Ag h2] at hq
 refine Br.of (λh3=>?_) λh3=>?_
 ·rw [Ab (eq_of_beq h3)] at hq
  refine ⟨upto p.1.toNat,Ab ⟨by show 0<=p.1;omega,by show p.1<=20;omega⟩,Ci s (upto p.1.toNat),Ab (by show s.length<=4294967296;omega),?_⟩
  refine Br.of (λh4=>?_) λh4=>?_
  ·rw [Ab (tS.1 h4)] at hq
   refine Br.of (λh5=>?_) λh5=>?_
   ·rw [Ab (eq_of_beq h5)] at hq
    exact ⟨((w,()),()),Ab (by show w.length<=4294967296;omega),hq⟩
   ·rw [Ag (by simpa using h5)] at hq
    exact hq
  ·rw [Ag (λhc=>by rw [tS.2 hc] at h4;cases h4)] at hq
   exact hq
 have h3: ¬(w.length:Int)=depth:=by simpa using h3
 rw [Ag h3] at hq
 have hk1:k=(depth-((w.length+1:Nat):Int)).toNat+1:=by omega
 have haf:db.fn ((p.1,p.2.1,p.2.2.1,()),Nc w,())=some (ku p.2.2.1.length (Nc w)):=Ab ⟨kR.2,hlb⟩
 obtain ⟨ls,qT⟩: ∃ls,ku p.2.2.1.length (Nc w)=ls:=⟨_,rfl⟩
 have nL: ∀l∈ls,Iu p.2.2.1.length l:= λl hl=>by
  rw [<-qT] at hl
  exact Pr (Cm.1 hl).1
 have hlen:ls.length<=16:=by
  rw [<-qT]
  have h1:=List.length_filter_le (λl=>!(l== -Nc w)) (Aw p.2.2.1.length)
  have h2:=Od p.2.2.1.length
  unfold ku
  omega
 rw [qT] at haf
 have hq:ls.foldl (λ(v:DS) l=>if Jy v=true then v else vN (Re p.2.2.1) (Nb ts) (upto p.1.toNat) (Aw p.2.2.1.length) depth k (Re p.2.2.1 s l) (w++ [l]) v) (v.1+1,v.2)=q:=by rw [<-qT];exact hq
 refine Br.dec (λh7=>⟨Nc w,?_,ls,haf,?_⟩) λh7=>⟨ls,?_,?_⟩
 ·have h7:0<w.length:=by omega
  rw [Dk (by omega) (by omega),show (w.length:Int)-1=((w.length-1:Nat):Int) by omega,Bq (by omega)]
  have:=my h7
  rw [Ac (by omega)] at this
  exact this
 rotate_left
 ·have:w= []:=List.length_eq_zero_iff.1 (by omega)
  rw [this] at haf
  exact haf
 all_goals
  refine ⟨rfl,Bf ls.length (λv=>v.1) (λj y=> ∃u:DS,y=((j:Int),p.1,p.2.1,p.2.2.1,u.1,u.2.1,u.2.2.1,u.2.2.2.1,u.2.2.2.2.1,(0:Int),(0:Int),false,false,[],())/\zx u/\
   (ls.drop j).foldl (λ(v:DS) l=>if Jy v=true then v else vN (Re p.2.2.1) (Nb ts) (upto p.1.toNat) (Aw p.2.2.1.length) depth k (Re p.2.2.1 s l) (w++ [l]) v) u=q) rfl
   ⟨(v.1+1,v.2),rfl,⟨by show 0<=v.1+1;omega,by show v.1+1<=20000;omega,hv2,by show v.2.1<=v.1+1;omega⟩,by rw [Dn];exact hq⟩ ?_⟩
  rintro j y K hj hi ⟨u,rfl,hu,hR⟩ hK
  dsimp only
  refine Br.dec (λhl=>?_) λhl=>?_
  ·have hl:j<ls.length:=by omega
   have YT:=nL _ (Aj hl)
   rw [Cn hl,Ig] at hR
   refine ⟨Jy u,Ab trivial,?_⟩
   refine Br.of (λhd=>?_) λhd=>?_
   ·have hd:Jy u=false:=by simpa using hd
    rw [Ag (by rw [hd];simp)] at hR
    obtain ⟨l,hle⟩: ∃l,ls[j]=l:=⟨_,rfl⟩
    have hix:idx ls (j:Int)=some l:=by rw [Bq hl,hle]
    rw [hle] at hR YT
    have hap:Mp.fn ((p.1,p.2.1,p.2.2.1,()),s,l,())=some (Re p.2.2.1 s l):=Ab ⟨(oa (eg hh).2.2).1,Atw,hsr,YT⟩
    have hcp:Ia.fn (w,())=some ((w,()),()):=Ab (by show w.length<=4294967296;omega)
    have hmr:w.length+(List.take 1 (List.drop 0 [l])).length<=Cq:=by show w.length+1<=4294967296;omega
    have hvv:HN p ts (Re p.2.2.1 s l) (w++ [l]) depth u=vN (Re p.2.2.1) (Nb ts) (upto p.1.toNat) (Aw p.2.2.1.length) depth k (Re p.2.2.1 s l) (w++ [l]) u:=by
     unfold HN
     rw [Ax,By,hk1]
    have hvo:=Ad9 (nx:=Re p.2.2.1) (low:=Nb ts) (one:=upto p.1.toNat) (ls:=Aw p.2.2.1.length) (depth:=depth) k (Re p.2.2.1 s l) (w++ [l]) u hu
    have hvi:(Za m).fn ((p.1,p.2.1,p.2.2.1,()),ts,Re p.2.2.1 s l,w++List.take 1 (List.drop 0 [l]),depth,(u.1,u.2.1,u.2.2.1,u.2.2.2.1,u.2.2.2.2.1,()),())=some (vN (Re p.2.2.1) (Nb ts) (upto p.1.toNat) (Aw p.2.2.1.length) depth k (Re p.2.2.1 s l) (w++ [l]) u):=
     (Ab ⟨⟨yz hh YT,Ajl,by show ((w++ [l]).length:Int)<=depth;rw [Ax,By];omega,λx hx=>by
      have hx:x∈w++ [l]:=hx
      rcases Bb.1 hx with hx|hx
      ·exact pC x hx
      ·rw [Ae.1 hx];exact YT,hu⟩,by show (depth-((w++ [l]).length:Int)).toNat<m;rw [Ax,By];omega⟩).trans (Mf some hvv)
    generalize vN (Re p.2.2.1) (Nb ts) (upto p.1.toNat) (Aw p.2.2.1.length) depth k (Re p.2.2.1 s l) (w++ [l]) u=u' at hR hvi hvo
    refine ⟨l,hix,l,hix,_,hap,_,hcp,hmr,_,hvi,?_,?_⟩
    ·rw [Bh (by omega)]
     exact hK hl _ rfl ⟨u',rfl,hvo,hR⟩
    ·repeat' (first|rfl|exact hmr|refine ⟨_,hix,?_⟩|refine ⟨_,hap,?_⟩|refine ⟨_,hcp,?_⟩|refine ⟨_,hvi,?_⟩|refine ⟨?_,?_⟩)
   ·have hd:Jy u=true:=by simpa using hd
    rw [Ab hd,TW _ _ hd] at hR
    exact hR
  ·have:j=ls.length:=by omega
   subst this
   rw [Ij] at hR
   exact hR
theorem XL {m:Nat} (Af6:Sound Tryz.prog 89 (Za m)):Sound Tryz.prog 89 (Za (m+1)):=
 Sound.En Ad0 (Av rD (Av jz (Av Um (Ep so (Av JI (Av ow (Av vR (Av Af6 Bg)))))))) mixed Tryz.func89 (by kernel_rfl) (by kernel_rfl) λx h=>Al6 x.1 x.2.1 x.2.2.1 x.2.2.2.1 x.2.2.2.2.1 x.2.2.2.2.2.1 h
theorem CV:Ca Tryz.prog 91 (Uk 0):=
 Ca.ky Db Bg mixed Tryz.func91 (by kernel_rfl) (by kernel_rfl) λ_ h=>absurd h.2 (Dq _)
theorem oJ: ∀m,Ca Tryz.prog 91 (Uk m)
 |0=>CV
 |m+1=>QN (oJ m)
theorem CW:Ca Tryz.prog 91 oo:=Ca.Abo (λx=>(x.2.2.2.2.1-List.length x.2.2.2.2.2.2.1).toNat) oJ
noncomputable abbrev sZ:Spec:=En (.pair Fb (.pair tb (.pair tL (.pair tL (.pair tI (.pair oR .unit)))))) oR false false (λx=>ZF x.1 x.2.1 x.2.2.1 x.2.2.2.1 x.2.2.2.2.1 x.2.2.2.2.2.1) (λx=>HN x.1 x.2.1 x.2.2.1 x.2.2.2.1 x.2.2.2.2.1 x.2.2.2.2.2.1)
theorem JP:Sound Tryz.prog 89 (Za 0):=
 Sound.En Db Bg mixed Tryz.func89 (by kernel_rfl) (by kernel_rfl) λ_ h=>absurd h.2 (Dq _)
theorem rG: ∀m,Sound Tryz.prog 89 (Za m)
 |0=>JP
 |m+1=>XL (rG m)
theorem JQ:Sound Tryz.prog 89 sZ:=Sound.Aur (λx=>(x.2.2.2.2.1-List.length x.2.2.2.1).toNat) rG
noncomputable def eu (p:PP) (b:Option BB) (x:List Int) (Dz:Int) (every:Bool):IS:=sj p.1 p.2.2.1 b Dz every [] 0 0 false x
noncomputable def Abg (p:PP) (b:Option BB) (x:List Int) (Dz:Int) (every:Bool):SR:=(p,b,Dz,every,(eu p b x Dz every).2.1,(eu p b x Dz every).2.2.1,(eu p b x Dz every).2.2.2.1,(eu p b x Dz every).2.2.2.2,())
def EJ (p:PP) (b:Option BB) (x:List Int) (Dz:Int):Prop:= ∃ts,b=some (Dp ts)/\Oc p ts x=true/\0<=Dz/\Dz<=30
noncomputable abbrev Yy:Spec:=En (.pair Fb (.pair (.optr Wy) (.pair tL (.pair tI (.pair .bool .unit))))) (.optr TU) false false (λx=>EJ x.1 x.2.1 x.2.2.1 x.2.2.2.1) (λx=>some (Abg x.1 x.2.1 x.2.2.1 x.2.2.2.1 x.2.2.2.2.1))
noncomputable def lB (p:PP) (ts:List TT) (s:List Int) (depth:Int) (all:Bool):DS:=HN p ts s [] depth (0,0,[],false,all,())
noncomputable abbrev bI:Spec:=En (.pair Fb (.pair tb (.pair tL (.pair tI (.pair .bool .unit))))) oR false false (λx=>Oc x.1 x.2.1 x.2.2.1=true/\0<=x.2.2.2.1/\x.2.2.2.1<=30) (λx=>lB x.1 x.2.1 x.2.2.1 x.2.2.2.1 x.2.2.2.2.1)
noncomputable def pF (d:Int):Bool:=decide (0<=d/\d<=30)
noncomputable abbrev bA:Spec:=En (.pair tI .unit) .bool false true (λ_=>True) (λx=>pF x.1)
noncomputable def Wk (p:PP) (ts:List TT) (s:List Int) (d:Int):Bool:=Oc p ts s&&pF d
noncomputable abbrev pW:Spec:=En (.pair Fb (.pair tb (.pair tL (.pair tI .unit)))) .bool false true (λx=>Ei x.1/\Gx x.2.1/\short x.2.2.1) (λx=>Wk x.1 x.2.1 x.2.2.1 x.2.2.2.1)
noncomputable abbrev mJ:Spec:=En (.pair Fb (.pair tb (.pair tL (.pair tI .unit)))) .bool false true (λx=>Ei x.1/\Gx x.2.1/\short x.2.2.1) (λ_=>true)
theorem RH (p:Int×ByteArray×List (List Int)×Unit) (b:Option (List (List Int×List (List Int)×List Int×Unit)×List (ByteArray->Option Int)×Unit)) (x:List Int) (Dz:Int) (every:Bool) (P:Option ((Int×ByteArray×List (List Int)×Unit)×Option (List (List Int×List (List Int)×List Int×Unit)×List (ByteArray->Option Int)×Unit)×Int×Bool×List Int×Int×Int×Bool×Unit)->Prop):(0=0/\0=([]:List Int).length/\ ∃(y6:(Int×ByteArray×List (List Int)×Option (List (List Int×List (List Int)×List Int×PUnit)×List (ByteArray->Option Int)×PUnit)×Int×Bool×List Int×Int×Int×Bool×Bool×PUnit)×PUnit),oo.fn (p.1,p.2.1,p.2.2.1,b,Dz,every,[],Int.ofNat (nat_lit 0),Int.ofNat (nat_lit 0),false,x,())=some y6/\P (some ((y6.1.1,y6.1.2.1,y6.1.2.2.1,()),y6.1.2.2.2.1,y6.1.2.2.2.2.1,y6.1.2.2.2.2.2.1,List.take y6.1.2.2.2.2.2.2.1.length (List.drop 0 y6.1.2.2.2.2.2.2.1),y6.1.2.2.2.2.2.2.2.1,y6.1.2.2.2.2.2.2.2.2.1,y6.1.2.2.2.2.2.2.2.2.2.1,())))=fnW Ej (look [(91,oo)]) Yy Tryz.f68 (p,b,x,Dz,every,()) P:=by kernel_rfl
theorem YI (p:Int×ByteArray×List (List Int)×Unit) (ts:List (List Int×List (List Int)×List Int×Unit)) (s:List Int) (d:Int) (all:Bool) (P:(Int×Int×List Int×Bool×Bool×Unit)->Prop):(∃(y6:Int×Int×List Int×Bool×Bool×PUnit),sZ.fn ((p.1,p.2.1,p.2.2.1,()),ts,s,List.take 0 (List.drop 0 []),d,(Int.ofNat (nat_lit 0),Int.ofNat (nat_lit 0),[],false,all,()),())=some y6/\P (y6.1,y6.2.1,y6.2.2.1,y6.2.2.2.1,y6.2.2.2.2.1,()))=fnW Ej (look [(89,sZ)]) bI Tryz.f66 (p,ts,s,d,all,()) P:=by kernel_rfl
theorem XX (d:Int) (P:Bool->Prop):(∃(y2:Bool),Dm.fn (d,(0:Int),(30:Int),())=some y2/\P y2)=fnW Ej (look [(90,Dm)]) bA Tryz.f67 (d,()) P:=by kernel_rfl
theorem Ali (p:Int×ByteArray×List (List Int)×Unit) (ts:List (List Int×List (List Int)×List Int×Unit)) (s:List Int) (d:Int) (P:Bool->Prop):(∃(y5:Bool),pZ.fn ((p.1,p.2.1,p.2.2.1,()),ts,s,())=some y5/\Br y5 (∃(y6:Bool),Dm.fn (d,(0:Int),(30:Int),())=some y6/\P y6) (P false))=fnW Ej (look [(47,pZ),(88,Dm)]) pW Tryz.f65 (p,ts,s,d,()) P:=by kernel_rfl
theorem ds0 (all:Bool):zx ((0,0,[],false,all,()):DS):=⟨Nx _,(by decide:(0:Int)<=20000),Nx _,Nx _⟩
theorem TM (p:PP) (ts:List TT) (x:List Int) (Dz:Int) (every:Bool):ZC every [] (eu p (some (Dp ts)) x Dz every) (lB p ts x Dz every):=
 Ahz (nx:=Re p.2.2.1) (low:=Nb ts) (one:=upto p.1.toNat) (ls:=Aw p.2.2.1.length) (depth:=Dz) (every:=every) ((Dz-(0:Nat)).toNat+1) x [] (0,0,[],false,every,()) rfl rfl (ds0 every)
theorem Alc {p:PP} {b:Option BB} {x:List Int} {Dz:Int} (h:EJ p b x Dz):zC p.1 p.2.1 p.2.2.1 b Dz [] (Int.ofNat 0) (Int.ofNat 0) x:=by
 obtain ⟨ts,hb,hh,h0,h30⟩:=h
 exact ⟨ts,hb,hh,h30,h0,λl hl=>(by cases hl),⟨by decide,by decide⟩,by decide,by decide⟩
theorem OY (p:PP) (b:Option BB) (x:List Int) (Dz:Int) (every:Bool) (h:EJ p b x Dz):fnW Ej (look [(91,oo)]) Yy Tryz.f68 (p,b,x,Dz,every,()) (λ(z:Option SR)=>z=some (Abg p b x Dz every)):=by
 refine Eq.mp (RH p b x Dz every _) ⟨rfl,rfl,_,Ab (Alc h),?_⟩
 dsimp only
 rw [Bx]
 rfl
theorem vZ:Sound Tryz.prog 68 Yy:=
 Sound.En Db (Ep CW Bg) mixed Tryz.func68 (by kernel_rfl) (by kernel_rfl) λx h=>OY x.1 x.2.1 x.2.2.1 x.2.2.2.1 x.2.2.2.2.1 h
theorem WI (p:PP) (ts:List TT) (s:List Int) (d:Int) (all:Bool) (h:Oc p ts s=true/\0<=d/\d<=30):fnW Ej (look [(89,sZ)]) bI Tryz.f66 (p,ts,s,d,all,()) (λ(z:DS)=>z=lB p ts s d all):=by
 obtain ⟨hh,h0,h30⟩:=h
 exact Eq.mp (YI p ts s d all _) ⟨_,Ab ⟨hh,h30,h0,λl hl=>(by cases hl),ds0 all⟩,rfl⟩
theorem xI:Sound Tryz.prog 66 bI:=
 Sound.En Db (Av JQ Bg) mixed Tryz.func66 (by kernel_rfl) (by kernel_rfl) λx h=>WI x.1 x.2.1 x.2.2.1 x.2.2.2.1 x.2.2.2.2.1 h
theorem VW (d:Int) (_:True):fnW Ej (look [(90,Dm)]) bA Tryz.f67 (d,()) (λ(z:Bool)=>z=pF d):=Eq.mp (XX d _) ⟨_,Ab trivial,rfl⟩
theorem xz:Sound Tryz.prog 67 bA:=
 Sound.En Db (Av Wx Bg) mixed Tryz.func67 (by kernel_rfl) (by kernel_rfl) λx h=>VW x.1 h
theorem Akp (p:PP) (ts:List TT) (s:List Int) (d:Int) (h:Ei p/\Gx ts/\short s):fnW Ej (look [(47,pZ),(88,Dm)]) pW Tryz.f65 (p,ts,s,d,()) (λ(z:Bool)=>z=Wk p ts s d):=by
 refine Eq.mp (Ali p ts s d _) ⟨_,Ab h,?_⟩
 show Br (Oc p ts s) _ _
 unfold Wk
 refine Br.of (λhb=>⟨_,Ab trivial,?_⟩) λhb=>?_
 ·rw [hb,bM];rfl
 ·rw [hb,Bool.false_and]
theorem QB:Sound Tryz.prog 65 pW:=
 Sound.En Db (Av QE (Av Zq Bg)) mixed Tryz.func65 (by kernel_rfl) (by kernel_rfl) λx h=>Akp x.1 x.2.1 x.2.2.1 x.2.2.2.1 h
theorem tK {p:PP} {ts:List TT} {s:List Int} {d:Int} :Wk p ts s d=true↔Oc p ts s=true/\0<=d/\d<=30:=by
 unfold Wk pF
 rw [Af,Ka]
theorem MN (v:DS):Jy v=(v.2.2.2.1||(decide (0<v.2.1)&&!v.2.2.2.2.1)):=rfl
noncomputable def Xv (p:PP) (ts:List TT) (s:List Int) (d:Int):Nat->Int->DS->List Int->List Int×DS
 |0,_,v,out=>(out,v)
 |f+1,k,v,out=>if k<=d/\Jy v=false then Xv p ts s d f (k+1) (lB p ts s k false) (out++ [(lB p ts s k false).1]) else (out,v)
noncomputable def fu (p:PP) (ts:List TT) (s:List Int) (d:Int):List Int×DS:=Xv p ts s d 40 (Nb ts s) (0,0,[],false,false,()) []
noncomputable abbrev kF:Spec:=En (.pair Fb (.pair tb (.pair tL (.pair tI .unit)))) (.pair tL (.pair oR .unit)) true false (λx=>Wk x.1 x.2.1 x.2.2.1 x.2.2.2.1=true) (λx=>((fu x.1 x.2.1 x.2.2.1 x.2.2.2.1).1,(fu x.1 x.2.1 x.2.2.1 x.2.2.2.1).2,()))
noncomputable def lD (p:PP) (ts:List TT) (s:List Int) (d:Int):List Int:=if Wk p ts s d=true then (fu p ts s d).1 else []
noncomputable abbrev bG:Spec:=En (.pair Fb (.pair tb (.pair tL (.pair tI .unit)))) tL false false (λx=>Ei x.1/\Gx x.2.1/\short x.2.2.1) (λx=>lD x.1 x.2.1 x.2.2.1 x.2.2.2.1)
noncomputable def Ui (p:PP) (b:Option BB) (s:List Int) (d:Int):Nat->Int->Option SR->List Int->List Int×Option SR
 |0,_,v,out=>(out,v)
 |f+1,k,v,out=>if k<=d then
   (if ((eu p b s k false).2.2.2.2||decide ((eu p b s k false).2.2.2.1>0))=true then (out++ [(eu p b s k false).2.2.1],some (Abg p b s k false))
    else Ui p b s d f (k+1) (some (Abg p b s k false)) (out++ [(eu p b s k false).2.2.1])) else (out,v)
noncomputable def qn:SR:=((0,ByteArray.empty,[],()),none,0,false,[],0,0,false,())
noncomputable abbrev Yn:MSpec:=cd [some 3,none,none,none] [(false, .Fm tI),(false, .Fm .str),(false, .Fm dI),(false, .Fm (.optr Wy)),(false, .Fm tL),(false, .Fm tI)] true [none,none] [.Fm (.optr TU),rL] (λx=>EJ (x.1,x.2.1,x.2.2.1,()) x.2.2.2.1 x.2.2.2.2.1 x.2.2.2.2.2.1)
 (λx=>(((Ui (x.1,x.2.1,x.2.2.1,()) x.2.2.2.1 x.2.2.2.2.1 x.2.2.2.2.2.1 40 (Qx x.2.2.2.1 x.2.2.2.2.1) (some qn) []).2,(Ui (x.1,x.2.1,x.2.2.1,()) x.2.2.2.1 x.2.2.2.2.1 x.2.2.2.2.2.1 40 (Qx x.2.2.2.1 x.2.2.2.2.1) (some qn) []).1,()),()))
noncomputable abbrev Yq:MSpec:=cd [some 3,none,none,none] [(false, .Fm tI),(false, .Fm .str),(false, .Fm dI),(false, .Fm tb),(false, .Fm tL),(false, .Fm tI)] false [none] [rL] (λx=>Ei (x.1,x.2.1,x.2.2.1,())/\Gx x.2.2.2.1/\short x.2.2.2.2.1)
 (λx=>((lD (x.1,x.2.1,x.2.2.1,()) x.2.2.2.1 x.2.2.2.2.1 x.2.2.2.2.2.1,()),()))
abbrev JW:Type:=Int×Int×ByteArray×List (List Int)×Int×Int×Bool×Bool×Int×Int×List Int×Bool×Bool×List Int×List Int×PUnit
theorem Agb (p:Int×ByteArray×List (List Int)×Unit) (ts:List (List Int×List (List Int)×List Int×Unit)) (s:List Int) (d:Int) (P:(List Int×(Int×Int×List Int×Bool×Bool×Unit)×Unit)->Prop):(∃(y5:Int),bm.fn (ts,s,())=some y5/\0=0/\0=([]:List Int).length/\0=0/\0=([]:List Int).length/\Cz (λ(v6:JW) (k7:JW->Prop)=>Br (decide (v6.1<=d)) (∃(y8:Bool),dG.fn ((v6.2.2.2.2.2.2.2.2.1,v6.2.2.2.2.2.2.2.2.2.1,v6.2.2.2.2.2.2.2.2.2.2.1,v6.2.2.2.2.2.2.2.2.2.2.2.1,v6.2.2.2.2.2.2.2.2.2.2.2.2.1,()),())=some y8/\Br (!y8) (∃(y9:Int×Int×List Int×Bool×Bool×PUnit),bI.fn ((v6.2.1,v6.2.2.1,v6.2.2.2.1,()),ts,s,v6.1,false,())=some y9/\0=0/\v6.2.2.2.2.2.2.2.2.2.2.2.2.2.1.length=v6.2.2.2.2.2.2.2.2.2.2.2.2.2.1.length/\v6.2.2.2.2.2.2.2.2.2.2.2.2.2.1.length+(List.take 1 (List.drop 0 [y9.1])).length<=Cq/\0=0/\(v6.2.2.2.2.2.2.2.2.2.2.2.2.2.1++List.take 1 (List.drop 0 [y9.1])).length=(v6.2.2.2.2.2.2.2.2.2.2.2.2.2.1++List.take 1 (List.drop 0 [y9.1])).length/\0=0/\v6.2.2.2.2.2.2.2.2.2.2.2.2.2.2.1.length=v6.2.2.2.2.2.2.2.2.2.2.2.2.2.2.1.length/\k7 (IntKind.i64.wrap (v6.1+(1:Int)),v6.2.1,v6.2.2.1,v6.2.2.2.1,v6.2.2.2.2.1,v6.2.2.2.2.2.1,v6.2.2.2.2.2.2.1,v6.2.2.2.2.2.2.2.1,y9.1,y9.2.1,y9.2.2.1,y9.2.2.2.1,y9.2.2.2.2.1,v6.2.2.2.2.2.2.2.2.2.2.2.2.2.1++List.take 1 (List.drop 0 [y9.1]),v6.2.2.2.2.2.2.2.2.2.2.2.2.2.2.1,())) (P (List.take v6.2.2.2.2.2.2.2.2.2.2.2.2.2.1.length (List.drop 0 v6.2.2.2.2.2.2.2.2.2.2.2.2.2.1),(v6.2.2.2.2.2.2.2.2.1,v6.2.2.2.2.2.2.2.2.2.1,v6.2.2.2.2.2.2.2.2.2.2.1,v6.2.2.2.2.2.2.2.2.2.2.2.1,v6.2.2.2.2.2.2.2.2.2.2.2.2.1,()),()))) (P (List.take v6.2.2.2.2.2.2.2.2.2.2.2.2.2.1.length (List.drop 0 v6.2.2.2.2.2.2.2.2.2.2.2.2.2.1),(v6.2.2.2.2.2.2.2.2.1,v6.2.2.2.2.2.2.2.2.2.1,v6.2.2.2.2.2.2.2.2.2.2.1,v6.2.2.2.2.2.2.2.2.2.2.2.1,v6.2.2.2.2.2.2.2.2.2.2.2.2.1,()),()))) (y5,p.1,p.2.1,p.2.2.1,Int.ofNat (nat_lit 0),Int.ofNat (nat_lit 0),false,false,Int.ofNat (nat_lit 0),Int.ofNat (nat_lit 0),[],false,false,[],[],PUnit.unit))=fnW (qv [Wb+11]) (look [(48,bm),(92,dG),(66,bI)]) kF Tryz.f69 (p,ts,s,d,()) P:=by kernel_rfl
theorem YG (p:Int×ByteArray×List (List Int)×Unit) (ts:List (List Int×List (List Int)×List Int×Unit)) (s:List Int) (d:Int) (P:List Int->Prop):(∃(y5:Bool),pW.fn ((p.1,p.2.1,p.2.2.1,()),ts,s,d,())=some y5/\Br (!y5) (P (List.take 0 (List.drop 0 []))) (∃(y6:List Int×(Int×Int×List Int×Bool×Bool×PUnit)×PUnit),kF.fn ((p.1,p.2.1,p.2.2.1,()),ts,s,d,())=some y6/\P y6.1))=fnW Ej (look [(65,pW),(69,kF)]) bG Tryz.f37 (p,ts,s,d,()) P:=by kernel_rfl
abbrev jH:Type:=(Int×ByteArray×List (List Int)×PUnit)×Option (List (List Int×List (List Int)×List Int×PUnit)×List (ByteArray->Option Int)×PUnit)×Int×Bool×List Int×Int×Int×Bool×PUnit
abbrev rO:Type:=Option ((Int×ByteArray×List (List Int)×PUnit)×Option (List (List Int×List (List Int)×List Int×PUnit)×List (ByteArray->Option Int)×PUnit)×Int×Bool×List Int×Int×Int×Bool×PUnit)×Int×Int×ByteArray×List (List Int)×List Int×PUnit
theorem QX (n:Int) (str:ByteArray) (g:List (List Int)) (b:Option (List (List Int×List (List Int)×List Int×Unit)×List (ByteArray->Option Int)×Unit)) (s:List Int) (d:Int) (P:((Option SR×List Int×Unit)×Unit)->Prop):(∃(y7:Int),bn.fn (b,s,())=some y7/\0=0/\0=([]:List Int).length/\Cz (λ(v8:rO) (k9:rO->Prop)=>Br (decide (v8.2.1<=d)) (∃(Ly:Option ((Int×ByteArray×List (List Int)×PUnit)×Option (List (List Int×List (List Int)×List Int×PUnit)×List (ByteArray->Option Int)×PUnit)×Int×Bool×List Int×Int×Int×Bool×PUnit)),Yy.fn ((v8.2.2.1,v8.2.2.2.1,v8.2.2.2.2.1,()),b,s,v8.2.1,false,())=some Ly/\ ∃(bu:jH),Ly=some bu/\0=0/\v8.2.2.2.2.2.1.length=v8.2.2.2.2.2.1.length/\v8.2.2.2.2.2.1.length+(List.take 1 (List.drop 0 [bu.2.2.2.2.2.1])).length<=Cq/\ ∃(dN:jH),Ly=some dN/\Br dN.2.2.2.2.2.2.2.1 (P ((Ly,List.take (v8.2.2.2.2.2.1++List.take 1 (List.drop 0 [bu.2.2.2.2.2.1])).length (List.drop 0 (v8.2.2.2.2.2.1++List.take 1 (List.drop 0 [bu.2.2.2.2.2.1]))),()),())) (∃(Lg:jH),Ly=some Lg/\Br (decide (Lg.2.2.2.2.2.2.1>(0:Int))) (P ((Ly,List.take (v8.2.2.2.2.2.1++List.take 1 (List.drop 0 [bu.2.2.2.2.2.1])).length (List.drop 0 (v8.2.2.2.2.2.1++List.take 1 (List.drop 0 [bu.2.2.2.2.2.1]))),()),())) (0=0/\(v8.2.2.2.2.2.1++List.take 1 (List.drop 0 [bu.2.2.2.2.2.1])).length=(v8.2.2.2.2.2.1++List.take 1 (List.drop 0 [bu.2.2.2.2.2.1])).length/\k9 (Ly,IntKind.i64.wrap (v8.2.1+(1:Int)),v8.2.2.1,v8.2.2.2.1,v8.2.2.2.2.1,v8.2.2.2.2.2.1++List.take 1 (List.drop 0 [bu.2.2.2.2.2.1]),())))) (P ((v8.1,List.take v8.2.2.2.2.2.1.length (List.drop 0 v8.2.2.2.2.2.1),()),()))) (some ((Int.ofNat (nat_lit 0), {data:= #[]},[],()),none,Int.ofNat (nat_lit 0),false,[],Int.ofNat (nat_lit 0),Int.ofNat (nat_lit 0),false,()),y7,n,str,g,[],PUnit.unit))=fnMW (qv [Wb+14]) (look [(52,bn),(68,Yy)]) Yn Tryz.f70 (n,str,g,b,s,d,()) P:=by kernel_rfl
theorem XV (n:Int) (str:ByteArray) (g:List (List Int)) (ts:List (List Int×List (List Int)×List Int×Unit)) (s:List Int) (d:Int) (P:((List Int×Unit)×Unit)->Prop):(∃(y7:Option (List (List Int×List (List Int)×List Int×PUnit)×List (ByteArray->Option Int)×PUnit)×Bool×PUnit),Yl.fn ((n,str,g,()),ts,s,())=some y7/\Br (!y7.2.1) (P ((List.take 0 (List.drop 0 []),()),())) (∃(y8:Bool),bA.fn (d,())=some y8/\Br (!y8) (P ((List.take 0 (List.drop 0 []),()),())) (∃(y9:(Option ((Int×ByteArray×List (List Int)×PUnit)×Option (List (List Int×List (List Int)×List Int×PUnit)×List (ByteArray->Option Int)×PUnit)×Int×Bool×List Int×Int×Int×Bool×PUnit)×List Int×PUnit)×PUnit),Yn.fn (n,str,g,y7.1,s,d,())=some y9/\P ((List.take y9.1.2.1.length (List.drop 0 y9.1.2.1),()),()))))=fnMW Va (look [(51,Yl),(67,bA),(70,Yn)]) Yq Tryz.f38 (n,str,g,ts,s,d,()) P:=by kernel_rfl
abbrev kJ:Type:=(List (List Int×List (List Int)×List Int×PUnit)×PUnit)×PUnit
abbrev qt:Type:=(Int×ByteArray×List (List Int)×PUnit)×PUnit
theorem Ade (p:Int×ByteArray×List (List Int)×Unit) (ts:List (List Int×List (List Int)×List Int×Unit)) (s:List Int) (d:Int) (P:Bool->Prop):(Br (decide ((↑s.length:Int)>(1048576:Int))) (P true) (∃(y5:Int),zg.fn ((p.1,p.2.1,p.2.2.1,()),(1048576:Int),())=some y5/\Br (decide (y5<(0:Int))) (P true) (∃(y6:Int),qa.fn (ts,y5,())=some y6/\Br (decide (y6<(0:Int))) (P true) (∃(y7:qt),Pw.fn (p.1,p.2.1,p.2.2.1,())=some y7/\ ∃(y8:kJ),bp.fn (ts,())=some y8/\ ∃(y9:(List Int×PUnit)×PUnit),Th.fn (s,())=some y9/\ ∃(Ly:List Int),bG.fn ((y7.1.1,y7.1.2.1,List.take y7.1.2.2.1.length (List.drop 0 y7.1.2.2.1),()),List.take y8.1.1.length (List.drop 0 y8.1.1),List.take y9.1.1.length (List.drop 0 y9.1.1),d,())=some Ly/\ ∃(bu:qt),Pw.fn (p.1,p.2.1,p.2.2.1,())=some bu/\ ∃(dN:kJ),bp.fn (ts,())=some dN/\ ∃(Lg:(List Int×PUnit)×PUnit),Th.fn (s,())=some Lg/\ ∃(Ji:(List Int×PUnit)×PUnit),Yq.fn (bu.1.1,bu.1.2.1,List.take bu.1.2.2.1.length (List.drop 0 bu.1.2.2.1),List.take dN.1.1.length (List.drop 0 dN.1.1),List.take Lg.1.1.length (List.drop 0 Lg.1.1),d,())=some Ji/\ ∃(Qu:Bool),Bo.fn (List.take Ji.1.1.length (List.drop 0 Ji.1.1),Ly,())=some Qu/\Br (!Qu) (P false) (∃(Xj:Int×ByteArray×List (List Int)×PUnit),zh.fn ((p.1,p.2.1,p.2.2.1,()),())=some Xj/\ ∃(aG:Bool),ze.fn ((bu.1.1,bu.1.2.1,List.take bu.1.2.2.1.length (List.drop 0 bu.1.2.2.1),()),Xj,())=some aG/\Br (!aG) (P false) (∃(Xk:kJ),bp.fn (ts,())=some Xk/\ ∃(Sh:Bool),pY.fn (List.take dN.1.1.length (List.drop 0 dN.1.1),List.take Xk.1.1.length (List.drop 0 Xk.1.1),())=some Sh/\Br (!Sh) (P false) (∃(Ok:(List Int×PUnit)×PUnit),Th.fn (s,())=some Ok/\ ∃(Xc:Bool),Bo.fn (List.take Lg.1.1.length (List.drop 0 Lg.1.1),List.take Ok.1.1.length (List.drop 0 Ok.1.1),())=some Xc/\Br (!Xc) (P false) (0=0/\bu.1.2.2.1.length=bu.1.2.2.1.length/\ ∃(Sw:(Int×PUnit)×List (List Int)×PUnit),Ss.fn (bu.1.1,bu.1.2.1,bu.1.2.2.1,(1:Int),())=some Sw/\(Sw.2.1.length=bu.1.2.2.1.length/\bu.1.2.2.1.length=bu.1.2.2.1.length)/\0=0/\dN.1.1.length=dN.1.1.length/\ ∃(Xo:(Int×PUnit)×PUnit),Lk.fn (dN.1.1,Sw.1.1,())=some Xo/\0=0/\Lg.1.1.length=Lg.1.1.length/\ ∃(y24:(Int×PUnit)×List Int×PUnit),Zp.fn (Lg.1.1,Xo.1.1,())=some y24/\(y24.2.1.length=Lg.1.1.length/\Lg.1.1.length=Lg.1.1.length)/\Br (decide (y24.1.1<(0:Int))) (P false) (∃(y25:Bool),Bo.fn (List.take Ji.1.1.length (List.drop 0 Ji.1.1),Ly,())=some y25/\Br (!y25) (P false) (0=0/\Ji.1.1.length=Ji.1.1.length/\ ∃(y26:(Int×PUnit)×List Int×PUnit),Zp.fn (Ji.1.1,(1:Int),())=some y26/\(y26.2.1.length=Ji.1.1.length/\Ji.1.1.length=Ji.1.1.length)/\ ∃(y27:Int),fP.fn (List.take Ji.1.1.length (List.drop 0 y26.2.1),(1:Int),())=some y27/\Br (decide (y27<(0:Int))) (P false) (Br (y27 !=y26.1.1) (P false) (∃(y28:qt),Pw.fn (p.1,p.2.1,p.2.2.1,())=some y28/\ ∃(y29:kJ),bp.fn (ts,())=some y29/\ ∃(y30:(List Int×PUnit)×PUnit),Th.fn (s,())=some y30/\ ∃(y31:(List Int×PUnit)×PUnit),Yq.fn (y28.1.1,y28.1.2.1,List.take y28.1.2.2.1.length (List.drop 0 y28.1.2.2.1),List.take y29.1.1.length (List.drop 0 y29.1.1),List.take y30.1.1.length (List.drop 0 y30.1.1),d,())=some y31/\ ∃(y32:Bool),Bo.fn (List.take y31.1.1.length (List.drop 0 y31.1.1),Ly,())=some y32/\Br (!y32) (P false) (∃(y33:Int),fP.fn (List.take Ji.1.1.length (List.drop 0 y26.2.1),(1:Int),())=some y33/\Br (decide (y33<(0:Int))) (P false) (Br (y33 !=y26.1.1) (P false) (P true)))))))))))))))=fnW Ej (look [(13,zg),(14,qa),(37,bG),(38,Yq),(16,Pf.b zh Pw),(17,Pf.b vD bp),(18,Pf.b gJ Th),(22,Bo),(20,ze),(21,pY),(29,Ss),(30,Lk),(31,Zp),(32,fP)]) mJ Tryz.f9 (p,ts,s,d,()) P:=by kernel_rfl
theorem tP (p:PP) (ts:List TT) (s:List Int) (d:Int): ∀(f:Nat) (k:Int) (v:DS) (out:List Int),(Xv p ts s d f k v out).1.length<=out.length+f
 |0,_,_,_=>Ao _
 |f+1,k,v,out=>by
  unfold Xv
  split
  ·have:=tP p ts s d f (k+1) (lB p ts s k false) (out++ [(lB p ts s k false).1])
   rw [Ax,By] at this
   omega
  ·show out.length<=_
   omega
theorem qI {p:PP} {ts:List TT} {s:List Int} {d:Int} {v:DS} (h:Jy v=true) (f:Nat) (k:Int) (out:List Int):Xv p ts s d f k v out=(out,v):=by
 cases f with
 |zero=>rfl
 |succ f=>unfold Xv;rw [Ag (λhc=>by rw [h] at hc;simp at hc)]
theorem HM (p:PP) (ts:List TT) (s:List Int) (d:Int):short (lD p ts s d):=by
 unfold lD short
 split
 ·have:=tP p ts s d 40 (Nb ts s) (0,0,[],false,false,()) []
  show (Xv p ts s d 40 (Nb ts s) (0,0,[],false,false,()) []).1.length<=4294967296
  simp only [Gd] at this
  omega
 ·simp
theorem Afv (p:PP) (ts:List TT) (s:List Int) (k:Int):((eu p (some (Dp ts)) s k false).2.2.2.2||decide ((eu p (some (Dp ts)) s k false).2.2.2.1>0))=Jy (lB p ts s k false):=by
 have hs:=TM p ts s k false
 rw [hs.a,hs.m,MN,hs.all]
 simp
theorem r6 (p:PP) (ts:List TT) (s:List Int) (d:Int): ∀(f:Nat) (k:Int) (v:DS) (r:Option SR) (out:List Int),Jy v=false->(Ui p (some (Dp ts)) s d f k r out).1=(Xv p ts s d f k v out).1
 |0,_,_,_,_,_=>rfl
 |f+1,k,v,r,out,hv=>by
  have hsd:=Afv p ts s k
  have hn:=(TM p ts s k false).n
  rw [Ui,Xv,hsd,hn]
  by_cases hk:k<=d
  ·rw [Ab hk,Ab (show k<=d/\Jy v=false from ⟨hk,hv⟩)]
   by_cases hd:Jy (lB p ts s k false)=true
   ·rw [Ab hd,qI hd]
   ·rw [Ag hd]
    exact r6 p ts s d f (k+1) _ _ _ (by simpa using hd)
  ·rw [Ag hk,Ag (λhc=>hk hc.1)]
theorem OQ (n:Int) (str:ByteArray) (g:List (List Int)) (b:Option BB) (s:List Int) (d:Int) (h:EJ (n,str,g,()) b s d):
  fnMW (qv [Wb+14]) (look [(52,bn),(68,Yy)]) Yn Tryz.f70 (n,str,g,b,s,d,()) (λ(z:(Option SR×List Int×Unit)×Unit)=>z=(((Ui (n,str,g,()) b s d 40 (Qx b s) (some qn) []).2,(Ui (n,str,g,()) b s d 40 (Qx b s) (some qn) []).1,()),())):=by
 obtain ⟨ts,rfl,hh,h0,h30⟩:=h
 obtain ⟨ha,hb,_⟩:=eg hh
 have MZ:=sS ha hb
 have hlE:Qx (some (Dp ts)) s=Nb ts s:=rfl
 obtain ⟨R,hR⟩: ∃R,Ui (n,str,g,()) (some (Dp ts)) s d 40 (Qx (some (Dp ts)) s) (some qn) []=R:=⟨_,rfl⟩
 refine Eq.mp (QX n str g (some (Dp ts)) s d _) ?_
 rw [hR]
 refine ⟨Nb ts s,Ab ⟨ts,ha,rfl,hb⟩,rfl,rfl,?_⟩
 refine Cz.mk (λv=> ∃(f:Nat) (k:Int) (r:Option SR) (out:List Int),v=(r,k,n,str,g,out,())/\0<=k/\k<=3001/\d-k<f/\out.length+f=40/\Ui (n,str,g,()) (some (Dp ts)) s d f k r out=R) (λv=>(d+1-v.2.1).toNat)
  ⟨40,Nb ts s,some qn,[],rfl,MZ.1,by omega,by omega,rfl,hR⟩ ?_
 rintro v ⟨f,k,r,out,rfl,um,hk1,hf,hlen,hv⟩
 dsimp only
 refine Br.dec (λhk=>?_) λhk=>?_
 ·obtain ⟨f,rfl⟩: ∃f',f=f'+1:=⟨f-1,by omega⟩
  rw [Ui,Ab hk] at hv
  refine ⟨some (Abg (n,str,g,()) (some (Dp ts)) s k false),Ab ⟨ts,rfl,hh,um,by show k<=30;omega⟩,_,rfl,rfl,rfl,by show out.length+1<=4294967296;omega,_,rfl,?_⟩
  show Br (eu (n,str,g,()) (some (Dp ts)) s k false).2.2.2.2 _ _
  refine Br.of (λiU=>?_) λiU=>⟨_,rfl,?_⟩
  ·rw [iU,Bool.true_or,Ab rfl] at hv
   rw [<-hv]
   simp only [Bx]
   rfl
  show Br (decide ((eu (n,str,g,()) (some (Dp ts)) s k false).2.2.2.1>0)) _ _
  rw [iU,Pg] at hv
  refine Br.of (λhm=>?_) λhm=>?_
  ·rw [Ab hm] at hv
   rw [<-hv]
   simp only [Bx]
   rfl
  ·rw [Ag (by rw [hm];simp)] at hv
   rw [Dk (by omega) (by omega)]
   exact ⟨rfl,rfl,⟨f,k+1,_,_,rfl,by omega,by omega,by omega,by rw [Ax];show out.length+1+f=40;omega,hv⟩,by show (d+1-(k+1)).toNat<(d+1-k).toNat;omega⟩
 ·have wU:Ui (n,str,g,()) (some (Dp ts)) s d f k r out=(out,r):=by
   cases f with
   |zero=>rfl
   |succ f=>rw [Ui,Ag hk]
  rw [wU] at hv
  rw [<-hv]
  simp only [Bx]
theorem vQ:Ca Tryz.prog 70 Yn:=
 Ca.cd (qw [Wb+14]) (Av rE (Av vZ Bg)) mixed Tryz.func70 (by kernel_rfl) (by kernel_rfl) λx h=>OQ x.1 x.2.1 x.2.2.1 x.2.2.2.1 x.2.2.2.2.1 x.2.2.2.2.2.1 h
theorem Afj (p:PP) (ts:List TT) (s:List Int) (d:Int) (h:Wk p ts s d=true):fnW (qv [Wb+11]) (look [(48,bm),(92,dG),(66,bI)]) kF Tryz.f69 (p,ts,s,d,()) (λ(z:List Int×DS×Unit)=>z=((fu p ts s d).1,(fu p ts s d).2,())):=by
 obtain ⟨hh,h0,h30⟩:=tK.1 h
 obtain ⟨ha,hb,_⟩:=eg hh
 have MZ:=sS ha hb
 obtain ⟨R,hR⟩: ∃R,fu p ts s d=R:=⟨_,rfl⟩
 refine Eq.mp (Agb p ts s d _) ?_
 rw [hR]
 unfold fu at hR
 refine ⟨Nb ts s,Ab ⟨ha,hb⟩,rfl,rfl,rfl,rfl,?_⟩
 refine Cz.mk (λy=> ∃(f:Nat) (k:Int) (v:DS) (out:List Int),y=(k,p.1,p.2.1,p.2.2.1,(0:Int),(0:Int),false,false,v.1,v.2.1,v.2.2.1,v.2.2.2.1,v.2.2.2.2.1,out,[],())/\0<=k/\k<=3001/\d-k<f/\out.length+f=40/\Xv p ts s d f k v out=R) (λy=>(d+1-y.1).toNat)
  ⟨40,Nb ts s,(0,0,[],false,false,()),[],rfl,MZ.1,by omega,by omega,rfl,hR⟩ ?_
 rintro y ⟨f,k,v,out,rfl,um,hk1,hf,hlen,hv⟩
 dsimp only
 refine Br.dec (λhk=>?_) λhk=>?_
 ·refine ⟨Jy v,Ab trivial,Br.of (λhd=>?_) λhd=>?_⟩
  ·have hd:Jy v=false:=Aim hd
   obtain ⟨f,rfl⟩: ∃f',f=f'+1:=⟨f-1,by omega⟩
   rw [Xv,Ab (show k<=d/\Jy v=false from ⟨hk,hd⟩)] at hv
   refine ⟨lB p ts s k false,Ab ⟨hh,um,by show k<=30;omega⟩,rfl,rfl,by show out.length+1<=4294967296;omega,rfl,rfl,rfl,rfl,?_⟩
   rw [Dk (by omega) (by omega)]
   exact ⟨⟨f,k+1,_,_,rfl,by omega,by omega,by omega,by rw [Ax];show out.length+1+f=40;omega,hv⟩,by show (d+1-(k+1)).toNat<(d+1-k).toNat;omega⟩
  ·have hd:Jy v=true:=by simpa using hd
   rw [qI hd] at hv
   rw [<-hv]
   simp only [Bx]
 ·have wU:Xv p ts s d f k v out=(out,v):=by
   cases f with
   |zero=>rfl
   |succ f=>rw [Xv,Ag (λhc=>hk hc.1)]
  rw [wU] at hv
  rw [<-hv]
  simp only [Bx]
theorem JL:Sound Tryz.prog 69 kF:=
 Sound.En (qw [Wb+11]) (Av rD (Av vR (Av xI Bg))) mixed Tryz.func69 (by kernel_rfl) (by kernel_rfl) λx h=>Afj x.1 x.2.1 x.2.2.1 x.2.2.2.1 h
theorem WG (p:PP) (ts:List TT) (s:List Int) (d:Int) (h:Ei p/\Gx ts/\short s):fnW Ej (look [(65,pW),(69,kF)]) bG Tryz.f37 (p,ts,s,d,()) (λ(z:List Int)=>z=lD p ts s d):=by
 refine Eq.mp (YG p ts s d _) ⟨Wk p ts s d,Ab h,?_⟩
 unfold lD
 refine Br.of (λhb=>?_) λhb=>?_
 ·rw [Ag (Eu hb)]
  rfl
 ·have hc:Wk p ts s d=true:=by simpa using hb
  rw [Ab hc]
  exact ⟨_,Ab hc,rfl⟩
theorem xG:Sound Tryz.prog 37 bG:=
 Sound.En Db (Av QB (Av JL Bg)) mixed Tryz.func37 (by kernel_rfl) (by kernel_rfl) λx h=>WG x.1 x.2.1 x.2.2.1 x.2.2.2.1 h
theorem VU (n:Int) (str:ByteArray) (g:List (List Int)) (ts:List TT) (s:List Int) (d:Int) (h:Ei (n,str,g,())/\Gx ts/\short s):
  fnMW Va (look [(51,Yl),(67,bA),(70,Yn)]) Yq Tryz.f38 (n,str,g,ts,s,d,()) (λ(z:(List Int×Unit)×Unit)=>z=((lD (n,str,g,()) ts s d,()),())):=by
 refine Eq.mp (XV n str g ts s d _) ?_
 unfold lD
 by_cases hh:Oc (n,str,g,()) ts s=true
 ·refine ⟨(some (Dp ts),true,()),(Ab h).trans (Mf some (Ab hh)),λhb=>by simp at hb,λ_=>⟨pF d,Ab trivial,?_⟩⟩
  have hc:Wk (n,str,g,()) ts s d=pF d:=by unfold Wk;rw [hh,bM]
  refine Br.of (λhd=>?_) λhd=>?_
  ·rw [Ag (by rw [hc];exact Eu hd)]
   rfl
  ·have hd:Wk (n,str,g,()) ts s d=true:=by rw [hc];simpa using hd
   obtain ⟨_,h0,h30⟩:=tK.1 hd
   rw [Ab hd]
   refine ⟨_,Ab ⟨ts,rfl,hh,h0,h30⟩,?_⟩
   dsimp only
   rw [Bx,show Qx (some (Dp ts)) s=Nb ts s from rfl,r6 (n,str,g,()) ts s d 40 (Nb ts s) (0,0,[],false,false,()) _ [] rfl]
   rfl
 ·have hc: ¬Wk (n,str,g,()) ts s d=true:= λhc=>hh (tK.1 hc).1
  rw [Ag hc]
  exact ⟨(none,false,()),(Ab h).trans (Mf some (Ag hh)),λ_=>rfl,λhb=>by simp at hb⟩
theorem xy:Ca Tryz.prog 38 Yq:=
 Ca.cd Tm (Av vL (Av xz (Ep vQ Bg))) mixed Tryz.func38 (by kernel_rfl) (by kernel_rfl) λx h=>VU x.1 x.2.1 x.2.2.1 x.2.2.2.1 x.2.2.2.2.1 x.2.2.2.2.2.1 h
theorem Abu (p:PP) (ts:List TT) (s:List Int) (d:Int) (h:Ei p/\Gx ts/\short s):fnW Ej (look [(13,zg),(14,qa),(37,bG),(38,Yq),(16,Pf.b zh Pw),(17,Pf.b vD bp),(18,Pf.b gJ Th),(22,Bo),(20,ze),(21,pY),(29,Ss),(30,Lk),(31,Zp),(32,fP)]) mJ Tryz.f9 (p,ts,s,d,()) (λ(z:Bool)=>z=true):=by
 have h0:Ei (p.1,p.2.1,p.2.2.1,()):=h.1
 have h1:Gx ts:=h.2.1
 have h2:short s:=h.2.2
 refine Eq.mp (Ade p ts s d _) ?_
 refine Br.dec (λ_=>rfl) λAym=>?_
 refine ⟨_,Ab ⟨h0,JA⟩,Br.dec (λ_=>rfl) λAty=>?_⟩
 have Af3:(((Ed p.2.2.1:Nat):Nat):Int)<=(1048576)-(aQ (p.1,p.2.1,p.2.2.1,()) (1048576))/\roomy (aQ (p.1,p.2.1,p.2.2.1,()) (1048576)):=Acj JA Aty
 have Azs:=Af3.1
 have Az5:0<=aQ (p.1,p.2.1,p.2.2.1,()) (1048576)/\aQ (p.1,p.2.1,p.2.2.1,()) (1048576)<=4294967296:=Af3.2
 refine ⟨_,Ab ⟨h1,Af3.2⟩,Br.dec (λ_=>rfl) λAof=>?_⟩
 have Ahw:(((Ln ts:Nat):Nat):Int)<=(aQ (p.1,p.2.1,p.2.2.1,()) (1048576))-(cc ts (aQ (p.1,p.2.1,p.2.2.1,()) (1048576)))/\roomy (cc ts (aQ (p.1,p.2.1,p.2.2.1,()) (1048576))):=XM Af3.2 Aof
 have Awp:=Ahw.1
 have Awi:0<=cc ts (aQ (p.1,p.2.1,p.2.2.1,()) (1048576))/\cc ts (aQ (p.1,p.2.1,p.2.2.1,()) (1048576))<=4294967296:=Ahw.2
 have l0:low (1+(Ed p.2.2.1:Nat)):=⟨by omega,by omega⟩
 have l1:low (1+(Ed p.2.2.1:Nat)+(Ln ts:Nat)):=⟨by omega,by omega⟩
 have l2:low (1+(Ed p.2.2.1:Nat)+(Ln ts:Nat)+(s.length:Nat)):=⟨by omega,by omega⟩
 refine ⟨_,Ab h0,_,Ab h1,_,Ab h2,?_⟩
 simp only [Bx]
 refine ⟨_,Ab ⟨h0,h1,h2⟩,_,Ab h0,_,Ab h1,_,Ab h2,?_⟩
 have YQ:short (lD (p.1,p.2.1,p.2.2.1,()) ts s d):=HM _ _ _ _
 generalize he0:lD (p.1,p.2.1,p.2.2.1,()) ts s d=g0 at YQ
 refine ⟨_,Ab ⟨h0,h1,h2⟩,?_⟩
 simp only [he0]
 refine ⟨_,Ab YQ,⟨λhe=>absurd (Sp _) (Eu he),λ_=>?_⟩⟩
 refine ⟨_,Ab h0,_,Ab h0,⟨λhe=>absurd (NY _) (Eu he),λ_=>?_⟩⟩
 refine ⟨_,Ab h1,?_⟩
 refine ⟨_,Ab h1,⟨λhe=>absurd (HL _) (Eu he),λ_=>?_⟩⟩
 refine ⟨_,Ab h2,?_⟩
 refine ⟨_,Ab h2,⟨λhe=>absurd (Sp _) (Eu he),λ_=>?_⟩⟩
 refine ⟨trivial,trivial,_,Ab ⟨h0.2,sT,l0⟩,⟨dB _ _,trivial⟩,trivial,trivial,_,Ab ⟨h1,l0,l1⟩,trivial,trivial,_,Ab ⟨h2,l1⟩,⟨Vi _ _,trivial⟩,Br.dec (λhn=>absurd l2.1 (Int.not_le.2 hn)) λ_=>?_⟩
 refine ⟨_,Ab YQ,⟨λhe=>absurd (Sp _) (Eu he),λ_=>?_⟩⟩
 refine ⟨trivial,trivial,_,Ab ⟨YQ,sT⟩,⟨Vi _ _,trivial⟩,?_⟩
 simp only [LF]
 have hm0: ∀k,short (La k g0.length):= λk=>by unfold short at*;rw [Vi];exact YQ
 refine ⟨_,Ab ⟨hm0 _,sT⟩,?_⟩
 simp only [lC]
 refine Br.dec (λhn=>by omega) λ_=>⟨λhe=>by simp at he,λ_=>?_⟩
 refine ⟨_,Ab h0,_,Ab h1,_,Ab h2,?_⟩
 refine ⟨_,Ab ⟨h0,h1,h2⟩,?_⟩
 simp only [he0]
 refine ⟨_,Ab YQ,⟨λhe=>absurd (Sp _) (Eu he),λ_=>?_⟩⟩
 refine ⟨_,Ab ⟨hm0 _,sT⟩,?_⟩
 simp only [lC]
 exact Br.dec (λhn=>by omega) λ_=>⟨λhe=>by simp at he,λ_=>trivial⟩
theorem CP:Sound Tryz.prog 9 mJ:=
 Sound.En Db (Av XG (Av QJ (Av xG (Ep xy (tR XH sE (tR QK JO (tR ql mO (Av qg (Av XD (Av QD (Ep qj (Ep CR (Ep jB (Av JK Bg)))))))))))))) mixed Tryz.func9 (by kernel_rfl) (by kernel_rfl) λx h=>Abu x.1 x.2.1 x.2.2.1 x.2.2.2.1 h
end Go.Proofs.YtfolipnappekaaaGreat
