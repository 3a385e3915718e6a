/-
  Part 44 of the proof that the statement FnPatterns holds.
-/
import Derived.Test.YtkkdpknjohcekaaGreatCFPatterns42
namespace Go.Proofs.YtkkdpknjohcekaaGreat
open Go.RowKit
noncomputable abbrev Ajp:MSpec:= {ptr:=some (170,3),Ii:= [none,none],ins:= [(false, .Fz tI),(false, .Bl tO vN false),(false, .Bl tO vN false),(false, .Fz tI),(false, .Fz tL)],Hk:=true,Gz:= [none,none],outs:= [.Fz tI, .Bl tO vN false, .Bl tO vN false, .Fz tL, .Fz tI],fn:= λ_=>none}
noncomputable abbrev kv:MSpec:=cS Ajp (λx=> ∃N L,dk N L x.1 x.2.2.1 x.2.1 x.2.2.2.1 x.2.2.2.2.1)
 (λx=>((x.1,x.2.1,x.2.2.1,(Tj x.2.1 (x.1-x.2.2.2.1).toNat x.2.2.2.1.toNat x.2.2.2.2.1).1,(Tj x.2.1 (x.1-x.2.2.2.1).toNat x.2.2.2.1.toNat x.2.2.2.2.1).2.1,()),()))
structure Ag4 (N L:Nat) (n:Int) (G T:Cf) (l:Int) (p:List Int):Prop where
 n1:1<=N
 n2:N<=20
 en:n=N
 el:l=L
 lt:L<N
 part:Part N L (G,T)
 pm:Pm N p
 fx:Fx L p
 gn:Gn N (G.getD L []) p
 gl:(G.getD L []).length<=401
noncomputable abbrev Aal:MSpec:= {ptr:=some (170,3),Ii:= [none,none],ins:= [(false, .Fz tI),(false, .Bl tO vN false),(false, .Bl tO vN false),(false, .Fz tI),(false, .Fz tO)],Hk:=false,Gz:= [],outs:= [.Fz tI, .Bl tO vN false, .Bl tO vN false],fn:= λ_=>none}
noncomputable abbrev o1 (m:Nat):MSpec:=cS Aal (λx=>(∃N L q,x.2.2.2.2.1=some q/\dk N L x.1 x.2.2.1 x.2.1 x.2.2.2.1 q)/\SH x.1.toNat x.2.2.2.1.toNat<m)
 (λx=>((x.1,(kD x.1.toNat 1000 x.2.2.2.1.toNat (x.2.2.2.2.1.getD []) (x.2.2.1,x.2.1)).2,(kD x.1.toNat 1000 x.2.2.2.1.toNat (x.2.2.2.2.1.getD []) (x.2.2.1,x.2.1)).1,()),()))
noncomputable abbrev eJ (m:Nat):MSpec:=cS Aal (λx=>(∃N L q,x.2.2.2.2.1=some q/\Ag4 N L x.1 x.2.2.1 x.2.1 x.2.2.2.1 q)/\mI x.1.toNat x.2.2.2.1.toNat (x.2.2.1,x.2.1)<m)
 (λx=>((x.1,(gq x.1.toNat 1000 x.2.2.2.1.toNat (x.2.2.2.2.1.getD []) (x.2.2.1,x.2.1)).2,(gq x.1.toNat 1000 x.2.2.2.1.toNat (x.2.2.2.2.1.getD []) (x.2.2.1,x.2.1)).1,()),()))
noncomputable abbrev BB:MSpec:=cS Aal (λx=> ∃N L q,x.2.2.2.2.1=some q/\dk N L x.1 x.2.2.1 x.2.1 x.2.2.2.1 q)
 (λx=>((x.1,(kD x.1.toNat 1000 x.2.2.2.1.toNat (x.2.2.2.2.1.getD []) (x.2.2.1,x.2.1)).2,(kD x.1.toNat 1000 x.2.2.2.1.toNat (x.2.2.2.2.1.getD []) (x.2.2.1,x.2.1)).1,()),()))
theorem xa (p q:List Int) (P:List Int->Prop):(0=0/\0=([]:List Int).length/\Dm (λ(v3:Int×List Int×PUnit) (k4:Int×List Int×PUnit->Prop)=>Br (decide (v3.1<(↑p.length:Int))) (∃(y5:Int),idx p v3.1=some y5/\ ∃(y6:Int),idx q y5=some y6/\0=0/\v3.2.1.length=v3.2.1.length/\v3.2.1.length+(List.take 1 (List.drop 0 [y6])).length<=Db/\0=0/\(v3.2.1++List.take 1 (List.drop 0 [y6])).length=(v3.2.1++List.take 1 (List.drop 0 [y6])).length/\k4 (IntKind.i64.wrap (v3.1+(1:Int)),v3.2.1++List.take 1 (List.drop 0 [y6]),())) (P (List.take v3.2.1.length (List.drop 0 v3.2.1)))) ((0:Int),[],PUnit.unit))=fnW Gb (look []) Jc Tryz.f81 (p,q,()) P:=by kernel_rfl
abbrev IZ:Type:=List Int×Int×List (List (Option (List Int)))×List (List (Option (List Int)))×Int×PUnit
theorem Ag2 (n:Int) (T G:List (List (Option (List Int)))) (l:Int) (p:List Int) (P:(Int×List (List (Option (List Int)))×List (List (Option (List Int)))×List Int×Int×Unit)×Unit->Prop):(0=0/\T.length=T.length/\0=0/\G.length=G.length/\Dm (λ(v6:IZ) (k7:IZ->Prop)=>Br (decide (v6.2.1<v6.2.2.2.2.1)) (((0:Int)<=v6.2.1/\v6.2.1<(↑v6.2.2.1.length:Int))/\ ∃(y8:Int),idx v6.1 v6.2.1=some y8/\((0:Int)<=y8/\y8<(↑(v6.2.2.1.getD (0+v6.2.1.toNat) []).length:Int))/\Br ((↑(((v6.2.2.1.getD (0+v6.2.1.toNat) []).getD y8.toNat (none:Option (List Int))).getD []).length:Int)==(0:Int)) ((0=0/\v6.2.2.1.length=v6.2.2.1.length)/\(0=0/\v6.2.2.2.1.length=v6.2.2.2.1.length)/\P ((v6.2.2.2.2.1,v6.2.2.1,v6.2.2.2.1,v6.1,v6.2.1,()),())) (∃(y9:List Int),Fo.fn (((v6.2.2.1.getD (0+v6.2.1.toNat) []).getD y8.toNat (none:Option (List Int))).getD [],())=some y9/\ ∃(cq:List Int),Sb.fn (v6.1,y9,())=some cq/\0=0/\v6.2.2.1.length=v6.2.2.1.length/\0=0/\v6.2.2.2.1.length=v6.2.2.2.1.length/\k7 (cq,IntKind.i64.wrap (v6.2.1+(1:Int)),v6.2.2.1,v6.2.2.2.1,v6.2.2.2.2.1,()))) ((0=0/\v6.2.2.1.length=v6.2.2.1.length)/\(0=0/\v6.2.2.2.1.length=v6.2.2.2.1.length)/\P ((v6.2.2.2.2.1,v6.2.2.1,v6.2.2.2.1,v6.1,v6.2.2.2.2.1,()),()))) (p,l,T,G,n,PUnit.unit))=fnMW Xk (look [(163,Fo),(81,Sb)]) kv Tryz.f180 (n,T,G,l,p,()) P:=by kernel_rfl
abbrev BZ:Type:=Int×List (Option (List Int))×List (List (Option (List Int)))×List (List (Option (List Int)))×Int×PUnit
abbrev Aca:Type:=(Int×List (List (Option (List Int)))×List (List (Option (List Int)))×List Int×Int×PUnit)×PUnit
abbrev Ll (y7:Aca) (l:Int) (p:Option (List Int)) (n:Int):Prop:=0=0/\(y7.1.2.2.1.getD (0+l.toNat) []).length=(y7.1.2.2.1.getD (0+l.toNat) []).length/\(y7.1.2.2.1.getD (0+l.toNat) []).length+(List.take 1 (List.drop 0 [p])).length<=Db/\((0:Int)<=l/\l<(↑y7.1.2.2.1.length:Int))/\0=0/\(y7.1.2.2.1.getD (0+l.toNat) []++List.take 1 (List.drop 0 [p])).length=(y7.1.2.2.1.getD (0+l.toNat) []++List.take 1 (List.drop 0 [p])).length/\0+l.toNat=0+l.toNat/\ [(0,y7.1.2.2.1.length),(0,y7.1.2.2.1.length),(0,y7.1.2.1.length),(0,y7.1.2.2.1.length)]= [(0,y7.1.2.2.1.length),(0,y7.1.2.2.1.length),(0,y7.1.2.1.length),(0,y7.1.2.2.1.length)]/\(l,p,y7.1.2.2.2.1,y7.1.2.2.2.2.1,l,n,decide (l>=n),l,p,y7.1.2.2.2.1,y7.1.2.2.2.2.1,y7.1.2.2.2.2.1,y7.1.1,y7.1.2.2.2.2.1==y7.1.1,l,l,0+l.toNat,p,List.take 1 (List.drop 0 [p]),0+l.toNat,y7.1.2.1,y7.1.2.2.1.set (0+l.toNat) (y7.1.2.2.1.getD (0+l.toNat) []++List.take 1 (List.drop 0 [p])),y7.1.1,())=(l,p,y7.1.2.2.2.1,y7.1.2.2.2.2.1,l,n,decide (l>=n),l,p,y7.1.2.2.2.1,y7.1.2.2.2.2.1,y7.1.2.2.2.2.1,y7.1.1,y7.1.2.2.2.2.1==y7.1.1,l,l,0+l.toNat,p,List.take 1 (List.drop 0 [p]),0+l.toNat,y7.1.2.1,y7.1.2.2.1.set (0+l.toNat) (y7.1.2.2.1.getD (0+l.toNat) []++List.take 1 (List.drop 0 [p])),y7.1.1,PUnit.unit)
theorem Ap5 {m:Nat} (n:Int) (T G:List (List (Option (List Int)))) (l:Int) (p:Option (List Int)) (P:(Int×List (List (Option (List Int)))×List (List (Option (List Int)))×Unit)×Unit->Prop):(Br (decide (l>=n)) ((0=0/\T.length=T.length)/\(0=0/\G.length=G.length)/\P ((n,T,G,()),())) (0=0/\T.length=T.length/\0=0/\G.length=G.length/\ ∃(y7:Aca),kv.fn (n,T,G,l,p.getD [],())=some y7/\Br (y7.1.2.2.2.2.1==y7.1.1) ((0=0/\y7.1.2.1.length=y7.1.2.1.length)/\(0=0/\y7.1.2.2.1.length=y7.1.2.2.1.length)/\P ((y7.1.1,y7.1.2.1,y7.1.2.2.1,()),())) (((0:Int)<=l/\l<(↑y7.1.2.2.1.length:Int))/\0=0/\(y7.1.2.2.1.getD (0+l.toNat) []).length=(y7.1.2.2.1.getD (0+l.toNat) []).length/\(y7.1.2.2.1.getD (0+l.toNat) []).length+(List.take 1 (List.drop 0 [p])).length<=Db/\((0:Int)<=l/\l<(↑y7.1.2.2.1.length:Int))/\0=0/\(y7.1.2.2.1.getD (0+l.toNat) []++List.take 1 (List.drop 0 [p])).length=(y7.1.2.2.1.getD (0+l.toNat) []++List.take 1 (List.drop 0 [p])).length/\0+l.toNat=0+l.toNat/\(0=0/\0=([]:List Int).length/\0=0/\y7.1.2.1.length=y7.1.2.1.length/\0=0/\y7.1.2.2.1.length=(y7.1.2.2.1.set (0+l.toNat) (y7.1.2.2.1.getD (0+l.toNat) []++List.take 1 (List.drop 0 [p]))).length/\Dm (λ(v8:BZ) (k9:BZ->Prop)=>Br (decide (v8.1<v8.2.2.2.2.1)) (((0:Int)<=l/\l<(↑v8.2.2.1.length:Int))/\((0:Int)<=v8.1/\v8.1<(↑(v8.2.2.1.getD (0+l.toNat) []).length:Int))/\Br (decide ((↑(((v8.2.2.1.getD (0+l.toNat) []).getD v8.1.toNat (none:Option (List Int))).getD []).length:Int)>(0:Int))) (((0:Int)<=l/\l<(↑v8.2.2.1.length:Int))/\((0:Int)<=v8.1/\v8.1<(↑(v8.2.2.1.getD (0+l.toNat) []).length:Int))/\0=0/\v8.2.1.length=v8.2.1.length/\v8.2.1.length+(List.take 1 (List.drop 0 [(v8.2.2.1.getD (0+l.toNat) []).getD v8.1.toNat none])).length<=Db/\0=0/\(v8.2.1++List.take 1 (List.drop 0 [(v8.2.2.1.getD (0+l.toNat) []).getD v8.1.toNat none])).length=(v8.2.1++List.take 1 (List.drop 0 [(v8.2.2.1.getD (0+l.toNat) []).getD v8.1.toNat none])).length/\0=0/\v8.2.2.1.length=v8.2.2.1.length/\0=0/\v8.2.2.2.1.length=v8.2.2.2.1.length/\k9 (IntKind.i64.wrap (v8.1+(1:Int)),v8.2.1++List.take 1 (List.drop 0 [(v8.2.2.1.getD (0+l.toNat) []).getD v8.1.toNat none]),v8.2.2.1,v8.2.2.2.1,v8.2.2.2.2.1,())) (0=0/\v8.2.1.length=v8.2.1.length/\0=0/\v8.2.2.1.length=v8.2.2.1.length/\0=0/\v8.2.2.2.1.length=v8.2.2.2.1.length/\k9 (IntKind.i64.wrap (v8.1+(1:Int)),v8.2.1,v8.2.2.1,v8.2.2.2.1,v8.2.2.2.2.1,()))) (0=0/\v8.2.1.length=v8.2.1.length/\0=0/\v8.2.2.1.length=v8.2.2.1.length/\0=0/\v8.2.2.2.1.length=v8.2.2.2.1.length/\Dm (λ(v10:BZ) (k11:BZ->Prop)=>Br (decide (v10.1<(↑v10.2.1.length:Int))) (((0:Int)<=v10.1/\v10.1<(↑v10.2.1.length:Int))/\ ∃(aw:Option (List Int)),v10.2.1[0+v10.1.toNat]?=some aw/\ ∃(vO:Option (List Int)),Ka.fn (aw.getD [],p.getD [],())=some vO/\0=0/\v10.2.2.1.length=v10.2.2.1.length/\0=0/\v10.2.2.2.1.length=v10.2.2.2.1.length/\ ∃(ah:(Int×List (List (Option (List Int)))×List (List (Option (List Int)))×PUnit)×PUnit),(eJ m).fn (v10.2.2.2.2.1,v10.2.2.1,v10.2.2.2.1,l,vO,())=some ah/\0=0/\v10.2.1.length=v10.2.1.length/\0=0/\ah.1.2.1.length=ah.1.2.1.length/\0=0/\ah.1.2.2.1.length=ah.1.2.2.1.length/\k11 (IntKind.i64.wrap (v10.1+(1:Int)),v10.2.1,ah.1.2.1,ah.1.2.2.1,ah.1.1,())) ((0=0/\v10.2.2.1.length=v10.2.2.1.length)/\(0=0/\v10.2.2.2.1.length=v10.2.2.2.1.length)/\P ((v10.2.2.2.2.1,v10.2.2.1,v10.2.2.2.1,()),()))) ((0:Int),v8.2.1,v8.2.2.1,v8.2.2.2.1,v8.2.2.2.2.1,PUnit.unit))) ((0:Int),[],y7.1.2.1,y7.1.2.2.1.set (0+l.toNat) (y7.1.2.2.1.getD (0+l.toNat) []++List.take 1 (List.drop 0 [p])),y7.1.1,PUnit.unit))/\(((((0:Int)<=l/\l<(↑y7.1.2.2.1.length:Int))/\((Ll y7 l p n))/\(Ll y7 l p n))/\((0:Int)<=l/\l<(↑y7.1.2.2.1.length:Int))/\(Ll y7 l p n))/\((0:Int)<=l/\l<(↑y7.1.2.2.1.length:Int))/\(Ll y7 l p n))/\(((((0:Int)<=l/\l<(↑y7.1.2.2.1.length:Int))/\((Ll y7 l p n))/\(Ll y7 l p n))/\((0:Int)<=l/\l<(↑y7.1.2.2.1.length:Int))/\(Ll y7 l p n))/\(((0:Int)<=l/\l<(↑y7.1.2.2.1.length:Int))/\(((Ll y7 l p n))/\(Ll y7 l p n))/\(((Ll y7 l p n))/\((Ll y7 l p n))/\(Ll y7 l p n))/\((Ll y7 l p n))/\((Ll y7 l p n))/\(Ll y7 l p n))/\(((0:Int)<=l/\l<(↑y7.1.2.2.1.length:Int))/\(Ll y7 l p n))/\((0:Int)<=l/\l<(↑y7.1.2.2.1.length:Int))/\((Ll y7 l p n))/\((Ll y7 l p n))/\(Ll y7 l p n))/\(((0:Int)<=l/\l<(↑y7.1.2.2.1.length:Int))/\(Ll y7 l p n))/\(((0:Int)<=l/\l<(↑y7.1.2.2.1.length:Int))/\(Ll y7 l p n))/\((0:Int)<=l/\l<(↑y7.1.2.2.1.length:Int))/\((Ll y7 l p n))/\((Ll y7 l p n))/\(Ll y7 l p n))))=fnMW (Acn [vD+46]) (look [(180,kv),(81,Ka),(181,bx.m (eJ m))]) (o1 (m+1)) Tryz.f171 (n,T,G,l,p,()) P:=by kernel_rfl
abbrev Ac5:Type:=(Int×List (List (Option (List Int)))×List (List (Option (List Int)))×PUnit)×PUnit
abbrev Acb:Type:=Int×List (List (Option (List Int)))×List (List (Option (List Int)))×Int×PUnit
theorem Ap6 {m:Nat} (n:Int) (T G:List (List (Option (List Int)))) (l:Int) (p:Option (List Int)) (P:(Int×List (List (Option (List Int)))×List (List (Option (List Int)))×Unit)×Unit->Prop):(((0:Int)<=l/\l<(↑T.length:Int))/\ ∃(y7:Int),idx (p.getD []) l=some y7/\((0:Int)<=y7/\y7<(↑(T.getD (0+l.toNat) []).length:Int))/\Br (decide ((↑(((T.getD (0+l.toNat) []).getD y7.toNat (none:Option (List Int))).getD []).length:Int)>(0:Int))) (∃(y8:List Int),Fo.fn (((T.getD (0+l.toNat) []).getD y7.toNat (none:Option (List Int))).getD [],())=some y8/\ ∃(y9:Option (List Int)),Ka.fn (p.getD [],y8,())=some y9/\0=0/\T.length=T.length/\0=0/\G.length=G.length/\ ∃(cq:Ac5),(o1 m).fn (n,T,G,IntKind.i64.wrap (l+(1:Int)),y9,())=some cq/\(0=0/\cq.1.2.1.length=cq.1.2.1.length)/\(0=0/\cq.1.2.2.1.length=cq.1.2.2.1.length)/\P ((cq.1.1,cq.1.2.1,cq.1.2.2.1,()),())) (((0:Int)<=l/\l<(↑T.length:Int))/\ ∃(y8:Int),idx (p.getD []) l=some y8/\((0:Int)<=y8/\y8<(↑(T.getD (0+l.toNat) []).length:Int))/\0=0/\T.length=(T.set (0+l.toNat) ((T.getD (0+l.toNat) []).set y8.toNat p)).length/\0=0/\G.length=G.length/\Dm (λ(v9:Acb) (k10:Acb->Prop)=>((0:Int)<=l/\l<(↑v9.2.2.1.length:Int))/\Br (decide (v9.1<(↑(v9.2.2.1.getD (0+l.toNat) []).length:Int))) (((0:Int)<=l/\l<(↑v9.2.2.1.length:Int))/\((0:Int)<=v9.1/\v9.1<(↑(v9.2.2.1.getD (0+l.toNat) []).length:Int))/\ ∃(Xp:Option (List Int)),Ka.fn (p.getD [],((v9.2.2.1.getD (0+l.toNat) []).getD v9.1.toNat (none:Option (List Int))).getD [],())=some Xp/\0=0/\v9.2.1.length=v9.2.1.length/\0=0/\v9.2.2.1.length=v9.2.2.1.length/\ ∃(aw:Ac5),(eJ m).fn (v9.2.2.2.1,v9.2.1,v9.2.2.1,l,Xp,())=some aw/\0=0/\aw.1.2.1.length=aw.1.2.1.length/\0=0/\aw.1.2.2.1.length=aw.1.2.2.1.length/\k10 (IntKind.i64.wrap (v9.1+(1:Int)),aw.1.2.1,aw.1.2.2.1,aw.1.1,())) ((0=0/\v9.2.1.length=v9.2.1.length)/\(0=0/\v9.2.2.1.length=v9.2.2.1.length)/\P ((v9.2.2.2.1,v9.2.1,v9.2.2.1,()),()))) ((0:Int),T.set (0+l.toNat) ((T.getD (0+l.toNat) []).set y8.toNat p),G,n,PUnit.unit)))=fnMW Xk (look [(163,Fo),(81,Ka),(171,bx.m (o1 m)),(181,bx.m (eJ m))]) (eJ (m+1)) Tryz.f181 (n,T,G,l,p,()) P:=by kernel_rfl
theorem TJ {p q:List Int} {j:Nat} (h:j<p.length):(Af p q).take (j+1)=(Af p q).take j++ [Hi q p[j]]:=by
 unfold Af
 rw [Cy (by rw [Ch];exact h),Sx]
theorem wA (p q:List Int) (h:List.length p<=20/\Lq (List.length q) p):fnW Gb (look []) Jc Tryz.f81 (p,q,()) (λ(z:List Int)=>z=Af p q):=by
 obtain ⟨h1,h2⟩:=h
 refine Eq.mp (xa p q _) ⟨rfl,rfl,?_⟩
 refine Bw p.length (λv=>v.1) (λj v=>v=((j:Int),(Af p q).take j,())) rfl rfl ?_
 rintro j v K hj hi rfl hK
 dsimp only
 have hlen:((Af p q).take j).length<=20:=by rw [Dc];unfold Af;rw [Ch];omega
 refine Br.dec (λhl=>?_) λhl=>?_
 ·have hl:j<p.length:=by omega
  have hr:=h2 p[j] (Al hl)
  refine ⟨_,Co hl,Hi q p[j],ez hr.1 hr.2,rfl,rfl,?_,rfl,rfl,?_⟩
  ·show ((Af p q).take j).length+1<=4294967296
   omega
  ·rw [Bm (by omega)]
   refine hK hl _ rfl ?_
   rw [TJ hl]
   rfl
 ·have:j=p.length:=by omega
  subst this
  rw [Dk,<-Pf p q,Ay]
theorem Rh:Sound Tryz.prog 81 Jc:=
 Sound.Gt Dt Bp mixed Tryz.func81 (by kernel_rfl) (by kernel_rfl) λx h=>wA x.1 x.2.1 h
theorem mB:Sound Tryz.prog 81 Sb:=Sound.loose Rh
theorem cd:Sound Tryz.prog 81 Ka:=Sound.toO Rh λx h=>⟨⟨h.1.2,h.2⟩,λe=>by
 have:=Pf x.1 x.2.1
 rw [e] at this
 have:=h.1.1
 simp only [Fb] at*
 omega⟩
theorem WC {N L i:Nat} {G T:Cf} {p:List Int} (n2:N<=20) (v3:dP N (N-L) L (G,T)) (v2:T.length=N) (h1:L<=i) (hl:i<N) (h4:Pm N p) (h5:Fx i p):
  ∃o,idx p (i:Int)=some (ap p i:Int)/\T[i]?=some (T.getD i [])/\ap p i<(T.getD i []).length/\(T.getD i [])[ap p i]?=some o/\(T.getD i []).getD (ap p i) none=o/\
   (o=none->(o.getD []).length=0/\ ∀k,Tj T (k+1) i p=(p,(i:Int),()))/\
   (∀t,o=some t->(t.length≠0/\t.length<=20/\Lq t.length t)/\(p.length<=20/\Lq (Bb t).length p)/\Pm N (Af p (Bb t))/\Fx (i+1) (Af p (Bb t))/\ ∀k,Tj T (k+1) i p=Tj T k (i+1) (Af p (Bb t))):=by
 have Kd:=dX (N-L) L v3 i h1 (by omega)
 have hT:i<T.length:=by omega
 have hlen:(T.getD i []).length=N:=Kd.rl
 obtain ⟨a1,a2⟩:=h4.Xm hl
 have hg:(Hi p (i:Int)).toNat=ap p i:=rfl
 refine ⟨(T.getD i []).getD (ap p i) none,?_,?_,by omega,?_,rfl,λho=>?_,λt ho=>?_⟩
 ·rw [<-a1,Is (by rw [h4.1];exact hl)];exact Co (by rw [h4.1];exact hl)
 ·rw [Ai,Ac hT];rfl
 ·rw [Ai (l:=T.getD i []),Ac (by omega)];rfl
 ·refine ⟨by rw [ho];rfl,λk=>?_⟩
  simp only [Tj,hg,ho]
 ·obtain ⟨t1,t2,t3,t4⟩:=Kd.rt _ _ ho
  have hn1:=h4.n1
  refine ⟨⟨by rw [t1.1];omega,by rw [t1.1];exact n2,t1.2.row⟩,⟨by rw [h4.1];exact n2,by rw [nC,t1.1];exact h4.row⟩,h4.comp t1.inv,Fx.div h4 t1 h5 t2 hl t3,λk=>?_⟩
  simp only [Tj,hg,ho]
theorem Afb (n:Int) (T G:List (List (Option (List Int)))) (l:Int) (p:List Int) (h: ∃N L,dk N L n G T l p):
  fnMW Xk (look [(163,Fo),(81,Sb)]) kv Tryz.f180 (n,T,G,l,p,()) (λ(z:(Int×List (List (Option (List Int)))×List (List (Option (List Int)))×List Int×Int×Unit)×Unit)=>z=((n,T,G,(Tj T (n-l).toNat l.toNat p).1,(Tj T (n-l).toNat l.toNat p).2.1,()),())):=by
 obtain ⟨N,L,h⟩:=h
 obtain ⟨n1,n2,en,el,hle,v,pm,fx⟩:=h
 subst en el
 refine Eq.mp (Ag2 (N:Int) T G (L:Int) p _) ⟨rfl,rfl,rfl,rfl,?_⟩
 obtain ⟨v1,v2,v3,v4⟩:=v
 dsimp only at v1 v2
 refine ⟨λv=> ∃i:Nat,L<=i/\i<=N/\v.2=((i:Int),T,G,(N:Int),())/\Pm N v.1/\Fx i v.1/\Tj T (N-i) i v.1=Tj T (N-L) L p,λv=>N-v.2.1.toNat,⟨L,Ao _,hle,rfl,pm,fx,rfl⟩,?_⟩
 rintro ⟨p',v'⟩ ⟨i,h1,h2,h3,h4,h5,h6⟩
 dsimp only at h3 h4 h5 h6⊢
 subst h3
 dsimp only
 rw [show (((N:Int)-(L:Int)).toNat)=N-L by omega,show ((L:Int)).toNat=L by omega,<-h6]
 refine Br.dec (λhl=>?_) λhl=>?_
 ·have hl:i<N:=by omega
  obtain ⟨o,s1,s2,s3,s4,s5,s6,s7⟩:=WC n2 v3 v2 h1 hl h4 h5
  simp only [Aj,Bo,true_and,Oh]
  refine ⟨⟨by omega,by omega⟩,_,s1,⟨by omega,by omega⟩,?_⟩
  rw [Aj,s5,show N-i=(N-i-1)+1 by omega]
  cases o with
  |none=>
   rw [(s6 rfl).2]
   exact Br.of (λ_=>rfl) λhb=>by simp at hb
  |some t=>
   obtain ⟨⟨q1,q2⟩,q3,q4,q5,q6⟩:=s7 t rfl
   refine Br.of (λhb=>absurd (by simpa using hb) q1) λ_=>?_
   refine ⟨_,Ab q2,_,Ab q3,⟨i+1,by omega,by omega,?_,q4,q5,?_⟩,?_⟩
   ·rw [Bm (by omega)]
   ·rw [q6,show N-(i+1)=N-i-1 by omega];rfl
   ·show N-(IntKind.i64.wrap ((i:Int)+1)).toNat<N-i-1+1
    rw [Bm (by omega)]
    omega
 ·have:i=N:=by omega
  subst this
  rw [Nat.sub_self]
  exact ⟨⟨rfl,rfl⟩,⟨rfl,rfl⟩,rfl⟩
theorem IP:Cp Tryz.prog 180 kv:=
 Cp.cS mD (Av Zp (Av mB Bp)) mixed Tryz.func180 (by kernel_rfl) (by kernel_rfl) λx h=>Afb x.1 x.2.1 x.2.2.1 x.2.2.2.1 x.2.2.2.2.1 h
theorem Aoi {m:Nat} (n:Int) (T G:List (List (Option (List Int)))) (l:Int) (p:Option (List Int)) (h:(∃N L q,p=some q/\Ag4 N L n G T l q)/\mI n.toNat l.toNat (G,T)<m+1):
  fnMW Xk (look [(163,Fo),(81,Ka),(171,bx.m (o1 m)),(181,bx.m (eJ m))]) (eJ (m+1)) Tryz.f181 (n,T,G,l,p,()) (λ(z:(Int×List (List (Option (List Int)))×List (List (Option (List Int)))×Unit)×Unit)=>z=((n,(gq n.toNat 1000 l.toNat (p.getD []) (G,T)).2,(gq n.toNat 1000 l.toNat (p.getD []) (G,T)).1,()),())):=by
 obtain ⟨⟨N,L,q,rfl,h⟩,hm⟩:=h
 obtain ⟨n1,n2,en,el,Jj,part,pm,fx,gn,gl⟩:=h
 subst en el
 refine Eq.mp (Ap6 (N:Int) T G (L:Int) (some q) _) ?_
 have l1:G.length=N:=part.l1
 have l2:T.length=N:=part.l2
 have row:=part.row
 dsimp only at row
 have KE:=row.rl
 have hy:=pm.lt Jj
 simp only [Aj,Bo,Bq,true_and,Oh,Cm] at hm⊢
 refine ⟨⟨by omega,by omega⟩,_,zz pm Jj,⟨by omega,by omega⟩,?_⟩
 simp only [Aj]
 rcases Option.eq_none_or_eq_some ((T.getD L []).getD (ap q L) none) with Kd|⟨t,Kd⟩
 case inr=>
  obtain ⟨t1,t2,t3,t4⟩:=row.rt _ _ Kd
  have htl:=t1.1
  refine Br.dec (λ_=>?_) λhb=>?_
  ·rw [Kd,Bq]
   have hw:IntKind.i64.wrap ((L:Int)+1)=((L+1:Nat):Int):=Bm (by omega)
   rw [hw]
   have hmu:=Aay (s:=(G,T)) Jj
   refine ⟨_,Ab ⟨by show t.length<=20;omega,t1.2.row⟩,some (Af q (Bb t)),Ab ⟨Xy pm,pC pm t1.inv⟩,_,
    Ab ⟨⟨N,L+1,_,rfl,n1,n2,rfl,rfl,by omega,part.v,pm.comp t1.inv,Fx.div pm t1 fx t2 Jj t3⟩,by show SH (N:Int).toNat ((L+1:Nat):Int).toNat<m;rw [Aj,Aj];omega⟩,?_⟩
   simp only [Aj,Bq]
   rw [YR n1 n2 Jj part pm fx Kd]
  ·rw [Kd,Bq] at hb
   omega
 case inl=>
  refine Br.dec (λhb=>by rw [Kd] at hb;simp at hb) λ_=>?_
  obtain ⟨a1,a2⟩:=DK Jj part pm fx gn Kd
  have zx:=YQ n1 n2 Jj part pm fx gn Kd
  have hmu:=Aex (n:=N) (q:=q) (s:=(G,T)) (k:=L) (y:=ap q L) (by show L<T.length;omega) (by show ap q L<(T.getD L []).length;omega) Kd
  have run:= λj=>xw n1 n2 Jj a1 a2 j
  dsimp only at a1 a2 zx hmu run
  refine ⟨⟨by omega,by omega⟩,_,zz pm Jj,⟨by omega,by omega⟩,?_⟩
  simp only [Aj]
  rw [zx]
  generalize hs0:((G,T.set L ((T.getD L []).set (ap q L) (some q))):Cf×Cf)=s0 at hmu run⊢
  have Aj9:T.set L ((T.getD L []).set (ap q L) (some q))=s0.2:=by rw [<-hs0]
  have Aa7:G=s0.1:=by rw [<-hs0]
  have hql:((G.getD L []).map λo=>Af q (o.getD [])).length=(G.getD L []).length:=Ch _
  refine Bw (G.getD L []).length (λv=>v.1) (λj v=> ∃s:Cf×Cf,v=((j:Int),s.2,s.1,(N:Int),())/\s=iO N L (((G.getD L []).map λo=>Af q (o.getD [])).take j) s0) rfl ⟨s0,by rw [<-Aa7,Aj9];rfl,rfl⟩ ?_
  rintro j v K hj hi ⟨s,rfl,hs⟩ hK
  have hr:=run j
  rw [<-hs] at hr
  have g1:s.1.getD L []=G.getD L []:=by rw [hr.same,Aa7]
  have g2:s.1.length=N:=hr.part.l1
  have g4:mI N L (s.1,s.2)<=mI N L s0:=hr.mu
  dsimp only
  simp only [g1]
  refine ⟨⟨by omega,by omega⟩,Br.dec (λhl=>?_) λhl=>?_⟩
  ·have hl:j<(G.getD L []).length:=by omega
   obtain ⟨g,oD,Ts,hgf⟩:=part.pg _ (Al hl)
   have hgj:(G.getD L []).getD j none=some g:=by rw [FC hl];exact oD
   have hqj:(((G.getD L []).map λo=>Af q (o.getD []))[j]'(by rw [hql];exact hl))=Af q g:=by rw [Sx,oD];rfl
   obtain ⟨b1,b2,b3⟩:=a2 (Af q g) (by rw [<-hqj];exact Al _)
   simp only [Aj,hgj,Bq]
   refine ⟨⟨by omega,by omega⟩,⟨by omega,by omega⟩,some (Af q g),Ab ⟨Xy pm,pC pm Ts⟩,_,
    Ab ⟨⟨N,L,_,rfl,n1,n2,rfl,rfl,Jj,hr.part,b1,b2,by rw [g1];exact b3,by rw [g1];exact gl⟩,by show mI (N:Int).toNat (L:Int).toNat (s.1,s.2)<m;rw [Aj,Aj];omega⟩,?_⟩
   simp only [Aj,Bq]
   rw [Bm (by omega)]
   refine hK hl _ rfl ⟨_,rfl,?_⟩
   rw [sR (by rw [hql];exact hl),<-hs,hqj]
  ·have:j=(G.getD L []).length:=by omega
   subst this
   rw [<-hql,Ay] at hs
   rw [hs]
theorem Ac3 {m:Nat} (Ajl:Cp Tryz.prog 171 (o1 m)) (MD:Cp Tryz.prog 181 (eJ m)):Cp Tryz.prog 181 (eJ (m+1)):=
 Cp.cS mD (Av Zp (Av cd (Fu Ajl (Fu MD Bp)))) mixed Tryz.func181 (by kernel_rfl) (by kernel_rfl) λx h=>Aoi x.1 x.2.1 x.2.2.1 x.2.2.2.1 x.2.2.2.2.1 h
theorem Aoh {m:Nat} (n:Int) (T G:List (List (Option (List Int)))) (l:Int) (p:Option (List Int)) (h:(∃N L q,p=some q/\dk N L n G T l q)/\SH n.toNat l.toNat<m+1):
  fnMW (Acn [vD+46]) (look [(180,kv),(81,Ka),(181,bx.m (eJ m))]) (o1 (m+1)) Tryz.f171 (n,T,G,l,p,()) (λ(z:(Int×List (List (Option (List Int)))×List (List (Option (List Int)))×Unit)×Unit)=>z=((n,(kD n.toNat 1000 l.toNat (p.getD []) (G,T)).2,(kD n.toNat 1000 l.toNat (p.getD []) (G,T)).1,()),())):=by
 obtain ⟨⟨N,L,q,rfl,h⟩,hm⟩:=h
 have h':=h
 obtain ⟨n1,n2,en,el,hle,v,pm,fx⟩:=h
 subst en el
 have hk:((N:Int)-(L:Int)).toNat=N-L:=by omega
 have back: ∀s:Cf×Cf,kD N 1000 L q (G,T)=s->((((N:Int),s.2,s.1,()),()):(Int×Cf×Cf×Unit)×Unit)=((((N:Int),(kD N 1000 L q (G,T)).2,(kD N 1000 L q (G,T)).1,()),()):(Int×Cf×Cf×Unit)×Unit):= λs e=>by rw [e]
 refine Eq.mp (Ap5 (N:Int) T G (L:Int) (some q) _) ?_
 simp only [Aj,Bo,Bq,true_and,Oh] at hm⊢
 refine Br.dec (λoD=>?_) λJj=>?_
 ·exact back (G,T) (QN (by rw [show N-L=0 by omega];rfl))
 have Jj:L<N:=by omega
 have hv:=v
 obtain ⟨v1,v2,v3,v4⟩:=v
 dsimp only at v1 v2
 have hsl:(Tj T (N-L) L q).2.1=(N:Int)↔Iu T (N-L) L q=true:=by
  have:=IG (T:=T) (N-L) L q
  rw [show L+(N-L)=N by omega] at this
  exact this
 refine ⟨_,Ab ⟨N,L,h'⟩,?_⟩
 simp only [Ll]
 simp only [hk,Aj]
 refine Br.of (λhh=>?_) λhh=>?_
 ·exact back (G,T) (QN (hsl.1 (eq_of_beq hh)))
 have hno: ¬Iu T (N-L) L q=true:= λhc=>by rw [hsl.2 hc] at hh;simp at hh
 have tv:=YP n1 n2 (s:=(G,T)) Jj hv pm fx hno
 obtain ⟨a1,a2⟩:=DJ n1 n2 (s:=(G,T)) Jj hv pm fx
 have hgl:(G.getD L []).length<=400:=by
  obtain ⟨k,hk1⟩: ∃k,N-L=k+1:=⟨N-L-1,by omega⟩
  rw [hk1] at hv
  exact RF n2 (by omega) hv
 have e1:(0:Int)<=(L:Int)/\(L:Int)<(G.length:Int):=by omega
 have e2:(G.getD L []).length+1<=Db:=by show _<=4294967296;omega
 have row:=a1.row
 dsimp only at row a1 a2 tv
 have KE:=row.rl
 have run:= λj=>xw n1 n2 Jj a1 a2 j
 have hmu:=MW a1
 simp only [Ea,List.take_succ_cons,List.take_zero,Aw,Fb,Cm,Bo,e1,e2,and_self,true_and,Oh]
 have hG1:(G.set L (G.getD L []++ [some q])).getD L []=G.getD L []++ [some q]:=du G L (by omega) _
 generalize hs0:((G.set L (G.getD L []++ [some q]),T):Cf×Cf)=s0 at hmu run tv⊢
 have Aa7:G.set L (G.getD L []++ [some q])=s0.1:=by rw [<-hs0]
 have Aj9:T=s0.2:=by rw [<-hs0]
 refine Bw N (λv=>v.1) (λy v=>v=((y:Int),(known ((T.getD L []).take y)).map some,T,G.set L (G.getD L []++ [some q]),(N:Int),())) rfl rfl ?_
 rintro y v K hj hi rfl hK
 dsimp only
 refine Br.dec (λhl=>?_) λhl=>?_
 ·have hl:y<N:=by omega
  have hy:y<(T.getD L []).length:=by omega
  have hkt:=MP hy
  have Rk:=xP ((T.getD L []).take y)
  rw [Dc] at Rk
  have hye:(T.getD L []).getD y none=(T.getD L [])[y]:=FC hy
  simp only [Aj]
  refine ⟨by omega,⟨by omega,by omega⟩,?_⟩
  rcases Option.eq_none_or_eq_some ((T.getD L []).getD y none) with ho|⟨t,ho⟩
  ·refine Br.dec (λhb=>by rw [ho] at hb;simp at hb) λ_=>?_
   rw [Bm (by omega)]
   refine hK hl _ rfl ?_
   rw [hkt,<-hye,ho]
   simp
  ·obtain ⟨t1,t2,t3,t4⟩:=row.rt _ _ ho
   have htl:=t1.1
   refine Br.dec (λ_=>?_) λhb=>by rw [ho,Bq] at hb;omega
   refine ⟨by omega,⟨by omega,by omega⟩,?_,?_⟩
   ·show _<=4294967296
    rw [Ch];omega
   ·rw [Bm (by omega)]
    refine hK hl _ rfl ?_
    rw [hkt,<-hye,ho]
    simp
 ·have:y=N:=by omega
  subst this
  have RN:(T.getD L []).take y=T.getD L []:=List.take_of_length_le (by omega)
  rw [RN]
  have hql:((known (T.getD L [])).map λu=>Af u q).length=(known (T.getD L [])).length:=Ch _
  have Rk:=xP (T.getD L [])
  refine Bw (known (T.getD L [])).length (λv=>v.1) (λj v=> ∃s:Cf×Cf,v=((j:Int),(known (T.getD L [])).map some,s.2,s.1,(y:Int),())/\s=iO y L (((known (T.getD L [])).map λu=>Af u q).take j) s0) rfl ⟨s0,by rw [<-Aj9,Aa7];rfl,rfl⟩ ?_
  rintro j v K' LS kZ ⟨s,rfl,hs⟩ hK'
  have hr:=run j
  rw [<-hs] at hr
  have g1:s.1.getD L []=G.getD L []++ [some q]:=by rw [hr.same,<-Aa7];exact hG1
  have g4:mI y L (s.1,s.2)<=mI y L s0:=hr.mu
  dsimp only
  refine Br.dec (λJv=>?_) λJv=>?_
  ·rw [Ch] at Jv
   have Jv:j<(known (T.getD L [])).length:=by omega
   obtain ⟨w,hw⟩:=ke.1 (Al Jv)
   obtain ⟨t1,t2,t3,t4⟩:=row.rt _ _ hw
   have hqj:(((known (T.getD L [])).map λu=>Af u q)[j]'(by rw [hql];exact Jv))=Af (known (T.getD L []))[j] q:=by rw [Sx]
   obtain ⟨b1,b2,b3⟩:=a2 (Af (known (T.getD L []))[j] q) (by rw [<-hqj];exact Al _)
   simp only [Aj]
   refine ⟨⟨by omega,by rw [Ch];omega⟩,some (known (T.getD L []))[j],by rw [Et,Ac Jv];rfl,some (Af (known (T.getD L []))[j] q),Ab ⟨Xy t1,pC t1 pm⟩,_,
    Ab ⟨⟨y,L,_,rfl,n1,n2,rfl,rfl,Jj,hr.part,b1,b2,by rw [g1,<-hG1];exact b3,by rw [g1,Au,Cg];omega⟩,by show mI (y:Int).toNat (L:Int).toNat (s.1,s.2)<m;rw [Aj,Aj];omega⟩,?_⟩
   simp only [Aj,Bq]
   rw [Bm (by omega)]
   refine hK' Jv _ rfl ⟨_,rfl,?_⟩
   rw [sR (by rw [hql];exact Jv),<-hs,hqj]
  ·rw [Ch] at Jv
   have:j=(known (T.getD L [])).length:=by omega
   subst this
   rw [<-hql,Ay] at hs
   exact back s (tv.trans hs.symm)
theorem Ac2 {m:Nat} (MD:Cp Tryz.prog 181 (eJ m)):Cp Tryz.prog 171 (o1 (m+1)):=
 Cp.cS (Afs [vD+46]) (Fu IP (Av cd (Fu MD Bp))) mixed Tryz.func171 (by kernel_rfl) (by kernel_rfl) λx h=>Aoh x.1 x.2.1 x.2.2.1 x.2.2.2.1 x.2.2.2.2.1 h
theorem WD:Cp Tryz.prog 171 (o1 0)/\Cp Tryz.prog 181 (eJ 0):=
 ⟨Cp.cS Dt Bp mixed Tryz.func171 (by kernel_rfl) (by kernel_rfl) λ_ h=>absurd h.2 (Dn _),
  Cp.cS Dt Bp mixed Tryz.func181 (by kernel_rfl) (by kernel_rfl) λ_ h=>absurd h.2 (Dn _)⟩
theorem ky: ∀m,Cp Tryz.prog 171 (o1 m)/\Cp Tryz.prog 181 (eJ m)
 |0=>WD
 |m+1=>⟨Ac2 (ky m).2,Ac3 (ky m).1 (ky m).2⟩
theorem OS:Cp Tryz.prog 171 BB:=Cp.Ahj (λx=>SH x.1.toNat x.2.2.2.1.toNat) λm=>(ky m).1
noncomputable abbrev cZ:Spec:=Gt (.pair tL .unit) tO false true (λx=>short x.1/\1<=List.length x.1) (λx=>some x.1)
noncomputable abbrev zE:MSpec:= {Ii:= [none],ins:= [(false, .Fz tI)],Hk:=false,Gz:= [none,none,none],outs:= [.Fz tI, .Bl tO vN false, .Bl tO vN false],fn:= λ_=>none,rp:=some 170}
noncomputable abbrev So:MSpec:=cS zE (λx=>1<=x.1/\x.1<=20) (λx=>((x.1,Za x.1.toNat,Tk x.1.toNat,()),()))
noncomputable abbrev w6:MSpec:= {Ii:= [none,none],ins:= [(false, .Fz tI),(false, .Fz tLO)],Hk:=false,Gz:= [none,none,none],outs:= [.Fz tI, .Bl tO vN false, .Bl tO vN false],fn:= λ_=>none,rp:=some 170}
noncomputable abbrev dC:MSpec:=cS w6 (λx=>(1<=x.1/\x.1<=20)/\List.length x.2.1<=4294967296/\ ∀o∈(x.2.1:List PO),∃g,o=some g/\Pm x.1.toNat g)
 (λx=>((x.1,(Pp x.1.toNat x.2.1).2,(Pp x.1.toNat x.2.1).1,()),()))
noncomputable abbrev w7:MSpec:= {Ii:= [none,none],ins:= [(false, .Fz tI),(false, .Fz rH)],Hk:=false,Gz:= [none,none,none],outs:= [.Fz tI, .Bl tO vN false, .Bl tO vN false],fn:= λ_=>none,rp:=some 170}
noncomputable abbrev Qb:MSpec:=cS w7 (λx=>(1<=x.1/\x.1<=20)/\List.length x.2.1<=4294967296/\ ∀g∈(x.2.1:List (List Int)),Pm x.1.toNat g)
 (λx=>((x.1,(bG x.1 x.2.1).2,(bG x.1 x.2.1).1,()),()))
abbrev lp:Type:=Int×Int×List (List (Option (List Int)))×List (List (Option (List Int)))×PUnit
theorem CO (n:Int) (P:(Int×List (List (Option (List Int)))×List (List (Option (List Int)))×Unit)×Unit->Prop):(0=0/\0=([]:List Int).length/\0=0/\0=([]:List Int).length/\Dm (λ(v2:lp) (k3:lp->Prop)=>Br (decide (v2.1<n)) (((0:Int)<=n/\n<(↑Db:Int)+(1:Int))/\n=n/\ ∃(y4:Option (List Int)),Po.fn (n,())=some y4/\((0:Int)<=v2.1/\v2.1<(↑(List.replicate n.toNat (none:Option (List Int))).length:Int))/\0+v2.1.toNat<(List.replicate n.toNat (none:Option (List Int))).length/\0=0/\(List.replicate n.toNat (none:Option (List Int))).length=((List.replicate n.toNat (none:Option (List Int))).set (0+v2.1.toNat) y4).length/\(0=0/\v2.2.2.1.length=v2.2.2.1.length)/\(0=0/\1= [(List.replicate n.toNat (none:Option (List Int))).set (0+v2.1.toNat) y4].length)/\0< [(List.replicate n.toNat (none:Option (List Int))).set (0+v2.1.toNat) y4].length/\v2.2.2.1.length+ [(List.replicate n.toNat (none:Option (List Int))).set (0+v2.1.toNat) y4].length<=Db/\0=0/\0=([]:List Int).length/\(0=0/\v2.2.2.2.1.length=v2.2.2.2.1.length)/\(0=0/\1=([[]]:List (List (Option (List Int)))).length)/\0<([[]]:List (List (Option (List Int)))).length/\v2.2.2.2.1.length+([[]]:List (List (Option (List Int)))).length<=Db/\0=0/\(v2.2.2.1++ [(List.replicate n.toNat (none:Option (List Int))).set (0+v2.1.toNat) y4]).length=(v2.2.2.1++ [(List.replicate n.toNat (none:Option (List Int))).set (0+v2.1.toNat) y4]).length/\0=0/\(v2.2.2.2.1++ [[]]).length=(v2.2.2.2.1++ [[]]).length/\k3 (IntKind.i64.wrap (v2.1+(1:Int)),v2.2.1,v2.2.2.1++ [(List.replicate n.toNat (none:Option (List Int))).set (0+v2.1.toNat) y4],v2.2.2.2.1++ [[]],())) ((0=0/\v2.2.2.1.length=v2.2.2.1.length)/\(0=0/\v2.2.2.2.1.length=v2.2.2.2.1.length)/\P ((v2.2.1,v2.2.2.1,v2.2.2.2.1,()),()))) ((0:Int),n,[],[],PUnit.unit))=fnMW Xk (look [(96,Po)]) So Tryz.f170 (n,()) P:=by kernel_rfl
abbrev jC:Type:=(Int×List (List (Option (List Int)))×List (List (Option (List Int)))×PUnit)×PUnit
abbrev jD:Type:=Int×List (List (Option (List Int)))×List (List (Option (List Int)))×Int×PUnit
theorem wZ (n:Int) (gens:List (Option (List Int))) (P:(Int×List (List (Option (List Int)))×List (List (Option (List Int)))×Unit)×Unit->Prop):(∃(y3:jC),So.fn (n,())=some y3/\0=0/\y3.1.2.1.length=y3.1.2.1.length/\0=0/\y3.1.2.2.1.length=y3.1.2.2.1.length/\Dm (λ(v4:jD) (k5:jD->Prop)=>Br (decide (v4.1<(↑gens.length:Int))) (∃(y6:Option (List Int)),idx gens v4.1=some y6/\ ∃(y7:Option (List Int)),cZ.fn (y6.getD [],())=some y7/\0=0/\v4.2.1.length=v4.2.1.length/\0=0/\v4.2.2.1.length=v4.2.2.1.length/\ ∃(y8:jC),BB.fn (v4.2.2.2.1,v4.2.1,v4.2.2.1,(0:Int),y7,())=some y8/\0=0/\y8.1.2.1.length=y8.1.2.1.length/\0=0/\y8.1.2.2.1.length=y8.1.2.2.1.length/\k5 (IntKind.i64.wrap (v4.1+(1:Int)),y8.1.2.1,y8.1.2.2.1,y8.1.1,())) ((0=0/\v4.2.1.length=v4.2.1.length)/\(0=0/\v4.2.2.1.length=v4.2.2.1.length)/\P ((v4.2.2.2.1,v4.2.1,v4.2.2.1,()),()))) ((0:Int),y3.1.2.1,y3.1.2.2.1,y3.1.1,PUnit.unit))=fnMW Xk (look [(170,So),(68,cZ),(171,BB)]) dC Tryz.f145 (n,gens,()) P:=by kernel_rfl
theorem kJ:Sound Tryz.prog 96 Po:=Sound.toO Wv λ_ h=>SX h
theorem ru:Sound Tryz.prog 68 cZ:=Sound.toO ju λx h=>⟨h.1,λe=>by
 have h2:=h.2
 replace e:x.1= []:=e
 rw [e] at h2
 simp at h2⟩
theorem zY (n:Int) (h:1<=n/\n<=20):fnMW Xk (look [(96,Po)]) So Tryz.f170 (n,()) (λ(z:(Int×List (List (Option (List Int)))×List (List (Option (List Int)))×Unit)×Unit)=>z=((n,Za n.toNat,Tk n.toNat,()),())):=by
 obtain ⟨h1,h2⟩:=h
 obtain ⟨N,rfl⟩: ∃N:Nat,n=N:=⟨n.toNat,by omega⟩
 rw [Aj]
 refine Eq.mp (CO (N:Int) _) ?_
 have hm:((0:Int)<=(N:Int)/\(N:Int)<(Db:Int)+1):=⟨by omega,by show (N:Int)<(4294967296:Int)+1;omega⟩
 simp only [hm,and_self,eq_self,true_and,Oh,Aj,Bo,Fb,Cm,Gh,Aw,Nat.lt_add_one]
 refine Bw N (λv=>v.1) (λj v=>v=((j:Int),(N:Int),(List.range j).map (cf N),List.replicate j [],())) rfl rfl ?_
 rintro j v K hj hi rfl hK
 dsimp only
 refine Br.dec (λhl=>?_) λhl=>?_
 ·simp only [Aj,Ch,cv,Gh]
  refine ⟨_,Ab ⟨by show (1:Int)<=N;omega,by show (N:Int)<=20;omega⟩,⟨by omega,by omega⟩,by omega,?_,?_,?_⟩
  ·show _<=4294967296
   omega
  ·show _<=4294967296
   omega
  ·rw [Bm (by omega)]
   refine hK (by omega) _ rfl ?_
   rw [il,Ko,List.replicate_succ']
   rfl
 ·have:j=N:=by omega
  subst this
  rfl
theorem pI:Cp Tryz.prog 170 So:=
 Cp.cS mD (Av kJ Bp) mixed Tryz.func170 (by kernel_rfl) (by kernel_rfl) λx h=>zY x.1 h
theorem wk (n:Int) (gens:List (Option (List Int))) (h:(1<=n/\n<=20)/\List.length gens<=4294967296/\ ∀o∈(gens:List PO),∃g,o=some g/\Pm n.toNat g):
  fnMW Xk (look [(170,So),(68,cZ),(171,BB)]) dC Tryz.f145 (n,gens,()) (λ(z:(Int×List (List (Option (List Int)))×List (List (Option (List Int)))×Unit)×Unit)=>z=((n,(Pp n.toNat gens).2,(Pp n.toNat gens).1,()),())):=by
 obtain ⟨⟨h1,h2⟩,h3,hg⟩:=h
 obtain ⟨N,rfl⟩: ∃N:Nat,n=N:=⟨n.toNat,by omega⟩
 rw [Aj] at hg⊢
 have h1:1<=N:=by omega
 have h2:N<=20:=by omega
 refine Eq.mp (wZ (N:Int) gens _) ⟨_,Ab ⟨by show (1:Int)<=N;omega,by show (N:Int)<=20;omega⟩,rfl,rfl,rfl,rfl,?_⟩
 simp only [Aj,true_and,Oh]
 refine Bw gens.length (λv=>v.1) (λi v=>v=((i:Int),(Pp N (gens.take i)).2,(Pp N (gens.take i)).1,(N:Int),())) rfl rfl ?_
 rintro i v K' kZ Asg rfl hK'
 dsimp only
 refine Br.dec (λJv=>?_) λJv=>?_
 ·have Jv:i<gens.length:=by omega
  obtain ⟨g,oD,Ts⟩:=hg gens[i] (Al Jv)
  have hgl:=Ts.1
  have hv:=oK h1 h2 (gens:=gens.take i) λo ho=>hg o (En ho)
  refine ⟨some g,by rw [Co Jv,oD],some g,Ab ⟨by show g.length<=4294967296;omega,by show 1<=g.length;omega⟩,_,Ab ⟨N,0,g,rfl,h1,h2,rfl,rfl,Ja _,hv,Ts,λi hi=>absurd hi (Dn _)⟩,?_⟩
  rw [Bm (by omega)]
  refine hK' Jv _ rfl ?_
  rw [yQ Jv,oD]
  rfl
 ·have:i=gens.length:=by omega
  subst this
  rw [Ay]
theorem o8:Cp Tryz.prog 145 dC:=
 Cp.cS mD (Fu pI (Av ru (Fu OS Bp))) mixed Tryz.func145 (by kernel_rfl) (by kernel_rfl) λx h=>wk x.1 x.2.1 h
theorem pH:Cp Tryz.prog 145 Qb:=by
 have h:=o8
 refine ⟨h.enter,λw S π us x r o g vs h1 hg h2 h3 hS h4 h5=>?_⟩
 obtain ⟨n,gens,⟨⟩⟩:=x
 match us,h2 with
 |u1::u2::us,h2=>
  obtain ⟨h6,⟨h7,h8⟩,h9⟩:=h2
  obtain ⟨os,oC,gT⟩:=Cw.Ahq (e:=tI) h8
  have gT:os.map (·.getD [])=(gens:List (List Int)):=gT
  have gW:(1<=n/\n<=20)/\List.length gens<=4294967296/\ ∀g∈(gens:List (List Int)),Pm n.toNat g:=Bk λhn=>by
   have:Qb.fn (n,gens,())=none:=Ak hn
   rw [this] at h5;cases h5
  have hos:os=gens.map some:=by
   rw [<-gT,List.map_map]
   refine (List.map_id os).symm.trans (Ei λx hx=>?_)
   cases x with
   |some y=>rfl
   |none=>
    have:=gW.2.2 [] (by rw [<-gT];exact Bg.2 ⟨none,hx,rfl⟩)
    have h1:=this.n1
    have h2:=this.1
    simp at h2
    omega
  have hv:Qb.fn (n,gens,())=some ((n,(bG n gens).2,(bG n gens).1,()),()):=Ab gW
  rw [hv] at h5
  have h5:=Bd h5
  refine h.calls w S π (u1::u2::us) (n,os,()) r o g vs h1 hg ⟨h6,⟨h7,oC⟩,h9⟩ h3 hS h4 ?_
  refine (Ab ⟨gW.1,by rw [hos,Ch];exact gW.2.1,λy hy=>?pp⟩).trans (Fq some ?qq)
  case pp=>
   replace hy:y∈os:=hy
   rw [hos] at hy
   obtain ⟨g,hg,rfl⟩:=Bg.1 hy
   exact ⟨g,rfl,gW.2.2 g hg⟩
  case qq=>subst hos;exact h5
theorem ZG {n:Int} {s:List Int} (h:Hm n s=true):Pm n.toNat s:=by
 obtain ⟨a,b⟩:=Gi.1 h
 exact ⟨by omega,dA b⟩
noncomputable def j6 (p:PP) (s:List Int):Int:=if Zk p s=true then Lr (Ba p) (Hj p) s else-1
noncomputable abbrev eO:Spec:=Gt (.pair Ix (.pair tL .unit)) (.pair dg (.pair tI (.pair .bool .unit))) true false (λx=>Gw x.1/\short x.2.1) (λx=>((Fa x.1).1,j6 x.1 x.2.1,Zk x.1 x.2.1,()))
noncomputable abbrev my:Spec:=Gt (.pair Ix (.pair tL .unit)) tI false true (λx=>Gw x.1/\short x.2.1) (λx=>j6 x.1 x.2.1)
theorem Ad8 (p:Int×ByteArray×List (List Int)×Unit) (s:List Int) (P:((List (List Int)×List Int×List Int×Bool×Unit)×Int×Bool×Unit)->Prop):(∃(y3:(List (List Int)×List Int×List Int×Bool×PUnit)×Bool×PUnit),Yw.fn ((p.1,p.2.1,p.2.2.1,()),())=some y3/\Br (!y3.2.1) (P ((y3.1.1,y3.1.2.1,y3.1.2.2.1,y3.1.2.2.2.1,()),(-1:Int),false,())) (∃(y4:Bool),Ni.fn ((p.1,p.2.1,p.2.2.1,()),s,())=some y4/\Br (!y4) (P ((y3.1.1,y3.1.2.1,y3.1.2.2.1,y3.1.2.2.2.1,()),(-1:Int),false,())) (∃(y5:Int),bl.fn ((y3.1.1,y3.1.2.1,y3.1.2.2.1,y3.1.2.2.2.1,()),s,())=some y5/\P ((y3.1.1,y3.1.2.1,y3.1.2.2.1,y3.1.2.2.2.1,()),y5,decide (y5>=(0:Int)),()))))=fnW Gb (look [(114,Yw),(64,Ni),(115,bl)]) eO Tryz.f52 (p,s,()) P:=by kernel_rfl
theorem Akp (p:Int×ByteArray×List (List Int)×Unit) (s:List Int) (P:Int->Prop):(∃(y3:(List (List Int)×List Int×List Int×Bool×PUnit)×Int×Bool×PUnit),eO.fn ((p.1,p.2.1,p.2.2.1,()),s,())=some y3/\Br (!y3.2.2.1) (P (-1:Int)) (P y3.2.1))=fnW Gb (look [(52,eO)]) my Tryz.f13 (p,s,()) P:=by kernel_rfl
theorem Abi (p:PP) (s:List Int) (h:Gw p/\short s):fnW Gb (look [(114,Yw),(64,Ni),(115,bl)]) eO Tryz.f52 (p,s,()) (λ(z:SS×Int×Bool×Unit)=>z=((Fa p).1,j6 p s,Zk p s,())):=by
 refine Eq.mp (Ad8 p s _) ⟨_,Ab h.1,?_⟩
 by_cases hw:Gl p=true
 ·have hv:=(Fl hw).1
  have e1:Fa p=(Ou p.2.2.1 (upto p.1.toNat),true,()):=by unfold Fa;rw [Ab hv,hw]
  show Br (!(Fa p).2.1) _ _
  refine ⟨λhb=>by rw [e1] at hb;simp at hb,λ_=>⟨_,Ab h,?_⟩⟩
  show Br (!(Cb p&&Hm p.1 s)) _ _
  rw [hv,Pd]
  unfold j6 Zk
  rw [hw,Pd]
  refine Br.of (λhb=>?_) λhb=>?_
  ·have hm: ¬s∈Ba p:= λhm=>by rw [Akc hv hm] at hb;cases hb
   rw [Ft hm,Ak (by decide)]
  ·have hb:Hm p.1 s=true:=by simpa using hb
   have DE:=Ai8 (valid hv) hb
   refine ⟨_,Ab ⟨by show Gs s.length (Fa p).1.1 (Fa p).1.2.2.1;rw [e1,DE.1];exact (pP hv).ok,by show (Fa p).1.2.1.length=(Fa p).1.1.length;rw [e1];exact (pP hv).len⟩,?_⟩
   have ZO:Lr (Fa p).1.1 (Fa p).1.2.1 s=Lr (Ba p) (Hj p) s:=by rw [e1];rfl
   by_cases hm:s∈Ba p
   ·have hd:=(TP hw hm).1
    rw [Dl hm,Ab rfl]
    show (_,Lr (Fa p).1.1 (Fa p).1.2.1 s,decide (Lr (Fa p).1.1 (Fa p).1.2.1 s>=0),())=_
    rw [ZO,Dl hd]
   ·have hd:Lr (Ba p) (Hj p) s= -1:=Ak hm
    rw [Ft hm,Ak (by decide)]
    show (_,Lr (Fa p).1.1 (Fa p).1.2.1 s,decide (Lr (Fa p).1.1 (Fa p).1.2.1 s>=0),())=_
    rw [ZO,hd]
    rfl
 ·have e1:(Fa p).2.1=false:=by
   unfold Fa
   by_cases hv:Cb p=true
   ·rw [Ab hv];exact Ge _|>.mp hw
   ·rw [Ak hv]
  show Br (!(Fa p).2.1) _ _
  rw [e1]
  refine ⟨λ_=>?_,λhb=>by simp at hb⟩
  have hf:Zk p s=false:=by unfold Zk;rw [Ge _|>.mp hw,Bool.false_and]
  unfold j6
  rw [hf,Ak (by decide)]
theorem BQ:Sound Tryz.prog 52 eO:=
 Sound.Gt Dt (Av uZ (Av Wy (Av wK Bp))) mixed Tryz.func52 (by kernel_rfl) (by kernel_rfl) λx h=>Abi x.1 x.2.1 h
theorem Ajz (p:PP) (s:List Int) (h:Gw p/\short s):fnW Gb (look [(52,eO)]) my Tryz.f13 (p,s,()) (λ(z:Int)=>z=j6 p s):=by
 refine Eq.mp (Akp p s _) ⟨_,Ab h,?_⟩
 show Br (!Zk p s) _ _
 refine Br.of (λhb=>?_) λ_=>rfl
 unfold j6
 rw [Ak (Ew hb)]
theorem OV:Sound Tryz.prog 13 my:=
 Sound.Gt Dt (Av BQ Bp) mixed Tryz.func13 (by kernel_rfl) (by kernel_rfl) λx h=>Ajz x.1 x.2.1 h
theorem Rn.sub {g:List (List Int)} {ls:List Int} {L:List (List Int)} {S S':List Int->Prop} {d d':List Int->Int} (hc:s9 g ls L) (h:Rn g ls L S d) (h':Rn g ls L S' d') (hS: ∀x∈L,S' x->S x):
  ∀(n:Nat) (x:List Int),x∈L->d' x=n->d x<=n
 |0,x,hx,e=>by
  have:=(h.zero x hx).2 (hS x hx ((h'.zero x hx).1 e))
  omega
 |n+1,x,hx,e=>by
  obtain ⟨l,hl,hd⟩:=h'.down x hx (by omega)
  obtain ⟨b1,b2⟩:=hc.back x hx l hl
  have h1:=Rn.sub hc h h' hS n _ (hc.next x hx l hl) (by omega)
  have h2:=h.step _ (hc.next x hx l hl) _ b1
  rw [b2] at h2
  omega
theorem fh {p:PP} (hw:Gl p=true): ∀(n:Nat) (x y:List Int),x∈Ba p->y∈Ba p->Lr (Ba p) (Hj p) x=n->
  Af y (Bb x)∈Ba p/\Lr (Ba p) (Hj p) (Af y (Bb x))<=Lr (Ba p) (Hj p) y+n
 |0,x,y,hx,hy,e=>by
  have hv:=(Fl hw).1
  have hn:=(valid hv).n
  have h0:=((We hw).zero x hx).1 e
  have RL:x=upto p.1.toNat:=by rw [h0];exact (Md hv).1
  have:Af y (Bb x)=y:=by
   rw [RL,MI (by omega) (by omega)]
   exact comp_id (Wz hv hy)
  rw [this]
  exact ⟨hy,by omega⟩
 |n+1,x,y,hx,hy,e=>by
  have hv:=(Fl hw).1
  have hV:=valid hv
  obtain ⟨l,hl,hd⟩:=(We hw).down x hx (by omega)
  have hL:=Yk hV (Lc hl)
  have hpx:=Wz hv hx
  have hpy:=Wz hv hy
  have hc:=bt hw
  have hx1:=hc.next x hx l hl
  have tt:=Wz hv hx1
  have ex:x=Af (Af x (Ax p.2.2.1 l)) (Bb (Ax p.2.2.1 l)):=by
   rw [Gd hpx hL hL.inv,Wd hL,comp_id hpx]
  have ei:Bb x=Af (Ax p.2.2.1 l) (Bb (Af x (Ax p.2.2.1 l))):=by
   have:=Fq Bb ex
   rw [inv_mul tt hL.inv,inv_inv hL] at this
   exact this
  obtain ⟨h1,h2⟩:=fh hw n _ (Af y (Ax p.2.2.1 l)) hx1 (hc.next y hy l hl) (by omega)
  have h3:=(We hw).step y hy l hl
  rw [ei,<-Gd hpy hL tt.inv]
  exact ⟨h1,by omega⟩
theorem Ae1 {p:PP} (hw:Gl p=true) {s:List Int} (hs:s∈Ba p):Bb s∈Ba p/\Lr (Ba p) (Hj p) (Bb s)=Lr (Ba p) (Hj p) s:=by
 have hv:=(Fl hw).1
 have hn:=(valid hv).n
 have key: ∀s,s∈Ba p->Bb s∈Ba p/\Lr (Ba p) (Hj p) (Bb s)<=Lr (Ba p) (Hj p) s:= λs hs=>by
  have h0:=(We hw).nn s hs
  obtain ⟨h1,h2⟩:=fh hw (Lr (Ba p) (Hj p) s).toNat s (upto p.1.toNat) hs (Md hv).2 (by omega)
  have hz:=((We hw).zero _ (Md hv).2).2 (Md hv).1.symm
  rw [id_comp (Wz hv hs).inv] at h1 h2
  exact ⟨h1,by omega⟩
 obtain ⟨h1,h2⟩:=key s hs
 have h3:=(key _ h1).2
 rw [inv_inv (Wz hv hs)] at h3
 exact ⟨h1,by omega⟩
abbrev tB:Ty:= .slice (.int .u8)
abbrev SW:Ty:= .int .u64
def hN (h:Int):Int:=IntKind.u64.wrap (IntKind.u64.wrap (h*(6364136223846793005:Int))+(1442695040888963407:Int))
def xN (h:Int):Int:=IntKind.i64.wrap (IntKind.u64.wrap (↑(BitVec.ofInt IntKind.u64.bits (h.fdiv ((2:Int)^min (Int.toNat (33:Int)) IntKind.u64.bits))&&&BitVec.ofInt IntKind.u64.bits (16777215:Int)).toNat:Int))
def dI (b:List Int) (i:Int):Int:=if i<(b.length:Int) then i+1 else i
def dR (b:List Int) (i h n:Int):Int:=if i<(b.length:Int) then (xN (hN h)+Hi b i).tmod n else (xN (hN h)).tmod n
structure aH (b:List Int) (i:Int):Prop where
 len:b.length<=4096
 byte: ∀y∈b,0<=y/\y<256
 lo:0<=i
 hi:i<=b.length
def HZ:List Int->Int->Int
 | [],h=>h
 |c::r,h=>HZ r (IntKind.u64.wrap (IntKind.u64.wrap (IntKind.u64.wrap (h*(1099511628211:Int))+IntKind.u64.wrap c)+(3:Int)))
def pd (b:List Int) (s:Int):Int:=HZ b (IntKind.u64.wrap (IntKind.u64.wrap (s*(7919:Int))+IntKind.u64.wrap (b.length:Int)))
def Zz (b:List Int) (i h m:Int):Int×Int×Int:=(dI b (dI b i),hN (hN h),if dR b (dI b i) (hN h) 2=0 then-(1+dR b i h m) else 1+dR b i h m)
def wGo (b:List Int) (m:Int):Nat->Int->Int->List Int->Int×Int×List Int
 |0,i,h,w=>(i,h,w)
 |k+1,i,h,w=>wGo b m k (Zz b i h m).1 (Zz b i h m).2.1 (w++ [(Zz b i h m).2.2])
def Rd (b:List Int) (i h m k:Int):Int×Int×List Int:=wGo b m (dR b i h (k+1)).toNat (dI b i) (hN h) []
def fZ (b:List Int) (n:Int):Nat->Int->Int->List Int->Int×Int×List Int
 |0,i,h,mv=>(i,h,mv)
 |k+1,i,h,mv=>fZ b n k (dI b (dI b i)) (hN (hN h)) ((mv.set (dR b i h n).toNat (Hi mv (dR b (dI b i) (hN h) n))).set (dR b (dI b i) (hN h) n).toNat (Hi mv (dR b i h n)))
def ph (b:List Int) (n i h:Int):Int×Int×List Int:=fZ b n (1+dR b i h 3).toNat (dI b i) (hN h) (upto n.toNat)
def aE (b:List Int) (n:Int):Nat->Int->Int->List (List Int)->Int×Int×List (List Int)
 |0,i,h,ms=>(i,h,ms)
 |k+1,i,h,ms=>aE b n k (ph b n i h).1 (ph b n i h).2.1 (ms++ [(ph b n i h).2.2])
def Ab2:ByteArray:= {data:= #[(65:UInt8),(66:UInt8)]}
def aD (b:List Int) (i h:Int):Int×Int×PP:=((aE b (3+dR b i h 3) 2 (dI b i) (hN h) []).1,(aE b (3+dR b i h 3) 2 (dI b i) (hN h) []).2.1,(3+dR b i h 3,Ab2,(aE b (3+dR b i h 3) 2 (dI b i) (hN h) []).2.2,()))
def YE (b:List Int) (n:Int):Nat->Int->Int->Int->List Int->Int×Int×List Int
 |0,_,i,h,o=>(i,h,o)
 |f+1,j,i,h,o=>if j<n/\o.length<3 then YE b n f (j+1) (dI b i) (hN h) (if dR b i h 2=0 then o++ [j] else o) else (i,h,o)
def ZE (b:List Int) (n:Int) (r:Int×Int×List Int):Int×Int×List Int:=if r.2.2.length=0 then (dI b r.1,hN r.2.1,r.2.2++ [dR b r.1 r.2.1 n]) else r
def Vk (b:List Int) (i h n:Int):Int×Int×List Int:=ZE b n (YE b n n.toNat 0 i h [])
noncomputable abbrev Ajo:MSpec:= {Ii:= [none,none],ins:= [(false, .Fz tB),(false, .Fz SW)],Hk:=false,Gz:= [none,none,none],outs:= [.Fz tB, .Fz tI, .Fz SW],fn:= λ_=>none,rp:=some 69}
noncomputable abbrev pE:MSpec:=cS Ajo (λx=>List.length x.1<=4096) (λx=>((x.1,0,pd x.1 x.2.1,()),()))
noncomputable abbrev Aeu:MSpec:= {ptr:=some (69,3),Ii:= [none],ins:= [(false, .Fz tB),(false, .Fz tI),(false, .Fz SW),(false, .Fz tI)],Hk:=false,Gz:= [none],outs:= [.Fz tB, .Fz tI, .Fz SW, .Fz tI],fn:= λ_=>none}
noncomputable abbrev Km:MSpec:=cS Aeu (λx=>aH x.1 x.2.1/\1<=x.2.2.2.1) (λx=>((x.1,dI x.1 x.2.1,hN x.2.2.1,dR x.1 x.2.1 x.2.2.1 x.2.2.2.1,()),()))
noncomputable abbrev Va:Spec:=Gt (.pair tL (.pair tL .unit)) .bool false true (λx=>short x.1/\short x.2.1) (λx=>Me x.1 x.2.1)
noncomputable abbrev eL:MSpec:=qA [none] [(false, .Fz tI)] false [none] [rL] (λx=>0<=x.1/\x.1<=20) (λx=>((upto x.1.toNat,()),()))
noncomputable abbrev br:MSpec:=qA [none] [(false, .Fz tI)] false [none] [rL] (λx=>1<=x.1/\x.1<=20) (λx=>((upto x.1.toNat,()),()))
noncomputable abbrev Ub:Spec:=Gt (.pair tI .unit) tL false true (λx=>1<=x.1/\x.1<=20) (λx=>upto x.1.toNat)
noncomputable abbrev yo:Spec:=Gt (.pair tB .unit) .bool false true (λ_=>True) (λx=>decide ((List.length x.1:Int)>4096))
noncomputable abbrev Ao9:MSpec:= {ptr:=some (69,3),Ii:= [],ins:= [(false, .Fz tB),(false, .Fz tI),(false, .Fz SW)],Hk:=false,Gz:= [some 3],outs:= [.Fz tB, .Fz tI, .Fz SW, .Fz tI, .Fz .str,rLL],fn:= λ_=>none}
noncomputable abbrev yy:MSpec:=cS Ao9 (λx=>aH x.1 x.2.1) (λx=>((x.1,(aD x.1 x.2.1 x.2.2.1).1,(aD x.1 x.2.1 x.2.2.1).2.1,(aD x.1 x.2.1 x.2.2.1).2.2.1,(aD x.1 x.2.1 x.2.2.1).2.2.2.1,(aD x.1 x.2.1 x.2.2.1).2.2.2.2.1,()),()))
noncomputable abbrev Ao8:MSpec:= {ptr:=some (69,3),Ii:= [none],ins:= [(false, .Fz tB),(false, .Fz tI),(false, .Fz SW),(false, .Fz tI)],Hk:=false,Gz:= [none],outs:= [.Fz tB, .Fz tI, .Fz SW, .Fz tI],fn:= λ_=>none}
noncomputable abbrev yx:MSpec:=cS Ao8 (λx=>aH x.1 x.2.1/\1<=x.2.2.2.1/\x.2.2.2.1<=8) (λx=>((x.1,(Zz x.1 x.2.1 x.2.2.1 x.2.2.2.1).1,(Zz x.1 x.2.1 x.2.2.1 x.2.2.2.1).2.1,(Zz x.1 x.2.1 x.2.2.1 x.2.2.2.1).2.2,()),()))
noncomputable abbrev Aoc:MSpec:= {ptr:=some (69,3),Ii:= [none,none],ins:= [(false, .Fz tB),(false, .Fz tI),(false, .Fz SW),(false, .Fz tI),(false, .Fz tI)],Hk:=false,Gz:= [none],outs:= [.Fz tB, .Fz tI, .Fz SW,rL],fn:= λ_=>none}
noncomputable abbrev gM:MSpec:=cS Aoc (λx=>aH x.1 x.2.1/\(1<=x.2.2.2.1/\x.2.2.2.1<=8)/\0<=x.2.2.2.2.1/\x.2.2.2.2.1<=20) (λx=>((x.1,(Rd x.1 x.2.1 x.2.2.1 x.2.2.2.1 x.2.2.2.2.1).1,(Rd x.1 x.2.1 x.2.2.1 x.2.2.2.1 x.2.2.2.2.1).2.1,(Rd x.1 x.2.1 x.2.2.1 x.2.2.2.1 x.2.2.2.2.1).2.2,()),()))
noncomputable abbrev Aob:MSpec:= {ptr:=some (69,3),Ii:= [some 3],ins:= [(false, .Fz tB),(false, .Fz tI),(false, .Fz SW),(false, .Fz tI),(false, .Fz .str),(false, .Fz rH)],Hk:=false,Gz:= [none],outs:= [.Fz tB, .Fz tI, .Fz SW,rL],fn:= λ_=>none}
noncomputable abbrev uE:MSpec:=cS Aob (λx=>aH x.1 x.2.1/\1<=x.2.2.2.1/\x.2.2.2.1<=20) (λx=>((x.1,(Vk x.1 x.2.1 x.2.2.1 x.2.2.2.1).1,(Vk x.1 x.2.1 x.2.2.1 x.2.2.2.1).2.1,(Vk x.1 x.2.1 x.2.2.1 x.2.2.2.1).2.2,()),()))
theorem Aks (code:List Int) (OO:Int) (P:((List Int×Int×Int×Unit)×Unit)->Prop):(Dm (λ(v3:Int×List Int×Int×Int×PUnit) (k4:Int×List Int×Int×Int×PUnit->Prop)=>Br (decide (v3.1<(↑code.length:Int))) (∃(y5:Int),idx code v3.1=some y5/\k4 (IntKind.i64.wrap (v3.1+(1:Int)),v3.2.1,v3.2.2.1,IntKind.u64.wrap (IntKind.u64.wrap (IntKind.u64.wrap (v3.2.2.2.1*(1099511628211:Int))+IntKind.u64.wrap y5)+(3:Int)),())) (P ((v3.2.1,v3.2.2.1,v3.2.2.2.1,()),()))) ((0:Int),code,Int.ofNat (nat_lit 0),IntKind.u64.wrap (IntKind.u64.wrap (OO*(7919:Int))+IntKind.u64.wrap (↑code.length:Int)),PUnit.unit))=fnMW Vb (look []) pE Tryz.f9 (code,OO,()) P:=by kernel_rfl
theorem Afv (b:List Int) (i h n:Int) (P:((List Int×Int×Int×Int×Unit)×Unit)->Prop):(¬(33:Int)<(0:Int)/\Br (decide (i<(↑b.length:Int))) (∃(y5:Int),idx b i=some y5/\n≠(0:Int)/\P ((b,IntKind.i64.wrap (i+(1:Int)),IntKind.u64.wrap (IntKind.u64.wrap (h*(6364136223846793005:Int))+(1442695040888963407:Int)),(IntKind.i64.wrap (IntKind.i64.wrap (IntKind.u64.wrap (↑(BitVec.ofInt IntKind.u64.bits ((IntKind.u64.wrap (IntKind.u64.wrap (h*(6364136223846793005:Int))+(1442695040888963407:Int))).fdiv ((2:Int)^min (Int.toNat (33:Int)) IntKind.u64.bits))&&&BitVec.ofInt IntKind.u64.bits (16777215:Int)).toNat:Int))+IntKind.i64.wrap y5)).tmod n,()),())) (n≠(0:Int)/\P ((b,i,IntKind.u64.wrap (IntKind.u64.wrap (h*(6364136223846793005:Int))+(1442695040888963407:Int)),(IntKind.i64.wrap (IntKind.u64.wrap (↑(BitVec.ofInt IntKind.u64.bits ((IntKind.u64.wrap (IntKind.u64.wrap (h*(6364136223846793005:Int))+(1442695040888963407:Int))).fdiv ((2:Int)^min (Int.toNat (33:Int)) IntKind.u64.bits))&&&BitVec.ofInt IntKind.u64.bits (16777215:Int)).toNat:Int))).tmod n,()),())))=fnMW Vb (look []) Km Tryz.f23 (b,i,h,n,()) P:=by kernel_rfl
theorem QA (a b:List Int) (P:Bool->Prop):(Br ((↑a.length:Int) !=(↑b.length:Int)) (P false) (Dm (λ(v3:Int×PUnit) (k4:Int×PUnit->Prop)=>Br (decide (v3.1<(↑a.length:Int))) (∃(y5:Int),idx a v3.1=some y5/\ ∃(y6:Int),idx b v3.1=some y6/\Br (y5 !=y6) (P false) (k4 (IntKind.i64.wrap (v3.1+(1:Int)),()))) (P true)) ((0:Int),PUnit.unit)))=fnW Gb (look []) Va Tryz.f16 (a,b,()) P:=by kernel_rfl
theorem Ap8 (code:List Int) (P:Bool->Prop):(P (decide ((↑code.length:Int)>(4096:Int))))=fnW Gb (look []) yo Tryz.f8 (code,()) P:=by kernel_rfl
theorem Ad2 (n:Int) (P:((List Int×Unit)×Unit)->Prop):(0=0/\0=([]:List Int).length/\Dm (λ(v2:Int×List Int×PUnit) (k3:Int×List Int×PUnit->Prop)=>Br (decide (v2.1<n)) (0=0/\v2.2.1.length=v2.2.1.length/\v2.2.1.length+(List.take 1 (List.drop 0 [v2.1])).length<=Db/\0=0/\(v2.2.1++List.take 1 (List.drop 0 [v2.1])).length=(v2.2.1++List.take 1 (List.drop 0 [v2.1])).length/\k3 (IntKind.i64.wrap (v2.1+(1:Int)),v2.2.1++List.take 1 (List.drop 0 [v2.1]),())) (P ((List.take v2.2.1.length (List.drop 0 v2.2.1),()),()))) ((0:Int),[],PUnit.unit))=fnMW Vb (look []) eL Tryz.f96 (n,()) P:=by kernel_rfl
theorem XS (n:Int) (P:((List Int×Unit)×Unit)->Prop):(∃(y2:Bool),Cr.fn (n,(1:Int),(20:Int),())=some y2/\Br (!y2) (P ((List.take 0 (List.drop 0 []),()),())) (∃(y3:(List Int×PUnit)×PUnit),eL.fn (n,())=some y3/\P ((List.take y3.1.1.length (List.drop 0 y3.1.1),()),())))=fnMW Vb (look [(95,Cr),(96,eL)]) br Tryz.f42 (n,()) P:=by kernel_rfl
theorem Ad7 (n:Int) (P:List Int->Prop):(∃(y2:Bool),Cr.fn (n,(1:Int),(20:Int),())=some y2/\Br (!y2) (P (List.take 0 (List.drop 0 []))) (∃(y3:List Int),Dp.fn (n,())=some y3/\P y3))=fnW Gb (look [(95,Cr),(96,Dp)]) Ub Tryz.f42 (n,()) P:=by kernel_rfl
abbrev Ac7:Type:=Int×Int×ByteArray×Int×ByteArray×List (List Int)×List (List Int)×List Int×List Int×Int×Int×PUnit
abbrev Ace:Type:=Int×ByteArray×Int×ByteArray×List (List Int)×List (List Int)×List Int×Int×Int×PUnit
abbrev CB:Type:=(List Int×Int×Int×Int×PUnit)×PUnit
theorem Aph (b:List Int) (i h:Int) (P:((List Int×Int×Int×Int×ByteArray×List (List Int)×Unit)×Unit)->Prop):(∃(y4:CB),Km.fn (b,i,h,(3:Int),())=some y4/\0=0/\0=([]:List Int).length/\0=0/\0=([]:List Int).length/\Dm (λ(v5:Ace) (k6:Ace->Prop)=>Br (decide ((↑v5.2.2.2.2.2.1.length:Int)<(2:Int))) (∃(y7:(List Int×PUnit)×PUnit),br.fn (v5.2.2.1,())=some y7/\ ∃(y8:CB),Km.fn (v5.2.2.2.2.2.2.1,v5.2.2.2.2.2.2.2.1,v5.2.2.2.2.2.2.2.2.1,(3:Int),())=some y8/\0=0/\y7.1.1.length=y7.1.1.length/\0=0/\v5.2.2.2.2.1.length=v5.2.2.2.2.1.length/\0=0/\v5.2.2.2.2.2.1.length=v5.2.2.2.2.2.1.length/\Dm (λ(v9:Ac7) (k10:Ac7->Prop)=>Br (decide (v9.1>(0:Int))) (∃(Xp:CB),Km.fn (v9.2.2.2.2.2.2.2.2.1,v9.2.2.2.2.2.2.2.2.2.1,v9.2.2.2.2.2.2.2.2.2.2.1,v9.2.2.2.1,())=some Xp/\ ∃(aw:CB),Km.fn (Xp.1.1,Xp.1.2.1,Xp.1.2.2.1,v9.2.2.2.1,())=some aw/\((0:Int)<=Xp.1.2.2.2.1/\Xp.1.2.2.2.1<(↑v9.2.2.2.2.2.2.2.1.length:Int))/\ ∃(vO:Int),v9.2.2.2.2.2.2.2.1[0+Xp.1.2.2.2.1.toNat]?=some vO/\((0:Int)<=aw.1.2.2.2.1/\aw.1.2.2.2.1<(↑v9.2.2.2.2.2.2.2.1.length:Int))/\ ∃(ah:Int),v9.2.2.2.2.2.2.2.1[0+aw.1.2.2.2.1.toNat]?=some ah/\((0:Int)<=Xp.1.2.2.2.1/\Xp.1.2.2.2.1<(↑v9.2.2.2.2.2.2.2.1.length:Int))/\0+Xp.1.2.2.2.1.toNat<v9.2.2.2.2.2.2.2.1.length/\((0:Int)<=aw.1.2.2.2.1/\aw.1.2.2.2.1<(↑v9.2.2.2.2.2.2.2.1.length:Int))/\0+aw.1.2.2.2.1.toNat<(v9.2.2.2.2.2.2.2.1.set (0+Xp.1.2.2.2.1.toNat) ah).length/\0=0/\v9.2.2.2.2.2.2.2.1.length=((v9.2.2.2.2.2.2.2.1.set (0+Xp.1.2.2.2.1.toNat) ah).set (0+aw.1.2.2.2.1.toNat) vO).length/\0=0/\v9.2.2.2.2.2.1.length=v9.2.2.2.2.2.1.length/\0=0/\v9.2.2.2.2.2.2.1.length=v9.2.2.2.2.2.2.1.length/\k10 (IntKind.i64.wrap (v9.1-(1:Int)),v9.2.1,v9.2.2.1,v9.2.2.2.1,v9.2.2.2.2.1,v9.2.2.2.2.2.1,v9.2.2.2.2.2.2.1,(v9.2.2.2.2.2.2.2.1.set (0+Xp.1.2.2.2.1.toNat) ah).set (0+aw.1.2.2.2.1.toNat) vO,aw.1.1,aw.1.2.1,aw.1.2.2.1,())) (0=0/\v9.2.2.2.2.2.2.1.length=v9.2.2.2.2.2.2.1.length/\v9.2.2.2.2.2.2.1.length+(List.take 1 (List.drop 0 [List.take v9.2.2.2.2.2.2.2.1.length (List.drop 0 v9.2.2.2.2.2.2.2.1)])).length<=Db/\0=0/\v9.2.2.2.2.2.1.length=v9.2.2.2.2.2.1.length/\0=0/\(v9.2.2.2.2.2.2.1++List.take 1 (List.drop 0 [List.take v9.2.2.2.2.2.2.2.1.length (List.drop 0 v9.2.2.2.2.2.2.2.1)])).length=(v9.2.2.2.2.2.2.1++List.take 1 (List.drop 0 [List.take v9.2.2.2.2.2.2.2.1.length (List.drop 0 v9.2.2.2.2.2.2.2.1)])).length/\k6 (v9.2.1,v9.2.2.1,v9.2.2.2.1,v9.2.2.2.2.1,v9.2.2.2.2.2.1,v9.2.2.2.2.2.2.1++List.take 1 (List.drop 0 [List.take v9.2.2.2.2.2.2.2.1.length (List.drop 0 v9.2.2.2.2.2.2.2.1)]),v9.2.2.2.2.2.2.2.2.1,v9.2.2.2.2.2.2.2.2.2.1,v9.2.2.2.2.2.2.2.2.2.2.1,()))) (IntKind.i64.wrap ((1:Int)+y8.1.2.2.2.1),v5.1,v5.2.1,v5.2.2.1,v5.2.2.2.1,v5.2.2.2.2.1,v5.2.2.2.2.2.1,y7.1.1,y8.1.1,y8.1.2.1,y8.1.2.2.1,PUnit.unit)) (P ((v5.2.2.2.2.2.2.1,v5.2.2.2.2.2.2.2.1,v5.2.2.2.2.2.2.2.2.1,v5.2.2.1,v5.2.2.2.1,List.take v5.2.2.2.2.2.1.length (List.drop 0 v5.2.2.2.2.2.1),()),()))) (Int.ofNat (nat_lit 0), {data:= #[]},IntKind.i64.wrap ((3:Int)+y4.1.2.2.2.1), {data:= #[(65:UInt8),(66:UInt8)]},[],[],y4.1.1,y4.1.2.1,y4.1.2.2.1,PUnit.unit))=fnMW Vb (look [(23,Km),(42,br)]) yy Tryz.f10 (b,i,h,()) P:=by kernel_rfl
abbrev Ac6:Type:=(List Int×Int×Int×Int×PUnit)×PUnit
theorem Apg (b:List Int) (i h m:Int) (P:((List Int×Int×Int×Int×Unit)×Unit)->Prop):(∃(y5:Ac6),Km.fn (b,i,h,m,())=some y5/\ ∃(y6:Ac6),Km.fn (y5.1.1,y5.1.2.1,y5.1.2.2.1,(2:Int),())=some y6/\Br (y6.1.2.2.2.1==(0:Int)) (P ((y6.1.1,y6.1.2.1,y6.1.2.2.1,IntKind.i64.wrap ((0:Int)-IntKind.i64.wrap ((1:Int)+y5.1.2.2.2.1)),()),())) (P ((y6.1.1,y6.1.2.1,y6.1.2.2.1,IntKind.i64.wrap ((1:Int)+y5.1.2.2.2.1),()),())))=fnMW Vb (look [(23,Km)]) yx Tryz.f76 (b,i,h,m,()) P:=by kernel_rfl
abbrev Ac9:Type:=Int×List Int×List Int×Int×Int×PUnit
abbrev Acf:Type:=(List Int×Int×Int×Int×PUnit)×PUnit
theorem Apk (b:List Int) (i h m k:Int) (P:((List Int×Int×Int×List Int×Unit)×Unit)->Prop):(∃(y6:Acf),Km.fn (b,i,h,IntKind.i64.wrap (k+(1:Int)),())=some y6/\0=0/\0=([]:List Int).length/\Dm (λ(v7:Ac9) (k8:Ac9->Prop)=>Br (decide (v7.1>(0:Int))) (∃(y9:Acf),yx.fn (v7.2.2.1,v7.2.2.2.1,v7.2.2.2.2.1,m,())=some y9/\0=0/\v7.2.1.length=v7.2.1.length/\v7.2.1.length+(List.take 1 (List.drop 0 [y9.1.2.2.2.1])).length<=Db/\0=0/\(v7.2.1++List.take 1 (List.drop 0 [y9.1.2.2.2.1])).length=(v7.2.1++List.take 1 (List.drop 0 [y9.1.2.2.2.1])).length/\k8 (IntKind.i64.wrap (v7.1-(1:Int)),v7.2.1++List.take 1 (List.drop 0 [y9.1.2.2.2.1]),y9.1.1,y9.1.2.1,y9.1.2.2.1,())) (P ((v7.2.2.1,v7.2.2.2.1,v7.2.2.2.2.1,List.take v7.2.1.length (List.drop 0 v7.2.1),()),()))) (y6.1.2.2.2.1,[],y6.1.1,y6.1.2.1,y6.1.2.2.1,PUnit.unit))=fnMW Vb (look [(23,Km),(76,yx)]) gM Tryz.f32 (b,i,h,m,k,()) P:=by kernel_rfl
abbrev Ac8:Type:=Int×Int×ByteArray×List (List Int)×List Int×List Int×Int×Int×PUnit
abbrev PE:Type:=(List Int×Int×Int×Int×PUnit)×PUnit
theorem Apj (b:List Int) (i h n:Int) (str:ByteArray) (g:List (List Int)) (P:((List Int×Int×Int×List Int×Unit)×Unit)->Prop):(0=0/\0=([]:List Int).length/\Dm (λ(v7:Ac8) (k8:Ac8->Prop)=>Br (decide (v7.1<v7.2.1)) (Br (decide ((↑v7.2.2.2.2.1.length:Int)<(3:Int))) (∃(y9:PE),Km.fn (v7.2.2.2.2.2.1,v7.2.2.2.2.2.2.1,v7.2.2.2.2.2.2.2.1,(2:Int),())=some y9/\Br (y9.1.2.2.2.1==(0:Int)) (0=0/\v7.2.2.2.2.1.length=v7.2.2.2.2.1.length/\v7.2.2.2.2.1.length+(List.take 1 (List.drop 0 [v7.1])).length<=Db/\0=0/\(v7.2.2.2.2.1++List.take 1 (List.drop 0 [v7.1])).length=(v7.2.2.2.2.1++List.take 1 (List.drop 0 [v7.1])).length/\k8 (IntKind.i64.wrap (v7.1+(1:Int)),v7.2.1,v7.2.2.1,v7.2.2.2.1,v7.2.2.2.2.1++List.take 1 (List.drop 0 [v7.1]),y9.1.1,y9.1.2.1,y9.1.2.2.1,())) (0=0/\v7.2.2.2.2.1.length=v7.2.2.2.2.1.length/\k8 (IntKind.i64.wrap (v7.1+(1:Int)),v7.2.1,v7.2.2.1,v7.2.2.2.1,v7.2.2.2.2.1,y9.1.1,y9.1.2.1,y9.1.2.2.1,()))) (Br ((↑v7.2.2.2.2.1.length:Int)==(0:Int)) (∃(y9:PE),Km.fn (v7.2.2.2.2.2.1,v7.2.2.2.2.2.2.1,v7.2.2.2.2.2.2.2.1,v7.2.1,())=some y9/\0=0/\v7.2.2.2.2.1.length=v7.2.2.2.2.1.length/\v7.2.2.2.2.1.length+(List.take 1 (List.drop 0 [y9.1.2.2.2.1])).length<=Db/\P ((y9.1.1,y9.1.2.1,y9.1.2.2.1,List.take (v7.2.2.2.2.1++List.take 1 (List.drop 0 [y9.1.2.2.2.1])).length (List.drop 0 (v7.2.2.2.2.1++List.take 1 (List.drop 0 [y9.1.2.2.2.1]))),()),())) (P ((v7.2.2.2.2.2.1,v7.2.2.2.2.2.2.1,v7.2.2.2.2.2.2.2.1,List.take v7.2.2.2.2.1.length (List.drop 0 v7.2.2.2.2.1),()),())))) (Br ((↑v7.2.2.2.2.1.length:Int)==(0:Int)) (∃(y9:PE),Km.fn (v7.2.2.2.2.2.1,v7.2.2.2.2.2.2.1,v7.2.2.2.2.2.2.2.1,v7.2.1,())=some y9/\0=0/\v7.2.2.2.2.1.length=v7.2.2.2.2.1.length/\v7.2.2.2.2.1.length+(List.take 1 (List.drop 0 [y9.1.2.2.2.1])).length<=Db/\P ((y9.1.1,y9.1.2.1,y9.1.2.2.1,List.take (v7.2.2.2.2.1++List.take 1 (List.drop 0 [y9.1.2.2.2.1])).length (List.drop 0 (v7.2.2.2.2.1++List.take 1 (List.drop 0 [y9.1.2.2.2.1]))),()),())) (P ((v7.2.2.2.2.2.1,v7.2.2.2.2.2.2.1,v7.2.2.2.2.2.2.2.1,List.take v7.2.2.2.2.1.length (List.drop 0 v7.2.2.2.2.1),()),())))) ((0:Int),n,str,g,[],b,i,h,PUnit.unit))=fnMW Vb (look [(23,Km)]) uE Tryz.f25 (b,i,h,n,str,g,()) P:=by kernel_rfl
theorem Aht (h:Int):0<=xN h/\xN h<=16777215:=by
 obtain ⟨a,ha⟩: ∃a,BitVec.ofInt IntKind.u64.bits (h.fdiv ((2:Int)^min (Int.toNat (33:Int)) IntKind.u64.bits))=a:=⟨_,rfl⟩
 have h1:(a&&&BitVec.ofInt IntKind.u64.bits (16777215:Int)).toNat<=16777215:=by
  rw [BitVec.toNat_and]
  exact Nat.and_le_right
 unfold xN
 rw [ha]
 obtain ⟨x,hx⟩: ∃x,(a&&&BitVec.ofInt IntKind.u64.bits (16777215:Int)).toNat=x:=⟨_,rfl⟩
 rw [hx] at h1⊢
 have e:IntKind.u64.wrap (x:Int)=x:=by
  unfold IntKind.wrap
  have e1:IntKind.signed .u64=false:=rfl
  have e2:IntKind.bits .u64=64:=rfl
  rw [e1,e2]
  simp only [Bool.false_and,Dd,Rl]
  omega
 rw [e,Df (by omega) (by omega)]
 omega
theorem aH.Hi {b:List Int} {i:Int} (h:aH b i) (hi:i<b.length):0<=Hi b i/\Hi b i<256:=by
 have h0:=h.lo
 have hl:i.toNat<b.length:=by omega
 refine h.byte _ ?_
 unfold Go.Proofs.YtkkdpknjohcekaaGreat.Hi
 rw [Ai,Ac hl]
 exact Al hl
theorem aH.next {b:List Int} {i:Int} (h:aH b i):aH b (dI b i):=by
 have h0:=h.lo
 have h1:=h.hi
 unfold dI
 split
 ·exact ⟨h.len,h.byte,by omega,by omega⟩
 ·exact h
theorem gu {b:List Int} {i n:Int} (h:aH b i) (hn:1<=n) (s:Int):0<=dR b i s n/\dR b i s n<n:=by
 have hx:=Aht (hN s)
 unfold dR
 split
 ·rename_i hi
  have:=h.Hi hi
  exact ⟨Int.tmod_nonneg _ (by omega),Int.tmod_lt_of_pos _ (by omega)⟩
 ·exact ⟨Int.tmod_nonneg _ (by omega),Int.tmod_lt_of_pos _ (by omega)⟩
theorem Ak2 (code:List Int) (OO:Int) (h:code.length<=4096):fnMW Vb (look []) pE Tryz.f9 (code,OO,()) (λ(z:(List Int×Int×Int×Unit)×Unit)=>z=((code,0,pd code OO,()),())):=by
 obtain ⟨R,hR⟩: ∃R,pd code OO=R:=⟨_,rfl⟩
 rw [hR]
 unfold pd at hR
 refine Eq.mp (Aks code OO _) ?_
 refine Bw code.length (λv=>v.1) (λj v=>v.2.1=code/\v.2.2.1=0/\HZ (code.drop j) v.2.2.2.1=R) rfl ⟨rfl,rfl,hR⟩ ?_
 rintro j ⟨jj,c,i,s,⟨⟩⟩ K hj rR ⟨r1,r2,r3⟩ hK
 dsimp only at rR r1 r2 r3⊢
 subst rR r1 r2
 refine Br.dec (λhl=>?_) λhl=>?_
 ·have hl:j<c.length:=by omega
  refine ⟨_,Co hl,?_⟩
  rw [Bm (by omega)]
  rw [Gm hl,HZ] at r3
  exact hK hl _ rfl ⟨rfl,rfl,r3⟩
 ·have:j=c.length:=by omega
  subst this
  rw [Pb,HZ] at r3
  rw [r3]
theorem OX:Cp Tryz.prog 9 pE:=
 Cp.cS Tm Bp mixed Tryz.func9 (by kernel_rfl) (by kernel_rfl) λx h=>Ak2 x.1 x.2.1 h
theorem Af4 (b:List Int) (i h n:Int) (hd:aH b i/\1<=n):fnMW Vb (look []) Km Tryz.f23 (b,i,h,n,()) (λ(z:(List Int×Int×Int×Int×Unit)×Unit)=>z=((b,dI b i,hN h,dR b i h n,()),())):=by
 obtain ⟨hd,hn⟩:=hd
 have h0:=hd.lo
 have hlen:=hd.len
 have hx:=Aht (hN h)
 refine Eq.mp (Afv b i h n _) ⟨by omega,Br.dec (λhl=>?_) λhl=>?_⟩
 ·have hg:=hd.Hi hl
  refine ⟨_,ez h0 hl,by omega,?_⟩
  rw [Df (n:=Hi b i) (by omega) (by omega)]
  show ((b,IntKind.i64.wrap (i+1),hN h,(IntKind.i64.wrap (xN (hN h)+Hi b i)).tmod n,()),())=_
  rw [Df (by omega) (by omega),Df (by omega) (by omega)]
  unfold dI dR
  rw [Ab hl,Ab hl]
 ·refine ⟨by omega,?_⟩
  show ((b,i,hN h,(xN (hN h)).tmod n,()),())=_
  unfold dI dR
  rw [Ak hl,Ak hl]
theorem db:Cp Tryz.prog 23 Km:=
 Cp.cS Tm Bp mixed Tryz.func23 (by kernel_rfl) (by kernel_rfl) λx h=>Af4 x.1 x.2.1 x.2.2.1 x.2.2.2.1 h
theorem Aok (code:List Int) (_:True):fnW Gb (look []) yo Tryz.f8 (code,()) (λ(z:Bool)=>z=decide ((code.length:Int)>4096)):=Eq.mp (Ap8 code _) rfl
theorem WE:Sound Tryz.prog 8 yo:=
 Sound.Gt Dt Bp mixed Tryz.func8 (by kernel_rfl) (by kernel_rfl) λx h=>Aok x.1 h
theorem Aos (b:List Int) (i h m:Int) (hd:aH b i/\1<=m/\m<=8):fnMW Vb (look [(23,Km)]) yx Tryz.f76 (b,i,h,m,()) (λ(z:(List Int×Int×Int×Int×Unit)×Unit)=>z=((b,(Zz b i h m).1,(Zz b i h m).2.1,(Zz b i h m).2.2,()),())):=by
 obtain ⟨hd,h1,h8⟩:=hd
 have hr:=gu hd h1 h
 refine Eq.mp (Apg b i h m _) ⟨_,Ab ⟨hd,h1⟩,_,Ab ⟨hd.next,by show (1:Int)<=2;decide⟩,Br.of (λhz=>?_) λhz=>?_⟩
 ·have hz:dR b (dI b i) (hN h) 2=0:=by simpa using hz
  show ((b,dI b (dI b i),hN (hN h),IntKind.i64.wrap (0-IntKind.i64.wrap (1+dR b i h m)),()),())=_
  rw [Df (n:=1+dR b i h m) (by omega) (by omega),Df (by omega) (by omega)]
  unfold Zz
  rw [Ab hz,Int.zero_sub]
 ·have hz: ¬dR b (dI b i) (hN h) 2=0:=by simpa using hz
  show ((b,dI b (dI b i),hN (hN h),IntKind.i64.wrap (1+dR b i h m),()),())=_
  rw [Df (by omega) (by omega)]
  unfold Zz
  rw [Ak hz]
theorem WN:Cp Tryz.prog 76 yx:=
 Cp.cS Tm (Fu db Bp) mixed Tryz.func76 (by kernel_rfl) (by kernel_rfl) λx h=>Aos x.1 x.2.1 x.2.2.1 x.2.2.2.1 h
theorem NQ (a b:List Int) (h:short a/\short b):fnW Gb (look []) Va Tryz.f16 (a,b,()) (λ(z:Bool)=>z=Me a b):=by
 refine Eq.mp (QA a b _) ⟨λhl=>?_,λhl=>?_⟩
 ·simp only [bne_iff_ne,ne_eq,Ly] at hl
  exact (Ft λzm=>hl (by rw [zm])).symm
 ·simp only [Xu,Ly] at hl
  exact zb a b hl h.1
theorem uS:Sound Tryz.prog 16 Va:=
 Sound.Gt Dt Bp mixed Tryz.func16 (by kernel_rfl) (by kernel_rfl) λx h=>NQ x.1 x.2.1 h
theorem Abc (n:Int) (h:0<=n/\n<=20):fnMW Vb (look []) eL Tryz.f96 (n,()) (λ(z:(List Int×Unit)×Unit)=>z=((upto n.toNat,()),())):=by
 refine Eq.mp (Ad2 n _) ⟨rfl,rfl,?_⟩
 refine Bw n.toNat (λv=>v.1) (λj v=>v.2.1=upto j) rfl rfl ?_
 rintro j ⟨i,ys,⟨⟩⟩ K hj hi h1 hK
 dsimp only at hi h1⊢
 subst hi h1
 refine Br.dec (λhl=>?_) λhl=>?_
 ·refine ⟨rfl,rfl,?_,rfl,rfl,?_⟩
  ·show (upto j).length+1<=4294967296
   rw [Mu];omega
  ·rw [Bm (by omega)]
   exact hK (by omega) _ rfl (Zb j).symm
 ·have:j=n.toNat:=by omega
  subst this
  rw [Dk]
theorem BL:Cp Tryz.prog 96 eL:=
 Cp.qA Tm Bp mixed Tryz.func96 (by kernel_rfl) (by kernel_rfl) λx h=>Abc x.1 h
theorem VN (n:Int) (h:1<=n/\n<=20):fnMW Vb (look [(95,Cr),(96,eL)]) br Tryz.f42 (n,()) (λ(z:(List Int×Unit)×Unit)=>z=((upto n.toNat,()),())):=by
 refine Eq.mp (XS n _) ⟨true,Ab trivial|>.trans (Fq some (Dl ⟨h.1,h.2⟩)),λhc=>(by cases hc),λ_=>⟨_,Ab ⟨by show 0<=n;omega,h.2⟩,?_⟩⟩
 rw [Dk]
theorem wR:Cp Tryz.prog 42 br:=
 Cp.qA Tm (Av Qv (Fu BL Bp)) mixed Tryz.func42 (by kernel_rfl) (by kernel_rfl) λx h=>VN x.1 h
theorem Abh (n:Int) (h:1<=n/\n<=20):fnW Gb (look [(95,Cr),(96,Dp)]) Ub Tryz.f42 (n,()) (λ(z:List Int)=>z=upto n.toNat):=
 Eq.mp (Ad7 n _) ⟨true,Ab trivial|>.trans (Fq some (Dl ⟨h.1,h.2⟩)),λhc=>(by cases hc),λ_=>⟨_,Ab ⟨by show 0<=n;omega,h.2⟩,rfl⟩⟩
theorem BP:Sound Tryz.prog 42 Ub:=
 Sound.Gt Dt (Av Qv (Av Wv Bp)) mixed Tryz.func42 (by kernel_rfl) (by kernel_rfl) λx h=>Abh x.1 h
theorem SY {b:List Int} {i:Int} (hd:aH b i) (h m:Int):aH b (Zz b i h m).1:=hd.next.next
theorem Aow (b:List Int) (i h m k:Int) (hd:aH b i/\(1<=m/\m<=8)/\0<=k/\k<=20):fnMW Vb (look [(23,Km),(76,yx)]) gM Tryz.f32 (b,i,h,m,k,()) (λ(z:(List Int×Int×Int×List Int×Unit)×Unit)=>z=((b,(Rd b i h m k).1,(Rd b i h m k).2.1,(Rd b i h m k).2.2,()),())):=by
 obtain ⟨hd,hm,vH,hk⟩:=hd
 have hr:=gu hd (show 1<=k+1 by omega) h
 obtain ⟨R,hR⟩: ∃R,Rd b i h m k=R:=⟨_,rfl⟩
 rw [hR]
 unfold Rd at hR
 refine Eq.mp (Apk b i h m k _) ?_
 rw [Df (by omega) (by omega)]
 refine ⟨_,Ab ⟨hd,by show 1<=k+1;omega⟩,rfl,rfl,?_⟩
 refine Dm.mk (λy=> ∃(f:Nat) (i h:Int) (w:List Int),y=((f:Int),w,b,i,h,())/\aH b i/\f+w.length<=20/\wGo b m f i h w=R) (λy=>y.1.toNat)
  ⟨(dR b i h (k+1)).toNat,dI b i,hN h,[],by rw [Int.toNat_of_nonneg hr.1],hd.next,by simp only [Fb];omega,hR⟩ ?_
 rintro y ⟨f,i,h,w,rfl,hd,hl,hv⟩
 dsimp only
 refine Br.dec (λhf=>?_) λhf=>?_
 ·obtain ⟨f,rfl⟩: ∃f',f=f'+1:=⟨f-1,by omega⟩
  refine ⟨_,Ab ⟨hd,hm⟩,rfl,rfl,by show w.length+1<=4294967296;omega,rfl,rfl,?_⟩
  rw [Df (by omega) (by omega)]
  rw [wGo] at hv
  exact ⟨⟨f,_,_,_,by rw [show ((f+1:Nat):Int)-1=(f:Int) by omega];rfl,SY hd h m,by rw [Au];show f+(w.length+1)<=20;omega,hv⟩,by show ((((f+1:Nat):Int)-1).toNat)<(((f+1:Nat):Int)).toNat;omega⟩
 ·obtain rfl:f=0:=by omega
  rw [wGo] at hv
  rw [<-hv]
  simp only [Dk]
theorem yC:Cp Tryz.prog 32 gM:=
 Cp.cS Tm (Fu db (Fu WN Bp)) mixed Tryz.func32 (by kernel_rfl) (by kernel_rfl) λx h=>Aow x.1 x.2.1 x.2.2.1 x.2.2.2.1 x.2.2.2.2.1 h
theorem IX {b:List Int} (n:Int): ∀(k:Nat) (i h:Int) (mv:List Int),aH b i->aH b (fZ b n k i h mv).1
 |0,_,_,_,hd=>hd
 |k+1,i,h,mv,hd=>by rw [fZ];exact IX n k _ _ _ hd.next.next
theorem tW {b:List Int} {n i:Int} (hd:aH b i) (h:Int):aH b (ph b n i h).1:=IX n _ _ _ _ hd.next
theorem SJ (b:List Int) (n:Int): ∀(k:Nat) (i h:Int) (ms:List (List Int)),(aE b n k i h ms).2.2.length=k+ms.length
 |0,_,_,ms=>by rw [aE];show ms.length=0+ms.length;omega
 |k+1,i,h,ms=>by rw [aE,SJ b n k,Au,Cg];omega
theorem SI {b:List Int} (n:Int): ∀(k:Nat) (i h:Int) (ms:List (List Int)),aH b i->aH b (aE b n k i h ms).1
 |0,_,_,_,hd=>hd
 |k+1,i,h,ms,hd=>by rw [aE];exact SI n k _ _ _ (tW hd h)
theorem Alr {xs:List Int} {y:Int} (h0:0<=y) (h:y<xs.length):xs[0+y.toNat]?=some (Hi xs y):=by
 have hl:y.toNat<xs.length:=by omega
 unfold Hi
 rw [Bo,Ai,Ac hl]
 rfl
theorem Aot (b:List Int) (i h:Int) (hd:aH b i):fnMW Vb (look [(23,Km),(42,br)]) yy Tryz.f10 (b,i,h,()) (λ(z:(List Int×Int×Int×Int×ByteArray×List (List Int)×Unit)×Unit)=>z=((b,(aD b i h).1,(aD b i h).2.1,(aD b i h).2.2.1,(aD b i h).2.2.2.1,(aD b i h).2.2.2.2.1,()),())):=by
 have hr:=gu hd (show (1:Int)<=3 by decide) h
 obtain ⟨n,hn⟩: ∃n,3+dR b i h 3=n:=⟨_,rfl⟩
 obtain ⟨R,hR⟩: ∃R,aE b n 2 (dI b i) (hN h) []=R:=⟨_,rfl⟩
 have hm:aD b i h=(R.1,R.2.1,(n,Ab2,R.2.2,())):=by unfold aD;rw [hn,hR]
 rw [hm]
 refine Eq.mp (Aph b i h _) ⟨_,Ab ⟨hd,by show (1:Int)<=3;decide⟩,rfl,rfl,rfl,rfl,?_⟩
 dsimp only
 rw [Df (n:=3+dR b i h 3) (by omega) (by omega),hn]
 have hn3:3<=n/\n<=5:=by omega
 refine Dm.mk (λy=> ∃(f:Nat) (i h:Int) (ms:List (List Int)),y=((0:Int), {data:= #[]},n,Ab2,[],ms,b,i,h,())/\aH b i/\f+ms.length=2/\aE b n f i h ms=R) (λy=>2-y.2.2.2.2.2.1.length)
  ⟨2,dI b i,hN h,[],rfl,hd.next,rfl,hR⟩ ?_
 rintro y ⟨f,i,h,ms,rfl,hd,hl,hv⟩
 dsimp only
 refine Br.dec (λhf=>?_) λhf=>?_
 ·obtain ⟨f,rfl⟩: ∃f',f=f'+1:=⟨f-1,by omega⟩
  rw [aE] at hv
  obtain ⟨M,hM⟩: ∃M,ph b n i h=M:=⟨_,rfl⟩
  have hMd:aH b M.1:=by rw [<-hM];exact tW hd h
  rw [hM] at hv
  unfold ph at hM
  have hr:=gu hd (show (1:Int)<=3 by decide) h
  refine ⟨_,Ab ⟨by show 1<=n;omega,by show n<=20;omega⟩,_,Ab ⟨hd,by show (1:Int)<=3;decide⟩,rfl,rfl,rfl,rfl,rfl,rfl,?_⟩
  dsimp only
  rw [Df (n:=1+dR b i h 3) (by omega) (by omega)]
  refine Dm.mk (λz=> ∃(c:Nat) (i h:Int) (mv:List Int),z=((c:Int),(0:Int), {data:= #[]},n,Ab2,[],ms,mv,b,i,h,())/\aH b i/\c<=3/\mv.length=n.toNat/\fZ b n c i h mv=M) (λz=>z.1.toNat)
   ⟨(1+dR b i h 3).toNat,dI b i,hN h,upto n.toNat,by rw [Int.toNat_of_nonneg (by omega)],hd.next,by omega,Mu _,hM⟩ ?_
  rintro z ⟨c,i',h',mv,rfl,KA,hc,iV,hsw⟩
  dsimp only
  refine Br.dec (λjU=>?_) λjU=>?_
  ·obtain ⟨c,rfl⟩: ∃c',c=c'+1:=⟨c-1,by omega⟩
   rw [fZ] at hsw
   have r1:=gu KA (show 1<=n by omega) h'
   have r2:=gu KA.next (show 1<=n by omega) (hN h')
   have l1:dR b i' h' n<mv.length:=by omega
   have l2:dR b (dI b i') (hN h') n<mv.length:=by omega
   refine ⟨_,Ab ⟨KA,by show 1<=n;omega⟩,_,Ab ⟨KA.next,by show 1<=n;omega⟩,⟨r1.1,l1⟩,_,Alr r1.1 l1,⟨r2.1,l2⟩,_,Alr r2.1 l2,⟨r1.1,l1⟩,by show 0+(dR b i' h' n).toNat<mv.length;omega,⟨r2.1,l2⟩,
    by rw [Cm];show 0+(dR b (dI b i') (hN h') n).toNat<mv.length;omega,rfl,by simp only [Cm],rfl,rfl,rfl,rfl,?_⟩
   dsimp only
   rw [Df (by omega) (by omega),Bo,Bo]
   exact ⟨⟨c,_,_,_,by rw [show ((c+1:Nat):Int)-1=(c:Int) by omega],KA.next.next,by omega,by simp only [Cm];exact iV,hsw⟩,by show ((((c+1:Nat):Int)-1).toNat)<(((c+1:Nat):Int)).toNat;omega⟩
  ·obtain rfl:c=0:=by omega
   rw [fZ] at hsw
   subst hsw
   refine ⟨rfl,rfl,by show ms.length+1<=4294967296;omega,rfl,rfl,rfl,rfl,?_⟩
   rw [Dk]
   exact ⟨⟨f,_,_,_,rfl,hMd,by rw [Au];show f+(ms.length+1)=2;omega,hv⟩,by show 2-(ms++ [mv]).length<2-ms.length;rw [Au,Cg];omega⟩
 ·obtain rfl:f=0:=by omega
  rw [aE] at hv
  rw [<-hv]
  simp only [Dk]
theorem WO:Cp Tryz.prog 10 yy:=
 Cp.cS Tm (Fu db (Fu wR Bp)) mixed Tryz.func10 (by kernel_rfl) (by kernel_rfl) λx h=>Aot x.1 x.2.1 x.2.2.1 h
theorem Aov (b:List Int) (i h n:Int) (str:ByteArray) (g:List (List Int)) (hd:aH b i/\1<=n/\n<=20):fnMW Vb (look [(23,Km)]) uE Tryz.f25 (b,i,h,n,str,g,()) (λ(z:(List Int×Int×Int×List Int×Unit)×Unit)=>z=((b,(Vk b i h n).1,(Vk b i h n).2.1,(Vk b i h n).2.2,()),())):=by
 obtain ⟨hd,hn1,hn⟩:=hd
 obtain ⟨R,hR⟩: ∃R,Vk b i h n=R:=⟨_,rfl⟩
 rw [hR]
 unfold Vk at hR
 refine Eq.mp (Apj b i h n str g _) ⟨rfl,rfl,?_⟩
 refine Dm.mk (λy=> ∃(f:Nat) (j i h:Int) (o:List Int),y=(j,n,str,g,o,b,i,h,())/\aH b i/\0<=j/\n-j<=f/\o.length<=3/\ZE b n (YE b n f j i h o)=R) (λy=>(n-y.1).toNat)
  ⟨n.toNat,0,i,h,[],rfl,hd,by omega,by omega,by simp,hR⟩ ?_
 rintro y ⟨f,j,i,h,o,rfl,hd,hj,hf,ho,hv⟩
 dsimp only
 have fin:YE b n f j i h o=(i,h,o)->Br ((o.length:Int)==0) (∃(y9:(List Int×Int×Int×Int×PUnit)×PUnit),Km.fn (b,i,h,n,())=some y9/\(0:Nat)=0/\o.length=o.length/\o.length+(List.take (1:Nat) (List.drop (0:Nat) [y9.1.2.2.2.1])).length<=Db/\
   ((y9.1.1,y9.1.2.1,y9.1.2.2.1,List.take (o++List.take (1:Nat) (List.drop (0:Nat) [y9.1.2.2.2.1])).length (List.drop (0:Nat) (o++List.take (1:Nat) (List.drop (0:Nat) [y9.1.2.2.2.1]))),()),())=((b,R.1,R.2.1,R.2.2,()),()))
   (((b,i,h,List.take o.length (List.drop 0 o),()),())=((b,R.1,R.2.1,R.2.2,()),())):=by
  intro he
  rw [he] at hv
  refine Br.of (λhz=>?_) λhz=>?_
  ·have hz:o.length=0:=by simpa using hz
   rw [ZE,Ab hz] at hv
   refine ⟨_,Ab ⟨hd,hn1⟩,rfl,rfl,by show o.length+1<=4294967296;omega,?_⟩
   rw [<-hv,Dk]
   rfl
  ·have hz: ¬o.length=0:=by simpa using hz
   rw [ZE,Ak hz] at hv
   rw [<-hv,Dk]
 refine Br.dec (λhjn=>?_) λhjn=>?_
 ·refine Br.dec (λho3=>?_) λho3=>?_
  ·obtain ⟨f,rfl⟩: ∃f',f=f'+1:=⟨f-1,by omega⟩
   rw [YE,Ab ⟨hjn,by omega⟩] at hv
   refine ⟨_,Ab ⟨hd,by show (1:Int)<=2;decide⟩,Br.of (λhz=>?_) λhz=>?_⟩
   ·have hz:dR b i h 2=0:=by simpa using hz
    rw [Ab hz] at hv
    refine ⟨rfl,rfl,by show o.length+1<=4294967296;omega,rfl,rfl,?_⟩
    rw [Df (by omega) (by omega)]
    exact ⟨⟨f,j+1,_,_,_,rfl,hd.next,by omega,by omega,by rw [Au];show o.length+1<=3;omega,hv⟩,by show (n-(j+1)).toNat<(n-j).toNat;omega⟩
   ·have hz: ¬dR b i h 2=0:=by simpa using hz
    rw [Ak hz] at hv
    refine ⟨rfl,rfl,?_⟩
    rw [Df (by omega) (by omega)]
    exact ⟨⟨f,j+1,_,_,_,rfl,hd.next,by omega,by omega,ho,hv⟩,by show (n-(j+1)).toNat<(n-j).toNat;omega⟩
  ·refine fin ?_
   cases f with
   |zero=>rfl
   |succ f=>rw [YE,Ak (λhc=>ho3 (by omega))]
 ·refine fin ?_
  cases f with
  |zero=>rfl
  |succ f=>rw [YE,Ak (λhc=>hjn hc.1)]
theorem WR:Cp Tryz.prog 25 uE:=
 Cp.cS Tm (Fu db Bp) mixed Tryz.func25 (by kernel_rfl) (by kernel_rfl) λx h=>Aov x.1 x.2.1 x.2.2.1 x.2.2.2.1 x.2.2.2.2.1 x.2.2.2.2.2.1 h
end Go.Proofs.YtkkdpknjohcekaaGreat
