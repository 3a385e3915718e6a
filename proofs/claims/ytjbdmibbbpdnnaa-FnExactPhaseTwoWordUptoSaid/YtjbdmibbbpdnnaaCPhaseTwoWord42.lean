/-
  Part 43 of the proof that the statement FnExactPhaseTwoWord holds.
-/
import Derived.Test.YtjbdmibbbpdnnaaCPhaseTwoWord41
namespace Go.Proofs.Ytjbdmibbbpdnnaa
open Go.RowKit
noncomputable abbrev Of:Spec:=Dp (.pair Pu (.pair tL .unit)) tI false true (λx=>Ct (List.length x.2.1) x.1.1 x.1.2.2.1/\List.length x.1.2.1=List.length x.1.1) (λx=>Gp x.1.1 x.1.2.1 x.2.1)
def qf (w:List Int):List Int×Bool×Unit:=if w.length>200 then ([],false,()) else (w,true,())
noncomputable abbrev qE:Spec:=Dp (.pair tL .unit) (.pair tL (.pair .bool .unit)) true false (λx=>short x.1) (λx=>qf x.1)
theorem EV (f:List (List Int)×List Int×List Int×Bool×Unit) (s:List Int) (P:Int->Prop):(∃(y3:Int),Hr.fn ((f.1,f.2.1,f.2.2.1,f.2.2.2.1,()),s,())=some y3/\Br (decide (y3<(0:Int))) (P (-1:Int)) (∃(y4:Int),idx f.2.1 y3=some y4/\P y4))=fnW Di (look [(54,Hr)]) Of Try.f114 (f,s,()) P:=by kernel_rfl
theorem Aac (w:List Int) (P:(List Int×Bool×Unit)->Prop):(Br (decide ((↑w.length:Int)>(200:Int))) (P (List.take 0 (List.drop 0 []),false,())) (P (w,true,())))=fnW Di (look []) qE Try.f59 (w,()) P:=by kernel_rfl
theorem DD (f:SS) (s:List Int) (h:Ct (List.length s) f.1 f.2.2.1/\List.length f.2.1=List.length f.1):fnW Di (look [(54,Hr)]) Of Try.f114 (f,s,()) (λ(z:Int)=>z=Gp f.1 f.2.1 s):=by
 obtain ⟨h1,h2⟩:=h
 refine Eq.mp (EV f s _) ⟨_,if_pos h1,?_⟩
 show Br (decide (Wn f.1 s<0)) _ _
 unfold Wn Gp
 by_cases hm:s∈f.1
 ·have hl:=List.idxOf_lt_length_of_mem hm
  rw [if_pos hm,if_pos hm]
  refine Br.dec (λhn=>absurd hn (by omega)) λ_=>?_
  have zY:List.idxOf s f.1<f.2.1.length:=by omega
  refine ⟨f.2.1[List.idxOf s f.1],?_,by rw [Cz zY]⟩
  show idx f.2.1 (if s∈f.1 then ((List.idxOf s f.1:Nat):Int) else-1)=_
  rw [if_pos hm]
  exact Ax zY
 ·rw [if_neg hm,if_neg hm]
  exact ⟨λ_=>rfl,λhn=>by simp at hn⟩
theorem pc:Sound Try.prog 114 Of:=
 Sound.Dp Cf (Ah Tw At) mixed Try.func114 (by kernel_rfl) (by kernel_rfl) λx h=>DD x.1 x.2.1 h
theorem ZT (w:List Int) (h:short w):fnW Di (look []) qE Try.f59 (w,()) (λ(z:List Int×Bool×Unit)=>z=qf w):=by
 refine Eq.mp (Aac w _) ?_
 unfold qf
 refine Br.dec (λhl=>?_) λhl=>?_
 ·rw [if_pos (by omega)];rfl
 ·rw [if_neg (by omega)]
theorem EC:Sound Try.prog 59 qE:=
 Sound.Dp Cf At mixed Try.func59 (by kernel_rfl) (by kernel_rfl) λx h=>ZT x.1 h
end Go.Proofs.Ytjbdmibbbpdnnaa

namespace Go.Proofs.Ytjbdmibbbpdnnaa
open Go.RowKit
def Vj (ls N d:List Int) (i:Int):List Int×List Int:=(((ls.zip N).filter (λq=>decide (Bw d q.2<Bw d i))).map Prod.fst,((ls.zip N).filter (λq=>decide (Bw d q.2<Bw d i))).map Prod.snd)
noncomputable def AO (e:Option XP) (i:Int):(List Int×List Int×Unit)×Unit:=match e with|some e=>(((Vj (Af e.1.2.2.1.length) (Jo e.1 i.toNat) (Ai e.1) i).1,(Vj (Af e.1.2.2.1.length) (Jo e.1 i.toNat) (Ai e.1) i).2,()),())|none=>(([],[],()),())
noncomputable abbrev Sp:MSpec:=ai [none,none] [(false, .Ee (.optr eN)),(false, .Ee tI)] true [none,none] [rL,rL]
 (λx=> ∃e':XP,x.1=some e'/\qT e'/\0<=x.2.1/\x.2.1<(Ad e'.1).length) (λx=>AO x.1 x.2.1)
noncomputable def Qv (p:PP) (i:Int):List Int×Bool×Unit:=((Qu p (Ai p) i).1,(Qu p (Ai p) i).2.2.1,())
noncomputable def II (e:Option XP) (i:Int):(List Int×Bool×Unit)×Unit:=match e with|some e=>(Qv e.1 i,())|none=>(([],false,()),())
noncomputable abbrev cT:MSpec:=ai [none,none] [(false, .Ee (.optr eN)),(false, .Ee tI)] true [none,none] [rL, .Ee .bool]
 (λx=> ∃e':XP,x.1=some e'/\qT e'/\0<=x.2.1/\x.2.1<(Ad e'.1).length) (λx=>II x.1 x.2.1)
def Sy (t:List Int) (l:Int):Int:=if l>0 then Bw t (l-1)+1 else-(Bw t (-l-1)+1)
noncomputable def Pf (p:PP) (t s:List Int):List Int×Bool×Unit:=if s∈Ad (Au p t) then ((Qv (Au p t) (Pe (Au p t) s).1).1.map (Sy t),(Qv (Au p t) (Pe (Au p t) s).1).2.1,()) else ([],false,())
noncomputable def vD (h:Option HP) (i:Int):(List Int×Bool×Unit)×Unit:=match h with
 |some (some e,t,_)=>(Pf e.1 t ((Ad e.1).getD i.toNat []),())
 |_=>(([],false,()),())
noncomputable abbrev aG:MSpec:=ai [none,none] [(false, .Ee (.optr iF)),(false, .Ee tI)] true [none,none] [rL, .Ee .bool]
 (λx=> ∃p t,Mn p t=true/\x.1=some (Jj p t)/\0<=x.2.1/\x.2.1<(Ad p).length) (λx=>vD x.1 x.2.1)
noncomputable def Fz (p:PP) (t s:List Int):List Int×Bool×Unit:=if (Mn p t&&decide (s∈Ad p))=true then Pf p t s else ([],false,())
noncomputable abbrev Rb:MSpec:=ai [some 3,none,none] [(false, .Ee tI),(false, .Ee .str),(false, .Ee fY),(false, .Ee tL),(false, .Ee tL)] true [none,none] [rL, .Ee .bool]
 (λx=>Cj (x.1,x.2.1,x.2.2.1,())/\short x.2.2.2.1/\short x.2.2.2.2.1) (λx=>(((Fz (x.1,x.2.1,x.2.2.1,()) x.2.2.2.1 x.2.2.2.2.1).1,(Fz (x.1,x.2.1,x.2.2.1,()) x.2.2.2.1 x.2.2.2.2.1).2.1,()),()))
noncomputable def Vk (p:PP) (s:List Int):List Int:=(jM p.2.2.1 (Gp (Ad p) (Ai p)) (Af p.2.2.1.length) (Gp (Ad p) (Ai p) s).toNat s []).1
noncomputable abbrev aE:MSpec:=ai [some 3,some 4,none] [(false, .Ee tI),(false, .Ee .str),(false, .Ee fY),(false, .Ee fY),(false, .Ee tL),(false, .Ee tL),(false, .Ee .bool),(false, .Ee tL)] false [none] [rL]
 (λx=>Cg (x.1,x.2.1,x.2.2.1,())=true/\(x.2.2.2.1,x.2.2.2.2.1,x.2.2.2.2.2.1,x.2.2.2.2.2.2.1,())=Bg x.2.2.1 (upto x.1.toNat)/\x.2.2.2.2.2.2.2.1∈Ad (x.1,x.2.1,x.2.2.1,())) (λx=>((Vk (x.1,x.2.1,x.2.2.1,()) x.2.2.2.2.2.2.2.1,()),()))
noncomputable def Sj (p:PP) (t s:List Int):List Int:=(Vk (Au p t) s).map (Sy t)
noncomputable abbrev Za:Spec:=Dp (.pair Cu (.pair tL (.pair Pu (.pair tL .unit)))) tL false true (λx=>Cj x.1/\Mn x.1 x.2.1=true/\x.2.2.1=Bg (Au x.1 x.2.1).2.2.1 (upto x.1.1.toNat)/\x.2.2.2.1∈Ad (Au x.1 x.2.1)) (λx=>Sj x.1 x.2.1 x.2.2.2.1)
noncomputable abbrev Uj:Spec:=Dp (.pair Cu (.pair tL (.pair tL .unit))) (.pair tL (.pair .bool .unit)) true false (λx=>Cj x.1/\short x.2.1/\short x.2.2.1) (λx=>Fz x.1 x.2.1 x.2.2.1)
noncomputable abbrev dH:Spec:=Dp (.pair Cu (.pair tL (.pair tI .unit))) tL false false (λx=>Bh x.1=true/\List.length x.2.1<=20/\(∀y∈x.2.1,0<=y/\y<x.1.1)/\Fa (List.length x.1.2.2.1) x.2.2.1) (λx=>Aa x.2.1 (Ag x.1.2.2.1 x.2.2.1))
abbrev dM:Type:=(Int×ByteArray×List (List Int)×PUnit)×List (List Int)×List Int×(ByteArray->Option Int)×List Int×List Int×List (List Int)×PUnit
theorem KL (e:Option XP) (i:Int) (P:((List Int×List Int×Unit)×Unit)->Prop):(∃(y3:dM),e=some y3/\ ∃(y4:List Int),Ib.fn ((↑y3.1.2.2.1.length:Int),())=some y4/\ ∃(y5:dM),e=some y5/\ ∃(y6:List Int),idx y5.2.2.2.2.2.2.1 i=some y6/\0=0/\0=([]:List Int).length/\0=0/\0=([]:List Int).length/\Cb (λ(v7:Int×List Int×List Int×PUnit) (k8:Int×List Int×List Int×PUnit->Prop)=>Br (decide (v7.1<(↑y6.length:Int))) (∃(y9:Int),idx y6 v7.1=some y9/\ ∃(Ls:dM),e=some Ls/\ ∃(Ke:Int),idx Ls.2.2.1 y9=some Ke/\ ∃(jU:dM),e=some jU/\ ∃(lK:Int),idx jU.2.2.1 i=some lK/\Br (decide (Ke<lK)) (∃(Tc:Int),idx y4 v7.1=some Tc/\0=0/\v7.2.1.length=v7.2.1.length/\v7.2.1.length+(List.take 1 (List.drop 0 [Tc])).length<=Bm/\0=0/\v7.2.2.1.length=v7.2.2.1.length/\v7.2.2.1.length+(List.take 1 (List.drop 0 [y9])).length<=Bm/\0=0/\(v7.2.1++List.take 1 (List.drop 0 [Tc])).length=(v7.2.1++List.take 1 (List.drop 0 [Tc])).length/\0=0/\(v7.2.2.1++List.take 1 (List.drop 0 [y9])).length=(v7.2.2.1++List.take 1 (List.drop 0 [y9])).length/\k8 (IntKind.i64.wrap (v7.1+(1:Int)),v7.2.1++List.take 1 (List.drop 0 [Tc]),v7.2.2.1++List.take 1 (List.drop 0 [y9]),())) (0=0/\v7.2.1.length=v7.2.1.length/\0=0/\v7.2.2.1.length=v7.2.2.1.length/\k8 (IntKind.i64.wrap (v7.1+(1:Int)),v7.2.1,v7.2.2.1,()))) (P ((List.take v7.2.1.length (List.drop 0 v7.2.1),List.take v7.2.2.1.length (List.drop 0 v7.2.2.1),()),()))) ((0:Int),[],[],PUnit.unit))=fnMW Ol (look [(117,Ib)]) Sp Try.f146 (e,i,()) P:=by kernel_rfl
abbrev BD:Type:=(Int×ByteArray×List (List Int)×PUnit)×List (List Int)×List Int×(ByteArray->Option Int)×List Int×List Int×List (List Int)×PUnit
theorem UT (e:Option XP) (i:Int) (P:((List Int×Bool×Unit)×Unit)->Prop):(∃(y3:BD),e=some y3/\ ∃(y4:Int),idx y3.2.2.1 i=some y4/\Br (decide (y4>(200:Int))) (P ((List.take 0 (List.drop 0 []),false,()),())) (0=0/\0=([]:List Int).length/\Cb (λ(v5:Int×List Int×PUnit) (k6:Int×List Int×PUnit->Prop)=> ∃(y7:BD),e=some y7/\ ∃(y8:Int),idx y7.2.2.1 v5.1=some y8/\Br (decide (y8>(0:Int))) (∃(y9:(List Int×List Int×PUnit)×PUnit),Sp.fn (e,v5.1,())=some y9/\((0:Int)<=(0:Int)/\(0:Int)<(↑y9.1.1.length:Int))/\ ∃(Ls:Int),y9.1.1[0+Int.toNat (0:Int)]?=some Ls/\0=0/\v5.2.1.length=v5.2.1.length/\v5.2.1.length+(List.take 1 (List.drop 0 [Ls])).length<=Bm/\((0:Int)<=(0:Int)/\(0:Int)<(↑y9.1.2.1.length:Int))/\ ∃(Ke:Int),y9.1.2.1[0+Int.toNat (0:Int)]?=some Ke/\0=0/\(v5.2.1++List.take 1 (List.drop 0 [Ls])).length=(v5.2.1++List.take 1 (List.drop 0 [Ls])).length/\k6 (Ke,v5.2.1++List.take 1 (List.drop 0 [Ls]),())) (P ((List.take v5.2.1.length (List.drop 0 v5.2.1),true,()),()))) (i,[],PUnit.unit)))=fnMW Ol (look [(146,Sp)]) cT Try.f109 (e,i,()) P:=by kernel_rfl
abbrev dd:Type:=Option ((Int×ByteArray×List (List Int)×PUnit)×List (List Int)×List Int×(ByteArray->Option Int)×List Int×List Int×List (List Int)×PUnit)×List Int×Option ((Int×ByteArray×List (List Int)×PUnit)×List (List Int)×List Int×(ByteArray->Option Int)×List Int×List Int×List (List Int)×PUnit)×PUnit
theorem OS (h:Option HP) (i:Int) (P:((List Int×Bool×Unit)×Unit)->Prop):(∃(y3:dd),h=some y3/\ ∃(y4:dd),h=some y4/\ ∃(y5:(Int×ByteArray×List (List Int)×PUnit)×List (List Int)×List Int×(ByteArray->Option Int)×List Int×List Int×List (List Int)×PUnit),y4.1=some y5/\ ∃(y6:List Int),idx y5.2.1 i=some y6/\ ∃(y7:Int×Bool×PUnit),Xm.fn (y3.2.2.1,y6,())=some y7/\Br (!y7.2.1) (P ((List.take 0 (List.drop 0 []),false,()),())) (∃(y8:dd),h=some y8/\ ∃(y9:(List Int×Bool×PUnit)×PUnit),cT.fn (y8.2.2.1,y7.1,())=some y9/\Br (!y9.1.2.1) (P ((List.take 0 (List.drop 0 []),false,()),())) (0=0/\y9.1.1.length=y9.1.1.length/\0=0/\y9.1.1.length=y9.1.1.length/\Cb (λ(v10:Int×List Int×PUnit) (k11:Int×List Int×PUnit->Prop)=>Br (decide (v10.1<(↑y9.1.1.length:Int))) (((0:Int)<=v10.1/\v10.1<(↑v10.2.1.length:Int))/\ ∃(jU:Int),v10.2.1[0+v10.1.toNat]?=some jU/\Br (decide (jU>(0:Int))) (∃(lK:dd),h=some lK/\ ∃(Tc:Int),idx lK.2.1 (IntKind.i64.wrap (jU-(1:Int)))=some Tc/\((0:Int)<=v10.1/\v10.1<(↑v10.2.1.length:Int))/\0+v10.1.toNat<v10.2.1.length/\0=0/\v10.2.1.length=(v10.2.1.set (0+v10.1.toNat) (IntKind.i64.wrap (Tc+(1:Int)))).length/\0=0/\v10.2.1.length=(v10.2.1.set (0+v10.1.toNat) (IntKind.i64.wrap (Tc+(1:Int)))).length/\k11 (IntKind.i64.wrap (v10.1+(1:Int)),v10.2.1.set (0+v10.1.toNat) (IntKind.i64.wrap (Tc+(1:Int))),())) (∃(lK:dd),h=some lK/\ ∃(Tc:Int),idx lK.2.1 (IntKind.i64.wrap (IntKind.i64.wrap ((0:Int)-jU)-(1:Int)))=some Tc/\((0:Int)<=v10.1/\v10.1<(↑v10.2.1.length:Int))/\0+v10.1.toNat<v10.2.1.length/\0=0/\v10.2.1.length=(v10.2.1.set (0+v10.1.toNat) (IntKind.i64.wrap ((0:Int)-IntKind.i64.wrap (Tc+(1:Int))))).length/\0=0/\v10.2.1.length=(v10.2.1.set (0+v10.1.toNat) (IntKind.i64.wrap ((0:Int)-IntKind.i64.wrap (Tc+(1:Int))))).length/\k11 (IntKind.i64.wrap (v10.1+(1:Int)),v10.2.1.set (0+v10.1.toNat) (IntKind.i64.wrap ((0:Int)-IntKind.i64.wrap (Tc+(1:Int)))),()))) (P ((List.take v10.2.1.length (List.drop 0 v10.2.1),true,()),()))) ((0:Int),y9.1.1,PUnit.unit))))=fnMW Ol (look [(98,Xm),(109,cT)]) aG Try.f61 (h,i,()) P:=by kernel_rfl
theorem EZ (n:Int) (str:ByteArray) (g:List (List Int)) (t s:List Int) (P:((List Int×Bool×Unit)×Unit)->Prop):(∃(y6:Option (Option ((Int×ByteArray×List (List Int)×PUnit)×List (List Int)×List Int×(ByteArray->Option Int)×List Int×List Int×List (List Int)×PUnit)×List Int×Option ((Int×ByteArray×List (List Int)×PUnit)×List (List Int)×List Int×(ByteArray->Option Int)×List Int×List Int×List (List Int)×PUnit)×PUnit)×Int×Bool×PUnit),Lp.fn ((n,str,g,()),t,s,())=some y6/\Br (!y6.2.2.1) (P ((List.take 0 (List.drop 0 []),false,()),())) (∃(y7:(List Int×Bool×PUnit)×PUnit),aG.fn (y6.1,y6.2.1,())=some y7/\P ((List.take y7.1.1.length (List.drop 0 y7.1.1),y7.1.2.1,()),())))=fnMW Ol (look [(55,Lp),(61,aG)]) Rb Try.f24 (n,str,g,t,s,()) P:=by kernel_rfl
abbrev lI:Type:=List Int×Int×Int×ByteArray×List (List Int)×List (List Int)×List Int×List Int×Bool×List Int×PUnit
theorem UP (n:Int) (str:ByteArray) (g L:List (List Int)) (D Gv:List Int) (b:Bool) (s:List Int) (P:((List Int×Unit)×Unit)->Prop):(∃(y9:List Int),Im.fn ((n,str,g,()),())=some y9/\ ∃(Ls:Int),Of.fn ((L,D,Gv,b,()),s,())=some Ls/\0=0/\0=([]:List Int).length/\Cb (λ(v11:lI) (QR:lI->Prop)=>Br (decide (v11.2.1>(0:Int))) (0=0/\v11.2.2.2.2.2.2.2.2.2.1.length=v11.2.2.2.2.2.2.2.2.2.1.length/\Cb (λ(Vu:lI) (k14:lI->Prop)=>Br (decide (Vu.2.1<(↑y9.length:Int))) (∃(iK:Int),idx y9 Vu.2.1=some iK/\ ∃(xb:List Int),dH.fn ((Vu.2.2.1,Vu.2.2.2.1,Vu.2.2.2.2.1,()),Vu.1,iK,())=some xb/\ ∃(BG:Int),Of.fn ((Vu.2.2.2.2.2.1,Vu.2.2.2.2.2.2.1,Vu.2.2.2.2.2.2.2.1,Vu.2.2.2.2.2.2.2.2.1,()),xb,())=some BG/\Br (BG==IntKind.i64.wrap (v11.2.1-(1:Int))) (∃(BH:Int),idx y9 Vu.2.1=some BH/\0=0/\Vu.2.2.2.2.2.2.2.2.2.1.length=Vu.2.2.2.2.2.2.2.2.2.1.length/\Vu.2.2.2.2.2.2.2.2.2.1.length+(List.take 1 (List.drop 0 [BH])).length<=Bm/\0=0/\(Vu.2.2.2.2.2.2.2.2.2.1++List.take 1 (List.drop 0 [BH])).length=(Vu.2.2.2.2.2.2.2.2.2.1++List.take 1 (List.drop 0 [BH])).length/\QR (xb,IntKind.i64.wrap (v11.2.1-(1:Int)),Vu.2.2.1,Vu.2.2.2.1,Vu.2.2.2.2.1,Vu.2.2.2.2.2.1,Vu.2.2.2.2.2.2.1,Vu.2.2.2.2.2.2.2.1,Vu.2.2.2.2.2.2.2.2.1,Vu.2.2.2.2.2.2.2.2.2.1++List.take 1 (List.drop 0 [BH]),())) (0=0/\Vu.2.2.2.2.2.2.2.2.2.1.length=Vu.2.2.2.2.2.2.2.2.2.1.length/\k14 (Vu.1,IntKind.i64.wrap (Vu.2.1+(1:Int)),Vu.2.2.1,Vu.2.2.2.1,Vu.2.2.2.2.1,Vu.2.2.2.2.2.1,Vu.2.2.2.2.2.2.1,Vu.2.2.2.2.2.2.2.1,Vu.2.2.2.2.2.2.2.2.1,Vu.2.2.2.2.2.2.2.2.2.1,()))) (0=0/\Vu.2.2.2.2.2.2.2.2.2.1.length=Vu.2.2.2.2.2.2.2.2.2.1.length/\QR (Vu.1,IntKind.i64.wrap (v11.2.1-(1:Int)),Vu.2.2.1,Vu.2.2.2.1,Vu.2.2.2.2.1,Vu.2.2.2.2.2.1,Vu.2.2.2.2.2.2.1,Vu.2.2.2.2.2.2.2.1,Vu.2.2.2.2.2.2.2.2.1,Vu.2.2.2.2.2.2.2.2.2.1,()))) (v11.1,(0:Int),v11.2.2.1,v11.2.2.2.1,v11.2.2.2.2.1,v11.2.2.2.2.2.1,v11.2.2.2.2.2.2.1,v11.2.2.2.2.2.2.2.1,v11.2.2.2.2.2.2.2.2.1,v11.2.2.2.2.2.2.2.2.2.1,PUnit.unit)) (P ((List.take v11.2.2.2.2.2.2.2.2.2.1.length (List.drop 0 v11.2.2.2.2.2.2.2.2.2.1),()),()))) (s,Ls,n,str,g,L,D,Gv,b,[],PUnit.unit))=fnMW Ol (look [(96,Im),(114,Of),(115,dH)]) aE Try.f108 (n,str,g,L,D,Gv,b,s,()) P:=by kernel_rfl
abbrev aN:Type:=Int×Int×ByteArray×List (List Int)×Int×ByteArray×Int×ByteArray×List (List Int)×List (List Int)×PUnit
abbrev Ly (v5:aN) (Ke:(List Int×PUnit)×PUnit) (y9:(List Int×PUnit)×PUnit) (t:List Int) (y7:Int) (Ls:List Int) (y8:List Int):Prop:=0=0/\v5.2.2.2.2.2.2.2.2.2.1.length=v5.2.2.2.2.2.2.2.2.2.1.length/\v5.2.2.2.2.2.2.2.2.2.1.length+(List.take 1 (List.drop 0 [List.take Ke.1.1.length (List.drop 0 Ke.1.1)])).length<=Bm/\ [(0,(v5.2.2.2.2.2.2.2.2.2.1++List.take 1 (List.drop 0 [List.take Ke.1.1.length (List.drop 0 Ke.1.1)])).length),(0,v5.2.2.2.2.2.2.2.2.1.length),(0,(v5.2.2.2.2.2.2.2.2.2.1++List.take 1 (List.drop 0 [List.take Ke.1.1.length (List.drop 0 Ke.1.1)])).length)]= [(0,(v5.2.2.2.2.2.2.2.2.2.1++List.take 1 (List.drop 0 [List.take y9.1.1.length (List.drop 0 y9.1.1)])).length),(0,v5.2.2.2.2.2.2.2.2.1.length),(0,(v5.2.2.2.2.2.2.2.2.2.1++List.take 1 (List.drop 0 [List.take y9.1.1.length (List.drop 0 y9.1.1)])).length)]/\(t,v5.1,y7,v5.1,t,(↑t.length:Int),decide (v5.1<(↑t.length:Int)),t,v5.1,y7,y7,v5.2.2.2.2.2.2.2.1,v5.2.2.1,y7,y7,IntKind.i64.wrap (y7+(1:Int)),v5.2.2.1.extract y7.toNat (IntKind.i64.wrap (y7+(1:Int))).toNat,v5.2.2.2.2.2.2.2.1++v5.2.2.1.extract y7.toNat (IntKind.i64.wrap (y7+(1:Int))).toNat,v5.2.2.2.1,y7,Ls,Ls,List.take Ke.1.1.length (List.drop 0 Ke.1.1),List.take 1 (List.drop 0 [List.take Ke.1.1.length (List.drop 0 Ke.1.1)]),v5.2.1,v5.2.2.1,v5.2.2.2.1,v5.2.2.2.2.1,v5.2.2.2.2.2.1,v5.2.2.2.2.2.2.1,v5.2.2.2.2.2.2.2.1++v5.2.2.1.extract y7.toNat (IntKind.i64.wrap (y7+(1:Int))).toNat,v5.2.2.2.2.2.2.2.2.1,v5.2.2.2.2.2.2.2.2.2.1++List.take 1 (List.drop 0 [List.take Ke.1.1.length (List.drop 0 Ke.1.1)]),())=(t,v5.1,y7,v5.1,t,(↑t.length:Int),decide (v5.1<(↑t.length:Int)),t,v5.1,y7,y7,v5.2.2.2.2.2.2.2.1,v5.2.2.1,y7,y7,IntKind.i64.wrap (y7+(1:Int)),v5.2.2.1.extract y7.toNat (IntKind.i64.wrap (y7+(1:Int))).toNat,v5.2.2.2.2.2.2.2.1++v5.2.2.1.extract y7.toNat (IntKind.i64.wrap (y7+(1:Int))).toNat,v5.2.2.2.1,y7,y8,y8,List.take y9.1.1.length (List.drop 0 y9.1.1),List.take 1 (List.drop 0 [List.take y9.1.1.length (List.drop 0 y9.1.1)]),v5.2.1,v5.2.2.1,v5.2.2.2.1,v5.2.2.2.2.1,v5.2.2.2.2.2.1,v5.2.2.2.2.2.2.1,v5.2.2.2.2.2.2.2.1++v5.2.2.1.extract y7.toNat (IntKind.i64.wrap (y7+(1:Int))).toNat,v5.2.2.2.2.2.2.2.2.1,v5.2.2.2.2.2.2.2.2.2.1++List.take 1 (List.drop 0 [List.take y9.1.1.length (List.drop 0 y9.1.1)]),PUnit.unit)
theorem wZ (n:Int) (str:ByteArray) (g:List (List Int)) (t:List Int) (P:((Int×ByteArray×List (List Int)×Unit)×Unit)->Prop):(0=0/\0=([]:List Int).length/\0=0/\0=([]:List Int).length/\Cb (λ(v5:aN) (k6:aN->Prop)=>Br (decide (v5.1<(↑t.length:Int))) (∃(y7:Int),idx t v5.1=some y7/\((0:Int)<=y7/\y7<=IntKind.i64.wrap (y7+(1:Int))/\IntKind.i64.wrap (y7+(1:Int))<=(↑v5.2.2.1.size:Int))/\v5.2.2.2.2.2.2.2.1.size+(v5.2.2.1.extract y7.toNat (IntKind.i64.wrap (y7+(1:Int))).toNat).size<=4294967296/\ ∃(y8:List Int),idx v5.2.2.2.1 y7=some y8/\ ∃(y9:(List Int×PUnit)×PUnit),Fo.fn (y8,())=some y9/\0=0/\v5.2.2.2.2.2.2.2.2.2.1.length=v5.2.2.2.2.2.2.2.2.2.1.length/\v5.2.2.2.2.2.2.2.2.2.1.length+(List.take 1 (List.drop 0 [List.take y9.1.1.length (List.drop 0 y9.1.1)])).length<=Bm/\(0=0/\v5.2.2.2.2.2.2.2.2.1.length=v5.2.2.2.2.2.2.2.2.1.length/\0=0/\(v5.2.2.2.2.2.2.2.2.2.1++List.take 1 (List.drop 0 [List.take y9.1.1.length (List.drop 0 y9.1.1)])).length=(v5.2.2.2.2.2.2.2.2.2.1++List.take 1 (List.drop 0 [List.take y9.1.1.length (List.drop 0 y9.1.1)])).length/\k6 (IntKind.i64.wrap (v5.1+(1:Int)),v5.2.1,v5.2.2.1,v5.2.2.2.1,v5.2.2.2.2.1,v5.2.2.2.2.2.1,v5.2.2.2.2.2.2.1,v5.2.2.2.2.2.2.2.1++v5.2.2.1.extract y7.toNat (IntKind.i64.wrap (y7+(1:Int))).toNat,v5.2.2.2.2.2.2.2.2.1,v5.2.2.2.2.2.2.2.2.2.1++List.take 1 (List.drop 0 [List.take y9.1.1.length (List.drop 0 y9.1.1)]),()))/\(∃(Ls:List Int),idx v5.2.2.2.1 y7=some Ls/\ ∃(Ke:(List Int×PUnit)×PUnit),Fo.fn (Ls,())=some Ke/\(Ly v5 Ke y9 t y7 Ls y8))/\(∃(Ls:List Int),idx v5.2.2.2.1 y7=some Ls/\ ∃(Ke:(List Int×PUnit)×PUnit),Fo.fn (Ls,())=some Ke/\(Ly v5 Ke y9 t y7 Ls y8))/\ ∃(Ls:List Int),idx v5.2.2.2.1 y7=some Ls/\(∃(Ke:(List Int×PUnit)×PUnit),Fo.fn (Ls,())=some Ke/\(Ly v5 Ke y9 t y7 Ls y8))/\(∃(Ke:(List Int×PUnit)×PUnit),Fo.fn (Ls,())=some Ke/\(Ly v5 Ke y9 t y7 Ls y8))/\ ∃(Ke:(List Int×PUnit)×PUnit),Fo.fn (Ls,())=some Ke/\((Ly v5 Ke y9 t y7 Ls y8))/\(Ly v5 Ke y9 t y7 Ls y8)) (P ((v5.2.2.2.2.2.2.1,v5.2.2.2.2.2.2.2.1,List.take v5.2.2.2.2.2.2.2.2.2.1.length (List.drop 0 v5.2.2.2.2.2.2.2.2.2.1),()),()))) ((0:Int),n,str,g,Int.ofNat (nat_lit 0), {data:= #[]},n, {data:= #[]},[],[],PUnit.unit))=fnMW Ol (look [(123,Fo)]) Io Try.f102 (n,str,g,t,()) P:=by kernel_rfl
abbrev jQ:Type:=(Int×ByteArray×List (List Int)×PUnit)×PUnit
theorem KR (p:Int×ByteArray×List (List Int)×Unit) (t:List Int) (f:List (List Int)×List Int×List Int×Bool×Unit) (s:List Int) (P:List Int->Prop):(((∃(y5:jQ),Io.fn (p.1,p.2.1,p.2.2.1,t,())=some y5/\ ∃(y6:(List Int×PUnit)×PUnit),aE.fn (y5.1.1,y5.1.2.1,List.take y5.1.2.2.1.length (List.drop 0 y5.1.2.2.1),f.1,f.2.1,f.2.2.1,f.2.2.2.1,s,())=some y6/\0=0/\y6.1.1.length=y6.1.1.length/\Cb (λ(v7:Int×List Int×PUnit) (k8:Int×List Int×PUnit->Prop)=>Br (decide (v7.1<(↑v7.2.1.length:Int))) (((0:Int)<=v7.1/\v7.1<(↑v7.2.1.length:Int))/\ ∃(y9:Int),v7.2.1[0+v7.1.toNat]?=some y9/\Br (decide (y9>(0:Int))) (((0:Int)<=v7.1/\v7.1<(↑v7.2.1.length:Int))/\ ∃(Ls:Int),v7.2.1[0+v7.1.toNat]?=some Ls/\ ∃(Ke:Int),idx t (IntKind.i64.wrap (Ls-(1:Int)))=some Ke/\((0:Int)<=v7.1/\v7.1<(↑v7.2.1.length:Int))/\0+v7.1.toNat<v7.2.1.length/\0=0/\v7.2.1.length=(v7.2.1.set (0+v7.1.toNat) (IntKind.i64.wrap (Ke+(1:Int)))).length/\k8 (IntKind.i64.wrap (v7.1+(1:Int)),v7.2.1.set (0+v7.1.toNat) (IntKind.i64.wrap (Ke+(1:Int))),())) (((0:Int)<=v7.1/\v7.1<(↑v7.2.1.length:Int))/\ ∃(Ls:Int),v7.2.1[0+v7.1.toNat]?=some Ls/\ ∃(Ke:Int),idx t (IntKind.i64.wrap (IntKind.i64.wrap ((0:Int)-Ls)-(1:Int)))=some Ke/\((0:Int)<=v7.1/\v7.1<(↑v7.2.1.length:Int))/\0+v7.1.toNat<v7.2.1.length/\0=0/\v7.2.1.length=(v7.2.1.set (0+v7.1.toNat) (IntKind.i64.wrap (IntKind.i64.wrap ((0:Int)-Ke)-(1:Int)))).length/\k8 (IntKind.i64.wrap (v7.1+(1:Int)),v7.2.1.set (0+v7.1.toNat) (IntKind.i64.wrap (IntKind.i64.wrap ((0:Int)-Ke)-(1:Int))),()))) (P (List.take v7.2.1.length (List.drop 0 v7.2.1)))) ((0:Int),y6.1.1,PUnit.unit))/\ ∃(y5:jQ),Io.fn (p.1,p.2.1,p.2.2.1,t,())=some y5/\ ∃(y6:(List Int×PUnit)×PUnit),aE.fn (y5.1.1,y5.1.2.1,List.take y5.1.2.2.1.length (List.drop 0 y5.1.2.2.1),f.1,f.2.1,f.2.2.1,f.2.2.2.1,s,())=some y6/\0=0/\y6.1.1.length=y6.1.1.length/\Cb (λ(v7:Int×List Int×PUnit) (k8:Int×List Int×PUnit->Prop)=>Br (decide (v7.1<(↑v7.2.1.length:Int))) (((0:Int)<=v7.1/\v7.1<(↑v7.2.1.length:Int))/\ ∃(y9:Int),v7.2.1[0+v7.1.toNat]?=some y9/\Br (decide (y9>(0:Int))) (((0:Int)<=v7.1/\v7.1<(↑v7.2.1.length:Int))/\ ∃(Ls:Int),v7.2.1[0+v7.1.toNat]?=some Ls/\ ∃(Ke:Int),idx t (IntKind.i64.wrap (Ls-(1:Int)))=some Ke/\((0:Int)<=v7.1/\v7.1<(↑v7.2.1.length:Int))/\0+v7.1.toNat<v7.2.1.length/\0=0/\v7.2.1.length=(v7.2.1.set (0+v7.1.toNat) (IntKind.i64.wrap (Ke+(1:Int)))).length/\k8 (IntKind.i64.wrap (v7.1+(1:Int)),v7.2.1.set (0+v7.1.toNat) (IntKind.i64.wrap (Ke+(1:Int))),())) (((0:Int)<=v7.1/\v7.1<(↑v7.2.1.length:Int))/\ ∃(Ls:Int),v7.2.1[0+v7.1.toNat]?=some Ls/\ ∃(Ke:Int),idx t (IntKind.i64.wrap (IntKind.i64.wrap ((0:Int)-Ls)-(1:Int)))=some Ke/\((0:Int)<=v7.1/\v7.1<(↑v7.2.1.length:Int))/\0+v7.1.toNat<v7.2.1.length/\0=0/\v7.2.1.length=(v7.2.1.set (0+v7.1.toNat) (IntKind.i64.wrap (IntKind.i64.wrap ((0:Int)-Ke)-(1:Int)))).length/\k8 (IntKind.i64.wrap (v7.1+(1:Int)),v7.2.1.set (0+v7.1.toNat) (IntKind.i64.wrap (IntKind.i64.wrap ((0:Int)-Ke)-(1:Int))),()))) (P (List.take v7.2.1.length (List.drop 0 v7.2.1)))) ((0:Int),y6.1.1,PUnit.unit))/\ ∃(y5:jQ),Io.fn (p.1,p.2.1,p.2.2.1,t,())=some y5/\ ∃(y6:(List Int×PUnit)×PUnit),aE.fn (y5.1.1,y5.1.2.1,List.take y5.1.2.2.1.length (List.drop 0 y5.1.2.2.1),f.1,f.2.1,f.2.2.1,f.2.2.2.1,s,())=some y6/\0=0/\y6.1.1.length=y6.1.1.length/\Cb (λ(v7:Int×List Int×PUnit) (k8:Int×List Int×PUnit->Prop)=>Br (decide (v7.1<(↑v7.2.1.length:Int))) (((0:Int)<=v7.1/\v7.1<(↑v7.2.1.length:Int))/\ ∃(y9:Int),v7.2.1[0+v7.1.toNat]?=some y9/\Br (decide (y9>(0:Int))) (((0:Int)<=v7.1/\v7.1<(↑v7.2.1.length:Int))/\ ∃(Ls:Int),v7.2.1[0+v7.1.toNat]?=some Ls/\ ∃(Ke:Int),idx t (IntKind.i64.wrap (Ls-(1:Int)))=some Ke/\((0:Int)<=v7.1/\v7.1<(↑v7.2.1.length:Int))/\0+v7.1.toNat<v7.2.1.length/\0=0/\v7.2.1.length=(v7.2.1.set (0+v7.1.toNat) (IntKind.i64.wrap (Ke+(1:Int)))).length/\k8 (IntKind.i64.wrap (v7.1+(1:Int)),v7.2.1.set (0+v7.1.toNat) (IntKind.i64.wrap (Ke+(1:Int))),())) (((0:Int)<=v7.1/\v7.1<(↑v7.2.1.length:Int))/\ ∃(Ls:Int),v7.2.1[0+v7.1.toNat]?=some Ls/\ ∃(Ke:Int),idx t (IntKind.i64.wrap (IntKind.i64.wrap ((0:Int)-Ls)-(1:Int)))=some Ke/\((0:Int)<=v7.1/\v7.1<(↑v7.2.1.length:Int))/\0+v7.1.toNat<v7.2.1.length/\0=0/\v7.2.1.length=(v7.2.1.set (0+v7.1.toNat) (IntKind.i64.wrap (IntKind.i64.wrap ((0:Int)-Ke)-(1:Int)))).length/\k8 (IntKind.i64.wrap (v7.1+(1:Int)),v7.2.1.set (0+v7.1.toNat) (IntKind.i64.wrap (IntKind.i64.wrap ((0:Int)-Ke)-(1:Int))),()))) (P (List.take v7.2.1.length (List.drop 0 v7.2.1)))) ((0:Int),y6.1.1,PUnit.unit))=fnW Di (look [(102,Io),(108,aE)]) Za Try.f60 (p,t,f,s,()) P:=by kernel_rfl
theorem qR (p:Int×ByteArray×List (List Int)×Unit) (t s:List Int) (P:(List Int×Bool×Unit)->Prop):(∃(y4:(List (List Int)×List Int×List Int×Bool×PUnit)×(List (List Int)×List Int×List Int×Bool×PUnit)×Bool×PUnit),cR.fn ((p.1,p.2.1,p.2.2.1,()),t,())=some y4/\Br (!y4.2.2.1) (P (List.take 0 (List.drop 0 []),false,())) (∃(y5:Bool),Uf.fn ((p.1,p.2.1,p.2.2.1,()),(y4.1.1,y4.1.2.1,y4.1.2.2.1,y4.1.2.2.2.1,()),s,())=some y5/\Br (!y5) (P (List.take 0 (List.drop 0 []),false,())) (∃(y6:Int),Hr.fn ((y4.2.1.1,y4.2.1.2.1,y4.2.1.2.2.1,y4.2.1.2.2.2.1,()),s,())=some y6/\Br (decide (y6<(0:Int))) (P (List.take 0 (List.drop 0 []),false,())) (∃(y7:List Int),Za.fn ((p.1,p.2.1,p.2.2.1,()),t,(y4.2.1.1,y4.2.1.2.1,y4.2.1.2.2.1,y4.2.1.2.2.2.1,()),s,())=some y7/\ ∃(y8:List Int×Bool×PUnit),qE.fn (y7,())=some y8/\P (y8.1,y8.2.1,())))))=fnW Di (look [(52,cR),(53,Uf),(54,Hr),(60,Za),(59,qE)]) Uj Try.f23 (p,t,s,()) P:=by kernel_rfl
abbrev jP:Type:=(Int×ByteArray×List (List Int)×PUnit)×PUnit
theorem KN (p:Int×ByteArray×List (List Int)×Unit) (a b:List Int) (P:Bool->Prop):(Br (decide ((↑a.length:Int)>(1048576:Int))) (P true) (Br (decide ((↑b.length:Int)>(1048576:Int))) (P true) (∃(y4:Int),qI.fn ((p.1,p.2.1,p.2.2.1,()),(1048576:Int),())=some y4/\Br (decide (y4<(0:Int))) (P true) (∃(y5:jP),Ju.fn (p.1,p.2.1,p.2.2.1,())=some y5/\ ∃(y6:(List Int×PUnit)×PUnit),Mq.fn (a,())=some y6/\ ∃(y7:(List Int×PUnit)×PUnit),Mq.fn (b,())=some y7/\ ∃(y8:List Int×Bool×PUnit),Uj.fn ((y5.1.1,y5.1.2.1,List.take y5.1.2.2.1.length (List.drop 0 y5.1.2.2.1),()),List.take y6.1.1.length (List.drop 0 y6.1.1),List.take y7.1.1.length (List.drop 0 y7.1.1),())=some y8/\ ∃(y9:jP),Ju.fn (p.1,p.2.1,p.2.2.1,())=some y9/\ ∃(Ls:(List Int×PUnit)×PUnit),Mq.fn (a,())=some Ls/\ ∃(Ke:(List Int×PUnit)×PUnit),Mq.fn (b,())=some Ke/\ ∃(jU:(List Int×Bool×PUnit)×PUnit),Rb.fn (y9.1.1,y9.1.2.1,List.take y9.1.2.2.1.length (List.drop 0 y9.1.2.2.1),List.take Ls.1.1.length (List.drop 0 Ls.1.1),List.take Ke.1.1.length (List.drop 0 Ke.1.1),())=some jU/\ ∃(lK:Bool),Cx.fn (List.take jU.1.1.length (List.drop 0 jU.1.1),y8.1,())=some lK/\Br (!lK) (P false) (Br (!jU.1.2.1==y8.2.1) (P false) (∃(Tc:Int×ByteArray×List (List Int)×PUnit),qJ.fn ((p.1,p.2.1,p.2.2.1,()),())=some Tc/\ ∃(iK:Bool),qD.fn ((y9.1.1,y9.1.2.1,List.take y9.1.2.2.1.length (List.drop 0 y9.1.2.2.1),()),Tc,())=some iK/\Br (!iK) (P false) (∃(xb:(List Int×PUnit)×PUnit),Mq.fn (a,())=some xb/\ ∃(BG:Bool),Cx.fn (List.take Ls.1.1.length (List.drop 0 Ls.1.1),List.take xb.1.1.length (List.drop 0 xb.1.1),())=some BG/\Br (!BG) (P false) (∃(BH:(List Int×PUnit)×PUnit),Mq.fn (b,())=some BH/\ ∃(y19:Bool),Cx.fn (List.take Ke.1.1.length (List.drop 0 Ke.1.1),List.take BH.1.1.length (List.drop 0 BH.1.1),())=some y19/\Br (!y19) (P false) (0=0/\y9.1.2.2.1.length=y9.1.2.2.1.length/\ ∃(FQ:(Int×PUnit)×List (List Int)×PUnit),Ma.fn (y9.1.1,y9.1.2.1,y9.1.2.2.1,(1:Int),())=some FQ/\(FQ.2.1.length=y9.1.2.2.1.length/\y9.1.2.2.1.length=y9.1.2.2.1.length)/\0=0/\Ls.1.1.length=Ls.1.1.length/\ ∃(xj:(Int×PUnit)×List Int×PUnit),Po.fn (Ls.1.1,FQ.1.1,())=some xj/\(xj.2.1.length=Ls.1.1.length/\Ls.1.1.length=Ls.1.1.length)/\0=0/\Ke.1.1.length=Ke.1.1.length/\ ∃(y22:(Int×PUnit)×List Int×PUnit),Po.fn (Ke.1.1,xj.1.1,())=some y22/\(y22.2.1.length=Ke.1.1.length/\Ke.1.1.length=Ke.1.1.length)/\Br (decide (y22.1.1<(0:Int))) (P false) (∃(y23:Bool),Cx.fn (List.take jU.1.1.length (List.drop 0 jU.1.1),y8.1,())=some y23/\Br (!y23) (P false) (Br (!jU.1.2.1==y8.2.1) (P false) (0=0/\jU.1.1.length=jU.1.1.length/\ ∃(WA:(Int×PUnit)×List Int×PUnit),Po.fn (jU.1.1,(1:Int),())=some WA/\(WA.2.1.length=jU.1.1.length/\jU.1.1.length=jU.1.1.length)/\ ∃(y25:Int),aF.fn (List.take jU.1.1.length (List.drop 0 WA.2.1),(1:Int),())=some y25/\Br (decide (y25<(0:Int))) (P false) (Br (y25 !=WA.1.1) (P false) (∃(y26:jP),Ju.fn (p.1,p.2.1,p.2.2.1,())=some y26/\ ∃(y27:(List Int×PUnit)×PUnit),Mq.fn (a,())=some y27/\ ∃(y28:(List Int×PUnit)×PUnit),Mq.fn (b,())=some y28/\ ∃(y29:(List Int×Bool×PUnit)×PUnit),Rb.fn (y26.1.1,y26.1.2.1,List.take y26.1.2.2.1.length (List.drop 0 y26.1.2.2.1),List.take y27.1.1.length (List.drop 0 y27.1.1),List.take y28.1.1.length (List.drop 0 y28.1.1),())=some y29/\ ∃(y30:Bool),Cx.fn (List.take y29.1.1.length (List.drop 0 y29.1.1),y8.1,())=some y30/\Br (!y30) (P false) (Br (!y29.1.2.1==y8.2.1) (P false) (∃(y31:Int),aF.fn (List.take jU.1.1.length (List.drop 0 WA.2.1),(1:Int),())=some y31/\Br (decide (y31<(0:Int))) (P false) (Br (y31 !=WA.1.1) (P false) (P true))))))))))))))))))=fnW Di (look [(14,qI),(23,Uj),(24,Rb),(16,Wa.b qJ Ju),(17,Wa.b kJ Mq),(19,qD),(20,Cx),(25,Ma),(26,Po),(27,aF)]) jC Try.f5 (p,a,b,()) P:=by kernel_rfl
theorem pa:Sound Try.prog 115 dH:=iw.loose
theorem me {p:PP} (hw:Cg p=true):Jv p.2.2.1 (Af p.2.2.1.length) (Ad p) (λx=>x=(Ad p).getD 0 []) (Gp (Ad p) (Ai p)):=
 vu (valid (Cr hw).1) (aK (Cr hw).1) (EJ hw)
theorem Xc {p:PP} {x:List Int} (hx:x∈Ad p):(Ai p).getD ((Ad p).idxOf x) 0=Gp (Ad p) (Ai p) x:=by unfold Gp;rw [if_pos hx]
theorem fp {p:PP} (hw:Cg p=true):Jv p.2.2.1 (Af p.2.2.1.length) (Ad p) (λx=>x=(Ad p).getD 0 []) (λx=>(Ai p).getD ((Ad p).idxOf x) 0):=by
 have h:=me hw
 have hc:=Ul hw
 exact ⟨λx hx=>by rw [Xc hx];exact h.nn x hx,λx hx=>by rw [Xc hx];exact h.zero x hx,λx hx l hl=>by rw [Xc hx,Xc (hc.next x hx l hl)];exact h.step x hx l hl,
  fun x hx h0=>by
   rw [Xc hx] at h0⊢
   obtain ⟨l,hl,e⟩:=h.down x hx h0
   exact ⟨l,hl,by rw [Xc (hc.next x hx l hl)];exact e⟩⟩
theorem Uv {p:PP} (hw:Cg p=true):(Ai p).length=(Ad p).length:=(aK (Cr hw).1).len
theorem rn {p:PP} (hw:Cg p=true):FU p (Ai p):=LY hw (Uv hw) (fp hw)
theorem KX {α β:Type} (P:α×β->Bool) (xs:List α) (ys:List β) {j:Nat} (h1:j<xs.length) (h2:j<ys.length):((xs.zip ys).take (j+1)).filter P=if P (xs[j],ys[j])=true then ((xs.zip ys).take j).filter P++ [(xs[j],ys[j])] else ((xs.zip ys).take j).filter P:=by
 have hz:j<(xs.zip ys).length:=by rw [List.length_zip];omega
 rw [List.take_add_one,List.getElem?_eq_getElem hz,Option.toList_some,List.filter_append,List.getElem_zip]
 by_cases h:P (xs[j],ys[j])=true
 ·rw [if_pos h,List.filter_cons_of_pos h];rfl
 ·rw [if_neg h,List.filter_cons_of_neg h];simp
theorem IW (e:Option XP) (i:Int) (h: ∃e':XP,e=some e'/\qT e'/\0<=i/\i<(Ad e'.1).length):fnMW Ol (look [(117,Ib)]) Sp Try.f146 (e,i,()) (λ(z:(List Int×List Int×Unit)×Unit)=>z=AO e i):=by
 obtain ⟨e',rfl,hx,h1,h2⟩:=h
 obtain ⟨i0,rfl⟩:=Int.eq_ofNat_of_zero_le h1
 have hi0:i0<(Ad e'.1).length:=by omega
 have hwv:=Cr hx.1
 have hV:=valid hwv.1
 have hf:=hV.ec
 have hdl:=Uv hx.1
 have xR:=GM hx
 obtain ⟨ls,fD⟩: ∃ls,Af e'.1.2.2.1.length=ls:=⟨_,rfl⟩
 have hlf:=kv hV
 obtain ⟨N,hN⟩: ∃N,Jo e'.1 i0=N:=⟨_,rfl⟩
 have hNl:N.length=ls.length:=by rw [<-hN,<-fD,mY]
 have hNr: ∀t∈N,0<=t/\t<(Ai e'.1).length:= λt ht=>by have:=sk hx.1 i0 hi0 t (by rw [hN];exact ht);omega
 show fnMW _ _ Sp _ _ (λz=>z=(((Vj (Af e'.1.2.2.1.length) (Jo e'.1 ((i0:Nat):Int).toNat) (Ai e'.1) (i0:Int)).1,(Vj (Af e'.1.2.2.1.length) (Jo e'.1 ((i0:Nat):Int).toNat) (Ai e'.1) (i0:Int)).2,()),()))
 rw [Int.toNat_natCast,fD,hN]
 rw [fD] at hlf
 refine Eq.mp (KL _ _ _) ⟨e',rfl,ls,(if_pos ⟨by show (0:Int)<=((e'.1.2.2.1.length:Nat):Int);omega,by show ((e'.1.2.2.1.length:Nat):Int)<=8;omega⟩).trans (congrArg some (by show Af (((e'.1.2.2.1.length:Nat):Int)).toNat=_;rw [Int.toNat_natCast];exact fD)),e',rfl,N,by rw [<-hN];exact WI hx hi0,rfl,rfl,rfl,rfl,?_⟩
 refine Aq N.length (λv=>v.1) (λj v=>v.2.1=(((ls.zip N).take j).filter (λq=>decide (Bw (Ai e'.1) q.2<Bw (Ai e'.1) (i0:Int)))).map Prod.fst/\v.2.2.1=(((ls.zip N).take j).filter (λq=>decide (Bw (Ai e'.1) q.2<Bw (Ai e'.1) (i0:Int)))).map Prod.snd/\v.2.1.length<=j/\v.2.2.1.length<=j) rfl ⟨rfl,rfl,Nat.le_refl _,Nat.le_refl _⟩ ?_
 rintro j ⟨jj,a,b,⟨⟩⟩ K hj gh ⟨r1,r2,r3,r4⟩ hK
 dsimp only at gh r1 r2 r3 r4⊢
 subst gh
 refine Br.dec (λhl=>?_) λhl=>?_
 ·have hl:j<N.length:=by omega
  have hjl:j<ls.length:=by omega
  have ht:=hNr _ (List.getElem_mem hl)
  have VV:=KX (λq=>decide (Bw (Ai e'.1) q.2<Bw (Ai e'.1) (i0:Int))) ls N hjl hl
  refine ⟨_,Ax hl,e',rfl,_,by rw [xR];exact Na ht.1 ht.2,e',rfl,_,by rw [xR];exact Na (y:=(i0:Int)) (by omega) (by omega),Br.dec (λhb=>?_) λhb=>?_⟩
  ·rw [if_pos (decide_eq_true hb)] at VV
   refine ⟨_,Ax hjl,rfl,rfl,?_,rfl,rfl,?_,rfl,rfl,rfl,rfl,?_⟩
   ·show a.length+1<=4294967296;omega
   ·show b.length+1<=4294967296;omega
   ·rw [Ap (by omega)]
    refine hK hl _ rfl ⟨?_,?_,?_,?_⟩
    ·show a++ [ls[j]]=_
     rw [VV,List.map_append,r1];rfl
    ·show b++ [N[j]]=_
     rw [VV,List.map_append,r2];rfl
    ·show (a++ [ls[j]]).length<=j+1
     rw [List.length_append,List.length_singleton];omega
    ·show (b++ [N[j]]).length<=j+1
     rw [List.length_append,List.length_singleton];omega
  ·rw [if_neg (by simpa using hb)] at VV
   refine ⟨rfl,rfl,rfl,rfl,?_⟩
   rw [Ap (by omega)]
   refine hK hl _ rfl ⟨?_,?_,by show a.length<=j+1;omega,by show b.length<=j+1;omega⟩
   ·rw [VV];exact r1
   ·rw [VV];exact r2
 ·have:j=N.length:=by omega
  subst this
  rw [List.take_of_length_le (by rw [List.length_zip];omega)] at r1 r2
  rw [Bj,Bj,r1,r2]
  rfl
theorem sR:Bo Try.prog 146 Sp:=
 Bo.ai Nu (Ah Xp At) mixed Try.func146 (by kernel_rfl) (by kernel_rfl) λx h=>IW x.1 x.2.1 h
theorem gH {α:Type} {P:α->Bool} : ∀(l:List α) (k:Nat) (h:k<l.length),P l[k]=true->(∀j (hj:j<k),P (l[j]'(by omega))=false)-> ∃r,l.filter P=l[k]::r
 | [],k,h,_,_=>by simp at h
 |y::r,0,_,h1,_=>⟨_,List.filter_cons_of_pos (show P y=true from h1)⟩
 |y::r,k+1,h,h1,h2=>by
  rw [List.filter_cons_of_neg (by have:=h2 0 (by omega);simp at this;simp [this])]
  exact gH r k (by simpa using h) h1 λj hj=>h2 (j+1) (by omega)
theorem TX (e:Option XP) (i:Int) (h: ∃e':XP,e=some e'/\qT e'/\0<=i/\i<(Ad e'.1).length):fnMW Ol (look [(146,Sp)]) cT Try.f109 (e,i,()) (λ(z:(List Int×Bool×Unit)×Unit)=>z=II e i):=by
 obtain ⟨e',rfl,hx,h1,h2⟩:=h
 have hwv:=Cr hx.1
 have hV:=valid hwv.1
 have hdl:=Uv hx.1
 have xR:=GM hx
 have hd:=rn hx.1
 show fnMW _ _ cT _ _ (λz=>z=(Qv e'.1 i,()))
 unfold Qv Qu
 refine Eq.mp (UT _ _ _) ⟨e',rfl,Bw (Ai e'.1) i,by rw [xR];exact Na h1 (by omega),Br.dec (λhb=>by rw [if_pos hb];rfl) λhb=>⟨rfl,rfl,?_⟩⟩
 rw [if_neg hb]
 have YA: ∀k:Nat,k<(Ai e'.1).length->0<=Bw (Ai e'.1) (k:Int):= λk hk=>by unfold Bw;rw [Int.toNat_natCast];exact hd.nn k hk
 obtain ⟨R,hRR⟩: ∃R,Wd (Jo e'.1) (Af e'.1.2.2.1.length) (Ai e'.1) (Bw (Ai e'.1) i).toNat i []=R:=⟨_,rfl⟩
 rw [hRR]
 obtain ⟨i0,rfl⟩:=Int.eq_ofNat_of_zero_le h1
 refine Cb.mk (λv=> ∃(k:Nat) (w:List Int) (f:Nat),v=((k:Int),w,())/\k<(Ai e'.1).length/\Bw (Ai e'.1) (k:Int)<=f/\w.length+f<=200/\Wd (Jo e'.1) (Af e'.1.2.2.1.length) (Ai e'.1) f (k:Int) w=R) (λv=>(Bw (Ai e'.1) v.1).toNat)
  ⟨i0,[],(Bw (Ai e'.1) (i0:Int)).toNat,rfl,by omega,by omega,by have:=YA i0 (by omega);simp only [List.length_nil];omega,hRR⟩ ?_
 rintro v ⟨k,w,f,rfl,k1,k2,k3,k4⟩
 dsimp only
 refine ⟨e',rfl,Bw (Ai e'.1) (k:Int),by rw [xR];exact Na (by omega) (by omega),Br.dec (λhl=>?_) λhl=>?_⟩
 ·have Hd:0<(Ai e'.1).getD k 0:=by unfold Bw at hl;rwa [Int.toNat_natCast] at hl
  obtain ⟨f,rfl⟩: ∃f',f=f'+1:=⟨f-1,by omega⟩
  obtain ⟨t0,NA,TB⟩:=hd.dn k (by omega) Hd
  have dQ:Bw (Ai e'.1) (k:Int)=(Ai e'.1).getD k 0:=by unfold Bw;rw [Int.toNat_natCast]
  have GS:(Jo e'.1 k).any (λy=>decide (Bw (Ai e'.1) y<Bw (Ai e'.1) (k:Int)))=true:=List.any_eq_true.2 ⟨t0,NA,decide_eq_true (by rw [dQ];exact TB)⟩
  obtain ⟨n,n2,n3,q1,q2⟩:=dB (Jo e'.1 k) 0 GS
  have n3:Eb (λy=>decide (Bw (Ai e'.1) y<Bw (Ai e'.1) (k:Int))) (Jo e'.1 k) 0=(n:Int):=by rw [Nat.zero_add] at n3;exact n3
  have n1:n<(Af e'.1.2.2.1.length).length:=by rw [<-mY e'.1 k];exact n2
  obtain ⟨r1,r2⟩:=sk hx.1 k (by omega) _ (List.getElem_mem n2)
  obtain ⟨t,n4⟩:=Int.eq_ofNat_of_zero_le r1
  have n6:Bw (Ai e'.1) (t:Int)<Bw (Ai e'.1) (k:Int):=by have:=of_decide_eq_true q1;rwa [n4] at this
  simp only [Wd] at k4
  rw [if_pos hl,Int.toNat_natCast,n3,Int.toNat_natCast,Cz n2,n4,Cz n1] at k4
  have hz:n<((Af e'.1.2.2.1.length).zip (Jo e'.1 k)).length:=by rw [List.length_zip];omega
  obtain ⟨rest,Yn⟩:=gH (P:= λq:Int×Int=>decide (Bw (Ai e'.1) q.2<Bw (Ai e'.1) (k:Int))) ((Af e'.1.2.2.1.length).zip (Jo e'.1 k)) n hz (by rw [List.getElem_zip];exact q1) λj hj=>by rw [List.getElem_zip];exact q2 j hj
  rw [List.getElem_zip,n4] at Yn
  have Nz:Sp.fn (some e',(k:Int),())=some (((Af e'.1.2.2.1.length)[n]::rest.map Prod.fst,(t:Int)::rest.map Prod.snd,()),()):=by
   refine (if_pos ⟨e',rfl,hx,by show (0:Int)<=(k:Int);omega,by show (k:Int)<((Ad e'.1).length:Int);omega⟩).trans (congrArg some ?_)
   show (((Vj (Af e'.1.2.2.1.length) (Jo e'.1 ((k:Nat):Int).toNat) (Ai e'.1) (k:Int)).1,(Vj (Af e'.1.2.2.1.length) (Jo e'.1 ((k:Nat):Int).toNat) (Ai e'.1) (k:Int)).2,()),())=_
   rw [Int.toNat_natCast]
   unfold Vj
   rw [Yn]
   rfl
  have h0:=YA t (by omega)
  refine ⟨_,Nz,⟨by omega,by simp only [List.length_cons];omega⟩,(Af e'.1.2.2.1.length)[n],rfl,rfl,rfl,?_,⟨by omega,by simp only [List.length_cons];omega⟩,(t:Int),rfl,rfl,rfl,⟨t,w++ [(Af e'.1.2.2.1.length)[n]],f,rfl,by omega,by omega,by rw [List.length_append,List.length_singleton];omega,k4⟩,?_⟩
  ·show w.length+1<=4294967296;omega
  ·show (Bw (Ai e'.1) (t:Int)).toNat<(Bw (Ai e'.1) (k:Int)).toNat
   omega
 ·rw [Bj]
  have:Wd (Jo e'.1) (Af e'.1.2.2.1.length) (Ai e'.1) f (k:Int) w=(w,(k:Int)):=by
   cases f with
   |zero=>rfl
   |succ f=>simp only [Wd];rw [if_neg (by omega)]
  rw [this] at k4
  subst k4
  rfl
theorem zc:Bo Try.prog 109 cT:=
 Bo.ai Nu (Fg sR At) mixed Try.func109 (by kernel_rfl) (by kernel_rfl) λx h=>TX x.1 x.2.1 h
theorem IS {p:PP} {i:Int} (hw:Cg p=true) (h1:0<=i) (h2:i<(Ad p).length):(Qv p i).1.length<=200:=by
 unfold Qv Qu
 split
 ·simp
 ·rename_i hb
  obtain ⟨i0,rfl⟩:=Int.eq_ofNat_of_zero_le h1
  have hd:=rn hw
  have hg:Bw (Ai p) (i0:Int)=(Ai p).getD i0 0:=by unfold Bw;rw [Int.toNat_natCast]
  have YA:=hd.nn i0 (by rw [Uv hw];omega)
  obtain ⟨_,r2,_⟩:=xI hw hd (fp hw) (see:= λx=>x) (dep:=Gp (Ad p) (Ai p)) (λ_ _ _ _=>rfl) (λx hx=>Xc hx) (Bw (Ai p) (i0:Int)).toNat i0 [] (by omega) (by rw [<-hg];omega)
  rw [r2]
  simp only [List.length_nil]
  omega
theorem dW {p:PP} (hw:Cg p=true) {d:List Int} (hd:FU p d): ∀(f:Nat) (i:Nat) (w:List Int),i<d.length->(∀l∈w,l∈Af p.2.2.1.length)-> ∀l∈(Wd (Jo p) (Af p.2.2.1.length) d f (i:Int) w).1,l∈Af p.2.2.1.length
 |0,i,w,_,h=>h
 |f+1,i,w,hi,h=>by
  simp only [Wd]
  split
  ·rename_i hl
   have Hd:0<d.getD i 0:=by unfold Bw at hl;rwa [Int.toNat_natCast] at hl
   obtain ⟨n,n1,n2,n3,t,n4,n5,n6⟩:=MA hw hd hi Hd
   rw [Int.toNat_natCast,n3,Int.toNat_natCast,Cz n2,n4,Cz n1]
   refine dW hw hd f t _ n5 λl zY=>?_
   rcases List.mem_append.1 zY with h2|h2
   ·exact h l h2
   ·rw [List.mem_singleton.1 h2];exact List.getElem_mem n1
  ·exact h
theorem sl {p:PP} {i:Int} (hw:Cg p=true) (h1:0<=i) (h2:i<(Ad p).length): ∀l∈(Qv p i).1,Fa (List.length p.2.2.1) l:=by
 unfold Qv Qu
 split
 ·intro l hl;cases hl
 ·obtain ⟨i0,rfl⟩:=Int.eq_ofNat_of_zero_le h1
  intro l hl
  exact He (dW hw (rn hw) _ i0 [] (by rw [Uv hw];omega) (λl hl=>by cases hl) l hl)
theorem AZ {p:PP} {t:List Int} (hs:Bl p t=true) {l:Int} (hl:Fa (List.length (Au p t).2.2.1) l):
  (l>0->0<=l-1/\l-1<t.length/\0<=Bw t (l-1)/\Bw t (l-1)<8)/\(¬l>0->0<= -l-1/\ -l-1<t.length/\0<=Bw t (-l-1)/\Bw t (-l-1)<8):=by
 have Lc:=Vt hs
 have hlen:List.length (Au p t).2.2.1=t.length:=List.length_map _
 rw [hlen] at hl
 have h8:=Lc.g8
 have key: ∀k:Int,0<=k->k<t.length->0<=Bw t k/\Bw t k<8:= λk k1 k2=>by
  obtain ⟨kn,rfl⟩:=Int.eq_ofNat_of_zero_le k1
  have hk:kn<t.length:=by omega
  obtain ⟨j,e,hj⟩:=Lc.Oq hk
  have:Bw t (kn:Int)=(j:Int):=by unfold Bw;rw [Int.toNat_natCast,Cz hk,e]
  rw [this];omega
 obtain ⟨l1,l2,l3⟩:=hl
 exact ⟨λh=>⟨by omega,by omega,key _ (by omega) (by omega)⟩,λh=>⟨by omega,by omega,key _ (by omega) (by omega)⟩⟩
theorem iG {f:Int->Int} {w ys:List Int} {j:Nat} (hj:j<w.length) (hl:ys.length=w.length) (h1:ys.take j=(w.take j).map f) (h2:ys.drop j=w.drop j):
  (ys.set j (f w[j])).take (j+1)=(w.take (j+1)).map f/\(ys.set j (f w[j])).drop (j+1)=w.drop (j+1)/\ys.getD j 0=w[j]:=by
 have hjy:j<ys.length:=by omega
 refine ⟨?_,?_,?_⟩
 ·rw [List.take_add_one,List.take_set_of_le (by omega),h1,List.getElem?_set_self hjy,List.take_add_one,List.getElem?_eq_getElem hj,List.map_append]
  rfl
 ·rw [List.drop_set_of_lt (by omega)]
  have:=congrArg (List.drop 1) h2
  rwa [List.drop_drop,List.drop_drop] at this
 ·have:=congrArg (λz=>z[0]?) h2
  simp only [List.getElem?_drop,Nat.add_zero] at this
  rw [List.getElem?_eq_getElem hjy,List.getElem?_eq_getElem hj] at this
  rw [Cz hjy]
  exact Option.some.inj this
theorem NS (h:Option HP) (i:Int) (hh: ∃p t,Mn p t=true/\h=some (Jj p t)/\0<=i/\i<(Ad p).length):fnMW Ol (look [(98,Xm),(109,cT)]) aG Try.f61 (h,i,()) (λ(z:(List Int×Bool×Unit)×Unit)=>z=vD h i):=by
 obtain ⟨p,t,hw,rfl,h1,h2⟩:=hh
 obtain ⟨k,rfl⟩:=Int.eq_ofNat_of_zero_le h1
 have hk:k<(Ad p).length:=by omega
 obtain ⟨CG,hm⟩:=Ln.1 hw
 have Ss:=(lv CG).1
 have xg:=Um CG hm
 obtain ⟨s,hs⟩: ∃s,(Ad p)[k]=s:=⟨_,rfl⟩
 have hfd:Xm.fn (some (Hy (Au p t)),s,())=some (Pe (Au p t) s):=if_pos ⟨⟨Hy (Au p t),rfl,xg,rfl⟩,by rw [<-hs];exact JG (wD (Cr CG).1 (List.getElem_mem hk))⟩
 show fnMW _ _ aG _ _ (λz=>z=(Pf p t ((Ad p).getD ((k:Nat):Int).toNat []),()))
 rw [Int.toNat_natCast,Cz hk,hs]
 unfold Pf
 refine Eq.mp (OS _ _ _) ⟨Jj p t,rfl,Jj p t,rfl,Hy p,rfl,s,by rw [Ss,<-hs];exact Ax hk,_,hfd,?_⟩
 rw [QQ]
 refine Br.of (λhb=>?_) λhb=>?_
 ·have hn:s∉Ad (Au p t):=by simpa using hb
  rw [if_neg hn];rfl
 have Oz:s∈Ad (Au p t):=by simpa using hb
 rw [if_pos Oz]
 obtain ⟨i1,i2,_⟩:=QP Oz
 have od:cT.fn (some (Hy (Au p t)),(Pe (Au p t) s).1,())=some (Qv (Au p t) (Pe (Au p t) s).1,()):=if_pos ⟨Hy (Au p t),rfl,⟨xg,rfl⟩,i1,i2⟩
 have Yk:=IS xg i1 i2
 have Gz:=sl xg i1 i2
 have Ael:=(Vt hm).ec
 have Aem:=(Vt hm).g8
 refine ⟨Jj p t,rfl,_,od,?_⟩
 generalize hO:Qv (Au p t) (Pe (Au p t) s).1=O at*
 obtain ⟨w,ok,⟨⟩⟩:=O
 dsimp only at Yk Gz⊢
 cases ok with
 |false=>
  refine ⟨λ_=>?_,λhb=>by simp at hb⟩
  have:w= []:=by
   unfold Qv Qu at hO
   split at hO
   ·simp only [Prod.mk.injEq] at hO;exact hO.1.symm
   ·simp only [Prod.mk.injEq] at hO;exact absurd hO.2.1 (by simp)
  subst this
  rfl
 |true=>
  refine ⟨λhb=>by simp at hb,λ_=>⟨rfl,rfl,rfl,rfl,?_⟩⟩
  refine Aq w.length (λv=>v.1) (λj v=>v.2.1.length=w.length/\v.2.1.take j=(w.take j).map (Sy t)/\v.2.1.drop j=w.drop j) rfl ⟨rfl,rfl,rfl⟩ ?_
  rintro j ⟨jj,ys,⟨⟩⟩ K hj gh ⟨g1,g2,g3⟩ hK
  dsimp only at gh g1 g2 g3⊢
  subst gh
  refine Br.dec (λhl=>?_) λhl=>?_
  ·have hl:j<w.length:=by omega
   obtain ⟨e1,e2,e3⟩:=iG (f:=Sy t) hl g1 g2 g3
   obtain ⟨b1,b2⟩:=AZ hm (Gz _ (List.getElem_mem hl))
   refine ⟨⟨by omega,by omega⟩,w[j],by rw [WK (by omega),e3],Br.dec (λhp=>?_) λhp=>?_⟩
   ·obtain ⟨c1,c2,c3,c4⟩:=b1 hp
    have LL:Sy t w[j]=Bw t (w[j]-1)+1:=if_pos hp
    refine ⟨Jj p t,rfl,Bw t (w[j]-1),by rw [Bk (n:=w[j]-1) (by omega) (by omega)];exact Na c1 c2,⟨by omega,by omega⟩,by rw [Int.toNat_natCast];omega,rfl,by rw [List.length_set],rfl,by rw [List.length_set],?_⟩
    rw [Ap (by omega),Int.toNat_natCast,Nat.zero_add,Bk (n:=Bw t (w[j]-1)+1) (by omega) (by omega),<-LL]
    exact hK hl _ rfl ⟨by rw [List.length_set];exact g1,e1,e2⟩
   ·obtain ⟨c1,c2,c3,c4⟩:=b2 hp
    have LL:Sy t w[j]= -(Bw t (-w[j]-1)+1):=if_neg hp
    have e5:IntKind.i64.wrap (IntKind.i64.wrap (0-w[j])-1)= -w[j]-1:=by rw [Bk (n:=0-w[j]) (by omega) (by omega),Bk (by omega) (by omega)];omega
    have e6:IntKind.i64.wrap (0-IntKind.i64.wrap (Bw t (-w[j]-1)+1))=Sy t w[j]:=by rw [Bk (n:=Bw t (-w[j]-1)+1) (by omega) (by omega),Bk (by omega) (by omega),LL];omega
    refine ⟨Jj p t,rfl,Bw t (-w[j]-1),by rw [e5];exact Na c1 c2,⟨by omega,by omega⟩,by rw [Int.toNat_natCast];omega,rfl,by rw [List.length_set],rfl,by rw [List.length_set],?_⟩
    rw [Ap (by omega),Int.toNat_natCast,Nat.zero_add,e6]
    exact hK hl _ rfl ⟨by rw [List.length_set];exact g1,e1,e2⟩
  ·have:j=w.length:=by omega
   subst this
   rw [Bj]
   rw [<-g1,List.take_length,g1,List.take_length] at g2
   rw [g2]
theorem wA:Bo Try.prog 61 aG:=
 Bo.ai Nu (Ah nF (Fg zc At)) mixed Try.func61 (by kernel_rfl) (by kernel_rfl) λx h=>NS x.1 x.2.1 h
theorem DG (n:Int) (str:ByteArray) (g:List (List Int)) (t s:List Int) (h:Cj (n,str,g,())/\short t/\short s):
  fnMW Ol (look [(55,Lp),(61,aG)]) Rb Try.f24 (n,str,g,t,s,()) (λ(z:(List Int×Bool×Unit)×Unit)=>z=(((Fz (n,str,g,()) t s).1,(Fz (n,str,g,()) t s).2.1,()),())):=by
 obtain ⟨p,QD⟩: ∃p:PP,p=(n,str,g,()):=⟨_,rfl⟩
 refine Eq.mp (EZ n str g t s _) ?_
 rw [<-QD] at h⊢
 unfold Fz
 by_cases hw:Mn p t=true
 ·have he:Lp.fn (p,t,s,())=some (some (Jj p t),(Pe p s).1,(Pe p s).2.1,()):=(if_pos h).trans (congrArg some (if_pos hw))
  rw [hw,Bool.true_and]
  refine ⟨_,he,?_⟩
  dsimp only
  rw [QQ]
  refine Br.of (λhb=>?_) λhb=>?_
  ·rw [if_neg (Cy hb)];rfl
  have Oz:s∈Ad p:=by simpa using hb
  obtain ⟨i1,i2,i3⟩:=QP Oz
  rw [if_pos (decide_eq_true Oz)]
  refine ⟨_,if_pos ⟨p,t,hw,rfl,i1,i2⟩,?_⟩
  show ((List.take (Pf p t ((Ad p).getD (Pe p s).1.toNat [])).1.length (List.drop 0 (Pf p t ((Ad p).getD (Pe p s).1.toNat [])).1),(Pf p t ((Ad p).getD (Pe p s).1.toNat [])).2.1,()),())=_
  rw [i3,Bj]
 ·have he:Lp.fn (p,t,s,())=some (none,0,false,()):=(if_pos h).trans (congrArg some (if_neg hw))
  rw [Bool.not_eq_true _|>.mp hw,Bool.false_and,if_neg (by decide)]
  exact ⟨_,he,λ_=>rfl,λhb=>by simp at hb⟩
theorem pf:Bo Try.prog 24 Rb:=
 Bo.ai Nu (Ah nJ (Fg wA At)) mixed Try.func24 (by kernel_rfl) (by kernel_rfl) λx h=>DG x.1 x.2.1 x.2.2.1 x.2.2.2.1 x.2.2.2.2.1 h
theorem w8 (n:Int) (str:ByteArray) (g:List (List Int)) (t:List Int) (h:Cj (n,str,g,())/\Bl (n,str,g,()) t=true):
  fnMW Ol (look [(123,Fo)]) Io Try.f102 (n,str,g,t,()) (λ(z:(Int×ByteArray×List (List Int)×Unit)×Unit)=>z=(((Au (n,str,g,()) t).1,(Au (n,str,g,()) t).2.1,(Au (n,str,g,()) t).2.2.1,()),())):=by
 obtain ⟨hp,Lc⟩:=h
 have hs:=Vt Lc
 have YT:=hs.size
 dsimp only at YT
 refine Eq.mp (wZ n str g t _) ⟨rfl,rfl,rfl,rfl,?_⟩
 refine Aq t.length (λv=>v.1) (λj v=>v=((j:Int),n,str,g,0,ByteArray.empty,n,Np str (t.take j),[],(t.take j).map λk=>g.getD k.toNat [],())) rfl rfl ?_
 rintro j v K hj hi hR hK
 subst hR
 dsimp only
 have hlen:=hs.ec
 have hg8:=hs.g8
 dsimp only at hlen hg8
 refine Br.dec (λhl=>?_) λhl=>?_
 ·have hl:j<t.length:=by omega
  obtain ⟨kn,hk,iN⟩:=hs.Oq hl
  dsimp only at iN
  have hkb:kn<str.size:=by omega
  have hw:IntKind.i64.wrap ((kn:Int)+1)=(kn:Int)+1:=Bk (by omega) (by omega)
  have On:=Zg (b:=str) (t.take j) λk er=>hs.TI k (List.mem_of_mem_take er)
  have hex:(str.extract kn (kn+1)).size=1:=by rw [ByteArray.size_extract];omega
  have AG:short g[kn]:=hp.2.2 _ (List.getElem_mem iN)
  have XL:idx g (kn:Int)=some g[kn]:=Ax iN
  have Nz:Fo.fn (g[kn],())=some ((g[kn],()),()):=if_pos AG
  have XT:((t.take j).map λk=>g.getD k.toNat []).length+(List.take 1 (List.drop 0 [List.take (g[kn]).length (List.drop 0 g[kn])])).length<=4294967296:=by
   show ((t.take j).map _).length+1<=4294967296
   rw [List.length_map];have:=List.length_take_le j t;omega
  refine ⟨_,Ax hl,?_⟩
  rw [hk,hw]
  refine ⟨⟨by omega,by omega,by omega⟩,by rw [show ((kn:Int)+1).toNat=kn+1 by omega,Int.toNat_natCast,hex,On];have:=List.length_take_le j t;omega,_,XL,_,Nz,rfl,rfl,XT,⟨rfl,rfl,rfl,rfl,?_⟩,?_⟩
  ·rw [Ap (by omega),show ((kn:Int)+1).toNat=kn+1 by omega,Int.toNat_natCast]
   refine hK hl _ rfl ?_
   rw [jO _ hl,map_take _ hl,hk,Int.toNat_natCast,show ((kn:Int)+1).toNat=kn+1 by omega,Cz iN,Bj]
   rfl
  ·repeat' (first|exact ⟨rfl,rfl⟩|exact rfl|exact XT|refine ⟨_,XL,?_⟩|refine ⟨_,Nz,?_⟩|refine ⟨?_,?_⟩)
 ·have:j=t.length:=by omega
  subst this
  rw [List.take_length,Bj]
  rfl
theorem lk:Bo Try.prog 102 Io:=
 Bo.ai Nu (Fg lb At) mixed Try.func102 (by kernel_rfl) (by kernel_rfl) λx h=>w8 x.1 x.2.1 x.2.2.1 x.2.2.2.1 h
theorem iU {p:PP} (hw:Cg p=true) {x:List Int} (hx:x∈Ad p):0<=Gp (Ad p) (Ai p) x/\Gp (Ad p) (Ai p) x<=3000:=by
 have cf:=aK (Cr hw).1
 have uR:=cf.ok.ec
 refine ⟨(me hw).nn x hx,?_⟩
 obtain ⟨i,hi,rfl⟩:=List.mem_iff_getElem.1 hx
 have hiD:i<(Ai p).length:=by rw [cf.len];exact hi
 have h1:=cf.dep i hiD
 have h2:Gp (Ad p) (Ai p) ((Ad p)[i])=(Ai p).getD i 0:=by
  rw [<-Cz (d:= []) hi];exact fo cf.ok.nodup hi
 rw [h2,Cz hiD]
 omega
theorem TT (n0:Int) (str:ByteArray) (g L:List (List Int)) (D Gv:List Int) (b:Bool) (s:List Int) (h:Cg (n0,str,g,())=true/\(L,D,Gv,b,())=Bg g (upto n0.toNat)/\s∈Ad (n0,str,g,())):
  fnMW Ol (look [(96,Im),(114,Of),(115,dH)]) aE Try.f108 (n0,str,g,L,D,Gv,b,s,()) (λ(z:(List Int×Unit)×Unit)=>z=((Vk (n0,str,g,()) s,()),())):=by
 obtain ⟨hw,YQ,hs⟩:=h
 obtain ⟨p,QD⟩: ∃p:PP,(n0,str,g,())=p:=⟨_,rfl⟩
 have e1:n0=p.1:=by rw [<-QD]
 have e2:str=p.2.1:=by rw [<-QD]
 have e3:g=p.2.2.1:=by rw [<-QD]
 rw [QD] at hw hs
 have hL:L=(Bg p.2.2.1 (upto p.1.toNat)).1:=by rw [<-e3,<-e1,<-YQ]
 have hD:D=(Bg p.2.2.1 (upto p.1.toNat)).2.1:=by rw [<-e3,<-e1,<-YQ]
 have hS:Gv=(Bg p.2.2.1 (upto p.1.toNat)).2.2.1:=by rw [<-e3,<-e1,<-YQ]
 have hB:b=(Bg p.2.2.1 (upto p.1.toNat)).2.2.2.1:=by rw [<-e3,<-e1,<-YQ]
 refine Eq.mp (UP n0 str g L D Gv b s _) ?_
 rw [QD,e1,e2,e3,hL,hD,hS,hB]
 clear YQ hL hD hS hB QD e1 e2 e3
 have hv:=(Cr hw).1
 have hV:=valid hv
 have hn:=hV.n
 have cf:=aK hv
 have uR:=cf.ok.ec
 have hc:=Ul hw
 have hd:=me hw
 obtain ⟨ls,fD⟩: ∃ls,Af p.2.2.1.length=ls:=⟨_,rfl⟩
 have jc: ∀l∈ls,Fa (List.length p.2.2.1) l:= λl hl=>He (fD▸hl)
 have FL: ∀x,Gp (Ad p) (Ai p) x=Gp (Ad p) (Ai p) x:= λx=>rfl
 rw [fD] at hc hd
 have hdo: ∀x:List Int,x.length=p.1.toNat->Of.fn (((Bg p.2.2.1 (upto p.1.toNat)).1,(Bg p.2.2.1 (upto p.1.toNat)).2.1,(Bg p.2.2.1 (upto p.1.toNat)).2.2.1,(Bg p.2.2.1 (upto p.1.toNat)).2.2.2.1,()),x,())=some (Gp (Ad p) (Ai p) x):= λx hx=>
  if_pos ⟨by show Ct x.length (Ad p) (Sq (Ad p));rw [hx];exact cf.ok,cf.len⟩
 have hlf:=kv hV
 rw [fD] at hlf
 have LL:=(wD hv hs).1
 have hd0:0<=Gp (Ad p) (Ai p) s/\Gp (Ad p) (Ai p) s<=3000:=iU hw hs
 unfold Vk
 rw [fD]
 refine ⟨ls,(if_pos hV.ec.2).trans (congrArg some fD),_,hdo _ LL,rfl,rfl,?_⟩
 obtain ⟨R,hR⟩: ∃R,jM p.2.2.1 (Gp (Ad p) (Ai p)) ls (Gp (Ad p) (Ai p) s).toNat s []=R:=⟨_,rfl⟩
 rw [hR]
 obtain ⟨n0,VN⟩:=Int.eq_ofNat_of_zero_le hd0.1
 rw [VN] at hR hd0⊢
 rw [Int.toNat_natCast] at hR
 refine Cb.mk (λv=> ∃(x:List Int) (n:Nat) (w:List Int),v=(x,(n:Int),p.1,p.2.1,p.2.2.1,(Bg p.2.2.1 (upto p.1.toNat)).1,(Bg p.2.2.1 (upto p.1.toNat)).2.1,(Bg p.2.2.1 (upto p.1.toNat)).2.2.1,(Bg p.2.2.1 (upto p.1.toNat)).2.2.2.1,w,())/\x∈Ad p/\Gp (Ad p) (Ai p) x=n/\w.length+n<=3000/\jM p.2.2.1 (Gp (Ad p) (Ai p)) ls n x w=R) (λv=>v.2.1.toNat)
  ⟨s,n0,[],rfl,hs,VN,by simp only [List.length_nil];omega,hR⟩ ?_
 rintro v ⟨x,n,w,rfl,g1,g2,g3,g4⟩
 dsimp only
 refine Br.dec (λhl=>⟨rfl,rfl,?_⟩) λhl=>?_
 ·obtain ⟨n,rfl⟩: ∃n',n=n'+1:=⟨n-1,by omega⟩
  simp only [jM] at g4
  have ND:x.length=p.1.toNat:=(wD hv g1).1
  have LN: ∀y∈x,0<=y/\y<p.1:=cf.row x g1
  have hwr:IntKind.i64.wrap (((n+1:Nat):Int)-1)=(n:Int):=by rw [Bk (by omega) (by omega)];omega
  rw [hwr]
  refine Aq ls.length (λv=>v.2.1) (λi v=>v=(x,(i:Int),p.1,p.2.1,p.2.2.1,(Bg p.2.2.1 (upto p.1.toNat)).1,(Bg p.2.2.1 (upto p.1.toNat)).2.1,(Bg p.2.2.1 (upto p.1.toNat)).2.2.1,(Bg p.2.2.1 (upto p.1.toNat)).2.2.2.1,w,())/\
   (ls.drop i).find? (λl=>decide (Gp (Ad p) (Ai p) (Aa x (Ag p.2.2.1 l))=n))=ls.find? (λl=>decide (Gp (Ad p) (Ai p) (Aa x (Ag p.2.2.1 l))=n))) rfl ⟨rfl,by rw [List.drop_zero]⟩ ?_
  rintro i v K hi hii ⟨rfl,hf⟩ hK
  dsimp only
  refine Br.dec (λLD=>?_) λLD=>?_
  ·have LD:i<ls.length:=by omega
   have xV:=List.getElem_mem LD
   have xU:=jc _ xV
   obtain ⟨nl,nr⟩:=lG hV LN xU
   have hnx:=hc.next x g1 _ xV
   rw [List.drop_eq_getElem_cons LD] at hf
   refine ⟨_,Ax LD,_,if_pos ⟨hv,by show x.length<=20;omega,LN,xU⟩,_,hdo _ (by rw [<-ND];exact nl),Br.of (λhb=>?_) λhb=>?_⟩
   ·have hb:Gp (Ad p) (Ai p) (Aa x (Ag p.2.2.1 ls[i]))=n:=by simpa using hb
    rw [List.find?_cons_of_pos (by simpa using hb)] at hf
    rw [<-hf] at g4
    refine ⟨_,Ax LD,rfl,rfl,?_,rfl,rfl,⟨_,n,w++ [ls[i]],rfl,hnx,hb,by rw [List.length_append,List.length_singleton];omega,g4⟩,?_⟩
    ·show w.length+1<=4294967296;omega
    ·show ((n:Int)).toNat<(((n+1:Nat):Int)).toNat
     omega
   ·have hb: ¬Gp (Ad p) (Ai p) (Aa x (Ag p.2.2.1 ls[i]))=n:=by simpa using hb
    rw [List.find?_cons_of_neg (by simpa using hb)] at hf
    refine ⟨rfl,rfl,?_⟩
    rw [Ap (by omega)]
    exact hK LD _ rfl ⟨rfl,hf⟩
  ·have:i=ls.length:=by omega
   subst this
   rw [List.drop_length,List.find?_nil] at hf
   obtain ⟨l,xV,hle⟩:=hd.down x g1 (by rw [FL,g2];omega)
   have:=List.find?_eq_none.1 hf.symm l xV
   rw [FL,FL,g2] at hle
   exact absurd (decide_eq_true (by rw [hle];omega)) this
 ·rw [Bj]
  have:n=0:=by omega
  subst this
  rw [<-g4]
  rfl
theorem za:Bo Try.prog 108 aE:=
 Bo.ai Nu (Ah bo (Ah pc (Ah pa At))) mixed Try.func108 (by kernel_rfl) (by kernel_rfl) λx h=>TT x.1 x.2.1 x.2.2.1 x.2.2.2.1 x.2.2.2.2.1 x.2.2.2.2.2.1 x.2.2.2.2.2.2.1 x.2.2.2.2.2.2.2.1 h
theorem fW {g:List (List Int)} {dep:List Int->Int} {ls:List Int} : ∀(n:Nat) (x w:List Int),(∀l∈w,l∈ls)-> ∀l∈(jM g dep ls n x w).1,l∈ls
 |0,x,w,h=>h
 |n+1,x,w,h=>by
  simp only [jM]
  split
  ·rename_i l hf
   refine fW n _ _ λl' hl=>?_
   rcases List.mem_append.1 hl with h2|h2
   ·exact h l' h2
   ·rw [List.mem_singleton.1 h2];exact List.mem_of_find?_eq_some hf
  ·exact fW n x w h
theorem zi {g:List (List Int)} {dep:List Int->Int} {ls:List Int} : ∀(n:Nat) (x w:List Int),(jM g dep ls n x w).1.length<=w.length+n
 |0,x,w=>Nat.le_refl _
 |n+1,x,w=>by
  simp only [jM]
  split
  ·rename_i l hf
   have:=zi (g:=g) (dep:=dep) (ls:=ls) n (Aa x (Ag g l)) (w++ [l])
   rw [List.length_append,List.length_singleton] at this
   omega
  ·have:=zi (g:=g) (dep:=dep) (ls:=ls) n x w
   omega
theorem uv {p:PP} (hw:Cg p=true) {s:List Int} (hs:s∈Ad p):(Vk p s).length<=3000:=by
 have h1:=zi (g:=p.2.2.1) (dep:=Gp (Ad p) (Ai p)) (ls:=Af p.2.2.1.length) (Gp (Ad p) (Ai p) s).toNat s []
 have h2:=iU hw hs
 unfold Vk
 simp only [List.length_nil] at h1
 omega
theorem dup3 {A:Prop} (h:A):(A/\A)/\A:=⟨⟨h,h⟩,h⟩
theorem JB (p:PP) (t:List Int) (f:SS) (s:List Int) (h:Cj p/\Mn p t=true/\f=Bg (Au p t).2.2.1 (upto p.1.toNat)/\s∈Ad (Au p t)):fnW Di (look [(102,Io),(108,aE)]) Za Try.f60 (p,t,f,s,()) (λ(z:List Int)=>z=Sj p t s):=by
 obtain ⟨hp,hw,rfl,hs⟩:=h
 obtain ⟨CG,hm⟩:=Ln.1 hw
 have xg:=Um CG hm
 have Ael:=(Vt hm).ec
 have Aem:=(Vt hm).g8
 refine Eq.mp (KR p t _ s _) (dup3 ?_)
 have Yk:=uv xg hs
 have Gz: ∀l∈Vk (Au p t) s,Fa (List.length (Au p t).2.2.1) l:= λl hl=>He (fW _ _ _ (λl hl=>by cases hl) l hl)
 have hds:aE.fn ((Au p t).1,(Au p t).2.1,(Au p t).2.2.1,(Bg (Au p t).2.2.1 (upto p.1.toNat)).1,(Bg (Au p t).2.2.1 (upto p.1.toNat)).2.1,(Bg (Au p t).2.2.1 (upto p.1.toNat)).2.2.1,(Bg (Au p t).2.2.1 (upto p.1.toNat)).2.2.2.1,s,())=some ((Vk (Au p t) s,()),()):=if_pos ⟨xg,rfl,hs⟩
 refine ⟨(((Au p t).1,(Au p t).2.1,(Au p t).2.2.1,()),()),if_pos ⟨hp,hm⟩,((Vk (Au p t) s,()),()),?_,rfl,rfl,?_⟩
 ·dsimp only
  rw [Bj]
  exact hds
 unfold Sj
 generalize Vk (Au p t) s=w at*
 dsimp only
 refine Aq w.length (λv=>v.1) (λj v=>v.2.1.length=w.length/\v.2.1.take j=(w.take j).map (Sy t)/\v.2.1.drop j=w.drop j) rfl ⟨rfl,rfl,rfl⟩ ?_
 rintro j ⟨jj,ys,⟨⟩⟩ K hj gh ⟨g1,g2,g3⟩ hK
 dsimp only at gh g1 g2 g3⊢
 subst gh
 refine Br.dec (λhl=>?_) λhl=>?_
 ·have hl:j<w.length:=by omega
  obtain ⟨e1,e2,e3⟩:=iG (f:=Sy t) hl g1 g2 g3
  obtain ⟨b1,b2⟩:=AZ hm (Gz _ (List.getElem_mem hl))
  have Ae:ys[0+((j:Nat):Int).toNat]?=some w[j]:=by rw [WK (by omega),e3]
  refine ⟨⟨by omega,by omega⟩,w[j],Ae,Br.dec (λhp=>?_) λhp=>?_⟩
  ·obtain ⟨c1,c2,c3,c4⟩:=b1 hp
   have LL:Sy t w[j]=Bw t (w[j]-1)+1:=if_pos hp
   refine ⟨⟨by omega,by omega⟩,w[j],Ae,Bw t (w[j]-1),by rw [Bk (n:=w[j]-1) (by omega) (by omega)];exact Na c1 c2,⟨by omega,by omega⟩,by rw [Int.toNat_natCast];omega,rfl,by rw [List.length_set],?_⟩
   rw [Ap (by omega),Int.toNat_natCast,Nat.zero_add,Bk (n:=Bw t (w[j]-1)+1) (by omega) (by omega),<-LL]
   exact hK hl _ rfl ⟨by rw [List.length_set];exact g1,e1,e2⟩
  ·obtain ⟨c1,c2,c3,c4⟩:=b2 hp
   have LL:Sy t w[j]= -(Bw t (-w[j]-1)+1):=if_neg hp
   have e5:IntKind.i64.wrap (IntKind.i64.wrap (0-w[j])-1)= -w[j]-1:=by rw [Bk (n:=0-w[j]) (by omega) (by omega),Bk (by omega) (by omega)];omega
   have e6:IntKind.i64.wrap (IntKind.i64.wrap (0-Bw t (-w[j]-1))-1)=Sy t w[j]:=by rw [Bk (n:=0-Bw t (-w[j]-1)) (by omega) (by omega),Bk (by omega) (by omega),LL];omega
   refine ⟨⟨by omega,by omega⟩,w[j],Ae,Bw t (-w[j]-1),by rw [e5];exact Na c1 c2,⟨by omega,by omega⟩,by rw [Int.toNat_natCast];omega,rfl,by rw [List.length_set],?_⟩
   rw [Ap (by omega),Int.toNat_natCast,Nat.zero_add,e6]
   exact hK hl _ rfl ⟨by rw [List.length_set];exact g1,e1,e2⟩
 ·have:j=w.length:=by omega
  subst this
  rw [Bj]
  rw [<-g1,List.take_length,g1,List.take_length] at g2
  rw [g2]
theorem sW:Sound Try.prog 60 Za:=
 Sound.Dp Cf (Fg lk (Fg za At)) mixed Try.func60 (by kernel_rfl) (by kernel_rfl) λx h=>JB x.1 x.2.1 x.2.2.1 x.2.2.2.1 h
theorem KJ {p:PP} {t s:List Int} (CG:Cg p=true) (hm:Bl p t=true) (Oz:s∈Ad (Au p t)):Pf p t s=qf (Sj p t s):=by
 have xg:=Um CG hm
 have hi:=List.idxOf_lt_length_of_mem Oz
 have hb:=iU xg Oz
 have VJ:(Pe (Au p t) s).1=(((Ad (Au p t)).idxOf s:Nat):Int):=by unfold Pe;rw [if_pos Oz]
 have hg:Bw (Ai (Au p t)) (Pe (Au p t) s).1=Gp (Ad (Au p t)) (Ai (Au p t)) s:=by
  rw [VJ];unfold Bw;rw [Int.toNat_natCast];exact Xc Oz
 have hsi:(Ad (Au p t)).getD ((Ad (Au p t)).idxOf s) []=s:=by rw [Cz hi];exact List.getElem_idxOf hi
 obtain ⟨r1,r2,_⟩:=xI xg (rn xg) (fp xg) (see:= λx=>x) (dep:=Gp (Ad (Au p t)) (Ai (Au p t))) (λ_ _ _ _=>rfl) (λx hx=>Xc hx)
  (Gp (Ad (Au p t)) (Ai (Au p t)) s).toNat ((Ad (Au p t)).idxOf s) [] hi (by rw [Xc Oz];omega)
 rw [hsi] at r1
 have r1:_=Vk (Au p t) s:=r1
 rw [r1] at r2
 simp only [List.length_nil,Nat.zero_add] at r2
 unfold Pf Qv Qu qf Sj
 rw [if_pos Oz,hg,List.length_map]
 by_cases h:Gp (Ad (Au p t)) (Ai (Au p t)) s>200
 ·rw [if_pos h,if_pos (by omega)];rfl
 ·rw [if_neg h,if_neg (by omega)]
  dsimp only
  rw [VJ,r1]
theorem DO (p:PP) (t s:List Int) (h:Cj p/\short t/\short s):fnW Di (look [(52,cR),(53,Uf),(54,Hr),(60,Za),(59,qE)]) Uj Try.f23 (p,t,s,()) (λ(z:List Int×Bool×Unit)=>z=Fz p t s):=by
 obtain ⟨hp,ht,hs⟩:=h
 unfold Fz
 by_cases hw:Mn p t=true
 ·have he:cR.fn ((p.1,p.2.1,p.2.2.1,()),t,())=some (Bg p.2.2.1 (upto p.1.toNat),Bg (Au p t).2.2.1 (upto p.1.toNat),true,()):=(if_pos ⟨hp,ht⟩).trans (congrArg some (if_pos hw))
  obtain ⟨CG,hm⟩:=Ln.1 hw
  have hv:=(Cr CG).1
  have xg:=Um CG hm
  rw [hw,Bool.true_and]
  refine Eq.mp (qR p t s _) ⟨_,he,λhb=>by simp at hb,λ_=>⟨_,if_pos ⟨hp,hs,hv,rfl⟩,Br.of (λOz=>?_) λOz=>?_⟩⟩
  ·rw [if_neg (Cy Oz)];rfl
  have Oz:s∈Ad p:=by simpa using Oz
  have hl:=(wD hv Oz).1
  rw [if_pos (decide_eq_true Oz)]
  refine ⟨Wn (Ad (Au p t)) s,if_pos (by show Ct s.length (Ad (Au p t)) (Sq (Ad (Au p t)));rw [hl];exact (aK (nT hm)).ok),?_⟩
  unfold Wn
  by_cases h2:s∈Ad (Au p t)
  ·rw [if_pos h2]
   refine Br.dec (λhn=>absurd hn (by omega)) λ_=>⟨_,if_pos ⟨hp,hw,rfl,h2⟩,_,if_pos ?_,?_⟩
   ·show (Sj p t s).length<=4294967296
    unfold Sj
    rw [List.length_map]
    have:=uv xg h2
    omega
   ·rw [KJ CG hm h2]
  ·rw [if_neg h2]
   have:Pf p t s=([],false,()):=if_neg h2
   rw [this]
   exact Br.dec (λ_=>rfl) λhn=>absurd (show (-1:Int)<0 by omega) hn
 ·have he:cR.fn ((p.1,p.2.1,p.2.2.1,()),t,())=some ((Ga p).1,(Ga p).1,false,()):=(if_pos ⟨hp,ht⟩).trans (congrArg some (if_neg hw))
  rw [Bool.not_eq_true _|>.mp hw,Bool.false_and,if_neg (by decide)]
  exact Eq.mp (qR p t s _) ⟨_,he,λ_=>rfl,λhb=>by simp at hb⟩
theorem po:Sound Try.prog 23 Uj:=
 Sound.Dp Cf (Ah z9 (Ah pe (Ah Tw (Ah sW (Ah EC At))))) mixed Try.func23 (by kernel_rfl) (by kernel_rfl) λx h=>DO x.1 x.2.1 x.2.2.1 h
theorem ER {p:PP} {t s:List Int} :short (Fz p t s).1:=by
 unfold Fz
 split
 ·rename_i h
  obtain ⟨hw,_⟩:=Bool.and_eq_true_iff.1 h
  obtain ⟨CG,hm⟩:=Ln.1 hw
  by_cases Oz:s∈Ad (Au p t)
  ·rw [KJ CG hm Oz]
   unfold qf
   split
   ·simp [short]
   ·show (Sj p t s).length<=4294967296
    omega
  ·have:Pf p t s=([],false,()):=if_neg Oz
   rw [this];simp [short]
 ·simp [short]
theorem IX (p:PP) (a:List Int) (b:List Int) (h:Cj p/\short a/\short b):fnW Di (look [(14,qI),(23,Uj),(24,Rb),(16,Wa.b qJ Ju),(17,Wa.b kJ Mq),(19,qD),(20,Cx),(25,Ma),(26,Po),(27,aF)]) jC Try.f5 (p,a,b,()) (λ(z:Bool)=>z=true):=by
 have h0:Cj (p.1,p.2.1,p.2.2.1,()):=h.1
 have h1:short a:=h.2.1
 have h2:short b:=h.2.2
 refine Eq.mp (KN p a b _) ?_
 refine Br.dec (λ_=>rfl) λAij=>?_
 refine Br.dec (λ_=>rfl) λAik=>?_
 refine ⟨_,if_pos ⟨h0,wg⟩,Br.dec (λ_=>rfl) λAef=>?_⟩
 have ZC:(((Co p.2.2.1:Nat):Nat):Int)<=(1048576)-(cv (p.1,p.2.1,p.2.2.1,()) (1048576))/\roomy (cv (p.1,p.2.1,p.2.2.1,()) (1048576)):=JU wg Aef
 have Ajl:=ZC.1
 have Aix:0<=cv (p.1,p.2.1,p.2.2.1,()) (1048576)/\cv (p.1,p.2.1,p.2.2.1,()) (1048576)<=4294967296:=ZC.2
 have l0:low (1+(Co p.2.2.1:Nat)):=⟨by omega,by omega⟩
 have l1:low (1+(Co p.2.2.1:Nat)+(a.length:Nat)):=⟨by omega,by omega⟩
 have l2:low (1+(Co p.2.2.1:Nat)+(a.length:Nat)+(b.length:Nat)):=⟨by omega,by omega⟩
 refine ⟨_,if_pos h0,_,if_pos h1,_,if_pos h2,?_⟩
 try simp only [Bj]
 refine ⟨_,if_pos ⟨h0,h1,h2⟩,_,if_pos h0,_,if_pos h1,_,if_pos h2,?_⟩
 try simp only [Bj]
 have MN:short ((Fz p a b).1):=ER
 generalize he0:(Fz p a b).1=g0 at MN
 generalize he1:(Fz p a b).2.1=g1
 refine ⟨_,if_pos ⟨h0,h1,h2⟩,?_⟩
 simp only [Bj,he0,he1]
 refine ⟨_,if_pos MN,⟨λhe=>absurd (Ji _) (Cy he),λ_=>?_⟩⟩
 refine ⟨λhe=>iT he,λ_=>?_⟩
 refine ⟨_,if_pos h0,_,if_pos h0,⟨λhe=>absurd (yq _) (Cy he),λ_=>?_⟩⟩
 refine ⟨_,if_pos h1,?_⟩
 try simp only [Bj]
 refine ⟨_,if_pos h1,⟨λhe=>absurd (Ji _) (Cy he),λ_=>?_⟩⟩
 refine ⟨_,if_pos h2,?_⟩
 try simp only [Bj]
 refine ⟨_,if_pos h2,⟨λhe=>absurd (Ji _) (Cy he),λ_=>?_⟩⟩
 refine ⟨trivial,trivial,_,if_pos ⟨h0.2,lF,l0⟩,⟨Xh _ _,trivial⟩,trivial,trivial,_,if_pos ⟨h1,l0⟩,⟨Lk _ _,trivial⟩,trivial,trivial,_,if_pos ⟨h2,l1⟩,⟨Lk _ _,trivial⟩,Br.dec (λhn=>absurd l2.1 (Int.not_le.2 hn)) λ_=>?_⟩
 refine ⟨_,if_pos MN,⟨λhe=>absurd (Ji _) (Cy he),λ_=>?_⟩⟩
 refine ⟨λhe=>iT he,λ_=>?_⟩
 refine ⟨trivial,trivial,_,if_pos ⟨MN,lF⟩,⟨Lk _ _,trivial⟩,?_⟩
 simp only [xa]
 have SM: ∀k,short (Ha k g0.length):= λk=>by unfold short at*;rw [Lk];exact MN
 refine ⟨_,if_pos ⟨SM _,lF⟩,?_⟩
 simp only [eD]
 refine Br.dec (λhn=>by omega) λ_=>⟨λhe=>by simp at he,λ_=>?_⟩
 refine ⟨_,if_pos h0,_,if_pos h1,_,if_pos h2,?_⟩
 try simp only [Bj]
 refine ⟨_,if_pos ⟨h0,h1,h2⟩,?_⟩
 simp only [Bj,he0,he1]
 refine ⟨_,if_pos MN,⟨λhe=>absurd (Ji _) (Cy he),λ_=>?_⟩⟩
 refine ⟨λhe=>iT he,λ_=>?_⟩
 refine ⟨_,if_pos ⟨SM _,lF⟩,?_⟩
 simp only [eD]
 exact Br.dec (λhn=>by omega) λ_=>⟨λhe=>by simp at he,λ_=>trivial⟩
theorem sS:Sound Try.prog 5 jC:=
 Sound.Dp Cf (Ah EG (Ah po (Fg pf (uw EH ll (uw qO nO (Ah EB (Ah qN (Fg jI (Fg kL (Ah wx At)))))))))) mixed Try.func5 (by kernel_rfl) (by kernel_rfl) λx h=>IX x.1 x.2.1 x.2.2.1 h
end Go.Proofs.Ytjbdmibbbpdnnaa
