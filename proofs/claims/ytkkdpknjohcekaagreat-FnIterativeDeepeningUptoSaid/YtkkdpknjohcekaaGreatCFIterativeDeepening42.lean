/-
  Part 43 of the proof that the statement FnIterativeDeepening holds.
-/
import Derived.Test.YtkkdpknjohcekaaGreatCFIterativeDeepening41
namespace Go.Proofs.YtkkdpknjohcekaaGreat
open Go.RowKit
noncomputable def eo (p:PP) (b:Option BB) (x:List Int) (Dy:Int) (every:Bool):IS:=rk p.1 p.2.2.1 b Dy every [] 0 0 false x
noncomputable def SX (p:PP) (b:Option BB) (x:List Int) (Dy:Int) (every:Bool):SR:=(p,b,Dy,every,(eo p b x Dy every).2.1,(eo p b x Dy every).2.2.1,(eo p b x Dy every).2.2.2.1,(eo p b x Dy every).2.2.2.2,())
def BQ (p:PP) (b:Option BB) (x:List Int) (Dy:Int):Prop:= ∃ts,b=some (Cw ts)/\Tq p ts x=true/\0<=Dy/\Dy<=30
noncomputable abbrev Yx:Spec:=Hj (.pair Jc (.pair (.optr Xa) (.pair tL (.pair tI (.pair .bool .unit))))) (.optr QT) false false (λx=>BQ x.1 x.2.1 x.2.2.1 x.2.2.2.1) (λx=>some (SX x.1 x.2.1 x.2.2.1 x.2.2.2.1 x.2.2.2.2.1))
noncomputable def Lm (p:PP) (ts:List TT) (s:List Int) (depth:Int) (all:Bool):DS:=An8 p ts s [] depth (0,0,[],false,all,())
noncomputable def j0 (d:Int):Bool:=decide (0<=d/\d<=30)
noncomputable abbrev Tf:Spec:=Hj (.pair tI .unit) .bool false true (λ_=>True) (λx=>j0 x.1)
noncomputable def Uz (p:PP) (ts:List TT) (s:List Int) (d:Int):Bool:=Tq p ts s&&j0 d
theorem NW (p:Int×ByteArray×List (List Int)×Unit) (b:Option (List (List Int×List (List Int)×List Int×Unit)×List (ByteArray->Option Int)×Unit)) (x:List Int) (Dy:Int) (every:Bool) (P:Option ((Int×ByteArray×List (List Int)×Unit)×Option (List (List Int×List (List Int)×List Int×Unit)×List (ByteArray->Option Int)×Unit)×Int×Bool×List Int×Int×Int×Bool×Unit)->Prop):(0=0/\0=([]:List Int).length/\ ∃(y6:(Int×ByteArray×List (List Int)×Option (List (List Int×List (List Int)×List Int×PUnit)×List (ByteArray->Option Int)×PUnit)×Int×Bool×List Int×Int×Int×Bool×Bool×PUnit)×PUnit),nY.fn (p.1,p.2.1,p.2.2.1,b,Dy,every,[],Int.ofNat (nat_lit 0),Int.ofNat (nat_lit 0),false,x,())=some y6/\P (some ((y6.1.1,y6.1.2.1,y6.1.2.2.1,()),y6.1.2.2.2.1,y6.1.2.2.2.2.1,y6.1.2.2.2.2.2.1,List.take y6.1.2.2.2.2.2.2.1.length (List.drop 0 y6.1.2.2.2.2.2.2.1),y6.1.2.2.2.2.2.2.2.1,y6.1.2.2.2.2.2.2.2.2.1,y6.1.2.2.2.2.2.2.2.2.2.1,())))=fnW Gr (look [(127,nY)]) Yx Tryz.f71 (p,b,x,Dy,every,()) P:=by kernel_rfl
theorem VJ (d:Int) (P:Bool->Prop):(∃(y2:Bool),Cr.fn (d,(0:Int),(30:Int),())=some y2/\P y2)=fnW Gr (look [(100,Cr)]) Tf Tryz.f55 (d,()) P:=by kernel_rfl
theorem ds0 (all:Bool):IE ((0,0,[],false,all,()):DS):=⟨Gi _,(by decide:(0:Int)<=20000),Gi _,Gi _⟩
theorem oe (p:PP) (ts:List TT) (x:List Int) (Dy:Int) (every:Bool):WO every [] (eo p (some (Cw ts)) x Dy every) (Lm p ts x Dy every):=
 Ag6 (nx:=cw p.2.2.1) (low:=Ir ts) (one:=upto p.1.toNat) (ls:=Ax p.2.2.1.length) (depth:=Dy) (every:=every) ((Dy-(0:Nat)).toNat+1) x [] (0,0,[],false,every,()) rfl rfl (ds0 every)
theorem Aj5 {p:PP} {b:Option BB} {x:List Int} {Dy:Int} (h:BQ p b x Dy):yi p.1 p.2.1 p.2.2.1 b Dy [] (Int.ofNat 0) (Int.ofNat 0) x:=by
 obtain ⟨ts,hb,hh,h0,h30⟩:=h
 exact ⟨ts,hb,hh,h30,h0,λl hl=>(by cases hl),⟨by decide,by decide⟩,by decide,by decide⟩
theorem LM (p:PP) (b:Option BB) (x:List Int) (Dy:Int) (every:Bool) (h:BQ p b x Dy):fnW Gr (look [(127,nY)]) Yx Tryz.f71 (p,b,x,Dy,every,()) (λ(z:Option SR)=>z=some (SX p b x Dy every)):=by
 refine Eq.mp (NW p b x Dy every _) ⟨rfl,rfl,_,Ab (Aj5 h),?_⟩
 dsimp only
 rw [Bv]
 rfl
theorem uK:Sound Tryz.prog 71 Yx:=
 Sound.Hj Ee (Fp AB Bo) mixed Tryz.func71 (by kernel_rfl) (by kernel_rfl) λx h=>LM x.1 x.2.1 x.2.2.1 x.2.2.2.1 x.2.2.2.2.1 h
theorem TI (d:Int) (_:True):fnW Gr (look [(100,Cr)]) Tf Tryz.f55 (d,()) (λ(z:Bool)=>z=j0 d):=Eq.mp (VJ d _) ⟨_,Ab trivial,rfl⟩
theorem lg:Sound Tryz.prog 55 Tf:=
 Sound.Hj Ee (Ba Wz Bo) mixed Tryz.func55 (by kernel_rfl) (by kernel_rfl) λx h=>TI x.1 h
theorem dO {p:PP} {ts:List TT} {s:List Int} {d:Int} :Uz p ts s d=true↔Tq p ts s=true/\0<=d/\d<=30:=by
 unfold Uz j0
 rw [Ag,Kx]
theorem JE (v:DS):Gc v=(v.2.2.2.1||(decide (0<v.2.1)&&!v.2.2.2.2.1)):=rfl
noncomputable def Sd (p:PP) (ts:List TT) (s:List Int) (d:Int):Nat->Int->DS->List Int->List Int×DS
 |0,_,v,out=>(out,v)
 |f+1,k,v,out=>if k<=d/\Gc v=false then Sd p ts s d f (k+1) (Lm p ts s k false) (out++ [(Lm p ts s k false).1]) else (out,v)
noncomputable def Te (p:PP) (ts:List TT) (s:List Int) (d:Int):List Int×DS:=Sd p ts s d 40 (Ir ts s) (0,0,[],false,false,()) []
noncomputable def EO (p:PP) (ts:List TT) (s:List Int) (d:Int):List Int:=if Uz p ts s d=true then (Te p ts s d).1 else []
noncomputable def Od (p:PP) (b:Option BB) (s:List Int) (d:Int):Nat->Int->Option SR->List Int->List Int×Option SR
 |0,_,v,out=>(out,v)
 |f+1,k,v,out=>if k<=d then
   (if ((eo p b s k false).2.2.2.2||decide ((eo p b s k false).2.2.2.1>0))=true then (out++ [(eo p b s k false).2.2.1],some (SX p b s k false))
    else Od p b s d f (k+1) (some (SX p b s k false)) (out++ [(eo p b s k false).2.2.1])) else (out,v)
noncomputable def az:SR:=((0,ByteArray.empty,[],()),none,0,false,[],0,0,false,())
noncomputable abbrev Ot:MSpec:=jZ [some 3,none,none,none] [(false, .Eh tI),(false, .Eh .str),(false, .Eh kB),(false, .Eh (.optr Xa)),(false, .Eh tL),(false, .Eh tI)] true [none,none] [.Eh (.optr QT),rL] (λx=>BQ (x.1,x.2.1,x.2.2.1,()) x.2.2.2.1 x.2.2.2.2.1 x.2.2.2.2.2.1)
 (λx=>(((Od (x.1,x.2.1,x.2.2.1,()) x.2.2.2.1 x.2.2.2.2.1 x.2.2.2.2.2.1 40 (Rj x.2.2.2.1 x.2.2.2.2.1) (some az) []).2,(Od (x.1,x.2.1,x.2.2.1,()) x.2.2.2.1 x.2.2.2.2.1 x.2.2.2.2.2.1 40 (Rj x.2.2.2.1 x.2.2.2.2.1) (some az) []).1,()),()))
noncomputable abbrev Yq:MSpec:=jZ [some 3,none,none,none] [(false, .Eh tI),(false, .Eh .str),(false, .Eh kB),(false, .Eh tTS),(false, .Eh tL),(false, .Eh tI)] false [none] [rL] (λx=>Fc (x.1,x.2.1,x.2.2.1,())/\Rt x.2.2.2.1/\short x.2.2.2.2.1)
 (λx=>((EO (x.1,x.2.1,x.2.2.1,()) x.2.2.2.1 x.2.2.2.2.1 x.2.2.2.2.2.1,()),()))
abbrev jy:Type:=(Int×ByteArray×List (List Int)×PUnit)×Option (List (List Int×List (List Int)×List Int×PUnit)×List (ByteArray->Option Int)×PUnit)×Int×Bool×List Int×Int×Int×Bool×PUnit
abbrev qM:Type:=Option ((Int×ByteArray×List (List Int)×PUnit)×Option (List (List Int×List (List Int)×List Int×PUnit)×List (ByteArray->Option Int)×PUnit)×Int×Bool×List Int×Int×Int×Bool×PUnit)×Int×Int×ByteArray×List (List Int)×List Int×PUnit
theorem NN (n:Int) (str:ByteArray) (g:List (List Int)) (b:Option (List (List Int×List (List Int)×List Int×Unit)×List (ByteArray->Option Int)×Unit)) (s:List Int) (d:Int) (P:((Option SR×List Int×Unit)×Unit)->Prop):(∃(y7:Int),aZ.fn (b,s,())=some y7/\0=0/\0=([]:List Int).length/\Di (λ(v8:qM) (k9:qM->Prop)=>Br (decide (v8.2.1<=d)) (∃(Jw:Option ((Int×ByteArray×List (List Int)×PUnit)×Option (List (List Int×List (List Int)×List Int×PUnit)×List (ByteArray->Option Int)×PUnit)×Int×Bool×List Int×Int×Int×Bool×PUnit)),Yx.fn ((v8.2.2.1,v8.2.2.2.1,v8.2.2.2.2.1,()),b,s,v8.2.1,false,())=some Jw/\ ∃(Ix:jy),Jw=some Ix/\0=0/\v8.2.2.2.2.2.1.length=v8.2.2.2.2.2.1.length/\v8.2.2.2.2.2.1.length+(List.take 1 (List.drop 0 [Ix.2.2.2.2.2.1])).length<=Dj/\ ∃(Jf:jy),Jw=some Jf/\Br Jf.2.2.2.2.2.2.2.1 (P ((Jw,List.take (v8.2.2.2.2.2.1++List.take 1 (List.drop 0 [Ix.2.2.2.2.2.1])).length (List.drop 0 (v8.2.2.2.2.2.1++List.take 1 (List.drop 0 [Ix.2.2.2.2.2.1]))),()),())) (∃(Hl:jy),Jw=some Hl/\Br (decide (Hl.2.2.2.2.2.2.1>(0:Int))) (P ((Jw,List.take (v8.2.2.2.2.2.1++List.take 1 (List.drop 0 [Ix.2.2.2.2.2.1])).length (List.drop 0 (v8.2.2.2.2.2.1++List.take 1 (List.drop 0 [Ix.2.2.2.2.2.1]))),()),())) (0=0/\(v8.2.2.2.2.2.1++List.take 1 (List.drop 0 [Ix.2.2.2.2.2.1])).length=(v8.2.2.2.2.2.1++List.take 1 (List.drop 0 [Ix.2.2.2.2.2.1])).length/\k9 (Jw,IntKind.i64.wrap (v8.2.1+(1:Int)),v8.2.2.1,v8.2.2.2.1,v8.2.2.2.2.1,v8.2.2.2.2.2.1++List.take 1 (List.drop 0 [Ix.2.2.2.2.2.1]),())))) (P ((v8.1,List.take v8.2.2.2.2.2.1.length (List.drop 0 v8.2.2.2.2.2.1),()),()))) (some ((Int.ofNat (nat_lit 0), {data:= #[]},[],()),none,Int.ofNat (nat_lit 0),false,[],Int.ofNat (nat_lit 0),Int.ofNat (nat_lit 0),false,()),y7,n,str,g,[],PUnit.unit))=fnMW (mB [Qp+14]) (look [(57,aZ),(71,Yx)]) Ot Tryz.f56 (n,str,g,b,s,d,()) P:=by kernel_rfl
theorem VH (n:Int) (str:ByteArray) (g:List (List Int)) (ts:List (List Int×List (List Int)×List Int×Unit)) (s:List Int) (d:Int) (P:((List Int×Unit)×Unit)->Prop):(∃(y7:Option (List (List Int×List (List Int)×List Int×PUnit)×List (ByteArray->Option Int)×PUnit)×Bool×PUnit),Ql.fn ((n,str,g,()),ts,s,())=some y7/\Br (!y7.2.1) (P ((List.take 0 (List.drop 0 []),()),())) (∃(y8:Bool),Tf.fn (d,())=some y8/\Br (!y8) (P ((List.take 0 (List.drop 0 []),()),())) (∃(y9:(Option ((Int×ByteArray×List (List Int)×PUnit)×Option (List (List Int×List (List Int)×List Int×PUnit)×List (ByteArray->Option Int)×PUnit)×Int×Bool×List Int×Int×Int×Bool×PUnit)×List Int×PUnit)×PUnit),Ot.fn (n,str,g,y7.1,s,d,())=some y9/\P ((List.take y9.1.2.1.length (List.drop 0 y9.1.2.1),()),()))))=fnMW Rk (look [(54,Ql),(55,Tf),(56,Ot)]) Yq Tryz.f17 (n,str,g,ts,s,d,()) P:=by kernel_rfl
theorem lR (p:PP) (ts:List TT) (s:List Int) (d:Int): ∀(f:Nat) (k:Int) (v:DS) (out:List Int),(Sd p ts s d f k v out).1.length<=out.length+f
 |0,_,_,_=>Ap _
 |f+1,k,v,out=>by
  unfold Sd
  split
  ·have:=lR p ts s d f (k+1) (Lm p ts s k false) (out++ [(Lm p ts s k false).1])
   rw [Au,Be] at this
   omega
  ·show out.length<=_
   omega
theorem pY {p:PP} {ts:List TT} {s:List Int} {d:Int} {v:DS} (h:Gc v=true) (f:Nat) (k:Int) (out:List Int):Sd p ts s d f k v out=(out,v):=by
 cases f with
 |zero=>rfl
 |succ f=>unfold Sd;rw [Ai (λhc=>by rw [h] at hc;simp at hc)]
theorem QJ (p:PP) (ts:List TT) (s:List Int) (k:Int):((eo p (some (Cw ts)) s k false).2.2.2.2||decide ((eo p (some (Cw ts)) s k false).2.2.2.1>0))=Gc (Lm p ts s k false):=by
 have hs:=oe p ts s k false
 rw [hs.a,hs.m,JE,hs.all]
 simp
theorem iZ (p:PP) (ts:List TT) (s:List Int) (d:Int): ∀(f:Nat) (k:Int) (v:DS) (r:Option SR) (out:List Int),Gc v=false->(Od p (some (Cw ts)) s d f k r out).1=(Sd p ts s d f k v out).1
 |0,_,_,_,_,_=>rfl
 |f+1,k,v,r,out,hv=>by
  have hsd:=QJ p ts s k
  have hn:=(oe p ts s k false).n
  rw [Od,Sd,hsd,hn]
  by_cases hk:k<=d
  ·rw [Ab hk,Ab (show k<=d/\Gc v=false from ⟨hk,hv⟩)]
   by_cases hd:Gc (Lm p ts s k false)=true
   ·rw [Ab hd,pY hd]
   ·rw [Ai hd]
    exact iZ p ts s d f (k+1) _ _ _ (by simpa using hd)
  ·rw [Ai hk,Ai (λhc=>hk hc.1)]
theorem LC (n:Int) (str:ByteArray) (g:List (List Int)) (b:Option BB) (s:List Int) (d:Int) (h:BQ (n,str,g,()) b s d):
  fnMW (mB [Qp+14]) (look [(57,aZ),(71,Yx)]) Ot Tryz.f56 (n,str,g,b,s,d,()) (λ(z:(Option SR×List Int×Unit)×Unit)=>z=(((Od (n,str,g,()) b s d 40 (Rj b s) (some az) []).2,(Od (n,str,g,()) b s d 40 (Rj b s) (some az) []).1,()),())):=by
 obtain ⟨ts,rfl,hh,h0,h30⟩:=h
 obtain ⟨ha,hb,_⟩:=p9 hh
 have Adh:=PV ha hb
 have hlE:Rj (some (Cw ts)) s=Ir ts s:=rfl
 obtain ⟨R,hR⟩: ∃R,Od (n,str,g,()) (some (Cw ts)) s d 40 (Rj (some (Cw ts)) s) (some az) []=R:=⟨_,rfl⟩
 refine Eq.mp (NN n str g (some (Cw ts)) s d _) ?_
 rw [hR]
 refine ⟨Ir ts s,Ab ⟨ts,ha,rfl,hb⟩,rfl,rfl,?_⟩
 refine Di.mk (λv=> ∃(f:Nat) (k:Int) (r:Option SR) (out:List Int),v=(r,k,n,str,g,out,())/\0<=k/\k<=3001/\d-k<f/\out.length+f=40/\Od (n,str,g,()) (some (Cw ts)) s d f k r out=R) (λv=>(d+1-v.2.1).toNat)
  ⟨40,Ir ts s,some az,[],rfl,Adh.1,by omega,by omega,rfl,hR⟩ ?_
 rintro v ⟨f,k,r,out,rfl,vq,hk1,hf,hlen,hv⟩
 dsimp only
 refine Br.dec (λhk=>?_) λhk=>?_
 ·obtain ⟨f,rfl⟩: ∃f',f=f'+1:=⟨f-1,by omega⟩
  rw [Od,Ab hk] at hv
  refine ⟨some (SX (n,str,g,()) (some (Cw ts)) s k false),Ab ⟨ts,rfl,hh,vq,by show k<=30;omega⟩,_,rfl,rfl,rfl,by show out.length+1<=4294967296;omega,_,rfl,?_⟩
  show Br (eo (n,str,g,()) (some (Cw ts)) s k false).2.2.2.2 _ _
  refine Br.of (λkQ=>?_) λkQ=>⟨_,rfl,?_⟩
  ·rw [kQ,Bool.true_or,Ab rfl] at hv
   rw [<-hv]
   simp only [Bv]
   rfl
  show Br (decide ((eo (n,str,g,()) (some (Cw ts)) s k false).2.2.2.1>0)) _ _
  rw [kQ,Sw] at hv
  refine Br.of (λhm=>?_) λhm=>?_
  ·rw [Ab hm] at hv
   rw [<-hv]
   simp only [Bv]
   rfl
  ·rw [Ai (by rw [hm];simp)] at hv
   rw [Cn (by omega) (by omega)]
   exact ⟨rfl,rfl,⟨f,k+1,_,_,rfl,by omega,by omega,by omega,by rw [Au];show out.length+1+f=40;omega,hv⟩,by show (d+1-(k+1)).toNat<(d+1-k).toNat;omega⟩
 ·have yU:Od (n,str,g,()) (some (Cw ts)) s d f k r out=(out,r):=by
   cases f with
   |zero=>rfl
   |succ f=>rw [Od,Ai hk]
  rw [yU] at hv
  rw [<-hv]
  simp only [Bv]
theorem js:Cl Tryz.prog 56 Ot:=
 Cl.jZ (mC [Qp+14]) (Ba qH (Ba uK Bo)) mixed Tryz.func56 (by kernel_rfl) (by kernel_rfl) λx h=>LC x.1 x.2.1 x.2.2.1 x.2.2.2.1 x.2.2.2.2.1 x.2.2.2.2.2.1 h
theorem TG (n:Int) (str:ByteArray) (g:List (List Int)) (ts:List TT) (s:List Int) (d:Int) (h:Fc (n,str,g,())/\Rt ts/\short s):
  fnMW Rk (look [(54,Ql),(55,Tf),(56,Ot)]) Yq Tryz.f17 (n,str,g,ts,s,d,()) (λ(z:(List Int×Unit)×Unit)=>z=((EO (n,str,g,()) ts s d,()),())):=by
 refine Eq.mp (VH n str g ts s d _) ?_
 unfold EO
 by_cases hh:Tq (n,str,g,()) ts s=true
 ·refine ⟨(some (Cw ts),true,()),(Ab h).trans (Gz some (Ab hh)),λhb=>by simp at hb,λ_=>⟨j0 d,Ab trivial,?_⟩⟩
  have hc:Uz (n,str,g,()) ts s d=j0 d:=by unfold Uz;rw [hh,Sx]
  refine Br.of (λhd=>?_) λhd=>?_
  ·rw [Ai (by rw [hc];exact Hm hd)]
   rfl
  ·have hd:Uz (n,str,g,()) ts s d=true:=by rw [hc];simpa using hd
   obtain ⟨_,h0,h30⟩:=dO.1 hd
   rw [Ab hd]
   refine ⟨_,Ab ⟨ts,rfl,hh,h0,h30⟩,?_⟩
   dsimp only
   rw [Bv,show Rj (some (Cw ts)) s=Ir ts s from rfl,iZ (n,str,g,()) ts s d 40 (Ir ts s) (0,0,[],false,false,()) _ [] rfl]
   rfl
 ·have hc: ¬Uz (n,str,g,()) ts s d=true:= λhc=>hh (dO.1 hc).1
  rw [Ai hc]
  exact ⟨(none,false,()),(Ab h).trans (Gz some (Ai hh)),λ_=>rfl,λhb=>by simp at hb⟩
theorem wj:Cl Tryz.prog 17 Yq:=
 Cl.jZ Qm (Ba jr (Ba lg (Fp js Bo))) mixed Tryz.func17 (by kernel_rfl) (by kernel_rfl) λx h=>TG x.1 x.2.1 x.2.2.1 x.2.2.2.1 x.2.2.2.2.1 x.2.2.2.2.2.1 h
theorem Mk.sub {g:List (List Int)} {ls:List Int} {L:List (List Int)} {S S':List Int->Prop} {d d':List Int->Int} (hc:eQ g ls L) (h:Mk g ls L S d) (h':Mk g ls L S' d') (hS: ∀x∈L,S' x->S x):
  ∀(n:Nat) (x:List Int),x∈L->d' x=n->d x<=n
 |0,x,hx,e=>by
  have:=(h.zero x hx).2 (hS x hx ((h'.zero x hx).1 e))
  omega
 |n+1,x,hx,e=>by
  obtain ⟨l,hl,hd⟩:=h'.down x hx (by omega)
  obtain ⟨b1,b2⟩:=hc.back x hx l hl
  have h1:=Mk.sub hc h h' hS n _ (hc.next x hx l hl) (by omega)
  have h2:=h.step _ (hc.next x hx l hl) _ b1
  rw [b2] at h2
  omega
theorem RM {p:PP} {t:TT} (hw:Gq p=true) (ht:Gs p t=true) {s:List Int} (hs:s∈Bd p):aW t s=EP p t.1 (Ed s t.1):=by
 obtain ⟨_,h3,_,e1,e2⟩:=kl ht
 have hm:=Aad hw h3 s hs
 unfold aW
 rw [e1,e2]
 exact (Ab hm).symm
theorem RL {p:PP} {t:TT} (hw:Gq p=true) (ht:Gs p t=true) {s:List Int} (hs:s∈Bd p):aW t s<=Iq (Bd p) (Dp p) s:=by
 obtain ⟨_,h3,_,_,_⟩:=kl ht
 have hv:=(Ie hw).1
 rw [RM hw ht hs]
 have hn:=(We hw).nn s hs
 have:=Mk.sub (Zd hw) (Aac hw h3) (We hw) (λx _ hx=>by rw [hx,(Vh hv).1];exact Aib h3) (Iq (Bd p) (Dp p) s).toNat s hs (by omega)
 omega
theorem ON {m:Int} : ∀(xs:List Int) (a:Int),a<=m->(∀x∈xs,x<=m)->xs.foldl max a<=m
 | [],a,h,_=>h
 |x::xs,a,h,hx=>ON xs (max a x) (by have:=hx x (Fm ..);omega) λy hy=>hx y (Ao _ hy)
theorem PW {p:PP} {ts:List TT} (hw:Gq p=true) (ht:El p ts=true) {s:List Int} (hs:s∈Bd p):Ir ts s<=Iq (Bd p) (Dp p) s:=by
 refine ON _ _ ((We hw).nn s hs) λx hx=>?_
 obtain ⟨t,Vk,rfl⟩:=Bj.1 hx
 exact RL hw ((db ht).2.2 t Vk) hs
def tN:Nat->Int
 |0=>0
 |f+1=>1+4*tN f
theorem QS: ∀f,0<=tN f
 |0=>Gi _
 |f+1=>by have:=QS f;simp only [tN];omega
structure eT (g:List (List Int)) (ls:List Int) (one:List Int) (L:List (List Int)) (D low:List Int->Int):Prop where
 hc:eQ g ls L
 hd:Mk g ls L (λx=>x=one) D
 adm: ∀x∈L,low x<=D x
 gu:ls.length<=4
section
variable {g:List (List Int)} {ls one:List Int} {L:List (List Int)} {D low:List Int->Int} {depth:Int}
abbrev vG (g:List (List Int)) (low:List Int->Int) (one ls:List Int) (depth:Int):Nat->List Int->List Int->DS->DS:=vN (λs l=>Af s (Am g l)) low one ls depth
theorem zn {k:Nat} {t:Int} (hk:k<=4) (ht:0<=t):(k:Int)*t<=4*t:=Int.mul_le_mul_of_nonneg_right (by omega) ht
theorem eL (hf:ls.length<=4): ∀(f:Nat) (s w:List Int) (v:DS),v.2.2.2.1=false->v.1+tN f<=20000->
  (vG g low one ls depth f s w v).2.2.2.1=false/\(vG g low one ls depth f s w v).1<=v.1+tN f
 |0,s,w,v,ha,hn=>⟨ha,by simp only [tN];show v.1<=v.1+0;omega⟩
 |f+1,s,w,v,ha,hn=>by
  have ht:=QS f
  simp only [tN] at hn⊢
  have h1: ¬v.1=20000:=by omega
  show (vN _ low one ls depth (f+1) s w v).2.2.2.1=false/\(vN _ low one ls depth (f+1) s w v).1<=v.1+(1+4*tN f)
  rw [vN,Ai h1]
  split
  ·exact ⟨ha,by show v.1+1<=_;omega⟩
  ·split
   ·split
    ·exact ⟨ha,by show v.1+1<=_;omega⟩
    ·exact ⟨ha,by show v.1+1<=_;omega⟩
   ·have key: ∀(xs:List Int) (b:DS),b.2.2.2.1=false->b.1+xs.length*tN f<=20000->
      (xs.foldl (λ(v:DS) l=>if Gc v=true then v else vG g low one ls depth f (Af s (Am g l)) (w++ [l]) v) b).2.2.2.1=false/\
      (xs.foldl (λ(v:DS) l=>if Gc v=true then v else vG g low one ls depth f (Af s (Am g l)) (w++ [l]) v) b).1<=b.1+xs.length*tN f:=by
     intro xs
     induction xs with
     |nil=>exact λb hb _=>⟨hb,by simp⟩
     |cons l xs ih=>
      intro b hb HY
      rw [Aw,Int.natCast_add,Int.add_mul] at HY⊢
      have hp:0<=(xs.length:Int)*tN f:=Int.mul_nonneg (by omega) ht
      rw [Df]
      split
      ·obtain ⟨i1,i2⟩:=ih b hb (by omega)
       exact ⟨i1,by omega⟩
      ·obtain ⟨j1,j2⟩:=eL hf f (Af s (Am g l)) (w++ [l]) b hb (by omega)
       obtain ⟨i1,i2⟩:=ih _ j1 (by omega)
       exact ⟨i1,by omega⟩
    have hl:=Lg (List.length_filter_le (λl=>!(l== -Ji w)) ls) hf
    have hm:=zn hl ht
    obtain ⟨k1,k2⟩:=key (ls.filter λl=>!(l== -Ji w)) (v.1+1,v.2) ha (by show v.1+1+_<=20000;omega)
    refine ⟨k1,Int.le_trans k2 ?_⟩
    show v.1+1+_<=_
    omega
theorem uZ (S:eT g ls one L D low): ∀(f:Nat) (s w:List Int) (v:DS),s∈L->depth-w.length<D s->
  (vG g low one ls depth f s w v).2.1=v.2.1/\(vG g low one ls depth f s w v).2.2.1=v.2.2.1
 |0,_,_,_,_,_=>⟨rfl,rfl⟩
 |f+1,s,w,v,hs,hD=>by
  show (vN _ low one ls depth (f+1) s w v).2.1=v.2.1/\(vN _ low one ls depth (f+1) s w v).2.2.1=v.2.2.1
  rw [vN]
  split
  ·exact ⟨rfl,rfl⟩
  ·split
   ·exact ⟨rfl,rfl⟩
   ·split
    ·rename_i h3
     rw [Ai λhc=>by have:=(S.hd.zero s hs).2 hc;omega]
     exact ⟨rfl,rfl⟩
    ·refine Qz (R:= λ(b:DS)=>b.2.1=v.2.1/\b.2.2.1=v.2.2.1) _ _ ⟨rfl,rfl⟩ λb l hl hb=>?_
     split
     ·exact hb
     ·have hl:=(Bs.1 hl).1
      have:=Mk.EZ S.hc S.hd hs hl
      obtain ⟨i1,i2⟩:=uZ S f (Af s (Am g l)) (w++ [l]) b (S.hc.next s hs l hl) (by rw [Au,Be];omega)
      exact ⟨i1.trans hb.1,i2.trans hb.2⟩
def Up (g:List (List Int)) (ls:List Int) (D:List Int->Int) (s w:List Int):Prop:= -Ji w∈ls->D (Af s (Am g (-Ji w)))=D s+1
theorem KJ (w:List Int) (l:Int):Ji (w++ [l])=l:=by simp [Ji]
theorem QV (S:eT g ls one L D low) {s w:List Int} (hs:s∈L) {l:Int} (hl:l∈ls) (hD:D (Af s (Am g l))+1=D s):Up g ls D (Af s (Am g l)) (w++ [l]):= λ_=>by
 rw [KJ,(S.hc.back s hs l hl).2]
 omega
theorem s9 (S:eT g ls one L D low): ∀(n:Nat) (s w:List Int) (v:DS),s∈L->D s=n->depth=w.length+n->v.2.2.2.1=false->v.2.1=0->v.2.2.2.2.1=false->v.1+tN (n+1)<=20000->Up g ls D s w->
  (vG g low one ls depth (n+1) s w v).2.1=1/\(vG g low one ls depth (n+1) s w v).2.2.1=(cc g D ls n s w).1
 |0,s,w,v,hs,hD,yL,ha,hm,Jh,hn,YR=>by
  simp only [tN] at hn
  have DR:=(S.hd.zero s hs).1 hD
  have Adh:=S.adm s hs
  show (vN _ low one ls depth (0+1) s w v).2.1=1/\(vN _ low one ls depth (0+1) s w v).2.2.1=w
  rw [vN,Ai (by omega),Ai (by omega),Ab (by omega),Ab DR]
  refine ⟨by show v.2.1+1=1;omega,?_⟩
  show (if v.2.1=0 then w else v.2.2.1)=w
  rw [Ab hm]
 |n+1,s,w,v,hs,hD,yL,ha,hm,Jh,hn,YR=>by
  have ht:=QS (n+1)
  have Adh:=S.adm s hs
  have WD:tN (n+1+1)=1+4*tN (n+1):=rfl
  rw [WD] at hn
  show (vN _ low one ls depth (n+1+1) s w v).2.1=1/\(vN _ low one ls depth (n+1+1) s w v).2.2.1=_
  rw [vN,Ai (by omega),Ai (by omega),Ai (by omega)]
  have OW:(ls.filter λl=>!(l== -Ji w)).find? (λl=>decide (D (Af s (Am g l))=n))=ls.find? (λl=>decide (D (Af s (Am g l))=n)):=by
   rw [List.find?_filter]
   have: ∀xs:List Int,(∀l∈xs,l∈ls)->xs.find? (λa=>decide ((!(a== -Ji w))=true/\decide (D (Af s (Am g a))=n)=true))=xs.find? (λl=>decide (D (Af s (Am g l))=n)):=by
    intro xs
    induction xs with
    |nil=>exact λ_=>rfl
    |cons x xs ih=>
     intro hx
     have vu:=hx x (Fm ..)
     rw [List.find?_cons,List.find?_cons,ih λl hl=>hx l (Ao _ hl)]
     have:decide ((!(x== -Ji w))=true/\decide (D (Af s (Am g x))=n)=true)=decide (D (Af s (Am g x))=n):=by
      by_cases e:x= -Ji w
      ·have h2:=YR (e▸vu)
       rw [<-e] at h2
       have: ¬D (Af s (Am g x))=n:=by omega
       simp [e]
       rw [<-e]
       omega
      ·simp [e]
     rw [this]
   exact this ls λl hl=>hl
  obtain ⟨l0,hl0,hd0⟩:=S.hd.down s hs (by omega)
  obtain ⟨l1,oD⟩: ∃l1,ls.find? (λl=>decide (D (Af s (Am g l))=n))=some l1:=by
   cases hf:ls.find? (λl=>decide (D (Af s (Am g l))=n)) with
   |some l=>exact ⟨l,rfl⟩
   |none=>
    have:=List.find?_eq_none.1 hf l0 hl0
    simp at this
    omega
  have Asf:cc g D ls (n+1) s w=cc g D ls n (Af s (Am g l1)) (w++ [l1]):=by simp only [cc,oD]
  rw [Asf]
  have key: ∀(xs:List Int) (b:DS),(∀l∈xs,l∈ls)->b.2.2.2.1=false->b.2.1=0->b.2.2.2.2.1=false->b.1+xs.length*tN (n+1)<=20000->
    xs.find? (λl=>decide (D (Af s (Am g l))=n))=some l1->
    (xs.foldl (λ(v:DS) l=>if Gc v=true then v else vG g low one ls depth (n+1) (Af s (Am g l)) (w++ [l]) v) b).2.1=1/\
    (xs.foldl (λ(v:DS) l=>if Gc v=true then v else vG g low one ls depth (n+1) (Af s (Am g l)) (w++ [l]) v) b).2.2.1=(cc g D ls n (Af s (Am g l1)) (w++ [l1])).1:=by
   intro xs
   induction xs with
   |nil=>intro b _ _ _ _ _ h;cases h
   |cons x xs ih=>
    intro b hx hba qd kR HY hfd
    rw [Aw,Int.natCast_add,Int.add_mul] at HY
    have hp:0<=(xs.length:Int)*tN (n+1):=Int.mul_nonneg (by omega) ht
    have vu:=hx x (Fm ..)
    have BI: ¬Gc b=true:=by unfold Gc;rw [hba,kR,qd];simp
    have Alq:=Mk.EZ S.hc S.hd hs vu
    have YF:=S.hc.next s hs x vu
    rw [Df,Ai BI]
    rw [List.find?_cons] at hfd
    obtain ⟨j1,j2⟩:=eL (g:=g) (low:=low) (one:=one) (depth:=depth) S.gu (n+1) (Af s (Am g x)) (w++ [x]) b hba (by omega)
    have sV:(vG g low one ls depth (n+1) (Af s (Am g x)) (w++ [x]) b).2.2.2.2.1=false:=by
     have:=uY (nx:= λs l=>Af s (Am g l)) (low:=low) (one:=one) (ls:=ls) (depth:=depth) (n+1) (Af s (Am g x)) (w++ [x]) b
     exact (Gz Prod.fst this).trans kR
    by_cases hP:D (Af s (Am g x))=n
    ·rw [Cy hP] at hfd
     have hxe:x=l1:=Az hfd
     rw [<-hxe]
     obtain ⟨i1,i2⟩:=s9 S n (Af s (Am g x)) (w++ [x]) b YF hP (by rw [Au,Be];omega) hba qd kR (by omega) (QV S hs vu (by omega))
     have hdn:Gc (vG g low one ls depth (n+1) (Af s (Am g x)) (w++ [x]) b)=true:=by
      rw [show Gc (vG g low one ls depth (n+1) (Af s (Am g x)) (w++ [x]) b)=((vG g low one ls depth (n+1) (Af s (Am g x)) (w++ [x]) b).2.2.2.1||(decide (0<(vG g low one ls depth (n+1) (Af s (Am g x)) (w++ [x]) b).2.1)&&!(vG g low one ls depth (n+1) (Af s (Am g x)) (w++ [x]) b).2.2.2.2.1)) from rfl,i1,sV]
      simp
     have Pj:=sa (nx:= λs l=>Af s (Am g l)) (low:=low) (one:=one) (ls:=ls) (depth:=depth) (f:=n+1) (s:=s) (w:=w) xs _ hdn
     rw [Pj]
     exact ⟨i1,i2⟩
    ·rw [Ez hP] at hfd
     obtain ⟨i1,i2⟩:=uZ S (n+1) (Af s (Am g x)) (w++ [x]) b YF (depth:=depth) (by rw [Au,Be];omega)
     exact ih _ (λl hl=>hx l (Ao _ hl)) j1 (i1.trans qd) sV (by omega) hfd
  have hl:=Lg (List.length_filter_le (λl=>!(l== -Ji w)) ls) S.gu
  have hmf:=zn hl ht
  exact key (ls.filter λl=>!(l== -Ji w)) (v.1+1,v.2) (λl hl=>(Bs.1 hl).1) ha hm Jh (by show v.1+1+_<=20000;omega) (OW.trans oD)
end
section
variable {g:List (List Int)} {ls one:List Int} {L:List (List Int)} {D low low':List Int->Int} {depth:Int}
theorem QW {nx:List Int->Int->List Int} : ∀(f:Nat) (s w:List Int) (v:DS),v.1<=(vN nx low one ls depth f s w v).1
 |0,_,_,_=>Gi _
 |f+1,s,w,v=>by
  unfold vN
  split
  ·exact Gi _
  ·split
   ·show v.1<=v.1+1;omega
   ·split
    ·split<;>(show v.1<=v.1+1;omega)
    ·refine Qz (R:= λ(b:DS)=>v.1<=b.1) _ _ (by show v.1<=v.1+1;omega) λb l _ hb=>?_
     split
     ·exact hb
     ·exact Int.le_trans hb (QW f _ _ _)
theorem Abl {nx:List Int->Int->List Int} (f:Nat) (s w:List Int) (v:DS) (h: ¬v.1=20000):v.1+1<=(vN nx low one ls depth (f+1) s w v).1:=by
 rw [vN,Ai h]
 split
 ·exact Gi _
 ·split
  ·split<;>exact Gi _
  ·refine Qz (R:= λ(b:DS)=>v.1+1<=b.1) _ _ (Gi _) λb l _ hb=>?_
   split
   ·exact hb
   ·exact Int.le_trans hb (QW _ _ _ _)
theorem AR (S:eT g ls one L D low) (S':eT g ls one L D low') (hle: ∀x,low' x<=low x): ∀(n:Nat) (s w:List Int) (v v':DS),s∈L->(n:Int)<=D s->depth=w.length+n->
  v.2.2.2.1=false->v.2.1=0->v.2.2.2.2.1=false->v.1+tN (n+1)<=20000->v'.2.2.2.1=false->v'.2.1=0->v'.2.2.2.2.1=false->v'.1+tN (n+1)<=20000->
  (vG g low one ls depth (n+1) s w v).1-v.1<=(vG g low' one ls depth (n+1) s w v').1-v'.1
 |0,s,w,v,v',hs,hD,yL,ha,hm,Jh,hn,ha',hm',Afb,oE=>by
  simp only [tN] at hn oE
  have e: ∀(lo:List Int->Int) (u:DS),u.1+1<=20000->(vG g lo one ls depth (0+1) s w u).1=u.1+1:= λlo u hu=>by
   show (vN _ lo one ls depth (0+1) s w u).1=u.1+1
   rw [vN,Ai (by omega)]
   split
   ·rfl
   ·rw [Ab (by omega)]
    split<;>rfl
  rw [e low v (by omega),e low' v' (by omega)]
  omega
 |n+1,s,w,v,v',hs,hD,yL,ha,hm,Jh,hn,ha',hm',Afb,oE=>by
  have ht:=QS (n+1)
  have WD:tN (n+1+1)=1+4*tN (n+1):=rfl
  rw [WD] at hn oE
  have oD:=hle s
  by_cases tj:(w.length:Int)+low s>depth
  ·have e1:(vG g low one ls depth (n+1+1) s w v).1=v.1+1:=by
    show (vN _ low one ls depth (n+1+1) s w v).1=v.1+1
    rw [vN,Ai (by omega),Ab tj]
   have e2:=Abl (nx:= λs l=>Af s (Am g l)) (low:=low') (one:=one) (ls:=ls) (depth:=depth) (n+1) s w v' (by omega)
   rw [e1]
   show v.1+1-v.1<=(vN _ low' one ls depth (n+1+1) s w v').1-v'.1
   omega
  show (vN _ low one ls depth (n+1+1) s w v).1-v.1<=(vN _ low' one ls depth (n+1+1) s w v').1-v'.1
  rw [vN,Ai (by omega),vN,Ai (show ¬v'.1=20000 by omega)]
  rw [Ai tj,Ai (show ¬(w.length:Int)+low' s>depth by omega),Ai (show ¬(w.length:Int)=depth by omega),Ai (show ¬(w.length:Int)=depth by omega)]
  have key: ∀(xs:List Int) (b b':DS),(∀l∈xs,l∈ls)->b.2.2.2.1=false->b'.2.2.2.1=false->b.2.2.2.2.1=false->b'.2.2.2.2.1=false->b.2.1=0->b'.2.1=0->b.1+xs.length*tN (n+1)<=20000->b'.1+xs.length*tN (n+1)<=20000->b.1-v.1<=b'.1-v'.1->
    (xs.foldl (λ(v:DS) l=>if Gc v=true then v else vG g low one ls depth (n+1) (Af s (Am g l)) (w++ [l]) v) b).1-v.1<=
    (xs.foldl (λ(v:DS) l=>if Gc v=true then v else vG g low' one ls depth (n+1) (Af s (Am g l)) (w++ [l]) v) b').1-v'.1:=by
   intro xs
   induction xs with
   |nil=>intro b b' _ _ _ _ _ _ _ _ _ h;exact h
   |cons x xs ih=>
    intro b b' hx hba XP kR p6 qd XR HY Aqz Awq
    rw [Aw,Int.natCast_add,Int.add_mul] at HY Aqz
    have hp:0<=(xs.length:Int)*tN (n+1):=Int.mul_nonneg (by omega) ht
    have vu:=hx x (Fm ..)
    have BI: ¬Gc b=true:=by unfold Gc;rw [hba,kR,qd];simp
    have yQ: ¬Gc b'=true:=by unfold Gc;rw [XP,p6,XR];simp
    have Alq:=Mk.EZ S.hc S.hd hs vu
    have YF:=S.hc.next s hs x vu
    rw [Df,Ai BI,Df,Ai yQ]
    obtain ⟨j1,j2⟩:=eL (g:=g) (low:=low) (one:=one) (depth:=depth) S.gu (n+1) (Af s (Am g x)) (w++ [x]) b hba (by omega)
    obtain ⟨j1',j2'⟩:=eL (g:=g) (low:=low') (one:=one) (depth:=depth) S.gu (n+1) (Af s (Am g x)) (w++ [x]) b' XP (by omega)
    have sV: ∀(lo:List Int->Int) (b:DS),b.2.2.2.2.1=false->(vG g lo one ls depth (n+1) (Af s (Am g x)) (w++ [x]) b).2.2.2.2.1=false:= λlo b hb=>by
     have:=uY (nx:= λs l=>Af s (Am g l)) (low:=lo) (one:=one) (ls:=ls) (depth:=depth) (n+1) (Af s (Am g x)) (w++ [x]) b
     exact (Gz Prod.fst this).trans hb
    have hlen:depth=((w++ [x]).length:Int)+n:=by rw [Au,Be];omega
    by_cases hP:D (Af s (Am g x))=n
    ·by_cases hDs:D s=((n+1:Nat):Int)
     ·have Amk:=QV (w:=w) S hs vu (show D (Af s (Am g x))+1=D s by omega)
      have hmm:=AR S S' hle n (Af s (Am g x)) (w++ [x]) b b' YF (by omega) hlen hba qd kR (by omega) XP XR p6 (by omega)
      obtain ⟨i1,_⟩:=s9 S n (Af s (Am g x)) (w++ [x]) b YF hP hlen hba qd kR (by omega) Amk
      obtain ⟨i1',_⟩:=s9 S' n (Af s (Am g x)) (w++ [x]) b' YF hP hlen XP XR p6 (by omega) Amk
      have dn: ∀u:DS,u.2.1=1->u.2.2.2.2.1=false->Gc u=true:= λu h1 h2=>by unfold Gc;rw [h1,h2];simp
      rw [sa (nx:= λs l=>Af s (Am g l)) (s:=s) xs _ (dn _ i1 (sV low b kR)),sa (nx:= λs l=>Af s (Am g l)) (s:=s) xs _ (dn _ i1' (sV low' b' p6))]
      omega
     ·omega
    ·obtain ⟨i1,_⟩:=uZ S (n+1) (Af s (Am g x)) (w++ [x]) b YF (depth:=depth) (by omega)
     obtain ⟨i1',_⟩:=uZ S' (n+1) (Af s (Am g x)) (w++ [x]) b' YF (depth:=depth) (by omega)
     have hmm:=AR S S' hle n (Af s (Am g x)) (w++ [x]) b b' YF (by omega) hlen hba qd kR (by omega) XP XR p6 (by omega)
     exact ih _ _ (λl hl=>hx l (Ao _ hl)) j1 j1' (sV low b kR) (sV low' b' p6) (i1.trans qd) (i1'.trans XR) (by omega) (by omega) (by omega)
  have hl:=Lg (List.length_filter_le (λl=>!(l== -Ji w)) ls) S.gu
  have hmf:=zn hl ht
  exact key (ls.filter λl=>!(l== -Ji w)) (v.1+1,v.2) (v'.1+1,v'.2) (λl hl=>(Bs.1 hl).1) ha ha' Jh Afb hm hm' (by show v.1+1+_<=20000;omega) (by show v'.1+1+_<=20000;omega) (by show v.1+1-v.1<=v'.1+1-v'.1;omega)
end
theorem s6 {p:PP} {ts:List TT} (hw:Gq p=true) (ht:El p ts=true) (h2:p.2.2.1.length=2):
  eT p.2.2.1 (Ax p.2.2.1.length) (upto p.1.toNat) (Bd p) (Iq (Bd p) (Dp p)) (Ir ts) where
 hc:=Zd hw
 hd:=by
  have h:=We hw
  rw [show (Bd p).getD 0 []=upto p.1.toNat from (Vh (Ie hw).1).1] at h
  exact h
 adm x hx:=PW hw ht hx
 gu:=by rw [Oo,h2];exact Ap _
abbrev tB:Ty:= .slice (.int .u8)
abbrev IB:Ty:= .int .u64
def hN (h:Int):Int:=IntKind.u64.wrap (IntKind.u64.wrap (h*(6364136223846793005:Int))+(1442695040888963407:Int))
def xN (h:Int):Int:=IntKind.i64.wrap (IntKind.u64.wrap (↑(BitVec.ofInt IntKind.u64.bits (h.fdiv ((2:Int)^min (Int.toNat (33:Int)) IntKind.u64.bits))&&&BitVec.ofInt IntKind.u64.bits (16777215:Int)).toNat:Int))
def dI (b:List Int) (i:Int):Int:=if i<(b.length:Int) then i+1 else i
def dR (b:List Int) (i h n:Int):Int:=if i<(b.length:Int) then (xN (hN h)+Ih b i).tmod n else (xN (hN h)).tmod n
structure Xi (b:List Int) (i:Int):Prop where
 len:b.length<=4096
 byte: ∀y∈b,0<=y/\y<256
 lo:0<=i
 hi:i<=b.length
def GG:List Int->Int->Int
 | [],h=>h
 |c::r,h=>GG r (IntKind.u64.wrap (IntKind.u64.wrap (IntKind.u64.wrap (h*(1099511628211:Int))+IntKind.u64.wrap c)+(3:Int)))
def pf (b:List Int) (s:Int):Int:=GG b (IntKind.u64.wrap (IntKind.u64.wrap (s*(7919:Int))+IntKind.u64.wrap (b.length:Int)))
def Zx (b:List Int) (i h m:Int):Int×Int×Int:=(dI b (dI b i),hN (hN h),if dR b (dI b i) (hN h) 2=0 then-(1+dR b i h m) else 1+dR b i h m)
def wGo (b:List Int) (m:Int):Nat->Int->Int->List Int->Int×Int×List Int
 |0,i,h,w=>(i,h,w)
 |k+1,i,h,w=>wGo b m k (Zx b i h m).1 (Zx b i h m).2.1 (w++ [(Zx b i h m).2.2])
def Vm (b:List Int) (i h m k:Int):Int×Int×List Int:=wGo b m (dR b i h (k+1)).toNat (dI b i) (hN h) []
def fX (b:List Int) (n:Int):Nat->Int->Int->List Int->Int×Int×List Int
 |0,i,h,mv=>(i,h,mv)
 |k+1,i,h,mv=>fX b n k (dI b (dI b i)) (hN (hN h)) ((mv.set (dR b i h n).toNat (Ih mv (dR b (dI b i) (hN h) n))).set (dR b (dI b i) (hN h) n).toNat (Ih mv (dR b i h n)))
def pj (b:List Int) (n i h:Int):Int×Int×List Int:=fX b n (1+dR b i h 3).toNat (dI b i) (hN h) (upto n.toNat)
def aH (b:List Int) (n:Int):Nat->Int->Int->List (List Int)->Int×Int×List (List Int)
 |0,i,h,ms=>(i,h,ms)
 |k+1,i,h,ms=>aH b n k (pj b n i h).1 (pj b n i h).2.1 (ms++ [(pj b n i h).2.2])
def ZV:ByteArray:= {data:= #[(65:UInt8),(66:UInt8)]}
def aG (b:List Int) (i h:Int):Int×Int×PP:=((aH b (3+dR b i h 3) 2 (dI b i) (hN h) []).1,(aH b (3+dR b i h 3) 2 (dI b i) (hN h) []).2.1,(3+dR b i h 3,ZV,(aH b (3+dR b i h 3) 2 (dI b i) (hN h) []).2.2,()))
def WG (b:List Int) (n:Int):Nat->Int->Int->Int->List Int->Int×Int×List Int
 |0,_,i,h,o=>(i,h,o)
 |f+1,j,i,h,o=>if j<n/\o.length<3 then WG b n f (j+1) (dI b i) (hN h) (if dR b i h 2=0 then o++ [j] else o) else (i,h,o)
def XG (b:List Int) (n:Int) (r:Int×Int×List Int):Int×Int×List Int:=if r.2.2.length=0 then (dI b r.1,hN r.2.1,r.2.2++ [dR b r.1 r.2.1 n]) else r
def Nn (b:List Int) (i h n:Int):Int×Int×List Int:=XG b n (WG b n n.toNat 0 i h [])
noncomputable abbrev Aid:MSpec:= {Jj:= [none,none],ins:= [(false, .Eh tB),(false, .Eh IB)],Ib:=false,Hv:= [none,none,none],outs:= [.Eh tB, .Eh tI, .Eh IB],fn:= λ_=>none,rp:=some 69}
noncomputable abbrev pF:MSpec:=gY Aid (λx=>List.length x.1<=4096) (λx=>((x.1,0,pf x.1 x.2.1,()),()))
noncomputable abbrev Adw:MSpec:= {ptr:=some (69,3),Jj:= [none],ins:= [(false, .Eh tB),(false, .Eh tI),(false, .Eh IB),(false, .Eh tI)],Ib:=false,Hv:= [none],outs:= [.Eh tB, .Eh tI, .Eh IB, .Eh tI],fn:= λ_=>none}
noncomputable abbrev Ju:MSpec:=gY Adw (λx=>Xi x.1 x.2.1/\1<=x.2.2.2.1) (λx=>((x.1,dI x.1 x.2.1,hN x.2.2.1,dR x.1 x.2.1 x.2.2.1 x.2.2.2.1,()),()))
noncomputable abbrev Sr:Spec:=Hj (.pair tL (.pair tL .unit)) .bool false true (λx=>short x.1/\short x.2.1) (λx=>Gv x.1 x.2.1)
noncomputable abbrev eB:MSpec:=jZ [none] [(false, .Eh tI)] false [none] [rL] (λx=>0<=x.1/\x.1<=20) (λx=>((upto x.1.toNat,()),()))
noncomputable abbrev bt:MSpec:=jZ [none] [(false, .Eh tI)] false [none] [rL] (λx=>1<=x.1/\x.1<=20) (λx=>((upto x.1.toNat,()),()))
noncomputable abbrev Ui:Spec:=Hj (.pair tI .unit) tL false true (λx=>1<=x.1/\x.1<=20) (λx=>upto x.1.toNat)
noncomputable abbrev xM:Spec:=Hj (.pair tB .unit) .bool false true (λ_=>True) (λx=>decide ((List.length x.1:Int)>4096))
noncomputable abbrev An2:MSpec:= {ptr:=some (69,3),Jj:= [],ins:= [(false, .Eh tB),(false, .Eh tI),(false, .Eh IB)],Ib:=false,Hv:= [some 3],outs:= [.Eh tB, .Eh tI, .Eh IB, .Eh tI, .Eh .str,rLL],fn:= λ_=>none}
noncomputable abbrev xS:MSpec:=gY An2 (λx=>Xi x.1 x.2.1) (λx=>((x.1,(aG x.1 x.2.1 x.2.2.1).1,(aG x.1 x.2.1 x.2.2.1).2.1,(aG x.1 x.2.1 x.2.2.1).2.2.1,(aG x.1 x.2.1 x.2.2.1).2.2.2.1,(aG x.1 x.2.1 x.2.2.1).2.2.2.2.1,()),()))
noncomputable abbrev An1:MSpec:= {ptr:=some (69,3),Jj:= [none],ins:= [(false, .Eh tB),(false, .Eh tI),(false, .Eh IB),(false, .Eh tI)],Ib:=false,Hv:= [none],outs:= [.Eh tB, .Eh tI, .Eh IB, .Eh tI],fn:= λ_=>none}
noncomputable abbrev xR:MSpec:=gY An1 (λx=>Xi x.1 x.2.1/\1<=x.2.2.2.1/\x.2.2.2.1<=8) (λx=>((x.1,(Zx x.1 x.2.1 x.2.2.1 x.2.2.2.1).1,(Zx x.1 x.2.1 x.2.2.1 x.2.2.2.1).2.1,(Zx x.1 x.2.1 x.2.2.1 x.2.2.2.1).2.2,()),()))
noncomputable abbrev An5:MSpec:= {ptr:=some (69,3),Jj:= [none,none],ins:= [(false, .Eh tB),(false, .Eh tI),(false, .Eh IB),(false, .Eh tI),(false, .Eh tI)],Ib:=false,Hv:= [none],outs:= [.Eh tB, .Eh tI, .Eh IB,rL],fn:= λ_=>none}
noncomputable abbrev qF:MSpec:=gY An5 (λx=>Xi x.1 x.2.1/\(1<=x.2.2.2.1/\x.2.2.2.1<=8)/\0<=x.2.2.2.2.1/\x.2.2.2.2.1<=20) (λx=>((x.1,(Vm x.1 x.2.1 x.2.2.1 x.2.2.2.1 x.2.2.2.2.1).1,(Vm x.1 x.2.1 x.2.2.1 x.2.2.2.1 x.2.2.2.2.1).2.1,(Vm x.1 x.2.1 x.2.2.1 x.2.2.2.1 x.2.2.2.2.1).2.2,()),()))
noncomputable abbrev An4:MSpec:= {ptr:=some (69,3),Jj:= [some 3],ins:= [(false, .Eh tB),(false, .Eh tI),(false, .Eh IB),(false, .Eh tI),(false, .Eh .str),(false, .Eh kB)],Ib:=false,Hv:= [none],outs:= [.Eh tB, .Eh tI, .Eh IB,rL],fn:= λ_=>none}
noncomputable abbrev Xo:MSpec:=gY An4 (λx=>Xi x.1 x.2.1/\1<=x.2.2.2.1/\x.2.2.2.1<=20) (λx=>((x.1,(Nn x.1 x.2.1 x.2.2.1 x.2.2.2.1).1,(Nn x.1 x.2.1 x.2.2.1 x.2.2.2.1).2.1,(Nn x.1 x.2.1 x.2.2.1 x.2.2.2.1).2.2,()),()))
theorem Ajm (code:List Int) (MH:Int) (P:((List Int×Int×Int×Unit)×Unit)->Prop):(Di (λ(v3:Int×List Int×Int×Int×PUnit) (k4:Int×List Int×Int×Int×PUnit->Prop)=>Br (decide (v3.1<(↑code.length:Int))) (∃(y5:Int),idx code v3.1=some y5/\k4 (IntKind.i64.wrap (v3.1+(1:Int)),v3.2.1,v3.2.2.1,IntKind.u64.wrap (IntKind.u64.wrap (IntKind.u64.wrap (v3.2.2.2.1*(1099511628211:Int))+IntKind.u64.wrap y5)+(3:Int)),())) (P ((v3.2.1,v3.2.2.1,v3.2.2.2.1,()),()))) ((0:Int),code,Int.ofNat (nat_lit 0),IntKind.u64.wrap (IntKind.u64.wrap (MH*(7919:Int))+IntKind.u64.wrap (↑code.length:Int)),PUnit.unit))=fnMW Rk (look []) pF Tryz.f9 (code,MH,()) P:=by kernel_rfl
theorem Aen (b:List Int) (i h n:Int) (P:((List Int×Int×Int×Int×Unit)×Unit)->Prop):(¬(33:Int)<(0:Int)/\Br (decide (i<(↑b.length:Int))) (∃(y5:Int),idx b i=some y5/\n≠(0:Int)/\P ((b,IntKind.i64.wrap (i+(1:Int)),IntKind.u64.wrap (IntKind.u64.wrap (h*(6364136223846793005:Int))+(1442695040888963407:Int)),(IntKind.i64.wrap (IntKind.i64.wrap (IntKind.u64.wrap (↑(BitVec.ofInt IntKind.u64.bits ((IntKind.u64.wrap (IntKind.u64.wrap (h*(6364136223846793005:Int))+(1442695040888963407:Int))).fdiv ((2:Int)^min (Int.toNat (33:Int)) IntKind.u64.bits))&&&BitVec.ofInt IntKind.u64.bits (16777215:Int)).toNat:Int))+IntKind.i64.wrap y5)).tmod n,()),())) (n≠(0:Int)/\P ((b,i,IntKind.u64.wrap (IntKind.u64.wrap (h*(6364136223846793005:Int))+(1442695040888963407:Int)),(IntKind.i64.wrap (IntKind.u64.wrap (↑(BitVec.ofInt IntKind.u64.bits ((IntKind.u64.wrap (IntKind.u64.wrap (h*(6364136223846793005:Int))+(1442695040888963407:Int))).fdiv ((2:Int)^min (Int.toNat (33:Int)) IntKind.u64.bits))&&&BitVec.ofInt IntKind.u64.bits (16777215:Int)).toNat:Int))).tmod n,()),())))=fnMW Rk (look []) Ju Tryz.f23 (b,i,h,n,()) P:=by kernel_rfl
theorem NS (a b:List Int) (P:Bool->Prop):(Br ((↑a.length:Int) !=(↑b.length:Int)) (P false) (Di (λ(v3:Int×PUnit) (k4:Int×PUnit->Prop)=>Br (decide (v3.1<(↑a.length:Int))) (∃(y5:Int),idx a v3.1=some y5/\ ∃(y6:Int),idx b v3.1=some y6/\Br (y5 !=y6) (P false) (k4 (IntKind.i64.wrap (v3.1+(1:Int)),()))) (P true)) ((0:Int),PUnit.unit)))=fnW Gr (look []) Sr Tryz.f16 (a,b,()) P:=by kernel_rfl
theorem Ao3 (code:List Int) (P:Bool->Prop):(P (decide ((↑code.length:Int)>(4096:Int))))=fnW Gr (look []) xM Tryz.f8 (code,()) P:=by kernel_rfl
theorem Abu (n:Int) (P:((List Int×Unit)×Unit)->Prop):(0=0/\0=([]:List Int).length/\Di (λ(v2:Int×List Int×PUnit) (k3:Int×List Int×PUnit->Prop)=>Br (decide (v2.1<n)) (0=0/\v2.2.1.length=v2.2.1.length/\v2.2.1.length+(List.take 1 (List.drop 0 [v2.1])).length<=Dj/\0=0/\(v2.2.1++List.take 1 (List.drop 0 [v2.1])).length=(v2.2.1++List.take 1 (List.drop 0 [v2.1])).length/\k3 (IntKind.i64.wrap (v2.1+(1:Int)),v2.2.1++List.take 1 (List.drop 0 [v2.1]),())) (P ((List.take v2.2.1.length (List.drop 0 v2.2.1),()),()))) ((0:Int),[],PUnit.unit))=fnMW Rk (look []) eB Tryz.f96 (n,()) P:=by kernel_rfl
theorem VQ (n:Int) (P:((List Int×Unit)×Unit)->Prop):(∃(y2:Bool),Cr.fn (n,(1:Int),(20:Int),())=some y2/\Br (!y2) (P ((List.take 0 (List.drop 0 []),()),())) (∃(y3:(List Int×PUnit)×PUnit),eB.fn (n,())=some y3/\P ((List.take y3.1.1.length (List.drop 0 y3.1.1),()),())))=fnMW Rk (look [(95,Cr),(96,eB)]) bt Tryz.f42 (n,()) P:=by kernel_rfl
theorem Abz (n:Int) (P:List Int->Prop):(∃(y2:Bool),Cr.fn (n,(1:Int),(20:Int),())=some y2/\Br (!y2) (P (List.take 0 (List.drop 0 []))) (∃(y3:List Int),Dl.fn (n,())=some y3/\P y3))=fnW Gr (look [(95,Cr),(96,Dl)]) Ui Tryz.f42 (n,()) P:=by kernel_rfl
abbrev Aay:Type:=Int×Int×ByteArray×Int×ByteArray×List (List Int)×List (List Int)×List Int×List Int×Int×Int×PUnit
abbrev Ab2:Type:=Int×ByteArray×Int×ByteArray×List (List Int)×List (List Int)×List Int×Int×Int×PUnit
abbrev AN:Type:=(List Int×Int×Int×Int×PUnit)×PUnit
theorem Aob (b:List Int) (i h:Int) (P:((List Int×Int×Int×Int×ByteArray×List (List Int)×Unit)×Unit)->Prop):(∃(y4:AN),Ju.fn (b,i,h,(3:Int),())=some y4/\0=0/\0=([]:List Int).length/\0=0/\0=([]:List Int).length/\Di (λ(v5:Ab2) (k6:Ab2->Prop)=>Br (decide ((↑v5.2.2.2.2.2.1.length:Int)<(2:Int))) (∃(y7:(List Int×PUnit)×PUnit),bt.fn (v5.2.2.1,())=some y7/\ ∃(y8:AN),Ju.fn (v5.2.2.2.2.2.2.1,v5.2.2.2.2.2.2.2.1,v5.2.2.2.2.2.2.2.2.1,(3:Int),())=some y8/\0=0/\y7.1.1.length=y7.1.1.length/\0=0/\v5.2.2.2.2.1.length=v5.2.2.2.2.1.length/\0=0/\v5.2.2.2.2.2.1.length=v5.2.2.2.2.2.1.length/\Di (λ(v9:Aay) (k10:Aay->Prop)=>Br (decide (v9.1>(0:Int))) (∃(Ix:AN),Ju.fn (v9.2.2.2.2.2.2.2.2.1,v9.2.2.2.2.2.2.2.2.2.1,v9.2.2.2.2.2.2.2.2.2.2.1,v9.2.2.2.1,())=some Ix/\ ∃(Jf:AN),Ju.fn (Ix.1.1,Ix.1.2.1,Ix.1.2.2.1,v9.2.2.2.1,())=some Jf/\((0:Int)<=Ix.1.2.2.2.1/\Ix.1.2.2.2.1<(↑v9.2.2.2.2.2.2.2.1.length:Int))/\ ∃(Hl:Int),v9.2.2.2.2.2.2.2.1[0+Ix.1.2.2.2.1.toNat]?=some Hl/\((0:Int)<=Jf.1.2.2.2.1/\Jf.1.2.2.2.1<(↑v9.2.2.2.2.2.2.2.1.length:Int))/\ ∃(Iu:Int),v9.2.2.2.2.2.2.2.1[0+Jf.1.2.2.2.1.toNat]?=some Iu/\((0:Int)<=Ix.1.2.2.2.1/\Ix.1.2.2.2.1<(↑v9.2.2.2.2.2.2.2.1.length:Int))/\0+Ix.1.2.2.2.1.toNat<v9.2.2.2.2.2.2.2.1.length/\((0:Int)<=Jf.1.2.2.2.1/\Jf.1.2.2.2.1<(↑v9.2.2.2.2.2.2.2.1.length:Int))/\0+Jf.1.2.2.2.1.toNat<(v9.2.2.2.2.2.2.2.1.set (0+Ix.1.2.2.2.1.toNat) Iu).length/\0=0/\v9.2.2.2.2.2.2.2.1.length=((v9.2.2.2.2.2.2.2.1.set (0+Ix.1.2.2.2.1.toNat) Iu).set (0+Jf.1.2.2.2.1.toNat) Hl).length/\0=0/\v9.2.2.2.2.2.1.length=v9.2.2.2.2.2.1.length/\0=0/\v9.2.2.2.2.2.2.1.length=v9.2.2.2.2.2.2.1.length/\k10 (IntKind.i64.wrap (v9.1-(1:Int)),v9.2.1,v9.2.2.1,v9.2.2.2.1,v9.2.2.2.2.1,v9.2.2.2.2.2.1,v9.2.2.2.2.2.2.1,(v9.2.2.2.2.2.2.2.1.set (0+Ix.1.2.2.2.1.toNat) Iu).set (0+Jf.1.2.2.2.1.toNat) Hl,Jf.1.1,Jf.1.2.1,Jf.1.2.2.1,())) (0=0/\v9.2.2.2.2.2.2.1.length=v9.2.2.2.2.2.2.1.length/\v9.2.2.2.2.2.2.1.length+(List.take 1 (List.drop 0 [List.take v9.2.2.2.2.2.2.2.1.length (List.drop 0 v9.2.2.2.2.2.2.2.1)])).length<=Dj/\0=0/\v9.2.2.2.2.2.1.length=v9.2.2.2.2.2.1.length/\0=0/\(v9.2.2.2.2.2.2.1++List.take 1 (List.drop 0 [List.take v9.2.2.2.2.2.2.2.1.length (List.drop 0 v9.2.2.2.2.2.2.2.1)])).length=(v9.2.2.2.2.2.2.1++List.take 1 (List.drop 0 [List.take v9.2.2.2.2.2.2.2.1.length (List.drop 0 v9.2.2.2.2.2.2.2.1)])).length/\k6 (v9.2.1,v9.2.2.1,v9.2.2.2.1,v9.2.2.2.2.1,v9.2.2.2.2.2.1,v9.2.2.2.2.2.2.1++List.take 1 (List.drop 0 [List.take v9.2.2.2.2.2.2.2.1.length (List.drop 0 v9.2.2.2.2.2.2.2.1)]),v9.2.2.2.2.2.2.2.2.1,v9.2.2.2.2.2.2.2.2.2.1,v9.2.2.2.2.2.2.2.2.2.2.1,()))) (IntKind.i64.wrap ((1:Int)+y8.1.2.2.2.1),v5.1,v5.2.1,v5.2.2.1,v5.2.2.2.1,v5.2.2.2.2.1,v5.2.2.2.2.2.1,y7.1.1,y8.1.1,y8.1.2.1,y8.1.2.2.1,PUnit.unit)) (P ((v5.2.2.2.2.2.2.1,v5.2.2.2.2.2.2.2.1,v5.2.2.2.2.2.2.2.2.1,v5.2.2.1,v5.2.2.2.1,List.take v5.2.2.2.2.2.1.length (List.drop 0 v5.2.2.2.2.2.1),()),()))) (Int.ofNat (nat_lit 0), {data:= #[]},IntKind.i64.wrap ((3:Int)+y4.1.2.2.2.1), {data:= #[(65:UInt8),(66:UInt8)]},[],[],y4.1.1,y4.1.2.1,y4.1.2.2.1,PUnit.unit))=fnMW Rk (look [(23,Ju),(42,bt)]) xS Tryz.f10 (b,i,h,()) P:=by kernel_rfl
abbrev Aax:Type:=(List Int×Int×Int×Int×PUnit)×PUnit
theorem Aoa (b:List Int) (i h m:Int) (P:((List Int×Int×Int×Int×Unit)×Unit)->Prop):(∃(y5:Aax),Ju.fn (b,i,h,m,())=some y5/\ ∃(y6:Aax),Ju.fn (y5.1.1,y5.1.2.1,y5.1.2.2.1,(2:Int),())=some y6/\Br (y6.1.2.2.2.1==(0:Int)) (P ((y6.1.1,y6.1.2.1,y6.1.2.2.1,IntKind.i64.wrap ((0:Int)-IntKind.i64.wrap ((1:Int)+y5.1.2.2.2.1)),()),())) (P ((y6.1.1,y6.1.2.1,y6.1.2.2.1,IntKind.i64.wrap ((1:Int)+y5.1.2.2.2.1),()),())))=fnMW Rk (look [(23,Ju)]) xR Tryz.f76 (b,i,h,m,()) P:=by kernel_rfl
abbrev Ab0:Type:=Int×List Int×List Int×Int×Int×PUnit
abbrev Ab3:Type:=(List Int×Int×Int×Int×PUnit)×PUnit
theorem Aoe (b:List Int) (i h m k:Int) (P:((List Int×Int×Int×List Int×Unit)×Unit)->Prop):(∃(y6:Ab3),Ju.fn (b,i,h,IntKind.i64.wrap (k+(1:Int)),())=some y6/\0=0/\0=([]:List Int).length/\Di (λ(v7:Ab0) (k8:Ab0->Prop)=>Br (decide (v7.1>(0:Int))) (∃(y9:Ab3),xR.fn (v7.2.2.1,v7.2.2.2.1,v7.2.2.2.2.1,m,())=some y9/\0=0/\v7.2.1.length=v7.2.1.length/\v7.2.1.length+(List.take 1 (List.drop 0 [y9.1.2.2.2.1])).length<=Dj/\0=0/\(v7.2.1++List.take 1 (List.drop 0 [y9.1.2.2.2.1])).length=(v7.2.1++List.take 1 (List.drop 0 [y9.1.2.2.2.1])).length/\k8 (IntKind.i64.wrap (v7.1-(1:Int)),v7.2.1++List.take 1 (List.drop 0 [y9.1.2.2.2.1]),y9.1.1,y9.1.2.1,y9.1.2.2.1,())) (P ((v7.2.2.1,v7.2.2.2.1,v7.2.2.2.2.1,List.take v7.2.1.length (List.drop 0 v7.2.1),()),()))) (y6.1.2.2.2.1,[],y6.1.1,y6.1.2.1,y6.1.2.2.1,PUnit.unit))=fnMW Rk (look [(23,Ju),(76,xR)]) qF Tryz.f32 (b,i,h,m,k,()) P:=by kernel_rfl
abbrev Aaz:Type:=Int×Int×ByteArray×List (List Int)×List Int×List Int×Int×Int×PUnit
abbrev NC:Type:=(List Int×Int×Int×Int×PUnit)×PUnit
theorem Aod (b:List Int) (i h n:Int) (str:ByteArray) (g:List (List Int)) (P:((List Int×Int×Int×List Int×Unit)×Unit)->Prop):(0=0/\0=([]:List Int).length/\Di (λ(v7:Aaz) (k8:Aaz->Prop)=>Br (decide (v7.1<v7.2.1)) (Br (decide ((↑v7.2.2.2.2.1.length:Int)<(3:Int))) (∃(y9:NC),Ju.fn (v7.2.2.2.2.2.1,v7.2.2.2.2.2.2.1,v7.2.2.2.2.2.2.2.1,(2:Int),())=some y9/\Br (y9.1.2.2.2.1==(0:Int)) (0=0/\v7.2.2.2.2.1.length=v7.2.2.2.2.1.length/\v7.2.2.2.2.1.length+(List.take 1 (List.drop 0 [v7.1])).length<=Dj/\0=0/\(v7.2.2.2.2.1++List.take 1 (List.drop 0 [v7.1])).length=(v7.2.2.2.2.1++List.take 1 (List.drop 0 [v7.1])).length/\k8 (IntKind.i64.wrap (v7.1+(1:Int)),v7.2.1,v7.2.2.1,v7.2.2.2.1,v7.2.2.2.2.1++List.take 1 (List.drop 0 [v7.1]),y9.1.1,y9.1.2.1,y9.1.2.2.1,())) (0=0/\v7.2.2.2.2.1.length=v7.2.2.2.2.1.length/\k8 (IntKind.i64.wrap (v7.1+(1:Int)),v7.2.1,v7.2.2.1,v7.2.2.2.1,v7.2.2.2.2.1,y9.1.1,y9.1.2.1,y9.1.2.2.1,()))) (Br ((↑v7.2.2.2.2.1.length:Int)==(0:Int)) (∃(y9:NC),Ju.fn (v7.2.2.2.2.2.1,v7.2.2.2.2.2.2.1,v7.2.2.2.2.2.2.2.1,v7.2.1,())=some y9/\0=0/\v7.2.2.2.2.1.length=v7.2.2.2.2.1.length/\v7.2.2.2.2.1.length+(List.take 1 (List.drop 0 [y9.1.2.2.2.1])).length<=Dj/\P ((y9.1.1,y9.1.2.1,y9.1.2.2.1,List.take (v7.2.2.2.2.1++List.take 1 (List.drop 0 [y9.1.2.2.2.1])).length (List.drop 0 (v7.2.2.2.2.1++List.take 1 (List.drop 0 [y9.1.2.2.2.1]))),()),())) (P ((v7.2.2.2.2.2.1,v7.2.2.2.2.2.2.1,v7.2.2.2.2.2.2.2.1,List.take v7.2.2.2.2.1.length (List.drop 0 v7.2.2.2.2.1),()),())))) (Br ((↑v7.2.2.2.2.1.length:Int)==(0:Int)) (∃(y9:NC),Ju.fn (v7.2.2.2.2.2.1,v7.2.2.2.2.2.2.1,v7.2.2.2.2.2.2.2.1,v7.2.1,())=some y9/\0=0/\v7.2.2.2.2.1.length=v7.2.2.2.2.1.length/\v7.2.2.2.2.1.length+(List.take 1 (List.drop 0 [y9.1.2.2.2.1])).length<=Dj/\P ((y9.1.1,y9.1.2.1,y9.1.2.2.1,List.take (v7.2.2.2.2.1++List.take 1 (List.drop 0 [y9.1.2.2.2.1])).length (List.drop 0 (v7.2.2.2.2.1++List.take 1 (List.drop 0 [y9.1.2.2.2.1]))),()),())) (P ((v7.2.2.2.2.2.1,v7.2.2.2.2.2.2.1,v7.2.2.2.2.2.2.2.1,List.take v7.2.2.2.2.1.length (List.drop 0 v7.2.2.2.2.1),()),())))) ((0:Int),n,str,g,[],b,i,h,PUnit.unit))=fnMW Rk (look [(23,Ju)]) Xo Tryz.f25 (b,i,h,n,str,g,()) P:=by kernel_rfl
theorem Agk (h:Int):0<=xN h/\xN h<=16777215:=by
 obtain ⟨a,ha⟩: ∃a,BitVec.ofInt IntKind.u64.bits (h.fdiv ((2:Int)^min (Int.toNat (33:Int)) IntKind.u64.bits))=a:=⟨_,rfl⟩
 have h1:(a&&&BitVec.ofInt IntKind.u64.bits (16777215:Int)).toNat<=16777215:=by
  rw [BitVec.toNat_and]
  exact Nat.and_le_right
 unfold xN
 rw [ha]
 obtain ⟨x,hx⟩: ∃x,(a&&&BitVec.ofInt IntKind.u64.bits (16777215:Int)).toNat=x:=⟨_,rfl⟩
 rw [hx] at h1⊢
 have e:IntKind.u64.wrap (x:Int)=x:=by
  unfold IntKind.wrap
  have e1:IntKind.signed .u64=false:=rfl
  have e2:IntKind.bits .u64=64:=rfl
  rw [e1,e2]
  simp only [Bool.false_and,Cz,Ry]
  omega
 rw [e,Cn (by omega) (by omega)]
 omega
theorem Xi.Ih {b:List Int} {i:Int} (h:Xi b i) (hi:i<b.length):0<=Ih b i/\Ih b i<256:=by
 have h0:=h.lo
 have hl:i.toNat<b.length:=by omega
 refine h.byte _ ?_
 unfold Go.Proofs.YtkkdpknjohcekaaGreat.Ih
 rw [Aj,Ac hl]
 exact Al hl
theorem Xi.next {b:List Int} {i:Int} (h:Xi b i):Xi b (dI b i):=by
 have h0:=h.lo
 have h1:=h.hi
 unfold dI
 split
 ·exact ⟨h.len,h.byte,by omega,by omega⟩
 ·exact h
theorem cD {b:List Int} {i n:Int} (h:Xi b i) (hn:1<=n) (s:Int):0<=dR b i s n/\dR b i s n<n:=by
 have hx:=Agk (hN s)
 unfold dR
 split
 ·rename_i hi
  have:=h.Ih hi
  exact ⟨Int.tmod_nonneg _ (by omega),Int.tmod_lt_of_pos _ (by omega)⟩
 ·exact ⟨Int.tmod_nonneg _ (by omega),Int.tmod_lt_of_pos _ (by omega)⟩
theorem Aiv (code:List Int) (MH:Int) (h:code.length<=4096):fnMW Rk (look []) pF Tryz.f9 (code,MH,()) (λ(z:(List Int×Int×Int×Unit)×Unit)=>z=((code,0,pf code MH,()),())):=by
 obtain ⟨R,hR⟩: ∃R,pf code MH=R:=⟨_,rfl⟩
 rw [hR]
 unfold pf at hR
 refine Eq.mp (Ajm code MH _) ?_
 refine Bw code.length (λv=>v.1) (λj v=>v.2.1=code/\v.2.2.1=0/\GG (code.drop j) v.2.2.2.1=R) rfl ⟨rfl,rfl,hR⟩ ?_
 rintro j ⟨jj,c,i,s,⟨⟩⟩ K hj rV ⟨r1,r2,r3⟩ hK
 dsimp only at rV r1 r2 r3⊢
 subst rV r1 r2
 refine Br.dec (λhl=>?_) λhl=>?_
 ·have hl:j<c.length:=by omega
  refine ⟨_,Cj hl,?_⟩
  rw [Bz (by omega)]
  rw [Fg hl,GG] at r3
  exact hK hl _ rfl ⟨rfl,rfl,r3⟩
 ·have:j=c.length:=by omega
  subst this
  rw [Tj,GG] at r3
  rw [r3]
theorem MS:Cl Tryz.prog 9 pF:=
 Cl.gY Qm Bo mixed Tryz.func9 (by kernel_rfl) (by kernel_rfl) λx h=>Aiv x.1 x.2.1 h
theorem Ae3 (b:List Int) (i h n:Int) (hd:Xi b i/\1<=n):fnMW Rk (look []) Ju Tryz.f23 (b,i,h,n,()) (λ(z:(List Int×Int×Int×Int×Unit)×Unit)=>z=((b,dI b i,hN h,dR b i h n,()),())):=by
 obtain ⟨hd,hn⟩:=hd
 have h0:=hd.lo
 have hlen:=hd.len
 have hx:=Agk (hN h)
 refine Eq.mp (Aen b i h n _) ⟨by omega,Br.dec (λhl=>?_) λhl=>?_⟩
 ·have hg:=hd.Ih hl
  refine ⟨_,iU h0 hl,by omega,?_⟩
  rw [Cn (n:=Ih b i) (by omega) (by omega)]
  show ((b,IntKind.i64.wrap (i+1),hN h,(IntKind.i64.wrap (xN (hN h)+Ih b i)).tmod n,()),())=_
  rw [Cn (by omega) (by omega),Cn (by omega) (by omega)]
  unfold dI dR
  rw [Ab hl,Ab hl]
 ·refine ⟨by omega,?_⟩
  show ((b,i,hN h,(xN (hN h)).tmod n,()),())=_
  unfold dI dR
  rw [Ai hl,Ai hl]
theorem aa:Cl Tryz.prog 23 Ju:=
 Cl.gY Qm Bo mixed Tryz.func23 (by kernel_rfl) (by kernel_rfl) λx h=>Ae3 x.1 x.2.1 x.2.2.1 x.2.2.2.1 h
theorem Ane (code:List Int) (_:True):fnW Gr (look []) xM Tryz.f8 (code,()) (λ(z:Bool)=>z=decide ((code.length:Int)>4096)):=Eq.mp (Ao3 code _) rfl
theorem UG:Sound Tryz.prog 8 xM:=
 Sound.Hj Ee Bo mixed Tryz.func8 (by kernel_rfl) (by kernel_rfl) λx h=>Ane x.1 h
theorem Anl (b:List Int) (i h m:Int) (hd:Xi b i/\1<=m/\m<=8):fnMW Rk (look [(23,Ju)]) xR Tryz.f76 (b,i,h,m,()) (λ(z:(List Int×Int×Int×Int×Unit)×Unit)=>z=((b,(Zx b i h m).1,(Zx b i h m).2.1,(Zx b i h m).2.2,()),())):=by
 obtain ⟨hd,h1,h8⟩:=hd
 have hr:=cD hd h1 h
 refine Eq.mp (Aoa b i h m _) ⟨_,Ab ⟨hd,h1⟩,_,Ab ⟨hd.next,by show (1:Int)<=2;decide⟩,Br.of (λhz=>?_) λhz=>?_⟩
 ·have hz:dR b (dI b i) (hN h) 2=0:=by simpa using hz
  show ((b,dI b (dI b i),hN (hN h),IntKind.i64.wrap (0-IntKind.i64.wrap (1+dR b i h m)),()),())=_
  rw [Cn (n:=1+dR b i h m) (by omega) (by omega),Cn (by omega) (by omega)]
  unfold Zx
  rw [Ab hz,Int.zero_sub]
 ·have hz: ¬dR b (dI b i) (hN h) 2=0:=by simpa using hz
  show ((b,dI b (dI b i),hN (hN h),IntKind.i64.wrap (1+dR b i h m),()),())=_
  rw [Cn (by omega) (by omega)]
  unfold Zx
  rw [Ai hz]
theorem UM:Cl Tryz.prog 76 xR:=
 Cl.gY Qm (Fp aa Bo) mixed Tryz.func76 (by kernel_rfl) (by kernel_rfl) λx h=>Anl x.1 x.2.1 x.2.2.1 x.2.2.2.1 h
theorem LI (a b:List Int) (h:short a/\short b):fnW Gr (look []) Sr Tryz.f16 (a,b,()) (λ(z:Bool)=>z=Gv a b):=by
 refine Eq.mp (NS a b _) ⟨λhl=>?_,λhl=>?_⟩
 ·simp only [bne_iff_ne,ne_eq,Jy] at hl
  exact (Ez λkQ=>hl (by rw [kQ])).symm
 ·simp only [Rx,Jy] at hl
  exact yz a b hl h.1
theorem uF:Sound Tryz.prog 16 Sr:=
 Sound.Hj Ee Bo mixed Tryz.func16 (by kernel_rfl) (by kernel_rfl) λx h=>LI x.1 x.2.1 h
theorem Aa3 (n:Int) (h:0<=n/\n<=20):fnMW Rk (look []) eB Tryz.f96 (n,()) (λ(z:(List Int×Unit)×Unit)=>z=((upto n.toNat,()),())):=by
 refine Eq.mp (Abu n _) ⟨rfl,rfl,?_⟩
 refine Bw n.toNat (λv=>v.1) (λj v=>v.2.1=upto j) rfl rfl ?_
 rintro j ⟨i,ys,⟨⟩⟩ K hj hi h1 hK
 dsimp only at hi h1⊢
 subst hi h1
 refine Br.dec (λhl=>?_) λhl=>?_
 ·refine ⟨rfl,rfl,?_,rfl,rfl,?_⟩
  ·show (upto j).length+1<=4294967296
   rw [Sv];omega
  ·rw [Bz (by omega)]
   exact hK (by omega) _ rfl (eK j).symm
 ·have:j=n.toNat:=by omega
  subst this
  rw [Bv]
theorem zV:Cl Tryz.prog 96 eB:=
 Cl.jZ Qm Bo mixed Tryz.func96 (by kernel_rfl) (by kernel_rfl) λx h=>Aa3 x.1 h
theorem TP (n:Int) (h:1<=n/\n<=20):fnMW Rk (look [(95,Cr),(96,eB)]) bt Tryz.f42 (n,()) (λ(z:(List Int×Unit)×Unit)=>z=((upto n.toNat,()),())):=by
 refine Eq.mp (VQ n _) ⟨true,Ab trivial|>.trans (Gz some (Cy ⟨h.1,h.2⟩)),λhc=>(by cases hc),λ_=>⟨_,Ab ⟨by show 0<=n;omega,h.2⟩,?_⟩⟩
 rw [Bv]
theorem wv:Cl Tryz.prog 42 bt:=
 Cl.jZ Qm (Ba Rh (Fp zV Bo)) mixed Tryz.func42 (by kernel_rfl) (by kernel_rfl) λx h=>TP x.1 h
theorem Aa8 (n:Int) (h:1<=n/\n<=20):fnW Gr (look [(95,Cr),(96,Dl)]) Ui Tryz.f42 (n,()) (λ(z:List Int)=>z=upto n.toNat):=
 Eq.mp (Abz n _) ⟨true,Ab trivial|>.trans (Gz some (Cy ⟨h.1,h.2⟩)),λhc=>(by cases hc),λ_=>⟨_,Ab ⟨by show 0<=n;omega,h.2⟩,rfl⟩⟩
theorem zZ:Sound Tryz.prog 42 Ui:=
 Sound.Hj Ee (Ba Rh (Ba c9 Bo)) mixed Tryz.func42 (by kernel_rfl) (by kernel_rfl) λx h=>Aa8 x.1 h
theorem QX {b:List Int} {i:Int} (hd:Xi b i) (h m:Int):Xi b (Zx b i h m).1:=hd.next.next
theorem Anp (b:List Int) (i h m k:Int) (hd:Xi b i/\(1<=m/\m<=8)/\0<=k/\k<=20):fnMW Rk (look [(23,Ju),(76,xR)]) qF Tryz.f32 (b,i,h,m,k,()) (λ(z:(List Int×Int×Int×List Int×Unit)×Unit)=>z=((b,(Vm b i h m k).1,(Vm b i h m k).2.1,(Vm b i h m k).2.2,()),())):=by
 obtain ⟨hd,hm,vq,hk⟩:=hd
 have hr:=cD hd (show 1<=k+1 by omega) h
 obtain ⟨R,hR⟩: ∃R,Vm b i h m k=R:=⟨_,rfl⟩
 rw [hR]
 unfold Vm at hR
 refine Eq.mp (Aoe b i h m k _) ?_
 rw [Cn (by omega) (by omega)]
 refine ⟨_,Ab ⟨hd,by show 1<=k+1;omega⟩,rfl,rfl,?_⟩
 refine Di.mk (λy=> ∃(f:Nat) (i h:Int) (w:List Int),y=((f:Int),w,b,i,h,())/\Xi b i/\f+w.length<=20/\wGo b m f i h w=R) (λy=>y.1.toNat)
  ⟨(dR b i h (k+1)).toNat,dI b i,hN h,[],by rw [gi hr.1],hd.next,by simp only [Eo];omega,hR⟩ ?_
 rintro y ⟨f,i,h,w,rfl,hd,hl,hv⟩
 dsimp only
 refine Br.dec (λhf=>?_) λhf=>?_
 ·obtain ⟨f,rfl⟩: ∃f',f=f'+1:=⟨f-1,by omega⟩
  refine ⟨_,Ab ⟨hd,hm⟩,rfl,rfl,by show w.length+1<=4294967296;omega,rfl,rfl,?_⟩
  rw [Cn (by omega) (by omega)]
  rw [wGo] at hv
  exact ⟨⟨f,_,_,_,by rw [show ((f+1:Nat):Int)-1=(f:Int) by omega];rfl,QX hd h m,by rw [Au];show f+(w.length+1)<=20;omega,hv⟩,by show ((((f+1:Nat):Int)-1).toNat)<(((f+1:Nat):Int)).toNat;omega⟩
 ·obtain rfl:f=0:=by omega
  rw [wGo] at hv
  rw [<-hv]
  simp only [Bv]
theorem UQ:Cl Tryz.prog 32 qF:=
 Cl.gY Qm (Fp aa (Fp UM Bo)) mixed Tryz.func32 (by kernel_rfl) (by kernel_rfl) λx h=>Anp x.1 x.2.1 x.2.2.1 x.2.2.2.1 x.2.2.2.2.1 h
theorem GW {b:List Int} (n:Int): ∀(k:Nat) (i h:Int) (mv:List Int),Xi b i->Xi b (fX b n k i h mv).1
 |0,_,_,_,hd=>hd
 |k+1,i,h,mv,hd=>by rw [fX];exact GW n k _ _ _ hd.next.next
theorem tP {b:List Int} {n i:Int} (hd:Xi b i) (h:Int):Xi b (pj b n i h).1:=GW n _ _ _ _ hd.next
theorem QB (b:List Int) (n:Int): ∀(k:Nat) (i h:Int) (ms:List (List Int)),(aH b n k i h ms).2.2.length=k+ms.length
 |0,_,_,ms=>by rw [aH];show ms.length=0+ms.length;omega
 |k+1,i,h,ms=>by rw [aH,QB b n k,Au,Be];omega
theorem QA {b:List Int} (n:Int): ∀(k:Nat) (i h:Int) (ms:List (List Int)),Xi b i->Xi b (aH b n k i h ms).1
 |0,_,_,_,hd=>hd
 |k+1,i,h,ms,hd=>by rw [aH];exact QA n k _ _ _ (tP hd h)
theorem Ako {xs:List Int} {y:Int} (h0:0<=y) (h:y<xs.length):xs[0+y.toNat]?=some (Ih xs y):=by
 have hl:y.toNat<xs.length:=by omega
 unfold Ih
 rw [Cb,Aj,Ac hl]
 rfl
theorem Anm (b:List Int) (i h:Int) (hd:Xi b i):fnMW Rk (look [(23,Ju),(42,bt)]) xS Tryz.f10 (b,i,h,()) (λ(z:(List Int×Int×Int×Int×ByteArray×List (List Int)×Unit)×Unit)=>z=((b,(aG b i h).1,(aG b i h).2.1,(aG b i h).2.2.1,(aG b i h).2.2.2.1,(aG b i h).2.2.2.2.1,()),())):=by
 have hr:=cD hd (show (1:Int)<=3 by decide) h
 obtain ⟨n,hn⟩: ∃n,3+dR b i h 3=n:=⟨_,rfl⟩
 obtain ⟨R,hR⟩: ∃R,aH b n 2 (dI b i) (hN h) []=R:=⟨_,rfl⟩
 have hm:aG b i h=(R.1,R.2.1,(n,ZV,R.2.2,())):=by unfold aG;rw [hn,hR]
 rw [hm]
 refine Eq.mp (Aob b i h _) ⟨_,Ab ⟨hd,by show (1:Int)<=3;decide⟩,rfl,rfl,rfl,rfl,?_⟩
 dsimp only
 rw [Cn (n:=3+dR b i h 3) (by omega) (by omega),hn]
 have hn3:3<=n/\n<=5:=by omega
 refine Di.mk (λy=> ∃(f:Nat) (i h:Int) (ms:List (List Int)),y=((0:Int), {data:= #[]},n,ZV,[],ms,b,i,h,())/\Xi b i/\f+ms.length=2/\aH b n f i h ms=R) (λy=>2-y.2.2.2.2.2.1.length)
  ⟨2,dI b i,hN h,[],rfl,hd.next,rfl,hR⟩ ?_
 rintro y ⟨f,i,h,ms,rfl,hd,hl,hv⟩
 dsimp only
 refine Br.dec (λhf=>?_) λhf=>?_
 ·obtain ⟨f,rfl⟩: ∃f',f=f'+1:=⟨f-1,by omega⟩
  rw [aH] at hv
  obtain ⟨M,hM⟩: ∃M,pj b n i h=M:=⟨_,rfl⟩
  have hMd:Xi b M.1:=by rw [<-hM];exact tP hd h
  rw [hM] at hv
  unfold pj at hM
  have hr:=cD hd (show (1:Int)<=3 by decide) h
  refine ⟨_,Ab ⟨by show 1<=n;omega,by show n<=20;omega⟩,_,Ab ⟨hd,by show (1:Int)<=3;decide⟩,rfl,rfl,rfl,rfl,rfl,rfl,?_⟩
  dsimp only
  rw [Cn (n:=1+dR b i h 3) (by omega) (by omega)]
  refine Di.mk (λz=> ∃(c:Nat) (i h:Int) (mv:List Int),z=((c:Int),(0:Int), {data:= #[]},n,ZV,[],ms,mv,b,i,h,())/\Xi b i/\c<=3/\mv.length=n.toNat/\fX b n c i h mv=M) (λz=>z.1.toNat)
   ⟨(1+dR b i h 3).toNat,dI b i,hN h,upto n.toNat,by rw [gi (by omega)],hd.next,by omega,Sv _,hM⟩ ?_
  rintro z ⟨c,i',h',mv,rfl,xc,hc,iQ,hsw⟩
  dsimp only
  refine Br.dec (λkq=>?_) λkq=>?_
  ·obtain ⟨c,rfl⟩: ∃c',c=c'+1:=⟨c-1,by omega⟩
   rw [fX] at hsw
   have r1:=cD xc (show 1<=n by omega) h'
   have r2:=cD xc.next (show 1<=n by omega) (hN h')
   have l1:dR b i' h' n<mv.length:=by omega
   have l2:dR b (dI b i') (hN h') n<mv.length:=by omega
   refine ⟨_,Ab ⟨xc,by show 1<=n;omega⟩,_,Ab ⟨xc.next,by show 1<=n;omega⟩,⟨r1.1,l1⟩,_,Ako r1.1 l1,⟨r2.1,l2⟩,_,Ako r2.1 l2,⟨r1.1,l1⟩,by show 0+(dR b i' h' n).toNat<mv.length;omega,⟨r2.1,l2⟩,
    by rw [Dg];show 0+(dR b (dI b i') (hN h') n).toNat<mv.length;omega,rfl,by simp only [Dg],rfl,rfl,rfl,rfl,?_⟩
   dsimp only
   rw [Cn (by omega) (by omega),Cb,Cb]
   exact ⟨⟨c,_,_,_,by rw [show ((c+1:Nat):Int)-1=(c:Int) by omega],xc.next.next,by omega,by simp only [Dg];exact iQ,hsw⟩,by show ((((c+1:Nat):Int)-1).toNat)<(((c+1:Nat):Int)).toNat;omega⟩
  ·obtain rfl:c=0:=by omega
   rw [fX] at hsw
   subst hsw
   refine ⟨rfl,rfl,by show ms.length+1<=4294967296;omega,rfl,rfl,rfl,rfl,?_⟩
   rw [Bv]
   exact ⟨⟨f,_,_,_,rfl,hMd,by rw [Au];show f+(ms.length+1)=2;omega,hv⟩,by show 2-(ms++ [mv]).length<2-ms.length;rw [Au,Be];omega⟩
 ·obtain rfl:f=0:=by omega
  rw [aH] at hv
  rw [<-hv]
  simp only [Bv]
theorem UN:Cl Tryz.prog 10 xS:=
 Cl.gY Qm (Fp aa (Fp wv Bo)) mixed Tryz.func10 (by kernel_rfl) (by kernel_rfl) λx h=>Anm x.1 x.2.1 x.2.2.1 h
theorem Ano (b:List Int) (i h n:Int) (str:ByteArray) (g:List (List Int)) (hd:Xi b i/\1<=n/\n<=20):fnMW Rk (look [(23,Ju)]) Xo Tryz.f25 (b,i,h,n,str,g,()) (λ(z:(List Int×Int×Int×List Int×Unit)×Unit)=>z=((b,(Nn b i h n).1,(Nn b i h n).2.1,(Nn b i h n).2.2,()),())):=by
 obtain ⟨hd,hn1,hn⟩:=hd
 obtain ⟨R,hR⟩: ∃R,Nn b i h n=R:=⟨_,rfl⟩
 rw [hR]
 unfold Nn at hR
 refine Eq.mp (Aod b i h n str g _) ⟨rfl,rfl,?_⟩
 refine Di.mk (λy=> ∃(f:Nat) (j i h:Int) (o:List Int),y=(j,n,str,g,o,b,i,h,())/\Xi b i/\0<=j/\n-j<=f/\o.length<=3/\XG b n (WG b n f j i h o)=R) (λy=>(n-y.1).toNat)
  ⟨n.toNat,0,i,h,[],rfl,hd,by omega,by omega,by simp,hR⟩ ?_
 rintro y ⟨f,j,i,h,o,rfl,hd,hj,hf,ho,hv⟩
 dsimp only
 have fin:WG b n f j i h o=(i,h,o)->Br ((o.length:Int)==0) (∃(y9:(List Int×Int×Int×Int×PUnit)×PUnit),Ju.fn (b,i,h,n,())=some y9/\(0:Nat)=0/\o.length=o.length/\o.length+(List.take (1:Nat) (List.drop (0:Nat) [y9.1.2.2.2.1])).length<=Dj/\
   ((y9.1.1,y9.1.2.1,y9.1.2.2.1,List.take (o++List.take (1:Nat) (List.drop (0:Nat) [y9.1.2.2.2.1])).length (List.drop (0:Nat) (o++List.take (1:Nat) (List.drop (0:Nat) [y9.1.2.2.2.1]))),()),())=((b,R.1,R.2.1,R.2.2,()),()))
   (((b,i,h,List.take o.length (List.drop 0 o),()),())=((b,R.1,R.2.1,R.2.2,()),())):=by
  intro he
  rw [he] at hv
  refine Br.of (λhz=>?_) λhz=>?_
  ·have hz:o.length=0:=by simpa using hz
   rw [XG,Ab hz] at hv
   refine ⟨_,Ab ⟨hd,hn1⟩,rfl,rfl,by show o.length+1<=4294967296;omega,?_⟩
   rw [<-hv,Bv]
   rfl
  ·have hz: ¬o.length=0:=by simpa using hz
   rw [XG,Ai hz] at hv
   rw [<-hv,Bv]
 refine Br.dec (λhjn=>?_) λhjn=>?_
 ·refine Br.dec (λho3=>?_) λho3=>?_
  ·obtain ⟨f,rfl⟩: ∃f',f=f'+1:=⟨f-1,by omega⟩
   rw [WG,Ab ⟨hjn,by omega⟩] at hv
   refine ⟨_,Ab ⟨hd,by show (1:Int)<=2;decide⟩,Br.of (λhz=>?_) λhz=>?_⟩
   ·have hz:dR b i h 2=0:=by simpa using hz
    rw [Ab hz] at hv
    refine ⟨rfl,rfl,by show o.length+1<=4294967296;omega,rfl,rfl,?_⟩
    rw [Cn (by omega) (by omega)]
    exact ⟨⟨f,j+1,_,_,_,rfl,hd.next,by omega,by omega,by rw [Au];show o.length+1<=3;omega,hv⟩,by show (n-(j+1)).toNat<(n-j).toNat;omega⟩
   ·have hz: ¬dR b i h 2=0:=by simpa using hz
    rw [Ai hz] at hv
    refine ⟨rfl,rfl,?_⟩
    rw [Cn (by omega) (by omega)]
    exact ⟨⟨f,j+1,_,_,_,rfl,hd.next,by omega,by omega,ho,hv⟩,by show (n-(j+1)).toNat<(n-j).toNat;omega⟩
  ·refine fin ?_
   cases f with
   |zero=>rfl
   |succ f=>rw [WG,Ai (λhc=>ho3 (by omega))]
 ·refine fin ?_
  cases f with
  |zero=>rfl
  |succ f=>rw [WG,Ai (λhc=>hjn hc.1)]
theorem UP:Cl Tryz.prog 25 Xo:=
 Cl.gY Qm (Fp aa Bo) mixed Tryz.func25 (by kernel_rfl) (by kernel_rfl) λx h=>Ano x.1 x.2.1 x.2.2.1 x.2.2.2.1 x.2.2.2.2.1 x.2.2.2.2.2.1 h
end Go.Proofs.YtkkdpknjohcekaaGreat
