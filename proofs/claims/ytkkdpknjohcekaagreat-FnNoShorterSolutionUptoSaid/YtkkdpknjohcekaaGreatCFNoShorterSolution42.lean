/-
  Part 43 of the proof that the statement FnNoShorterSolution holds.
-/
import Derived.Test.YtkkdpknjohcekaaGreatCFNoShorterSolution41
namespace Go.Proofs.YtkkdpknjohcekaaGreat
open Go.RowKit
noncomputable def Wq (p:PP) (b:Option BB) (x:List Int) (Dg:Int) (every:Bool):IS:=ry p.1 p.2.2.1 b Dg every [] 0 0 false x
noncomputable def Anq (p:PP) (b:Option BB) (x:List Int) (Dg:Int) (every:Bool):SR:=(p,b,Dg,every,(Wq p b x Dg every).2.1,(Wq p b x Dg every).2.2.1,(Wq p b x Dg every).2.2.2.1,(Wq p b x Dg every).2.2.2.2,())
def CH (p:PP) (b:Option BB) (x:List Int) (Dg:Int):Prop:= ∃ts,b=some (Ef ts)/\Sk p ts x=true/\0<=Dg/\Dg<=30
noncomputable abbrev Qq:Spec:=Gw (.pair Hq (.pair (.optr Uu) (.pair tL (.pair tI (.pair .bool .unit))))) (.optr Abg) false false (λx=>CH x.1 x.2.1 x.2.2.1 x.2.2.2.1) (λx=>some (Anq x.1 x.2.1 x.2.2.1 x.2.2.2.1 x.2.2.2.2.1))
noncomputable abbrev KW:MSpec:= {Jb:= [some 3,none,none,none,none],ins:= [(false, .Ec tI),(false, .Ec .str),(false, .Ec lO),(false, .Ec (.optr Uu)),(false, .Ec tL),(false, .Ec tI),(false, .Ec .bool)],Ht:=false,Hp:= [none,none,none,none,none,none,none,none,none,none],outs:= [.Ec tI, .Ec .str, .Ec lO, .Ec (.optr Uu), .Ec tI, .Ec .bool,rL, .Ec tI, .Ec tI, .Ec .bool],fn:= λ_=>none,rp:=some 84}
noncomputable abbrev Vs:MSpec:=gX KW (λx=>CH (x.1,x.2.1,x.2.2.1,()) x.2.2.2.1 x.2.2.2.2.1 x.2.2.2.2.2.1)
 (λx=>((x.1,x.2.1,x.2.2.1,x.2.2.2.1,x.2.2.2.2.2.1,x.2.2.2.2.2.2.1,(Wq (x.1,x.2.1,x.2.2.1,()) x.2.2.2.1 x.2.2.2.2.1 x.2.2.2.2.2.1 x.2.2.2.2.2.2.1).2.1,(Wq (x.1,x.2.1,x.2.2.1,()) x.2.2.2.1 x.2.2.2.2.1 x.2.2.2.2.2.1 x.2.2.2.2.2.2.1).2.2.1,(Wq (x.1,x.2.1,x.2.2.1,()) x.2.2.2.1 x.2.2.2.2.1 x.2.2.2.2.2.1 x.2.2.2.2.2.2.1).2.2.2.1,(Wq (x.1,x.2.1,x.2.2.1,()) x.2.2.2.1 x.2.2.2.2.1 x.2.2.2.2.2.1 x.2.2.2.2.2.2.1).2.2.2.2,()),()))
noncomputable def Ue (p:PP) (ts:List TT) (s:List Int) (depth:Int) (all:Bool):DS:=Anr p ts s [] depth (0,0,[],false,all,())
noncomputable def c9 (d:Int):Bool:=decide (0<=d/\d<=30)
noncomputable abbrev Nx:Spec:=Gw (.pair tI .unit) .bool false true (λ_=>True) (λx=>c9 x.1)
noncomputable def Ro (p:PP) (ts:List TT) (s:List Int) (d:Int):Bool:=Sk p ts s&&c9 d
noncomputable def nZ (p:PP) (ts:List TT) (s:List Int) (d:Int):Int:=if Ro p ts s d=true then (if (Ue p ts s d true).2.2.2.1=true then-1 else (Ue p ts s d true).2.1) else-1
noncomputable abbrev dc:Spec:=Gw (.pair Hq (.pair tTS (.pair tL (.pair tI .unit)))) tI false true (λx=>Eo x.1/\Qr x.2.1/\short x.2.2.1) (λx=>nZ x.1 x.2.1 x.2.2.1 x.2.2.2.1)
noncomputable def Oh (p:PP) (ts:List TT) (s:List Int) (d:Int):Bool:=Ro p ts s d&&(List.range (d+1).toNat).all λ(k:Nat)=>!(Kv (Ue p ts s (k:Int) false))
noncomputable abbrev Ug:Spec:=Gw (.pair Hq (.pair tTS (.pair tL (.pair tI .unit)))) .bool false true (λx=>Eo x.1/\Qr x.2.1/\short x.2.2.1) (λx=>Oh x.1 x.2.1 x.2.2.1 x.2.2.2.1)
theorem ON (p:Int×ByteArray×List (List Int)×Unit) (b:Option (List (List Int×List (List Int)×List Int×Unit)×List (ByteArray->Option Int)×Unit)) (x:List Int) (Dg:Int) (every:Bool) (P:Option ((Int×ByteArray×List (List Int)×Unit)×Option (List (List Int×List (List Int)×List Int×Unit)×List (ByteArray->Option Int)×Unit)×Int×Bool×List Int×Int×Int×Bool×Unit)->Prop):(0=0/\0=([]:List Int).length/\ ∃(y6:(Int×ByteArray×List (List Int)×Option (List (List Int×List (List Int)×List Int×PUnit)×List (ByteArray->Option Int)×PUnit)×Int×Bool×List Int×Int×Int×Bool×Bool×PUnit)×PUnit),cm.fn (p.1,p.2.1,p.2.2.1,b,Dg,every,[],Int.ofNat (nat_lit 0),Int.ofNat (nat_lit 0),false,x,())=some y6/\P (some ((y6.1.1,y6.1.2.1,y6.1.2.2.1,()),y6.1.2.2.2.1,y6.1.2.2.2.2.1,y6.1.2.2.2.2.2.1,List.take y6.1.2.2.2.2.2.2.1.length (List.drop 0 y6.1.2.2.2.2.2.2.1),y6.1.2.2.2.2.2.2.2.1,y6.1.2.2.2.2.2.2.2.2.1,y6.1.2.2.2.2.2.2.2.2.2.1,())))=fnW Fu (look [(127,cm)]) Qq Tryz.f71 (p,b,x,Dg,every,()) P:=by kernel_rfl
theorem IL (n:Int) (str:ByteArray) (g:List (List Int)) (b:Option (List (List Int×List (List Int)×List Int×Unit)×List (ByteArray->Option Int)×Unit)) (x:List Int) (Dg:Int) (every:Bool) (P:((Int×ByteArray×List (List Int)×Option BB×Int×Bool×List Int×Int×Int×Bool×Unit)×Unit)->Prop):(0=0/\0=([]:List Int).length/\ ∃(y8:(Int×ByteArray×List (List Int)×Option (List (List Int×List (List Int)×List Int×PUnit)×List (ByteArray->Option Int)×PUnit)×Int×Bool×List Int×Int×Int×Bool×Bool×PUnit)×PUnit),cm.fn (n,str,g,b,Dg,every,[],Int.ofNat (nat_lit 0),Int.ofNat (nat_lit 0),false,x,())=some y8/\P ((y8.1.1,y8.1.2.1,y8.1.2.2.1,y8.1.2.2.2.1,y8.1.2.2.2.2.1,y8.1.2.2.2.2.2.1,List.take y8.1.2.2.2.2.2.2.1.length (List.drop 0 y8.1.2.2.2.2.2.2.1),y8.1.2.2.2.2.2.2.2.1,y8.1.2.2.2.2.2.2.2.2.1,y8.1.2.2.2.2.2.2.2.2.2.1,()),()))=fnMW Tr (look [(127,cm)]) Vs Tryz.f71 (n,str,g,b,x,Dg,every,()) P:=by kernel_rfl
theorem VT (d:Int) (P:Bool->Prop):(∃(y2:Bool),Cs.fn (d,(0:Int),(30:Int),())=some y2/\P y2)=fnW Fu (look [(100,Cs)]) Nx Tryz.f55 (d,()) P:=by kernel_rfl
abbrev oD:Type:=(Int×ByteArray×List (List Int)×PUnit)×Option (List (List Int×List (List Int)×List Int×PUnit)×List (ByteArray->Option Int)×PUnit)×Int×Bool×List Int×Int×Int×Bool×PUnit
theorem IF (p:Int×ByteArray×List (List Int)×Unit) (ts:List (List Int×List (List Int)×List Int×Unit)) (s:List Int) (d:Int) (P:Int->Prop):(∃(y5:Option (List (List Int×List (List Int)×List Int×PUnit)×List (ByteArray->Option Int)×PUnit)×Bool×PUnit),Ma.fn ((p.1,p.2.1,p.2.2.1,()),ts,s,())=some y5/\Br (!y5.2.1) (P (-1:Int)) (∃(y6:Bool),Nx.fn (d,())=some y6/\Br (!y6) (P (-1:Int)) (∃(y7:Option ((Int×ByteArray×List (List Int)×PUnit)×Option (List (List Int×List (List Int)×List Int×PUnit)×List (ByteArray->Option Int)×PUnit)×Int×Bool×List Int×Int×Int×Bool×PUnit)),Qq.fn ((p.1,p.2.1,p.2.2.1,()),y5.1,s,d,true,())=some y7/\ ∃(y8:oD),y7=some y8/\Br y8.2.2.2.2.2.2.2.1 (P (-1:Int)) (∃(y9:oD),y7=some y9/\P y9.2.2.2.2.2.2.1))))=fnW Fu (look [(54,Ma),(55,Nx),(71,Qq)]) dc Tryz.f30 (p,ts,s,d,()) P:=by kernel_rfl
abbrev lL:Type:=(Int×ByteArray×List (List Int)×PUnit)×Option (List (List Int×List (List Int)×List Int×PUnit)×List (ByteArray->Option Int)×PUnit)×Int×Bool×List Int×Int×Int×Bool×PUnit
abbrev lN:Type:=Int×Int×ByteArray×List (List Int)×PUnit
theorem BS (p:Int×ByteArray×List (List Int)×Unit) (ts:List (List Int×List (List Int)×List Int×Unit)) (s:List Int) (d:Int) (P:Bool->Prop):(∃(y5:Option (List (List Int×List (List Int)×List Int×PUnit)×List (ByteArray->Option Int)×PUnit)×Bool×PUnit),Ma.fn ((p.1,p.2.1,p.2.2.1,()),ts,s,())=some y5/\Br (!y5.2.1) (P false) (∃(y6:Bool),Nx.fn (d,())=some y6/\Br (!y6) (P false) (Dn (λ(v7:lN) (k8:lN->Prop)=>Br (decide (v7.1<IntKind.i64.wrap (d+(1:Int)))) (∃(y9:Option ((Int×ByteArray×List (List Int)×PUnit)×Option (List (List Int×List (List Int)×List Int×PUnit)×List (ByteArray->Option Int)×PUnit)×Int×Bool×List Int×Int×Int×Bool×PUnit)),Qq.fn ((v7.2.1,v7.2.2.1,v7.2.2.2.1,()),y5.1,s,v7.1,false,())=some y9/\ ∃(Ko:lL),y9=some Ko/\Br Ko.2.2.2.2.2.2.2.1 (P false) (∃(Iw:lL),y9=some Iw/\Br (decide (Iw.2.2.2.2.2.2.1>(0:Int))) (P false) (k8 (IntKind.i64.wrap (v7.1+(1:Int)),v7.2.1,v7.2.2.1,v7.2.2.2.1,())))) (P true)) ((0:Int),p.1,p.2.1,p.2.2.1,PUnit.unit))))=fnW Fu (look [(54,Ma),(55,Nx),(71,Qq)]) Ug Tryz.f27 (p,ts,s,d,()) P:=by kernel_rfl
theorem ds0 (all:Bool):JC ((0,0,[],false,all,()):DS):=⟨Kc _,(by decide:(0:Int)<=20000),Kc _,Kc _⟩
theorem sl (p:PP) (ts:List TT) (x:List Int) (Dg:Int) (every:Bool):XA every [] (Wq p (some (Ef ts)) x Dg every) (Ue p ts x Dg every):=
 Agl (nx:=dJ p.2.2.1) (low:=aJ ts) (one:=upto p.1.toNat) (ls:=Av p.2.2.1.length) (depth:=Dg) (every:=every) ((Dg-(0:Nat)).toNat+1) x [] (0,0,[],false,every,()) rfl rfl (ds0 every)
theorem Aaz {p:PP} {b:Option BB} {x:List Int} {Dg:Int} (h:CH p b x Dg):yB p.1 p.2.1 p.2.2.1 b Dg [] (Int.ofNat 0) (Int.ofNat 0) x:=by
 obtain ⟨ts,hb,hh,h0,h30⟩:=h
 exact ⟨ts,hb,hh,h30,h0,λl hl=>(by cases hl),⟨by decide,by decide⟩,by decide,by decide⟩
theorem ME (p:PP) (b:Option BB) (x:List Int) (Dg:Int) (every:Bool) (h:CH p b x Dg):fnW Fu (look [(127,cm)]) Qq Tryz.f71 (p,b,x,Dg,every,()) (λ(z:Option SR)=>z=some (Anq p b x Dg every)):=by
 refine Eq.mp (ON p b x Dg every _) ⟨rfl,rfl,_,Ab (Aaz h),?_⟩
 dsimp only
 rw [Cc]
 rfl
theorem jT:Sound Tryz.prog 71 Qq:=
 Sound.Gw Dq (Gb oA Bn) mixed Tryz.func71 (by kernel_rfl) (by kernel_rfl) λx h=>ME x.1 x.2.1 x.2.2.1 x.2.2.2.1 x.2.2.2.2.1 h
theorem GO (n:Int) (str:ByteArray) (g:List (List Int)) (b:Option BB) (x:List Int) (Dg:Int) (every:Bool) (h:CH (n,str,g,()) b x Dg):
  fnMW Tr (look [(127,cm)]) Vs Tryz.f71 (n,str,g,b,x,Dg,every,()) (λ(z:(Int×ByteArray×List (List Int)×Option BB×Int×Bool×List Int×Int×Int×Bool×Unit)×Unit)=>z=((n,str,g,b,Dg,every,(Wq (n,str,g,()) b x Dg every).2.1,(Wq (n,str,g,()) b x Dg every).2.2.1,(Wq (n,str,g,()) b x Dg every).2.2.2.1,(Wq (n,str,g,()) b x Dg every).2.2.2.2,()),())):=by
 refine Eq.mp (IL n str g b x Dg every _) ⟨rfl,rfl,_,Ab (Aaz h),?_⟩
 dsimp only
 rw [Cc]
 rfl
theorem rQ:Cp Tryz.prog 71 Vs:=
 Cp.gX Ss (Gb oA Bn) mixed Tryz.func71 (by kernel_rfl) (by kernel_rfl) λx h=>GO x.1 x.2.1 x.2.2.1 x.2.2.2.1 x.2.2.2.2.1 x.2.2.2.2.2.1 x.2.2.2.2.2.2.1 h
theorem TV (d:Int) (_:True):fnW Fu (look [(100,Cs)]) Nx Tryz.f55 (d,()) (λ(z:Bool)=>z=c9 d):=Eq.mp (VT d _) ⟨_,Ab trivial,rfl⟩
theorem dN:Sound Tryz.prog 55 Nx:=
 Sound.Gw Dq (Ax Xc Bn) mixed Tryz.func55 (by kernel_rfl) (by kernel_rfl) λx h=>TV x.1 h
theorem bN {p:PP} {ts:List TT} {s:List Int} {d:Int} :Ro p ts s d=true↔Sk p ts s=true/\0<=d/\d<=30:=by
 unfold Ro c9
 rw [Af,Ky]
theorem GI (p:PP) (ts:List TT) (s:List Int) (d:Int) (h:Eo p/\Qr ts/\short s):fnW Fu (look [(54,Ma),(55,Nx),(71,Qq)]) dc Tryz.f30 (p,ts,s,d,()) (λ(z:Int)=>z=nZ p ts s d):=by
 refine Eq.mp (IF p ts s d _) ?_
 unfold nZ
 by_cases hh:Sk p ts s=true
 ·refine ⟨(some (Ef ts),true,()),(Ab h).trans (Ga some (Ab hh)),λhb=>by simp at hb,λ_=>⟨c9 d,Ab trivial,?_⟩⟩
  have hc:Ro p ts s d=c9 d:=by unfold Ro;rw [hh,Nr]
  refine Br.of (λhd=>?_) λhd=>?_
  ·rw [Ai (by rw [hc];exact Hj hd)]
  ·have hd:Ro p ts s d=true:=by rw [hc];simpa using hd
   obtain ⟨_,h0,h30⟩:=bN.1 hd
   have hs:=sl p ts s d true
   rw [Ab hd]
   refine ⟨_,Ab ⟨ts,rfl,hh,h0,h30⟩,_,rfl,?_⟩
   show Br (Wq p (some (Ef ts)) s d true).2.2.2.2 _ _
   rw [hs.a]
   refine Br.of (λha=>by rw [Ab ha]) λha=>⟨_,rfl,?_⟩
   rw [Ai (by rw [ha];simp)]
   exact hs.m
 ·have hc: ¬Ro p ts s d=true:= λhc=>hh (bN.1 hc).1
  rw [Ai hc]
  exact ⟨(none,false,()),(Ab h).trans (Ga some (Ai hh)),λ_=>rfl,λhb=>by simp at hb⟩
theorem rJ:Sound Tryz.prog 30 dc:=
 Sound.Gw Dq (Ax cp (Ax dN (Ax jT Bn))) mixed Tryz.func30 (by kernel_rfl) (by kernel_rfl) λx h=>GI x.1 x.2.1 x.2.2.1 x.2.2.2.1 h
theorem x8 {q:Nat->Bool} {n:Nat} :(List.range n).all q=true↔ ∀k,k<n->q k=true:=by
 rw [Az]
 exact ⟨λh k hk=>h k (Dl.2 hk),λh k hk=>h k (Dl.1 hk)⟩
theorem o8 {p:PP} {ts:List TT} {s:List Int} {d:Int} {k:Nat} (hk:(k:Int)<=d) (h:Kv (Ue p ts s (k:Int) false)=true):Oh p ts s d=false:=by
 cases hp:Oh p ts s d with
 |false=>rfl
 |true=>
  unfold Oh at hp
  rw [Af] at hp
  have:=x8.1 hp.2 k (by omega)
  rw [h] at this
  cases this
theorem fE (v:DS):Kv v=(v.2.2.2.1||(decide (0<v.2.1)&&!v.2.2.2.2.1)):=rfl
theorem Ada (p:PP) (ts:List TT) (s:List Int) (d:Int) (all:Bool):(Ue p ts s d all).2.2.2.2.1=all:=(sl p ts s d all).all
theorem zF (p:PP) (ts:List TT) (s:List Int) (d:Int) (h:Eo p/\Qr ts/\short s):fnW Fu (look [(54,Ma),(55,Nx),(71,Qq)]) Ug Tryz.f27 (p,ts,s,d,()) (λ(z:Bool)=>z=Oh p ts s d):=by
 refine Eq.mp (BS p ts s d _) ?_
 by_cases hh:Sk p ts s=true
 ·refine ⟨(some (Ef ts),true,()),(Ab h).trans (Ga some (Ab hh)),λhb=>by simp at hb,λ_=>⟨c9 d,Ab trivial,?_⟩⟩
  have hc:Ro p ts s d=c9 d:=by unfold Ro;rw [hh,Nr]
  refine Br.of (λhd=>?_) λhd=>?_
  ·unfold Oh
   rw [hc,show c9 d=false from Ah6 hd,Bool.false_and]
  ·have hd:Ro p ts s d=true:=by rw [hc];simpa using hd
   obtain ⟨_,h0,h30⟩:=bN.1 hd
   rw [Cn (by omega) (by omega)]
   refine Bu (d+1).toNat (λv=>v.1) (λj v=>v=((j:Int),p.1,p.2.1,p.2.2.1,())/\ ∀k,k<j->(!(Kv (Ue p ts s (k:Int) false)))=true) rfl ⟨rfl,λk hk=>by omega⟩ ?_
   rintro j v K hj hi ⟨rfl,hR⟩ hK
   dsimp only
   refine Br.dec (λhl=>?_) λhl=>?_
   ·have Jt:=Ada p ts s (j:Int) false
    have hs:=sl p ts s (j:Int) false
    refine ⟨_,Ab ⟨ts,rfl,hh,by show (0:Int)<=(j:Int);omega,by show (j:Int)<=30;omega⟩,_,rfl,?_⟩
    show Br (Wq p (some (Ef ts)) s (j:Int) false).2.2.2.2 _ _
    rw [hs.a]
    refine Br.of (λha=>?_) λha=>⟨_,rfl,?_⟩
    ·exact (o8 (k:=j) (by omega) (by rw [fE,ha];rfl)).symm
    show Br (decide ((Wq p (some (Ef ts)) s (j:Int) false).2.2.2.1>0)) _ _
    rw [hs.m]
    refine Br.dec (λhm=>?_) λhm=>?_
    ·exact (o8 (k:=j) (by omega) (by rw [fE,Jt,Co (by omega)];simp)).symm
    ·rw [Bv (by omega)]
     refine hK (by omega) _ rfl ⟨rfl,λk hk=>?_⟩
     by_cases e:k=j
     ·subst e
      rw [fE,ha,Ep (by omega)]
      rfl
     ·exact hR k (by omega)
   ·have:j=(d+1).toNat:=by omega
    subst this
    show true=Oh p ts s d
    unfold Oh
    rw [hd,Nr]
    exact (x8.2 hR).symm
 ·have hc:Oh p ts s d=false:=by
   unfold Oh
   rw [show Ro p ts s d=false from Lt.2 λhc=>hh (bN.1 hc).1,Bool.false_and]
  rw [hc]
  exact ⟨(none,false,()),(Ab h).trans (Ga some (Ai hh)),λ_=>rfl,λhb=>by simp at hb⟩
theorem pP:Sound Tryz.prog 27 Ug:=
 Sound.Gw Dq (Ax cp (Ax dN (Ax jT Bn))) mixed Tryz.func27 (by kernel_rfl) (by kernel_rfl) λx h=>zF x.1 x.2.1 x.2.2.1 x.2.2.2.1 h
noncomputable def LJ (v:DS):List Int×Int×Int×Unit:=if v.2.2.2.1=true then ([],v.1,-1,()) else if v.2.1=0 then ([],v.1,0,()) else (v.2.2.1,v.1,1,())
noncomputable def zu (p:PP) (ts:List TT) (s:List Int) (d:Int):List Int×Int×Int×Unit:=if Ro p ts s d=true then LJ (Ue p ts s d false) else ([],0,-1,())
noncomputable abbrev ag:MSpec:=mW [some 3,none,none,none] [(false, .Ec tI),(false, .Ec .str),(false, .Ec lO),(false, .Ec tTS),(false, .Ec tL),(false, .Ec tI)] true [none,none,none] [rL, .Ec tI, .Ec tI] (λx=>Eo (x.1,x.2.1,x.2.2.1,())/\Qr x.2.2.2.1/\short x.2.2.2.2.1)
 (λx=>(((zu (x.1,x.2.1,x.2.2.1,()) x.2.2.2.1 x.2.2.2.2.1 x.2.2.2.2.2.1).1,(zu (x.1,x.2.1,x.2.2.1,()) x.2.2.2.1 x.2.2.2.2.1 x.2.2.2.2.2.1).2.1,(zu (x.1,x.2.1,x.2.2.1,()) x.2.2.2.1 x.2.2.2.2.1 x.2.2.2.2.2.1).2.2.1,()),()))
theorem Ac3 (n:Int) (str:ByteArray) (g:List (List Int)) (ts:List (List Int×List (List Int)×List Int×Unit)) (s:List Int) (d:Int) (P:((List Int×Int×Int×Unit)×Unit)->Prop):(∃(y7:Option (List (List Int×List (List Int)×List Int×PUnit)×List (ByteArray->Option Int)×PUnit)×Bool×PUnit),Ma.fn ((n,str,g,()),ts,s,())=some y7/\Br (!y7.2.1) (P ((List.take 0 (List.drop 0 []),(0:Int),(-1:Int),()),())) (∃(y8:Bool),Nx.fn (d,())=some y8/\Br (!y8) (P ((List.take 0 (List.drop 0 []),(0:Int),(-1:Int),()),())) (∃(y9:(Int×ByteArray×List (List Int)×Option (List (List Int×List (List Int)×List Int×PUnit)×List (ByteArray->Option Int)×PUnit)×Int×Bool×List Int×Int×Int×Bool×PUnit)×PUnit),Vs.fn (n,str,g,y7.1,s,d,false,())=some y9/\Br y9.1.2.2.2.2.2.2.2.2.2.1 (((P ((List.take 0 (List.drop 0 []),y9.1.2.2.2.2.2.2.2.1,(-1:Int),()),())/\P ((List.take 0 (List.drop 0 []),y9.1.2.2.2.2.2.2.2.1,(-1:Int),()),()))/\P ((List.take 0 (List.drop 0 []),y9.1.2.2.2.2.2.2.2.1,(-1:Int),()),()))/\P ((List.take 0 (List.drop 0 []),y9.1.2.2.2.2.2.2.2.1,(-1:Int),()),())) (Br (decide (y9.1.2.2.2.2.2.2.2.2.1>(0:Int))) (P ((List.take y9.1.2.2.2.2.2.2.1.length (List.drop 0 y9.1.2.2.2.2.2.2.1),y9.1.2.2.2.2.2.2.2.1,(1:Int),()),())) (((P ((List.take 0 (List.drop 0 []),y9.1.2.2.2.2.2.2.2.1,(0:Int),()),())/\P ((List.take 0 (List.drop 0 []),y9.1.2.2.2.2.2.2.2.1,(0:Int),()),()))/\P ((List.take 0 (List.drop 0 []),y9.1.2.2.2.2.2.2.2.1,(0:Int),()),()))/\P ((List.take 0 (List.drop 0 []),y9.1.2.2.2.2.2.2.2.1,(0:Int),()),()))))))=fnMW Tr (look [(54,Ma),(55,Nx),(71,Vs)]) ag Tryz.f28 (n,str,g,ts,s,d,()) P:=by kernel_rfl
theorem Aa9 (n:Int) (str:ByteArray) (g:List (List Int)) (ts:List TT) (s:List Int) (d:Int) (h:Eo (n,str,g,())/\Qr ts/\short s):
  fnMW Tr (look [(54,Ma),(55,Nx),(71,Vs)]) ag Tryz.f28 (n,str,g,ts,s,d,()) (λ(z:(List Int×Int×Int×Unit)×Unit)=>z=(((zu (n,str,g,()) ts s d).1,(zu (n,str,g,()) ts s d).2.1,(zu (n,str,g,()) ts s d).2.2.1,()),())):=by
 refine Eq.mp (Ac3 n str g ts s d _) ?_
 unfold zu
 by_cases hh:Sk (n,str,g,()) ts s=true
 ·refine ⟨(some (Ef ts),true,()),(Ab h).trans (Ga some (Ab hh)),λhb=>by simp at hb,λ_=>⟨c9 d,Ab trivial,?_⟩⟩
  have hc:Ro (n,str,g,()) ts s d=c9 d:=by unfold Ro;rw [hh,Nr]
  refine Br.of (λhd=>?_) λhd=>?_
  ·rw [Ai (by rw [hc];exact Hj hd)]
   rfl
  ·have hd:Ro (n,str,g,()) ts s d=true:=by rw [hc];simpa using hd
   obtain ⟨_,h0,h30⟩:=bN.1 hd
   have hs:=sl (n,str,g,()) ts s d false
   have hm0:=hs.ok.m0
   rw [Ab hd]
   refine ⟨_,Ab ⟨ts,rfl,hh,h0,h30⟩,?_⟩
   show Br (Wq (n,str,g,()) (some (Ef ts)) s d false).2.2.2.2 _ _
   unfold LJ
   rw [hs.a]
   refine Br.of (λha=>?_) λha=>?_
   ·rw [Ab ha,<-hs.n]
    exact ⟨⟨⟨rfl,rfl⟩,rfl⟩,rfl⟩
   ·rw [Ai (by rw [ha];simp)]
    show Br (decide ((Wq (n,str,g,()) (some (Ef ts)) s d false).2.2.2.1>0)) _ _
    rw [hs.m]
    refine Br.dec (λhm=>?_) λhm=>?_
    ·rw [Ai (by omega)]
     have Pn:(Wq (n,str,g,()) (some (Ef ts)) s d false).1=true:=by
      rw [hs.stop,fE,hs.all,Co (by omega)]
      simp
     have hw:=hs.found Pn ha
     rw [<-hw,<-hs.n]
     dsimp only
     rw [Cc]
    ·rw [Ab (by omega),<-hs.n]
     exact ⟨⟨⟨rfl,rfl⟩,rfl⟩,rfl⟩
 ·have hc: ¬Ro (n,str,g,()) ts s d=true:= λhc=>hh (bN.1 hc).1
  rw [Ai hc]
  exact ⟨(none,false,()),(Ab h).trans (Ga some (Ai hh)),λ_=>rfl,λhb=>by simp at hb⟩
theorem AL:Cp Tryz.prog 28 ag:=
 Cp.mW Ss (Ax cp (Ax dN (Gb rQ Bn))) mixed Tryz.func28 (by kernel_rfl) (by kernel_rfl) λx h=>Aa9 x.1 x.2.1 x.2.2.1 x.2.2.2.1 x.2.2.2.2.1 x.2.2.2.2.2.1 h
theorem Mm.sub {g:List (List Int)} {ls:List Int} {L:List (List Int)} {S S':List Int->Prop} {d d':List Int->Int} (hc:fi g ls L) (h:Mm g ls L S d) (h':Mm g ls L S' d') (hS: ∀x∈L,S' x->S x):
  ∀(n:Nat) (x:List Int),x∈L->d' x=n->d x<=n
 |0,x,hx,e=>by
  have:=(h.zero x hx).2 (hS x hx ((h'.zero x hx).1 e))
  omega
 |n+1,x,hx,e=>by
  obtain ⟨l,hl,hd⟩:=h'.down x hx (by omega)
  obtain ⟨b1,b2⟩:=hc.back x hx l hl
  have h1:=Mm.sub hc h h' hS n _ (hc.next x hx l hl) (by omega)
  have h2:=h.step _ (hc.next x hx l hl) _ b1
  rw [b2] at h2
  omega
theorem RY {p:PP} {t:TT} (hw:Gp p=true) (ht:Gs p t=true) {s:List Int} (hs:s∈Ba p):bb t s=FH p t.1 (Eg s t.1):=by
 obtain ⟨_,h3,_,e1,e2⟩:=kN ht
 have hm:=Aal hw h3 s hs
 unfold bb
 rw [e1,e2]
 exact (Ab hm).symm
theorem RX {p:PP} {t:TT} (hw:Gp p=true) (ht:Gs p t=true) {s:List Int} (hs:s∈Ba p):bb t s<=Lo (Ba p) (Dh p) s:=by
 obtain ⟨_,h3,_,_,_⟩:=kN ht
 have hv:=(Fe hw).1
 rw [RY hw ht hs]
 have hn:=(Ub hw).nn s hs
 have:=Mm.sub (Vu hw) (Aak hw h3) (Ub hw) (λx _ hx=>by rw [hx,(Si hv).1];exact Aio h3) (Lo (Ba p) (Dh p) s).toNat s hs (by omega)
 omega
theorem PE {m:Int} : ∀(xs:List Int) (a:Int),a<=m->(∀x∈xs,x<=m)->xs.foldl max a<=m
 | [],a,h,_=>h
 |x::xs,a,h,hx=>PE xs (max a x) (by have:=hx x (Fk ..);omega) λy hy=>hx y (Ao _ hy)
theorem Ae9 {p:PP} {ts:List TT} (hw:Gp p=true) (ht:Gj p ts=true) {s:List Int} (hs:s∈Ba p):aJ ts s<=Lo (Ba p) (Dh p) s:=by
 refine PE _ _ ((Ub hw).nn s hs) λx hx=>?_
 obtain ⟨t,Vj,rfl⟩:=Bi.1 hx
 exact RX hw ((dj ht).2.2 t Vj) hs
def tN:Nat->Int
 |0=>0
 |f+1=>1+4*tN f
theorem RG: ∀f,0<=tN f
 |0=>Kc _
 |f+1=>by have:=RG f;simp only [tN];omega
structure kl (g:List (List Int)) (ls:List Int) (one:List Int) (L:List (List Int)) (D low:List Int->Int):Prop where
 hc:fi g ls L
 hd:Mm g ls L (λx=>x=one) D
 adm: ∀x∈L,low x<=D x
 fG:ls.length<=4
section
variable {g:List (List Int)} {ls one:List Int} {L:List (List Int)} {D low:List Int->Int} {depth:Int}
abbrev vG (g:List (List Int)) (low:List Int->Int) (one ls:List Int) (depth:Int):Nat->List Int->List Int->DS->DS:=vN (λs l=>Ag s (An g l)) low one ls depth
theorem zy {k:Nat} {t:Int} (hk:k<=4) (ht:0<=t):(k:Int)*t<=4*t:=Int.mul_le_mul_of_nonneg_right (by omega) ht
theorem fb (hf:ls.length<=4): ∀(f:Nat) (s w:List Int) (v:DS),v.2.2.2.1=false->v.1+tN f<=20000->
  (vG g low one ls depth f s w v).2.2.2.1=false/\(vG g low one ls depth f s w v).1<=v.1+tN f
 |0,s,w,v,ha,hn=>⟨ha,by simp only [tN];show v.1<=v.1+0;omega⟩
 |f+1,s,w,v,ha,hn=>by
  have ht:=RG f
  simp only [tN] at hn⊢
  have h1: ¬v.1=20000:=by omega
  show (vN _ low one ls depth (f+1) s w v).2.2.2.1=false/\(vN _ low one ls depth (f+1) s w v).1<=v.1+(1+4*tN f)
  rw [vN,Ai h1]
  split
  ·exact ⟨ha,by show v.1+1<=_;omega⟩
  ·split
   ·split
    ·exact ⟨ha,by show v.1+1<=_;omega⟩
    ·exact ⟨ha,by show v.1+1<=_;omega⟩
   ·have key: ∀(xs:List Int) (b:DS),b.2.2.2.1=false->b.1+xs.length*tN f<=20000->
      (xs.foldl (λ(v:DS) l=>if Kv v=true then v else vG g low one ls depth f (Ag s (An g l)) (w++ [l]) v) b).2.2.2.1=false/\
      (xs.foldl (λ(v:DS) l=>if Kv v=true then v else vG g low one ls depth f (Ag s (An g l)) (w++ [l]) v) b).1<=b.1+xs.length*tN f:=by
     intro xs
     induction xs with
     |nil=>exact λb hb _=>⟨hb,by simp⟩
     |cons l xs ih=>
      intro b hb hbn
      rw [Ay,Int.natCast_add,Int.add_mul] at hbn⊢
      have hp:0<=(xs.length:Int)*tN f:=Int.mul_nonneg (by omega) ht
      rw [Ds]
      split
      ·obtain ⟨i1,i2⟩:=ih b hb (by omega)
       exact ⟨i1,by omega⟩
      ·obtain ⟨j1,j2⟩:=fb hf f (Ag s (An g l)) (w++ [l]) b hb (by omega)
       obtain ⟨i1,i2⟩:=ih _ j1 (by omega)
       exact ⟨i1,by omega⟩
    have hl:=Ml (List.length_filter_le (λl=>!(l== -Jm w)) ls) hf
    have hm:=zy hl ht
    obtain ⟨k1,k2⟩:=key (ls.filter λl=>!(l== -Jm w)) (v.1+1,v.2) ha (by show v.1+1+_<=20000;omega)
    refine ⟨k1,Int.le_trans k2 ?_⟩
    show v.1+1+_<=_
    omega
theorem BK (S:kl g ls one L D low): ∀(f:Nat) (s w:List Int) (v:DS),s∈L->depth-w.length<D s->
  (vG g low one ls depth f s w v).2.1=v.2.1/\(vG g low one ls depth f s w v).2.2.1=v.2.2.1
 |0,_,_,_,_,_=>⟨rfl,rfl⟩
 |f+1,s,w,v,hs,hD=>by
  show (vN _ low one ls depth (f+1) s w v).2.1=v.2.1/\(vN _ low one ls depth (f+1) s w v).2.2.1=v.2.2.1
  rw [vN]
  split
  ·exact ⟨rfl,rfl⟩
  ·split
   ·exact ⟨rfl,rfl⟩
   ·split
    ·rename_i h3
     rw [Ai λhc=>by have:=(S.hd.zero s hs).2 hc;omega]
     exact ⟨rfl,rfl⟩
    ·refine bn (R:= λ(b:DS)=>b.2.1=v.2.1/\b.2.2.1=v.2.2.1) _ _ ⟨rfl,rfl⟩ λb l hl hb=>?_
     split
     ·exact hb
     ·have hl:=(Bw.1 hl).1
      have:=Mm.zz S.hc S.hd hs hl
      obtain ⟨i1,i2⟩:=BK S f (Ag s (An g l)) (w++ [l]) b (S.hc.next s hs l hl) (by rw [As,Be];omega)
      exact ⟨i1.trans hb.1,i2.trans hb.2⟩
def Up (g:List (List Int)) (ls:List Int) (D:List Int->Int) (s w:List Int):Prop:= -Jm w∈ls->D (Ag s (An g (-Jm w)))=D s+1
theorem LF (w:List Int) (l:Int):Jm (w++ [l])=l:=by simp [Jm]
theorem RI (S:kl g ls one L D low) {s w:List Int} (hs:s∈L) {l:Int} (hl:l∈ls) (hD:D (Ag s (An g l))+1=D s):Up g ls D (Ag s (An g l)) (w++ [l]):= λ_=>by
 rw [LF,(S.hc.back s hs l hl).2]
 omega
theorem RJ (S:kl g ls one L D low): ∀(n:Nat) (s w:List Int) (v:DS),s∈L->D s=n->depth=w.length+n->v.2.2.2.1=false->v.2.1=0->v.2.2.2.2.1=false->v.1+tN (n+1)<=20000->Up g ls D s w->
  (vG g low one ls depth (n+1) s w v).2.1=1/\(vG g low one ls depth (n+1) s w v).2.2.1=(eY g D ls n s w).1
 |0,s,w,v,hs,hD,KG,ha,hm,Jt,hn,QH=>by
  simp only [tN] at hn
  have vR:=(S.hd.zero s hs).1 hD
  have Adt:=S.adm s hs
  show (vN _ low one ls depth (0+1) s w v).2.1=1/\(vN _ low one ls depth (0+1) s w v).2.2.1=w
  rw [vN,Ai (by omega),Ai (by omega),Ab (by omega),Ab vR]
  refine ⟨by show v.2.1+1=1;omega,?_⟩
  show (if v.2.1=0 then w else v.2.2.1)=w
  rw [Ab hm]
 |n+1,s,w,v,hs,hD,KG,ha,hm,Jt,hn,QH=>by
  have ht:=RG (n+1)
  have Adt:=S.adm s hs
  have WO:tN (n+1+1)=1+4*tN (n+1):=rfl
  rw [WO] at hn
  show (vN _ low one ls depth (n+1+1) s w v).2.1=1/\(vN _ low one ls depth (n+1+1) s w v).2.2.1=_
  rw [vN,Ai (by omega),Ai (by omega),Ai (by omega)]
  have PT:(ls.filter λl=>!(l== -Jm w)).find? (λl=>decide (D (Ag s (An g l))=n))=ls.find? (λl=>decide (D (Ag s (An g l))=n)):=by
   rw [List.find?_filter]
   have: ∀xs:List Int,(∀l∈xs,l∈ls)->xs.find? (λa=>decide ((!(a== -Jm w))=true/\decide (D (Ag s (An g a))=n)=true))=xs.find? (λl=>decide (D (Ag s (An g l))=n)):=by
    intro xs
    induction xs with
    |nil=>exact λ_=>rfl
    |cons x xs ih=>
     intro hx
     have vU:=hx x (Fk ..)
     rw [List.find?_cons,List.find?_cons,ih λl hl=>hx l (Ao _ hl)]
     have:decide ((!(x== -Jm w))=true/\decide (D (Ag s (An g x))=n)=true)=decide (D (Ag s (An g x))=n):=by
      by_cases e:x= -Jm w
      ·have h2:=QH (e▸vU)
       rw [<-e] at h2
       have: ¬D (Ag s (An g x))=n:=by omega
       simp [e]
       rw [<-e]
       omega
      ·simp [e]
     rw [this]
   exact this ls λl hl=>hl
  obtain ⟨l0,hl0,hd0⟩:=S.hd.down s hs (by omega)
  obtain ⟨l1,ph⟩: ∃l1,ls.find? (λl=>decide (D (Ag s (An g l))=n))=some l1:=by
   cases hf:ls.find? (λl=>decide (D (Ag s (An g l))=n)) with
   |some l=>exact ⟨l,rfl⟩
   |none=>
    have:=List.find?_eq_none.1 hf l0 hl0
    simp at this
    omega
  have Asx:eY g D ls (n+1) s w=eY g D ls n (Ag s (An g l1)) (w++ [l1]):=by simp only [eY,ph]
  rw [Asx]
  have key: ∀(xs:List Int) (b:DS),(∀l∈xs,l∈ls)->b.2.2.2.1=false->b.2.1=0->b.2.2.2.2.1=false->b.1+xs.length*tN (n+1)<=20000->
    xs.find? (λl=>decide (D (Ag s (An g l))=n))=some l1->
    (xs.foldl (λ(v:DS) l=>if Kv v=true then v else vG g low one ls depth (n+1) (Ag s (An g l)) (w++ [l]) v) b).2.1=1/\
    (xs.foldl (λ(v:DS) l=>if Kv v=true then v else vG g low one ls depth (n+1) (Ag s (An g l)) (w++ [l]) v) b).2.2.1=(eY g D ls n (Ag s (An g l1)) (w++ [l1])).1:=by
   intro xs
   induction xs with
   |nil=>intro b _ _ _ _ _ h;cases h
   |cons x xs ih=>
    intro b hx hba xp ql hbn hfd
    rw [Ay,Int.natCast_add,Int.add_mul] at hbn
    have hp:0<=(xs.length:Int)*tN (n+1):=Int.mul_nonneg (by omega) ht
    have vU:=hx x (Fk ..)
    have s9: ¬Kv b=true:=by unfold Kv;rw [hba,ql,xp];simp
    have Am9:=Mm.zz S.hc S.hd hs vU
    have hnx:=S.hc.next s hs x vU
    rw [Ds,Ai s9]
    rw [List.find?_cons] at hfd
    obtain ⟨j1,j2⟩:=fb (g:=g) (low:=low) (one:=one) (depth:=depth) S.fG (n+1) (Ag s (An g x)) (w++ [x]) b hba (by omega)
    have PR:(vG g low one ls depth (n+1) (Ag s (An g x)) (w++ [x]) b).2.2.2.2.1=false:=by
     have:=BJ (nx:= λs l=>Ag s (An g l)) (low:=low) (one:=one) (ls:=ls) (depth:=depth) (n+1) (Ag s (An g x)) (w++ [x]) b
     exact (Ga Prod.fst this).trans ql
    by_cases hP:D (Ag s (An g x))=n
    ·rw [Co hP] at hfd
     have hxe:x=l1:=Bc hfd
     rw [<-hxe]
     obtain ⟨i1,i2⟩:=RJ S n (Ag s (An g x)) (w++ [x]) b hnx hP (by rw [As,Be];omega) hba xp ql (by omega) (RI S hs vU (by omega))
     have hdn:Kv (vG g low one ls depth (n+1) (Ag s (An g x)) (w++ [x]) b)=true:=by
      rw [show Kv (vG g low one ls depth (n+1) (Ag s (An g x)) (w++ [x]) b)=((vG g low one ls depth (n+1) (Ag s (An g x)) (w++ [x]) b).2.2.2.1||(decide (0<(vG g low one ls depth (n+1) (Ag s (An g x)) (w++ [x]) b).2.1)&&!(vG g low one ls depth (n+1) (Ag s (An g x)) (w++ [x]) b).2.2.2.2.1)) from rfl,i1,PR]
      simp
     have Pn:=RK (nx:= λs l=>Ag s (An g l)) (low:=low) (one:=one) (ls:=ls) (depth:=depth) (f:=n+1) (s:=s) (w:=w) xs _ hdn
     rw [Pn]
     exact ⟨i1,i2⟩
    ·rw [Ep hP] at hfd
     obtain ⟨i1,i2⟩:=BK S (n+1) (Ag s (An g x)) (w++ [x]) b hnx (depth:=depth) (by rw [As,Be];omega)
     exact ih _ (λl hl=>hx l (Ao _ hl)) j1 (i1.trans xp) PR (by omega) hfd
  have hl:=Ml (List.length_filter_le (λl=>!(l== -Jm w)) ls) S.fG
  have hmf:=zy hl ht
  exact key (ls.filter λl=>!(l== -Jm w)) (v.1+1,v.2) (λl hl=>(Bw.1 hl).1) ha hm Jt (by show v.1+1+_<=20000;omega) (PT.trans ph)
end
def il (g:List (List Int)) (D:List Int->Int) (ls:List Int):Nat->List Int->Int
 |0,_=>1
 |n+1,s=>ls.foldl (λa l=>a+if D (Ag s (An g l))=n then il g D ls n (Ag s (An g l)) else 0) 0
theorem foldl_add (h:Int->Int): ∀(xs:List Int) (a:Int),xs.foldl (λa l=>a+h l) a=a+xs.foldl (λa l=>a+h l) 0
 | [],a=>by simp
 |x::xs,a=>by
  rw [Ds,Ds,foldl_add h xs (a+h x),foldl_add h xs (0+h x)]
  omega
section
variable {g:List (List Int)} {ls one:List Int} {L:List (List Int)} {D low low':List Int->Int} {depth:Int}
theorem Abt (S:kl g ls one L D low): ∀(n:Nat) (s w:List Int) (v:DS),s∈L->D s=n->depth=w.length+n->v.2.2.2.1=false->v.2.2.2.2.1=true->v.1+tN (n+1)<=20000->Up g ls D s w->
  (vG g low one ls depth (n+1) s w v).2.1=v.2.1+il g D ls n s
 |0,s,w,v,hs,hD,KG,ha,Jt,hn,QH=>by
  simp only [tN] at hn
  have vR:=(S.hd.zero s hs).1 hD
  have Adt:=S.adm s hs
  show (vN _ low one ls depth (0+1) s w v).2.1=v.2.1+1
  rw [vN,Ai (by omega),Ai (by omega),Ab (by omega),Ab vR]
 |n+1,s,w,v,hs,hD,KG,ha,Jt,hn,QH=>by
  have ht:=RG (n+1)
  have Adt:=S.adm s hs
  have WO:tN (n+1+1)=1+4*tN (n+1):=rfl
  rw [WO] at hn
  show (vN _ low one ls depth (n+1+1) s w v).2.1=v.2.1+il g D ls (n+1) s
  rw [vN,Ai (by omega),Ai (by omega),Ai (by omega)]
  have key: ∀(xs:List Int) (b:DS),(∀l∈xs,l∈ls)->b.2.2.2.1=false->b.2.2.2.2.1=true->b.1+xs.length*tN (n+1)<=20000->
    ((xs.filter λl=>!(l== -Jm w)).foldl (λ(v:DS) l=>if Kv v=true then v else vG g low one ls depth (n+1) (Ag s (An g l)) (w++ [l]) v) b).2.1=
     b.2.1+xs.foldl (λa l=>a+if D (Ag s (An g l))=n then il g D ls n (Ag s (An g l)) else 0) 0:=by
   intro xs
   induction xs with
   |nil=>intro b _ _ _ _;simp
   |cons x xs ih=>
    intro b hx hba ql hbn
    rw [Ay,Int.natCast_add,Int.add_mul] at hbn
    have hp:0<=(xs.length:Int)*tN (n+1):=Int.mul_nonneg (by omega) ht
    have vU:=hx x (Fk ..)
    have hx':= λl (hl:l∈xs)=>hx l (Ao _ hl)
    rw [Ds,foldl_add,ff]
    by_cases e:x= -Jm w
    ·rw [Ai (by simp [e]),ih b hx' hba ql (by omega)]
     have h2:=QH (e▸vU)
     rw [<-e] at h2
     rw [Ai (by omega)]
     omega
    ·have s9: ¬Kv b=true:=by unfold Kv;rw [hba,ql];simp
     have Am9:=Mm.zz S.hc S.hd hs vU
     have hnx:=S.hc.next s hs x vU
     rw [Ab (by simp [e]),Ds,Ai s9]
     obtain ⟨j1,j2⟩:=fb (g:=g) (low:=low) (one:=one) (depth:=depth) S.fG (n+1) (Ag s (An g x)) (w++ [x]) b hba (by omega)
     have PR:(vG g low one ls depth (n+1) (Ag s (An g x)) (w++ [x]) b).2.2.2.2.1=true:=by
      have:=BJ (nx:= λs l=>Ag s (An g l)) (low:=low) (one:=one) (ls:=ls) (depth:=depth) (n+1) (Ag s (An g x)) (w++ [x]) b
      exact (Ga Prod.fst this).trans ql
     rw [ih _ hx' j1 PR (by omega)]
     by_cases hP:D (Ag s (An g x))=n
     ·rw [Ab hP,Abt S n (Ag s (An g x)) (w++ [x]) b hnx hP (by rw [As,Be];omega) hba ql (by omega) (RI S hs vU (by omega))]
      omega
     ·rw [Ai hP]
      obtain ⟨i1,_⟩:=BK S (n+1) (Ag s (An g x)) (w++ [x]) b hnx (depth:=depth) (by rw [As,Be];omega)
      rw [i1]
      omega
  have hmf:=zy S.fG ht
  exact key ls (v.1+1,v.2) (λl hl=>hl) ha Jt (by show v.1+1+_<=20000;omega)
end
theorem AD {p:PP} {ts:List TT} (hw:Gp p=true) (ht:Gj p ts=true) (h2:p.2.2.1.length=2):
  kl p.2.2.1 (Av p.2.2.1.length) (upto p.1.toNat) (Ba p) (Lo (Ba p) (Dh p)) (aJ ts) where
 hc:=Vu hw
 hd:=by
  have h:=Ub hw
  rw [show (Ba p).getD 0 []=upto p.1.toNat from (Si (Fe hw).1).1] at h
  exact h
 adm x hx:=Ae9 hw ht hx
 fG:=by rw [Lj,h2];exact Ap _
abbrev tB:Ty:= .slice (.int .u8)
abbrev JA:Ty:= .int .u64
def hN (h:Int):Int:=IntKind.u64.wrap (IntKind.u64.wrap (h*(6364136223846793005:Int))+(1442695040888963407:Int))
def xN (h:Int):Int:=IntKind.i64.wrap (IntKind.u64.wrap (↑(BitVec.ofInt IntKind.u64.bits (h.fdiv ((2:Int)^min (Int.toNat (33:Int)) IntKind.u64.bits))&&&BitVec.ofInt IntKind.u64.bits (16777215:Int)).toNat:Int))
def dI (b:List Int) (i:Int):Int:=if i<(b.length:Int) then i+1 else i
def dR (b:List Int) (i h n:Int):Int:=if i<(b.length:Int) then (xN (hN h)+Ih b i).tmod n else (xN (hN h)).tmod n
structure Xl (b:List Int) (i:Int):Prop where
 len:b.length<=4096
 byte: ∀y∈b,0<=y/\y<256
 lo:0<=i
 hi:i<=b.length
def GZ:List Int->Int->Int
 | [],h=>h
 |c::r,h=>GZ r (IntKind.u64.wrap (IntKind.u64.wrap (IntKind.u64.wrap (h*(1099511628211:Int))+IntKind.u64.wrap c)+(3:Int)))
def po (b:List Int) (s:Int):Int:=GZ b (IntKind.u64.wrap (IntKind.u64.wrap (s*(7919:Int))+IntKind.u64.wrap (b.length:Int)))
def a5 (b:List Int) (i h m:Int):Int×Int×Int:=(dI b (dI b i),hN (hN h),if dR b (dI b i) (hN h) 2=0 then-(1+dR b i h m) else 1+dR b i h m)
def wGo (b:List Int) (m:Int):Nat->Int->Int->List Int->Int×Int×List Int
 |0,i,h,w=>(i,h,w)
 |k+1,i,h,w=>wGo b m k (a5 b i h m).1 (a5 b i h m).2.1 (w++ [(a5 b i h m).2.2])
def Vl (b:List Int) (i h m k:Int):Int×Int×List Int:=wGo b m (dR b i h (k+1)).toNat (dI b i) (hN h) []
def gB (b:List Int) (n:Int):Nat->Int->Int->List Int->Int×Int×List Int
 |0,i,h,mv=>(i,h,mv)
 |k+1,i,h,mv=>gB b n k (dI b (dI b i)) (hN (hN h)) ((mv.set (dR b i h n).toNat (Ih mv (dR b (dI b i) (hN h) n))).set (dR b (dI b i) (hN h) n).toNat (Ih mv (dR b i h n)))
def pt (b:List Int) (n i h:Int):Int×Int×List Int:=gB b n (1+dR b i h 3).toNat (dI b i) (hN h) (upto n.toNat)
def aL (b:List Int) (n:Int):Nat->Int->Int->List (List Int)->Int×Int×List (List Int)
 |0,i,h,ms=>(i,h,ms)
 |k+1,i,h,ms=>aL b n k (pt b n i h).1 (pt b n i h).2.1 (ms++ [(pt b n i h).2.2])
def Aa0:ByteArray:= {data:= #[(65:UInt8),(66:UInt8)]}
def aK (b:List Int) (i h:Int):Int×Int×PP:=((aL b (3+dR b i h 3) 2 (dI b i) (hN h) []).1,(aL b (3+dR b i h 3) 2 (dI b i) (hN h) []).2.1,(3+dR b i h 3,Aa0,(aL b (3+dR b i h 3) 2 (dI b i) (hN h) []).2.2,()))
def WR (b:List Int) (n:Int):Nat->Int->Int->Int->List Int->Int×Int×List Int
 |0,_,i,h,o=>(i,h,o)
 |f+1,j,i,h,o=>if j<n/\o.length<3 then WR b n f (j+1) (dI b i) (hN h) (if dR b i h 2=0 then o++ [j] else o) else (i,h,o)
def XQ (b:List Int) (n:Int) (r:Int×Int×List Int):Int×Int×List Int:=if r.2.2.length=0 then (dI b r.1,hN r.2.1,r.2.2++ [dR b r.1 r.2.1 n]) else r
def Nq (b:List Int) (i h n:Int):Int×Int×List Int:=XQ b n (WR b n n.toNat 0 i h [])
noncomputable abbrev Aiq:MSpec:= {Jb:= [none,none],ins:= [(false, .Ec tB),(false, .Ec JA)],Ht:=false,Hp:= [none,none,none],outs:= [.Ec tB, .Ec tI, .Ec JA],fn:= λ_=>none,rp:=some 69}
noncomputable abbrev pK:MSpec:=gX Aiq (λx=>List.length x.1<=4096) (λx=>((x.1,0,po x.1 x.2.1,()),()))
noncomputable abbrev Ae7:MSpec:= {ptr:=some (69,3),Jb:= [none],ins:= [(false, .Ec tB),(false, .Ec tI),(false, .Ec JA),(false, .Ec tI)],Ht:=false,Hp:= [none],outs:= [.Ec tB, .Ec tI, .Ec JA, .Ec tI],fn:= λ_=>none}
noncomputable abbrev Ju:MSpec:=gX Ae7 (λx=>Xl x.1 x.2.1/\1<=x.2.2.2.1) (λx=>((x.1,dI x.1 x.2.1,hN x.2.2.1,dR x.1 x.2.1 x.2.2.1 x.2.2.2.1,()),()))
noncomputable abbrev eP:MSpec:=mW [none] [(false, .Ec tI)] false [none] [rL] (λx=>0<=x.1/\x.1<=20) (λx=>((upto x.1.toNat,()),()))
noncomputable abbrev bD:MSpec:=mW [none] [(false, .Ec tI)] false [none] [rL] (λx=>1<=x.1/\x.1<=20) (λx=>((upto x.1.toNat,()),()))
noncomputable abbrev Uh:Spec:=Gw (.pair tI .unit) tL false true (λx=>1<=x.1/\x.1<=20) (λx=>upto x.1.toNat)
noncomputable abbrev yb:Spec:=Gw (.pair tB .unit) .bool false true (λ_=>True) (λx=>decide ((List.length x.1:Int)>4096))
noncomputable abbrev Ank:MSpec:= {ptr:=some (69,3),Jb:= [],ins:= [(false, .Ec tB),(false, .Ec tI),(false, .Ec JA)],Ht:=false,Hp:= [some 3],outs:= [.Ec tB, .Ec tI, .Ec JA, .Ec tI, .Ec .str,rLL],fn:= λ_=>none}
noncomputable abbrev yg:MSpec:=gX Ank (λx=>Xl x.1 x.2.1) (λx=>((x.1,(aK x.1 x.2.1 x.2.2.1).1,(aK x.1 x.2.1 x.2.2.1).2.1,(aK x.1 x.2.1 x.2.2.1).2.2.1,(aK x.1 x.2.1 x.2.2.1).2.2.2.1,(aK x.1 x.2.1 x.2.2.1).2.2.2.2.1,()),()))
noncomputable abbrev Anj:MSpec:= {ptr:=some (69,3),Jb:= [none],ins:= [(false, .Ec tB),(false, .Ec tI),(false, .Ec JA),(false, .Ec tI)],Ht:=false,Hp:= [none],outs:= [.Ec tB, .Ec tI, .Ec JA, .Ec tI],fn:= λ_=>none}
noncomputable abbrev yf:MSpec:=gX Anj (λx=>Xl x.1 x.2.1/\1<=x.2.2.2.1/\x.2.2.2.1<=8) (λx=>((x.1,(a5 x.1 x.2.1 x.2.2.1 x.2.2.2.1).1,(a5 x.1 x.2.1 x.2.2.1 x.2.2.2.1).2.1,(a5 x.1 x.2.1 x.2.2.1 x.2.2.2.1).2.2,()),()))
noncomputable abbrev Ann:MSpec:= {ptr:=some (69,3),Jb:= [none,none],ins:= [(false, .Ec tB),(false, .Ec tI),(false, .Ec JA),(false, .Ec tI),(false, .Ec tI)],Ht:=false,Hp:= [none],outs:= [.Ec tB, .Ec tI, .Ec JA,rL],fn:= λ_=>none}
noncomputable abbrev qM:MSpec:=gX Ann (λx=>Xl x.1 x.2.1/\(1<=x.2.2.2.1/\x.2.2.2.1<=8)/\0<=x.2.2.2.2.1/\x.2.2.2.2.1<=20) (λx=>((x.1,(Vl x.1 x.2.1 x.2.2.1 x.2.2.2.1 x.2.2.2.2.1).1,(Vl x.1 x.2.1 x.2.2.1 x.2.2.2.1 x.2.2.2.2.1).2.1,(Vl x.1 x.2.1 x.2.2.1 x.2.2.2.1 x.2.2.2.2.1).2.2,()),()))
noncomputable abbrev Anm:MSpec:= {ptr:=some (69,3),Jb:= [some 3],ins:= [(false, .Ec tB),(false, .Ec tI),(false, .Ec JA),(false, .Ec tI),(false, .Ec .str),(false, .Ec lO)],Ht:=false,Hp:= [none],outs:= [.Ec tB, .Ec tI, .Ec JA,rL],fn:= λ_=>none}
noncomputable abbrev Xr:MSpec:=gX Anm (λx=>Xl x.1 x.2.1/\1<=x.2.2.2.1/\x.2.2.2.1<=20) (λx=>((x.1,(Nq x.1 x.2.1 x.2.2.1 x.2.2.2.1).1,(Nq x.1 x.2.1 x.2.2.1 x.2.2.2.1).2.1,(Nq x.1 x.2.1 x.2.2.1 x.2.2.2.1).2.2,()),()))
theorem Ajv (code:List Int) (MZ:Int) (P:((List Int×Int×Int×Unit)×Unit)->Prop):(Dn (λ(v3:Int×List Int×Int×Int×PUnit) (k4:Int×List Int×Int×Int×PUnit->Prop)=>Br (decide (v3.1<(↑code.length:Int))) (∃(y5:Int),idx code v3.1=some y5/\k4 (IntKind.i64.wrap (v3.1+(1:Int)),v3.2.1,v3.2.2.1,IntKind.u64.wrap (IntKind.u64.wrap (IntKind.u64.wrap (v3.2.2.2.1*(1099511628211:Int))+IntKind.u64.wrap y5)+(3:Int)),())) (P ((v3.2.1,v3.2.2.1,v3.2.2.2.1,()),()))) ((0:Int),code,Int.ofNat (nat_lit 0),IntKind.u64.wrap (IntKind.u64.wrap (MZ*(7919:Int))+IntKind.u64.wrap (↑code.length:Int)),PUnit.unit))=fnMW Tr (look []) pK Tryz.f9 (code,MZ,()) P:=by kernel_rfl
theorem Af0 (b:List Int) (i h n:Int) (P:((List Int×Int×Int×Int×Unit)×Unit)->Prop):(¬(33:Int)<(0:Int)/\Br (decide (i<(↑b.length:Int))) (∃(y5:Int),idx b i=some y5/\n≠(0:Int)/\P ((b,IntKind.i64.wrap (i+(1:Int)),IntKind.u64.wrap (IntKind.u64.wrap (h*(6364136223846793005:Int))+(1442695040888963407:Int)),(IntKind.i64.wrap (IntKind.i64.wrap (IntKind.u64.wrap (↑(BitVec.ofInt IntKind.u64.bits ((IntKind.u64.wrap (IntKind.u64.wrap (h*(6364136223846793005:Int))+(1442695040888963407:Int))).fdiv ((2:Int)^min (Int.toNat (33:Int)) IntKind.u64.bits))&&&BitVec.ofInt IntKind.u64.bits (16777215:Int)).toNat:Int))+IntKind.i64.wrap y5)).tmod n,()),())) (n≠(0:Int)/\P ((b,i,IntKind.u64.wrap (IntKind.u64.wrap (h*(6364136223846793005:Int))+(1442695040888963407:Int)),(IntKind.i64.wrap (IntKind.u64.wrap (↑(BitVec.ofInt IntKind.u64.bits ((IntKind.u64.wrap (IntKind.u64.wrap (h*(6364136223846793005:Int))+(1442695040888963407:Int))).fdiv ((2:Int)^min (Int.toNat (33:Int)) IntKind.u64.bits))&&&BitVec.ofInt IntKind.u64.bits (16777215:Int)).toNat:Int))).tmod n,()),())))=fnMW Tr (look []) Ju Tryz.f23 (b,i,h,n,()) P:=by kernel_rfl
theorem Aom (code:List Int) (P:Bool->Prop):(P (decide ((↑code.length:Int)>(4096:Int))))=fnW Fu (look []) yb Tryz.f8 (code,()) P:=by kernel_rfl
theorem Ac2 (n:Int) (P:((List Int×Unit)×Unit)->Prop):(0=0/\0=([]:List Int).length/\Dn (λ(v2:Int×List Int×PUnit) (k3:Int×List Int×PUnit->Prop)=>Br (decide (v2.1<n)) (0=0/\v2.2.1.length=v2.2.1.length/\v2.2.1.length+(List.take 1 (List.drop 0 [v2.1])).length<=Dk/\0=0/\(v2.2.1++List.take 1 (List.drop 0 [v2.1])).length=(v2.2.1++List.take 1 (List.drop 0 [v2.1])).length/\k3 (IntKind.i64.wrap (v2.1+(1:Int)),v2.2.1++List.take 1 (List.drop 0 [v2.1]),())) (P ((List.take v2.2.1.length (List.drop 0 v2.2.1),()),()))) ((0:Int),[],PUnit.unit))=fnMW Tr (look []) eP Tryz.f96 (n,()) P:=by kernel_rfl
theorem WA (n:Int) (P:((List Int×Unit)×Unit)->Prop):(∃(y2:Bool),Cs.fn (n,(1:Int),(20:Int),())=some y2/\Br (!y2) (P ((List.take 0 (List.drop 0 []),()),())) (∃(y3:(List Int×PUnit)×PUnit),eP.fn (n,())=some y3/\P ((List.take y3.1.1.length (List.drop 0 y3.1.1),()),())))=fnMW Tr (look [(95,Cs),(96,eP)]) bD Tryz.f42 (n,()) P:=by kernel_rfl
theorem Aca (n:Int) (P:List Int->Prop):(∃(y2:Bool),Cs.fn (n,(1:Int),(20:Int),())=some y2/\Br (!y2) (P (List.take 0 (List.drop 0 []))) (∃(y3:List Int),Dc.fn (n,())=some y3/\P y3))=fnW Fu (look [(95,Cs),(96,Dc)]) Uh Tryz.f42 (n,()) P:=by kernel_rfl
abbrev Ab6:Type:=Int×Int×ByteArray×Int×ByteArray×List (List Int)×List (List Int)×List Int×List Int×Int×Int×PUnit
abbrev Abb:Type:=Int×ByteArray×Int×ByteArray×List (List Int)×List (List Int)×List Int×Int×Int×PUnit
abbrev BF:Type:=(List Int×Int×Int×Int×PUnit)×PUnit
theorem Aou (b:List Int) (i h:Int) (P:((List Int×Int×Int×Int×ByteArray×List (List Int)×Unit)×Unit)->Prop):(∃(y4:BF),Ju.fn (b,i,h,(3:Int),())=some y4/\0=0/\0=([]:List Int).length/\0=0/\0=([]:List Int).length/\Dn (λ(v5:Abb) (k6:Abb->Prop)=>Br (decide ((↑v5.2.2.2.2.2.1.length:Int)<(2:Int))) (∃(y7:(List Int×PUnit)×PUnit),bD.fn (v5.2.2.1,())=some y7/\ ∃(y8:BF),Ju.fn (v5.2.2.2.2.2.2.1,v5.2.2.2.2.2.2.2.1,v5.2.2.2.2.2.2.2.2.1,(3:Int),())=some y8/\0=0/\y7.1.1.length=y7.1.1.length/\0=0/\v5.2.2.2.2.1.length=v5.2.2.2.2.1.length/\0=0/\v5.2.2.2.2.2.1.length=v5.2.2.2.2.2.1.length/\Dn (λ(v9:Ab6) (k10:Ab6->Prop)=>Br (decide (v9.1>(0:Int))) (∃(Iw:BF),Ju.fn (v9.2.2.2.2.2.2.2.2.1,v9.2.2.2.2.2.2.2.2.2.1,v9.2.2.2.2.2.2.2.2.2.2.1,v9.2.2.2.1,())=some Iw/\ ∃(Jc:BF),Ju.fn (Iw.1.1,Iw.1.2.1,Iw.1.2.2.1,v9.2.2.2.1,())=some Jc/\((0:Int)<=Iw.1.2.2.2.1/\Iw.1.2.2.2.1<(↑v9.2.2.2.2.2.2.2.1.length:Int))/\ ∃(Hr:Int),v9.2.2.2.2.2.2.2.1[0+Iw.1.2.2.2.1.toNat]?=some Hr/\((0:Int)<=Jc.1.2.2.2.1/\Jc.1.2.2.2.1<(↑v9.2.2.2.2.2.2.2.1.length:Int))/\ ∃(Io:Int),v9.2.2.2.2.2.2.2.1[0+Jc.1.2.2.2.1.toNat]?=some Io/\((0:Int)<=Iw.1.2.2.2.1/\Iw.1.2.2.2.1<(↑v9.2.2.2.2.2.2.2.1.length:Int))/\0+Iw.1.2.2.2.1.toNat<v9.2.2.2.2.2.2.2.1.length/\((0:Int)<=Jc.1.2.2.2.1/\Jc.1.2.2.2.1<(↑v9.2.2.2.2.2.2.2.1.length:Int))/\0+Jc.1.2.2.2.1.toNat<(v9.2.2.2.2.2.2.2.1.set (0+Iw.1.2.2.2.1.toNat) Io).length/\0=0/\v9.2.2.2.2.2.2.2.1.length=((v9.2.2.2.2.2.2.2.1.set (0+Iw.1.2.2.2.1.toNat) Io).set (0+Jc.1.2.2.2.1.toNat) Hr).length/\0=0/\v9.2.2.2.2.2.1.length=v9.2.2.2.2.2.1.length/\0=0/\v9.2.2.2.2.2.2.1.length=v9.2.2.2.2.2.2.1.length/\k10 (IntKind.i64.wrap (v9.1-(1:Int)),v9.2.1,v9.2.2.1,v9.2.2.2.1,v9.2.2.2.2.1,v9.2.2.2.2.2.1,v9.2.2.2.2.2.2.1,(v9.2.2.2.2.2.2.2.1.set (0+Iw.1.2.2.2.1.toNat) Io).set (0+Jc.1.2.2.2.1.toNat) Hr,Jc.1.1,Jc.1.2.1,Jc.1.2.2.1,())) (0=0/\v9.2.2.2.2.2.2.1.length=v9.2.2.2.2.2.2.1.length/\v9.2.2.2.2.2.2.1.length+(List.take 1 (List.drop 0 [List.take v9.2.2.2.2.2.2.2.1.length (List.drop 0 v9.2.2.2.2.2.2.2.1)])).length<=Dk/\0=0/\v9.2.2.2.2.2.1.length=v9.2.2.2.2.2.1.length/\0=0/\(v9.2.2.2.2.2.2.1++List.take 1 (List.drop 0 [List.take v9.2.2.2.2.2.2.2.1.length (List.drop 0 v9.2.2.2.2.2.2.2.1)])).length=(v9.2.2.2.2.2.2.1++List.take 1 (List.drop 0 [List.take v9.2.2.2.2.2.2.2.1.length (List.drop 0 v9.2.2.2.2.2.2.2.1)])).length/\k6 (v9.2.1,v9.2.2.1,v9.2.2.2.1,v9.2.2.2.2.1,v9.2.2.2.2.2.1,v9.2.2.2.2.2.2.1++List.take 1 (List.drop 0 [List.take v9.2.2.2.2.2.2.2.1.length (List.drop 0 v9.2.2.2.2.2.2.2.1)]),v9.2.2.2.2.2.2.2.2.1,v9.2.2.2.2.2.2.2.2.2.1,v9.2.2.2.2.2.2.2.2.2.2.1,()))) (IntKind.i64.wrap ((1:Int)+y8.1.2.2.2.1),v5.1,v5.2.1,v5.2.2.1,v5.2.2.2.1,v5.2.2.2.2.1,v5.2.2.2.2.2.1,y7.1.1,y8.1.1,y8.1.2.1,y8.1.2.2.1,PUnit.unit)) (P ((v5.2.2.2.2.2.2.1,v5.2.2.2.2.2.2.2.1,v5.2.2.2.2.2.2.2.2.1,v5.2.2.1,v5.2.2.2.1,List.take v5.2.2.2.2.2.1.length (List.drop 0 v5.2.2.2.2.2.1),()),()))) (Int.ofNat (nat_lit 0), {data:= #[]},IntKind.i64.wrap ((3:Int)+y4.1.2.2.2.1), {data:= #[(65:UInt8),(66:UInt8)]},[],[],y4.1.1,y4.1.2.1,y4.1.2.2.1,PUnit.unit))=fnMW Tr (look [(23,Ju),(42,bD)]) yg Tryz.f10 (b,i,h,()) P:=by kernel_rfl
abbrev Ab5:Type:=(List Int×Int×Int×Int×PUnit)×PUnit
theorem Aot (b:List Int) (i h m:Int) (P:((List Int×Int×Int×Int×Unit)×Unit)->Prop):(∃(y5:Ab5),Ju.fn (b,i,h,m,())=some y5/\ ∃(y6:Ab5),Ju.fn (y5.1.1,y5.1.2.1,y5.1.2.2.1,(2:Int),())=some y6/\Br (y6.1.2.2.2.1==(0:Int)) (P ((y6.1.1,y6.1.2.1,y6.1.2.2.1,IntKind.i64.wrap ((0:Int)-IntKind.i64.wrap ((1:Int)+y5.1.2.2.2.1)),()),())) (P ((y6.1.1,y6.1.2.1,y6.1.2.2.1,IntKind.i64.wrap ((1:Int)+y5.1.2.2.2.1),()),())))=fnMW Tr (look [(23,Ju)]) yf Tryz.f76 (b,i,h,m,()) P:=by kernel_rfl
abbrev Ab8:Type:=Int×List Int×List Int×Int×Int×PUnit
abbrev Abc:Type:=(List Int×Int×Int×Int×PUnit)×PUnit
theorem Aox (b:List Int) (i h m k:Int) (P:((List Int×Int×Int×List Int×Unit)×Unit)->Prop):(∃(y6:Abc),Ju.fn (b,i,h,IntKind.i64.wrap (k+(1:Int)),())=some y6/\0=0/\0=([]:List Int).length/\Dn (λ(v7:Ab8) (k8:Ab8->Prop)=>Br (decide (v7.1>(0:Int))) (∃(y9:Abc),yf.fn (v7.2.2.1,v7.2.2.2.1,v7.2.2.2.2.1,m,())=some y9/\0=0/\v7.2.1.length=v7.2.1.length/\v7.2.1.length+(List.take 1 (List.drop 0 [y9.1.2.2.2.1])).length<=Dk/\0=0/\(v7.2.1++List.take 1 (List.drop 0 [y9.1.2.2.2.1])).length=(v7.2.1++List.take 1 (List.drop 0 [y9.1.2.2.2.1])).length/\k8 (IntKind.i64.wrap (v7.1-(1:Int)),v7.2.1++List.take 1 (List.drop 0 [y9.1.2.2.2.1]),y9.1.1,y9.1.2.1,y9.1.2.2.1,())) (P ((v7.2.2.1,v7.2.2.2.1,v7.2.2.2.2.1,List.take v7.2.1.length (List.drop 0 v7.2.1),()),()))) (y6.1.2.2.2.1,[],y6.1.1,y6.1.2.1,y6.1.2.2.1,PUnit.unit))=fnMW Tr (look [(23,Ju),(76,yf)]) qM Tryz.f32 (b,i,h,m,k,()) P:=by kernel_rfl
abbrev Ab7:Type:=Int×Int×ByteArray×List (List Int)×List Int×List Int×Int×Int×PUnit
abbrev NU:Type:=(List Int×Int×Int×Int×PUnit)×PUnit
theorem Aow (b:List Int) (i h n:Int) (str:ByteArray) (g:List (List Int)) (P:((List Int×Int×Int×List Int×Unit)×Unit)->Prop):(0=0/\0=([]:List Int).length/\Dn (λ(v7:Ab7) (k8:Ab7->Prop)=>Br (decide (v7.1<v7.2.1)) (Br (decide ((↑v7.2.2.2.2.1.length:Int)<(3:Int))) (∃(y9:NU),Ju.fn (v7.2.2.2.2.2.1,v7.2.2.2.2.2.2.1,v7.2.2.2.2.2.2.2.1,(2:Int),())=some y9/\Br (y9.1.2.2.2.1==(0:Int)) (0=0/\v7.2.2.2.2.1.length=v7.2.2.2.2.1.length/\v7.2.2.2.2.1.length+(List.take 1 (List.drop 0 [v7.1])).length<=Dk/\0=0/\(v7.2.2.2.2.1++List.take 1 (List.drop 0 [v7.1])).length=(v7.2.2.2.2.1++List.take 1 (List.drop 0 [v7.1])).length/\k8 (IntKind.i64.wrap (v7.1+(1:Int)),v7.2.1,v7.2.2.1,v7.2.2.2.1,v7.2.2.2.2.1++List.take 1 (List.drop 0 [v7.1]),y9.1.1,y9.1.2.1,y9.1.2.2.1,())) (0=0/\v7.2.2.2.2.1.length=v7.2.2.2.2.1.length/\k8 (IntKind.i64.wrap (v7.1+(1:Int)),v7.2.1,v7.2.2.1,v7.2.2.2.1,v7.2.2.2.2.1,y9.1.1,y9.1.2.1,y9.1.2.2.1,()))) (Br ((↑v7.2.2.2.2.1.length:Int)==(0:Int)) (∃(y9:NU),Ju.fn (v7.2.2.2.2.2.1,v7.2.2.2.2.2.2.1,v7.2.2.2.2.2.2.2.1,v7.2.1,())=some y9/\0=0/\v7.2.2.2.2.1.length=v7.2.2.2.2.1.length/\v7.2.2.2.2.1.length+(List.take 1 (List.drop 0 [y9.1.2.2.2.1])).length<=Dk/\P ((y9.1.1,y9.1.2.1,y9.1.2.2.1,List.take (v7.2.2.2.2.1++List.take 1 (List.drop 0 [y9.1.2.2.2.1])).length (List.drop 0 (v7.2.2.2.2.1++List.take 1 (List.drop 0 [y9.1.2.2.2.1]))),()),())) (P ((v7.2.2.2.2.2.1,v7.2.2.2.2.2.2.1,v7.2.2.2.2.2.2.2.1,List.take v7.2.2.2.2.1.length (List.drop 0 v7.2.2.2.2.1),()),())))) (Br ((↑v7.2.2.2.2.1.length:Int)==(0:Int)) (∃(y9:NU),Ju.fn (v7.2.2.2.2.2.1,v7.2.2.2.2.2.2.1,v7.2.2.2.2.2.2.2.1,v7.2.1,())=some y9/\0=0/\v7.2.2.2.2.1.length=v7.2.2.2.2.1.length/\v7.2.2.2.2.1.length+(List.take 1 (List.drop 0 [y9.1.2.2.2.1])).length<=Dk/\P ((y9.1.1,y9.1.2.1,y9.1.2.2.1,List.take (v7.2.2.2.2.1++List.take 1 (List.drop 0 [y9.1.2.2.2.1])).length (List.drop 0 (v7.2.2.2.2.1++List.take 1 (List.drop 0 [y9.1.2.2.2.1]))),()),())) (P ((v7.2.2.2.2.2.1,v7.2.2.2.2.2.2.1,v7.2.2.2.2.2.2.2.1,List.take v7.2.2.2.2.1.length (List.drop 0 v7.2.2.2.2.1),()),())))) ((0:Int),n,str,g,[],b,i,h,PUnit.unit))=fnMW Tr (look [(23,Ju)]) Xr Tryz.f25 (b,i,h,n,str,g,()) P:=by kernel_rfl
theorem Ah0 (h:Int):0<=xN h/\xN h<=16777215:=by
 obtain ⟨a,ha⟩: ∃a,BitVec.ofInt IntKind.u64.bits (h.fdiv ((2:Int)^min (Int.toNat (33:Int)) IntKind.u64.bits))=a:=⟨_,rfl⟩
 have h1:(a&&&BitVec.ofInt IntKind.u64.bits (16777215:Int)).toNat<=16777215:=by
  rw [BitVec.toNat_and]
  exact Nat.and_le_right
 unfold xN
 rw [ha]
 obtain ⟨x,hx⟩: ∃x,(a&&&BitVec.ofInt IntKind.u64.bits (16777215:Int)).toNat=x:=⟨_,rfl⟩
 rw [hx] at h1⊢
 have e:IntKind.u64.wrap (x:Int)=x:=by
  unfold IntKind.wrap
  have e1:IntKind.signed .u64=false:=rfl
  have e2:IntKind.bits .u64=64:=rfl
  rw [e1,e2]
  simp only [Bool.false_and,Cz,Ry]
  omega
 rw [e,Cn (by omega) (by omega)]
 omega
theorem Xl.Ih {b:List Int} {i:Int} (h:Xl b i) (hi:i<b.length):0<=Ih b i/\Ih b i<256:=by
 have h0:=h.lo
 have hl:i.toNat<b.length:=by omega
 refine h.byte _ ?_
 unfold Go.Proofs.YtkkdpknjohcekaaGreat.Ih
 rw [Aj,Ac hl]
 exact Ak hl
theorem Xl.next {b:List Int} {i:Int} (h:Xl b i):Xl b (dI b i):=by
 have h0:=h.lo
 have h1:=h.hi
 unfold dI
 split
 ·exact ⟨h.len,h.byte,by omega,by omega⟩
 ·exact h
theorem cJ {b:List Int} {i n:Int} (h:Xl b i) (hn:1<=n) (s:Int):0<=dR b i s n/\dR b i s n<n:=by
 have hx:=Ah0 (hN s)
 unfold dR
 split
 ·rename_i hi
  have:=h.Ih hi
  exact ⟨Int.tmod_nonneg _ (by omega),Int.tmod_lt_of_pos _ (by omega)⟩
 ·exact ⟨Int.tmod_nonneg _ (by omega),Int.tmod_lt_of_pos _ (by omega)⟩
theorem Aj7 (code:List Int) (MZ:Int) (h:code.length<=4096):fnMW Tr (look []) pK Tryz.f9 (code,MZ,()) (λ(z:(List Int×Int×Int×Unit)×Unit)=>z=((code,0,po code MZ,()),())):=by
 obtain ⟨R,hR⟩: ∃R,po code MZ=R:=⟨_,rfl⟩
 rw [hR]
 unfold po at hR
 refine Eq.mp (Ajv code MZ _) ?_
 refine Bu code.length (λv=>v.1) (λj v=>v.2.1=code/\v.2.2.1=0/\GZ (code.drop j) v.2.2.2.1=R) rfl ⟨rfl,rfl,hR⟩ ?_
 rintro j ⟨jj,c,i,s,⟨⟩⟩ K hj s7 ⟨r1,r2,r3⟩ hK
 dsimp only at s7 r1 r2 r3⊢
 subst s7 r1 r2
 refine Br.dec (λhl=>?_) λhl=>?_
 ·have hl:j<c.length:=by omega
  refine ⟨_,Cf hl,?_⟩
  rw [Bv (by omega)]
  rw [Gg hl,GZ] at r3
  exact hK hl _ rfl ⟨rfl,rfl,r3⟩
 ·have:j=c.length:=by omega
  subst this
  rw [Zh,GZ] at r3
  rw [r3]
theorem NK:Cp Tryz.prog 9 pK:=
 Cp.gX Ss Bn mixed Tryz.func9 (by kernel_rfl) (by kernel_rfl) λx h=>Aj7 x.1 x.2.1 h
theorem Aeg (b:List Int) (i h n:Int) (hd:Xl b i/\1<=n):fnMW Tr (look []) Ju Tryz.f23 (b,i,h,n,()) (λ(z:(List Int×Int×Int×Int×Unit)×Unit)=>z=((b,dI b i,hN h,dR b i h n,()),())):=by
 obtain ⟨hd,hn⟩:=hd
 have h0:=hd.lo
 have hlen:=hd.len
 have hx:=Ah0 (hN h)
 refine Eq.mp (Af0 b i h n _) ⟨by omega,Br.dec (λhl=>?_) λhl=>?_⟩
 ·have hg:=hd.Ih hl
  refine ⟨_,jn h0 hl,by omega,?_⟩
  rw [Cn (n:=Ih b i) (by omega) (by omega)]
  show ((b,IntKind.i64.wrap (i+1),hN h,(IntKind.i64.wrap (xN (hN h)+Ih b i)).tmod n,()),())=_
  rw [Cn (by omega) (by omega),Cn (by omega) (by omega)]
  unfold dI dR
  rw [Ab hl,Ab hl]
 ·refine ⟨by omega,?_⟩
  show ((b,i,hN h,(xN (hN h)).tmod n,()),())=_
  unfold dI dR
  rw [Ai hl,Ai hl]
theorem aj:Cp Tryz.prog 23 Ju:=
 Cp.gX Ss Bn mixed Tryz.func23 (by kernel_rfl) (by kernel_rfl) λx h=>Aeg x.1 x.2.1 x.2.2.1 x.2.2.2.1 h
theorem Anw (code:List Int) (_:True):fnW Fu (look []) yb Tryz.f8 (code,()) (λ(z:Bool)=>z=decide ((code.length:Int)>4096)):=Eq.mp (Aom code _) rfl
theorem US:Sound Tryz.prog 8 yb:=
 Sound.Gw Dq Bn mixed Tryz.func8 (by kernel_rfl) (by kernel_rfl) λx h=>Anw x.1 h
theorem Ao4 (b:List Int) (i h m:Int) (hd:Xl b i/\1<=m/\m<=8):fnMW Tr (look [(23,Ju)]) yf Tryz.f76 (b,i,h,m,()) (λ(z:(List Int×Int×Int×Int×Unit)×Unit)=>z=((b,(a5 b i h m).1,(a5 b i h m).2.1,(a5 b i h m).2.2,()),())):=by
 obtain ⟨hd,h1,h8⟩:=hd
 have hr:=cJ hd h1 h
 refine Eq.mp (Aot b i h m _) ⟨_,Ab ⟨hd,h1⟩,_,Ab ⟨hd.next,by show (1:Int)<=2;decide⟩,Br.of (λhz=>?_) λhz=>?_⟩
 ·have hz:dR b (dI b i) (hN h) 2=0:=by simpa using hz
  show ((b,dI b (dI b i),hN (hN h),IntKind.i64.wrap (0-IntKind.i64.wrap (1+dR b i h m)),()),())=_
  rw [Cn (n:=1+dR b i h m) (by omega) (by omega),Cn (by omega) (by omega)]
  unfold a5
  rw [Ab hz,Int.zero_sub]
 ·have hz: ¬dR b (dI b i) (hN h) 2=0:=by simpa using hz
  show ((b,dI b (dI b i),hN (hN h),IntKind.i64.wrap (1+dR b i h m),()),())=_
  rw [Cn (by omega) (by omega)]
  unfold a5
  rw [Ai hz]
theorem UZ:Cp Tryz.prog 76 yf:=
 Cp.gX Ss (Gb aj Bn) mixed Tryz.func76 (by kernel_rfl) (by kernel_rfl) λx h=>Ao4 x.1 x.2.1 x.2.2.1 x.2.2.2.1 h
theorem Aa8 (n:Int) (h:0<=n/\n<=20):fnMW Tr (look []) eP Tryz.f96 (n,()) (λ(z:(List Int×Unit)×Unit)=>z=((upto n.toNat,()),())):=by
 refine Eq.mp (Ac2 n _) ⟨rfl,rfl,?_⟩
 refine Bu n.toNat (λv=>v.1) (λj v=>v.2.1=upto j) rfl rfl ?_
 rintro j ⟨i,ys,⟨⟩⟩ K hj hi h1 hK
 dsimp only at hi h1⊢
 subst hi h1
 refine Br.dec (λhl=>?_) λhl=>?_
 ·refine ⟨rfl,rfl,?_,rfl,rfl,?_⟩
  ·show (upto j).length+1<=4294967296
   rw [Sw];omega
  ·rw [Bv (by omega)]
   exact hK (by omega) _ rfl (fa j).symm
 ·have:j=n.toNat:=by omega
  subst this
  rw [Cc]
theorem AK:Cp Tryz.prog 96 eP:=
 Cp.mW Ss Bn mixed Tryz.func96 (by kernel_rfl) (by kernel_rfl) λx h=>Aa8 x.1 h
theorem UC (n:Int) (h:1<=n/\n<=20):fnMW Tr (look [(95,Cs),(96,eP)]) bD Tryz.f42 (n,()) (λ(z:(List Int×Unit)×Unit)=>z=((upto n.toNat,()),())):=by
 refine Eq.mp (WA n _) ⟨true,Ab trivial|>.trans (Ga some (Co ⟨h.1,h.2⟩)),λhc=>(by cases hc),λ_=>⟨_,Ab ⟨by show 0<=n;omega,h.2⟩,?_⟩⟩
 rw [Cc]
theorem wF:Cp Tryz.prog 42 bD:=
 Cp.mW Ss (Ax Rl (Gb AK Bn)) mixed Tryz.func42 (by kernel_rfl) (by kernel_rfl) λx h=>UC x.1 h
theorem Aag (n:Int) (h:1<=n/\n<=20):fnW Fu (look [(95,Cs),(96,Dc)]) Uh Tryz.f42 (n,()) (λ(z:List Int)=>z=upto n.toNat):=
 Eq.mp (Aca n _) ⟨true,Ab trivial|>.trans (Ga some (Co ⟨h.1,h.2⟩)),λhc=>(by cases hc),λ_=>⟨_,Ab ⟨by show 0<=n;omega,h.2⟩,rfl⟩⟩
theorem AR:Sound Tryz.prog 42 Uh:=
 Sound.Gw Dq (Ax Rl (Ax Wz Bn)) mixed Tryz.func42 (by kernel_rfl) (by kernel_rfl) λx h=>Aag x.1 h
theorem RL {b:List Int} {i:Int} (hd:Xl b i) (h m:Int):Xl b (a5 b i h m).1:=hd.next.next
theorem Ao8 (b:List Int) (i h m k:Int) (hd:Xl b i/\(1<=m/\m<=8)/\0<=k/\k<=20):fnMW Tr (look [(23,Ju),(76,yf)]) qM Tryz.f32 (b,i,h,m,k,()) (λ(z:(List Int×Int×Int×List Int×Unit)×Unit)=>z=((b,(Vl b i h m k).1,(Vl b i h m k).2.1,(Vl b i h m k).2.2,()),())):=by
 obtain ⟨hd,hm,xy,hk⟩:=hd
 have hr:=cJ hd (show 1<=k+1 by omega) h
 obtain ⟨R,hR⟩: ∃R,Vl b i h m k=R:=⟨_,rfl⟩
 rw [hR]
 unfold Vl at hR
 refine Eq.mp (Aox b i h m k _) ?_
 rw [Cn (by omega) (by omega)]
 refine ⟨_,Ab ⟨hd,by show 1<=k+1;omega⟩,rfl,rfl,?_⟩
 refine Dn.mk (λy=> ∃(f:Nat) (i h:Int) (w:List Int),y=((f:Int),w,b,i,h,())/\Xl b i/\f+w.length<=20/\wGo b m f i h w=R) (λy=>y.1.toNat)
  ⟨(dR b i h (k+1)).toNat,dI b i,hN h,[],by rw [gI hr.1],hd.next,by simp only [Ex];omega,hR⟩ ?_
 rintro y ⟨f,i,h,w,rfl,hd,hl,hv⟩
 dsimp only
 refine Br.dec (λhf=>?_) λhf=>?_
 ·obtain ⟨f,rfl⟩: ∃f',f=f'+1:=⟨f-1,by omega⟩
  refine ⟨_,Ab ⟨hd,hm⟩,rfl,rfl,by show w.length+1<=4294967296;omega,rfl,rfl,?_⟩
  rw [Cn (by omega) (by omega)]
  rw [wGo] at hv
  exact ⟨⟨f,_,_,_,by rw [show ((f+1:Nat):Int)-1=(f:Int) by omega];rfl,RL hd h m,by rw [As];show f+(w.length+1)<=20;omega,hv⟩,by show ((((f+1:Nat):Int)-1).toNat)<(((f+1:Nat):Int)).toNat;omega⟩
 ·obtain rfl:f=0:=by omega
  rw [wGo] at hv
  rw [<-hv]
  simp only [Cc]
theorem VD:Cp Tryz.prog 32 qM:=
 Cp.gX Ss (Gb aj (Gb UZ Bn)) mixed Tryz.func32 (by kernel_rfl) (by kernel_rfl) λx h=>Ao8 x.1 x.2.1 x.2.2.1 x.2.2.2.1 x.2.2.2.2.1 h
theorem HP {b:List Int} (n:Int): ∀(k:Nat) (i h:Int) (mv:List Int),Xl b i->Xl b (gB b n k i h mv).1
 |0,_,_,_,hd=>hd
 |k+1,i,h,mv,hd=>by rw [gB];exact HP n k _ _ _ hd.next.next
theorem tY {b:List Int} {n i:Int} (hd:Xl b i) (h:Int):Xl b (pt b n i h).1:=HP n _ _ _ _ hd.next
theorem QS (b:List Int) (n:Int): ∀(k:Nat) (i h:Int) (ms:List (List Int)),(aL b n k i h ms).2.2.length=k+ms.length
 |0,_,_,ms=>by rw [aL];show ms.length=0+ms.length;omega
 |k+1,i,h,ms=>by rw [aL,QS b n k,As,Be];omega
theorem QR {b:List Int} (n:Int): ∀(k:Nat) (i h:Int) (ms:List (List Int)),Xl b i->Xl b (aL b n k i h ms).1
 |0,_,_,_,hd=>hd
 |k+1,i,h,ms,hd=>by rw [aL];exact QR n k _ _ _ (tY hd h)
theorem Akz {xs:List Int} {y:Int} (h0:0<=y) (h:y<xs.length):xs[0+y.toNat]?=some (Ih xs y):=by
 have hl:y.toNat<xs.length:=by omega
 unfold Ih
 rw [Ce,Aj,Ac hl]
 rfl
theorem Ao5 (b:List Int) (i h:Int) (hd:Xl b i):fnMW Tr (look [(23,Ju),(42,bD)]) yg Tryz.f10 (b,i,h,()) (λ(z:(List Int×Int×Int×Int×ByteArray×List (List Int)×Unit)×Unit)=>z=((b,(aK b i h).1,(aK b i h).2.1,(aK b i h).2.2.1,(aK b i h).2.2.2.1,(aK b i h).2.2.2.2.1,()),())):=by
 have hr:=cJ hd (show (1:Int)<=3 by decide) h
 obtain ⟨n,hn⟩: ∃n,3+dR b i h 3=n:=⟨_,rfl⟩
 obtain ⟨R,hR⟩: ∃R,aL b n 2 (dI b i) (hN h) []=R:=⟨_,rfl⟩
 have hm:aK b i h=(R.1,R.2.1,(n,Aa0,R.2.2,())):=by unfold aK;rw [hn,hR]
 rw [hm]
 refine Eq.mp (Aou b i h _) ⟨_,Ab ⟨hd,by show (1:Int)<=3;decide⟩,rfl,rfl,rfl,rfl,?_⟩
 dsimp only
 rw [Cn (n:=3+dR b i h 3) (by omega) (by omega),hn]
 have hn3:3<=n/\n<=5:=by omega
 refine Dn.mk (λy=> ∃(f:Nat) (i h:Int) (ms:List (List Int)),y=((0:Int), {data:= #[]},n,Aa0,[],ms,b,i,h,())/\Xl b i/\f+ms.length=2/\aL b n f i h ms=R) (λy=>2-y.2.2.2.2.2.1.length)
  ⟨2,dI b i,hN h,[],rfl,hd.next,rfl,hR⟩ ?_
 rintro y ⟨f,i,h,ms,rfl,hd,hl,hv⟩
 dsimp only
 refine Br.dec (λhf=>?_) λhf=>?_
 ·obtain ⟨f,rfl⟩: ∃f',f=f'+1:=⟨f-1,by omega⟩
  rw [aL] at hv
  obtain ⟨M,hM⟩: ∃M,pt b n i h=M:=⟨_,rfl⟩
  have hMd:Xl b M.1:=by rw [<-hM];exact tY hd h
  rw [hM] at hv
  unfold pt at hM
  have hr:=cJ hd (show (1:Int)<=3 by decide) h
  refine ⟨_,Ab ⟨by show 1<=n;omega,by show n<=20;omega⟩,_,Ab ⟨hd,by show (1:Int)<=3;decide⟩,rfl,rfl,rfl,rfl,rfl,rfl,?_⟩
  dsimp only
  rw [Cn (n:=1+dR b i h 3) (by omega) (by omega)]
  refine Dn.mk (λz=> ∃(c:Nat) (i h:Int) (mv:List Int),z=((c:Int),(0:Int), {data:= #[]},n,Aa0,[],ms,mv,b,i,h,())/\Xl b i/\c<=3/\mv.length=n.toNat/\gB b n c i h mv=M) (λz=>z.1.toNat)
   ⟨(1+dR b i h 3).toNat,dI b i,hN h,upto n.toNat,by rw [gI (by omega)],hd.next,by omega,Sw _,hM⟩ ?_
  rintro z ⟨c,i',h',mv,rfl,xr,hc,ji,hsw⟩
  dsimp only
  refine Br.dec (λkQ=>?_) λkQ=>?_
  ·obtain ⟨c,rfl⟩: ∃c',c=c'+1:=⟨c-1,by omega⟩
   rw [gB] at hsw
   have r1:=cJ xr (show 1<=n by omega) h'
   have r2:=cJ xr.next (show 1<=n by omega) (hN h')
   have l1:dR b i' h' n<mv.length:=by omega
   have l2:dR b (dI b i') (hN h') n<mv.length:=by omega
   refine ⟨_,Ab ⟨xr,by show 1<=n;omega⟩,_,Ab ⟨xr.next,by show 1<=n;omega⟩,⟨r1.1,l1⟩,_,Akz r1.1 l1,⟨r2.1,l2⟩,_,Akz r2.1 l2,⟨r1.1,l1⟩,by show 0+(dR b i' h' n).toNat<mv.length;omega,⟨r2.1,l2⟩,
    by rw [Df];show 0+(dR b (dI b i') (hN h') n).toNat<mv.length;omega,rfl,by simp only [Df],rfl,rfl,rfl,rfl,?_⟩
   dsimp only
   rw [Cn (by omega) (by omega),Ce,Ce]
   exact ⟨⟨c,_,_,_,by rw [show ((c+1:Nat):Int)-1=(c:Int) by omega],xr.next.next,by omega,by simp only [Df];exact ji,hsw⟩,by show ((((c+1:Nat):Int)-1).toNat)<(((c+1:Nat):Int)).toNat;omega⟩
  ·obtain rfl:c=0:=by omega
   rw [gB] at hsw
   subst hsw
   refine ⟨rfl,rfl,by show ms.length+1<=4294967296;omega,rfl,rfl,rfl,rfl,?_⟩
   rw [Cc]
   exact ⟨⟨f,_,_,_,rfl,hMd,by rw [As];show f+(ms.length+1)=2;omega,hv⟩,by show 2-(ms++ [mv]).length<2-ms.length;rw [As,Be];omega⟩
 ·obtain rfl:f=0:=by omega
  rw [aL] at hv
  rw [<-hv]
  simp only [Cc]
theorem VA:Cp Tryz.prog 10 yg:=
 Cp.gX Ss (Gb aj (Gb wF Bn)) mixed Tryz.func10 (by kernel_rfl) (by kernel_rfl) λx h=>Ao5 x.1 x.2.1 x.2.2.1 h
theorem Ao7 (b:List Int) (i h n:Int) (str:ByteArray) (g:List (List Int)) (hd:Xl b i/\1<=n/\n<=20):fnMW Tr (look [(23,Ju)]) Xr Tryz.f25 (b,i,h,n,str,g,()) (λ(z:(List Int×Int×Int×List Int×Unit)×Unit)=>z=((b,(Nq b i h n).1,(Nq b i h n).2.1,(Nq b i h n).2.2,()),())):=by
 obtain ⟨hd,hn1,hn⟩:=hd
 obtain ⟨R,hR⟩: ∃R,Nq b i h n=R:=⟨_,rfl⟩
 rw [hR]
 unfold Nq at hR
 refine Eq.mp (Aow b i h n str g _) ⟨rfl,rfl,?_⟩
 refine Dn.mk (λy=> ∃(f:Nat) (j i h:Int) (o:List Int),y=(j,n,str,g,o,b,i,h,())/\Xl b i/\0<=j/\n-j<=f/\o.length<=3/\XQ b n (WR b n f j i h o)=R) (λy=>(n-y.1).toNat)
  ⟨n.toNat,0,i,h,[],rfl,hd,by omega,by omega,by simp,hR⟩ ?_
 rintro y ⟨f,j,i,h,o,rfl,hd,hj,hf,ho,hv⟩
 dsimp only
 have fin:WR b n f j i h o=(i,h,o)->Br ((o.length:Int)==0) (∃(y9:(List Int×Int×Int×Int×PUnit)×PUnit),Ju.fn (b,i,h,n,())=some y9/\(0:Nat)=0/\o.length=o.length/\o.length+(List.take (1:Nat) (List.drop (0:Nat) [y9.1.2.2.2.1])).length<=Dk/\
   ((y9.1.1,y9.1.2.1,y9.1.2.2.1,List.take (o++List.take (1:Nat) (List.drop (0:Nat) [y9.1.2.2.2.1])).length (List.drop (0:Nat) (o++List.take (1:Nat) (List.drop (0:Nat) [y9.1.2.2.2.1]))),()),())=((b,R.1,R.2.1,R.2.2,()),()))
   (((b,i,h,List.take o.length (List.drop 0 o),()),())=((b,R.1,R.2.1,R.2.2,()),())):=by
  intro he
  rw [he] at hv
  refine Br.of (λhz=>?_) λhz=>?_
  ·have hz:o.length=0:=by simpa using hz
   rw [XQ,Ab hz] at hv
   refine ⟨_,Ab ⟨hd,hn1⟩,rfl,rfl,by show o.length+1<=4294967296;omega,?_⟩
   rw [<-hv,Cc]
   rfl
  ·have hz: ¬o.length=0:=by simpa using hz
   rw [XQ,Ai hz] at hv
   rw [<-hv,Cc]
 refine Br.dec (λhjn=>?_) λhjn=>?_
 ·refine Br.dec (λho3=>?_) λho3=>?_
  ·obtain ⟨f,rfl⟩: ∃f',f=f'+1:=⟨f-1,by omega⟩
   rw [WR,Ab ⟨hjn,by omega⟩] at hv
   refine ⟨_,Ab ⟨hd,by show (1:Int)<=2;decide⟩,Br.of (λhz=>?_) λhz=>?_⟩
   ·have hz:dR b i h 2=0:=by simpa using hz
    rw [Ab hz] at hv
    refine ⟨rfl,rfl,by show o.length+1<=4294967296;omega,rfl,rfl,?_⟩
    rw [Cn (by omega) (by omega)]
    exact ⟨⟨f,j+1,_,_,_,rfl,hd.next,by omega,by omega,by rw [As];show o.length+1<=3;omega,hv⟩,by show (n-(j+1)).toNat<(n-j).toNat;omega⟩
   ·have hz: ¬dR b i h 2=0:=by simpa using hz
    rw [Ai hz] at hv
    refine ⟨rfl,rfl,?_⟩
    rw [Cn (by omega) (by omega)]
    exact ⟨⟨f,j+1,_,_,_,rfl,hd.next,by omega,by omega,ho,hv⟩,by show (n-(j+1)).toNat<(n-j).toNat;omega⟩
  ·refine fin ?_
   cases f with
   |zero=>rfl
   |succ f=>rw [WR,Ai (λhc=>ho3 (by omega))]
 ·refine fin ?_
  cases f with
  |zero=>rfl
  |succ f=>rw [WR,Ai (λhc=>hjn hc.1)]
theorem VC:Cp Tryz.prog 25 Xr:=
 Cp.gX Ss (Gb aj Bn) mixed Tryz.func25 (by kernel_rfl) (by kernel_rfl) λx h=>Ao7 x.1 x.2.1 x.2.2.1 x.2.2.2.1 x.2.2.2.2.1 x.2.2.2.2.2.1 h
end Go.Proofs.YtkkdpknjohcekaaGreat
