/-
  Part 43 of the proof that the statement FnExactSolveTwoPhase holds.
-/
import Derived.Test.YtjbdmibbbpdnnaaCSolveTwoPhase41
namespace Go.Proofs.Ytjbdmibbbpdnnaa
open Go.RowKit
def On (b:ByteArray) (t:List Int):ByteArray:=t.foldl (λa k=>a++b.extract k.toNat (k+1).toNat) ByteArray.empty
def An (p:PP) (t:List Int):PP:=(p.1,On p.2.1 t,t.map λk=>p.2.2.1.getD k.toNat [],())
noncomputable abbrev Si:Spec:=Dg (.pair Co (.pair tL .unit)) Co false true (λx=>Cn x.1/\Bk x.1 x.2.1=true) (λx=>An x.1 x.2.1)
noncomputable abbrev My:Spec:=Dg (.pair Co (.pair tL .unit)) Co false true (λx=>Cn x.1/\Bk x.1 x.2.1=true) (λx=>An x.1 x.2.1)
noncomputable abbrev Jh:MSpec:=Yp [some 3,none] [(false, .Dy tI),(false, .Dy .str),(false, .Dy hY),(false, .Dy tL)] false [some 3] [.Dy tI, .Dy .str,xLL]
 (λx=>Cn (x.1,x.2.1,x.2.2.1,())/\Bk (x.1,x.2.1,x.2.2.1,()) x.2.2.2.1=true) (λx=>(((An (x.1,x.2.1,x.2.2.1,()) x.2.2.2.1).1,(An (x.1,x.2.1,x.2.2.1,()) x.2.2.2.1).2.1,(An (x.1,x.2.1,x.2.2.1,()) x.2.2.2.1).2.2.1,()),()))
abbrev HP:Type:=Option XP×List Int×Option XP×Unit
noncomputable def Ho (p:PP) (t:List Int):Bool:=Bz p&&Bk p t
noncomputable def Dn (p:PP) (t:List Int):HP:=(some (Fu p),t,some (Fu (An p t)),())
noncomputable abbrev Kk:Spec:=Dg (.pair Co (.pair tL .unit)) (.pair (.optr bx) (.pair .bool .unit)) true false (λx=>Cn x.1/\short x.2.1) (λx=>if Ho x.1 x.2.1=true then (some (Dn x.1 x.2.1),true,()) else (none,false,()))
noncomputable abbrev Mj:Spec:=Dg (.pair Co (.pair tL (.pair tL .unit))) (.pair (.optr bx) (.pair tI (.pair .bool .unit))) true false (λx=>Cn x.1/\short x.2.1/\short x.2.2.1)
 (λx=>if Ho x.1 x.2.1=true then (some (Dn x.1 x.2.1),(Ms x.1 x.2.2.1).1,(Ms x.1 x.2.2.1).2.1,()) else (none,0,false,()))
noncomputable def gL (h:Option HP) (i:Int):Bool:=match h with
 |some (some e,t,_)=>decide ((Aa e.1).getD i.toNat []∈Aa (An e.1 t))
 |_=>false
noncomputable abbrev gT:Spec:=Dg (.pair (.optr bx) (.pair tI .unit)) .bool false true (λx=>(∃p t,Ho p t=true/\x.1=some (Dn p t)/\0<=x.2.1/\x.2.1<(Aa p).length)) (λx=>gL x.1 x.2.1)
noncomputable abbrev dK:Spec:=Dg (.pair Co (.pair tL .unit)) (.pair Lt (.pair Lt (.pair .bool .unit))) true false (λx=>Cn x.1/\short x.2.1)
 (λx=>(if Ho x.1 x.2.1=true then (Ai x.1.2.2.1 (upto x.1.1.toNat),Ai (An x.1 x.2.1).2.2.1 (upto x.1.1.toNat),true,()) else ((Gi x.1).1,(Gi x.1).1,false,())))
abbrev lZ:Type:=Int×Int×ByteArray×List (List Int)×Int×ByteArray×Int×ByteArray×List (List Int)×List (List Int)×PUnit
theorem CV (p:Int×ByteArray×List (List Int)×Unit) (t:List Int) (P:(Int×ByteArray×List (List Int)×Unit)->Prop):(0=0/\0=([]:List Int).length/\0=0/\0=([]:List Int).length/\Bo (λ(v3:lZ) (k4:lZ->Prop)=>Br (decide (v3.1<(↑t.length:Int))) (∃(y5:Int),idx t v3.1=some y5/\((0:Int)<=y5/\y5<=IntKind.i64.wrap (y5+(1:Int))/\IntKind.i64.wrap (y5+(1:Int))<=(↑v3.2.2.1.size:Int))/\v3.2.2.2.2.2.2.2.1.size+(v3.2.2.1.extract y5.toNat (IntKind.i64.wrap (y5+(1:Int))).toNat).size<=4294967296/\ ∃(y6:List Int),idx v3.2.2.2.1 y5=some y6/\ ∃(y7:List Int),Hf.fn (y6,())=some y7/\0=0/\v3.2.2.2.2.2.2.2.2.2.1.length=v3.2.2.2.2.2.2.2.2.2.1.length/\v3.2.2.2.2.2.2.2.2.2.1.length+ [y7].length<=Bm/\0=0/\v3.2.2.2.2.2.2.2.2.1.length=v3.2.2.2.2.2.2.2.2.1.length/\0=0/\(v3.2.2.2.2.2.2.2.2.2.1++ [y7]).length=(v3.2.2.2.2.2.2.2.2.2.1++ [y7]).length/\k4 (IntKind.i64.wrap (v3.1+(1:Int)),v3.2.1,v3.2.2.1,v3.2.2.2.1,v3.2.2.2.2.1,v3.2.2.2.2.2.1,v3.2.2.2.2.2.2.1,v3.2.2.2.2.2.2.2.1++v3.2.2.1.extract y5.toNat (IntKind.i64.wrap (y5+(1:Int))).toNat,v3.2.2.2.2.2.2.2.2.1,v3.2.2.2.2.2.2.2.2.2.1++ [y7],())) (P (v3.2.2.2.2.2.2.1,v3.2.2.2.2.2.2.2.1,List.take v3.2.2.2.2.2.2.2.2.2.1.length (List.drop 0 v3.2.2.2.2.2.2.2.2.2.1),()))) ((0:Int),p.1,p.2.1,p.2.2.1,Int.ofNat (nat_lit 0), {data:= #[]},p.1, {data:= #[]},[],[],PUnit.unit))=fnW Da (look [(123,Hf)]) Si Try.f102 (p,t,()) P:=by kernel_rfl
abbrev fP:Type:=Int×Int×ByteArray×List (List Int)×Int×ByteArray×Int×ByteArray×List (List Int)×List (List Int)×PUnit
theorem vJ (p:Int×ByteArray×List (List Int)×Unit) (t:List Int) (P:(Int×ByteArray×List (List Int)×Unit)->Prop):(0=0/\0=([]:List Int).length/\0=0/\0=([]:List Int).length/\Bo (λ(v3:fP) (k4:fP->Prop)=>Br (decide (v3.1<(↑t.length:Int))) (∃(y5:Int),idx t v3.1=some y5/\((0:Int)<=y5/\y5<=IntKind.i64.wrap (y5+(1:Int))/\IntKind.i64.wrap (y5+(1:Int))<=(↑v3.2.2.1.size:Int))/\v3.2.2.2.2.2.2.2.1.size+(v3.2.2.1.extract y5.toNat (IntKind.i64.wrap (y5+(1:Int))).toNat).size<=4294967296/\ ∃(y6:List Int),idx v3.2.2.2.1 y5=some y6/\ ∃(y7:List Int),jo.fn (y6,())=some y7/\0=0/\v3.2.2.2.2.2.2.2.2.2.1.length=v3.2.2.2.2.2.2.2.2.2.1.length/\v3.2.2.2.2.2.2.2.2.2.1.length+ [y7].length<=Bm/\0=0/\v3.2.2.2.2.2.2.2.2.1.length=v3.2.2.2.2.2.2.2.2.1.length/\0=0/\(v3.2.2.2.2.2.2.2.2.2.1++ [y7]).length=(v3.2.2.2.2.2.2.2.2.2.1++ [y7]).length/\k4 (IntKind.i64.wrap (v3.1+(1:Int)),v3.2.1,v3.2.2.1,v3.2.2.2.1,v3.2.2.2.2.1,v3.2.2.2.2.2.1,v3.2.2.2.2.2.2.1,v3.2.2.2.2.2.2.2.1++v3.2.2.1.extract y5.toNat (IntKind.i64.wrap (y5+(1:Int))).toNat,v3.2.2.2.2.2.2.2.2.1,v3.2.2.2.2.2.2.2.2.2.1++ [y7],())) (P (v3.2.2.2.2.2.2.1,v3.2.2.2.2.2.2.2.1,List.take v3.2.2.2.2.2.2.2.2.2.1.length (List.drop 0 v3.2.2.2.2.2.2.2.2.2.1),()))) ((0:Int),p.1,p.2.1,p.2.2.1,Int.ofNat (nat_lit 0), {data:= #[]},p.1, {data:= #[]},[],[],PUnit.unit))=fnW Da (look [(145,jo)]) My Try.f107 (p,t,()) P:=by kernel_rfl
abbrev jz:Type:=Option ((Int×ByteArray×List (List Int)×PUnit)×List (List Int)×List Int×(ByteArray->Option Int)×List Int×List Int×List (List Int)×PUnit)×Bool×PUnit
theorem m7 (p:Int×ByteArray×List (List Int)×Unit) (t:List Int) (P:(Option (Option XP×List Int×Option XP×Unit)×Bool×Unit)->Prop):(∃(y3:jz),Lg.fn ((p.1,p.2.1,p.2.2.1,()),())=some y3/\Br (!y3.2.1) (P (none,false,())) (∃(y4:Bool),Fa.fn ((p.1,p.2.1,p.2.2.1,()),t,())=some y4/\Br (!y4) (P (none,false,())) (∃(y5:Int×ByteArray×List (List Int)×PUnit),My.fn ((p.1,p.2.1,p.2.2.1,()),t,())=some y5/\ ∃(y6:jz),Lg.fn (y5,())=some y6/\P (some (y3.1,t,y6.1,()),true,()))))=fnW Da (look [(80,Lg),(106,Fa),(107,My)]) Kk Try.f57 (p,t,()) P:=by kernel_rfl
theorem pJ (p:Int×ByteArray×List (List Int)×Unit) (t s:List Int) (P:(Option (Option XP×List Int×Option XP×Unit)×Int×Bool×Unit)->Prop):(∃(y4:Option (Option ((Int×ByteArray×List (List Int)×PUnit)×List (List Int)×List Int×(ByteArray->Option Int)×List Int×List Int×List (List Int)×PUnit)×List Int×Option ((Int×ByteArray×List (List Int)×PUnit)×List (List Int)×List Int×(ByteArray->Option Int)×List Int×List Int×List (List Int)×PUnit)×PUnit)×Bool×PUnit),Kk.fn ((p.1,p.2.1,p.2.2.1,()),t,())=some y4/\Br (!y4.2.1) (P (none,(0:Int),false,())) (∃(y5:Option ((Int×ByteArray×List (List Int)×PUnit)×List (List Int)×List Int×(ByteArray->Option Int)×List Int×List Int×List (List Int)×PUnit)×List Int×Option ((Int×ByteArray×List (List Int)×PUnit)×List (List Int)×List Int×(ByteArray->Option Int)×List Int×List Int×List (List Int)×PUnit)×PUnit),y4.1=some y5/\ ∃(y6:Int×Bool×PUnit),Sa.fn (y5.1,s,())=some y6/\P (y4.1,y6.1,y6.2.1,())))=fnW Da (look [(57,Kk),(98,Sa)]) Mj Try.f55 (p,t,s,()) P:=by kernel_rfl
abbrev FK:Type:=Option ((Int×ByteArray×List (List Int)×PUnit)×List (List Int)×List Int×(ByteArray->Option Int)×List Int×List Int×List (List Int)×PUnit)×List Int×Option ((Int×ByteArray×List (List Int)×PUnit)×List (List Int)×List Int×(ByteArray->Option Int)×List Int×List Int×List (List Int)×PUnit)×PUnit
theorem Aak (h:Option (Option XP×List Int×Option XP×Unit)) (i:Int) (P:Bool->Prop):(∃(y3:FK),h=some y3/\ ∃(y4:FK),h=some y4/\ ∃(y5:(Int×ByteArray×List (List Int)×PUnit)×List (List Int)×List Int×(ByteArray->Option Int)×List Int×List Int×List (List Int)×PUnit),y4.1=some y5/\ ∃(y6:List Int),idx y5.2.1 i=some y6/\ ∃(y7:Int×Bool×PUnit),Sa.fn (y3.2.2.1,y6,())=some y7/\P y7.2.1)=fnW Da (look [(98,Sa)]) gT Try.f56 (h,i,()) P:=by kernel_rfl
abbrev FI:Type:=(List (List Int)×List Int×List Int×Bool×PUnit)×Bool×PUnit
theorem Aaf (p:Int×ByteArray×List (List Int)×Unit) (t:List Int) (P:(SS×SS×Bool×Unit)->Prop):(∃(y3:FI),Ks.fn ((p.1,p.2.1,p.2.2.1,()),())=some y3/\Br (!y3.2.1) ((P ((y3.1.1,y3.1.2.1,y3.1.2.2.1,y3.1.2.2.2.1,()),(y3.1.1,y3.1.2.1,y3.1.2.2.1,y3.1.2.2.2.1,()),false,())/\P ((y3.1.1,y3.1.2.1,y3.1.2.2.1,y3.1.2.2.2.1,()),(y3.1.1,y3.1.2.1,y3.1.2.2.1,y3.1.2.2.2.1,()),false,()))/\P ((y3.1.1,y3.1.2.1,y3.1.2.2.1,y3.1.2.2.2.1,()),(y3.1.1,y3.1.2.1,y3.1.2.2.1,y3.1.2.2.2.1,()),false,())) (∃(y4:Bool),Fa.fn ((p.1,p.2.1,p.2.2.1,()),t,())=some y4/\Br (!y4) ((P ((y3.1.1,y3.1.2.1,y3.1.2.2.1,y3.1.2.2.2.1,()),(y3.1.1,y3.1.2.1,y3.1.2.2.1,y3.1.2.2.2.1,()),false,())/\P ((y3.1.1,y3.1.2.1,y3.1.2.2.1,y3.1.2.2.2.1,()),(y3.1.1,y3.1.2.1,y3.1.2.2.1,y3.1.2.2.2.1,()),false,()))/\P ((y3.1.1,y3.1.2.1,y3.1.2.2.1,y3.1.2.2.2.1,()),(y3.1.1,y3.1.2.1,y3.1.2.2.1,y3.1.2.2.2.1,()),false,())) (∃(y5:Int×ByteArray×List (List Int)×PUnit),Si.fn ((p.1,p.2.1,p.2.2.1,()),t,())=some y5/\ ∃(y6:FI),Ks.fn (y5,())=some y6/\(P ((y3.1.1,y3.1.2.1,y3.1.2.2.1,y3.1.2.2.2.1,()),(y6.1.1,y6.1.2.1,y6.1.2.2.1,y6.1.2.2.2.1,()),true,())/\P ((y3.1.1,y3.1.2.1,y3.1.2.2.1,y3.1.2.2.2.1,()),(y6.1.1,y6.1.2.1,y6.1.2.2.1,y6.1.2.2.2.1,()),true,()))/\P ((y3.1.1,y3.1.2.1,y3.1.2.2.1,y3.1.2.2.2.1,()),(y6.1.1,y6.1.2.1,y6.1.2.2.1,y6.1.2.2.2.1,()),true,()))))=fnW Da (look [(75,Ks),(101,Fa),(102,Si)]) dK Try.f52 (p,t,()) P:=by kernel_rfl
theorem zh (b:ByteArray) (i:Nat):b[i]?=b.data[i]?:=by
 by_cases h:i<b.size
 ·rw [getElem?_pos b i h,getElem?_pos b.data i h];rfl
 ·rw [getElem?_neg b i h,getElem?_neg b.data i h]
theorem WV (a b:ByteArray) (k j:Nat) (hk:k<b.size):(a++b.extract k (k+1))[j]?=if j<a.size then a[j]? else if j=a.size then b[k]? else none:=by
 rw [zh,ByteArray.data_append,ByteArray.data_extract,Array.getElem?_append]
 by_cases h:j<a.size
 ·rw [if_pos h,if_pos (show j<a.data.size from h),zh]
 ·rw [if_neg h,if_neg (show ¬j<a.data.size from h)]
  have fw:k<b.data.size:=hk
  by_cases e:j=a.size
  ·rw [if_pos e,zh]
   have:j-a.data.size=0:=by have:a.data.size=a.size:=rfl
                            omega
   rw [this,Array.getElem?_extract,if_pos (by omega),Nat.add_zero]
  ·rw [if_neg e,Array.getElem?_extract,if_neg]
   have:a.data.size=a.size:=rfl
   omega
theorem uZ {b:ByteArray} : ∀(t:List Int) (a:ByteArray),(∀k∈t,0<=k/\k<b.size)->
  (t.foldl (λ(a:ByteArray) (k:Int)=>a++b.extract k.toNat (k+1).toNat) a).size=a.size+t.length/\
  ∀j,(t.foldl (λ(a:ByteArray) (k:Int)=>a++b.extract k.toNat (k+1).toNat) a)[j]?=if j<a.size then a[j]? else (t[j-a.size]?).bind λk=>b[k.toNat]?
 | [],a,_=>by
  refine ⟨rfl,λj=>?_⟩
  by_cases h:j<a.size
  ·rw [if_pos h];rfl
  ·rw [if_neg h]
   simp only [List.foldl_nil,List.getElem?_nil,Option.bind_none]
   exact getElem?_neg a j h
 |k::t,a,h=>by
  obtain ⟨h1,h2⟩:=h k (by simp)
  obtain ⟨kn,rfl⟩:=Int.eq_ofNat_of_zero_le h1
  have hkb:kn<b.size:=by omega
  have Pr:(a++b.extract kn (kn+1)).size=a.size+1:=by rw [ByteArray.size_append,ByteArray.size_extract];omega
  obtain ⟨g1,g2⟩:=uZ t (a++b.extract kn (kn+1)) λk' fw=>h k' (List.mem_cons_of_mem _ fw)
  simp only [List.foldl_cons]
  rw [show ((kn:Nat):Int).toNat=kn from Int.toNat_natCast kn,show (((kn:Nat):Int)+1).toNat=kn+1 by omega]
  refine ⟨by rw [g1,Pr,List.length_cons];omega,λj=>?_⟩
  rw [g2 j,Pr,WV a b kn j hkb]
  by_cases e1:j<a.size
  ·rw [if_pos (by omega),if_pos e1,if_pos e1]
  ·rw [if_neg e1]
   by_cases e2:j=a.size
   ·subst e2
    rw [if_pos (by omega),if_pos rfl,if_neg (by omega),Nat.sub_self]
    simp
   ·rw [if_neg (by omega),if_neg e1,show j-a.size=(j-(a.size+1))+1 by omega,List.getElem?_cons_succ]
theorem aj {b:ByteArray} (t:List Int) (h: ∀k∈t,0<=k/\k<b.size):(On b t).size=t.length:=by
 have:=(uZ t ByteArray.empty h).1
 rw [ByteArray.size_empty,Nat.zero_add] at this
 exact this
theorem yq {b:ByteArray} (t:List Int) (h: ∀k∈t,0<=k/\k<b.size) (j:Nat):(On b t)[j]?=(t[j]?).bind λk=>b[k.toNat]?:=by
 have:=(uZ t ByteArray.empty h).2 j
 rw [ByteArray.size_empty,if_neg (Nat.not_lt_zero _),Nat.sub_zero] at this
 exact this
theorem kY (b:ByteArray) {t:List Int} {j:Nat} (hl:j<t.length):On b (t.take (j+1))=On b (t.take j)++b.extract (t[j]).toNat (t[j]+1).toNat:=by
 unfold On
 rw [List.take_add_one,List.getElem?_eq_getElem hl,Option.toList_some,List.foldl_append]
 rfl
structure KK (p:PP) (t:List Int):Prop where
 valid:Ba p=true
 pos:0<t.length
 cn:t.length<=p.2.2.1.length
 g8:p.2.2.1.length<=8
 size:p.2.1.size=p.2.2.1.length
 Nv: ∀ {j:Nat} (h:j<t.length),∃k:Nat,t[j]=(k:Int)/\k<p.2.2.1.length
 inc: ∀ {i j:Nat} (hi:i<t.length) (hj:j<t.length),i<j->t[i]<t[j]
theorem OA {n:Int} {xs:List Int} (h:PL n xs xs.length): ∀(j i:Nat) (hi:i<xs.length) (hj:j<xs.length),i<j->xs[i]<xs[j]
 |0,_,_,_,fv=>absurd fv (Nat.not_lt_zero _)
 |j+1,i,hi,hj,fv=>by
  have h1:=(h (j+1) hj hj).2.2 (by omega)
  simp only [Nat.add_sub_cancel] at h1
  by_cases e:i=j
  ·subst e;exact h1
  ·have:=OA h j i hi (by omega) (by omega)
   omega
theorem Wu {p:PP} {t:List Int} (h:Bk p t=true):KK p t:=by
 obtain ⟨hv,hp⟩:=Dz.1 h
 obtain ⟨h1,h2⟩:=Dz.1 hp
 have hV:=valid hv
 obtain ⟨_,_,Pr⟩:=Dz.1 hv
 have RQ: ∀ {j:Nat} (h:j<t.length),∃k:Nat,t[j]=(k:Int)/\k<p.2.2.1.length:= λ {j} hj=>by
  have:=h2 j hj hj
  obtain ⟨k,hk⟩:=Int.eq_ofNat_of_zero_le this.1
  exact ⟨k,hk,by omega⟩
 refine ⟨hv,h1,?_,hV.cn.2,Pr,RQ,λhi hj fv=>OA h2 _ _ hi hj fv⟩
 have h5:=BA h2 (t.length-1) (by omega)
 obtain ⟨k,e,hk⟩:=RQ (show t.length-1<t.length by omega)
 omega
theorem KK.ZA {p:PP} {t:List Int} (h:KK p t): ∀k∈t,0<=k/\k<p.2.1.size:= λk hk=>by
 obtain ⟨j,hj,rfl⟩:=List.mem_iff_getElem.1 hk
 obtain ⟨kn,e,jH⟩:=h.Nv hj
 rw [h.size,e]
 omega
theorem gZ {p:PP} {t:List Int} (h:Bk p t=true):Ba (An p t)=true:=by
 have hs:=Wu h
 have hV:=valid hs.valid
 obtain ⟨hg,hnm,_⟩:=Dz.1 hs.valid
 obtain ⟨g1,g2,g3⟩:=Dz.1 hg
 obtain ⟨n1,n2⟩:=Dz.1 hnm
 have Pr:=aj t hs.ZA
 refine Dz.2 ⟨Dz.2 ⟨g1,?_,λq hq=>?_⟩,Dz.2 ⟨⟨?_,?_⟩,λj hj=>?_⟩,?_⟩
 ·show (t.map _).length<=8
  rw [List.length_map]
  have:=hs.cn
  have:=hs.g8
  omega
 ·obtain ⟨k,hk,rfl⟩:=List.mem_map.1 hq
  obtain ⟨j,hj,rfl⟩:=List.mem_iff_getElem.1 hk
  obtain ⟨kn,e,jH⟩:=hs.Nv hj
  rw [e,Int.toNat_natCast,Bu jH]
  exact g3 _ (List.getElem_mem jH)
 ·show 1<=(On p.2.1 t).size
  rw [Pr];exact hs.pos
 ·show (On p.2.1 t).size<=8
  rw [Pr];have:=hs.cn;have:=hs.g8;omega
 ·have hj:j<t.length:=by rw [<-Pr];exact hj
  obtain ⟨kn,e,jH⟩:=hs.Nv hj
  obtain ⟨c,c1,c2,c3,c4⟩:=n2 kn (by rw [hs.size];exact jH)
  refine ⟨c,?_,c2,c3,λi hi=>?_⟩
  ·show (On p.2.1 t)[j]?=some c
   rw [yq t hs.ZA,List.getElem?_eq_getElem hj,e,Option.bind_some,Int.toNat_natCast,c1]
  ·show (On p.2.1 t)[i]?≠some c
   have cX:i<t.length:=by omega
   obtain ⟨k2,e2,QK⟩:=hs.Nv cX
   have:=hs.inc cX hj hi
   rw [yq t hs.ZA,List.getElem?_eq_getElem cX,e2,Option.bind_some,Int.toNat_natCast]
   exact c4 k2 (by omega)
 ·show (On p.2.1 t).size=(t.map _).length
  rw [Pr,List.length_map]
theorem pt {p:PP} {t:List Int} (hp:Cn p) (h:Bk p t=true):Cn (An p t):=by
 have hs:=Wu h
 have h1:=hs.cn
 have h2:=hs.g8
 refine ⟨?_,?_,λq hq=>?_⟩
 ·show (On p.2.1 t).size<=4294967296
  rw [aj t hs.ZA];omega
 ·show (t.map _).length<=4294967296
  rw [List.length_map];omega
 ·obtain ⟨k,hk,rfl⟩:=List.mem_map.1 hq
  obtain ⟨j,hj,rfl⟩:=List.mem_iff_getElem.1 hk
  obtain ⟨kn,e,jH⟩:=hs.Nv hj
  rw [e,Int.toNat_natCast,Bu jH]
  exact hp.2.2 _ (List.getElem_mem jH)
theorem FH {p:PP} {t:List Int} (h:Bk p t=true) {x:List Int} (hx:Gn p.1.toNat ((An p t).2.2.1.map some) x):Gn p.1.toNat (p.2.2.1.map some) x:=by
 refine Yy.mono (λg hg=>?_) hx
 have hg:=ae.1 hg
 obtain ⟨k,hk,rfl⟩:=List.mem_map.1 hg
 obtain ⟨j,hj,rfl⟩:=List.mem_iff_getElem.1 hk
 obtain ⟨kn,e,jH⟩:=(Wu h).Nv hj
 rw [e,Int.toNat_natCast,Bu jH]
 exact ae.2 (List.getElem_mem jH)
theorem Sl {p:PP} {t:List Int} (hw:Bz p=true) (h:Bk p t=true):Bz (An p t)=true:=by
 have yZ:=gZ h
 have hr:=Wm yZ
 refine Bool.and_eq_true_iff.2 ⟨yZ,Classical.byContradiction λhn=>?_⟩
 have hn:(Fw (An p t).2.2.1 (upto (An p t).1.toNat)).2.2=false:=by simpa using hn
 obtain ⟨h1,z,h2,h3⟩:=hr.big hn
 have h5:=dp (l1:=z::(Fw (An p t).2.2.1 (upto (An p t).1.toNat)).1) (l2:=Aa p) (List.nodup_cons.2 ⟨h3,hr.nodup⟩) λx hx=>by
  rcases List.mem_cons.1 hx with rfl|hx
  ·exact (sy hw).all rfl _ (FH h h2)
  ·exact (sy hw).all rfl _ (FH h (hr.gen x hx))
 have h6:=dW (Bt hw).1
 simp only [List.length_cons] at h5
 omega
theorem map_take {α β:Type} (f:α->β) {xs:List α} {j:Nat} (h:j<xs.length):(xs.take (j+1)).map f=(xs.take j).map f++ [f xs[j]]:=by
 rw [List.take_add_one,List.getElem?_eq_getElem h,List.map_append];rfl
theorem AX (p:PP) (t:List Int) (h:Cn p/\Bk p t=true):fnW Da (look [(123,Hf)]) Si Try.f102 (p,t,()) (λ(z:PP)=>z=An p t):=by
 obtain ⟨hp,Lu⟩:=h
 have hs:=Wu Lu
 refine Eq.mp (CV p t _) ⟨rfl,rfl,rfl,rfl,?_⟩
 refine Ap t.length (λv=>v.1) (λj v=>v=((j:Int),p.1,p.2.1,p.2.2.1,0,ByteArray.empty,p.1,On p.2.1 (t.take j),[],(t.take j).map λk=>p.2.2.1.getD k.toNat [],())) rfl rfl ?_
 rintro j v K hj hi hR hK
 subst hR
 dsimp only
 have hlen:=hs.cn
 have hg8:=hs.g8
 refine Br.dec (λhl=>?_) λhl=>?_
 ·have hl:j<t.length:=by omega
  obtain ⟨kn,hk,jH⟩:=hs.Nv hl
  have hkb:kn<p.2.1.size:=by rw [hs.size];exact jH
  have hw:IntKind.i64.wrap ((kn:Int)+1)=(kn:Int)+1:=Bd (by have:=hs.g8;omega) (by have:=hs.g8;omega)
  have Pr:=aj (b:=p.2.1) (t.take j) λk fw=>hs.ZA k (List.mem_of_mem_take fw)
  have hex:(p.2.1.extract kn (kn+1)).size=1:=by rw [ByteArray.size_extract];omega
  refine ⟨_,Au hl,?_⟩
  rw [hk,hw]
  refine ⟨⟨by omega,by omega,by omega⟩,by rw [show ((kn:Int)+1).toNat=kn+1 by omega,Int.toNat_natCast,hex,Pr];have:=List.length_take_le j t;omega,_,Au jH,_,if_pos (hp.2.2 _ (List.getElem_mem jH)),rfl,rfl,?_,rfl,rfl,rfl,rfl,?_⟩
  ·show ((t.take j).map _).length+1<=4294967296
   rw [List.length_map];have:=List.length_take_le j t;have:=hs.g8;omega
  ·rw [Ak (by omega),show ((kn:Int)+1).toNat=kn+1 by omega,Int.toNat_natCast]
   refine hK hl _ rfl ?_
   rw [kY _ hl,map_take _ hl,hk,Int.toNat_natCast,show ((kn:Int)+1).toNat=kn+1 by omega,Bu jH]
 ·have:j=t.length:=by omega
  subst this
  rw [List.take_length,Ax]
  rfl
theorem pc:Sound Try.prog 102 Si:=
 Sound.Dg Cg (Ah Ws As) mixed Try.func102 (by kernel_rfl) (by kernel_rfl) λx h=>AX x.1 x.2.1 h
theorem uj (p:PP) (t:List Int) (h:Cn p/\Bk p t=true):fnW Da (look [(145,jo)]) My Try.f107 (p,t,()) (λ(z:PP)=>z=An p t):=by
 obtain ⟨hp,Lu⟩:=h
 have hs:=Wu Lu
 refine Eq.mp (vJ p t _) ⟨rfl,rfl,rfl,rfl,?_⟩
 refine Ap t.length (λv=>v.1) (λj v=>v=((j:Int),p.1,p.2.1,p.2.2.1,0,ByteArray.empty,p.1,On p.2.1 (t.take j),[],(t.take j).map λk=>p.2.2.1.getD k.toNat [],())) rfl rfl ?_
 rintro j v K hj hi hR hK
 subst hR
 dsimp only
 have hlen:=hs.cn
 have hg8:=hs.g8
 refine Br.dec (λhl=>?_) λhl=>?_
 ·have hl:j<t.length:=by omega
  obtain ⟨kn,hk,jH⟩:=hs.Nv hl
  have hkb:kn<p.2.1.size:=by rw [hs.size];exact jH
  have hw:IntKind.i64.wrap ((kn:Int)+1)=(kn:Int)+1:=Bd (by have:=hs.g8;omega) (by have:=hs.g8;omega)
  have Pr:=aj (b:=p.2.1) (t.take j) λk fw=>hs.ZA k (List.mem_of_mem_take fw)
  have hex:(p.2.1.extract kn (kn+1)).size=1:=by rw [ByteArray.size_extract];omega
  refine ⟨_,Au hl,?_⟩
  rw [hk,hw]
  refine ⟨⟨by omega,by omega,by omega⟩,by rw [show ((kn:Int)+1).toNat=kn+1 by omega,Int.toNat_natCast,hex,Pr];have:=List.length_take_le j t;omega,_,Au jH,_,if_pos (hp.2.2 _ (List.getElem_mem jH)),rfl,rfl,?_,rfl,rfl,rfl,rfl,?_⟩
  ·show ((t.take j).map _).length+1<=4294967296
   rw [List.length_map];have:=List.length_take_le j t;have:=hs.g8;omega
  ·rw [Ak (by omega),show ((kn:Int)+1).toNat=kn+1 by omega,Int.toNat_natCast]
   refine hK hl _ rfl ?_
   rw [kY _ hl,map_take _ hl,hk,Int.toNat_natCast,show ((kn:Int)+1).toNat=kn+1 by omega,Bu jH]
 ·have:j=t.length:=by omega
  subst this
  rw [List.take_length,Ax]
  rfl
theorem kW:Sound Try.prog 107 My:=
 Sound.Dg Cg (Ah uJ As) mixed Try.func107 (by kernel_rfl) (by kernel_rfl) λx h=>uj x.1 x.2.1 h
theorem Ig {p:PP} {t:List Int} :Ho p t=true↔Bz p=true/\Bk p t=true:=by unfold Ho;rw [Bool.and_eq_true]
theorem xR (p:PP) (t:List Int) (h:Cn p/\short t):fnW Da (look [(80,Lg),(106,Fa),(107,My)]) Kk Try.f57 (p,t,()) (λ(z:Option (Option XP×List Int×Option XP×Unit)×Bool×Unit)=>z=(if Ho p t=true then (some (Dn p t),true,()) else (none,false,()))):=by
 obtain ⟨hp,ht⟩:=h
 by_cases hw:Bz p=true
 ·have he:Lg.fn ((p.1,p.2.1,p.2.2.1,()),())=some (some (Fu p),true,()):=(if_pos hp).trans (congrArg some (if_pos hw))
  refine Eq.mp (m7 p t _) ⟨_,he,λhb=>by simp at hb,λ_=>⟨_,if_pos ⟨hp,ht⟩,Br.of (λhm=>?_) λhm=>?_⟩⟩
  ·have hm: ¬Bk p t=true:=Cs hm
   rw [if_neg λh=>hm (Ig.1 h).2]
  have hm:Bk p t=true:=by simpa using hm
  have z0:=Sl hw hm
  have ao:Lg.fn (An p t,())=some (some (Fu (An p t)),true,()):=(if_pos (pt hp hm)).trans (congrArg some (if_pos z0))
  rw [if_pos (Ig.2 ⟨hw,hm⟩)]
  exact ⟨_,if_pos ⟨hp,hm⟩,_,ao,rfl⟩
 ·have he:Lg.fn ((p.1,p.2.1,p.2.2.1,()),())=some (none,false,()):=(if_pos hp).trans (congrArg some (if_neg hw))
  rw [if_neg λh=>hw (Ig.1 h).1]
  exact Eq.mp (m7 p t _) ⟨_,he,λ_=>rfl,λhb=>by simp at hb⟩
theorem mB:Sound Try.prog 57 Kk:=
 Sound.Dg Cg (Ah qH (Ah dO (Ah kW As))) mixed Try.func57 (by kernel_rfl) (by kernel_rfl) λx h=>xR x.1 x.2.1 h
theorem AU (p:PP) (t s:List Int) (h:Cn p/\short t/\short s):fnW Da (look [(57,Kk),(98,Sa)]) Mj Try.f55 (p,t,s,()) (λ(z:Option (Option XP×List Int×Option XP×Unit)×Int×Bool×Unit)=>z=(if Ho p t=true then (some (Dn p t),(Ms p s).1,(Ms p s).2.1,()) else (none,0,false,()))):=by
 obtain ⟨hp,ht,hs⟩:=h
 by_cases hw:Ho p t=true
 ·have he:Kk.fn ((p.1,p.2.1,p.2.2.1,()),t,())=some (some (Dn p t),true,()):=(if_pos ⟨hp,ht⟩).trans (congrArg some (if_pos hw))
  rw [if_pos hw]
  refine Eq.mp (pJ p t s _) ⟨_,he,λhb=>by simp at hb,λ_=>⟨_,rfl,_,if_pos ⟨⟨Fu p,rfl,(Ig.1 hw).1,rfl⟩,hs⟩,?_⟩⟩
  rfl
 ·have he:Kk.fn ((p.1,p.2.1,p.2.2.1,()),t,())=some (none,false,()):=(if_pos ⟨hp,ht⟩).trans (congrArg some (if_neg hw))
  rw [if_neg hw]
  exact Eq.mp (pJ p t s _) ⟨_,he,λ_=>rfl,λhb=>by simp at hb⟩
theorem pa:Sound Try.prog 55 Mj:=
 Sound.Dg Cg (Ah mB (Ah gW As)) mixed Try.func55 (by kernel_rfl) (by kernel_rfl) λx h=>AU x.1 x.2.1 x.2.2.1 h
theorem ZP (h:Option HP) (i:Int) (hh: ∃p t,Ho p t=true/\h=some (Dn p t)/\0<=i/\i<(Aa p).length):fnW Da (look [(98,Sa)]) gT Try.f56 (h,i,()) (λ(z:Bool)=>z=gL h i):=by
 obtain ⟨p,t,hw,rfl,h1,h2⟩:=hh
 obtain ⟨k,rfl⟩:=Int.eq_ofNat_of_zero_le h1
 have hk:k<(Aa p).length:=by omega
 obtain ⟨gF,hm⟩:=Ig.1 hw
 have Qv:=(er gF).1
 refine Eq.mp (Aak _ _ _) ⟨Dn p t,rfl,Dn p t,rfl,Fu p,rfl,(Aa p)[k],by rw [Qv];exact Au hk,_,if_pos ⟨⟨Fu (An p t),rfl,Sl gF hm,rfl⟩,oJ (dV (Bt gF).1 (List.getElem_mem hk))⟩,?_⟩
 show (Ms (An p t) (Aa p)[k]).2.1=decide ((Aa p).getD ((k:Nat):Int).toNat []∈Aa (An p t))
 rw [Int.toNat_natCast,Bu hk]
 unfold Ms
 split
 ·rename_i h;rw [decide_eq_true h]
 ·rename_i h;rw [decide_eq_false h]
theorem BZ:Sound Try.prog 56 gT:=
 Sound.Dg Cg (Ah gW As) mixed Try.func56 (by kernel_rfl) (by kernel_rfl) λx h=>ZP x.1 x.2.1 h
theorem WG {p:PP} {s:List Int} :(Ms p s).2.1=decide (s∈Aa p):=by
 unfold Ms
 split
 ·rename_i h;rw [decide_eq_true h]
 ·rename_i h;rw [decide_eq_false h]
theorem WE {p:PP} {s:List Int} (h:s∈Aa p):0<=(Ms p s).1/\(Ms p s).1<(Aa p).length/\(Aa p).getD (Ms p s).1.toNat []=s:=by
 unfold Ms
 rw [if_pos h]
 have h1:=List.idxOf_lt_length_of_mem h
 refine ⟨Int.natCast_nonneg _,by show ((List.idxOf s (Aa p):Nat):Int)<_;omega,?_⟩
 show (Aa p).getD ((List.idxOf s (Aa p):Nat):Int).toNat []=s
 rw [Int.toNat_natCast,Bu h1]
 exact List.getElem_idxOf h1
theorem ZK (p:PP) (t:List Int) (h:Cn p/\short t):fnW Da (look [(75,Ks),(101,Fa),(102,Si)]) dK Try.f52 (p,t,()) (λ(z:SS×SS×Bool×Unit)=>z=(if Ho p t=true then (Ai p.2.2.1 (upto p.1.toNat),Ai (An p t).2.2.1 (upto p.1.toNat),true,()) else ((Gi p).1,(Gi p).1,false,()))):=by
 obtain ⟨hp,ht⟩:=h
 refine Eq.mp (Aaf p t _) ⟨_,if_pos hp,?_⟩
 have hz: ∀(x:SS),((x.1,x.2.1,x.2.2.1,x.2.2.2.1,()),(x.1,x.2.1,x.2.2.1,x.2.2.2.1,()),false,())=(x,x,false,()):= λx=>rfl
 dsimp only
 by_cases hw:Bz p=true
 ·have hv:=(Bt hw).1
  have e1:Gi (p.1,p.2.1,p.2.2.1,())=(Ai p.2.2.1 (upto p.1.toNat),true,()):=(if_pos hv).trans (by rw [<-hw])
  rw [e1]
  refine ⟨λhb=>by simp at hb,λ_=>⟨_,if_pos ⟨hp,ht⟩,Br.of (λhm=>?_) λhm=>?_⟩⟩
  ·have hm: ¬Bk p t=true:=Cs hm
   rw [if_neg λh=>hm (Ig.1 h).2]
   exact ⟨⟨rfl,rfl⟩,rfl⟩
  have hm:Bk p t=true:=by simpa using hm
  rw [if_pos (Ig.2 ⟨hw,hm⟩)]
  have ao:Ks.fn (An p t,())=some (Ai (An p t).2.2.1 (upto p.1.toNat),true,()):=pk (p:=An p t) (pt hp hm) (Sl hw hm)
  exact ⟨_,if_pos ⟨hp,hm⟩,_,ao,⟨rfl,rfl⟩,rfl⟩
 ·have hwf:(Gi (p.1,p.2.1,p.2.2.1,())).2.1=false:=by
   show (Gi p).2.1=false
   unfold Gi
   split
   ·exact Bool.not_eq_true _|>.mp hw
   ·rfl
  rw [hwf,if_neg λh=>hw (Ig.1 h).1]
  exact ⟨λ_=>⟨⟨rfl,rfl⟩,rfl⟩,λhb=>by simp at hb⟩
theorem BV:Sound Try.prog 52 dK:=
 Sound.Dg Cg (Ah pf (Ah dQ (Ah pc As))) mixed Try.func52 (by kernel_rfl) (by kernel_rfl) λx h=>ZK x.1 x.2.1 h
theorem OR {p:PP} (hv:Ba p=true):1<=(Aa p).length:=by
 obtain ⟨A,h⟩:=(Wm hv).first
 show 1<=(Fw p.2.2.1 (upto p.1.toNat)).1.length
 rw [h];simp
end Go.Proofs.Ytjbdmibbbpdnnaa
