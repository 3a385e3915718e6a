/-
  Part 44 of the proof that the statement FnExactBoundGap holds.
-/
import Derived.Test.YtfolipnappekaaaGreatCBoundGap42
namespace Go.Proofs.YtfolipnappekaaaGreat
open Go.RowKit
abbrev BB:Type:=List TT×List (ByteArray->Option Int)×Unit
def LY:List (List Int)->List Int->(ByteArray->Option Int)->ByteArray->Option Int
 |x::xs,d::ds,m=>LY xs ds (Tt m (Ih x) d)
 |_,_,m=>m
def Qq (t:TT):ByteArray->Option Int:=LY t.2.1 t.2.2.1 λ_=>none
def dz (ts:List TT):BB:=(ts,ts.map Qq,())
structure IA (t:TT):Prop where
 lP:t.2.1.length<=3000
 len:t.2.2.1.length=t.2.1.length
 nodup:t.2.1.Nodup
 byte: ∀x∈t.2.1,Nh x
 Ai8: ∀d∈t.2.2.1,0<=d/\d<=3000
 tl:t.1.length<=20
 pl: ∀x∈t.2.1,x.length<=20
def Vz (ts:List TT):Prop:=ts.length<=4/\ ∀t∈ts,IA t
def bg (t:TT) (s:List Int):Int:=t.2.2.1.getD (t.2.1.idxOf (Ca s t.1)) 0
def Ow (ts:List TT) (s:List Int):List Int:=ts.map λt=>bg t s
def jj (ts:List TT) (s:List Int):Int:=(Ow ts s).foldl max 0
def aJ (ts:List TT) (s:List Int):Prop:=s.length<=20/\ ∀t∈ts,Ie s.length t.1/\Ca s t.1∈t.2.1
noncomputable abbrev Pw:Spec:=Cp (.pair AL .unit) (.optr fb) false false (λx=>Vz x.1) (λx=>some (dz x.1))
def TY (b:Option BB) (s:List Int):Prop:= ∃ts,Vz ts/\b=some (dz ts)/\aJ ts s
def QH (b:Option BB) (s:List Int):List Int:=match b with|some b=>Ow b.1 s|none=> []
def CU (b:Option BB) (s:List Int):Int:=match b with|some b=>jj b.1 s|none=>0
noncomputable abbrev tT:Spec:=Cp (.pair (.optr fb) (.pair tL .unit)) tL false true (λx=>TY x.1 x.2.1) (λx=>QH x.1 x.2.1)
noncomputable abbrev eW:Spec:=Cp (.pair (.optr fb) (.pair tL .unit)) tI false true (λx=>TY x.1 x.2.1) (λx=>CU x.1 x.2.1)
noncomputable abbrev aq:Spec:=Cp (.pair AL (.pair tL .unit)) tL false true (λx=>Vz x.1/\aJ x.1 x.2.1) (λx=>Ow x.1 x.2.1)
noncomputable abbrev eV:Spec:=Cp (.pair AL (.pair tL .unit)) tI false true (λx=>Vz x.1/\aJ x.1 x.2.1) (λx=>jj x.1 x.2.1)
abbrev jL:Type:=Int×List Int×List (List Int)×List Int×List (List Int×List (List Int)×List Int×PUnit)×(ByteArray->Option Int)×List (ByteArray->Option Int)×PUnit
abbrev jN:Type:=Int×List (List Int×List (List Int)×List Int×PUnit)×List (ByteArray->Option Int)×PUnit
theorem zU (ts:List (List Int×List (List Int)×List Int×Unit)) (P:Option (List (List Int×List (List Int)×List Int×Unit)×List (ByteArray->Option Int)×Unit)->Prop):(0=0/\0=([]:List Int).length/\Bm (λ(v2:jN) (k3:jN->Prop)=>Br (decide (v2.1<(↑ts.length:Int))) (∃(y4:List Int×List (List Int)×List Int×PUnit),idx ts v2.1=some y4/\0=0/\v2.2.2.1.length=v2.2.2.1.length/\Bm (λ(v5:jL) (k6:jL->Prop)=>Br (decide (v5.1<(↑y4.2.1.length:Int))) (∃(y7:List Int),idx y4.2.1 v5.1=some y7/\ ∃(y8:ByteArray),Cg.fn (y7,())=some y8/\ ∃(y9:Int),idx v5.2.2.2.1 v5.1=some y9/\0=0/\v5.2.2.2.2.2.2.1.length=v5.2.2.2.2.2.2.1.length/\k6 (IntKind.i64.wrap (v5.1+(1:Int)),v5.2.1,v5.2.2.1,v5.2.2.2.1,v5.2.2.2.2.1,Tt v5.2.2.2.2.2.1 y8 y9,v5.2.2.2.2.2.2.1,())) (0=0/\v5.2.2.2.2.2.2.1.length=v5.2.2.2.2.2.2.1.length/\v5.2.2.2.2.2.2.1.length+(List.take 1 (List.drop 0 [v5.2.2.2.2.2.1])).length<=Bh/\0=0/\(v5.2.2.2.2.2.2.1++List.take 1 (List.drop 0 [v5.2.2.2.2.2.1])).length=(v5.2.2.2.2.2.2.1++List.take 1 (List.drop 0 [v5.2.2.2.2.2.1])).length/\k3 (IntKind.i64.wrap (v2.1+(1:Int)),v5.2.2.2.2.1,v5.2.2.2.2.2.2.1++List.take 1 (List.drop 0 [v5.2.2.2.2.2.1]),()))) ((0:Int),y4.1,y4.2.1,y4.2.2.1,v2.2.1,λ(_:ByteArray)=>none,v2.2.2.1,PUnit.unit)) (P (some (v2.2.1,List.take v2.2.2.1.length (List.drop 0 v2.2.2.1),())))) ((0:Int),ts,[],PUnit.unit))=fnW (SI [Tv+101101]) (look [(79,Cg)]) Pw Tryz.f64 (ts,()) P:=by kernel_rfl
abbrev SD:Type:=List (List Int×List (List Int)×List Int×PUnit)×List (ByteArray->Option Int)×PUnit
theorem Agd (b:Option (List (List Int×List (List Int)×List Int×Unit)×List (ByteArray->Option Int)×Unit)) (s:List Int) (P:List Int->Prop):(∃(y3:SD),b=some y3/\0=0/\0=([]:List Int).length/\Bm (λ(v4:Int×List Int×PUnit) (k5:Int×List Int×PUnit->Prop)=>Br (decide (v4.1<(↑y3.1.length:Int))) (∃(y6:List Int×List (List Int)×List Int×PUnit),idx y3.1 v4.1=some y6/\ ∃(y7:SD),b=some y7/\ ∃(y8:ByteArray->Option Int),idx y7.2.1 v4.1=some y8/\ ∃(y9:List Int),Vo.fn (s,y6.1,())=some y9/\ ∃(Xj:ByteArray),Cg.fn (y9,())=some Xj/\0=0/\v4.2.1.length=v4.2.1.length/\v4.2.1.length+(List.take 1 (List.drop 0 [(y8 Xj).getD (Int.ofNat (nat_lit 0))])).length<=Bh/\0=0/\(v4.2.1++List.take 1 (List.drop 0 [(y8 Xj).getD (Int.ofNat (nat_lit 0))])).length=(v4.2.1++List.take 1 (List.drop 0 [(y8 Xj).getD (Int.ofNat (nat_lit 0))])).length/\k5 (IntKind.i64.wrap (v4.1+(1:Int)),v4.2.1++List.take 1 (List.drop 0 [(y8 Xj).getD (Int.ofNat (nat_lit 0))]),())) (P (List.take v4.2.1.length (List.drop 0 v4.2.1)))) ((0:Int),[],PUnit.unit))=fnW Cf (look [(79,Cg),(80,Vo)]) tT Tryz.f59 (b,s,()) P:=by kernel_rfl
theorem WV (b:Option (List (List Int×List (List Int)×List Int×Unit)×List (ByteArray->Option Int)×Unit)) (s:List Int) (P:Int->Prop):(∃(y3:List Int),tT.fn (b,s,())=some y3/\Bm (λ(v4:Int×Int×PUnit) (k5:Int×Int×PUnit->Prop)=>Br (decide (v4.2.1<(↑y3.length:Int))) (∃(y6:Int),idx y3 v4.2.1=some y6/\k5 (if true=true then if y6>v4.1 then y6 else v4.1 else if y6<v4.1 then y6 else v4.1,IntKind.i64.wrap (v4.2.1+(1:Int)),())) (P v4.1)) ((0:Int),(0:Int),PUnit.unit))=fnW Cf (look [(59,tT)]) eW Tryz.f52 (b,s,()) P:=by kernel_rfl
abbrev lC:Type:=List Int×List (List Int)×List Int×PUnit
theorem TC (ts:List (List Int×List (List Int)×List Int×Unit)) (s:List Int) (P:List Int->Prop):(0=0/\0=([]:List Int).length/\Bm (λ(v3:Int×List Int×PUnit) (k4:Int×List Int×PUnit->Prop)=>Br (decide (v3.1<(↑ts.length:Int))) (∃(y5:lC),idx ts v3.1=some y5/\ ∃(y6:lC),idx ts v3.1=some y6/\ ∃(y7:lC),idx ts v3.1=some y7/\ ∃(y8:List Int),Vp.fn (y7.1,s,())=some y8/\ ∃(y9:Int),Pc.fn (y6,y8,())=some y9/\ ∃(Xj:Int),idx y5.2.2.1 y9=some Xj/\0=0/\v3.2.1.length=v3.2.1.length/\v3.2.1.length+(List.take 1 (List.drop 0 [Xj])).length<=Bh/\0=0/\(v3.2.1++List.take 1 (List.drop 0 [Xj])).length=(v3.2.1++List.take 1 (List.drop 0 [Xj])).length/\k4 (IntKind.i64.wrap (v3.1+(1:Int)),v3.2.1++List.take 1 (List.drop 0 [Xj]),())) (P (List.take v3.2.1.length (List.drop 0 v3.2.1)))) ((0:Int),[],PUnit.unit))=fnW Cf (look [(78,Vp),(77,Pc)]) aq Tryz.f57 (ts,s,()) P:=by kernel_rfl
theorem WU (ts:List (List Int×List (List Int)×List Int×Unit)) (s:List Int) (P:Int->Prop):(∃(y3:List Int),aq.fn (ts,s,())=some y3/\Bm (λ(v4:Int×Int×PUnit) (k5:Int×Int×PUnit->Prop)=>Br (decide (v4.2.1<(↑y3.length:Int))) (∃(y6:Int),idx y3 v4.2.1=some y6/\k5 (if true=true then if y6>v4.1 then y6 else v4.1 else if y6<v4.1 then y6 else v4.1,IntKind.i64.wrap (v4.2.1+(1:Int)),())) (P v4.1)) ((0:Int),(0:Int),PUnit.unit))=fnW Cf (look [(57,aq)]) eV Tryz.f48 (ts,s,()) P:=by kernel_rfl
theorem IA.short {t:TT} (h:IA t):Kx t:=by
 have h1:=h.lP;have h2:=h.len;have h3:=h.tl
 exact ⟨by unfold _root_.Go.Proofs.YtfolipnappekaaaGreat.short;omega,⟨by omega,λr hr=>by have:=h.pl r hr;unfold _root_.Go.Proofs.YtfolipnappekaaaGreat.short;omega⟩,by unfold _root_.Go.Proofs.YtfolipnappekaaaGreat.short;omega⟩
theorem uc {p:PP} {t:TT} (h:Dq p t=true):IA t/\Dc p t.1=true/\(De p.2.2.1 t.1).2.2=true/\t.2.1=gY p t.1/\t.2.2.1=QI p t.1:=by
 obtain ⟨h1,h2⟩:=Bool.and_eq_true_iff.1 h
 obtain ⟨h3,h4⟩:=aj.1 h1
 have h5:=kI.1 h2
 unfold Ee at h5
 rw [if_pos h1] at h5
 have e1:t.2.1=gY p t.1:=(congrArg (λz:TT=>z.2.1) h5).symm
 have e2:t.2.2.1=QI p t.1:=(congrArg (λz:TT=>z.2.2.1) h5).symm
 have hv:=(Mm.1 h3).1
 have hn:=(valid hv).n
 have bY:=vS h3
 have kD:=bY.ok.lP
 have hlen:=bY.len
 have AK:=bY.ok.short
 refine ⟨⟨by rw [e1];exact kD,by rw [e1,e2];exact hlen,by rw [e1];exact bY.ok.nodup,λx hx=>?_,λd hd=>?_,(Fk h3).1,λx hx=>?_⟩,h3,h4,e1,e2⟩
 ·rw [e1] at hx
  intro y hy
  have:=bY.row x hx y hy
  omega
 ·rw [e2] at hd
  obtain ⟨j,hj,rfl⟩:=List.mem_iff_getElem.1 hd
  have h6:=bY.dep j hj
  have uR:j<(De p.2.2.1 t.1).2.1.length:=hj
  exact ⟨h6.1,by have:=h6.2;show (De p.2.2.1 t.1).2.1[j]<=3000;omega⟩
 ·rw [e1] at hx
  have:=bY.ok.len x hx
  omega
theorem mC {p:PP} {ts:List TT} (h:Dk p ts=true):Ax p=true/\Vz ts/\ ∀t∈ts,Dq p t=true:=by
 unfold Dk at h
 rw [Bool.and_eq_true,Bool.and_eq_true,List.all_eq_true,decide_eq_true_iff] at h
 exact ⟨h.1.1,⟨h.1.2,λt ht=>(uc (h.2 t ht)).1⟩,h.2⟩
theorem zI: ∀(xs:List (List Int)) (ds:List Int) (m:ByteArray->Option Int) (x:List Int),xs.length=ds.length->xs.Nodup->(∀y∈xs,Nh y)->Nh x->LY xs ds m (Ih x)=if x∈xs then some (ds.getD (xs.idxOf x) 0) else m (Ih x)
 | [],ds,m,x,_,_,_,_=>by cases ds<;>simp [LY]
 |y::xs,[],m,x,hl,_,_,_=>by simp at hl
 |y::xs,d::ds,m,x,hl,hn,hb,hx=>by
  obtain ⟨hy,hn⟩:=List.nodup_cons.1 hn
  simp only [LY]
  rw [zI xs ds _ x (by simpa using hl) hn (λz hz=>hb z (List.mem_cons_of_mem _ hz)) hx]
  by_cases hm:x∈xs
  ·have Ff:y≠x:= λe=>hy (e▸hm)
   have hi:(y::xs).idxOf x=xs.idxOf x+1:=by rw [List.idxOf_cons,show (y==x)=false by simpa using Ff];rfl
   rw [if_pos hm,if_pos (List.mem_cons_of_mem _ hm),hi]
   rfl
  ·rw [if_neg hm]
   unfold Tt
   by_cases e:Ih x=Ih y
   ·have:=key_inj hx (hb y (by simp)) e
    subst this
    rw [if_pos e,if_pos (by simp),List.idxOf_cons_self]
    rfl
   ·have Ff:x≠y:= λh=>e (by rw [h])
    rw [if_neg e,if_neg (by simp [Ff,hm])]
theorem SV {t:TT} (h:IA t) {x:List Int} (hx:x∈t.2.1):Qq t (Ih x)=some (t.2.2.1.getD (t.2.1.idxOf x) 0):=by
 unfold Qq
 rw [zI _ _ _ _ h.len.symm h.nodup h.byte (h.byte x hx),if_pos hx]
theorem zb (ts:List TT) (h:Vz ts):fnW (SI [Tv+101101]) (look [(79,Cg)]) Pw Tryz.f64 (ts,()) (λ(z:Option BB)=>z=some (dz ts)):=by
 obtain ⟨h4,hd⟩:=h
 refine Eq.mp (zU ts _) ⟨rfl,rfl,?_⟩
 refine Aj ts.length (λv=>v.1) (λi v=>v=((i:Int),ts,(ts.take i).map Qq,())) rfl rfl ?_
 rintro i v K hi XW rfl hK
 dsimp only
 refine Br.dec (λhl=>?_) λhl=>?_
 ·have hl:i<ts.length:=by omega
  have IV:=hd _ (List.getElem_mem hl)
  have kD:=IV.lP
  have hlen:=IV.len
  have Aau:=IV.short
  refine ⟨_,An hl,rfl,rfl,?_⟩
  refine Aj (ts[i]).2.1.length (λv=>v.1) (λj v=> ∃m,v=((j:Int),(ts[i]).1,(ts[i]).2.1,(ts[i]).2.2.1,ts,m,(ts.take i).map Qq,())/\LY ((ts[i]).2.1.drop j) ((ts[i]).2.2.1.drop j) m=Qq ts[i]) rfl ⟨_,rfl,by rw [List.drop_zero,List.drop_zero];rfl⟩ ?_
  rintro j v K1 hj hjj ⟨m,rfl,hm⟩ hK1
  dsimp only
  refine Br.dec (λeI=>?_) λeI=>?_
  ·have eI:j<(ts[i]).2.1.length:=by omega
   have mO:j<(ts[i]).2.2.1.length:=by omega
   rw [List.drop_eq_getElem_cons eI,List.drop_eq_getElem_cons mO] at hm
   refine ⟨_,An eI,_,if_pos (Aau.2.1.2 _ (List.getElem_mem eI)),_,An mO,rfl,rfl,?_⟩
   rw [Ah (by omega)]
   exact hK1 eI _ rfl ⟨_,rfl,hm⟩
  ·have:j=(ts[i]).2.1.length:=by omega
   subst this
   rw [List.drop_length] at hm
   have hm:m=Qq ts[i]:=by
    rw [<-hm]
    cases List.drop (ts[i]).2.1.length (ts[i]).2.2.1<;>rfl
   subst hm
   refine ⟨rfl,rfl,by show ((ts.take i).map Qq).length+1<=4294967296;rw [List.length_map,List.length_take];omega,rfl,rfl,?_⟩
   rw [Ah (by omega)]
   have hmm:(ts.take (i+1)).map Qq=(ts.take i).map Qq++ [Qq ts[i]]:=by
    rw [List.take_add_one,List.getElem?_eq_getElem hl,Option.toList_some,List.map_append]
    rfl
   refine hK hl _ rfl ?_
   rw [hmm]
   rfl
 ·have:i=ts.length:=by omega
  subst this
  rw [Bl,List.take_length]
  rfl
theorem nf:Sound Tryz.prog 64 Pw:=
 Sound.Cp (SJ [Tv+101101]) (Ae Ml Ai) mixed Tryz.func64 (by kernel_rfl) (by kernel_rfl) λx h=>zb x.1 h
theorem iG (ts:List TT) (s:List Int):(Ow ts s).length=ts.length:=by unfold Ow;rw [List.length_map]
theorem AW {t:TT} (h:IA t) {s:List Int} (hs:Ca s t.1∈t.2.1):0<=bg t s/\bg t s<=3000:=by
 have hi:=List.idxOf_lt_length_of_mem hs
 have hl:=h.len
 unfold bg
 rw [Hl (by omega)]
 exact h.Ai8 _ (List.getElem_mem _)
theorem IG {ts:List TT} (h:Vz ts) {s:List Int} (hs:aJ ts s): ∀d∈Ow ts s,0<=d/\d<=3000:= λd hd=>by
 obtain ⟨t,ht,rfl⟩:=List.mem_map.1 hd
 exact AW (h.2 t ht) (hs.2 t ht).2
theorem sG {ts:List TT} {s:List Int} {i:Nat} (hl:i<ts.length):(Ow (ts.take (i+1)) s)=Ow (ts.take i) s++ [bg ts[i] s]:=by
 unfold Ow
 rw [List.take_add_one,List.getElem?_eq_getElem hl,Option.toList_some,List.map_append]
 rfl
theorem Afo (b:Option BB) (s:List Int) (h:TY b s):fnW Cf (look [(79,Cg),(80,Vo)]) tT Tryz.f59 (b,s,()) (λ(z:List Int)=>z=QH b s):=by
 obtain ⟨ts,⟨h4,hd⟩,rfl,hs⟩:=h
 refine Eq.mp (Agd _ s _) ⟨dz ts,rfl,rfl,rfl,?_⟩
 show Bm _ _
 refine Aj ts.length (λv=>v.1) (λi v=>v=((i:Int),Ow (ts.take i) s,())) rfl rfl ?_
 rintro i v K hi XW rfl hK
 dsimp only
 refine Br.dec (λhl=>?_) λhl=>?_
 ·have hl:i<ts.length:=by have hl:(i:Int)<(ts.length:Int):=hl;omega
  have IV:=hd _ (List.getElem_mem hl)
  obtain ⟨iv,qK⟩:=hs.2 _ (List.getElem_mem hl)
  have htl:=IV.tl
  have eJ:=IV.pl _ qK
  refine ⟨ts[i],An hl,dz ts,rfl,Qq ts[i],?_,_,if_pos ⟨by show (ts[i]).1.length<=4294967296;omega,iv⟩,_,if_pos (by show (Ca s (ts[i]).1).length<=4294967296;omega),rfl,rfl,?_,rfl,rfl,?_⟩
  ·show idx (ts.map Qq) (i:Int)=_
   rw [An (by rw [List.length_map];exact hl),List.getElem_map]
  ·show (Ow (ts.take i) s).length+1<=4294967296
   rw [iG,List.length_take];omega
  ·rw [Ah (by omega)]
   refine hK hl _ rfl ?_
   rw [sG hl,show Qq ts[i] (Ih (Ca s (ts[i]).1))=some (bg ts[i] s) from SV IV qK]
   rfl
 ·have:i=ts.length:=by have hl: ¬(i:Int)<(ts.length:Int):=hl;omega
  subst this
  rw [Bl,List.take_length]
  rfl
theorem LH:Sound Tryz.prog 59 tT:=
 Sound.Cp Bg (Ae Ml (Ae s8 Ai)) mixed Tryz.func59 (by kernel_rfl) (by kernel_rfl) λx h=>Afo x.1 x.2.1 h
theorem QO (a b:Int):(if true=true then if b>a then b else a else if b<a then b else a)=max a b:=by
 rw [if_pos rfl]
 by_cases h:b>a
 ·rw [if_pos h,Int.max_eq_right (by omega)]
 ·rw [if_neg h,Int.max_eq_left (by omega)]
theorem NY {xs:List Int} {m:Int} (h: ∀x∈xs,0<=x/\x<=m) (hm:0<=m):0<=xs.foldl max 0/\xs.foldl max 0<=m:=by
 rcases fH xs 0 with h1|h1
 ·rw [h1];exact ⟨Int.le_refl _,hm⟩
 ·exact h _ h1
theorem HK {ts:List TT} (h:Vz ts) {s:List Int} (hs:aJ ts s):0<=jj ts s/\jj ts s<=3000:=NY (IG h hs) (by omega)
theorem VU (b:Option BB) (s:List Int) (h:TY b s):fnW Cf (look [(59,tT)]) eW Tryz.f52 (b,s,()) (λ(z:Int)=>z=CU b s):=by
 obtain ⟨ts,ht,hb,hs⟩:=id h
 have hl4:=ht.1
 have hlen:=iG ts s
 obtain ⟨xs,hxs⟩: ∃xs,QH b s=xs:=⟨_,rfl⟩
 have PF:CU b s=xs.foldl max 0:=by rw [<-hxs,hb];rfl
 have PH:xs.length=ts.length:=by rw [<-hxs,hb];exact hlen
 refine Eq.mp (WV b s _) ⟨xs,(if_pos h).trans (congrArg some hxs),?_⟩
 rw [PF]
 refine Aj xs.length (λv=>v.2.1) (λi v=>v=((xs.take i).foldl max 0,(i:Int),())) rfl rfl ?_
 rintro i v K hi XW rfl hK
 dsimp only
 refine Br.dec (λhl=>?_) λhl=>?_
 ·have hl:i<xs.length:=by omega
  refine ⟨_,An hl,?_⟩
  rw [Ah (by omega)]
  refine hK hl _ rfl ?_
  rw [List.take_add_one,List.getElem?_eq_getElem hl,Option.toList_some,List.foldl_append,QO]
  rfl
 ·have:i=xs.length:=by omega
  subst this
  rw [List.take_length]
theorem zw:Sound Tryz.prog 52 eW:=
 Sound.Cp Bg (Ae LH Ai) mixed Tryz.func52 (by kernel_rfl) (by kernel_rfl) λx h=>VU x.1 x.2.1 h
theorem CF {L:List (List Int)} {x:List Int} (hn:L.Nodup) (hx:x∈L):Ef (λq=>decide (q=x)) L 0=((L.idxOf x:Nat):Int):=by
 obtain ⟨k,hk,h1,h2,_⟩:=th (P:= λq=>decide (q=x)) L 0 (List.any_eq_true.2 ⟨x,hx,decide_eq_true rfl⟩)
 have h3:L[k]=x:=of_decide_eq_true h2
 have h4:=aZ hn hk
 rw [Hl hk,h3] at h4
 rw [h4,<-Nat.zero_add k]
 exact h1
theorem QY (ts:List TT) (s:List Int) (h:Vz ts/\aJ ts s):fnW Cf (look [(78,Vp),(77,Pc)]) aq Tryz.f57 (ts,s,()) (λ(z:List Int)=>z=Ow ts s):=by
 obtain ⟨⟨h4,hd⟩,hs⟩:=h
 refine Eq.mp (TC ts s _) ⟨rfl,rfl,?_⟩
 refine Aj ts.length (λv=>v.1) (λi v=>v=((i:Int),Ow (ts.take i) s,())) rfl rfl ?_
 rintro i v K hi XW rfl hK
 dsimp only
 refine Br.dec (λhl=>?_) λhl=>?_
 ·have hl:i<ts.length:=by omega
  have IV:=hd _ (List.getElem_mem hl)
  obtain ⟨iv,qK⟩:=hs.2 _ (List.getElem_mem hl)
  have htl:=IV.tl
  have eJ:=IV.pl _ qK
  have hix:=List.idxOf_lt_length_of_mem qK
  have hle:=IV.len
  have he:Pc.fn (((ts[i]).1,(ts[i]).2.1,(ts[i]).2.2.1,()),Ca s (ts[i]).1,())=some (((ts[i]).2.1.idxOf (Ca s (ts[i]).1):Nat):Int):=
   (if_pos ⟨IV.short,by show (Ca s (ts[i]).1).length<=4294967296;omega⟩).trans (congrArg some (CF IV.nodup qK))
  refine ⟨_,An hl,_,An hl,_,An hl,_,if_pos ⟨by show (ts[i]).1.length<=4294967296;omega,iv⟩,_,he,_,An (by omega),rfl,rfl,?_,rfl,rfl,?_⟩
  ·show (Ow (ts.take i) s).length+1<=4294967296
   rw [iG,List.length_take];omega
  ·rw [Ah (by omega)]
   refine hK hl _ rfl ?_
   rw [sG hl]
   unfold bg
   rw [Hl (by omega)]
   rfl
 ·have:i=ts.length:=by omega
  subst this
  rw [Bl,List.take_length]
theorem wm:Sound Tryz.prog 57 aq:=
 Sound.Cp Bg (Ae s9 (Ae qe Ai)) mixed Tryz.func57 (by kernel_rfl) (by kernel_rfl) λx h=>QY x.1 x.2.1 h
theorem VT (ts:List TT) (s:List Int) (h:Vz ts/\aJ ts s):fnW Cf (look [(57,aq)]) eV Tryz.f48 (ts,s,()) (λ(z:Int)=>z=jj ts s):=by
 have hl4:=h.1.1
 have hlen:=iG ts s
 obtain ⟨xs,hxs⟩: ∃xs,Ow ts s=xs:=⟨_,rfl⟩
 have PF:jj ts s=xs.foldl max 0:=by rw [<-hxs];rfl
 have PH:xs.length=ts.length:=by rw [<-hxs];exact hlen
 refine Eq.mp (WU ts s _) ⟨xs,(if_pos h).trans (congrArg some hxs),?_⟩
 rw [PF]
 refine Aj xs.length (λv=>v.2.1) (λi v=>v=((xs.take i).foldl max 0,(i:Int),())) rfl rfl ?_
 rintro i v K hi XW rfl hK
 dsimp only
 refine Br.dec (λhl=>?_) λhl=>?_
 ·have hl:i<xs.length:=by omega
  refine ⟨_,An hl,?_⟩
  rw [Ah (by omega)]
  refine hK hl _ rfl ?_
  rw [List.take_add_one,List.getElem?_eq_getElem hl,Option.toList_some,List.foldl_append,QO]
  rfl
 ·have:i=xs.length:=by omega
  subst this
  rw [List.take_length]
theorem zv:Sound Tryz.prog 48 eV:=
 Sound.Cp Bg (Ae wm Ai) mixed Tryz.func48 (by kernel_rfl) (by kernel_rfl) λx h=>VT x.1 x.2.1 h
end Go.Proofs.YtfolipnappekaaaGreat

namespace Go.Proofs.YtfolipnappekaaaGreat
open Go.RowKit
theorem RL {p:PP} {s:List Int} (h:Oj p s=true):Ax p=true/\Pm p.1.toNat s/\Gn p.1.toNat (p.2.2.1.map some) s:=by
 unfold Oj at h
 rw [Bool.and_eq_true,Bool.and_eq_true] at h
 obtain ⟨⟨hv,hg⟩,hh⟩:=h
 have hV:=valid hv
 have hn:=hV.n
 have hp:=BQ hV hg
 exact ⟨hv,hp,(Wm (by omega) (by omega) (Wx (We hV).2.2) hp).1 hh⟩
theorem OA {p:PP} {s:List Int} (hv:Ax p=true) (h:Gn p.1.toNat (p.2.2.1.map some) s):Oj p s=true:=by
 have hV:=valid hv
 have hn:=hV.n
 have hp:=Vw.pm (iX hV) h
 unfold Oj
 rw [hv,RH hV hp,show Du (Og p.1 p.2.2.1).2 p.1.toNat 0 s=true from (Wm (by omega) (by omega) (Wx (We hV).2.2) hp).2 h]
 rfl
theorem BR {p:PP} {t s:List Int} (hv:Ax p=true) (hs:Pm p.1.toNat s) (ht:Dc p t=true):Ie s.length t:=by
 have h1:=hs.1
 have hn:=(valid hv).n
 intro y hy
 have:=(Fk ht).2 y hy
 omega
theorem ZS {p:PP} {t:List Int} (hv:Ax p=true) (ht:Dc p t=true) (hw:(De p.2.2.1 t).2.2=true) {s:List Int} (hs:Gn p.1.toNat (p.2.2.1.map some) s):Ca s t∈gY p t:=by
 have hV:=valid hv
 have hc:nJ p.2.2.1 (Au p.2.2.1.length) (gY p t):=rj hV (vS ht) (o1 hv (Fk ht).1 (Fk ht).2 hw)
 induction hs with
 |id=>rw [KQ (zK ht)];exact (KP ht).2
 |mul h hg ih=>
  have hp:Pm p.1.toNat _:=Vw.pm (iX hV) h
  obtain ⟨k,hk,rfl⟩:=List.mem_iff_getElem.1 (az.1 hg)
  have:=hc.next _ ih _ (Pl hk).1
  rw [Me hk] at this
  rw [dF (BR hv hp ht)]
  exact this
 |inv h hg ih=>
  have hp:Pm p.1.toNat _:=Vw.pm (iX hV) h
  obtain ⟨k,hk,rfl⟩:=List.mem_iff_getElem.1 (az.1 hg)
  have:=hc.next _ ih _ (Pl hk).2
  rw [Md hk] at this
  rw [dF (BR hv hp ht)]
  exact this
theorem DY {p:PP} {ts:List TT} {s:List Int} (hr:Oj p s=true) (ht:Dk p ts=true):aJ ts s:=by
 obtain ⟨hv,hp,hg⟩:=RL hr
 obtain ⟨_,_,Hm⟩:=mC ht
 have hn:=(valid hv).n
 refine ⟨by rw [hp.1];omega,λt oN=>?_⟩
 obtain ⟨_,h3,hw,e1,_⟩:=uc (Hm t oN)
 exact ⟨BR hv hp h3,by rw [e1];exact ZS hv h3 hw hg⟩
end Go.Proofs.YtfolipnappekaaaGreat
