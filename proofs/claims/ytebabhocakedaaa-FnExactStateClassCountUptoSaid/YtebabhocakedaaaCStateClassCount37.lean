/-
  Part 38 of the proof that the statement FnExactStateClassCount holds.
-/
import Derived.Test.YtebabhocakedaaaCStateClassCount36
import Derived.KernelRfl
namespace Go.Proofs.Ytebabhocakedaaa
open Go.RowKit
def Fu(x a b:Int):Bool:=decide(a≤x∧x≤b)
def Dw(a b:List Int):Bool:=decide(a=b)
def Je(xs:List Int)(x:Int):Bool:=decide(x∈xs)
def short(xs:List Int):Prop:=xs.length≤4294967296
noncomputable abbrev Cc:Spec:=mkS(.pair tI(.pair tI(.pair tI .unit))) .bool false true(fun _=>True)(fun x=>Fu x.1 x.2.1 x.2.2.1)
noncomputable abbrev Bd:Spec:=mkS(.pair tL(.pair tL .unit)) .bool false true(fun x=>short x.1)(fun x=>Dw x.1 x.2.1)
noncomputable abbrev El:Spec:=mkS(.pair tL(.pair tI .unit)) .bool false true(fun x=>short x.1)(fun x=>Je x.1 x.2.1)
theorem bje(x a b:Int)(P:Bool→Prop):(Br(decide(x≥a))(P(decide(x≤b)))(P false))=fnW tab(look [])Cc Try.f122(x,a,b,())P:=by kernel_rfl
theorem bos(x a b:Int)(P:Bool→Prop):(Br(decide(x≥a))(P(decide(x≤b)))(P false))=fnW tab(look [])Cc Try.f108(x,a,b,())P:=by kernel_rfl
theorem bdj(a b:List Int)(P:Bool→Prop):(Br((↑a.length:Int)!=(↑b.length:Int))(P false)
 (Bo
  (fun(v3:Int×PUnit)(k4:Int×PUnit→Prop)=>
   Br(decide(v3.1<(↑a.length:Int)))(∃(y5:Int),idx a v3.1=some y5∧ ∃(y6:Int),idx b v3.1=some y6∧Br(y5 !=y6)(P false)(k4(IntKind.i64.wrap(v3.1+1),())))
    (P true))
  (0,PUnit.unit)))=fnW tab(look [])Bd Try.f59(a,b,())P:=by kernel_rfl
theorem aqm(a b:List Int)(P:Bool→Prop):(Br((↑a.length:Int)!=(↑b.length:Int))(P false)
 (Bo
  (fun(v3:Int×PUnit)(k4:Int×PUnit→Prop)=>
   Br(decide(v3.1<(↑a.length:Int)))(∃(y5:Int),idx a v3.1=some y5∧ ∃(y6:Int),idx b v3.1=some y6∧Br(y5 !=y6)(P false)(k4(IntKind.i64.wrap(v3.1+1),())))
    (P true))
  (0,PUnit.unit)))=fnW tab(look [])Bd Try.f63(a,b,())P:=by kernel_rfl
theorem arj(xs:List Int)(x:Int)(P:Bool→Prop):(Bo
 (fun(v3:Int×PUnit)(k4:Int×PUnit→Prop)=>
  Br(decide(v3.1<(↑xs.length:Int)))(∃(y5:Int),idx xs v3.1=some y5∧Br(y5==x)(P true)(k4(IntKind.i64.wrap(v3.1+1),())))(P false))
 (0,PUnit.unit))=fnW tab(look [])El Try.f152(xs,x,())P:=by kernel_rfl
theorem bkb(x a b:Int)(_:True):fnW tab(look [])Cc Try.f122(x,a,b,())(fun(z:Bool)=>z=Fu x a b):=by
 refine Eq.mp(bje x a b _)?_
 refine Br.dec(fun h=>?_)fun h=>?_
 ·have h:a≤x:=h
  simp [Fu,h]
 ·exact(decide_eq_false fun hh=>h hh.1).symm
theorem ade:Sound Try.prog 122 Cc:=
 Sound.mkS Ca As mixed Try.func122(by kernel_rfl)(by kernel_rfl)fun x h=>bkb x.1 x.2.1 x.2.2.1 h
theorem bmm(x a b:Int)(_:True):fnW tab(look [])Cc Try.f108(x,a,b,())(fun(z:Bool)=>z=Fu x a b):=by
 refine Eq.mp(bos x a b _)?_
 refine Br.dec(fun h=>?_)fun h=>?_
 ·have h:a≤x:=h
  simp [Fu,h]
 ·exact(decide_eq_false fun hh=>h hh.1).symm
theorem Qf:Sound Try.prog 108 Cc:=
 Sound.mkS Ca As mixed Try.func108(by kernel_rfl)(by kernel_rfl)fun x h=>bmm x.1 x.2.1 x.2.2.1 h
theorem aqr(xs:List Int)(x:Int)(h:short xs):fnW tab(look [])El Try.f152(xs,x,())(fun(z:Bool)=>z=Je xs x):=by
 refine Eq.mp(arj xs x _)?_
 unfold short at h
 refine Ao xs.length(fun v=>v.1)(fun j _=>x∉xs.take j)rfl(by simp)?_
 rintro j⟨i,⟨⟩⟩K hj hi hR hK
 dsimp only at hi⊢
 subst hi
 refine Br.dec(fun hl=>?_)fun hl=>?_
 ·have hl:j<xs.length:=by omega
  refine⟨_,Bc hl,⟨fun he=>?_,fun he=>?_⟩⟩
  ·have hm:=List.getElem_mem hl
   simp only [beq_iff_eq]at he
   rw [he]at hm
   exact(decide_eq_true hm).symm
  ·rw [Ak(by omega)]
   refine hK hl _ rfl ?_
   simp only [beq_eq_false_iff_ne,ne_eq]at he
   rw [List.take_succ_eq_append_getElem hl]
   simp only [List.mem_append,List.mem_singleton,not_or]
   exact⟨hR,fun hx=>he hx.symm⟩
 ·have:j=xs.length:=by omega
  subst this
  rw [List.take_length]at hR
  exact(decide_eq_false hR).symm
theorem Se:Sound Try.prog 152 El:=
 Sound.mkS Ca As mixed Try.func152(by kernel_rfl)(by kernel_rfl)fun x h=>aqr x.1 x.2.1 h
theorem aua(a b:List Int)(hlen:a.length=b.length)(h:short a):
  Bo(fun(v3:Int×PUnit)(k4:Int×PUnit→Prop)=>
   Br(decide(v3.1<(↑a.length:Int)))(∃(y5:Int),idx a v3.1=some y5∧ ∃(y6:Int),idx b v3.1=some y6∧Br(y5 !=y6)(false=Dw a b)(k4(IntKind.i64.wrap(v3.1+1),())))
    (true=Dw a b))
  (0,PUnit.unit):=by
 unfold short at h
 refine Ao a.length(fun v=>v.1)(fun j _=>a.take j=b.take j)rfl(by simp)?_
 rintro j⟨i,⟨⟩⟩K hj hi hR hK
 dsimp only at hi⊢
 subst hi
 refine Br.dec(fun hl=>?_)fun hl=>?_
 ·have hl1:j<a.length:=by omega
  have hl2:j<b.length:=by omega
  refine⟨_,Bc hl1,_,Bc hl2,⟨fun he=>?_,fun he=>?_⟩⟩
  ·simp only [bne_iff_ne,ne_eq]at he
   refine(decide_eq_false fun hab=>he ?_).symm
   subst hab
   rfl
  ·rw [Ak(by omega)]
   refine hK hl1 _ rfl ?_
   simp only [bne_eq_false_iff_eq]at he
   rw [List.take_succ_eq_append_getElem hl1,List.take_succ_eq_append_getElem hl2,hR,he]
 ·have hj':j=a.length:=by omega
  subst hj'
  rw [List.take_length,hlen,List.take_length]at hR
  exact(decide_eq_true hR).symm
theorem baa(a b:List Int)(h:short a):fnW tab(look [])Bd Try.f59(a,b,())(fun(z:Bool)=>z=Dw a b):=by
 refine Eq.mp(bdj a b _)⟨fun hl=>?_,fun hl=>?_⟩
 ·simp only [bne_iff_ne,ne_eq,Int.natCast_inj]at hl
  exact(decide_eq_false fun hab=>hl(by rw [hab])).symm
 ·simp only [bne_eq_false_iff_eq,Int.natCast_inj]at hl
  exact aua a b hl h
theorem Pk:Sound Try.prog 59 Bd:=
 Sound.mkS Ca As mixed Try.func59(by kernel_rfl)(by kernel_rfl)fun x h=>baa x.1 x.2.1 h
theorem arh(a b:List Int)(h:short a):fnW tab(look [])Bd Try.f63(a,b,())(fun(z:Bool)=>z=Dw a b):=by
 refine Eq.mp(aqm a b _)⟨fun hl=>?_,fun hl=>?_⟩
 ·simp only [bne_iff_ne,ne_eq,Int.natCast_inj]at hl
  exact(decide_eq_false fun hab=>hl(by rw [hab])).symm
 ·simp only [bne_eq_false_iff_eq,Int.natCast_inj]at hl
  exact aua a b hl h
theorem Sd:Sound Try.prog 63 Bd:=
 Sound.mkS Ca As mixed Try.func63(by kernel_rfl)(by kernel_rfl)fun x h=>arh x.1 x.2.1 h
end Go.Proofs.Ytebabhocakedaaa

namespace Go.Proofs.Ytebabhocakedaaa
open Go.RowKit
def Ik(xs:List(List Int)):Prop:=xs.length≤4294967296∧ ∀r∈xs,short r
def roomy(room:Int):Prop:=0≤room∧room≤4294967296
def aif(n:Nat)(room:Int):Int:=if room-n<0 then-1 else room-n
def afp(xs:List Int)(room:Int):Int:=aif xs.length room
def bcw:List(List Int)→Int→Int
 | [],room=>room
 |r::rs,room=>if afp r room<0 then-1 else bcw rs(afp r room)
def Te(xs:List(List Int))(room:Int):Int:=if aif xs.length room<0 then-1 else bcw xs(aif xs.length room)
def aii(a b:List(List Int)):Bool:=decide(a=b)
noncomputable abbrev asn:Spec:=mkS(.pair tL(.pair tI .unit))tI false true(fun x=>short x.1∧roomy x.2.1)(fun x=>afp x.1 x.2.1)
noncomputable abbrev aht:Spec:=mkS(.pair tLL(.pair tI .unit))tI false true(fun x=>Ik x.1∧roomy x.2.1)(fun x=>Te x.1 x.2.1)
noncomputable abbrev atg:Spec:=mkS(.pair tL .unit)tL false true(fun x=>short x.1)(fun x=>x.1)
noncomputable abbrev aho:Spec:=mkS(.pair tLL .unit)tLL false true(fun x=>Ik x.1)(fun x=>x.1)
noncomputable abbrev aia:Spec:=mkS(.pair tLL(.pair tLL .unit)) .bool false true(fun x=>Ik x.1)(fun x=>aii x.1 x.2.1)
theorem btu(xs:List Int)(room:Int)(P:Int→Prop):(Br(decide(IntKind.i64.wrap(room-(↑xs.length:Int))<0))(P(-1))(P(IntKind.i64.wrap(room-(↑xs.length:Int)))))=fnW tab(look [])asn Try.f76(xs,room,())P:=by kernel_rfl
theorem brl(xs:List(List Int))(room:Int)(P:Int→Prop):(Br(decide(IntKind.i64.wrap(room-(↑xs.length:Int))<0))(P(-1))
 (Bo
  (fun(v3:Int×Int×PUnit)(k4:Int×Int×PUnit→Prop)=>
   Br(decide(v3.2.1<(↑xs.length:Int)))
    (∃(y5:List Int),idx xs v3.2.1=some y5∧ ∃(y6:Int),asn.fn(y5,v3.1,())=some y6∧Br(decide(y6<0))(P(-1))(k4(y6,IntKind.i64.wrap(v3.2.1+1),())))(P v3.1))
  (IntKind.i64.wrap(room-(↑xs.length:Int)),0,PUnit.unit)))=fnW tab(look [(76,asn)])aht Try.f33(xs,room,())P:=by kernel_rfl
theorem btb(xs:List Int)(P:List Int→Prop):((0≤(↑xs.length:Int)∧(↑xs.length:Int)<(↑Am:Int)+1)∧
 (↑xs.length:Int)=(↑xs.length:Int)∧
  0=0∧
   (List.replicate(↑xs.length:Int).toNat(Int.ofNat 0)).length=(List.replicate(↑xs.length:Int).toNat(Int.ofNat 0)).length∧
    Bo
     (fun(v2:Int×List Int×PUnit)(k3:Int×List Int×PUnit→Prop)=>
      Br(decide(v2.1<(↑xs.length:Int)))
       (∃(y4:Int),
        idx xs v2.1=some y4∧
         (0≤v2.1∧v2.1<(↑v2.2.1.length:Int))∧
          0+v2.1.toNat<v2.2.1.length∧
           0=0∧v2.2.1.length=(v2.2.1.set(0+v2.1.toNat)y4).length∧k3(IntKind.i64.wrap(v2.1+1),v2.2.1.set(0+v2.1.toNat)y4,()))
       (P(List.take v2.2.1.length(List.drop 0 v2.2.1))))
     (0,List.replicate(↑xs.length:Int).toNat(Int.ofNat 0),PUnit.unit))=fnW tab(look [])atg Try.f18(xs,())P:=by kernel_rfl
theorem bso(xs:List(List Int))(P:List(List Int)→Prop):((0≤(↑xs.length:Int)∧(↑xs.length:Int)<(↑Am:Int)+1)∧
 (↑xs.length:Int)=(↑xs.length:Int)∧
  0=0∧
   (List.replicate(↑xs.length:Int).toNat([]:List Int)).length=(List.replicate(↑xs.length:Int).toNat([]:List Int)).length∧
    Bo
     (fun(v2:Int×List(List Int)×PUnit)(k3:Int×List(List Int)×PUnit→Prop)=>
      Br(decide(v2.1<(↑xs.length:Int)))
       (∃(y4:List Int),
        idx xs v2.1=some y4∧
         ∃(y5:List Int),
          atg.fn(y4,())=some y5∧
           (0≤v2.1∧v2.1<(↑v2.2.1.length:Int))∧
            0+v2.1.toNat<v2.2.1.length∧
             0=0∧v2.2.1.length=(v2.2.1.set(0+v2.1.toNat)y5).length∧k3(IntKind.i64.wrap(v2.1+1),v2.2.1.set(0+v2.1.toNat)y5,()))
       (P(List.take v2.2.1.length(List.drop 0 v2.2.1))))
     (0,List.replicate(↑xs.length:Int).toNat([]:List Int),PUnit.unit))=fnW tab(look [(18,atg)])aho Try.f35(xs,())P:=by kernel_rfl
theorem btz(a b:List Int)(P:Bool→Prop):(Br((↑a.length:Int)!=(↑b.length:Int))(P false)
 (Bo
  (fun(v3:Int×PUnit)(k4:Int×PUnit→Prop)=>
   Br(decide(v3.1<(↑a.length:Int)))(∃(y5:Int),idx a v3.1=some y5∧ ∃(y6:Int),idx b v3.1=some y6∧Br(y5 !=y6)(P false)(k4(IntKind.i64.wrap(v3.1+1),())))
    (P true))
  (0,PUnit.unit)))=fnW tab(look [])Bd Try.f21(a,b,())P:=by kernel_rfl
theorem bsb(a b:List(List Int))(P:Bool→Prop):(Br((↑a.length:Int)!=(↑b.length:Int))(P false)
 (Bo
  (fun(v3:Int×PUnit)(k4:Int×PUnit→Prop)=>
   Br(decide(v3.1<(↑a.length:Int)))
    (∃(y5:List Int),
     idx a v3.1=some y5∧ ∃(y6:List Int),idx b v3.1=some y6∧ ∃(y7:Bool),Bd.fn(y5,y6,())=some y7∧Br(!y7)(P false)(k4(IntKind.i64.wrap(v3.1+1),())))
    (P true))
  (0,PUnit.unit)))=fnW tab(look [(21,Bd)])aia Try.f37(a,b,())P:=by kernel_rfl
theorem biz {n:Nat} {room:Int} (h:roomy room)(h2: ¬aif n room<0):roomy(aif n room):=by
 unfold aif roomy at*
 split at h2<;>simp_all
 omega
theorem btj(xs:List Int)(room:Int)(h:short xs∧roomy room):fnW tab(look [])asn Try.f76(xs,room,())(fun(z:Int)=>z=afp xs room):=by
 obtain⟨h1,h2,h3⟩:=h
 unfold short at h1
 refine Eq.mp(btu xs room _)?_
 rw [Bp(by omega)(by omega)]
 refine Br.dec(fun h=>?_)fun h=>?_
 ·simp only [afp,aif,if_pos h]
 ·simp only [afp,aif,if_neg h]
theorem bkv:Sound Try.prog 76 asn:=
 Sound.mkS Ca As mixed Try.func76(by kernel_rfl)(by kernel_rfl)fun x h=>btj x.1 x.2.1 h
theorem bsc(xs:List(List Int))(room:Int)(h:Ik xs∧roomy room):fnW tab(look [(76,asn)])aht Try.f33(xs,room,())(fun(z:Int)=>z=Te xs room):=by
 obtain⟨⟨h1,h4⟩,h2,h3⟩:=h
 refine Eq.mp(brl xs room _)?_
 rw [Bp(by omega)(by omega)]
 refine Br.dec(fun h=>?_)fun h=>?_
 ·simp only [Te,aif,if_pos h];rfl
 ·refine Ao xs.length(fun v=>v.2.1)(fun j v=>roomy v.1∧bcw(xs.drop j)v.1=Te xs room)rfl ?_ ?_
  ·refine⟨by unfold roomy;omega,?_⟩
   simp only [Te,aif,if_neg h,List.drop_zero]
  ·rintro j⟨r,i,⟨⟩⟩K hj hi⟨hr,hR⟩hK
   dsimp only at hi hr hR⊢
   subst hi
   refine Br.dec(fun hl=>?_)fun hl=>?_
   ·have hl:j<xs.length:=by omega
    have hd:xs.drop j=xs[j]::xs.drop(j+1):=List.drop_eq_getElem_cons hl
    refine⟨_,Bc hl,_,if_pos⟨h4 _(List.getElem_mem hl),hr⟩,?_⟩
    rw [hd]at hR
    simp only [bcw]at hR
    refine Br.dec(fun hn=>?_)fun hn=>?_
    ·have hn:afp xs[j]r<0:=hn
     rw [if_pos hn]at hR
     exact hR
    ·have hn: ¬afp xs[j]r<0:=hn
     rw [if_neg hn]at hR
     rw [Ak(by omega)]
     exact hK hl _ rfl⟨biz hr hn,hR⟩
   ·have:j=xs.length:=by omega
    subst this
    rw [List.drop_length]at hR
    exact hR
theorem bdq:Sound Try.prog 33 aht:=
 Sound.mkS Ca(Ae bkv As)mixed Try.func33(by kernel_rfl)(by kernel_rfl)fun x h=>bsc x.1 x.2.1 h
theorem Oi {α:Type} {ys xs:List α} {j:Nat} (h:j<xs.length)(hl:ys.length=xs.length)(ht:ys.take j=xs.take j):(ys.set j xs[j]).take(j+1)=xs.take(j+1):=by
 have h1:j<(ys.set j xs[j]).length:=by rw [List.length_set];omega
 rw [List.take_succ_eq_append_getElem h1,List.take_succ_eq_append_getElem h,List.getElem_set_self,List.take_set_of_le(Nat.le_refl j),ht]
theorem btv(xs:List Int)(h:short xs):fnW tab(look [])atg Try.f18(xs,())(fun(z:List Int)=>z=xs):=by
 unfold short at h
 refine Eq.mp(btb xs _)?_
 refine⟨⟨by omega,by show(xs.length:Int)<(4294967296:Int)+1;omega⟩,rfl,rfl,rfl,?_⟩
 refine Ao xs.length(fun v=>v.1)(fun j v=>v.2.1.length=xs.length∧v.2.1.take j=xs.take j)rfl⟨by simp,by simp⟩?_
 rintro j⟨i,ys,⟨⟩⟩K hj hi⟨h1,h2⟩hK
 dsimp only at hi h1 h2⊢
 subst hi
 refine Br.dec(fun hl=>?_)fun hl=>?_
 ·have hl:j<xs.length:=by omega
  refine⟨_,Bc hl,⟨by omega,by omega⟩,by rw [Int.toNat_natCast];omega,rfl,by rw [List.length_set],?_⟩
  rw [Ak(by omega),Int.toNat_natCast,Nat.zero_add]
  exact hK hl _ rfl⟨by rw [List.length_set];exact h1,Oi hl h1 h2⟩
 ·have:j=xs.length:=by omega
  subst this
  rw [List.take_length,←h1,List.take_length]at h2
  rw [List.drop_zero,List.take_length]
  exact h2
theorem bjw:Sound Try.prog 18 atg:=
 Sound.mkS Ca As mixed Try.func18(by kernel_rfl)(by kernel_rfl)fun x h=>btv x.1 h
theorem bsn(xs:List(List Int))(h:Ik xs):fnW tab(look [(18,atg)])aho Try.f35(xs,())(fun(z:List(List Int))=>z=xs):=by
 obtain⟨h,h4⟩:=h
 refine Eq.mp(bso xs _)?_
 refine⟨⟨by omega,by show(xs.length:Int)<(4294967296:Int)+1;omega⟩,rfl,rfl,rfl,?_⟩
 refine Ao xs.length(fun v=>v.1)(fun j v=>v.2.1.length=xs.length∧v.2.1.take j=xs.take j)rfl⟨by simp,by simp⟩?_
 rintro j⟨i,ys,⟨⟩⟩K hj hi⟨h1,h2⟩hK
 dsimp only at hi h1 h2⊢
 subst hi
 refine Br.dec(fun hl=>?_)fun hl=>?_
 ·have hl:j<xs.length:=by omega
  refine⟨_,Bc hl,_,if_pos(h4 _(List.getElem_mem hl)),⟨by omega,by omega⟩,by rw [Int.toNat_natCast];omega,rfl,by rw [List.length_set],?_⟩
  rw [Ak(by omega),Int.toNat_natCast,Nat.zero_add]
  exact hK hl _ rfl⟨by rw [List.length_set];exact h1,Oi hl h1 h2⟩
 ·have:j=xs.length:=by omega
  subst this
  rw [List.take_length,←h1,List.take_length]at h2
  rw [List.drop_zero,List.take_length]
  exact h2
theorem bgc:Sound Try.prog 35 aho:=
 Sound.mkS Ca(Ae bjw As)mixed Try.func35(by kernel_rfl)(by kernel_rfl)fun x h=>bsn x.1 h
theorem bte(a b:List Int)(h:short a):fnW tab(look [])Bd Try.f21(a,b,())(fun(z:Bool)=>z=Dw a b):=by
 refine Eq.mp(btz a b _)⟨fun hl=>?_,fun hl=>?_⟩
 ·simp only [bne_iff_ne,ne_eq,Int.natCast_inj]at hl
  exact(decide_eq_false fun hab=>hl(by rw [hab])).symm
 ·simp only [bne_eq_false_iff_eq,Int.natCast_inj]at hl
  exact aua a b hl h
theorem bjk:Sound Try.prog 21 Bd:=
 Sound.mkS Ca As mixed Try.func21(by kernel_rfl)(by kernel_rfl)fun x h=>bte x.1 x.2.1 h
theorem bsg(a b:List(List Int))(h:Ik a):fnW tab(look [(21,Bd)])aia Try.f37(a,b,())(fun(z:Bool)=>z=aii a b):=by
 obtain⟨h,h4⟩:=h
 refine Eq.mp(bsb a b _)⟨fun hl=>?_,fun hl=>?_⟩
 ·simp only [bne_iff_ne,ne_eq,Int.natCast_inj]at hl
  exact(decide_eq_false fun hab=>hl(by rw [hab])).symm
 ·simp only [bne_eq_false_iff_eq,Int.natCast_inj]at hl
  refine Ao a.length(fun v=>v.1)(fun j _=>a.take j=b.take j)rfl(by simp)?_
  rintro j⟨i,⟨⟩⟩K hj hi hR hK
  dsimp only at hi⊢
  subst hi
  refine Br.dec(fun hlt=>?_)fun hlt=>?_
  ·have hl1:j<a.length:=by omega
   have hl2:j<b.length:=by omega
   refine⟨_,Bc hl1,_,Bc hl2,_,if_pos(h4 _(List.getElem_mem hl1)),⟨fun he=>?_,fun he=>?_⟩⟩
   ·refine(decide_eq_false fun hab=>?_).symm
    subst hab
    simp [Dw]at he
   ·rw [Ak(by omega)]
    refine hK hl1 _ rfl ?_
    simp only [Dw,Bool.not_eq_false',decide_eq_true_eq]at he
    rw [List.take_succ_eq_append_getElem hl1,List.take_succ_eq_append_getElem hl2,hR]
    exact congrArg(fun x=>List.take j b++ [x])he
  ·have hj':j=a.length:=by omega
   subst hj'
   rw [List.take_length,hl,List.take_length]at hR
   exact(decide_eq_true hR).symm
theorem bdt:Sound Try.prog 37 aia:=
 Sound.mkS Ca(Ae bjk As)mixed Try.func37(by kernel_rfl)(by kernel_rfl)fun x h=>bsg x.1 x.2.1 h
end Go.Proofs.Ytebabhocakedaaa

namespace Go.Proofs.Ytebabhocakedaaa
open Go.RowKit
def DL(n:Int)(xs:List Int)(k:Nat):Prop:= ∀j(h:j<xs.length),j<k→0≤xs[j]∧xs[j]≤n-1∧xs[j]∉xs.take j
noncomputable def dec(p:Prop):Bool:= @decide p(Classical.propDecidable p)
theorem Jv {p:Prop} (h:p):true=dec p:=(@decide_eq_true p(Classical.propDecidable p)h).symm
theorem Bu {p:Prop} (h: ¬p):false=dec p:=(@decide_eq_false p(Classical.propDecidable p)h).symm
theorem Dg {p:Prop} :dec p=true↔p:= @decide_eq_true_iff p(Classical.propDecidable p)
theorem bpu {p:Prop} :dec p=false↔ ¬p:= @decide_eq_false_iff_not p(Classical.propDecidable p)
noncomputable abbrev aaw:Spec:=mkS(.pair tLL .unit)tI false true(fun _=>True)(fun x=>(List.length x.1:Int))
theorem bpz(xs:List(List Int))(P:Int→Prop):(P(↑xs.length:Int))=fnW tab(look [])aaw Try.f67(xs,())P:=by kernel_rfl
theorem bql(xs:List(List Int))(_:True):fnW tab(look [])aaw Try.f67(xs,())(fun(z:Int)=>z=(xs.length:Int)):=Eq.mp(bpz xs _)rfl
theorem bax:Sound Try.prog 67 aaw:=
 Sound.mkS Ca As mixed Try.func67(by kernel_rfl)(by kernel_rfl)fun x h=>bql x.1 h
theorem Cv {x a b:Int} :Fu x a b=true↔a≤x∧x≤b:=decide_eq_true_iff
theorem Fy {b:Bool} (h:(!b)=true): ¬b=true:=by cases b<;>simp_all
theorem Hg {b:Bool} (h:(!b)=false):b=true:=by cases b<;>simp_all
theorem bpq {n:Int} {xs:List Int} {j:Nat} (hl:j<xs.length)(h:DL n xs j)(h1:0≤xs[j])(h2:xs[j]≤n-1)(h3:xs[j]∉xs.take j):DL n xs(j+1):=by
 intro i hi hij
 by_cases e:i=j
 ·subst e;exact⟨h1,h2,h3⟩
 ·exact h i hi(by omega)
theorem bfw {xs:List Int} (h:short xs)(j:Nat):short(xs.take j):=by
 unfold short at*
 rw [List.length_take]
 omega
end Go.Proofs.Ytebabhocakedaaa

namespace Go.Proofs.Ytebabhocakedaaa
open Go.RowKit
theorem bbq:roomy 1048576:=⟨by decide,by decide⟩
end Go.Proofs.Ytebabhocakedaaa

namespace Go.Proofs.Ytebabhocakedaaa
open Go.RowKit
abbrev PP:Type:=Int×ByteArray×List(List Int)×Unit
noncomputable def Ey(p:List Int):Bool:=dec(1≤p.length∧p.length≤20∧DL p.length p p.length)
noncomputable def Di(n:Int)(p:List Int):Bool:=dec((p.length:Int)=n∧Ey p=true)
noncomputable def Ol(n:Int)(g:List(List Int)):Bool:=dec((1≤n∧n≤20)∧g.length≤8∧ ∀p∈g,Di n p=true)
def Fm {α:Type} (P:α→Bool):List α→Int→Int
 | [],_=> -1
 |y::r,i=>if P y=true then i else Fm P r(i+1)
abbrev tG1:Ty:= .clo 174(.pair(.ptr tI) .unit)
def axl(s:ByteArray)(i:Nat):Prop:= ∃c:UInt8,s[i]?=some c∧65≤c.toNat∧c.toNat≤90∧ ∀k,k<i→s[k]?≠some c
noncomputable def age(s:ByteArray)(i:Int):Bool:=dec(axl s i.toNat)
noncomputable def Vb(s:ByteArray):Bool:=dec((1≤s.size∧s.size≤8)∧ ∀j,j<s.size→axl s j)
noncomputable def At(p:PP):Bool:=dec(Ol p.1 p.2.2.1=true∧Vb p.2.1=true∧p.2.1.size=p.2.2.1.length)
def Ec(p:PP):Prop:=p.2.1.size≤4294967296∧Ik p.2.2.1
noncomputable abbrev Nr:Spec:=mkS(.pair tL .unit)tI false true(fun _=>True)(fun x=>(List.length x.1:Int))
noncomputable abbrev Gf:Spec:=mkS(.pair tL .unit) .bool false true(fun x=>short x.1)(fun x=>Ey x.1)
noncomputable abbrev Iz:Spec:=mkS(.pair tI(.pair tLL .unit)) .bool false true(fun x=>Ik x.2.1)(fun x=>Ol x.1 x.2.1)
noncomputable abbrev aas:Spec:=mkS(.pair tL(.pair(.ptr tI) .unit)) .bool false true(fun x=>short x.1)(fun x=>!Di x.2.1 x.1)
noncomputable abbrev arq:Spec:=mkS(.pair tLL(.pair tG1 .unit))tI false true(fun x=>Ik x.1)(fun x=>Fm(fun p=>!Di x.2.1.1 p)x.1 0)
noncomputable abbrev asp:Spec:=mkS(.pair tLL(.pair tG1 .unit)) .bool false true(fun x=>Ik x.1)(fun x=>List.any x.1(fun p=>!Di x.2.1.1 p))
noncomputable abbrev Ux:Spec:=mkS(.pair .str(.pair tI .unit)) .bool false true(fun x=>0≤x.2.1∧x.2.1<x.1.size∧x.1.size≤4294967296)(fun x=>age x.1 x.2.1)
noncomputable abbrev Qo:Spec:=mkS(.pair .str .unit) .bool false true(fun x=>x.1.size≤4294967296)(fun x=>Vb x.1)
noncomputable abbrev Dp:Spec:=mkS(.pair Db .unit) .bool false true(fun x=>Ec x.1)(fun x=>At x.1)
def Zj(p:PP)(room:Int):Int:=if room-p.2.1.size<0 then-1 else if Te p.2.2.1(room-p.2.1.size)<0 then-1 else Te p.2.2.1(room-p.2.1.size)
def akp(a b:PP):Bool:=decide(a.1=b.1)&&(decide(a.2.1=b.2.1)&&decide(a.2.2.1=b.2.2.1))
noncomputable abbrev aro:Spec:=mkS(.pair Db(.pair tI .unit))tI false true(fun x=>Ec x.1∧roomy x.2.1)(fun x=>Zj x.1 x.2.1)
noncomputable abbrev ajf:Spec:=mkS(.pair Db .unit)Db false true(fun x=>Ec x.1)(fun x=>x.1)
noncomputable abbrev atp:Spec:=mkS(.pair Db(.pair Db .unit)) .bool false true(fun x=>Ec x.1)(fun x=>akp x.1 x.2.1)
theorem brp(xs:List Int)(P:Int→Prop):(P(↑xs.length:Int))=fnW tab(look [])Nr Try.f127(xs,())P:=by kernel_rfl
theorem avb(p:List Int)(P:Bool→Prop):(∃(y2:Bool),
 Cc.fn((↑p.length:Int),(1:Int),(20:Int),())=some y2∧
  Br(!y2)(P false)
   (Bo
    (fun(v3:Int×PUnit)(k4:Int×PUnit→Prop)=>
     Br(decide(v3.1<(↑p.length:Int)))
      (∃(y5:Int),
       idx p v3.1=some y5∧
        ∃(y6:Bool),
         Cc.fn(y5,(0:Int),IntKind.i64.wrap((↑p.length:Int)-(1:Int)),())=some y6∧
          Br(!y6)(P false)
           (((0:Int)≤(0:Int)∧(0:Int)≤v3.1∧v3.1≤(↑p.length:Int))∧
            ∃(y7:Int),
             idx p v3.1=some y7∧
              ∃(y8:Bool),
               El.fn(List.drop(Int.toNat(0:Int))(List.take v3.1.toNat p),y7,())=some y8∧Br y8(P false)(k4(IntKind.i64.wrap(v3.1+(1:Int)),()))))
      (P true))
    ((0:Int),PUnit.unit)))=fnW tab(look [(122,Cc),(152,El)])Gf Try.f169(p,())P:=by kernel_rfl
theorem axx(p:List Int)(P:Bool→Prop):(∃(y2:Int),
 Nr.fn(p,())=some y2∧
  ∃(y3:Bool),
   Cc.fn(y2,(1:Int),(20:Int),())=some y3∧
    Br(!y3)(P false)
     (Bo
      (fun(v4:Int×Int×PUnit)(k5:Int×Int×PUnit→Prop)=>
       Br(decide(v4.2.1<(↑p.length:Int)))
        (∃(y6:Int),
         idx p v4.2.1=some y6∧
          ∃(y7:Int),
           Nr.fn(p,())=some y7∧
            ∃(y8:Bool),
             Cc.fn(y6,(0:Int),IntKind.i64.wrap(y7-(1:Int)),())=some y8∧
              Br(!y8)(P false)
               (¬y6<(0:Int)∧
                k5
                 (IntKind.i64.wrap
                   (↑(BitVec.ofInt IntKind.i64.bits v4.1|||BitVec.ofInt IntKind.i64.bits(IntKind.i64.wrap((1:Int)*(2:Int)^min y6.toNat IntKind.i64.bits))).toNat:
                    Int),
                  IntKind.i64.wrap(v4.2.1+(1:Int)),())))
        (¬(↑p.length:Int)<(0:Int)∧P(v4.1==IntKind.i64.wrap(IntKind.i64.wrap((1:Int)*(2:Int)^min(↑p.length:Int).toNat IntKind.i64.bits)-(1:Int)))))
      ((0:Int),(0:Int),PUnit.unit)))=fnW tab(look [(108,Cc),(127,Nr)])Gf Try.f170(p,())P:=by kernel_rfl
theorem axh(n:Int)(g:List(List Int))(P:Bool→Prop):(∃(y3:Bool),
 Cc.fn(n,(1:Int),(20:Int),())=some y3∧
  Br(!y3)(P false)
   (Br(decide((↑g.length:Int)>(8:Int)))(P false)
    (Bo
     (fun(v4:Int×PUnit)(k5:Int×PUnit→Prop)=>
      Br(decide(v4.1<(↑g.length:Int)))
       (∃(y6:List Int),
        idx g v4.1=some y6∧
         Br((↑y6.length:Int)!=n)(P false)
          (∃(y7:List Int),idx g v4.1=some y7∧ ∃(y8:Bool),Gf.fn(y7,())=some y8∧Br(!y8)(P false)(k5(IntKind.i64.wrap(v4.1+(1:Int)),()))))
       (P true))
     ((0:Int),PUnit.unit))))=fnW tab(look [(122,Cc),(169,Gf)])Iz Try.f148(n,g,())P:=by kernel_rfl
theorem bpy(p:List Int)(n:Int)(P:Bool→Prop):(∃(y3:Int),Nr.fn(p,())=some y3∧Br(y3 !=n)(P true)(∃(y4:Bool),Gf.fn(p,())=some y4∧P !y4))=fnW tab(look [(127,Nr),(170,Gf)])aas Try.f174(p,n,())P:=by kernel_rfl
theorem bts(g:List(List Int))(n:Int×Unit)(P:Int→Prop):(Bo
 (fun(v3:Int×PUnit)(k4:Int×PUnit→Prop)=>
  Br(decide(v3.1<(↑g.length:Int)))
   (∃(y5:List Int),idx g v3.1=some y5∧ ∃(y6:Bool),aas.fn(y5,n.1,())=some y6∧Br y6(P v3.1)(k4(IntKind.i64.wrap(v3.1+(1:Int)),())))(P(-1:Int)))
 ((0:Int),PUnit.unit))=fnW tab(look [(174,aas)])arq Try.f181(g,n,())P:=by kernel_rfl
theorem buc(g:List(List Int))(n:Int×Unit)(P:Bool→Prop):(∃(y3:Int),arq.fn(g,n,())=some y3∧P(decide(y3≥(0:Int))))=fnW tab(look [(181,arq)])asp Try.f173(g,n,())P:=by kernel_rfl
theorem axm(n:Int)(g:List(List Int))(P:Bool→Prop):(∃(y3:Bool),
 Cc.fn(n,(1:Int),(20:Int),())=some y3∧Br y3(Br(decide((↑g.length:Int)≤(8:Int)))(∃(y4:Bool),asp.fn(g,(n,()),())=some y4∧P !y4)(P false))(P false))=fnW tab(look [(108,Cc),(173,asp)])Iz Try.f157(n,g,())P:=by kernel_rfl
theorem bpk(s:ByteArray)(i:Int)(P:Bool→Prop):((0:Int)≤i∧
 ∃(y3:UInt8),
  s[i.toNat]?=some y3∧
   Br(decide((↑y3.toNat:Int)<(65:Int)))(P false)
    ((0:Int)≤i∧
     ∃(y4:UInt8),
      s[i.toNat]?=some y4∧
       Br(decide((↑y4.toNat:Int)>(90:Int)))(P false)
        (Bo
         (fun(v5:Int×PUnit)(k6:Int×PUnit→Prop)=>
          Br(decide(v5.1<i))
           ((0:Int)≤v5.1∧
            ∃(y7:UInt8),
             s[v5.1.toNat]?=some y7∧
              (0:Int)≤i∧ ∃(y8:UInt8),s[i.toNat]?=some y8∧Br((↑y7.toNat:Int)==(↑y8.toNat:Int))(P false)(k6(IntKind.i64.wrap(v5.1+(1:Int)),())))
           (P true))
         ((0:Int),PUnit.unit))))=fnW tab(look [])Ux Try.f149(s,i,())P:=by kernel_rfl
theorem bkz(s:ByteArray)(P:Bool→Prop):(Bo
 (fun(v2:Int×PUnit)(k3:Int×PUnit→Prop)=>
  Br(decide(v2.1<(↑s.size:Int)))
   ((0:Int)≤v2.1∧
    ∃(y4:UInt8),
     s[v2.1.toNat]?=some y4∧
      ∃(y5:Bool),
       Cc.fn(IntKind.i64.wrap(↑y4.toNat:Int),(65:Int),(90:Int),())=some y5∧
        Br(!y5)(P false)
         (Bo
          (fun(v6:Int×PUnit)(k7:Int×PUnit→Prop)=>
           Br(decide(v6.1<v2.1))
            ((0:Int)≤v6.1∧
             ∃(y8:UInt8),
              s[v6.1.toNat]?=some y8∧
               (0:Int)≤v2.1∧ ∃(y9:UInt8),s[v2.1.toNat]?=some y9∧Br((↑y8.toNat:Int)==(↑y9.toNat:Int))(P false)(k7(IntKind.i64.wrap(v6.1+(1:Int)),())))
            (k3(IntKind.i64.wrap(v2.1+(1:Int)),())))
          ((0:Int),PUnit.unit)))
   (∃(y4:Bool),Cc.fn((↑s.size:Int),(1:Int),(8:Int),())=some y4∧P y4))
 ((0:Int),PUnit.unit))=fnW tab(look [(108,Cc)])Qo Try.f158(s,())P:=by kernel_rfl
theorem awt(p:Int×ByteArray×List(List Int)×Unit)(P:Bool→Prop):(Br((↑p.2.2.1.length:Int)==(0:Int))(P false)
 (Br((↑p.2.1.size:Int)!=(↑p.2.2.1.length:Int))(P false)
  (∃(y2:Bool),
   Iz.fn(p.1,p.2.2.1,())=some y2∧
    Br(!y2)(P false)
     (Bo
      (fun(v3:Int×Int×ByteArray×List(List Int)×PUnit)(k4:Int×Int×ByteArray×List(List Int)×PUnit→Prop)=>
       Br(decide(v3.1<(↑v3.2.2.1.size:Int)))
        (∃(y5:Bool),Ux.fn(v3.2.2.1,v3.1,())=some y5∧Br(!y5)(P false)(k4(IntKind.i64.wrap(v3.1+(1:Int)),v3.2.1,v3.2.2.1,v3.2.2.2.1,())))
        (P true))
      ((0:Int),p.1,p.2.1,p.2.2.1,PUnit.unit)))))=fnW tab(look [(148,Iz),(149,Ux)])Dp Try.f99(p,())P:=by kernel_rfl
theorem axk(p:Int×ByteArray×List(List Int)×Unit)(P:Bool→Prop):(∃(y2:Bool),
 Iz.fn(p.1,p.2.2.1,())=some y2∧Br y2(∃(y3:Bool),Qo.fn(p.2.1,())=some y3∧Br y3(P((↑p.2.1.size:Int)==(↑p.2.2.1.length:Int)))(P false))(P false))=fnW tab(look [(157,Iz),(158,Qo)])Dp Try.f124(p,())P:=by kernel_rfl
theorem bsw(p:Int×ByteArray×List(List Int)×Unit)(room:Int)(P:Int→Prop):(Br(decide(IntKind.i64.wrap(room-(↑p.2.1.size:Int))<(0:Int)))(P(-1:Int))
 (∃(y3:Int),aht.fn(p.2.2.1,IntKind.i64.wrap(room-(↑p.2.1.size:Int)),())=some y3∧Br(decide(y3<(0:Int)))(P(-1:Int))(P y3)))=fnW tab(look [(33,aht)])aro Try.f15(p,room,())P:=by kernel_rfl
theorem bsv(p:Int×ByteArray×List(List Int)×Unit)(P:(Int×ByteArray×List(List Int)×Unit)→Prop):(∃(y2:List(List Int)),aho.fn(p.2.2.1,())=some y2∧P(p.1,p.2.1,y2,()))=fnW tab(look [(35,aho)])ajf Try.f17(p,())P:=by kernel_rfl
theorem bsy(a b:Int×ByteArray×List(List Int)×Unit)(P:Bool→Prop):(Br(a.1 !=b.1)(P false)(Br(!a.2.1.toList==b.2.1.toList)(P false)(∃(y3:Bool),aia.fn(a.2.2.1,b.2.2.1,())=some y3∧Br(!y3)(P false)(P true))))=fnW tab(look [(37,aia)])atp Try.f20(a,b,())P:=by kernel_rfl
theorem brf(xs:List Int)(_:True):fnW tab(look [])Nr Try.f127(xs,())(fun(z:Int)=>z=(xs.length:Int)):=Eq.mp(brp xs _)rfl
theorem aei:Sound Try.prog 127 Nr:=
 Sound.mkS Ca As mixed Try.func127(by kernel_rfl)(by kernel_rfl)fun x h=>brf x.1 h
theorem atz {α:Type} [DecidableEq α]: ∀(l m:List α),l.Nodup→(∀x∈l,x∈m)→l.length≤m.length
 | [],m,_,_=>Nat.zero_le _
 |a::l,m,hn,hs=>by
  have ha:a∈m:=hs a(List.mem_cons_self ..)
  have hn:=List.nodup_cons.1 hn
  have:=atz l(m.erase a)hn.2 fun x hx=>(List.mem_erase_of_ne(fun(e:x=a)=>hn.1(by rw [←e];exact hx))).2(hs x(List.mem_cons_of_mem _ hx))
  rw [List.length_erase_of_mem ha]at this
  have:0<m.length:=List.length_pos_of_mem ha
  simp only [List.length_cons]
  omega
def upto(n:Nat):List Int:=(List.range n).map Int.ofNat
theorem Qw(n:Nat):(upto n).Nodup:=by
 unfold upto
 exact List.Pairwise.map _(fun a b hab e=>hab(Int.ofNat.inj e))List.nodup_range
theorem Hy {n:Nat} {x:Int} :x∈upto n↔0≤x∧x<n:=by
 unfold upto
 simp only [List.mem_map,List.mem_range]
 constructor
 ·rintro⟨a,ha,rfl⟩;exact⟨Int.natCast_nonneg _,Int.ofNat_lt.2 ha⟩
 ·rintro⟨h1,h2⟩;exact⟨x.toNat,by omega,by simp only [Int.ofNat_eq_natCast];omega⟩
theorem Hz(n:Nat):(upto n).length=n:=by simp [upto]
theorem Zu {xs:List Int} (h: ∀j(hj:j<xs.length),xs[j]∉xs.take j):xs.Nodup:=by
 refine List.pairwise_iff_getElem.2 fun i j hi hj hij e=>h j hj ?_
 rw [←e]
 exact List.mem_take_iff_getElem.2⟨i,by omega,rfl⟩
theorem amk {xs:List Int} (h:xs.Nodup): ∀j(hj:j<xs.length),xs[j]∉xs.take j:=by
 intro j hj hm
 obtain⟨i,hi,e⟩:=List.mem_take_iff_getElem.1 hm
 exact List.pairwise_iff_getElem.1 h i j(by omega)hj(by omega)e
theorem Tq {xs:List Int} (h: ∀x∈xs,0≤x∧x<xs.length):(∀k:Nat,k<xs.length→(k:Int)∈xs)↔ ∀j(hj:j<xs.length),xs[j]∉xs.take j:=by
 constructor
 ·intro ha j hj hm
  have h1:=atz(upto xs.length)(xs.take j++xs.drop(j+1))(Qw _)fun x hx=>by
   obtain⟨h1,h2⟩:=Hy.1 hx
   have hx:=ha x.toNat(by omega)
   rw [show((x.toNat:Nat):Int)=x by omega]at hx
   rw [←List.take_append_drop j xs,List.mem_append,List.drop_eq_getElem_cons hj,List.mem_cons]at hx
   rcases hx with hx|rfl|hx
   ·exact List.mem_append_left _ hx
   ·exact List.mem_append_left _ hm
   ·exact List.mem_append_right _ hx
  rw [Hz,List.length_append,List.length_take,List.length_drop]at h1
  omega
 ·intro hn k hk
  refine Classical.byContradiction fun hc=>?_
  have h1:=atz xs((upto xs.length).erase(k:Int))(Zu hn)fun x hx=>by
   refine(List.mem_erase_of_ne fun(e:x=(k:Int))=>hc(by rw [←e];exact hx)).2(Hy.2(h x hx))
  rw [List.length_erase_of_mem(Hy.2⟨by omega,by omega⟩),Hz]at h1
  omega
def mask(xs:List Int):Nat:=xs.foldl(fun m x=>m|||2^x.toNat)0
theorem bli(xs:List Int)(x:Int):mask(xs++ [x])=mask xs|||2^x.toNat:=by simp [mask]
theorem aww(xs:List Int)(k:Nat): ∀a:Nat,(xs.foldl(fun m x=>m|||2^x.toNat)a).testBit k=(a.testBit k||xs.any fun x=>decide(x.toNat=k)):=by
 induction xs with
 |nil=>simp
 |cons x xs ih=>
  intro a
  rw [List.foldl_cons,ih,Nat.testBit_or,Nat.testBit_two_pow,List.any_cons,Bool.or_assoc]
theorem alu(xs:List Int)(k:Nat):(mask xs).testBit k=xs.any fun x=>decide(x.toNat=k):=by
 unfold mask
 rw [aww,Nat.zero_testBit,Bool.false_or]
theorem bqd {xs:List Int} {n:Nat} (h: ∀x∈xs,x.toNat<n):mask xs<2^n:=by
 refine Nat.lt_pow_two_of_testBit _ fun k hk=>?_
 rw [alu]
 refine Bool.eq_false_iff.2 fun ht=>?_
 obtain⟨x,hx,he⟩:=List.any_eq_true.1 ht
 have:=h x hx
 have:=of_decide_eq_true he
 omega
theorem arv {xs:List Int} (h: ∀x∈xs,0≤x∧x<xs.length):mask xs=2^xs.length-1↔ ∀k:Nat,k<xs.length→(k:Int)∈xs:=by
 constructor
 ·intro e k hk
  have h1:=alu xs k
  rw [e,Nat.testBit_two_pow_sub_one,decide_eq_true hk]at h1
  obtain⟨x,hx,he⟩:=List.any_eq_true.1 h1.symm
  have:=(h x hx).1
  have:=of_decide_eq_true he
  have e:x=(k:Int):=by omega
  exact e▸hx
 ·intro ha
  refine Nat.eq_of_testBit_eq fun k=>?_
  rw [alu,Nat.testBit_two_pow_sub_one]
  by_cases hk:k<xs.length
  ·rw [decide_eq_true hk]
   exact List.any_eq_true.2⟨k,ha k hk,by simp⟩
  ·rw [decide_eq_false hk]
   refine Bool.eq_false_iff.2 fun ht=>?_
   obtain⟨x,hx,he⟩:=List.any_eq_true.1 ht
   have:=h x hx
   have:=of_decide_eq_true he
   omega
theorem bqp {m:Nat} {x:Int} (hm:m<2^20)(h0:0≤x)(h1:x<20):
  IntKind.i64.wrap(((BitVec.ofInt IntKind.i64.bits(m:Int)|||BitVec.ofInt IntKind.i64.bits(IntKind.i64.wrap((1:Int)*(2:Int)^min x.toNat IntKind.i64.bits))).toNat:Nat):Int)=((m|||2^x.toNat:Nat):Int):=by
 have hx:(2:Nat)^x.toNat<2^20:=Nat.pow_lt_pow_right(by omega)(by omega)
 have e1:min x.toNat IntKind.i64.bits=x.toNat:=by show min x.toNat 64=_;omega
 have e2:(1:Int)*(2:Int)^x.toNat=((2^x.toNat:Nat):Int):=by rw [Int.one_mul];exact(Int.natCast_pow 2 _).symm
 rw [e1,e2,Bp(n:=((2^x.toNat:Nat):Int))(by have:(0:Int)≤((2^x.toNat:Nat):Int):=Int.natCast_nonneg _;omega)(by omega)]
 show IntKind.i64.wrap(((BitVec.ofInt 64(m:Int)|||BitVec.ofInt 64((2^x.toNat:Nat):Int)).toNat:Nat):Int)=_
 rw [BitVec.ofInt_natCast,BitVec.ofInt_natCast,BitVec.toNat_or,BitVec.toNat_ofNat,BitVec.toNat_ofNat,Nat.mod_eq_of_lt(by omega),Nat.mod_eq_of_lt(by omega)]
 have:=Nat.or_lt_two_pow hm hx
 exact Bp(by omega)(by omega)
theorem att(p:List Int)(h:short p):fnW tab(look [(122,Cc),(152,El)])Gf Try.f169(p,())(fun(z:Bool)=>z=Ey p):=by
 have hs:=h
 unfold short at h
 refine Eq.mp(avb p _)⟨_,if_pos trivial,⟨fun hp=>?_,fun hp=>?_⟩⟩
 ·have hp:=Fy hp
  rw [Cv]at hp
  dsimp only at hp
  exact Bu fun hh=>hp⟨by omega,by omega⟩
 ·have hp:=Hg hp
  rw [Cv]at hp
  dsimp only at hp
  refine Ao p.length(fun v=>v.1)(fun j _=>DL p.length p j)rfl(fun j _ hj=>absurd hj(Nat.not_lt_zero _))?_
  rintro j⟨i,⟨⟩⟩K hj hi hR hK
  dsimp only at hi⊢
  subst hi
  refine Br.dec(fun hl=>?_)fun hl=>?_
  ·have hl:j<p.length:=by omega
   refine⟨_,Bc hl,_,if_pos trivial,⟨fun hq=>?_,fun hq=>?_⟩⟩
   ·have hq:=Fy hq
    rw [Cv,Bp(by omega)(by omega)]at hq
    exact Bu fun hh=>hq⟨(hh.2.2 j hl hl).1,(hh.2.2 j hl hl).2.1⟩
   ·have hq:=Hg hq
    rw [Cv,Bp(by omega)(by omega)]at hq
    refine⟨⟨by omega,by omega,by omega⟩,_,Bc hl,?_⟩
    rw [show(Int.toNat 0)=0 from rfl,List.drop_zero,Int.toNat_natCast]
    refine⟨_,if_pos(bfw hs j),⟨fun hc=>?_,fun hc=>?_⟩⟩
    ·have hc:decide(p[j]∈p.take j)=true:=hc
     rw [decide_eq_true_iff]at hc
     exact Bu fun hh=>(hh.2.2 j hl hl).2.2 hc
    ·have hc:decide(p[j]∈p.take j)=false:=hc
     rw [decide_eq_false_iff_not]at hc
     rw [Ak(by omega)]
     exact hK hl _ rfl(bpq hl hR hq.1 hq.2 hc)
  ·have:j=p.length:=by omega
   subst this
   exact Jv⟨by omega,by omega,hR⟩
theorem Uw:Sound Try.prog 169 Gf:=
 Sound.mkS Ca(Ae ade(Ae Se As))mixed Try.func169(by kernel_rfl)(by kernel_rfl)fun x h=>att x.1 h
theorem auu(p:List Int)(h:short p):fnW tab(look [(108,Cc),(127,Nr)])Gf Try.f170(p,())(fun(z:Bool)=>z=Ey p):=by
 unfold short at h
 refine Eq.mp(axx p _)⟨_,if_pos trivial,_,if_pos trivial,⟨fun hp=>?_,fun hp=>?_⟩⟩
 ·have hp:=Fy hp
  rw [Cv]at hp
  dsimp only at hp
  exact Bu fun hh=>hp⟨by omega,by omega⟩
 ·have hp:=Hg hp
  rw [Cv]at hp
  dsimp only at hp
  refine Ao p.length(fun v=>v.2.1)(fun j v=>v.1=(mask(p.take j):Int)∧ ∀x∈p.take j,0≤x∧x<p.length)rfl⟨rfl,by simp⟩?_
  rintro j⟨m,i,⟨⟩⟩K hj hi⟨hm,hR⟩hK
  dsimp only at hi hm⊢
  subst hi hm
  refine Br.dec(fun hl=>?_)fun hl=>?_
  ·have hl:j<p.length:=by omega
   refine⟨_,Bc hl,_,if_pos trivial,_,if_pos trivial,⟨fun hq=>?_,fun hq=>?_⟩⟩
   ·have hq:=Fy hq
    rw [Cv]at hq
    dsimp only at hq
    rw [Bp(by omega)(by omega)]at hq
    exact Bu fun hh=>hq⟨(hh.2.2 j hl hl).1,(hh.2.2 j hl hl).2.1⟩
   ·have hq:=Hg hq
    rw [Cv]at hq
    dsimp only at hq
    rw [Bp(by omega)(by omega)]at hq
    refine⟨by omega,?_⟩
    rw [Ak(by omega)]
    have hb:mask(p.take j)<2^20:=bqd fun x hx=>by have:=hR x hx;omega
    refine hK hl _ rfl⟨?_,?_⟩
    ·dsimp only
     rw [bqp hb hq.1(by omega),List.take_succ_eq_append_getElem hl,bli]
    ·rw [List.take_succ_eq_append_getElem hl]
     intro x hx
     rcases List.mem_append.1 hx with hx|hx
     ·exact hR x hx
     ·rw [List.mem_singleton.1 hx];omega
  ·have:j=p.length:=by omega
   subst this
   rw [List.take_length]at hR⊢
   refine⟨by omega,?_⟩
   have hx:(2:Nat)^p.length≤2^20:=Nat.pow_le_pow_right(by omega)(by omega)
   have hpos:0<(2:Nat)^p.length:=Nat.two_pow_pos _
   have e1:min(p.length:Int).toNat IntKind.i64.bits=p.length:=by show min(p.length:Int).toNat 64=_;omega
   have e2:(1:Int)*(2:Int)^p.length=((2^p.length:Nat):Int):=by rw [Int.one_mul];exact(Int.natCast_pow 2 _).symm
   rw [e1,e2,Bp(n:=((2^p.length:Nat):Int))(by omega)(by omega),Bp(by omega)(by omega)]
   have hE:((mask p:Int)==((2^p.length:Nat):Int)-1)=decide(mask p=2^p.length-1):=by
    rw [Bool.eq_iff_iff,beq_iff_eq,decide_eq_true_iff]
    omega
   show((mask p:Int)==((2^p.length:Nat):Int)-1)=Ey p
   rw [hE]
   by_cases hf:mask p=2^p.length-1
   ·rw [decide_eq_true hf]
    have hn:=(Tq hR).1((arv hR).1 hf)
    refine Jv⟨by omega,by omega,fun j hj _=>?_⟩
    have:=hR _(List.getElem_mem hj)
    exact⟨this.1,by omega,hn j hj⟩
   ·rw [decide_eq_false hf]
    refine Bu fun hh=>hf((arv hR).2((Tq hR).2 fun j hj=>(hh.2.2 j hj hj).2.2))
theorem ahw:Sound Try.prog 170 Gf:=
 Sound.mkS Ca(Ae Qf(Ae aei As))mixed Try.func170(by kernel_rfl)(by kernel_rfl)fun x h=>auu x.1 h
theorem aut(n:Int)(g:List(List Int))(h:Ik g):fnW tab(look [(122,Cc),(169,Gf)])Iz Try.f148(n,g,())(fun(z:Bool)=>z=Ol n g):=by
 obtain⟨h,h4⟩:=h
 refine Eq.mp(axh n g _)⟨_,if_pos trivial,⟨fun hp=>?_,fun hp=>?_⟩⟩
 ·have hp:=Fy hp
  rw [Cv]at hp
  exact Bu fun hh=>hp hh.1
 ·have hp:=Hg hp
  rw [Cv]at hp
  refine Br.dec(fun hg=>?_)fun hg=>?_
  ·exact Bu fun hh=>by have:=hh.2.1;omega
  ·refine Ao g.length(fun v=>v.1)(fun j _=> ∀p∈g.take j,Di n p=true)rfl(by simp)?_
   rintro j⟨i,⟨⟩⟩K hj hi hR hK
   dsimp only at hi⊢
   subst hi
   refine Br.dec(fun hl=>?_)fun hl=>?_
   ·have hl:j<g.length:=by omega
    have hm:g[j]∈g:=List.getElem_mem hl
    refine⟨_,Bc hl,⟨fun he=>?_,fun he=>?_⟩⟩
    ·simp only [bne_iff_ne,ne_eq]at he
     exact Bu fun hh=>he(Dg.1(hh.2.2 _ hm)).1
    ·simp only [bne_eq_false_iff_eq]at he
     refine⟨_,Bc hl,_,if_pos(h4 _ hm),⟨fun hq=>?_,fun hq=>?_⟩⟩
     ·have hq:=Fy hq
      exact Bu fun hh=>hq(Dg.1(hh.2.2 _ hm)).2
     ·have hq:=Hg hq
      rw [Ak(by omega)]
      refine hK hl _ rfl ?_
      rw [List.take_succ_eq_append_getElem hl]
      intro x hx
      rcases List.mem_append.1 hx with hx|hx
      ·exact hR x hx
      ·rw [List.mem_singleton.1 hx];exact Dg.2⟨he,hq⟩
   ·have:j=g.length:=by omega
    subst this
    rw [List.take_length]at hR
    exact Jv⟨hp,by omega,hR⟩
theorem ahs:Sound Try.prog 148 Iz:=
 Sound.mkS Ca(Ae ade(Ae Uw As))mixed Try.func148(by kernel_rfl)(by kernel_rfl)fun x h=>aut x.1 x.2.1 h
theorem bqh(p:List Int)(n:Int)(h:short p):fnW tab(look [(127,Nr),(170,Gf)])aas Try.f174(p,n,())(fun(z:Bool)=>z=!Di n p):=by
 refine Eq.mp(bpy p n _)⟨_,if_pos trivial,⟨fun he=>?_,fun he=>⟨_,if_pos h,?_⟩⟩⟩
 ·simp only [bne_iff_ne,ne_eq]at he
  have:Di n p=false:=bpu.2 fun hh=>he hh.1
  rw [this];rfl
 ·simp only [bne_eq_false_iff_eq]at he
  show(!Ey p)=_
  congr 1
  cases hp:Ey p with
  |true=>exact Jv⟨he,hp⟩
  |false=>exact Bu fun hh=>by rw [hh.2]at hp;cases hp
theorem azz:Sound Try.prog 174 aas:=
 Sound.mkS Ca(Ae aei(Ae ahw As))mixed Try.func174(by kernel_rfl)(by kernel_rfl)fun x h=>bqh x.1 x.2.1 h
theorem ajk {α:Type} (P:α→Bool): ∀(l:List α)(i:Int),0≤i→(0≤Fm P l i↔l.any P=true)
 | [],i,_=>by simp [Fm]
 |y::r,i,h=>by
  simp only [Fm,List.any_cons,Bool.or_eq_true]
  split
  ·rename_i hy;simp [hy,h]
  ·rename_i hy;rw [ajk P r(i+1)(by omega)];simp [hy]
theorem btp(g:List(List Int))(n:Int×Unit)(h:Ik g):fnW tab(look [(174,aas)])arq Try.f181(g,n,())(fun(z:Int)=>z=Fm(fun p=>!Di n.1 p)g 0):=by
 obtain⟨h,h4⟩:=h
 refine Eq.mp(bts g n _)?_
 refine Ao g.length(fun v=>v.1)(fun j _=>Fm(fun p=>!Di n.1 p)(g.drop j)j=Fm(fun p=>!Di n.1 p)g 0)rfl(by simp)?_
 rintro j⟨i,⟨⟩⟩K hj hi hR hK
 dsimp only at hi⊢
 subst hi
 refine Br.dec(fun hl=>?_)fun hl=>?_
 ·have hl:j<g.length:=by omega
  rw [List.drop_eq_getElem_cons hl]at hR
  simp only [Fm]at hR
  refine⟨_,Bc hl,_,if_pos(h4 _(List.getElem_mem hl)),⟨fun he=>?_,fun he=>?_⟩⟩
  ·have he:(!Di n.1 g[j])=true:=he
   rw [if_pos he]at hR
   exact hR
  ·have he:(!Di n.1 g[j])=false:=he
   rw [if_neg(by rw [he];decide)]at hR
   rw [Ak(by omega)]
   exact hK hl _ rfl(by push_cast;exact hR)
 ·have:j=g.length:=by omega
  subst this
  rw [List.drop_length]at hR
  exact hR
theorem bkm:Sound Try.prog 181 arq:=
 Sound.mkS Ca(Ae azz As)mixed Try.func181(by kernel_rfl)(by kernel_rfl)fun x h=>btp x.1 x.2.1 h
theorem btw(g:List(List Int))(n:Int×Unit)(h:Ik g):fnW tab(look [(181,arq)])asp Try.f173(g,n,())(fun(z:Bool)=>z=List.any g(fun p=>!Di n.1 p)):=by
 refine Eq.mp(buc g n _)⟨_,if_pos h,?_⟩
 rw [Bool.eq_iff_iff,decide_eq_true_iff]
 exact ajk _ g 0(Int.le_refl 0)
theorem bko:Sound Try.prog 173 asp:=
 Sound.mkS Ca(Ae bkm As)mixed Try.func173(by kernel_rfl)(by kernel_rfl)fun x h=>btw x.1 x.2.1 h
theorem avh(n:Int)(g:List(List Int))(h:Ik g):fnW tab(look [(108,Cc),(173,asp)])Iz Try.f157(n,g,())(fun(z:Bool)=>z=Ol n g):=by
 refine Eq.mp(axm n g _)⟨_,if_pos trivial,⟨fun hp=>?_,fun hp=>?_⟩⟩
 ·have hp:Fu n 1 20=true:=hp
  rw [Cv]at hp
  refine Br.dec(fun hl=>⟨_,if_pos h,?_⟩)fun hl=>?_
  ·show(!List.any g(fun p=>!Di n p))=Ol n g
   cases ha:List.any g(fun p=>!Di n p)with
   |true=>
    obtain⟨p,hp1,hp2⟩:=List.any_eq_true.1 ha
    exact Bu fun hh=>by rw [hh.2.2 p hp1]at hp2;cases hp2
   |false=>
    refine Jv⟨hp,by omega,fun p hm=>?_⟩
    have:=List.any_eq_false.1 ha p hm
    simpa using this
  ·exact Bu fun hh=>by have:=hh.2.1;omega
 ·refine Bu fun hh=>?_
  have:Fu n 1 20=true:=Cv.2 hh.1
  have hp:Fu n 1 20=false:=hp
  rw [this]at hp;cases hp
theorem aix:Sound Try.prog 157 Iz:=
 Sound.mkS Ca(Ae Qf(Ae bko As))mixed Try.func157(by kernel_rfl)(by kernel_rfl)fun x h=>avh x.1 x.2.1 h
theorem Gg {s:ByteArray} {k:Nat} (h:k<s.size):s[k]?=some s[k]:=getElem?_pos s k h
theorem bmy(s:ByteArray)(i:Int)(h:0≤i∧i<s.size∧s.size≤4294967296):fnW tab(look [])Ux Try.f149(s,i,())(fun(z:Bool)=>z=age s i):=by
 obtain⟨h1,h2,h3⟩:=h
 have hi:i.toNat<s.size:=by omega
 refine Eq.mp(bpk s i _)⟨h1,_,Gg hi,Br.dec(fun hq=>?_)fun hq=>⟨h1,_,Gg hi,Br.dec(fun hr=>?_)fun hr=>?_⟩⟩
 ·refine Bu fun⟨c,hc,hc1,_⟩=>?_
  rw [Gg hi]at hc;cases hc;omega
 ·refine Bu fun⟨c,hc,_,hc1,_⟩=>?_
  rw [Gg hi]at hc;cases hc;omega
 ·refine Ao i.toNat(fun v=>v.1)(fun j _=> ∀k,k<j→s[k]?≠some s[i.toNat])rfl(fun k hk=>absurd hk(Nat.not_lt_zero _))?_
  rintro j⟨i',⟨⟩⟩K hj hi' hR hK
  dsimp only at hi'⊢
  subst hi'
  refine Br.dec(fun hl=>?_)fun hl=>?_
  ·have hl:j<i.toNat:=by omega
   have hj:j<s.size:=by omega
   rw [Int.toNat_natCast]
   refine⟨by omega,_,Gg hj,h1,_,Gg hi,⟨fun he=>?_,fun he=>?_⟩⟩
   ·simp only [beq_iff_eq,Int.natCast_inj]at he
    refine Bu fun⟨c,hc,_,_,hc1⟩=>?_
    rw [Gg hi]at hc;cases hc
    exact hc1 j hl(by rw [Gg hj,UInt8.toNat_inj.1 he])
   ·simp only [beq_eq_false_iff_ne,ne_eq,Int.natCast_inj]at he
    rw [Ak(by omega)]
    refine hK hl _ rfl fun k hk=>?_
    by_cases e:k=j
    ·subst e
     rw [Gg hj]
     exact fun e=>he(by rw [Option.some.inj e])
    ·exact hR k(by omega)
  ·have:j=i.toNat:=by omega
   subst this
   exact Jv⟨_,Gg hi,by omega,by omega,hR⟩
theorem axv:Sound Try.prog 149 Ux:=
 Sound.mkS Ca As mixed Try.func149(by kernel_rfl)(by kernel_rfl)fun x h=>bmy x.1 x.2.1 h
theorem blp(s:ByteArray)(h:s.size≤4294967296):fnW tab(look [(108,Cc)])Qo Try.f158(s,())(fun(z:Bool)=>z=Vb s):=by
 refine Eq.mp(bkz s _)?_
 refine Ao s.size(fun v=>v.1)(fun j _=> ∀k,k<j→axl s k)rfl(fun k hk=>absurd hk(Nat.not_lt_zero _))?_
 rintro j⟨i,⟨⟩⟩K hj hi hR hK
 dsimp only at hi⊢
 subst hi
 refine Br.dec(fun hl=>?_)fun hl=>?_
 ·have hl:j<s.size:=by omega
  rw [Int.toNat_natCast]
  have hb:=(s[j]).toNat_lt
  refine⟨by omega,_,Gg hl,_,if_pos trivial,⟨fun hq=>?_,fun hq=>?_⟩⟩
  ·have hq:=Fy hq
   rw [Cv]at hq
   dsimp only at hq
   rw [Bp(by omega)(by omega)]at hq
   refine Bu fun hh=>?_
   obtain⟨c,hc,hc1,hc2,_⟩:=hh.2 j hl
   rw [Gg hl]at hc;cases hc
   exact hq⟨by omega,by omega⟩
  ·have hq:=Hg hq
   rw [Cv]at hq
   dsimp only at hq
   rw [Bp(by omega)(by omega)]at hq
   refine Ao j(fun v=>v.1)(fun m _=> ∀k,k<m→s[k]?≠some s[j])rfl(fun k hk=>absurd hk(Nat.not_lt_zero _))?_
   rintro m⟨i',⟨⟩⟩K' hm hi' hR' hK'
   dsimp only at hi'⊢
   subst hi'
   refine Br.dec(fun hl'=>?_)fun hl'=>?_
   ·have hl':m<j:=by omega
    have hm':m<s.size:=by omega
    rw [Int.toNat_natCast]
    refine⟨by omega,_,Gg hm',by omega,_,Gg hl,⟨fun he=>?_,fun he=>?_⟩⟩
    ·simp only [beq_iff_eq,Int.natCast_inj]at he
     refine Bu fun hh=>?_
     obtain⟨c,hc,_,_,hc1⟩:=hh.2 j hl
     rw [Gg hl]at hc;cases hc
     exact hc1 m hl'(by rw [Gg hm',UInt8.toNat_inj.1 he])
    ·simp only [beq_eq_false_iff_ne,ne_eq,Int.natCast_inj]at he
     rw [Ak(by omega)]
     refine hK' hl' _ rfl fun k hk=>?_
     by_cases e:k=m
     ·subst e
      rw [Gg hm']
      exact fun e=>he(by rw [Option.some.inj e])
     ·exact hR' k(by omega)
   ·have:m=j:=by omega
    subst this
    rw [Ak(by omega)]
    refine hK hl _ rfl fun k hk=>?_
    by_cases e:k=m
    ·subst e
     exact⟨_,Gg hl,by omega,by omega,hR'⟩
    ·exact hR k(by omega)
 ·have:j=s.size:=by omega
  subst this
  refine⟨_,if_pos trivial,?_⟩
  show Fu s.size 1 8=_
  cases hr:Fu s.size 1 8 with
  |true=>rw [Cv]at hr;exact Jv⟨by omega,hR⟩
  |false=>refine Bu fun hh=>?_;rw [Cv.2⟨by omega,by omega⟩]at hr;cases hr
theorem apt:Sound Try.prog 158 Qo:=
 Sound.mkS Ca(Ae Qf As)mixed Try.func158(by kernel_rfl)(by kernel_rfl)fun x h=>blp x.1 h
theorem adt {p:PP} (h:At p=true):1≤p.1∧p.1≤20∧1≤p.2.2.1.length∧p.2.2.1.length≤8:=by
 obtain⟨h1,h2,h3⟩:=Dg.1 h
 obtain⟨h4,h5,_⟩:=Dg.1 h1
 obtain⟨h6,_⟩:=Dg.1 h2
 omega
theorem avn(p:PP)(h:Ec p):fnW tab(look [(148,Iz),(149,Ux)])Dp Try.f99(p,())(fun(z:Bool)=>z=At p):=by
 obtain⟨hn,hg⟩:=h
 refine Eq.mp(awt p _)⟨fun h0=>?_,fun h0=>⟨fun h1=>?_,fun h1=>⟨_,if_pos hg,⟨fun h2=>?_,fun h2=>?_⟩⟩⟩⟩
 ·simp only [beq_iff_eq]at h0
  exact Bu fun hh=>by obtain⟨_,h2,h3⟩:=hh;have:=(Dg.1 h2).1;omega
 ·simp only [bne_iff_ne,ne_eq,Int.natCast_inj]at h1
  exact Bu fun hh=>h1 hh.2.2
 ·have h2:=Fy h2
  exact Bu fun hh=>h2 hh.1
 ·simp only [beq_eq_false_iff_ne,ne_eq]at h0
  simp only [bne_eq_false_iff_eq,Int.natCast_inj]at h1
  have h2:Ol p.1 p.2.2.1=true:=Hg h2
  refine Ao p.2.1.size(fun v=>v.1)(fun j v=>v.2=(p.1,p.2.1,p.2.2.1,())∧ ∀k,k<j→axl p.2.1 k)rfl⟨rfl,fun k hk=>absurd hk(Nat.not_lt_zero _)⟩?_
  rintro j⟨i,v⟩K hj hi⟨hv,hR⟩hK
  dsimp only at hi hv⊢
  subst hi hv
  dsimp only
  refine Br.dec(fun hl=>?_)fun hl=>?_
  ·have hl:j<p.2.1.size:=by omega
   refine⟨_,if_pos⟨Int.natCast_nonneg j,Int.ofNat_lt.2 hl,hn⟩,⟨fun hq=>?_,fun hq=>?_⟩⟩
   ·have hq: ¬age p.2.1 j=true:=Fy hq
    refine Bu fun hh=>hq(Dg.2 ?_)
    rw [Int.toNat_natCast]
    exact(Dg.1 hh.2.1).2 j hl
   ·have hq:age p.2.1 j=true:=Hg hq
    have hq:=Dg.1 hq
    rw [Int.toNat_natCast]at hq
    rw [Ak(by omega)]
    refine hK hl _ rfl⟨rfl,fun k hk=>?_⟩
    by_cases e:k=j
    ·subst e;exact hq
    ·exact hR k(by omega)
  ·have:j=p.2.1.size:=by omega
   subst this
   have:=(Dg.1 h2).2.1
   exact Jv⟨h2,Dg.2⟨⟨by omega,by omega⟩,hR⟩,h1⟩
theorem Nn:Sound Try.prog 99 Dp:=
 Sound.mkS Ca(Ae ahs(Ae axv As))mixed Try.func99(by kernel_rfl)(by kernel_rfl)fun x h=>avn x.1 h
theorem auc(p:PP)(h:Ec p):fnW tab(look [(157,Iz),(158,Qo)])Dp Try.f124(p,())(fun(z:Bool)=>z=At p):=by
 obtain⟨hn,hg⟩:=h
 refine Eq.mp(axk p _)⟨_,if_pos hg,⟨fun h1=>⟨_,if_pos hn,⟨fun h2=>?_,fun h2=>?_⟩⟩,fun h1=>?_⟩⟩
 ·have h1:Ol p.1 p.2.2.1=true:=h1
  have h2:Vb p.2.1=true:=h2
  by_cases e:p.2.1.size=p.2.2.1.length
  ·rw [e,beq_self_eq_true];exact Jv⟨h1,h2,e⟩
  ·rw [show((p.2.1.size:Int)==(p.2.2.1.length:Int))=false from beq_eq_false_iff_ne.2(by omega)];exact Bu fun hh=>e hh.2.2
 ·have h2:Vb p.2.1=false:=h2
  exact Bu fun hh=>by rw [hh.2.1]at h2;cases h2
 ·have h1:Ol p.1 p.2.2.1=false:=h1
  exact Bu fun hh=>by rw [hh.1]at h1;cases h1
theorem Up:Sound Try.prog 124 Dp:=
 Sound.mkS Ca(Ae aix(Ae apt As))mixed Try.func124(by kernel_rfl)(by kernel_rfl)fun x h=>auc x.1 h
theorem btm(p:PP)(room:Int)(h:Ec p∧roomy room):fnW tab(look [(33,aht)])aro Try.f15(p,room,())(fun(z:Int)=>z=Zj p room):=by
 obtain⟨⟨h1,h2⟩,h3,h4⟩:=h
 refine Eq.mp(bsw p room _)?_
 rw [Bp(by omega)(by omega)]
 refine Br.dec(fun hn=>?_)fun hn=>⟨_,if_pos⟨h2,by dsimp only;omega,by dsimp only;omega⟩,Br.dec(fun hm=>?_)fun hm=>?_⟩
 ·simp only [Zj,if_pos hn]
 ·exact((if_neg hn).trans(if_pos hm)).symm
 ·exact((if_neg hn).trans(if_neg hm)).symm
theorem blb:Sound Try.prog 15 aro:=
 Sound.mkS Ca(Ae bdq As)mixed Try.func15(by kernel_rfl)(by kernel_rfl)fun x h=>btm x.1 x.2.1 h
theorem btt(p:PP)(h:Ec p):fnW tab(look [(35,aho)])ajf Try.f17(p,())(fun(z:PP)=>z=p):=Eq.mp(bsv p _)⟨_,if_pos h.2,rfl⟩
theorem bjl:Sound Try.prog 17 ajf:=
 Sound.mkS Ca(Ae bgc As)mixed Try.func17(by kernel_rfl)(by kernel_rfl)fun x h=>btt x.1 h
theorem bcy {a b:ByteArray} :(a.toList==b.toList)=decide(a=b):=by
 rw [Bool.eq_iff_iff,beq_iff_eq,decide_eq_true_iff,ByteArray.toList_eq,ByteArray.toList_eq]
 exact⟨fun h=>ByteArray.ext(Array.toList_inj.1 h),fun h=>by rw [h]⟩
theorem btl(a b:PP)(h:Ec a):fnW tab(look [(37,aia)])atp Try.f20(a,b,())(fun(z:Bool)=>z=akp a b):=by
 refine Eq.mp(bsy a b _)⟨fun h1=>?_,fun h1=>⟨fun h2=>?_,fun h2=>⟨_,if_pos h.2,⟨fun h3=>?_,fun h3=>?_⟩⟩⟩⟩
 ·simp only [bne_iff_ne,ne_eq]at h1
  unfold akp
  rw [decide_eq_false h1];rfl
 ·rw [bcy]at h2
  unfold akp
  cases hd:decide(a.2.1=b.2.1)<;>simp_all
 ·have h3:(!aii a.2.2.1 b.2.2.1)=true:=h3
  simp only [aii,Bool.not_eq_true']at h3
  unfold akp
  rw [h3];simp
 ·have h3:(!aii a.2.2.1 b.2.2.1)=false:=h3
  rw [bcy]at h2
  simp only [aii]at h3
  simp only [bne_eq_false_iff_eq]at h1
  unfold akp
  simp_all
theorem bkx:Sound Try.prog 20 atp:=
 Sound.mkS Ca(Ae bdt As)mixed Try.func20(by kernel_rfl)(by kernel_rfl)fun x h=>btl x.1 x.2.1 h
theorem bdy(p:PP):akp p p=true:=by simp [akp]
end Go.Proofs.Ytebabhocakedaaa

namespace Go.Proofs.Ytebabhocakedaaa
open Go.RowKit
def Hm(xs:List Int)(i:Int):Int:=xs.getD i.toNat 0
def Aa(p q:List Int):List Int:=p.map(Hm q)
def Od(f:Nat→Nat)(g:Nat→Int)(m:Nat)(init:List Int):List Int:=(List.range m).foldl(fun(out:List Int)(i:Nat)=>out.set(f i)(g i))init
def Af(p:List Int):List Int:=Od(fun i=>(Hm p(i:Int)).toNat)(fun i=>(i:Int))p.length(List.replicate p.length 0)
def Eb(q s:List Int):List Int:=Od(fun i=>(Hm q(i:Int)).toNat)(fun i=>Hm q(Hm s(i:Int)))s.length(List.replicate s.length 0)
def Dq(p q:List Int):List Int:=Aa(Aa(Af q)p)q
def Ez(n:Nat)(p:List Int):Prop:= ∀y∈p,0≤y∧y<n
noncomputable abbrev Jf:Spec:=mkS(.pair tL(.pair tL .unit))tL false true(fun x=>List.length x.1≤20∧Ez(List.length x.2.1)x.1)(fun x=>Aa x.1 x.2.1)
noncomputable abbrev Ct:Spec:=mkS(.pair tL .unit)tL false true(fun x=>List.length x.1≤20∧Ez(List.length x.1)x.1)(fun x=>Af x.1)
noncomputable abbrev Fo:Spec:=mkS(.pair tL(.pair tL .unit))tL false true(fun x=>List.length x.2.1≤20∧List.length x.1=List.length x.2.1∧Ez(List.length x.1)x.1∧Ez(List.length x.1)x.2.1)(fun x=>Eb x.1 x.2.1)
noncomputable abbrev Gx:Spec:=mkS(.pair tL(.pair tL .unit))tL false true(fun x=>List.length x.1=List.length x.2.1∧Ez(List.length x.1)x.1∧Ey x.2.1=true)(fun x=>Dq x.1 x.2.1)
noncomputable abbrev Bv:Spec:=mkS(.pair tI .unit)tL false true(fun x=>0≤x.1∧x.1≤20)(fun x=>upto x.1.toNat)
noncomputable abbrev En:Spec:=mkS(.pair tL .unit)tL false true(fun x=>Ey x.1=true)(fun x=>Af x.1)
def Ad(g:List(List Int))(l:Int):List Int:=if l>0 then g.getD(l-1).toNat []else Af(g.getD(-l-1).toNat [])
def Ew(n:Int)(l:Int):Prop:=l≠0∧ -n≤l∧l≤n
noncomputable abbrev Hd:Spec:=mkS(.pair tLL(.pair tI .unit))tL false false(fun x=>Ew(List.length x.1)x.2.1∧List.length x.1≤8∧ ∀p∈x.1,Ey p=true)(fun x=>Ad x.1 x.2.1)
def Ap(n:Nat):List Int:=(List.range n).flatMap fun(k:Nat)=> [(k:Int)+1,-((k:Int)+1)]
noncomputable abbrev Gq:Spec:=mkS(.pair tI .unit)tL false true(fun x=>0≤x.1∧x.1≤8)(fun x=>Ap x.1.toNat)
def Rc(g:List(List Int))(x:List Int):List Int→Int
 | []=>0
 |l::r=>if Ad g l=x then l else Rc g x r
def bly(x:List Int):List(List Int)→Int→Int
 | [],_=>0
 |m::r,k=>if m=x then k else if Af m=x then-k else bly x r(k+1)
def Fq(g:List(List Int))(x:List Int):Int:=bly x g 1
noncomputable abbrev Kf:Spec:=mkS(.pair Db(.pair tL .unit))tI false true(fun x=>At x.1=true∧short x.2.1)(fun x=>Fq x.1.2.2.1 x.2.1)
def Jq(p:PP)(q:List Int)(l:Int):Int:=Fq p.2.2.1(Dq(Ad p.2.2.1 l)q)
noncomputable abbrev Um:Spec:=mkS(.pair Db(.pair tL(.pair tI .unit)))tI false true(fun x=>At x.1=true∧Di x.1.1 x.2.1=true∧Ew(List.length x.1.2.2.1)x.2.2.1)(fun x=>Jq x.1 x.2.1 x.2.2.1)
noncomputable abbrev Ts:Spec:=mkS(.pair Db(.pair tL(.pair tI .unit)))tL false true(fun x=>At x.1=true∧List.length x.2.1≤20∧(∀y∈x.2.1,0≤y∧y<x.1.1)∧Ew(List.length x.1.2.2.1)x.2.2.1)(fun x=>Aa x.2.1(Ad x.1.2.2.1 x.2.2.1))
noncomputable def Gu(p:PP)(q:List Int):Bool:=dec(∀k:Nat,k<p.2.2.1.length→Jq p q((k:Int)+1)≠0)
noncomputable abbrev It:Spec:=mkS(.pair Db(.pair tL .unit)) .bool false true(fun x=>At x.1=true∧Di x.1.1 x.2.1=true)(fun x=>Gu x.1 x.2.1)
theorem arc(p q:List Int)(P:List Int→Prop):(((0:Int)≤(↑p.length:Int)∧(↑p.length:Int)<(↑Am:Int)+(1:Int))∧
 (↑p.length:Int)=(↑p.length:Int)∧
  (0:Nat)=(0:Nat)∧
   (List.replicate(↑p.length:Int).toNat(Int.ofNat(nat_lit 0))).length=(List.replicate(↑p.length:Int).toNat(Int.ofNat(nat_lit 0))).length∧
    Bo
     (fun(v3:Int×List Int×PUnit)(k4:Int×List Int×PUnit→Prop)=>
      Br(decide(v3.1<(↑p.length:Int)))
       (∃(y5:Int),
        idx p v3.1=some y5∧
         ∃(y6:Int),
          idx q y5=some y6∧
           ((0:Int)≤v3.1∧v3.1<(↑v3.2.1.length:Int))∧
            (0:Nat)+v3.1.toNat<v3.2.1.length∧
             (0:Nat)=(0:Nat)∧
              v3.2.1.length=(v3.2.1.set((0:Nat)+v3.1.toNat)y6).length∧k4(IntKind.i64.wrap(v3.1+(1:Int)),v3.2.1.set((0:Nat)+v3.1.toNat)y6,()))
       (P(List.take v3.2.1.length(List.drop(0:Nat)v3.2.1))))
     ((0:Int),List.replicate(↑p.length:Int).toNat(Int.ofNat(nat_lit 0)),PUnit.unit))=fnW tab(look [])Jf Try.f131(p,q,())P:=by kernel_rfl
theorem ark(p:List Int)(P:List Int→Prop):(((0:Int)≤(↑p.length:Int)∧(↑p.length:Int)<(↑Am:Int)+(1:Int))∧
 (↑p.length:Int)=(↑p.length:Int)∧
  (0:Nat)=(0:Nat)∧
   (List.replicate(↑p.length:Int).toNat(Int.ofNat(nat_lit 0))).length=(List.replicate(↑p.length:Int).toNat(Int.ofNat(nat_lit 0))).length∧
    Bo
     (fun(v2:Int×List Int×PUnit)(k3:Int×List Int×PUnit→Prop)=>
      Br(decide(v2.1<(↑p.length:Int)))
       (∃(y4:Int),
        idx p v2.1=some y4∧
         ((0:Int)≤y4∧y4<(↑v2.2.1.length:Int))∧
          (0:Nat)+y4.toNat<v2.2.1.length∧
           (0:Nat)=(0:Nat)∧
            v2.2.1.length=(v2.2.1.set((0:Nat)+y4.toNat)v2.1).length∧k3(IntKind.i64.wrap(v2.1+(1:Int)),v2.2.1.set((0:Nat)+y4.toNat)v2.1,()))
       (P(List.take v2.2.1.length(List.drop(0:Nat)v2.2.1))))
     ((0:Int),List.replicate(↑p.length:Int).toNat(Int.ofNat(nat_lit 0)),PUnit.unit))=fnW tab(look [])Ct Try.f165(p,())P:=by kernel_rfl
theorem bjo(p:List Int)(P:List Int→Prop):(((0:Int)≤(↑p.length:Int)∧(↑p.length:Int)<(↑Am:Int)+(1:Int))∧
 (↑p.length:Int)=(↑p.length:Int)∧
  (0:Nat)=(0:Nat)∧
   (List.replicate(↑p.length:Int).toNat(Int.ofNat(nat_lit 0))).length=(List.replicate(↑p.length:Int).toNat(Int.ofNat(nat_lit 0))).length∧
    Bo
     (fun(v2:Int×List Int×PUnit)(k3:Int×List Int×PUnit→Prop)=>
      Br(decide(v2.1<(↑p.length:Int)))
       (∃(y4:Int),
        idx p v2.1=some y4∧
         ((0:Int)≤y4∧y4<(↑v2.2.1.length:Int))∧
          (0:Nat)+y4.toNat<v2.2.1.length∧
           (0:Nat)=(0:Nat)∧
            v2.2.1.length=(v2.2.1.set((0:Nat)+y4.toNat)v2.1).length∧k3(IntKind.i64.wrap(v2.1+(1:Int)),v2.2.1.set((0:Nat)+y4.toNat)v2.1,()))
       (P(List.take v2.2.1.length(List.drop(0:Nat)v2.2.1))))
     ((0:Int),List.replicate(↑p.length:Int).toNat(Int.ofNat(nat_lit 0)),PUnit.unit))=fnW tab(look [])Ct Try.f175(p,())P:=by kernel_rfl
theorem apw(p:List Int)(P:List Int→Prop):(∃(y2:Bool),Gf.fn(p,())=some y2∧Br(!y2)(P(List.take(0:Nat)(List.drop(0:Nat) [])))(∃(y3:List Int),Ct.fn(p,())=some y3∧P y3))=fnW tab(look [(169,Gf),(175,Ct)])En Try.f160(p,())P:=by kernel_rfl
theorem auv(q s:List Int)(P:List Int→Prop):(((0:Int)≤(↑s.length:Int)∧(↑s.length:Int)<(↑Am:Int)+(1:Int))∧
 (↑s.length:Int)=(↑s.length:Int)∧
  (0:Nat)=(0:Nat)∧
   (List.replicate(↑s.length:Int).toNat(Int.ofNat(nat_lit 0))).length=(List.replicate(↑s.length:Int).toNat(Int.ofNat(nat_lit 0))).length∧
    Bo
     (fun(v3:Int×List Int×PUnit)(k4:Int×List Int×PUnit→Prop)=>
      Br(decide(v3.1<(↑s.length:Int)))
       (∃(y5:Int),
        idx q v3.1=some y5∧
         ∃(y6:Int),
          idx s v3.1=some y6∧
           ∃(y7:Int),
            idx q y6=some y7∧
             ((0:Int)≤y5∧y5<(↑v3.2.1.length:Int))∧
              (0:Nat)+y5.toNat<v3.2.1.length∧
               (0:Nat)=(0:Nat)∧
                v3.2.1.length=(v3.2.1.set((0:Nat)+y5.toNat)y7).length∧k4(IntKind.i64.wrap(v3.1+(1:Int)),v3.2.1.set((0:Nat)+y5.toNat)y7,()))
       (P(List.take v3.2.1.length(List.drop(0:Nat)v3.2.1))))
     ((0:Int),List.replicate(↑s.length:Int).toNat(Int.ofNat(nat_lit 0)),PUnit.unit))=fnW tab(look [])Fo Try.f134(q,s,())P:=by kernel_rfl
theorem azk(p q:List Int)(P:List Int→Prop):(∃(y3:List Int),Ct.fn(q,())=some y3∧ ∃(y4:List Int),Jf.fn(y3,p,())=some y4∧ ∃(y5:List Int),Jf.fn(y4,q,())=some y5∧P y5)=fnW tab(look [(165,Ct),(131,Jf)])Gx Try.f138(p,q,())P:=by kernel_rfl
theorem bdm(n:Int)(P:List Int→Prop):((0:Nat)=(0:Nat)∧
 (0:Nat)=([]:List Int).length∧
  Bo
   (fun(v2:Int×List Int×PUnit)(k3:Int×List Int×PUnit→Prop)=>
    Br(decide(v2.1<n))
     ((0:Nat)=(0:Nat)∧
      v2.2.1.length=v2.2.1.length∧
       v2.2.1.length+(List.take(1:Nat)(List.drop(0:Nat) [v2.1])).length≤Am∧
        (0:Nat)=(0:Nat)∧
         (v2.2.1++List.take(1:Nat)(List.drop(0:Nat) [v2.1])).length=(v2.2.1++List.take(1:Nat)(List.drop(0:Nat) [v2.1])).length∧
          k3(IntKind.i64.wrap(v2.1+(1:Int)),v2.2.1++List.take(1:Nat)(List.drop(0:Nat) [v2.1]),()))
     (P(List.take v2.2.1.length(List.drop(0:Nat)v2.2.1))))
   ((0:Int),[],PUnit.unit))=fnW tab(look [])Bv Try.f106(n,())P:=by kernel_rfl
theorem bff(g:List(List Int))(l:Int)(P:List Int→Prop):(Br(decide(l>(0:Int)))(∃(y3:List Int),idx g(IntKind.i64.wrap(l-(1:Int)))=some y3∧P y3)
 (∃(y3:List Int),idx g(IntKind.i64.wrap(IntKind.i64.wrap((0:Int)-l)-(1:Int)))=some y3∧ ∃(y4:List Int),Ct.fn(y3,())=some y4∧P y4))=fnW tab(look [(165,Ct)])Hd Try.f155(g,l,())P:=by kernel_rfl
theorem bks(n:Int)(P:List Int→Prop):((0:Nat)=(0:Nat)∧
 (0:Nat)=([]:List Int).length∧
  Bo
   (fun(v2:Int×List Int×PUnit)(k3:Int×List Int×PUnit→Prop)=>
    Br(decide(v2.1<n))
     ((0:Nat)=(0:Nat)∧
      v2.2.1.length=v2.2.1.length∧
       v2.2.1.length+(List.take(2:Nat)(List.drop(0:Nat) [IntKind.i64.wrap(v2.1+(1:Int)),IntKind.i64.wrap((0:Int)-IntKind.i64.wrap(v2.1+(1:Int)))])).length≤
         Am∧
        (0:Nat)=(0:Nat)∧
         (v2.2.1++List.take(2:Nat)(List.drop(0:Nat) [IntKind.i64.wrap(v2.1+(1:Int)),IntKind.i64.wrap((0:Int)-IntKind.i64.wrap(v2.1+(1:Int)))])).length=
           (v2.2.1++List.take(2:Nat)(List.drop(0:Nat) [IntKind.i64.wrap(v2.1+(1:Int)),IntKind.i64.wrap((0:Int)-IntKind.i64.wrap(v2.1+(1:Int)))])).length∧
          k3
           (IntKind.i64.wrap(v2.1+(1:Int)),
            v2.2.1++List.take(2:Nat)(List.drop(0:Nat) [IntKind.i64.wrap(v2.1+(1:Int)),IntKind.i64.wrap((0:Int)-IntKind.i64.wrap(v2.1+(1:Int)))]),()))
     (P(List.take v2.2.1.length(List.drop(0:Nat)v2.2.1))))
   ((0:Int),[],PUnit.unit))=fnW tab(look [])Gq Try.f112(n,())P:=by kernel_rfl
theorem bml(p:Int×ByteArray×List(List Int)×Unit)(q:List Int)(l:Int)(P:Int→Prop):(∃(y4:List Int),
 Hd.fn(p.2.2.1,l,())=some y4∧
  ∃(y5:List Int),
   Gx.fn(y4,q,())=some y5∧
    ∃(y6:List Int),
     Gq.fn((↑p.2.2.1.length:Int),())=some y6∧
      Bo
       (fun(v7:Int×Int×ByteArray×List(List Int)×PUnit)(k8:Int×Int×ByteArray×List(List Int)×PUnit→Prop)=>
        Br(decide(v7.1<(↑y6.length:Int)))
         (∃(y9:Int),
          idx y6 v7.1=some y9∧
           ∃(y10:List Int),
            Hd.fn(v7.2.2.2.1,y9,())=some y10∧
             ∃(y11:Bool),Bd.fn(y10,y5,())=some y11∧Br y11(P y9)(k8(IntKind.i64.wrap(v7.1+(1:Int)),v7.2.1,v7.2.2.1,v7.2.2.2.1,())))
         (P(0:Int)))
       ((0:Int),p.1,p.2.1,p.2.2.1,PUnit.unit))=fnW tab(look [(138,Gx),(155,Hd),(112,Gq),(63,Bd)])Um Try.f163(p,q,l,())P:=by kernel_rfl
theorem aur(p:Int×ByteArray×List(List Int)×Unit)(x:List Int)(P:Int→Prop):(Bo
 (fun(v3:Int×Int×ByteArray×List(List Int)×PUnit)(k4:Int×Int×ByteArray×List(List Int)×PUnit→Prop)=>
  Br(decide(v3.1≤(↑v3.2.2.2.1.length:Int)))
   (∃(y5:List Int),
    idx v3.2.2.2.1(IntKind.i64.wrap(v3.1-(1:Int)))=some y5∧
     ∃(y6:Bool),
      Bd.fn(y5,x,())=some y6∧
       Br y6(P v3.1)
        (∃(y7:List Int),
         idx v3.2.2.2.1(IntKind.i64.wrap(v3.1-(1:Int)))=some y7∧
          ∃(y8:List Int),
           En.fn(y7,())=some y8∧
            ∃(y9:Bool),
             Bd.fn(y8,x,())=some y9∧
              Br y9(P(IntKind.i64.wrap((0:Int)-v3.1)))(k4(IntKind.i64.wrap(v3.1+(1:Int)),v3.2.1,v3.2.2.1,v3.2.2.2.1,()))))
   (P(0:Int)))
 ((1:Int),p.1,p.2.1,p.2.2.1,PUnit.unit))=fnW tab(look [(59,Bd),(160,En)])Kf Try.f176(p,x,())P:=by kernel_rfl
theorem bpi(p:Int×ByteArray×List(List Int)×Unit)(s:List Int)(l:Int)(P:List Int→Prop):(∃(y4:List Int),
 idx p.2.2.1
    (IntKind.i64.wrap
     ((if true=true then if IntKind.i64.wrap((0:Int)-l)>l then IntKind.i64.wrap((0:Int)-l)else l
      else if IntKind.i64.wrap((0:Int)-l)<l then IntKind.i64.wrap((0:Int)-l)else l)-
      (1:Int)))=
   some y4∧
  Br(decide(l<(0:Int)))
   (∃(y5:List Int),
    En.fn(y4,())=some y5∧
     (0:Nat)=(0:Nat)∧
      (0:Nat)=([]:List Int).length∧
       Bo
        (fun(v6:Int×List Int×PUnit)(k7:Int×List Int×PUnit→Prop)=>
         Br(decide(v6.1<(↑s.length:Int)))
          (∃(y8:Int),
           idx s v6.1=some y8∧
            ∃(y9:Int),
             idx y5 y8=some y9∧
              (0:Nat)=(0:Nat)∧
               v6.2.1.length=v6.2.1.length∧
                v6.2.1.length+(List.take(1:Nat)(List.drop(0:Nat) [y9])).length≤Am∧
                 (0:Nat)=(0:Nat)∧
                  (v6.2.1++List.take(1:Nat)(List.drop(0:Nat) [y9])).length=(v6.2.1++List.take(1:Nat)(List.drop(0:Nat) [y9])).length∧
                   k7(IntKind.i64.wrap(v6.1+(1:Int)),v6.2.1++List.take(1:Nat)(List.drop(0:Nat) [y9]),()))
          (P(List.take v6.2.1.length(List.drop(0:Nat)v6.2.1))))
        ((0:Int),[],PUnit.unit))
   ((0:Nat)=(0:Nat)∧
    (0:Nat)=([]:List Int).length∧
     Bo
      (fun(v5:Int×List Int×PUnit)(k6:Int×List Int×PUnit→Prop)=>
       Br(decide(v5.1<(↑s.length:Int)))
        (∃(y7:Int),
         idx s v5.1=some y7∧
          ∃(y8:Int),
           idx y4 y7=some y8∧
            (0:Nat)=(0:Nat)∧
             v5.2.1.length=v5.2.1.length∧
              v5.2.1.length+(List.take(1:Nat)(List.drop(0:Nat) [y8])).length≤Am∧
               (0:Nat)=(0:Nat)∧
                (v5.2.1++List.take(1:Nat)(List.drop(0:Nat) [y8])).length=(v5.2.1++List.take(1:Nat)(List.drop(0:Nat) [y8])).length∧
                 k6(IntKind.i64.wrap(v5.1+(1:Int)),v5.2.1++List.take(1:Nat)(List.drop(0:Nat) [y8]),()))
        (P(List.take v5.2.1.length(List.drop(0:Nat)v5.2.1))))
      ((0:Int),[],PUnit.unit)))=fnW tab(look [(160,En)])Ts Try.f129(p,s,l,())P:=by kernel_rfl
theorem axe(p:Int×ByteArray×List(List Int)×Unit)(q:List Int)(P:Bool→Prop):(Bo
 (fun(v3:Int×Int×ByteArray×List(List Int)×PUnit)(k4:Int×Int×ByteArray×List(List Int)×PUnit→Prop)=>
  Br(decide(v3.1<(↑v3.2.2.2.1.length:Int)))
   (∃(y5:List Int),
    idx v3.2.2.2.1 v3.1=some y5∧
     ∃(y6:List Int),
      Fo.fn(q,y5,())=some y6∧
       ∃(y7:Int),
        Kf.fn((v3.2.1,v3.2.2.1,v3.2.2.2.1,()),y6,())=some y7∧
         Br(y7==(0:Int))(P false)(k4(IntKind.i64.wrap(v3.1+(1:Int)),v3.2.1,v3.2.2.1,v3.2.2.2.1,())))
   (P true))
 ((0:Int),p.1,p.2.1,p.2.2.1,PUnit.unit))=fnW tab(look [(176,Kf),(134,Fo)])It Try.f162(p,q,())P:=by kernel_rfl
theorem awz(p:Int×ByteArray×List(List Int)×Unit)(q:List Int)(P:Bool→Prop):(Bo
 (fun(v3:Int×Int×ByteArray×List(List Int)×PUnit)(k4:Int×Int×ByteArray×List(List Int)×PUnit→Prop)=>
  Br(decide(v3.1<(↑p.2.2.1.length:Int)))
   (∃(y5:Int),
    Um.fn((v3.2.1,v3.2.2.1,v3.2.2.2.1,()),q,IntKind.i64.wrap(v3.1+(1:Int)),())=some y5∧
     Br(y5==(0:Int))(P false)(k4(IntKind.i64.wrap(v3.1+(1:Int)),v3.2.1,v3.2.2.1,v3.2.2.2.1,())))
   (P true))
 ((0:Int),p.1,p.2.1,p.2.2.1,PUnit.unit))=fnW tab(look [(163,Um)])It Try.f136(p,q,())P:=by kernel_rfl
theorem Er {xs:List Int} {i:Nat} (h:i<xs.length):Hm xs(i:Int)=xs[i]:=by
 unfold Hm
 rw [Int.toNat_natCast,List.getD_eq_getElem?_getD,List.getElem?_eq_getElem h];rfl
theorem apq {xs:List Int} {y:Int} (h0:0≤y)(h:y<xs.length):idx xs y=some(Hm xs y):=by
 have hy:y.toNat<xs.length:=by omega
 have e:y=(y.toNat:Int):=by omega
 rw [e,Bc hy,Er hy]
theorem Ml(f:Nat→Nat)(g:Nat→Int)(m:Nat)(init:List Int):Od f g(m+1)init=(Od f g m init).set(f m)(g m):=by simp [Od,List.range_succ]
theorem Mh(f:Nat→Nat)(g:Nat→Int)(m:Nat)(init:List Int):(Od f g m init).length=init.length:=by
 induction m with
 |zero=>rfl
 |succ m ih=>rw [Ml,List.length_set,ih]
theorem aad(f:Nat→Nat)(g:Nat→Int)(init:List Int): ∀(m:Nat),(∀i j,i<m→j<m→f i=f j→i=j)→ ∀i,i<m→f i<init.length→(Od f g m init)[f i]?=some(g i)
 |0,_,i,h,_=>absurd h(Nat.not_lt_zero _)
 |m+1,hf,i,hi,hl=>by
  rw [Ml]
  by_cases e:i=m
  ·subst e
   exact List.getElem?_set_self(by rw [Mh];exact hl)
  ·rw [List.getElem?_set_ne(fun h=>e(hf i m hi(by omega)h.symm))]
   exact aad f g init m(fun a b ha hb=>hf a b(by omega)(by omega))i(by omega)hl
structure Pc(p:List Int):Prop where
 pos:1≤p.length
 len:p.length≤20
 row:Ez p.length p
 nodup:p.Nodup
theorem Qt {p:List Int} (h:Ey p=true):Pc p:=by
 obtain⟨h1,h2,h3⟩:=Dg.1 h
 refine⟨h1,h2,fun y hy=>?_,Zu fun j hj=>(h3 j hj hj).2.2⟩
 obtain⟨j,hj,rfl⟩:=List.mem_iff_getElem.1 hy
 have:=h3 j hj hj
 omega
theorem Pc.inj {p:List Int} (h:Pc p)(i j:Nat)(hi:i<p.length)(hj:j<p.length)(e:(Hm p(i:Int)).toNat=(Hm p(j:Int)).toNat):i=j:=by
 rw [Er hi,Er hj]at e
 have h1:=h.row _(List.getElem_mem hi)
 have h2:=h.row _(List.getElem_mem hj)
 have e:p[i]=p[j]:=by omega
 refine Classical.byContradiction fun hne=>?_
 rcases Nat.lt_or_gt_of_ne hne with hl|hl
 ·exact List.pairwise_iff_getElem.1 h.nodup i j hi hj hl e
 ·exact List.pairwise_iff_getElem.1 h.nodup j i hj hi hl e.symm
theorem Pc.bkr {p:List Int} (h:Pc p)(k:Nat)(hk:k<p.length): ∃i,i<p.length∧(Hm p(i:Int)).toNat=k:=by
 have hm:=(Tq(xs:=p)h.row).2(amk h.nodup)k hk
 obtain⟨i,hi,e⟩:=List.mem_iff_getElem.1 hm
 exact⟨i,hi,by rw [Er hi,e];exact Int.toNat_natCast k⟩
theorem Pc.lt {p:List Int} (h:Pc p) {i:Nat} (hi:i<p.length):(Hm p(i:Int)).toNat<p.length:=by
 rw [Er hi]
 have:=h.row _(List.getElem_mem hi)
 omega
theorem Ob(p:List Int):(Af p).length=p.length:=by unfold Af;rw [Mh,List.length_replicate]
theorem bfz {p:List Int} (h:Pc p) {i:Nat} (hi:i<p.length):(Af p)[(Hm p(i:Int)).toNat]?=some(i:Int):=
 aad(fun i=>(Hm p(i:Int)).toNat)(fun i=>(i:Int))_ p.length(fun i j hi hj=>h.inj i j hi hj)i hi(by rw [List.length_replicate];exact h.lt hi)
theorem alo {p:List Int} (h:Pc p):Ez p.length(Af p):=by
 intro y hy
 obtain⟨k,hk,rfl⟩:=List.mem_iff_getElem.1 hy
 have hk':k<p.length:=by rw [Ob]at hk;exact hk
 obtain⟨i,hi,rfl⟩:=h.bkr k hk'
 have:=bfz h hi
 rw [List.getElem?_eq_getElem hk]at this
 rw [Option.some.inj this]
 omega
theorem Kb(p q:List Int):(Aa p q).length=p.length:=by simp [Aa]
theorem Sf {p q:List Int} {n:Nat} (hp:Ez q.length p)(hq:Ez n q):Ez n(Aa p q):=by
 intro y hy
 obtain⟨x,hx,rfl⟩:=List.mem_map.1 hy
 have h1:=hp x hx
 rw [show x=(x.toNat:Int)by omega,Er(by omega)]
 exact hq _(List.getElem_mem _)
theorem ats(q s:List Int):(Eb q s).length=s.length:=by unfold Eb;rw [Mh,List.length_replicate]
theorem ans {q s:List Int} (hq:Pc q)(hl:s.length=q.length):Dq s q=Eb q s:=by
 have hcl:(Dq s q).length=q.length:=by simp only [Dq,Kb,Ob]
 refine List.ext_getElem(by rw [hcl,ats,hl])fun k h1 h2=>?_
 have hk:k<q.length:=by rw [hcl]at h1;exact h1
 obtain⟨i,hi,e⟩:=hq.bkr k hk
 have e1:=aad(fun i=>(Hm q(i:Int)).toNat)(fun i=>Hm q(Hm s(i:Int)))(List.replicate s.length 0)s.length(fun i j hi hj=>hq.inj i j(by omega)(by omega))i(by omega)(by rw [List.length_replicate,hl];exact hq.lt hi)
 have e2:=bfz hq hi
 rw [e]at e2
 simp only [e]at e1
 have e1:(Eb q s)[k]?=some(Hm q(Hm s(i:Int))):=e1
 rw [List.getElem?_eq_getElem h2]at e1
 rw [Option.some.inj e1]
 rw [List.getElem?_eq_getElem(by rw [Ob];exact hk)]at e2
 simp only [Dq,Aa,List.getElem_map]
 rw [Option.some.inj e2]
theorem aps(p q:List Int)(h:p.length≤20∧Ez q.length p):fnW tab(look [])Jf Try.f131(p,q,())(fun(z:List Int)=>z=Aa p q):=by
 obtain⟨h,hr⟩:=h
 refine Eq.mp(arc p q _)?_
 refine⟨⟨by omega,by show(p.length:Int)<(4294967296:Int)+1;omega⟩,rfl,rfl,rfl,?_⟩
 have hcl:=Kb p q
 refine Ao p.length(fun v=>v.1)(fun j v=>v.2.1.length=(Aa p q).length∧v.2.1.take j=(Aa p q).take j)rfl⟨by rw [hcl];simp,by simp⟩?_
 rintro j⟨i,ys,⟨⟩⟩K hj hi⟨h1,h2⟩hK
 dsimp only at hi h1 h2⊢
 subst hi
 refine Br.dec(fun hl=>?_)fun hl=>?_
 ·have hl:j<p.length:=by omega
  have hy:=hr _(List.getElem_mem hl)
  refine⟨_,Bc hl,_,apq hy.1 hy.2,⟨by omega,by omega⟩,by rw [Int.toNat_natCast];omega,rfl,by rw [List.length_set],?_⟩
  rw [Ak(by omega),Int.toNat_natCast,Nat.zero_add]
  have hl':j<(Aa p q).length:=by rw [hcl];exact hl
  have e:Hm q p[j]=(Aa p q)[j]:=by simp [Aa]
  rw [e]
  exact hK hl _ rfl⟨by rw [List.length_set];exact h1,Oi hl' h1 h2⟩
 ·have:j=p.length:=by omega
  subst this
  rw [←hcl,List.take_length,←h1,List.take_length]at h2
  rw [List.drop_zero,List.take_length]
  exact h2
theorem Jl:Sound Try.prog 131 Jf:=
 Sound.mkS Ca As mixed Try.func131(by kernel_rfl)(by kernel_rfl)fun x h=>aps x.1 x.2.1 h
theorem aqw(p:List Int)(h:p.length≤20∧Ez p.length p):fnW tab(look [])Ct Try.f165(p,())(fun(z:List Int)=>z=Af p):=by
 obtain⟨h,hr⟩:=h
 refine Eq.mp(ark p _)?_
 refine⟨⟨by omega,by show(p.length:Int)<(4294967296:Int)+1;omega⟩,rfl,rfl,rfl,?_⟩
 refine Ao p.length(fun v=>v.1)(fun j v=>v.2.1=Od(fun i=>(Hm p(i:Int)).toNat)(fun i=>(i:Int))j(List.replicate p.length 0))rfl rfl ?_
 rintro j⟨i,ys,⟨⟩⟩K hj hi h1 hK
 dsimp only at hi h1⊢
 subst hi
 have hlen:ys.length=p.length:=by rw [h1,Mh,List.length_replicate]
 refine Br.dec(fun hl=>?_)fun hl=>?_
 ·have hl:j<p.length:=by omega
  have hy:=hr _(List.getElem_mem hl)
  refine⟨_,Bc hl,⟨by omega,by omega⟩,by omega,rfl,by rw [List.length_set],?_⟩
  rw [Ak(by omega),Nat.zero_add]
  refine hK hl _ rfl ?_
  rw [Ml,←h1,Er hl]
 ·have:j=p.length:=by omega
  subst this
  rw [List.drop_zero,List.take_length]
  exact h1
theorem Jo:Sound Try.prog 165 Ct:=
 Sound.mkS Ca As mixed Try.func165(by kernel_rfl)(by kernel_rfl)fun x h=>aqw x.1 h
theorem blm(p:List Int)(h:p.length≤20∧Ez p.length p):fnW tab(look [])Ct Try.f175(p,())(fun(z:List Int)=>z=Af p):=by
 obtain⟨h,hr⟩:=h
 refine Eq.mp(bjo p _)?_
 refine⟨⟨by omega,by show(p.length:Int)<(4294967296:Int)+1;omega⟩,rfl,rfl,rfl,?_⟩
 refine Ao p.length(fun v=>v.1)(fun j v=>v.2.1=Od(fun i=>(Hm p(i:Int)).toNat)(fun i=>(i:Int))j(List.replicate p.length 0))rfl rfl ?_
 rintro j⟨i,ys,⟨⟩⟩K hj hi h1 hK
 dsimp only at hi h1⊢
 subst hi
 have hlen:ys.length=p.length:=by rw [h1,Mh,List.length_replicate]
 refine Br.dec(fun hl=>?_)fun hl=>?_
 ·have hl:j<p.length:=by omega
  have hy:=hr _(List.getElem_mem hl)
  refine⟨_,Bc hl,⟨by omega,by omega⟩,by omega,rfl,by rw [List.length_set],?_⟩
  rw [Ak(by omega),Nat.zero_add]
  refine hK hl _ rfl ?_
  rw [Ml,←h1,Er hl]
 ·have:j=p.length:=by omega
  subst this
  rw [List.drop_zero,List.take_length]
  exact h1
theorem aqa:Sound Try.prog 175 Ct:=
 Sound.mkS Ca As mixed Try.func175(by kernel_rfl)(by kernel_rfl)fun x h=>blm x.1 h
theorem ard(p:List Int)(h:Ey p=true):fnW tab(look [(169,Gf),(175,Ct)])En Try.f160(p,())(fun(z:List Int)=>z=Af p):=by
 have hp:=Qt h
 have hs:short p:=by have:=hp.len;unfold short;omega
 refine Eq.mp(apw p _)⟨_,if_pos hs,⟨fun he=>?_,fun _=>⟨_,if_pos⟨hp.len,hp.row⟩,rfl⟩⟩⟩
 exact absurd h(Fy he)
theorem Sv:Sound Try.prog 160 En:=
 Sound.mkS Ca(Ae Uw(Ae aqa As))mixed Try.func160(by kernel_rfl)(by kernel_rfl)fun x h=>ard x.1 h
theorem auw(q s:List Int)(h:s.length≤20∧q.length=s.length∧Ez q.length q∧Ez q.length s):fnW tab(look [])Fo Try.f134(q,s,())(fun(z:List Int)=>z=Eb q s):=by
 obtain⟨h,hq,hr,hr2⟩:=h
 refine Eq.mp(auv q s _)?_
 refine⟨⟨by omega,by show(s.length:Int)<(4294967296:Int)+1;omega⟩,rfl,rfl,rfl,?_⟩
 refine Ao s.length(fun v=>v.1)(fun j v=>v.2.1=Od(fun i=>(Hm q(i:Int)).toNat)(fun i=>Hm q(Hm s(i:Int)))j(List.replicate s.length 0))rfl rfl ?_
 rintro j⟨i,ys,⟨⟩⟩K hj hi h1 hK
 dsimp only at hi h1⊢
 subst hi
 have hlen:ys.length=s.length:=by rw [h1,Mh,List.length_replicate]
 refine Br.dec(fun hl=>?_)fun hl=>?_
 ·have hl:j<s.length:=by omega
  have hlq:j<q.length:=by omega
  have hy:=hr _(List.getElem_mem hlq)
  have hy2:=hr2 _(List.getElem_mem hl)
  refine⟨_,Bc hlq,_,Bc hl,_,apq hy2.1 hy2.2,⟨by omega,by omega⟩,by omega,rfl,by rw [List.length_set],?_⟩
  rw [Ak(by omega),Nat.zero_add]
  refine hK hl _ rfl ?_
  rw [Ml,←h1,Er hlq,Er hl]
 ·have:j=s.length:=by omega
  subst this
  rw [List.drop_zero,List.take_length]
  exact h1
theorem Uq:Sound Try.prog 134 Fo:=
 Sound.mkS Ca As mixed Try.func134(by kernel_rfl)(by kernel_rfl)fun x h=>auw x.1 x.2.1 h
theorem aye(p q:List Int)(h:p.length=q.length∧Ez p.length p∧Ey q=true):fnW tab(look [(165,Ct),(131,Jf)])Gx Try.f138(p,q,())(fun(z:List Int)=>z=Dq p q):=by
 obtain⟨hl,hr,hq⟩:=h
 have hq:=Qt hq
 have h20:=hq.len
 refine Eq.mp(azk p q _)⟨_,if_pos⟨hq.len,hq.row⟩,_,if_pos⟨by show(Af q).length≤20;rw [Ob];exact h20,?_⟩,_,if_pos⟨?_,?_⟩,rfl⟩
 ·show Ez p.length(Af q)
  rw [hl];exact alo hq
 ·show(Aa(Af q)p).length≤20
  rw [Kb,Ob];exact h20
 ·show Ez q.length(Aa(Af q)p)
  exact Sf(by rw [hl];exact alo hq)(by rw [←hl];exact hr)
theorem Xv:Sound Try.prog 138 Gx:=
 Sound.mkS Ca(Ae Jo(Ae Jl As))mixed Try.func138(by kernel_rfl)(by kernel_rfl)fun x h=>aye x.1 x.2.1 h
theorem Nj(j:Nat):upto(j+1)=upto j++ [(j:Int)]:=by simp [upto,List.range_succ]
theorem bgd(n:Int)(h:0≤n∧n≤20):fnW tab(look [])Bv Try.f106(n,())(fun(z:List Int)=>z=upto n.toNat):=by
 refine Eq.mp(bdm n _)⟨rfl,rfl,?_⟩
 refine Ao n.toNat(fun v=>v.1)(fun j v=>v.2.1=upto j)rfl rfl ?_
 rintro j⟨i,ys,⟨⟩⟩K hj hi h1 hK
 dsimp only at hi h1⊢
 subst hi h1
 refine Br.dec(fun hl=>?_)fun hl=>?_
 ·refine⟨rfl,rfl,?_,rfl,rfl,?_⟩
  ·show(upto j).length+1≤4294967296
   rw [Hz];omega
  ·rw [Ak(by omega)]
   exact hK(by omega)_ rfl(Nj j).symm
 ·have:j=n.toNat:=by omega
  subst this
  rw [List.drop_zero,List.take_length]
theorem ana:Sound Try.prog 106 Bv:=
 Sound.mkS Ca As mixed Try.func106(by kernel_rfl)(by kernel_rfl)fun x h=>bgd x.1 h
theorem Ln {g:List(List Int)} {k:Nat} (h:k<g.length):Ad g((k:Int)+1)=g[k]:=by
 unfold Ad
 rw [if_pos(by omega),show((k:Int)+1-1).toNat=k by omega,List.getD_eq_getElem?_getD,List.getElem?_eq_getElem h];rfl
theorem Np {g:List(List Int)} {k:Nat} (h:k<g.length):Ad g(-((k:Int)+1))=Af g[k]:=by
 unfold Ad
 rw [if_neg(by omega),show(-(-((k:Int)+1))-1).toNat=k by omega,List.getD_eq_getElem?_getD,List.getElem?_eq_getElem h];rfl
theorem Qi {n:Nat} {l:Int} (h:Ew n l): ∃k:Nat,k<n∧(l=(k:Int)+1∨l= -((k:Int)+1)):=by
 obtain⟨h1,h2,h3⟩:=h
 by_cases h0:0<l
 ·exact⟨(l-1).toNat,by omega, .inl(by omega)⟩
 ·exact⟨(-l-1).toNat,by omega, .inr(by omega)⟩
theorem bhg(g:List(List Int))(l:Int)(h:Ew(List.length g)l∧List.length g≤8∧ ∀p∈g,Ey p=true):fnW tab(look [(165,Ct)])Hd Try.f155(g,l,())(fun(z:List Int)=>z=Ad g l):=by
 obtain⟨hl,h8,hp⟩:=h
 refine Eq.mp(bff g l _)?_
 obtain⟨k,hk,rfl|rfl⟩:=Qi hl
 ·refine Br.dec(fun _=>?_)fun hn=>by omega
  rw [Bp(by omega)(by omega),show(k:Int)+1-1=(k:Int)by omega]
  exact⟨_,Bc hk,(Ln hk).symm⟩
 ·refine Br.dec(fun hn=>by omega)fun _=>?_
  rw [Bp(n:=0- -((k:Int)+1))(by omega)(by omega),Bp(by omega)(by omega),show(0:Int)- -((k:Int)+1)-1=(k:Int)by omega]
  have:=Qt(hp _(List.getElem_mem hk))
  exact⟨_,Bc hk,_,if_pos⟨this.len,this.row⟩,(Np hk).symm⟩
theorem Za:Sound Try.prog 155 Hd:=
 Sound.mkS Ca(Ae Jo As)mixed Try.func155(by kernel_rfl)(by kernel_rfl)fun x h=>bhg x.1 x.2.1 h
theorem Rb(j:Nat):Ap(j+1)=Ap j++ [(j:Int)+1,-((j:Int)+1)]:=by simp [Ap,List.range_succ,List.flatMap_append]
theorem Ji(j:Nat):(Ap j).length=2*j:=by
 induction j with
 |zero=>rfl
 |succ j ih=>rw [Rb,List.length_append,ih];simp only [List.length_cons,List.length_nil];omega
theorem Jx {n:Nat} {l:Int} (h:l∈Ap n):Ew n l:=by
 unfold Ap at h
 obtain⟨k,hk,hl⟩:=List.mem_flatMap.1 h
 have hk:=List.mem_range.1 hk
 simp only [List.mem_cons,List.not_mem_nil,or_false]at hl
 unfold Ew
 omega
theorem bix(n:Int)(h:0≤n∧n≤8):fnW tab(look [])Gq Try.f112(n,())(fun(z:List Int)=>z=Ap n.toNat):=by
 refine Eq.mp(bks n _)⟨rfl,rfl,?_⟩
 refine Ao n.toNat(fun v=>v.1)(fun j v=>v.2.1=Ap j)rfl rfl ?_
 rintro j⟨i,ys,⟨⟩⟩K hj hi h1 hK
 dsimp only at hi h1⊢
 subst hi h1
 refine Br.dec(fun hl=>?_)fun hl=>?_
 ·refine⟨rfl,rfl,?_,rfl,rfl,?_⟩
  ·show(Ap j).length+2≤4294967296
   rw [Ji];omega
  ·have e1:IntKind.i64.wrap((j:Int)+1)=(j:Int)+1:=Bp(by omega)(by omega)
   have e2:IntKind.i64.wrap((0:Int)-((j:Int)+1))= -((j:Int)+1):=by rw [Bp(by omega)(by omega)];omega
   rw [e1,e2]
   exact hK(by omega)_ rfl(Rb j).symm
 ·have:j=n.toNat:=by omega
  subst this
  rw [List.drop_zero,List.take_length]
theorem Tp:Sound Try.prog 112 Gq:=
 Sound.mkS Ca As mixed Try.func112(by kernel_rfl)(by kernel_rfl)fun x h=>bix x.1 h
theorem bcx(g:List(List Int))(x:List Int): ∀(c k:Nat),k+c=g.length→Rc g x((List.range' k c).flatMap fun(k:Nat)=> [(k:Int)+1,-((k:Int)+1)])=bly x(g.drop k)((k:Int)+1)
 |0,k,h=>by
  have:k=g.length:=by omega
  subst this
  rw [List.drop_length];rfl
 |c+1,k,h=>by
  have hk:k<g.length:=by omega
  rw [List.range'_succ,List.flatMap_cons,List.drop_eq_getElem_cons hk]
  simp only [List.cons_append,List.nil_append,Rc,bly]
  rw [Ln hk,Np hk,bcx g x c(k+1)(by omega)]
  rfl
theorem apu(g:List(List Int))(x:List Int):Rc g x(Ap g.length)=Fq g x:=by
 unfold Ap Fq
 rw [List.range_eq_range',bcx g x g.length 0(by omega)]
 rfl
structure Valid(p:PP):Prop where
 n:1≤p.1∧p.1≤20
 few:1≤p.2.2.1.length∧p.2.2.1.length≤8
 perm: ∀m∈p.2.2.1,Ey m=true
 len: ∀m∈p.2.2.1,(m.length:Int)=p.1
theorem valid {p:PP} (h:At p=true):Valid p:=by
 have h0:=adt h
 obtain⟨h1,_,_⟩:=Dg.1 h
 obtain⟨_,_,h4⟩:=Dg.1 h1
 exact⟨⟨h0.1,h0.2.1⟩,h0.2.2,fun m hm=>(Dg.1(h4 m hm)).2,fun m hm=>(Dg.1(h4 m hm)).1⟩
theorem Tt {p:PP} (h:Valid p) {l:Int} (hl:Ew(List.length p.2.2.1)l):((Ad p.2.2.1 l).length:Int)=p.1∧Ez(Ad p.2.2.1 l).length(Ad p.2.2.1 l):=by
 obtain⟨k,hk,rfl|rfl⟩:=Qi hl
 ·rw [Ln hk]
  exact⟨h.len _(List.getElem_mem hk),(Qt(h.perm _(List.getElem_mem hk))).row⟩
 ·rw [Np hk,Ob]
  exact⟨h.len _(List.getElem_mem hk),alo(Qt(h.perm _(List.getElem_mem hk)))⟩
theorem bni(p:PP)(q:List Int)(l:Int)(h:At p=true∧Di p.1 q=true∧Ew(List.length p.2.2.1)l):fnW tab(look [(138,Gx),(155,Hd),(112,Gq),(63,Bd)])Um Try.f163(p,q,l,())(fun(z:Int)=>z=Jq p q l):=by
 obtain⟨hv,hq,hl⟩:=h
 have hv:=valid hv
 obtain⟨hq1,hq2⟩:=Dg.1 hq
 obtain⟨hl1,hl2⟩:=Tt hv hl
 have hf:=hv.few
 have hn:=hv.n
 refine Eq.mp(bml p q l _)⟨_,if_pos⟨hl,hf.2,hv.perm⟩,_,if_pos⟨by show(Ad p.2.2.1 l).length=q.length;omega,hl2,hq2⟩,Ap p.2.2.1.length,if_pos⟨Int.natCast_nonneg _,by show((p.2.2.1.length:Nat):Int)≤8;omega⟩,?_⟩
 have hL:=Ji p.2.2.1.length
 have hF:Rc p.2.2.1(Dq(Ad p.2.2.1 l)q)(Ap p.2.2.1.length)=Jq p q l:=apu _ _
 refine Ao(Ap p.2.2.1.length).length(fun v=>v.1)(fun j v=>v.2=(p.1,p.2.1,p.2.2.1,())∧Rc p.2.2.1(Dq(Ad p.2.2.1 l)q)((Ap p.2.2.1.length).drop j)=Jq p q l)rfl⟨rfl,by rw [List.drop_zero];exact hF⟩?_
 rintro j⟨i,v⟩K hj hi⟨hv',hR⟩hK
 dsimp only at hi hv'⊢
 subst hi hv'
 dsimp only
 refine Br.dec(fun hlt=>?_)fun hlt=>?_
 ·have hlt:j<(Ap p.2.2.1.length).length:=by omega
  have hlj:=Jx(List.getElem_mem hlt)
  have hs:=Tt hv hlj
  rw [List.drop_eq_getElem_cons hlt]at hR
  simp only [Rc]at hR
  refine⟨_,Bc hlt,_,if_pos⟨hlj,hf.2,hv.perm⟩,_,if_pos(by show short(Ad p.2.2.1(Ap p.2.2.1.length)[j]);unfold short;have:=hs.1;omega),⟨fun he=>?_,fun he=>?_⟩⟩
  ·have he:decide(Ad p.2.2.1(Ap p.2.2.1.length)[j]=Dq(Ad p.2.2.1 l)q)=true:=he
   rw [if_pos(of_decide_eq_true he)]at hR
   exact hR
  ·have he:decide(Ad p.2.2.1(Ap p.2.2.1.length)[j]=Dq(Ad p.2.2.1 l)q)=false:=he
   rw [if_neg(of_decide_eq_false he)]at hR
   rw [Ak(by omega)]
   exact hK hlt _ rfl⟨rfl,hR⟩
 ·have:j=(Ap p.2.2.1.length).length:=by omega
  subst this
  rw [List.drop_length]at hR
  exact hR
theorem aws:Sound Try.prog 163 Um:=
 Sound.mkS Ca(Ae Xv(Ae Za(Ae Tp(Ae Sd As))))mixed Try.func163(by kernel_rfl)(by kernel_rfl)fun x h=>bni x.1 x.2.1 x.2.2.1 h
theorem atu(p:PP)(x:List Int)(h:At p=true∧short x):fnW tab(look [(59,Bd),(160,En)])Kf Try.f176(p,x,())(fun(z:Int)=>z=Fq p.2.2.1 x):=by
 obtain⟨hv,hx⟩:=h
 have hv:=valid hv
 have hf:=hv.few
 have hn:=hv.n
 refine Eq.mp(aur p x _)?_
 refine Ao p.2.2.1.length(fun v=>v.1-1)(fun j v=>v.2=(p.1,p.2.1,p.2.2.1,())∧bly x(p.2.2.1.drop j)((j:Int)+1)=Fq p.2.2.1 x)rfl⟨rfl,rfl⟩?_
 rintro j⟨i,v⟩K hj hi⟨hv',hR⟩hK
 dsimp only at hi hv'⊢
 subst hv'
 obtain rfl:i=(j:Int)+1:=by omega
 dsimp only
 refine Br.dec(fun hl=>?_)fun hl=>?_
 ·have hl:j<p.2.2.1.length:=by omega
  have hm:=hv.perm _(List.getElem_mem hl)
  have hlen:=hv.len _(List.getElem_mem hl)
  rw [List.drop_eq_getElem_cons hl]at hR
  simp only [bly]at hR
  rw [Bp(n:=(j:Int)+1-1)(by omega)(by omega),show(j:Int)+1-1=(j:Int)by omega]
  refine⟨_,Bc hl,_,if_pos(by show short p.2.2.1[j];unfold short;omega),⟨fun he=>?_,fun he=>⟨_,Bc hl,_,if_pos hm,_,if_pos(by show short(Af p.2.2.1[j]);unfold short;rw [Ob];omega),⟨fun he2=>?_,fun he2=>?_⟩⟩⟩⟩
  ·have he:decide(p.2.2.1[j]=x)=true:=he
   rw [if_pos(of_decide_eq_true he)]at hR
   exact hR
  ·have he:decide(p.2.2.1[j]=x)=false:=he
   have he2:decide(Af p.2.2.1[j]=x)=true:=he2
   rw [if_neg(of_decide_eq_false he),if_pos(of_decide_eq_true he2)]at hR
   rw [Bp(by omega)(by omega),←hR]
   omega
  ·have he:decide(p.2.2.1[j]=x)=false:=he
   have he2:decide(Af p.2.2.1[j]=x)=false:=he2
   rw [if_neg(of_decide_eq_false he),if_neg(of_decide_eq_false he2)]at hR
   rw [Bp(by omega)(by omega)]
   exact hK hl _(by dsimp only;omega)⟨rfl,by push_cast;exact hR⟩
 ·have:j=p.2.2.1.length:=by omega
  subst this
  rw [List.drop_length]at hR
  exact hR
theorem aie:Sound Try.prog 176 Kf:=
 Sound.mkS Ca(Ae Pk(Ae Sv As))mixed Try.func176(by kernel_rfl)(by kernel_rfl)fun x h=>atu x.1 x.2.1 h
theorem avm(p:PP)(q:List Int)(h:At p=true∧Di p.1 q=true):fnW tab(look [(163,Um)])It Try.f136(p,q,())(fun(z:Bool)=>z=Gu p q):=by
 have hv:=valid h.1
 have hf:=hv.few
 refine Eq.mp(awz p q _)?_
 refine Ao p.2.2.1.length(fun v=>v.1)(fun j v=>v.2=(p.1,p.2.1,p.2.2.1,())∧ ∀k:Nat,k<j→Jq p q((k:Int)+1)≠0)rfl⟨rfl,fun k hk=>absurd hk(Nat.not_lt_zero _)⟩?_
 rintro j⟨i,v⟩K hj hi⟨hv',hR⟩hK
 dsimp only at hi hv'⊢
 subst hi hv'
 dsimp only
 refine Br.dec(fun hl=>?_)fun hl=>?_
 ·have hl:j<p.2.2.1.length:=by omega
  have e1:IntKind.i64.wrap((j:Int)+1)=(j:Int)+1:=Bp(by omega)(by omega)
  rw [e1]
  refine⟨_,if_pos⟨h.1,h.2,by dsimp only;omega,by dsimp only;omega,by dsimp only;omega⟩,⟨fun he=>?_,fun he=>?_⟩⟩
  ·have he:(Jq p q((j:Int)+1)==0)=true:=he
   exact Bu fun hh=>hh j hl(beq_iff_eq.1 he)
  ·have he:(Jq p q((j:Int)+1)==0)=false:=he
   refine hK hl _ rfl⟨rfl,fun k hk=>?_⟩
   by_cases e:k=j
   ·subst e;exact beq_eq_false_iff_ne.1 he
   ·exact hR k(by omega)
 ·have:j=p.2.2.1.length:=by omega
  subst this
  exact Jv hR
theorem ail:Sound Try.prog 136 It:=
 Sound.mkS Ca(Ae aws As)mixed Try.func136(by kernel_rfl)(by kernel_rfl)fun x h=>avm x.1 x.2.1 h
theorem awp(p:PP)(q:List Int)(h:At p=true∧Di p.1 q=true):fnW tab(look [(176,Kf),(134,Fo)])It Try.f162(p,q,())(fun(z:Bool)=>z=Gu p q):=by
 have hv:=valid h.1
 have hf:=hv.few
 have hn:=hv.n
 obtain⟨hq1,hq2⟩:=Dg.1 h.2
 have hq:=Qt hq2
 refine Eq.mp(axe p q _)?_
 refine Ao p.2.2.1.length(fun v=>v.1)(fun j v=>v.2=(p.1,p.2.1,p.2.2.1,())∧ ∀k:Nat,k<j→Jq p q((k:Int)+1)≠0)rfl⟨rfl,fun k hk=>absurd hk(Nat.not_lt_zero _)⟩?_
 rintro j⟨i,v⟩K hj hi⟨hv',hR⟩hK
 dsimp only at hi hv'⊢
 subst hi hv'
 dsimp only
 refine Br.dec(fun hl=>?_)fun hl=>?_
 ·have hl:j<p.2.2.1.length:=by omega
  have hm:=Qt(hv.perm _(List.getElem_mem hl))
  have hlen:=hv.len _(List.getElem_mem hl)
  have e:p.2.2.1[j].length=q.length:=by omega
  have hI:Fq p.2.2.1(Eb q p.2.2.1[j])=Jq p q((j:Int)+1):=by
   unfold Jq
   rw [Ln hl,ans hq e]
  refine⟨_,Bc hl,_,if_pos⟨hm.len,e.symm,hq.row,by rw [←e];exact hm.row⟩,_,if_pos⟨h.1,by show short(Eb q p.2.2.1[j]);unfold short;rw [ats];omega⟩,⟨fun he=>?_,fun he=>?_⟩⟩
  ·have he:(Fq p.2.2.1(Eb q p.2.2.1[j])==0)=true:=he
   rw [hI]at he
   exact Bu fun hh=>hh j hl(beq_iff_eq.1 he)
  ·have he:(Fq p.2.2.1(Eb q p.2.2.1[j])==0)=false:=he
   rw [hI]at he
   rw [Ak(by omega)]
   refine hK hl _ rfl⟨rfl,fun k hk=>?_⟩
   by_cases e:k=j
   ·subst e;exact beq_eq_false_iff_ne.1 he
   ·exact hR k(by omega)
 ·have:j=p.2.2.1.length:=by omega
  subst this
  exact Jv hR
theorem aib:Sound Try.prog 162 It:=
 Sound.mkS Ca(Ae aie(Ae Uq As))mixed Try.func162(by kernel_rfl)(by kernel_rfl)fun x h=>awp x.1 x.2.1 h
theorem bab(s y:List Int)(P:List Int→Prop)(h1:s.length≤20)(h2:Ez y.length s)(h3:P(Aa s y)):
  Bo
   (fun(v5:Int×List Int×PUnit)(k6:Int×List Int×PUnit→Prop)=>
    Br(decide(v5.1<(↑s.length:Int)))
     (∃(y7:Int),
      idx s v5.1=some y7∧
       ∃(y8:Int),
        idx y y7=some y8∧
         (0:Nat)=(0:Nat)∧
          v5.2.1.length=v5.2.1.length∧
           v5.2.1.length+(List.take(1:Nat)(List.drop(0:Nat) [y8])).length≤Am∧
            (0:Nat)=(0:Nat)∧
             (v5.2.1++List.take(1:Nat)(List.drop(0:Nat) [y8])).length=(v5.2.1++List.take(1:Nat)(List.drop(0:Nat) [y8])).length∧
              k6(IntKind.i64.wrap(v5.1+(1:Int)),v5.2.1++List.take(1:Nat)(List.drop(0:Nat) [y8]),()))
     (P(List.take v5.2.1.length(List.drop(0:Nat)v5.2.1))))
   ((0:Int),([]:List Int),PUnit.unit):=by
 refine Ao s.length(fun v=>v.1)(fun j v=>v.2.1=(s.take j).map(Hm y))rfl(by simp)?_
 rintro j⟨i,ys,⟨⟩⟩K hj hi hR hK
 dsimp only at hi hR⊢
 subst hi hR
 refine Br.dec(fun hl=>?_)fun hl=>?_
 ·have hl:j<s.length:=by omega
  have hy:=h2 _(List.getElem_mem hl)
  refine⟨_,Bc hl,_,apq hy.1 hy.2,rfl,rfl,?_,rfl,rfl,?_⟩
  ·show((s.take j).map(Hm y)).length+1≤4294967296
   rw [List.length_map,List.length_take];omega
  ·rw [Ak(by omega)]
   refine hK hl _ rfl ?_
   dsimp only
   rw [List.take_succ_eq_append_getElem hl,List.map_append]
   rfl
 ·have:j=s.length:=by omega
  subst this
  rw [List.drop_zero,List.take_length,List.take_length]
  exact h3
theorem bnh(p:PP)(s:List Int)(l:Int)(h:At p=true∧List.length s≤20∧(∀y∈s,0≤y∧y<p.1)∧Ew(List.length p.2.2.1)l):fnW tab(look [(160,En)])Ts Try.f129(p,s,l,())(fun(z:List Int)=>z=Aa s(Ad p.2.2.1 l)):=by
 obtain⟨hv,hs,hr,hl⟩:=h
 have hv:=valid hv
 have hf:=hv.few
 refine Eq.mp(bpi p s l _)?_
 have hlo:=Tt hv hl
 have hrow:Ez(Ad p.2.2.1 l).length s:=fun y hy=>by have:=hr y hy;omega
 obtain⟨k,hk,rfl|rfl⟩:=Qi hl
 ·rw [if_pos rfl,Bp(n:=0-((k:Int)+1))(by omega)(by omega),if_neg(by omega),Bp(by omega)(by omega),show(k:Int)+1-1=(k:Int)by omega]
  refine⟨_,Bc hk,Br.dec(fun hn=>by omega)fun _=>⟨rfl,rfl,?_⟩⟩
  rw [Ln hk]at hrow⊢
  exact bab s _(fun z=>z=Aa s p.2.2.1[k])hs hrow rfl
 ·rw [if_pos rfl,Bp(n:=0- -((k:Int)+1))(by omega)(by omega),if_pos(by omega),Bp(by omega)(by omega),show(0:Int)- -((k:Int)+1)-1=(k:Int)by omega]
  refine⟨_,Bc hk,Br.dec(fun _=>⟨_,if_pos(hv.perm _(List.getElem_mem hk)),rfl,rfl,?_⟩)fun hn=>by omega⟩
  rw [Np hk]at hrow⊢
  exact bab s(Af p.2.2.1[k])(fun z=>z=Aa s(Af p.2.2.1[k]))hs hrow rfl
theorem avy:Sound Try.prog 129 Ts:=
 Sound.mkS Ca(Ae Sv As)mixed Try.func129(by kernel_rfl)(by kernel_rfl)fun x h=>bnh x.1 x.2.1 x.2.2.1 h
end Go.Proofs.Ytebabhocakedaaa

namespace Go.Proofs.Ytebabhocakedaaa
open Go.RowKit
abbrev rL:CK:= .row tI 2
abbrev xLL:CK:= .xrow tL 25
def Sh:List(List Int)→Nat
 | []=>0
 |r::rs=>r.length+Sh rs
def low(k:Int):Prop:=0≤k∧k≤1099511627776
theorem Bq {α:Type} (xs:List α):List.take xs.length(List.drop 0 xs)=xs:=by rw [List.drop_zero,List.take_length]
end Go.Proofs.Ytebabhocakedaaa

namespace Go.Proofs.Ytebabhocakedaaa
open Go.RowKit
theorem bom {n:Nat} {room:Int} (h: ¬aif n room<0):aif n room=room-n∧(n:Int)≤room:=by
 unfold aif at*
 split at h
 ·exact absurd(show(-1:Int)<0 by decide)h
 ·rename_i h1;rw [if_neg h1];exact⟨rfl,by omega⟩
theorem ayu: ∀(xs:List(List Int))(room:Int),0≤room→ ¬bcw xs room<0→bcw xs room=room-Sh xs
 | [],room,_,_=>by simp [bcw,Sh]
 |r::xs,room,h0,h=>by
  simp only [bcw,Sh]at h⊢
  split at h
  ·exact absurd(show(-1:Int)<0 by decide)h
  ·rename_i h1
   rw [if_neg h1]
   have e1:=bom(n:=r.length)h1
   have e1:afp r room=room-r.length∧(r.length:Int)≤room:=e1
   rw [ayu xs _(by rw [e1.1];omega)h,e1.1]
   omega
theorem bov {xs:List(List Int)} {room:Int} (h: ¬Te xs room<0):Te xs room=room-xs.length-Sh xs:=by
 unfold Te at*
 split at h
 ·exact absurd(show(-1:Int)<0 by decide)h
 ·rename_i h1
  rw [if_neg h1]
  have e1:=bom h1
  rw [ayu xs _(by rw [e1.1];omega)h,e1.1]
end Go.Proofs.Ytebabhocakedaaa

namespace Go.Proofs.Ytebabhocakedaaa
open Go.RowKit
noncomputable abbrev amn:Bg:=mkM [none] [(false, .dat(.oslice tI))]false [none] [rL](fun x=>short(x.1.getD []))(fun x=>((x.1.getD [],()),()))
noncomputable abbrev agl:Bg:=mkM [none] [(false, .dat tL)]false [none] [rL](fun x=>short x.1)(fun x=>((x.1,()),()))
noncomputable abbrev Ij:Spec:=mkS(.pair tL .unit)tL false true(fun x=>short x.1)(fun x=>x.1)
theorem bnl(xs:Option(List Int))(P:((List Int×Unit)×Unit)→Prop):(Br xs.isNone(P((List.take(0:Nat)(List.drop(0:Nat) []),()),()))
 ((0:Nat)=(0:Nat)∧(0:Nat)=([]:List Int).length∧(0:Nat)+(xs.getD []).length≤Am∧P((List.take([]++xs.getD []).length(List.drop(0:Nat)([]++xs.getD [])),()),())))=Nk Zh(look [])amn Try.f121(xs,())P:=by kernel_rfl
theorem bfo(xs:List Int)(P:List Int→Prop):((0:Nat)=(0:Nat)∧(0:Nat)=([]:List Int).length∧(0:Nat)+xs.length≤Am∧P(List.take([]++xs).length(List.drop(0:Nat)([]++xs))))=fnW tab(look [])Ij Try.f120(xs,())P:=by kernel_rfl
theorem bob(xs:Option(List Int))(h:short(xs.getD [])):Nk Zh(look [])amn Try.f121(xs,())(fun(z:(List Int×Unit)×Unit)=>z=((xs.getD [],()),())):=by
 unfold short at h
 refine Eq.mp(bnl xs _)⟨fun hn=>?_,fun _=>⟨rfl,rfl,by show 0+(xs.getD []).length≤4294967296;omega,?_⟩⟩
 ·cases xs with
  |none=>rfl
  |some y=>cases hn
 ·simp only [Bq,List.nil_append]
theorem axf:Bj Try.prog 121 amn:=
 Bj.mkM Tn As mixed Try.func121(by kernel_rfl)(by kernel_rfl)fun x h=>bob x.1 h
theorem aul:Bj Try.prog 121 agl:=Bj.ofO axf fun _ _ h=>⟨h,rfl⟩
theorem beh(xs:List Int)(h:short xs):fnW tab(look [])Ij Try.f120(xs,())(fun(z:List Int)=>z=xs):=by
 unfold short at h
 refine Eq.mp(bfo xs _)⟨rfl,rfl,by show 0+xs.length≤4294967296;omega,?_⟩
 simp only [Bq,List.nil_append]
theorem Zd:Sound Try.prog 120 Ij:=
 Sound.mkS Ca As mixed Try.func120(by kernel_rfl)(by kernel_rfl)fun x h=>beh x.1 h
end Go.Proofs.Ytebabhocakedaaa

namespace Go.Proofs.Ytebabhocakedaaa
open Go.RowKit
def Lz(xs:List Int):ByteArray:=bytesOf(xs.map fun x=>IntKind.u8.wrap x)
noncomputable abbrev Ek:Spec:=mkS(.pair tL .unit) .str false true(fun x=>short x.1)(fun x=>Lz x.1)
def afi(ps:List(List Int))(p:List Int):Int:=Fm(fun q=>decide(q=p))ps 0
theorem bek(xs:List Int)(P:ByteArray→Prop):(((0:Int)≤(↑xs.length:Int)∧(↑xs.length:Int)<(↑Am:Int)+(1:Int))∧
 (↑xs.length:Int)=(↑xs.length:Int)∧
  (0:Nat)=(0:Nat)∧
   (List.replicate(↑xs.length:Int).toNat(Int.ofNat(nat_lit 0))).length=(List.replicate(↑xs.length:Int).toNat(Int.ofNat(nat_lit 0))).length∧
    Bo
     (fun(v2:Int×List Int×PUnit)(k3:Int×List Int×PUnit→Prop)=>
      Br(decide(v2.1<(↑xs.length:Int)))
       (∃(y4:Int),
        idx xs v2.1=some y4∧
         ((0:Int)≤v2.1∧v2.1<(↑v2.2.1.length:Int))∧
          (0:Nat)+v2.1.toNat<v2.2.1.length∧
           (0:Nat)=(0:Nat)∧
            v2.2.1.length=(v2.2.1.set((0:Nat)+v2.1.toNat)(IntKind.u8.wrap y4)).length∧
             k3(IntKind.i64.wrap(v2.1+(1:Int)),v2.2.1.set((0:Nat)+v2.1.toNat)(IntKind.u8.wrap y4),()))
       (P(bytesOf(List.take v2.2.1.length(List.drop(0:Nat)v2.2.1)))))
     ((0:Int),List.replicate(↑xs.length:Int).toNat(Int.ofNat(nat_lit 0)),PUnit.unit))=fnW tab(look [])Ek Try.f111(xs,())P:=by kernel_rfl
theorem bdz(xs:List Int)(h:short xs):fnW tab(look [])Ek Try.f111(xs,())(fun(z:ByteArray)=>z=Lz xs):=by
 unfold short at h
 refine Eq.mp(bek xs _)?_
 refine⟨⟨by omega,by show(xs.length:Int)<(4294967296:Int)+1;omega⟩,rfl,rfl,rfl,?_⟩
 have hcl:(xs.map fun x=>IntKind.u8.wrap x).length=xs.length:=by simp
 refine Ao xs.length(fun v=>v.1)(fun j v=>v.2.1.length=(xs.map fun x=>IntKind.u8.wrap x).length∧v.2.1.take j=(xs.map fun x=>IntKind.u8.wrap x).take j)rfl⟨by rw [hcl];simp,by simp⟩?_
 rintro j⟨i,ys,⟨⟩⟩K hj hi⟨h1,h2⟩hK
 dsimp only at hi h1 h2⊢
 subst hi
 refine Br.dec(fun hl=>?_)fun hl=>?_
 ·have hl:j<xs.length:=by omega
  refine⟨_,Bc hl,⟨by omega,by omega⟩,by rw [Int.toNat_natCast];omega,rfl,by rw [List.length_set],?_⟩
  rw [Ak(by omega),Int.toNat_natCast,Nat.zero_add]
  have hl':j<(xs.map fun x=>IntKind.u8.wrap x).length:=by rw [hcl];exact hl
  have e:IntKind.u8.wrap xs[j]=(xs.map fun x=>IntKind.u8.wrap x)[j]:=by simp
  rw [e]
  exact hK hl _ rfl⟨by rw [List.length_set];exact h1,Oi hl' h1 h2⟩
 ·have:j=xs.length:=by omega
  subst this
  rw [←hcl,List.take_length,←h1,List.take_length]at h2
  rw [List.drop_zero,List.take_length,h2];rfl
theorem anp:Sound Try.prog 111 Ek:=
 Sound.mkS Ca As mixed Try.func111(by kernel_rfl)(by kernel_rfl)fun x h=>bdz x.1 h
theorem Xb {α:Type} (P:α→Bool)(y:α): ∀(l:List α)(i:Int),0≤i→Fm P(l++ [y])i=if Fm P l i<0 then(if P y=true then i+l.length else-1)else Fm P l i
 | [],i,_=>by simp [Fm]
 |x::r,i,h=>by
  simp only [List.cons_append,Fm,List.length_cons]
  split
  ·rw [if_neg(by omega)]
  ·rw [Xb P y r(i+1)(by omega),show i+1+(r.length:Int)=i+((r.length+1:Nat):Int)by push_cast;omega]
theorem aty(ps:List(List Int))(q p:List Int):afi(ps++ [q])p=if afi ps p<0 then(if q=p then(ps.length:Int)else-1)else afi ps p:=by
 unfold afi
 rw [Xb _ _ _ _(Int.le_refl 0)]
 simp only [decide_eq_true_eq,Int.zero_add]
def Ry(p:List Int):Prop:= ∀x∈p,0≤x∧x<256
theorem bpn {x y:Int} (hx:0≤x∧x<256)(hy:0≤y∧y<256)(h:UInt8.ofNat(IntKind.u8.wrap x).toNat=UInt8.ofNat(IntKind.u8.wrap y).toNat):x=y:=by
 have h:=congrArg UInt8.toNat h
 simp only [IntKind.wrap_u8,UInt8.toNat_ofNat']at h
 omega
theorem bytes_inj: ∀(p q:List Int),Ry p→Ry q→(p.map fun x=>UInt8.ofNat(IntKind.u8.wrap x).toNat)=(q.map fun x=>UInt8.ofNat(IntKind.u8.wrap x).toNat)→p=q
 | [],[],_,_,_=>rfl
 | [],_::_,_,_,h=>by simp at h
 |_::_,[],_,_,h=>by simp at h
 |x::p,y::q,hp,hq,h=>by
  simp only [List.map_cons,List.cons.injEq]at h
  rw [bpn(hp x(by simp))(hq y(by simp))h.1,bytes_inj p q(fun z hz=>hp z(by simp [hz]))(fun z hz=>hq z(by simp [hz]))h.2]
theorem key_inj {p q:List Int} (hp:Ry p)(hq:Ry q)(h:Lz p=Lz q):p=q:=by
 refine bytes_inj p q hp hq ?_
 simp only [Lz,bytesOf,ByteArray.mk.injEq,List.map_map]at h
 have h:=congrArg Array.toList h
 simpa [Function.comp_def]using h
def KM(m:ByteArray→Option Int)(ps:List(List Int)):Prop:= ∀p,Ry p→m(Lz p)=if afi ps p<0 then none else some(afi ps p)
theorem KM.nil:KM(fun _=>none) []:=fun p _=>by
 rw [if_pos(by unfold afi;simp [Fm])]
theorem KM.add {m:ByteArray→Option Int} {ps:List(List Int)} {q:List Int} (h:KM m ps)(hq:Ry q)(hn:afi ps q<0):KM(Ei m(Lz q)(ps.length:Int))(ps++ [q]):=by
 intro p hp
 rw [aty]
 unfold Ei
 by_cases e:p=q
 ·subst e
  rw [if_pos rfl,if_pos hn,if_pos rfl,if_neg(by omega)]
 ·rw [if_neg(fun hk=>e(key_inj hp hq hk)),h p hp]
  have e': ¬q=p:=fun h=>e h.symm
  rw [if_neg e']
  by_cases hpn:afi ps p<0
  ·rw [if_pos hpn,if_pos hpn,if_pos(by decide)]
  ·rw [if_neg hpn,if_neg hpn,if_neg hpn]
end Go.Proofs.Ytebabhocakedaaa

namespace Go.Proofs.Ytebabhocakedaaa
open Go.RowKit
noncomputable abbrev Mc:Spec:=mkS(.pair Db .unit)tL false true(fun x=>List.length x.1.2.2.1≤8)(fun x=>Ap(List.length x.1.2.2.1))
theorem bai(p:Int×ByteArray×List(List Int)×Unit)(P:List Int→Prop):((0:Nat)=(0:Nat)∧
 (0:Nat)=([]:List Int).length∧
  Bo
   (fun(v2:Int×Int×ByteArray×List(List Int)×List Int×PUnit)(k3:Int×Int×ByteArray×List(List Int)×List Int×PUnit→Prop)=>
    Br(decide(v2.1≤(↑v2.2.2.2.1.length:Int)))
     ((0:Nat)=(0:Nat)∧
      v2.2.2.2.2.1.length=v2.2.2.2.2.1.length∧
       v2.2.2.2.2.1.length+(List.take(2:Nat)(List.drop(0:Nat) [v2.1,IntKind.i64.wrap((0:Int)-v2.1)])).length≤Am∧
        (0:Nat)=(0:Nat)∧
         (v2.2.2.2.2.1++List.take(2:Nat)(List.drop(0:Nat) [v2.1,IntKind.i64.wrap((0:Int)-v2.1)])).length=
           (v2.2.2.2.2.1++List.take(2:Nat)(List.drop(0:Nat) [v2.1,IntKind.i64.wrap((0:Int)-v2.1)])).length∧
          k3
           (IntKind.i64.wrap(v2.1+(1:Int)),v2.2.1,v2.2.2.1,v2.2.2.2.1,
            v2.2.2.2.2.1++List.take(2:Nat)(List.drop(0:Nat) [v2.1,IntKind.i64.wrap((0:Int)-v2.1)]),()))
     (P(List.take v2.2.2.2.2.1.length(List.drop(0:Nat)v2.2.2.2.2.1))))
   ((1:Int),p.1,p.2.1,p.2.2.1,[],PUnit.unit))=fnW tab(look [])Mc Try.f142(p,())P:=by kernel_rfl
theorem ayq(p:PP)(h:List.length p.2.2.1≤8):fnW tab(look [])Mc Try.f142(p,())(fun(z:List Int)=>z=Ap(List.length p.2.2.1)):=by
 refine Eq.mp(bai p _)⟨rfl,rfl,?_⟩
 refine Bo.mk(fun v=> ∃j:Nat,j≤List.length p.2.2.1∧v=((j:Int)+1,p.1,p.2.1,p.2.2.1,Ap j,()))(fun v=>List.length p.2.2.1+1-v.1.toNat)⟨0,Nat.zero_le _,rfl⟩?_
 rintro _⟨j,hj,rfl⟩
 dsimp only
 refine Br.dec(fun hl=>?_)fun hl=>?_
 ·refine⟨rfl,rfl,?_,rfl,rfl,⟨j+1,by omega,?_⟩,?_⟩
  ·show(Ap j).length+2≤4294967296
   rw [Ji];omega
  ·rw [Rb,Bp(n:=(j:Int)+1+1)(by omega)(by omega),Bp(n:=0-((j:Int)+1))(by omega)(by omega),Int.zero_sub]
   rfl
  ·rw [Bp(by omega)(by omega)];omega
 ·have:j=List.length p.2.2.1:=by omega
  subst this
  rw [Bq]
theorem akw:Sound Try.prog 142 Mc:=
 Sound.mkS Ca As mixed Try.func142(by kernel_rfl)(by kernel_rfl)fun x h=>ayq x.1 h
theorem bnz {a:Int} {P:Prop} (h:(a !=a)=true):P:=by simp at h
theorem bmx {p:PP} {room:Int} (hr:roomy room)(h: ¬Zj p room<0):(Sh p.2.2.1:Int)≤room-Zj p room∧roomy(Zj p room):=by
 unfold Zj at h⊢
 split at h
 ·exact absurd(show(-1:Int)<0 by decide)h
 ·rename_i h1
  rw [if_neg h1]
  split at h
  ·exact absurd(show(-1:Int)<0 by decide)h
  ·rename_i h2
   rw [if_neg h2]
   have e2:=bov h2
   obtain⟨r1,r2⟩:=hr
   unfold roomy
   omega
end Go.Proofs.Ytebabhocakedaaa

namespace Go.Proofs.Ytebabhocakedaaa
open Go.RowKit
abbrev rLL:CK:= .row tL 25
def Rf(v:Int):List Int→Nat
 | []=>0
 |x::r=>if x>v then Rf v r+1 else 0
def agw(v:Int)(t:List Int):Option(List Int):=if Rf v t=0 then none else some(Hm t((Rf v t-1:Nat):Int)::(t.set(Rf v t-1)v).reverse)
def Fe:List Int→Option(List Int)
 | []=>none
 |v::t=>match Fe t with
  |some t'=>some(v::t')
  |none=>agw v t
def ajq(xs:List Int)(o n i k:Nat):Option Int:=if o≤k∧k<o+n∧(k<o+i∨o+n≤k+i)then xs[o+n-1-(k-o)]? else xs[k]?
def Xp(xs:List Int)(o n:Nat):List Int:=List.take o xs++(List.take n(List.drop o xs)).reverse++List.drop(o+n)xs
noncomputable abbrev Nw:Bg:=mkM [none] [(true, .part tI 2)]false [] [](fun x=>short x.1.1∧x.1.2.1+x.1.2.2≤List.length x.1.1)(fun x=>((),(Xp x.1.1 x.1.2.1 x.1.2.2,())))
noncomputable abbrev Js:Bg:=mkM [none] [(true,rL)]false [none] [.dat .bool](fun x=>1≤List.length x.1∧List.length x.1≤20∧List.Nodup(x.1:List Int))(fun x=>(((Fe x.1).isSome,()),((Fe x.1).getD x.1,())))
noncomputable abbrev Mg:Bg:=mkM [none] [(false, .dat tI)]false [none] [rL](fun x=>0≤x.1∧x.1≤20)(fun x=>((upto x.1.toNat,()),()))
def lex:Nat→List Int→List(List Int)
 |0,_=> [[]]
 |k+1,R=>R.flatMap fun v=>(lex k(R.erase v)).map(v:: ·)
def adq(n:Nat)(l:List Int):List Int:=(upto n).filter fun v=>!l.contains v
noncomputable def Fp(p:PP):List(List Int):=(lex p.1.toNat(upto p.1.toNat)).filter(Gu p)
def Kp(n:Nat)(l:List Int):List(List Int):=(lex(n-l.length)(adq n l)).map(l++ ·)
noncomputable def acq(p:PP)(l:List Int)(out:List(List Int)):List(List Int):=out++(Kp p.1.toNat l).filter(Gu p)
noncomputable abbrev Nq:Bg:=mkM [some 3] [(false, .dat tI),(false, .dat .str),(false, .dat tLL)]false [none] [xLL](fun x=>At(x.1,x.2.1,x.2.2.1,())=true∧x.1≤7)(fun x=>((Fp(x.1,x.2.1,x.2.2.1,()),()),()))
noncomputable abbrev Kt(m:Nat):Bg:=mkM [some 3,none,none] [(false, .dat tI),(false, .dat .str),(false, .dat tLL),(false, .dat tL),(false,rLL)]false [none] [rLL]
 (fun x=>(At(x.1,x.2.1,x.2.2.1,())=true∧x.1≤7∧List.Nodup(x.2.2.2.1:List Int)∧Ez x.1.toNat x.2.2.2.1∧List.length x.2.2.2.1≤x.1.toNat∧List.length x.2.2.2.2.1+(Kp x.1.toNat x.2.2.2.1).length≤6000)∧x.1.toNat-List.length x.2.2.2.1<m)
 (fun x=>((acq(x.1,x.2.1,x.2.2.1,())x.2.2.2.1 x.2.2.2.2.1,()),()))
noncomputable abbrev Fa:Bg:=mkM [none] [(false, .dat tL)]false [none] [rL](fun x=>short x.1)(fun x=>((x.1,()),()))
theorem azf(xs:List Int)(P:((List Int×Unit)×Unit)→Prop):((0:Nat)=(0:Nat)∧(0:Nat)=([]:List Int).length∧(0:Nat)+xs.length≤Am∧P((List.take([]++xs).length(List.drop(0:Nat)([]++xs)),()),()))=Nk Zh(look [])Fa Try.f120(xs,())P:=by kernel_rfl
theorem bjj(a:List Int×Nat×Nat)(P:(Unit×List Int×Unit)→Prop):(a.2.1=a.2.1∧
 a.2.2=a.2.2∧
  Bo
   (fun(v2:Int×Int×List Int×PUnit)(k3:Int×Int×List Int×PUnit→Prop)=>
    Br(decide(v2.1<v2.2.1))
     (((0:Int)≤v2.2.1∧v2.2.1<(↑a.2.2:Int))∧
      ∃(y4:Int),
       v2.2.2.1[a.2.1+v2.2.1.toNat]?=some y4∧
        ((0:Int)≤v2.1∧v2.1<(↑a.2.2:Int))∧
         ∃(y5:Int),
          v2.2.2.1[a.2.1+v2.1.toNat]?=some y5∧
           ((0:Int)≤v2.1∧v2.1<(↑a.2.2:Int))∧
            a.2.1+v2.1.toNat<v2.2.2.1.length∧
             ((0:Int)≤v2.2.1∧v2.2.1<(↑a.2.2:Int))∧
              a.2.1+v2.2.1.toNat<(v2.2.2.1.set(a.2.1+v2.1.toNat)y4).length∧
               a.2.1=a.2.1∧
                a.2.2=a.2.2∧
                 k3
                  (IntKind.i64.wrap(v2.1+(1:Int)),IntKind.i64.wrap(v2.2.1-(1:Int)),(v2.2.2.1.set(a.2.1+v2.1.toNat)y4).set(a.2.1+v2.2.1.toNat)y5,
                   ()))
     (P((),v2.2.2.1,())))
   ((0:Int),IntKind.i64.wrap((↑a.2.2:Int)-(1:Int)),a.1,PUnit.unit))=Nk bsa(look [])Nw Try.f164(a,())P:=by kernel_rfl
theorem bfs(xs:List Int)(P:((Bool×Unit)×List Int×Unit)→Prop):((0:Nat)=(0:Nat)∧
 xs.length=xs.length∧
  Bo
   (fun(v2:Int×List Int×PUnit)(k3:Int×List Int×PUnit→Prop)=>
    Br(decide(v2.1≥(0:Int)))
     (((0:Int)≤v2.1∧v2.1<(↑v2.2.1.length:Int))∧
      ∃(y4:Int),
       v2.2.1[(0:Nat)+v2.1.toNat]?=some y4∧
        ((0:Int)≤IntKind.i64.wrap(v2.1+(1:Int))∧IntKind.i64.wrap(v2.1+(1:Int))<(↑v2.2.1.length:Int))∧
         ∃(y5:Int),
          v2.2.1[(0:Nat)+(IntKind.i64.wrap(v2.1+(1:Int))).toNat]?=some y5∧
           Br(decide(y4>y5))((0:Nat)=(0:Nat)∧v2.2.1.length=v2.2.1.length∧k3(IntKind.i64.wrap(v2.1-(1:Int)),v2.2.1,()))
            (Br(decide(v2.1<(0:Int)))(P((false,()),v2.2.1,()))
             ((0:Nat)=(0:Nat)∧
              v2.2.1.length=v2.2.1.length∧
               Bo
                (fun(v6:Int×List Int×PUnit)(k7:Int×List Int×PUnit→Prop)=>
                 ((0:Int)≤v6.1∧v6.1<(↑v6.2.1.length:Int))∧
                  ∃(y8:Int),
                   v6.2.1[(0:Nat)+v6.1.toNat]?=some y8∧
                    ((0:Int)≤v2.1∧v2.1<(↑v6.2.1.length:Int))∧
                     ∃(y9:Int),
                      v6.2.1[(0:Nat)+v2.1.toNat]?=some y9∧
                       Br(decide(y8<y9))((0:Nat)=(0:Nat)∧v6.2.1.length=v6.2.1.length∧k7(IntKind.i64.wrap(v6.1-(1:Int)),v6.2.1,()))
                        (((0:Int)≤v6.1∧v6.1<(↑v6.2.1.length:Int))∧
                         ∃(y10:Int),
                          v6.2.1[(0:Nat)+v6.1.toNat]?=some y10∧
                           ((0:Int)≤v2.1∧v2.1<(↑v6.2.1.length:Int))∧
                            ∃(y11:Int),
                             v6.2.1[(0:Nat)+v2.1.toNat]?=some y11∧
                              ((0:Int)≤v2.1∧v2.1<(↑v6.2.1.length:Int))∧
                               (0:Nat)+v2.1.toNat<v6.2.1.length∧
                                ((0:Int)≤v6.1∧v6.1<(↑v6.2.1.length:Int))∧
                                 (0:Nat)+v6.1.toNat<(v6.2.1.set((0:Nat)+v2.1.toNat)y10).length∧
                                  ((0:Int)≤IntKind.i64.wrap(v2.1+(1:Int))∧
                                    IntKind.i64.wrap(v2.1+(1:Int))≤(↑v6.2.1.length:Int)∧(↑v6.2.1.length:Int)≤(↑v6.2.1.length:Int))∧
                                   ∃(y12:PUnit×List Int×PUnit),
                                    Nw.fn
                                       (((v6.2.1.set((0:Nat)+v2.1.toNat)y10).set((0:Nat)+v6.1.toNat)y11,
                                         (0:Nat)+(IntKind.i64.wrap(v2.1+(1:Int))).toNat,
                                         (↑v6.2.1.length:Int).toNat-(IntKind.i64.wrap(v2.1+(1:Int))).toNat),
                                        ())=
                                      some y12∧
                                     y12.2.1.length=((v6.2.1.set((0:Nat)+v2.1.toNat)y10).set((0:Nat)+v6.1.toNat)y11).length∧
                                      P((true,()),y12.2.1,())))
                (IntKind.i64.wrap((↑v2.2.1.length:Int)-(1:Int)),v2.2.1,PUnit.unit))))
     (Br(decide(v2.1<(0:Int)))(P((false,()),v2.2.1,()))
      ((0:Nat)=(0:Nat)∧
       v2.2.1.length=v2.2.1.length∧
        Bo
         (fun(v4:Int×List Int×PUnit)(k5:Int×List Int×PUnit→Prop)=>
          ((0:Int)≤v4.1∧v4.1<(↑v4.2.1.length:Int))∧
           ∃(y6:Int),
            v4.2.1[(0:Nat)+v4.1.toNat]?=some y6∧
             ((0:Int)≤v2.1∧v2.1<(↑v4.2.1.length:Int))∧
              ∃(y7:Int),
               v4.2.1[(0:Nat)+v2.1.toNat]?=some y7∧
                Br(decide(y6<y7))((0:Nat)=(0:Nat)∧v4.2.1.length=v4.2.1.length∧k5(IntKind.i64.wrap(v4.1-(1:Int)),v4.2.1,()))
                 (((0:Int)≤v4.1∧v4.1<(↑v4.2.1.length:Int))∧
                  ∃(y8:Int),
                   v4.2.1[(0:Nat)+v4.1.toNat]?=some y8∧
                    ((0:Int)≤v2.1∧v2.1<(↑v4.2.1.length:Int))∧
                     ∃(y9:Int),
                      v4.2.1[(0:Nat)+v2.1.toNat]?=some y9∧
                       ((0:Int)≤v2.1∧v2.1<(↑v4.2.1.length:Int))∧
                        (0:Nat)+v2.1.toNat<v4.2.1.length∧
                         ((0:Int)≤v4.1∧v4.1<(↑v4.2.1.length:Int))∧
                          (0:Nat)+v4.1.toNat<(v4.2.1.set((0:Nat)+v2.1.toNat)y8).length∧
                           ((0:Int)≤IntKind.i64.wrap(v2.1+(1:Int))∧
                             IntKind.i64.wrap(v2.1+(1:Int))≤(↑v4.2.1.length:Int)∧(↑v4.2.1.length:Int)≤(↑v4.2.1.length:Int))∧
                            ∃(y10:PUnit×List Int×PUnit),
                             Nw.fn
                                (((v4.2.1.set((0:Nat)+v2.1.toNat)y8).set((0:Nat)+v4.1.toNat)y9,
                                  (0:Nat)+(IntKind.i64.wrap(v2.1+(1:Int))).toNat,
                                  (↑v4.2.1.length:Int).toNat-(IntKind.i64.wrap(v2.1+(1:Int))).toNat),
                                 ())=
                               some y10∧
                              y10.2.1.length=((v4.2.1.set((0:Nat)+v2.1.toNat)y8).set((0:Nat)+v4.1.toNat)y9).length∧P((true,()),y10.2.1,())))
         (IntKind.i64.wrap((↑v2.2.1.length:Int)-(1:Int)),v2.2.1,PUnit.unit))))
   (IntKind.i64.wrap((↑xs.length:Int)-(2:Int)),xs,PUnit.unit))=Nk Zh(look [(164,Nw)])Js Try.f137(xs,())P:=by kernel_rfl
theorem bde(n:Int)(P:((List Int×Unit)×Unit)→Prop):(((0:Int)≤n∧n<(↑Am:Int)+(1:Int))∧
 n=n∧
  (0:Nat)=(0:Nat)∧
   (List.replicate n.toNat(Int.ofNat(nat_lit 0))).length=(List.replicate n.toNat(Int.ofNat(nat_lit 0))).length∧
    Bo
     (fun(v2:Int×List Int×PUnit)(k3:Int×List Int×PUnit→Prop)=>
      Br(decide(v2.1<(↑(List.replicate n.toNat(Int.ofNat(nat_lit 0))).length:Int)))
       (((0:Int)≤v2.1∧v2.1<(↑v2.2.1.length:Int))∧
        (0:Nat)+v2.1.toNat<v2.2.1.length∧
         (0:Nat)=(0:Nat)∧
          v2.2.1.length=(v2.2.1.set((0:Nat)+v2.1.toNat)v2.1).length∧k3(IntKind.i64.wrap(v2.1+(1:Int)),v2.2.1.set((0:Nat)+v2.1.toNat)v2.1,()))
       (P((List.take v2.2.1.length(List.drop((0:Nat))v2.2.1),()),())))
     ((0:Int),List.replicate n.toNat(Int.ofNat(nat_lit 0)),PUnit.unit))=Nk Zh(look [])Mg Try.f110(n,())P:=by kernel_rfl
theorem bex(n:Int)(str:ByteArray)(g:List(List Int))(P:((List(List Int)×Unit)×Unit)→Prop):(∃(y4:(List Int×PUnit)×PUnit),
 Mg.fn(n,())=some y4∧
  (0:Nat)=(0:Nat)∧
   (0:Nat)=([]:List Int).length∧
    (0:Nat)=(0:Nat)∧
     y4.1.1.length=y4.1.1.length∧
      Bo
       (fun(v5:Int×ByteArray×List(List Int)×List(List Int)×List Int×PUnit)(k6:Int×ByteArray×List(List Int)×List(List Int)×List Int×PUnit→Prop)=>
        ∃(y7:Bool),
         It.fn((v5.1,v5.2.1,v5.2.2.1,()),List.take v5.2.2.2.2.1.length(List.drop((0:Nat))v5.2.2.2.2.1),())=some y7∧
          Br y7
           (∃(y8:(List Int×PUnit)×PUnit),
            agl.fn(List.take v5.2.2.2.2.1.length(List.drop((0:Nat))v5.2.2.2.2.1),())=some y8∧
             (0:Nat)=(0:Nat)∧
              v5.2.2.2.1.length=v5.2.2.2.1.length∧
               v5.2.2.2.1.length+(List.take(1:Nat)(List.drop(0:Nat) [List.take y8.1.1.length(List.drop(0:Nat)y8.1.1)])).length≤Am∧
                (0:Nat)=(0:Nat)∧
                 v5.2.2.2.2.1.length=v5.2.2.2.2.1.length∧
                  ∃(y9:(Bool×PUnit)×List Int×PUnit),
                   Js.fn(v5.2.2.2.2.1,())=some y9∧
                    (y9.2.1.length=v5.2.2.2.2.1.length∧v5.2.2.2.2.1.length=v5.2.2.2.2.1.length)∧
                     Br(!y9.1.1)
                      (P
                       ((List.take(v5.2.2.2.1++List.take(1:Nat)(List.drop(0:Nat) [List.take y8.1.1.length(List.drop(0:Nat)y8.1.1)])).length
                          (List.drop(0:Nat)(v5.2.2.2.1++List.take(1:Nat)(List.drop(0:Nat) [List.take y8.1.1.length(List.drop(0:Nat)y8.1.1)]))),
                         ()),
                        ()))
                      ((0:Nat)=(0:Nat)∧
                       (v5.2.2.2.1++List.take(1:Nat)(List.drop(0:Nat) [List.take y8.1.1.length(List.drop(0:Nat)y8.1.1)])).length=
                         (v5.2.2.2.1++List.take(1:Nat)(List.drop(0:Nat) [List.take y8.1.1.length(List.drop(0:Nat)y8.1.1)])).length∧
                        (0:Nat)=(0:Nat)∧
                         v5.2.2.2.2.1.length=y9.2.1.length∧
                          k6
                           (v5.1,v5.2.1,v5.2.2.1,
                            v5.2.2.2.1++List.take(1:Nat)(List.drop(0:Nat) [List.take y8.1.1.length(List.drop(0:Nat)y8.1.1)]),y9.2.1,())))
           ((0:Nat)=(0:Nat)∧
            v5.2.2.2.2.1.length=v5.2.2.2.2.1.length∧
             ∃(y8:(Bool×PUnit)×List Int×PUnit),
              Js.fn(v5.2.2.2.2.1,())=some y8∧
               (y8.2.1.length=v5.2.2.2.2.1.length∧v5.2.2.2.2.1.length=v5.2.2.2.2.1.length)∧
                Br(!y8.1.1)(P((List.take v5.2.2.2.1.length(List.drop((0:Nat))v5.2.2.2.1),()),()))
                 ((0:Nat)=(0:Nat)∧
                  v5.2.2.2.1.length=v5.2.2.2.1.length∧
                   (0:Nat)=(0:Nat)∧v5.2.2.2.2.1.length=y8.2.1.length∧k6(v5.1,v5.2.1,v5.2.2.1,v5.2.2.2.1,y8.2.1,()))))
       (n,str,g,[],y4.1.1,PUnit.unit))=Nk Zh(look [(110,Mg),(136,It),(121,agl),(137,Js)])Nq Try.f87(n,str,g,())P:=by kernel_rfl
theorem bsf {m:Nat} (n:Int)(str:ByteArray)(g:List(List Int))(l:List Int)(out:List(List Int))(P:((List(List Int)×Unit)×Unit)→Prop):(Br((↑l.length:Int)==n)
 (∃(y7:Bool),
  It.fn((n,str,g,()),l,())=some y7∧
   Br y7
    (∃(y8:(List Int×PUnit)×PUnit),
     Fa.fn(l,())=some y8∧
      (0:Nat)=(0:Nat)∧
       out.length=out.length∧
        out.length+(List.take(1:Nat)(List.drop(0:Nat) [List.take y8.1.1.length(List.drop(0:Nat)y8.1.1)])).length≤Am∧
         P
          ((List.take(out++List.take(1:Nat)(List.drop(0:Nat) [List.take y8.1.1.length(List.drop(0:Nat)y8.1.1)])).length
             (List.drop(0:Nat)(out++List.take(1:Nat)(List.drop(0:Nat) [List.take y8.1.1.length(List.drop(0:Nat)y8.1.1)]))),
            ()),
           ()))
    (P((List.take out.length(List.drop(0:Nat)out),()),())))
 ((0:Nat)=(0:Nat)∧
  out.length=out.length∧
   Bo
    (fun(v7:Int×Int×ByteArray×List(List Int)×List(List Int)×PUnit)(k8:Int×Int×ByteArray×List(List Int)×List(List Int)×PUnit→Prop)=>
     Br(decide(v7.1<v7.2.1))
      (∃(y9:Bool),
       El.fn(l,v7.1,())=some y9∧
        Br(!y9)
         (((∃(y10:(List Int×PUnit)×PUnit),
            Fa.fn(l,())=some y10∧
             (0:Nat)=(0:Nat)∧
              y10.1.1.length=y10.1.1.length∧
               y10.1.1.length+(List.take(1:Nat)(List.drop(0:Nat) [v7.1])).length≤Am∧
                (0:Nat)=(0:Nat)∧
                 v7.2.2.2.2.1.length=v7.2.2.2.2.1.length∧
                  ∃(y11:(List(List Int)×PUnit)×PUnit),
                   (Kt m).fn
                      (v7.2.1,v7.2.2.1,v7.2.2.2.1,
                       List.take(y10.1.1++List.take(1:Nat)(List.drop(0:Nat) [v7.1])).length
                        (List.drop(0:Nat)(y10.1.1++List.take(1:Nat)(List.drop(0:Nat) [v7.1]))),
                       v7.2.2.2.2.1,())=
                     some y11∧
                    (0:Nat)=(0:Nat)∧
                     y11.1.1.length=y11.1.1.length∧k8(IntKind.i64.wrap(v7.1+(1:Int)),v7.2.1,v7.2.2.1,v7.2.2.2.1,y11.1.1,()))∧
           ∃(y10:(List Int×PUnit)×PUnit),
            Fa.fn(l,())=some y10∧
             (0:Nat)=(0:Nat)∧
              y10.1.1.length=y10.1.1.length∧
               y10.1.1.length+(List.take(1:Nat)(List.drop(0:Nat) [v7.1])).length≤Am∧
                (0:Nat)=(0:Nat)∧
                 v7.2.2.2.2.1.length=v7.2.2.2.2.1.length∧
                  ∃(y11:(List(List Int)×PUnit)×PUnit),
                   (Kt m).fn
                      (v7.2.1,v7.2.2.1,v7.2.2.2.1,
                       List.take(y10.1.1++List.take(1:Nat)(List.drop(0:Nat) [v7.1])).length
                        (List.drop(0:Nat)(y10.1.1++List.take(1:Nat)(List.drop(0:Nat) [v7.1]))),
                       v7.2.2.2.2.1,())=
                     some y11∧
                    (0:Nat)=(0:Nat)∧
                     y11.1.1.length=y11.1.1.length∧k8(IntKind.i64.wrap(v7.1+(1:Int)),v7.2.1,v7.2.2.1,v7.2.2.2.1,y11.1.1,()))∧
          (∃(y10:(List Int×PUnit)×PUnit),
            Fa.fn(l,())=some y10∧
             ((0:Nat)=(0:Nat)∧
               y10.1.1.length=y10.1.1.length∧
                y10.1.1.length+(List.take(1:Nat)(List.drop(0:Nat) [v7.1])).length≤Am∧
                 (0:Nat)=(0:Nat)∧
                  v7.2.2.2.2.1.length=v7.2.2.2.2.1.length∧
                   ∃(y11:(List(List Int)×PUnit)×PUnit),
                    (Kt m).fn
                       (v7.2.1,v7.2.2.1,v7.2.2.2.1,
                        List.take(y10.1.1++List.take(1:Nat)(List.drop(0:Nat) [v7.1])).length
                         (List.drop(0:Nat)(y10.1.1++List.take(1:Nat)(List.drop(0:Nat) [v7.1]))),
                        v7.2.2.2.2.1,())=
                      some y11∧
                     (0:Nat)=(0:Nat)∧
                      y11.1.1.length=y11.1.1.length∧k8(IntKind.i64.wrap(v7.1+(1:Int)),v7.2.1,v7.2.2.1,v7.2.2.2.1,y11.1.1,()))∧
              ((0:Nat)=(0:Nat)∧
                y10.1.1.length=y10.1.1.length∧
                 y10.1.1.length+(List.take(1:Nat)(List.drop(0:Nat) [v7.1])).length≤Am∧
                  (0:Nat)=(0:Nat)∧
                   v7.2.2.2.2.1.length=v7.2.2.2.2.1.length∧
                    ∃(y11:(List(List Int)×PUnit)×PUnit),
                     (Kt m).fn
                        (v7.2.1,v7.2.2.1,v7.2.2.2.1,
                         List.take(y10.1.1++List.take(1:Nat)(List.drop(0:Nat) [v7.1])).length
                          (List.drop(0:Nat)(y10.1.1++List.take(1:Nat)(List.drop(0:Nat) [v7.1]))),
                         v7.2.2.2.2.1,())=
                       some y11∧
                      (0:Nat)=(0:Nat)∧
                       y11.1.1.length=y11.1.1.length∧k8(IntKind.i64.wrap(v7.1+(1:Int)),v7.2.1,v7.2.2.1,v7.2.2.2.1,y11.1.1,()))∧
               (0:Nat)=(0:Nat)∧
                y10.1.1.length=y10.1.1.length∧
                 y10.1.1.length+(List.take(1:Nat)(List.drop(0:Nat) [v7.1])).length≤Am∧
                  (0:Nat)=(0:Nat)∧
                   v7.2.2.2.2.1.length=v7.2.2.2.2.1.length∧
                    ∃(y11:(List(List Int)×PUnit)×PUnit),
                     (Kt m).fn
                        (v7.2.1,v7.2.2.1,v7.2.2.2.1,
                         List.take(y10.1.1++List.take(1:Nat)(List.drop(0:Nat) [v7.1])).length
                          (List.drop(0:Nat)(y10.1.1++List.take(1:Nat)(List.drop(0:Nat) [v7.1]))),
                         v7.2.2.2.2.1,())=
                       some y11∧
                      (0:Nat)=(0:Nat)∧
                       y11.1.1.length=y11.1.1.length∧k8(IntKind.i64.wrap(v7.1+(1:Int)),v7.2.1,v7.2.2.1,v7.2.2.2.1,y11.1.1,()))∧
           (∃(y10:(List Int×PUnit)×PUnit),
             Fa.fn(l,())=some y10∧
              (0:Nat)=(0:Nat)∧
               y10.1.1.length=y10.1.1.length∧
                y10.1.1.length+(List.take(1:Nat)(List.drop(0:Nat) [v7.1])).length≤Am∧
                 (0:Nat)=(0:Nat)∧
                  v7.2.2.2.2.1.length=v7.2.2.2.2.1.length∧
                   ∃(y11:(List(List Int)×PUnit)×PUnit),
                    (Kt m).fn
                       (v7.2.1,v7.2.2.1,v7.2.2.2.1,
                        List.take(y10.1.1++List.take(1:Nat)(List.drop(0:Nat) [v7.1])).length
                         (List.drop(0:Nat)(y10.1.1++List.take(1:Nat)(List.drop(0:Nat) [v7.1]))),
                        v7.2.2.2.2.1,())=
                      some y11∧
                     (0:Nat)=(0:Nat)∧
                      y11.1.1.length=y11.1.1.length∧k8(IntKind.i64.wrap(v7.1+(1:Int)),v7.2.1,v7.2.2.1,v7.2.2.2.1,y11.1.1,()))∧
            ∃(y10:(List Int×PUnit)×PUnit),
             Fa.fn(l,())=some y10∧
              ((0:Nat)=(0:Nat)∧
                y10.1.1.length=y10.1.1.length∧
                 y10.1.1.length+(List.take(1:Nat)(List.drop(0:Nat) [v7.1])).length≤Am∧
                  (0:Nat)=(0:Nat)∧
                   v7.2.2.2.2.1.length=v7.2.2.2.2.1.length∧
                    ∃(y11:(List(List Int)×PUnit)×PUnit),
                     (Kt m).fn
                        (v7.2.1,v7.2.2.1,v7.2.2.2.1,
                         List.take(y10.1.1++List.take(1:Nat)(List.drop(0:Nat) [v7.1])).length
                          (List.drop(0:Nat)(y10.1.1++List.take(1:Nat)(List.drop(0:Nat) [v7.1]))),
                         v7.2.2.2.2.1,())=
                       some y11∧
                      (0:Nat)=(0:Nat)∧
                       y11.1.1.length=y11.1.1.length∧k8(IntKind.i64.wrap(v7.1+(1:Int)),v7.2.1,v7.2.2.1,v7.2.2.2.1,y11.1.1,()))∧
               (0:Nat)=(0:Nat)∧
                y10.1.1.length=y10.1.1.length∧
                 y10.1.1.length+(List.take(1:Nat)(List.drop(0:Nat) [v7.1])).length≤Am∧
                  (0:Nat)=(0:Nat)∧
                   v7.2.2.2.2.1.length=v7.2.2.2.2.1.length∧
                    ∃(y11:(List(List Int)×PUnit)×PUnit),
                     (Kt m).fn
                        (v7.2.1,v7.2.2.1,v7.2.2.2.1,
                         List.take(y10.1.1++List.take(1:Nat)(List.drop(0:Nat) [v7.1])).length
                          (List.drop(0:Nat)(y10.1.1++List.take(1:Nat)(List.drop(0:Nat) [v7.1]))),
                         v7.2.2.2.2.1,())=
                       some y11∧
                      (0:Nat)=(0:Nat)∧
                       y11.1.1.length=y11.1.1.length∧k8(IntKind.i64.wrap(v7.1+(1:Int)),v7.2.1,v7.2.2.1,v7.2.2.2.1,y11.1.1,()))
         ((0:Nat)=(0:Nat)∧
          v7.2.2.2.2.1.length=v7.2.2.2.2.1.length∧k8(IntKind.i64.wrap(v7.1+(1:Int)),v7.2.1,v7.2.2.1,v7.2.2.2.1,v7.2.2.2.2.1,())))
      (P((List.take v7.2.2.2.2.1.length(List.drop((0:Nat))v7.2.2.2.2.1),()),())))
    ((0:Int),n,str,g,out,PUnit.unit)))=Nk Zh(look [(162,It),(120,Fa),(152,El),(133,Yx.m(Kt m))])(Kt(m+1))Try.f133(n,str,g,l,out,())P:=by kernel_rfl
theorem bkj {xs:List Int} {o n:Nat} (h:o+n≤xs.length)(k:Nat):(Xp xs o n)[k]?=if o≤k∧k<o+n then xs[o+n-1-(k-o)]? else xs[k]?:=by
 unfold Xp
 have l1:(List.take o xs).length=o:=by rw [List.length_take];omega
 have l2:(List.take n(List.drop o xs)).reverse.length=n:=by rw [List.length_reverse,List.length_take,List.length_drop];omega
 rw [List.append_assoc]
 by_cases h1:k<o
 ·rw [List.getElem?_append_left(by omega),if_neg(by omega),List.getElem?_take_of_lt h1]
 ·rw [List.getElem?_append_right(by omega),l1]
  by_cases h2:k<o+n
  ·rw [List.getElem?_append_left(by omega),if_pos⟨by omega,h2⟩,List.getElem?_reverse(by rw [List.length_take,List.length_drop];omega)]
   rw [List.length_take,List.length_drop,List.getElem?_take_of_lt(by omega),List.getElem?_drop]
   congr 1
   omega
  ·rw [List.getElem?_append_right(by omega),l2,if_neg(by omega),List.getElem?_drop]
   congr 1
   omega
theorem bkl(a:List Int×Nat×Nat)(h:short a.1∧a.2.1+a.2.2≤a.1.length):Nk bsa(look [])Nw Try.f164(a,())(fun(z:Unit×List Int×Unit)=>z=((),(Xp a.1 a.2.1 a.2.2,()))):=by
 obtain⟨xs,o,n⟩:=a
 obtain⟨hs,hn⟩:=h
 dsimp only at hs hn
 unfold short at hs
 refine Eq.mp(bjj(xs,o,n)_)⟨rfl,rfl,?_⟩
 dsimp only
 refine Bo.mk(fun v=> ∃i:Nat,v.1=i∧v.2.1=(n:Int)-1-i∧2*i≤n∧v.2.2.1.length=xs.length∧ ∀k,v.2.2.1[k]?=ajq xs o n i k)(fun v=>n-v.1.toNat)
  ⟨0,rfl,by rw [Bp(by omega)(by omega)];simp,by omega,rfl,fun k=>by unfold ajq;rw [if_neg(by omega)]⟩?_
 rintro⟨i',j',ys,⟨⟩⟩⟨i,h1,h2,h3,h4,h5⟩
 dsimp only at h1 h2 h4 h5⊢
 subst h1 h2
 refine Br.dec(fun hl=>?_)fun hl=>?_
 ·have hij:i<n-1-i:=by omega
  have hj:((n:Int)-1-i).toNat=n-1-i:=by omega
  have g1:ys[o+(n-1-i)]?=xs[o+(n-1-i)]?:=by rw [h5];unfold ajq;rw [if_neg(by omega)]
  have g2:ys[o+i]?=xs[o+i]?:=by rw [h5];unfold ajq;rw [if_neg(by omega)]
  have k1:o+(n-1-i)<xs.length:=by omega
  have k2:o+i<xs.length:=by omega
  rw [hj,Int.toNat_natCast]
  refine⟨⟨by omega,by omega⟩,_,g1.trans(List.getElem?_eq_getElem k1),⟨by omega,by omega⟩,_,g2.trans(List.getElem?_eq_getElem k2),⟨by omega,by omega⟩,by omega,⟨by omega,by omega⟩,by rw [List.length_set];omega,rfl,rfl,?_⟩
  rw [Bp(by omega)(by omega),Bp(by omega)(by omega)]
  refine⟨⟨i+1,by push_cast;omega,by push_cast;omega,by omega,by rw [List.length_set,List.length_set];exact h4,fun k=>?_⟩,by omega⟩
  by_cases e1:k=o+(n-1-i)
  ·subst e1
   rw [List.getElem?_set_self(by rw [List.length_set];omega)]
   unfold ajq
   rw [if_pos(by omega),←List.getElem?_eq_getElem k2]
   congr 1;omega
  ·rw [List.getElem?_set_ne(Ne.symm e1)]
   by_cases e2:k=o+i
   ·subst e2
    rw [List.getElem?_set_self(by omega)]
    unfold ajq
    rw [if_pos(by omega),←List.getElem?_eq_getElem k1]
    congr 1;omega
   ·rw [List.getElem?_set_ne(Ne.symm e2),h5]
    unfold ajq
    by_cases e3:o≤k∧k<o+n∧(k<o+i∨o+n≤k+i)
    ·rw [if_pos e3,if_pos(by omega)]
    ·rw [if_neg e3,if_neg(by omega)]
 ·have:ys=Xp xs o n:=by
   refine List.ext_getElem? fun k=>?_
   rw [h5,bkj hn]
   unfold ajq
   by_cases e:o≤k∧k<o+n
   ·rw [if_pos e]
    split
    ·rfl
    ·have:k=o+n-1-(k-o):=by omega
     rw [←this]
   ·rw [if_neg e,if_neg(by omega)]
  rw [this]
theorem aqh:Bj Try.prog 164 Nw:=
 Bj.mkM brx As mixed Try.func164(by kernel_rfl)(by kernel_rfl)fun x h=>bkl x.1 h
abbrev axw(l:List Int):Prop:=List.Pairwise(fun a b=>b<a)l
theorem abb: ∀(t:List Int),axw t→Fe t=none
 | [],_=>rfl
 | [v],_=>rfl
 |v::y::r,h=>by
  obtain⟨h1,h2⟩:=List.pairwise_cons.1 h
  have hy:=h1 y(by simp)
  rw [Fe,abb(y::r)h2]
  show agw v(y::r)=none
  unfold agw Rf
  rw [if_neg(show¬y>v by omega),if_pos rfl]
theorem aph {s s':List Int} (h:Fe s=some s'): ∀pre:List Int,Fe(pre++s)=some(pre++s')
 | []=>h
 |v::p=>by rw [List.cons_append,Fe,aph h p];rfl
theorem aeq(v:Int): ∀(t:List Int),axw t→ ∀k(hk:k<t.length),k<Rf v t↔v<t[k]
 | [],_,k,hk=>absurd hk(Nat.not_lt_zero _)
 |x::r,h,k,hk=>by
  obtain⟨h1,h2⟩:=List.pairwise_cons.1 h
  unfold Rf
  by_cases hx:x>v
  ·rw [if_pos hx]
   rcases k with _|k
   ·simpa using hx
   ·have:=aeq v r h2 k(by simpa using hk)
    simp only [List.getElem_cons_succ]
    rw [←this];omega
  ·rw [if_neg hx]
   refine⟨fun h=>absurd h(Nat.not_lt_zero _),fun h3=>?_⟩
   rcases k with _|k
   ·exact absurd h3(by simpa using hx)
   ·simp only [List.getElem_cons_succ]at h3
    have:=h1 _(List.getElem_mem(by simpa using hk:k<r.length))
    omega
theorem asa(v:Int): ∀t:List Int,Rf v t≤t.length
 | []=>Nat.le_refl _
 |x::r=>by unfold Rf;split<;>simp [asa v r]
theorem blz {v:Int} {t:List Int} (h:axw t) {j:Nat} (hj:j<t.length)(h1:v<t[j])(h2: ∀k(hk:k<t.length),j<k→t[k]<v):Rf v t=j+1:=by
 have h3:=(aeq v t h j hj).2 h1
 have h4:=asa v t
 by_cases e:j+1<t.length
 ·have h5:=h2(j+1)e(by omega)
  have h6:=aeq v t h(j+1)e
  have: ¬(j+1<Rf v t):=fun hh=>by have:=h6.1 hh;omega
  omega
 ·omega
theorem bic {pre t:List Int} {v:Int} (h:axw t) {j:Nat} (hj:j<t.length)(h1:v<t[j])(h2: ∀k(hk:k<t.length),j<k→t[k]<v):
  Fe(pre++v::t)=some(pre++t[j]::(t.set j v).reverse):=by
 refine aph ?_ pre
 rw [Fe,abb t h]
 show agw v t=_
 unfold agw
 rw [blz h hj h1 h2,if_neg(by omega),Nat.add_sub_cancel,Er hj]
theorem bng {pre t:List Int} {y:Int} :Xp(pre++y::t)(pre.length+1)t.length=pre++y::t.reverse:=by
 unfold Xp
 have e1:List.take(pre.length+1)(pre++y::t)=pre++ [y]:=by
  rw [List.take_append,List.take_of_length_le(by omega)];simp
 have e2:List.drop(pre.length+1)(pre++y::t)=t:=by
  rw [List.drop_append,List.drop_eq_nil_of_le(by omega)];simp
 have e3:List.drop(pre.length+1+t.length)(pre++y::t)= []:=List.drop_eq_nil_of_le(by simp;omega)
 rw [e1,e2,e3,List.take_length]
 simp
theorem awf {α:Type} (pre:List α)(v a:α)(t:List α):(pre++v::t).set pre.length a=pre++a::t:=by
 rw [List.set_append,if_neg(by omega)];simp
theorem bny {α:Type} (pre:List α)(v a:α)(t:List α)(j:Nat):(pre++v::t).set(pre.length+1+j)a=pre++v::t.set j a:=by
 rw [List.set_append,if_neg(by omega),show pre.length+1+j-pre.length=j+1 by omega];rfl
theorem bll {α:Type} {xs:List α} {i:Nat} (h:i<xs.length): ∃pre v t,xs=pre++v::t∧pre.length=i:=by
 refine⟨xs.take i,xs[i],xs.drop(i+1),?_,by rw [List.length_take];omega⟩
 rw [←List.drop_eq_getElem_cons h,List.take_append_drop]
theorem bms {xs:List Int} (h:axw xs):Fe xs=none:=abb xs h
theorem bku {pre t:List Int} {v:Int} (h:axw t) {j:Nat} (hj:j<t.length)(h1:v<t[j])(h2: ∀k(hk:k<t.length),j<k→t[k]<v):
  Xp(((pre++v::t).set pre.length t[j]).set(pre.length+1+j)v)(pre.length+1)t.length=(Fe(pre++v::t)).getD []∧(Fe(pre++v::t)).isSome=true:=by
 rw [bic h hj h1 h2,awf,bny]
 have:= @bng pre(t.set j v)t[j]
 rw [List.length_set]at this
 exact⟨this,rfl⟩
theorem bhf(xs:List Int)(h:1≤xs.length∧xs.length≤20∧xs.Nodup):Nk Zh(look [(164,Nw)])Js Try.f137(xs,())(fun(z:(Bool×Unit)×List Int×Unit)=>z=(((Fe xs).isSome,()),((Fe xs).getD xs,()))):=by
 obtain⟨hl1,hl2,hnd⟩:=h
 have hne: ∀i j(hi:i<xs.length)(hj:j<xs.length),i<j→xs[i]≠xs[j]:=fun i j hi hj hij=>List.pairwise_iff_getElem.1 hnd i j hi hj hij
 refine Eq.mp(bfs xs _)⟨rfl,rfl,?_⟩
 refine Bo.mk(fun v=>v.2.1=xs∧ ∃i:Nat,i+1≤xs.length∧v.1=(i:Int)-1∧axw(xs.drop i))(fun v=>(v.1+1).toNat)
  ⟨rfl,xs.length-1,by omega,by rw [Bp(by omega)(by omega)];omega,?_⟩?_
 ·rw [List.drop_eq_getElem_cons(by omega),List.drop_eq_nil_of_le(by omega)]
  exact List.pairwise_singleton _ _
 ·rintro⟨a,ys,⟨⟩⟩⟨h1,i,h2,h3,h4⟩
  dsimp only at h1 h3⊢
  subst h1 h3
  refine Br.dec(fun hp=>?_)fun hp=>?_
  ·obtain⟨i,rfl⟩: ∃k,i=k+1:=⟨i-1,by omega⟩
   have e0:((i+1:Nat):Int)-1=(i:Int):=by omega
   rw [e0]
   have e1:IntKind.i64.wrap((i:Int)+1)=((i+1:Nat):Int):=Ak(by omega)
   rw [e1]
   simp only [Int.toNat_natCast,Nat.zero_add]
   refine⟨⟨by omega,by omega⟩,_,List.getElem?_eq_getElem(by omega),⟨by omega,by omega⟩,_,List.getElem?_eq_getElem(by omega),?_⟩
   have hsp:ys.drop i=ys[i]::ys.drop(i+1):=List.drop_eq_getElem_cons(by omega)
   refine Br.dec(fun hg=>⟨trivial,trivial,⟨⟨trivial,i,by omega,by rw [Bp(by omega)(by omega)],?_⟩,by rw [Bp(by omega)(by omega)];omega⟩⟩)fun hg=>?_
   ·rw [hsp]
    refine List.pairwise_cons.2⟨fun b hb=>?_,h4⟩
    have hsp2:ys.drop(i+1)=ys[i+1]::ys.drop(i+1+1):=List.drop_eq_getElem_cons(by omega)
    rw [hsp2]at hb h4
    rcases List.mem_cons.1 hb with rfl|hb
    ·exact hg
    ·exact Int.lt_trans((List.pairwise_cons.1 h4).1 b hb)hg
   ·refine Br.dec(fun hn=>by omega)fun _=>⟨trivial,trivial,?_⟩
    have hlt:ys[i]<ys[i+1]:=by
     have:=hne i(i+1)(by omega)(by omega)(by omega)
     omega
    obtain⟨pre,v,t,hx,hpl⟩:=bll(show i<ys.length by omega)
    have hlen:ys.length=pre.length+1+t.length:=by rw [hx];simp;omega
    have hv:ys[i]=v:=by simp [hx,←hpl]
    have ht: ∀k(hk:k<t.length),ys[i+1+k]'(by omega)=t[k]:=fun k hk=>by
     subst hpl
     simp only [hx]
     rw [List.getElem_append_right(by omega)]
     simp only [show pre.length+1+k-pre.length=k+1 by omega,List.getElem_cons_succ]
    have hd:axw t:=by
     have:ys.drop(i+1)=t:=by rw [hx,←hpl,List.drop_append,List.drop_eq_nil_of_le(by omega)];simp
     rw [←this];exact h4
    refine Bo.mk(fun w=>w.2.1=ys∧ ∃k:Nat,k<t.length∧w.1=((i+1+k:Nat):Int)∧ ∀k'(hk:k'<t.length),k<k'→t[k']<v)(fun w=>w.1.toNat)
     ⟨rfl,t.length-1,by omega,by rw [Bp(by omega)(by omega)];omega,fun k' hk hh=>by omega⟩?_
    rintro⟨b,zs,⟨⟩⟩⟨g1,k,g2,g3,g4⟩
    dsimp only at g1 g3⊢
    subst g1 g3
    simp only [Int.toNat_natCast]
    refine⟨⟨by omega,by omega⟩,_,List.getElem?_eq_getElem(by omega),⟨by omega,by omega⟩,_,List.getElem?_eq_getElem(by omega),?_⟩
    rw [ht k g2,hv]
    refine Br.dec(fun hg=>?_)fun hg=>?_
    ·have hk0:0<k:=by
      refine Nat.pos_of_ne_zero fun e=>?_
      subst e
      have:=ht 0 g2
      simp only [Nat.add_zero]at this
      omega
     refine⟨trivial,trivial,⟨⟨trivial,k-1,by omega,by rw [Bp(by omega)(by omega)];omega,fun k' hk hh=>?_⟩,by rw [Bp(by omega)(by omega)];omega⟩⟩
     by_cases e:k'=k
     ·subst e;exact hg
     ·exact g4 k' hk(by omega)
    ·have hgt:v<t[k]:=by
      have:=hne i(i+1+k)(by omega)(by omega)(by omega)
      rw [hv,ht k g2]at this
      omega
     have hsw:= @bku pre t v hd k g2 hgt g4
     have hrm:List.length(Xp((zs.set i zs[i+1+k]).set(i+1+k)zs[i])(i+1)(zs.length-(i+1)))=((zs.set i zs[i+1+k]).set(i+1+k)zs[i]).length:=by
      unfold Xp
      simp only [List.length_append,List.length_reverse,List.length_take,List.length_drop,List.length_set]
      omega
     have et:zs.length-(i+1)=t.length:=by omega
     refine⟨⟨by omega,by omega⟩,_,List.getElem?_eq_getElem(by omega),⟨by omega,by omega⟩,_,List.getElem?_eq_getElem(by omega),⟨by omega,by omega⟩,by omega,⟨by omega,by omega⟩,by rw [List.length_set];omega,⟨by omega,by omega,by omega⟩,_,if_pos(And.intro(show short((zs.set i zs[i+1+k]).set(i+1+k)zs[i])by unfold short;rw [List.length_set,List.length_set];omega)(show i+1+(zs.length-(i+1))≤((zs.set i zs[i+1+k]).set(i+1+k)zs[i]).length by rw [List.length_set,List.length_set];omega)),hrm,?_⟩
     ·show((true,()),Xp((zs.set i zs[i+1+k]).set(i+1+k)zs[i])(i+1)(zs.length-(i+1)),())=_
      rw [et,ht k g2,hv]
      have e3:Xp((zs.set i t[k]).set(i+1+k)v)(i+1)t.length=(Fe zs).getD []∧(Fe zs).isSome=true:=by
       have:=hsw
       rw [←hx,hpl]at this
       exact this
      rw [e3.1,e3.2]
      cases hm:Fe zs with
      |none=>rw [hm]at e3;exact absurd e3.2(by decide)
      |some y=>rfl
  ·have:i=0:=by omega
   subst this
   refine Br.dec(fun _=>?_)fun hn=>by omega
   rw [List.drop_zero]at h4
   rw [bms h4]
   rfl
theorem amy:Bj Try.prog 137 Js:=
 Bj.mkM Tn(Gv aqh As)mixed Try.func137(by kernel_rfl)(by kernel_rfl)fun x h=>bhf x.1 h
theorem bdd(n:Int)(h:0≤n∧n≤20):Nk Zh(look [])Mg Try.f110(n,())(fun(z:(List Int×Unit)×Unit)=>z=((upto n.toNat,()),())):=by
 refine Eq.mp(bde n _)⟨⟨by omega,by show n<(4294967296:Int)+1;omega⟩,rfl,rfl,rfl,?_⟩
 refine Ao n.toNat(fun v=>v.1)(fun j v=>v.2.1.length=n.toNat∧v.2.1.take j=upto j)rfl⟨by simp,by simp [upto]⟩?_
 rintro j⟨i,ys,⟨⟩⟩K hj hi⟨h1,h2⟩hK
 dsimp only at hi h1 h2⊢
 subst hi
 rw [List.length_replicate]
 simp only [Int.toNat_natCast,Nat.zero_add]
 refine Br.dec(fun hl=>⟨⟨by omega,by omega⟩,by omega,trivial,by rw [List.length_set],?_⟩)fun hl=>?_
 ·rw [Ak(by omega)]
  refine hK(by omega)_ rfl⟨by rw [List.length_set];exact h1,?_⟩
  rw [List.take_add_one,List.take_set_of_le(by omega),h2,List.getElem?_set_self(by omega),Nj]
  rfl
 ·have:j=ys.length:=by omega
  subst this
  rw [List.take_length]at h2
  rw [List.drop_zero,List.take_length,h2,h1]
theorem akx:Bj Try.prog 110 Mg:=
 Bj.mkM Tn As mixed Try.func110(by kernel_rfl)(by kernel_rfl)fun x h=>bdd x.1 h
theorem baz(xs:List Int)(h:short xs):Nk Zh(look [])Fa Try.f120(xs,())(fun(z:(List Int×Unit)×Unit)=>z=((xs,()),())):=by
 unfold short at h
 refine Eq.mp(azf xs _)⟨rfl,rfl,by show 0+xs.length≤4294967296;omega,?_⟩
 simp only [Bq,List.nil_append]
theorem alf:Bj Try.prog 120 Fa:=
 Bj.mkM Tn As mixed Try.func120(by kernel_rfl)(by kernel_rfl)fun x h=>baz x.1 h
inductive Run:List Int→List(List Int)→List Int→Prop where
 |one(a:List Int):Run a [a]a
 |more {a c b:List Int} {L:List(List Int)} :Fe a=some c→Run c L b→Run a(a::L)b
theorem Run.glue {a b c d:List Int} {L M:List(List Int)} (h:Run a L b)(hn:Fe b=some c)(h2:Run c M d):Run a(L++M)d:=by
 induction h with
 |one a=>exact .more hn h2
 |more h3 _ ih=>exact .more h3(ih hn)
theorem Run.cons {a b:List Int} {L:List(List Int)} (h:Run a L b)(v:Int):Run(v::a)(L.map(v:: ·))(v::b):=by
 induction h with
 |one a=>exact .one _
 |more h3 _ ih=>exact .more(aph h3 [v])ih
abbrev Inc(l:List Int):Prop:=List.Pairwise(fun a b=>a<b)l
theorem awk: ∀(k:Nat)(R:List Int),Inc R→R.length=k→Run R(lex k R)R.reverse
 |0,R,_,hl=>by
  have:R= []:=List.length_eq_zero_iff.1 hl
  subst this
  exact .one []
 |k+1,R,hR,hl=>by
  have key: ∀(B A:List Int)(v:Int),R=A++v::B→Run(v::(A++B))((v::B).flatMap fun u=>(lex k(R.erase u)).map(u:: ·))R.reverse:=by
   intro B
   induction B with
   |nil=>
    intro A v hA
    have he:R.erase v=A:=by
     rw [hA,List.erase_append_right _(fun hm=>by
      have:=(List.pairwise_append.1(hA▸hR)).2.2 v hm v(by simp)
      omega)]
     simp
    have h1:=awk k A((List.pairwise_append.1(hA▸hR)).1)(by rw [hA]at hl;simp at hl;omega)
    simp only [List.flatMap_cons,List.flatMap_nil,List.append_nil]
    rw [he,hA]
    have h2:=h1.cons v
    simpa using h2
   |cons v' B ih=>
    intro A v hA
    have hp:=List.pairwise_append.1(hA▸hR)
    have hp2:=List.pairwise_cons.1 hp.2.1
    have hp3:=List.pairwise_cons.1 hp2.2
    have he:R.erase v=A++v'::B:=by
     rw [hA,List.erase_append_right _(fun hm=>by
      have:=hp.2.2 v hm v(by simp)
      omega)]
     simp
    have hinc:Inc(A++v'::B):=List.pairwise_append.2⟨hp.1,hp2.2,fun a ha b hb=>hp.2.2 a ha b(List.mem_cons_of_mem _ hb)⟩
    have h1:=(awk k(A++v'::B)hinc(by rw [hA]at hl;simp at hl⊢;omega)).cons v
    have h2:=ih(A++ [v])v'(by rw [hA];simp)
    rw [List.flatMap_cons,he]
    refine h1.glue ?_ h2
    have hrev:(A++v'::B).reverse=B.reverse++v'::A.reverse:=by simp
    have hdec:axw(B.reverse++v'::A.reverse):=by
     rw [←hrev]
     exact List.pairwise_reverse.2 hinc
    rw [hrev]
    have hj:B.reverse.length<(B.reverse++v'::A.reverse).length:=by simp
    have hg:(B.reverse++v'::A.reverse)[B.reverse.length]=v':=by simp
    have:= @bic [](B.reverse++v'::A.reverse)v hdec B.reverse.length hj(by rw [hg];exact hp2.1 v'(by simp))(fun q hq hlt=>by
     rw [List.getElem_append_right(by omega)]
     obtain⟨q',hq'⟩: ∃q',q-B.reverse.length=q'+1:=⟨q-B.reverse.length-1,by omega⟩
     have hq2:q'<A.reverse.length:=by simp at hq hq'⊢;omega
     have hm:A.reverse[q']∈A:=List.mem_reverse.1(List.getElem_mem _)
     have e:(v'::A.reverse)[q-B.reverse.length]'(by rw [hq'];simpa using hq2)=A.reverse[q']:=by simp only [hq',List.getElem_cons_succ]
     rw [e]
     exact hp.2.2 _ hm v(by simp))
    rw [List.nil_append]at this
    rw [this,hg,awf]
    simp only [List.nil_append,List.reverse_append,List.reverse_cons,List.reverse_reverse,List.append_assoc,List.cons_append]
  cases R with
  |nil=>simp at hl
  |cons v B=>
   have:=key B []v rfl
   rw [lex]
   exact this
theorem aoi: ∀(k:Nat)(R x:List Int),R.length=k→x∈lex k R→x.Perm R
 |0,R,x,hl,hx=>by
  have:R= []:=List.length_eq_zero_iff.1 hl
  subst this
  rw [lex,List.mem_singleton]at hx
  subst hx
  exact .nil
 |k+1,R,x,hl,hx=>by
  rw [lex,List.mem_flatMap]at hx
  obtain⟨v,hv,hx⟩:=hx
  obtain⟨y,hy,rfl⟩:=List.mem_map.1 hx
  have h1:=aoi k(R.erase v)y(by rw [List.length_erase_of_mem hv];omega)hy
  exact(h1.cons v).trans(List.perm_cons_erase hv).symm
def bht:Nat→Nat
 |0=>1
 |k+1=>(k+1)*bht k
theorem azo {α β:Type} {n:Nat} (f:α→List β): ∀(l:List α),(∀a∈l,(f a).length=n)→(l.flatMap f).length=l.length*n
 | [],_=>by simp
 |a::r,h=>by
  rw [List.flatMap_cons,List.length_append,azo f r(fun b hb=>h b(List.mem_cons_of_mem _ hb)),h a(by simp),List.length_cons,Nat.succ_mul]
  omega
theorem bhu: ∀(k:Nat)(R:List Int),R.length=k→(lex k R).length=bht k
 |0,_,_=>rfl
 |k+1,R,hl=>by
  rw [lex,azo(n:=bht k)_ _(fun v hv=>by rw [List.length_map];exact bhu k _(by rw [List.length_erase_of_mem hv];omega)),hl]
  rfl
theorem bmr: ∀k,k≤7→bht k≤5040:=by decide
theorem bbh(n:Nat):Inc(upto n):=by
 unfold upto
 refine List.pairwise_map.2(List.Pairwise.imp ?_ List.pairwise_lt_range)
 intro a b h
 exact Int.ofNat_lt.2 h
theorem apm {n:Nat} (h:n≤7):(lex n(upto n)).length≤5040:=by rw [bhu n _(Hz n)];exact bmr n h
theorem aow {n:Int} {x:List Int} (h1:1≤n)(h2:n≤20)(h:x.Perm(upto n.toNat)):Di n x=true:=by
 have hl:x.length=n.toNat:=by rw [h.length_eq,Hz]
 refine Dg.2⟨by omega,Dg.2⟨by omega,by omega,fun j hj _=>?_⟩⟩
 have hm:=Hy.1(h.mem_iff.1(List.getElem_mem hj))
 refine⟨hm.1,by omega,fun hc=>?_⟩
 have hnd:x.Nodup:=h.nodup_iff.2(Qw _)
 rw [←List.take_append_drop j x,List.drop_eq_getElem_cons hj]at hnd
 exact(List.pairwise_append.1 hnd).2.2 _ hc _(List.mem_cons_self ..)rfl
theorem Run.head {a b:List Int} {L:List(List Int)} (h:Run a L b): ∃M,L=a::M:=by
 cases h with
 |one=>exact⟨_,rfl⟩
 |more _ _=>exact⟨_,rfl⟩
theorem Run.at {a b:List Int} {L:List(List Int)} (h:Run a L b): ∀j(hj:j<L.length),(∀h2:j+1<L.length,Fe L[j]=some L[j+1])∧(j+1=L.length→L[j]=b):=by
 induction h with
 |one a=>
  intro j hj
  simp only [List.length_singleton]at hj
  have:j=0:=by omega
  subst this
  exact⟨fun h2=>by simp at h2,fun _=>rfl⟩
 |more h3 h4 ih=>
  intro j hj
  rcases j with _|j
  ·obtain⟨M,hM⟩:=h4.head
   refine⟨fun h2=>?_,fun h2=>?_⟩
   ·simp only [List.getElem_cons_zero,List.getElem_cons_succ]
    subst hM
    exact h3
   ·subst hM;simp at h2
  ·have:=ih j(by simpa using hj)
   refine⟨fun h2=>?_,fun h2=>?_⟩
   ·simp only [List.getElem_cons_succ]
    exact this.1(by simpa using h2)
   ·simp only [List.getElem_cons_succ]
    exact this.2(by simpa using h2)
theorem Run.distinct {a b:List Int} {L:List(List Int)} (h:Run a L b)(hb:Fe b=none): ∀k i j(hi:i<L.length)(hj:j<L.length),L.length-j=k→i<j→L[i]≠L[j]:=by
 intro k
 induction k with
 |zero=>intro i j hi hj hk;omega
 |succ k ih=>
  intro i j hi hj hk hij he
  by_cases e:j+1<L.length
  ·have h1:=(h.at i hi).1(by omega)
   have h2:=(h.at j hj).1 e
   rw [he,h2]at h1
   exact ih(i+1)(j+1)(by omega)e(by omega)(by omega)(Option.some.inj h1).symm
  ·have h1:=(h.at i hi).1(by omega)
   have h2:=(h.at j hj).2(by omega)
   rw [he,h2,hb]at h1
   cases h1
theorem Run.idx {a b:List Int} {L:List(List Int)} (h:Run a L b)(hb:Fe b=none) {j:Nat} (hj:j<L.length):L.idxOf L[j]=j:=by
 have h1:L.idxOf L[j]<L.length:=List.idxOf_lt_length_of_mem(List.getElem_mem _)
 have h2:L[L.idxOf L[j]]=L[j]:=List.getElem_idxOf h1
 rcases Nat.lt_trichotomy(L.idxOf L[j])j with h3|h3|h3
 ·exact absurd h2(h.distinct hb _ _ _ h1 hj rfl h3)
 ·exact h3
 ·exact absurd h2.symm(h.distinct hb _ _ _ hj h1 rfl h3)
theorem bmw(n:Nat):Run(upto n)(lex n(upto n))(upto n).reverse:=awk n _(bbh n)(Hz n)
theorem asb(n:Nat):Fe(upto n).reverse=none:=abb _(List.pairwise_reverse.2(bbh n))
theorem bdk {α:Type} (f:α→Bool)(L:List α) {j:Nat} (h:j<L.length):(L.take(j+1)).filter f=(L.take j).filter f++if f L[j]=true then [L[j]]else []:=by
 rw [List.take_add_one,List.getElem?_eq_getElem h,List.filter_append]
 congr 1
 simp only [Option.toList]
 by_cases e:f L[j]=true
 ·rw [if_pos e,List.filter_cons_of_pos e];rfl
 ·rw [if_neg e,List.filter_cons_of_neg e];rfl
theorem bgp(n:Int)(str:ByteArray)(g:List(List Int))(h:At(n,str,g,())=true∧n≤7):Nk Zh(look [(110,Mg),(136,It),(121,agl),(137,Js)])Nq Try.f87(n,str,g,())(fun(z:(List(List Int)×Unit)×Unit)=>z=((Fp(n,str,g,()),()),())):=by
 obtain⟨hv,h7⟩:=h
 have hvl:=adt hv
 dsimp only at hvl
 refine Eq.mp(bex n str g _)⟨_,if_pos⟨by show 0≤n;omega,by show n≤20;omega⟩,rfl,rfl,rfl,rfl,?_⟩
 show Bo _(n,str,g,[],upto n.toNat,PUnit.unit)
 generalize hL:lex n.toNat(upto n.toNat)=L
 have hrun:=bmw n.toNat
 have hperm: ∀x∈L,x.Perm(upto n.toNat):=fun x hx=>aoi _ _ x(Hz _)(hL▸hx)
 have hlen:=apm(n:=n.toNat)(by omega)
 rw [hL]at hrun hlen
 have hat:=hrun.at
 have hfin: ∀j(hj:j<L.length)(o:Option(List Int)),Fe L[j]=o→(o=none∧j+1=L.length)∨(∃h2:j+1<L.length,o=some L[j+1]):=fun j hj o ho=>by
  by_cases e:j+1<L.length
  ·exact .inr⟨e,by rw [←ho];exact(hat j hj).1 e⟩
  ·refine .inl⟨?_,by omega⟩
   rw [←ho,(hat j hj).2(by omega)]
   exact asb _
 have hsy:Fp(n,str,g,())=L.filter(Gu(n,str,g,())):=by unfold Fp;rw [hL]
 have hix: ∀j(hj:j<L.length),L.idxOf L[j]=j:=fun j hj=>hrun.idx(asb _)hj
 obtain⟨M,hM⟩:=hrun.head
 have h0:0<L.length:=by rw [hM];simp
 have hgen: ∀j(hj:j<L.length),Di n L[j]=true:=fun j hj=>aow hvl.1(by omega)(hperm _(List.getElem_mem _))
 have hlen2: ∀j(hj:j<L.length),L[j].length=n.toNat:=fun j hj=>by rw [(hperm _(List.getElem_mem _)).length_eq,Hz]
 have hnd: ∀j(hj:j<L.length),L[j].Nodup:=fun j hj=>(hperm _(List.getElem_mem _)).nodup_iff.2(Qw _)
 have hfl: ∀j,((L.take j).filter(Gu(n,str,g,()))).length≤5040:=fun j=>Nat.le_trans(List.length_filter_le _ _)(by rw [List.length_take];omega)
 refine Bo.mk(fun v=>v.1=n∧v.2.1=str∧v.2.2.1=g∧ ∃j,∃h:j<L.length,v.2.2.2.1=(L.take j).filter(Gu(n,str,g,()))∧v.2.2.2.2.1=L[j])
  (fun v=>L.length-L.idxOf v.2.2.2.2.1)⟨rfl,rfl,rfl,0,h0,by simp,by simp [hM]⟩?_
 rintro⟨n',str',g',out,q,⟨⟩⟩⟨h1,h2,h3,j,hj,h4,h5⟩
 dsimp only at h1 h2 h3 h4 h5
 subst h1 h2 h3 h4 h5
 dsimp only
 have hshort:short L[j]:=by unfold short;rw [hlen2];omega
 rw [Bq L[j]]
 have hft:=bdk(Gu(n',str',g',()))L hj
 have step: ∀out',out'=(L.take(j+1)).filter(Gu(n',str',g',()))→
   ∃(y9:(Bool×PUnit)×List Int×PUnit),Js.fn(L[j],())=some y9∧(y9.2.1.length=L[j].length∧L[j].length=L[j].length)∧
    Br(!y9.1.1)(((List.take out'.length(List.drop 0 out'),()),())=((Fp(n',str',g',()),()),()))
     ((0:Nat)=(0:Nat)∧out'.length=out'.length∧(0:Nat)=(0:Nat)∧L[j].length=y9.2.1.length∧
      ((n'=n'∧str'=str'∧g'=g'∧ ∃j1,∃_:j1<L.length,out'=(L.take j1).filter(Gu(n',str',g',()))∧y9.2.1=L[j1])∧L.length-L.idxOf y9.2.1<L.length-L.idxOf L[j])):=by
  intro out' ho
  refine⟨_,if_pos⟨by show 1≤L[j].length;rw [hlen2];omega,by show L[j].length≤20;rw [hlen2];omega,hnd j hj⟩,?_⟩
  rw [Bq]
  rcases hfin j hj _ rfl with⟨e1,e2⟩|⟨e1,e2⟩
  ·simp only [e1,Option.isSome,Option.getD,Bool.not_false]
   refine⟨⟨trivial,trivial⟩,⟨fun _=>?_,fun he=>(by cases he)⟩⟩
   rw [ho,hsy,e2,List.take_length]
  ·simp only [e2,Option.isSome,Option.getD,Bool.not_true]
   have hll:L[j+1].length=L[j].length:=by rw [hlen2,hlen2]
   exact⟨⟨hll,trivial⟩,⟨fun he=>(by cases he),fun _=>⟨trivial,trivial,trivial,hll.symm,⟨trivial,trivial,trivial,j+1,e1,ho,rfl⟩,by rw [hix,hix];omega⟩⟩⟩
 refine⟨_,if_pos⟨hv,hgen j hj⟩,⟨fun hs=>?_,fun hs=>?_⟩⟩
 ·have hs:Gu(n',str',g',())L[j]=true:=hs
  rw [if_pos hs]at hft
  refine⟨_,if_pos hshort,rfl,rfl,?_,rfl,rfl,?_⟩
  ·show _+1≤4294967296
   have:=hfl j
   omega
  ·exact step _(show _++List.take 1(List.drop 0 [List.take L[j].length(List.drop 0 L[j])])=_ by rw [Bq L[j]];exact hft.symm)
 ·have hs:Gu(n',str',g',())L[j]=false:=hs
  rw [if_neg(by rw [hs];decide),List.append_nil]at hft
  exact⟨rfl,rfl,step _ hft.symm⟩
theorem ani:Bj Try.prog 87 Nq:=
 Bj.mkM Tn(Gv akx(Ae ail(Gv aul(Gv amy As))))mixed Try.func87(by kernel_rfl)(by kernel_rfl)fun x h=>bgp x.1 x.2.1 x.2.2.1 h
theorem bma {n:Int} {x:List Int} (h1:1≤n)(h2:n≤20)(hl:x.length=n.toNat)(hnd:x.Nodup)(hr:Ez n.toNat x):Di n x=true:=by
 refine Dg.2⟨by omega,Dg.2⟨by omega,by omega,fun j hj _=>?_⟩⟩
 have hm:=hr _(List.getElem_mem hj)
 refine⟨hm.1,by omega,fun hc=>?_⟩
 rw [←List.take_append_drop j x,List.drop_eq_getElem_cons hj]at hnd
 exact(List.pairwise_append.1 hnd).2.2 _ hc _(List.mem_cons_self ..)rfl
def Tm(n:Nat)(l:List Int)(j:Nat):List(List Int):=((upto j).filter fun v=>!l.contains v).flatMap fun v=>(lex(n-l.length-1)((adq n l).erase v)).map fun x=>l++v::x
theorem aym {n:Nat} {l:List Int} (h:l.length<n):Kp n l=Tm n l n:=by
 unfold Kp Tm
 obtain⟨k,hk⟩: ∃k,n-l.length=k+1:=⟨n-l.length-1,by omega⟩
 rw [hk,lex,List.map_flatMap,Nat.add_sub_cancel]
 simp only [List.map_map]
 rfl
theorem blh {n:Nat} {l:List Int} {v:Int} :adq n(l++ [v])=(adq n l).erase v:=by
 unfold adq
 have hn:((upto n).filter fun u=>!l.contains u).Nodup:=(Qw n).sublist List.filter_sublist
 rw [hn.erase_eq_filter,List.filter_filter]
 refine List.filter_congr fun u _=>?_
 simp only [List.contains_append,List.contains_cons,List.contains_nil,Bool.or_false,Bool.not_or]
 rw [Bool.and_comm]
 rfl
theorem biw {n:Nat} {l:List Int} {v:Int} :Kp n(l++ [v])=(lex(n-l.length-1)((adq n l).erase v)).map fun x=>l++v::x:=by
 unfold Kp
 rw [blh,List.length_append,List.length_singleton,←Nat.sub_sub]
 congr 1
 funext x
 simp
theorem akc(n:Nat)(l:List Int)(j:Nat):Tm n l(j+1)=Tm n l j++if l.contains(j:Int)=true then []else Kp n(l++ [(j:Int)]):=by
 unfold Tm
 rw [Nj,List.filter_append,List.flatMap_append]
 congr 1
 by_cases e:l.contains(j:Int)=true
 ·rw [if_pos e,List.filter_cons_of_neg(by rw [e];decide)];rfl
 ·rw [if_neg e,List.filter_cons_of_pos(by rw [Bool.eq_false_iff.2 e];rfl),biw];simp
theorem bla(n:Nat)(l:List Int) {j m:Nat} (h:j≤m):(Tm n l j).length≤(Tm n l m).length:=by
 induction m with
 |zero=>have:j=0:=by omega
      subst this;exact Nat.le_refl _
 |succ m ih=>
  rcases Nat.lt_or_ge j(m+1)with h1|h1
  ·have:=ih(by omega)
   rw [akc,List.length_append];omega
  ·have:j=m+1:=by omega
   subst this;exact Nat.le_refl _
theorem aca {xs:List Int} {x:Int} :Je xs x=xs.contains x:=by
 rw [Bool.eq_iff_iff]
 simp [Je]
theorem bse {m:Nat} (n:Int)(str:ByteArray)(g:List(List Int))(l:List Int)(out:List(List Int))
  (h:(At(n,str,g,())=true∧n≤7∧l.Nodup∧Ez n.toNat l∧l.length≤n.toNat∧out.length+(Kp n.toNat l).length≤6000)∧n.toNat-l.length<m+1):
  Nk Zh(look [(162,It),(120,Fa),(152,El),(133,Yx.m(Kt m))])(Kt(m+1))Try.f133(n,str,g,l,out,())(fun(z:(List(List Int)×Unit)×Unit)=>z=((acq(n,str,g,())l out,()),())):=by
 obtain⟨⟨hv,h7,hnd,hrow,hll,hroom⟩,hm⟩:=h
 have hvl:=adt hv
 dsimp only at hvl
 refine Eq.mp(bsf n str g l out _)?_
 have hsl:short l:=by unfold short;omega
 refine⟨fun he=>?_,fun he=>?_⟩
 ·have he:(l.length:Int)=n:=by simpa using he
  have hex:Kp n.toNat l= [l]:=by
   unfold Kp
   rw [show n.toNat-l.length=0 by omega,lex]
   simp
  rw [hex]at hroom
  simp only [List.length_singleton]at hroom
  have hg:Di n l=true:=bma hvl.1(by omega)(by omega)hnd hrow
  refine⟨_,if_pos⟨hv,hg⟩,⟨fun hs=>?_,fun hs=>?_⟩⟩
  ·have hs:Gu(n,str,g,())l=true:=hs
   refine⟨_,if_pos hsl,rfl,rfl,?_,?_⟩
   ·show out.length+1≤4294967296
    omega
   ·rw [Bq]
    show((out++List.take 1(List.drop 0 [List.take l.length(List.drop 0 l)]),()),())=_
    rw [Bq]
    unfold acq
    rw [hex,List.filter_cons_of_pos hs]
    rfl
  ·have hs:Gu(n,str,g,())l=false:=hs
   rw [Bq]
   unfold acq
   rw [hex,List.filter_cons_of_neg(by rw [hs];decide)]
   simp
 ·have he:(l.length:Int)≠n:=by simpa using he
  have hlt:l.length<n.toNat:=by omega
  rw [aym hlt]at hroom
  refine⟨rfl,rfl,?_⟩
  refine Ao n.toNat(fun v=>v.1)(fun j v=>v.2.1=n∧v.2.2.1=str∧v.2.2.2.1=g∧v.2.2.2.2.1=out++(Tm n.toNat l j).filter(Gu(n,str,g,())))rfl⟨rfl,rfl,rfl,by simp [Tm,upto]⟩?_
  rintro j⟨i,n',str',g',out',⟨⟩⟩K hj hi⟨h1,h2,h3,h4⟩hK
  dsimp only at hi h1 h2 h3 h4
  subst hi h1 h2 h3
  dsimp only
  refine Br.dec(fun hl=>?_)fun hl=>?_
  ·have hl:j<n'.toNat:=by omega
   have hsu:=akc n'.toNat l j
   have hle:=bla n'.toNat l(show j+1≤n'.toNat by omega)
   have hfo:=List.length_filter_le(Gu(n',str',g',()))(Tm n'.toNat l j)
   refine⟨_,if_pos hsl,⟨fun hc=>?_,fun hc=>?_⟩⟩
   ·simp only [and_self]
    have hc:l.contains(j:Int)=false:=by
     have hc:(!Je l(j:Int))=true:=hc
     exact aca▸(by simpa using hc)
    rw [if_neg(by rw [hc];decide)]at hsu
    have hnm:(j:Int)∉l:=fun hm'=>by rw [List.contains_iff_mem.2 hm']at hc;cases hc
    rw [hsu,List.length_append]at hle
    refine⟨_,if_pos hsl,trivial,trivial,by show l.length+1≤4294967296;omega,trivial,trivial,?_⟩
    dsimp only
    rw [Bq]
    have hpre:(At(n',str',g',())=true∧n'≤7∧(l++ [(j:Int)]).Nodup∧Ez n'.toNat(l++ [(j:Int)])∧(l++ [(j:Int)]).length≤n'.toNat∧out'.length+(Kp n'.toNat(l++ [(j:Int)])).length≤6000)∧n'.toNat-(l++ [(j:Int)]).length<m:=by
     refine⟨⟨hv,h7,?_,?_,?_,?_⟩,?_⟩
     ·show(l++ [(j:Int)]).Nodup
      exact List.nodup_append.2⟨hnd,by simp,fun a ha b hb=>by
       simp only [List.mem_singleton]at hb
       subst hb
       exact fun e=>hnm(e▸ha)⟩
     ·show Ez n'.toNat(l++ [(j:Int)])
      intro y hy
      rcases List.mem_append.1 hy with hy|hy
      ·exact hrow y hy
      ·simp only [List.mem_singleton]at hy
       subst hy
       omega
     ·show(l++ [(j:Int)]).length≤n'.toNat
      rw [List.length_append,List.length_singleton];omega
     ·show out'.length+(Kp n'.toNat(l++ [(j:Int)])).length≤6000
      rw [h4,List.length_append]
      omega
     ·show n'.toNat-(l++ [(j:Int)]).length<m
      rw [List.length_append,List.length_singleton];omega
    refine⟨_,if_pos hpre,trivial,trivial,?_⟩
    rw [Ak(by omega)]
    refine hK hl _ rfl⟨rfl,rfl,rfl,?_⟩
    show acq(n',str',g',())(l++ [(j:Int)])out'=_
    unfold acq
    rw [h4,hsu,List.filter_append,List.append_assoc]
   ·have hc:l.contains(j:Int)=true:=by
     have hc:(!Je l(j:Int))=false:=hc
     exact aca▸(by simpa using hc)
    rw [if_pos hc,List.append_nil]at hsu
    refine⟨rfl,rfl,?_⟩
    rw [Ak(by omega)]
    refine hK hl _ rfl⟨rfl,rfl,rfl,?_⟩
    rw [hsu]
    exact h4
  ·have:j=n'.toNat:=by omega
   subst this
   rw [Bq,h4]
   unfold acq
   rw [aym hlt]
theorem bkf {m:Nat} (ih_extN:Bj Try.prog 133(Kt m)):Bj Try.prog 133(Kt(m+1)):=
 Bj.mkM Tn(Ae aib(Gv alf(Ae Se(Gv ih_extN As))))mixed Try.func133(by kernel_rfl)(by kernel_rfl)fun x h=>bse x.1 x.2.1 x.2.2.1 x.2.2.2.1 x.2.2.2.2.1 h
noncomputable abbrev bhs:Bg:=mkM [some 3,none,none] [(false, .dat tI),(false, .dat .str),(false, .dat tLL),(false, .dat tL),(false,rLL)]false [none] [rLL]
 (fun x=>At(x.1,x.2.1,x.2.2.1,())=true∧x.1≤7∧List.Nodup(x.2.2.2.1:List Int)∧Ez x.1.toNat x.2.2.2.1∧List.length x.2.2.2.1≤x.1.toNat∧List.length x.2.2.2.2.1+(Kp x.1.toNat x.2.2.2.1).length≤6000)
 (fun x=>((acq(x.1,x.2.1,x.2.2.1,())x.2.2.2.1 x.2.2.2.2.1,()),()))
theorem bbv:Bj Try.prog 133(Kt 0):=
 Bj.mkM Tn As mixed Try.func133(by kernel_rfl)(by kernel_rfl)fun _ h=>absurd h.2(Nat.not_lt_zero _)
theorem ajw: ∀m,Bj Try.prog 133(Kt m)
 |0=>bbv
 |m+1=>bkf(ajw m)
theorem bjn:Bj Try.prog 133 bhs:=Bj.btn(fun x=>x.1.toNat-List.length x.2.2.2.1)ajw
end Go.Proofs.Ytebabhocakedaaa

namespace Go.Proofs.Ytebabhocakedaaa
open Go.RowKit
def Be:List Int→List Int→Int
 | [],[]=>0
 | [],_::_=> -1
 |_::_,[]=>1
 |x::a,y::b=>if x<y then-1 else if x>y then 1 else Be a b
def Nl(a b:List Int):Bool:=decide(Be a b<0)
def Ee(list:List(List Int))(s:List Int):List Int:=list.foldl(fun least q=>if Nl(Dq s q)least=true then Dq s q else least)s
def Vm(list:List(List Int))(s:List Int):Prop:=list.length≤6000∧s.length≤20∧Ez s.length s∧ ∀q∈list,s.length=q.length∧Ey q=true
noncomputable def Hp(p:PP):Bool:=At p&&decide(p.1≤7)
noncomputable def aff(p:PP):List(List Int):=if Hp p=true then Fp p else []
noncomputable abbrev aio:Spec:=mkS(.pair(.oslice tI) .unit)tL false true(fun x=>short(x.1.getD []))(fun x=>x.1.getD [])
noncomputable abbrev afb:Spec:=mkS(.pair tL .unit)tL false true(fun x=>short x.1)(fun x=>x.1)
noncomputable abbrev Vs:Spec:=mkS(.pair tI .unit) .bool false true(fun _=>True)(fun _=>false)
noncomputable abbrev ato:Spec:=mkS(.pair tI(.pair tI .unit))tI false true(fun _=>True)(fun x=>if x.1<x.2.1 then-1 else if x.1>x.2.1 then 1 else 0)
noncomputable abbrev Ql:Spec:=mkS(.pair tL(.pair tL .unit))tI false true(fun x=>short x.1∧short x.2.1)(fun x=>Be x.1 x.2.1)
noncomputable abbrev Il:Spec:=mkS(.pair tL(.pair tL .unit)) .bool false true(fun x=>short x.1∧List.length x.1=List.length x.2.1)(fun x=>Nl x.1 x.2.1)
noncomputable abbrev Ja:Spec:=mkS(.pair tLL(.pair tL .unit))tL false true(fun x=>Vm x.1 x.2.1)(fun x=>Ee x.1 x.2.1)
noncomputable abbrev Lk:Spec:=mkS(.pair Db .unit) .bool false true(fun x=>Ec x.1)(fun x=>Hp x.1)
noncomputable abbrev Lq:Spec:=mkS(.pair Db .unit)tLL false false(fun x=>Ec x.1)(fun x=>aff x.1)
noncomputable abbrev bdu:Spec:=mkS(.pair Db .unit) .bool false true(fun x=>Ec x.1)(fun _=>true)
theorem bip(xs:Option(List Int))(P:List Int→Prop):(Br xs.isNone(P(List.take(0:Nat)(List.drop(0:Nat) [])))
 ((0:Nat)=(0:Nat)∧(0:Nat)=([]:List Int).length∧(0:Nat)+(xs.getD []).length≤Am∧P(List.take([]++xs.getD []).length(List.drop(0:Nat)([]++xs.getD [])))))=fnW tab(look [])aio Try.f121(xs,())P:=by kernel_rfl
theorem bqv(x:Int)(P:Bool→Prop):(P(x !=x))=fnW tab(look [])Vs Try.f177(x,())P:=by kernel_rfl
theorem btd(x y:Int)(P:Int→Prop):(∃(y3:Bool),
 Vs.fn(x,())=some y3∧
  ∃(y4:Bool),
   Vs.fn(y,())=some y4∧Br y3(Br y4(P(0:Int))(P(-1:Int)))(Br y4(P(1:Int))(Br(decide(x<y))(P(-1:Int))(Br(decide(x>y))(P(1:Int))(P(0:Int))))))=fnW tab(look [(177,Vs)])ato Try.f166(x,y,())P:=by kernel_rfl
theorem bmd(a b:List Int)(P:Int→Prop):(Bo
 (fun(v3:Int×PUnit)(k4:Int×PUnit→Prop)=>
  Br(decide(v3.1<(↑a.length:Int)))
   (∃(y5:Int),
    idx a v3.1=some y5∧
     Br(decide(v3.1≥(↑b.length:Int)))(P(1:Int))
      (∃(y6:Int),idx b v3.1=some y6∧ ∃(y7:Int),ato.fn(y5,y6,())=some y7∧Br(y7 !=(0:Int))(P y7)(k4(IntKind.i64.wrap(v3.1+(1:Int)),()))))
   (Br(decide((↑a.length:Int)<(↑b.length:Int)))(P(-1:Int))(P(0:Int))))
 ((0:Int),PUnit.unit))=fnW tab(look [(166,ato)])Ql Try.f139(a,b,())P:=by kernel_rfl
theorem bgz(a b:List Int)(P:Bool→Prop):(Bo
 (fun(v3:Int×PUnit)(k4:Int×PUnit→Prop)=>
  Br(decide(v3.1<(↑a.length:Int)))
   (∃(y5:Int),
    idx a v3.1=some y5∧
     ∃(y6:Int),
      idx b v3.1=some y6∧
       Br(y5 !=y6)(∃(y7:Int),idx a v3.1=some y7∧ ∃(y8:Int),idx b v3.1=some y8∧P(decide(y7<y8)))(k4(IntKind.i64.wrap(v3.1+(1:Int)),())))
   (P false))
 ((0:Int),PUnit.unit))=fnW tab(look [])Il Try.f135(a,b,())P:=by kernel_rfl
theorem bmz(l:List(List Int))(s:List Int)(P:List Int→Prop):(∃(y3:List Int),
 afb.fn(s,())=some y3∧
  Bo
   (fun(v4:List Int×Int×PUnit)(k5:List Int×Int×PUnit→Prop)=>
    Br(decide(v4.2.1<(↑l.length:Int)))
     (∃(y6:List Int),
      idx l v4.2.1=some y6∧
       ∃(y7:List Int),
        Gx.fn(s,y6,())=some y7∧
         ∃(y8:Int),
          Ql.fn(y7,v4.1,())=some y8∧
           Br(decide(y8<(0:Int)))(k5(y7,IntKind.i64.wrap(v4.2.1+(1:Int)),()))(k5(v4.1,IntKind.i64.wrap(v4.2.1+(1:Int)),())))
     (P v4.1))
   (y3,(0:Int),PUnit.unit))=fnW tab(look [(121,afb),(138,Gx),(139,Ql)])Ja Try.f88(l,s,())P:=by kernel_rfl
theorem azx(l:List(List Int))(s:List Int)(P:List Int→Prop):(∃(y3:List Int),
 Ij.fn(s,())=some y3∧
  Bo
   (fun(v4:List Int×Int×PUnit)(k5:List Int×Int×PUnit→Prop)=>
    Br(decide(v4.2.1<(↑l.length:Int)))
     (∃(y6:List Int),
      idx l v4.2.1=some y6∧
       ∃(y7:List Int),
        Fo.fn(y6,s,())=some y7∧
         ∃(y8:Bool),Il.fn(y7,v4.1,())=some y8∧Br y8(k5(y7,IntKind.i64.wrap(v4.2.1+(1:Int)),()))(k5(v4.1,IntKind.i64.wrap(v4.2.1+(1:Int)),())))
     (P v4.1))
   (y3,(0:Int),PUnit.unit))=fnW tab(look [(120,Ij),(134,Fo),(135,Il)])Ja Try.f85(l,s,())P:=by kernel_rfl
theorem bbf(p:Int×ByteArray×List(List Int)×Unit)(P:Bool→Prop):(∃(y2:Bool),Dp.fn((p.1,p.2.1,p.2.2.1,()),())=some y2∧Br y2(P(decide(p.1≤(7:Int))))(P false))=fnW tab(look [(124,Dp)])Lk Try.f86(p,())P:=by kernel_rfl
theorem bbz(p:Int×ByteArray×List(List Int)×Unit)(P:Bool→Prop):(∃(y2:Bool),Dp.fn((p.1,p.2.1,p.2.2.1,()),())=some y2∧Br y2(P(decide(p.1≤(7:Int))))(P false))=fnW tab(look [(99,Dp)])Lk Try.f83(p,())P:=by kernel_rfl
theorem ber(p:Int×ByteArray×List(List Int)×Unit)(P:List(List Int)→Prop):(∃(y2:Bool),
 Dp.fn((p.1,p.2.1,p.2.2.1,()),())=some y2∧
  Br(!y2)(P(List.take(0:Nat)(List.drop(0:Nat) [])))
   (Br(decide(p.1>(7:Int)))(P(List.take(0:Nat)(List.drop(0:Nat) [])))
    ((0:Nat)=(0:Nat)∧
     (0:Nat)=([]:List Int).length∧
      ∃(y3:(List(List Int)×PUnit)×PUnit),
       bhs.fn(p.1,p.2.1,p.2.2.1,List.take(0:Nat)(List.drop(0:Nat) []),[],())=some y3∧P(List.take y3.1.1.length(List.drop(0:Nat)y3.1.1)))))=fnW tab(look [(99,Dp),(133,bhs)])Lq Try.f84(p,())P:=by kernel_rfl
theorem Sound.ofO {P:Program} {f:FuncId} {e:Ty} {r res:Ty} {multi fresh:Bool} {pre:(Ty.pair(.oslice e)r).den→Prop} {val:(Ty.pair(.oslice e)r).den→res.den} {pre':(Ty.pair(.slice e)r).den→Prop} {val':(Ty.pair(.slice e)r).den→res.den}
  (h:Sound P f(Go.Proofs.Ytebabhocakedaaa.mkS(.pair(.oslice e)r)res multi fresh pre val))
  (hp: ∀(o:Option(List e.den))(y:r.den),pre'(o.getD [],y)→pre(o,y)∧val(o,y)=val'(o.getD [],y)):Sound P f(Go.Proofs.Ytebabhocakedaaa.mkS(.pair(.slice e)r)res multi fresh pre' val'):=by
 refine⟨h.enter,fun w S vs x y hS h2 h5=>?_⟩
 obtain⟨xs,rest⟩:=x
 cases vs with
 |nil=>exact h2.elim
 |cons u us=>
  obtain⟨h7,h8⟩:=h2
  obtain⟨ox,h9,rfl⟩:=h7.told
  have hpre:pre'(ox.getD [],rest):=Classical.byContradiction fun hn=>by
   have:(Go.Proofs.Ytebabhocakedaaa.mkS(.pair(.slice e)r)res multi fresh pre' val').fn(ox.getD [],rest)=none:=if_neg hn
   rw [this]at h5;cases h5
  obtain⟨k1,k2⟩:=hp ox rest hpre
  have hv:(Go.Proofs.Ytebabhocakedaaa.mkS(.pair(.slice e)r)res multi fresh pre' val').fn(ox.getD [],rest)=some(val'(ox.getD [],rest)):=if_pos hpre
  rw [hv]at h5
  have h5:=Option.some.inj h5
  exact h.calls w S(u::us)(ox,rest)y hS⟨h9,h8⟩((if_pos k1).trans(by rw [k2];exact congrArg some h5))
theorem bjr(xs:Option(List Int))(h:short(xs.getD [])):fnW tab(look [])aio Try.f121(xs,())(fun(z:List Int)=>z=xs.getD []):=by
 unfold short at h
 refine Eq.mp(bip xs _)⟨fun hn=>?_,fun _=>⟨rfl,rfl,by show 0+(xs.getD []).length≤4294967296;omega,?_⟩⟩
 ·cases xs with
  |none=>rfl
  |some y=>cases hn
 ·simp only [Bq,List.nil_append]
theorem aqq:Sound Try.prog 121 aio:=
 Sound.mkS Ca As mixed Try.func121(by kernel_rfl)(by kernel_rfl)fun x h=>bjr x.1 h
theorem avf:Sound Try.prog 121 afb:=Sound.ofO aqq fun _ _ h=>⟨h,rfl⟩
theorem bpx(x:Int)(_:True):fnW tab(look [])Vs Try.f177(x,())(fun(z:Bool)=>z=false):=by
 refine Eq.mp(bqv x _)?_
 simp
theorem bdi:Sound Try.prog 177 Vs:=
 Sound.mkS Ca As mixed Try.func177(by kernel_rfl)(by kernel_rfl)fun x h=>bpx x.1 h
theorem bub(x y:Int)(_:True):fnW tab(look [(177,Vs)])ato Try.f166(x,y,())(fun(z:Int)=>z=if x<y then-1 else if x>y then 1 else 0):=by
 refine Eq.mp(btd x y _)⟨_,if_pos trivial,_,if_pos trivial,⟨fun h=>(by cases h),fun _=>⟨fun h=>(by cases h),fun _=>Br.dec(fun h=>?_)fun h=>Br.dec(fun h2=>?_)fun h2=>?_⟩⟩⟩
 ·rw [if_pos h]
 ·rw [if_neg h,if_pos h2]
 ·rw [if_neg h,if_neg h2]
theorem blw:Sound Try.prog 166 ato:=
 Sound.mkS Ca(Ae bdi As)mixed Try.func166(by kernel_rfl)(by kernel_rfl)fun x h=>bub x.1 x.2.1 h
theorem bju(a b:List Int)(h:short a∧short b):fnW tab(look [(166,ato)])Ql Try.f139(a,b,())(fun(z:Int)=>z=Be a b):=by
 obtain⟨ha,hb⟩:=h
 unfold short at ha hb
 refine Eq.mp(bmd a b _)?_
 refine Ao a.length(fun v=>v.1)(fun j _=>j≤b.length∧Be(a.drop j)(b.drop j)=Be a b)rfl⟨Nat.zero_le _,by simp⟩?_
 rintro j⟨i,⟨⟩⟩K hj hi⟨hR1,hR2⟩hK
 dsimp only at hi⊢
 subst hi
 refine Br.dec(fun hl=>?_)fun hl=>?_
 ·have hl:j<a.length:=by omega
  rw [List.drop_eq_getElem_cons hl]at hR2
  refine⟨_,Bc hl,Br.dec(fun hge=>?_)fun hge=>?_⟩
  ·have:j=b.length:=by omega
   rw [List.drop_eq_nil_of_le(by omega:b.length≤j)]at hR2
   rw [←hR2]
   rfl
  ·have hlb:j<b.length:=by omega
   rw [List.drop_eq_getElem_cons hlb]at hR2
   refine⟨_,Bc hlb,_,if_pos trivial,?_⟩
   dsimp only
   simp only [Be]at hR2
   by_cases h1:a[j]<b[j]
   ·rw [if_pos h1]at hR2⊢
    exact⟨fun _=>hR2,fun h=>by cases h⟩
   ·rw [if_neg h1]at hR2⊢
    by_cases h2:a[j]>b[j]
    ·rw [if_pos h2]at hR2⊢
     exact⟨fun _=>hR2,fun h=>by cases h⟩
    ·rw [if_neg h2]at hR2⊢
     refine⟨fun h=>(by cases h),fun _=>?_⟩
     rw [Ak(by omega)]
     exact hK hl _ rfl⟨hlb,hR2⟩
 ·have:j=a.length:=by omega
  subst this
  rw [List.drop_length]at hR2
  refine Br.dec(fun h=>?_)fun h=>?_
  ·rw [←hR2,List.drop_eq_getElem_cons(by omega)]
   rfl
  ·rw [←hR2,List.drop_eq_nil_of_le(by omega)]
   rfl
theorem aqc:Sound Try.prog 139 Ql:=
 Sound.mkS Ca(Ae blw As)mixed Try.func139(by kernel_rfl)(by kernel_rfl)fun x h=>bju x.1 x.2.1 h
theorem bfy(a b:List Int)(h:short a∧a.length=b.length):fnW tab(look [])Il Try.f135(a,b,())(fun(z:Bool)=>z=Nl a b):=by
 obtain⟨ha,hb⟩:=h
 unfold short at ha
 refine Eq.mp(bgz a b _)?_
 refine Ao a.length(fun v=>v.1)(fun j _=>Be(a.drop j)(b.drop j)=Be a b)rfl(by simp)?_
 rintro j⟨i,⟨⟩⟩K hj hi hR2 hK
 dsimp only at hi⊢
 subst hi
 refine Br.dec(fun hl=>?_)fun hl=>?_
 ·have hl:j<a.length:=by omega
  have hlb:j<b.length:=by omega
  rw [List.drop_eq_getElem_cons hl,List.drop_eq_getElem_cons hlb]at hR2
  simp only [Be]at hR2
  refine⟨_,Bc hl,_,Bc hlb,⟨fun hne=>?_,fun hne=>?_⟩⟩
  ·refine⟨_,Bc hl,_,Bc hlb,?_⟩
   have hne:a[j]≠b[j]:=by simpa using hne
   unfold Nl
   rw [←hR2]
   by_cases h1:a[j]<b[j]
   ·rw [if_pos h1];simp [h1]
   ·rw [if_neg h1,if_pos(by omega)];simp [h1]
  ·have hne:a[j]=b[j]:=by simpa using hne
   rw [if_neg(by omega),if_neg(by omega)]at hR2
   rw [Ak(by omega)]
   exact hK hl _ rfl hR2
 ·have:j=a.length:=by omega
  subst this
  rw [List.drop_length,List.drop_eq_nil_of_le(by omega)]at hR2
  unfold Nl
  rw [←hR2]
  rfl
theorem Yc:Sound Try.prog 135 Il:=
 Sound.mkS Ca As mixed Try.func135(by kernel_rfl)(by kernel_rfl)fun x h=>bfy x.1 x.2.1 h
theorem ais {list:List(List Int)} {s:List Int} (h:Vm list s) {q:List Int} (hq:q∈list):(Dq s q).length=s.length∧Ez s.length(Dq s q):=by
 obtain⟨_,h2,h3,h4⟩:=h
 obtain⟨e,hp⟩:=h4 q hq
 have hpk:=Qt hp
 refine⟨by simp only [Dq,Kb,Ob];exact e.symm,?_⟩
 unfold Dq
 refine Sf(n:=s.length)(Sf(n:=q.length)?_ ?_)?_
 ·rw [e];exact alo hpk
 ·rw [←e];exact h3
 ·rw [e];exact hpk.row
theorem bnk(l:List(List Int))(s:List Int)(h:Vm l s):fnW tab(look [(121,afb),(138,Gx),(139,Ql)])Ja Try.f88(l,s,())(fun(z:List Int)=>z=Ee l s):=by
 have hs:short s:=by unfold short;have:=h.2.1;omega
 have hll:=h.1
 refine Eq.mp(bmz l s _)⟨_,if_pos hs,?_⟩
 refine Ao l.length(fun v=>v.2.1)(fun j v=>v.1.length=s.length∧Ee(l.take j)s=v.1)rfl⟨rfl,by simp [Ee]⟩?_
 rintro j⟨ys,i,⟨⟩⟩K hj hi⟨h1,h2⟩hK
 dsimp only at hi h1 h2⊢
 subst hi
 refine Br.dec(fun hl=>?_)fun hl=>?_
 ·have hl:j<l.length:=by omega
  have hq:l[j]∈l:=List.getElem_mem hl
  obtain⟨e,hp⟩:=h.2.2.2 _ hq
  obtain⟨c1,c2⟩:=ais h hq
  have hstep:Ee(l.take(j+1))s=if Nl(Dq s l[j])ys=true then Dq s l[j]else ys:=by
   rw [←h2]
   unfold Ee
   rw [List.take_add_one,List.getElem?_eq_getElem hl,List.foldl_append]
   rfl
  refine⟨_,Bc hl,_,if_pos⟨e,h.2.2.1,hp⟩,_,if_pos⟨by show short(Dq s l[j]);unfold short;have:=h.2.1;omega,by show short ys;unfold short;have:=h.2.1;omega⟩,Br.dec(fun hc=>?_)fun hc=>?_⟩
  ·have hc:Be(Dq s l[j])ys<0:=hc
   rw [Ak(by omega)]
   refine hK hl _ rfl⟨c1,?_⟩
   rw [hstep,if_pos(show Nl(Dq s l[j])ys=true from decide_eq_true hc)]
  ·have hc: ¬Be(Dq s l[j])ys<0:=hc
   rw [Ak(by omega)]
   refine hK hl _ rfl⟨h1,?_⟩
   rw [hstep,if_neg(by unfold Nl;simpa using hc)]
 ·have:j=l.length:=by omega
  subst this
  rw [List.take_length]at h2
  exact h2.symm
theorem aya:Sound Try.prog 88 Ja:=
 Sound.mkS Ca(Ae avf(Ae Xv(Ae aqc As)))mixed Try.func88(by kernel_rfl)(by kernel_rfl)fun x h=>bnk x.1 x.2.1 h
theorem ays(l:List(List Int))(s:List Int)(h:Vm l s):fnW tab(look [(120,Ij),(134,Fo),(135,Il)])Ja Try.f85(l,s,())(fun(z:List Int)=>z=Ee l s):=by
 have hs:short s:=by unfold short;have:=h.2.1;omega
 have hll:=h.1
 refine Eq.mp(azx l s _)⟨_,if_pos hs,?_⟩
 refine Ao l.length(fun v=>v.2.1)(fun j v=>v.1.length=s.length∧Ee(l.take j)s=v.1)rfl⟨rfl,by simp [Ee]⟩?_
 rintro j⟨ys,i,⟨⟩⟩K hj hi⟨h1,h2⟩hK
 dsimp only at hi h1 h2⊢
 subst hi
 refine Br.dec(fun hl=>?_)fun hl=>?_
 ·have hl:j<l.length:=by omega
  have hq:l[j]∈l:=List.getElem_mem hl
  obtain⟨e,hp⟩:=h.2.2.2 _ hq
  obtain⟨c1,c2⟩:=ais h hq
  have hstep:Ee(l.take(j+1))s=if Nl(Dq s l[j])ys=true then Dq s l[j]else ys:=by
   rw [←h2]
   unfold Ee
   rw [List.take_add_one,List.getElem?_eq_getElem hl,List.foldl_append]
   rfl
  have hpk:=Qt hp
  have him:Eb l[j]s=Dq s l[j]:=(ans hpk e).symm
  refine⟨_,Bc hl,_,if_pos⟨h.2.1,e.symm,hpk.row,by show Ez l[j].length s;rw [←e];exact h.2.2.1⟩,?_⟩
  dsimp only
  rw [him]
  refine⟨_,if_pos⟨by show short(Dq s l[j]);unfold short;have:=h.2.1;omega,by show(Dq s l[j]).length=ys.length;omega⟩,⟨fun hc=>?_,fun hc=>?_⟩⟩
  ·have hc:Nl(Dq s l[j])ys=true:=hc
   rw [Ak(by omega)]
   refine hK hl _ rfl⟨c1,?_⟩
   rw [hstep,if_pos hc]
  ·have hc:Nl(Dq s l[j])ys=false:=hc
   rw [Ak(by omega)]
   refine hK hl _ rfl⟨h1,?_⟩
   rw [hstep,if_neg(by rw [hc];decide)]
 ·have:j=l.length:=by omega
  subst this
  rw [List.take_length]at h2
  exact h2.symm
theorem aks:Sound Try.prog 85 Ja:=
 Sound.mkS Ca(Ae Zd(Ae Uq(Ae Yc As)))mixed Try.func85(by kernel_rfl)(by kernel_rfl)fun x h=>ays x.1 x.2.1 h
theorem bdg(p:PP)(h:Ec p):fnW tab(look [(124,Dp)])Lk Try.f86(p,())(fun(z:Bool)=>z=Hp p):=by
 refine Eq.mp(bbf p _)⟨_,if_pos h,⟨fun hv=>?_,fun hv=>?_⟩⟩
 ·have hv:At p=true:=hv
  unfold Hp;rw [hv];rfl
 ·have hv:At p=false:=hv
  unfold Hp;rw [hv];rfl
theorem aky:Sound Try.prog 86 Lk:=
 Sound.mkS Ca(Ae Up As)mixed Try.func86(by kernel_rfl)(by kernel_rfl)fun x h=>bdg x.1 h
theorem bas(p:PP)(h:Ec p):fnW tab(look [(99,Dp)])Lk Try.f83(p,())(fun(z:Bool)=>z=Hp p):=by
 refine Eq.mp(bbz p _)⟨_,if_pos h,⟨fun hv=>?_,fun hv=>?_⟩⟩
 ·have hv:At p=true:=hv
  unfold Hp;rw [hv];rfl
 ·have hv:At p=false:=hv
  unfold Hp;rw [hv];rfl
theorem akv:Sound Try.prog 83 Lk:=
 Sound.mkS Ca(Ae Nn As)mixed Try.func83(by kernel_rfl)(by kernel_rfl)fun x h=>bas x.1 h
theorem Qq {p:PP} :Hp p=true↔At p=true∧p.1≤7:=by
 unfold Hp
 rw [Bool.and_eq_true,decide_eq_true_iff]
theorem biv {p:PP} {q:List Int} (h:q∈Fp p):q.Perm(upto p.1.toNat):=aoi _ _ q(Hz _)(List.mem_filter.1 h).1
theorem bon {p:PP} (h:p.1≤7):(Fp p).length≤5040:=Nat.le_trans(List.length_filter_le _ _)(apm(by omega))
theorem bep {p:PP} {s:List Int} (h:Hp p=true)(hs:Di p.1 s=true):Vm(Fp p)s:=by
 obtain⟨hv,h7⟩:=Qq.1 h
 have hn:=(valid hv).n
 obtain⟨e,hp⟩:=Dg.1 hs
 have hpk:=Qt hp
 refine⟨by have:=bon h7;omega,hpk.len,hpk.row,fun q hq=>?_⟩
 have hg:=aow hn.1 hn.2(biv hq)
 obtain⟨e2,hp2⟩:=Dg.1 hg
 exact⟨by omega,hp2⟩
theorem ayr(n:Nat):Kp n []=lex n(upto n):=by
 unfold Kp adq
 have:((upto n).filter fun v=>!([]:List Int).contains v)=upto n:=List.filter_eq_self.2 fun a _=>rfl
 rw [this]
 simp
theorem bem(p:PP)(h:Ec p):fnW tab(look [(99,Dp),(133,bhs)])Lq Try.f84(p,())(fun(z:List(List Int))=>z=aff p):=by
 refine Eq.mp(ber p _)⟨_,if_pos h,⟨fun hn=>?_,fun hn=>?_⟩⟩
 ·have hn:=Fy hn
  unfold aff
  rw [if_neg fun hh=>hn(Qq.1 hh).1]
  rfl
 ·have hn:=Hg hn
  refine Br.dec(fun h7=>?_)fun h7=>⟨rfl,rfl,_,if_pos(And.intro hn(And.intro(show p.1≤7 from Int.not_lt.1 h7)(And.intro List.nodup_nil(And.intro(fun y hy=>by cases hy)(And.intro(Nat.zero_le _)?_))))),?_⟩
  ·unfold aff
   rw [if_neg fun hh=>by
    have h8:p.1>7:=h7
    have:=(Qq.1 hh).2
    omega]
   rfl
  ·show 0+(Kp p.1.toNat []).length≤6000
   rw [ayr]
   have h8: ¬p.1>7:=h7
   have:=apm(n:=p.1.toNat)(by omega)
   omega
  ·rw [Bq]
   unfold aff
   rw [if_pos(Qq.2⟨hn,Int.not_lt.1 h7⟩)]
   show acq p [] []=_
   unfold acq Fp
   rw [ayr]
   rfl
theorem amj:Sound Try.prog 84 Lq:=
 Sound.mkS Ca(Ae Nn(Gv bjn As))mixed Try.func84(by kernel_rfl)(by kernel_rfl)fun x h=>bem x.1 h
theorem aka {list:List(List Int)} {s:List Int} (h:Vm list s):(Ee list s).length=s.length:=by
 have: ∀(l:List(List Int))(x:List Int),(∀q∈l,q∈list)→x.length=s.length→(l.foldl(fun least q=>if Nl(Dq s q)least=true then Dq s q else least)x).length=s.length:=by
  intro l
  induction l with
  |nil=>intro x _ hx;exact hx
  |cons q l ih=>
   intro x hm hx
   rw [List.foldl_cons]
   refine ih _(fun q' hq'=>hm q'(List.mem_cons_of_mem _ hq'))?_
   split
   ·exact(ais h(hm q(by simp))).1
   ·exact hx
 exact this list s(fun _ h=>h)rfl
end Go.Proofs.Ytebabhocakedaaa
