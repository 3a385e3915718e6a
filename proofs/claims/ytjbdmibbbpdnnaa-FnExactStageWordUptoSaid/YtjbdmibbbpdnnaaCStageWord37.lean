/-
  Part 38 of the proof that the statement FnExactStageWord holds.
-/
import Derived.Test.YtjbdmibbbpdnnaaCStageWord36
import Derived.KernelRfl
namespace Go.Proofs.Ytjbdmibbbpdnnaa
open Go.RowKit
def He (x a b:Int):Bool:=decide (a<=x/\x<=b)
def dv (n x:Int):Bool:=decide (0<=x/\x<=IntKind.i64.wrap (n-1))
def Ig (a b:List Int):Bool:=decide (a=b)
def eh (xs:List Int) (x:Int):Bool:=decide (x∈xs)
def short (xs:List Int):Prop:=xs.length<=4294967296
noncomputable abbrev Bk:Spec:=Di (.pair tI (.pair tI (.pair tI .unit))) .bool false true (λ_=>True) (λx=>He x.1 x.2.1 x.2.2.1)
noncomputable abbrev Tw:Spec:=Di (.pair tI (.pair tI .unit)) .bool false true (λ_=>True) (λx=>dv x.1 x.2.1)
noncomputable abbrev Cu:Spec:=Di (.pair tL (.pair tL .unit)) .bool false true (λx=>short x.1) (λx=>Ig x.1 x.2.1)
noncomputable abbrev Kn:Spec:=Di (.pair tL (.pair tI .unit)) .bool false true (λx=>short x.1) (λx=>eh x.1 x.2.1)
theorem FG (x a b:Int) (P:Bool->Prop):(Br (decide (x>=a)) (P (decide (x<=b))) (P false))=fnW Cy (look []) Bk Try.f93 (x,a,b,()) P:=by kernel_rfl
theorem LN (x a b:Int) (P:Bool->Prop):(Br (decide (x>=a)) (P (decide (x<=b))) (P false))=fnW Cy (look []) Bk Try.f97 (x,a,b,()) P:=by kernel_rfl
theorem FI (n x:Int) (P:Bool->Prop):(∃(y3:Bool),Bk.fn (x,0,IntKind.i64.wrap (n-1),())=some y3/\P y3)=fnW Cy (look [(97,Bk)]) Tw Try.f116 (n,x,()) P:=by kernel_rfl
theorem wT (a b:List Int) (P:Bool->Prop):(Br ((↑a.length:Int) !=(↑b.length:Int)) (P false) (Bt (λ(v3:Int×PUnit) (k4:Int×PUnit->Prop)=>Br (decide (v3.1<(↑a.length:Int))) (∃(y5:Int),idx a v3.1=some y5/\ ∃(y6:Int),idx b v3.1=some y6/\Br (y5 !=y6) (P false) (k4 (IntKind.i64.wrap (v3.1+1),()))) (P true)) (0,PUnit.unit)))=fnW Cy (look []) Cu Try.f105 (a,b,()) P:=by kernel_rfl
theorem pk (xs:List Int) (x:Int) (P:Bool->Prop):(Bt (λ(v3:Int×PUnit) (k4:Int×PUnit->Prop)=>Br (decide (v3.1<(↑xs.length:Int))) (∃(y5:Int),idx xs v3.1=some y5/\Br (y5==x) (P true) (k4 (IntKind.i64.wrap (v3.1+1),()))) (P false)) (0,PUnit.unit))=fnW Cy (look []) Kn Try.f153 (xs,x,()) P:=by kernel_rfl
theorem DH (x a b:Int) (_:True):fnW Cy (look []) Bk Try.f93 (x,a,b,()) (λ(z:Bool)=>z=He x a b):=by
 refine Eq.mp (FG x a b _) ?_
 refine Br.dec (λh=>?_) λh=>?_
 ·have h:a<=x:=h
  simp [He,h]
 ·exact (decide_eq_false λhh=>h hh.1).symm
theorem Xe:Sound Try.prog 93 Bk:=
 Sound.Di Bx Ao mixed Try.func93 (by kernel_rfl) (by kernel_rfl) λx h=>DH x.1 x.2.1 x.2.2.1 h
theorem JP (x a b:Int) (_:True):fnW Cy (look []) Bk Try.f97 (x,a,b,()) (λ(z:Bool)=>z=He x a b):=by
 refine Eq.mp (LN x a b _) ?_
 refine Br.dec (λh=>?_) λh=>?_
 ·have h:a<=x:=h
  simp [He,h]
 ·exact (decide_eq_false λhh=>h hh.1).symm
theorem Pk:Sound Try.prog 97 Bk:=
 Sound.Di Bx Ao mixed Try.func97 (by kernel_rfl) (by kernel_rfl) λx h=>JP x.1 x.2.1 x.2.2.1 h
theorem DK (n x:Int) (_:True):fnW Cy (look [(97,Bk)]) Tw Try.f116 (n,x,()) (λ(z:Bool)=>z=dv n x):=
 Eq.mp (FI n x _) ⟨_,if_pos trivial,rfl⟩
theorem p9:Sound Try.prog 116 Tw:=
 Sound.Di Bx (Ah Pk Ao) mixed Try.func116 (by kernel_rfl) (by kernel_rfl) λx h=>DK x.1 x.2.1 h
theorem oK (xs:List Int) (x:Int) (h:short xs):fnW Cy (look []) Kn Try.f153 (xs,x,()) (λ(z:Bool)=>z=eh xs x):=by
 refine Eq.mp (pk xs x _) ?_
 unfold short at h
 refine As xs.length (λv=>v.1) (λj _=>x∉xs.take j) rfl (by simp) ?_
 rintro j ⟨i,⟨⟩⟩ K hj hi hR hK
 dsimp only at hi⊢
 subst hi
 refine Br.dec (λhl=>?_) λhl=>?_
 ·have hl:j<xs.length:=by omega
  refine ⟨_,Av hl,⟨λhe=>?_,λhe=>?_⟩⟩
  ·have hm:=List.getElem_mem hl
   simp only [beq_iff_eq] at he
   rw [he] at hm
   exact (decide_eq_true hm).symm
  ·rw [Ar (by omega)]
   refine hK hl _ rfl ?_
   simp only [beq_eq_false_iff_ne,ne_eq] at he
   rw [List.take_succ_eq_append_getElem hl]
   simp only [List.mem_append,List.mem_singleton,not_or]
   exact ⟨hR,λhx=>he hx.symm⟩
 ·have:j=xs.length:=by omega
  subst this
  rw [List.take_length] at hR
  exact (decide_eq_false hR).symm
theorem ib:Sound Try.prog 153 Kn:=
 Sound.Di Bx Ao mixed Try.func153 (by kernel_rfl) (by kernel_rfl) λx h=>oK x.1 x.2.1 h
theorem zK (a b:List Int) (hlen:a.length=b.length) (h:short a):
  Bt (λ(v3:Int×PUnit) (k4:Int×PUnit->Prop)=>
   Br (decide (v3.1<(↑a.length:Int))) (∃(y5:Int),idx a v3.1=some y5/\ ∃(y6:Int),idx b v3.1=some y6/\Br (y5 !=y6) (false=Ig a b) (k4 (IntKind.i64.wrap (v3.1+1),())))
    (true=Ig a b))
  (0,PUnit.unit):=by
 unfold short at h
 refine As a.length (λv=>v.1) (λj _=>a.take j=b.take j) rfl (by simp) ?_
 rintro j ⟨i,⟨⟩⟩ K hj hi hR hK
 dsimp only at hi⊢
 subst hi
 refine Br.dec (λhl=>?_) λhl=>?_
 ·have uY:j<a.length:=by omega
  have FY:j<b.length:=by omega
  refine ⟨_,Av uY,_,Av FY,⟨λhe=>?_,λhe=>?_⟩⟩
  ·simp only [bne_iff_ne,ne_eq] at he
   refine (decide_eq_false λog=>he ?_).symm
   subst og
   rfl
  ·rw [Ar (by omega)]
   refine hK uY _ rfl ?_
   simp only [bne_eq_false_iff_eq] at he
   rw [List.take_succ_eq_append_getElem uY,List.take_succ_eq_append_getElem FY,hR,he]
 ·have rI:j=a.length:=by omega
  subst rI
  rw [List.take_length,hlen,List.take_length] at hR
  exact (decide_eq_true hR).symm
theorem vZ (a b:List Int) (h:short a):fnW Cy (look []) Cu Try.f105 (a,b,()) (λ(z:Bool)=>z=Ig a b):=by
 refine Eq.mp (wT a b _) ⟨λhl=>?_,λhl=>?_⟩
 ·simp only [bne_iff_ne,ne_eq,Int.natCast_inj] at hl
  exact (decide_eq_false λog=>hl (by rw [og])).symm
 ·simp only [bne_eq_false_iff_eq,Int.natCast_inj] at hl
  exact zK a b hl h
theorem l5:Sound Try.prog 105 Cu:=
 Sound.Di Bx Ao mixed Try.func105 (by kernel_rfl) (by kernel_rfl) λx h=>vZ x.1 x.2.1 h
end Go.Proofs.Ytjbdmibbbpdnnaa

namespace Go.Proofs.Ytjbdmibbbpdnnaa
open Go.RowKit
def Ga (xs:List (List Int)):Prop:=xs.length<=4294967296/\ ∀r∈xs,short r
def roomy (room:Int):Prop:=0<=room/\room<=4294967296
def jc (n:Nat) (room:Int):Int:=if room-n<0 then-1 else room-n
def gO (xs:List Int) (room:Int):Int:=jc xs.length room
def wJ:List (List Int)->Int->Int
 | [],room=>room
 |r::rs,room=>if gO r room<0 then-1 else wJ rs (gO r room)
def Wz (xs:List (List Int)) (room:Int):Int:=if jc xs.length room<0 then-1 else wJ xs (jc xs.length room)
def ja (a b:List (List Int)):Bool:=decide (a=b)
noncomputable abbrev qF:Spec:=Di (.pair tL (.pair tI .unit)) tI false true (λx=>short x.1/\roomy x.2.1) (λx=>gO x.1 x.2.1)
noncomputable abbrev jy:Spec:=Di (.pair iB (.pair tI .unit)) tI false true (λx=>Ga x.1/\roomy x.2.1) (λx=>Wz x.1 x.2.1)
noncomputable abbrev kB:Spec:=Di (.pair tL .unit) tL false true (λx=>short x.1) (λx=>x.1)
noncomputable abbrev jz:Spec:=Di (.pair iB .unit) iB false true (λx=>Ga x.1) (λx=>x.1)
noncomputable abbrev jt:Spec:=Di (.pair iB (.pair iB .unit)) .bool false true (λx=>Ga x.1) (λx=>ja x.1 x.2.1)
theorem Abk (xs:List Int) (room:Int) (P:Int->Prop):(Br (decide (IntKind.i64.wrap (room-(↑xs.length:Int))<0)) (P (-1)) (P (IntKind.i64.wrap (room-(↑xs.length:Int)))))=fnW Cy (look []) qF Try.f74 (xs,room,()) P:=by kernel_rfl
theorem WA (xs:List (List Int)) (room:Int) (P:Int->Prop):(Br (decide (IntKind.i64.wrap (room-(↑xs.length:Int))<0)) (P (-1)) (Bt (λ(v3:Int×Int×PUnit) (k4:Int×Int×PUnit->Prop)=>Br (decide (v3.2.1<(↑xs.length:Int))) (∃(y5:List Int),idx xs v3.2.1=some y5/\ ∃(y6:Int),qF.fn (y5,v3.1,())=some y6/\Br (decide (y6<0)) (P (-1)) (k4 (y6,IntKind.i64.wrap (v3.2.1+1),()))) (P v3.1)) (IntKind.i64.wrap (room-(↑xs.length:Int)),0,PUnit.unit)))=fnW Cy (look [(74,qF)]) jy Try.f34 (xs,room,()) P:=by kernel_rfl
theorem Abm (xs:List Int) (P:List Int->Prop):((0<=(↑xs.length:Int)/\(↑xs.length:Int)<(↑Bm:Int)+1)/\(↑xs.length:Int)=(↑xs.length:Int)/\0=0/\(List.replicate (↑xs.length:Int).toNat (Int.ofNat 0)).length=(List.replicate (↑xs.length:Int).toNat (Int.ofNat 0)).length/\Bt (λ(v2:Int×List Int×PUnit) (k3:Int×List Int×PUnit->Prop)=>Br (decide (v2.1<(↑xs.length:Int))) (∃(y4:Int),idx xs v2.1=some y4/\(0<=v2.1/\v2.1<(↑v2.2.1.length:Int))/\0+v2.1.toNat<v2.2.1.length/\0=0/\v2.2.1.length=(v2.2.1.set (0+v2.1.toNat) y4).length/\k3 (IntKind.i64.wrap (v2.1+1),v2.2.1.set (0+v2.1.toNat) y4,())) (P (List.take v2.2.1.length (List.drop 0 v2.2.1)))) (0,List.replicate (↑xs.length:Int).toNat (Int.ofNat 0),PUnit.unit))=fnW Cy (look []) kB Try.f17 (xs,()) P:=by kernel_rfl
theorem WB (xs:List (List Int)) (P:List (List Int)->Prop):((0<=(↑xs.length:Int)/\(↑xs.length:Int)<(↑Bm:Int)+1)/\(↑xs.length:Int)=(↑xs.length:Int)/\0=0/\(List.replicate (↑xs.length:Int).toNat ([]:List Int)).length=(List.replicate (↑xs.length:Int).toNat ([]:List Int)).length/\Bt (λ(v2:Int×List (List Int)×PUnit) (k3:Int×List (List Int)×PUnit->Prop)=>Br (decide (v2.1<(↑xs.length:Int))) (∃(y4:List Int),idx xs v2.1=some y4/\ ∃(y5:List Int),kB.fn (y4,())=some y5/\(0<=v2.1/\v2.1<(↑v2.2.1.length:Int))/\0+v2.1.toNat<v2.2.1.length/\0=0/\v2.2.1.length=(v2.2.1.set (0+v2.1.toNat) y5).length/\k3 (IntKind.i64.wrap (v2.1+1),v2.2.1.set (0+v2.1.toNat) y5,())) (P (List.take v2.2.1.length (List.drop 0 v2.2.1)))) (0,List.replicate (↑xs.length:Int).toNat ([]:List Int),PUnit.unit))=fnW Cy (look [(17,kB)]) jz Try.f36 (xs,()) P:=by kernel_rfl
theorem Abd (a b:List Int) (P:Bool->Prop):(Br ((↑a.length:Int) !=(↑b.length:Int)) (P false) (Bt (λ(v3:Int×PUnit) (k4:Int×PUnit->Prop)=>Br (decide (v3.1<(↑a.length:Int))) (∃(y5:Int),idx a v3.1=some y5/\ ∃(y6:Int),idx b v3.1=some y6/\Br (y5 !=y6) (P false) (k4 (IntKind.i64.wrap (v3.1+1),()))) (P true)) (0,PUnit.unit)))=fnW Cy (look []) Cu Try.f20 (a,b,()) P:=by kernel_rfl
theorem VS (a b:List (List Int)) (P:Bool->Prop):(Br ((↑a.length:Int) !=(↑b.length:Int)) (P false) (Bt (λ(v3:Int×PUnit) (k4:Int×PUnit->Prop)=>Br (decide (v3.1<(↑a.length:Int))) (∃(y5:List Int),idx a v3.1=some y5/\ ∃(y6:List Int),idx b v3.1=some y6/\ ∃(y7:Bool),Cu.fn (y5,y6,())=some y7/\Br (!y7) (P false) (k4 (IntKind.i64.wrap (v3.1+1),()))) (P true)) (0,PUnit.unit)))=fnW Cy (look [(20,Cu)]) jt Try.f38 (a,b,()) P:=by kernel_rfl
theorem CT {n:Nat} {room:Int} (h:roomy room) (h2: ¬jc n room<0):roomy (jc n room):=by
 unfold jc roomy at*
 split at h2<;>simp_all
 omega
theorem Aaw (xs:List Int) (room:Int) (h:short xs/\roomy room):fnW Cy (look []) qF Try.f74 (xs,room,()) (λ(z:Int)=>z=gO xs room):=by
 obtain ⟨h1,h2,h3⟩:=h
 unfold short at h1
 refine Eq.mp (Abk xs room _) ?_
 rw [Bw (by omega) (by omega)]
 refine Br.dec (λh=>?_) λh=>?_
 ·simp only [gO,jc,if_pos h]
 ·simp only [gO,jc,if_neg h]
theorem EN:Sound Try.prog 74 qF:=
 Sound.Di Bx Ao mixed Try.func74 (by kernel_rfl) (by kernel_rfl) λx h=>Aaw x.1 x.2.1 h
theorem VB (xs:List (List Int)) (room:Int) (h:Ga xs/\roomy room):fnW Cy (look [(74,qF)]) jy Try.f34 (xs,room,()) (λ(z:Int)=>z=Wz xs room):=by
 obtain ⟨⟨h1,h4⟩,h2,h3⟩:=h
 refine Eq.mp (WA xs room _) ?_
 rw [Bw (by omega) (by omega)]
 refine Br.dec (λh=>?_) λh=>?_
 ·simp only [Wz,jc,if_pos h];rfl
 ·refine As xs.length (λv=>v.2.1) (λj v=>roomy v.1/\wJ (xs.drop j) v.1=Wz xs room) rfl ?_ ?_
  ·refine ⟨by unfold roomy;omega,?_⟩
   simp only [Wz,jc,if_neg h,List.drop_zero]
  ·rintro j ⟨r,i,⟨⟩⟩ K hj hi ⟨hr,hR⟩ hK
   dsimp only at hi hr hR⊢
   subst hi
   refine Br.dec (λhl=>?_) λhl=>?_
   ·have hl:j<xs.length:=by omega
    have hd:xs.drop j=xs[j]::xs.drop (j+1):=List.drop_eq_getElem_cons hl
    refine ⟨_,Av hl,_,if_pos ⟨h4 _ (List.getElem_mem hl),hr⟩,?_⟩
    rw [hd] at hR
    simp only [wJ] at hR
    refine Br.dec (λhn=>?_) λhn=>?_
    ·have hn:gO xs[j] r<0:=hn
     rw [if_pos hn] at hR
     exact hR
    ·have hn: ¬gO xs[j] r<0:=hn
     rw [if_neg hn] at hR
     rw [Ar (by omega)]
     exact hK hl _ rfl ⟨CT hr hn,hR⟩
   ·have:j=xs.length:=by omega
    subst this
    rw [List.drop_length] at hR
    exact hR
theorem zb:Sound Try.prog 34 jy:=
 Sound.Di Bx (Ah EN Ao) mixed Try.func34 (by kernel_rfl) (by kernel_rfl) λx h=>VB x.1 x.2.1 h
theorem Kq {α:Type} {ys xs:List α} {j:Nat} (h:j<xs.length) (hl:ys.length=xs.length) (ht:ys.take j=xs.take j):(ys.set j xs[j]).take (j+1)=xs.take (j+1):=by
 have h1:j<(ys.set j xs[j]).length:=by rw [List.length_set];omega
 rw [List.take_succ_eq_append_getElem h1,List.take_succ_eq_append_getElem h,List.getElem_set_self,List.take_set_of_le (Nat.le_refl j),ht]
theorem Aay (xs:List Int) (h:short xs):fnW Cy (look []) kB Try.f17 (xs,()) (λ(z:List Int)=>z=xs):=by
 unfold short at h
 refine Eq.mp (Abm xs _) ?_
 refine ⟨⟨by omega,by show (xs.length:Int)<(4294967296:Int)+1;omega⟩,rfl,rfl,rfl,?_⟩
 refine As xs.length (λv=>v.1) (λj v=>v.2.1.length=xs.length/\v.2.1.take j=xs.take j) rfl ⟨by simp,by simp⟩ ?_
 rintro j ⟨i,ys,⟨⟩⟩ K hj hi ⟨h1,h2⟩ hK
 dsimp only at hi h1 h2⊢
 subst hi
 refine Br.dec (λhl=>?_) λhl=>?_
 ·have hl:j<xs.length:=by omega
  refine ⟨_,Av hl,⟨by omega,by omega⟩,by rw [Int.toNat_natCast];omega,rfl,by rw [List.length_set],?_⟩
  rw [Ar (by omega),Int.toNat_natCast,Nat.zero_add]
  exact hK hl _ rfl ⟨by rw [List.length_set];exact h1,Kq hl h1 h2⟩
 ·have:j=xs.length:=by omega
  subst this
  rw [List.take_length,<-h1,List.take_length] at h2
  rw [List.drop_zero,List.take_length]
  exact h2
theorem qM:Sound Try.prog 17 kB:=
 Sound.Di Bx Ao mixed Try.func17 (by kernel_rfl) (by kernel_rfl) λx h=>Aay x.1 h
theorem VC (xs:List (List Int)) (h:Ga xs):fnW Cy (look [(17,kB)]) jz Try.f36 (xs,()) (λ(z:List (List Int))=>z=xs):=by
 obtain ⟨h,h4⟩:=h
 refine Eq.mp (WB xs _) ?_
 refine ⟨⟨by omega,by show (xs.length:Int)<(4294967296:Int)+1;omega⟩,rfl,rfl,rfl,?_⟩
 refine As xs.length (λv=>v.1) (λj v=>v.2.1.length=xs.length/\v.2.1.take j=xs.take j) rfl ⟨by simp,by simp⟩ ?_
 rintro j ⟨i,ys,⟨⟩⟩ K hj hi ⟨h1,h2⟩ hK
 dsimp only at hi h1 h2⊢
 subst hi
 refine Br.dec (λhl=>?_) λhl=>?_
 ·have hl:j<xs.length:=by omega
  refine ⟨_,Av hl,_,if_pos (h4 _ (List.getElem_mem hl)),⟨by omega,by omega⟩,by rw [Int.toNat_natCast];omega,rfl,by rw [List.length_set],?_⟩
  rw [Ar (by omega),Int.toNat_natCast,Nat.zero_add]
  exact hK hl _ rfl ⟨by rw [List.length_set];exact h1,Kq hl h1 h2⟩
 ·have:j=xs.length:=by omega
  subst this
  rw [List.take_length,<-h1,List.take_length] at h2
  rw [List.drop_zero,List.take_length]
  exact h2
theorem zc:Sound Try.prog 36 jz:=
 Sound.Di Bx (Ah qM Ao) mixed Try.func36 (by kernel_rfl) (by kernel_rfl) λx h=>VC x.1 h
theorem Aap (a b:List Int) (h:short a):fnW Cy (look []) Cu Try.f20 (a,b,()) (λ(z:Bool)=>z=Ig a b):=by
 refine Eq.mp (Abd a b _) ⟨λhl=>?_,λhl=>?_⟩
 ·simp only [bne_iff_ne,ne_eq,Int.natCast_inj] at hl
  exact (decide_eq_false λog=>hl (by rw [og])).symm
 ·simp only [bne_eq_false_iff_eq,Int.natCast_inj] at hl
  exact zK a b hl h
theorem qL:Sound Try.prog 20 Cu:=
 Sound.Di Bx Ao mixed Try.func20 (by kernel_rfl) (by kernel_rfl) λx h=>Aap x.1 x.2.1 h
theorem US (a b:List (List Int)) (h:Ga a):fnW Cy (look [(20,Cu)]) jt Try.f38 (a,b,()) (λ(z:Bool)=>z=ja a b):=by
 obtain ⟨h,h4⟩:=h
 refine Eq.mp (VS a b _) ⟨λhl=>?_,λhl=>?_⟩
 ·simp only [bne_iff_ne,ne_eq,Int.natCast_inj] at hl
  exact (decide_eq_false λog=>hl (by rw [og])).symm
 ·simp only [bne_eq_false_iff_eq,Int.natCast_inj] at hl
  refine As a.length (λv=>v.1) (λj _=>a.take j=b.take j) rfl (by simp) ?_
  rintro j ⟨i,⟨⟩⟩ K hj hi hR hK
  dsimp only at hi⊢
  subst hi
  refine Br.dec (λHl=>?_) λHl=>?_
  ·have uY:j<a.length:=by omega
   have FY:j<b.length:=by omega
   refine ⟨_,Av uY,_,Av FY,_,if_pos (h4 _ (List.getElem_mem uY)),⟨λhe=>?_,λhe=>?_⟩⟩
   ·refine (decide_eq_false λog=>?_).symm
    subst og
    simp [Ig] at he
   ·rw [Ar (by omega)]
    refine hK uY _ rfl ?_
    simp only [Ig,Bool.not_eq_false',decide_eq_true_eq] at he
    rw [List.take_succ_eq_append_getElem uY,List.take_succ_eq_append_getElem FY,hR]
    exact congrArg (λx=>List.take j b++ [x]) he
  ·have rI:j=a.length:=by omega
   subst rI
   rw [List.take_length,hl,List.take_length] at hR
   exact (decide_eq_true hR).symm
theorem z0:Sound Try.prog 38 jt:=
 Sound.Di Bx (Ah qL Ao) mixed Try.func38 (by kernel_rfl) (by kernel_rfl) λx h=>US x.1 x.2.1 h
end Go.Proofs.Ytjbdmibbbpdnnaa

namespace Go.Proofs.Ytjbdmibbbpdnnaa
open Go.RowKit
def PL (n:Int) (xs:List Int) (k:Nat):Prop:= ∀j (h:j<xs.length),j<k->0<=xs[j]/\xs[j]<=n-1/\(0<j->xs[j-1]<xs[j])
def DL (n:Int) (xs:List Int) (k:Nat):Prop:= ∀j (h:j<xs.length),j<k->0<=xs[j]/\xs[j]<=n-1/\xs[j]∉xs.take j
noncomputable def dec (p:Prop):Bool:= @decide p (Classical.propDecidable p)
theorem Je {p:Prop} (h:p):true=dec p:=(@decide_eq_true p (Classical.propDecidable p) h).symm
theorem Bg {p:Prop} (h: ¬p):false=dec p:=(@decide_eq_false p (Classical.propDecidable p) h).symm
theorem Fw {p:Prop} :dec p=true↔p:= @decide_eq_true_iff p (Classical.propDecidable p)
theorem ML {p:Prop} :dec p=false↔ ¬p:= @decide_eq_false_iff_not p (Classical.propDecidable p)
def OE (n:Int):Prop:=0<=n/\n<=4294967296
noncomputable def Gd (n:Int) (xs:List Int):Bool:=dec (0<xs.length/\PL n xs xs.length)
noncomputable abbrev Ff:Spec:=Di (.pair tI (.pair tL .unit)) .bool false true (λx=>OE x.1/\short x.2.1) (λx=>Gd x.1 x.2.1)
noncomputable abbrev Tl:Spec:=Di (.pair iB .unit) tI false true (λ_=>True) (λx=>(List.length x.1:Int))
theorem pt (n:Int) (xs:List Int) (P:Bool->Prop):(∃(y3:Bool),Bk.fn ((↑xs.length:Int),(1:Int),n,())=some y3/\Br (!y3) (P false) (Bt (λ(v4:Int×PUnit) (k5:Int×PUnit->Prop)=>Br (decide (v4.1<(↑xs.length:Int))) (∃(y6:Int),idx xs v4.1=some y6/\ ∃(y7:Bool),Bk.fn (y6,(0:Int),IntKind.i64.wrap (n-(1:Int)),())=some y7/\Br (!y7) (P false) (Br (decide (v4.1>(0:Int))) (∃(y8:Int),idx xs v4.1=some y8/\ ∃(y9:Int),idx xs (IntKind.i64.wrap (v4.1-(1:Int)))=some y9/\Br (decide (y8<=y9)) (P false) (k5 (IntKind.i64.wrap (v4.1+(1:Int)),()))) (k5 (IntKind.i64.wrap (v4.1+(1:Int)),())))) (P true)) ((0:Int),PUnit.unit)))=fnW Cy (look [(93,Bk)]) Ff Try.f111 (n,xs,()) P:=by kernel_rfl
theorem wW (n:Int) (xs:List Int) (P:Bool->Prop):(Bt (λ(v3:Int×PUnit) (k4:Int×PUnit->Prop)=>Br (decide (v3.1<(↑xs.length:Int))) (∃(y5:Int),idx xs v3.1=some y5/\ ∃(y6:Bool),Tw.fn (n,y5,())=some y6/\Br (!y6) (P false) (Br (decide (v3.1>(0:Int))) (∃(y7:Int),idx xs (IntKind.i64.wrap (v3.1-(1:Int)))=some y7/\Br (decide (y7>=y5)) (P false) (k4 (IntKind.i64.wrap (v3.1+(1:Int)),()))) (k4 (IntKind.i64.wrap (v3.1+(1:Int)),())))) (P (decide ((↑xs.length:Int)>(0:Int))))) ((0:Int),PUnit.unit))=fnW Cy (look [(116,Tw)]) Ff Try.f66 (n,xs,()) P:=by kernel_rfl
theorem PQ (xs:List (List Int)) (P:Int->Prop):(P (↑xs.length:Int))=fnW Cy (look []) Tl Try.f58 (xs,()) P:=by kernel_rfl
theorem OM (xs:List (List Int)) (_:True):fnW Cy (look []) Tl Try.f58 (xs,()) (λ(z:Int)=>z=(xs.length:Int)):=Eq.mp (PQ xs _) rfl
theorem kC:Sound Try.prog 58 Tl:=
 Sound.Di Bx Ao mixed Try.func58 (by kernel_rfl) (by kernel_rfl) λx h=>OM x.1 h
theorem ko {n x:Int} (hn:OE n):dv n x=true↔0<=x/\x<=n-1:=by
 unfold dv OE at*
 rw [Bw (by omega) (by omega),decide_eq_true_iff]
theorem Co {x a b:Int} :He x a b=true↔a<=x/\x<=b:=decide_eq_true_iff
theorem Dh {b:Bool} (h:(!b)=true): ¬b=true:=by cases b<;>simp_all
theorem Gl {b:Bool} (h:(!b)=false):b=true:=by cases b<;>simp_all
theorem yH {n:Int} {xs:List Int} (h:PL n xs xs.length): ∀j (hj:j<xs.length),(j:Int)<=xs[j]
 |0,hj=>(h 0 hj hj).1
 |j+1,hj=>by
  have h1:=yH h j (by omega)
  have h2:=(h (j+1) hj hj).2.2 (by omega)
  simp only [Nat.add_sub_cancel] at h2
  omega
theorem lB {n:Int} {xs:List Int} {j:Nat} (hl:j<xs.length) (h:PL n xs j) (h1:0<=xs[j]) (h2:xs[j]<=n-1) (h3:0<j->xs[j-1]<xs[j]):PL n xs (j+1):=by
 intro i hi iZ
 by_cases e:i=j
 ·subst e;exact ⟨h1,h2,h3⟩
 ·exact h i hi (by omega)
theorem w7 (n:Int) (xs:List Int) (h:OE n/\short xs):fnW Cy (look [(116,Tw)]) Ff Try.f66 (n,xs,()) (λ(z:Bool)=>z=Gd n xs):=by
 obtain ⟨hn,h⟩:=h
 unfold short at h
 refine Eq.mp (wW n xs _) ?_
 refine As xs.length (λv=>v.1) (λj _=>PL n xs j) rfl (λj _ hj=>absurd hj (Nat.not_lt_zero _)) ?_
 rintro j ⟨i,⟨⟩⟩ K hj hi hR hK
 dsimp only at hi⊢
 subst hi
 refine Br.dec (λhl=>?_) λhl=>?_
 ·have hl:j<xs.length:=by omega
  refine ⟨_,Av hl,_,if_pos trivial,⟨λhp=>?_,λhp=>?_⟩⟩
  ·have hp:=Dh hp
   rw [ko hn] at hp
   exact Bg λhh=>hp ⟨(hh.2 j hl hl).1,(hh.2 j hl hl).2.1⟩
  ·have hp:=Gl hp
   rw [ko hn] at hp
   refine Br.dec (λh0=>?_) λh0=>?_
   ·have h0:0<j:=by omega
    rw [Bw (by omega) (by omega),show (j:Int)-1=((j-1:Nat):Int) by omega]
    refine ⟨_,Av (by omega),Br.dec (λhg=>?_) λhg=>?_⟩
    ·exact Bg λhh=>by have:=(hh.2 j hl hl).2.2 h0;omega
    ·rw [Ar (by omega)]
     exact hK hl _ rfl (lB hl hR hp.1 hp.2 λ_=>by omega)
   ·have h0:j=0:=by omega
    rw [Ar (by omega)]
    exact hK hl _ rfl (lB hl hR hp.1 hp.2 λh=>by omega)
 ·have:j=xs.length:=by omega
  subst this
  by_cases h0:0<xs.length
  ·rw [decide_eq_true (show (xs.length:Int)>0 by omega)];exact Je ⟨h0,hR⟩
  ·rw [decide_eq_false (show ¬(xs.length:Int)>0 by omega)];exact Bg λhh=>h0 hh.1
theorem l8:Sound Try.prog 66 Ff:=
 Sound.Di Bx (Ah p9 Ao) mixed Try.func66 (by kernel_rfl) (by kernel_rfl) λx h=>w7 x.1 x.2.1 h
theorem oN (n:Int) (xs:List Int) (h:OE n/\short xs):fnW Cy (look [(93,Bk)]) Ff Try.f111 (n,xs,()) (λ(z:Bool)=>z=Gd n xs):=by
 obtain ⟨hn,h⟩:=h
 unfold short at h
 refine Eq.mp (pt n xs _) ⟨_,if_pos trivial,⟨λhp=>?_,λhp=>?_⟩⟩
 ·have hp:=Dh hp
  rw [Co] at hp
  dsimp only at hp
  refine Bg λhh=>hp ⟨by omega,?_⟩
  have:=yH hh.2 (xs.length-1) (by omega)
  have:=(hh.2 (xs.length-1) (by omega) (by omega)).2.1
  omega
 ·have hp:=Gl hp
  rw [Co] at hp
  dsimp only at hp
  refine As xs.length (λv=>v.1) (λj _=>PL n xs j) rfl (λj _ hj=>absurd hj (Nat.not_lt_zero _)) ?_
  rintro j ⟨i,⟨⟩⟩ K hj hi hR hK
  dsimp only at hi⊢
  subst hi
  refine Br.dec (λhl=>?_) λhl=>?_
  ·have hl:j<xs.length:=by omega
   refine ⟨_,Av hl,_,if_pos trivial,⟨λhq=>?_,λhq=>?_⟩⟩
   ·have hq:=Dh hq
    unfold OE at hn
    rw [Co,Bw (by omega) (by omega)] at hq
    exact Bg λhh=>hq ⟨(hh.2 j hl hl).1,(hh.2 j hl hl).2.1⟩
   ·have hq:=Gl hq
    unfold OE at hn
    rw [Co,Bw (by omega) (by omega)] at hq
    refine Br.dec (λh0=>?_) λh0=>?_
    ·have h0:0<j:=by omega
     rw [Bw (by omega) (by omega),show (j:Int)-1=((j-1:Nat):Int) by omega]
     refine ⟨_,Av hl,_,Av (by omega),Br.dec (λhg=>?_) λhg=>?_⟩
     ·exact Bg λhh=>by have:=(hh.2 j hl hl).2.2 h0;omega
     ·rw [Ar (by omega)]
      exact hK hl _ rfl (lB hl hR hq.1 hq.2 λ_=>by omega)
    ·rw [Ar (by omega)]
     exact hK hl _ rfl (lB hl hR hq.1 hq.2 λh=>by omega)
  ·have:j=xs.length:=by omega
   subst this
   exact Je ⟨by omega,hR⟩
theorem ic:Sound Try.prog 111 Ff:=
 Sound.Di Bx (Ah Xe Ao) mixed Try.func111 (by kernel_rfl) (by kernel_rfl) λx h=>oN x.1 x.2.1 h
theorem MN {n:Int} {xs:List Int} {j:Nat} (hl:j<xs.length) (h:DL n xs j) (h1:0<=xs[j]) (h2:xs[j]<=n-1) (h3:xs[j]∉xs.take j):DL n xs (j+1):=by
 intro i hi iZ
 by_cases e:i=j
 ·subst e;exact ⟨h1,h2,h3⟩
 ·exact h i hi (by omega)
theorem yW {xs:List Int} (h:short xs) (j:Nat):short (xs.take j):=by
 unfold short at*
 rw [List.length_take]
 omega
end Go.Proofs.Ytjbdmibbbpdnnaa

namespace Go.Proofs.Ytjbdmibbbpdnnaa
open Go.RowKit
theorem wm:roomy 1048576:=⟨by decide,by decide⟩
end Go.Proofs.Ytjbdmibbbpdnnaa

namespace Go.Proofs.Ytjbdmibbbpdnnaa
open Go.RowKit
abbrev PP:Type:=Int×ByteArray×List (List Int)×Unit
noncomputable def Fl (p:List Int):Bool:=dec (1<=p.length/\p.length<=20/\DL p.length p p.length)
noncomputable def Eh (n:Int) (p:List Int):Bool:=dec ((p.length:Int)=n/\Fl p=true)
noncomputable def Rz (n:Int) (g:List (List Int)):Bool:=dec ((1<=n/\n<=20)/\g.length<=8/\ ∀p∈g,Eh n p=true)
def Ck {α:Type} (P:α->Bool):List α->Int->Int
 | [],_=> -1
 |y::r,i=>if P y=true then i else Ck P r (i+1)
abbrev tG1:Ty:= .clo 177 (.pair (.ptr tI) .unit)
def qS (s:ByteArray) (i:Nat):Prop:= ∃c:UInt8,s[i]?=some c/\65<=c.toNat/\c.toNat<=90/\ ∀k,k<i->s[k]?≠some c
noncomputable def gN (s:ByteArray) (i:Int):Bool:=dec (qS s i.toNat)
noncomputable def Yi (s:ByteArray):Bool:=dec ((1<=s.size/\s.size<=8)/\ ∀j,j<s.size->qS s j)
noncomputable def Bd (p:PP):Bool:=dec (Rz p.1 p.2.2.1=true/\Yi p.2.1=true/\p.2.1.size=p.2.2.1.length)
def Dt (p:PP):Prop:=p.2.1.size<=4294967296/\Ga p.2.2.1
noncomputable abbrev Mk:Spec:=Di (.pair tL .unit) tI false true (λ_=>True) (λx=>(List.length x.1:Int))
noncomputable abbrev Em:Spec:=Di (.pair tL .unit) .bool false true (λx=>short x.1) (λx=>Fl x.1)
noncomputable abbrev Kf:Spec:=Di (.pair tI (.pair iB .unit)) .bool false true (λx=>Ga x.2.1) (λx=>Rz x.1 x.2.1)
noncomputable abbrev dA:Spec:=Di (.pair tL (.pair (.ptr tI) .unit)) .bool false true (λx=>short x.1) (λx=>!Eh x.2.1 x.1)
noncomputable abbrev qD:Spec:=Di (.pair iB (.pair tG1 .unit)) tI false true (λx=>Ga x.1) (λx=>Ck (λp=>!Eh x.2.1.1 p) x.1 0)
noncomputable abbrev qx:Spec:=Di (.pair iB (.pair tG1 .unit)) .bool false true (λx=>Ga x.1) (λx=>List.any x.1 (λp=>!Eh x.2.1.1 p))
noncomputable abbrev Yp:Spec:=Di (.pair .str (.pair tI .unit)) .bool false true (λx=>0<=x.2.1/\x.2.1<x.1.size/\x.1.size<=4294967296) (λx=>gN x.1 x.2.1)
noncomputable abbrev Tv:Spec:=Di (.pair .str .unit) .bool false true (λx=>x.1.size<=4294967296) (λx=>Yi x.1)
noncomputable abbrev Fm:Spec:=Di (.pair Dn .unit) .bool false true (λx=>Dt x.1) (λx=>Bd x.1)
def cp (p:PP) (room:Int):Int:=if room-p.2.1.size<0 then-1 else if Wz p.2.2.1 (room-p.2.1.size)<0 then-1 else Wz p.2.2.1 (room-p.2.1.size)
def kl (a b:PP):Bool:=decide (a.1=b.1)&&(decide (a.2.1=b.2.1)&&decide (a.2.2.1=b.2.2.1))
noncomputable abbrev qG:Spec:=Di (.pair Dn (.pair tI .unit)) tI false true (λx=>Dt x.1/\roomy x.2.1) (λx=>cp x.1 x.2.1)
noncomputable abbrev qH:Spec:=Di (.pair Dn .unit) Dn false true (λx=>Dt x.1) (λx=>x.1)
noncomputable abbrev qA:Spec:=Di (.pair Dn (.pair Dn .unit)) .bool false true (λx=>Dt x.1) (λx=>kl x.1 x.2.1)
theorem VV (xs:List Int) (P:Int->Prop):(P (↑xs.length:Int))=fnW Cy (look []) Mk Try.f82 (xs,()) P:=by kernel_rfl
theorem tM (p:List Int) (P:Bool->Prop):(∃(y2:Bool),Bk.fn ((↑p.length:Int),(1:Int),(20:Int),())=some y2/\Br (!y2) (P false) (Bt (λ(v3:Int×PUnit) (k4:Int×PUnit->Prop)=>Br (decide (v3.1<(↑p.length:Int))) (∃(y5:Int),idx p v3.1=some y5/\ ∃(y6:Bool),Bk.fn (y5,(0:Int),IntKind.i64.wrap ((↑p.length:Int)-(1:Int)),())=some y6/\Br (!y6) (P false) (((0:Int)<=(0:Int)/\(0:Int)<=v3.1/\v3.1<=(↑p.length:Int))/\ ∃(y7:Int),idx p v3.1=some y7/\ ∃(y8:Bool),Kn.fn (List.drop (Int.toNat (0:Int)) (List.take v3.1.toNat p),y7,())=some y8/\Br y8 (P false) (k4 (IntKind.i64.wrap (v3.1+(1:Int)),())))) (P true)) ((0:Int),PUnit.unit)))=fnW Cy (look [(93,Bk),(153,Kn)]) Em Try.f169 (p,()) P:=by kernel_rfl
theorem tF (p:List Int) (P:Bool->Prop):(∃(y2:Int),Mk.fn (p,())=some y2/\ ∃(y3:Bool),Bk.fn (y2,(1:Int),(20:Int),())=some y3/\Br (!y3) (P false) (Bt (λ(v4:Int×Int×PUnit) (k5:Int×Int×PUnit->Prop)=>Br (decide (v4.2.1<(↑p.length:Int))) (∃(y6:Int),idx p v4.2.1=some y6/\ ∃(y7:Int),Mk.fn (p,())=some y7/\ ∃(y8:Bool),Bk.fn (y6,(0:Int),IntKind.i64.wrap (y7-(1:Int)),())=some y8/\Br (!y8) (P false) (¬y6<(0:Int)/\k5 (IntKind.i64.wrap (↑(BitVec.ofInt IntKind.i64.bits v4.1|||BitVec.ofInt IntKind.i64.bits (IntKind.i64.wrap ((1:Int)*(2:Int)^min y6.toNat IntKind.i64.bits))).toNat:Int),IntKind.i64.wrap (v4.2.1+(1:Int)),()))) (¬(↑p.length:Int)<(0:Int)/\P (v4.1==IntKind.i64.wrap (IntKind.i64.wrap ((1:Int)*(2:Int)^min (↑p.length:Int).toNat IntKind.i64.bits)-(1:Int))))) ((0:Int),(0:Int),PUnit.unit)))=fnW Cy (look [(97,Bk),(82,Mk)]) Em Try.f168 (p,()) P:=by kernel_rfl
theorem tK (n:Int) (g:List (List Int)) (P:Bool->Prop):(∃(y3:Bool),Bk.fn (n,(1:Int),(20:Int),())=some y3/\Br (!y3) (P false) (Br (decide ((↑g.length:Int)>(8:Int))) (P false) (Bt (λ(v4:Int×PUnit) (k5:Int×PUnit->Prop)=>Br (decide (v4.1<(↑g.length:Int))) (∃(y6:List Int),idx g v4.1=some y6/\Br ((↑y6.length:Int) !=n) (P false) (∃(y7:List Int),idx g v4.1=some y7/\ ∃(y8:Bool),Em.fn (y7,())=some y8/\Br (!y8) (P false) (k5 (IntKind.i64.wrap (v4.1+(1:Int)),())))) (P true)) ((0:Int),PUnit.unit))))=fnW Cy (look [(93,Bk),(169,Em)]) Kf Try.f147 (n,g,()) P:=by kernel_rfl
theorem PM (p:List Int) (n:Int) (P:Bool->Prop):(∃(y3:Int),Mk.fn (p,())=some y3/\Br (y3 !=n) (P true) (∃(y4:Bool),Em.fn (p,())=some y4/\P !y4))=fnW Cy (look [(82,Mk),(168,Em)]) dA Try.f177 (p,n,()) P:=by kernel_rfl
theorem Abi (g:List (List Int)) (n:Int×Unit) (P:Int->Prop):(Bt (λ(v3:Int×PUnit) (k4:Int×PUnit->Prop)=>Br (decide (v3.1<(↑g.length:Int))) (∃(y5:List Int),idx g v3.1=some y5/\ ∃(y6:Bool),dA.fn (y5,n.1,())=some y6/\Br y6 (P v3.1) (k4 (IntKind.i64.wrap (v3.1+(1:Int)),()))) (P (-1:Int))) ((0:Int),PUnit.unit))=fnW Cy (look [(177,dA)]) qD Try.f184 (g,n,()) P:=by kernel_rfl
theorem Aba (g:List (List Int)) (n:Int×Unit) (P:Bool->Prop):(∃(y3:Int),qD.fn (g,n,())=some y3/\P (decide (y3>=(0:Int))))=fnW Cy (look [(184,qD)]) qx Try.f176 (g,n,()) P:=by kernel_rfl
theorem tE (n:Int) (g:List (List Int)) (P:Bool->Prop):(∃(y3:Bool),Bk.fn (n,(1:Int),(20:Int),())=some y3/\Br y3 (Br (decide ((↑g.length:Int)<=(8:Int))) (∃(y4:Bool),qx.fn (g,(n,()),())=some y4/\P !y4) (P false)) (P false))=fnW Cy (look [(97,Bk),(176,qx)]) Kf Try.f158 (n,g,()) P:=by kernel_rfl
theorem LI (s:ByteArray) (i:Int) (P:Bool->Prop):((0:Int)<=i/\ ∃(y3:UInt8),s[i.toNat]?=some y3/\Br (decide ((↑y3.toNat:Int)<(65:Int))) (P false) ((0:Int)<=i/\ ∃(y4:UInt8),s[i.toNat]?=some y4/\Br (decide ((↑y4.toNat:Int)>(90:Int))) (P false) (Bt (λ(v5:Int×PUnit) (k6:Int×PUnit->Prop)=>Br (decide (v5.1<i)) ((0:Int)<=v5.1/\ ∃(y7:UInt8),s[v5.1.toNat]?=some y7/\(0:Int)<=i/\ ∃(y8:UInt8),s[i.toNat]?=some y8/\Br ((↑y7.toNat:Int)==(↑y8.toNat:Int)) (P false) (k6 (IntKind.i64.wrap (v5.1+(1:Int)),()))) (P true)) ((0:Int),PUnit.unit))))=fnW Cy (look []) Yp Try.f148 (s,i,()) P:=by kernel_rfl
theorem FH (s:ByteArray) (P:Bool->Prop):(Bt (λ(v2:Int×PUnit) (k3:Int×PUnit->Prop)=>Br (decide (v2.1<(↑s.size:Int))) ((0:Int)<=v2.1/\ ∃(y4:UInt8),s[v2.1.toNat]?=some y4/\ ∃(y5:Bool),Bk.fn (IntKind.i64.wrap (↑y4.toNat:Int),(65:Int),(90:Int),())=some y5/\Br (!y5) (P false) (Bt (λ(v6:Int×PUnit) (k7:Int×PUnit->Prop)=>Br (decide (v6.1<v2.1)) ((0:Int)<=v6.1/\ ∃(y8:UInt8),s[v6.1.toNat]?=some y8/\(0:Int)<=v2.1/\ ∃(y9:UInt8),s[v2.1.toNat]?=some y9/\Br ((↑y8.toNat:Int)==(↑y9.toNat:Int)) (P false) (k7 (IntKind.i64.wrap (v6.1+(1:Int)),()))) (k3 (IntKind.i64.wrap (v2.1+(1:Int)),()))) ((0:Int),PUnit.unit))) (∃(y4:Bool),Bk.fn ((↑s.size:Int),(1:Int),(8:Int),())=some y4/\P y4)) ((0:Int),PUnit.unit))=fnW Cy (look [(97,Bk)]) Tv Try.f159 (s,()) P:=by kernel_rfl
abbrev eA:Type:=Int×Int×ByteArray×List (List Int)×PUnit
theorem tN (p:Int×ByteArray×List (List Int)×Unit) (P:Bool->Prop):(Br ((↑p.2.2.1.length:Int)==(0:Int)) (P false) (Br ((↑p.2.1.size:Int) !=(↑p.2.2.1.length:Int)) (P false) (∃(y2:Bool),Kf.fn (p.1,p.2.2.1,())=some y2/\Br (!y2) (P false) (Bt (λ(v3:eA) (k4:eA->Prop)=>Br (decide (v3.1<(↑v3.2.2.1.size:Int))) (∃(y5:Bool),Yp.fn (v3.2.2.1,v3.1,())=some y5/\Br (!y5) (P false) (k4 (IntKind.i64.wrap (v3.1+(1:Int)),v3.2.1,v3.2.2.1,v3.2.2.2.1,()))) (P true)) ((0:Int),p.1,p.2.1,p.2.2.1,PUnit.unit)))))=fnW Cy (look [(147,Kf),(148,Yp)]) Fm Try.f110 (p,()) P:=by kernel_rfl
theorem tG (p:Int×ByteArray×List (List Int)×Unit) (P:Bool->Prop):(∃(y2:Bool),Kf.fn (p.1,p.2.2.1,())=some y2/\Br y2 (∃(y3:Bool),Tv.fn (p.2.1,())=some y3/\Br y3 (P ((↑p.2.1.size:Int)==(↑p.2.2.1.length:Int))) (P false)) (P false))=fnW Cy (look [(158,Kf),(159,Tv)]) Fm Try.f130 (p,()) P:=by kernel_rfl
theorem Abl (p:Int×ByteArray×List (List Int)×Unit) (room:Int) (P:Int->Prop):(Br (decide (IntKind.i64.wrap (room-(↑p.2.1.size:Int))<(0:Int))) (P (-1:Int)) (∃(y3:Int),jy.fn (p.2.2.1,IntKind.i64.wrap (room-(↑p.2.1.size:Int)),())=some y3/\Br (decide (y3<(0:Int))) (P (-1:Int)) (P y3)))=fnW Cy (look [(34,jy)]) qG Try.f14 (p,room,()) P:=by kernel_rfl
theorem Abn (p:Int×ByteArray×List (List Int)×Unit) (P:(Int×ByteArray×List (List Int)×Unit)->Prop):(∃(y2:List (List Int)),jz.fn (p.2.2.1,())=some y2/\P (p.1,p.2.1,y2,()))=fnW Cy (look [(36,jz)]) qH Try.f16 (p,()) P:=by kernel_rfl
theorem Abe (a b:Int×ByteArray×List (List Int)×Unit) (P:Bool->Prop):(Br (a.1 !=b.1) (P false) (Br (!a.2.1.toList==b.2.1.toList) (P false) (∃(y3:Bool),jt.fn (a.2.2.1,b.2.2.1,())=some y3/\Br (!y3) (P false) (P true))))=fnW Cy (look [(38,jt)]) qA Try.f19 (a,b,()) P:=by kernel_rfl
theorem UW (xs:List Int) (_:True):fnW Cy (look []) Mk Try.f82 (xs,()) (λ(z:Int)=>z=(xs.length:Int)):=Eq.mp (VV xs _) rfl
theorem aw:Sound Try.prog 82 Mk:=
 Sound.Di Bx Ao mixed Try.func82 (by kernel_rfl) (by kernel_rfl) λx h=>UW x.1 h
theorem tm {α:Type} [DecidableEq α]: ∀(l m:List α),l.Nodup->(∀x∈l,x∈m)->l.length<=m.length
 | [],m,_,_=>Nat.zero_le _
 |a::l,m,hn,hs=>by
  have ha:a∈m:=hs a (List.mem_cons_self ..)
  have hn:=List.nodup_cons.1 hn
  have:=tm l (m.erase a) hn.2 λx hx=>(List.mem_erase_of_ne (λ(e:x=a)=>hn.1 (by rw [<-e];exact hx))).2 (hs x (List.mem_cons_of_mem _ hx))
  rw [List.length_erase_of_mem ha] at this
  have:0<m.length:=List.length_pos_of_mem ha
  simp only [List.length_cons]
  omega
def upto (n:Nat):List Int:=(List.range n).map Int.ofNat
theorem nW (n:Nat):(upto n).Nodup:=by
 unfold upto
 exact List.Pairwise.map _ (λa b og e=>og (Int.ofNat.inj e)) List.nodup_range
theorem Ih {n:Nat} {x:Int} :x∈upto n↔0<=x/\x<n:=by
 unfold upto
 simp only [List.mem_map,List.mem_range]
 constructor
 ·rintro ⟨a,ha,rfl⟩;exact ⟨Int.natCast_nonneg _,Int.ofNat_lt.2 ha⟩
 ·rintro ⟨h1,h2⟩;exact ⟨x.toNat,by omega,by simp only [Int.ofNat_eq_natCast];omega⟩
theorem Pn (n:Nat):(upto n).length=n:=by simp [upto]
theorem ct {xs:List Int} (h: ∀j (hj:j<xs.length),xs[j]∉xs.take j):xs.Nodup:=by
 refine List.pairwise_iff_getElem.2 λi j hi hj iZ e=>h j hj ?_
 rw [<-e]
 exact List.mem_take_iff_getElem.2 ⟨i,by omega,rfl⟩
theorem nT {xs:List Int} (h:xs.Nodup): ∀j (hj:j<xs.length),xs[j]∉xs.take j:=by
 intro j hj hm
 obtain ⟨i,hi,e⟩:=List.mem_take_iff_getElem.1 hm
 exact List.pairwise_iff_getElem.1 h i j (by omega) hj (by omega) e
theorem Wq {xs:List Int} (h: ∀x∈xs,0<=x/\x<xs.length):(∀k:Nat,k<xs.length->(k:Int)∈xs)↔ ∀j (hj:j<xs.length),xs[j]∉xs.take j:=by
 constructor
 ·intro ha j hj hm
  have h1:=tm (upto xs.length) (xs.take j++xs.drop (j+1)) (nW _) λx hx=>by
   obtain ⟨h1,h2⟩:=Ih.1 hx
   have hx:=ha x.toNat (by omega)
   rw [show ((x.toNat:Nat):Int)=x by omega] at hx
   rw [<-List.take_append_drop j xs,List.mem_append,List.drop_eq_getElem_cons hj,List.mem_cons] at hx
   rcases hx with hx|rfl|hx
   ·exact List.mem_append_left _ hx
   ·exact List.mem_append_left _ hm
   ·exact List.mem_append_right _ hx
  rw [Pn,List.length_append,List.length_take,List.length_drop] at h1
  omega
 ·intro hn k hk
  refine Classical.byContradiction λhc=>?_
  have h1:=tm xs ((upto xs.length).erase (k:Int)) (ct hn) λx hx=>by
   refine (List.mem_erase_of_ne λ(e:x=(k:Int))=>hc (by rw [<-e];exact hx)).2 (Ih.2 (h x hx))
  rw [List.length_erase_of_mem (Ih.2 ⟨by omega,by omega⟩),Pn] at h1
  omega
def mask (xs:List Int):Nat:=xs.foldl (λm x=>m|||2^x.toNat) 0
theorem CU (xs:List Int) (x:Int):mask (xs++ [x])=mask xs|||2^x.toNat:=by simp [mask]
theorem sn (xs:List Int) (k:Nat): ∀a:Nat,(xs.foldl (λm x=>m|||2^x.toNat) a).testBit k=(a.testBit k||xs.any λx=>decide (x.toNat=k)):=by
 induction xs with
 |nil=>simp
 |cons x xs ih=>
  intro a
  rw [List.foldl_cons,ih,Nat.testBit_or,Nat.testBit_two_pow,List.any_cons,Bool.or_assoc]
theorem mK (xs:List Int) (k:Nat):(mask xs).testBit k=xs.any λx=>decide (x.toNat=k):=by
 unfold mask
 rw [sn,Nat.zero_testBit,Bool.false_or]
theorem OD {xs:List Int} {n:Nat} (h: ∀x∈xs,x.toNat<n):mask xs<2^n:=by
 refine Nat.lt_pow_two_of_testBit _ λk hk=>?_
 rw [mK]
 refine Bool.eq_false_iff.2 λht=>?_
 obtain ⟨x,hx,he⟩:=List.any_eq_true.1 ht
 have:=h x hx
 have:=of_decide_eq_true he
 omega
theorem qc {xs:List Int} (h: ∀x∈xs,0<=x/\x<xs.length):mask xs=2^xs.length-1↔ ∀k:Nat,k<xs.length->(k:Int)∈xs:=by
 constructor
 ·intro e k hk
  have h1:=mK xs k
  rw [e,Nat.testBit_two_pow_sub_one,decide_eq_true hk] at h1
  obtain ⟨x,hx,he⟩:=List.any_eq_true.1 h1.symm
  have:=(h x hx).1
  have:=of_decide_eq_true he
  have e:x=(k:Int):=by omega
  exact e▸hx
 ·intro ha
  refine Nat.eq_of_testBit_eq λk=>?_
  rw [mK,Nat.testBit_two_pow_sub_one]
  by_cases hk:k<xs.length
  ·rw [decide_eq_true hk]
   exact List.any_eq_true.2 ⟨k,ha k hk,by simp⟩
  ·rw [decide_eq_false hk]
   refine Bool.eq_false_iff.2 λht=>?_
   obtain ⟨x,hx,he⟩:=List.any_eq_true.1 ht
   have:=h x hx
   have:=of_decide_eq_true he
   omega
theorem OH {m:Nat} {x:Int} (hm:m<2^20) (h0:0<=x) (h1:x<20):
  IntKind.i64.wrap (((BitVec.ofInt IntKind.i64.bits (m:Int)|||BitVec.ofInt IntKind.i64.bits (IntKind.i64.wrap ((1:Int)*(2:Int)^min x.toNat IntKind.i64.bits))).toNat:Nat):Int)=((m|||2^x.toNat:Nat):Int):=by
 have hx:(2:Nat)^x.toNat<2^20:=Nat.pow_lt_pow_right (by omega) (by omega)
 have e1:min x.toNat IntKind.i64.bits=x.toNat:=by show min x.toNat 64=_;omega
 have e2:(1:Int)*(2:Int)^x.toNat=((2^x.toNat:Nat):Int):=by rw [Int.one_mul];exact (Int.natCast_pow 2 _).symm
 rw [e1,e2,Bw (n:=((2^x.toNat:Nat):Int)) (by have:(0:Int)<=((2^x.toNat:Nat):Int):=Int.natCast_nonneg _;omega) (by omega)]
 show IntKind.i64.wrap (((BitVec.ofInt 64 (m:Int)|||BitVec.ofInt 64 ((2^x.toNat:Nat):Int)).toNat:Nat):Int)=_
 rw [BitVec.ofInt_natCast,BitVec.ofInt_natCast,BitVec.toNat_or,BitVec.toNat_ofNat,BitVec.toNat_ofNat,Nat.mod_eq_of_lt (by omega),Nat.mod_eq_of_lt (by omega)]
 have:=Nat.or_lt_two_pow hm hx
 exact Bw (by omega) (by omega)
theorem sx (p:List Int) (h:short p):fnW Cy (look [(93,Bk),(153,Kn)]) Em Try.f169 (p,()) (λ(z:Bool)=>z=Fl p):=by
 have hs:=h
 unfold short at h
 refine Eq.mp (tM p _) ⟨_,if_pos trivial,⟨λhp=>?_,λhp=>?_⟩⟩
 ·have hp:=Dh hp
  rw [Co] at hp
  dsimp only at hp
  exact Bg λhh=>hp ⟨by omega,by omega⟩
 ·have hp:=Gl hp
  rw [Co] at hp
  dsimp only at hp
  refine As p.length (λv=>v.1) (λj _=>DL p.length p j) rfl (λj _ hj=>absurd hj (Nat.not_lt_zero _)) ?_
  rintro j ⟨i,⟨⟩⟩ K hj hi hR hK
  dsimp only at hi⊢
  subst hi
  refine Br.dec (λhl=>?_) λhl=>?_
  ·have hl:j<p.length:=by omega
   refine ⟨_,Av hl,_,if_pos trivial,⟨λhq=>?_,λhq=>?_⟩⟩
   ·have hq:=Dh hq
    rw [Co,Bw (by omega) (by omega)] at hq
    exact Bg λhh=>hq ⟨(hh.2.2 j hl hl).1,(hh.2.2 j hl hl).2.1⟩
   ·have hq:=Gl hq
    rw [Co,Bw (by omega) (by omega)] at hq
    refine ⟨⟨by omega,by omega,by omega⟩,_,Av hl,?_⟩
    rw [show (Int.toNat 0)=0 from rfl,List.drop_zero,Int.toNat_natCast]
    refine ⟨_,if_pos (yW hs j),⟨λhc=>?_,λhc=>?_⟩⟩
    ·have hc:decide (p[j]∈p.take j)=true:=hc
     rw [decide_eq_true_iff] at hc
     exact Bg λhh=>(hh.2.2 j hl hl).2.2 hc
    ·have hc:decide (p[j]∈p.take j)=false:=hc
     rw [decide_eq_false_iff_not] at hc
     rw [Ar (by omega)]
     exact hK hl _ rfl (MN hl hR hq.1 hq.2 hc)
  ·have:j=p.length:=by omega
   subst this
   exact Je ⟨by omega,by omega,hR⟩
theorem Qz:Sound Try.prog 169 Em:=
 Sound.Di Bx (Ah Xe (Ah ib Ao)) mixed Try.func169 (by kernel_rfl) (by kernel_rfl) λx h=>sx x.1 h
theorem sr (p:List Int) (h:short p):fnW Cy (look [(97,Bk),(82,Mk)]) Em Try.f168 (p,()) (λ(z:Bool)=>z=Fl p):=by
 unfold short at h
 refine Eq.mp (tF p _) ⟨_,if_pos trivial,_,if_pos trivial,⟨λhp=>?_,λhp=>?_⟩⟩
 ·have hp:=Dh hp
  rw [Co] at hp
  dsimp only at hp
  exact Bg λhh=>hp ⟨by omega,by omega⟩
 ·have hp:=Gl hp
  rw [Co] at hp
  dsimp only at hp
  refine As p.length (λv=>v.2.1) (λj v=>v.1=(mask (p.take j):Int)/\ ∀x∈p.take j,0<=x/\x<p.length) rfl ⟨rfl,by simp⟩ ?_
  rintro j ⟨m,i,⟨⟩⟩ K hj hi ⟨hm,hR⟩ hK
  dsimp only at hi hm⊢
  subst hi hm
  refine Br.dec (λhl=>?_) λhl=>?_
  ·have hl:j<p.length:=by omega
   refine ⟨_,Av hl,_,if_pos trivial,_,if_pos trivial,⟨λhq=>?_,λhq=>?_⟩⟩
   ·have hq:=Dh hq
    rw [Co] at hq
    dsimp only at hq
    rw [Bw (by omega) (by omega)] at hq
    exact Bg λhh=>hq ⟨(hh.2.2 j hl hl).1,(hh.2.2 j hl hl).2.1⟩
   ·have hq:=Gl hq
    rw [Co] at hq
    dsimp only at hq
    rw [Bw (by omega) (by omega)] at hq
    refine ⟨by omega,?_⟩
    rw [Ar (by omega)]
    have hb:mask (p.take j)<2^20:=OD λx hx=>by have:=hR x hx;omega
    refine hK hl _ rfl ⟨?_,?_⟩
    ·dsimp only
     rw [OH hb hq.1 (by omega),List.take_succ_eq_append_getElem hl,CU]
    ·rw [List.take_succ_eq_append_getElem hl]
     intro x hx
     rcases List.mem_append.1 hx with hx|hx
     ·exact hR x hx
     ·rw [List.mem_singleton.1 hx];omega
  ·have:j=p.length:=by omega
   subst this
   rw [List.take_length] at hR⊢
   refine ⟨by omega,?_⟩
   have hx:(2:Nat)^p.length<=2^20:=Nat.pow_le_pow_right (by omega) (by omega)
   have mA:0<(2:Nat)^p.length:=Nat.two_pow_pos _
   have e1:min (p.length:Int).toNat IntKind.i64.bits=p.length:=by show min (p.length:Int).toNat 64=_;omega
   have e2:(1:Int)*(2:Int)^p.length=((2^p.length:Nat):Int):=by rw [Int.one_mul];exact (Int.natCast_pow 2 _).symm
   rw [e1,e2,Bw (n:=((2^p.length:Nat):Int)) (by omega) (by omega),Bw (by omega) (by omega)]
   have hE:((mask p:Int)==((2^p.length:Nat):Int)-1)=decide (mask p=2^p.length-1):=by
    rw [Bool.eq_iff_iff,beq_iff_eq,decide_eq_true_iff]
    omega
   show ((mask p:Int)==((2^p.length:Nat):Int)-1)=Fl p
   rw [hE]
   by_cases hf:mask p=2^p.length-1
   ·rw [decide_eq_true hf]
    have hn:=(Wq hR).1 ((qc hR).1 hf)
    refine Je ⟨by omega,by omega,λj hj _=>?_⟩
    have:=hR _ (List.getElem_mem hj)
    exact ⟨this.1,by omega,hn j hj⟩
   ·rw [decide_eq_false hf]
    refine Bg λhh=>hf ((qc hR).2 ((Wq hR).2 λj hj=>(hh.2.2 j hj hj).2.2))
theorem Yu:Sound Try.prog 168 Em:=
 Sound.Di Bx (Ah Pk (Ah aw Ao)) mixed Try.func168 (by kernel_rfl) (by kernel_rfl) λx h=>sr x.1 h
theorem sw (n:Int) (g:List (List Int)) (h:Ga g):fnW Cy (look [(93,Bk),(169,Em)]) Kf Try.f147 (n,g,()) (λ(z:Bool)=>z=Rz n g):=by
 obtain ⟨h,h4⟩:=h
 refine Eq.mp (tK n g _) ⟨_,if_pos trivial,⟨λhp=>?_,λhp=>?_⟩⟩
 ·have hp:=Dh hp
  rw [Co] at hp
  exact Bg λhh=>hp hh.1
 ·have hp:=Gl hp
  rw [Co] at hp
  refine Br.dec (λhg=>?_) λhg=>?_
  ·exact Bg λhh=>by have:=hh.2.1;omega
  ·refine As g.length (λv=>v.1) (λj _=> ∀p∈g.take j,Eh n p=true) rfl (by simp) ?_
   rintro j ⟨i,⟨⟩⟩ K hj hi hR hK
   dsimp only at hi⊢
   subst hi
   refine Br.dec (λhl=>?_) λhl=>?_
   ·have hl:j<g.length:=by omega
    have hm:g[j]∈g:=List.getElem_mem hl
    refine ⟨_,Av hl,⟨λhe=>?_,λhe=>?_⟩⟩
    ·simp only [bne_iff_ne,ne_eq] at he
     exact Bg λhh=>he (Fw.1 (hh.2.2 _ hm)).1
    ·simp only [bne_eq_false_iff_eq] at he
     refine ⟨_,Av hl,_,if_pos (h4 _ hm),⟨λhq=>?_,λhq=>?_⟩⟩
     ·have hq:=Dh hq
      exact Bg λhh=>hq (Fw.1 (hh.2.2 _ hm)).2
     ·have hq:=Gl hq
      rw [Ar (by omega)]
      refine hK hl _ rfl ?_
      rw [List.take_succ_eq_append_getElem hl]
      intro x hx
      rcases List.mem_append.1 hx with hx|hx
      ·exact hR x hx
      ·rw [List.mem_singleton.1 hx];exact Fw.2 ⟨he,hq⟩
   ·have:j=g.length:=by omega
    subst this
    rw [List.take_length] at hR
    exact Je ⟨hp,by omega,hR⟩
theorem jG:Sound Try.prog 147 Kf:=
 Sound.Di Bx (Ah Xe (Ah Qz Ao)) mixed Try.func147 (by kernel_rfl) (by kernel_rfl) λx h=>sw x.1 x.2.1 h
theorem OJ (p:List Int) (n:Int) (h:short p):fnW Cy (look [(82,Mk),(168,Em)]) dA Try.f177 (p,n,()) (λ(z:Bool)=>z=!Eh n p):=by
 refine Eq.mp (PM p n _) ⟨_,if_pos trivial,⟨λhe=>?_,λhe=>⟨_,if_pos h,?_⟩⟩⟩
 ·simp only [bne_iff_ne,ne_eq] at he
  have:Eh n p=false:=ML.2 λhh=>he hh.1
  rw [this];rfl
 ·simp only [bne_eq_false_iff_eq] at he
  show (!Fl p)=_
  congr 1
  cases hp:Fl p with
  |true=>exact Je ⟨he,hp⟩
  |false=>exact Bg λhh=>by rw [hh.2] at hp;cases hp
theorem wA:Sound Try.prog 177 dA:=
 Sound.Di Bx (Ah aw (Ah Yu Ao)) mixed Try.func177 (by kernel_rfl) (by kernel_rfl) λx h=>OJ x.1 x.2.1 h
theorem cm {α:Type} (P:α->Bool): ∀(l:List α) (i:Int),0<=i->(0<=Ck P l i↔l.any P=true)
 | [],i,_=>by simp [Ck]
 |y::r,i,h=>by
  simp only [Ck,List.any_cons,Bool.or_eq_true]
  split
  ·rename_i hy;simp [hy,h]
  ·rename_i hy;rw [cm P r (i+1) (by omega)];simp [hy]
theorem Aau (g:List (List Int)) (n:Int×Unit) (h:Ga g):fnW Cy (look [(177,dA)]) qD Try.f184 (g,n,()) (λ(z:Int)=>z=Ck (λp=>!Eh n.1 p) g 0):=by
 obtain ⟨h,h4⟩:=h
 refine Eq.mp (Abi g n _) ?_
 refine As g.length (λv=>v.1) (λj _=>Ck (λp=>!Eh n.1 p) (g.drop j) j=Ck (λp=>!Eh n.1 p) g 0) rfl (by simp) ?_
 rintro j ⟨i,⟨⟩⟩ K hj hi hR hK
 dsimp only at hi⊢
 subst hi
 refine Br.dec (λhl=>?_) λhl=>?_
 ·have hl:j<g.length:=by omega
  rw [List.drop_eq_getElem_cons hl] at hR
  simp only [Ck] at hR
  refine ⟨_,Av hl,_,if_pos (h4 _ (List.getElem_mem hl)),⟨λhe=>?_,λhe=>?_⟩⟩
  ·have he:(!Eh n.1 g[j])=true:=he
   rw [if_pos he] at hR
   exact hR
  ·have he:(!Eh n.1 g[j])=false:=he
   rw [if_neg (by rw [he];decide)] at hR
   rw [Ar (by omega)]
   exact hK hl _ rfl (by push_cast;exact hR)
 ·have:j=g.length:=by omega
  subst this
  rw [List.drop_length] at hR
  exact hR
theorem EL:Sound Try.prog 184 qD:=
 Sound.Di Bx (Ah wA Ao) mixed Try.func184 (by kernel_rfl) (by kernel_rfl) λx h=>Aau x.1 x.2.1 h
theorem Aam (g:List (List Int)) (n:Int×Unit) (h:Ga g):fnW Cy (look [(184,qD)]) qx Try.f176 (g,n,()) (λ(z:Bool)=>z=List.any g (λp=>!Eh n.1 p)):=by
 refine Eq.mp (Aba g n _) ⟨_,if_pos h,?_⟩
 rw [Bool.eq_iff_iff,decide_eq_true_iff]
 exact cm _ g 0 (Int.le_refl 0)
theorem EE:Sound Try.prog 176 qx:=
 Sound.Di Bx (Ah EL Ao) mixed Try.func176 (by kernel_rfl) (by kernel_rfl) λx h=>Aam x.1 x.2.1 h
theorem sq (n:Int) (g:List (List Int)) (h:Ga g):fnW Cy (look [(97,Bk),(176,qx)]) Kf Try.f158 (n,g,()) (λ(z:Bool)=>z=Rz n g):=by
 refine Eq.mp (tE n g _) ⟨_,if_pos trivial,⟨λhp=>?_,λhp=>?_⟩⟩
 ·have hp:He n 1 20=true:=hp
  rw [Co] at hp
  refine Br.dec (λhl=>⟨_,if_pos h,?_⟩) λhl=>?_
  ·show (!List.any g (λp=>!Eh n p))=Rz n g
   cases ha:List.any g (λp=>!Eh n p) with
   |true=>
    obtain ⟨p,tS,BZ⟩:=List.any_eq_true.1 ha
    exact Bg λhh=>by rw [hh.2.2 p tS] at BZ;cases BZ
   |false=>
    refine Je ⟨hp,by omega,λp hm=>?_⟩
    have:=List.any_eq_false.1 ha p hm
    simpa using this
  ·exact Bg λhh=>by have:=hh.2.1;omega
 ·refine Bg λhh=>?_
  have:He n 1 20=true:=Co.2 hh.1
  have hp:He n 1 20=false:=hp
  rw [this] at hp;cases hp
theorem jC:Sound Try.prog 158 Kf:=
 Sound.Di Bx (Ah Pk (Ah EE Ao)) mixed Try.func158 (by kernel_rfl) (by kernel_rfl) λx h=>sq x.1 x.2.1 h
theorem Hq {s:ByteArray} {k:Nat} (h:k<s.size):s[k]?=some s[k]:=getElem?_pos s k h
theorem JK (s:ByteArray) (i:Int) (h:0<=i/\i<s.size/\s.size<=4294967296):fnW Cy (look []) Yp Try.f148 (s,i,()) (λ(z:Bool)=>z=gN s i):=by
 obtain ⟨h1,h2,h3⟩:=h
 have hi:i.toNat<s.size:=by omega
 refine Eq.mp (LI s i _) ⟨h1,_,Hq hi,Br.dec (λhq=>?_) λhq=>⟨h1,_,Hq hi,Br.dec (λhr=>?_) λhr=>?_⟩⟩
 ·refine Bg λ⟨c,hc,ND,_⟩=>?_
  rw [Hq hi] at hc;cases hc;omega
 ·refine Bg λ⟨c,hc,_,ND,_⟩=>?_
  rw [Hq hi] at hc;cases hc;omega
 ·refine As i.toNat (λv=>v.1) (λj _=> ∀k,k<j->s[k]?≠some s[i.toNat]) rfl (λk hk=>absurd hk (Nat.not_lt_zero _)) ?_
  rintro j ⟨i',⟨⟩⟩ K hj fk hR hK
  dsimp only at fk⊢
  subst fk
  refine Br.dec (λhl=>?_) λhl=>?_
  ·have hl:j<i.toNat:=by omega
   have hj:j<s.size:=by omega
   rw [Int.toNat_natCast]
   refine ⟨by omega,_,Hq hj,h1,_,Hq hi,⟨λhe=>?_,λhe=>?_⟩⟩
   ·simp only [beq_iff_eq,Int.natCast_inj] at he
    refine Bg λ⟨c,hc,_,_,ND⟩=>?_
    rw [Hq hi] at hc;cases hc
    exact ND j hl (by rw [Hq hj,UInt8.toNat_inj.1 he])
   ·simp only [beq_eq_false_iff_ne,ne_eq,Int.natCast_inj] at he
    rw [Ar (by omega)]
    refine hK hl _ rfl λk hk=>?_
    by_cases e:k=j
    ·subst e
     rw [Hq hj]
     exact λe=>he (by rw [Option.some.inj e])
    ·exact hR k (by omega)
  ·have:j=i.toNat:=by omega
   subst this
   exact Je ⟨_,Hq hi,by omega,by omega,hR⟩
theorem sV:Sound Try.prog 148 Yp:=
 Sound.Di Bx Ao mixed Try.func148 (by kernel_rfl) (by kernel_rfl) λx h=>JK x.1 x.2.1 h
theorem DJ (s:ByteArray) (h:s.size<=4294967296):fnW Cy (look [(97,Bk)]) Tv Try.f159 (s,()) (λ(z:Bool)=>z=Yi s):=by
 refine Eq.mp (FH s _) ?_
 refine As s.size (λv=>v.1) (λj _=> ∀k,k<j->qS s k) rfl (λk hk=>absurd hk (Nat.not_lt_zero _)) ?_
 rintro j ⟨i,⟨⟩⟩ K hj hi hR hK
 dsimp only at hi⊢
 subst hi
 refine Br.dec (λhl=>?_) λhl=>?_
 ·have hl:j<s.size:=by omega
  rw [Int.toNat_natCast]
  have hb:=(s[j]).toNat_lt
  refine ⟨by omega,_,Hq hl,_,if_pos trivial,⟨λhq=>?_,λhq=>?_⟩⟩
  ·have hq:=Dh hq
   rw [Co] at hq
   dsimp only at hq
   rw [Bw (by omega) (by omega)] at hq
   refine Bg λhh=>?_
   obtain ⟨c,hc,ND,WK,_⟩:=hh.2 j hl
   rw [Hq hl] at hc;cases hc
   exact hq ⟨by omega,by omega⟩
  ·have hq:=Gl hq
   rw [Co] at hq
   dsimp only at hq
   rw [Bw (by omega) (by omega)] at hq
   refine As j (λv=>v.1) (λm _=> ∀k,k<m->s[k]?≠some s[j]) rfl (λk hk=>absurd hk (Nat.not_lt_zero _)) ?_
   rintro m ⟨i',⟨⟩⟩ K' hm fk hR' YA
   dsimp only at fk⊢
   subst fk
   refine Br.dec (λHa=>?_) λHa=>?_
   ·have Ha:m<j:=by omega
    have hm':m<s.size:=by omega
    rw [Int.toNat_natCast]
    refine ⟨by omega,_,Hq hm',by omega,_,Hq hl,⟨λhe=>?_,λhe=>?_⟩⟩
    ·simp only [beq_iff_eq,Int.natCast_inj] at he
     refine Bg λhh=>?_
     obtain ⟨c,hc,_,_,ND⟩:=hh.2 j hl
     rw [Hq hl] at hc;cases hc
     exact ND m Ha (by rw [Hq hm',UInt8.toNat_inj.1 he])
    ·simp only [beq_eq_false_iff_ne,ne_eq,Int.natCast_inj] at he
     rw [Ar (by omega)]
     refine YA Ha _ rfl λk hk=>?_
     by_cases e:k=m
     ·subst e
      rw [Hq hm']
      exact λe=>he (by rw [Option.some.inj e])
     ·exact hR' k (by omega)
   ·have:m=j:=by omega
    subst this
    rw [Ar (by omega)]
    refine hK hl _ rfl λk hk=>?_
    by_cases e:k=m
    ·subst e
     exact ⟨_,Hq hl,by omega,by omega,hR'⟩
    ·exact hR k (by omega)
 ·have:j=s.size:=by omega
  subst this
  refine ⟨_,if_pos trivial,?_⟩
  show He s.size 1 8=_
  cases hr:He s.size 1 8 with
  |true=>rw [Co] at hr;exact Je ⟨by omega,hR⟩
  |false=>refine Bg λhh=>?_;rw [Co.2 ⟨by omega,by omega⟩] at hr;cases hr
theorem p8:Sound Try.prog 159 Tv:=
 Sound.Di Bx (Ah Pk Ao) mixed Try.func159 (by kernel_rfl) (by kernel_rfl) λx h=>DJ x.1 h
theorem zk {p:PP} (h:Bd p=true):1<=p.1/\p.1<=20/\1<=p.2.2.1.length/\p.2.2.1.length<=8:=by
 obtain ⟨h1,h2,h3⟩:=Fw.1 h
 obtain ⟨h4,h5,_⟩:=Fw.1 h1
 obtain ⟨h6,_⟩:=Fw.1 h2
 omega
theorem sy (p:PP) (h:Dt p):fnW Cy (look [(147,Kf),(148,Yp)]) Fm Try.f110 (p,()) (λ(z:Bool)=>z=Bd p):=by
 obtain ⟨hn,hg⟩:=h
 refine Eq.mp (tN p _) ⟨λh0=>?_,λh0=>⟨λh1=>?_,λh1=>⟨_,if_pos hg,⟨λh2=>?_,λh2=>?_⟩⟩⟩⟩
 ·simp only [beq_iff_eq] at h0
  exact Bg λhh=>by obtain ⟨_,h2,h3⟩:=hh;have:=(Fw.1 h2).1;omega
 ·simp only [bne_iff_ne,ne_eq,Int.natCast_inj] at h1
  exact Bg λhh=>h1 hh.2.2
 ·have h2:=Dh h2
  exact Bg λhh=>h2 hh.1
 ·simp only [beq_eq_false_iff_ne,ne_eq] at h0
  simp only [bne_eq_false_iff_eq,Int.natCast_inj] at h1
  have h2:Rz p.1 p.2.2.1=true:=Gl h2
  refine As p.2.1.size (λv=>v.1) (λj v=>v.2=(p.1,p.2.1,p.2.2.1,())/\ ∀k,k<j->qS p.2.1 k) rfl ⟨rfl,λk hk=>absurd hk (Nat.not_lt_zero _)⟩ ?_
  rintro j ⟨i,v⟩ K hj hi ⟨hv,hR⟩ hK
  dsimp only at hi hv⊢
  subst hi hv
  dsimp only
  refine Br.dec (λhl=>?_) λhl=>?_
  ·have hl:j<p.2.1.size:=by omega
   refine ⟨_,if_pos ⟨Int.natCast_nonneg j,Int.ofNat_lt.2 hl,hn⟩,⟨λhq=>?_,λhq=>?_⟩⟩
   ·have hq: ¬gN p.2.1 j=true:=Dh hq
    refine Bg λhh=>hq (Fw.2 ?_)
    rw [Int.toNat_natCast]
    exact (Fw.1 hh.2.1).2 j hl
   ·have hq:gN p.2.1 j=true:=Gl hq
    have hq:=Fw.1 hq
    rw [Int.toNat_natCast] at hq
    rw [Ar (by omega)]
    refine hK hl _ rfl ⟨rfl,λk hk=>?_⟩
    by_cases e:k=j
    ·subst e;exact hq
    ·exact hR k (by omega)
  ·have:j=p.2.1.size:=by omega
   subst this
   have:=(Fw.1 h2).2.1
   exact Je ⟨h2,Fw.2 ⟨⟨by omega,by omega⟩,hR⟩,h1⟩
theorem Ra:Sound Try.prog 110 Fm:=
 Sound.Di Bx (Ah jG (Ah sV Ao)) mixed Try.func110 (by kernel_rfl) (by kernel_rfl) λx h=>sy x.1 h
theorem ss (p:PP) (h:Dt p):fnW Cy (look [(158,Kf),(159,Tv)]) Fm Try.f130 (p,()) (λ(z:Bool)=>z=Bd p):=by
 obtain ⟨hn,hg⟩:=h
 refine Eq.mp (tG p _) ⟨_,if_pos hg,⟨λh1=>⟨_,if_pos hn,⟨λh2=>?_,λh2=>?_⟩⟩,λh1=>?_⟩⟩
 ·have h1:Rz p.1 p.2.2.1=true:=h1
  have h2:Yi p.2.1=true:=h2
  by_cases e:p.2.1.size=p.2.2.1.length
  ·rw [e,beq_self_eq_true];exact Je ⟨h1,h2,e⟩
  ·rw [show ((p.2.1.size:Int)==(p.2.2.1.length:Int))=false from beq_eq_false_iff_ne.2 (by omega)];exact Bg λhh=>e hh.2.2
 ·have h2:Yi p.2.1=false:=h2
  exact Bg λhh=>by rw [hh.2.1] at h2;cases h2
 ·have h1:Rz p.1 p.2.2.1=false:=h1
  exact Bg λhh=>by rw [hh.1] at h1;cases h1
theorem jD:Sound Try.prog 130 Fm:=
 Sound.Di Bx (Ah jC (Ah p8 Ao)) mixed Try.func130 (by kernel_rfl) (by kernel_rfl) λx h=>ss x.1 h
theorem Aax (p:PP) (room:Int) (h:Dt p/\roomy room):fnW Cy (look [(34,jy)]) qG Try.f14 (p,room,()) (λ(z:Int)=>z=cp p room):=by
 obtain ⟨⟨h1,h2⟩,h3,h4⟩:=h
 refine Eq.mp (Abl p room _) ?_
 rw [Bw (by omega) (by omega)]
 refine Br.dec (λhn=>?_) λhn=>⟨_,if_pos ⟨h2,by dsimp only;omega,by dsimp only;omega⟩,Br.dec (λhm=>?_) λhm=>?_⟩
 ·simp only [cp,if_pos hn]
 ·exact ((if_neg hn).trans (if_pos hm)).symm
 ·exact ((if_neg hn).trans (if_neg hm)).symm
theorem EO:Sound Try.prog 14 qG:=
 Sound.Di Bx (Ah zb Ao) mixed Try.func14 (by kernel_rfl) (by kernel_rfl) λx h=>Aax x.1 x.2.1 h
theorem Aaz (p:PP) (h:Dt p):fnW Cy (look [(36,jz)]) qH Try.f16 (p,()) (λ(z:PP)=>z=p):=Eq.mp (Abn p _) ⟨_,if_pos h.2,rfl⟩
theorem EP:Sound Try.prog 16 qH:=
 Sound.Di Bx (Ah zc Ao) mixed Try.func16 (by kernel_rfl) (by kernel_rfl) λx h=>Aaz x.1 h
theorem uk {a b:ByteArray} :(a.toList==b.toList)=decide (a=b):=by
 rw [Bool.eq_iff_iff,beq_iff_eq,decide_eq_true_iff,ByteArray.toList_eq,ByteArray.toList_eq]
 exact ⟨λh=>ByteArray.ext (Array.toList_inj.1 h),λh=>by rw [h]⟩
theorem Aaq (a b:PP) (h:Dt a):fnW Cy (look [(38,jt)]) qA Try.f19 (a,b,()) (λ(z:Bool)=>z=kl a b):=by
 refine Eq.mp (Abe a b _) ⟨λh1=>?_,λh1=>⟨λh2=>?_,λh2=>⟨_,if_pos h.2,⟨λh3=>?_,λh3=>?_⟩⟩⟩⟩
 ·simp only [bne_iff_ne,ne_eq] at h1
  unfold kl
  rw [decide_eq_false h1];rfl
 ·rw [uk] at h2
  unfold kl
  cases hd:decide (a.2.1=b.2.1)<;>simp_all
 ·have h3:(!ja a.2.2.1 b.2.2.1)=true:=h3
  simp only [ja,Bool.not_eq_true'] at h3
  unfold kl
  rw [h3];simp
 ·have h3:(!ja a.2.2.1 b.2.2.1)=false:=h3
  rw [uk] at h2
  simp only [ja] at h3
  simp only [bne_eq_false_iff_eq] at h1
  unfold kl
  simp_all
theorem EH:Sound Try.prog 19 qA:=
 Sound.Di Bx (Ah z0 Ao) mixed Try.func19 (by kernel_rfl) (by kernel_rfl) λx h=>Aaq x.1 x.2.1 h
theorem yk (p:PP):kl p p=true:=by simp [kl]
end Go.Proofs.Ytjbdmibbbpdnnaa

namespace Go.Proofs.Ytjbdmibbbpdnnaa
open Go.RowKit
noncomputable abbrev Yq:Spec:=Di (.pair tI (.pair tL .unit)) .bool false true (λx=>short x.2.1) (λx=>Eh x.1 x.2.1)
noncomputable abbrev Qu:Spec:=Di (.pair Dn (.pair tL .unit)) .bool false true (λx=>short x.2.1) (λx=>Eh x.1.1 x.2.1)
noncomputable abbrev Tx:Spec:=Di (.pair Dn (.pair tL .unit)) .bool false true (λx=>Dt x.1/\short x.2.1) (λx=>Bd x.1&&Eh x.1.1 x.2.1)
theorem LJ (n:Int) (s:List Int) (P:Bool->Prop):(Br ((↑s.length:Int)==n) (∃(y3:Bool),Em.fn (s,())=some y3/\P y3) (P false))=fnW Cy (look [(169,Em)]) Yq Try.f143 (n,s,()) P:=by kernel_rfl
theorem nZ (p:Int×ByteArray×List (List Int)×Unit) (s:List Int) (P:Bool->Prop):(∃(y3:Int),Mk.fn (s,())=some y3/\Br (y3==p.1) (∃(y4:Bool),Em.fn (s,())=some y4/\P y4) (P false))=fnW Cy (look [(82,Mk),(168,Em)]) Qu Try.f141 (p,s,()) P:=by kernel_rfl
theorem pw (p:Int×ByteArray×List (List Int)×Unit) (s:List Int) (P:Bool->Prop):(∃(y3:Bool),Fm.fn ((p.1,p.2.1,p.2.2.1,()),())=some y3/\Br y3 (∃(y4:Bool),Yq.fn (p.1,s,())=some y4/\P y4) (P false))=fnW Cy (look [(110,Fm),(143,Yq)]) Tx Try.f103 (p,s,()) P:=by kernel_rfl
theorem JL (n:Int) (s:List Int) (h:short s):fnW Cy (look [(169,Em)]) Yq Try.f143 (n,s,()) (λ(z:Bool)=>z=Eh n s):=by
 refine Eq.mp (LJ n s _) ⟨λhe=>⟨_,if_pos h,?_⟩,λhe=>?_⟩
 ·simp only [beq_iff_eq] at he
  show Fl s=_
  cases hp:Fl s with
  |true=>exact Je ⟨he,hp⟩
  |false=>exact Bg λhh=>by rw [hh.2] at hp;cases hp
 ·simp only [beq_eq_false_iff_ne,ne_eq] at he
  exact Bg λhh=>he hh.1
theorem sW:Sound Try.prog 143 Yq:=
 Sound.Di Bx (Ah Qz Ao) mixed Try.func143 (by kernel_rfl) (by kernel_rfl) λx h=>JL x.1 x.2.1 h
theorem mY (p:PP) (s:List Int) (h:short s):fnW Cy (look [(82,Mk),(168,Em)]) Qu Try.f141 (p,s,()) (λ(z:Bool)=>z=Eh p.1 s):=by
 refine Eq.mp (nZ p s _) ⟨_,if_pos trivial,⟨λhe=>⟨_,if_pos h,?_⟩,λhe=>?_⟩⟩
 ·simp only [beq_iff_eq] at he
  show Fl s=_
  cases hp:Fl s with
  |true=>exact Je ⟨he,hp⟩
  |false=>exact Bg λhh=>by rw [hh.2] at hp;cases hp
 ·simp only [beq_eq_false_iff_ne,ne_eq] at he
  exact Bg λhh=>he hh.1
theorem fI:Sound Try.prog 141 Qu:=
 Sound.Di Bx (Ah aw (Ah Yu Ao)) mixed Try.func141 (by kernel_rfl) (by kernel_rfl) λx h=>mY x.1 x.2.1 h
theorem oP (p:PP) (s:List Int) (h:Dt p/\short s):fnW Cy (look [(110,Fm),(143,Yq)]) Tx Try.f103 (p,s,()) (λ(z:Bool)=>z=(Bd p&&Eh p.1 s)):=by
 refine Eq.mp (pw p s _) ⟨_,if_pos h.1,⟨λhe=>⟨_,if_pos h.2,?_⟩,λhe=>?_⟩⟩
 ·have he:Bd p=true:=he
  rw [he];rfl
 ·have he:Bd p=false:=he
  rw [he];rfl
theorem ig:Sound Try.prog 103 Tx:=
 Sound.Di Bx (Ah Ra (Ah sW Ao)) mixed Try.func103 (by kernel_rfl) (by kernel_rfl) λx h=>oP x.1 x.2.1 h
end Go.Proofs.Ytjbdmibbbpdnnaa

namespace Go.Proofs.Ytjbdmibbbpdnnaa
open Go.RowKit
def Ca (xs:List Int) (i:Int):Int:=xs.getD i.toNat 0
def Aa (p q:List Int):List Int:=p.map (Ca q)
def Vs (f:Nat->Nat) (g:Nat->Int) (m:Nat) (init:List Int):List Int:=(List.range m).foldl (λ(out:List Int) (i:Nat)=>out.set (f i) (g i)) init
def Al (p:List Int):List Int:=Vs (λi=>(Ca p (i:Int)).toNat) (λi=>(i:Int)) p.length (List.replicate p.length 0)
def Gs (n:Nat) (p:List Int):Prop:= ∀y∈p,0<=y/\y<n
noncomputable abbrev Ts:Spec:=Di (.pair tL (.pair tL .unit)) tL false true (λx=>List.length x.1<=20/\Gs (List.length x.2.1) x.1) (λx=>Aa x.1 x.2.1)
noncomputable abbrev El:Spec:=Di (.pair tL .unit) tL false true (λx=>List.length x.1<=20/\Gs (List.length x.1) x.1) (λx=>Al x.1)
noncomputable abbrev Cc:Spec:=Di (.pair tI .unit) tL false true (λx=>0<=x.1/\x.1<=20) (λx=>upto x.1.toNat)
noncomputable abbrev Kp:Spec:=Di (.pair tL .unit) tL false true (λx=>Fl x.1=true) (λx=>Al x.1)
def Af (g:List (List Int)) (l:Int):List Int:=if l>0 then g.getD (l-1).toNat [] else Al (g.getD (-l-1).toNat [])
def Gt (n:Int) (l:Int):Prop:=l≠0/\ -n<=l/\l<=n
noncomputable abbrev Qv:Spec:=Di (.pair iB (.pair tI .unit)) tL false false (λx=>Gt (List.length x.1) x.2.1/\List.length x.1<=8/\ ∀p∈x.1,Fl p=true) (λx=>Af x.1 x.2.1)
def Ag (n:Nat):List Int:=(List.range n).flatMap λ(k:Nat)=> [(k:Int)+1,-((k:Int)+1)]
noncomputable abbrev Hz:Spec:=Di (.pair tI .unit) tL false true (λx=>0<=x.1/\x.1<=8) (λx=>Ag x.1.toNat)
noncomputable abbrev Pe:Spec:=Di (.pair Dn (.pair tL (.pair tI .unit))) tL false true (λx=>Bd x.1=true/\List.length x.2.1<=20/\(∀y∈x.2.1,0<=y/\y<x.1.1)/\Gt (List.length x.1.2.2.1) x.2.2.1) (λx=>Aa x.2.1 (Af x.1.2.2.1 x.2.2.1))
theorem po (p q:List Int) (P:List Int->Prop):(((0:Int)<=(↑p.length:Int)/\(↑p.length:Int)<(↑Bm:Int)+(1:Int))/\(↑p.length:Int)=(↑p.length:Int)/\0=0/\(List.replicate (↑p.length:Int).toNat (Int.ofNat (nat_lit 0))).length=(List.replicate (↑p.length:Int).toNat (Int.ofNat (nat_lit 0))).length/\Bt (λ(v3:Int×List Int×PUnit) (k4:Int×List Int×PUnit->Prop)=>Br (decide (v3.1<(↑p.length:Int))) (∃(y5:Int),idx p v3.1=some y5/\ ∃(y6:Int),idx q y5=some y6/\((0:Int)<=v3.1/\v3.1<(↑v3.2.1.length:Int))/\0+v3.1.toNat<v3.2.1.length/\0=0/\v3.2.1.length=(v3.2.1.set (0+v3.1.toNat) y6).length/\k4 (IntKind.i64.wrap (v3.1+(1:Int)),v3.2.1.set (0+v3.1.toNat) y6,())) (P (List.take v3.2.1.length (List.drop 0 v3.2.1)))) ((0:Int),List.replicate (↑p.length:Int).toNat (Int.ofNat (nat_lit 0)),PUnit.unit))=fnW Cy (look []) Ts Try.f156 (p,q,()) P:=by kernel_rfl
theorem pq (p:List Int) (P:List Int->Prop):(((0:Int)<=(↑p.length:Int)/\(↑p.length:Int)<(↑Bm:Int)+(1:Int))/\(↑p.length:Int)=(↑p.length:Int)/\0=0/\(List.replicate (↑p.length:Int).toNat (Int.ofNat (nat_lit 0))).length=(List.replicate (↑p.length:Int).toNat (Int.ofNat (nat_lit 0))).length/\Bt (λ(v2:Int×List Int×PUnit) (k3:Int×List Int×PUnit->Prop)=>Br (decide (v2.1<(↑p.length:Int))) (∃(y4:Int),idx p v2.1=some y4/\((0:Int)<=y4/\y4<(↑v2.2.1.length:Int))/\0+y4.toNat<v2.2.1.length/\0=0/\v2.2.1.length=(v2.2.1.set (0+y4.toNat) v2.1).length/\k3 (IntKind.i64.wrap (v2.1+(1:Int)),v2.2.1.set (0+y4.toNat) v2.1,())) (P (List.take v2.2.1.length (List.drop 0 v2.2.1)))) ((0:Int),List.replicate (↑p.length:Int).toNat (Int.ofNat (nat_lit 0)),PUnit.unit))=fnW Cy (look []) El Try.f175 (p,()) P:=by kernel_rfl
theorem FM (p:List Int) (P:List Int->Prop):(((0:Int)<=(↑p.length:Int)/\(↑p.length:Int)<(↑Bm:Int)+(1:Int))/\(↑p.length:Int)=(↑p.length:Int)/\0=0/\(List.replicate (↑p.length:Int).toNat (Int.ofNat (nat_lit 0))).length=(List.replicate (↑p.length:Int).toNat (Int.ofNat (nat_lit 0))).length/\Bt (λ(v2:Int×List Int×PUnit) (k3:Int×List Int×PUnit->Prop)=>Br (decide (v2.1<(↑p.length:Int))) (∃(y4:Int),idx p v2.1=some y4/\((0:Int)<=y4/\y4<(↑v2.2.1.length:Int))/\0+y4.toNat<v2.2.1.length/\0=0/\v2.2.1.length=(v2.2.1.set (0+y4.toNat) v2.1).length/\k3 (IntKind.i64.wrap (v2.1+(1:Int)),v2.2.1.set (0+y4.toNat) v2.1,())) (P (List.take v2.2.1.length (List.drop 0 v2.2.1)))) ((0:Int),List.replicate (↑p.length:Int).toNat (Int.ofNat (nat_lit 0)),PUnit.unit))=fnW Cy (look []) El Try.f170 (p,()) P:=by kernel_rfl
theorem pv (p:List Int) (P:List Int->Prop):(∃(y2:Bool),Em.fn (p,())=some y2/\Br (!y2) (P (List.take 0 (List.drop 0 []))) (∃(y3:List Int),El.fn (p,())=some y3/\P y3))=fnW Cy (look [(169,Em),(170,El)]) Kp Try.f150 (p,()) P:=by kernel_rfl
theorem zp (n:Int) (P:List Int->Prop):(0=0/\0=([]:List Int).length/\Bt (λ(v2:Int×List Int×PUnit) (k3:Int×List Int×PUnit->Prop)=>Br (decide (v2.1<n)) (0=0/\v2.2.1.length=v2.2.1.length/\v2.2.1.length+(List.take 1 (List.drop 0 [v2.1])).length<=Bm/\0=0/\(v2.2.1++List.take 1 (List.drop 0 [v2.1])).length=(v2.2.1++List.take 1 (List.drop 0 [v2.1])).length/\k3 (IntKind.i64.wrap (v2.1+(1:Int)),v2.2.1++List.take 1 (List.drop 0 [v2.1]),())) (P (List.take v2.2.1.length (List.drop 0 v2.2.1)))) ((0:Int),[],PUnit.unit))=fnW Cy (look []) Cc Try.f124 (n,()) P:=by kernel_rfl
theorem zr (g:List (List Int)) (l:Int) (P:List Int->Prop):(Br (decide (l>(0:Int))) (∃(y3:List Int),idx g (IntKind.i64.wrap (l-(1:Int)))=some y3/\P y3) (∃(y3:List Int),idx g (IntKind.i64.wrap (IntKind.i64.wrap ((0:Int)-l)-(1:Int)))=some y3/\ ∃(y4:List Int),El.fn (y3,())=some y4/\P y4))=fnW Cy (look [(175,El)]) Qv Try.f157 (g,l,()) P:=by kernel_rfl
theorem FJ (n:Int) (P:List Int->Prop):(0=0/\0=([]:List Int).length/\Bt (λ(v2:Int×List Int×PUnit) (k3:Int×List Int×PUnit->Prop)=>Br (decide (v2.1<n)) (0=0/\v2.2.1.length=v2.2.1.length/\v2.2.1.length+(List.take 2 (List.drop 0 [IntKind.i64.wrap (v2.1+(1:Int)),IntKind.i64.wrap ((0:Int)-IntKind.i64.wrap (v2.1+(1:Int)))])).length<=Bm/\0=0/\(v2.2.1++List.take 2 (List.drop 0 [IntKind.i64.wrap (v2.1+(1:Int)),IntKind.i64.wrap ((0:Int)-IntKind.i64.wrap (v2.1+(1:Int)))])).length=(v2.2.1++List.take 2 (List.drop 0 [IntKind.i64.wrap (v2.1+(1:Int)),IntKind.i64.wrap ((0:Int)-IntKind.i64.wrap (v2.1+(1:Int)))])).length/\k3 (IntKind.i64.wrap (v2.1+(1:Int)),v2.2.1++List.take 2 (List.drop 0 [IntKind.i64.wrap (v2.1+(1:Int)),IntKind.i64.wrap ((0:Int)-IntKind.i64.wrap (v2.1+(1:Int)))]),())) (P (List.take v2.2.1.length (List.drop 0 v2.2.1)))) ((0:Int),[],PUnit.unit))=fnW Cy (look []) Hz Try.f117 (n,()) P:=by kernel_rfl
theorem LF (p:Int×ByteArray×List (List Int)×Unit) (s:List Int) (l:Int) (P:List Int->Prop):(∃(y4:List Int),idx p.2.2.1 (IntKind.i64.wrap ((if true=true then if IntKind.i64.wrap ((0:Int)-l)>l then IntKind.i64.wrap ((0:Int)-l) else l else if IntKind.i64.wrap ((0:Int)-l)<l then IntKind.i64.wrap ((0:Int)-l) else l)-(1:Int)))=some y4/\Br (decide (l<(0:Int))) (∃(y5:List Int),Kp.fn (y4,())=some y5/\0=0/\0=([]:List Int).length/\Bt (λ(v6:Int×List Int×PUnit) (k7:Int×List Int×PUnit->Prop)=>Br (decide (v6.1<(↑s.length:Int))) (∃(y8:Int),idx s v6.1=some y8/\ ∃(y9:Int),idx y5 y8=some y9/\0=0/\v6.2.1.length=v6.2.1.length/\v6.2.1.length+(List.take 1 (List.drop 0 [y9])).length<=Bm/\0=0/\(v6.2.1++List.take 1 (List.drop 0 [y9])).length=(v6.2.1++List.take 1 (List.drop 0 [y9])).length/\k7 (IntKind.i64.wrap (v6.1+(1:Int)),v6.2.1++List.take 1 (List.drop 0 [y9]),())) (P (List.take v6.2.1.length (List.drop 0 v6.2.1)))) ((0:Int),[],PUnit.unit)) (0=0/\0=([]:List Int).length/\Bt (λ(v5:Int×List Int×PUnit) (k6:Int×List Int×PUnit->Prop)=>Br (decide (v5.1<(↑s.length:Int))) (∃(y7:Int),idx s v5.1=some y7/\ ∃(y8:Int),idx y4 y7=some y8/\0=0/\v5.2.1.length=v5.2.1.length/\v5.2.1.length+(List.take 1 (List.drop 0 [y8])).length<=Bm/\0=0/\(v5.2.1++List.take 1 (List.drop 0 [y8])).length=(v5.2.1++List.take 1 (List.drop 0 [y8])).length/\k6 (IntKind.i64.wrap (v5.1+(1:Int)),v5.2.1++List.take 1 (List.drop 0 [y8]),())) (P (List.take v5.2.1.length (List.drop 0 v5.2.1)))) ((0:Int),[],PUnit.unit)))=fnW Cy (look [(150,Kp)]) Pe Try.f115 (p,s,l,()) P:=by kernel_rfl
theorem Ia {xs:List Int} {i:Nat} (h:i<xs.length):Ca xs (i:Int)=xs[i]:=by
 unfold Ca
 rw [Int.toNat_natCast,List.getD_eq_getElem?_getD,List.getElem?_eq_getElem h];rfl
theorem Ur {xs:List Int} {y:Int} (h0:0<=y) (h:y<xs.length):idx xs y=some (Ca xs y):=by
 have hy:y.toNat<xs.length:=by omega
 have e:y=(y.toNat:Int):=by omega
 rw [e,Av hy,Ia hy]
theorem Th (f:Nat->Nat) (g:Nat->Int) (m:Nat) (init:List Int):Vs f g (m+1) init=(Vs f g m init).set (f m) (g m):=by simp [Vs,List.range_succ]
theorem Vt (f:Nat->Nat) (g:Nat->Int) (m:Nat) (init:List Int):(Vs f g m init).length=init.length:=by
 induction m with
 |zero=>rfl
 |succ m ih=>rw [Th,List.length_set,ih]
theorem jU (f:Nat->Nat) (g:Nat->Int) (init:List Int): ∀(m:Nat),(∀i j,i<m->j<m->f i=f j->i=j)-> ∀i,i<m->f i<init.length->(Vs f g m init)[f i]?=some (g i)
 |0,_,i,h,_=>absurd h (Nat.not_lt_zero _)
 |m+1,hf,i,hi,hl=>by
  rw [Th]
  by_cases e:i=m
  ·subst e
   exact List.getElem?_set_self (by rw [Vt];exact hl)
  ·rw [List.getElem?_set_ne (λh=>e (hf i m hi (by omega) h.symm))]
   exact jU f g init m (λa b ha hb=>hf a b (by omega) (by omega)) i (by omega) hl
structure Ud (p:List Int):Prop where
 pos:1<=p.length
 len:p.length<=20
 row:Gs p.length p
 nodup:p.Nodup
theorem fD {p:List Int} (h:Fl p=true):Ud p:=by
 obtain ⟨h1,h2,h3⟩:=Fw.1 h
 refine ⟨h1,h2,λy hy=>?_,ct λj hj=>(h3 j hj hj).2.2⟩
 obtain ⟨j,hj,rfl⟩:=List.mem_iff_getElem.1 hy
 have:=h3 j hj hj
 omega
theorem Ud.inj {p:List Int} (h:Ud p) (i j:Nat) (hi:i<p.length) (hj:j<p.length) (e:(Ca p (i:Int)).toNat=(Ca p (j:Int)).toNat):i=j:=by
 rw [Ia hi,Ia hj] at e
 have h1:=h.row _ (List.getElem_mem hi)
 have h2:=h.row _ (List.getElem_mem hj)
 have e:p[i]=p[j]:=by omega
 refine Classical.byContradiction λEk=>?_
 rcases Nat.lt_or_gt_of_ne Ek with hl|hl
 ·exact List.pairwise_iff_getElem.1 h.nodup i j hi hj hl e
 ·exact List.pairwise_iff_getElem.1 h.nodup j i hj hi hl e.symm
theorem Ud.JE {p:List Int} (h:Ud p) (k:Nat) (hk:k<p.length): ∃i,i<p.length/\(Ca p (i:Int)).toNat=k:=by
 have hm:=(Wq (xs:=p) h.row).2 (nT h.nodup) k hk
 obtain ⟨i,hi,e⟩:=List.mem_iff_getElem.1 hm
 exact ⟨i,hi,by rw [Ia hi,e];exact Int.toNat_natCast k⟩
theorem Ud.lt {p:List Int} (h:Ud p) {i:Nat} (hi:i<p.length):(Ca p (i:Int)).toNat<p.length:=by
 rw [Ia hi]
 have:=h.row _ (List.getElem_mem hi)
 omega
theorem ly (p:List Int):(Al p).length=p.length:=by unfold Al;rw [Vt,List.length_replicate]
theorem IK {p:List Int} (h:Ud p) {i:Nat} (hi:i<p.length):(Al p)[(Ca p (i:Int)).toNat]?=some (i:Int):=
 jU (λi=>(Ca p (i:Int)).toNat) (λi=>(i:Int)) _ p.length (λi j hi hj=>h.inj i j hi hj) i hi (by rw [List.length_replicate];exact h.lt hi)
theorem OA {p:List Int} (h:Ud p):Gs p.length (Al p):=by
 intro y hy
 obtain ⟨k,hk,rfl⟩:=List.mem_iff_getElem.1 hy
 have mu:k<p.length:=by rw [ly] at hk;exact hk
 obtain ⟨i,hi,rfl⟩:=h.JE k mu
 have:=IK h hi
 rw [List.getElem?_eq_getElem hk] at this
 rw [Option.some.inj this]
 omega
theorem Np (p q:List Int):(Aa p q).length=p.length:=by simp [Aa]
theorem uu {p q:List Int} {n:Nat} (hp:Gs q.length p) (hq:Gs n q):Gs n (Aa p q):=by
 intro y hy
 obtain ⟨x,hx,rfl⟩:=List.mem_map.1 hy
 have h1:=hp x hx
 rw [show x=(x.toNat:Int) by omega,Ia (by omega)]
 exact hq _ (List.getElem_mem _)
theorem oL (p q:List Int) (h:p.length<=20/\Gs q.length p):fnW Cy (look []) Ts Try.f156 (p,q,()) (λ(z:List Int)=>z=Aa p q):=by
 obtain ⟨h,hr⟩:=h
 refine Eq.mp (po p q _) ?_
 refine ⟨⟨by omega,by show (p.length:Int)<(4294967296:Int)+1;omega⟩,rfl,rfl,rfl,?_⟩
 have Nt:=Np p q
 refine As p.length (λv=>v.1) (λj v=>v.2.1.length=(Aa p q).length/\v.2.1.take j=(Aa p q).take j) rfl ⟨by rw [Nt];simp,by simp⟩ ?_
 rintro j ⟨i,ys,⟨⟩⟩ K hj hi ⟨h1,h2⟩ hK
 dsimp only at hi h1 h2⊢
 subst hi
 refine Br.dec (λhl=>?_) λhl=>?_
 ·have hl:j<p.length:=by omega
  have hy:=hr _ (List.getElem_mem hl)
  refine ⟨_,Av hl,_,Ur hy.1 hy.2,⟨by omega,by omega⟩,by rw [Int.toNat_natCast];omega,rfl,by rw [List.length_set],?_⟩
  rw [Ar (by omega),Int.toNat_natCast,Nat.zero_add]
  have Ha:j<(Aa p q).length:=by rw [Nt];exact hl
  have e:Ca q p[j]=(Aa p q)[j]:=by simp [Aa]
  rw [e]
  exact hK hl _ rfl ⟨by rw [List.length_set];exact h1,Kq Ha h1 h2⟩
 ·have:j=p.length:=by omega
  subst this
  rw [<-Nt,List.take_length,<-h1,List.take_length] at h2
  rw [List.drop_zero,List.take_length]
  exact h2
theorem Ph:Sound Try.prog 156 Ts:=
 Sound.Di Bx Ao mixed Try.func156 (by kernel_rfl) (by kernel_rfl) λx h=>oL x.1 x.2.1 h
theorem oM (p:List Int) (h:p.length<=20/\Gs p.length p):fnW Cy (look []) El Try.f175 (p,()) (λ(z:List Int)=>z=Al p):=by
 obtain ⟨h,hr⟩:=h
 refine Eq.mp (pq p _) ?_
 refine ⟨⟨by omega,by show (p.length:Int)<(4294967296:Int)+1;omega⟩,rfl,rfl,rfl,?_⟩
 refine As p.length (λv=>v.1) (λj v=>v.2.1=Vs (λi=>(Ca p (i:Int)).toNat) (λi=>(i:Int)) j (List.replicate p.length 0)) rfl rfl ?_
 rintro j ⟨i,ys,⟨⟩⟩ K hj hi h1 hK
 dsimp only at hi h1⊢
 subst hi
 have hlen:ys.length=p.length:=by rw [h1,Vt,List.length_replicate]
 refine Br.dec (λhl=>?_) λhl=>?_
 ·have hl:j<p.length:=by omega
  have hy:=hr _ (List.getElem_mem hl)
  refine ⟨_,Av hl,⟨by omega,by omega⟩,by omega,rfl,by rw [List.length_set],?_⟩
  rw [Ar (by omega),Nat.zero_add]
  refine hK hl _ rfl ?_
  rw [Th,<-h1,Ia hl]
 ·have:j=p.length:=by omega
  subst this
  rw [List.drop_zero,List.take_length]
  exact h1
theorem Pj:Sound Try.prog 175 El:=
 Sound.Di Bx Ao mixed Try.func175 (by kernel_rfl) (by kernel_rfl) λx h=>oM x.1 h
theorem DP (p:List Int) (h:p.length<=20/\Gs p.length p):fnW Cy (look []) El Try.f170 (p,()) (λ(z:List Int)=>z=Al p):=by
 obtain ⟨h,hr⟩:=h
 refine Eq.mp (FM p _) ?_
 refine ⟨⟨by omega,by show (p.length:Int)<(4294967296:Int)+1;omega⟩,rfl,rfl,rfl,?_⟩
 refine As p.length (λv=>v.1) (λj v=>v.2.1=Vs (λi=>(Ca p (i:Int)).toNat) (λi=>(i:Int)) j (List.replicate p.length 0)) rfl rfl ?_
 rintro j ⟨i,ys,⟨⟩⟩ K hj hi h1 hK
 dsimp only at hi h1⊢
 subst hi
 have hlen:ys.length=p.length:=by rw [h1,Vt,List.length_replicate]
 refine Br.dec (λhl=>?_) λhl=>?_
 ·have hl:j<p.length:=by omega
  have hy:=hr _ (List.getElem_mem hl)
  refine ⟨_,Av hl,⟨by omega,by omega⟩,by omega,rfl,by rw [List.length_set],?_⟩
  rw [Ar (by omega),Nat.zero_add]
  refine hK hl _ rfl ?_
  rw [Th,<-h1,Ia hl]
 ·have:j=p.length:=by omega
  subst this
  rw [List.drop_zero,List.take_length]
  exact h1
theorem pb:Sound Try.prog 170 El:=
 Sound.Di Bx Ao mixed Try.func170 (by kernel_rfl) (by kernel_rfl) λx h=>DP x.1 h
theorem oO (p:List Int) (h:Fl p=true):fnW Cy (look [(169,Em),(170,El)]) Kp Try.f150 (p,()) (λ(z:List Int)=>z=Al p):=by
 have hp:=fD h
 have hs:short p:=by have:=hp.len;unfold short;omega
 refine Eq.mp (pv p _) ⟨_,if_pos hs,⟨λhe=>?_,λ_=>⟨_,if_pos ⟨hp.len,hp.row⟩,rfl⟩⟩⟩
 exact absurd h (Dh he)
theorem ie:Sound Try.prog 150 Kp:=
 Sound.Di Bx (Ah Qz (Ah pb Ao)) mixed Try.func150 (by kernel_rfl) (by kernel_rfl) λx h=>oO x.1 h
theorem Yw (j:Nat):upto (j+1)=upto j++ [(j:Int)]:=by simp [upto,List.range_succ]
theorem yB (n:Int) (h:0<=n/\n<=20):fnW Cy (look []) Cc Try.f124 (n,()) (λ(z:List Int)=>z=upto n.toNat):=by
 refine Eq.mp (zp n _) ⟨rfl,rfl,?_⟩
 refine As n.toNat (λv=>v.1) (λj v=>v.2.1=upto j) rfl rfl ?_
 rintro j ⟨i,ys,⟨⟩⟩ K hj hi h1 hK
 dsimp only at hi h1⊢
 subst hi h1
 refine Br.dec (λhl=>?_) λhl=>?_
 ·refine ⟨rfl,rfl,?_,rfl,rfl,?_⟩
  ·show (upto j).length+1<=4294967296
   rw [Pn];omega
  ·rw [Ar (by omega)]
   exact hK (by omega) _ rfl (Yw j).symm
 ·have:j=n.toNat:=by omega
  subst this
  rw [List.drop_zero,List.take_length]
theorem nC:Sound Try.prog 124 Cc:=
 Sound.Di Bx Ao mixed Try.func124 (by kernel_rfl) (by kernel_rfl) λx h=>yB x.1 h
theorem Nh {g:List (List Int)} {k:Nat} (h:k<g.length):Af g ((k:Int)+1)=g[k]:=by
 unfold Af
 rw [if_pos (by omega),show ((k:Int)+1-1).toNat=k by omega,List.getD_eq_getElem?_getD,List.getElem?_eq_getElem h];rfl
theorem Ng {g:List (List Int)} {k:Nat} (h:k<g.length):Af g (-((k:Int)+1))=Al g[k]:=by
 unfold Af
 rw [if_neg (by omega),show (-(-((k:Int)+1))-1).toNat=k by omega,List.getD_eq_getElem?_getD,List.getElem?_eq_getElem h];rfl
theorem Ov {n:Nat} {l:Int} (h:Gt n l): ∃k:Nat,k<n/\(l=(k:Int)+1\/l= -((k:Int)+1)):=by
 obtain ⟨h1,h2,h3⟩:=h
 by_cases h0:0<l
 ·exact ⟨(l-1).toNat,by omega, .inl (by omega)⟩
 ·exact ⟨(-l-1).toNat,by omega, .inr (by omega)⟩
theorem yD (g:List (List Int)) (l:Int) (h:Gt (List.length g) l/\List.length g<=8/\ ∀p∈g,Fl p=true):fnW Cy (look [(175,El)]) Qv Try.f157 (g,l,()) (λ(z:List Int)=>z=Af g l):=by
 obtain ⟨hl,h8,hp⟩:=h
 refine Eq.mp (zr g l _) ?_
 obtain ⟨k,hk,rfl|rfl⟩:=Ov hl
 ·refine Br.dec (λ_=>?_) λhn=>by omega
  rw [Bw (by omega) (by omega),show (k:Int)+1-1=(k:Int) by omega]
  exact ⟨_,Av hk,(Nh hk).symm⟩
 ·refine Br.dec (λhn=>by omega) λ_=>?_
  rw [Bw (n:=0- -((k:Int)+1)) (by omega) (by omega),Bw (by omega) (by omega),show (0:Int)- -((k:Int)+1)-1=(k:Int) by omega]
  have:=fD (hp _ (List.getElem_mem hk))
  exact ⟨_,Av hk,_,if_pos ⟨this.len,this.row⟩,(Ng hk).symm⟩
theorem nE:Sound Try.prog 157 Qv:=
 Sound.Di Bx (Ah Pj Ao) mixed Try.func157 (by kernel_rfl) (by kernel_rfl) λx h=>yD x.1 x.2.1 h
theorem Ux (j:Nat):Ag (j+1)=Ag j++ [(j:Int)+1,-((j:Int)+1)]:=by simp [Ag,List.range_succ,List.flatMap_append]
theorem Kl (j:Nat):(Ag j).length=2*j:=by
 induction j with
 |zero=>rfl
 |succ j ih=>rw [Ux,List.length_append,ih];simp only [List.length_cons,List.length_nil];omega
theorem Jq {n:Nat} {l:Int} (h:l∈Ag n):Gt n l:=by
 unfold Ag at h
 obtain ⟨k,hk,hl⟩:=List.mem_flatMap.1 h
 have hk:=List.mem_range.1 hk
 simp only [List.mem_cons,List.not_mem_nil,or_false] at hl
 unfold Gt
 omega
theorem DM (n:Int) (h:0<=n/\n<=8):fnW Cy (look []) Hz Try.f117 (n,()) (λ(z:List Int)=>z=Ag n.toNat):=by
 refine Eq.mp (FJ n _) ⟨rfl,rfl,?_⟩
 refine As n.toNat (λv=>v.1) (λj v=>v.2.1=Ag j) rfl rfl ?_
 rintro j ⟨i,ys,⟨⟩⟩ K hj hi h1 hK
 dsimp only at hi h1⊢
 subst hi h1
 refine Br.dec (λhl=>?_) λhl=>?_
 ·refine ⟨rfl,rfl,?_,rfl,rfl,?_⟩
  ·show (Ag j).length+2<=4294967296
   rw [Kl];omega
  ·have e1:IntKind.i64.wrap ((j:Int)+1)=(j:Int)+1:=Bw (by omega) (by omega)
   have e2:IntKind.i64.wrap ((0:Int)-((j:Int)+1))= -((j:Int)+1):=by rw [Bw (by omega) (by omega)];omega
   rw [e1,e2]
   exact hK (by omega) _ rfl (Ux j).symm
 ·have:j=n.toNat:=by omega
  subst this
  rw [List.drop_zero,List.take_length]
theorem Xf:Sound Try.prog 117 Hz:=
 Sound.Di Bx Ao mixed Try.func117 (by kernel_rfl) (by kernel_rfl) λx h=>DM x.1 h
structure Valid (p:PP):Prop where
 n:1<=p.1/\p.1<=20
 o3:1<=p.2.2.1.length/\p.2.2.1.length<=8
 perm: ∀m∈p.2.2.1,Fl m=true
 len: ∀m∈p.2.2.1,(m.length:Int)=p.1
theorem valid {p:PP} (h:Bd p=true):Valid p:=by
 have h0:=zk h
 obtain ⟨h1,_,_⟩:=Fw.1 h
 obtain ⟨_,_,h4⟩:=Fw.1 h1
 exact ⟨⟨h0.1,h0.2.1⟩,h0.2.2,λm hm=>(Fw.1 (h4 m hm)).2,λm hm=>(Fw.1 (h4 m hm)).1⟩
theorem j9 {p:PP} (h:Valid p) {l:Int} (hl:Gt (List.length p.2.2.1) l):((Af p.2.2.1 l).length:Int)=p.1/\Gs (Af p.2.2.1 l).length (Af p.2.2.1 l):=by
 obtain ⟨k,hk,rfl|rfl⟩:=Ov hl
 ·rw [Nh hk]
  exact ⟨h.len _ (List.getElem_mem hk),(fD (h.perm _ (List.getElem_mem hk))).row⟩
 ·rw [Ng hk,ly]
  exact ⟨h.len _ (List.getElem_mem hk),OA (fD (h.perm _ (List.getElem_mem hk)))⟩
theorem ua (s y:List Int) (P:List Int->Prop) (h1:s.length<=20) (h2:Gs y.length s) (h3:P (Aa s y)):
  Bt
   (λ(v5:Int×List Int×PUnit) (k6:Int×List Int×PUnit->Prop)=>
    Br (decide (v5.1<(↑s.length:Int)))
     (∃(y7:Int),
      idx s v5.1=some y7/\
       ∃(y8:Int),
        idx y y7=some y8/\
         (0:Nat)=(0:Nat)/\
          v5.2.1.length=v5.2.1.length/\
           v5.2.1.length+(List.take (1:Nat) (List.drop (0:Nat) [y8])).length<=Bm/\
            (0:Nat)=(0:Nat)/\
             (v5.2.1++List.take (1:Nat) (List.drop (0:Nat) [y8])).length=(v5.2.1++List.take (1:Nat) (List.drop (0:Nat) [y8])).length/\
              k6 (IntKind.i64.wrap (v5.1+(1:Int)),v5.2.1++List.take (1:Nat) (List.drop (0:Nat) [y8]),()))
     (P (List.take v5.2.1.length (List.drop (0:Nat) v5.2.1))))
   ((0:Int),([]:List Int),PUnit.unit):=by
 refine As s.length (λv=>v.1) (λj v=>v.2.1=(s.take j).map (Ca y)) rfl (by simp) ?_
 rintro j ⟨i,ys,⟨⟩⟩ K hj hi hR hK
 dsimp only at hi hR⊢
 subst hi hR
 refine Br.dec (λhl=>?_) λhl=>?_
 ·have hl:j<s.length:=by omega
  have hy:=h2 _ (List.getElem_mem hl)
  refine ⟨_,Av hl,_,Ur hy.1 hy.2,rfl,rfl,?_,rfl,rfl,?_⟩
  ·show ((s.take j).map (Ca y)).length+1<=4294967296
   rw [List.length_map,List.length_take];omega
  ·rw [Ar (by omega)]
   refine hK hl _ rfl ?_
   dsimp only
   rw [List.take_succ_eq_append_getElem hl,List.map_append]
   rfl
 ·have:j=s.length:=by omega
  subst this
  rw [List.drop_zero,List.take_length,List.take_length]
  exact h3
theorem JH (p:PP) (s:List Int) (l:Int) (h:Bd p=true/\List.length s<=20/\(∀y∈s,0<=y/\y<p.1)/\Gt (List.length p.2.2.1) l):fnW Cy (look [(150,Kp)]) Pe Try.f115 (p,s,l,()) (λ(z:List Int)=>z=Aa s (Af p.2.2.1 l)):=by
 obtain ⟨hv,hs,hr,hl⟩:=h
 have hv:=valid hv
 have hf:=hv.o3
 refine Eq.mp (LF p s l _) ?_
 have HU:=j9 hv hl
 have Qh:Gs (Af p.2.2.1 l).length s:= λy hy=>by have:=hr y hy;omega
 obtain ⟨k,hk,rfl|rfl⟩:=Ov hl
 ·rw [if_pos rfl,Bw (n:=0-((k:Int)+1)) (by omega) (by omega),if_neg (by omega),Bw (by omega) (by omega),show (k:Int)+1-1=(k:Int) by omega]
  refine ⟨_,Av hk,Br.dec (λhn=>by omega) λ_=>⟨rfl,rfl,?_⟩⟩
  rw [Nh hk] at Qh⊢
  exact ua s _ (λz=>z=Aa s p.2.2.1[k]) hs Qh rfl
 ·rw [if_pos rfl,Bw (n:=0- -((k:Int)+1)) (by omega) (by omega),if_pos (by omega),Bw (by omega) (by omega),show (0:Int)- -((k:Int)+1)-1=(k:Int) by omega]
  refine ⟨_,Av hk,Br.dec (λ_=>⟨_,if_pos (hv.perm _ (List.getElem_mem hk)),rfl,rfl,?_⟩) λhn=>by omega⟩
  rw [Ng hk] at Qh⊢
  exact ua s (Al p.2.2.1[k]) (λz=>z=Aa s (Al p.2.2.1[k])) hs Qh rfl
theorem ia:Sound Try.prog 115 Pe:=
 Sound.Di Bx (Ah ie Ao) mixed Try.func115 (by kernel_rfl) (by kernel_rfl) λx h=>JH x.1 x.2.1 x.2.2.1 h
end Go.Proofs.Ytjbdmibbbpdnnaa

namespace Go.Proofs.Ytjbdmibbbpdnnaa
open Go.RowKit
abbrev rL:CK:= .row tI 2
abbrev xLL:CK:= .Du tL 25
def Gw (k:Int) (n:Nat):List Int:=(List.range n).map λi=>k+(i:Nat)
def Gk:Int->List (List Int)->List (List Int)
 |_,[]=> []
 |k,r::rs=>Gw k r.length::Gk (k+r.length) rs
def Cn:List (List Int)->Nat
 | []=>0
 |r::rs=>r.length+Cn rs
def low (k:Int):Prop:=0<=k/\k<=1099511627776
noncomputable abbrev Pf:MSpec:=jf [none,none] [(true,rL),(false, .Fc tI)] false [none] [.Fc tI] (λx=>short x.1/\low x.2.1) (λx=>((x.2.1+List.length x.1,()),(Gw x.2.1 (List.length x.1),())))
noncomputable abbrev Yo:MSpec:=jf [none,none] [(true,xLL),(false, .Fc tI)] false [none] [.Fc tI] (λx=>Ga x.1/\low x.2.1/\low (x.2.1+Cn x.1)) (λx=>((x.2.1+Cn x.1,()),(Gk x.2.1 x.1,())))
noncomputable abbrev Lt:MSpec:=jf [some 3,none] [(false, .Fc tI),(false, .Fc .str),(true,xLL),(false, .Fc tI)] false [none] [.Fc tI]
 (λx=>Ga x.2.2.1/\low x.2.2.2.1/\low (x.2.2.2.1+Cn x.2.2.1)) (λx=>((x.2.2.2.1+Cn x.2.2.1,()),(Gk x.2.2.2.1 x.2.2.1,())))
def gL (xs:List Int) (k:Int):Int:=if xs=Gw k xs.length then k+xs.length else-1
noncomputable abbrev ar:Spec:=Di (.pair tL (.pair tI .unit)) tI false true (λx=>short x.1/\low x.2.1) (λx=>gL x.1 x.2.1)
noncomputable abbrev Ml:MSpec:=jf [none] [(false, .Fc tL)] false [none] [rL] (λx=>short x.1) (λx=>((x.1,()),()))
noncomputable abbrev dD:MSpec:=jf [none] [(false, .Fc iB)] false [none] [xLL] (λx=>Ga x.1) (λx=>((x.1,()),()))
noncomputable abbrev Js:MSpec:=jf [some 3] [(false, .Fc tI),(false, .Fc .str),(false, .Fc iB)] false [some 3] [.Fc tI, .Fc .str,xLL] (λx=>Dt (x.1,x.2.1,x.2.2.1,())) (λx=>((x.1,x.2.1,x.2.2.1,()),()))
theorem PR (xs:List Int) (k:Int) (P:((Int×Unit)×List Int×Unit)->Prop):(0=0/\xs.length=xs.length/\Bt (λ(v3:Int×Int×List Int×PUnit) (k4:Int×Int×List Int×PUnit->Prop)=>Br (decide (v3.2.1<(↑v3.2.2.1.length:Int))) (((0:Int)<=v3.2.1/\v3.2.1<(↑v3.2.2.1.length:Int))/\0+v3.2.1.toNat<v3.2.2.1.length/\0=0/\v3.2.2.1.length=(v3.2.2.1.set (0+v3.2.1.toNat) v3.1).length/\k4 (IntKind.i64.wrap (v3.1+(1:Int)),IntKind.i64.wrap (v3.2.1+(1:Int)),v3.2.2.1.set (0+v3.2.1.toNat) v3.1,())) (P ((v3.1,()),v3.2.2.1,()))) (k,(0:Int),xs,PUnit.unit))=fnMW Xi (look []) Pf Try.f26 (xs,k,()) P:=by kernel_rfl
theorem LH (xs:List (List Int)) (k:Int) (P:((Int×Unit)×List (List Int)×Unit)->Prop):(0=0/\xs.length=xs.length/\Bt (λ(v3:Int×Int×List (List Int)×PUnit) (k4:Int×Int×List (List Int)×PUnit->Prop)=>Br (decide (v3.2.1<(↑v3.2.2.1.length:Int))) (((0:Int)<=v3.2.1/\v3.2.1<(↑v3.2.2.1.length:Int))/\ ∃(y5:List Int),v3.2.2.1[0+v3.2.1.toNat]?=some y5/\ ∃(y6:List Int),v3.2.2.1[0+v3.2.1.toNat]?=some y6/\ ∃(y7:(Int×PUnit)×List Int×PUnit),Pf.fn (y6,v3.1,())=some y7/\ ∃(y8:List Int),v3.2.2.1[0+v3.2.1.toNat]?=some y8/\y7.2.1.length=y8.length/\0=0/\v3.2.2.1.length=(v3.2.2.1.set (0+v3.2.1.toNat) y7.2.1).length/\k4 (y7.1.1,IntKind.i64.wrap (v3.2.1+(1:Int)),v3.2.2.1.set (0+v3.2.1.toNat) y7.2.1,())) (P ((v3.1,()),v3.2.2.1,()))) (k,(0:Int),xs,PUnit.unit))=fnMW Xi (look [(26,Pf)]) Yo Try.f41 (xs,k,()) P:=by kernel_rfl
theorem tH (n:Int) (s:ByteArray) (b:List (List Int)) (k:Int) (P:((Int×Unit)×List (List Int)×Unit)->Prop):(0=0/\b.length=b.length/\ ∃(y5:(Int×PUnit)×List (List Int)×PUnit),Yo.fn (b,k,())=some y5/\(y5.2.1.length=b.length/\b.length=b.length)/\P ((y5.1.1,()),y5.2.1,()))=fnMW Xi (look [(41,Yo)]) Lt Try.f25 (n,s,b,k,()) P:=by kernel_rfl
theorem PN (xs:List Int) (k:Int) (P:Int->Prop):(Bt (λ(v3:Int×Int×PUnit) (k4:Int×Int×PUnit->Prop)=>Br (decide (v3.2.1<(↑xs.length:Int))) (∃(y5:Int),idx xs v3.2.1=some y5/\Br (y5 !=v3.1) (P (-1:Int)) (k4 (IntKind.i64.wrap (v3.1+(1:Int)),IntKind.i64.wrap (v3.2.1+(1:Int)),()))) (P v3.1)) (k,(0:Int),PUnit.unit))=fnW Cy (look []) ar Try.f27 (xs,k,()) P:=by kernel_rfl
theorem WC (xs:List Int) (P:((List Int×Unit)×Unit)->Prop):(((0:Int)<=(↑xs.length:Int)/\(↑xs.length:Int)<(↑Bm:Int)+(1:Int))/\(↑xs.length:Int)=(↑xs.length:Int)/\0=0/\(List.replicate (↑xs.length:Int).toNat (Int.ofNat (nat_lit 0))).length=(List.replicate (↑xs.length:Int).toNat (Int.ofNat (nat_lit 0))).length/\Bt (λ(v2:Int×List Int×PUnit) (k3:Int×List Int×PUnit->Prop)=>Br (decide (v2.1<(↑xs.length:Int))) (∃(y4:Int),idx xs v2.1=some y4/\((0:Int)<=v2.1/\v2.1<(↑v2.2.1.length:Int))/\0+v2.1.toNat<v2.2.1.length/\0=0/\v2.2.1.length=(v2.2.1.set (0+v2.1.toNat) y4).length/\k3 (IntKind.i64.wrap (v2.1+(1:Int)),v2.2.1.set (0+v2.1.toNat) y4,())) (P ((List.take v2.2.1.length (List.drop 0 v2.2.1),()),()))) ((0:Int),List.replicate (↑xs.length:Int).toNat (Int.ofNat (nat_lit 0)),PUnit.unit))=fnMW Xi (look []) Ml Try.f17 (xs,()) P:=by kernel_rfl
theorem PW (xs:List (List Int)) (P:((List (List Int)×Unit)×Unit)->Prop):(((0:Int)<=(↑xs.length:Int)/\(↑xs.length:Int)<(↑Bm:Int)+(1:Int))/\(↑xs.length:Int)=(↑xs.length:Int)/\0=0/\(List.replicate (↑xs.length:Int).toNat ([]:List Int)).length=(List.replicate (↑xs.length:Int).toNat ([]:List Int)).length/\Bt (λ(v2:Int×List (List Int)×PUnit) (k3:Int×List (List Int)×PUnit->Prop)=>Br (decide (v2.1<(↑xs.length:Int))) (∃(y4:List Int),idx xs v2.1=some y4/\ ∃(y5:(List Int×PUnit)×PUnit),Ml.fn (y4,())=some y5/\((0:Int)<=v2.1/\v2.1<(↑v2.2.1.length:Int))/\0+v2.1.toNat<v2.2.1.length/\0=0/\v2.2.1.length=(v2.2.1.set (0+v2.1.toNat) (List.take y5.1.1.length (List.drop 0 y5.1.1))).length/\k3 (IntKind.i64.wrap (v2.1+(1:Int)),v2.2.1.set (0+v2.1.toNat) (List.take y5.1.1.length (List.drop 0 y5.1.1)),())) (P ((List.take v2.2.1.length (List.drop 0 v2.2.1),()),()))) ((0:Int),List.replicate (↑xs.length:Int).toNat ([]:List Int),PUnit.unit))=fnMW Xi (look [(17,Ml)]) dD Try.f36 (xs,()) P:=by kernel_rfl
theorem x5 (n:Int) (s:ByteArray) (b:List (List Int)) (P:((Int×ByteArray×List (List Int)×Unit)×Unit)->Prop):(∃(y4:(List (List Int)×PUnit)×PUnit),dD.fn (b,())=some y4/\P ((n,s,List.take y4.1.1.length (List.drop 0 y4.1.1),()),()))=fnMW Xi (look [(36,dD)]) Js Try.f16 (n,s,b,()) P:=by kernel_rfl
theorem Bh {α:Type} (xs:List α):List.take xs.length (List.drop 0 xs)=xs:=by rw [List.drop_zero,List.take_length]
theorem Lg (k:Int) (n:Nat):(Gw k n).length=n:=by simp [Gw]
theorem gM (k:Int) (n:Nat):Gw k (n+1)=Gw k n++ [k+(n:Nat)]:=by simp [Gw,List.range_succ]
theorem cq (a b:List (List Int)):Cn (a++b)=Cn a+Cn b:=by
 induction a with
 |nil=>simp [Cn]
 |cons r a ih=>simp only [List.cons_append,Cn,ih];omega
theorem Yj: ∀(a b:List (List Int)) (k:Int),Gk k (a++b)=Gk k a++Gk (k+Cn a) b
 | [],b,k=>by simp [Gk,Cn]
 |r::a,b,k=>by
  simp only [List.cons_append,Gk,Cn,Yj a b]
  congr 3
  omega
theorem Wx: ∀(xs:List (List Int)) (k:Int),(Gk k xs).length=xs.length
 | [],_=>rfl
 |r::xs,k=>by simp [Gk,Wx xs]
theorem sk {xs:List (List Int)} {j:Nat} (h:j<xs.length):Cn (xs.drop j)=xs[j].length+Cn (xs.drop (j+1)):=by
 rw [List.drop_eq_getElem_cons h];rfl
theorem sl {xs:List (List Int)} {j:Nat} (h:j<xs.length):Cn (xs.take (j+1))=Cn (xs.take j)+xs[j].length:=by
 rw [List.take_succ_eq_append_getElem h,cq];simp [Cn]
theorem oE (xs:List (List Int)) (j:Nat):Cn (xs.take j)+Cn (xs.drop j)=Cn xs:=by
 rw [<-cq,List.take_append_drop]
theorem ON (xs:List Int) (k:Int) (h:short xs/\low k):fnMW Xi (look []) Pf Try.f26 (xs,k,()) (λ(z:(Int×Unit)×List Int×Unit)=>z=((k+xs.length,()),(Gw k xs.length,()))):=by
 obtain ⟨h1,h2,h3⟩:=h
 unfold short at h1
 refine Eq.mp (PR xs k _) ⟨rfl,rfl,?_⟩
 refine As xs.length (λv=>v.2.1) (λj v=>v.1=k+(j:Nat)/\v.2.2.1.length=xs.length/\v.2.2.1.take j=Gw k j) rfl ⟨by simp,rfl,by simp [Gw]⟩ ?_
 rintro j ⟨k',i,ys,⟨⟩⟩ K hj hi ⟨g1,g2,g3⟩ hK
 dsimp only at hi g1 g2 g3⊢
 subst hi;subst g1
 refine Br.dec (λhl=>?_) λhl=>?_
 ·have hl:j<ys.length:=by omega
  refine ⟨⟨by omega,by omega⟩,by rw [Int.toNat_natCast];omega,rfl,by rw [List.length_set],?_⟩
  rw [Ar (by omega),Int.toNat_natCast,Nat.zero_add,Bw (by omega) (by omega)]
  refine hK (by omega) _ rfl ⟨by dsimp only;omega,by rw [List.length_set];exact g2,?_⟩
  rw [List.take_succ_eq_append_getElem (by rw [List.length_set];exact hl),List.take_set_of_le (Nat.le_refl j),g3,List.getElem_set_self,gM]
 ·have rI:j=xs.length:=by omega
  subst rI
  rw [<-g2,List.take_length,g2] at g3
  rw [g3]
theorem kD:Cd Try.prog 26 Pf:=
 Cd.jf Vg Ao mixed Try.func26 (by kernel_rfl) (by kernel_rfl) λx h=>ON x.1 x.2.1 h
theorem JJ (xs:List (List Int)) (k:Int) (h:Ga xs/\low k/\low (k+Cn xs)):fnMW Xi (look [(26,Pf)]) Yo Try.f41 (xs,k,()) (λ(z:(Int×Unit)×List (List Int)×Unit)=>z=((k+Cn xs,()),(Gk k xs,()))):=by
 obtain ⟨⟨h1,h4⟩,⟨h2,h3⟩,h5,h6⟩:=h
 refine Eq.mp (LH xs k _) ⟨rfl,rfl,?_⟩
 refine As xs.length (λv=>v.2.1) (λj v=>v.1=k+(Cn (xs.take j):Nat)/\v.2.2.1.length=xs.length/\v.2.2.1.take j=Gk k (xs.take j)/\v.2.2.1.drop j=xs.drop j) rfl ⟨by simp [Cn],rfl,by simp [Gk],rfl⟩ ?_
 rintro j ⟨k',i,ys,⟨⟩⟩ K hj hi ⟨g1,g2,g3,g4⟩ hK
 dsimp only at hi g1 g2 g3 g4⊢
 subst hi;subst g1
 refine Br.dec (λhl=>?_) λhl=>?_
 ·have hl:j<ys.length:=by omega
  have WT:j<xs.length:=by omega
  have hy:ys[j]?=some xs[j]:=by
   have:(ys.drop j)[0]?=(xs.drop j)[0]?:=by rw [g4]
   simpa [List.getElem?_drop,List.getElem?_eq_getElem WT] using this
  have GA:=oE xs j
  have htk:=sl WT
  have hdr:=sk WT
  refine ⟨⟨by omega,by omega⟩,?_⟩
  simp only [Int.toNat_natCast,Nat.zero_add]
  have Af1:low (k+(Cn (xs.take j):Nat)):=⟨by omega,by omega⟩
  refine ⟨_,hy,_,hy,_,if_pos ⟨h4 _ (List.getElem_mem WT),Af1⟩,_,hy,Lg _ _,trivial,by rw [List.length_set],?_⟩
  rw [Ar (by omega)]
  refine hK WT _ rfl ⟨by dsimp only;omega,by rw [List.length_set];exact g2,?_,?_⟩
  ·rw [List.take_succ_eq_append_getElem (by rw [List.length_set];exact hl),List.take_set_of_le (Nat.le_refl j),g3,List.getElem_set_self,List.take_succ_eq_append_getElem WT,Yj]
   rfl
  ·dsimp only
   rw [List.drop_set_of_lt (by omega)]
   have e1:ys.drop (j+1)=(ys.drop j).drop 1:=by rw [List.drop_drop]
   rw [e1,g4,List.drop_drop]
 ·have rI:j=xs.length:=by omega
  subst rI
  rw [<-g2,List.take_length,g2,List.take_length] at g3
  rw [g3,List.take_length]
theorem sU:Cd Try.prog 41 Yo:=
 Cd.jf Vg (Hg kD Ao) mixed Try.func41 (by kernel_rfl) (by kernel_rfl) λx h=>JJ x.1 x.2.1 h
theorem su (n:Int) (s:ByteArray) (b:List (List Int)) (k:Int) (h:Ga b/\low k/\low (k+Cn b)):fnMW Xi (look [(41,Yo)]) Lt Try.f25 (n,s,b,k,()) (λ(z:(Int×Unit)×List (List Int)×Unit)=>z=((k+Cn b,()),(Gk k b,()))):=by
 exact Eq.mp (tH n s b k _) ⟨rfl,rfl,_,if_pos h,⟨Wx _ _,rfl⟩,rfl⟩
theorem jE:Cd Try.prog 25 Lt:=
 Cd.jf Vg (Hg sU Ao) mixed Try.func25 (by kernel_rfl) (by kernel_rfl) λx h=>su x.1 x.2.1 x.2.2.1 x.2.2.2.1 h
theorem OL (xs:List Int) (k:Int) (h:short xs/\low k):fnW Cy (look []) ar Try.f27 (xs,k,()) (λ(z:Int)=>z=gL xs k):=by
 obtain ⟨h1,h2,h3⟩:=h
 unfold short at h1
 refine Eq.mp (PN xs k _) ?_
 refine As xs.length (λv=>v.2.1) (λj v=>v.1=k+(j:Nat)/\xs.take j=Gw k j) rfl ⟨by simp,by simp [Gw]⟩ ?_
 rintro j ⟨k',i,⟨⟩⟩ K hj hi ⟨g1,g3⟩ hK
 dsimp only at hi g1 g3⊢
 subst hi;subst g1
 refine Br.dec (λhl=>?_) λhl=>?_
 ·have hl:j<xs.length:=by omega
  refine ⟨_,Av hl,λEk=>?_,λhe=>?_⟩
  ·simp only [bne_iff_ne,ne_eq] at Ek
   unfold gL
   rw [if_neg]
   intro he
   refine Ek ?_
   have e1:xs[j]?=(Gw k xs.length)[j]?:=by rw [<-he]
   rw [List.getElem?_eq_getElem hl] at e1
   simpa [Gw,hl] using e1
  ·simp only [bne_eq_false_iff_eq] at he
   rw [Ar (by omega),Bw (by omega) (by omega)]
   refine hK hl _ rfl ⟨by dsimp only;omega,?_⟩
   rw [List.take_succ_eq_append_getElem hl,g3,he,gM]
 ·have rI:j=xs.length:=by omega
  subst rI
  rw [List.take_length] at g3
  exact (if_pos g3).symm
theorem wB:Sound Try.prog 27 ar:=
 Sound.Di Bx Ao mixed Try.func27 (by kernel_rfl) (by kernel_rfl) λx h=>OL x.1 x.2.1 h
theorem ei (k:Int) (n:Nat):gL (Gw k n) k=k+n:=by unfold gL;rw [Lg,if_pos rfl]
theorem VD (xs:List Int) (h:short xs):fnMW Xi (look []) Ml Try.f17 (xs,()) (λ(z:(List Int×Unit)×Unit)=>z=((xs,()),())):=by
 unfold short at h
 refine Eq.mp (WC xs _) ?_
 refine ⟨⟨by omega,by show (xs.length:Int)<(4294967296:Int)+1;omega⟩,rfl,rfl,rfl,?_⟩
 refine As xs.length (λv=>v.1) (λj v=>v.2.1.length=xs.length/\v.2.1.take j=xs.take j) rfl ⟨by simp,by simp⟩ ?_
 rintro j ⟨i,ys,⟨⟩⟩ K hj hi ⟨h1,h2⟩ hK
 dsimp only at hi h1 h2⊢
 subst hi
 refine Br.dec (λhl=>?_) λhl=>?_
 ·have hl:j<xs.length:=by omega
  refine ⟨_,Av hl,⟨by omega,by omega⟩,by rw [Int.toNat_natCast];omega,rfl,by rw [List.length_set],?_⟩
  rw [Ar (by omega),Int.toNat_natCast,Nat.zero_add]
  exact hK hl _ rfl ⟨by rw [List.length_set];exact h1,Kq hl h1 h2⟩
 ·have:j=xs.length:=by omega
  subst this
  rw [List.take_length,<-h1,List.take_length] at h2
  rw [Bh,h2]
theorem nJ:Cd Try.prog 17 Ml:=
 Cd.jf Vg Ao mixed Try.func17 (by kernel_rfl) (by kernel_rfl) λx h=>VD x.1 h
theorem OS (xs:List (List Int)) (h:Ga xs):fnMW Xi (look [(17,Ml)]) dD Try.f36 (xs,()) (λ(z:(List (List Int)×Unit)×Unit)=>z=((xs,()),())):=by
 obtain ⟨h,h4⟩:=h
 refine Eq.mp (PW xs _) ?_
 refine ⟨⟨by omega,by show (xs.length:Int)<(4294967296:Int)+1;omega⟩,rfl,rfl,rfl,?_⟩
 refine As xs.length (λv=>v.1) (λj v=>v.2.1.length=xs.length/\v.2.1.take j=xs.take j) rfl ⟨by simp,by simp⟩ ?_
 rintro j ⟨i,ys,⟨⟩⟩ K hj hi ⟨h1,h2⟩ hK
 dsimp only at hi h1 h2⊢
 subst hi
 refine Br.dec (λhl=>?_) λhl=>?_
 ·have hl:j<xs.length:=by omega
  refine ⟨_,Av hl,_,if_pos (h4 _ (List.getElem_mem hl)),⟨by omega,by omega⟩,by rw [Int.toNat_natCast];omega,rfl,by rw [List.length_set],?_⟩
  rw [Ar (by omega),Int.toNat_natCast,Nat.zero_add]
  dsimp only
  rw [Bh]
  exact hK hl _ rfl ⟨by rw [List.length_set];exact h1,Kq hl h1 h2⟩
 ·have:j=xs.length:=by omega
  subst this
  rw [List.take_length,<-h1,List.take_length] at h2
  rw [Bh,h2]
theorem wF:Cd Try.prog 36 dD:=
 Cd.jf Vg (Hg nJ Ao) mixed Try.func36 (by kernel_rfl) (by kernel_rfl) λx h=>OS x.1 h
theorem wc (n:Int) (s:ByteArray) (b:List (List Int)) (h:Dt (n,s,b,())):fnMW Xi (look [(36,dD)]) Js Try.f16 (n,s,b,()) (λ(z:(Int×ByteArray×List (List Int)×Unit)×Unit)=>z=((n,s,b,()),())):=by
 refine Eq.mp (x5 n s b _) ⟨_,if_pos h.2,?_⟩
 simp only [Bh]
theorem lf:Cd Try.prog 16 Js:=
 Cd.jf Vg (Hg wF Ao) mixed Try.func16 (by kernel_rfl) (by kernel_rfl) λx h=>wc x.1 x.2.1 x.2.2.1 h
end Go.Proofs.Ytjbdmibbbpdnnaa

namespace Go.Proofs.Ytjbdmibbbpdnnaa
open Go.RowKit
theorem Jh (a:List Int):Ig a a=true:=by simp [Ig]
theorem KL {n:Nat} {room:Int} (h: ¬jc n room<0):jc n room=room-n/\(n:Int)<=room:=by
 unfold jc at*
 split at h
 ·exact absurd (show (-1:Int)<0 by decide) h
 ·rename_i h1;rw [if_neg h1];exact ⟨rfl,by omega⟩
theorem wK: ∀(xs:List (List Int)) (room:Int),0<=room-> ¬wJ xs room<0->wJ xs room=room-Cn xs
 | [],room,_,_=>by simp [wJ,Cn]
 |r::xs,room,h0,h=>by
  simp only [wJ,Cn] at h⊢
  split at h
  ·exact absurd (show (-1:Int)<0 by decide) h
  ·rename_i h1
   rw [if_neg h1]
   have e1:=KL (n:=r.length) h1
   have e1:gO r room=room-r.length/\(r.length:Int)<=room:=e1
   rw [wK xs _ (by rw [e1.1];omega) h,e1.1]
   omega
theorem KJ {xs:List (List Int)} {room:Int} (h: ¬Wz xs room<0):Wz xs room=room-xs.length-Cn xs:=by
 unfold Wz at*
 split at h
 ·exact absurd (show (-1:Int)<0 by decide) h
 ·rename_i h1
  rw [if_neg h1]
  have e1:=KL h1
  rw [wK xs _ (by rw [e1.1];omega) h,e1.1]
theorem xb (k:Int) (n:Nat):List.take n (List.drop 0 (Gw k n))=Gw k n:=by rw [List.drop_zero,List.take_of_length_le (by rw [Lg];exact Nat.le_refl _)]
theorem lz:low 1:=⟨by decide,by decide⟩
end Go.Proofs.Ytjbdmibbbpdnnaa

namespace Go.Proofs.Ytjbdmibbbpdnnaa
open Go.RowKit
theorem iJ {b:Bool} {P:Prop} (h:(!(b==b))=true):P:=by simp at h
end Go.Proofs.Ytjbdmibbbpdnnaa

namespace Go.Proofs.Ytjbdmibbbpdnnaa
open Go.RowKit
noncomputable abbrev Qs:Spec:=Di (.pair tL .unit) tL false true (λx=>short x.1) (λx=>x.1)
theorem zm (xs:List Int) (P:List Int->Prop):(0=0/\0=([]:List Int).length/\0+xs.length<=Bm/\P (List.take ([]++xs).length (List.drop 0 ([]++xs))))=fnW Cy (look []) Qs Try.f123 (xs,()) P:=by kernel_rfl
theorem yz (xs:List Int) (h:short xs):fnW Cy (look []) Qs Try.f123 (xs,()) (λ(z:List Int)=>z=xs):=by
 unfold short at h
 refine Eq.mp (zm xs _) ⟨rfl,rfl,by show 0+xs.length<=4294967296;omega,?_⟩
 simp only [Bh,List.nil_append]
theorem nA:Sound Try.prog 123 Qs:=
 Sound.Di Bx Ao mixed Try.func123 (by kernel_rfl) (by kernel_rfl) λx h=>yz x.1 h
end Go.Proofs.Ytjbdmibbbpdnnaa

namespace Go.Proofs.Ytjbdmibbbpdnnaa
open Go.RowKit
def Cf (xs is:List Int):List Int:=is.map (Ca xs)
noncomputable abbrev Tz:Spec:=Di (.pair tL (.pair tL .unit)) tL false true (λx=>short x.1/\Gs (List.length x.2.1) x.1) (λx=>Cf x.2.1 x.1)
def Mc (xs:List Int):ByteArray:=bytesOf (xs.map λx=>IntKind.u8.wrap x)
noncomputable abbrev Eg:Spec:=Di (.pair tL .unit) .str false true (λx=>short x.1) (λx=>Mc x.1)
def gV (ps:List (List Int)) (p:List Int):Int:=Ck (λq=>decide (q=p)) ps 0
theorem FL (is xs:List Int) (P:List Int->Prop):(0=0/\0=([]:List Int).length/\Bt (λ(v3:Int×List Int×PUnit) (k4:Int×List Int×PUnit->Prop)=>Br (decide (v3.1<(↑is.length:Int))) (∃(y5:Int),idx is v3.1=some y5/\ ∃(y6:Int),idx xs y5=some y6/\0=0/\v3.2.1.length=v3.2.1.length/\v3.2.1.length+(List.take 1 (List.drop 0 [y6])).length<=Bm/\0=0/\(v3.2.1++List.take 1 (List.drop 0 [y6])).length=(v3.2.1++List.take 1 (List.drop 0 [y6])).length/\k4 (IntKind.i64.wrap (v3.1+(1:Int)),v3.2.1++List.take 1 (List.drop 0 [y6]),())) (P (List.take v3.2.1.length (List.drop 0 v3.2.1)))) ((0:Int),[],PUnit.unit))=fnW Cy (look []) Tz Try.f113 (is,xs,()) P:=by kernel_rfl
theorem zv (xs:List Int) (P:ByteArray->Prop):(((0:Int)<=(↑xs.length:Int)/\(↑xs.length:Int)<(↑Bm:Int)+(1:Int))/\(↑xs.length:Int)=(↑xs.length:Int)/\0=0/\(List.replicate (↑xs.length:Int).toNat (Int.ofNat (nat_lit 0))).length=(List.replicate (↑xs.length:Int).toNat (Int.ofNat (nat_lit 0))).length/\Bt (λ(v2:Int×List Int×PUnit) (k3:Int×List Int×PUnit->Prop)=>Br (decide (v2.1<(↑xs.length:Int))) (∃(y4:Int),idx xs v2.1=some y4/\((0:Int)<=v2.1/\v2.1<(↑v2.2.1.length:Int))/\0+v2.1.toNat<v2.2.1.length/\0=0/\v2.2.1.length=(v2.2.1.set (0+v2.1.toNat) (IntKind.u8.wrap y4)).length/\k3 (IntKind.i64.wrap (v2.1+(1:Int)),v2.2.1.set (0+v2.1.toNat) (IntKind.u8.wrap y4),())) (P (bytesOf (List.take v2.2.1.length (List.drop 0 v2.2.1))))) ((0:Int),List.replicate (↑xs.length:Int).toNat (Int.ofNat (nat_lit 0)),PUnit.unit))=fnW Cy (look []) Eg Try.f128 (xs,()) P:=by kernel_rfl
theorem wg (xs is:List Int):(Cf xs is).length=is.length:=by simp [Cf]
theorem OG {α:Type} (y:α):List.take 1 (List.drop 0 [y])= [y]:=rfl
theorem DO (is xs:List Int) (h:short is/\Gs xs.length is):fnW Cy (look []) Tz Try.f113 (is,xs,()) (λ(z:List Int)=>z=Cf xs is):=by
 obtain ⟨h,hr⟩:=h
 unfold short at h
 refine Eq.mp (FL is xs _) ⟨rfl,rfl,?_⟩
 have Nt:=wg xs is
 refine As is.length (λv=>v.1) (λj v=>v.2.1=(Cf xs is).take j) rfl rfl ?_
 rintro j ⟨i,ys,⟨⟩⟩ K hj hi h1 hK
 dsimp only at hi h1⊢
 subst hi
 refine Br.dec (λhl=>?_) λhl=>?_
 ·have hl:j<is.length:=by omega
  have hy:=hr _ (List.getElem_mem hl)
  have Ha:j<(Cf xs is).length:=by rw [Nt];exact hl
  refine ⟨_,Av hl,_,Ur hy.1 hy.2,rfl,rfl,?_,rfl,rfl,?_⟩
  ·show ys.length+1<=4294967296
   rw [h1,List.length_take];omega
  ·rw [Ar (by omega),OG]
   refine hK hl _ rfl ?_
   dsimp only
   rw [h1,List.take_succ_eq_append_getElem Ha]
   simp [Cf]
 ·have:j=is.length:=by omega
  subst this
  rw [Bh,h1,<-Nt,List.take_length]
theorem pa:Sound Try.prog 113 Tz:=
 Sound.Di Bx Ao mixed Try.func113 (by kernel_rfl) (by kernel_rfl) λx h=>DO x.1 x.2.1 h
theorem yG (xs:List Int) (h:short xs):fnW Cy (look []) Eg Try.f128 (xs,()) (λ(z:ByteArray)=>z=Mc xs):=by
 unfold short at h
 refine Eq.mp (zv xs _) ?_
 refine ⟨⟨by omega,by show (xs.length:Int)<(4294967296:Int)+1;omega⟩,rfl,rfl,rfl,?_⟩
 have Nt:(xs.map λx=>IntKind.u8.wrap x).length=xs.length:=by simp
 refine As xs.length (λv=>v.1) (λj v=>v.2.1.length=(xs.map λx=>IntKind.u8.wrap x).length/\v.2.1.take j=(xs.map λx=>IntKind.u8.wrap x).take j) rfl ⟨by rw [Nt];simp,by simp⟩ ?_
 rintro j ⟨i,ys,⟨⟩⟩ K hj hi ⟨h1,h2⟩ hK
 dsimp only at hi h1 h2⊢
 subst hi
 refine Br.dec (λhl=>?_) λhl=>?_
 ·have hl:j<xs.length:=by omega
  refine ⟨_,Av hl,⟨by omega,by omega⟩,by rw [Int.toNat_natCast];omega,rfl,by rw [List.length_set],?_⟩
  rw [Ar (by omega),Int.toNat_natCast,Nat.zero_add]
  have Ha:j<(xs.map λx=>IntKind.u8.wrap x).length:=by rw [Nt];exact hl
  have e:IntKind.u8.wrap xs[j]=(xs.map λx=>IntKind.u8.wrap x)[j]:=by simp
  rw [e]
  exact hK hl _ rfl ⟨by rw [List.length_set];exact h1,Kq Ha h1 h2⟩
 ·have:j=xs.length:=by omega
  subst this
  rw [<-Nt,List.take_length,<-h1,List.take_length] at h2
  rw [List.drop_zero,List.take_length,h2];rfl
theorem cN:Sound Try.prog 128 Eg:=
 Sound.Di Bx Ao mixed Try.func128 (by kernel_rfl) (by kernel_rfl) λx h=>yG x.1 h
theorem aT {α:Type} (P:α->Bool) (y:α): ∀(l:List α) (i:Int),0<=i->Ck P (l++ [y]) i=if Ck P l i<0 then (if P y=true then i+l.length else-1) else Ck P l i
 | [],i,_=>by simp [Ck]
 |x::r,i,h=>by
  simp only [List.cons_append,Ck,List.length_cons]
  split
  ·rw [if_neg (by omega)]
  ·rw [aT P y r (i+1) (by omega),show i+1+(r.length:Int)=i+((r.length+1:Nat):Int) by push_cast;omega]
theorem sC (ps:List (List Int)) (q p:List Int):gV (ps++ [q]) p=if gV ps p<0 then (if q=p then (ps.length:Int) else-1) else gV ps p:=by
 unfold gV
 rw [aT _ _ _ _ (Int.le_refl 0)]
 simp only [decide_eq_true_eq,Int.zero_add]
def Pr (p:List Int):Prop:= ∀x∈p,0<=x/\x<256
theorem GU {x y:Int} (hx:0<=x/\x<256) (hy:0<=y/\y<256) (h:UInt8.ofNat (IntKind.u8.wrap x).toNat=UInt8.ofNat (IntKind.u8.wrap y).toNat):x=y:=by
 have h:=congrArg UInt8.toNat h
 simp only [IntKind.wrap_u8,UInt8.toNat_ofNat'] at h
 omega
theorem bytes_inj: ∀(p q:List Int),Pr p->Pr q->(p.map λx=>UInt8.ofNat (IntKind.u8.wrap x).toNat)=(q.map λx=>UInt8.ofNat (IntKind.u8.wrap x).toNat)->p=q
 | [],[],_,_,_=>rfl
 | [],_::_,_,_,h=>by simp at h
 |_::_,[],_,_,h=>by simp at h
 |x::p,y::q,hp,hq,h=>by
  simp only [List.map_cons,List.cons.injEq] at h
  rw [GU (hp x (by simp)) (hq y (by simp)) h.1,bytes_inj p q (λz hz=>hp z (by simp [hz])) (λz hz=>hq z (by simp [hz])) h.2]
theorem key_inj {p q:List Int} (hp:Pr p) (hq:Pr q) (h:Mc p=Mc q):p=q:=by
 refine bytes_inj p q hp hq ?_
 simp only [Mc,bytesOf,ByteArray.mk.injEq,List.map_map] at h
 have h:=congrArg Array.toList h
 simpa [Function.comp_def] using h
def KM (m:ByteArray->Option Int) (ps:List (List Int)):Prop:= ∀p,Pr p->m (Mc p)=if gV ps p<0 then none else some (gV ps p)
theorem KM.nil:KM (λ_=>none) []:= λp _=>by
 rw [if_pos (by unfold gV;simp [Ck])]
theorem KM.add {m:ByteArray->Option Int} {ps:List (List Int)} {q:List Int} (h:KM m ps) (hq:Pr q) (hn:gV ps q<0):KM (aE m (Mc q) (ps.length:Int)) (ps++ [q]):=by
 intro p hp
 rw [sC]
 unfold aE
 by_cases e:p=q
 ·subst e
  rw [if_pos rfl,if_pos hn,if_pos rfl,if_neg (by omega)]
 ·rw [if_neg (λhk=>e (key_inj hp hq hk)),h p hp]
  have e': ¬q=p:= λh=>e h.symm
  rw [if_neg e']
  by_cases CE:gV ps p<0
  ·rw [if_pos CE,if_pos CE,if_pos (by decide)]
  ·rw [if_neg CE,if_neg CE,if_neg CE]
theorem MV {α:Type} {xs:List α} {j:Nat} (h:j<xs.length) (d:α):xs.getD j d=xs[j]:=by
 rw [List.getD_eq_getElem?_getD,List.getElem?_eq_getElem h];rfl
end Go.Proofs.Ytjbdmibbbpdnnaa

namespace Go.Proofs.Ytjbdmibbbpdnnaa
open Go.RowKit
noncomputable abbrev Ij:Spec:=Di (.pair Dn .unit) tL false true (λx=>List.length x.1.2.2.1<=8) (λx=>Ag (List.length x.1.2.2.1))
abbrev im:Type:=Int×Int×ByteArray×List (List Int)×List Int×PUnit
theorem wX (p:Int×ByteArray×List (List Int)×Unit) (P:List Int->Prop):(0=0/\0=([]:List Int).length/\Bt (λ(v2:im) (k3:im->Prop)=>Br (decide (v2.1<=(↑v2.2.2.2.1.length:Int))) (0=0/\v2.2.2.2.2.1.length=v2.2.2.2.2.1.length/\v2.2.2.2.2.1.length+(List.take 2 (List.drop 0 [v2.1,IntKind.i64.wrap ((0:Int)-v2.1)])).length<=Bm/\0=0/\(v2.2.2.2.2.1++List.take 2 (List.drop 0 [v2.1,IntKind.i64.wrap ((0:Int)-v2.1)])).length=(v2.2.2.2.2.1++List.take 2 (List.drop 0 [v2.1,IntKind.i64.wrap ((0:Int)-v2.1)])).length/\k3 (IntKind.i64.wrap (v2.1+(1:Int)),v2.2.1,v2.2.2.1,v2.2.2.2.1,v2.2.2.2.2.1++List.take 2 (List.drop 0 [v2.1,IntKind.i64.wrap ((0:Int)-v2.1)]),())) (P (List.take v2.2.2.2.2.1.length (List.drop 0 v2.2.2.2.2.1)))) ((1:Int),p.1,p.2.1,p.2.2.1,[],PUnit.unit))=fnW Cy (look []) Ij Try.f96 (p,()) P:=by kernel_rfl
theorem w8 (p:PP) (h:List.length p.2.2.1<=8):fnW Cy (look []) Ij Try.f96 (p,()) (λ(z:List Int)=>z=Ag (List.length p.2.2.1)):=by
 refine Eq.mp (wX p _) ⟨rfl,rfl,?_⟩
 refine Bt.mk (λv=> ∃j:Nat,j<=List.length p.2.2.1/\v=((j:Int)+1,p.1,p.2.1,p.2.2.1,Ag j,())) (λv=>List.length p.2.2.1+1-v.1.toNat) ⟨0,Nat.zero_le _,rfl⟩ ?_
 rintro _ ⟨j,hj,rfl⟩
 dsimp only
 refine Br.dec (λhl=>?_) λhl=>?_
 ·refine ⟨rfl,rfl,?_,rfl,rfl,⟨j+1,by omega,?_⟩,?_⟩
  ·show (Ag j).length+2<=4294967296
   rw [Kl];omega
  ·rw [Ux,Bw (n:=(j:Int)+1+1) (by omega) (by omega),Bw (n:=0-((j:Int)+1)) (by omega) (by omega),Int.zero_sub]
   rfl
  ·rw [Bw (by omega) (by omega)];omega
 ·have:j=List.length p.2.2.1:=by omega
  subst this
  rw [Bh]
theorem bb:Sound Try.prog 96 Ij:=
 Sound.Di Bx Ao mixed Try.func96 (by kernel_rfl) (by kernel_rfl) λx h=>w8 x.1 h
theorem KK {p:PP} {room:Int} (hr:roomy room) (h: ¬cp p room<0):(Cn p.2.2.1:Int)<=room-cp p room/\roomy (cp p room):=by
 unfold cp at h⊢
 split at h
 ·exact absurd (show (-1:Int)<0 by decide) h
 ·rename_i h1
  rw [if_neg h1]
  split at h
  ·exact absurd (show (-1:Int)<0 by decide) h
  ·rename_i h2
   rw [if_neg h2]
   have e2:=KJ h2
   obtain ⟨r1,r2⟩:=hr
   unfold roomy
   omega
end Go.Proofs.Ytjbdmibbbpdnnaa

namespace Go.Proofs.Ytjbdmibbbpdnnaa
open Go.RowKit
def s8 (v:Int):List Int->Nat
 | []=>0
 |x::r=>if x>v then s8 v r+1 else 0
def OC (v:Int) (t:List Int):Option (List Int):=if s8 v t=0 then none else some (Ca t ((s8 v t-1:Nat):Int)::(t.set (s8 v t-1) v).reverse)
def cn:List Int->Option (List Int)
 | []=>none
 |v::t=>match cn t with
  |some t'=>some (v::t')
  |none=>OC v t
theorem vP {s s':List Int} (h:cn s=some s'): ∀pre:List Int,cn (pre++s)=some (pre++s')
 | []=>h
 |v::p=>by rw [List.cons_append,cn,vP h p];rfl
theorem OX {α:Type} (pre:List α) (v a:α) (t:List α):(pre++v::t).set pre.length a=pre++a::t:=by
 rw [List.set_append,if_neg (by omega)];simp
inductive zA:List Int->List (List Int)->List Int->Prop where
 |one (a:List Int):zA a [a] a
 |more {a c b:List Int} {L:List (List Int)} :cn a=some c->zA c L b->zA a (a::L) b
theorem zA.cons {a b:List Int} {L:List (List Int)} (h:zA a L b) (v:Int):zA (v::a) (L.map (v:: ·)) (v::b):=by
 induction h with
 |one a=>exact .one _
 |more h3 _ ih=>exact .more (vP h3 [v]) ih
theorem zA.head {a b:List Int} {L:List (List Int)} (h:zA a L b): ∃M,L=a::M:=by
 cases h with
 |one=>exact ⟨_,rfl⟩
 |more _ _=>exact ⟨_,rfl⟩
theorem zA.at {a b:List Int} {L:List (List Int)} (h:zA a L b): ∀j (hj:j<L.length),(∀h2:j+1<L.length,cn L[j]=some L[j+1])/\(j+1=L.length->L[j]=b):=by
 induction h with
 |one a=>
  intro j hj
  simp only [List.length_singleton] at hj
  have:j=0:=by omega
  subst this
  exact ⟨λh2=>by simp at h2,λ_=>rfl⟩
 |more h3 h4 ih=>
  intro j hj
  rcases j with _|j
  ·obtain ⟨M,hM⟩:=h4.head
   refine ⟨λh2=>?_,λh2=>?_⟩
   ·simp only [List.getElem_cons_zero,List.getElem_cons_succ]
    subst hM
    exact h3
   ·subst hM;simp at h2
  ·have:=ih j (by simpa using hj)
   refine ⟨λh2=>?_,λh2=>?_⟩
   ·simp only [List.getElem_cons_succ]
    exact this.1 (by simpa using h2)
   ·simp only [List.getElem_cons_succ]
    exact this.2 (by simpa using h2)
theorem zA.distinct {a b:List Int} {L:List (List Int)} (h:zA a L b) (hb:cn b=none): ∀k i j (hi:i<L.length) (hj:j<L.length),L.length-j=k->i<j->L[i]≠L[j]:=by
 intro k
 induction k with
 |zero=>intro i j hi hj hk;omega
 |succ k ih=>
  intro i j hi hj hk iZ he
  by_cases e:j+1<L.length
  ·have h1:=(h.at i hi).1 (by omega)
   have h2:=(h.at j hj).1 e
   rw [he,h2] at h1
   exact ih (i+1) (j+1) (by omega) e (by omega) (by omega) (Option.some.inj h1).symm
  ·have h1:=(h.at i hi).1 (by omega)
   have h2:=(h.at j hj).2 (by omega)
   rw [he,h2,hb] at h1
   cases h1
theorem zA.idx {a b:List Int} {L:List (List Int)} (h:zA a L b) (hb:cn b=none) {j:Nat} (hj:j<L.length):L.idxOf L[j]=j:=by
 have h1:L.idxOf L[j]<L.length:=List.idxOf_lt_length_of_mem (List.getElem_mem _)
 have h2:L[L.idxOf L[j]]=L[j]:=List.getElem_idxOf h1
 rcases Nat.lt_trichotomy (L.idxOf L[j]) j with h3|h3|h3
 ·exact absurd h2 (h.distinct hb _ _ _ h1 hj rfl h3)
 ·exact h3
 ·exact absurd h2.symm (h.distinct hb _ _ _ hj h1 rfl h3)
end Go.Proofs.Ytjbdmibbbpdnnaa

namespace Go.Proofs.Ytjbdmibbbpdnnaa
open Go.RowKit
def Cg:List Int->List Int->Int
 | [],[]=>0
 | [],_::_=> -1
 |_::_,[]=>1
 |x::a,y::b=>if x<y then-1 else if x>y then 1 else Cg a b
def Zx (a b:List Int):Bool:=decide (Cg a b<0)
noncomputable abbrev Qx:Spec:=Di (.pair tL (.pair tL .unit)) .bool false true (λx=>short x.1/\List.length x.1=List.length x.2.1) (λx=>Zx x.1 x.2.1)
theorem zt (a b:List Int) (P:Bool->Prop):(Bt (λ(v3:Int×PUnit) (k4:Int×PUnit->Prop)=>Br (decide (v3.1<(↑a.length:Int))) (∃(y5:Int),idx a v3.1=some y5/\ ∃(y6:Int),idx b v3.1=some y6/\Br (y5 !=y6) (∃(y7:Int),idx a v3.1=some y7/\ ∃(y8:Int),idx b v3.1=some y8/\P (decide (y7<y8))) (k4 (IntKind.i64.wrap (v3.1+(1:Int)),()))) (P false)) ((0:Int),PUnit.unit))=fnW Cy (look []) Qx Try.f144 (a,b,()) P:=by kernel_rfl
theorem yE (a b:List Int) (h:short a/\a.length=b.length):fnW Cy (look []) Qx Try.f144 (a,b,()) (λ(z:Bool)=>z=Zx a b):=by
 obtain ⟨ha,hb⟩:=h
 unfold short at ha
 refine Eq.mp (zt a b _) ?_
 refine As a.length (λv=>v.1) (λj _=>Cg (a.drop j) (b.drop j)=Cg a b) rfl (by simp) ?_
 rintro j ⟨i,⟨⟩⟩ K hj hi SO hK
 dsimp only at hi⊢
 subst hi
 refine Br.dec (λhl=>?_) λhl=>?_
 ·have hl:j<a.length:=by omega
  have hlb:j<b.length:=by omega
  rw [List.drop_eq_getElem_cons hl,List.drop_eq_getElem_cons hlb] at SO
  simp only [Cg] at SO
  refine ⟨_,Av hl,_,Av hlb,⟨λEk=>?_,λEk=>?_⟩⟩
  ·refine ⟨_,Av hl,_,Av hlb,?_⟩
   have Ek:a[j]≠b[j]:=by simpa using Ek
   unfold Zx
   rw [<-SO]
   by_cases h1:a[j]<b[j]
   ·rw [if_pos h1];simp [h1]
   ·rw [if_neg h1,if_pos (by omega)];simp [h1]
  ·have Ek:a[j]=b[j]:=by simpa using Ek
   rw [if_neg (by omega),if_neg (by omega)] at SO
   rw [Ar (by omega)]
   exact hK hl _ rfl SO
 ·have:j=a.length:=by omega
  subst this
  rw [List.drop_length,List.drop_eq_nil_of_le (by omega)] at SO
  unfold Zx
  rw [<-SO]
  rfl
theorem nG:Sound Try.prog 144 Qx:=
 Sound.Di Bx Ao mixed Try.func144 (by kernel_rfl) (by kernel_rfl) λx h=>yE x.1 x.2.1 h
end Go.Proofs.Ytjbdmibbbpdnnaa

namespace Go.Proofs.Ytjbdmibbbpdnnaa
open Go.RowKit
abbrev SS:Type:=List (List Int)×List Int×List Int×Bool×Unit
abbrev rLS:CK:= .row tL 25
abbrev rN:CK:= .row tI 3
def Cx (L:List (List Int)) (Hs:List Int) (s:List Int):Nat:=(Hs.takeWhile λi=>Zx (L.getD i.toNat []) s).length
structure Ct (m:Nat) (L:List (List Int)) (Hs:List Int):Prop where
 o3:L.length<=3000
 len: ∀x∈L,x.length=m
 short:m<=20
 perm:Hs.Perm (upto L.length)
 sorted:Hs.Pairwise λi j=>Zx (L.getD i.toNat []) (L.getD j.toNat [])=true
def aU (L:List (List Int)) (s:List Int):Int:=if s∈L then (L.idxOf s:Int) else-1
def Pu (Hs:List Int) (k:Nat) (x:Int):List Int:=Hs.take k++x::Hs.drop k
noncomputable abbrev au:Spec:=Di (.pair Wj (.pair tL .unit)) tI false true (λx=>Ct (List.length x.2.1) x.1.1 x.1.2.2.1) (λx=>(Cx x.1.1 x.1.2.2.1 x.2.1:Int))
noncomputable abbrev Kg:Spec:=Di (.pair Wj (.pair tL .unit)) tI false true (λx=>Ct (List.length x.2.1) x.1.1 x.1.2.2.1) (λx=>aU x.1.1 x.2.1)
noncomputable abbrev fG:MSpec:=jf [some 4,none,none] [(false,rLS),(false,rL),(false,rN),(false, .Fc .bool),(false, .Fc tL),(false, .Fc tI)] false [some 4] [rLS,rL,rN, .Fc .bool]
 (λx=>Ct (List.length x.2.2.2.2.1) x.1 x.2.2.1/\List.length x.2.1<=3000) (λx=>((x.1++ [x.2.2.2.2.1],x.2.1++ [x.2.2.2.2.2.1],Pu x.2.2.1 (Cx x.1 x.2.2.1 x.2.2.2.2.1) (List.length x.1),x.2.2.2.1,()),()))
def Sx (L:List (List Int)):List Int:=(List.range L.length).foldl (λ(S:List Int) (i:Nat)=>Pu S (Cx (L.take i) S (L.getD i [])) (i:Int)) []
def Ep (g:List (List Int)) (x:List Int) (d:Int):List Int->List (List Int)->List Int->List (List Int)×List Int×Bool
 | [],L,D=>(L,D,true)
 |l::ls,L,D=>if Aa x (Af g l)∈L then Ep g x d ls L D else if L.length=3000 then (L,D,false) else Ep g x d ls (L++ [Aa x (Af g l)]) (D++ [d+1])
def Gi (g:List (List Int)) (ls:List Int):Nat->Nat->List (List Int)->List Int->List (List Int)×List Int×Bool
 |0,_,L,D=>(L,D,true)
 |f+1,k,L,D=>if k<L.length then (match Ep g (L.getD k []) (D.getD k 0) ls L D with
  |(L',D',true)=>Gi g ls f (k+1) L' D'
  |(L',D',false)=>(L',D',false)) else (L,D,true)
def Dl (g:List (List Int)) (s:List Int):List (List Int)×List Int×Bool:=Gi g (Ag g.length) 3001 0 [s] [0]
def Dc (g:List (List Int)) (s:List Int):SS:=((Dl g s).1,(Dl g s).2.1,Sx (Dl g s).1,(Dl g s).2.2,())
noncomputable abbrev Da:Spec:=Di (.pair Dn (.pair tL .unit)) Wj false false (λx=>Bd x.1=true/\List.length x.2.1<=20/\ ∀y∈x.2.1,0<=y/\y<x.1.1) (λx=>Dc x.1.2.2.1 x.2.1)
abbrev BA:Type:=Int×Int×List (List Int)×List Int×List Int×Bool×PUnit
theorem VZ (f:List (List Int)×List Int×List Int×Bool×Unit) (s:List Int) (P:Int->Prop):(Bt (λ(v3:BA) (k4:BA->Prop)=>Br (decide (v3.1<v3.2.1)) ((2:Int)≠(0:Int)/\ ∃(y5:Int),idx v3.2.2.2.2.1 (IntKind.i64.wrap ((IntKind.i64.wrap (v3.1+v3.2.1)).tdiv (2:Int)))=some y5/\ ∃(y6:List Int),idx v3.2.2.1 y5=some y6/\ ∃(y7:Bool),Qx.fn (y6,s,())=some y7/\Br y7 (k4 (IntKind.i64.wrap (IntKind.i64.wrap ((IntKind.i64.wrap (v3.1+v3.2.1)).tdiv (2:Int))+(1:Int)),v3.2.1,v3.2.2.1,v3.2.2.2.1,v3.2.2.2.2.1,v3.2.2.2.2.2.1,())) (k4 (v3.1,IntKind.i64.wrap ((IntKind.i64.wrap (v3.1+v3.2.1)).tdiv (2:Int)),v3.2.2.1,v3.2.2.2.1,v3.2.2.2.2.1,v3.2.2.2.2.2.1,()))) (P v3.1)) ((0:Int),(↑f.2.2.1.length:Int),f.1,f.2.1,f.2.2.1,f.2.2.2.1,PUnit.unit))=fnW Cy (look [(144,Qx)]) au Try.f104 (f,s,()) P:=by kernel_rfl
theorem LL (f:List (List Int)×List Int×List Int×Bool×Unit) (s:List Int) (P:Int->Prop):(∃(y3:Int),au.fn ((f.1,f.2.1,f.2.2.1,f.2.2.2.1,()),s,())=some y3/\Br (decide (y3<(↑f.2.2.1.length:Int))) (∃(y4:Int),idx f.2.2.1 y3=some y4/\ ∃(y5:List Int),idx f.1 y4=some y5/\ ∃(y6:Bool),Cu.fn (y5,s,())=some y6/\Br y6 (∃(y7:Int),idx f.2.2.1 y3=some y7/\P y7) (P (-1:Int))) (P (-1:Int)))=fnW Cy (look [(104,au),(105,Cu)]) Kg Try.f54 (f,s,()) P:=by kernel_rfl
theorem VX (L:List (List Int)) (D S:List Int) (b:Bool) (s:List Int) (d:Int) (P:((List (List Int)×List Int×List Int×Bool×Unit)×Unit)->Prop):(∃(y7:Int),au.fn ((List.take L.length (List.drop 0 L),List.take D.length (List.drop 0 D),List.take S.length (List.drop 0 S),b,()),s,())=some y7/\0=0/\S.length=S.length/\S.length+(List.take 1 (List.drop 0 [(0:Int)])).length<=Bm/\((0:Int)<=IntKind.i64.wrap (y7+(1:Int))/\IntKind.i64.wrap (y7+(1:Int))<=(↑(S++List.take 1 (List.drop 0 [(0:Int)])).length:Int)/\(↑(S++List.take 1 (List.drop 0 [(0:Int)])).length:Int)<=(↑(S++List.take 1 (List.drop 0 [(0:Int)])).length:Int))/\((0:Int)<=y7/\y7<=(↑(S++List.take 1 (List.drop 0 [(0:Int)])).length:Int)/\(↑(S++List.take 1 (List.drop 0 [(0:Int)])).length:Int)<=(↑(S++List.take 1 (List.drop 0 [(0:Int)])).length:Int))/\((0:Int)<=y7/\y7<(↑(S++List.take 1 (List.drop 0 [(0:Int)])).length:Int))/\0+y7.toNat<(Bf (S++List.take 1 (List.drop 0 [(0:Int)])) (0+(IntKind.i64.wrap (y7+(1:Int))).toNat) (List.take ((↑(S++List.take 1 (List.drop 0 [(0:Int)])).length:Int).toNat-(IntKind.i64.wrap (y7+(1:Int))).toNat) (List.take ((↑(S++List.take 1 (List.drop 0 [(0:Int)])).length:Int).toNat-y7.toNat) (List.drop (0+y7.toNat) (S++List.take 1 (List.drop 0 [(0:Int)])))))).length/\0=0/\L.length=L.length/\L.length+(List.take 1 (List.drop 0 [s])).length<=Bm/\0=0/\D.length=D.length/\D.length+(List.take 1 (List.drop 0 [d])).length<=Bm/\P ((List.take (L++List.take 1 (List.drop 0 [s])).length (List.drop 0 (L++List.take 1 (List.drop 0 [s]))),List.take (D++List.take 1 (List.drop 0 [d])).length (List.drop 0 (D++List.take 1 (List.drop 0 [d]))),List.take (S++List.take 1 (List.drop 0 [(0:Int)])).length (List.drop 0 ((Bf (S++List.take 1 (List.drop 0 [(0:Int)])) (0+(IntKind.i64.wrap (y7+(1:Int))).toNat) (List.take ((↑(S++List.take 1 (List.drop 0 [(0:Int)])).length:Int).toNat-(IntKind.i64.wrap (y7+(1:Int))).toNat) (List.take ((↑(S++List.take 1 (List.drop 0 [(0:Int)])).length:Int).toNat-y7.toNat) (List.drop (0+y7.toNat) (S++List.take 1 (List.drop 0 [(0:Int)])))))).set (0+y7.toNat) (↑L.length:Int))),b,()),()))=fnMW Xi (look [(104,au)]) fG Try.f149 (L,D,S,b,s,d,()) P:=by kernel_rfl
abbrev iq:Type:=Int×Int×ByteArray×List (List Int)×Bool×Bool×List (List Int)×List Int×List Int×List (List Int)×List Int×List Int×PUnit
abbrev wM:Type:=(List (List Int)×List Int×List Int×Bool×PUnit)×PUnit
theorem PV (p:Int×ByteArray×List (List Int)×Unit) (s:List Int) (P:(List (List Int)×List Int×List Int×Bool×Unit)->Prop):(∃(y3:List Int),Qs.fn (s,())=some y3/\ ∃(y4:wM),fG.fn ([],[],[],false,y3,(0:Int),())=some y4/\ ∃(y5:List Int),Ij.fn ((p.1,p.2.1,p.2.2.1,()),())=some y5/\0=0/\0=([]:List Int).length/\0=0/\0=([]:List Int).length/\0=0/\0=([]:List Int).length/\0=0/\y4.1.1.length=y4.1.1.length/\0=0/\y4.1.2.1.length=y4.1.2.1.length/\0=0/\y4.1.2.2.1.length=y4.1.2.2.1.length/\Bt (λ(v6:iq) (k7:iq->Prop)=>Br (decide (v6.1<(↑v6.2.2.2.2.2.2.2.2.2.1.length:Int))) (0=0/\v6.2.2.2.2.2.2.1.length=v6.2.2.2.2.2.2.1.length/\0=0/\v6.2.2.2.2.2.2.2.1.length=v6.2.2.2.2.2.2.2.1.length/\0=0/\v6.2.2.2.2.2.2.2.2.1.length=v6.2.2.2.2.2.2.2.2.1.length/\0=0/\v6.2.2.2.2.2.2.2.2.2.1.length=v6.2.2.2.2.2.2.2.2.2.1.length/\0=0/\v6.2.2.2.2.2.2.2.2.2.2.1.length=v6.2.2.2.2.2.2.2.2.2.2.1.length/\0=0/\v6.2.2.2.2.2.2.2.2.2.2.2.1.length=v6.2.2.2.2.2.2.2.2.2.2.2.1.length/\Bt (λ(v8:iq) (k9:iq->Prop)=>Br (decide (v8.1<(↑y5.length:Int))) (((0:Int)<=v6.1/\v6.1<(↑v8.2.2.2.2.2.2.2.2.2.1.length:Int))/\ ∃(lD:List Int),v8.2.2.2.2.2.2.2.2.2.1[0+v6.1.toNat]?=some lD/\ ∃(kM:Int),idx y5 v8.1=some kM/\ ∃(iw:List Int),Pe.fn ((v8.2.1,v8.2.2.1,v8.2.2.2.1,()),lD,kM,())=some iw/\ ∃(iy:Int),Kg.fn ((List.take v8.2.2.2.2.2.2.2.2.2.1.length (List.drop 0 v8.2.2.2.2.2.2.2.2.2.1),List.take v8.2.2.2.2.2.2.2.2.2.2.1.length (List.drop 0 v8.2.2.2.2.2.2.2.2.2.2.1),List.take v8.2.2.2.2.2.2.2.2.2.2.2.1.length (List.drop 0 v8.2.2.2.2.2.2.2.2.2.2.2.1),v8.2.2.2.2.2.1,()),iw,())=some iy/\Br (decide (iy>=(0:Int))) (0=0/\v8.2.2.2.2.2.2.1.length=v8.2.2.2.2.2.2.1.length/\0=0/\v8.2.2.2.2.2.2.2.1.length=v8.2.2.2.2.2.2.2.1.length/\0=0/\v8.2.2.2.2.2.2.2.2.1.length=v8.2.2.2.2.2.2.2.2.1.length/\0=0/\v8.2.2.2.2.2.2.2.2.2.1.length=v8.2.2.2.2.2.2.2.2.2.1.length/\0=0/\v8.2.2.2.2.2.2.2.2.2.2.1.length=v8.2.2.2.2.2.2.2.2.2.2.1.length/\0=0/\v8.2.2.2.2.2.2.2.2.2.2.2.1.length=v8.2.2.2.2.2.2.2.2.2.2.2.1.length/\k9 (IntKind.i64.wrap (v8.1+(1:Int)),v8.2.1,v8.2.2.1,v8.2.2.2.1,v8.2.2.2.2.1,v8.2.2.2.2.2.1,v8.2.2.2.2.2.2.1,v8.2.2.2.2.2.2.2.1,v8.2.2.2.2.2.2.2.2.1,v8.2.2.2.2.2.2.2.2.2.1,v8.2.2.2.2.2.2.2.2.2.2.1,v8.2.2.2.2.2.2.2.2.2.2.2.1,())) (Br ((↑v8.2.2.2.2.2.2.2.2.2.1.length:Int)==(3000:Int)) (P (List.take v8.2.2.2.2.2.2.2.2.2.1.length (List.drop 0 v8.2.2.2.2.2.2.2.2.2.1),List.take v8.2.2.2.2.2.2.2.2.2.2.1.length (List.drop 0 v8.2.2.2.2.2.2.2.2.2.2.1),List.take v8.2.2.2.2.2.2.2.2.2.2.2.1.length (List.drop 0 v8.2.2.2.2.2.2.2.2.2.2.2.1),v8.2.2.2.2.2.1,())) (((0:Int)<=v6.1/\v6.1<(↑v8.2.2.2.2.2.2.2.2.2.2.1.length:Int))/\ ∃(Yy:Int),v8.2.2.2.2.2.2.2.2.2.2.1[0+v6.1.toNat]?=some Yy/\0=0/\v8.2.2.2.2.2.2.2.2.2.1.length=v8.2.2.2.2.2.2.2.2.2.1.length/\0=0/\v8.2.2.2.2.2.2.2.2.2.2.1.length=v8.2.2.2.2.2.2.2.2.2.2.1.length/\0=0/\v8.2.2.2.2.2.2.2.2.2.2.2.1.length=v8.2.2.2.2.2.2.2.2.2.2.2.1.length/\ ∃(dc:wM),fG.fn (v8.2.2.2.2.2.2.2.2.2.1,v8.2.2.2.2.2.2.2.2.2.2.1,v8.2.2.2.2.2.2.2.2.2.2.2.1,v8.2.2.2.2.2.1,iw,IntKind.i64.wrap (Yy+(1:Int)),())=some dc/\0=0/\v8.2.2.2.2.2.2.1.length=v8.2.2.2.2.2.2.1.length/\0=0/\v8.2.2.2.2.2.2.2.1.length=v8.2.2.2.2.2.2.2.1.length/\0=0/\v8.2.2.2.2.2.2.2.2.1.length=v8.2.2.2.2.2.2.2.2.1.length/\0=0/\dc.1.1.length=dc.1.1.length/\0=0/\dc.1.2.1.length=dc.1.2.1.length/\0=0/\dc.1.2.2.1.length=dc.1.2.2.1.length/\k9 (IntKind.i64.wrap (v8.1+(1:Int)),v8.2.1,v8.2.2.1,v8.2.2.2.1,v8.2.2.2.2.1,dc.1.2.2.2.1,v8.2.2.2.2.2.2.1,v8.2.2.2.2.2.2.2.1,v8.2.2.2.2.2.2.2.2.1,dc.1.1,dc.1.2.1,dc.1.2.2.1,())))) (0=0/\v8.2.2.2.2.2.2.1.length=v8.2.2.2.2.2.2.1.length/\0=0/\v8.2.2.2.2.2.2.2.1.length=v8.2.2.2.2.2.2.2.1.length/\0=0/\v8.2.2.2.2.2.2.2.2.1.length=v8.2.2.2.2.2.2.2.2.1.length/\0=0/\v8.2.2.2.2.2.2.2.2.2.1.length=v8.2.2.2.2.2.2.2.2.2.1.length/\0=0/\v8.2.2.2.2.2.2.2.2.2.2.1.length=v8.2.2.2.2.2.2.2.2.2.2.1.length/\0=0/\v8.2.2.2.2.2.2.2.2.2.2.2.1.length=v8.2.2.2.2.2.2.2.2.2.2.2.1.length/\k7 (IntKind.i64.wrap (v6.1+(1:Int)),v8.2.1,v8.2.2.1,v8.2.2.2.1,v8.2.2.2.2.1,v8.2.2.2.2.2.1,v8.2.2.2.2.2.2.1,v8.2.2.2.2.2.2.2.1,v8.2.2.2.2.2.2.2.2.1,v8.2.2.2.2.2.2.2.2.2.1,v8.2.2.2.2.2.2.2.2.2.2.1,v8.2.2.2.2.2.2.2.2.2.2.2.1,()))) ((0:Int),v6.2.1,v6.2.2.1,v6.2.2.2.1,v6.2.2.2.2.1,v6.2.2.2.2.2.1,v6.2.2.2.2.2.2.1,v6.2.2.2.2.2.2.2.1,v6.2.2.2.2.2.2.2.2.1,v6.2.2.2.2.2.2.2.2.2.1,v6.2.2.2.2.2.2.2.2.2.2.1,v6.2.2.2.2.2.2.2.2.2.2.2.1,PUnit.unit)) (P (List.take v6.2.2.2.2.2.2.2.2.2.1.length (List.drop 0 v6.2.2.2.2.2.2.2.2.2.1),List.take v6.2.2.2.2.2.2.2.2.2.2.1.length (List.drop 0 v6.2.2.2.2.2.2.2.2.2.2.1),List.take v6.2.2.2.2.2.2.2.2.2.2.2.1.length (List.drop 0 v6.2.2.2.2.2.2.2.2.2.2.2.1),true,()))) ((0:Int),p.1,p.2.1,p.2.2.1,false,y4.1.2.2.2.1,[],[],[],y4.1.1,y4.1.2.1,y4.1.2.2.1,PUnit.unit))=fnW VQ (look [(123,Qs),(149,fG),(96,Ij),(115,Pe),(54,Kg)]) Da Try.f112 (p,s,()) P:=by kernel_rfl
theorem lZ: ∀ {a b:List Int},Cg a b=0↔a=b
 | [],[]=>by simp [Cg]
 | [],_::_=>by simp [Cg]
 |_::_,[]=>by simp [Cg]
 |x::a,y::b=>by
  simp only [Cg,List.cons.injEq]
  by_cases h1:x<y
  ·rw [if_pos h1]
   exact ⟨λh=>by omega,λh=>by omega⟩
  ·rw [if_neg h1]
   by_cases h2:x>y
   ·rw [if_pos h2]
    exact ⟨λh=>by omega,λh=>by omega⟩
   ·rw [if_neg h2,lZ]
    exact ⟨λh=>⟨by omega,h⟩,λh=>h.2⟩
theorem zH: ∀(a b:List Int),Cg b a= -Cg a b
 | [],[]=>by simp [Cg]
 | [],_::_=>by simp [Cg]
 |_::_,[]=>by simp [Cg]
 |x::a,y::b=>by
  simp only [Cg]
  rcases Int.lt_trichotomy x y with h1|h1|h1
  ·simp [h1,show ¬y<x by omega]
  ·subst h1
   simp [zH a b]
  ·simp [h1,show ¬x<y by omega]
theorem pE: ∀ {a b c:List Int},Cg a b<0->Cg b c<0->Cg a c<0
 | [],[],_,h,_=>by simp [Cg] at h
 |_::_,[],_,h,_=>by simp [Cg] at h
 |_,_::_,[],_,h=>by simp [Cg] at h
 | [],_::_,_::_,_,_=>by simp [Cg]
 |x::a,y::b,z::c,h1,h2=>by
  simp only [Cg] at h1 h2⊢
  by_cases e1:x<y
  ·by_cases e2:y<z
   ·rw [if_pos (by omega)];omega
   ·rw [if_neg e2] at h2
    by_cases e3:y>z
    ·rw [if_pos e3] at h2;omega
    ·rw [if_pos (by omega)];omega
  ·rw [if_neg e1] at h1
   by_cases e2:x>y
   ·rw [if_pos e2] at h1;omega
   ·rw [if_neg e2] at h1
    by_cases e3:y<z
    ·rw [if_pos (by omega)];omega
    ·rw [if_neg e3] at h2
     by_cases e4:y>z
     ·rw [if_pos e4] at h2;omega
     ·rw [if_neg e4] at h2
      rw [if_neg (by omega),if_neg (by omega)]
      exact pE h1 h2
theorem lt_iff {a b:List Int} :Zx a b=true↔Cg a b<0:=decide_eq_true_iff
theorem CS {a b c:List Int} (h1:Zx a b=true) (h2:Zx b c=true):Zx a c=true:=lt_iff.2 (pE (lt_iff.1 h1) (lt_iff.1 h2))
theorem fv (a:List Int):Zx a a=false:=by
 have:Cg a a=0:=lZ.2 rfl
 unfold Zx;rw [this];rfl
theorem IW {a b:List Int} (h:Zx a b=false) (Ek:a≠b):Zx b a=true:=by
 rw [lt_iff,zH a b]
 have h1: ¬Cg a b<0:= λh'=>by rw [lt_iff.2 h'] at h;cases h
 have h2:Cg a b≠0:= λh'=>Ek (lZ.1 h')
 omega
theorem eC {α:Type} (q:α->Bool): ∀(l:List α),l.Pairwise (λi j=>q j=true->q i=true)-> ∀k (hk:k<l.length),k<(l.takeWhile q).length↔q l[k]=true
 | [],_,k,hk=>by simp at hk
 |a::l,h,k,hk=>by
  obtain ⟨h1,h2⟩:=List.pairwise_cons.1 h
  by_cases ha:q a=true
  ·rw [List.takeWhile_cons_of_pos ha]
   rcases k with _|k
   ·simpa using ha
   ·simp only [List.length_cons,List.getElem_cons_succ,Nat.add_lt_add_iff_right]
    exact eC q l h2 k (by simpa using hk)
  ·rw [List.takeWhile_cons_of_neg ha]
   simp only [List.length_nil,Nat.not_lt_zero,false_iff]
   rcases k with _|k
   ·exact ha
   ·simp only [List.getElem_cons_succ]
    exact λhq=>ha (h1 _ (List.getElem_mem _) hq)
theorem Ct.mI {m:Nat} {L:List (List Int)} {Hs:List Int} (h:Ct m L Hs):Hs.length=L.length:=by rw [h.perm.length_eq,Pn]
theorem Ct.idx {m:Nat} {L:List (List Int)} {Hs:List Int} (h:Ct m L Hs) {k:Nat} (hk:k<Hs.length):0<=Hs[k]/\Hs[k]<L.length:=Ih.1 (h.perm.mem_iff.1 (List.getElem_mem hk))
theorem Ct.Yt {m:Nat} {L:List (List Int)} {Hs:List Int} (h:Ct m L Hs) (s:List Int) {k:Nat} (hk:k<Hs.length):k<Cx L Hs s↔Zx (L.getD Hs[k].toNat []) s=true:=
 eC _ Hs (h.sorted.imp λiZ hj=>CS iZ hj) k hk
theorem AU (L:List (List Int)) (Hs s:List Int):Cx L Hs s<=Hs.length:=(List.takeWhile_sublist _).length_le
theorem Ct.inj {m:Nat} {L:List (List Int)} {Hs:List Int} (h:Ct m L Hs) {i j:Nat} (hi:i<L.length) (hj:j<L.length) (e:L[i]=L[j]):i=j:=by
 have mem: ∀i,i<L.length->(i:Int)∈Hs:= λi hi=>h.perm.mem_iff.2 (Ih.2 ⟨by omega,by omega⟩)
 obtain ⟨p,hp,ep⟩:=List.mem_iff_getElem.1 (mem i hi)
 obtain ⟨q,hq,eq⟩:=List.mem_iff_getElem.1 (mem j hj)
 have get: ∀i (hi:i<L.length),L.getD ((i:Int)).toNat []=L[i]:= λi hi=>by rw [Int.toNat_natCast,List.getD_eq_getElem?_getD,List.getElem?_eq_getElem hi];rfl
 rcases Nat.lt_trichotomy p q with h1|h1|h1
 ·have:=List.pairwise_iff_getElem.1 h.sorted p q hp hq h1
  rw [ep,eq,get i hi,get j hj,e,fv] at this
  cases this
 ·subst h1
  rw [ep] at eq
  omega
 ·have:=List.pairwise_iff_getElem.1 h.sorted q p hq hp h1
  rw [ep,eq,get i hi,get j hj,e,fv] at this
  cases this
theorem Oo {L:List (List Int)} {k:Nat} (h:k<L.length):L.getD k []=L[k]:=by rw [List.getD_eq_getElem?_getD,List.getElem?_eq_getElem h];rfl
theorem Ct.r7 {m:Nat} {L:List (List Int)} {Hs:List Int} (h:Ct m L Hs) {s:List Int} :
  (∃hk:Cx L Hs s<Hs.length,L.getD Hs[Cx L Hs s].toNat []=s/\aU L s=Hs[Cx L Hs s])\/(aU L s= -1/\ ∀hk:Cx L Hs s<Hs.length,L.getD Hs[Cx L Hs s].toNat []≠s):=by
 by_cases hm:s∈L
 ·left
  obtain ⟨j,hj,rfl⟩:=List.mem_iff_getElem.1 hm
  obtain ⟨p,hp,ep⟩:=List.mem_iff_getElem.1 (h.perm.mem_iff.2 (Ih.2 ⟨by omega,by omega⟩):(j:Int)∈Hs)
  have gj:L.getD Hs[p].toNat []=L[j]:=by rw [ep,Int.toNat_natCast,Oo hj]
  have hs:Cx L Hs L[j]=p:=by
   have h1: ¬p<Cx L Hs L[j]:= λh1=>by
    have:=(h.Yt L[j] hp).1 h1
    rw [gj,fv] at this;cases this
   have h2: ¬Cx L Hs L[j]<p:= λh2=>by
    have h3:=(h.Yt L[j] (k:=Cx L Hs L[j]) (by omega)).2 (by
     have:=List.pairwise_iff_getElem.1 h.sorted (Cx L Hs L[j]) p (by omega) hp h2
     rw [gj] at this;exact this)
    omega
   omega
  have hx:L.idxOf L[j]=j:=by
   have h1:L.idxOf L[j]<L.length:=List.idxOf_lt_length_of_mem hm
   exact h.inj h1 hj (List.getElem_idxOf h1)
  refine ⟨by omega,?_,?_⟩
  ·simp only [hs];exact gj
  ·unfold aU
   rw [if_pos hm,hx]
   simp only [hs];exact ep.symm
 ·right
  refine ⟨by unfold aU;rw [if_neg hm],λhk e=>hm ?_⟩
  have hi:=h.idx hk
  rw [Oo (by omega)] at e
  rw [<-e]
  exact List.getElem_mem _
theorem IJ (Hs:List Int) (k:Nat) (x:Int):(Pu Hs k x).Perm (x::Hs):=by
 unfold Pu
 refine List.perm_middle.trans (List.Perm.cons x ?_)
 rw [List.take_append_drop]
theorem Ct.add {m:Nat} {L:List (List Int)} {Hs s:List Int} (h:Ct m L Hs) (hn:s∉L) (hl:s.length=m) (hr:L.length<3000):Ct m (L++ [s]) (Pu Hs (Cx L Hs s) L.length):=by
 have uP: ∀i∈Hs,(L++ [s]).getD i.toNat []=L.getD i.toNat []:= λi hi=>by
  have:=Ih.1 (h.perm.mem_iff.1 hi)
  rw [List.getD_eq_getElem?_getD,List.getD_eq_getElem?_getD,List.getElem?_append_left (by omega)]
 have XS:(L++ [s]).getD ((L.length:Int)).toNat []=s:=by
  rw [Int.toNat_natCast,List.getD_eq_getElem?_getD,List.getElem?_append_right (by omega),Nat.sub_self];rfl
 refine ⟨by rw [List.length_append,List.length_singleton];omega,λx hx=>?_,h.short,?_,?_⟩
 ·rcases List.mem_append.1 hx with hx|hx
  ·exact h.len x hx
  ·rw [List.mem_singleton.1 hx];exact hl
 ·refine (IJ _ _ _).trans ?_
  rw [List.length_append,List.length_singleton,Yw]
  exact (List.Perm.cons _ h.perm).trans (List.perm_append_singleton _ _).symm
 ·unfold Pu
  have hs:=h.sorted
  rw [<-List.take_append_drop (Cx L Hs s) Hs] at hs
  obtain ⟨s1,s2,s3⟩:=List.pairwise_append.1 hs
  have mt: ∀i∈Hs.take (Cx L Hs s),i∈Hs/\Zx (L.getD i.toNat []) s=true:= λi hi=>by
   obtain ⟨k,hk,rfl⟩:=List.mem_iff_getElem.1 hi
   have hk2:k<Cx L Hs s:=by rw [List.length_take] at hk;omega
   have hk3:k<Hs.length:=by rw [List.length_take] at hk;omega
   rw [List.getElem_take]
   exact ⟨List.getElem_mem _,(h.Yt s hk3).1 hk2⟩
  have md: ∀i∈Hs.drop (Cx L Hs s),i∈Hs/\Zx s (L.getD i.toNat [])=true:= λi hi=>by
   obtain ⟨k,hk,rfl⟩:=List.mem_iff_getElem.1 hi
   rw [List.length_drop] at hk
   have hk3:Cx L Hs s+k<Hs.length:=by omega
   rw [List.getElem_drop]
   refine ⟨List.getElem_mem _,IW ?_ λe=>hn ?_⟩
   ·exact Bool.eq_false_iff.2 λhh=>by
     have:=(h.Yt s hk3).2 hh
     omega
   ·have hi:=h.idx hk3
    rw [Oo (by omega)] at e
    rw [<-e];exact List.getElem_mem _
  refine List.pairwise_append.2 ⟨s1.imp_of_mem λ {a b} ha hb og=>?_,List.pairwise_cons.2 ⟨λb hb=>?_,s2.imp_of_mem λ {a b} ha hb og=>?_⟩,λa ha b hb=>?_⟩
  ·rw [uP a (mt a ha).1,uP b (mt b hb).1];exact og
  ·rw [XS,uP b (md b hb).1];exact (md b hb).2
  ·rw [uP a (md a ha).1,uP b (md b hb).1];exact og
  ·rcases List.mem_cons.1 hb with rfl|hb
   ·rw [XS,uP a (mt a ha).1];exact (mt a ha).2
   ·rw [uP a (mt a ha).1,uP b (md b hb).1];exact s3 a ha b hb
theorem az (L:List (List Int)) (s:List Int):Sx (L++ [s])=Pu (Sx L) (Cx L (Sx L) s) L.length:=by
 unfold Sx
 rw [List.length_append,List.length_singleton,List.range_succ,List.foldl_append]
 have e: ∀(is:List Nat) (S:List Int),(∀i∈is,i<L.length)->is.foldl (λ(S:List Int) (i:Nat)=>Pu S (Cx ((L++ [s]).take i) S ((L++ [s]).getD i [])) (i:Int)) S=is.foldl (λ(S:List Int) (i:Nat)=>Pu S (Cx (L.take i) S (L.getD i [])) (i:Int)) S:=by
  intro is
  induction is with
  |nil=>intro S _;rfl
  |cons i is ih=>
   intro S h
   have hi:=h i (by simp)
   rw [List.foldl_cons,List.foldl_cons,ih _ λj hj=>h j (List.mem_cons_of_mem _ hj)]
   congr 2
   rw [List.take_append_of_le_length (by omega),List.getD_eq_getElem?_getD,List.getElem?_append_left hi,<-List.getD_eq_getElem?_getD]
 rw [e _ _ λi hi=>List.mem_range.1 hi]
 simp only [List.foldl_cons,List.foldl_nil]
 congr 2
 ·rw [List.take_append_of_le_length (Nat.le_refl _),List.take_length]
 ·rw [List.getD_eq_getElem?_getD,List.getElem?_append_right (by omega),Nat.sub_self];rfl
theorem hJ {m:Nat} (h:m<=20):Ct m [] []:=⟨by simp,λx hx=>(by cases hx),h,by simp [upto],List.Pairwise.nil⟩
theorem IH {α:Type} {xs:List α} {y:Int} (h0:0<=y) (h:y.toNat<xs.length):idx xs y=some xs[y.toNat]:=by
 unfold idx
 rw [if_pos h0,List.getElem?_eq_getElem h]
theorem VA (f:SS) (s:List Int) (h:Ct s.length f.1 f.2.2.1):fnW Cy (look [(144,Qx)]) au Try.f104 (f,s,()) (λ(z:Int)=>z=(Cx f.1 f.2.2.1 s:Int)):=by
 obtain ⟨L,D,Hs,b,⟨⟩⟩:=f
 dsimp only at h⊢
 have hle:=AU L Hs s
 have FY:=h.mI
 have uV:=h.o3
 refine Eq.mp (VZ (L,D,Hs,b,()) s _) ?_
 refine Bt.mk (λv=>v.2.2.1=L/\v.2.2.2.2.1=Hs/\ ∃lo hi:Nat,v.1=lo/\v.2.1=hi/\lo<=hi/\hi<=Hs.length/\lo<=Cx L Hs s/\Cx L Hs s<=hi) (λv=>(v.2.1-v.1).toNat)
  ⟨rfl,rfl,0,Hs.length,rfl,rfl,by omega,by omega,by omega,hle⟩ ?_
 rintro ⟨lo',fk,L',D',ER,b',⟨⟩⟩ ⟨h1,h2,lo,hi,h3,h4,h5,h6,h7,h8⟩
 dsimp only at h1 h2 h3 h4⊢
 subst h1 h2 h3 h4
 refine Br.dec (λhl=>?_) λhl=>?_
 ·have em:IntKind.i64.wrap ((IntKind.i64.wrap ((lo:Int)+(hi:Int))).tdiv 2)=(((lo+hi)/2:Nat):Int):=by
   rw [Bw (n:=(lo:Int)+(hi:Int)) (by omega) (by omega),Int.tdiv_eq_ediv_of_nonneg (by omega),Bw (by omega) (by omega)]
   omega
  rw [em]
  have RF:(lo+hi)/2<ER.length:=by omega
  have NI:=h.idx RF
  have NJ:ER[(lo+hi)/2].toNat<L'.length:=by omega
  have LW:=Oo NJ
  have hlen:=h.len _ (List.getElem_mem NJ)
  have FZ:short L'[ER[(lo+hi)/2].toNat]:=by
   unfold short
   have:=h.short;omega
  refine ⟨by decide,_,Av RF,_,IH NI.1 NJ,_,if_pos ⟨FZ,hlen⟩,⟨λhc=>?_,λhc=>?_⟩⟩
  ·have hc:Zx L'[ER[(lo+hi)/2].toNat] s=true:=hc
   have hs:=(h.Yt s RF).2 (by rw [LW];exact hc)
   rw [Ar (by omega)]
   exact ⟨⟨rfl,rfl,(lo+hi)/2+1,hi,rfl,rfl,by omega,h6,by omega,h8⟩,by omega⟩
  ·have hc:Zx L'[ER[(lo+hi)/2].toNat] s=false:=hc
   have hs: ¬(lo+hi)/2<Cx L' ER s:= λhh=>by
    have:=(h.Yt s RF).1 hh
    rw [LW,hc] at this;cases this
   exact ⟨⟨rfl,rfl,lo,(lo+hi)/2,rfl,rfl,by omega,by omega,h7,by omega⟩,by omega⟩
 ·show (lo:Int)=_
  omega
theorem nH:Sound Try.prog 104 au:=
 Sound.Di Bx (Ah nG Ao) mixed Try.func104 (by kernel_rfl) (by kernel_rfl) λx h=>VA x.1 x.2.1 h
theorem JN (f:SS) (s:List Int) (h:Ct s.length f.1 f.2.2.1):fnW Cy (look [(104,au),(105,Cu)]) Kg Try.f54 (f,s,()) (λ(z:Int)=>z=aU f.1 s):=by
 obtain ⟨L,D,Hs,b,⟨⟩⟩:=f
 dsimp only at h⊢
 refine Eq.mp (LL (L,D,Hs,b,()) s _) ⟨_,if_pos h,Br.dec (λhl=>?_) λhl=>?_⟩
 ·have hl:Cx L Hs s<Hs.length:=by
   have hl:((Cx L Hs s:Nat):Int)<(Hs.length:Int):=hl
   omega
  have NI:=h.idx hl
  have NJ:Hs[Cx L Hs s].toNat<L.length:=by omega
  have LW:=Oo NJ
  have hlen:=h.len _ (List.getElem_mem NJ)
  have FZ:short L[Hs[Cx L Hs s].toNat]:=by
   unfold short
   have:=h.short;omega
  refine ⟨_,Av hl,_,IH NI.1 NJ,_,if_pos FZ,⟨λhc=>⟨_,Av hl,?_⟩,λhc=>?_⟩⟩
  ·have hc:L[Hs[Cx L Hs s].toNat]=s:=of_decide_eq_true hc
   rcases h.r7 (s:=s) with ⟨hk,_,e⟩|⟨_,Ek⟩
   ·exact e.symm
   ·exact absurd (by rw [LW];exact hc) (Ek hl)
  ·have hc: ¬L[Hs[Cx L Hs s].toNat]=s:=of_decide_eq_false hc
   rcases h.r7 (s:=s) with ⟨hk,e,_⟩|⟨e,_⟩
   ·rw [LW] at e;exact absurd e hc
   ·exact e.symm
 ·have hl: ¬Cx L Hs s<Hs.length:=by
   have hl: ¬((Cx L Hs s:Nat):Int)<(Hs.length:Int):=hl
   omega
  rcases h.r7 (s:=s) with ⟨hk,e,_⟩|⟨e,_⟩
  ·exact absurd hk hl
  ·exact e.symm
theorem ay:Sound Try.prog 54 Kg:=
 Sound.Di Bx (Ah nH (Ah l5 Ao)) mixed Try.func54 (by kernel_rfl) (by kernel_rfl) λx h=>JN x.1 x.2.1 h
theorem ya {S:List Int} {k:Nat} (h:k<=S.length) (n:Int):
  (Bf (S++ [0]) (k+1) (List.take ((S++ [0]).length-(k+1)) (List.take ((S++ [0]).length-k) (List.drop k (S++ [0]))))).set k n=Pu S k n:=by
 obtain ⟨A,B,rfl,hA⟩: ∃A B,S=A++B/\A.length=k:=⟨S.take k,S.drop k,(List.take_append_drop k S).symm,by rw [List.length_take];omega⟩
 subst hA
 have e1:List.drop A.length (A++B++ [0])=B++ [0]:=by rw [List.append_assoc,List.drop_left]
 have e2:List.take ((A++B++ [0]).length-A.length) (B++ [0])=B++ [0]:=List.take_of_length_le (by simp only [List.length_append,List.length_singleton];omega)
 have e3:List.take ((A++B++ [0]).length-(A.length+1)) (B++ [0])=B:=by
  have:(A++B++ [(0:Int)]).length-(A.length+1)=B.length:=by simp only [List.length_append,List.length_singleton];omega
  rw [this,List.take_left]
 rw [e1,e2,e3]
 unfold Bf Pu
 have e4:List.drop (A.length+1+B.length) (A++B++ [0])= []:=List.drop_eq_nil_of_le (by simp only [List.length_append,List.length_singleton];omega)
 obtain ⟨c,hc⟩: ∃c,List.take (A.length+1) (A++B++ [0])=A++ [c]:=by
  rw [List.append_assoc,List.take_append,List.take_of_length_le (by omega)]
  cases B with
  |nil=>exact ⟨0,by simp⟩
  |cons b B=>exact ⟨b,by simp⟩
 rw [e4,hc,List.append_nil,List.append_assoc,List.singleton_append,OX,List.take_left,List.drop_left]
theorem UY (L:List (List Int)) (D S:List Int) (b:Bool) (s:List Int) (d:Int) (h:Ct s.length L S/\D.length<=3000):
  fnMW Xi (look [(104,au)]) fG Try.f149 (L,D,S,b,s,d,()) (λ(z:(List (List Int)×List Int×List Int×Bool×Unit)×Unit)=>z=((L++ [s],D++ [d],Pu S (Cx L S s) L.length,b,()),())):=by
 obtain ⟨h,hD⟩:=h
 have hle:=AU L S s
 have FY:=h.mI
 have uV:=h.o3
 refine Eq.mp (VX L D S b s d _) ?_
 rw [Bh L,Bh D,Bh S]
 refine ⟨_,if_pos h,?_⟩
 dsimp only
 have es:List.take 1 (List.drop 0 [(0:Int)])= [0]:=rfl
 have el:(S++ [(0:Int)]).length=S.length+1:=by simp
 rw [es,Ar (by omega),Nat.zero_add,Nat.zero_add,Int.toNat_natCast,Int.toNat_natCast,Int.toNat_natCast]
 refine ⟨rfl,rfl,by show S.length+1<=4294967296;omega,⟨by omega,by omega,by omega⟩,⟨by omega,by omega,by omega⟩,⟨by omega,by omega⟩,?_,rfl,rfl,by show L.length+1<=4294967296;omega,rfl,rfl,by show D.length+1<=4294967296;omega,?_⟩
 ·unfold Bf
  simp only [List.length_append,List.length_take,List.length_drop,List.length_singleton]
  omega
 ·rw [ya hle,Bh,Bh]
  have e5:List.take (S++ [(0:Int)]).length (List.drop 0 (Pu S (Cx L S s) (L.length:Int)))=Pu S (Cx L S s) (L.length:Int):=by
   rw [List.drop_zero,List.take_of_length_le]
   unfold Pu
   simp only [List.length_append,List.length_cons,List.length_take,List.length_drop,List.length_nil]
   omega
  rw [e5]
  rfl
theorem z9:Cd Try.prog 149 fG:=
 Cd.jf Vg (Ah nH Ao) mixed Try.func149 (by kernel_rfl) (by kernel_rfl) λx h=>UY x.1 x.2.1 x.2.2.1 x.2.2.2.1 x.2.2.2.2.1 x.2.2.2.2.2.1 h
structure Ok (p:PP) (m:Nat) (L:List (List Int)) (D:List Int):Prop where
 ok:Ct m L (Sx L)
 len:D.length=L.length
 row: ∀x∈L,∀y∈x,0<=y/\y<p.1
 dep: ∀j (h:j<D.length),0<=D[j]/\D[j]<=j
theorem lA {p:PP} (hv:Valid p) {x:List Int} {l:Int} (hx: ∀y∈x,0<=y/\y<p.1) (hl:Gt (List.length p.2.2.1) l):
  (Aa x (Af p.2.2.1 l)).length=x.length/\ ∀y∈Aa x (Af p.2.2.1 l),0<=y/\y<p.1:=by
 obtain ⟨h1,h2⟩:=j9 hv hl
 refine ⟨Np _ _,λy hy=>?_⟩
 have:=uu (n:=(Af p.2.2.1 l).length) (λz hz=>by have:=hx z hz;omega) h2 y hy
 omega
theorem Ok.add {p:PP} {m:Nat} {L:List (List Int)} {D:List Int} (h:Ok p m L D) {y:List Int} {d:Int} (hn:y∉L) (hl:y.length=m) (hr:L.length<3000) (hy: ∀z∈y,0<=z/\z<p.1) (hd:0<=d/\d<=L.length):Ok p m (L++ [y]) (D++ [d]):=by
 have hlen:=h.len
 refine ⟨by rw [az];exact h.ok.add hn hl hr,by simp [hlen],λx hx=>?_,λj hj=>?_⟩
 ·rcases List.mem_append.1 hx with hx|hx
  ·exact h.row x hx
  ·rw [List.mem_singleton.1 hx];exact hy
 ·by_cases e:j<D.length
  ·rw [List.getElem_append_left e];exact h.dep j e
  ·simp only [List.length_append,List.length_singleton] at hj
   have:j=D.length:=by omega
   subst this
   rw [List.getElem_append_right (by omega)]
   simp only [Nat.sub_self,List.getElem_cons_zero]
   omega
theorem df {p:PP} {s:List Int} (hs:s.length<=20) (hr: ∀y∈s,0<=y/\y<p.1):Ok p s.length [s] [0]:=by
 refine ⟨?_,rfl,λx hx=>by rw [List.mem_singleton.1 hx];exact hr,λj hj=>?_⟩
 ·have:=(hJ hs).add (s:=s) (by simp) rfl (by simp)
  have e:Sx [s]=Pu [] (Cx [] [] s) 0:=az [] s
  rw [e];exact this
 ·simp only [List.length_singleton] at hj
  have:j=0:=by omega
  subst this
  simp
theorem qa {L:List (List Int)} {s:List Int} :aU L s>=0↔s∈L:=by
 unfold aU
 split
 ·rename_i h;exact ⟨λ_=>h,λ_=>by omega⟩
 ·rename_i h;exact ⟨λhh=>by omega,λhh=>absurd hh h⟩
theorem OR (p:PP) (s:List Int) (h:Bd p=true/\s.length<=20/\ ∀y∈s,0<=y/\y<p.1):fnW VQ (look [(123,Qs),(149,fG),(96,Ij),(115,Pe),(54,Kg)]) Da Try.f112 (p,s,()) (λ(z:SS)=>z=Dc p.2.2.1 s):=by
 obtain ⟨hv,hs,hr⟩:=h
 have hV:=valid hv
 have uV:=hV.o3
 have SQ:=df hs hr
 have FZ:short s:=by unfold short;omega
 obtain ⟨ls,kb⟩: ∃ls,Ag (List.length p.2.2.1)=ls:=⟨_,rfl⟩
 refine Eq.mp (PV p s _) ⟨_,if_pos FZ,_,if_pos ⟨hJ hs,by show 0<=3000;omega⟩,ls,(if_pos (by show List.length p.2.2.1<=8;exact uV.2)).trans (congrArg some kb),rfl,rfl,rfl,rfl,rfl,rfl,rfl,rfl,rfl,rfl,rfl,rfl,?_⟩
 have e0:Pu [] (Cx [] [] s) ((([]:List (List Int)).length:Nat):Int)=Sx [s]:=(az [] s).symm
 show Bt _ ((0:Int),p.1,p.2.1,p.2.2.1,false,false,[],[],[],[s],[(0:Int)],Pu [] (Cx [] [] s) ((([]:List (List Int)).length:Nat):Int),PUnit.unit)
 rw [e0]
 have MA:ls.length<=16:=by rw [<-kb,Kl];omega
 have j0: ∀l∈ls,Gt (List.length p.2.2.1) l:= λl hl=>Jq (kb▸hl)
 have xX:Gi p.2.2.1 ls 3001 0 [s] [0]=Dl p.2.2.1 s:=by unfold Dl;rw [kb]
 refine Bt.mk (λv=>v.2.1=p.1/\v.2.2.1=p.2.1/\v.2.2.2.1=p.2.2.1/\v.2.2.2.2.2.1=false/\ ∃k:Nat,v.1=k/\k<=v.2.2.2.2.2.2.2.2.2.1.length/\
   Ok p s.length v.2.2.2.2.2.2.2.2.2.1 v.2.2.2.2.2.2.2.2.2.2.1/\v.2.2.2.2.2.2.2.2.2.2.2.1=Sx v.2.2.2.2.2.2.2.2.2.1/\
   Gi p.2.2.1 ls (3001-k) k v.2.2.2.2.2.2.2.2.2.1 v.2.2.2.2.2.2.2.2.2.2.1=Dl p.2.2.1 s) (λv=>3001-v.1.toNat)
  ⟨rfl,rfl,rfl,rfl,0,rfl,by simp,SQ,rfl,xX⟩ ?_
 rintro ⟨k',n1,n2,n3,b0,wh,x1,x2,x3,L0,D0,S0,⟨⟩⟩ ⟨h1,h2,h3,h4,k,h5,h6,h7,h8,h9⟩
 dsimp only at h1 h2 h3 h4 h5 h6 h7 h8 h9
 subst h1 h2 h3 h4 h5 h8
 dsimp only
 have hL0:=h7.ok.o3
 have hD0:=h7.len
 refine Br.dec (λhl=>⟨rfl,rfl,rfl,rfl,rfl,rfl,rfl,rfl,rfl,rfl,rfl,rfl,?_⟩) λhl=>?_
 ·have hk:k<L0.length:=by omega
  have BX:k<D0.length:=by omega
  have hx: ∀y∈L0[k],0<=y/\y<p.1:=h7.row _ (List.getElem_mem hk)
  have NY:L0[k].length=s.length:=h7.ok.len _ (List.getElem_mem hk)
  have hdk:=h7.dep k BX
  obtain ⟨f,hf⟩: ∃f,3001-k=f+1:=⟨3000-k,by omega⟩
  have YQ: ∀L' D' ok,Ep p.2.2.1 L0[k] D0[k] ls L0 D0=(L',D',ok)->Dl p.2.2.1 s=if ok=true then Gi p.2.2.1 ls f (k+1) L' D' else (L',D',false):=by
   intro L' D' ok he
   rw [<-h9,hf,Gi,if_pos hk,Oo hk,List.getD_eq_getElem?_getD,List.getElem?_eq_getElem BX]
   simp only [Option.getD_some]
   rw [he]
   cases ok<;>rfl
  refine Bt.mk (λv=>v.2.1=p.1/\v.2.2.1=p.2.1/\v.2.2.2.1=p.2.2.1/\v.2.2.2.2.2.1=false/\ ∃i:Nat,v.1=i/\i<=ls.length/\Ok p s.length v.2.2.2.2.2.2.2.2.2.1 v.2.2.2.2.2.2.2.2.2.2.1/\
    v.2.2.2.2.2.2.2.2.2.2.2.1=Sx v.2.2.2.2.2.2.2.2.2.1/\(∃A,v.2.2.2.2.2.2.2.2.2.1=L0++A)/\(∃A,v.2.2.2.2.2.2.2.2.2.2.1=D0++A)/\
    Ep p.2.2.1 L0[k] D0[k] (ls.drop i) v.2.2.2.2.2.2.2.2.2.1 v.2.2.2.2.2.2.2.2.2.2.1=Ep p.2.2.1 L0[k] D0[k] ls L0 D0) (λv=>ls.length-v.1.toNat)
   ⟨rfl,rfl,rfl,rfl,0,rfl,Nat.zero_le _,h7,rfl,⟨[],by simp⟩,⟨[],by simp⟩,rfl⟩ ?_
  rintro ⟨i',m1,m2,m3,b1,wh1,y1,y2,y3,L,D,S,⟨⟩⟩ ⟨g1,g2,g3,g4,i,g5,g6,g7,g8,⟨A,g9⟩,⟨A',g10⟩,FU⟩
  dsimp only at g1 g2 g3 g4 g5 g6 g7 g8 g9 g10 FU
  subst g1 g2 g3 g4 g5 g8
  dsimp only
  have hLf:=g7.ok.o3
  have QM:=g7.len
  rw [Bh L,Bh D,Bh (Sx L)]
  refine Br.dec (λhli=>?_) λhli=>?_
  ·have hi:i<ls.length:=by omega
   have QY:k<L.length:=by rw [g9,List.length_append];omega
   have hLk:L[k]=L0[k]:=by simp only [g9];exact List.getElem_append_left hk
   have TI:k<D.length:=by rw [QM];exact QY
   have hDk:D[k]=D0[k]:=by simp only [g10];exact List.getElem_append_left BX
   have xR:=j0 _ (List.getElem_mem hi)
   obtain ⟨nl,nr⟩:=lA hV hx xR
   rw [List.drop_eq_getElem_cons hi] at FU
   simp only [Ep] at FU
   refine ⟨⟨by omega,by omega⟩,L0[k],by rw [Int.toNat_natCast,Nat.zero_add,List.getElem?_eq_getElem QY,hLk],_,Av hi,_,if_pos ⟨hv,by show L0[k].length<=20;omega,hx,xR⟩,?_⟩
   dsimp only
   have hyl:(Aa L0[k] (Af p.2.2.1 ls[i])).length=s.length:=by rw [nl,NY]
   refine ⟨_,if_pos (by show Ct (Aa L0[k] (Af p.2.2.1 ls[i])).length L (Sx L);rw [hyl];exact g7.ok),Br.dec (λQg=>?_) λQg=>?_⟩
   ·have Qg:Aa L0[k] (Af p.2.2.1 ls[i])∈L:=qa.1 Qg
    rw [if_pos Qg] at FU
    rw [Ar (by omega)]
    exact ⟨rfl,rfl,rfl,rfl,rfl,rfl,rfl,rfl,rfl,rfl,rfl,rfl,⟨rfl,rfl,rfl,rfl,i+1,rfl,hi,g7,rfl,⟨A,g9⟩,⟨A',g10⟩,FU⟩,by omega⟩
   ·have Qg:Aa L0[k] (Af p.2.2.1 ls[i])∉L:= λhh=>Qg (qa.2 hh)
    rw [if_neg Qg] at FU
    refine ⟨λe8=>?_,λe8=>⟨⟨by omega,by omega⟩,D0[k],by rw [Int.toNat_natCast,Nat.zero_add,List.getElem?_eq_getElem TI,hDk],rfl,rfl,rfl,rfl,rfl,rfl,?_⟩⟩
    ·have e8:L.length=3000:=by
      have:(L.length:Int)=3000:=by simpa using e8
      omega
     rw [if_pos e8] at FU
     have:=YQ _ _ _ FU.symm
     rw [if_neg (by decide)] at this
     unfold Dc
     rw [this]
    ·have e8:L.length≠3000:=by
      have:(L.length:Int)≠3000:=by simpa using e8
      omega
     rw [if_neg e8] at FU
     rw [Bw (n:=D0[k]+1) (by omega) (by omega)]
     refine ⟨_,if_pos ⟨by show Ct (Aa L0[k] (Af p.2.2.1 ls[i])).length L (Sx L);rw [hyl];exact g7.ok,by show D.length<=3000;omega⟩,?_⟩
     dsimp only
     rw [Ar (by omega),<-az]
     refine ⟨rfl,rfl,rfl,rfl,rfl,rfl,rfl,rfl,rfl,rfl,rfl,rfl,⟨rfl,rfl,rfl,rfl,i+1,rfl,hi,g7.add Qg hyl (by omega) nr ⟨by omega,by omega⟩,rfl,⟨A++ [Aa L0[k] (Af p.2.2.1 ls[i])],by rw [g9,List.append_assoc]⟩,⟨A'++ [D0[k]+1],by rw [g10,List.append_assoc]⟩,FU⟩,by omega⟩
  ·have:i=ls.length:=by omega
   subst this
   rw [List.drop_length,Ep] at FU
   have:=YQ _ _ _ FU.symm
   rw [if_pos rfl] at this
   rw [Ar (by omega)]
   refine ⟨rfl,rfl,rfl,rfl,rfl,rfl,rfl,rfl,rfl,rfl,rfl,rfl,⟨rfl,rfl,rfl,rfl,k+1,rfl,by rw [g9,List.length_append];omega,g7,rfl,?_⟩,by omega⟩
   rw [show 3001-(k+1)=f by omega]
   exact this.symm
 ·have hk:k=L0.length:=by omega
  rw [Bh L0,Bh D0,Bh (Sx L0)]
  obtain ⟨f,hf⟩: ∃f,3001-k=f+1:=⟨3000-k,by omega⟩
  rw [hf,Gi,if_neg (by omega)] at h9
  unfold Dc
  rw [<-h9]
theorem kE:Sound Try.prog 112 Da:=
 Sound.Di VR (Ah nA (Hg z9 (Ah bb (Ah ia (Ah ay Ao))))) mixed Try.func112 (by kernel_rfl) (by kernel_rfl) λx h=>OR x.1 x.2.1 h
end Go.Proofs.Ytjbdmibbbpdnnaa

namespace Go.Proofs.Ytjbdmibbbpdnnaa
open Go.RowKit
noncomputable def Cm (p:PP) (t:List Int):Bool:=Bd p&&Gd p.1 t
noncomputable abbrev Ly:Spec:=Di (.pair Dn (.pair tL .unit)) .bool false true (λx=>Dt x.1/\short x.2.1) (λx=>Cm x.1 x.2.1)
theorem px (p:Int×ByteArray×List (List Int)×Unit) (t:List Int) (P:Bool->Prop):(∃(y3:Bool),Fm.fn ((p.1,p.2.1,p.2.2.1,()),())=some y3/\Br y3 (∃(y4:Bool),Ff.fn (p.1,t,())=some y4/\P y4) (P false))=fnW Cy (look [(110,Fm),(111,Ff)]) Ly Try.f62 (p,t,()) P:=by kernel_rfl
theorem fW {p:PP} (hV:Valid p) {m:Nat} {x:List Int} {d:Int} (hx: ∀y∈x,0<=y/\y<p.1) (NY:x.length=m): ∀(ls:List Int) (L:List (List Int)) (D:List Int),(∀l∈ls,Gt (List.length p.2.2.1) l)->
  Ok p m L D->(0<=d/\d<L.length)->Ok p m (Ep p.2.2.1 x d ls L D).1 (Ep p.2.2.1 x d ls L D).2.1/\(∃A,(Ep p.2.2.1 x d ls L D).1=L++A)/\(∃A,(Ep p.2.2.1 x d ls L D).2.1=D++A)
 | [],L,D,_,h,_=>⟨h,⟨[],by simp [Ep]⟩,⟨[],by simp [Ep]⟩⟩
 |l::ls,L,D,hl,h,hd=>by
  obtain ⟨n1,n2⟩:=lA hV hx (hl l (by simp))
  have Ha: ∀l∈ls,Gt (List.length p.2.2.1) l:= λl' h'=>hl l' (List.mem_cons_of_mem _ h')
  simp only [Ep]
  split
  ·exact fW hV hx NY ls L D Ha h hd
  ·rename_i hn
   split
   ·exact ⟨h,⟨[],by simp⟩,⟨[],by simp⟩⟩
   ·rename_i hf
    have uV:=h.ok.o3
    obtain ⟨k1,⟨A,k2⟩,⟨A',k3⟩⟩:=fW hV hx NY ls (L++ [Aa x (Af p.2.2.1 l)]) (D++ [d+1]) Ha (h.add hn (by rw [n1,NY]) (by omega) n2 ⟨by omega,by omega⟩) ⟨hd.1,by rw [List.length_append];omega⟩
    exact ⟨k1,⟨_::A,by rw [k2,List.append_assoc];rfl⟩,⟨_::A',by rw [k3,List.append_assoc];rfl⟩⟩
theorem ug {p:PP} (hV:Valid p) {m:Nat} {ls:List Int} (hl: ∀l∈ls,Gt (List.length p.2.2.1) l): ∀(f k:Nat) (L:List (List Int)) (D:List Int),Ok p m L D->
  Ok p m (Gi p.2.2.1 ls f k L D).1 (Gi p.2.2.1 ls f k L D).2.1/\(∃A,(Gi p.2.2.1 ls f k L D).1=L++A)
 |0,k,L,D,h=>⟨h,⟨[],by simp [Gi]⟩⟩
 |f+1,k,L,D,h=>by
  simp only [Gi]
  split
  ·rename_i hk
   have BX:k<D.length:=by rw [h.len];exact hk
   have hd:=h.dep k BX
   have e:D.getD k 0=D[k]:=by rw [List.getD_eq_getElem?_getD,List.getElem?_eq_getElem BX];rfl
   rw [Oo hk,e]
   obtain ⟨k1,⟨A,k2⟩,_⟩:=fW hV (h.row _ (List.getElem_mem hk)) (h.ok.len _ (List.getElem_mem hk)) (d:=D[k]) ls L D hl h ⟨by omega,by omega⟩
   split
   ·rename_i L' D' he
    rw [he] at k1 k2
    obtain ⟨g1,⟨B,g2⟩⟩:=ug hV hl f (k+1) L' D' k1
    have k2:L'=L++A:=k2
    exact ⟨g1,⟨A++B,by rw [g2,k2,List.append_assoc]⟩⟩
   ·rename_i L' D' he
    rw [he] at k1 k2
    exact ⟨k1,⟨A,k2⟩⟩
  ·exact ⟨h,⟨[],by simp⟩⟩
theorem r9 {p:PP} {s:List Int} (hv:Bd p=true) (hs:s.length<=20) (hr: ∀y∈s,0<=y/\y<p.1):Ok p s.length (Dl p.2.2.1 s).1 (Dl p.2.2.1 s).2.1/\ ∃A,(Dl p.2.2.1 s).1=s::A:=
 ug (valid hv) (λ_ hl=>Jq hl) _ _ _ _ (df hs hr)
theorem Ik {p:PP} {t:List Int} :Cm p t=true↔Bd p=true/\Gd p.1 t=true:=by
 unfold Cm;rw [Bool.and_eq_true]
theorem Fg {p:PP} {t:List Int} (h:Cm p t=true):t.length<=20/\ ∀y∈t,0<=y/\y<p.1:=by
 obtain ⟨h1,h2⟩:=Ik.1 h
 have hn:=(valid h1).n
 obtain ⟨h3,h4⟩:=Fw.1 h2
 have hy: ∀y∈t,0<=y/\y<p.1:= λy hy=>by
  obtain ⟨j,hj,rfl⟩:=List.mem_iff_getElem.1 hy
  have:=h4 j hj hj
  omega
 refine ⟨?_,hy⟩
 have h5:=yH h4 (t.length-1) (by omega)
 have h6:=hy _ (List.getElem_mem (show t.length-1<t.length by omega))
 omega
theorem nc {p:PP} {t:List Int} (h:Cm p t=true):Ok p t.length (Dl p.2.2.1 t).1 (Dl p.2.2.1 t).2.1:=(r9 (Ik.1 h).1 (Fg h).1 (Fg h).2).1
theorem oQ (p:PP) (t:List Int) (h:Dt p/\short t):fnW Cy (look [(110,Fm),(111,Ff)]) Ly Try.f62 (p,t,()) (λ(z:Bool)=>z=Cm p t):=by
 refine Eq.mp (px p t _) ⟨_,if_pos h.1,⟨λhv=>?_,λhv=>?_⟩⟩
 ·have hv:Bd p=true:=hv
  have hn:=(valid hv).n
  refine ⟨_,if_pos ⟨⟨by show 0<=p.1;omega,by show p.1<=4294967296;omega⟩,h.2⟩,?_⟩
  unfold Cm;rw [hv];rfl
 ·have hv:Bd p=false:=hv
  unfold Cm;rw [hv];rfl
theorem ij:Sound Try.prog 62 Ly:=
 Sound.Di Bx (Ah Ra (Ah ic Ao)) mixed Try.func62 (by kernel_rfl) (by kernel_rfl) λx h=>oQ x.1 x.2.1 h
def xk (m:ByteArray->Option Bool) (L:List (List Int)):Prop:= ∀q,Pr q->(m (Mc q)).getD false=decide (q∈L)
theorem xk.add {m:ByteArray->Option Bool} {L:List (List Int)} {y:List Int} (h:xk m L) (hy:Pr y):xk (aE m (Mc y) true) (L++ [y]):=by
 intro q hq
 unfold aE
 by_cases e:q=y
 ·subst e
  rw [if_pos rfl];simp
 ·rw [if_neg λhk=>e (key_inj hq hy hk),h q hq]
  simp [e]
end Go.Proofs.Ytjbdmibbbpdnnaa
