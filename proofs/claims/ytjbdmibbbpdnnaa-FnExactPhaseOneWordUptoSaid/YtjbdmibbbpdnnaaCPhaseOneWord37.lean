/-
  Part 38 of the proof that the statement FnExactPhaseOneWord holds.
-/
import Derived.Test.YtjbdmibbbpdnnaaCPhaseOneWord36
import Derived.KernelRfl
namespace Go.Proofs.Ytjbdmibbbpdnnaa
open Go.RowKit
def Hf (x a b:Int):Bool:=decide (a<=x/\x<=b)
def dB (n x:Int):Bool:=decide (0<=x/\x<=IntKind.i64.wrap (n-1))
def Ik (a b:List Int):Bool:=decide (a=b)
def eA (xs:List Int) (x:Int):Bool:=decide (x∈xs)
def short (xs:List Int):Prop:=xs.length<=4294967296
noncomputable abbrev Bn:Spec:=Di (.pair tI (.pair tI (.pair tI .unit))) .bool false true (λ_=>True) (λx=>Hf x.1 x.2.1 x.2.2.1)
noncomputable abbrev Ue:Spec:=Di (.pair tI (.pair tI .unit)) .bool false true (λ_=>True) (λx=>dB x.1 x.2.1)
noncomputable abbrev Ct:Spec:=Di (.pair tL (.pair tL .unit)) .bool false true (λx=>short x.1) (λx=>Ik x.1 x.2.1)
noncomputable abbrev Kp:Spec:=Di (.pair tL (.pair tI .unit)) .bool false true (λx=>short x.1) (λx=>eA x.1 x.2.1)
theorem FY (x a b:Int) (P:Bool->Prop):(Br (decide (x>=a)) (P (decide (x<=b))) (P false))=fnW Da (look []) Bn Try.f93 (x,a,b,()) P:=by kernel_rfl
theorem MF (x a b:Int) (P:Bool->Prop):(Br (decide (x>=a)) (P (decide (x<=b))) (P false))=fnW Da (look []) Bn Try.f97 (x,a,b,()) P:=by kernel_rfl
theorem GA (n x:Int) (P:Bool->Prop):(∃(y3:Bool),Bn.fn (x,0,IntKind.i64.wrap (n-1),())=some y3/\P y3)=fnW Da (look [(97,Bn)]) Ue Try.f116 (n,x,()) P:=by kernel_rfl
theorem xk (a b:List Int) (P:Bool->Prop):(Br ((↑a.length:Int) !=(↑b.length:Int)) (P false) (Bs (λ(v3:Int×PUnit) (k4:Int×PUnit->Prop)=>Br (decide (v3.1<(↑a.length:Int))) (∃(y5:Int),idx a v3.1=some y5/\ ∃(y6:Int),idx b v3.1=some y6/\Br (y5 !=y6) (P false) (k4 (IntKind.i64.wrap (v3.1+1),()))) (P true)) (0,PUnit.unit)))=fnW Da (look []) Ct Try.f105 (a,b,()) P:=by kernel_rfl
theorem pO (xs:List Int) (x:Int) (P:Bool->Prop):(Bs (λ(v3:Int×PUnit) (k4:Int×PUnit->Prop)=>Br (decide (v3.1<(↑xs.length:Int))) (∃(y5:Int),idx xs v3.1=some y5/\Br (y5==x) (P true) (k4 (IntKind.i64.wrap (v3.1+1),()))) (P false)) (0,PUnit.unit))=fnW Da (look []) Kp Try.f153 (xs,x,()) P:=by kernel_rfl
theorem ED (x a b:Int) (_:True):fnW Da (look []) Bn Try.f93 (x,a,b,()) (λ(z:Bool)=>z=Hf x a b):=by
 refine Eq.mp (FY x a b _) ?_
 refine Br.dec (λh=>?_) λh=>?_
 ·have h:a<=x:=h
  simp [Hf,h]
 ·exact (decide_eq_false λhh=>h hh.1).symm
theorem Xf:Sound Try.prog 93 Bn:=
 Sound.Di Cb At mixed Try.func93 (by kernel_rfl) (by kernel_rfl) λx h=>ED x.1 x.2.1 x.2.2.1 h
theorem KF (x a b:Int) (_:True):fnW Da (look []) Bn Try.f97 (x,a,b,()) (λ(z:Bool)=>z=Hf x a b):=by
 refine Eq.mp (MF x a b _) ?_
 refine Br.dec (λh=>?_) λh=>?_
 ·have h:a<=x:=h
  simp [Hf,h]
 ·exact (decide_eq_false λhh=>h hh.1).symm
theorem Pp:Sound Try.prog 97 Bn:=
 Sound.Di Cb At mixed Try.func97 (by kernel_rfl) (by kernel_rfl) λx h=>KF x.1 x.2.1 x.2.2.1 h
theorem EF (n x:Int) (_:True):fnW Da (look [(97,Bn)]) Ue Try.f116 (n,x,()) (λ(z:Bool)=>z=dB n x):=
 Eq.mp (GA n x _) ⟨_,if_pos trivial,rfl⟩
theorem pF:Sound Try.prog 116 Ue:=
 Sound.Di Cb (Ah Pp At) mixed Try.func116 (by kernel_rfl) (by kernel_rfl) λx h=>EF x.1 x.2.1 h
theorem pc (xs:List Int) (x:Int) (h:short xs):fnW Da (look []) Kp Try.f153 (xs,x,()) (λ(z:Bool)=>z=eA xs x):=by
 refine Eq.mp (pO xs x _) ?_
 unfold short at h
 refine Aq xs.length (λv=>v.1) (λj _=>x∉xs.take j) rfl (by simp) ?_
 rintro j ⟨i,⟨⟩⟩ K hj hi hR hK
 dsimp only at hi⊢
 subst hi
 refine Br.dec (λhl=>?_) λhl=>?_
 ·have hl:j<xs.length:=by omega
  refine ⟨_,Av hl,⟨λhe=>?_,λhe=>?_⟩⟩
  ·have hm:=List.getElem_mem hl
   simp only [beq_iff_eq] at he
   rw [he] at hm
   exact (decide_eq_true hm).symm
  ·rw [Ao (by omega)]
   refine hK hl _ rfl ?_
   simp only [beq_eq_false_iff_ne,ne_eq] at he
   rw [List.take_succ_eq_append_getElem hl]
   simp only [List.mem_append,List.mem_singleton,not_or]
   exact ⟨hR,λhx=>he hx.symm⟩
 ·have:j=xs.length:=by omega
  subst this
  rw [List.take_length] at hR
  exact (decide_eq_false hR).symm
theorem iB:Sound Try.prog 153 Kp:=
 Sound.Di Cb At mixed Try.func153 (by kernel_rfl) (by kernel_rfl) λx h=>pc x.1 x.2.1 h
theorem AH (a b:List Int) (hlen:a.length=b.length) (h:short a):
  Bs (λ(v3:Int×PUnit) (k4:Int×PUnit->Prop)=>
   Br (decide (v3.1<(↑a.length:Int))) (∃(y5:Int),idx a v3.1=some y5/\ ∃(y6:Int),idx b v3.1=some y6/\Br (y5 !=y6) (false=Ik a b) (k4 (IntKind.i64.wrap (v3.1+1),())))
    (true=Ik a b))
  (0,PUnit.unit):=by
 unfold short at h
 refine Aq a.length (λv=>v.1) (λj _=>a.take j=b.take j) rfl (by simp) ?_
 rintro j ⟨i,⟨⟩⟩ K hj hi hR hK
 dsimp only at hi⊢
 subst hi
 refine Br.dec (λhl=>?_) λhl=>?_
 ·have vI:j<a.length:=by omega
  have OE:j<b.length:=by omega
  refine ⟨_,Av vI,_,Av OE,⟨λhe=>?_,λhe=>?_⟩⟩
  ·simp only [bne_iff_ne,ne_eq] at he
   refine (decide_eq_false λoM=>he ?_).symm
   subst oM
   rfl
  ·rw [Ao (by omega)]
   refine hK vI _ rfl ?_
   simp only [bne_eq_false_iff_eq] at he
   rw [List.take_succ_eq_append_getElem vI,List.take_succ_eq_append_getElem OE,hR,he]
 ·have s7:j=a.length:=by omega
  subst s7
  rw [List.take_length,hlen,List.take_length] at hR
  exact (decide_eq_true hR).symm
theorem wB (a b:List Int) (h:short a):fnW Da (look []) Ct Try.f105 (a,b,()) (λ(z:Bool)=>z=Ik a b):=by
 refine Eq.mp (xk a b _) ⟨λhl=>?_,λhl=>?_⟩
 ·simp only [bne_iff_ne,ne_eq,Int.natCast_inj] at hl
  exact (decide_eq_false λoM=>hl (by rw [oM])).symm
 ·simp only [bne_eq_false_iff_eq,Int.natCast_inj] at hl
  exact AH a b hl h
theorem ll:Sound Try.prog 105 Ct:=
 Sound.Di Cb At mixed Try.func105 (by kernel_rfl) (by kernel_rfl) λx h=>wB x.1 x.2.1 h
end Go.Proofs.Ytjbdmibbbpdnnaa

namespace Go.Proofs.Ytjbdmibbbpdnnaa
open Go.RowKit
def Ge (xs:List (List Int)):Prop:=xs.length<=4294967296/\ ∀r∈xs,short r
def roomy (room:Int):Prop:=0<=room/\room<=4294967296
def jo (n:Nat) (room:Int):Int:=if room-n<0 then-1 else room-n
def ie (xs:List Int) (room:Int):Int:=jo xs.length room
def x8:List (List Int)->Int->Int
 | [],room=>room
 |r::rs,room=>if ie r room<0 then-1 else x8 rs (ie r room)
def Xa (xs:List (List Int)) (room:Int):Int:=if jo xs.length room<0 then-1 else x8 xs (jo xs.length room)
def jn (a b:List (List Int)):Bool:=decide (a=b)
noncomputable abbrev qY:Spec:=Di (.pair tL (.pair tI .unit)) tI false true (λx=>short x.1/\roomy x.2.1) (λx=>ie x.1 x.2.1)
noncomputable abbrev jJ:Spec:=Di (.pair iS (.pair tI .unit)) tI false true (λx=>Ge x.1/\roomy x.2.1) (λx=>Xa x.1 x.2.1)
noncomputable abbrev kP:Spec:=Di (.pair tL .unit) tL false true (λx=>short x.1) (λx=>x.1)
noncomputable abbrev jK:Spec:=Di (.pair iS .unit) iS false true (λx=>Ge x.1) (λx=>x.1)
noncomputable abbrev jG:Spec:=Di (.pair iS (.pair iS .unit)) .bool false true (λx=>Ge x.1) (λx=>jn x.1 x.2.1)
theorem Ac2 (xs:List Int) (room:Int) (P:Int->Prop):(Br (decide (IntKind.i64.wrap (room-(↑xs.length:Int))<0)) (P (-1)) (P (IntKind.i64.wrap (room-(↑xs.length:Int)))))=fnW Da (look []) qY Try.f74 (xs,room,()) P:=by kernel_rfl
theorem WX (xs:List (List Int)) (room:Int) (P:Int->Prop):(Br (decide (IntKind.i64.wrap (room-(↑xs.length:Int))<0)) (P (-1)) (Bs (λ(v3:Int×Int×PUnit) (k4:Int×Int×PUnit->Prop)=>Br (decide (v3.2.1<(↑xs.length:Int))) (∃(y5:List Int),idx xs v3.2.1=some y5/\ ∃(y6:Int),qY.fn (y5,v3.1,())=some y6/\Br (decide (y6<0)) (P (-1)) (k4 (y6,IntKind.i64.wrap (v3.2.1+1),()))) (P v3.1)) (IntKind.i64.wrap (room-(↑xs.length:Int)),0,PUnit.unit)))=fnW Da (look [(74,qY)]) jJ Try.f34 (xs,room,()) P:=by kernel_rfl
theorem Ac4 (xs:List Int) (P:List Int->Prop):((0<=(↑xs.length:Int)/\(↑xs.length:Int)<(↑Bj:Int)+1)/\(↑xs.length:Int)=(↑xs.length:Int)/\0=0/\(List.replicate (↑xs.length:Int).toNat (Int.ofNat 0)).length=(List.replicate (↑xs.length:Int).toNat (Int.ofNat 0)).length/\Bs (λ(v2:Int×List Int×PUnit) (k3:Int×List Int×PUnit->Prop)=>Br (decide (v2.1<(↑xs.length:Int))) (∃(y4:Int),idx xs v2.1=some y4/\(0<=v2.1/\v2.1<(↑v2.2.1.length:Int))/\0+v2.1.toNat<v2.2.1.length/\0=0/\v2.2.1.length=(v2.2.1.set (0+v2.1.toNat) y4).length/\k3 (IntKind.i64.wrap (v2.1+1),v2.2.1.set (0+v2.1.toNat) y4,())) (P (List.take v2.2.1.length (List.drop 0 v2.2.1)))) (0,List.replicate (↑xs.length:Int).toNat (Int.ofNat 0),PUnit.unit))=fnW Da (look []) kP Try.f17 (xs,()) P:=by kernel_rfl
theorem WY (xs:List (List Int)) (P:List (List Int)->Prop):((0<=(↑xs.length:Int)/\(↑xs.length:Int)<(↑Bj:Int)+1)/\(↑xs.length:Int)=(↑xs.length:Int)/\0=0/\(List.replicate (↑xs.length:Int).toNat ([]:List Int)).length=(List.replicate (↑xs.length:Int).toNat ([]:List Int)).length/\Bs (λ(v2:Int×List (List Int)×PUnit) (k3:Int×List (List Int)×PUnit->Prop)=>Br (decide (v2.1<(↑xs.length:Int))) (∃(y4:List Int),idx xs v2.1=some y4/\ ∃(y5:List Int),kP.fn (y4,())=some y5/\(0<=v2.1/\v2.1<(↑v2.2.1.length:Int))/\0+v2.1.toNat<v2.2.1.length/\0=0/\v2.2.1.length=(v2.2.1.set (0+v2.1.toNat) y5).length/\k3 (IntKind.i64.wrap (v2.1+1),v2.2.1.set (0+v2.1.toNat) y5,())) (P (List.take v2.2.1.length (List.drop 0 v2.2.1)))) (0,List.replicate (↑xs.length:Int).toNat ([]:List Int),PUnit.unit))=fnW Da (look [(17,kP)]) jK Try.f36 (xs,()) P:=by kernel_rfl
theorem Abw (a b:List Int) (P:Bool->Prop):(Br ((↑a.length:Int) !=(↑b.length:Int)) (P false) (Bs (λ(v3:Int×PUnit) (k4:Int×PUnit->Prop)=>Br (decide (v3.1<(↑a.length:Int))) (∃(y5:Int),idx a v3.1=some y5/\ ∃(y6:Int),idx b v3.1=some y6/\Br (y5 !=y6) (P false) (k4 (IntKind.i64.wrap (v3.1+1),()))) (P true)) (0,PUnit.unit)))=fnW Da (look []) Ct Try.f20 (a,b,()) P:=by kernel_rfl
theorem WM (a b:List (List Int)) (P:Bool->Prop):(Br ((↑a.length:Int) !=(↑b.length:Int)) (P false) (Bs (λ(v3:Int×PUnit) (k4:Int×PUnit->Prop)=>Br (decide (v3.1<(↑a.length:Int))) (∃(y5:List Int),idx a v3.1=some y5/\ ∃(y6:List Int),idx b v3.1=some y6/\ ∃(y7:Bool),Ct.fn (y5,y6,())=some y7/\Br (!y7) (P false) (k4 (IntKind.i64.wrap (v3.1+1),()))) (P true)) (0,PUnit.unit)))=fnW Da (look [(20,Ct)]) jG Try.f38 (a,b,()) P:=by kernel_rfl
theorem DM {n:Nat} {room:Int} (h:roomy room) (h2: ¬jo n room<0):roomy (jo n room):=by
 unfold jo roomy at*
 split at h2<;>simp_all
 omega
theorem Abh (xs:List Int) (room:Int) (h:short xs/\roomy room):fnW Da (look []) qY Try.f74 (xs,room,()) (λ(z:Int)=>z=ie xs room):=by
 obtain ⟨h1,h2,h3⟩:=h
 unfold short at h1
 refine Eq.mp (Ac2 xs room _) ?_
 rw [Bt (by omega) (by omega)]
 refine Br.dec (λh=>?_) λh=>?_
 ·simp only [ie,jo,if_pos h]
 ·simp only [ie,jo,if_neg h]
theorem FE:Sound Try.prog 74 qY:=
 Sound.Di Cb At mixed Try.func74 (by kernel_rfl) (by kernel_rfl) λx h=>Abh x.1 x.2.1 h
theorem VS (xs:List (List Int)) (room:Int) (h:Ge xs/\roomy room):fnW Da (look [(74,qY)]) jJ Try.f34 (xs,room,()) (λ(z:Int)=>z=Xa xs room):=by
 obtain ⟨⟨h1,h4⟩,h2,h3⟩:=h
 refine Eq.mp (WX xs room _) ?_
 rw [Bt (by omega) (by omega)]
 refine Br.dec (λh=>?_) λh=>?_
 ·simp only [Xa,jo,if_pos h];rfl
 ·refine Aq xs.length (λv=>v.2.1) (λj v=>roomy v.1/\x8 (xs.drop j) v.1=Xa xs room) rfl ?_ ?_
  ·refine ⟨by unfold roomy;omega,?_⟩
   simp only [Xa,jo,if_neg h,List.drop_zero]
  ·rintro j ⟨r,i,⟨⟩⟩ K hj hi ⟨hr,hR⟩ hK
   dsimp only at hi hr hR⊢
   subst hi
   refine Br.dec (λhl=>?_) λhl=>?_
   ·have hl:j<xs.length:=by omega
    have hd:xs.drop j=xs[j]::xs.drop (j+1):=List.drop_eq_getElem_cons hl
    refine ⟨_,Av hl,_,if_pos ⟨h4 _ (List.getElem_mem hl),hr⟩,?_⟩
    rw [hd] at hR
    simp only [x8] at hR
    refine Br.dec (λhn=>?_) λhn=>?_
    ·have hn:ie xs[j] r<0:=hn
     rw [if_pos hn] at hR
     exact hR
    ·have hn: ¬ie xs[j] r<0:=hn
     rw [if_neg hn] at hR
     rw [Ao (by omega)]
     exact hK hl _ rfl ⟨DM hr hn,hR⟩
   ·have:j=xs.length:=by omega
    subst this
    rw [List.drop_length] at hR
    exact hR
theorem zB:Sound Try.prog 34 jJ:=
 Sound.Di Cb (Ah FE At) mixed Try.func34 (by kernel_rfl) (by kernel_rfl) λx h=>VS x.1 x.2.1 h
theorem Kt {α:Type} {ys xs:List α} {j:Nat} (h:j<xs.length) (hl:ys.length=xs.length) (ht:ys.take j=xs.take j):(ys.set j xs[j]).take (j+1)=xs.take (j+1):=by
 have h1:j<(ys.set j xs[j]).length:=by rw [List.length_set];omega
 rw [List.take_succ_eq_append_getElem h1,List.take_succ_eq_append_getElem h,List.getElem_set_self,List.take_set_of_le (Nat.le_refl j),ht]
theorem Abj (xs:List Int) (h:short xs):fnW Da (look []) kP Try.f17 (xs,()) (λ(z:List Int)=>z=xs):=by
 unfold short at h
 refine Eq.mp (Ac4 xs _) ?_
 refine ⟨⟨by omega,by show (xs.length:Int)<(4294967296:Int)+1;omega⟩,rfl,rfl,rfl,?_⟩
 refine Aq xs.length (λv=>v.1) (λj v=>v.2.1.length=xs.length/\v.2.1.take j=xs.take j) rfl ⟨by simp,by simp⟩ ?_
 rintro j ⟨i,ys,⟨⟩⟩ K hj hi ⟨h1,h2⟩ hK
 dsimp only at hi h1 h2⊢
 subst hi
 refine Br.dec (λhl=>?_) λhl=>?_
 ·have hl:j<xs.length:=by omega
  refine ⟨_,Av hl,⟨by omega,by omega⟩,by rw [Int.toNat_natCast];omega,rfl,by rw [List.length_set],?_⟩
  rw [Ao (by omega),Int.toNat_natCast,Nat.zero_add]
  exact hK hl _ rfl ⟨by rw [List.length_set];exact h1,Kt hl h1 h2⟩
 ·have:j=xs.length:=by omega
  subst this
  rw [List.take_length,<-h1,List.take_length] at h2
  rw [List.drop_zero,List.take_length]
  exact h2
theorem rf:Sound Try.prog 17 kP:=
 Sound.Di Cb At mixed Try.func17 (by kernel_rfl) (by kernel_rfl) λx h=>Abj x.1 h
theorem VT (xs:List (List Int)) (h:Ge xs):fnW Da (look [(17,kP)]) jK Try.f36 (xs,()) (λ(z:List (List Int))=>z=xs):=by
 obtain ⟨h,h4⟩:=h
 refine Eq.mp (WY xs _) ?_
 refine ⟨⟨by omega,by show (xs.length:Int)<(4294967296:Int)+1;omega⟩,rfl,rfl,rfl,?_⟩
 refine Aq xs.length (λv=>v.1) (λj v=>v.2.1.length=xs.length/\v.2.1.take j=xs.take j) rfl ⟨by simp,by simp⟩ ?_
 rintro j ⟨i,ys,⟨⟩⟩ K hj hi ⟨h1,h2⟩ hK
 dsimp only at hi h1 h2⊢
 subst hi
 refine Br.dec (λhl=>?_) λhl=>?_
 ·have hl:j<xs.length:=by omega
  refine ⟨_,Av hl,_,if_pos (h4 _ (List.getElem_mem hl)),⟨by omega,by omega⟩,by rw [Int.toNat_natCast];omega,rfl,by rw [List.length_set],?_⟩
  rw [Ao (by omega),Int.toNat_natCast,Nat.zero_add]
  exact hK hl _ rfl ⟨by rw [List.length_set];exact h1,Kt hl h1 h2⟩
 ·have:j=xs.length:=by omega
  subst this
  rw [List.take_length,<-h1,List.take_length] at h2
  rw [List.drop_zero,List.take_length]
  exact h2
theorem zC:Sound Try.prog 36 jK:=
 Sound.Di Cb (Ah rf At) mixed Try.func36 (by kernel_rfl) (by kernel_rfl) λx h=>VT x.1 h
theorem Abb (a b:List Int) (h:short a):fnW Da (look []) Ct Try.f20 (a,b,()) (λ(z:Bool)=>z=Ik a b):=by
 refine Eq.mp (Abw a b _) ⟨λhl=>?_,λhl=>?_⟩
 ·simp only [bne_iff_ne,ne_eq,Int.natCast_inj] at hl
  exact (decide_eq_false λoM=>hl (by rw [oM])).symm
 ·simp only [bne_eq_false_iff_eq,Int.natCast_inj] at hl
  exact AH a b hl h
theorem re:Sound Try.prog 20 Ct:=
 Sound.Di Cb At mixed Try.func20 (by kernel_rfl) (by kernel_rfl) λx h=>Abb x.1 x.2.1 h
theorem VJ (a b:List (List Int)) (h:Ge a):fnW Da (look [(20,Ct)]) jG Try.f38 (a,b,()) (λ(z:Bool)=>z=jn a b):=by
 obtain ⟨h,h4⟩:=h
 refine Eq.mp (WM a b _) ⟨λhl=>?_,λhl=>?_⟩
 ·simp only [bne_iff_ne,ne_eq,Int.natCast_inj] at hl
  exact (decide_eq_false λoM=>hl (by rw [oM])).symm
 ·simp only [bne_eq_false_iff_eq,Int.natCast_inj] at hl
  refine Aq a.length (λv=>v.1) (λj _=>a.take j=b.take j) rfl (by simp) ?_
  rintro j ⟨i,⟨⟩⟩ K hj hi hR hK
  dsimp only at hi⊢
  subst hi
  refine Br.dec (λHo=>?_) λHo=>?_
  ·have vI:j<a.length:=by omega
   have OE:j<b.length:=by omega
   refine ⟨_,Av vI,_,Av OE,_,if_pos (h4 _ (List.getElem_mem vI)),⟨λhe=>?_,λhe=>?_⟩⟩
   ·refine (decide_eq_false λoM=>?_).symm
    subst oM
    simp [Ik] at he
   ·rw [Ao (by omega)]
    refine hK vI _ rfl ?_
    simp only [Ik,Bool.not_eq_false',decide_eq_true_eq] at he
    rw [List.take_succ_eq_append_getElem vI,List.take_succ_eq_append_getElem OE,hR]
    exact congrArg (λx=>List.take j b++ [x]) he
  ·have s7:j=a.length:=by omega
   subst s7
   rw [List.take_length,hl,List.take_length] at hR
   exact (decide_eq_true hR).symm
theorem zv:Sound Try.prog 38 jG:=
 Sound.Di Cb (Ah re At) mixed Try.func38 (by kernel_rfl) (by kernel_rfl) λx h=>VJ x.1 x.2.1 h
end Go.Proofs.Ytjbdmibbbpdnnaa

namespace Go.Proofs.Ytjbdmibbbpdnnaa
open Go.RowKit
def PL (n:Int) (xs:List Int) (k:Nat):Prop:= ∀j (h:j<xs.length),j<k->0<=xs[j]/\xs[j]<=n-1/\(0<j->xs[j-1]<xs[j])
def DL (n:Int) (xs:List Int) (k:Nat):Prop:= ∀j (h:j<xs.length),j<k->0<=xs[j]/\xs[j]<=n-1/\xs[j]∉xs.take j
noncomputable def dec (p:Prop):Bool:= @decide p (Classical.propDecidable p)
theorem Ie {p:Prop} (h:p):true=dec p:=(@decide_eq_true p (Classical.propDecidable p) h).symm
theorem Bg {p:Prop} (h: ¬p):false=dec p:=(@decide_eq_false p (Classical.propDecidable p) h).symm
theorem Du {p:Prop} :dec p=true↔p:= @decide_eq_true_iff p (Classical.propDecidable p)
theorem NG {p:Prop} :dec p=false↔ ¬p:= @decide_eq_false_iff_not p (Classical.propDecidable p)
def VC (n:Int):Prop:=0<=n/\n<=4294967296
noncomputable def Ny (n:Int) (xs:List Int):Bool:=dec (0<xs.length/\PL n xs xs.length)
noncomputable abbrev Fo:Spec:=Di (.pair tI (.pair tL .unit)) .bool false true (λx=>VC x.1/\short x.2.1) (λx=>Ny x.1 x.2.1)
noncomputable abbrev Na:Spec:=Di (.pair iS .unit) tI false true (λ_=>True) (λx=>(List.length x.1:Int))
theorem pR (n:Int) (xs:List Int) (P:Bool->Prop):(∃(y3:Bool),Bn.fn ((↑xs.length:Int),(1:Int),n,())=some y3/\Br (!y3) (P false) (Bs (λ(v4:Int×PUnit) (k5:Int×PUnit->Prop)=>Br (decide (v4.1<(↑xs.length:Int))) (∃(y6:Int),idx xs v4.1=some y6/\ ∃(y7:Bool),Bn.fn (y6,(0:Int),IntKind.i64.wrap (n-(1:Int)),())=some y7/\Br (!y7) (P false) (Br (decide (v4.1>(0:Int))) (∃(y8:Int),idx xs v4.1=some y8/\ ∃(y9:Int),idx xs (IntKind.i64.wrap (v4.1-(1:Int)))=some y9/\Br (decide (y8<=y9)) (P false) (k5 (IntKind.i64.wrap (v4.1+(1:Int)),()))) (k5 (IntKind.i64.wrap (v4.1+(1:Int)),())))) (P true)) ((0:Int),PUnit.unit)))=fnW Da (look [(93,Bn)]) Fo Try.f111 (n,xs,()) P:=by kernel_rfl
theorem xm (n:Int) (xs:List Int) (P:Bool->Prop):(Bs (λ(v3:Int×PUnit) (k4:Int×PUnit->Prop)=>Br (decide (v3.1<(↑xs.length:Int))) (∃(y5:Int),idx xs v3.1=some y5/\ ∃(y6:Bool),Ue.fn (n,y5,())=some y6/\Br (!y6) (P false) (Br (decide (v3.1>(0:Int))) (∃(y7:Int),idx xs (IntKind.i64.wrap (v3.1-(1:Int)))=some y7/\Br (decide (y7>=y5)) (P false) (k4 (IntKind.i64.wrap (v3.1+(1:Int)),()))) (k4 (IntKind.i64.wrap (v3.1+(1:Int)),())))) (P (decide ((↑xs.length:Int)>(0:Int))))) ((0:Int),PUnit.unit))=fnW Da (look [(116,Ue)]) Fo Try.f66 (n,xs,()) P:=by kernel_rfl
theorem QC (xs:List (List Int)) (P:Int->Prop):(P (↑xs.length:Int))=fnW Da (look []) Na Try.f58 (xs,()) P:=by kernel_rfl
theorem PA (xs:List (List Int)) (_:True):fnW Da (look []) Na Try.f58 (xs,()) (λ(z:Int)=>z=(xs.length:Int)):=Eq.mp (QC xs _) rfl
theorem cT:Sound Try.prog 58 Na:=
 Sound.Di Cb At mixed Try.func58 (by kernel_rfl) (by kernel_rfl) λx h=>PA x.1 h
theorem kF {n x:Int} (hn:VC n):dB n x=true↔0<=x/\x<=n-1:=by
 unfold dB VC at*
 rw [Bt (by omega) (by omega),decide_eq_true_iff]
theorem Cl {x a b:Int} :Hf x a b=true↔a<=x/\x<=b:=decide_eq_true_iff
theorem Cv {b:Bool} (h:(!b)=true): ¬b=true:=by cases b<;>simp_all
theorem Gq {b:Bool} (h:(!b)=false):b=true:=by cases b<;>simp_all
theorem z9 {n:Int} {xs:List Int} (h:PL n xs xs.length): ∀j (hj:j<xs.length),(j:Int)<=xs[j]
 |0,hj=>(h 0 hj hj).1
 |j+1,hj=>by
  have h1:=z9 h j (by omega)
  have h2:=(h (j+1) hj hj).2.2 (by omega)
  simp only [Nat.add_sub_cancel] at h2
  omega
theorem lN {n:Int} {xs:List Int} {j:Nat} (hl:j<xs.length) (h:PL n xs j) (h1:0<=xs[j]) (h2:xs[j]<=n-1) (h3:0<j->xs[j-1]<xs[j]):PL n xs (j+1):=by
 intro i hi ei
 by_cases e:i=j
 ·subst e;exact ⟨h1,h2,h3⟩
 ·exact h i hi (by omega)
theorem wD (n:Int) (xs:List Int) (h:VC n/\short xs):fnW Da (look [(116,Ue)]) Fo Try.f66 (n,xs,()) (λ(z:Bool)=>z=Ny n xs):=by
 obtain ⟨hn,h⟩:=h
 unfold short at h
 refine Eq.mp (xm n xs _) ?_
 refine Aq xs.length (λv=>v.1) (λj _=>PL n xs j) rfl (λj _ hj=>absurd hj (Nat.not_lt_zero _)) ?_
 rintro j ⟨i,⟨⟩⟩ K hj hi hR hK
 dsimp only at hi⊢
 subst hi
 refine Br.dec (λhl=>?_) λhl=>?_
 ·have hl:j<xs.length:=by omega
  refine ⟨_,Av hl,_,if_pos trivial,⟨λhp=>?_,λhp=>?_⟩⟩
  ·have hp:=Cv hp
   rw [kF hn] at hp
   exact Bg λhh=>hp ⟨(hh.2 j hl hl).1,(hh.2 j hl hl).2.1⟩
  ·have hp:=Gq hp
   rw [kF hn] at hp
   refine Br.dec (λh0=>?_) λh0=>?_
   ·have h0:0<j:=by omega
    rw [Bt (by omega) (by omega),show (j:Int)-1=((j-1:Nat):Int) by omega]
    refine ⟨_,Av (by omega),Br.dec (λhg=>?_) λhg=>?_⟩
    ·exact Bg λhh=>by have:=(hh.2 j hl hl).2.2 h0;omega
    ·rw [Ao (by omega)]
     exact hK hl _ rfl (lN hl hR hp.1 hp.2 λ_=>by omega)
   ·have h0:j=0:=by omega
    rw [Ao (by omega)]
    exact hK hl _ rfl (lN hl hR hp.1 hp.2 λh=>by omega)
 ·have:j=xs.length:=by omega
  subst this
  by_cases h0:0<xs.length
  ·rw [decide_eq_true (show (xs.length:Int)>0 by omega)];exact Ie ⟨h0,hR⟩
  ·rw [decide_eq_false (show ¬(xs.length:Int)>0 by omega)];exact Bg λhh=>h0 hh.1
theorem lq:Sound Try.prog 66 Fo:=
 Sound.Di Cb (Ah pF At) mixed Try.func66 (by kernel_rfl) (by kernel_rfl) λx h=>wD x.1 x.2.1 h
theorem ph (n:Int) (xs:List Int) (h:VC n/\short xs):fnW Da (look [(93,Bn)]) Fo Try.f111 (n,xs,()) (λ(z:Bool)=>z=Ny n xs):=by
 obtain ⟨hn,h⟩:=h
 unfold short at h
 refine Eq.mp (pR n xs _) ⟨_,if_pos trivial,⟨λhp=>?_,λhp=>?_⟩⟩
 ·have hp:=Cv hp
  rw [Cl] at hp
  dsimp only at hp
  refine Bg λhh=>hp ⟨by omega,?_⟩
  have:=z9 hh.2 (xs.length-1) (by omega)
  have:=(hh.2 (xs.length-1) (by omega) (by omega)).2.1
  omega
 ·have hp:=Gq hp
  rw [Cl] at hp
  dsimp only at hp
  refine Aq xs.length (λv=>v.1) (λj _=>PL n xs j) rfl (λj _ hj=>absurd hj (Nat.not_lt_zero _)) ?_
  rintro j ⟨i,⟨⟩⟩ K hj hi hR hK
  dsimp only at hi⊢
  subst hi
  refine Br.dec (λhl=>?_) λhl=>?_
  ·have hl:j<xs.length:=by omega
   refine ⟨_,Av hl,_,if_pos trivial,⟨λhq=>?_,λhq=>?_⟩⟩
   ·have hq:=Cv hq
    unfold VC at hn
    rw [Cl,Bt (by omega) (by omega)] at hq
    exact Bg λhh=>hq ⟨(hh.2 j hl hl).1,(hh.2 j hl hl).2.1⟩
   ·have hq:=Gq hq
    unfold VC at hn
    rw [Cl,Bt (by omega) (by omega)] at hq
    refine Br.dec (λh0=>?_) λh0=>?_
    ·have h0:0<j:=by omega
     rw [Bt (by omega) (by omega),show (j:Int)-1=((j-1:Nat):Int) by omega]
     refine ⟨_,Av hl,_,Av (by omega),Br.dec (λhg=>?_) λhg=>?_⟩
     ·exact Bg λhh=>by have:=(hh.2 j hl hl).2.2 h0;omega
     ·rw [Ao (by omega)]
      exact hK hl _ rfl (lN hl hR hq.1 hq.2 λ_=>by omega)
    ·rw [Ao (by omega)]
     exact hK hl _ rfl (lN hl hR hq.1 hq.2 λh=>by omega)
  ·have:j=xs.length:=by omega
   subst this
   exact Ie ⟨by omega,hR⟩
theorem iC:Sound Try.prog 111 Fo:=
 Sound.Di Cb (Ah Xf At) mixed Try.func111 (by kernel_rfl) (by kernel_rfl) λx h=>ph x.1 x.2.1 h
theorem NH {n:Int} {xs:List Int} {j:Nat} (hl:j<xs.length) (h:DL n xs j) (h1:0<=xs[j]) (h2:xs[j]<=n-1) (h3:xs[j]∉xs.take j):DL n xs (j+1):=by
 intro i hi ei
 by_cases e:i=j
 ·subst e;exact ⟨h1,h2,h3⟩
 ·exact h i hi (by omega)
theorem zp {xs:List Int} (h:short xs) (j:Nat):short (xs.take j):=by
 unfold short at*
 rw [List.length_take]
 omega
end Go.Proofs.Ytjbdmibbbpdnnaa

namespace Go.Proofs.Ytjbdmibbbpdnnaa
open Go.RowKit
theorem wM:roomy 1048576:=⟨by decide,by decide⟩
end Go.Proofs.Ytjbdmibbbpdnnaa

namespace Go.Proofs.Ytjbdmibbbpdnnaa
open Go.RowKit
abbrev PP:Type:=Int×ByteArray×List (List Int)×Unit
noncomputable def Fu (p:List Int):Bool:=dec (1<=p.length/\p.length<=20/\DL p.length p p.length)
noncomputable def Ei (n:Int) (p:List Int):Bool:=dec ((p.length:Int)=n/\Fu p=true)
noncomputable def Sh (n:Int) (g:List (List Int)):Bool:=dec ((1<=n/\n<=20)/\g.length<=8/\ ∀p∈g,Ei n p=true)
def Dd {α:Type} (P:α->Bool):List α->Int->Int
 | [],_=> -1
 |y::r,i=>if P y=true then i else Dd P r (i+1)
abbrev tG1:Ty:= .clo 177 (.pair (.ptr tI) .unit)
def rn (s:ByteArray) (i:Nat):Prop:= ∃c:UInt8,s[i]?=some c/\65<=c.toNat/\c.toNat<=90/\ ∀k,k<i->s[k]?≠some c
noncomputable def ic (s:ByteArray) (i:Int):Bool:=dec (rn s i.toNat)
noncomputable def Yl (s:ByteArray):Bool:=dec ((1<=s.size/\s.size<=8)/\ ∀j,j<s.size->rn s j)
noncomputable def Az (p:PP):Bool:=dec (Sh p.1 p.2.2.1=true/\Yl p.2.1=true/\p.2.1.size=p.2.2.1.length)
noncomputable def Bl (p:PP) (xs:List Int):Bool:=dec (Az p=true/\Ny p.2.2.1.length xs=true)
def Cp (p:PP):Prop:=p.2.1.size<=4294967296/\Ge p.2.2.1
noncomputable abbrev Mk:Spec:=Di (.pair tL .unit) tI false true (λ_=>True) (λx=>(List.length x.1:Int))
noncomputable abbrev En:Spec:=Di (.pair tL .unit) .bool false true (λx=>short x.1) (λx=>Fu x.1)
noncomputable abbrev Kj:Spec:=Di (.pair tI (.pair iS .unit)) .bool false true (λx=>Ge x.2.1) (λx=>Sh x.1 x.2.1)
noncomputable abbrev dH:Spec:=Di (.pair tL (.pair (.ptr tI) .unit)) .bool false true (λx=>short x.1) (λx=>!Ei x.2.1 x.1)
noncomputable abbrev qX:Spec:=Di (.pair iS (.pair tG1 .unit)) tI false true (λx=>Ge x.1) (λx=>Dd (λp=>!Ei x.2.1.1 p) x.1 0)
noncomputable abbrev qS:Spec:=Di (.pair iS (.pair tG1 .unit)) .bool false true (λx=>Ge x.1) (λx=>List.any x.1 (λp=>!Ei x.2.1.1 p))
noncomputable abbrev Ys:Spec:=Di (.pair .str (.pair tI .unit)) .bool false true (λx=>0<=x.2.1/\x.2.1<x.1.size/\x.1.size<=4294967296) (λx=>ic x.1 x.2.1)
noncomputable abbrev Ud:Spec:=Di (.pair .str .unit) .bool false true (λx=>x.1.size<=4294967296) (λx=>Yl x.1)
noncomputable abbrev Eo:Spec:=Di (.pair Ck .unit) .bool false true (λx=>Cp x.1) (λx=>Az x.1)
noncomputable abbrev Es:Spec:=Di (.pair Ck (.pair tL .unit)) .bool false true (λx=>Cp x.1/\short x.2.1) (λx=>Bl x.1 x.2.1)
def cr (p:PP) (room:Int):Int:=if room-p.2.1.size<0 then-1 else if Xa p.2.2.1 (room-p.2.1.size)<0 then-1 else Xa p.2.2.1 (room-p.2.1.size)
def kD (a b:PP):Bool:=decide (a.1=b.1)&&(decide (a.2.1=b.2.1)&&decide (a.2.2.1=b.2.2.1))
noncomputable abbrev qZ:Spec:=Di (.pair Ck (.pair tI .unit)) tI false true (λx=>Cp x.1/\roomy x.2.1) (λx=>cr x.1 x.2.1)
noncomputable abbrev r6:Spec:=Di (.pair Ck .unit) Ck false true (λx=>Cp x.1) (λx=>x.1)
noncomputable abbrev qU:Spec:=Di (.pair Ck (.pair Ck .unit)) .bool false true (λx=>Cp x.1) (λx=>kD x.1 x.2.1)
theorem WR (xs:List Int) (P:Int->Prop):(P (↑xs.length:Int))=fnW Da (look []) Mk Try.f82 (xs,()) P:=by kernel_rfl
theorem uc (p:List Int) (P:Bool->Prop):(∃(y2:Bool),Bn.fn ((↑p.length:Int),(1:Int),(20:Int),())=some y2/\Br (!y2) (P false) (Bs (λ(v3:Int×PUnit) (k4:Int×PUnit->Prop)=>Br (decide (v3.1<(↑p.length:Int))) (∃(y5:Int),idx p v3.1=some y5/\ ∃(y6:Bool),Bn.fn (y5,(0:Int),IntKind.i64.wrap ((↑p.length:Int)-(1:Int)),())=some y6/\Br (!y6) (P false) (((0:Int)<=(0:Int)/\(0:Int)<=v3.1/\v3.1<=(↑p.length:Int))/\ ∃(y7:Int),idx p v3.1=some y7/\ ∃(y8:Bool),Kp.fn (List.drop (Int.toNat (0:Int)) (List.take v3.1.toNat p),y7,())=some y8/\Br y8 (P false) (k4 (IntKind.i64.wrap (v3.1+(1:Int)),())))) (P true)) ((0:Int),PUnit.unit)))=fnW Da (look [(93,Bn),(153,Kp)]) En Try.f169 (p,()) P:=by kernel_rfl
theorem u7 (p:List Int) (P:Bool->Prop):(∃(y2:Int),Mk.fn (p,())=some y2/\ ∃(y3:Bool),Bn.fn (y2,(1:Int),(20:Int),())=some y3/\Br (!y3) (P false) (Bs (λ(v4:Int×Int×PUnit) (k5:Int×Int×PUnit->Prop)=>Br (decide (v4.2.1<(↑p.length:Int))) (∃(y6:Int),idx p v4.2.1=some y6/\ ∃(y7:Int),Mk.fn (p,())=some y7/\ ∃(y8:Bool),Bn.fn (y6,(0:Int),IntKind.i64.wrap (y7-(1:Int)),())=some y8/\Br (!y8) (P false) (¬y6<(0:Int)/\k5 (IntKind.i64.wrap (↑(BitVec.ofInt IntKind.i64.bits v4.1|||BitVec.ofInt IntKind.i64.bits (IntKind.i64.wrap ((1:Int)*(2:Int)^min y6.toNat IntKind.i64.bits))).toNat:Int),IntKind.i64.wrap (v4.2.1+(1:Int)),()))) (¬(↑p.length:Int)<(0:Int)/\P (v4.1==IntKind.i64.wrap (IntKind.i64.wrap ((1:Int)*(2:Int)^min (↑p.length:Int).toNat IntKind.i64.bits)-(1:Int))))) ((0:Int),(0:Int),PUnit.unit)))=fnW Da (look [(97,Bn),(82,Mk)]) En Try.f168 (p,()) P:=by kernel_rfl
theorem ub (n:Int) (g:List (List Int)) (P:Bool->Prop):(∃(y3:Bool),Bn.fn (n,(1:Int),(20:Int),())=some y3/\Br (!y3) (P false) (Br (decide ((↑g.length:Int)>(8:Int))) (P false) (Bs (λ(v4:Int×PUnit) (k5:Int×PUnit->Prop)=>Br (decide (v4.1<(↑g.length:Int))) (∃(y6:List Int),idx g v4.1=some y6/\Br ((↑y6.length:Int) !=n) (P false) (∃(y7:List Int),idx g v4.1=some y7/\ ∃(y8:Bool),En.fn (y7,())=some y8/\Br (!y8) (P false) (k5 (IntKind.i64.wrap (v4.1+(1:Int)),())))) (P true)) ((0:Int),PUnit.unit))))=fnW Da (look [(93,Bn),(169,En)]) Kj Try.f147 (n,g,()) P:=by kernel_rfl
theorem QA (p:List Int) (n:Int) (P:Bool->Prop):(∃(y3:Int),Mk.fn (p,())=some y3/\Br (y3 !=n) (P true) (∃(y4:Bool),En.fn (p,())=some y4/\P !y4))=fnW Da (look [(82,Mk),(168,En)]) dH Try.f177 (p,n,()) P:=by kernel_rfl
theorem Ac0 (g:List (List Int)) (n:Int×Unit) (P:Int->Prop):(Bs (λ(v3:Int×PUnit) (k4:Int×PUnit->Prop)=>Br (decide (v3.1<(↑g.length:Int))) (∃(y5:List Int),idx g v3.1=some y5/\ ∃(y6:Bool),dH.fn (y5,n.1,())=some y6/\Br y6 (P v3.1) (k4 (IntKind.i64.wrap (v3.1+(1:Int)),()))) (P (-1:Int))) ((0:Int),PUnit.unit))=fnW Da (look [(177,dH)]) qX Try.f184 (g,n,()) P:=by kernel_rfl
theorem Abu (g:List (List Int)) (n:Int×Unit) (P:Bool->Prop):(∃(y3:Int),qX.fn (g,n,())=some y3/\P (decide (y3>=(0:Int))))=fnW Da (look [(184,qX)]) qS Try.f176 (g,n,()) P:=by kernel_rfl
theorem u6 (n:Int) (g:List (List Int)) (P:Bool->Prop):(∃(y3:Bool),Bn.fn (n,(1:Int),(20:Int),())=some y3/\Br y3 (Br (decide ((↑g.length:Int)<=(8:Int))) (∃(y4:Bool),qS.fn (g,(n,()),())=some y4/\P !y4) (P false)) (P false))=fnW Da (look [(97,Bn),(176,qS)]) Kj Try.f158 (n,g,()) P:=by kernel_rfl
theorem MB (s:ByteArray) (i:Int) (P:Bool->Prop):((0:Int)<=i/\ ∃(y3:UInt8),s[i.toNat]?=some y3/\Br (decide ((↑y3.toNat:Int)<(65:Int))) (P false) ((0:Int)<=i/\ ∃(y4:UInt8),s[i.toNat]?=some y4/\Br (decide ((↑y4.toNat:Int)>(90:Int))) (P false) (Bs (λ(v5:Int×PUnit) (k6:Int×PUnit->Prop)=>Br (decide (v5.1<i)) ((0:Int)<=v5.1/\ ∃(y7:UInt8),s[v5.1.toNat]?=some y7/\(0:Int)<=i/\ ∃(y8:UInt8),s[i.toNat]?=some y8/\Br ((↑y7.toNat:Int)==(↑y8.toNat:Int)) (P false) (k6 (IntKind.i64.wrap (v5.1+(1:Int)),()))) (P true)) ((0:Int),PUnit.unit))))=fnW Da (look []) Ys Try.f148 (s,i,()) P:=by kernel_rfl
theorem FZ (s:ByteArray) (P:Bool->Prop):(Bs (λ(v2:Int×PUnit) (k3:Int×PUnit->Prop)=>Br (decide (v2.1<(↑s.size:Int))) ((0:Int)<=v2.1/\ ∃(y4:UInt8),s[v2.1.toNat]?=some y4/\ ∃(y5:Bool),Bn.fn (IntKind.i64.wrap (↑y4.toNat:Int),(65:Int),(90:Int),())=some y5/\Br (!y5) (P false) (Bs (λ(v6:Int×PUnit) (k7:Int×PUnit->Prop)=>Br (decide (v6.1<v2.1)) ((0:Int)<=v6.1/\ ∃(y8:UInt8),s[v6.1.toNat]?=some y8/\(0:Int)<=v2.1/\ ∃(y9:UInt8),s[v2.1.toNat]?=some y9/\Br ((↑y8.toNat:Int)==(↑y9.toNat:Int)) (P false) (k7 (IntKind.i64.wrap (v6.1+(1:Int)),()))) (k3 (IntKind.i64.wrap (v2.1+(1:Int)),()))) ((0:Int),PUnit.unit))) (∃(y4:Bool),Bn.fn ((↑s.size:Int),(1:Int),(8:Int),())=some y4/\P y4)) ((0:Int),PUnit.unit))=fnW Da (look [(97,Bn)]) Ud Try.f159 (s,()) P:=by kernel_rfl
abbrev eJ:Type:=Int×Int×ByteArray×List (List Int)×PUnit
theorem ud (p:Int×ByteArray×List (List Int)×Unit) (P:Bool->Prop):(Br ((↑p.2.2.1.length:Int)==(0:Int)) (P false) (Br ((↑p.2.1.size:Int) !=(↑p.2.2.1.length:Int)) (P false) (∃(y2:Bool),Kj.fn (p.1,p.2.2.1,())=some y2/\Br (!y2) (P false) (Bs (λ(v3:eJ) (k4:eJ->Prop)=>Br (decide (v3.1<(↑v3.2.2.1.size:Int))) (∃(y5:Bool),Ys.fn (v3.2.2.1,v3.1,())=some y5/\Br (!y5) (P false) (k4 (IntKind.i64.wrap (v3.1+(1:Int)),v3.2.1,v3.2.2.1,v3.2.2.2.1,()))) (P true)) ((0:Int),p.1,p.2.1,p.2.2.1,PUnit.unit)))))=fnW Da (look [(147,Kj),(148,Ys)]) Eo Try.f110 (p,()) P:=by kernel_rfl
theorem u9 (p:Int×ByteArray×List (List Int)×Unit) (P:Bool->Prop):(∃(y2:Bool),Kj.fn (p.1,p.2.2.1,())=some y2/\Br y2 (∃(y3:Bool),Ud.fn (p.2.1,())=some y3/\Br y3 (P ((↑p.2.1.size:Int)==(↑p.2.2.1.length:Int))) (P false)) (P false))=fnW Da (look [(158,Kj),(159,Ud)]) Eo Try.f130 (p,()) P:=by kernel_rfl
theorem jZ (p:Int×ByteArray×List (List Int)×Unit) (xs:List Int) (P:Bool->Prop):(∃(y3:Bool),Eo.fn ((p.1,p.2.1,p.2.2.1,()),())=some y3/\Br y3 (∃(y4:Bool),Fo.fn ((↑p.2.2.1.length:Int),xs,())=some y4/\P y4) (P false))=fnW Da (look [(110,Eo),(111,Fo)]) Es Try.f101 (p,xs,()) P:=by kernel_rfl
theorem jY (p:Int×ByteArray×List (List Int)×Unit) (xs:List Int) (P:Bool->Prop):(∃(y3:Bool),Eo.fn ((p.1,p.2.1,p.2.2.1,()),())=some y3/\Br y3 (∃(y4:Int),Na.fn (p.2.2.1,())=some y4/\ ∃(y5:Bool),Fo.fn (y4,xs,())=some y5/\P y5) (P false))=fnW Da (look [(130,Eo),(66,Fo),(58,Na)]) Es Try.f106 (p,xs,()) P:=by kernel_rfl
theorem Ac3 (p:Int×ByteArray×List (List Int)×Unit) (room:Int) (P:Int->Prop):(Br (decide (IntKind.i64.wrap (room-(↑p.2.1.size:Int))<(0:Int))) (P (-1:Int)) (∃(y3:Int),jJ.fn (p.2.2.1,IntKind.i64.wrap (room-(↑p.2.1.size:Int)),())=some y3/\Br (decide (y3<(0:Int))) (P (-1:Int)) (P y3)))=fnW Da (look [(34,jJ)]) qZ Try.f14 (p,room,()) P:=by kernel_rfl
theorem Ac5 (p:Int×ByteArray×List (List Int)×Unit) (P:(Int×ByteArray×List (List Int)×Unit)->Prop):(∃(y2:List (List Int)),jK.fn (p.2.2.1,())=some y2/\P (p.1,p.2.1,y2,()))=fnW Da (look [(36,jK)]) r6 Try.f16 (p,()) P:=by kernel_rfl
theorem Abx (a b:Int×ByteArray×List (List Int)×Unit) (P:Bool->Prop):(Br (a.1 !=b.1) (P false) (Br (!a.2.1.toList==b.2.1.toList) (P false) (∃(y3:Bool),jG.fn (a.2.2.1,b.2.2.1,())=some y3/\Br (!y3) (P false) (P true))))=fnW Da (look [(38,jG)]) qU Try.f19 (a,b,()) P:=by kernel_rfl
theorem VN (xs:List Int) (_:True):fnW Da (look []) Mk Try.f82 (xs,()) (λ(z:Int)=>z=(xs.length:Int)):=Eq.mp (WR xs _) rfl
theorem aB:Sound Try.prog 82 Mk:=
 Sound.Di Cb At mixed Try.func82 (by kernel_rfl) (by kernel_rfl) λx h=>VN x.1 h
theorem tM {α:Type} [DecidableEq α]: ∀(l m:List α),l.Nodup->(∀x∈l,x∈m)->l.length<=m.length
 | [],m,_,_=>Nat.zero_le _
 |a::l,m,hn,hs=>by
  have ha:a∈m:=hs a (List.mem_cons_self ..)
  have hn:=List.nodup_cons.1 hn
  have:=tM l (m.erase a) hn.2 λx hx=>(List.mem_erase_of_ne (λ(e:x=a)=>hn.1 (by rw [<-e];exact hx))).2 (hs x (List.mem_cons_of_mem _ hx))
  rw [List.length_erase_of_mem ha] at this
  have:0<m.length:=List.length_pos_of_mem ha
  simp only [List.length_cons]
  omega
def upto (n:Nat):List Int:=(List.range n).map Int.ofNat
theorem oq (n:Nat):(upto n).Nodup:=by
 unfold upto
 exact List.Pairwise.map _ (λa b oM e=>oM (Int.ofNat.inj e)) List.nodup_range
theorem Im {n:Nat} {x:Int} :x∈upto n↔0<=x/\x<n:=by
 unfold upto
 simp only [List.mem_map,List.mem_range]
 constructor
 ·rintro ⟨a,ha,rfl⟩;exact ⟨Int.natCast_nonneg _,Int.ofNat_lt.2 ha⟩
 ·rintro ⟨h1,h2⟩;exact ⟨x.toNat,by omega,by simp only [Int.ofNat_eq_natCast];omega⟩
theorem Pr (n:Nat):(upto n).length=n:=by simp [upto]
theorem cw {xs:List Int} (h: ∀j (hj:j<xs.length),xs[j]∉xs.take j):xs.Nodup:=by
 refine List.pairwise_iff_getElem.2 λi j hi hj ei e=>h j hj ?_
 rw [<-e]
 exact List.mem_take_iff_getElem.2 ⟨i,by omega,rfl⟩
theorem om {xs:List Int} (h:xs.Nodup): ∀j (hj:j<xs.length),xs[j]∉xs.take j:=by
 intro j hj hm
 obtain ⟨i,hi,e⟩:=List.mem_take_iff_getElem.1 hm
 exact List.pairwise_iff_getElem.1 h i j (by omega) hj (by omega) e
theorem Wt {xs:List Int} (h: ∀x∈xs,0<=x/\x<xs.length):(∀k:Nat,k<xs.length->(k:Int)∈xs)↔ ∀j (hj:j<xs.length),xs[j]∉xs.take j:=by
 constructor
 ·intro ha j hj hm
  have h1:=tM (upto xs.length) (xs.take j++xs.drop (j+1)) (oq _) λx hx=>by
   obtain ⟨h1,h2⟩:=Im.1 hx
   have hx:=ha x.toNat (by omega)
   rw [show ((x.toNat:Nat):Int)=x by omega] at hx
   rw [<-List.take_append_drop j xs,List.mem_append,List.drop_eq_getElem_cons hj,List.mem_cons] at hx
   rcases hx with hx|rfl|hx
   ·exact List.mem_append_left _ hx
   ·exact List.mem_append_left _ hm
   ·exact List.mem_append_right _ hx
  rw [Pr,List.length_append,List.length_take,List.length_drop] at h1
  omega
 ·intro hn k hk
  refine Classical.byContradiction λhc=>?_
  have h1:=tM xs ((upto xs.length).erase (k:Int)) (cw hn) λx hx=>by
   refine (List.mem_erase_of_ne λ(e:x=(k:Int))=>hc (by rw [<-e];exact hx)).2 (Im.2 (h x hx))
  rw [List.length_erase_of_mem (Im.2 ⟨by omega,by omega⟩),Pr] at h1
  omega
def mask (xs:List Int):Nat:=xs.foldl (λm x=>m|||2^x.toNat) 0
theorem DN (xs:List Int) (x:Int):mask (xs++ [x])=mask xs|||2^x.toNat:=by simp [mask]
theorem sH (xs:List Int) (k:Nat): ∀a:Nat,(xs.foldl (λm x=>m|||2^x.toNat) a).testBit k=(a.testBit k||xs.any λx=>decide (x.toNat=k)):=by
 induction xs with
 |nil=>simp
 |cons x xs ih=>
  intro a
  rw [List.foldl_cons,ih,Nat.testBit_or,Nat.testBit_two_pow,List.any_cons,Bool.or_assoc]
theorem mZ (xs:List Int) (k:Nat):(mask xs).testBit k=xs.any λx=>decide (x.toNat=k):=by
 unfold mask
 rw [sH,Nat.zero_testBit,Bool.false_or]
theorem OU {xs:List Int} {n:Nat} (h: ∀x∈xs,x.toNat<n):mask xs<2^n:=by
 refine Nat.lt_pow_two_of_testBit _ λk hk=>?_
 rw [mZ]
 refine Bool.eq_false_iff.2 λht=>?_
 obtain ⟨x,hx,he⟩:=List.any_eq_true.1 ht
 have:=h x hx
 have:=of_decide_eq_true he
 omega
theorem qC {xs:List Int} (h: ∀x∈xs,0<=x/\x<xs.length):mask xs=2^xs.length-1↔ ∀k:Nat,k<xs.length->(k:Int)∈xs:=by
 constructor
 ·intro e k hk
  have h1:=mZ xs k
  rw [e,Nat.testBit_two_pow_sub_one,decide_eq_true hk] at h1
  obtain ⟨x,hx,he⟩:=List.any_eq_true.1 h1.symm
  have:=(h x hx).1
  have:=of_decide_eq_true he
  have e:x=(k:Int):=by omega
  exact e▸hx
 ·intro ha
  refine Nat.eq_of_testBit_eq λk=>?_
  rw [mZ,Nat.testBit_two_pow_sub_one]
  by_cases hk:k<xs.length
  ·rw [decide_eq_true hk]
   exact List.any_eq_true.2 ⟨k,ha k hk,by simp⟩
  ·rw [decide_eq_false hk]
   refine Bool.eq_false_iff.2 λht=>?_
   obtain ⟨x,hx,he⟩:=List.any_eq_true.1 ht
   have:=h x hx
   have:=of_decide_eq_true he
   omega
theorem OW {m:Nat} {x:Int} (hm:m<2^20) (h0:0<=x) (h1:x<20):
  IntKind.i64.wrap (((BitVec.ofInt IntKind.i64.bits (m:Int)|||BitVec.ofInt IntKind.i64.bits (IntKind.i64.wrap ((1:Int)*(2:Int)^min x.toNat IntKind.i64.bits))).toNat:Nat):Int)=((m|||2^x.toNat:Nat):Int):=by
 have hx:(2:Nat)^x.toNat<2^20:=Nat.pow_lt_pow_right (by omega) (by omega)
 have e1:min x.toNat IntKind.i64.bits=x.toNat:=by show min x.toNat 64=_;omega
 have e2:(1:Int)*(2:Int)^x.toNat=((2^x.toNat:Nat):Int):=by rw [Int.one_mul];exact (Int.natCast_pow 2 _).symm
 rw [e1,e2,Bt (n:=((2^x.toNat:Nat):Int)) (by have:(0:Int)<=((2^x.toNat:Nat):Int):=Int.natCast_nonneg _;omega) (by omega)]
 show IntKind.i64.wrap (((BitVec.ofInt 64 (m:Int)|||BitVec.ofInt 64 ((2^x.toNat:Nat):Int)).toNat:Nat):Int)=_
 rw [BitVec.ofInt_natCast,BitVec.ofInt_natCast,BitVec.toNat_or,BitVec.toNat_ofNat,BitVec.toNat_ofNat,Nat.mod_eq_of_lt (by omega),Nat.mod_eq_of_lt (by omega)]
 have:=Nat.or_lt_two_pow hm hx
 exact Bt (by omega) (by omega)
theorem sO (p:List Int) (h:short p):fnW Da (look [(93,Bn),(153,Kp)]) En Try.f169 (p,()) (λ(z:Bool)=>z=Fu p):=by
 have hs:=h
 unfold short at h
 refine Eq.mp (uc p _) ⟨_,if_pos trivial,⟨λhp=>?_,λhp=>?_⟩⟩
 ·have hp:=Cv hp
  rw [Cl] at hp
  dsimp only at hp
  exact Bg λhh=>hp ⟨by omega,by omega⟩
 ·have hp:=Gq hp
  rw [Cl] at hp
  dsimp only at hp
  refine Aq p.length (λv=>v.1) (λj _=>DL p.length p j) rfl (λj _ hj=>absurd hj (Nat.not_lt_zero _)) ?_
  rintro j ⟨i,⟨⟩⟩ K hj hi hR hK
  dsimp only at hi⊢
  subst hi
  refine Br.dec (λhl=>?_) λhl=>?_
  ·have hl:j<p.length:=by omega
   refine ⟨_,Av hl,_,if_pos trivial,⟨λhq=>?_,λhq=>?_⟩⟩
   ·have hq:=Cv hq
    rw [Cl,Bt (by omega) (by omega)] at hq
    exact Bg λhh=>hq ⟨(hh.2.2 j hl hl).1,(hh.2.2 j hl hl).2.1⟩
   ·have hq:=Gq hq
    rw [Cl,Bt (by omega) (by omega)] at hq
    refine ⟨⟨by omega,by omega,by omega⟩,_,Av hl,?_⟩
    rw [show (Int.toNat 0)=0 from rfl,List.drop_zero,Int.toNat_natCast]
    refine ⟨_,if_pos (zp hs j),⟨λhc=>?_,λhc=>?_⟩⟩
    ·have hc:decide (p[j]∈p.take j)=true:=hc
     rw [decide_eq_true_iff] at hc
     exact Bg λhh=>(hh.2.2 j hl hl).2.2 hc
    ·have hc:decide (p[j]∈p.take j)=false:=hc
     rw [decide_eq_false_iff_not] at hc
     rw [Ao (by omega)]
     exact hK hl _ rfl (NH hl hR hq.1 hq.2 hc)
  ·have:j=p.length:=by omega
   subst this
   exact Ie ⟨by omega,by omega,hR⟩
theorem Re:Sound Try.prog 169 En:=
 Sound.Di Cb (Ah Xf (Ah iB At)) mixed Try.func169 (by kernel_rfl) (by kernel_rfl) λx h=>sO x.1 h
theorem sK (p:List Int) (h:short p):fnW Da (look [(97,Bn),(82,Mk)]) En Try.f168 (p,()) (λ(z:Bool)=>z=Fu p):=by
 unfold short at h
 refine Eq.mp (u7 p _) ⟨_,if_pos trivial,_,if_pos trivial,⟨λhp=>?_,λhp=>?_⟩⟩
 ·have hp:=Cv hp
  rw [Cl] at hp
  dsimp only at hp
  exact Bg λhh=>hp ⟨by omega,by omega⟩
 ·have hp:=Gq hp
  rw [Cl] at hp
  dsimp only at hp
  refine Aq p.length (λv=>v.2.1) (λj v=>v.1=(mask (p.take j):Int)/\ ∀x∈p.take j,0<=x/\x<p.length) rfl ⟨rfl,by simp⟩ ?_
  rintro j ⟨m,i,⟨⟩⟩ K hj hi ⟨hm,hR⟩ hK
  dsimp only at hi hm⊢
  subst hi hm
  refine Br.dec (λhl=>?_) λhl=>?_
  ·have hl:j<p.length:=by omega
   refine ⟨_,Av hl,_,if_pos trivial,_,if_pos trivial,⟨λhq=>?_,λhq=>?_⟩⟩
   ·have hq:=Cv hq
    rw [Cl] at hq
    dsimp only at hq
    rw [Bt (by omega) (by omega)] at hq
    exact Bg λhh=>hq ⟨(hh.2.2 j hl hl).1,(hh.2.2 j hl hl).2.1⟩
   ·have hq:=Gq hq
    rw [Cl] at hq
    dsimp only at hq
    rw [Bt (by omega) (by omega)] at hq
    refine ⟨by omega,?_⟩
    rw [Ao (by omega)]
    have hb:mask (p.take j)<2^20:=OU λx hx=>by have:=hR x hx;omega
    refine hK hl _ rfl ⟨?_,?_⟩
    ·dsimp only
     rw [OW hb hq.1 (by omega),List.take_succ_eq_append_getElem hl,DN]
    ·rw [List.take_succ_eq_append_getElem hl]
     intro x hx
     rcases List.mem_append.1 hx with hx|hx
     ·exact hR x hx
     ·rw [List.mem_singleton.1 hx];omega
  ·have:j=p.length:=by omega
   subst this
   rw [List.take_length] at hR⊢
   refine ⟨by omega,?_⟩
   have hx:(2:Nat)^p.length<=2^20:=Nat.pow_le_pow_right (by omega) (by omega)
   have jh:0<(2:Nat)^p.length:=Nat.two_pow_pos _
   have e1:min (p.length:Int).toNat IntKind.i64.bits=p.length:=by show min (p.length:Int).toNat 64=_;omega
   have e2:(1:Int)*(2:Int)^p.length=((2^p.length:Nat):Int):=by rw [Int.one_mul];exact (Int.natCast_pow 2 _).symm
   rw [e1,e2,Bt (n:=((2^p.length:Nat):Int)) (by omega) (by omega),Bt (by omega) (by omega)]
   have hE:((mask p:Int)==((2^p.length:Nat):Int)-1)=decide (mask p=2^p.length-1):=by
    rw [Bool.eq_iff_iff,beq_iff_eq,decide_eq_true_iff]
    omega
   show ((mask p:Int)==((2^p.length:Nat):Int)-1)=Fu p
   rw [hE]
   by_cases hf:mask p=2^p.length-1
   ·rw [decide_eq_true hf]
    have hn:=(Wt hR).1 ((qC hR).1 hf)
    refine Ie ⟨by omega,by omega,λj hj _=>?_⟩
    have:=hR _ (List.getElem_mem hj)
    exact ⟨this.1,by omega,hn j hj⟩
   ·rw [decide_eq_false hf]
    refine Bg λhh=>hf ((qC hR).2 ((Wt hR).2 λj hj=>(hh.2.2 j hj hj).2.2))
theorem Yx:Sound Try.prog 168 En:=
 Sound.Di Cb (Ah Pp (Ah aB At)) mixed Try.func168 (by kernel_rfl) (by kernel_rfl) λx h=>sK x.1 h
theorem sN (n:Int) (g:List (List Int)) (h:Ge g):fnW Da (look [(93,Bn),(169,En)]) Kj Try.f147 (n,g,()) (λ(z:Bool)=>z=Sh n g):=by
 obtain ⟨h,h4⟩:=h
 refine Eq.mp (ub n g _) ⟨_,if_pos trivial,⟨λhp=>?_,λhp=>?_⟩⟩
 ·have hp:=Cv hp
  rw [Cl] at hp
  exact Bg λhh=>hp hh.1
 ·have hp:=Gq hp
  rw [Cl] at hp
  refine Br.dec (λhg=>?_) λhg=>?_
  ·exact Bg λhh=>by have:=hh.2.1;omega
  ·refine Aq g.length (λv=>v.1) (λj _=> ∀p∈g.take j,Ei n p=true) rfl (by simp) ?_
   rintro j ⟨i,⟨⟩⟩ K hj hi hR hK
   dsimp only at hi⊢
   subst hi
   refine Br.dec (λhl=>?_) λhl=>?_
   ·have hl:j<g.length:=by omega
    have hm:g[j]∈g:=List.getElem_mem hl
    refine ⟨_,Av hl,⟨λhe=>?_,λhe=>?_⟩⟩
    ·simp only [bne_iff_ne,ne_eq] at he
     exact Bg λhh=>he (Du.1 (hh.2.2 _ hm)).1
    ·simp only [bne_eq_false_iff_eq] at he
     refine ⟨_,Av hl,_,if_pos (h4 _ hm),⟨λhq=>?_,λhq=>?_⟩⟩
     ·have hq:=Cv hq
      exact Bg λhh=>hq (Du.1 (hh.2.2 _ hm)).2
     ·have hq:=Gq hq
      rw [Ao (by omega)]
      refine hK hl _ rfl ?_
      rw [List.take_succ_eq_append_getElem hl]
      intro x hx
      rcases List.mem_append.1 hx with hx|hx
      ·exact hR x hx
      ·rw [List.mem_singleton.1 hx];exact Du.2 ⟨he,hq⟩
   ·have:j=g.length:=by omega
    subst this
    rw [List.take_length] at hR
    exact Ie ⟨hp,by omega,hR⟩
theorem jP:Sound Try.prog 147 Kj:=
 Sound.Di Cb (Ah Xf (Ah Re At)) mixed Try.func147 (by kernel_rfl) (by kernel_rfl) λx h=>sN x.1 x.2.1 h
theorem OY (p:List Int) (n:Int) (h:short p):fnW Da (look [(82,Mk),(168,En)]) dH Try.f177 (p,n,()) (λ(z:Bool)=>z=!Ei n p):=by
 refine Eq.mp (QA p n _) ⟨_,if_pos trivial,⟨λhe=>?_,λhe=>⟨_,if_pos h,?_⟩⟩⟩
 ·simp only [bne_iff_ne,ne_eq] at he
  have:Ei n p=false:=NG.2 λhh=>he hh.1
  rw [this];rfl
 ·simp only [bne_eq_false_iff_eq] at he
  show (!Fu p)=_
  congr 1
  cases hp:Fu p with
  |true=>exact Ie ⟨he,hp⟩
  |false=>exact Bg λhh=>by rw [hh.2] at hp;cases hp
theorem wT:Sound Try.prog 177 dH:=
 Sound.Di Cb (Ah aB (Ah Yx At)) mixed Try.func177 (by kernel_rfl) (by kernel_rfl) λx h=>OY x.1 x.2.1 h
theorem kE {α:Type} (P:α->Bool): ∀(l:List α) (i:Int),0<=i->(0<=Dd P l i↔l.any P=true)
 | [],i,_=>by simp [Dd]
 |y::r,i,h=>by
  simp only [Dd,List.any_cons,Bool.or_eq_true]
  split
  ·rename_i hy;simp [hy,h]
  ·rename_i hy;rw [kE P r (i+1) (by omega)];simp [hy]
theorem Abf (g:List (List Int)) (n:Int×Unit) (h:Ge g):fnW Da (look [(177,dH)]) qX Try.f184 (g,n,()) (λ(z:Int)=>z=Dd (λp=>!Ei n.1 p) g 0):=by
 obtain ⟨h,h4⟩:=h
 refine Eq.mp (Ac0 g n _) ?_
 refine Aq g.length (λv=>v.1) (λj _=>Dd (λp=>!Ei n.1 p) (g.drop j) j=Dd (λp=>!Ei n.1 p) g 0) rfl (by simp) ?_
 rintro j ⟨i,⟨⟩⟩ K hj hi hR hK
 dsimp only at hi⊢
 subst hi
 refine Br.dec (λhl=>?_) λhl=>?_
 ·have hl:j<g.length:=by omega
  rw [List.drop_eq_getElem_cons hl] at hR
  simp only [Dd] at hR
  refine ⟨_,Av hl,_,if_pos (h4 _ (List.getElem_mem hl)),⟨λhe=>?_,λhe=>?_⟩⟩
  ·have he:(!Ei n.1 g[j])=true:=he
   rw [if_pos he] at hR
   exact hR
  ·have he:(!Ei n.1 g[j])=false:=he
   rw [if_neg (by rw [he];decide)] at hR
   rw [Ao (by omega)]
   exact hK hl _ rfl (by push_cast;exact hR)
 ·have:j=g.length:=by omega
  subst this
  rw [List.drop_length] at hR
  exact hR
theorem FC:Sound Try.prog 184 qX:=
 Sound.Di Cb (Ah wT At) mixed Try.func184 (by kernel_rfl) (by kernel_rfl) λx h=>Abf x.1 x.2.1 h
theorem Ab9 (g:List (List Int)) (n:Int×Unit) (h:Ge g):fnW Da (look [(184,qX)]) qS Try.f176 (g,n,()) (λ(z:Bool)=>z=List.any g (λp=>!Ei n.1 p)):=by
 refine Eq.mp (Abu g n _) ⟨_,if_pos h,?_⟩
 rw [Bool.eq_iff_iff,decide_eq_true_iff]
 exact kE _ g 0 (Int.le_refl 0)
theorem EW:Sound Try.prog 176 qS:=
 Sound.Di Cb (Ah FC At) mixed Try.func176 (by kernel_rfl) (by kernel_rfl) λx h=>Ab9 x.1 x.2.1 h
theorem sJ (n:Int) (g:List (List Int)) (h:Ge g):fnW Da (look [(97,Bn),(176,qS)]) Kj Try.f158 (n,g,()) (λ(z:Bool)=>z=Sh n g):=by
 refine Eq.mp (u6 n g _) ⟨_,if_pos trivial,⟨λhp=>?_,λhp=>?_⟩⟩
 ·have hp:Hf n 1 20=true:=hp
  rw [Cl] at hp
  refine Br.dec (λhl=>⟨_,if_pos h,?_⟩) λhl=>?_
  ·show (!List.any g (λp=>!Ei n p))=Sh n g
   cases ha:List.any g (λp=>!Ei n p) with
   |true=>
    obtain ⟨p,uk,CU⟩:=List.any_eq_true.1 ha
    exact Bg λhh=>by rw [hh.2.2 p uk] at CU;cases CU
   |false=>
    refine Ie ⟨hp,by omega,λp hm=>?_⟩
    have:=List.any_eq_false.1 ha p hm
    simpa using this
  ·exact Bg λhh=>by have:=hh.2.1;omega
 ·refine Bg λhh=>?_
  have:Hf n 1 20=true:=Cl.2 hh.1
  have hp:Hf n 1 20=false:=hp
  rw [this] at hp;cases hp
theorem jN:Sound Try.prog 158 Kj:=
 Sound.Di Cb (Ah Pp (Ah EW At)) mixed Try.func158 (by kernel_rfl) (by kernel_rfl) λx h=>sJ x.1 x.2.1 h
theorem Hs {s:ByteArray} {k:Nat} (h:k<s.size):s[k]?=some s[k]:=getElem?_pos s k h
theorem KB (s:ByteArray) (i:Int) (h:0<=i/\i<s.size/\s.size<=4294967296):fnW Da (look []) Ys Try.f148 (s,i,()) (λ(z:Bool)=>z=ic s i):=by
 obtain ⟨h1,h2,h3⟩:=h
 have hi:i.toNat<s.size:=by omega
 refine Eq.mp (MB s i _) ⟨h1,_,Hs hi,Br.dec (λhq=>?_) λhq=>⟨h1,_,Hs hi,Br.dec (λhr=>?_) λhr=>?_⟩⟩
 ·refine Bg λ⟨c,hc,GL,_⟩=>?_
  rw [Hs hi] at hc;cases hc;omega
 ·refine Bg λ⟨c,hc,_,GL,_⟩=>?_
  rw [Hs hi] at hc;cases hc;omega
 ·refine Aq i.toNat (λv=>v.1) (λj _=> ∀k,k<j->s[k]?≠some s[i.toNat]) rfl (λk hk=>absurd hk (Nat.not_lt_zero _)) ?_
  rintro j ⟨i',⟨⟩⟩ K hj c9 hR hK
  dsimp only at c9⊢
  subst c9
  refine Br.dec (λhl=>?_) λhl=>?_
  ·have hl:j<i.toNat:=by omega
   have hj:j<s.size:=by omega
   rw [Int.toNat_natCast]
   refine ⟨by omega,_,Hs hj,h1,_,Hs hi,⟨λhe=>?_,λhe=>?_⟩⟩
   ·simp only [beq_iff_eq,Int.natCast_inj] at he
    refine Bg λ⟨c,hc,_,_,GL⟩=>?_
    rw [Hs hi] at hc;cases hc
    exact GL j hl (by rw [Hs hj,UInt8.toNat_inj.1 he])
   ·simp only [beq_eq_false_iff_ne,ne_eq,Int.natCast_inj] at he
    rw [Ao (by omega)]
    refine hK hl _ rfl λk hk=>?_
    by_cases e:k=j
    ·subst e
     rw [Hs hj]
     exact λe=>he (by rw [Option.some.inj e])
    ·exact hR k (by omega)
  ·have:j=i.toNat:=by omega
   subst this
   exact Ie ⟨_,Hs hi,by omega,by omega,hR⟩
theorem tz:Sound Try.prog 148 Ys:=
 Sound.Di Cb At mixed Try.func148 (by kernel_rfl) (by kernel_rfl) λx h=>KB x.1 x.2.1 h
theorem EE (s:ByteArray) (h:s.size<=4294967296):fnW Da (look [(97,Bn)]) Ud Try.f159 (s,()) (λ(z:Bool)=>z=Yl s):=by
 refine Eq.mp (FZ s _) ?_
 refine Aq s.size (λv=>v.1) (λj _=> ∀k,k<j->rn s k) rfl (λk hk=>absurd hk (Nat.not_lt_zero _)) ?_
 rintro j ⟨i,⟨⟩⟩ K hj hi hR hK
 dsimp only at hi⊢
 subst hi
 refine Br.dec (λhl=>?_) λhl=>?_
 ·have hl:j<s.size:=by omega
  rw [Int.toNat_natCast]
  have hb:=(s[j]).toNat_lt
  refine ⟨by omega,_,Hs hl,_,if_pos trivial,⟨λhq=>?_,λhq=>?_⟩⟩
  ·have hq:=Cv hq
   rw [Cl] at hq
   dsimp only at hq
   rw [Bt (by omega) (by omega)] at hq
   refine Bg λhh=>?_
   obtain ⟨c,hc,GL,XG,_⟩:=hh.2 j hl
   rw [Hs hl] at hc;cases hc
   exact hq ⟨by omega,by omega⟩
  ·have hq:=Gq hq
   rw [Cl] at hq
   dsimp only at hq
   rw [Bt (by omega) (by omega)] at hq
   refine Aq j (λv=>v.1) (λm _=> ∀k,k<m->s[k]?≠some s[j]) rfl (λk hk=>absurd hk (Nat.not_lt_zero _)) ?_
   rintro m ⟨i',⟨⟩⟩ K' hm c9 hR' YX
   dsimp only at c9⊢
   subst c9
   refine Br.dec (λHg=>?_) λHg=>?_
   ·have Hg:m<j:=by omega
    have hm':m<s.size:=by omega
    rw [Int.toNat_natCast]
    refine ⟨by omega,_,Hs hm',by omega,_,Hs hl,⟨λhe=>?_,λhe=>?_⟩⟩
    ·simp only [beq_iff_eq,Int.natCast_inj] at he
     refine Bg λhh=>?_
     obtain ⟨c,hc,_,_,GL⟩:=hh.2 j hl
     rw [Hs hl] at hc;cases hc
     exact GL m Hg (by rw [Hs hm',UInt8.toNat_inj.1 he])
    ·simp only [beq_eq_false_iff_ne,ne_eq,Int.natCast_inj] at he
     rw [Ao (by omega)]
     refine YX Hg _ rfl λk hk=>?_
     by_cases e:k=m
     ·subst e
      rw [Hs hm']
      exact λe=>he (by rw [Option.some.inj e])
     ·exact hR' k (by omega)
   ·have:m=j:=by omega
    subst this
    rw [Ao (by omega)]
    refine hK hl _ rfl λk hk=>?_
    by_cases e:k=m
    ·subst e
     exact ⟨_,Hs hl,by omega,by omega,hR'⟩
    ·exact hR k (by omega)
 ·have:j=s.size:=by omega
  subst this
  refine ⟨_,if_pos trivial,?_⟩
  show Hf s.size 1 8=_
  cases hr:Hf s.size 1 8 with
  |true=>rw [Cl] at hr;exact Ie ⟨by omega,hR⟩
  |false=>refine Bg λhh=>?_;rw [Cl.2 ⟨by omega,by omega⟩] at hr;cases hr
theorem pE:Sound Try.prog 159 Ud:=
 Sound.Di Cb (Ah Pp At) mixed Try.func159 (by kernel_rfl) (by kernel_rfl) λx h=>EE x.1 h
theorem zK {p:PP} (h:Az p=true):1<=p.1/\p.1<=20/\1<=p.2.2.1.length/\p.2.2.1.length<=8:=by
 obtain ⟨h1,h2,h3⟩:=Du.1 h
 obtain ⟨h4,h5,_⟩:=Du.1 h1
 obtain ⟨h6,_⟩:=Du.1 h2
 omega
theorem sP (p:PP) (h:Cp p):fnW Da (look [(147,Kj),(148,Ys)]) Eo Try.f110 (p,()) (λ(z:Bool)=>z=Az p):=by
 obtain ⟨hn,hg⟩:=h
 refine Eq.mp (ud p _) ⟨λh0=>?_,λh0=>⟨λh1=>?_,λh1=>⟨_,if_pos hg,⟨λh2=>?_,λh2=>?_⟩⟩⟩⟩
 ·simp only [beq_iff_eq] at h0
  exact Bg λhh=>by obtain ⟨_,h2,h3⟩:=hh;have:=(Du.1 h2).1;omega
 ·simp only [bne_iff_ne,ne_eq,Int.natCast_inj] at h1
  exact Bg λhh=>h1 hh.2.2
 ·have h2:=Cv h2
  exact Bg λhh=>h2 hh.1
 ·simp only [beq_eq_false_iff_ne,ne_eq] at h0
  simp only [bne_eq_false_iff_eq,Int.natCast_inj] at h1
  have h2:Sh p.1 p.2.2.1=true:=Gq h2
  refine Aq p.2.1.size (λv=>v.1) (λj v=>v.2=(p.1,p.2.1,p.2.2.1,())/\ ∀k,k<j->rn p.2.1 k) rfl ⟨rfl,λk hk=>absurd hk (Nat.not_lt_zero _)⟩ ?_
  rintro j ⟨i,v⟩ K hj hi ⟨hv,hR⟩ hK
  dsimp only at hi hv⊢
  subst hi hv
  dsimp only
  refine Br.dec (λhl=>?_) λhl=>?_
  ·have hl:j<p.2.1.size:=by omega
   refine ⟨_,if_pos ⟨Int.natCast_nonneg j,Int.ofNat_lt.2 hl,hn⟩,⟨λhq=>?_,λhq=>?_⟩⟩
   ·have hq: ¬ic p.2.1 j=true:=Cv hq
    refine Bg λhh=>hq (Du.2 ?_)
    rw [Int.toNat_natCast]
    exact (Du.1 hh.2.1).2 j hl
   ·have hq:ic p.2.1 j=true:=Gq hq
    have hq:=Du.1 hq
    rw [Int.toNat_natCast] at hq
    rw [Ao (by omega)]
    refine hK hl _ rfl ⟨rfl,λk hk=>?_⟩
    by_cases e:k=j
    ·subst e;exact hq
    ·exact hR k (by omega)
  ·have:j=p.2.1.size:=by omega
   subst this
   have:=(Du.1 h2).2.1
   exact Ie ⟨h2,Du.2 ⟨⟨by omega,by omega⟩,hR⟩,h1⟩
theorem Rf:Sound Try.prog 110 Eo:=
 Sound.Di Cb (Ah jP (Ah tz At)) mixed Try.func110 (by kernel_rfl) (by kernel_rfl) λx h=>sP x.1 h
theorem sL (p:PP) (h:Cp p):fnW Da (look [(158,Kj),(159,Ud)]) Eo Try.f130 (p,()) (λ(z:Bool)=>z=Az p):=by
 obtain ⟨hn,hg⟩:=h
 refine Eq.mp (u9 p _) ⟨_,if_pos hg,⟨λh1=>⟨_,if_pos hn,⟨λh2=>?_,λh2=>?_⟩⟩,λh1=>?_⟩⟩
 ·have h1:Sh p.1 p.2.2.1=true:=h1
  have h2:Yl p.2.1=true:=h2
  by_cases e:p.2.1.size=p.2.2.1.length
  ·rw [e,beq_self_eq_true];exact Ie ⟨h1,h2,e⟩
  ·rw [show ((p.2.1.size:Int)==(p.2.2.1.length:Int))=false from beq_eq_false_iff_ne.2 (by omega)];exact Bg λhh=>e hh.2.2
 ·have h2:Yl p.2.1=false:=h2
  exact Bg λhh=>by rw [hh.2.1] at h2;cases h2
 ·have h1:Sh p.1 p.2.2.1=false:=h1
  exact Bg λhh=>by rw [hh.1] at h1;cases h1
theorem Yy:Sound Try.prog 130 Eo:=
 Sound.Di Cb (Ah jN (Ah pE At)) mixed Try.func130 (by kernel_rfl) (by kernel_rfl) λx h=>sL x.1 h
theorem lz {a b:Bool} :(a&&b)=dec (a=true/\b=true):=by
 cases ha:a<;>cases hb:b
 ·exact Bg (by simp)
 ·exact Bg (by simp)
 ·exact Bg (by simp)
 ·exact Ie ⟨rfl,rfl⟩
theorem jA (p:PP) (xs:List Int) (h:Cp p/\short xs):fnW Da (look [(110,Eo),(111,Fo)]) Es Try.f101 (p,xs,()) (λ(z:Bool)=>z=Bl p xs):=by
 refine Eq.mp (jZ p xs _) ⟨_,if_pos h.1,⟨λh1=>⟨_,if_pos ⟨⟨by omega,by have:=h.1.2.1;dsimp only;omega⟩,h.2⟩,?_⟩,λh1=>?_⟩⟩
 ·have h1:Az p=true:=h1
  show Ny p.2.2.1.length xs=_
  rw [Bl,<-lz,h1,Bool.true_and]
 ·have h1:Az p=false:=h1
  rw [Bl,<-lz,h1,Bool.false_and]
theorem cU:Sound Try.prog 101 Es:=
 Sound.Di Cb (Ah Rf (Ah iC At)) mixed Try.func101 (by kernel_rfl) (by kernel_rfl) λx h=>jA x.1 x.2.1 h
theorem jz (p:PP) (xs:List Int) (h:Cp p/\short xs):fnW Da (look [(130,Eo),(66,Fo),(58,Na)]) Es Try.f106 (p,xs,()) (λ(z:Bool)=>z=Bl p xs):=by
 refine Eq.mp (jY p xs _) ⟨_,if_pos h.1,⟨λh1=>⟨_,if_pos trivial,_,if_pos ⟨⟨by dsimp only;omega,by have:=h.1.2.1;dsimp only;omega⟩,h.2⟩,?_⟩,λh1=>?_⟩⟩
 ·have h1:Az p=true:=h1
  show Ny p.2.2.1.length xs=_
  rw [Bl,<-lz,h1,Bool.true_and]
 ·have h1:Az p=false:=h1
  rw [Bl,<-lz,h1,Bool.false_and]
theorem cS:Sound Try.prog 106 Es:=
 Sound.Di Cb (Ah Yy (Ah lq (Ah cT At))) mixed Try.func106 (by kernel_rfl) (by kernel_rfl) λx h=>jz x.1 x.2.1 h
theorem Abi (p:PP) (room:Int) (h:Cp p/\roomy room):fnW Da (look [(34,jJ)]) qZ Try.f14 (p,room,()) (λ(z:Int)=>z=cr p room):=by
 obtain ⟨⟨h1,h2⟩,h3,h4⟩:=h
 refine Eq.mp (Ac3 p room _) ?_
 rw [Bt (by omega) (by omega)]
 refine Br.dec (λhn=>?_) λhn=>⟨_,if_pos ⟨h2,by dsimp only;omega,by dsimp only;omega⟩,Br.dec (λhm=>?_) λhm=>?_⟩
 ·simp only [cr,if_pos hn]
 ·exact ((if_neg hn).trans (if_pos hm)).symm
 ·exact ((if_neg hn).trans (if_neg hm)).symm
theorem FF:Sound Try.prog 14 qZ:=
 Sound.Di Cb (Ah zB At) mixed Try.func14 (by kernel_rfl) (by kernel_rfl) λx h=>Abi x.1 x.2.1 h
theorem Abk (p:PP) (h:Cp p):fnW Da (look [(36,jK)]) r6 Try.f16 (p,()) (λ(z:PP)=>z=p):=Eq.mp (Ac5 p _) ⟨_,if_pos h.2,rfl⟩
theorem FG:Sound Try.prog 16 r6:=
 Sound.Di Cb (Ah zC At) mixed Try.func16 (by kernel_rfl) (by kernel_rfl) λx h=>Abk x.1 h
theorem uQ {a b:ByteArray} :(a.toList==b.toList)=decide (a=b):=by
 rw [Bool.eq_iff_iff,beq_iff_eq,decide_eq_true_iff,ByteArray.toList_eq,ByteArray.toList_eq]
 exact ⟨λh=>ByteArray.ext (Array.toList_inj.1 h),λh=>by rw [h]⟩
theorem Abc (a b:PP) (h:Cp a):fnW Da (look [(38,jG)]) qU Try.f19 (a,b,()) (λ(z:Bool)=>z=kD a b):=by
 refine Eq.mp (Abx a b _) ⟨λh1=>?_,λh1=>⟨λh2=>?_,λh2=>⟨_,if_pos h.2,⟨λh3=>?_,λh3=>?_⟩⟩⟩⟩
 ·simp only [bne_iff_ne,ne_eq] at h1
  unfold kD
  rw [decide_eq_false h1];rfl
 ·rw [uQ] at h2
  unfold kD
  cases hd:decide (a.2.1=b.2.1)<;>simp_all
 ·have h3:(!jn a.2.2.1 b.2.2.1)=true:=h3
  simp only [jn,Bool.not_eq_true'] at h3
  unfold kD
  rw [h3];simp
 ·have h3:(!jn a.2.2.1 b.2.2.1)=false:=h3
  rw [uQ] at h2
  simp only [jn] at h3
  simp only [bne_eq_false_iff_eq] at h1
  unfold kD
  simp_all
theorem EZ:Sound Try.prog 19 qU:=
 Sound.Di Cb (Ah zv At) mixed Try.func19 (by kernel_rfl) (by kernel_rfl) λx h=>Abc x.1 x.2.1 h
theorem yK (p:PP):kD p p=true:=by simp [kD]
end Go.Proofs.Ytjbdmibbbpdnnaa

namespace Go.Proofs.Ytjbdmibbbpdnnaa
open Go.RowKit
noncomputable abbrev Yt:Spec:=Di (.pair tI (.pair tL .unit)) .bool false true (λx=>short x.2.1) (λx=>Ei x.1 x.2.1)
noncomputable abbrev Qz:Spec:=Di (.pair Ck (.pair tL .unit)) .bool false true (λx=>short x.2.1) (λx=>Ei x.1.1 x.2.1)
noncomputable abbrev Uf:Spec:=Di (.pair Ck (.pair tL .unit)) .bool false true (λx=>Cp x.1/\short x.2.1) (λx=>Az x.1&&Ei x.1.1 x.2.1)
theorem MC (n:Int) (s:List Int) (P:Bool->Prop):(Br ((↑s.length:Int)==n) (∃(y3:Bool),En.fn (s,())=some y3/\P y3) (P false))=fnW Da (look [(169,En)]) Yt Try.f143 (n,s,()) P:=by kernel_rfl
theorem oz (p:Int×ByteArray×List (List Int)×Unit) (s:List Int) (P:Bool->Prop):(∃(y3:Int),Mk.fn (s,())=some y3/\Br (y3==p.1) (∃(y4:Bool),En.fn (s,())=some y4/\P y4) (P false))=fnW Da (look [(82,Mk),(168,En)]) Qz Try.f141 (p,s,()) P:=by kernel_rfl
theorem pT (p:Int×ByteArray×List (List Int)×Unit) (s:List Int) (P:Bool->Prop):(∃(y3:Bool),Eo.fn ((p.1,p.2.1,p.2.2.1,()),())=some y3/\Br y3 (∃(y4:Bool),Yt.fn (p.1,s,())=some y4/\P y4) (P false))=fnW Da (look [(110,Eo),(143,Yt)]) Uf Try.f103 (p,s,()) P:=by kernel_rfl
theorem KC (n:Int) (s:List Int) (h:short s):fnW Da (look [(169,En)]) Yt Try.f143 (n,s,()) (λ(z:Bool)=>z=Ei n s):=by
 refine Eq.mp (MC n s _) ⟨λhe=>⟨_,if_pos h,?_⟩,λhe=>?_⟩
 ·simp only [beq_iff_eq] at he
  show Fu s=_
  cases hp:Fu s with
  |true=>exact Ie ⟨he,hp⟩
  |false=>exact Bg λhh=>by rw [hh.2] at hp;cases hp
 ·simp only [beq_eq_false_iff_ne,ne_eq] at he
  exact Bg λhh=>he hh.1
theorem tA:Sound Try.prog 143 Yt:=
 Sound.Di Cb (Ah Re At) mixed Try.func143 (by kernel_rfl) (by kernel_rfl) λx h=>KC x.1 x.2.1 h
theorem nv (p:PP) (s:List Int) (h:short s):fnW Da (look [(82,Mk),(168,En)]) Qz Try.f141 (p,s,()) (λ(z:Bool)=>z=Ei p.1 s):=by
 refine Eq.mp (oz p s _) ⟨_,if_pos trivial,⟨λhe=>⟨_,if_pos h,?_⟩,λhe=>?_⟩⟩
 ·simp only [beq_iff_eq] at he
  show Fu s=_
  cases hp:Fu s with
  |true=>exact Ie ⟨he,hp⟩
  |false=>exact Bg λhh=>by rw [hh.2] at hp;cases hp
 ·simp only [beq_eq_false_iff_ne,ne_eq] at he
  exact Bg λhh=>he hh.1
theorem fW:Sound Try.prog 141 Qz:=
 Sound.Di Cb (Ah aB (Ah Yx At)) mixed Try.func141 (by kernel_rfl) (by kernel_rfl) λx h=>nv x.1 x.2.1 h
theorem pk (p:PP) (s:List Int) (h:Cp p/\short s):fnW Da (look [(110,Eo),(143,Yt)]) Uf Try.f103 (p,s,()) (λ(z:Bool)=>z=(Az p&&Ei p.1 s)):=by
 refine Eq.mp (pT p s _) ⟨_,if_pos h.1,⟨λhe=>⟨_,if_pos h.2,?_⟩,λhe=>?_⟩⟩
 ·have he:Az p=true:=he
  rw [he];rfl
 ·have he:Az p=false:=he
  rw [he];rfl
theorem iE:Sound Try.prog 103 Uf:=
 Sound.Di Cb (Ah Rf (Ah tA At)) mixed Try.func103 (by kernel_rfl) (by kernel_rfl) λx h=>pk x.1 x.2.1 h
end Go.Proofs.Ytjbdmibbbpdnnaa

namespace Go.Proofs.Ytjbdmibbbpdnnaa
open Go.RowKit
def Cx (xs:List Int) (i:Int):Int:=xs.getD i.toNat 0
def Aa (p q:List Int):List Int:=p.map (Cx q)
def Vx (f:Nat->Nat) (g:Nat->Int) (m:Nat) (init:List Int):List Int:=(List.range m).foldl (λ(out:List Int) (i:Nat)=>out.set (f i) (g i)) init
def Al (p:List Int):List Int:=Vx (λi=>(Cx p (i:Int)).toNat) (λi=>(i:Int)) p.length (List.replicate p.length 0)
def Mv (n:Nat) (p:List Int):Prop:= ∀y∈p,0<=y/\y<n
noncomputable abbrev Ub:Spec:=Di (.pair tL (.pair tL .unit)) tL false true (λx=>List.length x.1<=20/\Mv (List.length x.2.1) x.1) (λx=>Aa x.1 x.2.1)
noncomputable abbrev Em:Spec:=Di (.pair tL .unit) tL false true (λx=>List.length x.1<=20/\Mv (List.length x.1) x.1) (λx=>Al x.1)
noncomputable abbrev Cd:Spec:=Di (.pair tI .unit) tL false true (λx=>0<=x.1/\x.1<=20) (λx=>upto x.1.toNat)
noncomputable abbrev Ks:Spec:=Di (.pair tL .unit) tL false true (λx=>Fu x.1=true) (λx=>Al x.1)
def Af (g:List (List Int)) (l:Int):List Int:=if l>0 then g.getD (l-1).toNat [] else Al (g.getD (-l-1).toNat [])
def Ft (n:Int) (l:Int):Prop:=l≠0/\ -n<=l/\l<=n
noncomputable abbrev Ra:Spec:=Di (.pair iS (.pair tI .unit)) tL false false (λx=>Ft (List.length x.1) x.2.1/\List.length x.1<=8/\ ∀p∈x.1,Fu p=true) (λx=>Af x.1 x.2.1)
def Ag (n:Nat):List Int:=(List.range n).flatMap λ(k:Nat)=> [(k:Int)+1,-((k:Int)+1)]
noncomputable abbrev Ic:Spec:=Di (.pair tI .unit) tL false true (λx=>0<=x.1/\x.1<=8) (λx=>Ag x.1.toNat)
noncomputable abbrev Pj:Spec:=Di (.pair Ck (.pair tL (.pair tI .unit))) tL false true (λx=>Az x.1=true/\List.length x.2.1<=20/\(∀y∈x.2.1,0<=y/\y<x.1.1)/\Ft (List.length x.1.2.2.1) x.2.2.1) (λx=>Aa x.2.1 (Af x.1.2.2.1 x.2.2.1))
theorem pP (p q:List Int) (P:List Int->Prop):(((0:Int)<=(↑p.length:Int)/\(↑p.length:Int)<(↑Bj:Int)+(1:Int))/\(↑p.length:Int)=(↑p.length:Int)/\0=0/\(List.replicate (↑p.length:Int).toNat (Int.ofNat (nat_lit 0))).length=(List.replicate (↑p.length:Int).toNat (Int.ofNat (nat_lit 0))).length/\Bs (λ(v3:Int×List Int×PUnit) (k4:Int×List Int×PUnit->Prop)=>Br (decide (v3.1<(↑p.length:Int))) (∃(y5:Int),idx p v3.1=some y5/\ ∃(y6:Int),idx q y5=some y6/\((0:Int)<=v3.1/\v3.1<(↑v3.2.1.length:Int))/\0+v3.1.toNat<v3.2.1.length/\0=0/\v3.2.1.length=(v3.2.1.set (0+v3.1.toNat) y6).length/\k4 (IntKind.i64.wrap (v3.1+(1:Int)),v3.2.1.set (0+v3.1.toNat) y6,())) (P (List.take v3.2.1.length (List.drop 0 v3.2.1)))) ((0:Int),List.replicate (↑p.length:Int).toNat (Int.ofNat (nat_lit 0)),PUnit.unit))=fnW Da (look []) Ub Try.f156 (p,q,()) P:=by kernel_rfl
theorem pQ (p:List Int) (P:List Int->Prop):(((0:Int)<=(↑p.length:Int)/\(↑p.length:Int)<(↑Bj:Int)+(1:Int))/\(↑p.length:Int)=(↑p.length:Int)/\0=0/\(List.replicate (↑p.length:Int).toNat (Int.ofNat (nat_lit 0))).length=(List.replicate (↑p.length:Int).toNat (Int.ofNat (nat_lit 0))).length/\Bs (λ(v2:Int×List Int×PUnit) (k3:Int×List Int×PUnit->Prop)=>Br (decide (v2.1<(↑p.length:Int))) (∃(y4:Int),idx p v2.1=some y4/\((0:Int)<=y4/\y4<(↑v2.2.1.length:Int))/\0+y4.toNat<v2.2.1.length/\0=0/\v2.2.1.length=(v2.2.1.set (0+y4.toNat) v2.1).length/\k3 (IntKind.i64.wrap (v2.1+(1:Int)),v2.2.1.set (0+y4.toNat) v2.1,())) (P (List.take v2.2.1.length (List.drop 0 v2.2.1)))) ((0:Int),List.replicate (↑p.length:Int).toNat (Int.ofNat (nat_lit 0)),PUnit.unit))=fnW Da (look []) Em Try.f175 (p,()) P:=by kernel_rfl
theorem GD (p:List Int) (P:List Int->Prop):(((0:Int)<=(↑p.length:Int)/\(↑p.length:Int)<(↑Bj:Int)+(1:Int))/\(↑p.length:Int)=(↑p.length:Int)/\0=0/\(List.replicate (↑p.length:Int).toNat (Int.ofNat (nat_lit 0))).length=(List.replicate (↑p.length:Int).toNat (Int.ofNat (nat_lit 0))).length/\Bs (λ(v2:Int×List Int×PUnit) (k3:Int×List Int×PUnit->Prop)=>Br (decide (v2.1<(↑p.length:Int))) (∃(y4:Int),idx p v2.1=some y4/\((0:Int)<=y4/\y4<(↑v2.2.1.length:Int))/\0+y4.toNat<v2.2.1.length/\0=0/\v2.2.1.length=(v2.2.1.set (0+y4.toNat) v2.1).length/\k3 (IntKind.i64.wrap (v2.1+(1:Int)),v2.2.1.set (0+y4.toNat) v2.1,())) (P (List.take v2.2.1.length (List.drop 0 v2.2.1)))) ((0:Int),List.replicate (↑p.length:Int).toNat (Int.ofNat (nat_lit 0)),PUnit.unit))=fnW Da (look []) Em Try.f170 (p,()) P:=by kernel_rfl
theorem pS (p:List Int) (P:List Int->Prop):(∃(y2:Bool),En.fn (p,())=some y2/\Br (!y2) (P (List.take 0 (List.drop 0 []))) (∃(y3:List Int),Em.fn (p,())=some y3/\P y3))=fnW Da (look [(169,En),(170,Em)]) Ks Try.f150 (p,()) P:=by kernel_rfl
theorem zN (n:Int) (P:List Int->Prop):(0=0/\0=([]:List Int).length/\Bs (λ(v2:Int×List Int×PUnit) (k3:Int×List Int×PUnit->Prop)=>Br (decide (v2.1<n)) (0=0/\v2.2.1.length=v2.2.1.length/\v2.2.1.length+(List.take 1 (List.drop 0 [v2.1])).length<=Bj/\0=0/\(v2.2.1++List.take 1 (List.drop 0 [v2.1])).length=(v2.2.1++List.take 1 (List.drop 0 [v2.1])).length/\k3 (IntKind.i64.wrap (v2.1+(1:Int)),v2.2.1++List.take 1 (List.drop 0 [v2.1]),())) (P (List.take v2.2.1.length (List.drop 0 v2.2.1)))) ((0:Int),[],PUnit.unit))=fnW Da (look []) Cd Try.f124 (n,()) P:=by kernel_rfl
theorem zO (g:List (List Int)) (l:Int) (P:List Int->Prop):(Br (decide (l>(0:Int))) (∃(y3:List Int),idx g (IntKind.i64.wrap (l-(1:Int)))=some y3/\P y3) (∃(y3:List Int),idx g (IntKind.i64.wrap (IntKind.i64.wrap ((0:Int)-l)-(1:Int)))=some y3/\ ∃(y4:List Int),Em.fn (y3,())=some y4/\P y4))=fnW Da (look [(175,Em)]) Ra Try.f157 (g,l,()) P:=by kernel_rfl
theorem GB (n:Int) (P:List Int->Prop):(0=0/\0=([]:List Int).length/\Bs (λ(v2:Int×List Int×PUnit) (k3:Int×List Int×PUnit->Prop)=>Br (decide (v2.1<n)) (0=0/\v2.2.1.length=v2.2.1.length/\v2.2.1.length+(List.take 2 (List.drop 0 [IntKind.i64.wrap (v2.1+(1:Int)),IntKind.i64.wrap ((0:Int)-IntKind.i64.wrap (v2.1+(1:Int)))])).length<=Bj/\0=0/\(v2.2.1++List.take 2 (List.drop 0 [IntKind.i64.wrap (v2.1+(1:Int)),IntKind.i64.wrap ((0:Int)-IntKind.i64.wrap (v2.1+(1:Int)))])).length=(v2.2.1++List.take 2 (List.drop 0 [IntKind.i64.wrap (v2.1+(1:Int)),IntKind.i64.wrap ((0:Int)-IntKind.i64.wrap (v2.1+(1:Int)))])).length/\k3 (IntKind.i64.wrap (v2.1+(1:Int)),v2.2.1++List.take 2 (List.drop 0 [IntKind.i64.wrap (v2.1+(1:Int)),IntKind.i64.wrap ((0:Int)-IntKind.i64.wrap (v2.1+(1:Int)))]),())) (P (List.take v2.2.1.length (List.drop 0 v2.2.1)))) ((0:Int),[],PUnit.unit))=fnW Da (look []) Ic Try.f117 (n,()) P:=by kernel_rfl
theorem LX (p:Int×ByteArray×List (List Int)×Unit) (s:List Int) (l:Int) (P:List Int->Prop):(∃(y4:List Int),idx p.2.2.1 (IntKind.i64.wrap ((if true=true then if IntKind.i64.wrap ((0:Int)-l)>l then IntKind.i64.wrap ((0:Int)-l) else l else if IntKind.i64.wrap ((0:Int)-l)<l then IntKind.i64.wrap ((0:Int)-l) else l)-(1:Int)))=some y4/\Br (decide (l<(0:Int))) (∃(y5:List Int),Ks.fn (y4,())=some y5/\0=0/\0=([]:List Int).length/\Bs (λ(v6:Int×List Int×PUnit) (k7:Int×List Int×PUnit->Prop)=>Br (decide (v6.1<(↑s.length:Int))) (∃(y8:Int),idx s v6.1=some y8/\ ∃(y9:Int),idx y5 y8=some y9/\0=0/\v6.2.1.length=v6.2.1.length/\v6.2.1.length+(List.take 1 (List.drop 0 [y9])).length<=Bj/\0=0/\(v6.2.1++List.take 1 (List.drop 0 [y9])).length=(v6.2.1++List.take 1 (List.drop 0 [y9])).length/\k7 (IntKind.i64.wrap (v6.1+(1:Int)),v6.2.1++List.take 1 (List.drop 0 [y9]),())) (P (List.take v6.2.1.length (List.drop 0 v6.2.1)))) ((0:Int),[],PUnit.unit)) (0=0/\0=([]:List Int).length/\Bs (λ(v5:Int×List Int×PUnit) (k6:Int×List Int×PUnit->Prop)=>Br (decide (v5.1<(↑s.length:Int))) (∃(y7:Int),idx s v5.1=some y7/\ ∃(y8:Int),idx y4 y7=some y8/\0=0/\v5.2.1.length=v5.2.1.length/\v5.2.1.length+(List.take 1 (List.drop 0 [y8])).length<=Bj/\0=0/\(v5.2.1++List.take 1 (List.drop 0 [y8])).length=(v5.2.1++List.take 1 (List.drop 0 [y8])).length/\k6 (IntKind.i64.wrap (v5.1+(1:Int)),v5.2.1++List.take 1 (List.drop 0 [y8]),())) (P (List.take v5.2.1.length (List.drop 0 v5.2.1)))) ((0:Int),[],PUnit.unit)))=fnW Da (look [(150,Ks)]) Pj Try.f115 (p,s,l,()) P:=by kernel_rfl
theorem Ig {xs:List Int} {i:Nat} (h:i<xs.length):Cx xs (i:Int)=xs[i]:=by
 unfold Cx
 rw [Int.toNat_natCast,List.getD_eq_getElem?_getD,List.getElem?_eq_getElem h];rfl
theorem Yh {xs:List Int} {y:Int} (h0:0<=y) (h:y<xs.length):idx xs y=some (Cx xs y):=by
 have hy:y.toNat<xs.length:=by omega
 have e:y=(y.toNat:Int):=by omega
 rw [e,Av hy,Ig hy]
theorem To (f:Nat->Nat) (g:Nat->Int) (m:Nat) (init:List Int):Vx f g (m+1) init=(Vx f g m init).set (f m) (g m):=by simp [Vx,List.range_succ]
theorem Vy (f:Nat->Nat) (g:Nat->Int) (m:Nat) (init:List Int):(Vx f g m init).length=init.length:=by
 induction m with
 |zero=>rfl
 |succ m ih=>rw [To,List.length_set,ih]
theorem ko (f:Nat->Nat) (g:Nat->Int) (init:List Int): ∀(m:Nat),(∀i j,i<m->j<m->f i=f j->i=j)-> ∀i,i<m->f i<init.length->(Vx f g m init)[f i]?=some (g i)
 |0,_,i,h,_=>absurd h (Nat.not_lt_zero _)
 |m+1,hf,i,hi,hl=>by
  rw [To]
  by_cases e:i=m
  ·subst e
   exact List.getElem?_set_self (by rw [Vy];exact hl)
  ·rw [List.getElem?_set_ne (λh=>e (hf i m hi (by omega) h.symm))]
   exact ko f g init m (λa b ha hb=>hf a b (by omega) (by omega)) i (by omega) hl
structure Uk (p:List Int):Prop where
 pos:1<=p.length
 len:p.length<=20
 row:Mv p.length p
 nodup:p.Nodup
theorem fQ {p:List Int} (h:Fu p=true):Uk p:=by
 obtain ⟨h1,h2,h3⟩:=Du.1 h
 refine ⟨h1,h2,λy hy=>?_,cw λj hj=>(h3 j hj hj).2.2⟩
 obtain ⟨j,hj,rfl⟩:=List.mem_iff_getElem.1 hy
 have:=h3 j hj hj
 omega
theorem Uk.inj {p:List Int} (h:Uk p) (i j:Nat) (hi:i<p.length) (hj:j<p.length) (e:(Cx p (i:Int)).toNat=(Cx p (j:Int)).toNat):i=j:=by
 rw [Ig hi,Ig hj] at e
 have h1:=h.row _ (List.getElem_mem hi)
 have h2:=h.row _ (List.getElem_mem hj)
 have e:p[i]=p[j]:=by omega
 refine Classical.byContradiction λEl=>?_
 rcases Nat.lt_or_gt_of_ne El with hl|hl
 ·exact List.pairwise_iff_getElem.1 h.nodup i j hi hj hl e
 ·exact List.pairwise_iff_getElem.1 h.nodup j i hj hi hl e.symm
theorem Uk.JU {p:List Int} (h:Uk p) (k:Nat) (hk:k<p.length): ∃i,i<p.length/\(Cx p (i:Int)).toNat=k:=by
 have hm:=(Wt (xs:=p) h.row).2 (om h.nodup) k hk
 obtain ⟨i,hi,e⟩:=List.mem_iff_getElem.1 hm
 exact ⟨i,hi,by rw [Ig hi,e];exact Int.toNat_natCast k⟩
theorem Uk.lt {p:List Int} (h:Uk p) {i:Nat} (hi:i<p.length):(Cx p (i:Int)).toNat<p.length:=by
 rw [Ig hi]
 have:=h.row _ (List.getElem_mem hi)
 omega
theorem lK (p:List Int):(Al p).length=p.length:=by unfold Al;rw [Vy,List.length_replicate]
theorem JB {p:List Int} (h:Uk p) {i:Nat} (hi:i<p.length):(Al p)[(Cx p (i:Int)).toNat]?=some (i:Int):=
 ko (λi=>(Cx p (i:Int)).toNat) (λi=>(i:Int)) _ p.length (λi j hi hj=>h.inj i j hi hj) i hi (by rw [List.length_replicate];exact h.lt hi)
theorem OS {p:List Int} (h:Uk p):Mv p.length (Al p):=by
 intro y hy
 obtain ⟨k,hk,rfl⟩:=List.mem_iff_getElem.1 hy
 have gi:k<p.length:=by rw [lK] at hk;exact hk
 obtain ⟨i,hi,rfl⟩:=h.JU k gi
 have:=JB h hi
 rw [List.getElem?_eq_getElem hk] at this
 rw [Option.some.inj this]
 omega
theorem Ns (p q:List Int):(Aa p q).length=p.length:=by simp [Aa]
theorem uV {p q:List Int} {n:Nat} (hp:Mv q.length p) (hq:Mv n q):Mv n (Aa p q):=by
 intro y hy
 obtain ⟨x,hx,rfl⟩:=List.mem_map.1 hy
 have h1:=hp x hx
 rw [show x=(x.toNat:Int) by omega,Ig (by omega)]
 exact hq _ (List.getElem_mem _)
theorem pe (p q:List Int) (h:p.length<=20/\Mv q.length p):fnW Da (look []) Ub Try.f156 (p,q,()) (λ(z:List Int)=>z=Aa p q):=by
 obtain ⟨h,hr⟩:=h
 refine Eq.mp (pP p q _) ?_
 refine ⟨⟨by omega,by show (p.length:Int)<(4294967296:Int)+1;omega⟩,rfl,rfl,rfl,?_⟩
 have Oq:=Ns p q
 refine Aq p.length (λv=>v.1) (λj v=>v.2.1.length=(Aa p q).length/\v.2.1.take j=(Aa p q).take j) rfl ⟨by rw [Oq];simp,by simp⟩ ?_
 rintro j ⟨i,ys,⟨⟩⟩ K hj hi ⟨h1,h2⟩ hK
 dsimp only at hi h1 h2⊢
 subst hi
 refine Br.dec (λhl=>?_) λhl=>?_
 ·have hl:j<p.length:=by omega
  have hy:=hr _ (List.getElem_mem hl)
  refine ⟨_,Av hl,_,Yh hy.1 hy.2,⟨by omega,by omega⟩,by rw [Int.toNat_natCast];omega,rfl,by rw [List.length_set],?_⟩
  rw [Ao (by omega),Int.toNat_natCast,Nat.zero_add]
  have Hg:j<(Aa p q).length:=by rw [Oq];exact hl
  have e:Cx q p[j]=(Aa p q)[j]:=by simp [Aa]
  rw [e]
  exact hK hl _ rfl ⟨by rw [List.length_set];exact h1,Kt Hg h1 h2⟩
 ·have:j=p.length:=by omega
  subst this
  rw [<-Oq,List.take_length,<-h1,List.take_length] at h2
  rw [List.drop_zero,List.take_length]
  exact h2
theorem Pn:Sound Try.prog 156 Ub:=
 Sound.Di Cb At mixed Try.func156 (by kernel_rfl) (by kernel_rfl) λx h=>pe x.1 x.2.1 h
theorem pf (p:List Int) (h:p.length<=20/\Mv p.length p):fnW Da (look []) Em Try.f175 (p,()) (λ(z:List Int)=>z=Al p):=by
 obtain ⟨h,hr⟩:=h
 refine Eq.mp (pQ p _) ?_
 refine ⟨⟨by omega,by show (p.length:Int)<(4294967296:Int)+1;omega⟩,rfl,rfl,rfl,?_⟩
 refine Aq p.length (λv=>v.1) (λj v=>v.2.1=Vx (λi=>(Cx p (i:Int)).toNat) (λi=>(i:Int)) j (List.replicate p.length 0)) rfl rfl ?_
 rintro j ⟨i,ys,⟨⟩⟩ K hj hi h1 hK
 dsimp only at hi h1⊢
 subst hi
 have hlen:ys.length=p.length:=by rw [h1,Vy,List.length_replicate]
 refine Br.dec (λhl=>?_) λhl=>?_
 ·have hl:j<p.length:=by omega
  have hy:=hr _ (List.getElem_mem hl)
  refine ⟨_,Av hl,⟨by omega,by omega⟩,by omega,rfl,by rw [List.length_set],?_⟩
  rw [Ao (by omega),Nat.zero_add]
  refine hK hl _ rfl ?_
  rw [To,<-h1,Ig hl]
 ·have:j=p.length:=by omega
  subst this
  rw [List.drop_zero,List.take_length]
  exact h1
theorem Po:Sound Try.prog 175 Em:=
 Sound.Di Cb At mixed Try.func175 (by kernel_rfl) (by kernel_rfl) λx h=>pf x.1 h
theorem EI (p:List Int) (h:p.length<=20/\Mv p.length p):fnW Da (look []) Em Try.f170 (p,()) (λ(z:List Int)=>z=Al p):=by
 obtain ⟨h,hr⟩:=h
 refine Eq.mp (GD p _) ?_
 refine ⟨⟨by omega,by show (p.length:Int)<(4294967296:Int)+1;omega⟩,rfl,rfl,rfl,?_⟩
 refine Aq p.length (λv=>v.1) (λj v=>v.2.1=Vx (λi=>(Cx p (i:Int)).toNat) (λi=>(i:Int)) j (List.replicate p.length 0)) rfl rfl ?_
 rintro j ⟨i,ys,⟨⟩⟩ K hj hi h1 hK
 dsimp only at hi h1⊢
 subst hi
 have hlen:ys.length=p.length:=by rw [h1,Vy,List.length_replicate]
 refine Br.dec (λhl=>?_) λhl=>?_
 ·have hl:j<p.length:=by omega
  have hy:=hr _ (List.getElem_mem hl)
  refine ⟨_,Av hl,⟨by omega,by omega⟩,by omega,rfl,by rw [List.length_set],?_⟩
  rw [Ao (by omega),Nat.zero_add]
  refine hK hl _ rfl ?_
  rw [To,<-h1,Ig hl]
 ·have:j=p.length:=by omega
  subst this
  rw [List.drop_zero,List.take_length]
  exact h1
theorem pG:Sound Try.prog 170 Em:=
 Sound.Di Cb At mixed Try.func170 (by kernel_rfl) (by kernel_rfl) λx h=>EI x.1 h
theorem pj (p:List Int) (h:Fu p=true):fnW Da (look [(169,En),(170,Em)]) Ks Try.f150 (p,()) (λ(z:List Int)=>z=Al p):=by
 have hp:=fQ h
 have hs:short p:=by have:=hp.len;unfold short;omega
 refine Eq.mp (pS p _) ⟨_,if_pos hs,⟨λhe=>?_,λ_=>⟨_,if_pos ⟨hp.len,hp.row⟩,rfl⟩⟩⟩
 exact absurd h (Cv he)
theorem iD:Sound Try.prog 150 Ks:=
 Sound.Di Cb (Ah Re (Ah pG At)) mixed Try.func150 (by kernel_rfl) (by kernel_rfl) λx h=>pj x.1 h
theorem Za (j:Nat):upto (j+1)=upto j++ [(j:Int)]:=by simp [upto,List.range_succ]
theorem yX (n:Int) (h:0<=n/\n<=20):fnW Da (look []) Cd Try.f124 (n,()) (λ(z:List Int)=>z=upto n.toNat):=by
 refine Eq.mp (zN n _) ⟨rfl,rfl,?_⟩
 refine Aq n.toNat (λv=>v.1) (λj v=>v.2.1=upto j) rfl rfl ?_
 rintro j ⟨i,ys,⟨⟩⟩ K hj hi h1 hK
 dsimp only at hi h1⊢
 subst hi h1
 refine Br.dec (λhl=>?_) λhl=>?_
 ·refine ⟨rfl,rfl,?_,rfl,rfl,?_⟩
  ·show (upto j).length+1<=4294967296
   rw [Pr];omega
  ·rw [Ao (by omega)]
   exact hK (by omega) _ rfl (Za j).symm
 ·have:j=n.toNat:=by omega
  subst this
  rw [List.drop_zero,List.take_length]
theorem nR:Sound Try.prog 124 Cd:=
 Sound.Di Cb At mixed Try.func124 (by kernel_rfl) (by kernel_rfl) λx h=>yX x.1 h
theorem Nl {g:List (List Int)} {k:Nat} (h:k<g.length):Af g ((k:Int)+1)=g[k]:=by
 unfold Af
 rw [if_pos (by omega),show ((k:Int)+1-1).toNat=k by omega,List.getD_eq_getElem?_getD,List.getElem?_eq_getElem h];rfl
theorem Nk {g:List (List Int)} {k:Nat} (h:k<g.length):Af g (-((k:Int)+1))=Al g[k]:=by
 unfold Af
 rw [if_neg (by omega),show (-(-((k:Int)+1))-1).toNat=k by omega,List.getD_eq_getElem?_getD,List.getElem?_eq_getElem h];rfl
theorem Ox {n:Nat} {l:Int} (h:Ft n l): ∃k:Nat,k<n/\(l=(k:Int)+1\/l= -((k:Int)+1)):=by
 obtain ⟨h1,h2,h3⟩:=h
 by_cases h0:0<l
 ·exact ⟨(l-1).toNat,by omega, .inl (by omega)⟩
 ·exact ⟨(-l-1).toNat,by omega, .inr (by omega)⟩
theorem yY (g:List (List Int)) (l:Int) (h:Ft (List.length g) l/\List.length g<=8/\ ∀p∈g,Fu p=true):fnW Da (look [(175,Em)]) Ra Try.f157 (g,l,()) (λ(z:List Int)=>z=Af g l):=by
 obtain ⟨hl,h8,hp⟩:=h
 refine Eq.mp (zO g l _) ?_
 obtain ⟨k,hk,rfl|rfl⟩:=Ox hl
 ·refine Br.dec (λ_=>?_) λhn=>by omega
  rw [Bt (by omega) (by omega),show (k:Int)+1-1=(k:Int) by omega]
  exact ⟨_,Av hk,(Nl hk).symm⟩
 ·refine Br.dec (λhn=>by omega) λ_=>?_
  rw [Bt (n:=0- -((k:Int)+1)) (by omega) (by omega),Bt (by omega) (by omega),show (0:Int)- -((k:Int)+1)-1=(k:Int) by omega]
  have:=fQ (hp _ (List.getElem_mem hk))
  exact ⟨_,Av hk,_,if_pos ⟨this.len,this.row⟩,(Nk hk).symm⟩
theorem nS:Sound Try.prog 157 Ra:=
 Sound.Di Cb (Ah Po At) mixed Try.func157 (by kernel_rfl) (by kernel_rfl) λx h=>yY x.1 x.2.1 h
theorem Vc (j:Nat):Ag (j+1)=Ag j++ [(j:Int)+1,-((j:Int)+1)]:=by simp [Ag,List.range_succ,List.flatMap_append]
theorem Kn (j:Nat):(Ag j).length=2*j:=by
 induction j with
 |zero=>rfl
 |succ j ih=>rw [Vc,List.length_append,ih];simp only [List.length_cons,List.length_nil];omega
theorem Il {n:Nat} {l:Int} (h:l∈Ag n):Ft n l:=by
 unfold Ag at h
 obtain ⟨k,hk,hl⟩:=List.mem_flatMap.1 h
 have hk:=List.mem_range.1 hk
 simp only [List.mem_cons,List.not_mem_nil,or_false] at hl
 unfold Ft
 omega
theorem EG (n:Int) (h:0<=n/\n<=8):fnW Da (look []) Ic Try.f117 (n,()) (λ(z:List Int)=>z=Ag n.toNat):=by
 refine Eq.mp (GB n _) ⟨rfl,rfl,?_⟩
 refine Aq n.toNat (λv=>v.1) (λj v=>v.2.1=Ag j) rfl rfl ?_
 rintro j ⟨i,ys,⟨⟩⟩ K hj hi h1 hK
 dsimp only at hi h1⊢
 subst hi h1
 refine Br.dec (λhl=>?_) λhl=>?_
 ·refine ⟨rfl,rfl,?_,rfl,rfl,?_⟩
  ·show (Ag j).length+2<=4294967296
   rw [Kn];omega
  ·have e1:IntKind.i64.wrap ((j:Int)+1)=(j:Int)+1:=Bt (by omega) (by omega)
   have e2:IntKind.i64.wrap ((0:Int)-((j:Int)+1))= -((j:Int)+1):=by rw [Bt (by omega) (by omega)];omega
   rw [e1,e2]
   exact hK (by omega) _ rfl (Vc j).symm
 ·have:j=n.toNat:=by omega
  subst this
  rw [List.drop_zero,List.take_length]
theorem Xg:Sound Try.prog 117 Ic:=
 Sound.Di Cb At mixed Try.func117 (by kernel_rfl) (by kernel_rfl) λx h=>EG x.1 h
structure Valid (p:PP):Prop where
 n:1<=p.1/\p.1<=20
 gK:1<=p.2.2.1.length/\p.2.2.1.length<=8
 perm: ∀m∈p.2.2.1,Fu m=true
 len: ∀m∈p.2.2.1,(m.length:Int)=p.1
theorem valid {p:PP} (h:Az p=true):Valid p:=by
 have h0:=zK h
 obtain ⟨h1,_,_⟩:=Du.1 h
 obtain ⟨_,_,h4⟩:=Du.1 h1
 exact ⟨⟨h0.1,h0.2.1⟩,h0.2.2,λm hm=>(Du.1 (h4 m hm)).2,λm hm=>(Du.1 (h4 m hm)).1⟩
theorem jm {p:PP} (h:Valid p) {l:Int} (hl:Ft (List.length p.2.2.1) l):((Af p.2.2.1 l).length:Int)=p.1/\Mv (Af p.2.2.1 l).length (Af p.2.2.1 l):=by
 obtain ⟨k,hk,rfl|rfl⟩:=Ox hl
 ·rw [Nl hk]
  exact ⟨h.len _ (List.getElem_mem hk),(fQ (h.perm _ (List.getElem_mem hk))).row⟩
 ·rw [Nk hk,lK]
  exact ⟨h.len _ (List.getElem_mem hk),OS (fQ (h.perm _ (List.getElem_mem hk)))⟩
theorem uG (s y:List Int) (P:List Int->Prop) (h1:s.length<=20) (h2:Mv y.length s) (h3:P (Aa s y)):
  Bs
   (λ(v5:Int×List Int×PUnit) (k6:Int×List Int×PUnit->Prop)=>
    Br (decide (v5.1<(↑s.length:Int)))
     (∃(y7:Int),
      idx s v5.1=some y7/\
       ∃(y8:Int),
        idx y y7=some y8/\
         (0:Nat)=(0:Nat)/\
          v5.2.1.length=v5.2.1.length/\
           v5.2.1.length+(List.take (1:Nat) (List.drop (0:Nat) [y8])).length<=Bj/\
            (0:Nat)=(0:Nat)/\
             (v5.2.1++List.take (1:Nat) (List.drop (0:Nat) [y8])).length=(v5.2.1++List.take (1:Nat) (List.drop (0:Nat) [y8])).length/\
              k6 (IntKind.i64.wrap (v5.1+(1:Int)),v5.2.1++List.take (1:Nat) (List.drop (0:Nat) [y8]),()))
     (P (List.take v5.2.1.length (List.drop (0:Nat) v5.2.1))))
   ((0:Int),([]:List Int),PUnit.unit):=by
 refine Aq s.length (λv=>v.1) (λj v=>v.2.1=(s.take j).map (Cx y)) rfl (by simp) ?_
 rintro j ⟨i,ys,⟨⟩⟩ K hj hi hR hK
 dsimp only at hi hR⊢
 subst hi hR
 refine Br.dec (λhl=>?_) λhl=>?_
 ·have hl:j<s.length:=by omega
  have hy:=h2 _ (List.getElem_mem hl)
  refine ⟨_,Av hl,_,Yh hy.1 hy.2,rfl,rfl,?_,rfl,rfl,?_⟩
  ·show ((s.take j).map (Cx y)).length+1<=4294967296
   rw [List.length_map,List.length_take];omega
  ·rw [Ao (by omega)]
   refine hK hl _ rfl ?_
   dsimp only
   rw [List.take_succ_eq_append_getElem hl,List.map_append]
   rfl
 ·have:j=s.length:=by omega
  subst this
  rw [List.drop_zero,List.take_length,List.take_length]
  exact h3
theorem JX (p:PP) (s:List Int) (l:Int) (h:Az p=true/\List.length s<=20/\(∀y∈s,0<=y/\y<p.1)/\Ft (List.length p.2.2.1) l):fnW Da (look [(150,Ks)]) Pj Try.f115 (p,s,l,()) (λ(z:List Int)=>z=Aa s (Af p.2.2.1 l)):=by
 obtain ⟨hv,hs,hr,hl⟩:=h
 have hv:=valid hv
 have hf:=hv.gK
 refine Eq.mp (LX p s l _) ?_
 have II:=jm hv hl
 have Qm:Mv (Af p.2.2.1 l).length s:= λy hy=>by have:=hr y hy;omega
 obtain ⟨k,hk,rfl|rfl⟩:=Ox hl
 ·rw [if_pos rfl,Bt (n:=0-((k:Int)+1)) (by omega) (by omega),if_neg (by omega),Bt (by omega) (by omega),show (k:Int)+1-1=(k:Int) by omega]
  refine ⟨_,Av hk,Br.dec (λhn=>by omega) λ_=>⟨rfl,rfl,?_⟩⟩
  rw [Nl hk] at Qm⊢
  exact uG s _ (λz=>z=Aa s p.2.2.1[k]) hs Qm rfl
 ·rw [if_pos rfl,Bt (n:=0- -((k:Int)+1)) (by omega) (by omega),if_pos (by omega),Bt (by omega) (by omega),show (0:Int)- -((k:Int)+1)-1=(k:Int) by omega]
  refine ⟨_,Av hk,Br.dec (λ_=>⟨_,if_pos (hv.perm _ (List.getElem_mem hk)),rfl,rfl,?_⟩) λhn=>by omega⟩
  rw [Nk hk] at Qm⊢
  exact uG s (Al p.2.2.1[k]) (λz=>z=Aa s (Al p.2.2.1[k])) hs Qm rfl
theorem aA:Sound Try.prog 115 Pj:=
 Sound.Di Cb (Ah iD At) mixed Try.func115 (by kernel_rfl) (by kernel_rfl) λx h=>JX x.1 x.2.1 x.2.2.1 h
end Go.Proofs.Ytjbdmibbbpdnnaa

namespace Go.Proofs.Ytjbdmibbbpdnnaa
open Go.RowKit
abbrev rL:CK:= .row tI 2
abbrev xLL:CK:= .Dt tL 25
def Gy (k:Int) (n:Nat):List Int:=(List.range n).map λi=>k+(i:Nat)
def Gp:Int->List (List Int)->List (List Int)
 |_,[]=> []
 |k,r::rs=>Gy k r.length::Gp (k+r.length) rs
def Cj:List (List Int)->Nat
 | []=>0
 |r::rs=>r.length+Cj rs
def low (k:Int):Prop:=0<=k/\k<=1099511627776
noncomputable abbrev Pk:MSpec:=fM [none,none] [(true,rL),(false, .Ew tI)] false [none] [.Ew tI] (λx=>short x.1/\low x.2.1) (λx=>((x.2.1+List.length x.1,()),(Gy x.2.1 (List.length x.1),())))
noncomputable abbrev Yr:MSpec:=fM [none,none] [(true,xLL),(false, .Ew tI)] false [none] [.Ew tI] (λx=>Ge x.1/\low x.2.1/\low (x.2.1+Cj x.1)) (λx=>((x.2.1+Cj x.1,()),(Gp x.2.1 x.1,())))
noncomputable abbrev Lu:MSpec:=fM [some 3,none] [(false, .Ew tI),(false, .Ew .str),(true,xLL),(false, .Ew tI)] false [none] [.Ew tI]
 (λx=>Ge x.2.2.1/\low x.2.2.2.1/\low (x.2.2.2.1+Cj x.2.2.1)) (λx=>((x.2.2.2.1+Cj x.2.2.1,()),(Gp x.2.2.2.1 x.2.2.1,())))
def ia (xs:List Int) (k:Int):Int:=if xs=Gy k xs.length then k+xs.length else-1
noncomputable abbrev ay:Spec:=Di (.pair tL (.pair tI .unit)) tI false true (λx=>short x.1/\low x.2.1) (λx=>ia x.1 x.2.1)
noncomputable abbrev Ml:MSpec:=fM [none] [(false, .Ew tL)] false [none] [rL] (λx=>short x.1) (λx=>((x.1,()),()))
noncomputable abbrev dK:MSpec:=fM [none] [(false, .Ew iS)] false [none] [xLL] (λx=>Ge x.1) (λx=>((x.1,()),()))
noncomputable abbrev Jt:MSpec:=fM [some 3] [(false, .Ew tI),(false, .Ew .str),(false, .Ew iS)] false [some 3] [.Ew tI, .Ew .str,xLL] (λx=>Cp (x.1,x.2.1,x.2.2.1,())) (λx=>((x.1,x.2.1,x.2.2.1,()),()))
theorem QD (xs:List Int) (k:Int) (P:((Int×Unit)×List Int×Unit)->Prop):(0=0/\xs.length=xs.length/\Bs (λ(v3:Int×Int×List Int×PUnit) (k4:Int×Int×List Int×PUnit->Prop)=>Br (decide (v3.2.1<(↑v3.2.2.1.length:Int))) (((0:Int)<=v3.2.1/\v3.2.1<(↑v3.2.2.1.length:Int))/\0+v3.2.1.toNat<v3.2.2.1.length/\0=0/\v3.2.2.1.length=(v3.2.2.1.set (0+v3.2.1.toNat) v3.1).length/\k4 (IntKind.i64.wrap (v3.1+(1:Int)),IntKind.i64.wrap (v3.2.1+(1:Int)),v3.2.2.1.set (0+v3.2.1.toNat) v3.1,())) (P ((v3.1,()),v3.2.2.1,()))) (k,(0:Int),xs,PUnit.unit))=fnMW Xj (look []) Pk Try.f26 (xs,k,()) P:=by kernel_rfl
theorem MA (xs:List (List Int)) (k:Int) (P:((Int×Unit)×List (List Int)×Unit)->Prop):(0=0/\xs.length=xs.length/\Bs (λ(v3:Int×Int×List (List Int)×PUnit) (k4:Int×Int×List (List Int)×PUnit->Prop)=>Br (decide (v3.2.1<(↑v3.2.2.1.length:Int))) (((0:Int)<=v3.2.1/\v3.2.1<(↑v3.2.2.1.length:Int))/\ ∃(y5:List Int),v3.2.2.1[0+v3.2.1.toNat]?=some y5/\ ∃(y6:List Int),v3.2.2.1[0+v3.2.1.toNat]?=some y6/\ ∃(y7:(Int×PUnit)×List Int×PUnit),Pk.fn (y6,v3.1,())=some y7/\ ∃(y8:List Int),v3.2.2.1[0+v3.2.1.toNat]?=some y8/\y7.2.1.length=y8.length/\0=0/\v3.2.2.1.length=(v3.2.2.1.set (0+v3.2.1.toNat) y7.2.1).length/\k4 (y7.1.1,IntKind.i64.wrap (v3.2.1+(1:Int)),v3.2.2.1.set (0+v3.2.1.toNat) y7.2.1,())) (P ((v3.1,()),v3.2.2.1,()))) (k,(0:Int),xs,PUnit.unit))=fnMW Xj (look [(26,Pk)]) Yr Try.f41 (xs,k,()) P:=by kernel_rfl
theorem ua (n:Int) (s:ByteArray) (b:List (List Int)) (k:Int) (P:((Int×Unit)×List (List Int)×Unit)->Prop):(0=0/\b.length=b.length/\ ∃(y5:(Int×PUnit)×List (List Int)×PUnit),Yr.fn (b,k,())=some y5/\(y5.2.1.length=b.length/\b.length=b.length)/\P ((y5.1.1,()),y5.2.1,()))=fnMW Xj (look [(41,Yr)]) Lu Try.f25 (n,s,b,k,()) P:=by kernel_rfl
theorem QB (xs:List Int) (k:Int) (P:Int->Prop):(Bs (λ(v3:Int×Int×PUnit) (k4:Int×Int×PUnit->Prop)=>Br (decide (v3.2.1<(↑xs.length:Int))) (∃(y5:Int),idx xs v3.2.1=some y5/\Br (y5 !=v3.1) (P (-1:Int)) (k4 (IntKind.i64.wrap (v3.1+(1:Int)),IntKind.i64.wrap (v3.2.1+(1:Int)),()))) (P v3.1)) (k,(0:Int),PUnit.unit))=fnW Da (look []) ay Try.f27 (xs,k,()) P:=by kernel_rfl
theorem WZ (xs:List Int) (P:((List Int×Unit)×Unit)->Prop):(((0:Int)<=(↑xs.length:Int)/\(↑xs.length:Int)<(↑Bj:Int)+(1:Int))/\(↑xs.length:Int)=(↑xs.length:Int)/\0=0/\(List.replicate (↑xs.length:Int).toNat (Int.ofNat (nat_lit 0))).length=(List.replicate (↑xs.length:Int).toNat (Int.ofNat (nat_lit 0))).length/\Bs (λ(v2:Int×List Int×PUnit) (k3:Int×List Int×PUnit->Prop)=>Br (decide (v2.1<(↑xs.length:Int))) (∃(y4:Int),idx xs v2.1=some y4/\((0:Int)<=v2.1/\v2.1<(↑v2.2.1.length:Int))/\0+v2.1.toNat<v2.2.1.length/\0=0/\v2.2.1.length=(v2.2.1.set (0+v2.1.toNat) y4).length/\k3 (IntKind.i64.wrap (v2.1+(1:Int)),v2.2.1.set (0+v2.1.toNat) y4,())) (P ((List.take v2.2.1.length (List.drop 0 v2.2.1),()),()))) ((0:Int),List.replicate (↑xs.length:Int).toNat (Int.ofNat (nat_lit 0)),PUnit.unit))=fnMW Xj (look []) Ml Try.f17 (xs,()) P:=by kernel_rfl
theorem QI (xs:List (List Int)) (P:((List (List Int)×Unit)×Unit)->Prop):(((0:Int)<=(↑xs.length:Int)/\(↑xs.length:Int)<(↑Bj:Int)+(1:Int))/\(↑xs.length:Int)=(↑xs.length:Int)/\0=0/\(List.replicate (↑xs.length:Int).toNat ([]:List Int)).length=(List.replicate (↑xs.length:Int).toNat ([]:List Int)).length/\Bs (λ(v2:Int×List (List Int)×PUnit) (k3:Int×List (List Int)×PUnit->Prop)=>Br (decide (v2.1<(↑xs.length:Int))) (∃(y4:List Int),idx xs v2.1=some y4/\ ∃(y5:(List Int×PUnit)×PUnit),Ml.fn (y4,())=some y5/\((0:Int)<=v2.1/\v2.1<(↑v2.2.1.length:Int))/\0+v2.1.toNat<v2.2.1.length/\0=0/\v2.2.1.length=(v2.2.1.set (0+v2.1.toNat) (List.take y5.1.1.length (List.drop 0 y5.1.1))).length/\k3 (IntKind.i64.wrap (v2.1+(1:Int)),v2.2.1.set (0+v2.1.toNat) (List.take y5.1.1.length (List.drop 0 y5.1.1)),())) (P ((List.take v2.2.1.length (List.drop 0 v2.2.1),()),()))) ((0:Int),List.replicate (↑xs.length:Int).toNat ([]:List Int),PUnit.unit))=fnMW Xj (look [(17,Ml)]) dK Try.f36 (xs,()) P:=by kernel_rfl
theorem xq (n:Int) (s:ByteArray) (b:List (List Int)) (P:((Int×ByteArray×List (List Int)×Unit)×Unit)->Prop):(∃(y4:(List (List Int)×PUnit)×PUnit),dK.fn (b,())=some y4/\P ((n,s,List.take y4.1.1.length (List.drop 0 y4.1.1),()),()))=fnMW Xj (look [(36,dK)]) Jt Try.f16 (n,s,b,()) P:=by kernel_rfl
theorem Bh {α:Type} (xs:List α):List.take xs.length (List.drop 0 xs)=xs:=by rw [List.drop_zero,List.take_length]
theorem Lj (k:Int) (n:Nat):(Gy k n).length=n:=by simp [Gy]
theorem ib (k:Int) (n:Nat):Gy k (n+1)=Gy k n++ [k+(n:Nat)]:=by simp [Gy,List.range_succ]
theorem ct (a b:List (List Int)):Cj (a++b)=Cj a+Cj b:=by
 induction a with
 |nil=>simp [Cj]
 |cons r a ih=>simp only [List.cons_append,Cj,ih];omega
theorem Ym: ∀(a b:List (List Int)) (k:Int),Gp k (a++b)=Gp k a++Gp (k+Cj a) b
 | [],b,k=>by simp [Gp,Cj]
 |r::a,b,k=>by
  simp only [List.cons_append,Gp,Cj,Ym a b]
  congr 3
  omega
theorem Wz: ∀(xs:List (List Int)) (k:Int),(Gp k xs).length=xs.length
 | [],_=>rfl
 |r::xs,k=>by simp [Gp,Wz xs]
theorem sE {xs:List (List Int)} {j:Nat} (h:j<xs.length):Cj (xs.drop j)=xs[j].length+Cj (xs.drop (j+1)):=by
 rw [List.drop_eq_getElem_cons h];rfl
theorem sF {xs:List (List Int)} {j:Nat} (h:j<xs.length):Cj (xs.take (j+1))=Cj (xs.take j)+xs[j].length:=by
 rw [List.take_succ_eq_append_getElem h,ct];simp [Cj]
theorem p6 (xs:List (List Int)) (j:Nat):Cj (xs.take j)+Cj (xs.drop j)=Cj xs:=by
 rw [<-ct,List.take_append_drop]
theorem PB (xs:List Int) (k:Int) (h:short xs/\low k):fnMW Xj (look []) Pk Try.f26 (xs,k,()) (λ(z:(Int×Unit)×List Int×Unit)=>z=((k+xs.length,()),(Gy k xs.length,()))):=by
 obtain ⟨h1,h2,h3⟩:=h
 unfold short at h1
 refine Eq.mp (QD xs k _) ⟨rfl,rfl,?_⟩
 refine Aq xs.length (λv=>v.2.1) (λj v=>v.1=k+(j:Nat)/\v.2.2.1.length=xs.length/\v.2.2.1.take j=Gy k j) rfl ⟨by simp,rfl,by simp [Gy]⟩ ?_
 rintro j ⟨k',i,ys,⟨⟩⟩ K hj hi ⟨g1,g2,g3⟩ hK
 dsimp only at hi g1 g2 g3⊢
 subst hi;subst g1
 refine Br.dec (λhl=>?_) λhl=>?_
 ·have hl:j<ys.length:=by omega
  refine ⟨⟨by omega,by omega⟩,by rw [Int.toNat_natCast];omega,rfl,by rw [List.length_set],?_⟩
  rw [Ao (by omega),Int.toNat_natCast,Nat.zero_add,Bt (by omega) (by omega)]
  refine hK (by omega) _ rfl ⟨by dsimp only;omega,by rw [List.length_set];exact g2,?_⟩
  rw [List.take_succ_eq_append_getElem (by rw [List.length_set];exact hl),List.take_set_of_le (Nat.le_refl j),g3,List.getElem_set_self,ib]
 ·have s7:j=xs.length:=by omega
  subst s7
  rw [<-g2,List.take_length,g2] at g3
  rw [g3]
theorem kR:Bz Try.prog 26 Pk:=
 Bz.fM Vl At mixed Try.func26 (by kernel_rfl) (by kernel_rfl) λx h=>PB x.1 x.2.1 h
theorem KA (xs:List (List Int)) (k:Int) (h:Ge xs/\low k/\low (k+Cj xs)):fnMW Xj (look [(26,Pk)]) Yr Try.f41 (xs,k,()) (λ(z:(Int×Unit)×List (List Int)×Unit)=>z=((k+Cj xs,()),(Gp k xs,()))):=by
 obtain ⟨⟨h1,h4⟩,⟨h2,h3⟩,h5,h6⟩:=h
 refine Eq.mp (MA xs k _) ⟨rfl,rfl,?_⟩
 refine Aq xs.length (λv=>v.2.1) (λj v=>v.1=k+(Cj (xs.take j):Nat)/\v.2.2.1.length=xs.length/\v.2.2.1.take j=Gp k (xs.take j)/\v.2.2.1.drop j=xs.drop j) rfl ⟨by simp [Cj],rfl,by simp [Gp],rfl⟩ ?_
 rintro j ⟨k',i,ys,⟨⟩⟩ K hj hi ⟨g1,g2,g3,g4⟩ hK
 dsimp only at hi g1 g2 g3 g4⊢
 subst hi;subst g1
 refine Br.dec (λhl=>?_) λhl=>?_
 ·have hl:j<ys.length:=by omega
  have XN:j<xs.length:=by omega
  have hy:ys[j]?=some xs[j]:=by
   have:(ys.drop j)[0]?=(xs.drop j)[0]?:=by rw [g4]
   simpa [List.getElem?_drop,List.getElem?_eq_getElem XN] using this
  have GO:=p6 xs j
  have htk:=sF XN
  have hdr:=sE XN
  refine ⟨⟨by omega,by omega⟩,?_⟩
  simp only [Int.toNat_natCast,Nat.zero_add]
  have Afk:low (k+(Cj (xs.take j):Nat)):=⟨by omega,by omega⟩
  refine ⟨_,hy,_,hy,_,if_pos ⟨h4 _ (List.getElem_mem XN),Afk⟩,_,hy,Lj _ _,trivial,by rw [List.length_set],?_⟩
  rw [Ao (by omega)]
  refine hK XN _ rfl ⟨by dsimp only;omega,by rw [List.length_set];exact g2,?_,?_⟩
  ·rw [List.take_succ_eq_append_getElem (by rw [List.length_set];exact hl),List.take_set_of_le (Nat.le_refl j),g3,List.getElem_set_self,List.take_succ_eq_append_getElem XN,Ym]
   rfl
  ·dsimp only
   rw [List.drop_set_of_lt (by omega)]
   have e1:ys.drop (j+1)=(ys.drop j).drop 1:=by rw [List.drop_drop]
   rw [e1,g4,List.drop_drop]
 ·have s7:j=xs.length:=by omega
  subst s7
  rw [<-g2,List.take_length,g2,List.take_length] at g3
  rw [g3,List.take_length]
theorem tw:Bz Try.prog 41 Yr:=
 Bz.fM Vl (Hj kR At) mixed Try.func41 (by kernel_rfl) (by kernel_rfl) λx h=>KA x.1 x.2.1 h
theorem sM (n:Int) (s:ByteArray) (b:List (List Int)) (k:Int) (h:Ge b/\low k/\low (k+Cj b)):fnMW Xj (look [(41,Yr)]) Lu Try.f25 (n,s,b,k,()) (λ(z:(Int×Unit)×List (List Int)×Unit)=>z=((k+Cj b,()),(Gp k b,()))):=by
 exact Eq.mp (ua n s b k _) ⟨rfl,rfl,_,if_pos h,⟨Wz _ _,rfl⟩,rfl⟩
theorem jO:Bz Try.prog 25 Lu:=
 Bz.fM Vl (Hj tw At) mixed Try.func25 (by kernel_rfl) (by kernel_rfl) λx h=>sM x.1 x.2.1 x.2.2.1 x.2.2.2.1 h
theorem OZ (xs:List Int) (k:Int) (h:short xs/\low k):fnW Da (look []) ay Try.f27 (xs,k,()) (λ(z:Int)=>z=ia xs k):=by
 obtain ⟨h1,h2,h3⟩:=h
 unfold short at h1
 refine Eq.mp (QB xs k _) ?_
 refine Aq xs.length (λv=>v.2.1) (λj v=>v.1=k+(j:Nat)/\xs.take j=Gy k j) rfl ⟨by simp,by simp [Gy]⟩ ?_
 rintro j ⟨k',i,⟨⟩⟩ K hj hi ⟨g1,g3⟩ hK
 dsimp only at hi g1 g3⊢
 subst hi;subst g1
 refine Br.dec (λhl=>?_) λhl=>?_
 ·have hl:j<xs.length:=by omega
  refine ⟨_,Av hl,λEl=>?_,λhe=>?_⟩
  ·simp only [bne_iff_ne,ne_eq] at El
   unfold ia
   rw [if_neg]
   intro he
   refine El ?_
   have e1:xs[j]?=(Gy k xs.length)[j]?:=by rw [<-he]
   rw [List.getElem?_eq_getElem hl] at e1
   simpa [Gy,hl] using e1
  ·simp only [bne_eq_false_iff_eq] at he
   rw [Ao (by omega),Bt (by omega) (by omega)]
   refine hK hl _ rfl ⟨by dsimp only;omega,?_⟩
   rw [List.take_succ_eq_append_getElem hl,g3,he,ib]
 ·have s7:j=xs.length:=by omega
  subst s7
  rw [List.take_length] at g3
  exact (if_pos g3).symm
theorem wU:Sound Try.prog 27 ay:=
 Sound.Di Cb At mixed Try.func27 (by kernel_rfl) (by kernel_rfl) λx h=>OZ x.1 x.2.1 h
theorem eB (k:Int) (n:Nat):ia (Gy k n) k=k+n:=by unfold ia;rw [Lj,if_pos rfl]
theorem VU (xs:List Int) (h:short xs):fnMW Xj (look []) Ml Try.f17 (xs,()) (λ(z:(List Int×Unit)×Unit)=>z=((xs,()),())):=by
 unfold short at h
 refine Eq.mp (WZ xs _) ?_
 refine ⟨⟨by omega,by show (xs.length:Int)<(4294967296:Int)+1;omega⟩,rfl,rfl,rfl,?_⟩
 refine Aq xs.length (λv=>v.1) (λj v=>v.2.1.length=xs.length/\v.2.1.take j=xs.take j) rfl ⟨by simp,by simp⟩ ?_
 rintro j ⟨i,ys,⟨⟩⟩ K hj hi ⟨h1,h2⟩ hK
 dsimp only at hi h1 h2⊢
 subst hi
 refine Br.dec (λhl=>?_) λhl=>?_
 ·have hl:j<xs.length:=by omega
  refine ⟨_,Av hl,⟨by omega,by omega⟩,by rw [Int.toNat_natCast];omega,rfl,by rw [List.length_set],?_⟩
  rw [Ao (by omega),Int.toNat_natCast,Nat.zero_add]
  exact hK hl _ rfl ⟨by rw [List.length_set];exact h1,Kt hl h1 h2⟩
 ·have:j=xs.length:=by omega
  subst this
  rw [List.take_length,<-h1,List.take_length] at h2
  rw [Bh,h2]
theorem nZ:Bz Try.prog 17 Ml:=
 Bz.fM Vl At mixed Try.func17 (by kernel_rfl) (by kernel_rfl) λx h=>VU x.1 h
theorem PH (xs:List (List Int)) (h:Ge xs):fnMW Xj (look [(17,Ml)]) dK Try.f36 (xs,()) (λ(z:(List (List Int)×Unit)×Unit)=>z=((xs,()),())):=by
 obtain ⟨h,h4⟩:=h
 refine Eq.mp (QI xs _) ?_
 refine ⟨⟨by omega,by show (xs.length:Int)<(4294967296:Int)+1;omega⟩,rfl,rfl,rfl,?_⟩
 refine Aq xs.length (λv=>v.1) (λj v=>v.2.1.length=xs.length/\v.2.1.take j=xs.take j) rfl ⟨by simp,by simp⟩ ?_
 rintro j ⟨i,ys,⟨⟩⟩ K hj hi ⟨h1,h2⟩ hK
 dsimp only at hi h1 h2⊢
 subst hi
 refine Br.dec (λhl=>?_) λhl=>?_
 ·have hl:j<xs.length:=by omega
  refine ⟨_,Av hl,_,if_pos (h4 _ (List.getElem_mem hl)),⟨by omega,by omega⟩,by rw [Int.toNat_natCast];omega,rfl,by rw [List.length_set],?_⟩
  rw [Ao (by omega),Int.toNat_natCast,Nat.zero_add]
  dsimp only
  rw [Bh]
  exact hK hl _ rfl ⟨by rw [List.length_set];exact h1,Kt hl h1 h2⟩
 ·have:j=xs.length:=by omega
  subst this
  rw [List.take_length,<-h1,List.take_length] at h2
  rw [Bh,h2]
theorem wZ:Bz Try.prog 36 dK:=
 Bz.fM Vl (Hj nZ At) mixed Try.func36 (by kernel_rfl) (by kernel_rfl) λx h=>PH x.1 h
theorem wH (n:Int) (s:ByteArray) (b:List (List Int)) (h:Cp (n,s,b,())):fnMW Xj (look [(36,dK)]) Jt Try.f16 (n,s,b,()) (λ(z:(Int×ByteArray×List (List Int)×Unit)×Unit)=>z=((n,s,b,()),())):=by
 refine Eq.mp (xq n s b _) ⟨_,if_pos h.2,?_⟩
 simp only [Bh]
theorem lv:Bz Try.prog 16 Jt:=
 Bz.fM Vl (Hj wZ At) mixed Try.func16 (by kernel_rfl) (by kernel_rfl) λx h=>wH x.1 x.2.1 x.2.2.1 h
end Go.Proofs.Ytjbdmibbbpdnnaa

namespace Go.Proofs.Ytjbdmibbbpdnnaa
open Go.RowKit
theorem Jh (a:List Int):Ik a a=true:=by simp [Ik]
theorem LF {n:Nat} {room:Int} (h: ¬jo n room<0):jo n room=room-n/\(n:Int)<=room:=by
 unfold jo at*
 split at h
 ·exact absurd (show (-1:Int)<0 by decide) h
 ·rename_i h1;rw [if_neg h1];exact ⟨rfl,by omega⟩
theorem x9: ∀(xs:List (List Int)) (room:Int),0<=room-> ¬x8 xs room<0->x8 xs room=room-Cj xs
 | [],room,_,_=>by simp [x8,Cj]
 |r::xs,room,h0,h=>by
  simp only [x8,Cj] at h⊢
  split at h
  ·exact absurd (show (-1:Int)<0 by decide) h
  ·rename_i h1
   rw [if_neg h1]
   have e1:=LF (n:=r.length) h1
   have e1:ie r room=room-r.length/\(r.length:Int)<=room:=e1
   rw [x9 xs _ (by rw [e1.1];omega) h,e1.1]
   omega
theorem LC {xs:List (List Int)} {room:Int} (h: ¬Xa xs room<0):Xa xs room=room-xs.length-Cj xs:=by
 unfold Xa at*
 split at h
 ·exact absurd (show (-1:Int)<0 by decide) h
 ·rename_i h1
  rw [if_neg h1]
  have e1:=LF h1
  rw [x9 xs _ (by rw [e1.1];omega) h,e1.1]
theorem xy (k:Int) (n:Nat):List.take n (List.drop 0 (Gy k n))=Gy k n:=by rw [List.drop_zero,List.take_of_length_le (by rw [Lj];exact Nat.le_refl _)]
theorem lL:low 1:=⟨by decide,by decide⟩
end Go.Proofs.Ytjbdmibbbpdnnaa

namespace Go.Proofs.Ytjbdmibbbpdnnaa
open Go.RowKit
theorem iZ {b:Bool} {P:Prop} (h:(!(b==b))=true):P:=by simp at h
end Go.Proofs.Ytjbdmibbbpdnnaa

namespace Go.Proofs.Ytjbdmibbbpdnnaa
open Go.RowKit
noncomputable abbrev Kc:Spec:=Di (.pair tL .unit) tL false true (λx=>short x.1) (λx=>x.1)
theorem zM (xs:List Int) (P:List Int->Prop):(0=0/\0=([]:List Int).length/\0+xs.length<=Bj/\P (List.take ([]++xs).length (List.drop 0 ([]++xs))))=fnW Da (look []) Kc Try.f123 (xs,()) P:=by kernel_rfl
theorem yW (xs:List Int) (h:short xs):fnW Da (look []) Kc Try.f123 (xs,()) (λ(z:List Int)=>z=xs):=by
 unfold short at h
 refine Eq.mp (zM xs _) ⟨rfl,rfl,by show 0+xs.length<=4294967296;omega,?_⟩
 simp only [Bh,List.nil_append]
theorem cR:Sound Try.prog 123 Kc:=
 Sound.Di Cb At mixed Try.func123 (by kernel_rfl) (by kernel_rfl) λx h=>yW x.1 h
end Go.Proofs.Ytjbdmibbbpdnnaa

namespace Go.Proofs.Ytjbdmibbbpdnnaa
open Go.RowKit
def Mc (xs:List Int):ByteArray:=bytesOf (xs.map λx=>IntKind.u8.wrap x)
noncomputable abbrev Eh:Spec:=Di (.pair tL .unit) .str false true (λx=>short x.1) (λx=>Mc x.1)
def iq (ps:List (List Int)) (p:List Int):Int:=Dd (λq=>decide (q=p)) ps 0
theorem zS (xs:List Int) (P:ByteArray->Prop):(((0:Int)<=(↑xs.length:Int)/\(↑xs.length:Int)<(↑Bj:Int)+(1:Int))/\(↑xs.length:Int)=(↑xs.length:Int)/\0=0/\(List.replicate (↑xs.length:Int).toNat (Int.ofNat (nat_lit 0))).length=(List.replicate (↑xs.length:Int).toNat (Int.ofNat (nat_lit 0))).length/\Bs (λ(v2:Int×List Int×PUnit) (k3:Int×List Int×PUnit->Prop)=>Br (decide (v2.1<(↑xs.length:Int))) (∃(y4:Int),idx xs v2.1=some y4/\((0:Int)<=v2.1/\v2.1<(↑v2.2.1.length:Int))/\0+v2.1.toNat<v2.2.1.length/\0=0/\v2.2.1.length=(v2.2.1.set (0+v2.1.toNat) (IntKind.u8.wrap y4)).length/\k3 (IntKind.i64.wrap (v2.1+(1:Int)),v2.2.1.set (0+v2.1.toNat) (IntKind.u8.wrap y4),())) (P (bytesOf (List.take v2.2.1.length (List.drop 0 v2.2.1))))) ((0:Int),List.replicate (↑xs.length:Int).toNat (Int.ofNat (nat_lit 0)),PUnit.unit))=fnW Da (look []) Eh Try.f128 (xs,()) P:=by kernel_rfl
theorem z8 (xs:List Int) (h:short xs):fnW Da (look []) Eh Try.f128 (xs,()) (λ(z:ByteArray)=>z=Mc xs):=by
 unfold short at h
 refine Eq.mp (zS xs _) ?_
 refine ⟨⟨by omega,by show (xs.length:Int)<(4294967296:Int)+1;omega⟩,rfl,rfl,rfl,?_⟩
 have Oq:(xs.map λx=>IntKind.u8.wrap x).length=xs.length:=by simp
 refine Aq xs.length (λv=>v.1) (λj v=>v.2.1.length=(xs.map λx=>IntKind.u8.wrap x).length/\v.2.1.take j=(xs.map λx=>IntKind.u8.wrap x).take j) rfl ⟨by rw [Oq];simp,by simp⟩ ?_
 rintro j ⟨i,ys,⟨⟩⟩ K hj hi ⟨h1,h2⟩ hK
 dsimp only at hi h1 h2⊢
 subst hi
 refine Br.dec (λhl=>?_) λhl=>?_
 ·have hl:j<xs.length:=by omega
  refine ⟨_,Av hl,⟨by omega,by omega⟩,by rw [Int.toNat_natCast];omega,rfl,by rw [List.length_set],?_⟩
  rw [Ao (by omega),Int.toNat_natCast,Nat.zero_add]
  have Hg:j<(xs.map λx=>IntKind.u8.wrap x).length:=by rw [Oq];exact hl
  have e:IntKind.u8.wrap xs[j]=(xs.map λx=>IntKind.u8.wrap x)[j]:=by simp
  rw [e]
  exact hK hl _ rfl ⟨by rw [List.length_set];exact h1,Kt Hg h1 h2⟩
 ·have:j=xs.length:=by omega
  subst this
  rw [<-Oq,List.take_length,<-h1,List.take_length] at h2
  rw [List.drop_zero,List.take_length,h2];rfl
theorem cV:Sound Try.prog 128 Eh:=
 Sound.Di Cb At mixed Try.func128 (by kernel_rfl) (by kernel_rfl) λx h=>z8 x.1 h
theorem aW {α:Type} (P:α->Bool) (y:α): ∀(l:List α) (i:Int),0<=i->Dd P (l++ [y]) i=if Dd P l i<0 then (if P y=true then i+l.length else-1) else Dd P l i
 | [],i,_=>by simp [Dd]
 |x::r,i,h=>by
  simp only [List.cons_append,Dd,List.length_cons]
  split
  ·rw [if_neg (by omega)]
  ·rw [aW P y r (i+1) (by omega),show i+1+(r.length:Int)=i+((r.length+1:Nat):Int) by push_cast;omega]
theorem sT (ps:List (List Int)) (q p:List Int):iq (ps++ [q]) p=if iq ps p<0 then (if q=p then (ps.length:Int) else-1) else iq ps p:=by
 unfold iq
 rw [aW _ _ _ _ (Int.le_refl 0)]
 simp only [decide_eq_true_eq,Int.zero_add]
def Pz (p:List Int):Prop:= ∀x∈p,0<=x/\x<256
theorem HJ {x y:Int} (hx:0<=x/\x<256) (hy:0<=y/\y<256) (h:UInt8.ofNat (IntKind.u8.wrap x).toNat=UInt8.ofNat (IntKind.u8.wrap y).toNat):x=y:=by
 have h:=congrArg UInt8.toNat h
 simp only [IntKind.wrap_u8,UInt8.toNat_ofNat'] at h
 omega
theorem bytes_inj: ∀(p q:List Int),Pz p->Pz q->(p.map λx=>UInt8.ofNat (IntKind.u8.wrap x).toNat)=(q.map λx=>UInt8.ofNat (IntKind.u8.wrap x).toNat)->p=q
 | [],[],_,_,_=>rfl
 | [],_::_,_,_,h=>by simp at h
 |_::_,[],_,_,h=>by simp at h
 |x::p,y::q,hp,hq,h=>by
  simp only [List.map_cons,List.cons.injEq] at h
  rw [HJ (hp x (by simp)) (hq y (by simp)) h.1,bytes_inj p q (λz hz=>hp z (by simp [hz])) (λz hz=>hq z (by simp [hz])) h.2]
theorem key_inj {p q:List Int} (hp:Pz p) (hq:Pz q) (h:Mc p=Mc q):p=q:=by
 refine bytes_inj p q hp hq ?_
 simp only [Mc,bytesOf,ByteArray.mk.injEq,List.map_map] at h
 have h:=congrArg Array.toList h
 simpa [Function.comp_def] using h
def KM (m:ByteArray->Option Int) (ps:List (List Int)):Prop:= ∀p,Pz p->m (Mc p)=if iq ps p<0 then none else some (iq ps p)
theorem KM.nil:KM (λ_=>none) []:= λp _=>by
 rw [if_pos (by unfold iq;simp [Dd])]
theorem KM.add {m:ByteArray->Option Int} {ps:List (List Int)} {q:List Int} (h:KM m ps) (hq:Pz q) (hn:iq ps q<0):KM (aH m (Mc q) (ps.length:Int)) (ps++ [q]):=by
 intro p hp
 rw [sT]
 unfold aH
 by_cases e:p=q
 ·subst e
  rw [if_pos rfl,if_pos hn,if_pos rfl,if_neg (by omega)]
 ·rw [if_neg (λhk=>e (key_inj hp hq hk)),h p hp]
  have e': ¬q=p:= λh=>e h.symm
  rw [if_neg e']
  by_cases CY:iq ps p<0
  ·rw [if_pos CY,if_pos CY,if_pos (by decide)]
  ·rw [if_neg CY,if_neg CY,if_neg CY]
theorem NN {α:Type} {xs:List α} {j:Nat} (h:j<xs.length) (d:α):xs.getD j d=xs[j]:=by
 rw [List.getD_eq_getElem?_getD,List.getElem?_eq_getElem h];rfl
end Go.Proofs.Ytjbdmibbbpdnnaa

namespace Go.Proofs.Ytjbdmibbbpdnnaa
open Go.RowKit
noncomputable abbrev Fm:Spec:=Di (.pair Ck .unit) tL false true (λx=>List.length x.1.2.2.1<=8) (λx=>Ag (List.length x.1.2.2.1))
abbrev iG:Type:=Int×Int×ByteArray×List (List Int)×List Int×PUnit
theorem xo (p:Int×ByteArray×List (List Int)×Unit) (P:List Int->Prop):(0=0/\0=([]:List Int).length/\Bs (λ(v2:iG) (k3:iG->Prop)=>Br (decide (v2.1<=(↑v2.2.2.2.1.length:Int))) (0=0/\v2.2.2.2.2.1.length=v2.2.2.2.2.1.length/\v2.2.2.2.2.1.length+(List.take 2 (List.drop 0 [v2.1,IntKind.i64.wrap ((0:Int)-v2.1)])).length<=Bj/\0=0/\(v2.2.2.2.2.1++List.take 2 (List.drop 0 [v2.1,IntKind.i64.wrap ((0:Int)-v2.1)])).length=(v2.2.2.2.2.1++List.take 2 (List.drop 0 [v2.1,IntKind.i64.wrap ((0:Int)-v2.1)])).length/\k3 (IntKind.i64.wrap (v2.1+(1:Int)),v2.2.1,v2.2.2.1,v2.2.2.2.1,v2.2.2.2.2.1++List.take 2 (List.drop 0 [v2.1,IntKind.i64.wrap ((0:Int)-v2.1)]),())) (P (List.take v2.2.2.2.2.1.length (List.drop 0 v2.2.2.2.2.1)))) ((1:Int),p.1,p.2.1,p.2.2.1,[],PUnit.unit))=fnW Da (look []) Fm Try.f96 (p,()) P:=by kernel_rfl
theorem wE (p:PP) (h:List.length p.2.2.1<=8):fnW Da (look []) Fm Try.f96 (p,()) (λ(z:List Int)=>z=Ag (List.length p.2.2.1)):=by
 refine Eq.mp (xo p _) ⟨rfl,rfl,?_⟩
 refine Bs.mk (λv=> ∃j:Nat,j<=List.length p.2.2.1/\v=((j:Int)+1,p.1,p.2.1,p.2.2.1,Ag j,())) (λv=>List.length p.2.2.1+1-v.1.toNat) ⟨0,Nat.zero_le _,rfl⟩ ?_
 rintro _ ⟨j,hj,rfl⟩
 dsimp only
 refine Br.dec (λhl=>?_) λhl=>?_
 ·refine ⟨rfl,rfl,?_,rfl,rfl,⟨j+1,by omega,?_⟩,?_⟩
  ·show (Ag j).length+2<=4294967296
   rw [Kn];omega
  ·rw [Vc,Bt (n:=(j:Int)+1+1) (by omega) (by omega),Bt (n:=0-((j:Int)+1)) (by omega) (by omega),Int.zero_sub]
   rfl
  ·rw [Bt (by omega) (by omega)];omega
 ·have:j=List.length p.2.2.1:=by omega
  subst this
  rw [Bh]
theorem Sx:Sound Try.prog 96 Fm:=
 Sound.Di Cb At mixed Try.func96 (by kernel_rfl) (by kernel_rfl) λx h=>wE x.1 h
theorem LD {p:PP} {room:Int} (hr:roomy room) (h: ¬cr p room<0):(Cj p.2.2.1:Int)<=room-cr p room/\roomy (cr p room):=by
 unfold cr at h⊢
 split at h
 ·exact absurd (show (-1:Int)<0 by decide) h
 ·rename_i h1
  rw [if_neg h1]
  split at h
  ·exact absurd (show (-1:Int)<0 by decide) h
  ·rename_i h2
   rw [if_neg h2]
   have e2:=LC h2
   obtain ⟨r1,r2⟩:=hr
   unfold roomy
   omega
end Go.Proofs.Ytjbdmibbbpdnnaa

namespace Go.Proofs.Ytjbdmibbbpdnnaa
open Go.RowKit
def sw (v:Int):List Int->Nat
 | []=>0
 |x::r=>if x>v then sw v r+1 else 0
def OT (v:Int) (t:List Int):Option (List Int):=if sw v t=0 then none else some (Cx t ((sw v t-1:Nat):Int)::(t.set (sw v t-1) v).reverse)
def cq:List Int->Option (List Int)
 | []=>none
 |v::t=>match cq t with
  |some t'=>some (v::t')
  |none=>OT v t
theorem wk {s s':List Int} (h:cq s=some s'): ∀pre:List Int,cq (pre++s)=some (pre++s')
 | []=>h
 |v::p=>by rw [List.cons_append,cq,wk h p];rfl
theorem PN {α:Type} (pre:List α) (v a:α) (t:List α):(pre++v::t).set pre.length a=pre++a::t:=by
 rw [List.set_append,if_neg (by omega)];simp
inductive zX:List Int->List (List Int)->List Int->Prop where
 |one (a:List Int):zX a [a] a
 |more {a c b:List Int} {L:List (List Int)} :cq a=some c->zX c L b->zX a (a::L) b
theorem zX.cons {a b:List Int} {L:List (List Int)} (h:zX a L b) (v:Int):zX (v::a) (L.map (v:: ·)) (v::b):=by
 induction h with
 |one a=>exact .one _
 |more h3 _ ih=>exact .more (wk h3 [v]) ih
theorem zX.head {a b:List Int} {L:List (List Int)} (h:zX a L b): ∃M,L=a::M:=by
 cases h with
 |one=>exact ⟨_,rfl⟩
 |more _ _=>exact ⟨_,rfl⟩
theorem zX.at {a b:List Int} {L:List (List Int)} (h:zX a L b): ∀j (hj:j<L.length),(∀h2:j+1<L.length,cq L[j]=some L[j+1])/\(j+1=L.length->L[j]=b):=by
 induction h with
 |one a=>
  intro j hj
  simp only [List.length_singleton] at hj
  have:j=0:=by omega
  subst this
  exact ⟨λh2=>by simp at h2,λ_=>rfl⟩
 |more h3 h4 ih=>
  intro j hj
  rcases j with _|j
  ·obtain ⟨M,hM⟩:=h4.head
   refine ⟨λh2=>?_,λh2=>?_⟩
   ·simp only [List.getElem_cons_zero,List.getElem_cons_succ]
    subst hM
    exact h3
   ·subst hM;simp at h2
  ·have:=ih j (by simpa using hj)
   refine ⟨λh2=>?_,λh2=>?_⟩
   ·simp only [List.getElem_cons_succ]
    exact this.1 (by simpa using h2)
   ·simp only [List.getElem_cons_succ]
    exact this.2 (by simpa using h2)
theorem zX.distinct {a b:List Int} {L:List (List Int)} (h:zX a L b) (hb:cq b=none): ∀k i j (hi:i<L.length) (hj:j<L.length),L.length-j=k->i<j->L[i]≠L[j]:=by
 intro k
 induction k with
 |zero=>intro i j hi hj hk;omega
 |succ k ih=>
  intro i j hi hj hk ei he
  by_cases e:j+1<L.length
  ·have h1:=(h.at i hi).1 (by omega)
   have h2:=(h.at j hj).1 e
   rw [he,h2] at h1
   exact ih (i+1) (j+1) (by omega) e (by omega) (by omega) (Option.some.inj h1).symm
  ·have h1:=(h.at i hi).1 (by omega)
   have h2:=(h.at j hj).2 (by omega)
   rw [he,h2,hb] at h1
   cases h1
theorem zX.idx {a b:List Int} {L:List (List Int)} (h:zX a L b) (hb:cq b=none) {j:Nat} (hj:j<L.length):L.idxOf L[j]=j:=by
 have h1:L.idxOf L[j]<L.length:=List.idxOf_lt_length_of_mem (List.getElem_mem _)
 have h2:L[L.idxOf L[j]]=L[j]:=List.getElem_idxOf h1
 rcases Nat.lt_trichotomy (L.idxOf L[j]) j with h3|h3|h3
 ·exact absurd h2 (h.distinct hb _ _ _ h1 hj rfl h3)
 ·exact h3
 ·exact absurd h2.symm (h.distinct hb _ _ _ hj h1 rfl h3)
end Go.Proofs.Ytjbdmibbbpdnnaa

namespace Go.Proofs.Ytjbdmibbbpdnnaa
open Go.RowKit
def Cf:List Int->List Int->Int
 | [],[]=>0
 | [],_::_=> -1
 |_::_,[]=>1
 |x::a,y::b=>if x<y then-1 else if x>y then 1 else Cf a b
def a7 (a b:List Int):Bool:=decide (Cf a b<0)
noncomputable abbrev jF:Spec:=Di (.pair (.oslice tI) .unit) tL false true (λx=>short (x.1.getD [])) (λx=>x.1.getD [])
noncomputable abbrev iy:Spec:=Di (.pair tL .unit) tL false true (λx=>short x.1) (λx=>x.1)
noncomputable abbrev Rc:Spec:=Di (.pair tL (.pair tL .unit)) .bool false true (λx=>short x.1/\List.length x.1=List.length x.2.1) (λx=>a7 x.1 x.2.1)
theorem FT (xs:Option (List Int)) (P:List Int->Prop):(Br xs.isNone (P (List.take 0 (List.drop 0 []))) (0=0/\0=([]:List Int).length/\0+(xs.getD []).length<=Bj/\P (List.take ([]++xs.getD []).length (List.drop 0 ([]++xs.getD [])))))=fnW Da (look []) jF Try.f145 (xs,()) P:=by kernel_rfl
theorem zP (a b:List Int) (P:Bool->Prop):(Bs (λ(v3:Int×PUnit) (k4:Int×PUnit->Prop)=>Br (decide (v3.1<(↑a.length:Int))) (∃(y5:Int),idx a v3.1=some y5/\ ∃(y6:Int),idx b v3.1=some y6/\Br (y5 !=y6) (∃(y7:Int),idx a v3.1=some y7/\ ∃(y8:Int),idx b v3.1=some y8/\P (decide (y7<y8))) (k4 (IntKind.i64.wrap (v3.1+(1:Int)),()))) (P false)) ((0:Int),PUnit.unit))=fnW Da (look []) Rc Try.f144 (a,b,()) P:=by kernel_rfl
theorem Sound.ofO {P:Program} {f:FuncId} {e:Ty} {r res:Ty} {Ee fresh:Bool} {pre:(Ty.pair (.oslice e) r).den->Prop} {val:(Ty.pair (.oslice e) r).den->res.den} {cA:(Ty.pair (.slice e) r).den->Prop} {ou:(Ty.pair (.slice e) r).den->res.den}
  (h:Sound P f (Go.Proofs.Ytjbdmibbbpdnnaa.Di (.pair (.oslice e) r) res Ee fresh pre val))
  (hp: ∀(o:Option (List e.den)) (y:r.den),cA (o.getD [],y)->pre (o,y)/\val (o,y)=ou (o.getD [],y)):Sound P f (Go.Proofs.Ytjbdmibbbpdnnaa.Di (.pair (.slice e) r) res Ee fresh cA ou):=by
 refine ⟨h.enter,λw S vs x y hS h2 h5=>?_⟩
 obtain ⟨xs,rest⟩:=x
 cases vs with
 |nil=>exact h2.elim
 |cons u us=>
  obtain ⟨h7,h8⟩:=h2
  obtain ⟨ox,h9,rfl⟩:=h7.told
  have fC:cA (ox.getD [],rest):=Classical.byContradiction λhn=>by
   have:(Go.Proofs.Ytjbdmibbbpdnnaa.Di (.pair (.slice e) r) res Ee fresh cA ou).fn (ox.getD [],rest)=none:=if_neg hn
   rw [this] at h5;cases h5
  obtain ⟨k1,k2⟩:=hp ox rest fC
  have hv:(Go.Proofs.Ytjbdmibbbpdnnaa.Di (.pair (.slice e) r) res Ee fresh cA ou).fn (ox.getD [],rest)=some (ou (ox.getD [],rest)):=if_pos fC
  rw [hv] at h5
  have h5:=Option.some.inj h5
  exact h.calls w S (u::us) (ox,rest) y hS ⟨h9,h8⟩ ((if_pos k1).trans (by rw [k2];exact congrArg some h5))
theorem DY (xs:Option (List Int)) (h:short (xs.getD [])):fnW Da (look []) jF Try.f145 (xs,()) (λ(z:List Int)=>z=xs.getD []):=by
 unfold short at h
 refine Eq.mp (FT xs _) ⟨λhn=>?_,λ_=>⟨rfl,rfl,by show 0+(xs.getD []).length<=4294967296;omega,?_⟩⟩
 ·cases xs with
  |none=>rfl
  |some y=>cases hn
 ·simp only [Bh,List.nil_append]
theorem pz:Sound Try.prog 145 jF:=
 Sound.Di Cb At mixed Try.func145 (by kernel_rfl) (by kernel_rfl) λx h=>DY x.1 h
theorem tt:Sound Try.prog 145 iy:=Sound.ofO pz λ_ _ h=>⟨h,rfl⟩
theorem z0 (a b:List Int) (h:short a/\a.length=b.length):fnW Da (look []) Rc Try.f144 (a,b,()) (λ(z:Bool)=>z=a7 a b):=by
 obtain ⟨ha,hb⟩:=h
 unfold short at ha
 refine Eq.mp (zP a b _) ?_
 refine Aq a.length (λv=>v.1) (λj _=>Cf (a.drop j) (b.drop j)=Cf a b) rfl (by simp) ?_
 rintro j ⟨i,⟨⟩⟩ K hj hi TD hK
 dsimp only at hi⊢
 subst hi
 refine Br.dec (λhl=>?_) λhl=>?_
 ·have hl:j<a.length:=by omega
  have hlb:j<b.length:=by omega
  rw [List.drop_eq_getElem_cons hl,List.drop_eq_getElem_cons hlb] at TD
  simp only [Cf] at TD
  refine ⟨_,Av hl,_,Av hlb,⟨λEl=>?_,λEl=>?_⟩⟩
  ·refine ⟨_,Av hl,_,Av hlb,?_⟩
   have El:a[j]≠b[j]:=by simpa using El
   unfold a7
   rw [<-TD]
   by_cases h1:a[j]<b[j]
   ·rw [if_pos h1];simp [h1]
   ·rw [if_neg h1,if_pos (by omega)];simp [h1]
  ·have El:a[j]=b[j]:=by simpa using El
   rw [if_neg (by omega),if_neg (by omega)] at TD
   rw [Ao (by omega)]
   exact hK hl _ rfl TD
 ·have:j=a.length:=by omega
  subst this
  rw [List.drop_length,List.drop_eq_nil_of_le (by omega)] at TD
  unfold a7
  rw [<-TD]
  rfl
theorem nV:Sound Try.prog 144 Rc:=
 Sound.Di Cb At mixed Try.func144 (by kernel_rfl) (by kernel_rfl) λx h=>z0 x.1 x.2.1 h
end Go.Proofs.Ytjbdmibbbpdnnaa

namespace Go.Proofs.Ytjbdmibbbpdnnaa
open Go.RowKit
abbrev SS:Type:=List (List Int)×List Int×List Int×Bool×Unit
abbrev rLS:CK:= .row tL 25
abbrev rN:CK:= .row tI 3
def Cy (L:List (List Int)) (Hv:List Int) (s:List Int):Nat:=(Hv.takeWhile λi=>a7 (L.getD i.toNat []) s).length
structure Db (m:Nat) (L:List (List Int)) (Hv:List Int):Prop where
 gK:L.length<=3000
 len: ∀x∈L,x.length=m
 short:m<=20
 perm:Hv.Perm (upto L.length)
 sorted:Hv.Pairwise λi j=>a7 (L.getD i.toNat []) (L.getD j.toNat [])=true
def Si (L:List (List Int)) (s:List Int):Int:=if s∈L then (L.idxOf s:Int) else-1
def Qb (Hv:List Int) (k:Nat) (x:Int):List Int:=Hv.take k++x::Hv.drop k
noncomputable abbrev az:Spec:=Di (.pair Nc (.pair tL .unit)) tI false true (λx=>Db (List.length x.2.1) x.1.1 x.1.2.2.1) (λx=>(Cy x.1.1 x.1.2.2.1 x.2.1:Int))
noncomputable abbrev Fh:Spec:=Di (.pair Nc (.pair tL .unit)) tI false true (λx=>Db (List.length x.2.1) x.1.1 x.1.2.2.1) (λx=>Si x.1.1 x.2.1)
noncomputable abbrev fV:MSpec:=fM [some 4,none,none] [(false,rLS),(false,rL),(false,rN),(false, .Ew .bool),(false, .Ew tL),(false, .Ew tI)] false [some 4] [rLS,rL,rN, .Ew .bool]
 (λx=>Db (List.length x.2.2.2.2.1) x.1 x.2.2.1/\List.length x.2.1<=3000) (λx=>((x.1++ [x.2.2.2.2.1],x.2.1++ [x.2.2.2.2.2.1],Qb x.2.2.1 (Cy x.1 x.2.2.1 x.2.2.2.2.1) (List.length x.1),x.2.2.2.1,()),()))
def Tf (L:List (List Int)):List Int:=(List.range L.length).foldl (λ(S:List Int) (i:Nat)=>Qb S (Cy (L.take i) S (L.getD i [])) (i:Int)) []
def Et (g:List (List Int)) (x:List Int) (d:Int):List Int->List (List Int)->List Int->List (List Int)×List Int×Bool
 | [],L,D=>(L,D,true)
 |l::ls,L,D=>if Aa x (Af g l)∈L then Et g x d ls L D else if L.length=3000 then (L,D,false) else Et g x d ls (L++ [Aa x (Af g l)]) (D++ [d+1])
def Gl (g:List (List Int)) (ls:List Int):Nat->Nat->List (List Int)->List Int->List (List Int)×List Int×Bool
 |0,_,L,D=>(L,D,true)
 |f+1,k,L,D=>if k<L.length then (match Et g (L.getD k []) (D.getD k 0) ls L D with
  |(L',D',true)=>Gl g ls f (k+1) L' D'
  |(L',D',false)=>(L',D',false)) else (L,D,true)
def Fg (g:List (List Int)) (s:List Int):List (List Int)×List Int×Bool:=Gl g (Ag g.length) 3001 0 [s] [0]
def An (g:List (List Int)) (s:List Int):SS:=((Fg g s).1,(Fg g s).2.1,Tf (Fg g s).1,(Fg g s).2.2,())
noncomputable abbrev Dn:Spec:=Di (.pair Ck (.pair tL .unit)) Nc false false (λx=>Az x.1=true/\List.length x.2.1<=20/\ ∀y∈x.2.1,0<=y/\y<x.1.1) (λx=>An x.1.2.2.1 x.2.1)
abbrev BX:Type:=Int×Int×List (List Int)×List Int×List Int×Bool×PUnit
theorem WW (f:List (List Int)×List Int×List Int×Bool×Unit) (s:List Int) (P:Int->Prop):(Bs (λ(v3:BX) (k4:BX->Prop)=>Br (decide (v3.1<v3.2.1)) ((2:Int)≠(0:Int)/\ ∃(y5:Int),idx v3.2.2.2.2.1 (IntKind.i64.wrap ((IntKind.i64.wrap (v3.1+v3.2.1)).tdiv (2:Int)))=some y5/\ ∃(y6:List Int),idx v3.2.2.1 y5=some y6/\ ∃(y7:Bool),Rc.fn (y6,s,())=some y7/\Br y7 (k4 (IntKind.i64.wrap (IntKind.i64.wrap ((IntKind.i64.wrap (v3.1+v3.2.1)).tdiv (2:Int))+(1:Int)),v3.2.1,v3.2.2.1,v3.2.2.2.1,v3.2.2.2.2.1,v3.2.2.2.2.2.1,())) (k4 (v3.1,IntKind.i64.wrap ((IntKind.i64.wrap (v3.1+v3.2.1)).tdiv (2:Int)),v3.2.2.1,v3.2.2.2.1,v3.2.2.2.2.1,v3.2.2.2.2.2.1,()))) (P v3.1)) ((0:Int),(↑f.2.2.1.length:Int),f.1,f.2.1,f.2.2.1,f.2.2.2.1,PUnit.unit))=fnW Da (look [(144,Rc)]) az Try.f104 (f,s,()) P:=by kernel_rfl
theorem ME (f:List (List Int)×List Int×List Int×Bool×Unit) (s:List Int) (P:Int->Prop):(∃(y3:Int),az.fn ((f.1,f.2.1,f.2.2.1,f.2.2.2.1,()),s,())=some y3/\Br (decide (y3<(↑f.2.2.1.length:Int))) (∃(y4:Int),idx f.2.2.1 y3=some y4/\ ∃(y5:List Int),idx f.1 y4=some y5/\ ∃(y6:Bool),Ct.fn (y5,s,())=some y6/\Br y6 (∃(y7:Int),idx f.2.2.1 y3=some y7/\P y7) (P (-1:Int))) (P (-1:Int)))=fnW Da (look [(104,az),(105,Ct)]) Fh Try.f54 (f,s,()) P:=by kernel_rfl
theorem WV (L:List (List Int)) (D S:List Int) (b:Bool) (s:List Int) (d:Int) (P:((List (List Int)×List Int×List Int×Bool×Unit)×Unit)->Prop):(∃(y7:Int),az.fn ((List.take L.length (List.drop 0 L),List.take D.length (List.drop 0 D),List.take S.length (List.drop 0 S),b,()),s,())=some y7/\0=0/\S.length=S.length/\S.length+(List.take 1 (List.drop 0 [(0:Int)])).length<=Bj/\((0:Int)<=IntKind.i64.wrap (y7+(1:Int))/\IntKind.i64.wrap (y7+(1:Int))<=(↑(S++List.take 1 (List.drop 0 [(0:Int)])).length:Int)/\(↑(S++List.take 1 (List.drop 0 [(0:Int)])).length:Int)<=(↑(S++List.take 1 (List.drop 0 [(0:Int)])).length:Int))/\((0:Int)<=y7/\y7<=(↑(S++List.take 1 (List.drop 0 [(0:Int)])).length:Int)/\(↑(S++List.take 1 (List.drop 0 [(0:Int)])).length:Int)<=(↑(S++List.take 1 (List.drop 0 [(0:Int)])).length:Int))/\((0:Int)<=y7/\y7<(↑(S++List.take 1 (List.drop 0 [(0:Int)])).length:Int))/\0+y7.toNat<(Bi (S++List.take 1 (List.drop 0 [(0:Int)])) (0+(IntKind.i64.wrap (y7+(1:Int))).toNat) (List.take ((↑(S++List.take 1 (List.drop 0 [(0:Int)])).length:Int).toNat-(IntKind.i64.wrap (y7+(1:Int))).toNat) (List.take ((↑(S++List.take 1 (List.drop 0 [(0:Int)])).length:Int).toNat-y7.toNat) (List.drop (0+y7.toNat) (S++List.take 1 (List.drop 0 [(0:Int)])))))).length/\0=0/\L.length=L.length/\L.length+(List.take 1 (List.drop 0 [s])).length<=Bj/\0=0/\D.length=D.length/\D.length+(List.take 1 (List.drop 0 [d])).length<=Bj/\P ((List.take (L++List.take 1 (List.drop 0 [s])).length (List.drop 0 (L++List.take 1 (List.drop 0 [s]))),List.take (D++List.take 1 (List.drop 0 [d])).length (List.drop 0 (D++List.take 1 (List.drop 0 [d]))),List.take (S++List.take 1 (List.drop 0 [(0:Int)])).length (List.drop 0 ((Bi (S++List.take 1 (List.drop 0 [(0:Int)])) (0+(IntKind.i64.wrap (y7+(1:Int))).toNat) (List.take ((↑(S++List.take 1 (List.drop 0 [(0:Int)])).length:Int).toNat-(IntKind.i64.wrap (y7+(1:Int))).toNat) (List.take ((↑(S++List.take 1 (List.drop 0 [(0:Int)])).length:Int).toNat-y7.toNat) (List.drop (0+y7.toNat) (S++List.take 1 (List.drop 0 [(0:Int)])))))).set (0+y7.toNat) (↑L.length:Int))),b,()),()))=fnMW Xj (look [(104,az)]) fV Try.f149 (L,D,S,b,s,d,()) P:=by kernel_rfl
abbrev iI:Type:=Int×Int×ByteArray×List (List Int)×Bool×Bool×List (List Int)×List Int×List Int×List (List Int)×List Int×List Int×PUnit
abbrev xb:Type:=(List (List Int)×List Int×List Int×Bool×PUnit)×PUnit
theorem QH (p:Int×ByteArray×List (List Int)×Unit) (s:List Int) (P:(List (List Int)×List Int×List Int×Bool×Unit)->Prop):(∃(y3:List Int),Kc.fn (s,())=some y3/\ ∃(y4:xb),fV.fn ([],[],[],false,y3,(0:Int),())=some y4/\ ∃(y5:List Int),Fm.fn ((p.1,p.2.1,p.2.2.1,()),())=some y5/\0=0/\0=([]:List Int).length/\0=0/\0=([]:List Int).length/\0=0/\0=([]:List Int).length/\0=0/\y4.1.1.length=y4.1.1.length/\0=0/\y4.1.2.1.length=y4.1.2.1.length/\0=0/\y4.1.2.2.1.length=y4.1.2.2.1.length/\Bs (λ(v6:iI) (k7:iI->Prop)=>Br (decide (v6.1<(↑v6.2.2.2.2.2.2.2.2.2.1.length:Int))) (0=0/\v6.2.2.2.2.2.2.1.length=v6.2.2.2.2.2.2.1.length/\0=0/\v6.2.2.2.2.2.2.2.1.length=v6.2.2.2.2.2.2.2.1.length/\0=0/\v6.2.2.2.2.2.2.2.2.1.length=v6.2.2.2.2.2.2.2.2.1.length/\0=0/\v6.2.2.2.2.2.2.2.2.2.1.length=v6.2.2.2.2.2.2.2.2.2.1.length/\0=0/\v6.2.2.2.2.2.2.2.2.2.2.1.length=v6.2.2.2.2.2.2.2.2.2.2.1.length/\0=0/\v6.2.2.2.2.2.2.2.2.2.2.2.1.length=v6.2.2.2.2.2.2.2.2.2.2.2.1.length/\Bs (λ(v8:iI) (k9:iI->Prop)=>Br (decide (v8.1<(↑y5.length:Int))) (((0:Int)<=v6.1/\v6.1<(↑v8.2.2.2.2.2.2.2.2.2.1.length:Int))/\ ∃(iM:List Int),v8.2.2.2.2.2.2.2.2.2.1[0+v6.1.toNat]?=some iM/\ ∃(iN:Int),idx y5 v8.1=some iN/\ ∃(eV:List Int),Pj.fn ((v8.2.1,v8.2.2.1,v8.2.2.2.1,()),iM,iN,())=some eV/\ ∃(eW:Int),Fh.fn ((List.take v8.2.2.2.2.2.2.2.2.2.1.length (List.drop 0 v8.2.2.2.2.2.2.2.2.2.1),List.take v8.2.2.2.2.2.2.2.2.2.2.1.length (List.drop 0 v8.2.2.2.2.2.2.2.2.2.2.1),List.take v8.2.2.2.2.2.2.2.2.2.2.2.1.length (List.drop 0 v8.2.2.2.2.2.2.2.2.2.2.2.1),v8.2.2.2.2.2.1,()),eV,())=some eW/\Br (decide (eW>=(0:Int))) (0=0/\v8.2.2.2.2.2.2.1.length=v8.2.2.2.2.2.2.1.length/\0=0/\v8.2.2.2.2.2.2.2.1.length=v8.2.2.2.2.2.2.2.1.length/\0=0/\v8.2.2.2.2.2.2.2.2.1.length=v8.2.2.2.2.2.2.2.2.1.length/\0=0/\v8.2.2.2.2.2.2.2.2.2.1.length=v8.2.2.2.2.2.2.2.2.2.1.length/\0=0/\v8.2.2.2.2.2.2.2.2.2.2.1.length=v8.2.2.2.2.2.2.2.2.2.2.1.length/\0=0/\v8.2.2.2.2.2.2.2.2.2.2.2.1.length=v8.2.2.2.2.2.2.2.2.2.2.2.1.length/\k9 (IntKind.i64.wrap (v8.1+(1:Int)),v8.2.1,v8.2.2.1,v8.2.2.2.1,v8.2.2.2.2.1,v8.2.2.2.2.2.1,v8.2.2.2.2.2.2.1,v8.2.2.2.2.2.2.2.1,v8.2.2.2.2.2.2.2.2.1,v8.2.2.2.2.2.2.2.2.2.1,v8.2.2.2.2.2.2.2.2.2.2.1,v8.2.2.2.2.2.2.2.2.2.2.2.1,())) (Br ((↑v8.2.2.2.2.2.2.2.2.2.1.length:Int)==(3000:Int)) (P (List.take v8.2.2.2.2.2.2.2.2.2.1.length (List.drop 0 v8.2.2.2.2.2.2.2.2.2.1),List.take v8.2.2.2.2.2.2.2.2.2.2.1.length (List.drop 0 v8.2.2.2.2.2.2.2.2.2.2.1),List.take v8.2.2.2.2.2.2.2.2.2.2.2.1.length (List.drop 0 v8.2.2.2.2.2.2.2.2.2.2.2.1),v8.2.2.2.2.2.1,())) (((0:Int)<=v6.1/\v6.1<(↑v8.2.2.2.2.2.2.2.2.2.2.1.length:Int))/\ ∃(Wr:Int),v8.2.2.2.2.2.2.2.2.2.2.1[0+v6.1.toNat]?=some Wr/\0=0/\v8.2.2.2.2.2.2.2.2.2.1.length=v8.2.2.2.2.2.2.2.2.2.1.length/\0=0/\v8.2.2.2.2.2.2.2.2.2.2.1.length=v8.2.2.2.2.2.2.2.2.2.2.1.length/\0=0/\v8.2.2.2.2.2.2.2.2.2.2.2.1.length=v8.2.2.2.2.2.2.2.2.2.2.2.1.length/\ ∃(Vp:xb),fV.fn (v8.2.2.2.2.2.2.2.2.2.1,v8.2.2.2.2.2.2.2.2.2.2.1,v8.2.2.2.2.2.2.2.2.2.2.2.1,v8.2.2.2.2.2.1,eV,IntKind.i64.wrap (Wr+(1:Int)),())=some Vp/\0=0/\v8.2.2.2.2.2.2.1.length=v8.2.2.2.2.2.2.1.length/\0=0/\v8.2.2.2.2.2.2.2.1.length=v8.2.2.2.2.2.2.2.1.length/\0=0/\v8.2.2.2.2.2.2.2.2.1.length=v8.2.2.2.2.2.2.2.2.1.length/\0=0/\Vp.1.1.length=Vp.1.1.length/\0=0/\Vp.1.2.1.length=Vp.1.2.1.length/\0=0/\Vp.1.2.2.1.length=Vp.1.2.2.1.length/\k9 (IntKind.i64.wrap (v8.1+(1:Int)),v8.2.1,v8.2.2.1,v8.2.2.2.1,v8.2.2.2.2.1,Vp.1.2.2.2.1,v8.2.2.2.2.2.2.1,v8.2.2.2.2.2.2.2.1,v8.2.2.2.2.2.2.2.2.1,Vp.1.1,Vp.1.2.1,Vp.1.2.2.1,())))) (0=0/\v8.2.2.2.2.2.2.1.length=v8.2.2.2.2.2.2.1.length/\0=0/\v8.2.2.2.2.2.2.2.1.length=v8.2.2.2.2.2.2.2.1.length/\0=0/\v8.2.2.2.2.2.2.2.2.1.length=v8.2.2.2.2.2.2.2.2.1.length/\0=0/\v8.2.2.2.2.2.2.2.2.2.1.length=v8.2.2.2.2.2.2.2.2.2.1.length/\0=0/\v8.2.2.2.2.2.2.2.2.2.2.1.length=v8.2.2.2.2.2.2.2.2.2.2.1.length/\0=0/\v8.2.2.2.2.2.2.2.2.2.2.2.1.length=v8.2.2.2.2.2.2.2.2.2.2.2.1.length/\k7 (IntKind.i64.wrap (v6.1+(1:Int)),v8.2.1,v8.2.2.1,v8.2.2.2.1,v8.2.2.2.2.1,v8.2.2.2.2.2.1,v8.2.2.2.2.2.2.1,v8.2.2.2.2.2.2.2.1,v8.2.2.2.2.2.2.2.2.1,v8.2.2.2.2.2.2.2.2.2.1,v8.2.2.2.2.2.2.2.2.2.2.1,v8.2.2.2.2.2.2.2.2.2.2.2.1,()))) ((0:Int),v6.2.1,v6.2.2.1,v6.2.2.2.1,v6.2.2.2.2.1,v6.2.2.2.2.2.1,v6.2.2.2.2.2.2.1,v6.2.2.2.2.2.2.2.1,v6.2.2.2.2.2.2.2.2.1,v6.2.2.2.2.2.2.2.2.2.1,v6.2.2.2.2.2.2.2.2.2.2.1,v6.2.2.2.2.2.2.2.2.2.2.2.1,PUnit.unit)) (P (List.take v6.2.2.2.2.2.2.2.2.2.1.length (List.drop 0 v6.2.2.2.2.2.2.2.2.2.1),List.take v6.2.2.2.2.2.2.2.2.2.2.1.length (List.drop 0 v6.2.2.2.2.2.2.2.2.2.2.1),List.take v6.2.2.2.2.2.2.2.2.2.2.2.1.length (List.drop 0 v6.2.2.2.2.2.2.2.2.2.2.2.1),true,()))) ((0:Int),p.1,p.2.1,p.2.2.1,false,y4.1.2.2.2.1,[],[],[],y4.1.1,y4.1.2.1,y4.1.2.2.1,PUnit.unit))=fnW WJ (look [(123,Kc),(149,fV),(96,Fm),(115,Pj),(54,Fh)]) Dn Try.f112 (p,s,()) P:=by kernel_rfl
theorem mg: ∀ {a b:List Int},Cf a b=0↔a=b
 | [],[]=>by simp [Cf]
 | [],_::_=>by simp [Cf]
 |_::_,[]=>by simp [Cf]
 |x::a,y::b=>by
  simp only [Cf,List.cons.injEq]
  by_cases h1:x<y
  ·rw [if_pos h1]
   exact ⟨λh=>by omega,λh=>by omega⟩
  ·rw [if_neg h1]
   by_cases h2:x>y
   ·rw [if_pos h2]
    exact ⟨λh=>by omega,λh=>by omega⟩
   ·rw [if_neg h2,mg]
    exact ⟨λh=>⟨by omega,h⟩,λh=>h.2⟩
theorem AE: ∀(a b:List Int),Cf b a= -Cf a b
 | [],[]=>by simp [Cf]
 | [],_::_=>by simp [Cf]
 |_::_,[]=>by simp [Cf]
 |x::a,y::b=>by
  simp only [Cf]
  rcases Int.lt_trichotomy x y with h1|h1|h1
  ·simp [h1,show ¬y<x by omega]
  ·subst h1
   simp [AE a b]
  ·simp [h1,show ¬x<y by omega]
theorem q6: ∀ {a b c:List Int},Cf a b<0->Cf b c<0->Cf a c<0
 | [],[],_,h,_=>by simp [Cf] at h
 |_::_,[],_,h,_=>by simp [Cf] at h
 |_,_::_,[],_,h=>by simp [Cf] at h
 | [],_::_,_::_,_,_=>by simp [Cf]
 |x::a,y::b,z::c,h1,h2=>by
  simp only [Cf] at h1 h2⊢
  by_cases e1:x<y
  ·by_cases e2:y<z
   ·rw [if_pos (by omega)];omega
   ·rw [if_neg e2] at h2
    by_cases e3:y>z
    ·rw [if_pos e3] at h2;omega
    ·rw [if_pos (by omega)];omega
  ·rw [if_neg e1] at h1
   by_cases e2:x>y
   ·rw [if_pos e2] at h1;omega
   ·rw [if_neg e2] at h1
    by_cases e3:y<z
    ·rw [if_pos (by omega)];omega
    ·rw [if_neg e3] at h2
     by_cases e4:y>z
     ·rw [if_pos e4] at h2;omega
     ·rw [if_neg e4] at h2
      rw [if_neg (by omega),if_neg (by omega)]
      exact q6 h1 h2
theorem lt_iff {a b:List Int} :a7 a b=true↔Cf a b<0:=decide_eq_true_iff
theorem DK {a b c:List Int} (h1:a7 a b=true) (h2:a7 b c=true):a7 a c=true:=lt_iff.2 (q6 (lt_iff.1 h1) (lt_iff.1 h2))
theorem fJ (a:List Int):a7 a a=false:=by
 have:Cf a a=0:=mg.2 rfl
 unfold a7;rw [this];rfl
theorem JM {a b:List Int} (h:a7 a b=false) (El:a≠b):a7 b a=true:=by
 rw [lt_iff,AE a b]
 have h1: ¬Cf a b<0:= λh'=>by rw [lt_iff.2 h'] at h;cases h
 have h2:Cf a b≠0:= λh'=>El (mg.1 h')
 omega
theorem eN {α:Type} (q:α->Bool): ∀(l:List α),l.Pairwise (λi j=>q j=true->q i=true)-> ∀k (hk:k<l.length),k<(l.takeWhile q).length↔q l[k]=true
 | [],_,k,hk=>by simp at hk
 |a::l,h,k,hk=>by
  obtain ⟨h1,h2⟩:=List.pairwise_cons.1 h
  by_cases ha:q a=true
  ·rw [List.takeWhile_cons_of_pos ha]
   rcases k with _|k
   ·simpa using ha
   ·simp only [List.length_cons,List.getElem_cons_succ,Nat.add_lt_add_iff_right]
    exact eN q l h2 k (by simpa using hk)
  ·rw [List.takeWhile_cons_of_neg ha]
   simp only [List.length_nil,Nat.not_lt_zero,false_iff]
   rcases k with _|k
   ·exact ha
   ·simp only [List.getElem_cons_succ]
    exact λhq=>ha (h1 _ (List.getElem_mem _) hq)
theorem Db.mW {m:Nat} {L:List (List Int)} {Hv:List Int} (h:Db m L Hv):Hv.length=L.length:=by rw [h.perm.length_eq,Pr]
theorem Db.idx {m:Nat} {L:List (List Int)} {Hv:List Int} (h:Db m L Hv) {k:Nat} (hk:k<Hv.length):0<=Hv[k]/\Hv[k]<L.length:=Im.1 (h.perm.mem_iff.1 (List.getElem_mem hk))
theorem Db.Yv {m:Nat} {L:List (List Int)} {Hv:List Int} (h:Db m L Hv) (s:List Int) {k:Nat} (hk:k<Hv.length):k<Cy L Hv s↔a7 (L.getD Hv[k].toNat []) s=true:=
 eN _ Hv (h.sorted.imp λei hj=>DK ei hj) k hk
theorem BP (L:List (List Int)) (Hv s:List Int):Cy L Hv s<=Hv.length:=(List.takeWhile_sublist _).length_le
theorem Db.inj {m:Nat} {L:List (List Int)} {Hv:List Int} (h:Db m L Hv) {i j:Nat} (hi:i<L.length) (hj:j<L.length) (e:L[i]=L[j]):i=j:=by
 have mem: ∀i,i<L.length->(i:Int)∈Hv:= λi hi=>h.perm.mem_iff.2 (Im.2 ⟨by omega,by omega⟩)
 obtain ⟨p,hp,ep⟩:=List.mem_iff_getElem.1 (mem i hi)
 obtain ⟨q,hq,eq⟩:=List.mem_iff_getElem.1 (mem j hj)
 have get: ∀i (hi:i<L.length),L.getD ((i:Int)).toNat []=L[i]:= λi hi=>by rw [Int.toNat_natCast,List.getD_eq_getElem?_getD,List.getElem?_eq_getElem hi];rfl
 rcases Nat.lt_trichotomy p q with h1|h1|h1
 ·have:=List.pairwise_iff_getElem.1 h.sorted p q hp hq h1
  rw [ep,eq,get i hi,get j hj,e,fJ] at this
  cases this
 ·subst h1
  rw [ep] at eq
  omega
 ·have:=List.pairwise_iff_getElem.1 h.sorted q p hq hp h1
  rw [ep,eq,get i hi,get j hj,e,fJ] at this
  cases this
theorem Oo {L:List (List Int)} {k:Nat} (h:k<L.length):L.getD k []=L[k]:=by rw [List.getD_eq_getElem?_getD,List.getElem?_eq_getElem h];rfl
theorem Db.rE {m:Nat} {L:List (List Int)} {Hv:List Int} (h:Db m L Hv) {s:List Int} :
  (∃hk:Cy L Hv s<Hv.length,L.getD Hv[Cy L Hv s].toNat []=s/\Si L s=Hv[Cy L Hv s])\/(Si L s= -1/\ ∀hk:Cy L Hv s<Hv.length,L.getD Hv[Cy L Hv s].toNat []≠s):=by
 by_cases hm:s∈L
 ·left
  obtain ⟨j,hj,rfl⟩:=List.mem_iff_getElem.1 hm
  obtain ⟨p,hp,ep⟩:=List.mem_iff_getElem.1 (h.perm.mem_iff.2 (Im.2 ⟨by omega,by omega⟩):(j:Int)∈Hv)
  have gj:L.getD Hv[p].toNat []=L[j]:=by rw [ep,Int.toNat_natCast,Oo hj]
  have hs:Cy L Hv L[j]=p:=by
   have h1: ¬p<Cy L Hv L[j]:= λh1=>by
    have:=(h.Yv L[j] hp).1 h1
    rw [gj,fJ] at this;cases this
   have h2: ¬Cy L Hv L[j]<p:= λh2=>by
    have h3:=(h.Yv L[j] (k:=Cy L Hv L[j]) (by omega)).2 (by
     have:=List.pairwise_iff_getElem.1 h.sorted (Cy L Hv L[j]) p (by omega) hp h2
     rw [gj] at this;exact this)
    omega
   omega
  have hx:L.idxOf L[j]=j:=by
   have h1:L.idxOf L[j]<L.length:=List.idxOf_lt_length_of_mem hm
   exact h.inj h1 hj (List.getElem_idxOf h1)
  refine ⟨by omega,?_,?_⟩
  ·simp only [hs];exact gj
  ·unfold Si
   rw [if_pos hm,hx]
   simp only [hs];exact ep.symm
 ·right
  refine ⟨by unfold Si;rw [if_neg hm],λhk e=>hm ?_⟩
  have hi:=h.idx hk
  rw [Oo (by omega)] at e
  rw [<-e]
  exact List.getElem_mem _
theorem JA (Hv:List Int) (k:Nat) (x:Int):(Qb Hv k x).Perm (x::Hv):=by
 unfold Qb
 refine List.perm_middle.trans (List.Perm.cons x ?_)
 rw [List.take_append_drop]
theorem Db.add {m:Nat} {L:List (List Int)} {Hv s:List Int} (h:Db m L Hv) (hn:s∉L) (hl:s.length=m) (hr:L.length<3000):Db m (L++ [s]) (Qb Hv (Cy L Hv s) L.length):=by
 have vA: ∀i∈Hv,(L++ [s]).getD i.toNat []=L.getD i.toNat []:= λi hi=>by
  have:=Im.1 (h.perm.mem_iff.1 hi)
  rw [List.getD_eq_getElem?_getD,List.getD_eq_getElem?_getD,List.getElem?_append_left (by omega)]
 have YQ:(L++ [s]).getD ((L.length:Int)).toNat []=s:=by
  rw [Int.toNat_natCast,List.getD_eq_getElem?_getD,List.getElem?_append_right (by omega),Nat.sub_self];rfl
 refine ⟨by rw [List.length_append,List.length_singleton];omega,λx hx=>?_,h.short,?_,?_⟩
 ·rcases List.mem_append.1 hx with hx|hx
  ·exact h.len x hx
  ·rw [List.mem_singleton.1 hx];exact hl
 ·refine (JA _ _ _).trans ?_
  rw [List.length_append,List.length_singleton,Za]
  exact (List.Perm.cons _ h.perm).trans (List.perm_append_singleton _ _).symm
 ·unfold Qb
  have hs:=h.sorted
  rw [<-List.take_append_drop (Cy L Hv s) Hv] at hs
  obtain ⟨s1,s2,s3⟩:=List.pairwise_append.1 hs
  have mt: ∀i∈Hv.take (Cy L Hv s),i∈Hv/\a7 (L.getD i.toNat []) s=true:= λi hi=>by
   obtain ⟨k,hk,rfl⟩:=List.mem_iff_getElem.1 hi
   have MO:k<Cy L Hv s:=by rw [List.length_take] at hk;omega
   have hk3:k<Hv.length:=by rw [List.length_take] at hk;omega
   rw [List.getElem_take]
   exact ⟨List.getElem_mem _,(h.Yv s hk3).1 MO⟩
  have md: ∀i∈Hv.drop (Cy L Hv s),i∈Hv/\a7 s (L.getD i.toNat [])=true:= λi hi=>by
   obtain ⟨k,hk,rfl⟩:=List.mem_iff_getElem.1 hi
   rw [List.length_drop] at hk
   have hk3:Cy L Hv s+k<Hv.length:=by omega
   rw [List.getElem_drop]
   refine ⟨List.getElem_mem _,JM ?_ λe=>hn ?_⟩
   ·exact Bool.eq_false_iff.2 λhh=>by
     have:=(h.Yv s hk3).2 hh
     omega
   ·have hi:=h.idx hk3
    rw [Oo (by omega)] at e
    rw [<-e];exact List.getElem_mem _
  refine List.pairwise_append.2 ⟨s1.imp_of_mem λ {a b} ha hb oM=>?_,List.pairwise_cons.2 ⟨λb hb=>?_,s2.imp_of_mem λ {a b} ha hb oM=>?_⟩,λa ha b hb=>?_⟩
  ·rw [vA a (mt a ha).1,vA b (mt b hb).1];exact oM
  ·rw [YQ,vA b (md b hb).1];exact (md b hb).2
  ·rw [vA a (md a ha).1,vA b (md b hb).1];exact oM
  ·rcases List.mem_cons.1 hb with rfl|hb
   ·rw [YQ,vA a (mt a ha).1];exact (mt a ha).2
   ·rw [vA a (mt a ha).1,vA b (md b hb).1];exact s3 a ha b hb
theorem aC (L:List (List Int)) (s:List Int):Tf (L++ [s])=Qb (Tf L) (Cy L (Tf L) s) L.length:=by
 unfold Tf
 rw [List.length_append,List.length_singleton,List.range_succ,List.foldl_append]
 have e: ∀(is:List Nat) (S:List Int),(∀i∈is,i<L.length)->is.foldl (λ(S:List Int) (i:Nat)=>Qb S (Cy ((L++ [s]).take i) S ((L++ [s]).getD i [])) (i:Int)) S=is.foldl (λ(S:List Int) (i:Nat)=>Qb S (Cy (L.take i) S (L.getD i [])) (i:Int)) S:=by
  intro is
  induction is with
  |nil=>intro S _;rfl
  |cons i is ih=>
   intro S h
   have hi:=h i (by simp)
   rw [List.foldl_cons,List.foldl_cons,ih _ λj hj=>h j (List.mem_cons_of_mem _ hj)]
   congr 2
   rw [List.take_append_of_le_length (by omega),List.getD_eq_getElem?_getD,List.getElem?_append_left hi,<-List.getD_eq_getElem?_getD]
 rw [e _ _ λi hi=>List.mem_range.1 hi]
 simp only [List.foldl_cons,List.foldl_nil]
 congr 2
 ·rw [List.take_append_of_le_length (Nat.le_refl _),List.take_length]
 ·rw [List.getD_eq_getElem?_getD,List.getElem?_append_right (by omega),Nat.sub_self];rfl
theorem iz {m:Nat} (h:m<=20):Db m [] []:=⟨by simp,λx hx=>(by cases hx),h,by simp [upto],List.Pairwise.nil⟩
theorem IY {α:Type} {xs:List α} {y:Int} (h0:0<=y) (h:y.toNat<xs.length):idx xs y=some xs[y.toNat]:=by
 unfold idx
 rw [if_pos h0,List.getElem?_eq_getElem h]
theorem VR (f:SS) (s:List Int) (h:Db s.length f.1 f.2.2.1):fnW Da (look [(144,Rc)]) az Try.f104 (f,s,()) (λ(z:Int)=>z=(Cy f.1 f.2.2.1 s:Int)):=by
 obtain ⟨L,D,Hv,b,⟨⟩⟩:=f
 dsimp only at h⊢
 have hle:=BP L Hv s
 have OE:=h.mW
 have yo:=h.gK
 refine Eq.mp (WW (L,D,Hv,b,()) s _) ?_
 refine Bs.mk (λv=>v.2.2.1=L/\v.2.2.2.2.1=Hv/\ ∃lo hi:Nat,v.1=lo/\v.2.1=hi/\lo<=hi/\hi<=Hv.length/\lo<=Cy L Hv s/\Cy L Hv s<=hi) (λv=>(v.2.1-v.1).toNat)
  ⟨rfl,rfl,0,Hv.length,rfl,rfl,by omega,by omega,by omega,hle⟩ ?_
 rintro ⟨lo',c9,L',D',FH,b',⟨⟩⟩ ⟨h1,h2,lo,hi,h3,h4,h5,h6,h7,h8⟩
 dsimp only at h1 h2 h3 h4⊢
 subst h1 h2 h3 h4
 refine Br.dec (λhl=>?_) λhl=>?_
 ·have em:IntKind.i64.wrap ((IntKind.i64.wrap ((lo:Int)+(hi:Int))).tdiv 2)=(((lo+hi)/2:Nat):Int):=by
   rw [Bt (n:=(lo:Int)+(hi:Int)) (by omega) (by omega),Int.tdiv_eq_ediv_of_nonneg (by omega),Bt (by omega) (by omega)]
   omega
  rw [em]
  have RO:(lo+hi)/2<FH.length:=by omega
  have NZ:=h.idx RO
  have OA:FH[(lo+hi)/2].toNat<L'.length:=by omega
  have ZO:=Oo OA
  have hlen:=h.len _ (List.getElem_mem OA)
  have GN:short L'[FH[(lo+hi)/2].toNat]:=by
   unfold short
   have:=h.short;omega
  refine ⟨by decide,_,Av RO,_,IY NZ.1 OA,_,if_pos ⟨GN,hlen⟩,⟨λhc=>?_,λhc=>?_⟩⟩
  ·have hc:a7 L'[FH[(lo+hi)/2].toNat] s=true:=hc
   have hs:=(h.Yv s RO).2 (by rw [ZO];exact hc)
   rw [Ao (by omega)]
   exact ⟨⟨rfl,rfl,(lo+hi)/2+1,hi,rfl,rfl,by omega,h6,by omega,h8⟩,by omega⟩
  ·have hc:a7 L'[FH[(lo+hi)/2].toNat] s=false:=hc
   have hs: ¬(lo+hi)/2<Cy L' FH s:= λhh=>by
    have:=(h.Yv s RO).1 hh
    rw [ZO,hc] at this;cases this
   exact ⟨⟨rfl,rfl,lo,(lo+hi)/2,rfl,rfl,by omega,by omega,h7,by omega⟩,by omega⟩
 ·show (lo:Int)=_
  omega
theorem nX:Sound Try.prog 104 az:=
 Sound.Di Cb (Ah nV At) mixed Try.func104 (by kernel_rfl) (by kernel_rfl) λx h=>VR x.1 x.2.1 h
theorem KE (f:SS) (s:List Int) (h:Db s.length f.1 f.2.2.1):fnW Da (look [(104,az),(105,Ct)]) Fh Try.f54 (f,s,()) (λ(z:Int)=>z=Si f.1 s):=by
 obtain ⟨L,D,Hv,b,⟨⟩⟩:=f
 dsimp only at h⊢
 refine Eq.mp (ME (L,D,Hv,b,()) s _) ⟨_,if_pos h,Br.dec (λhl=>?_) λhl=>?_⟩
 ·have hl:Cy L Hv s<Hv.length:=by
   have hl:((Cy L Hv s:Nat):Int)<(Hv.length:Int):=hl
   omega
  have NZ:=h.idx hl
  have OA:Hv[Cy L Hv s].toNat<L.length:=by omega
  have ZO:=Oo OA
  have hlen:=h.len _ (List.getElem_mem OA)
  have GN:short L[Hv[Cy L Hv s].toNat]:=by
   unfold short
   have:=h.short;omega
  refine ⟨_,Av hl,_,IY NZ.1 OA,_,if_pos GN,⟨λhc=>⟨_,Av hl,?_⟩,λhc=>?_⟩⟩
  ·have hc:L[Hv[Cy L Hv s].toNat]=s:=of_decide_eq_true hc
   rcases h.rE (s:=s) with ⟨hk,_,e⟩|⟨_,El⟩
   ·exact e.symm
   ·exact absurd (by rw [ZO];exact hc) (El hl)
  ·have hc: ¬L[Hv[Cy L Hv s].toNat]=s:=of_decide_eq_false hc
   rcases h.rE (s:=s) with ⟨hk,e,_⟩|⟨e,_⟩
   ·rw [ZO] at e;exact absurd e hc
   ·exact e.symm
 ·have hl: ¬Cy L Hv s<Hv.length:=by
   have hl: ¬((Cy L Hv s:Nat):Int)<(Hv.length:Int):=hl
   omega
  rcases h.rE (s:=s) with ⟨hk,e,_⟩|⟨e,_⟩
  ·exact absurd hk hl
  ·exact e.symm
theorem Tt:Sound Try.prog 54 Fh:=
 Sound.Di Cb (Ah nX (Ah ll At)) mixed Try.func54 (by kernel_rfl) (by kernel_rfl) λx h=>KE x.1 x.2.1 h
theorem yA {S:List Int} {k:Nat} (h:k<=S.length) (n:Int):
  (Bi (S++ [0]) (k+1) (List.take ((S++ [0]).length-(k+1)) (List.take ((S++ [0]).length-k) (List.drop k (S++ [0]))))).set k n=Qb S k n:=by
 obtain ⟨A,B,rfl,hA⟩: ∃A B,S=A++B/\A.length=k:=⟨S.take k,S.drop k,(List.take_append_drop k S).symm,by rw [List.length_take];omega⟩
 subst hA
 have e1:List.drop A.length (A++B++ [0])=B++ [0]:=by rw [List.append_assoc,List.drop_left]
 have e2:List.take ((A++B++ [0]).length-A.length) (B++ [0])=B++ [0]:=List.take_of_length_le (by simp only [List.length_append,List.length_singleton];omega)
 have e3:List.take ((A++B++ [0]).length-(A.length+1)) (B++ [0])=B:=by
  have:(A++B++ [(0:Int)]).length-(A.length+1)=B.length:=by simp only [List.length_append,List.length_singleton];omega
  rw [this,List.take_left]
 rw [e1,e2,e3]
 unfold Bi Qb
 have e4:List.drop (A.length+1+B.length) (A++B++ [0])= []:=List.drop_eq_nil_of_le (by simp only [List.length_append,List.length_singleton];omega)
 obtain ⟨c,hc⟩: ∃c,List.take (A.length+1) (A++B++ [0])=A++ [c]:=by
  rw [List.append_assoc,List.take_append,List.take_of_length_le (by omega)]
  cases B with
  |nil=>exact ⟨0,by simp⟩
  |cons b B=>exact ⟨b,by simp⟩
 rw [e4,hc,List.append_nil,List.append_assoc,List.singleton_append,PN,List.take_left,List.drop_left]
theorem VQ (L:List (List Int)) (D S:List Int) (b:Bool) (s:List Int) (d:Int) (h:Db s.length L S/\D.length<=3000):
  fnMW Xj (look [(104,az)]) fV Try.f149 (L,D,S,b,s,d,()) (λ(z:(List (List Int)×List Int×List Int×Bool×Unit)×Unit)=>z=((L++ [s],D++ [d],Qb S (Cy L S s) L.length,b,()),())):=by
 obtain ⟨h,hD⟩:=h
 have hle:=BP L S s
 have OE:=h.mW
 have yo:=h.gK
 refine Eq.mp (WV L D S b s d _) ?_
 rw [Bh L,Bh D,Bh S]
 refine ⟨_,if_pos h,?_⟩
 dsimp only
 have es:List.take 1 (List.drop 0 [(0:Int)])= [0]:=rfl
 have el:(S++ [(0:Int)]).length=S.length+1:=by simp
 rw [es,Ao (by omega),Nat.zero_add,Nat.zero_add,Int.toNat_natCast,Int.toNat_natCast,Int.toNat_natCast]
 refine ⟨rfl,rfl,by show S.length+1<=4294967296;omega,⟨by omega,by omega,by omega⟩,⟨by omega,by omega,by omega⟩,⟨by omega,by omega⟩,?_,rfl,rfl,by show L.length+1<=4294967296;omega,rfl,rfl,by show D.length+1<=4294967296;omega,?_⟩
 ·unfold Bi
  simp only [List.length_append,List.length_take,List.length_drop,List.length_singleton]
  omega
 ·rw [yA hle,Bh,Bh]
  have e5:List.take (S++ [(0:Int)]).length (List.drop 0 (Qb S (Cy L S s) (L.length:Int)))=Qb S (Cy L S s) (L.length:Int):=by
   rw [List.drop_zero,List.take_of_length_le]
   unfold Qb
   simp only [List.length_append,List.length_cons,List.length_take,List.length_drop,List.length_nil]
   omega
  rw [e5]
  rfl
theorem zA:Bz Try.prog 149 fV:=
 Bz.fM Vl (Ah nX At) mixed Try.func149 (by kernel_rfl) (by kernel_rfl) λx h=>VQ x.1 x.2.1 x.2.2.1 x.2.2.2.1 x.2.2.2.2.1 x.2.2.2.2.2.1 h
structure Rr (p:PP) (m:Nat) (L:List (List Int)) (D:List Int):Prop where
 ok:Db m L (Tf L)
 len:D.length=L.length
 row: ∀x∈L,∀y∈x,0<=y/\y<p.1
 dep: ∀j (h:j<D.length),0<=D[j]/\D[j]<=j
theorem lM {p:PP} (hv:Valid p) {x:List Int} {l:Int} (hx: ∀y∈x,0<=y/\y<p.1) (hl:Ft (List.length p.2.2.1) l):
  (Aa x (Af p.2.2.1 l)).length=x.length/\ ∀y∈Aa x (Af p.2.2.1 l),0<=y/\y<p.1:=by
 obtain ⟨h1,h2⟩:=jm hv hl
 refine ⟨Ns _ _,λy hy=>?_⟩
 have:=uV (n:=(Af p.2.2.1 l).length) (λz hz=>by have:=hx z hz;omega) h2 y hy
 omega
theorem Rr.add {p:PP} {m:Nat} {L:List (List Int)} {D:List Int} (h:Rr p m L D) {y:List Int} {d:Int} (hn:y∉L) (hl:y.length=m) (hr:L.length<3000) (hy: ∀z∈y,0<=z/\z<p.1) (hd:0<=d/\d<=L.length):Rr p m (L++ [y]) (D++ [d]):=by
 have hlen:=h.len
 refine ⟨by rw [aC];exact h.ok.add hn hl hr,by simp [hlen],λx hx=>?_,λj hj=>?_⟩
 ·rcases List.mem_append.1 hx with hx|hx
  ·exact h.row x hx
  ·rw [List.mem_singleton.1 hx];exact hy
 ·by_cases e:j<D.length
  ·rw [List.getElem_append_left e];exact h.dep j e
  ·simp only [List.length_append,List.length_singleton] at hj
   have:j=D.length:=by omega
   subst this
   rw [List.getElem_append_right (by omega)]
   simp only [Nat.sub_self,List.getElem_cons_zero]
   omega
theorem dp {p:PP} {s:List Int} (hs:s.length<=20) (hr: ∀y∈s,0<=y/\y<p.1):Rr p s.length [s] [0]:=by
 refine ⟨?_,rfl,λx hx=>by rw [List.mem_singleton.1 hx];exact hr,λj hj=>?_⟩
 ·have:=(iz hs).add (s:=s) (by simp) rfl (by simp)
  have e:Tf [s]=Qb [] (Cy [] [] s) 0:=aC [] s
  rw [e];exact this
 ·simp only [List.length_singleton] at hj
  have:j=0:=by omega
  subst this
  simp
theorem qB {L:List (List Int)} {s:List Int} :Si L s>=0↔s∈L:=by
 unfold Si
 split
 ·rename_i h;exact ⟨λ_=>h,λ_=>by omega⟩
 ·rename_i h;exact ⟨λhh=>by omega,λhh=>absurd hh h⟩
theorem PF (p:PP) (s:List Int) (h:Az p=true/\s.length<=20/\ ∀y∈s,0<=y/\y<p.1):fnW WJ (look [(123,Kc),(149,fV),(96,Fm),(115,Pj),(54,Fh)]) Dn Try.f112 (p,s,()) (λ(z:SS)=>z=An p.2.2.1 s):=by
 obtain ⟨hv,hs,hr⟩:=h
 have hV:=valid hv
 have yo:=hV.gK
 have TF:=dp hs hr
 have GN:short s:=by unfold short;omega
 obtain ⟨ls,ej⟩: ∃ls,Ag (List.length p.2.2.1)=ls:=⟨_,rfl⟩
 refine Eq.mp (QH p s _) ⟨_,if_pos GN,_,if_pos ⟨iz hs,by show 0<=3000;omega⟩,ls,(if_pos (by show List.length p.2.2.1<=8;exact yo.2)).trans (congrArg some ej),rfl,rfl,rfl,rfl,rfl,rfl,rfl,rfl,rfl,rfl,rfl,rfl,?_⟩
 have e0:Qb [] (Cy [] [] s) ((([]:List (List Int)).length:Nat):Int)=Tf [s]:=(aC [] s).symm
 show Bs _ ((0:Int),p.1,p.2.1,p.2.2.1,false,false,[],[],[],[s],[(0:Int)],Qb [] (Cy [] [] s) ((([]:List (List Int)).length:Nat):Int),PUnit.unit)
 rw [e0]
 have MR:ls.length<=16:=by rw [<-ej,Kn];omega
 have fz: ∀l∈ls,Ft (List.length p.2.2.1) l:= λl hl=>Il (ej▸hl)
 have yw:Gl p.2.2.1 ls 3001 0 [s] [0]=Fg p.2.2.1 s:=by unfold Fg;rw [ej]
 refine Bs.mk (λv=>v.2.1=p.1/\v.2.2.1=p.2.1/\v.2.2.2.1=p.2.2.1/\v.2.2.2.2.2.1=false/\ ∃k:Nat,v.1=k/\k<=v.2.2.2.2.2.2.2.2.2.1.length/\
   Rr p s.length v.2.2.2.2.2.2.2.2.2.1 v.2.2.2.2.2.2.2.2.2.2.1/\v.2.2.2.2.2.2.2.2.2.2.2.1=Tf v.2.2.2.2.2.2.2.2.2.1/\
   Gl p.2.2.1 ls (3001-k) k v.2.2.2.2.2.2.2.2.2.1 v.2.2.2.2.2.2.2.2.2.2.1=Fg p.2.2.1 s) (λv=>3001-v.1.toNat)
  ⟨rfl,rfl,rfl,rfl,0,rfl,by simp,TF,rfl,yw⟩ ?_
 rintro ⟨k',n1,n2,n3,b0,wh,x1,x2,x3,L0,D0,S0,⟨⟩⟩ ⟨h1,h2,h3,h4,k,h5,h6,h7,h8,h9⟩
 dsimp only at h1 h2 h3 h4 h5 h6 h7 h8 h9
 subst h1 h2 h3 h4 h5 h8
 dsimp only
 have hL0:=h7.ok.gK
 have hD0:=h7.len
 refine Br.dec (λhl=>⟨rfl,rfl,rfl,rfl,rfl,rfl,rfl,rfl,rfl,rfl,rfl,rfl,?_⟩) λhl=>?_
 ·have hk:k<L0.length:=by omega
  have CT:k<D0.length:=by omega
  have hx: ∀y∈L0[k],0<=y/\y<p.1:=h7.row _ (List.getElem_mem hk)
  have SB:L0[k].length=s.length:=h7.ok.len _ (List.getElem_mem hk)
  have hdk:=h7.dep k CT
  obtain ⟨f,hf⟩: ∃f,3001-k=f+1:=⟨3000-k,by omega⟩
  have ZP: ∀L' D' ok,Et p.2.2.1 L0[k] D0[k] ls L0 D0=(L',D',ok)->Fg p.2.2.1 s=if ok=true then Gl p.2.2.1 ls f (k+1) L' D' else (L',D',false):=by
   intro L' D' ok he
   rw [<-h9,hf,Gl,if_pos hk,Oo hk,List.getD_eq_getElem?_getD,List.getElem?_eq_getElem CT]
   simp only [Option.getD_some]
   rw [he]
   cases ok<;>rfl
  refine Bs.mk (λv=>v.2.1=p.1/\v.2.2.1=p.2.1/\v.2.2.2.1=p.2.2.1/\v.2.2.2.2.2.1=false/\ ∃i:Nat,v.1=i/\i<=ls.length/\Rr p s.length v.2.2.2.2.2.2.2.2.2.1 v.2.2.2.2.2.2.2.2.2.2.1/\
    v.2.2.2.2.2.2.2.2.2.2.2.1=Tf v.2.2.2.2.2.2.2.2.2.1/\(∃A,v.2.2.2.2.2.2.2.2.2.1=L0++A)/\(∃A,v.2.2.2.2.2.2.2.2.2.2.1=D0++A)/\
    Et p.2.2.1 L0[k] D0[k] (ls.drop i) v.2.2.2.2.2.2.2.2.2.1 v.2.2.2.2.2.2.2.2.2.2.1=Et p.2.2.1 L0[k] D0[k] ls L0 D0) (λv=>ls.length-v.1.toNat)
   ⟨rfl,rfl,rfl,rfl,0,rfl,Nat.zero_le _,h7,rfl,⟨[],by simp⟩,⟨[],by simp⟩,rfl⟩ ?_
  rintro ⟨i',m1,m2,m3,b1,wh1,y1,y2,y3,L,D,S,⟨⟩⟩ ⟨g1,g2,g3,g4,i,g5,g6,g7,g8,⟨A,g9⟩,⟨A',g10⟩,GK⟩
  dsimp only at g1 g2 g3 g4 g5 g6 g7 g8 g9 g10 GK
  subst g1 g2 g3 g4 g5 g8
  dsimp only
  have hLf:=g7.ok.gK
  have QV:=g7.len
  rw [Bh L,Bh D,Bh (Tf L)]
  refine Br.dec (λhli=>?_) λhli=>?_
  ·have hi:i<ls.length:=by omega
   have RJ:k<L.length:=by rw [g9,List.length_append];omega
   have hLk:L[k]=L0[k]:=by simp only [g9];exact List.getElem_append_left hk
   have TU:k<D.length:=by rw [QV];exact RJ
   have hDk:D[k]=D0[k]:=by simp only [g10];exact List.getElem_append_left CT
   have sa:=fz _ (List.getElem_mem hi)
   obtain ⟨nl,nr⟩:=lM hV hx sa
   rw [List.drop_eq_getElem_cons hi] at GK
   simp only [Et] at GK
   refine ⟨⟨by omega,by omega⟩,L0[k],by rw [Int.toNat_natCast,Nat.zero_add,List.getElem?_eq_getElem RJ,hLk],_,Av hi,_,if_pos ⟨hv,by show L0[k].length<=20;omega,hx,sa⟩,?_⟩
   dsimp only
   have hyl:(Aa L0[k] (Af p.2.2.1 ls[i])).length=s.length:=by rw [nl,SB]
   refine ⟨_,if_pos (by show Db (Aa L0[k] (Af p.2.2.1 ls[i])).length L (Tf L);rw [hyl];exact g7.ok),Br.dec (λKe=>?_) λKe=>?_⟩
   ·have Ke:Aa L0[k] (Af p.2.2.1 ls[i])∈L:=qB.1 Ke
    rw [if_pos Ke] at GK
    rw [Ao (by omega)]
    exact ⟨rfl,rfl,rfl,rfl,rfl,rfl,rfl,rfl,rfl,rfl,rfl,rfl,⟨rfl,rfl,rfl,rfl,i+1,rfl,hi,g7,rfl,⟨A,g9⟩,⟨A',g10⟩,GK⟩,by omega⟩
   ·have Ke:Aa L0[k] (Af p.2.2.1 ls[i])∉L:= λhh=>Ke (qB.2 hh)
    rw [if_neg Ke] at GK
    refine ⟨λeh=>?_,λeh=>⟨⟨by omega,by omega⟩,D0[k],by rw [Int.toNat_natCast,Nat.zero_add,List.getElem?_eq_getElem TU,hDk],rfl,rfl,rfl,rfl,rfl,rfl,?_⟩⟩
    ·have eh:L.length=3000:=by
      have:(L.length:Int)=3000:=by simpa using eh
      omega
     rw [if_pos eh] at GK
     have:=ZP _ _ _ GK.symm
     rw [if_neg (by decide)] at this
     unfold An
     rw [this]
    ·have eh:L.length≠3000:=by
      have:(L.length:Int)≠3000:=by simpa using eh
      omega
     rw [if_neg eh] at GK
     rw [Bt (n:=D0[k]+1) (by omega) (by omega)]
     refine ⟨_,if_pos ⟨by show Db (Aa L0[k] (Af p.2.2.1 ls[i])).length L (Tf L);rw [hyl];exact g7.ok,by show D.length<=3000;omega⟩,?_⟩
     dsimp only
     rw [Ao (by omega),<-aC]
     refine ⟨rfl,rfl,rfl,rfl,rfl,rfl,rfl,rfl,rfl,rfl,rfl,rfl,⟨rfl,rfl,rfl,rfl,i+1,rfl,hi,g7.add Ke hyl (by omega) nr ⟨by omega,by omega⟩,rfl,⟨A++ [Aa L0[k] (Af p.2.2.1 ls[i])],by rw [g9,List.append_assoc]⟩,⟨A'++ [D0[k]+1],by rw [g10,List.append_assoc]⟩,GK⟩,by omega⟩
  ·have:i=ls.length:=by omega
   subst this
   rw [List.drop_length,Et] at GK
   have:=ZP _ _ _ GK.symm
   rw [if_pos rfl] at this
   rw [Ao (by omega)]
   refine ⟨rfl,rfl,rfl,rfl,rfl,rfl,rfl,rfl,rfl,rfl,rfl,rfl,⟨rfl,rfl,rfl,rfl,k+1,rfl,by rw [g9,List.length_append];omega,g7,rfl,?_⟩,by omega⟩
   rw [show 3001-(k+1)=f by omega]
   exact this.symm
 ·have hk:k=L0.length:=by omega
  rw [Bh L0,Bh D0,Bh (Tf L0)]
  obtain ⟨f,hf⟩: ∃f,3001-k=f+1:=⟨3000-k,by omega⟩
  rw [hf,Gl,if_neg (by omega)] at h9
  unfold An
  rw [<-h9]
theorem wY:Sound Try.prog 112 Dn:=
 Sound.Di WK (Ah cR (Hj zA (Ah Sx (Ah aA (Ah Tt At))))) mixed Try.func112 (by kernel_rfl) (by kernel_rfl) λx h=>PF x.1 x.2.1 h
end Go.Proofs.Ytjbdmibbbpdnnaa

namespace Go.Proofs.Ytjbdmibbbpdnnaa
open Go.RowKit
theorem gr {p:PP} (hV:Valid p) {m:Nat} {x:List Int} {d:Int} (hx: ∀y∈x,0<=y/\y<p.1) (SB:x.length=m): ∀(ls:List Int) (L:List (List Int)) (D:List Int),(∀l∈ls,Ft (List.length p.2.2.1) l)->
  Rr p m L D->(0<=d/\d<L.length)->Rr p m (Et p.2.2.1 x d ls L D).1 (Et p.2.2.1 x d ls L D).2.1/\(∃A,(Et p.2.2.1 x d ls L D).1=L++A)/\(∃A,(Et p.2.2.1 x d ls L D).2.1=D++A)
 | [],L,D,_,h,_=>⟨h,⟨[],by simp [Et]⟩,⟨[],by simp [Et]⟩⟩
 |l::ls,L,D,hl,h,hd=>by
  obtain ⟨n1,n2⟩:=lM hV hx (hl l (by simp))
  have Hg: ∀l∈ls,Ft (List.length p.2.2.1) l:= λl' h'=>hl l' (List.mem_cons_of_mem _ h')
  simp only [Et]
  split
  ·exact gr hV hx SB ls L D Hg h hd
  ·rename_i hn
   split
   ·exact ⟨h,⟨[],by simp⟩,⟨[],by simp⟩⟩
   ·rename_i hf
    have yo:=h.ok.gK
    obtain ⟨k1,⟨A,k2⟩,⟨A',k3⟩⟩:=gr hV hx SB ls (L++ [Aa x (Af p.2.2.1 l)]) (D++ [d+1]) Hg (h.add hn (by rw [n1,SB]) (by omega) n2 ⟨by omega,by omega⟩) ⟨hd.1,by rw [List.length_append];omega⟩
    exact ⟨k1,⟨_::A,by rw [k2,List.append_assoc];rfl⟩,⟨_::A',by rw [k3,List.append_assoc];rfl⟩⟩
theorem uM {p:PP} (hV:Valid p) {m:Nat} {ls:List Int} (hl: ∀l∈ls,Ft (List.length p.2.2.1) l): ∀(f k:Nat) (L:List (List Int)) (D:List Int),Rr p m L D->
  Rr p m (Gl p.2.2.1 ls f k L D).1 (Gl p.2.2.1 ls f k L D).2.1/\(∃A,(Gl p.2.2.1 ls f k L D).1=L++A)
 |0,k,L,D,h=>⟨h,⟨[],by simp [Gl]⟩⟩
 |f+1,k,L,D,h=>by
  simp only [Gl]
  split
  ·rename_i hk
   have CT:k<D.length:=by rw [h.len];exact hk
   have hd:=h.dep k CT
   have e:D.getD k 0=D[k]:=by rw [List.getD_eq_getElem?_getD,List.getElem?_eq_getElem CT];rfl
   rw [Oo hk,e]
   obtain ⟨k1,⟨A,k2⟩,_⟩:=gr hV (h.row _ (List.getElem_mem hk)) (h.ok.len _ (List.getElem_mem hk)) (d:=D[k]) ls L D hl h ⟨by omega,by omega⟩
   split
   ·rename_i L' D' he
    rw [he] at k1 k2
    obtain ⟨g1,⟨B,g2⟩⟩:=uM hV hl f (k+1) L' D' k1
    have k2:L'=L++A:=k2
    exact ⟨g1,⟨A++B,by rw [g2,k2,List.append_assoc]⟩⟩
   ·rename_i L' D' he
    rw [he] at k1 k2
    exact ⟨k1,⟨A,k2⟩⟩
  ·exact ⟨h,⟨[],by simp⟩⟩
theorem HH {p:PP} {s:List Int} (hv:Az p=true) (hs:s.length<=20) (hr: ∀y∈s,0<=y/\y<p.1):Rr p s.length (Fg p.2.2.1 s).1 (Fg p.2.2.1 s).2.1/\ ∃A,(Fg p.2.2.1 s).1=s::A:=
 uM (valid hv) (λ_ hl=>Il hl) _ _ _ _ (dp hs hr)
def xI (m:ByteArray->Option Bool) (L:List (List Int)):Prop:= ∀q,Pz q->(m (Mc q)).getD false=decide (q∈L)
theorem xI.add {m:ByteArray->Option Bool} {L:List (List Int)} {y:List Int} (h:xI m L) (hy:Pz y):xI (aH m (Mc y) true) (L++ [y]):=by
 intro q hq
 unfold aH
 by_cases e:q=y
 ·subst e
  rw [if_pos rfl];simp
 ·rw [if_neg λhk=>e (key_inj hq hy hk),h q hq]
  simp [e]
end Go.Proofs.Ytjbdmibbbpdnnaa
