/-
  Part 38 of the proof that the statement FnExactPhaseTwoWord holds.
-/
import Derived.Test.YtjbdmibbbpdnnaaCPhaseTwoWord36
import Derived.KernelRfl
namespace Go.Proofs.Ytjbdmibbbpdnnaa
open Go.RowKit
def Hj (x a b:Int):Bool:=decide (a<=x/\x<=b)
def dD (n x:Int):Bool:=decide (0<=x/\x<=IntKind.i64.wrap (n-1))
def Ij (a b:List Int):Bool:=decide (a=b)
def eC (xs:List Int) (x:Int):Bool:=decide (x∈xs)
def short (xs:List Int):Prop:=xs.length<=4294967296
noncomputable abbrev Bq:Spec:=Dp (.pair tI (.pair tI (.pair tI .unit))) .bool false true (λ_=>True) (λx=>Hj x.1 x.2.1 x.2.2.1)
noncomputable abbrev Uh:Spec:=Dp (.pair tI (.pair tI .unit)) .bool false true (λ_=>True) (λx=>dD x.1 x.2.1)
noncomputable abbrev Cx:Spec:=Dp (.pair tL (.pair tL .unit)) .bool false true (λx=>short x.1) (λx=>Ij x.1 x.2.1)
noncomputable abbrev Ko:Spec:=Dp (.pair tL (.pair tI .unit)) .bool false true (λx=>short x.1) (λx=>eC x.1 x.2.1)
theorem FA (x a b:Int) (P:Bool->Prop):(Br (decide (x>=a)) (P (decide (x<=b))) (P false))=fnW Di (look []) Bq Try.f93 (x,a,b,()) P:=by kernel_rfl
theorem KT (x a b:Int) (P:Bool->Prop):(Br (decide (x>=a)) (P (decide (x<=b))) (P false))=fnW Di (look []) Bq Try.f97 (x,a,b,()) P:=by kernel_rfl
theorem FC (n x:Int) (P:Bool->Prop):(∃(y3:Bool),Bq.fn (x,0,IntKind.i64.wrap (n-1),())=some y3/\P y3)=fnW Di (look [(97,Bq)]) Uh Try.f116 (n,x,()) P:=by kernel_rfl
theorem wU (a b:List Int) (P:Bool->Prop):(Br ((↑a.length:Int) !=(↑b.length:Int)) (P false) (Cb (λ(v3:Int×PUnit) (k4:Int×PUnit->Prop)=>Br (decide (v3.1<(↑a.length:Int))) (∃(y5:Int),idx a v3.1=some y5/\ ∃(y6:Int),idx b v3.1=some y6/\Br (y5 !=y6) (P false) (k4 (IntKind.i64.wrap (v3.1+1),()))) (P true)) (0,PUnit.unit)))=fnW Di (look []) Cx Try.f105 (a,b,()) P:=by kernel_rfl
theorem pz (xs:List Int) (x:Int) (P:Bool->Prop):(Cb (λ(v3:Int×PUnit) (k4:Int×PUnit->Prop)=>Br (decide (v3.1<(↑xs.length:Int))) (∃(y5:Int),idx xs v3.1=some y5/\Br (y5==x) (P true) (k4 (IntKind.i64.wrap (v3.1+1),()))) (P false)) (0,PUnit.unit))=fnW Di (look []) Ko Try.f153 (xs,x,()) P:=by kernel_rfl
theorem DH (x a b:Int) (_:True):fnW Di (look []) Bq Try.f93 (x,a,b,()) (λ(z:Bool)=>z=Hj x a b):=by
 refine Eq.mp (FA x a b _) ?_
 refine Br.dec (λh=>?_) λh=>?_
 ·have h:a<=x:=h
  simp [Hj,h]
 ·exact (decide_eq_false λhh=>h hh.1).symm
theorem Xo:Sound Try.prog 93 Bq:=
 Sound.Dp Cf At mixed Try.func93 (by kernel_rfl) (by kernel_rfl) λx h=>DH x.1 x.2.1 x.2.2.1 h
theorem JD (x a b:Int) (_:True):fnW Di (look []) Bq Try.f97 (x,a,b,()) (λ(z:Bool)=>z=Hj x a b):=by
 refine Eq.mp (KT x a b _) ?_
 refine Br.dec (λh=>?_) λh=>?_
 ·have h:a<=x:=h
  simp [Hj,h]
 ·exact (decide_eq_false λhh=>h hh.1).symm
theorem Ps:Sound Try.prog 97 Bq:=
 Sound.Dp Cf At mixed Try.func97 (by kernel_rfl) (by kernel_rfl) λx h=>JD x.1 x.2.1 x.2.2.1 h
theorem DJ (n x:Int) (_:True):fnW Di (look [(97,Bq)]) Uh Try.f116 (n,x,()) (λ(z:Bool)=>z=dD n x):=
 Eq.mp (FC n x _) ⟨_,if_pos trivial,rfl⟩
theorem pj:Sound Try.prog 116 Uh:=
 Sound.Dp Cf (Ah Ps At) mixed Try.func116 (by kernel_rfl) (by kernel_rfl) λx h=>DJ x.1 x.2.1 h
theorem oS (xs:List Int) (x:Int) (h:short xs):fnW Di (look []) Ko Try.f153 (xs,x,()) (λ(z:Bool)=>z=eC xs x):=by
 refine Eq.mp (pz xs x _) ?_
 unfold short at h
 refine Aq xs.length (λv=>v.1) (λj _=>x∉xs.take j) rfl (by simp) ?_
 rintro j ⟨i,⟨⟩⟩ K hj hi hR hK
 dsimp only at hi⊢
 subst hi
 refine Br.dec (λhl=>?_) λhl=>?_
 ·have hl:j<xs.length:=by omega
  refine ⟨_,Ax hl,⟨λhe=>?_,λhe=>?_⟩⟩
  ·have hm:=List.getElem_mem hl
   simp only [beq_iff_eq] at he
   rw [he] at hm
   exact (decide_eq_true hm).symm
  ·rw [Ap (by omega)]
   refine hK hl _ rfl ?_
   simp only [beq_eq_false_iff_ne,ne_eq] at he
   rw [List.take_succ_eq_append_getElem hl]
   simp only [List.mem_append,List.mem_singleton,not_or]
   exact ⟨hR,λhx=>he hx.symm⟩
 ·have:j=xs.length:=by omega
  subst this
  rw [List.take_length] at hR
  exact (decide_eq_false hR).symm
theorem ix:Sound Try.prog 153 Ko:=
 Sound.Dp Cf At mixed Try.func153 (by kernel_rfl) (by kernel_rfl) λx h=>oS x.1 x.2.1 h
theorem zI (a b:List Int) (hlen:a.length=b.length) (h:short a):
  Cb (λ(v3:Int×PUnit) (k4:Int×PUnit->Prop)=>
   Br (decide (v3.1<(↑a.length:Int))) (∃(y5:Int),idx a v3.1=some y5/\ ∃(y6:Int),idx b v3.1=some y6/\Br (y5 !=y6) (false=Ij a b) (k4 (IntKind.i64.wrap (v3.1+1),())))
    (true=Ij a b))
  (0,PUnit.unit):=by
 unfold short at h
 refine Aq a.length (λv=>v.1) (λj _=>a.take j=b.take j) rfl (by simp) ?_
 rintro j ⟨i,⟨⟩⟩ K hj hi hR hK
 dsimp only at hi⊢
 subst hi
 refine Br.dec (λhl=>?_) λhl=>?_
 ·have uU:j<a.length:=by omega
  have zY:j<b.length:=by omega
  refine ⟨_,Ax uU,_,Ax zY,⟨λhe=>?_,λhe=>?_⟩⟩
  ·simp only [bne_iff_ne,ne_eq] at he
   refine (decide_eq_false λoz=>he ?_).symm
   subst oz
   rfl
  ·rw [Ap (by omega)]
   refine hK uU _ rfl ?_
   simp only [bne_eq_false_iff_eq] at he
   rw [List.take_succ_eq_append_getElem uU,List.take_succ_eq_append_getElem zY,hR,he]
 ·have rI:j=a.length:=by omega
  subst rI
  rw [List.take_length,hlen,List.take_length] at hR
  exact (decide_eq_true hR).symm
theorem vX (a b:List Int) (h:short a):fnW Di (look []) Cx Try.f105 (a,b,()) (λ(z:Bool)=>z=Ij a b):=by
 refine Eq.mp (wU a b _) ⟨λhl=>?_,λhl=>?_⟩
 ·simp only [bne_iff_ne,ne_eq,Int.natCast_inj] at hl
  exact (decide_eq_false λoz=>hl (by rw [oz])).symm
 ·simp only [bne_eq_false_iff_eq,Int.natCast_inj] at hl
  exact zI a b hl h
theorem ld:Sound Try.prog 105 Cx:=
 Sound.Dp Cf At mixed Try.func105 (by kernel_rfl) (by kernel_rfl) λx h=>vX x.1 x.2.1 h
end Go.Proofs.Ytjbdmibbbpdnnaa

namespace Go.Proofs.Ytjbdmibbbpdnnaa
open Go.RowKit
def Ge (xs:List (List Int)):Prop:=xs.length<=4294967296/\ ∀r∈xs,short r
def roomy (room:Int):Prop:=0<=room/\room<=4294967296
def jk (n:Nat) (room:Int):Int:=if room-n<0 then-1 else room-n
def ia (xs:List Int) (room:Int):Int:=jk xs.length room
def wI:List (List Int)->Int->Int
 | [],room=>room
 |r::rs,room=>if ia r room<0 then-1 else wI rs (ia r room)
def Xi (xs:List (List Int)) (room:Int):Int:=if jk xs.length room<0 then-1 else wI xs (jk xs.length room)
def ji (a b:List (List Int)):Bool:=decide (a=b)
noncomputable abbrev qH:Spec:=Dp (.pair tL (.pair tI .unit)) tI false true (λx=>short x.1/\roomy x.2.1) (λx=>ia x.1 x.2.1)
noncomputable abbrev jD:Spec:=Dp (.pair fY (.pair tI .unit)) tI false true (λx=>Ge x.1/\roomy x.2.1) (λx=>Xi x.1 x.2.1)
noncomputable abbrev kJ:Spec:=Dp (.pair tL .unit) tL false true (λx=>short x.1) (λx=>x.1)
noncomputable abbrev jE:Spec:=Dp (.pair fY .unit) fY false true (λx=>Ge x.1) (λx=>x.1)
noncomputable abbrev jB:Spec:=Dp (.pair fY (.pair fY .unit)) .bool false true (λx=>Ge x.1) (λx=>ji x.1 x.2.1)
theorem Aaf (xs:List Int) (room:Int) (P:Int->Prop):(Br (decide (IntKind.i64.wrap (room-(↑xs.length:Int))<0)) (P (-1)) (P (IntKind.i64.wrap (room-(↑xs.length:Int)))))=fnW Di (look []) qH Try.f74 (xs,room,()) P:=by kernel_rfl
theorem UX (xs:List (List Int)) (room:Int) (P:Int->Prop):(Br (decide (IntKind.i64.wrap (room-(↑xs.length:Int))<0)) (P (-1)) (Cb (λ(v3:Int×Int×PUnit) (k4:Int×Int×PUnit->Prop)=>Br (decide (v3.2.1<(↑xs.length:Int))) (∃(y5:List Int),idx xs v3.2.1=some y5/\ ∃(y6:Int),qH.fn (y5,v3.1,())=some y6/\Br (decide (y6<0)) (P (-1)) (k4 (y6,IntKind.i64.wrap (v3.2.1+1),()))) (P v3.1)) (IntKind.i64.wrap (room-(↑xs.length:Int)),0,PUnit.unit)))=fnW Di (look [(74,qH)]) jD Try.f34 (xs,room,()) P:=by kernel_rfl
theorem Aah (xs:List Int) (P:List Int->Prop):((0<=(↑xs.length:Int)/\(↑xs.length:Int)<(↑Bm:Int)+1)/\(↑xs.length:Int)=(↑xs.length:Int)/\0=0/\(List.replicate (↑xs.length:Int).toNat (Int.ofNat 0)).length=(List.replicate (↑xs.length:Int).toNat (Int.ofNat 0)).length/\Cb (λ(v2:Int×List Int×PUnit) (k3:Int×List Int×PUnit->Prop)=>Br (decide (v2.1<(↑xs.length:Int))) (∃(y4:Int),idx xs v2.1=some y4/\(0<=v2.1/\v2.1<(↑v2.2.1.length:Int))/\0+v2.1.toNat<v2.2.1.length/\0=0/\v2.2.1.length=(v2.2.1.set (0+v2.1.toNat) y4).length/\k3 (IntKind.i64.wrap (v2.1+1),v2.2.1.set (0+v2.1.toNat) y4,())) (P (List.take v2.2.1.length (List.drop 0 v2.2.1)))) (0,List.replicate (↑xs.length:Int).toNat (Int.ofNat 0),PUnit.unit))=fnW Di (look []) kJ Try.f17 (xs,()) P:=by kernel_rfl
theorem UY (xs:List (List Int)) (P:List (List Int)->Prop):((0<=(↑xs.length:Int)/\(↑xs.length:Int)<(↑Bm:Int)+1)/\(↑xs.length:Int)=(↑xs.length:Int)/\0=0/\(List.replicate (↑xs.length:Int).toNat ([]:List Int)).length=(List.replicate (↑xs.length:Int).toNat ([]:List Int)).length/\Cb (λ(v2:Int×List (List Int)×PUnit) (k3:Int×List (List Int)×PUnit->Prop)=>Br (decide (v2.1<(↑xs.length:Int))) (∃(y4:List Int),idx xs v2.1=some y4/\ ∃(y5:List Int),kJ.fn (y4,())=some y5/\(0<=v2.1/\v2.1<(↑v2.2.1.length:Int))/\0+v2.1.toNat<v2.2.1.length/\0=0/\v2.2.1.length=(v2.2.1.set (0+v2.1.toNat) y5).length/\k3 (IntKind.i64.wrap (v2.1+1),v2.2.1.set (0+v2.1.toNat) y5,())) (P (List.take v2.2.1.length (List.drop 0 v2.2.1)))) (0,List.replicate (↑xs.length:Int).toNat ([]:List Int),PUnit.unit))=fnW Di (look [(17,kJ)]) jE Try.f36 (xs,()) P:=by kernel_rfl
theorem Aaa (a b:List Int) (P:Bool->Prop):(Br ((↑a.length:Int) !=(↑b.length:Int)) (P false) (Cb (λ(v3:Int×PUnit) (k4:Int×PUnit->Prop)=>Br (decide (v3.1<(↑a.length:Int))) (∃(y5:Int),idx a v3.1=some y5/\ ∃(y6:Int),idx b v3.1=some y6/\Br (y5 !=y6) (P false) (k4 (IntKind.i64.wrap (v3.1+1),()))) (P true)) (0,PUnit.unit)))=fnW Di (look []) Cx Try.f20 (a,b,()) P:=by kernel_rfl
theorem UQ (a b:List (List Int)) (P:Bool->Prop):(Br ((↑a.length:Int) !=(↑b.length:Int)) (P false) (Cb (λ(v3:Int×PUnit) (k4:Int×PUnit->Prop)=>Br (decide (v3.1<(↑a.length:Int))) (∃(y5:List Int),idx a v3.1=some y5/\ ∃(y6:List Int),idx b v3.1=some y6/\ ∃(y7:Bool),Cx.fn (y5,y6,())=some y7/\Br (!y7) (P false) (k4 (IntKind.i64.wrap (v3.1+1),()))) (P true)) (0,PUnit.unit)))=fnW Di (look [(20,Cx)]) jB Try.f38 (a,b,()) P:=by kernel_rfl
theorem CT {n:Nat} {room:Int} (h:roomy room) (h2: ¬jk n room<0):roomy (jk n room):=by
 unfold jk roomy at*
 split at h2<;>simp_all
 omega
theorem ZW (xs:List Int) (room:Int) (h:short xs/\roomy room):fnW Di (look []) qH Try.f74 (xs,room,()) (λ(z:Int)=>z=ia xs room):=by
 obtain ⟨h1,h2,h3⟩:=h
 unfold short at h1
 refine Eq.mp (Aaf xs room _) ?_
 rw [Bk (by omega) (by omega)]
 refine Br.dec (λh=>?_) λh=>?_
 ·simp only [ia,jk,if_pos h]
 ·simp only [ia,jk,if_neg h]
theorem EF:Sound Try.prog 74 qH:=
 Sound.Dp Cf At mixed Try.func74 (by kernel_rfl) (by kernel_rfl) λx h=>ZW x.1 x.2.1 h
theorem UA (xs:List (List Int)) (room:Int) (h:Ge xs/\roomy room):fnW Di (look [(74,qH)]) jD Try.f34 (xs,room,()) (λ(z:Int)=>z=Xi xs room):=by
 obtain ⟨⟨h1,h4⟩,h2,h3⟩:=h
 refine Eq.mp (UX xs room _) ?_
 rw [Bk (by omega) (by omega)]
 refine Br.dec (λh=>?_) λh=>?_
 ·simp only [Xi,jk,if_pos h];rfl
 ·refine Aq xs.length (λv=>v.2.1) (λj v=>roomy v.1/\wI (xs.drop j) v.1=Xi xs room) rfl ?_ ?_
  ·refine ⟨by unfold roomy;omega,?_⟩
   simp only [Xi,jk,if_neg h,List.drop_zero]
  ·rintro j ⟨r,i,⟨⟩⟩ K hj hi ⟨hr,hR⟩ hK
   dsimp only at hi hr hR⊢
   subst hi
   refine Br.dec (λhl=>?_) λhl=>?_
   ·have hl:j<xs.length:=by omega
    have hd:xs.drop j=xs[j]::xs.drop (j+1):=List.drop_eq_getElem_cons hl
    refine ⟨_,Ax hl,_,if_pos ⟨h4 _ (List.getElem_mem hl),hr⟩,?_⟩
    rw [hd] at hR
    simp only [wI] at hR
    refine Br.dec (λhn=>?_) λhn=>?_
    ·have hn:ia xs[j] r<0:=hn
     rw [if_pos hn] at hR
     exact hR
    ·have hn: ¬ia xs[j] r<0:=hn
     rw [if_neg hn] at hR
     rw [Ap (by omega)]
     exact hK hl _ rfl ⟨CT hr hn,hR⟩
   ·have:j=xs.length:=by omega
    subst this
    rw [List.drop_length] at hR
    exact hR
theorem ze:Sound Try.prog 34 jD:=
 Sound.Dp Cf (Ah EF At) mixed Try.func34 (by kernel_rfl) (by kernel_rfl) λx h=>UA x.1 x.2.1 h
theorem Ks {α:Type} {ys xs:List α} {j:Nat} (h:j<xs.length) (hl:ys.length=xs.length) (ht:ys.take j=xs.take j):(ys.set j xs[j]).take (j+1)=xs.take (j+1):=by
 have h1:j<(ys.set j xs[j]).length:=by rw [List.length_set];omega
 rw [List.take_succ_eq_append_getElem h1,List.take_succ_eq_append_getElem h,List.getElem_set_self,List.take_set_of_le (Nat.le_refl j),ht]
theorem ZY (xs:List Int) (h:short xs):fnW Di (look []) kJ Try.f17 (xs,()) (λ(z:List Int)=>z=xs):=by
 unfold short at h
 refine Eq.mp (Aah xs _) ?_
 refine ⟨⟨by omega,by show (xs.length:Int)<(4294967296:Int)+1;omega⟩,rfl,rfl,rfl,?_⟩
 refine Aq xs.length (λv=>v.1) (λj v=>v.2.1.length=xs.length/\v.2.1.take j=xs.take j) rfl ⟨by simp,by simp⟩ ?_
 rintro j ⟨i,ys,⟨⟩⟩ K hj hi ⟨h1,h2⟩ hK
 dsimp only at hi h1 h2⊢
 subst hi
 refine Br.dec (λhl=>?_) λhl=>?_
 ·have hl:j<xs.length:=by omega
  refine ⟨_,Ax hl,⟨by omega,by omega⟩,by rw [Int.toNat_natCast];omega,rfl,by rw [List.length_set],?_⟩
  rw [Ap (by omega),Int.toNat_natCast,Nat.zero_add]
  exact hK hl _ rfl ⟨by rw [List.length_set];exact h1,Ks hl h1 h2⟩
 ·have:j=xs.length:=by omega
  subst this
  rw [List.take_length,<-h1,List.take_length] at h2
  rw [List.drop_zero,List.take_length]
  exact h2
theorem qO:Sound Try.prog 17 kJ:=
 Sound.Dp Cf At mixed Try.func17 (by kernel_rfl) (by kernel_rfl) λx h=>ZY x.1 h
theorem UB (xs:List (List Int)) (h:Ge xs):fnW Di (look [(17,kJ)]) jE Try.f36 (xs,()) (λ(z:List (List Int))=>z=xs):=by
 obtain ⟨h,h4⟩:=h
 refine Eq.mp (UY xs _) ?_
 refine ⟨⟨by omega,by show (xs.length:Int)<(4294967296:Int)+1;omega⟩,rfl,rfl,rfl,?_⟩
 refine Aq xs.length (λv=>v.1) (λj v=>v.2.1.length=xs.length/\v.2.1.take j=xs.take j) rfl ⟨by simp,by simp⟩ ?_
 rintro j ⟨i,ys,⟨⟩⟩ K hj hi ⟨h1,h2⟩ hK
 dsimp only at hi h1 h2⊢
 subst hi
 refine Br.dec (λhl=>?_) λhl=>?_
 ·have hl:j<xs.length:=by omega
  refine ⟨_,Ax hl,_,if_pos (h4 _ (List.getElem_mem hl)),⟨by omega,by omega⟩,by rw [Int.toNat_natCast];omega,rfl,by rw [List.length_set],?_⟩
  rw [Ap (by omega),Int.toNat_natCast,Nat.zero_add]
  exact hK hl _ rfl ⟨by rw [List.length_set];exact h1,Ks hl h1 h2⟩
 ·have:j=xs.length:=by omega
  subst this
  rw [List.take_length,<-h1,List.take_length] at h2
  rw [List.drop_zero,List.take_length]
  exact h2
theorem zf:Sound Try.prog 36 jE:=
 Sound.Dp Cf (Ah qO At) mixed Try.func36 (by kernel_rfl) (by kernel_rfl) λx h=>UB x.1 h
theorem ZR (a b:List Int) (h:short a):fnW Di (look []) Cx Try.f20 (a,b,()) (λ(z:Bool)=>z=Ij a b):=by
 refine Eq.mp (Aaa a b _) ⟨λhl=>?_,λhl=>?_⟩
 ·simp only [bne_iff_ne,ne_eq,Int.natCast_inj] at hl
  exact (decide_eq_false λoz=>hl (by rw [oz])).symm
 ·simp only [bne_eq_false_iff_eq,Int.natCast_inj] at hl
  exact zI a b hl h
theorem qN:Sound Try.prog 20 Cx:=
 Sound.Dp Cf At mixed Try.func20 (by kernel_rfl) (by kernel_rfl) λx h=>ZR x.1 x.2.1 h
theorem TU (a b:List (List Int)) (h:Ge a):fnW Di (look [(20,Cx)]) jB Try.f38 (a,b,()) (λ(z:Bool)=>z=ji a b):=by
 obtain ⟨h,h4⟩:=h
 refine Eq.mp (UQ a b _) ⟨λhl=>?_,λhl=>?_⟩
 ·simp only [bne_iff_ne,ne_eq,Int.natCast_inj] at hl
  exact (decide_eq_false λoz=>hl (by rw [oz])).symm
 ·simp only [bne_eq_false_iff_eq,Int.natCast_inj] at hl
  refine Aq a.length (λv=>v.1) (λj _=>a.take j=b.take j) rfl (by simp) ?_
  rintro j ⟨i,⟨⟩⟩ K hj hi hR hK
  dsimp only at hi⊢
  subst hi
  refine Br.dec (λGz=>?_) λGz=>?_
  ·have uU:j<a.length:=by omega
   have zY:j<b.length:=by omega
   refine ⟨_,Ax uU,_,Ax zY,_,if_pos (h4 _ (List.getElem_mem uU)),⟨λhe=>?_,λhe=>?_⟩⟩
   ·refine (decide_eq_false λoz=>?_).symm
    subst oz
    simp [Ij] at he
   ·rw [Ap (by omega)]
    refine hK uU _ rfl ?_
    simp only [Ij,Bool.not_eq_false',decide_eq_true_eq] at he
    rw [List.take_succ_eq_append_getElem uU,List.take_succ_eq_append_getElem zY,hR]
    exact congrArg (λx=>List.take j b++ [x]) he
  ·have rI:j=a.length:=by omega
   subst rI
   rw [List.take_length,hl,List.take_length] at hR
   exact (decide_eq_true hR).symm
theorem zb:Sound Try.prog 38 jB:=
 Sound.Dp Cf (Ah qN At) mixed Try.func38 (by kernel_rfl) (by kernel_rfl) λx h=>TU x.1 x.2.1 h
end Go.Proofs.Ytjbdmibbbpdnnaa

namespace Go.Proofs.Ytjbdmibbbpdnnaa
open Go.RowKit
def PL (n:Int) (xs:List Int) (k:Nat):Prop:= ∀j (h:j<xs.length),j<k->0<=xs[j]/\xs[j]<=n-1/\(0<j->xs[j-1]<xs[j])
def DL (n:Int) (xs:List Int) (k:Nat):Prop:= ∀j (h:j<xs.length),j<k->0<=xs[j]/\xs[j]<=n-1/\xs[j]∉xs.take j
noncomputable def dec (p:Prop):Bool:= @decide p (Classical.propDecidable p)
theorem Ic {p:Prop} (h:p):true=dec p:=(@decide_eq_true p (Classical.propDecidable p) h).symm
theorem Bi {p:Prop} (h: ¬p):false=dec p:=(@decide_eq_false p (Classical.propDecidable p) h).symm
theorem Du {p:Prop} :dec p=true↔p:= @decide_eq_true_iff p (Classical.propDecidable p)
theorem LX {p:Prop} :dec p=false↔ ¬p:= @decide_eq_false_iff_not p (Classical.propDecidable p)
def TN (n:Int):Prop:=0<=n/\n<=4294967296
noncomputable def Ob (n:Int) (xs:List Int):Bool:=dec (0<xs.length/\PL n xs xs.length)
noncomputable abbrev Fp:Spec:=Dp (.pair tI (.pair tL .unit)) .bool false true (λx=>TN x.1/\short x.2.1) (λx=>Ob x.1 x.2.1)
noncomputable abbrev Tv:Spec:=Dp (.pair fY .unit) tI false true (λ_=>True) (λx=>(List.length x.1:Int))
theorem pC (n:Int) (xs:List Int) (P:Bool->Prop):(∃(y3:Bool),Bq.fn ((↑xs.length:Int),(1:Int),n,())=some y3/\Br (!y3) (P false) (Cb (λ(v4:Int×PUnit) (k5:Int×PUnit->Prop)=>Br (decide (v4.1<(↑xs.length:Int))) (∃(y6:Int),idx xs v4.1=some y6/\ ∃(y7:Bool),Bq.fn (y6,(0:Int),IntKind.i64.wrap (n-(1:Int)),())=some y7/\Br (!y7) (P false) (Br (decide (v4.1>(0:Int))) (∃(y8:Int),idx xs v4.1=some y8/\ ∃(y9:Int),idx xs (IntKind.i64.wrap (v4.1-(1:Int)))=some y9/\Br (decide (y8<=y9)) (P false) (k5 (IntKind.i64.wrap (v4.1+(1:Int)),()))) (k5 (IntKind.i64.wrap (v4.1+(1:Int)),())))) (P true)) ((0:Int),PUnit.unit)))=fnW Di (look [(93,Bq)]) Fp Try.f111 (n,xs,()) P:=by kernel_rfl
theorem wW (n:Int) (xs:List Int) (P:Bool->Prop):(Cb (λ(v3:Int×PUnit) (k4:Int×PUnit->Prop)=>Br (decide (v3.1<(↑xs.length:Int))) (∃(y5:Int),idx xs v3.1=some y5/\ ∃(y6:Bool),Uh.fn (n,y5,())=some y6/\Br (!y6) (P false) (Br (decide (v3.1>(0:Int))) (∃(y7:Int),idx xs (IntKind.i64.wrap (v3.1-(1:Int)))=some y7/\Br (decide (y7>=y5)) (P false) (k4 (IntKind.i64.wrap (v3.1+(1:Int)),()))) (k4 (IntKind.i64.wrap (v3.1+(1:Int)),())))) (P (decide ((↑xs.length:Int)>(0:Int))))) ((0:Int),PUnit.unit))=fnW Di (look [(116,Uh)]) Fp Try.f66 (n,xs,()) P:=by kernel_rfl
theorem OO (xs:List (List Int)) (P:Int->Prop):(P (↑xs.length:Int))=fnW Di (look []) Tv Try.f58 (xs,()) P:=by kernel_rfl
theorem NO (xs:List (List Int)) (_:True):fnW Di (look []) Tv Try.f58 (xs,()) (λ(z:Int)=>z=(xs.length:Int)):=Eq.mp (OO xs _) rfl
theorem kK:Sound Try.prog 58 Tv:=
 Sound.Dp Cf At mixed Try.func58 (by kernel_rfl) (by kernel_rfl) λx h=>NO x.1 h
theorem kA {n x:Int} (hn:TN n):dD n x=true↔0<=x/\x<=n-1:=by
 unfold dD TN at*
 rw [Bk (by omega) (by omega),decide_eq_true_iff]
theorem Cp {x a b:Int} :Hj x a b=true↔a<=x/\x<=b:=decide_eq_true_iff
theorem Cy {b:Bool} (h:(!b)=true): ¬b=true:=by cases b<;>simp_all
theorem Gr {b:Bool} (h:(!b)=false):b=true:=by cases b<;>simp_all
theorem yL {n:Int} {xs:List Int} (h:PL n xs xs.length): ∀j (hj:j<xs.length),(j:Int)<=xs[j]
 |0,hj=>(h 0 hj hj).1
 |j+1,hj=>by
  have h1:=yL h j (by omega)
  have h2:=(h (j+1) hj hj).2.2 (by omega)
  simp only [Nat.add_sub_cancel] at h2
  omega
theorem lH {n:Int} {xs:List Int} {j:Nat} (hl:j<xs.length) (h:PL n xs j) (h1:0<=xs[j]) (h2:xs[j]<=n-1) (h3:0<j->xs[j-1]<xs[j]):PL n xs (j+1):=by
 intro i hi eo
 by_cases e:i=j
 ·subst e;exact ⟨h1,h2,h3⟩
 ·exact h i hi (by omega)
theorem vZ (n:Int) (xs:List Int) (h:TN n/\short xs):fnW Di (look [(116,Uh)]) Fp Try.f66 (n,xs,()) (λ(z:Bool)=>z=Ob n xs):=by
 obtain ⟨hn,h⟩:=h
 unfold short at h
 refine Eq.mp (wW n xs _) ?_
 refine Aq xs.length (λv=>v.1) (λj _=>PL n xs j) rfl (λj _ hj=>absurd hj (Nat.not_lt_zero _)) ?_
 rintro j ⟨i,⟨⟩⟩ K hj hi hR hK
 dsimp only at hi⊢
 subst hi
 refine Br.dec (λhl=>?_) λhl=>?_
 ·have hl:j<xs.length:=by omega
  refine ⟨_,Ax hl,_,if_pos trivial,⟨λhp=>?_,λhp=>?_⟩⟩
  ·have hp:=Cy hp
   rw [kA hn] at hp
   exact Bi λhh=>hp ⟨(hh.2 j hl hl).1,(hh.2 j hl hl).2.1⟩
  ·have hp:=Gr hp
   rw [kA hn] at hp
   refine Br.dec (λh0=>?_) λh0=>?_
   ·have h0:0<j:=by omega
    rw [Bk (by omega) (by omega),show (j:Int)-1=((j-1:Nat):Int) by omega]
    refine ⟨_,Ax (by omega),Br.dec (λhg=>?_) λhg=>?_⟩
    ·exact Bi λhh=>by have:=(hh.2 j hl hl).2.2 h0;omega
    ·rw [Ap (by omega)]
     exact hK hl _ rfl (lH hl hR hp.1 hp.2 λ_=>by omega)
   ·have h0:j=0:=by omega
    rw [Ap (by omega)]
    exact hK hl _ rfl (lH hl hR hp.1 hp.2 λh=>by omega)
 ·have:j=xs.length:=by omega
  subst this
  by_cases h0:0<xs.length
  ·rw [decide_eq_true (show (xs.length:Int)>0 by omega)];exact Ic ⟨h0,hR⟩
  ·rw [decide_eq_false (show ¬(xs.length:Int)>0 by omega)];exact Bi λhh=>h0 hh.1
theorem lg:Sound Try.prog 66 Fp:=
 Sound.Dp Cf (Ah pj At) mixed Try.func66 (by kernel_rfl) (by kernel_rfl) λx h=>vZ x.1 x.2.1 h
theorem oV (n:Int) (xs:List Int) (h:TN n/\short xs):fnW Di (look [(93,Bq)]) Fp Try.f111 (n,xs,()) (λ(z:Bool)=>z=Ob n xs):=by
 obtain ⟨hn,h⟩:=h
 unfold short at h
 refine Eq.mp (pC n xs _) ⟨_,if_pos trivial,⟨λhp=>?_,λhp=>?_⟩⟩
 ·have hp:=Cy hp
  rw [Cp] at hp
  dsimp only at hp
  refine Bi λhh=>hp ⟨by omega,?_⟩
  have:=yL hh.2 (xs.length-1) (by omega)
  have:=(hh.2 (xs.length-1) (by omega) (by omega)).2.1
  omega
 ·have hp:=Gr hp
  rw [Cp] at hp
  dsimp only at hp
  refine Aq xs.length (λv=>v.1) (λj _=>PL n xs j) rfl (λj _ hj=>absurd hj (Nat.not_lt_zero _)) ?_
  rintro j ⟨i,⟨⟩⟩ K hj hi hR hK
  dsimp only at hi⊢
  subst hi
  refine Br.dec (λhl=>?_) λhl=>?_
  ·have hl:j<xs.length:=by omega
   refine ⟨_,Ax hl,_,if_pos trivial,⟨λhq=>?_,λhq=>?_⟩⟩
   ·have hq:=Cy hq
    unfold TN at hn
    rw [Cp,Bk (by omega) (by omega)] at hq
    exact Bi λhh=>hq ⟨(hh.2 j hl hl).1,(hh.2 j hl hl).2.1⟩
   ·have hq:=Gr hq
    unfold TN at hn
    rw [Cp,Bk (by omega) (by omega)] at hq
    refine Br.dec (λh0=>?_) λh0=>?_
    ·have h0:0<j:=by omega
     rw [Bk (by omega) (by omega),show (j:Int)-1=((j-1:Nat):Int) by omega]
     refine ⟨_,Ax hl,_,Ax (by omega),Br.dec (λhg=>?_) λhg=>?_⟩
     ·exact Bi λhh=>by have:=(hh.2 j hl hl).2.2 h0;omega
     ·rw [Ap (by omega)]
      exact hK hl _ rfl (lH hl hR hq.1 hq.2 λ_=>by omega)
    ·rw [Ap (by omega)]
     exact hK hl _ rfl (lH hl hR hq.1 hq.2 λh=>by omega)
  ·have:j=xs.length:=by omega
   subst this
   exact Ic ⟨by omega,hR⟩
theorem iy:Sound Try.prog 111 Fp:=
 Sound.Dp Cf (Ah Xo At) mixed Try.func111 (by kernel_rfl) (by kernel_rfl) λx h=>oV x.1 x.2.1 h
theorem LZ {n:Int} {xs:List Int} {j:Nat} (hl:j<xs.length) (h:DL n xs j) (h1:0<=xs[j]) (h2:xs[j]<=n-1) (h3:xs[j]∉xs.take j):DL n xs (j+1):=by
 intro i hi eo
 by_cases e:i=j
 ·subst e;exact ⟨h1,h2,h3⟩
 ·exact h i hi (by omega)
theorem z0 {xs:List Int} (h:short xs) (j:Nat):short (xs.take j):=by
 unfold short at*
 rw [List.length_take]
 omega
end Go.Proofs.Ytjbdmibbbpdnnaa

namespace Go.Proofs.Ytjbdmibbbpdnnaa
open Go.RowKit
theorem wg:roomy 1048576:=⟨by decide,by decide⟩
end Go.Proofs.Ytjbdmibbbpdnnaa

namespace Go.Proofs.Ytjbdmibbbpdnnaa
open Go.RowKit
abbrev PP:Type:=Int×ByteArray×List (List Int)×Unit
noncomputable def Fu (p:List Int):Bool:=dec (1<=p.length/\p.length<=20/\DL p.length p p.length)
noncomputable def Ej (n:Int) (p:List Int):Bool:=dec ((p.length:Int)=n/\Fu p=true)
noncomputable def Si (n:Int) (g:List (List Int)):Bool:=dec ((1<=n/\n<=20)/\g.length<=8/\ ∀p∈g,Ej n p=true)
def Eb {α:Type} (P:α->Bool):List α->Int->Int
 | [],_=> -1
 |y::r,i=>if P y=true then i else Eb P r (i+1)
abbrev tG1:Ty:= .clo 177 (.pair (.ptr tI) .unit)
def qU (s:ByteArray) (i:Nat):Prop:= ∃c:UInt8,s[i]?=some c/\65<=c.toNat/\c.toNat<=90/\ ∀k,k<i->s[k]?≠some c
noncomputable def hZ (s:ByteArray) (i:Int):Bool:=dec (qU s i.toNat)
noncomputable def Yr (s:ByteArray):Bool:=dec ((1<=s.size/\s.size<=8)/\ ∀j,j<s.size->qU s j)
noncomputable def Bh (p:PP):Bool:=dec (Si p.1 p.2.2.1=true/\Yr p.2.1=true/\p.2.1.size=p.2.2.1.length)
noncomputable def Bl (p:PP) (xs:List Int):Bool:=dec (Bh p=true/\Ob p.2.2.1.length xs=true)
def Cj (p:PP):Prop:=p.2.1.size<=4294967296/\Ge p.2.2.1
noncomputable abbrev Mp:Spec:=Dp (.pair tL .unit) tI false true (λ_=>True) (λx=>(List.length x.1:Int))
noncomputable abbrev En:Spec:=Dp (.pair tL .unit) .bool false true (λx=>short x.1) (λx=>Fu x.1)
noncomputable abbrev Ki:Spec:=Dp (.pair tI (.pair fY .unit)) .bool false true (λx=>Ge x.2.1) (λx=>Si x.1 x.2.1)
noncomputable abbrev dI:Spec:=Dp (.pair tL (.pair (.ptr tI) .unit)) .bool false true (λx=>short x.1) (λx=>!Ej x.2.1 x.1)
noncomputable abbrev qG:Spec:=Dp (.pair fY (.pair tG1 .unit)) tI false true (λx=>Ge x.1) (λx=>Eb (λp=>!Ej x.2.1.1 p) x.1 0)
noncomputable abbrev qC:Spec:=Dp (.pair fY (.pair tG1 .unit)) .bool false true (λx=>Ge x.1) (λx=>List.any x.1 (λp=>!Ej x.2.1.1 p))
noncomputable abbrev Yy:Spec:=Dp (.pair .str (.pair tI .unit)) .bool false true (λx=>0<=x.2.1/\x.2.1<x.1.size/\x.1.size<=4294967296) (λx=>hZ x.1 x.2.1)
noncomputable abbrev Ug:Spec:=Dp (.pair .str .unit) .bool false true (λx=>x.1.size<=4294967296) (λx=>Yr x.1)
noncomputable abbrev Eo:Spec:=Dp (.pair Cu .unit) .bool false true (λx=>Cj x.1) (λx=>Bh x.1)
noncomputable abbrev Es:Spec:=Dp (.pair Cu (.pair tL .unit)) .bool false true (λx=>Cj x.1/\short x.2.1) (λx=>Bl x.1 x.2.1)
def cv (p:PP) (room:Int):Int:=if room-p.2.1.size<0 then-1 else if Xi p.2.2.1 (room-p.2.1.size)<0 then-1 else Xi p.2.2.1 (room-p.2.1.size)
def ky (a b:PP):Bool:=decide (a.1=b.1)&&(decide (a.2.1=b.2.1)&&decide (a.2.2.1=b.2.2.1))
noncomputable abbrev qI:Spec:=Dp (.pair Cu (.pair tI .unit)) tI false true (λx=>Cj x.1/\roomy x.2.1) (λx=>cv x.1 x.2.1)
noncomputable abbrev qJ:Spec:=Dp (.pair Cu .unit) Cu false true (λx=>Cj x.1) (λx=>x.1)
noncomputable abbrev qD:Spec:=Dp (.pair Cu (.pair Cu .unit)) .bool false true (λx=>Cj x.1) (λx=>ky x.1 x.2.1)
theorem US (xs:List Int) (P:Int->Prop):(P (↑xs.length:Int))=fnW Di (look []) Mp Try.f82 (xs,()) P:=by kernel_rfl
theorem tF (p:List Int) (P:Bool->Prop):(∃(y2:Bool),Bq.fn ((↑p.length:Int),(1:Int),(20:Int),())=some y2/\Br (!y2) (P false) (Cb (λ(v3:Int×PUnit) (k4:Int×PUnit->Prop)=>Br (decide (v3.1<(↑p.length:Int))) (∃(y5:Int),idx p v3.1=some y5/\ ∃(y6:Bool),Bq.fn (y5,(0:Int),IntKind.i64.wrap ((↑p.length:Int)-(1:Int)),())=some y6/\Br (!y6) (P false) (((0:Int)<=(0:Int)/\(0:Int)<=v3.1/\v3.1<=(↑p.length:Int))/\ ∃(y7:Int),idx p v3.1=some y7/\ ∃(y8:Bool),Ko.fn (List.drop (Int.toNat (0:Int)) (List.take v3.1.toNat p),y7,())=some y8/\Br y8 (P false) (k4 (IntKind.i64.wrap (v3.1+(1:Int)),())))) (P true)) ((0:Int),PUnit.unit)))=fnW Di (look [(93,Bq),(153,Ko)]) En Try.f169 (p,()) P:=by kernel_rfl
theorem tB (p:List Int) (P:Bool->Prop):(∃(y2:Int),Mp.fn (p,())=some y2/\ ∃(y3:Bool),Bq.fn (y2,(1:Int),(20:Int),())=some y3/\Br (!y3) (P false) (Cb (λ(v4:Int×Int×PUnit) (k5:Int×Int×PUnit->Prop)=>Br (decide (v4.2.1<(↑p.length:Int))) (∃(y6:Int),idx p v4.2.1=some y6/\ ∃(y7:Int),Mp.fn (p,())=some y7/\ ∃(y8:Bool),Bq.fn (y6,(0:Int),IntKind.i64.wrap (y7-(1:Int)),())=some y8/\Br (!y8) (P false) (¬y6<(0:Int)/\k5 (IntKind.i64.wrap (↑(BitVec.ofInt IntKind.i64.bits v4.1|||BitVec.ofInt IntKind.i64.bits (IntKind.i64.wrap ((1:Int)*(2:Int)^min y6.toNat IntKind.i64.bits))).toNat:Int),IntKind.i64.wrap (v4.2.1+(1:Int)),()))) (¬(↑p.length:Int)<(0:Int)/\P (v4.1==IntKind.i64.wrap (IntKind.i64.wrap ((1:Int)*(2:Int)^min (↑p.length:Int).toNat IntKind.i64.bits)-(1:Int))))) ((0:Int),(0:Int),PUnit.unit)))=fnW Di (look [(97,Bq),(82,Mp)]) En Try.f168 (p,()) P:=by kernel_rfl
theorem tE (n:Int) (g:List (List Int)) (P:Bool->Prop):(∃(y3:Bool),Bq.fn (n,(1:Int),(20:Int),())=some y3/\Br (!y3) (P false) (Br (decide ((↑g.length:Int)>(8:Int))) (P false) (Cb (λ(v4:Int×PUnit) (k5:Int×PUnit->Prop)=>Br (decide (v4.1<(↑g.length:Int))) (∃(y6:List Int),idx g v4.1=some y6/\Br ((↑y6.length:Int) !=n) (P false) (∃(y7:List Int),idx g v4.1=some y7/\ ∃(y8:Bool),En.fn (y7,())=some y8/\Br (!y8) (P false) (k5 (IntKind.i64.wrap (v4.1+(1:Int)),())))) (P true)) ((0:Int),PUnit.unit))))=fnW Di (look [(93,Bq),(169,En)]) Ki Try.f147 (n,g,()) P:=by kernel_rfl
theorem OM (p:List Int) (n:Int) (P:Bool->Prop):(∃(y3:Int),Mp.fn (p,())=some y3/\Br (y3 !=n) (P true) (∃(y4:Bool),En.fn (p,())=some y4/\P !y4))=fnW Di (look [(82,Mp),(168,En)]) dI Try.f177 (p,n,()) P:=by kernel_rfl
theorem Aae (g:List (List Int)) (n:Int×Unit) (P:Int->Prop):(Cb (λ(v3:Int×PUnit) (k4:Int×PUnit->Prop)=>Br (decide (v3.1<(↑g.length:Int))) (∃(y5:List Int),idx g v3.1=some y5/\ ∃(y6:Bool),dI.fn (y5,n.1,())=some y6/\Br y6 (P v3.1) (k4 (IntKind.i64.wrap (v3.1+(1:Int)),()))) (P (-1:Int))) ((0:Int),PUnit.unit))=fnW Di (look [(177,dI)]) qG Try.f184 (g,n,()) P:=by kernel_rfl
theorem Aa9 (g:List (List Int)) (n:Int×Unit) (P:Bool->Prop):(∃(y3:Int),qG.fn (g,n,())=some y3/\P (decide (y3>=(0:Int))))=fnW Di (look [(184,qG)]) qC Try.f176 (g,n,()) P:=by kernel_rfl
theorem tA (n:Int) (g:List (List Int)) (P:Bool->Prop):(∃(y3:Bool),Bq.fn (n,(1:Int),(20:Int),())=some y3/\Br y3 (Br (decide ((↑g.length:Int)<=(8:Int))) (∃(y4:Bool),qC.fn (g,(n,()),())=some y4/\P !y4) (P false)) (P false))=fnW Di (look [(97,Bq),(176,qC)]) Ki Try.f158 (n,g,()) P:=by kernel_rfl
theorem KP (s:ByteArray) (i:Int) (P:Bool->Prop):((0:Int)<=i/\ ∃(y3:UInt8),s[i.toNat]?=some y3/\Br (decide ((↑y3.toNat:Int)<(65:Int))) (P false) ((0:Int)<=i/\ ∃(y4:UInt8),s[i.toNat]?=some y4/\Br (decide ((↑y4.toNat:Int)>(90:Int))) (P false) (Cb (λ(v5:Int×PUnit) (k6:Int×PUnit->Prop)=>Br (decide (v5.1<i)) ((0:Int)<=v5.1/\ ∃(y7:UInt8),s[v5.1.toNat]?=some y7/\(0:Int)<=i/\ ∃(y8:UInt8),s[i.toNat]?=some y8/\Br ((↑y7.toNat:Int)==(↑y8.toNat:Int)) (P false) (k6 (IntKind.i64.wrap (v5.1+(1:Int)),()))) (P true)) ((0:Int),PUnit.unit))))=fnW Di (look []) Yy Try.f148 (s,i,()) P:=by kernel_rfl
theorem FB (s:ByteArray) (P:Bool->Prop):(Cb (λ(v2:Int×PUnit) (k3:Int×PUnit->Prop)=>Br (decide (v2.1<(↑s.size:Int))) ((0:Int)<=v2.1/\ ∃(y4:UInt8),s[v2.1.toNat]?=some y4/\ ∃(y5:Bool),Bq.fn (IntKind.i64.wrap (↑y4.toNat:Int),(65:Int),(90:Int),())=some y5/\Br (!y5) (P false) (Cb (λ(v6:Int×PUnit) (k7:Int×PUnit->Prop)=>Br (decide (v6.1<v2.1)) ((0:Int)<=v6.1/\ ∃(y8:UInt8),s[v6.1.toNat]?=some y8/\(0:Int)<=v2.1/\ ∃(y9:UInt8),s[v2.1.toNat]?=some y9/\Br ((↑y8.toNat:Int)==(↑y9.toNat:Int)) (P false) (k7 (IntKind.i64.wrap (v6.1+(1:Int)),()))) (k3 (IntKind.i64.wrap (v2.1+(1:Int)),()))) ((0:Int),PUnit.unit))) (∃(y4:Bool),Bq.fn ((↑s.size:Int),(1:Int),(8:Int),())=some y4/\P y4)) ((0:Int),PUnit.unit))=fnW Di (look [(97,Bq)]) Ug Try.f159 (s,()) P:=by kernel_rfl
abbrev eL:Type:=Int×Int×ByteArray×List (List Int)×PUnit
theorem tG (p:Int×ByteArray×List (List Int)×Unit) (P:Bool->Prop):(Br ((↑p.2.2.1.length:Int)==(0:Int)) (P false) (Br ((↑p.2.1.size:Int) !=(↑p.2.2.1.length:Int)) (P false) (∃(y2:Bool),Ki.fn (p.1,p.2.2.1,())=some y2/\Br (!y2) (P false) (Cb (λ(v3:eL) (k4:eL->Prop)=>Br (decide (v3.1<(↑v3.2.2.1.size:Int))) (∃(y5:Bool),Yy.fn (v3.2.2.1,v3.1,())=some y5/\Br (!y5) (P false) (k4 (IntKind.i64.wrap (v3.1+(1:Int)),v3.2.1,v3.2.2.1,v3.2.2.2.1,()))) (P true)) ((0:Int),p.1,p.2.1,p.2.2.1,PUnit.unit)))))=fnW Di (look [(147,Ki),(148,Yy)]) Eo Try.f110 (p,()) P:=by kernel_rfl
theorem tC (p:Int×ByteArray×List (List Int)×Unit) (P:Bool->Prop):(∃(y2:Bool),Ki.fn (p.1,p.2.2.1,())=some y2/\Br y2 (∃(y3:Bool),Ug.fn (p.2.1,())=some y3/\Br y3 (P ((↑p.2.1.size:Int)==(↑p.2.2.1.length:Int))) (P false)) (P false))=fnW Di (look [(158,Ki),(159,Ug)]) Eo Try.f130 (p,()) P:=by kernel_rfl
theorem jT (p:Int×ByteArray×List (List Int)×Unit) (xs:List Int) (P:Bool->Prop):(∃(y3:Bool),Eo.fn ((p.1,p.2.1,p.2.2.1,()),())=some y3/\Br y3 (∃(y4:Bool),Fp.fn ((↑p.2.2.1.length:Int),xs,())=some y4/\P y4) (P false))=fnW Di (look [(110,Eo),(111,Fp)]) Es Try.f101 (p,xs,()) P:=by kernel_rfl
theorem jS (p:Int×ByteArray×List (List Int)×Unit) (xs:List Int) (P:Bool->Prop):(∃(y3:Bool),Eo.fn ((p.1,p.2.1,p.2.2.1,()),())=some y3/\Br y3 (∃(y4:Int),Tv.fn (p.2.2.1,())=some y4/\ ∃(y5:Bool),Fp.fn (y4,xs,())=some y5/\P y5) (P false))=fnW Di (look [(130,Eo),(66,Fp),(58,Tv)]) Es Try.f106 (p,xs,()) P:=by kernel_rfl
theorem Aag (p:Int×ByteArray×List (List Int)×Unit) (room:Int) (P:Int->Prop):(Br (decide (IntKind.i64.wrap (room-(↑p.2.1.size:Int))<(0:Int))) (P (-1:Int)) (∃(y3:Int),jD.fn (p.2.2.1,IntKind.i64.wrap (room-(↑p.2.1.size:Int)),())=some y3/\Br (decide (y3<(0:Int))) (P (-1:Int)) (P y3)))=fnW Di (look [(34,jD)]) qI Try.f14 (p,room,()) P:=by kernel_rfl
theorem Aai (p:Int×ByteArray×List (List Int)×Unit) (P:(Int×ByteArray×List (List Int)×Unit)->Prop):(∃(y2:List (List Int)),jE.fn (p.2.2.1,())=some y2/\P (p.1,p.2.1,y2,()))=fnW Di (look [(36,jE)]) qJ Try.f16 (p,()) P:=by kernel_rfl
theorem Aab (a b:Int×ByteArray×List (List Int)×Unit) (P:Bool->Prop):(Br (a.1 !=b.1) (P false) (Br (!a.2.1.toList==b.2.1.toList) (P false) (∃(y3:Bool),jB.fn (a.2.2.1,b.2.2.1,())=some y3/\Br (!y3) (P false) (P true))))=fnW Di (look [(38,jB)]) qD Try.f19 (a,b,()) P:=by kernel_rfl
theorem TW (xs:List Int) (_:True):fnW Di (look []) Mp Try.f82 (xs,()) (λ(z:Int)=>z=(xs.length:Int)):=Eq.mp (US xs _) rfl
theorem aI:Sound Try.prog 82 Mp:=
 Sound.Dp Cf At mixed Try.func82 (by kernel_rfl) (by kernel_rfl) λx h=>TW x.1 h
theorem tg {α:Type} [DecidableEq α]: ∀(l m:List α),l.Nodup->(∀x∈l,x∈m)->l.length<=m.length
 | [],m,_,_=>Nat.zero_le _
 |a::l,m,hn,hs=>by
  have ha:a∈m:=hs a (List.mem_cons_self ..)
  have hn:=List.nodup_cons.1 hn
  have:=tg l (m.erase a) hn.2 λx hx=>(List.mem_erase_of_ne (λ(e:x=a)=>hn.1 (by rw [<-e];exact hx))).2 (hs x (List.mem_cons_of_mem _ hx))
  rw [List.length_erase_of_mem ha] at this
  have:0<m.length:=List.length_pos_of_mem ha
  simp only [List.length_cons]
  omega
def upto (n:Nat):List Int:=(List.range n).map Int.ofNat
theorem o3 (n:Nat):(upto n).Nodup:=by
 unfold upto
 exact List.Pairwise.map _ (λa b oz e=>oz (Int.ofNat.inj e)) List.nodup_range
theorem Ik {n:Nat} {x:Int} :x∈upto n↔0<=x/\x<n:=by
 unfold upto
 simp only [List.mem_map,List.mem_range]
 constructor
 ·rintro ⟨a,ha,rfl⟩;exact ⟨Int.natCast_nonneg _,Int.ofNat_lt.2 ha⟩
 ·rintro ⟨h1,h2⟩;exact ⟨x.toNat,by omega,by simp only [Int.ofNat_eq_natCast];omega⟩
theorem Pw (n:Nat):(upto n).length=n:=by simp [upto]
theorem cz {xs:List Int} (h: ∀j (hj:j<xs.length),xs[j]∉xs.take j):xs.Nodup:=by
 refine List.pairwise_iff_getElem.2 λi j hi hj eo e=>h j hj ?_
 rw [<-e]
 exact List.mem_take_iff_getElem.2 ⟨i,by omega,rfl⟩
theorem o0 {xs:List Int} (h:xs.Nodup): ∀j (hj:j<xs.length),xs[j]∉xs.take j:=by
 intro j hj hm
 obtain ⟨i,hi,e⟩:=List.mem_take_iff_getElem.1 hm
 exact List.pairwise_iff_getElem.1 h i j (by omega) hj (by omega) e
theorem Xa {xs:List Int} (h: ∀x∈xs,0<=x/\x<xs.length):(∀k:Nat,k<xs.length->(k:Int)∈xs)↔ ∀j (hj:j<xs.length),xs[j]∉xs.take j:=by
 constructor
 ·intro ha j hj hm
  have h1:=tg (upto xs.length) (xs.take j++xs.drop (j+1)) (o3 _) λx hx=>by
   obtain ⟨h1,h2⟩:=Ik.1 hx
   have hx:=ha x.toNat (by omega)
   rw [show ((x.toNat:Nat):Int)=x by omega] at hx
   rw [<-List.take_append_drop j xs,List.mem_append,List.drop_eq_getElem_cons hj,List.mem_cons] at hx
   rcases hx with hx|rfl|hx
   ·exact List.mem_append_left _ hx
   ·exact List.mem_append_left _ hm
   ·exact List.mem_append_right _ hx
  rw [Pw,List.length_append,List.length_take,List.length_drop] at h1
  omega
 ·intro hn k hk
  refine Classical.byContradiction λhc=>?_
  have h1:=tg xs ((upto xs.length).erase (k:Int)) (cz hn) λx hx=>by
   refine (List.mem_erase_of_ne λ(e:x=(k:Int))=>hc (by rw [<-e];exact hx)).2 (Ik.2 (h x hx))
  rw [List.length_erase_of_mem (Ik.2 ⟨by omega,by omega⟩),Pw] at h1
  omega
def mask (xs:List Int):Nat:=xs.foldl (λm x=>m|||2^x.toNat) 0
theorem CU (xs:List Int) (x:Int):mask (xs++ [x])=mask xs|||2^x.toNat:=by simp [mask]
theorem sj (xs:List Int) (k:Nat): ∀a:Nat,(xs.foldl (λm x=>m|||2^x.toNat) a).testBit k=(a.testBit k||xs.any λx=>decide (x.toNat=k)):=by
 induction xs with
 |nil=>simp
 |cons x xs ih=>
  intro a
  rw [List.foldl_cons,ih,Nat.testBit_or,Nat.testBit_two_pow,List.any_cons,Bool.or_assoc]
theorem mR (xs:List Int) (k:Nat):(mask xs).testBit k=xs.any λx=>decide (x.toNat=k):=by
 unfold mask
 rw [sj,Nat.zero_testBit,Bool.false_or]
theorem NI {xs:List Int} {n:Nat} (h: ∀x∈xs,x.toNat<n):mask xs<2^n:=by
 refine Nat.lt_pow_two_of_testBit _ λk hk=>?_
 rw [mR]
 refine Bool.eq_false_iff.2 λht=>?_
 obtain ⟨x,hx,he⟩:=List.any_eq_true.1 ht
 have:=h x hx
 have:=of_decide_eq_true he
 omega
theorem qi {xs:List Int} (h: ∀x∈xs,0<=x/\x<xs.length):mask xs=2^xs.length-1↔ ∀k:Nat,k<xs.length->(k:Int)∈xs:=by
 constructor
 ·intro e k hk
  have h1:=mR xs k
  rw [e,Nat.testBit_two_pow_sub_one,decide_eq_true hk] at h1
  obtain ⟨x,hx,he⟩:=List.any_eq_true.1 h1.symm
  have:=(h x hx).1
  have:=of_decide_eq_true he
  have e:x=(k:Int):=by omega
  exact e▸hx
 ·intro ha
  refine Nat.eq_of_testBit_eq λk=>?_
  rw [mR,Nat.testBit_two_pow_sub_one]
  by_cases hk:k<xs.length
  ·rw [decide_eq_true hk]
   exact List.any_eq_true.2 ⟨k,ha k hk,by simp⟩
  ·rw [decide_eq_false hk]
   refine Bool.eq_false_iff.2 λht=>?_
   obtain ⟨x,hx,he⟩:=List.any_eq_true.1 ht
   have:=h x hx
   have:=of_decide_eq_true he
   omega
theorem NK {m:Nat} {x:Int} (hm:m<2^20) (h0:0<=x) (h1:x<20):
  IntKind.i64.wrap (((BitVec.ofInt IntKind.i64.bits (m:Int)|||BitVec.ofInt IntKind.i64.bits (IntKind.i64.wrap ((1:Int)*(2:Int)^min x.toNat IntKind.i64.bits))).toNat:Nat):Int)=((m|||2^x.toNat:Nat):Int):=by
 have hx:(2:Nat)^x.toNat<2^20:=Nat.pow_lt_pow_right (by omega) (by omega)
 have e1:min x.toNat IntKind.i64.bits=x.toNat:=by show min x.toNat 64=_;omega
 have e2:(1:Int)*(2:Int)^x.toNat=((2^x.toNat:Nat):Int):=by rw [Int.one_mul];exact (Int.natCast_pow 2 _).symm
 rw [e1,e2,Bk (n:=((2^x.toNat:Nat):Int)) (by have:(0:Int)<=((2^x.toNat:Nat):Int):=Int.natCast_nonneg _;omega) (by omega)]
 show IntKind.i64.wrap (((BitVec.ofInt 64 (m:Int)|||BitVec.ofInt 64 ((2^x.toNat:Nat):Int)).toNat:Nat):Int)=_
 rw [BitVec.ofInt_natCast,BitVec.ofInt_natCast,BitVec.toNat_or,BitVec.toNat_ofNat,BitVec.toNat_ofNat,Nat.mod_eq_of_lt (by omega),Nat.mod_eq_of_lt (by omega)]
 have:=Nat.or_lt_two_pow hm hx
 exact Bk (by omega) (by omega)
theorem su (p:List Int) (h:short p):fnW Di (look [(93,Bq),(153,Ko)]) En Try.f169 (p,()) (λ(z:Bool)=>z=Fu p):=by
 have hs:=h
 unfold short at h
 refine Eq.mp (tF p _) ⟨_,if_pos trivial,⟨λhp=>?_,λhp=>?_⟩⟩
 ·have hp:=Cy hp
  rw [Cp] at hp
  dsimp only at hp
  exact Bi λhh=>hp ⟨by omega,by omega⟩
 ·have hp:=Gr hp
  rw [Cp] at hp
  dsimp only at hp
  refine Aq p.length (λv=>v.1) (λj _=>DL p.length p j) rfl (λj _ hj=>absurd hj (Nat.not_lt_zero _)) ?_
  rintro j ⟨i,⟨⟩⟩ K hj hi hR hK
  dsimp only at hi⊢
  subst hi
  refine Br.dec (λhl=>?_) λhl=>?_
  ·have hl:j<p.length:=by omega
   refine ⟨_,Ax hl,_,if_pos trivial,⟨λhq=>?_,λhq=>?_⟩⟩
   ·have hq:=Cy hq
    rw [Cp,Bk (by omega) (by omega)] at hq
    exact Bi λhh=>hq ⟨(hh.2.2 j hl hl).1,(hh.2.2 j hl hl).2.1⟩
   ·have hq:=Gr hq
    rw [Cp,Bk (by omega) (by omega)] at hq
    refine ⟨⟨by omega,by omega,by omega⟩,_,Ax hl,?_⟩
    rw [show (Int.toNat 0)=0 from rfl,List.drop_zero,Int.toNat_natCast]
    refine ⟨_,if_pos (z0 hs j),⟨λhc=>?_,λhc=>?_⟩⟩
    ·have hc:decide (p[j]∈p.take j)=true:=hc
     rw [decide_eq_true_iff] at hc
     exact Bi λhh=>(hh.2.2 j hl hl).2.2 hc
    ·have hc:decide (p[j]∈p.take j)=false:=hc
     rw [decide_eq_false_iff_not] at hc
     rw [Ap (by omega)]
     exact hK hl _ rfl (LZ hl hR hq.1 hq.2 hc)
  ·have:j=p.length:=by omega
   subst this
   exact Ic ⟨by omega,by omega,hR⟩
theorem Rh:Sound Try.prog 169 En:=
 Sound.Dp Cf (Ah Xo (Ah ix At)) mixed Try.func169 (by kernel_rfl) (by kernel_rfl) λx h=>su x.1 h
theorem so (p:List Int) (h:short p):fnW Di (look [(97,Bq),(82,Mp)]) En Try.f168 (p,()) (λ(z:Bool)=>z=Fu p):=by
 unfold short at h
 refine Eq.mp (tB p _) ⟨_,if_pos trivial,_,if_pos trivial,⟨λhp=>?_,λhp=>?_⟩⟩
 ·have hp:=Cy hp
  rw [Cp] at hp
  dsimp only at hp
  exact Bi λhh=>hp ⟨by omega,by omega⟩
 ·have hp:=Gr hp
  rw [Cp] at hp
  dsimp only at hp
  refine Aq p.length (λv=>v.2.1) (λj v=>v.1=(mask (p.take j):Int)/\ ∀x∈p.take j,0<=x/\x<p.length) rfl ⟨rfl,by simp⟩ ?_
  rintro j ⟨m,i,⟨⟩⟩ K hj hi ⟨hm,hR⟩ hK
  dsimp only at hi hm⊢
  subst hi hm
  refine Br.dec (λhl=>?_) λhl=>?_
  ·have hl:j<p.length:=by omega
   refine ⟨_,Ax hl,_,if_pos trivial,_,if_pos trivial,⟨λhq=>?_,λhq=>?_⟩⟩
   ·have hq:=Cy hq
    rw [Cp] at hq
    dsimp only at hq
    rw [Bk (by omega) (by omega)] at hq
    exact Bi λhh=>hq ⟨(hh.2.2 j hl hl).1,(hh.2.2 j hl hl).2.1⟩
   ·have hq:=Gr hq
    rw [Cp] at hq
    dsimp only at hq
    rw [Bk (by omega) (by omega)] at hq
    refine ⟨by omega,?_⟩
    rw [Ap (by omega)]
    have hb:mask (p.take j)<2^20:=NI λx hx=>by have:=hR x hx;omega
    refine hK hl _ rfl ⟨?_,?_⟩
    ·dsimp only
     rw [NK hb hq.1 (by omega),List.take_succ_eq_append_getElem hl,CU]
    ·rw [List.take_succ_eq_append_getElem hl]
     intro x hx
     rcases List.mem_append.1 hx with hx|hx
     ·exact hR x hx
     ·rw [List.mem_singleton.1 hx];omega
  ·have:j=p.length:=by omega
   subst this
   rw [List.take_length] at hR⊢
   refine ⟨by omega,?_⟩
   have hx:(2:Nat)^p.length<=2^20:=Nat.pow_le_pow_right (by omega) (by omega)
   have oF:0<(2:Nat)^p.length:=Nat.two_pow_pos _
   have e1:min (p.length:Int).toNat IntKind.i64.bits=p.length:=by show min (p.length:Int).toNat 64=_;omega
   have e2:(1:Int)*(2:Int)^p.length=((2^p.length:Nat):Int):=by rw [Int.one_mul];exact (Int.natCast_pow 2 _).symm
   rw [e1,e2,Bk (n:=((2^p.length:Nat):Int)) (by omega) (by omega),Bk (by omega) (by omega)]
   have hE:((mask p:Int)==((2^p.length:Nat):Int)-1)=decide (mask p=2^p.length-1):=by
    rw [Bool.eq_iff_iff,beq_iff_eq,decide_eq_true_iff]
    omega
   show ((mask p:Int)==((2^p.length:Nat):Int)-1)=Fu p
   rw [hE]
   by_cases hf:mask p=2^p.length-1
   ·rw [decide_eq_true hf]
    have hn:=(Xa hR).1 ((qi hR).1 hf)
    refine Ic ⟨by omega,by omega,λj hj _=>?_⟩
    have:=hR _ (List.getElem_mem hj)
    exact ⟨this.1,by omega,hn j hj⟩
   ·rw [decide_eq_false hf]
    refine Bi λhh=>hf ((qi hR).2 ((Xa hR).2 λj hj=>(hh.2.2 j hj hj).2.2))
theorem Zd:Sound Try.prog 168 En:=
 Sound.Dp Cf (Ah Ps (Ah aI At)) mixed Try.func168 (by kernel_rfl) (by kernel_rfl) λx h=>so x.1 h
theorem ss (n:Int) (g:List (List Int)) (h:Ge g):fnW Di (look [(93,Bq),(169,En)]) Ki Try.f147 (n,g,()) (λ(z:Bool)=>z=Si n g):=by
 obtain ⟨h,h4⟩:=h
 refine Eq.mp (tE n g _) ⟨_,if_pos trivial,⟨λhp=>?_,λhp=>?_⟩⟩
 ·have hp:=Cy hp
  rw [Cp] at hp
  exact Bi λhh=>hp hh.1
 ·have hp:=Gr hp
  rw [Cp] at hp
  refine Br.dec (λhg=>?_) λhg=>?_
  ·exact Bi λhh=>by have:=hh.2.1;omega
  ·refine Aq g.length (λv=>v.1) (λj _=> ∀p∈g.take j,Ej n p=true) rfl (by simp) ?_
   rintro j ⟨i,⟨⟩⟩ K hj hi hR hK
   dsimp only at hi⊢
   subst hi
   refine Br.dec (λhl=>?_) λhl=>?_
   ·have hl:j<g.length:=by omega
    have hm:g[j]∈g:=List.getElem_mem hl
    refine ⟨_,Ax hl,⟨λhe=>?_,λhe=>?_⟩⟩
    ·simp only [bne_iff_ne,ne_eq] at he
     exact Bi λhh=>he (Du.1 (hh.2.2 _ hm)).1
    ·simp only [bne_eq_false_iff_eq] at he
     refine ⟨_,Ax hl,_,if_pos (h4 _ hm),⟨λhq=>?_,λhq=>?_⟩⟩
     ·have hq:=Cy hq
      exact Bi λhh=>hq (Du.1 (hh.2.2 _ hm)).2
     ·have hq:=Gr hq
      rw [Ap (by omega)]
      refine hK hl _ rfl ?_
      rw [List.take_succ_eq_append_getElem hl]
      intro x hx
      rcases List.mem_append.1 hx with hx|hx
      ·exact hR x hx
      ·rw [List.mem_singleton.1 hx];exact Du.2 ⟨he,hq⟩
   ·have:j=g.length:=by omega
    subst this
    rw [List.take_length] at hR
    exact Ic ⟨hp,by omega,hR⟩
theorem jJ:Sound Try.prog 147 Ki:=
 Sound.Dp Cf (Ah Xo (Ah Rh At)) mixed Try.func147 (by kernel_rfl) (by kernel_rfl) λx h=>ss x.1 x.2.1 h
theorem NM (p:List Int) (n:Int) (h:short p):fnW Di (look [(82,Mp),(168,En)]) dI Try.f177 (p,n,()) (λ(z:Bool)=>z=!Ej n p):=by
 refine Eq.mp (OM p n _) ⟨_,if_pos trivial,⟨λhe=>?_,λhe=>⟨_,if_pos h,?_⟩⟩⟩
 ·simp only [bne_iff_ne,ne_eq] at he
  have:Ej n p=false:=LX.2 λhh=>he hh.1
  rw [this];rfl
 ·simp only [bne_eq_false_iff_eq] at he
  show (!Fu p)=_
  congr 1
  cases hp:Fu p with
  |true=>exact Ic ⟨he,hp⟩
  |false=>exact Bi λhh=>by rw [hh.2] at hp;cases hp
theorem wv:Sound Try.prog 177 dI:=
 Sound.Dp Cf (Ah aI (Ah Zd At)) mixed Try.func177 (by kernel_rfl) (by kernel_rfl) λx h=>NM x.1 x.2.1 h
theorem kz {α:Type} (P:α->Bool): ∀(l:List α) (i:Int),0<=i->(0<=Eb P l i↔l.any P=true)
 | [],i,_=>by simp [Eb]
 |y::r,i,h=>by
  simp only [Eb,List.any_cons,Bool.or_eq_true]
  split
  ·rename_i hy;simp [hy,h]
  ·rename_i hy;rw [kz P r (i+1) (by omega)];simp [hy]
theorem ZV (g:List (List Int)) (n:Int×Unit) (h:Ge g):fnW Di (look [(177,dI)]) qG Try.f184 (g,n,()) (λ(z:Int)=>z=Eb (λp=>!Ej n.1 p) g 0):=by
 obtain ⟨h,h4⟩:=h
 refine Eq.mp (Aae g n _) ?_
 refine Aq g.length (λv=>v.1) (λj _=>Eb (λp=>!Ej n.1 p) (g.drop j) j=Eb (λp=>!Ej n.1 p) g 0) rfl (by simp) ?_
 rintro j ⟨i,⟨⟩⟩ K hj hi hR hK
 dsimp only at hi⊢
 subst hi
 refine Br.dec (λhl=>?_) λhl=>?_
 ·have hl:j<g.length:=by omega
  rw [List.drop_eq_getElem_cons hl] at hR
  simp only [Eb] at hR
  refine ⟨_,Ax hl,_,if_pos (h4 _ (List.getElem_mem hl)),⟨λhe=>?_,λhe=>?_⟩⟩
  ·have he:(!Ej n.1 g[j])=true:=he
   rw [if_pos he] at hR
   exact hR
  ·have he:(!Ej n.1 g[j])=false:=he
   rw [if_neg (by rw [he];decide)] at hR
   rw [Ap (by omega)]
   exact hK hl _ rfl (by push_cast;exact hR)
 ·have:j=g.length:=by omega
  subst this
  rw [List.drop_length] at hR
  exact hR
theorem EE:Sound Try.prog 184 qG:=
 Sound.Dp Cf (Ah wv At) mixed Try.func184 (by kernel_rfl) (by kernel_rfl) λx h=>ZV x.1 x.2.1 h
theorem ZQ (g:List (List Int)) (n:Int×Unit) (h:Ge g):fnW Di (look [(184,qG)]) qC Try.f176 (g,n,()) (λ(z:Bool)=>z=List.any g (λp=>!Ej n.1 p)):=by
 refine Eq.mp (Aa9 g n _) ⟨_,if_pos h,?_⟩
 rw [Bool.eq_iff_iff,decide_eq_true_iff]
 exact kz _ g 0 (Int.le_refl 0)
theorem EA:Sound Try.prog 176 qC:=
 Sound.Dp Cf (Ah EE At) mixed Try.func176 (by kernel_rfl) (by kernel_rfl) λx h=>ZQ x.1 x.2.1 h
theorem sn (n:Int) (g:List (List Int)) (h:Ge g):fnW Di (look [(97,Bq),(176,qC)]) Ki Try.f158 (n,g,()) (λ(z:Bool)=>z=Si n g):=by
 refine Eq.mp (tA n g _) ⟨_,if_pos trivial,⟨λhp=>?_,λhp=>?_⟩⟩
 ·have hp:Hj n 1 20=true:=hp
  rw [Cp] at hp
  refine Br.dec (λhl=>⟨_,if_pos h,?_⟩) λhl=>?_
  ·show (!List.any g (λp=>!Ej n p))=Si n g
   cases ha:List.any g (λp=>!Ej n p) with
   |true=>
    obtain ⟨p,tP,CA⟩:=List.any_eq_true.1 ha
    exact Bi λhh=>by rw [hh.2.2 p tP] at CA;cases CA
   |false=>
    refine Ic ⟨hp,by omega,λp hm=>?_⟩
    have:=List.any_eq_false.1 ha p hm
    simpa using this
  ·exact Bi λhh=>by have:=hh.2.1;omega
 ·refine Bi λhh=>?_
  have:Hj n 1 20=true:=Cp.2 hh.1
  have hp:Hj n 1 20=false:=hp
  rw [this] at hp;cases hp
theorem jH:Sound Try.prog 158 Ki:=
 Sound.Dp Cf (Ah Ps (Ah EA At)) mixed Try.func158 (by kernel_rfl) (by kernel_rfl) λx h=>sn x.1 x.2.1 h
theorem Hs {s:ByteArray} {k:Nat} (h:k<s.size):s[k]?=some s[k]:=getElem?_pos s k h
theorem IZ (s:ByteArray) (i:Int) (h:0<=i/\i<s.size/\s.size<=4294967296):fnW Di (look []) Yy Try.f148 (s,i,()) (λ(z:Bool)=>z=hZ s i):=by
 obtain ⟨h1,h2,h3⟩:=h
 have hi:i.toNat<s.size:=by omega
 refine Eq.mp (KP s i _) ⟨h1,_,Hs hi,Br.dec (λhq=>?_) λhq=>⟨h1,_,Hs hi,Br.dec (λhr=>?_) λhr=>?_⟩⟩
 ·refine Bi λ⟨c,hc,ML,_⟩=>?_
  rw [Hs hi] at hc;cases hc;omega
 ·refine Bi λ⟨c,hc,_,ML,_⟩=>?_
  rw [Hs hi] at hc;cases hc;omega
 ·refine Aq i.toNat (λv=>v.1) (λj _=> ∀k,k<j->s[k]?≠some s[i.toNat]) rfl (λk hk=>absurd hk (Nat.not_lt_zero _)) ?_
  rintro j ⟨i',⟨⟩⟩ K hj ek hR hK
  dsimp only at ek⊢
  subst ek
  refine Br.dec (λhl=>?_) λhl=>?_
  ·have hl:j<i.toNat:=by omega
   have hj:j<s.size:=by omega
   rw [Int.toNat_natCast]
   refine ⟨by omega,_,Hs hj,h1,_,Hs hi,⟨λhe=>?_,λhe=>?_⟩⟩
   ·simp only [beq_iff_eq,Int.natCast_inj] at he
    refine Bi λ⟨c,hc,_,_,ML⟩=>?_
    rw [Hs hi] at hc;cases hc
    exact ML j hl (by rw [Hs hj,UInt8.toNat_inj.1 he])
   ·simp only [beq_eq_false_iff_ne,ne_eq,Int.natCast_inj] at he
    rw [Ap (by omega)]
    refine hK hl _ rfl λk hk=>?_
    by_cases e:k=j
    ·subst e
     rw [Hs hj]
     exact λe=>he (by rw [Option.some.inj e])
    ·exact hR k (by omega)
  ·have:j=i.toNat:=by omega
   subst this
   exact Ic ⟨_,Hs hi,by omega,by omega,hR⟩
theorem sU:Sound Try.prog 148 Yy:=
 Sound.Dp Cf At mixed Try.func148 (by kernel_rfl) (by kernel_rfl) λx h=>IZ x.1 x.2.1 h
theorem DI (s:ByteArray) (h:s.size<=4294967296):fnW Di (look [(97,Bq)]) Ug Try.f159 (s,()) (λ(z:Bool)=>z=Yr s):=by
 refine Eq.mp (FB s _) ?_
 refine Aq s.size (λv=>v.1) (λj _=> ∀k,k<j->qU s k) rfl (λk hk=>absurd hk (Nat.not_lt_zero _)) ?_
 rintro j ⟨i,⟨⟩⟩ K hj hi hR hK
 dsimp only at hi⊢
 subst hi
 refine Br.dec (λhl=>?_) λhl=>?_
 ·have hl:j<s.size:=by omega
  rw [Int.toNat_natCast]
  have hb:=(s[j]).toNat_lt
  refine ⟨by omega,_,Hs hl,_,if_pos trivial,⟨λhq=>?_,λhq=>?_⟩⟩
  ·have hq:=Cy hq
   rw [Cp] at hq
   dsimp only at hq
   rw [Bk (by omega) (by omega)] at hq
   refine Bi λhh=>?_
   obtain ⟨c,hc,ML,VF,_⟩:=hh.2 j hl
   rw [Hs hl] at hc;cases hc
   exact hq ⟨by omega,by omega⟩
  ·have hq:=Gr hq
   rw [Cp] at hq
   dsimp only at hq
   rw [Bk (by omega) (by omega)] at hq
   refine Aq j (λv=>v.1) (λm _=> ∀k,k<m->s[k]?≠some s[j]) rfl (λk hk=>absurd hk (Nat.not_lt_zero _)) ?_
   rintro m ⟨i',⟨⟩⟩ K' hm ek hR' WT
   dsimp only at ek⊢
   subst ek
   refine Br.dec (λHd=>?_) λHd=>?_
   ·have Hd:m<j:=by omega
    have hm':m<s.size:=by omega
    rw [Int.toNat_natCast]
    refine ⟨by omega,_,Hs hm',by omega,_,Hs hl,⟨λhe=>?_,λhe=>?_⟩⟩
    ·simp only [beq_iff_eq,Int.natCast_inj] at he
     refine Bi λhh=>?_
     obtain ⟨c,hc,_,_,ML⟩:=hh.2 j hl
     rw [Hs hl] at hc;cases hc
     exact ML m Hd (by rw [Hs hm',UInt8.toNat_inj.1 he])
    ·simp only [beq_eq_false_iff_ne,ne_eq,Int.natCast_inj] at he
     rw [Ap (by omega)]
     refine WT Hd _ rfl λk hk=>?_
     by_cases e:k=m
     ·subst e
      rw [Hs hm']
      exact λe=>he (by rw [Option.some.inj e])
     ·exact hR' k (by omega)
   ·have:m=j:=by omega
    subst this
    rw [Ap (by omega)]
    refine hK hl _ rfl λk hk=>?_
    by_cases e:k=m
    ·subst e
     exact ⟨_,Hs hl,by omega,by omega,hR'⟩
    ·exact hR k (by omega)
 ·have:j=s.size:=by omega
  subst this
  refine ⟨_,if_pos trivial,?_⟩
  show Hj s.size 1 8=_
  cases hr:Hj s.size 1 8 with
  |true=>rw [Cp] at hr;exact Ic ⟨by omega,hR⟩
  |false=>refine Bi λhh=>?_;rw [Cp.2 ⟨by omega,by omega⟩] at hr;cases hr
theorem ph:Sound Try.prog 159 Ug:=
 Sound.Dp Cf (Ah Ps At) mixed Try.func159 (by kernel_rfl) (by kernel_rfl) λx h=>DI x.1 h
theorem zm {p:PP} (h:Bh p=true):1<=p.1/\p.1<=20/\1<=p.2.2.1.length/\p.2.2.1.length<=8:=by
 obtain ⟨h1,h2,h3⟩:=Du.1 h
 obtain ⟨h4,h5,_⟩:=Du.1 h1
 obtain ⟨h6,_⟩:=Du.1 h2
 omega
theorem sv (p:PP) (h:Cj p):fnW Di (look [(147,Ki),(148,Yy)]) Eo Try.f110 (p,()) (λ(z:Bool)=>z=Bh p):=by
 obtain ⟨hn,hg⟩:=h
 refine Eq.mp (tG p _) ⟨λh0=>?_,λh0=>⟨λh1=>?_,λh1=>⟨_,if_pos hg,⟨λh2=>?_,λh2=>?_⟩⟩⟩⟩
 ·simp only [beq_iff_eq] at h0
  exact Bi λhh=>by obtain ⟨_,h2,h3⟩:=hh;have:=(Du.1 h2).1;omega
 ·simp only [bne_iff_ne,ne_eq,Int.natCast_inj] at h1
  exact Bi λhh=>h1 hh.2.2
 ·have h2:=Cy h2
  exact Bi λhh=>h2 hh.1
 ·simp only [beq_eq_false_iff_ne,ne_eq] at h0
  simp only [bne_eq_false_iff_eq,Int.natCast_inj] at h1
  have h2:Si p.1 p.2.2.1=true:=Gr h2
  refine Aq p.2.1.size (λv=>v.1) (λj v=>v.2=(p.1,p.2.1,p.2.2.1,())/\ ∀k,k<j->qU p.2.1 k) rfl ⟨rfl,λk hk=>absurd hk (Nat.not_lt_zero _)⟩ ?_
  rintro j ⟨i,v⟩ K hj hi ⟨hv,hR⟩ hK
  dsimp only at hi hv⊢
  subst hi hv
  dsimp only
  refine Br.dec (λhl=>?_) λhl=>?_
  ·have hl:j<p.2.1.size:=by omega
   refine ⟨_,if_pos ⟨Int.natCast_nonneg j,Int.ofNat_lt.2 hl,hn⟩,⟨λhq=>?_,λhq=>?_⟩⟩
   ·have hq: ¬hZ p.2.1 j=true:=Cy hq
    refine Bi λhh=>hq (Du.2 ?_)
    rw [Int.toNat_natCast]
    exact (Du.1 hh.2.1).2 j hl
   ·have hq:hZ p.2.1 j=true:=Gr hq
    have hq:=Du.1 hq
    rw [Int.toNat_natCast] at hq
    rw [Ap (by omega)]
    refine hK hl _ rfl ⟨rfl,λk hk=>?_⟩
    by_cases e:k=j
    ·subst e;exact hq
    ·exact hR k (by omega)
  ·have:j=p.2.1.size:=by omega
   subst this
   have:=(Du.1 h2).2.1
   exact Ic ⟨h2,Du.2 ⟨⟨by omega,by omega⟩,hR⟩,h1⟩
theorem Ri:Sound Try.prog 110 Eo:=
 Sound.Dp Cf (Ah jJ (Ah sU At)) mixed Try.func110 (by kernel_rfl) (by kernel_rfl) λx h=>sv x.1 h
theorem sq (p:PP) (h:Cj p):fnW Di (look [(158,Ki),(159,Ug)]) Eo Try.f130 (p,()) (λ(z:Bool)=>z=Bh p):=by
 obtain ⟨hn,hg⟩:=h
 refine Eq.mp (tC p _) ⟨_,if_pos hg,⟨λh1=>⟨_,if_pos hn,⟨λh2=>?_,λh2=>?_⟩⟩,λh1=>?_⟩⟩
 ·have h1:Si p.1 p.2.2.1=true:=h1
  have h2:Yr p.2.1=true:=h2
  by_cases e:p.2.1.size=p.2.2.1.length
  ·rw [e,beq_self_eq_true];exact Ic ⟨h1,h2,e⟩
  ·rw [show ((p.2.1.size:Int)==(p.2.2.1.length:Int))=false from beq_eq_false_iff_ne.2 (by omega)];exact Bi λhh=>e hh.2.2
 ·have h2:Yr p.2.1=false:=h2
  exact Bi λhh=>by rw [hh.2.1] at h2;cases h2
 ·have h1:Si p.1 p.2.2.1=false:=h1
  exact Bi λhh=>by rw [hh.1] at h1;cases h1
theorem Ze:Sound Try.prog 130 Eo:=
 Sound.Dp Cf (Ah jH (Ah ph At)) mixed Try.func130 (by kernel_rfl) (by kernel_rfl) λx h=>sq x.1 h
theorem lr {a b:Bool} :(a&&b)=dec (a=true/\b=true):=by
 cases ha:a<;>cases hb:b
 ·exact Bi (by simp)
 ·exact Bi (by simp)
 ·exact Bi (by simp)
 ·exact Ic ⟨rfl,rfl⟩
theorem jv (p:PP) (xs:List Int) (h:Cj p/\short xs):fnW Di (look [(110,Eo),(111,Fp)]) Es Try.f101 (p,xs,()) (λ(z:Bool)=>z=Bl p xs):=by
 refine Eq.mp (jT p xs _) ⟨_,if_pos h.1,⟨λh1=>⟨_,if_pos ⟨⟨by omega,by have:=h.1.2.1;dsimp only;omega⟩,h.2⟩,?_⟩,λh1=>?_⟩⟩
 ·have h1:Bh p=true:=h1
  show Ob p.2.2.1.length xs=_
  rw [Bl,<-lr,h1,Bool.true_and]
 ·have h1:Bh p=false:=h1
  rw [Bl,<-lr,h1,Bool.false_and]
theorem cX:Sound Try.prog 101 Es:=
 Sound.Dp Cf (Ah Ri (Ah iy At)) mixed Try.func101 (by kernel_rfl) (by kernel_rfl) λx h=>jv x.1 x.2.1 h
theorem ju (p:PP) (xs:List Int) (h:Cj p/\short xs):fnW Di (look [(130,Eo),(66,Fp),(58,Tv)]) Es Try.f106 (p,xs,()) (λ(z:Bool)=>z=Bl p xs):=by
 refine Eq.mp (jS p xs _) ⟨_,if_pos h.1,⟨λh1=>⟨_,if_pos trivial,_,if_pos ⟨⟨by dsimp only;omega,by have:=h.1.2.1;dsimp only;omega⟩,h.2⟩,?_⟩,λh1=>?_⟩⟩
 ·have h1:Bh p=true:=h1
  show Ob p.2.2.1.length xs=_
  rw [Bl,<-lr,h1,Bool.true_and]
 ·have h1:Bh p=false:=h1
  rw [Bl,<-lr,h1,Bool.false_and]
theorem cW:Sound Try.prog 106 Es:=
 Sound.Dp Cf (Ah Ze (Ah lg (Ah kK At))) mixed Try.func106 (by kernel_rfl) (by kernel_rfl) λx h=>ju x.1 x.2.1 h
theorem ZX (p:PP) (room:Int) (h:Cj p/\roomy room):fnW Di (look [(34,jD)]) qI Try.f14 (p,room,()) (λ(z:Int)=>z=cv p room):=by
 obtain ⟨⟨h1,h2⟩,h3,h4⟩:=h
 refine Eq.mp (Aag p room _) ?_
 rw [Bk (by omega) (by omega)]
 refine Br.dec (λhn=>?_) λhn=>⟨_,if_pos ⟨h2,by dsimp only;omega,by dsimp only;omega⟩,Br.dec (λhm=>?_) λhm=>?_⟩
 ·simp only [cv,if_pos hn]
 ·exact ((if_neg hn).trans (if_pos hm)).symm
 ·exact ((if_neg hn).trans (if_neg hm)).symm
theorem EG:Sound Try.prog 14 qI:=
 Sound.Dp Cf (Ah ze At) mixed Try.func14 (by kernel_rfl) (by kernel_rfl) λx h=>ZX x.1 x.2.1 h
theorem ZZ (p:PP) (h:Cj p):fnW Di (look [(36,jE)]) qJ Try.f16 (p,()) (λ(z:PP)=>z=p):=Eq.mp (Aai p _) ⟨_,if_pos h.2,rfl⟩
theorem EH:Sound Try.prog 16 qJ:=
 Sound.Dp Cf (Ah zf At) mixed Try.func16 (by kernel_rfl) (by kernel_rfl) λx h=>ZZ x.1 h
theorem uh {a b:ByteArray} :(a.toList==b.toList)=decide (a=b):=by
 rw [Bool.eq_iff_iff,beq_iff_eq,decide_eq_true_iff,ByteArray.toList_eq,ByteArray.toList_eq]
 exact ⟨λh=>ByteArray.ext (Array.toList_inj.1 h),λh=>by rw [h]⟩
theorem ZS (a b:PP) (h:Cj a):fnW Di (look [(38,jB)]) qD Try.f19 (a,b,()) (λ(z:Bool)=>z=ky a b):=by
 refine Eq.mp (Aab a b _) ⟨λh1=>?_,λh1=>⟨λh2=>?_,λh2=>⟨_,if_pos h.2,⟨λh3=>?_,λh3=>?_⟩⟩⟩⟩
 ·simp only [bne_iff_ne,ne_eq] at h1
  unfold ky
  rw [decide_eq_false h1];rfl
 ·rw [uh] at h2
  unfold ky
  cases hd:decide (a.2.1=b.2.1)<;>simp_all
 ·have h3:(!ji a.2.2.1 b.2.2.1)=true:=h3
  simp only [ji,Bool.not_eq_true'] at h3
  unfold ky
  rw [h3];simp
 ·have h3:(!ji a.2.2.1 b.2.2.1)=false:=h3
  rw [uh] at h2
  simp only [ji] at h3
  simp only [bne_eq_false_iff_eq] at h1
  unfold ky
  simp_all
theorem EB:Sound Try.prog 19 qD:=
 Sound.Dp Cf (Ah zb At) mixed Try.func19 (by kernel_rfl) (by kernel_rfl) λx h=>ZS x.1 x.2.1 h
theorem yq (p:PP):ky p p=true:=by simp [ky]
end Go.Proofs.Ytjbdmibbbpdnnaa

namespace Go.Proofs.Ytjbdmibbbpdnnaa
open Go.RowKit
noncomputable abbrev Yz:Spec:=Dp (.pair tI (.pair tL .unit)) .bool false true (λx=>short x.2.1) (λx=>Ej x.1 x.2.1)
noncomputable abbrev Rc:Spec:=Dp (.pair Cu (.pair tL .unit)) .bool false true (λx=>short x.2.1) (λx=>Ej x.1.1 x.2.1)
noncomputable abbrev Ui:Spec:=Dp (.pair Cu (.pair tL .unit)) .bool false true (λx=>Cj x.1/\short x.2.1) (λx=>Bh x.1&&Ej x.1.1 x.2.1)
theorem KQ (n:Int) (s:List Int) (P:Bool->Prop):(Br ((↑s.length:Int)==n) (∃(y3:Bool),En.fn (s,())=some y3/\P y3) (P false))=fnW Di (look [(169,En)]) Yz Try.f143 (n,s,()) P:=by kernel_rfl
theorem o7 (p:Int×ByteArray×List (List Int)×Unit) (s:List Int) (P:Bool->Prop):(∃(y3:Int),Mp.fn (s,())=some y3/\Br (y3==p.1) (∃(y4:Bool),En.fn (s,())=some y4/\P y4) (P false))=fnW Di (look [(82,Mp),(168,En)]) Rc Try.f141 (p,s,()) P:=by kernel_rfl
theorem pE (p:Int×ByteArray×List (List Int)×Unit) (s:List Int) (P:Bool->Prop):(∃(y3:Bool),Eo.fn ((p.1,p.2.1,p.2.2.1,()),())=some y3/\Br y3 (∃(y4:Bool),Yz.fn (p.1,s,())=some y4/\P y4) (P false))=fnW Di (look [(110,Eo),(143,Yz)]) Ui Try.f103 (p,s,()) P:=by kernel_rfl
theorem JA (n:Int) (s:List Int) (h:short s):fnW Di (look [(169,En)]) Yz Try.f143 (n,s,()) (λ(z:Bool)=>z=Ej n s):=by
 refine Eq.mp (KQ n s _) ⟨λhe=>⟨_,if_pos h,?_⟩,λhe=>?_⟩
 ·simp only [beq_iff_eq] at he
  show Fu s=_
  cases hp:Fu s with
  |true=>exact Ic ⟨he,hp⟩
  |false=>exact Bi λhh=>by rw [hh.2] at hp;cases hp
 ·simp only [beq_eq_false_iff_ne,ne_eq] at he
  exact Bi λhh=>he hh.1
theorem sV:Sound Try.prog 143 Yz:=
 Sound.Dp Cf (Ah Rh At) mixed Try.func143 (by kernel_rfl) (by kernel_rfl) λx h=>JA x.1 x.2.1 h
theorem ni (p:PP) (s:List Int) (h:short s):fnW Di (look [(82,Mp),(168,En)]) Rc Try.f141 (p,s,()) (λ(z:Bool)=>z=Ej p.1 s):=by
 refine Eq.mp (o7 p s _) ⟨_,if_pos trivial,⟨λhe=>⟨_,if_pos h,?_⟩,λhe=>?_⟩⟩
 ·simp only [beq_iff_eq] at he
  show Fu s=_
  cases hp:Fu s with
  |true=>exact Ic ⟨he,hp⟩
  |false=>exact Bi λhh=>by rw [hh.2] at hp;cases hp
 ·simp only [beq_eq_false_iff_ne,ne_eq] at he
  exact Bi λhh=>he hh.1
theorem fV:Sound Try.prog 141 Rc:=
 Sound.Dp Cf (Ah aI (Ah Zd At)) mixed Try.func141 (by kernel_rfl) (by kernel_rfl) λx h=>ni x.1 x.2.1 h
theorem oX (p:PP) (s:List Int) (h:Cj p/\short s):fnW Di (look [(110,Eo),(143,Yz)]) Ui Try.f103 (p,s,()) (λ(z:Bool)=>z=(Bh p&&Ej p.1 s)):=by
 refine Eq.mp (pE p s _) ⟨_,if_pos h.1,⟨λhe=>⟨_,if_pos h.2,?_⟩,λhe=>?_⟩⟩
 ·have he:Bh p=true:=he
  rw [he];rfl
 ·have he:Bh p=false:=he
  rw [he];rfl
theorem iA:Sound Try.prog 103 Ui:=
 Sound.Dp Cf (Ah Ri (Ah sV At)) mixed Try.func103 (by kernel_rfl) (by kernel_rfl) λx h=>oX x.1 x.2.1 h
end Go.Proofs.Ytjbdmibbbpdnnaa

namespace Go.Proofs.Ytjbdmibbbpdnnaa
open Go.RowKit
def Bw (xs:List Int) (i:Int):Int:=xs.getD i.toNat 0
def Aa (p q:List Int):List Int:=p.map (Bw q)
def Wf (f:Nat->Nat) (g:Nat->Int) (m:Nat) (init:List Int):List Int:=(List.range m).foldl (λ(out:List Int) (i:Nat)=>out.set (f i) (g i)) init
def Am (p:List Int):List Int:=Wf (λi=>(Bw p (i:Int)).toNat) (λi=>(i:Int)) p.length (List.replicate p.length 0)
def Qc (n:Nat) (p:List Int):Prop:= ∀y∈p,0<=y/\y<n
noncomputable abbrev Ue:Spec:=Dp (.pair tL (.pair tL .unit)) tL false true (λx=>List.length x.1<=20/\Qc (List.length x.2.1) x.1) (λx=>Aa x.1 x.2.1)
noncomputable abbrev Em:Spec:=Dp (.pair tL .unit) tL false true (λx=>List.length x.1<=20/\Qc (List.length x.1) x.1) (λx=>Am x.1)
noncomputable abbrev Ce:Spec:=Dp (.pair tI .unit) tL false true (λx=>0<=x.1/\x.1<=20) (λx=>upto x.1.toNat)
noncomputable abbrev Kr:Spec:=Dp (.pair tL .unit) tL false true (λx=>Fu x.1=true) (λx=>Am x.1)
def Ag (g:List (List Int)) (l:Int):List Int:=if l>0 then g.getD (l-1).toNat [] else Am (g.getD (-l-1).toNat [])
def Fa (n:Int) (l:Int):Prop:=l≠0/\ -n<=l/\l<=n
noncomputable abbrev Rd:Spec:=Dp (.pair fY (.pair tI .unit)) tL false false (λx=>Fa (List.length x.1) x.2.1/\List.length x.1<=8/\ ∀p∈x.1,Fu p=true) (λx=>Ag x.1 x.2.1)
def Af (n:Nat):List Int:=(List.range n).flatMap λ(k:Nat)=> [(k:Int)+1,-((k:Int)+1)]
noncomputable abbrev Ib:Spec:=Dp (.pair tI .unit) tL false true (λx=>0<=x.1/\x.1<=8) (λx=>Af x.1.toNat)
noncomputable abbrev Yw:Spec:=Dp (.pair Cu (.pair tL (.pair tI .unit))) tL false true (λx=>Bh x.1=true/\List.length x.2.1<=20/\(∀y∈x.2.1,0<=y/\y<x.1.1)/\Fa (List.length x.1.2.2.1) x.2.2.1) (λx=>Aa x.2.1 (Ag x.1.2.2.1 x.2.2.1))
theorem pA (p q:List Int) (P:List Int->Prop):(((0:Int)<=(↑p.length:Int)/\(↑p.length:Int)<(↑Bm:Int)+(1:Int))/\(↑p.length:Int)=(↑p.length:Int)/\0=0/\(List.replicate (↑p.length:Int).toNat (Int.ofNat (nat_lit 0))).length=(List.replicate (↑p.length:Int).toNat (Int.ofNat (nat_lit 0))).length/\Cb (λ(v3:Int×List Int×PUnit) (k4:Int×List Int×PUnit->Prop)=>Br (decide (v3.1<(↑p.length:Int))) (∃(y5:Int),idx p v3.1=some y5/\ ∃(y6:Int),idx q y5=some y6/\((0:Int)<=v3.1/\v3.1<(↑v3.2.1.length:Int))/\0+v3.1.toNat<v3.2.1.length/\0=0/\v3.2.1.length=(v3.2.1.set (0+v3.1.toNat) y6).length/\k4 (IntKind.i64.wrap (v3.1+(1:Int)),v3.2.1.set (0+v3.1.toNat) y6,())) (P (List.take v3.2.1.length (List.drop 0 v3.2.1)))) ((0:Int),List.replicate (↑p.length:Int).toNat (Int.ofNat (nat_lit 0)),PUnit.unit))=fnW Di (look []) Ue Try.f156 (p,q,()) P:=by kernel_rfl
theorem pB (p:List Int) (P:List Int->Prop):(((0:Int)<=(↑p.length:Int)/\(↑p.length:Int)<(↑Bm:Int)+(1:Int))/\(↑p.length:Int)=(↑p.length:Int)/\0=0/\(List.replicate (↑p.length:Int).toNat (Int.ofNat (nat_lit 0))).length=(List.replicate (↑p.length:Int).toNat (Int.ofNat (nat_lit 0))).length/\Cb (λ(v2:Int×List Int×PUnit) (k3:Int×List Int×PUnit->Prop)=>Br (decide (v2.1<(↑p.length:Int))) (∃(y4:Int),idx p v2.1=some y4/\((0:Int)<=y4/\y4<(↑v2.2.1.length:Int))/\0+y4.toNat<v2.2.1.length/\0=0/\v2.2.1.length=(v2.2.1.set (0+y4.toNat) v2.1).length/\k3 (IntKind.i64.wrap (v2.1+(1:Int)),v2.2.1.set (0+y4.toNat) v2.1,())) (P (List.take v2.2.1.length (List.drop 0 v2.2.1)))) ((0:Int),List.replicate (↑p.length:Int).toNat (Int.ofNat (nat_lit 0)),PUnit.unit))=fnW Di (look []) Em Try.f175 (p,()) P:=by kernel_rfl
theorem FF (p:List Int) (P:List Int->Prop):(((0:Int)<=(↑p.length:Int)/\(↑p.length:Int)<(↑Bm:Int)+(1:Int))/\(↑p.length:Int)=(↑p.length:Int)/\0=0/\(List.replicate (↑p.length:Int).toNat (Int.ofNat (nat_lit 0))).length=(List.replicate (↑p.length:Int).toNat (Int.ofNat (nat_lit 0))).length/\Cb (λ(v2:Int×List Int×PUnit) (k3:Int×List Int×PUnit->Prop)=>Br (decide (v2.1<(↑p.length:Int))) (∃(y4:Int),idx p v2.1=some y4/\((0:Int)<=y4/\y4<(↑v2.2.1.length:Int))/\0+y4.toNat<v2.2.1.length/\0=0/\v2.2.1.length=(v2.2.1.set (0+y4.toNat) v2.1).length/\k3 (IntKind.i64.wrap (v2.1+(1:Int)),v2.2.1.set (0+y4.toNat) v2.1,())) (P (List.take v2.2.1.length (List.drop 0 v2.2.1)))) ((0:Int),List.replicate (↑p.length:Int).toNat (Int.ofNat (nat_lit 0)),PUnit.unit))=fnW Di (look []) Em Try.f170 (p,()) P:=by kernel_rfl
theorem pD (p:List Int) (P:List Int->Prop):(∃(y2:Bool),En.fn (p,())=some y2/\Br (!y2) (P (List.take 0 (List.drop 0 []))) (∃(y3:List Int),Em.fn (p,())=some y3/\P y3))=fnW Di (look [(169,En),(170,Em)]) Kr Try.f150 (p,()) P:=by kernel_rfl
theorem zq (n:Int) (P:List Int->Prop):(0=0/\0=([]:List Int).length/\Cb (λ(v2:Int×List Int×PUnit) (k3:Int×List Int×PUnit->Prop)=>Br (decide (v2.1<n)) (0=0/\v2.2.1.length=v2.2.1.length/\v2.2.1.length+(List.take 1 (List.drop 0 [v2.1])).length<=Bm/\0=0/\(v2.2.1++List.take 1 (List.drop 0 [v2.1])).length=(v2.2.1++List.take 1 (List.drop 0 [v2.1])).length/\k3 (IntKind.i64.wrap (v2.1+(1:Int)),v2.2.1++List.take 1 (List.drop 0 [v2.1]),())) (P (List.take v2.2.1.length (List.drop 0 v2.2.1)))) ((0:Int),[],PUnit.unit))=fnW Di (look []) Ce Try.f124 (n,()) P:=by kernel_rfl
theorem zr (g:List (List Int)) (l:Int) (P:List Int->Prop):(Br (decide (l>(0:Int))) (∃(y3:List Int),idx g (IntKind.i64.wrap (l-(1:Int)))=some y3/\P y3) (∃(y3:List Int),idx g (IntKind.i64.wrap (IntKind.i64.wrap ((0:Int)-l)-(1:Int)))=some y3/\ ∃(y4:List Int),Em.fn (y3,())=some y4/\P y4))=fnW Di (look [(175,Em)]) Rd Try.f157 (g,l,()) P:=by kernel_rfl
theorem FD (n:Int) (P:List Int->Prop):(0=0/\0=([]:List Int).length/\Cb (λ(v2:Int×List Int×PUnit) (k3:Int×List Int×PUnit->Prop)=>Br (decide (v2.1<n)) (0=0/\v2.2.1.length=v2.2.1.length/\v2.2.1.length+(List.take 2 (List.drop 0 [IntKind.i64.wrap (v2.1+(1:Int)),IntKind.i64.wrap ((0:Int)-IntKind.i64.wrap (v2.1+(1:Int)))])).length<=Bm/\0=0/\(v2.2.1++List.take 2 (List.drop 0 [IntKind.i64.wrap (v2.1+(1:Int)),IntKind.i64.wrap ((0:Int)-IntKind.i64.wrap (v2.1+(1:Int)))])).length=(v2.2.1++List.take 2 (List.drop 0 [IntKind.i64.wrap (v2.1+(1:Int)),IntKind.i64.wrap ((0:Int)-IntKind.i64.wrap (v2.1+(1:Int)))])).length/\k3 (IntKind.i64.wrap (v2.1+(1:Int)),v2.2.1++List.take 2 (List.drop 0 [IntKind.i64.wrap (v2.1+(1:Int)),IntKind.i64.wrap ((0:Int)-IntKind.i64.wrap (v2.1+(1:Int)))]),())) (P (List.take v2.2.1.length (List.drop 0 v2.2.1)))) ((0:Int),[],PUnit.unit))=fnW Di (look []) Ib Try.f117 (n,()) P:=by kernel_rfl
theorem KK (p:Int×ByteArray×List (List Int)×Unit) (s:List Int) (l:Int) (P:List Int->Prop):(∃(y4:List Int),idx p.2.2.1 (IntKind.i64.wrap ((if true=true then if IntKind.i64.wrap ((0:Int)-l)>l then IntKind.i64.wrap ((0:Int)-l) else l else if IntKind.i64.wrap ((0:Int)-l)<l then IntKind.i64.wrap ((0:Int)-l) else l)-(1:Int)))=some y4/\Br (decide (l<(0:Int))) (∃(y5:List Int),Kr.fn (y4,())=some y5/\0=0/\0=([]:List Int).length/\Cb (λ(v6:Int×List Int×PUnit) (k7:Int×List Int×PUnit->Prop)=>Br (decide (v6.1<(↑s.length:Int))) (∃(y8:Int),idx s v6.1=some y8/\ ∃(y9:Int),idx y5 y8=some y9/\0=0/\v6.2.1.length=v6.2.1.length/\v6.2.1.length+(List.take 1 (List.drop 0 [y9])).length<=Bm/\0=0/\(v6.2.1++List.take 1 (List.drop 0 [y9])).length=(v6.2.1++List.take 1 (List.drop 0 [y9])).length/\k7 (IntKind.i64.wrap (v6.1+(1:Int)),v6.2.1++List.take 1 (List.drop 0 [y9]),())) (P (List.take v6.2.1.length (List.drop 0 v6.2.1)))) ((0:Int),[],PUnit.unit)) (0=0/\0=([]:List Int).length/\Cb (λ(v5:Int×List Int×PUnit) (k6:Int×List Int×PUnit->Prop)=>Br (decide (v5.1<(↑s.length:Int))) (∃(y7:Int),idx s v5.1=some y7/\ ∃(y8:Int),idx y4 y7=some y8/\0=0/\v5.2.1.length=v5.2.1.length/\v5.2.1.length+(List.take 1 (List.drop 0 [y8])).length<=Bm/\0=0/\(v5.2.1++List.take 1 (List.drop 0 [y8])).length=(v5.2.1++List.take 1 (List.drop 0 [y8])).length/\k6 (IntKind.i64.wrap (v5.1+(1:Int)),v5.2.1++List.take 1 (List.drop 0 [y8]),())) (P (List.take v5.2.1.length (List.drop 0 v5.2.1)))) ((0:Int),[],PUnit.unit)))=fnW Di (look [(150,Kr)]) Yw Try.f115 (p,s,l,()) P:=by kernel_rfl
theorem Ie {xs:List Int} {i:Nat} (h:i<xs.length):Bw xs (i:Int)=xs[i]:=by
 unfold Bw
 rw [Int.toNat_natCast,List.getD_eq_getElem?_getD,List.getElem?_eq_getElem h];rfl
theorem Na {xs:List Int} {y:Int} (h0:0<=y) (h:y<xs.length):idx xs y=some (Bw xs y):=by
 have hy:y.toNat<xs.length:=by omega
 have e:y=(y.toNat:Int):=by omega
 rw [e,Ax hy,Ie hy]
theorem Tr (f:Nat->Nat) (g:Nat->Int) (m:Nat) (init:List Int):Wf f g (m+1) init=(Wf f g m init).set (f m) (g m):=by simp [Wf,List.range_succ]
theorem Wg (f:Nat->Nat) (g:Nat->Int) (m:Nat) (init:List Int):(Wf f g m init).length=init.length:=by
 induction m with
 |zero=>rfl
 |succ m ih=>rw [Tr,List.length_set,ih]
theorem kd (f:Nat->Nat) (g:Nat->Int) (init:List Int): ∀(m:Nat),(∀i j,i<m->j<m->f i=f j->i=j)-> ∀i,i<m->f i<init.length->(Wf f g m init)[f i]?=some (g i)
 |0,_,i,h,_=>absurd h (Nat.not_lt_zero _)
 |m+1,hf,i,hi,hl=>by
  rw [Tr]
  by_cases e:i=m
  ·subst e
   exact List.getElem?_set_self (by rw [Wg];exact hl)
  ·rw [List.getElem?_set_ne (λh=>e (hf i m hi (by omega) h.symm))]
   exact kd f g init m (λa b ha hb=>hf a b (by omega) (by omega)) i (by omega) hl
structure Up (p:List Int):Prop where
 pos:1<=p.length
 len:p.length<=20
 row:Qc p.length p
 nodup:p.Nodup
theorem fQ {p:List Int} (h:Fu p=true):Up p:=by
 obtain ⟨h1,h2,h3⟩:=Du.1 h
 refine ⟨h1,h2,λy hy=>?_,cz λj hj=>(h3 j hj hj).2.2⟩
 obtain ⟨j,hj,rfl⟩:=List.mem_iff_getElem.1 hy
 have:=h3 j hj hj
 omega
theorem Up.inj {p:List Int} (h:Up p) (i j:Nat) (hi:i<p.length) (hj:j<p.length) (e:(Bw p (i:Int)).toNat=(Bw p (j:Int)).toNat):i=j:=by
 rw [Ie hi,Ie hj] at e
 have h1:=h.row _ (List.getElem_mem hi)
 have h2:=h.row _ (List.getElem_mem hj)
 have e:p[i]=p[j]:=by omega
 refine Classical.byContradiction λFf=>?_
 rcases Nat.lt_or_gt_of_ne Ff with hl|hl
 ·exact List.pairwise_iff_getElem.1 h.nodup i j hi hj hl e
 ·exact List.pairwise_iff_getElem.1 h.nodup j i hj hi hl e.symm
theorem Up.IQ {p:List Int} (h:Up p) (k:Nat) (hk:k<p.length): ∃i,i<p.length/\(Bw p (i:Int)).toNat=k:=by
 have hm:=(Xa (xs:=p) h.row).2 (o0 h.nodup) k hk
 obtain ⟨i,hi,e⟩:=List.mem_iff_getElem.1 hm
 exact ⟨i,hi,by rw [Ie hi,e];exact Int.toNat_natCast k⟩
theorem Up.lt {p:List Int} (h:Up p) {i:Nat} (hi:i<p.length):(Bw p (i:Int)).toNat<p.length:=by
 rw [Ie hi]
 have:=h.row _ (List.getElem_mem hi)
 omega
theorem lE (p:List Int):(Am p).length=p.length:=by unfold Am;rw [Wg,List.length_replicate]
theorem HW {p:List Int} (h:Up p) {i:Nat} (hi:i<p.length):(Am p)[(Bw p (i:Int)).toNat]?=some (i:Int):=
 kd (λi=>(Bw p (i:Int)).toNat) (λi=>(i:Int)) _ p.length (λi j hi hj=>h.inj i j hi hj) i hi (by rw [List.length_replicate];exact h.lt hi)
theorem NG {p:List Int} (h:Up p):Qc p.length (Am p):=by
 intro y hy
 obtain ⟨k,hk,rfl⟩:=List.mem_iff_getElem.1 hy
 have er:k<p.length:=by rw [lE] at hk;exact hk
 obtain ⟨i,hi,rfl⟩:=h.IQ k er
 have:=HW h hi
 rw [List.getElem?_eq_getElem hk] at this
 rw [Option.some.inj this]
 omega
theorem Nw (p q:List Int):(Aa p q).length=p.length:=by simp [Aa]
theorem uo {p q:List Int} {n:Nat} (hp:Qc q.length p) (hq:Qc n q):Qc n (Aa p q):=by
 intro y hy
 obtain ⟨x,hx,rfl⟩:=List.mem_map.1 hy
 have h1:=hp x hx
 rw [show x=(x.toNat:Int) by omega,Ie (by omega)]
 exact hq _ (List.getElem_mem _)
theorem oT (p q:List Int) (h:p.length<=20/\Qc q.length p):fnW Di (look []) Ue Try.f156 (p,q,()) (λ(z:List Int)=>z=Aa p q):=by
 obtain ⟨h,hr⟩:=h
 refine Eq.mp (pA p q _) ?_
 refine ⟨⟨by omega,by show (p.length:Int)<(4294967296:Int)+1;omega⟩,rfl,rfl,rfl,?_⟩
 have Nz:=Nw p q
 refine Aq p.length (λv=>v.1) (λj v=>v.2.1.length=(Aa p q).length/\v.2.1.take j=(Aa p q).take j) rfl ⟨by rw [Nz];simp,by simp⟩ ?_
 rintro j ⟨i,ys,⟨⟩⟩ K hj hi ⟨h1,h2⟩ hK
 dsimp only at hi h1 h2⊢
 subst hi
 refine Br.dec (λhl=>?_) λhl=>?_
 ·have hl:j<p.length:=by omega
  have hy:=hr _ (List.getElem_mem hl)
  refine ⟨_,Ax hl,_,Na hy.1 hy.2,⟨by omega,by omega⟩,by rw [Int.toNat_natCast];omega,rfl,by rw [List.length_set],?_⟩
  rw [Ap (by omega),Int.toNat_natCast,Nat.zero_add]
  have Hd:j<(Aa p q).length:=by rw [Nz];exact hl
  have e:Bw q p[j]=(Aa p q)[j]:=by simp [Aa]
  rw [e]
  exact hK hl _ rfl ⟨by rw [List.length_set];exact h1,Ks Hd h1 h2⟩
 ·have:j=p.length:=by omega
  subst this
  rw [<-Nz,List.take_length,<-h1,List.take_length] at h2
  rw [List.drop_zero,List.take_length]
  exact h2
theorem Pq:Sound Try.prog 156 Ue:=
 Sound.Dp Cf At mixed Try.func156 (by kernel_rfl) (by kernel_rfl) λx h=>oT x.1 x.2.1 h
theorem oU (p:List Int) (h:p.length<=20/\Qc p.length p):fnW Di (look []) Em Try.f175 (p,()) (λ(z:List Int)=>z=Am p):=by
 obtain ⟨h,hr⟩:=h
 refine Eq.mp (pB p _) ?_
 refine ⟨⟨by omega,by show (p.length:Int)<(4294967296:Int)+1;omega⟩,rfl,rfl,rfl,?_⟩
 refine Aq p.length (λv=>v.1) (λj v=>v.2.1=Wf (λi=>(Bw p (i:Int)).toNat) (λi=>(i:Int)) j (List.replicate p.length 0)) rfl rfl ?_
 rintro j ⟨i,ys,⟨⟩⟩ K hj hi h1 hK
 dsimp only at hi h1⊢
 subst hi
 have hlen:ys.length=p.length:=by rw [h1,Wg,List.length_replicate]
 refine Br.dec (λhl=>?_) λhl=>?_
 ·have hl:j<p.length:=by omega
  have hy:=hr _ (List.getElem_mem hl)
  refine ⟨_,Ax hl,⟨by omega,by omega⟩,by omega,rfl,by rw [List.length_set],?_⟩
  rw [Ap (by omega),Nat.zero_add]
  refine hK hl _ rfl ?_
  rw [Tr,<-h1,Ie hl]
 ·have:j=p.length:=by omega
  subst this
  rw [List.drop_zero,List.take_length]
  exact h1
theorem Pr:Sound Try.prog 175 Em:=
 Sound.Dp Cf At mixed Try.func175 (by kernel_rfl) (by kernel_rfl) λx h=>oU x.1 h
theorem DN (p:List Int) (h:p.length<=20/\Qc p.length p):fnW Di (look []) Em Try.f170 (p,()) (λ(z:List Int)=>z=Am p):=by
 obtain ⟨h,hr⟩:=h
 refine Eq.mp (FF p _) ?_
 refine ⟨⟨by omega,by show (p.length:Int)<(4294967296:Int)+1;omega⟩,rfl,rfl,rfl,?_⟩
 refine Aq p.length (λv=>v.1) (λj v=>v.2.1=Wf (λi=>(Bw p (i:Int)).toNat) (λi=>(i:Int)) j (List.replicate p.length 0)) rfl rfl ?_
 rintro j ⟨i,ys,⟨⟩⟩ K hj hi h1 hK
 dsimp only at hi h1⊢
 subst hi
 have hlen:ys.length=p.length:=by rw [h1,Wg,List.length_replicate]
 refine Br.dec (λhl=>?_) λhl=>?_
 ·have hl:j<p.length:=by omega
  have hy:=hr _ (List.getElem_mem hl)
  refine ⟨_,Ax hl,⟨by omega,by omega⟩,by omega,rfl,by rw [List.length_set],?_⟩
  rw [Ap (by omega),Nat.zero_add]
  refine hK hl _ rfl ?_
  rw [Tr,<-h1,Ie hl]
 ·have:j=p.length:=by omega
  subst this
  rw [List.drop_zero,List.take_length]
  exact h1
theorem pk:Sound Try.prog 170 Em:=
 Sound.Dp Cf At mixed Try.func170 (by kernel_rfl) (by kernel_rfl) λx h=>DN x.1 h
theorem oW (p:List Int) (h:Fu p=true):fnW Di (look [(169,En),(170,Em)]) Kr Try.f150 (p,()) (λ(z:List Int)=>z=Am p):=by
 have hp:=fQ h
 have hs:short p:=by have:=hp.len;unfold short;omega
 refine Eq.mp (pD p _) ⟨_,if_pos hs,⟨λhe=>?_,λ_=>⟨_,if_pos ⟨hp.len,hp.row⟩,rfl⟩⟩⟩
 exact absurd h (Cy he)
theorem iz:Sound Try.prog 150 Kr:=
 Sound.Dp Cf (Ah Rh (Ah pk At)) mixed Try.func150 (by kernel_rfl) (by kernel_rfl) λx h=>oW x.1 h
theorem Zh (j:Nat):upto (j+1)=upto j++ [(j:Int)]:=by simp [upto,List.range_succ]
theorem yE (n:Int) (h:0<=n/\n<=20):fnW Di (look []) Ce Try.f124 (n,()) (λ(z:List Int)=>z=upto n.toNat):=by
 refine Eq.mp (zq n _) ⟨rfl,rfl,?_⟩
 refine Aq n.toNat (λv=>v.1) (λj v=>v.2.1=upto j) rfl rfl ?_
 rintro j ⟨i,ys,⟨⟩⟩ K hj hi h1 hK
 dsimp only at hi h1⊢
 subst hi h1
 refine Br.dec (λhl=>?_) λhl=>?_
 ·refine ⟨rfl,rfl,?_,rfl,rfl,?_⟩
  ·show (upto j).length+1<=4294967296
   rw [Pw];omega
  ·rw [Ap (by omega)]
   exact hK (by omega) _ rfl (Zh j).symm
 ·have:j=n.toNat:=by omega
  subst this
  rw [List.drop_zero,List.take_length]
theorem nG:Sound Try.prog 124 Ce:=
 Sound.Dp Cf At mixed Try.func124 (by kernel_rfl) (by kernel_rfl) λx h=>yE x.1 h
theorem Nn {g:List (List Int)} {k:Nat} (h:k<g.length):Ag g ((k:Int)+1)=g[k]:=by
 unfold Ag
 rw [if_pos (by omega),show ((k:Int)+1-1).toNat=k by omega,List.getD_eq_getElem?_getD,List.getElem?_eq_getElem h];rfl
theorem Nm {g:List (List Int)} {k:Nat} (h:k<g.length):Ag g (-((k:Int)+1))=Am g[k]:=by
 unfold Ag
 rw [if_neg (by omega),show (-(-((k:Int)+1))-1).toNat=k by omega,List.getD_eq_getElem?_getD,List.getElem?_eq_getElem h];rfl
theorem Pc {n:Nat} {l:Int} (h:Fa n l): ∃k:Nat,k<n/\(l=(k:Int)+1\/l= -((k:Int)+1)):=by
 obtain ⟨h1,h2,h3⟩:=h
 by_cases h0:0<l
 ·exact ⟨(l-1).toNat,by omega, .inl (by omega)⟩
 ·exact ⟨(-l-1).toNat,by omega, .inr (by omega)⟩
theorem yF (g:List (List Int)) (l:Int) (h:Fa (List.length g) l/\List.length g<=8/\ ∀p∈g,Fu p=true):fnW Di (look [(175,Em)]) Rd Try.f157 (g,l,()) (λ(z:List Int)=>z=Ag g l):=by
 obtain ⟨hl,h8,hp⟩:=h
 refine Eq.mp (zr g l _) ?_
 obtain ⟨k,hk,rfl|rfl⟩:=Pc hl
 ·refine Br.dec (λ_=>?_) λhn=>by omega
  rw [Bk (by omega) (by omega),show (k:Int)+1-1=(k:Int) by omega]
  exact ⟨_,Ax hk,(Nn hk).symm⟩
 ·refine Br.dec (λhn=>by omega) λ_=>?_
  rw [Bk (n:=0- -((k:Int)+1)) (by omega) (by omega),Bk (by omega) (by omega),show (0:Int)- -((k:Int)+1)-1=(k:Int) by omega]
  have:=fQ (hp _ (List.getElem_mem hk))
  exact ⟨_,Ax hk,_,if_pos ⟨this.len,this.row⟩,(Nm hk).symm⟩
theorem nH:Sound Try.prog 157 Rd:=
 Sound.Dp Cf (Ah Pr At) mixed Try.func157 (by kernel_rfl) (by kernel_rfl) λx h=>yF x.1 x.2.1 h
theorem Vl (j:Nat):Af (j+1)=Af j++ [(j:Int)+1,-((j:Int)+1)]:=by simp [Af,List.range_succ,List.flatMap_append]
theorem Km (j:Nat):(Af j).length=2*j:=by
 induction j with
 |zero=>rfl
 |succ j ih=>rw [Vl,List.length_append,ih];simp only [List.length_cons,List.length_nil];omega
theorem He {n:Nat} {l:Int} (h:l∈Af n):Fa n l:=by
 unfold Af at h
 obtain ⟨k,hk,hl⟩:=List.mem_flatMap.1 h
 have hk:=List.mem_range.1 hk
 simp only [List.mem_cons,List.not_mem_nil,or_false] at hl
 unfold Fa
 omega
theorem DK (n:Int) (h:0<=n/\n<=8):fnW Di (look []) Ib Try.f117 (n,()) (λ(z:List Int)=>z=Af n.toNat):=by
 refine Eq.mp (FD n _) ⟨rfl,rfl,?_⟩
 refine Aq n.toNat (λv=>v.1) (λj v=>v.2.1=Af j) rfl rfl ?_
 rintro j ⟨i,ys,⟨⟩⟩ K hj hi h1 hK
 dsimp only at hi h1⊢
 subst hi h1
 refine Br.dec (λhl=>?_) λhl=>?_
 ·refine ⟨rfl,rfl,?_,rfl,rfl,?_⟩
  ·show (Af j).length+2<=4294967296
   rw [Km];omega
  ·have e1:IntKind.i64.wrap ((j:Int)+1)=(j:Int)+1:=Bk (by omega) (by omega)
   have e2:IntKind.i64.wrap ((0:Int)-((j:Int)+1))= -((j:Int)+1):=by rw [Bk (by omega) (by omega)];omega
   rw [e1,e2]
   exact hK (by omega) _ rfl (Vl j).symm
 ·have:j=n.toNat:=by omega
  subst this
  rw [List.drop_zero,List.take_length]
theorem Xp:Sound Try.prog 117 Ib:=
 Sound.Dp Cf At mixed Try.func117 (by kernel_rfl) (by kernel_rfl) λx h=>DK x.1 h
structure Valid (p:PP):Prop where
 n:1<=p.1/\p.1<=20
 ec:1<=p.2.2.1.length/\p.2.2.1.length<=8
 perm: ∀m∈p.2.2.1,Fu m=true
 len: ∀m∈p.2.2.1,(m.length:Int)=p.1
theorem valid {p:PP} (h:Bh p=true):Valid p:=by
 have h0:=zm h
 obtain ⟨h1,_,_⟩:=Du.1 h
 obtain ⟨_,_,h4⟩:=Du.1 h1
 exact ⟨⟨h0.1,h0.2.1⟩,h0.2.2,λm hm=>(Du.1 (h4 m hm)).2,λm hm=>(Du.1 (h4 m hm)).1⟩
theorem jh {p:PP} (h:Valid p) {l:Int} (hl:Fa (List.length p.2.2.1) l):((Ag p.2.2.1 l).length:Int)=p.1/\Qc (Ag p.2.2.1 l).length (Ag p.2.2.1 l):=by
 obtain ⟨k,hk,rfl|rfl⟩:=Pc hl
 ·rw [Nn hk]
  exact ⟨h.len _ (List.getElem_mem hk),(fQ (h.perm _ (List.getElem_mem hk))).row⟩
 ·rw [Nm hk,lE]
  exact ⟨h.len _ (List.getElem_mem hk),NG (fQ (h.perm _ (List.getElem_mem hk)))⟩
theorem u6 (s y:List Int) (P:List Int->Prop) (h1:s.length<=20) (h2:Qc y.length s) (h3:P (Aa s y)):
  Cb
   (λ(v5:Int×List Int×PUnit) (k6:Int×List Int×PUnit->Prop)=>
    Br (decide (v5.1<(↑s.length:Int)))
     (∃(y7:Int),
      idx s v5.1=some y7/\
       ∃(y8:Int),
        idx y y7=some y8/\
         (0:Nat)=(0:Nat)/\
          v5.2.1.length=v5.2.1.length/\
           v5.2.1.length+(List.take (1:Nat) (List.drop (0:Nat) [y8])).length<=Bm/\
            (0:Nat)=(0:Nat)/\
             (v5.2.1++List.take (1:Nat) (List.drop (0:Nat) [y8])).length=(v5.2.1++List.take (1:Nat) (List.drop (0:Nat) [y8])).length/\
              k6 (IntKind.i64.wrap (v5.1+(1:Int)),v5.2.1++List.take (1:Nat) (List.drop (0:Nat) [y8]),()))
     (P (List.take v5.2.1.length (List.drop (0:Nat) v5.2.1))))
   ((0:Int),([]:List Int),PUnit.unit):=by
 refine Aq s.length (λv=>v.1) (λj v=>v.2.1=(s.take j).map (Bw y)) rfl (by simp) ?_
 rintro j ⟨i,ys,⟨⟩⟩ K hj hi hR hK
 dsimp only at hi hR⊢
 subst hi hR
 refine Br.dec (λhl=>?_) λhl=>?_
 ·have hl:j<s.length:=by omega
  have hy:=h2 _ (List.getElem_mem hl)
  refine ⟨_,Ax hl,_,Na hy.1 hy.2,rfl,rfl,?_,rfl,rfl,?_⟩
  ·show ((s.take j).map (Bw y)).length+1<=4294967296
   rw [List.length_map,List.length_take];omega
  ·rw [Ap (by omega)]
   refine hK hl _ rfl ?_
   dsimp only
   rw [List.take_succ_eq_append_getElem hl,List.map_append]
   rfl
 ·have:j=s.length:=by omega
  subst this
  rw [List.drop_zero,List.take_length,List.take_length]
  exact h3
theorem IV (p:PP) (s:List Int) (l:Int) (h:Bh p=true/\List.length s<=20/\(∀y∈s,0<=y/\y<p.1)/\Fa (List.length p.2.2.1) l):fnW Di (look [(150,Kr)]) Yw Try.f115 (p,s,l,()) (λ(z:List Int)=>z=Aa s (Ag p.2.2.1 l)):=by
 obtain ⟨hv,hs,hr,hl⟩:=h
 have hv:=valid hv
 have hf:=hv.ec
 refine Eq.mp (KK p s l _) ?_
 have HF:=jh hv hl
 have Qq:Qc (Ag p.2.2.1 l).length s:= λy hy=>by have:=hr y hy;omega
 obtain ⟨k,hk,rfl|rfl⟩:=Pc hl
 ·rw [if_pos rfl,Bk (n:=0-((k:Int)+1)) (by omega) (by omega),if_neg (by omega),Bk (by omega) (by omega),show (k:Int)+1-1=(k:Int) by omega]
  refine ⟨_,Ax hk,Br.dec (λhn=>by omega) λ_=>⟨rfl,rfl,?_⟩⟩
  rw [Nn hk] at Qq⊢
  exact u6 s _ (λz=>z=Aa s p.2.2.1[k]) hs Qq rfl
 ·rw [if_pos rfl,Bk (n:=0- -((k:Int)+1)) (by omega) (by omega),if_pos (by omega),Bk (by omega) (by omega),show (0:Int)- -((k:Int)+1)-1=(k:Int) by omega]
  refine ⟨_,Ax hk,Br.dec (λ_=>⟨_,if_pos (hv.perm _ (List.getElem_mem hk)),rfl,rfl,?_⟩) λhn=>by omega⟩
  rw [Nm hk] at Qq⊢
  exact u6 s (Am p.2.2.1[k]) (λz=>z=Aa s (Am p.2.2.1[k])) hs Qq rfl
theorem iw:Sound Try.prog 115 Yw:=
 Sound.Dp Cf (Ah iz At) mixed Try.func115 (by kernel_rfl) (by kernel_rfl) λx h=>IV x.1 x.2.1 x.2.2.1 h
end Go.Proofs.Ytjbdmibbbpdnnaa

namespace Go.Proofs.Ytjbdmibbbpdnnaa
open Go.RowKit
abbrev rL:CK:= .row tI 2
abbrev xLL:CK:= .Dt tL 25
def Ha (k:Int) (n:Nat):List Int:=(List.range n).map λi=>k+(i:Nat)
def Gq:Int->List (List Int)->List (List Int)
 |_,[]=> []
 |k,r::rs=>Ha k r.length::Gq (k+r.length) rs
def Co:List (List Int)->Nat
 | []=>0
 |r::rs=>r.length+Co rs
def low (k:Int):Prop:=0<=k/\k<=1099511627776
noncomputable abbrev Po:MSpec:=ai [none,none] [(true,rL),(false, .Ee tI)] false [none] [.Ee tI] (λx=>short x.1/\low x.2.1) (λx=>((x.2.1+List.length x.1,()),(Ha x.2.1 (List.length x.1),())))
noncomputable abbrev Yx:MSpec:=ai [none,none] [(true,xLL),(false, .Ee tI)] false [none] [.Ee tI] (λx=>Ge x.1/\low x.2.1/\low (x.2.1+Co x.1)) (λx=>((x.2.1+Co x.1,()),(Gq x.2.1 x.1,())))
noncomputable abbrev Ma:MSpec:=ai [some 3,none] [(false, .Ee tI),(false, .Ee .str),(true,xLL),(false, .Ee tI)] false [none] [.Ee tI]
 (λx=>Ge x.2.2.1/\low x.2.2.2.1/\low (x.2.2.2.1+Co x.2.2.1)) (λx=>((x.2.2.2.1+Co x.2.2.1,()),(Gq x.2.2.2.1 x.2.2.1,())))
def hJ (xs:List Int) (k:Int):Int:=if xs=Ha k xs.length then k+xs.length else-1
noncomputable abbrev aF:Spec:=Dp (.pair tL (.pair tI .unit)) tI false true (λx=>short x.1/\low x.2.1) (λx=>hJ x.1 x.2.1)
noncomputable abbrev Mq:MSpec:=ai [none] [(false, .Ee tL)] false [none] [rL] (λx=>short x.1) (λx=>((x.1,()),()))
noncomputable abbrev dL:MSpec:=ai [none] [(false, .Ee fY)] false [none] [xLL] (λx=>Ge x.1) (λx=>((x.1,()),()))
noncomputable abbrev Ju:MSpec:=ai [some 3] [(false, .Ee tI),(false, .Ee .str),(false, .Ee fY)] false [some 3] [.Ee tI, .Ee .str,xLL] (λx=>Cj (x.1,x.2.1,x.2.2.1,())) (λx=>((x.1,x.2.1,x.2.2.1,()),()))
theorem OP (xs:List Int) (k:Int) (P:((Int×Unit)×List Int×Unit)->Prop):(0=0/\xs.length=xs.length/\Cb (λ(v3:Int×Int×List Int×PUnit) (k4:Int×Int×List Int×PUnit->Prop)=>Br (decide (v3.2.1<(↑v3.2.2.1.length:Int))) (((0:Int)<=v3.2.1/\v3.2.1<(↑v3.2.2.1.length:Int))/\0+v3.2.1.toNat<v3.2.2.1.length/\0=0/\v3.2.2.1.length=(v3.2.2.1.set (0+v3.2.1.toNat) v3.1).length/\k4 (IntKind.i64.wrap (v3.1+(1:Int)),IntKind.i64.wrap (v3.2.1+(1:Int)),v3.2.2.1.set (0+v3.2.1.toNat) v3.1,())) (P ((v3.1,()),v3.2.2.1,()))) (k,(0:Int),xs,PUnit.unit))=fnMW Ol (look []) Po Try.f26 (xs,k,()) P:=by kernel_rfl
theorem KO (xs:List (List Int)) (k:Int) (P:((Int×Unit)×List (List Int)×Unit)->Prop):(0=0/\xs.length=xs.length/\Cb (λ(v3:Int×Int×List (List Int)×PUnit) (k4:Int×Int×List (List Int)×PUnit->Prop)=>Br (decide (v3.2.1<(↑v3.2.2.1.length:Int))) (((0:Int)<=v3.2.1/\v3.2.1<(↑v3.2.2.1.length:Int))/\ ∃(y5:List Int),v3.2.2.1[0+v3.2.1.toNat]?=some y5/\ ∃(y6:List Int),v3.2.2.1[0+v3.2.1.toNat]?=some y6/\ ∃(y7:(Int×PUnit)×List Int×PUnit),Po.fn (y6,v3.1,())=some y7/\ ∃(y8:List Int),v3.2.2.1[0+v3.2.1.toNat]?=some y8/\y7.2.1.length=y8.length/\0=0/\v3.2.2.1.length=(v3.2.2.1.set (0+v3.2.1.toNat) y7.2.1).length/\k4 (y7.1.1,IntKind.i64.wrap (v3.2.1+(1:Int)),v3.2.2.1.set (0+v3.2.1.toNat) y7.2.1,())) (P ((v3.1,()),v3.2.2.1,()))) (k,(0:Int),xs,PUnit.unit))=fnMW Ol (look [(26,Po)]) Yx Try.f41 (xs,k,()) P:=by kernel_rfl
theorem tD (n:Int) (s:ByteArray) (b:List (List Int)) (k:Int) (P:((Int×Unit)×List (List Int)×Unit)->Prop):(0=0/\b.length=b.length/\ ∃(y5:(Int×PUnit)×List (List Int)×PUnit),Yx.fn (b,k,())=some y5/\(y5.2.1.length=b.length/\b.length=b.length)/\P ((y5.1.1,()),y5.2.1,()))=fnMW Ol (look [(41,Yx)]) Ma Try.f25 (n,s,b,k,()) P:=by kernel_rfl
theorem ON (xs:List Int) (k:Int) (P:Int->Prop):(Cb (λ(v3:Int×Int×PUnit) (k4:Int×Int×PUnit->Prop)=>Br (decide (v3.2.1<(↑xs.length:Int))) (∃(y5:Int),idx xs v3.2.1=some y5/\Br (y5 !=v3.1) (P (-1:Int)) (k4 (IntKind.i64.wrap (v3.1+(1:Int)),IntKind.i64.wrap (v3.2.1+(1:Int)),()))) (P v3.1)) (k,(0:Int),PUnit.unit))=fnW Di (look []) aF Try.f27 (xs,k,()) P:=by kernel_rfl
theorem UZ (xs:List Int) (P:((List Int×Unit)×Unit)->Prop):(((0:Int)<=(↑xs.length:Int)/\(↑xs.length:Int)<(↑Bm:Int)+(1:Int))/\(↑xs.length:Int)=(↑xs.length:Int)/\0=0/\(List.replicate (↑xs.length:Int).toNat (Int.ofNat (nat_lit 0))).length=(List.replicate (↑xs.length:Int).toNat (Int.ofNat (nat_lit 0))).length/\Cb (λ(v2:Int×List Int×PUnit) (k3:Int×List Int×PUnit->Prop)=>Br (decide (v2.1<(↑xs.length:Int))) (∃(y4:Int),idx xs v2.1=some y4/\((0:Int)<=v2.1/\v2.1<(↑v2.2.1.length:Int))/\0+v2.1.toNat<v2.2.1.length/\0=0/\v2.2.1.length=(v2.2.1.set (0+v2.1.toNat) y4).length/\k3 (IntKind.i64.wrap (v2.1+(1:Int)),v2.2.1.set (0+v2.1.toNat) y4,())) (P ((List.take v2.2.1.length (List.drop 0 v2.2.1),()),()))) ((0:Int),List.replicate (↑xs.length:Int).toNat (Int.ofNat (nat_lit 0)),PUnit.unit))=fnMW Ol (look []) Mq Try.f17 (xs,()) P:=by kernel_rfl
theorem OU (xs:List (List Int)) (P:((List (List Int)×Unit)×Unit)->Prop):(((0:Int)<=(↑xs.length:Int)/\(↑xs.length:Int)<(↑Bm:Int)+(1:Int))/\(↑xs.length:Int)=(↑xs.length:Int)/\0=0/\(List.replicate (↑xs.length:Int).toNat ([]:List Int)).length=(List.replicate (↑xs.length:Int).toNat ([]:List Int)).length/\Cb (λ(v2:Int×List (List Int)×PUnit) (k3:Int×List (List Int)×PUnit->Prop)=>Br (decide (v2.1<(↑xs.length:Int))) (∃(y4:List Int),idx xs v2.1=some y4/\ ∃(y5:(List Int×PUnit)×PUnit),Mq.fn (y4,())=some y5/\((0:Int)<=v2.1/\v2.1<(↑v2.2.1.length:Int))/\0+v2.1.toNat<v2.2.1.length/\0=0/\v2.2.1.length=(v2.2.1.set (0+v2.1.toNat) (List.take y5.1.1.length (List.drop 0 y5.1.1))).length/\k3 (IntKind.i64.wrap (v2.1+(1:Int)),v2.2.1.set (0+v2.1.toNat) (List.take y5.1.1.length (List.drop 0 y5.1.1)),())) (P ((List.take v2.2.1.length (List.drop 0 v2.2.1),()),()))) ((0:Int),List.replicate (↑xs.length:Int).toNat ([]:List Int),PUnit.unit))=fnMW Ol (look [(17,Mq)]) dL Try.f36 (xs,()) P:=by kernel_rfl
theorem x4 (n:Int) (s:ByteArray) (b:List (List Int)) (P:((Int×ByteArray×List (List Int)×Unit)×Unit)->Prop):(∃(y4:(List (List Int)×PUnit)×PUnit),dL.fn (b,())=some y4/\P ((n,s,List.take y4.1.1.length (List.drop 0 y4.1.1),()),()))=fnMW Ol (look [(36,dL)]) Ju Try.f16 (n,s,b,()) P:=by kernel_rfl
theorem Bj {α:Type} (xs:List α):List.take xs.length (List.drop 0 xs)=xs:=by rw [List.drop_zero,List.take_length]
theorem Lk (k:Int) (n:Nat):(Ha k n).length=n:=by simp [Ha]
theorem hY (k:Int) (n:Nat):Ha k (n+1)=Ha k n++ [k+(n:Nat)]:=by simp [Ha,List.range_succ]
theorem cw (a b:List (List Int)):Co (a++b)=Co a+Co b:=by
 induction a with
 |nil=>simp [Co]
 |cons r a ih=>simp only [List.cons_append,Co,ih];omega
theorem Ys: ∀(a b:List (List Int)) (k:Int),Gq k (a++b)=Gq k a++Gq (k+Co a) b
 | [],b,k=>by simp [Gq,Co]
 |r::a,b,k=>by
  simp only [List.cons_append,Gq,Co,Ys a b]
  congr 3
  omega
theorem Xh: ∀(xs:List (List Int)) (k:Int),(Gq k xs).length=xs.length
 | [],_=>rfl
 |r::xs,k=>by simp [Gq,Xh xs]
theorem se {xs:List (List Int)} {j:Nat} (h:j<xs.length):Co (xs.drop j)=xs[j].length+Co (xs.drop (j+1)):=by
 rw [List.drop_eq_getElem_cons h];rfl
theorem sf {xs:List (List Int)} {j:Nat} (h:j<xs.length):Co (xs.take (j+1))=Co (xs.take j)+xs[j].length:=by
 rw [List.take_succ_eq_append_getElem h,cw];simp [Co]
theorem oM (xs:List (List Int)) (j:Nat):Co (xs.take j)+Co (xs.drop j)=Co xs:=by
 rw [<-cw,List.take_append_drop]
theorem NP (xs:List Int) (k:Int) (h:short xs/\low k):fnMW Ol (look []) Po Try.f26 (xs,k,()) (λ(z:(Int×Unit)×List Int×Unit)=>z=((k+xs.length,()),(Ha k xs.length,()))):=by
 obtain ⟨h1,h2,h3⟩:=h
 unfold short at h1
 refine Eq.mp (OP xs k _) ⟨rfl,rfl,?_⟩
 refine Aq xs.length (λv=>v.2.1) (λj v=>v.1=k+(j:Nat)/\v.2.2.1.length=xs.length/\v.2.2.1.take j=Ha k j) rfl ⟨by simp,rfl,by simp [Ha]⟩ ?_
 rintro j ⟨k',i,ys,⟨⟩⟩ K hj hi ⟨g1,g2,g3⟩ hK
 dsimp only at hi g1 g2 g3⊢
 subst hi;subst g1
 refine Br.dec (λhl=>?_) λhl=>?_
 ·have hl:j<ys.length:=by omega
  refine ⟨⟨by omega,by omega⟩,by rw [Int.toNat_natCast];omega,rfl,by rw [List.length_set],?_⟩
  rw [Ap (by omega),Int.toNat_natCast,Nat.zero_add,Bk (by omega) (by omega)]
  refine hK (by omega) _ rfl ⟨by dsimp only;omega,by rw [List.length_set];exact g2,?_⟩
  rw [List.take_succ_eq_append_getElem (by rw [List.length_set];exact hl),List.take_set_of_le (Nat.le_refl j),g3,List.getElem_set_self,hY]
 ·have rI:j=xs.length:=by omega
  subst rI
  rw [<-g2,List.take_length,g2] at g3
  rw [g3]
theorem kL:Bo Try.prog 26 Po:=
 Bo.ai Nu At mixed Try.func26 (by kernel_rfl) (by kernel_rfl) λx h=>NP x.1 x.2.1 h
theorem IY (xs:List (List Int)) (k:Int) (h:Ge xs/\low k/\low (k+Co xs)):fnMW Ol (look [(26,Po)]) Yx Try.f41 (xs,k,()) (λ(z:(Int×Unit)×List (List Int)×Unit)=>z=((k+Co xs,()),(Gq k xs,()))):=by
 obtain ⟨⟨h1,h4⟩,⟨h2,h3⟩,h5,h6⟩:=h
 refine Eq.mp (KO xs k _) ⟨rfl,rfl,?_⟩
 refine Aq xs.length (λv=>v.2.1) (λj v=>v.1=k+(Co (xs.take j):Nat)/\v.2.2.1.length=xs.length/\v.2.2.1.take j=Gq k (xs.take j)/\v.2.2.1.drop j=xs.drop j) rfl ⟨by simp [Co],rfl,by simp [Gq],rfl⟩ ?_
 rintro j ⟨k',i,ys,⟨⟩⟩ K hj hi ⟨g1,g2,g3,g4⟩ hK
 dsimp only at hi g1 g2 g3 g4⊢
 subst hi;subst g1
 refine Br.dec (λhl=>?_) λhl=>?_
 ·have hl:j<ys.length:=by omega
  have VL:j<xs.length:=by omega
  have hy:ys[j]?=some xs[j]:=by
   have:(ys.drop j)[0]?=(xs.drop j)[0]?:=by rw [g4]
   simpa [List.getElem?_drop,List.getElem?_eq_getElem VL] using this
  have FO:=oM xs j
  have htk:=sf VL
  have hdr:=se VL
  refine ⟨⟨by omega,by omega⟩,?_⟩
  simp only [Int.toNat_natCast,Nat.zero_add]
  have Ady:low (k+(Co (xs.take j):Nat)):=⟨by omega,by omega⟩
  refine ⟨_,hy,_,hy,_,if_pos ⟨h4 _ (List.getElem_mem VL),Ady⟩,_,hy,Lk _ _,trivial,by rw [List.length_set],?_⟩
  rw [Ap (by omega)]
  refine hK VL _ rfl ⟨by dsimp only;omega,by rw [List.length_set];exact g2,?_,?_⟩
  ·rw [List.take_succ_eq_append_getElem (by rw [List.length_set];exact hl),List.take_set_of_le (Nat.le_refl j),g3,List.getElem_set_self,List.take_succ_eq_append_getElem VL,Ys]
   rfl
  ·dsimp only
   rw [List.drop_set_of_lt (by omega)]
   have e1:ys.drop (j+1)=(ys.drop j).drop 1:=by rw [List.drop_drop]
   rw [e1,g4,List.drop_drop]
 ·have rI:j=xs.length:=by omega
  subst rI
  rw [<-g2,List.take_length,g2,List.take_length] at g3
  rw [g3,List.take_length]
theorem sT:Bo Try.prog 41 Yx:=
 Bo.ai Nu (Fg kL At) mixed Try.func41 (by kernel_rfl) (by kernel_rfl) λx h=>IY x.1 x.2.1 h
theorem sr (n:Int) (s:ByteArray) (b:List (List Int)) (k:Int) (h:Ge b/\low k/\low (k+Co b)):fnMW Ol (look [(41,Yx)]) Ma Try.f25 (n,s,b,k,()) (λ(z:(Int×Unit)×List (List Int)×Unit)=>z=((k+Co b,()),(Gq k b,()))):=by
 exact Eq.mp (tD n s b k _) ⟨rfl,rfl,_,if_pos h,⟨Xh _ _,rfl⟩,rfl⟩
theorem jI:Bo Try.prog 25 Ma:=
 Bo.ai Nu (Fg sT At) mixed Try.func25 (by kernel_rfl) (by kernel_rfl) λx h=>sr x.1 x.2.1 x.2.2.1 x.2.2.2.1 h
theorem NN (xs:List Int) (k:Int) (h:short xs/\low k):fnW Di (look []) aF Try.f27 (xs,k,()) (λ(z:Int)=>z=hJ xs k):=by
 obtain ⟨h1,h2,h3⟩:=h
 unfold short at h1
 refine Eq.mp (ON xs k _) ?_
 refine Aq xs.length (λv=>v.2.1) (λj v=>v.1=k+(j:Nat)/\xs.take j=Ha k j) rfl ⟨by simp,by simp [Ha]⟩ ?_
 rintro j ⟨k',i,⟨⟩⟩ K hj hi ⟨g1,g3⟩ hK
 dsimp only at hi g1 g3⊢
 subst hi;subst g1
 refine Br.dec (λhl=>?_) λhl=>?_
 ·have hl:j<xs.length:=by omega
  refine ⟨_,Ax hl,λFf=>?_,λhe=>?_⟩
  ·simp only [bne_iff_ne,ne_eq] at Ff
   unfold hJ
   rw [if_neg]
   intro he
   refine Ff ?_
   have e1:xs[j]?=(Ha k xs.length)[j]?:=by rw [<-he]
   rw [List.getElem?_eq_getElem hl] at e1
   simpa [Ha,hl] using e1
  ·simp only [bne_eq_false_iff_eq] at he
   rw [Ap (by omega),Bk (by omega) (by omega)]
   refine hK hl _ rfl ⟨by dsimp only;omega,?_⟩
   rw [List.take_succ_eq_append_getElem hl,g3,he,hY]
 ·have rI:j=xs.length:=by omega
  subst rI
  rw [List.take_length] at g3
  exact (if_pos g3).symm
theorem wx:Sound Try.prog 27 aF:=
 Sound.Dp Cf At mixed Try.func27 (by kernel_rfl) (by kernel_rfl) λx h=>NN x.1 x.2.1 h
theorem eD (k:Int) (n:Nat):hJ (Ha k n) k=k+n:=by unfold hJ;rw [Lk,if_pos rfl]
theorem UC (xs:List Int) (h:short xs):fnMW Ol (look []) Mq Try.f17 (xs,()) (λ(z:(List Int×Unit)×Unit)=>z=((xs,()),())):=by
 unfold short at h
 refine Eq.mp (UZ xs _) ?_
 refine ⟨⟨by omega,by show (xs.length:Int)<(4294967296:Int)+1;omega⟩,rfl,rfl,rfl,?_⟩
 refine Aq xs.length (λv=>v.1) (λj v=>v.2.1.length=xs.length/\v.2.1.take j=xs.take j) rfl ⟨by simp,by simp⟩ ?_
 rintro j ⟨i,ys,⟨⟩⟩ K hj hi ⟨h1,h2⟩ hK
 dsimp only at hi h1 h2⊢
 subst hi
 refine Br.dec (λhl=>?_) λhl=>?_
 ·have hl:j<xs.length:=by omega
  refine ⟨_,Ax hl,⟨by omega,by omega⟩,by rw [Int.toNat_natCast];omega,rfl,by rw [List.length_set],?_⟩
  rw [Ap (by omega),Int.toNat_natCast,Nat.zero_add]
  exact hK hl _ rfl ⟨by rw [List.length_set];exact h1,Ks hl h1 h2⟩
 ·have:j=xs.length:=by omega
  subst this
  rw [List.take_length,<-h1,List.take_length] at h2
  rw [Bj,h2]
theorem nO:Bo Try.prog 17 Mq:=
 Bo.ai Nu At mixed Try.func17 (by kernel_rfl) (by kernel_rfl) λx h=>UC x.1 h
theorem NU (xs:List (List Int)) (h:Ge xs):fnMW Ol (look [(17,Mq)]) dL Try.f36 (xs,()) (λ(z:(List (List Int)×Unit)×Unit)=>z=((xs,()),())):=by
 obtain ⟨h,h4⟩:=h
 refine Eq.mp (OU xs _) ?_
 refine ⟨⟨by omega,by show (xs.length:Int)<(4294967296:Int)+1;omega⟩,rfl,rfl,rfl,?_⟩
 refine Aq xs.length (λv=>v.1) (λj v=>v.2.1.length=xs.length/\v.2.1.take j=xs.take j) rfl ⟨by simp,by simp⟩ ?_
 rintro j ⟨i,ys,⟨⟩⟩ K hj hi ⟨h1,h2⟩ hK
 dsimp only at hi h1 h2⊢
 subst hi
 refine Br.dec (λhl=>?_) λhl=>?_
 ·have hl:j<xs.length:=by omega
  refine ⟨_,Ax hl,_,if_pos (h4 _ (List.getElem_mem hl)),⟨by omega,by omega⟩,by rw [Int.toNat_natCast];omega,rfl,by rw [List.length_set],?_⟩
  rw [Ap (by omega),Int.toNat_natCast,Nat.zero_add]
  dsimp only
  rw [Bj]
  exact hK hl _ rfl ⟨by rw [List.length_set];exact h1,Ks hl h1 h2⟩
 ·have:j=xs.length:=by omega
  subst this
  rw [List.take_length,<-h1,List.take_length] at h2
  rw [Bj,h2]
theorem wC:Bo Try.prog 36 dL:=
 Bo.ai Nu (Fg nO At) mixed Try.func36 (by kernel_rfl) (by kernel_rfl) λx h=>NU x.1 h
theorem w9 (n:Int) (s:ByteArray) (b:List (List Int)) (h:Cj (n,s,b,())):fnMW Ol (look [(36,dL)]) Ju Try.f16 (n,s,b,()) (λ(z:(Int×ByteArray×List (List Int)×Unit)×Unit)=>z=((n,s,b,()),())):=by
 refine Eq.mp (x4 n s b _) ⟨_,if_pos h.2,?_⟩
 simp only [Bj]
theorem ll:Bo Try.prog 16 Ju:=
 Bo.ai Nu (Fg wC At) mixed Try.func16 (by kernel_rfl) (by kernel_rfl) λx h=>w9 x.1 x.2.1 x.2.2.1 h
end Go.Proofs.Ytjbdmibbbpdnnaa

namespace Go.Proofs.Ytjbdmibbbpdnnaa
open Go.RowKit
theorem Ji (a:List Int):Ij a a=true:=by simp [Ij]
theorem JV {n:Nat} {room:Int} (h: ¬jk n room<0):jk n room=room-n/\(n:Int)<=room:=by
 unfold jk at*
 split at h
 ·exact absurd (show (-1:Int)<0 by decide) h
 ·rename_i h1;rw [if_neg h1];exact ⟨rfl,by omega⟩
theorem wJ: ∀(xs:List (List Int)) (room:Int),0<=room-> ¬wI xs room<0->wI xs room=room-Co xs
 | [],room,_,_=>by simp [wI,Co]
 |r::xs,room,h0,h=>by
  simp only [wI,Co] at h⊢
  split at h
  ·exact absurd (show (-1:Int)<0 by decide) h
  ·rename_i h1
   rw [if_neg h1]
   have e1:=JV (n:=r.length) h1
   have e1:ia r room=room-r.length/\(r.length:Int)<=room:=e1
   rw [wJ xs _ (by rw [e1.1];omega) h,e1.1]
   omega
theorem JT {xs:List (List Int)} {room:Int} (h: ¬Xi xs room<0):Xi xs room=room-xs.length-Co xs:=by
 unfold Xi at*
 split at h
 ·exact absurd (show (-1:Int)<0 by decide) h
 ·rename_i h1
  rw [if_neg h1]
  have e1:=JV h1
  rw [wJ xs _ (by rw [e1.1];omega) h,e1.1]
theorem xa (k:Int) (n:Nat):List.take n (List.drop 0 (Ha k n))=Ha k n:=by rw [List.drop_zero,List.take_of_length_le (by rw [Lk];exact Nat.le_refl _)]
theorem lF:low 1:=⟨by decide,by decide⟩
end Go.Proofs.Ytjbdmibbbpdnnaa

namespace Go.Proofs.Ytjbdmibbbpdnnaa
open Go.RowKit
theorem iT {b:Bool} {P:Prop} (h:(!(b==b))=true):P:=by simp at h
end Go.Proofs.Ytjbdmibbbpdnnaa

namespace Go.Proofs.Ytjbdmibbbpdnnaa
open Go.RowKit
noncomputable abbrev Kc:Spec:=Dp (.pair tL .unit) tL false true (λx=>short x.1) (λx=>x.1)
theorem zp (xs:List Int) (P:List Int->Prop):(0=0/\0=([]:List Int).length/\0+xs.length<=Bm/\P (List.take ([]++xs).length (List.drop 0 ([]++xs))))=fnW Di (look []) Kc Try.f123 (xs,()) P:=by kernel_rfl
theorem yD (xs:List Int) (h:short xs):fnW Di (look []) Kc Try.f123 (xs,()) (λ(z:List Int)=>z=xs):=by
 unfold short at h
 refine Eq.mp (zp xs _) ⟨rfl,rfl,by show 0+xs.length<=4294967296;omega,?_⟩
 simp only [Bj,List.nil_append]
theorem cV:Sound Try.prog 123 Kc:=
 Sound.Dp Cf At mixed Try.func123 (by kernel_rfl) (by kernel_rfl) λx h=>yD x.1 h
end Go.Proofs.Ytjbdmibbbpdnnaa

namespace Go.Proofs.Ytjbdmibbbpdnnaa
open Go.RowKit
def Mg (xs:List Int):ByteArray:=bytesOf (xs.map λx=>IntKind.u8.wrap x)
noncomputable abbrev Ei:Spec:=Dp (.pair tL .unit) .str false true (λx=>short x.1) (λx=>Mg x.1)
def ij (ps:List (List Int)) (p:List Int):Int:=Eb (λq=>decide (q=p)) ps 0
theorem zw (xs:List Int) (P:ByteArray->Prop):(((0:Int)<=(↑xs.length:Int)/\(↑xs.length:Int)<(↑Bm:Int)+(1:Int))/\(↑xs.length:Int)=(↑xs.length:Int)/\0=0/\(List.replicate (↑xs.length:Int).toNat (Int.ofNat (nat_lit 0))).length=(List.replicate (↑xs.length:Int).toNat (Int.ofNat (nat_lit 0))).length/\Cb (λ(v2:Int×List Int×PUnit) (k3:Int×List Int×PUnit->Prop)=>Br (decide (v2.1<(↑xs.length:Int))) (∃(y4:Int),idx xs v2.1=some y4/\((0:Int)<=v2.1/\v2.1<(↑v2.2.1.length:Int))/\0+v2.1.toNat<v2.2.1.length/\0=0/\v2.2.1.length=(v2.2.1.set (0+v2.1.toNat) (IntKind.u8.wrap y4)).length/\k3 (IntKind.i64.wrap (v2.1+(1:Int)),v2.2.1.set (0+v2.1.toNat) (IntKind.u8.wrap y4),())) (P (bytesOf (List.take v2.2.1.length (List.drop 0 v2.2.1))))) ((0:Int),List.replicate (↑xs.length:Int).toNat (Int.ofNat (nat_lit 0)),PUnit.unit))=fnW Di (look []) Ei Try.f128 (xs,()) P:=by kernel_rfl
theorem yK (xs:List Int) (h:short xs):fnW Di (look []) Ei Try.f128 (xs,()) (λ(z:ByteArray)=>z=Mg xs):=by
 unfold short at h
 refine Eq.mp (zw xs _) ?_
 refine ⟨⟨by omega,by show (xs.length:Int)<(4294967296:Int)+1;omega⟩,rfl,rfl,rfl,?_⟩
 have Nz:(xs.map λx=>IntKind.u8.wrap x).length=xs.length:=by simp
 refine Aq xs.length (λv=>v.1) (λj v=>v.2.1.length=(xs.map λx=>IntKind.u8.wrap x).length/\v.2.1.take j=(xs.map λx=>IntKind.u8.wrap x).take j) rfl ⟨by rw [Nz];simp,by simp⟩ ?_
 rintro j ⟨i,ys,⟨⟩⟩ K hj hi ⟨h1,h2⟩ hK
 dsimp only at hi h1 h2⊢
 subst hi
 refine Br.dec (λhl=>?_) λhl=>?_
 ·have hl:j<xs.length:=by omega
  refine ⟨_,Ax hl,⟨by omega,by omega⟩,by rw [Int.toNat_natCast];omega,rfl,by rw [List.length_set],?_⟩
  rw [Ap (by omega),Int.toNat_natCast,Nat.zero_add]
  have Hd:j<(xs.map λx=>IntKind.u8.wrap x).length:=by rw [Nz];exact hl
  have e:IntKind.u8.wrap xs[j]=(xs.map λx=>IntKind.u8.wrap x)[j]:=by simp
  rw [e]
  exact hK hl _ rfl ⟨by rw [List.length_set];exact h1,Ks Hd h1 h2⟩
 ·have:j=xs.length:=by omega
  subst this
  rw [<-Nz,List.take_length,<-h1,List.take_length] at h2
  rw [List.drop_zero,List.take_length,h2];rfl
theorem cY:Sound Try.prog 128 Ei:=
 Sound.Dp Cf At mixed Try.func128 (by kernel_rfl) (by kernel_rfl) λx h=>yK x.1 h
theorem bg {α:Type} (P:α->Bool) (y:α): ∀(l:List α) (i:Int),0<=i->Eb P (l++ [y]) i=if Eb P l i<0 then (if P y=true then i+l.length else-1) else Eb P l i
 | [],i,_=>by simp [Eb]
 |x::r,i,h=>by
  simp only [List.cons_append,Eb,List.length_cons]
  split
  ·rw [if_neg (by omega)]
  ·rw [bg P y r (i+1) (by omega),show i+1+(r.length:Int)=i+((r.length+1:Nat):Int) by push_cast;omega]
theorem sy (ps:List (List Int)) (q p:List Int):ij (ps++ [q]) p=if ij ps p<0 then (if q=p then (ps.length:Int) else-1) else ij ps p:=by
 unfold ij
 rw [bg _ _ _ _ (Int.le_refl 0)]
 simp only [decide_eq_true_eq,Int.zero_add]
def Qa (p:List Int):Prop:= ∀x∈p,0<=x/\x<256
theorem GI {x y:Int} (hx:0<=x/\x<256) (hy:0<=y/\y<256) (h:UInt8.ofNat (IntKind.u8.wrap x).toNat=UInt8.ofNat (IntKind.u8.wrap y).toNat):x=y:=by
 have h:=congrArg UInt8.toNat h
 simp only [IntKind.wrap_u8,UInt8.toNat_ofNat'] at h
 omega
theorem bytes_inj: ∀(p q:List Int),Qa p->Qa q->(p.map λx=>UInt8.ofNat (IntKind.u8.wrap x).toNat)=(q.map λx=>UInt8.ofNat (IntKind.u8.wrap x).toNat)->p=q
 | [],[],_,_,_=>rfl
 | [],_::_,_,_,h=>by simp at h
 |_::_,[],_,_,h=>by simp at h
 |x::p,y::q,hp,hq,h=>by
  simp only [List.map_cons,List.cons.injEq] at h
  rw [GI (hp x (by simp)) (hq y (by simp)) h.1,bytes_inj p q (λz hz=>hp z (by simp [hz])) (λz hz=>hq z (by simp [hz])) h.2]
theorem key_inj {p q:List Int} (hp:Qa p) (hq:Qa q) (h:Mg p=Mg q):p=q:=by
 refine bytes_inj p q hp hq ?_
 simp only [Mg,bytesOf,ByteArray.mk.injEq,List.map_map] at h
 have h:=congrArg Array.toList h
 simpa [Function.comp_def] using h
def KM (m:ByteArray->Option Int) (ps:List (List Int)):Prop:= ∀p,Qa p->m (Mg p)=if ij ps p<0 then none else some (ij ps p)
theorem KM.nil:KM (λ_=>none) []:= λp _=>by
 rw [if_pos (by unfold ij;simp [Eb])]
theorem KM.add {m:ByteArray->Option Int} {ps:List (List Int)} {q:List Int} (h:KM m ps) (hq:Qa q) (hn:ij ps q<0):KM (aQ m (Mg q) (ps.length:Int)) (ps++ [q]):=by
 intro p hp
 rw [sy]
 unfold aQ
 by_cases e:p=q
 ·subst e
  rw [if_pos rfl,if_pos hn,if_pos rfl,if_neg (by omega)]
 ·rw [if_neg (λhk=>e (key_inj hp hq hk)),h p hp]
  have e': ¬q=p:= λh=>e h.symm
  rw [if_neg e']
  by_cases CE:ij ps p<0
  ·rw [if_pos CE,if_pos CE,if_pos (by decide)]
  ·rw [if_neg CE,if_neg CE,if_neg CE]
end Go.Proofs.Ytjbdmibbbpdnnaa

namespace Go.Proofs.Ytjbdmibbbpdnnaa
open Go.RowKit
noncomputable abbrev Im:Spec:=Dp (.pair Cu .unit) tL false true (λx=>List.length x.1.2.2.1<=8) (λx=>Af (List.length x.1.2.2.1))
abbrev iC:Type:=Int×Int×ByteArray×List (List Int)×List Int×PUnit
theorem wX (p:Int×ByteArray×List (List Int)×Unit) (P:List Int->Prop):(0=0/\0=([]:List Int).length/\Cb (λ(v2:iC) (k3:iC->Prop)=>Br (decide (v2.1<=(↑v2.2.2.2.1.length:Int))) (0=0/\v2.2.2.2.2.1.length=v2.2.2.2.2.1.length/\v2.2.2.2.2.1.length+(List.take 2 (List.drop 0 [v2.1,IntKind.i64.wrap ((0:Int)-v2.1)])).length<=Bm/\0=0/\(v2.2.2.2.2.1++List.take 2 (List.drop 0 [v2.1,IntKind.i64.wrap ((0:Int)-v2.1)])).length=(v2.2.2.2.2.1++List.take 2 (List.drop 0 [v2.1,IntKind.i64.wrap ((0:Int)-v2.1)])).length/\k3 (IntKind.i64.wrap (v2.1+(1:Int)),v2.2.1,v2.2.2.1,v2.2.2.2.1,v2.2.2.2.2.1++List.take 2 (List.drop 0 [v2.1,IntKind.i64.wrap ((0:Int)-v2.1)]),())) (P (List.take v2.2.2.2.2.1.length (List.drop 0 v2.2.2.2.2.1)))) ((1:Int),p.1,p.2.1,p.2.2.1,[],PUnit.unit))=fnW Di (look []) Im Try.f96 (p,()) P:=by kernel_rfl
theorem w5 (p:PP) (h:List.length p.2.2.1<=8):fnW Di (look []) Im Try.f96 (p,()) (λ(z:List Int)=>z=Af (List.length p.2.2.1)):=by
 refine Eq.mp (wX p _) ⟨rfl,rfl,?_⟩
 refine Cb.mk (λv=> ∃j:Nat,j<=List.length p.2.2.1/\v=((j:Int)+1,p.1,p.2.1,p.2.2.1,Af j,())) (λv=>List.length p.2.2.1+1-v.1.toNat) ⟨0,Nat.zero_le _,rfl⟩ ?_
 rintro _ ⟨j,hj,rfl⟩
 dsimp only
 refine Br.dec (λhl=>?_) λhl=>?_
 ·refine ⟨rfl,rfl,?_,rfl,rfl,⟨j+1,by omega,?_⟩,?_⟩
  ·show (Af j).length+2<=4294967296
   rw [Km];omega
  ·rw [Vl,Bk (n:=(j:Int)+1+1) (by omega) (by omega),Bk (n:=0-((j:Int)+1)) (by omega) (by omega),Int.zero_sub]
   rfl
  ·rw [Bk (by omega) (by omega)];omega
 ·have:j=List.length p.2.2.1:=by omega
  subst this
  rw [Bj]
theorem bo:Sound Try.prog 96 Im:=
 Sound.Dp Cf At mixed Try.func96 (by kernel_rfl) (by kernel_rfl) λx h=>w5 x.1 h
theorem JU {p:PP} {room:Int} (hr:roomy room) (h: ¬cv p room<0):(Co p.2.2.1:Int)<=room-cv p room/\roomy (cv p room):=by
 unfold cv at h⊢
 split at h
 ·exact absurd (show (-1:Int)<0 by decide) h
 ·rename_i h1
  rw [if_neg h1]
  split at h
  ·exact absurd (show (-1:Int)<0 by decide) h
  ·rename_i h2
   rw [if_neg h2]
   have e2:=JT h2
   obtain ⟨r1,r2⟩:=hr
   unfold roomy
   omega
end Go.Proofs.Ytjbdmibbbpdnnaa

namespace Go.Proofs.Ytjbdmibbbpdnnaa
open Go.RowKit
def s6 (v:Int):List Int->Nat
 | []=>0
 |x::r=>if x>v then s6 v r+1 else 0
def NH (v:Int) (t:List Int):Option (List Int):=if s6 v t=0 then none else some (Bw t ((s6 v t-1:Nat):Int)::(t.set (s6 v t-1) v).reverse)
def ct:List Int->Option (List Int)
 | []=>none
 |v::t=>match ct t with
  |some t'=>some (v::t')
  |none=>NH v t
noncomputable abbrev Fo:MSpec:=ai [none] [(false, .Ee tL)] false [none] [rL] (λx=>short x.1) (λx=>((x.1,()),()))
theorem wT (xs:List Int) (P:((List Int×Unit)×Unit)->Prop):(0=0/\0=([]:List Int).length/\0+xs.length<=Bm/\P ((List.take ([]++xs).length (List.drop 0 ([]++xs)),()),()))=fnMW Ol (look []) Fo Try.f123 (xs,()) P:=by kernel_rfl
theorem vM {s s':List Int} (h:ct s=some s'): ∀pre:List Int,ct (pre++s)=some (pre++s')
 | []=>h
 |v::p=>by rw [List.cons_append,ct,vM h p];rfl
theorem NZ {α:Type} (pre:List α) (v a:α) (t:List α):(pre++v::t).set pre.length a=pre++a::t:=by
 rw [List.set_append,if_neg (by omega)];simp
theorem vW (xs:List Int) (h:short xs):fnMW Ol (look []) Fo Try.f123 (xs,()) (λ(z:(List Int×Unit)×Unit)=>z=((xs,()),())):=by
 unfold short at h
 refine Eq.mp (wT xs _) ⟨rfl,rfl,by show 0+xs.length<=4294967296;omega,?_⟩
 simp only [Bj,List.nil_append]
theorem lb:Bo Try.prog 123 Fo:=
 Bo.ai Nu At mixed Try.func123 (by kernel_rfl) (by kernel_rfl) λx h=>vW x.1 h
inductive zB:List Int->List (List Int)->List Int->Prop where
 |one (a:List Int):zB a [a] a
 |more {a c b:List Int} {L:List (List Int)} :ct a=some c->zB c L b->zB a (a::L) b
theorem zB.cons {a b:List Int} {L:List (List Int)} (h:zB a L b) (v:Int):zB (v::a) (L.map (v:: ·)) (v::b):=by
 induction h with
 |one a=>exact .one _
 |more h3 _ ih=>exact .more (vM h3 [v]) ih
theorem zB.head {a b:List Int} {L:List (List Int)} (h:zB a L b): ∃M,L=a::M:=by
 cases h with
 |one=>exact ⟨_,rfl⟩
 |more _ _=>exact ⟨_,rfl⟩
theorem zB.at {a b:List Int} {L:List (List Int)} (h:zB a L b): ∀j (hj:j<L.length),(∀h2:j+1<L.length,ct L[j]=some L[j+1])/\(j+1=L.length->L[j]=b):=by
 induction h with
 |one a=>
  intro j hj
  simp only [List.length_singleton] at hj
  have:j=0:=by omega
  subst this
  exact ⟨λh2=>by simp at h2,λ_=>rfl⟩
 |more h3 h4 ih=>
  intro j hj
  rcases j with _|j
  ·obtain ⟨M,hM⟩:=h4.head
   refine ⟨λh2=>?_,λh2=>?_⟩
   ·simp only [List.getElem_cons_zero,List.getElem_cons_succ]
    subst hM
    exact h3
   ·subst hM;simp at h2
  ·have:=ih j (by simpa using hj)
   refine ⟨λh2=>?_,λh2=>?_⟩
   ·simp only [List.getElem_cons_succ]
    exact this.1 (by simpa using h2)
   ·simp only [List.getElem_cons_succ]
    exact this.2 (by simpa using h2)
theorem zB.distinct {a b:List Int} {L:List (List Int)} (h:zB a L b) (hb:ct b=none): ∀k i j (hi:i<L.length) (hj:j<L.length),L.length-j=k->i<j->L[i]≠L[j]:=by
 intro k
 induction k with
 |zero=>intro i j hi hj hk;omega
 |succ k ih=>
  intro i j hi hj hk eo he
  by_cases e:j+1<L.length
  ·have h1:=(h.at i hi).1 (by omega)
   have h2:=(h.at j hj).1 e
   rw [he,h2] at h1
   exact ih (i+1) (j+1) (by omega) e (by omega) (by omega) (Option.some.inj h1).symm
  ·have h1:=(h.at i hi).1 (by omega)
   have h2:=(h.at j hj).2 (by omega)
   rw [he,h2,hb] at h1
   cases h1
theorem zB.idx {a b:List Int} {L:List (List Int)} (h:zB a L b) (hb:ct b=none) {j:Nat} (hj:j<L.length):L.idxOf L[j]=j:=by
 have h1:L.idxOf L[j]<L.length:=List.idxOf_lt_length_of_mem (List.getElem_mem _)
 have h2:L[L.idxOf L[j]]=L[j]:=List.getElem_idxOf h1
 rcases Nat.lt_trichotomy (L.idxOf L[j]) j with h3|h3|h3
 ·exact absurd h2 (h.distinct hb _ _ _ h1 hj rfl h3)
 ·exact h3
 ·exact absurd h2.symm (h.distinct hb _ _ _ hj h1 rfl h3)
end Go.Proofs.Ytjbdmibbbpdnnaa

namespace Go.Proofs.Ytjbdmibbbpdnnaa
open Go.RowKit
def Ci:List Int->List Int->Int
 | [],[]=>0
 | [],_::_=> -1
 |_::_,[]=>1
 |x::a,y::b=>if x<y then-1 else if x>y then 1 else Ci a b
def ag (a b:List Int):Bool:=decide (Ci a b<0)
noncomputable abbrev jA:Spec:=Dp (.pair (.oslice tI) .unit) tL false true (λx=>short (x.1.getD [])) (λx=>x.1.getD [])
noncomputable abbrev ir:Spec:=Dp (.pair tL .unit) tL false true (λx=>short x.1) (λx=>x.1)
noncomputable abbrev Rf:Spec:=Dp (.pair tL (.pair tL .unit)) .bool false true (λx=>short x.1/\List.length x.1=List.length x.2.1) (λx=>ag x.1 x.2.1)
theorem EU (xs:Option (List Int)) (P:List Int->Prop):(Br xs.isNone (P (List.take 0 (List.drop 0 []))) (0=0/\0=([]:List Int).length/\0+(xs.getD []).length<=Bm/\P (List.take ([]++xs.getD []).length (List.drop 0 ([]++xs.getD [])))))=fnW Di (look []) jA Try.f145 (xs,()) P:=by kernel_rfl
theorem zt (a b:List Int) (P:Bool->Prop):(Cb (λ(v3:Int×PUnit) (k4:Int×PUnit->Prop)=>Br (decide (v3.1<(↑a.length:Int))) (∃(y5:Int),idx a v3.1=some y5/\ ∃(y6:Int),idx b v3.1=some y6/\Br (y5 !=y6) (∃(y7:Int),idx a v3.1=some y7/\ ∃(y8:Int),idx b v3.1=some y8/\P (decide (y7<y8))) (k4 (IntKind.i64.wrap (v3.1+(1:Int)),()))) (P false)) ((0:Int),PUnit.unit))=fnW Di (look []) Rf Try.f144 (a,b,()) P:=by kernel_rfl
theorem Sound.ofO {P:Program} {f:FuncId} {e:Ty} {r res:Ty} {Ef fresh:Bool} {pre:(Ty.pair (.oslice e) r).den->Prop} {val:(Ty.pair (.oslice e) r).den->res.den} {cC:(Ty.pair (.slice e) r).den->Prop} {o4:(Ty.pair (.slice e) r).den->res.den}
  (h:Sound P f (Go.Proofs.Ytjbdmibbbpdnnaa.Dp (.pair (.oslice e) r) res Ef fresh pre val))
  (hp: ∀(o:Option (List e.den)) (y:r.den),cC (o.getD [],y)->pre (o,y)/\val (o,y)=o4 (o.getD [],y)):Sound P f (Go.Proofs.Ytjbdmibbbpdnnaa.Dp (.pair (.slice e) r) res Ef fresh cC o4):=by
 refine ⟨h.enter,λw S vs x y hS h2 h5=>?_⟩
 obtain ⟨xs,rest⟩:=x
 cases vs with
 |nil=>exact h2.elim
 |cons u us=>
  obtain ⟨h7,h8⟩:=h2
  obtain ⟨ox,h9,rfl⟩:=h7.told
  have fE:cC (ox.getD [],rest):=Classical.byContradiction λhn=>by
   have:(Go.Proofs.Ytjbdmibbbpdnnaa.Dp (.pair (.slice e) r) res Ef fresh cC o4).fn (ox.getD [],rest)=none:=if_neg hn
   rw [this] at h5;cases h5
  obtain ⟨k1,k2⟩:=hp ox rest fE
  have hv:(Go.Proofs.Ytjbdmibbbpdnnaa.Dp (.pair (.slice e) r) res Ef fresh cC o4).fn (ox.getD [],rest)=some (o4 (ox.getD [],rest)):=if_pos fE
  rw [hv] at h5
  have h5:=Option.some.inj h5
  exact h.calls w S (u::us) (ox,rest) y hS ⟨h9,h8⟩ ((if_pos k1).trans (by rw [k2];exact congrArg some h5))
theorem DC (xs:Option (List Int)) (h:short (xs.getD [])):fnW Di (look []) jA Try.f145 (xs,()) (λ(z:List Int)=>z=xs.getD []):=by
 unfold short at h
 refine Eq.mp (EU xs _) ⟨λhn=>?_,λ_=>⟨rfl,rfl,by show 0+(xs.getD []).length<=4294967296;omega,?_⟩⟩
 ·cases xs with
  |none=>rfl
  |some y=>cases hn
 ·simp only [Bj,List.nil_append]
theorem pb:Sound Try.prog 145 jA:=
 Sound.Dp Cf At mixed Try.func145 (by kernel_rfl) (by kernel_rfl) λx h=>DC x.1 h
theorem sQ:Sound Try.prog 145 ir:=Sound.ofO pb λ_ _ h=>⟨h,rfl⟩
theorem yH (a b:List Int) (h:short a/\a.length=b.length):fnW Di (look []) Rf Try.f144 (a,b,()) (λ(z:Bool)=>z=ag a b):=by
 obtain ⟨ha,hb⟩:=h
 unfold short at ha
 refine Eq.mp (zt a b _) ?_
 refine Aq a.length (λv=>v.1) (λj _=>Ci (a.drop j) (b.drop j)=Ci a b) rfl (by simp) ?_
 rintro j ⟨i,⟨⟩⟩ K hj hi RP hK
 dsimp only at hi⊢
 subst hi
 refine Br.dec (λhl=>?_) λhl=>?_
 ·have hl:j<a.length:=by omega
  have hlb:j<b.length:=by omega
  rw [List.drop_eq_getElem_cons hl,List.drop_eq_getElem_cons hlb] at RP
  simp only [Ci] at RP
  refine ⟨_,Ax hl,_,Ax hlb,⟨λFf=>?_,λFf=>?_⟩⟩
  ·refine ⟨_,Ax hl,_,Ax hlb,?_⟩
   have Ff:a[j]≠b[j]:=by simpa using Ff
   unfold ag
   rw [<-RP]
   by_cases h1:a[j]<b[j]
   ·rw [if_pos h1];simp [h1]
   ·rw [if_neg h1,if_pos (by omega)];simp [h1]
  ·have Ff:a[j]=b[j]:=by simpa using Ff
   rw [if_neg (by omega),if_neg (by omega)] at RP
   rw [Ap (by omega)]
   exact hK hl _ rfl RP
 ·have:j=a.length:=by omega
  subst this
  rw [List.drop_length,List.drop_eq_nil_of_le (by omega)] at RP
  unfold ag
  rw [<-RP]
  rfl
theorem nK:Sound Try.prog 144 Rf:=
 Sound.Dp Cf At mixed Try.func144 (by kernel_rfl) (by kernel_rfl) λx h=>yH x.1 x.2.1 h
end Go.Proofs.Ytjbdmibbbpdnnaa

namespace Go.Proofs.Ytjbdmibbbpdnnaa
open Go.RowKit
abbrev SS:Type:=List (List Int)×List Int×List Int×Bool×Unit
abbrev rLS:CK:= .row tL 25
abbrev rN:CK:= .row tI 3
def Db (L:List (List Int)) (Gv:List Int) (s:List Int):Nat:=(Gv.takeWhile λi=>ag (L.getD i.toNat []) s).length
structure Ct (m:Nat) (L:List (List Int)) (Gv:List Int):Prop where
 ec:L.length<=3000
 len: ∀x∈L,x.length=m
 short:m<=20
 perm:Gv.Perm (upto L.length)
 sorted:Gv.Pairwise λi j=>ag (L.getD i.toNat []) (L.getD j.toNat [])=true
def Wn (L:List (List Int)) (s:List Int):Int:=if s∈L then (L.idxOf s:Int) else-1
def Qd (Gv:List Int) (k:Nat) (x:Int):List Int:=Gv.take k++x::Gv.drop k
noncomputable abbrev aH:Spec:=Dp (.pair Pu (.pair tL .unit)) tI false true (λx=>Ct (List.length x.2.1) x.1.1 x.1.2.2.1) (λx=>(Db x.1.1 x.1.2.2.1 x.2.1:Int))
noncomputable abbrev Hr:Spec:=Dp (.pair Pu (.pair tL .unit)) tI false true (λx=>Ct (List.length x.2.1) x.1.1 x.1.2.2.1) (λx=>Wn x.1.1 x.2.1)
noncomputable abbrev fT:MSpec:=ai [some 4,none,none] [(false,rLS),(false,rL),(false,rN),(false, .Ee .bool),(false, .Ee tL),(false, .Ee tI)] false [some 4] [rLS,rL,rN, .Ee .bool]
 (λx=>Ct (List.length x.2.2.2.2.1) x.1 x.2.2.1/\List.length x.2.1<=3000) (λx=>((x.1++ [x.2.2.2.2.1],x.2.1++ [x.2.2.2.2.2.1],Qd x.2.2.1 (Db x.1 x.2.2.1 x.2.2.2.2.1) (List.length x.1),x.2.2.2.1,()),()))
def Sq (L:List (List Int)):List Int:=(List.range L.length).foldl (λ(S:List Int) (i:Nat)=>Qd S (Db (L.take i) S (L.getD i [])) (i:Int)) []
def Et (g:List (List Int)) (x:List Int) (d:Int):List Int->List (List Int)->List Int->List (List Int)×List Int×Bool
 | [],L,D=>(L,D,true)
 |l::ls,L,D=>if Aa x (Ag g l)∈L then Et g x d ls L D else if L.length=3000 then (L,D,false) else Et g x d ls (L++ [Aa x (Ag g l)]) (D++ [d+1])
def Gl (g:List (List Int)) (ls:List Int):Nat->Nat->List (List Int)->List Int->List (List Int)×List Int×Bool
 |0,_,L,D=>(L,D,true)
 |f+1,k,L,D=>if k<L.length then (match Et g (L.getD k []) (D.getD k 0) ls L D with
  |(L',D',true)=>Gl g ls f (k+1) L' D'
  |(L',D',false)=>(L',D',false)) else (L,D,true)
def Fm (g:List (List Int)) (s:List Int):List (List Int)×List Int×Bool:=Gl g (Af g.length) 3001 0 [s] [0]
def Bg (g:List (List Int)) (s:List Int):SS:=((Fm g s).1,(Fm g s).2.1,Sq (Fm g s).1,(Fm g s).2.2,())
noncomputable abbrev Dm:Spec:=Dp (.pair Cu (.pair tL .unit)) Pu false false (λx=>Bh x.1=true/\List.length x.2.1<=20/\ ∀y∈x.2.1,0<=y/\y<x.1.1) (λx=>Bg x.1.2.2.1 x.2.1)
abbrev BE:Type:=Int×Int×List (List Int)×List Int×List Int×Bool×PUnit
theorem UW (f:List (List Int)×List Int×List Int×Bool×Unit) (s:List Int) (P:Int->Prop):(Cb (λ(v3:BE) (k4:BE->Prop)=>Br (decide (v3.1<v3.2.1)) ((2:Int)≠(0:Int)/\ ∃(y5:Int),idx v3.2.2.2.2.1 (IntKind.i64.wrap ((IntKind.i64.wrap (v3.1+v3.2.1)).tdiv (2:Int)))=some y5/\ ∃(y6:List Int),idx v3.2.2.1 y5=some y6/\ ∃(y7:Bool),Rf.fn (y6,s,())=some y7/\Br y7 (k4 (IntKind.i64.wrap (IntKind.i64.wrap ((IntKind.i64.wrap (v3.1+v3.2.1)).tdiv (2:Int))+(1:Int)),v3.2.1,v3.2.2.1,v3.2.2.2.1,v3.2.2.2.2.1,v3.2.2.2.2.2.1,())) (k4 (v3.1,IntKind.i64.wrap ((IntKind.i64.wrap (v3.1+v3.2.1)).tdiv (2:Int)),v3.2.2.1,v3.2.2.2.1,v3.2.2.2.2.1,v3.2.2.2.2.2.1,()))) (P v3.1)) ((0:Int),(↑f.2.2.1.length:Int),f.1,f.2.1,f.2.2.1,f.2.2.2.1,PUnit.unit))=fnW Di (look [(144,Rf)]) aH Try.f104 (f,s,()) P:=by kernel_rfl
theorem KS (f:List (List Int)×List Int×List Int×Bool×Unit) (s:List Int) (P:Int->Prop):(∃(y3:Int),aH.fn ((f.1,f.2.1,f.2.2.1,f.2.2.2.1,()),s,())=some y3/\Br (decide (y3<(↑f.2.2.1.length:Int))) (∃(y4:Int),idx f.2.2.1 y3=some y4/\ ∃(y5:List Int),idx f.1 y4=some y5/\ ∃(y6:Bool),Cx.fn (y5,s,())=some y6/\Br y6 (∃(y7:Int),idx f.2.2.1 y3=some y7/\P y7) (P (-1:Int))) (P (-1:Int)))=fnW Di (look [(104,aH),(105,Cx)]) Hr Try.f54 (f,s,()) P:=by kernel_rfl
theorem UU (L:List (List Int)) (D S:List Int) (b:Bool) (s:List Int) (d:Int) (P:((List (List Int)×List Int×List Int×Bool×Unit)×Unit)->Prop):(∃(y7:Int),aH.fn ((List.take L.length (List.drop 0 L),List.take D.length (List.drop 0 D),List.take S.length (List.drop 0 S),b,()),s,())=some y7/\0=0/\S.length=S.length/\S.length+(List.take 1 (List.drop 0 [(0:Int)])).length<=Bm/\((0:Int)<=IntKind.i64.wrap (y7+(1:Int))/\IntKind.i64.wrap (y7+(1:Int))<=(↑(S++List.take 1 (List.drop 0 [(0:Int)])).length:Int)/\(↑(S++List.take 1 (List.drop 0 [(0:Int)])).length:Int)<=(↑(S++List.take 1 (List.drop 0 [(0:Int)])).length:Int))/\((0:Int)<=y7/\y7<=(↑(S++List.take 1 (List.drop 0 [(0:Int)])).length:Int)/\(↑(S++List.take 1 (List.drop 0 [(0:Int)])).length:Int)<=(↑(S++List.take 1 (List.drop 0 [(0:Int)])).length:Int))/\((0:Int)<=y7/\y7<(↑(S++List.take 1 (List.drop 0 [(0:Int)])).length:Int))/\0+y7.toNat<(Bt (S++List.take 1 (List.drop 0 [(0:Int)])) (0+(IntKind.i64.wrap (y7+(1:Int))).toNat) (List.take ((↑(S++List.take 1 (List.drop 0 [(0:Int)])).length:Int).toNat-(IntKind.i64.wrap (y7+(1:Int))).toNat) (List.take ((↑(S++List.take 1 (List.drop 0 [(0:Int)])).length:Int).toNat-y7.toNat) (List.drop (0+y7.toNat) (S++List.take 1 (List.drop 0 [(0:Int)])))))).length/\0=0/\L.length=L.length/\L.length+(List.take 1 (List.drop 0 [s])).length<=Bm/\0=0/\D.length=D.length/\D.length+(List.take 1 (List.drop 0 [d])).length<=Bm/\P ((List.take (L++List.take 1 (List.drop 0 [s])).length (List.drop 0 (L++List.take 1 (List.drop 0 [s]))),List.take (D++List.take 1 (List.drop 0 [d])).length (List.drop 0 (D++List.take 1 (List.drop 0 [d]))),List.take (S++List.take 1 (List.drop 0 [(0:Int)])).length (List.drop 0 ((Bt (S++List.take 1 (List.drop 0 [(0:Int)])) (0+(IntKind.i64.wrap (y7+(1:Int))).toNat) (List.take ((↑(S++List.take 1 (List.drop 0 [(0:Int)])).length:Int).toNat-(IntKind.i64.wrap (y7+(1:Int))).toNat) (List.take ((↑(S++List.take 1 (List.drop 0 [(0:Int)])).length:Int).toNat-y7.toNat) (List.drop (0+y7.toNat) (S++List.take 1 (List.drop 0 [(0:Int)])))))).set (0+y7.toNat) (↑L.length:Int))),b,()),()))=fnMW Ol (look [(104,aH)]) fT Try.f149 (L,D,S,b,s,d,()) P:=by kernel_rfl
abbrev iE:Type:=Int×Int×ByteArray×List (List Int)×Bool×Bool×List (List Int)×List Int×List Int×List (List Int)×List Int×List Int×PUnit
abbrev wL:Type:=(List (List Int)×List Int×List Int×Bool×PUnit)×PUnit
theorem OT (p:Int×ByteArray×List (List Int)×Unit) (s:List Int) (P:(List (List Int)×List Int×List Int×Bool×Unit)->Prop):(∃(y3:List Int),Kc.fn (s,())=some y3/\ ∃(y4:wL),fT.fn ([],[],[],false,y3,(0:Int),())=some y4/\ ∃(y5:List Int),Im.fn ((p.1,p.2.1,p.2.2.1,()),())=some y5/\0=0/\0=([]:List Int).length/\0=0/\0=([]:List Int).length/\0=0/\0=([]:List Int).length/\0=0/\y4.1.1.length=y4.1.1.length/\0=0/\y4.1.2.1.length=y4.1.2.1.length/\0=0/\y4.1.2.2.1.length=y4.1.2.2.1.length/\Cb (λ(v6:iE) (k7:iE->Prop)=>Br (decide (v6.1<(↑v6.2.2.2.2.2.2.2.2.2.1.length:Int))) (0=0/\v6.2.2.2.2.2.2.1.length=v6.2.2.2.2.2.2.1.length/\0=0/\v6.2.2.2.2.2.2.2.1.length=v6.2.2.2.2.2.2.2.1.length/\0=0/\v6.2.2.2.2.2.2.2.2.1.length=v6.2.2.2.2.2.2.2.2.1.length/\0=0/\v6.2.2.2.2.2.2.2.2.2.1.length=v6.2.2.2.2.2.2.2.2.2.1.length/\0=0/\v6.2.2.2.2.2.2.2.2.2.2.1.length=v6.2.2.2.2.2.2.2.2.2.2.1.length/\0=0/\v6.2.2.2.2.2.2.2.2.2.2.2.1.length=v6.2.2.2.2.2.2.2.2.2.2.2.1.length/\Cb (λ(v8:iE) (k9:iE->Prop)=>Br (decide (v8.1<(↑y5.length:Int))) (((0:Int)<=v6.1/\v6.1<(↑v8.2.2.2.2.2.2.2.2.2.1.length:Int))/\ ∃(Ls:List Int),v8.2.2.2.2.2.2.2.2.2.1[0+v6.1.toNat]?=some Ls/\ ∃(Ke:Int),idx y5 v8.1=some Ke/\ ∃(jU:List Int),Yw.fn ((v8.2.1,v8.2.2.1,v8.2.2.2.1,()),Ls,Ke,())=some jU/\ ∃(lK:Int),Hr.fn ((List.take v8.2.2.2.2.2.2.2.2.2.1.length (List.drop 0 v8.2.2.2.2.2.2.2.2.2.1),List.take v8.2.2.2.2.2.2.2.2.2.2.1.length (List.drop 0 v8.2.2.2.2.2.2.2.2.2.2.1),List.take v8.2.2.2.2.2.2.2.2.2.2.2.1.length (List.drop 0 v8.2.2.2.2.2.2.2.2.2.2.2.1),v8.2.2.2.2.2.1,()),jU,())=some lK/\Br (decide (lK>=(0:Int))) (0=0/\v8.2.2.2.2.2.2.1.length=v8.2.2.2.2.2.2.1.length/\0=0/\v8.2.2.2.2.2.2.2.1.length=v8.2.2.2.2.2.2.2.1.length/\0=0/\v8.2.2.2.2.2.2.2.2.1.length=v8.2.2.2.2.2.2.2.2.1.length/\0=0/\v8.2.2.2.2.2.2.2.2.2.1.length=v8.2.2.2.2.2.2.2.2.2.1.length/\0=0/\v8.2.2.2.2.2.2.2.2.2.2.1.length=v8.2.2.2.2.2.2.2.2.2.2.1.length/\0=0/\v8.2.2.2.2.2.2.2.2.2.2.2.1.length=v8.2.2.2.2.2.2.2.2.2.2.2.1.length/\k9 (IntKind.i64.wrap (v8.1+(1:Int)),v8.2.1,v8.2.2.1,v8.2.2.2.1,v8.2.2.2.2.1,v8.2.2.2.2.2.1,v8.2.2.2.2.2.2.1,v8.2.2.2.2.2.2.2.1,v8.2.2.2.2.2.2.2.2.1,v8.2.2.2.2.2.2.2.2.2.1,v8.2.2.2.2.2.2.2.2.2.2.1,v8.2.2.2.2.2.2.2.2.2.2.2.1,())) (Br ((↑v8.2.2.2.2.2.2.2.2.2.1.length:Int)==(3000:Int)) (P (List.take v8.2.2.2.2.2.2.2.2.2.1.length (List.drop 0 v8.2.2.2.2.2.2.2.2.2.1),List.take v8.2.2.2.2.2.2.2.2.2.2.1.length (List.drop 0 v8.2.2.2.2.2.2.2.2.2.2.1),List.take v8.2.2.2.2.2.2.2.2.2.2.2.1.length (List.drop 0 v8.2.2.2.2.2.2.2.2.2.2.2.1),v8.2.2.2.2.2.1,())) (((0:Int)<=v6.1/\v6.1<(↑v8.2.2.2.2.2.2.2.2.2.2.1.length:Int))/\ ∃(Tc:Int),v8.2.2.2.2.2.2.2.2.2.2.1[0+v6.1.toNat]?=some Tc/\0=0/\v8.2.2.2.2.2.2.2.2.2.1.length=v8.2.2.2.2.2.2.2.2.2.1.length/\0=0/\v8.2.2.2.2.2.2.2.2.2.2.1.length=v8.2.2.2.2.2.2.2.2.2.2.1.length/\0=0/\v8.2.2.2.2.2.2.2.2.2.2.2.1.length=v8.2.2.2.2.2.2.2.2.2.2.2.1.length/\ ∃(iK:wL),fT.fn (v8.2.2.2.2.2.2.2.2.2.1,v8.2.2.2.2.2.2.2.2.2.2.1,v8.2.2.2.2.2.2.2.2.2.2.2.1,v8.2.2.2.2.2.1,jU,IntKind.i64.wrap (Tc+(1:Int)),())=some iK/\0=0/\v8.2.2.2.2.2.2.1.length=v8.2.2.2.2.2.2.1.length/\0=0/\v8.2.2.2.2.2.2.2.1.length=v8.2.2.2.2.2.2.2.1.length/\0=0/\v8.2.2.2.2.2.2.2.2.1.length=v8.2.2.2.2.2.2.2.2.1.length/\0=0/\iK.1.1.length=iK.1.1.length/\0=0/\iK.1.2.1.length=iK.1.2.1.length/\0=0/\iK.1.2.2.1.length=iK.1.2.2.1.length/\k9 (IntKind.i64.wrap (v8.1+(1:Int)),v8.2.1,v8.2.2.1,v8.2.2.2.1,v8.2.2.2.2.1,iK.1.2.2.2.1,v8.2.2.2.2.2.2.1,v8.2.2.2.2.2.2.2.1,v8.2.2.2.2.2.2.2.2.1,iK.1.1,iK.1.2.1,iK.1.2.2.1,())))) (0=0/\v8.2.2.2.2.2.2.1.length=v8.2.2.2.2.2.2.1.length/\0=0/\v8.2.2.2.2.2.2.2.1.length=v8.2.2.2.2.2.2.2.1.length/\0=0/\v8.2.2.2.2.2.2.2.2.1.length=v8.2.2.2.2.2.2.2.2.1.length/\0=0/\v8.2.2.2.2.2.2.2.2.2.1.length=v8.2.2.2.2.2.2.2.2.2.1.length/\0=0/\v8.2.2.2.2.2.2.2.2.2.2.1.length=v8.2.2.2.2.2.2.2.2.2.2.1.length/\0=0/\v8.2.2.2.2.2.2.2.2.2.2.2.1.length=v8.2.2.2.2.2.2.2.2.2.2.2.1.length/\k7 (IntKind.i64.wrap (v6.1+(1:Int)),v8.2.1,v8.2.2.1,v8.2.2.2.1,v8.2.2.2.2.1,v8.2.2.2.2.2.1,v8.2.2.2.2.2.2.1,v8.2.2.2.2.2.2.2.1,v8.2.2.2.2.2.2.2.2.1,v8.2.2.2.2.2.2.2.2.2.1,v8.2.2.2.2.2.2.2.2.2.2.1,v8.2.2.2.2.2.2.2.2.2.2.2.1,()))) ((0:Int),v6.2.1,v6.2.2.1,v6.2.2.2.1,v6.2.2.2.2.1,v6.2.2.2.2.2.1,v6.2.2.2.2.2.2.1,v6.2.2.2.2.2.2.2.1,v6.2.2.2.2.2.2.2.2.1,v6.2.2.2.2.2.2.2.2.2.1,v6.2.2.2.2.2.2.2.2.2.2.1,v6.2.2.2.2.2.2.2.2.2.2.2.1,PUnit.unit)) (P (List.take v6.2.2.2.2.2.2.2.2.2.1.length (List.drop 0 v6.2.2.2.2.2.2.2.2.2.1),List.take v6.2.2.2.2.2.2.2.2.2.2.1.length (List.drop 0 v6.2.2.2.2.2.2.2.2.2.2.1),List.take v6.2.2.2.2.2.2.2.2.2.2.2.1.length (List.drop 0 v6.2.2.2.2.2.2.2.2.2.2.2.1),true,()))) ((0:Int),p.1,p.2.1,p.2.2.1,false,y4.1.2.2.2.1,[],[],[],y4.1.1,y4.1.2.1,y4.1.2.2.1,PUnit.unit))=fnW UM (look [(123,Kc),(149,fT),(96,Im),(115,Yw),(54,Hr)]) Dm Try.f112 (p,s,()) P:=by kernel_rfl
theorem mc: ∀ {a b:List Int},Ci a b=0↔a=b
 | [],[]=>by simp [Ci]
 | [],_::_=>by simp [Ci]
 |_::_,[]=>by simp [Ci]
 |x::a,y::b=>by
  simp only [Ci,List.cons.injEq]
  by_cases h1:x<y
  ·rw [if_pos h1]
   exact ⟨λh=>by omega,λh=>by omega⟩
  ·rw [if_neg h1]
   by_cases h2:x>y
   ·rw [if_pos h2]
    exact ⟨λh=>by omega,λh=>by omega⟩
   ·rw [if_neg h2,mc]
    exact ⟨λh=>⟨by omega,h⟩,λh=>h.2⟩
theorem zH: ∀(a b:List Int),Ci b a= -Ci a b
 | [],[]=>by simp [Ci]
 | [],_::_=>by simp [Ci]
 |_::_,[]=>by simp [Ci]
 |x::a,y::b=>by
  simp only [Ci]
  rcases Int.lt_trichotomy x y with h1|h1|h1
  ·simp [h1,show ¬y<x by omega]
  ·subst h1
   simp [zH a b]
  ·simp [h1,show ¬x<y by omega]
theorem pL: ∀ {a b c:List Int},Ci a b<0->Ci b c<0->Ci a c<0
 | [],[],_,h,_=>by simp [Ci] at h
 |_::_,[],_,h,_=>by simp [Ci] at h
 |_,_::_,[],_,h=>by simp [Ci] at h
 | [],_::_,_::_,_,_=>by simp [Ci]
 |x::a,y::b,z::c,h1,h2=>by
  simp only [Ci] at h1 h2⊢
  by_cases e1:x<y
  ·by_cases e2:y<z
   ·rw [if_pos (by omega)];omega
   ·rw [if_neg e2] at h2
    by_cases e3:y>z
    ·rw [if_pos e3] at h2;omega
    ·rw [if_pos (by omega)];omega
  ·rw [if_neg e1] at h1
   by_cases e2:x>y
   ·rw [if_pos e2] at h1;omega
   ·rw [if_neg e2] at h1
    by_cases e3:y<z
    ·rw [if_pos (by omega)];omega
    ·rw [if_neg e3] at h2
     by_cases e4:y>z
     ·rw [if_pos e4] at h2;omega
     ·rw [if_neg e4] at h2
      rw [if_neg (by omega),if_neg (by omega)]
      exact pL h1 h2
theorem lt_iff {a b:List Int} :ag a b=true↔Ci a b<0:=decide_eq_true_iff
theorem CS {a b c:List Int} (h1:ag a b=true) (h2:ag b c=true):ag a c=true:=lt_iff.2 (pL (lt_iff.1 h1) (lt_iff.1 h2))
theorem fL (a:List Int):ag a a=false:=by
 have:Ci a a=0:=mc.2 rfl
 unfold ag;rw [this];rfl
theorem IG {a b:List Int} (h:ag a b=false) (Ff:a≠b):ag b a=true:=by
 rw [lt_iff,zH a b]
 have h1: ¬Ci a b<0:= λh'=>by rw [lt_iff.2 h'] at h;cases h
 have h2:Ci a b≠0:= λh'=>Ff (mc.1 h')
 omega
theorem eP {α:Type} (q:α->Bool): ∀(l:List α),l.Pairwise (λi j=>q j=true->q i=true)-> ∀k (hk:k<l.length),k<(l.takeWhile q).length↔q l[k]=true
 | [],_,k,hk=>by simp at hk
 |a::l,h,k,hk=>by
  obtain ⟨h1,h2⟩:=List.pairwise_cons.1 h
  by_cases ha:q a=true
  ·rw [List.takeWhile_cons_of_pos ha]
   rcases k with _|k
   ·simpa using ha
   ·simp only [List.length_cons,List.getElem_cons_succ,Nat.add_lt_add_iff_right]
    exact eP q l h2 k (by simpa using hk)
  ·rw [List.takeWhile_cons_of_neg ha]
   simp only [List.length_nil,Nat.not_lt_zero,false_iff]
   rcases k with _|k
   ·exact ha
   ·simp only [List.getElem_cons_succ]
    exact λhq=>ha (h1 _ (List.getElem_mem _) hq)
theorem Ct.mP {m:Nat} {L:List (List Int)} {Gv:List Int} (h:Ct m L Gv):Gv.length=L.length:=by rw [h.perm.length_eq,Pw]
theorem Ct.idx {m:Nat} {L:List (List Int)} {Gv:List Int} (h:Ct m L Gv) {k:Nat} (hk:k<Gv.length):0<=Gv[k]/\Gv[k]<L.length:=Ik.1 (h.perm.mem_iff.1 (List.getElem_mem hk))
theorem Ct.Zb {m:Nat} {L:List (List Int)} {Gv:List Int} (h:Ct m L Gv) (s:List Int) {k:Nat} (hk:k<Gv.length):k<Db L Gv s↔ag (L.getD Gv[k].toNat []) s=true:=
 eP _ Gv (h.sorted.imp λeo hj=>CS eo hj) k hk
theorem AT (L:List (List Int)) (Gv s:List Int):Db L Gv s<=Gv.length:=(List.takeWhile_sublist _).length_le
theorem Ct.inj {m:Nat} {L:List (List Int)} {Gv:List Int} (h:Ct m L Gv) {i j:Nat} (hi:i<L.length) (hj:j<L.length) (e:L[i]=L[j]):i=j:=by
 have mem: ∀i,i<L.length->(i:Int)∈Gv:= λi hi=>h.perm.mem_iff.2 (Ik.2 ⟨by omega,by omega⟩)
 obtain ⟨p,hp,ep⟩:=List.mem_iff_getElem.1 (mem i hi)
 obtain ⟨q,hq,eq⟩:=List.mem_iff_getElem.1 (mem j hj)
 have get: ∀i (hi:i<L.length),L.getD ((i:Int)).toNat []=L[i]:= λi hi=>by rw [Int.toNat_natCast,List.getD_eq_getElem?_getD,List.getElem?_eq_getElem hi];rfl
 rcases Nat.lt_trichotomy p q with h1|h1|h1
 ·have:=List.pairwise_iff_getElem.1 h.sorted p q hp hq h1
  rw [ep,eq,get i hi,get j hj,e,fL] at this
  cases this
 ·subst h1
  rw [ep] at eq
  omega
 ·have:=List.pairwise_iff_getElem.1 h.sorted q p hq hp h1
  rw [ep,eq,get i hi,get j hj,e,fL] at this
  cases this
theorem Ow {L:List (List Int)} {k:Nat} (h:k<L.length):L.getD k []=L[k]:=by rw [List.getD_eq_getElem?_getD,List.getElem?_eq_getElem h];rfl
theorem Ct.r9 {m:Nat} {L:List (List Int)} {Gv:List Int} (h:Ct m L Gv) {s:List Int} :
  (∃hk:Db L Gv s<Gv.length,L.getD Gv[Db L Gv s].toNat []=s/\Wn L s=Gv[Db L Gv s])\/(Wn L s= -1/\ ∀hk:Db L Gv s<Gv.length,L.getD Gv[Db L Gv s].toNat []≠s):=by
 by_cases hm:s∈L
 ·left
  obtain ⟨j,hj,rfl⟩:=List.mem_iff_getElem.1 hm
  obtain ⟨p,hp,ep⟩:=List.mem_iff_getElem.1 (h.perm.mem_iff.2 (Ik.2 ⟨by omega,by omega⟩):(j:Int)∈Gv)
  have gj:L.getD Gv[p].toNat []=L[j]:=by rw [ep,Int.toNat_natCast,Ow hj]
  have hs:Db L Gv L[j]=p:=by
   have h1: ¬p<Db L Gv L[j]:= λh1=>by
    have:=(h.Zb L[j] hp).1 h1
    rw [gj,fL] at this;cases this
   have h2: ¬Db L Gv L[j]<p:= λh2=>by
    have h3:=(h.Zb L[j] (k:=Db L Gv L[j]) (by omega)).2 (by
     have:=List.pairwise_iff_getElem.1 h.sorted (Db L Gv L[j]) p (by omega) hp h2
     rw [gj] at this;exact this)
    omega
   omega
  have hx:L.idxOf L[j]=j:=by
   have h1:L.idxOf L[j]<L.length:=List.idxOf_lt_length_of_mem hm
   exact h.inj h1 hj (List.getElem_idxOf h1)
  refine ⟨by omega,?_,?_⟩
  ·simp only [hs];exact gj
  ·unfold Wn
   rw [if_pos hm,hx]
   simp only [hs];exact ep.symm
 ·right
  refine ⟨by unfold Wn;rw [if_neg hm],λhk e=>hm ?_⟩
  have hi:=h.idx hk
  rw [Ow (by omega)] at e
  rw [<-e]
  exact List.getElem_mem _
theorem HV (Gv:List Int) (k:Nat) (x:Int):(Qd Gv k x).Perm (x::Gv):=by
 unfold Qd
 refine List.perm_middle.trans (List.Perm.cons x ?_)
 rw [List.take_append_drop]
theorem Ct.add {m:Nat} {L:List (List Int)} {Gv s:List Int} (h:Ct m L Gv) (hn:s∉L) (hl:s.length=m) (hr:L.length<3000):Ct m (L++ [s]) (Qd Gv (Db L Gv s) L.length):=by
 have uL: ∀i∈Gv,(L++ [s]).getD i.toNat []=L.getD i.toNat []:= λi hi=>by
  have:=Ik.1 (h.perm.mem_iff.1 hi)
  rw [List.getD_eq_getElem?_getD,List.getD_eq_getElem?_getD,List.getElem?_append_left (by omega)]
 have WJ:(L++ [s]).getD ((L.length:Int)).toNat []=s:=by
  rw [Int.toNat_natCast,List.getD_eq_getElem?_getD,List.getElem?_append_right (by omega),Nat.sub_self];rfl
 refine ⟨by rw [List.length_append,List.length_singleton];omega,λx hx=>?_,h.short,?_,?_⟩
 ·rcases List.mem_append.1 hx with hx|hx
  ·exact h.len x hx
  ·rw [List.mem_singleton.1 hx];exact hl
 ·refine (HV _ _ _).trans ?_
  rw [List.length_append,List.length_singleton,Zh]
  exact (List.Perm.cons _ h.perm).trans (List.perm_append_singleton _ _).symm
 ·unfold Qd
  have hs:=h.sorted
  rw [<-List.take_append_drop (Db L Gv s) Gv] at hs
  obtain ⟨s1,s2,s3⟩:=List.pairwise_append.1 hs
  have mt: ∀i∈Gv.take (Db L Gv s),i∈Gv/\ag (L.getD i.toNat []) s=true:= λi hi=>by
   obtain ⟨k,hk,rfl⟩:=List.mem_iff_getElem.1 hi
   have XN:k<Db L Gv s:=by rw [List.length_take] at hk;omega
   have hk3:k<Gv.length:=by rw [List.length_take] at hk;omega
   rw [List.getElem_take]
   exact ⟨List.getElem_mem _,(h.Zb s hk3).1 XN⟩
  have md: ∀i∈Gv.drop (Db L Gv s),i∈Gv/\ag s (L.getD i.toNat [])=true:= λi hi=>by
   obtain ⟨k,hk,rfl⟩:=List.mem_iff_getElem.1 hi
   rw [List.length_drop] at hk
   have hk3:Db L Gv s+k<Gv.length:=by omega
   rw [List.getElem_drop]
   refine ⟨List.getElem_mem _,IG ?_ λe=>hn ?_⟩
   ·exact Bool.eq_false_iff.2 λhh=>by
     have:=(h.Zb s hk3).2 hh
     omega
   ·have hi:=h.idx hk3
    rw [Ow (by omega)] at e
    rw [<-e];exact List.getElem_mem _
  refine List.pairwise_append.2 ⟨s1.imp_of_mem λ {a b} ha hb oz=>?_,List.pairwise_cons.2 ⟨λb hb=>?_,s2.imp_of_mem λ {a b} ha hb oz=>?_⟩,λa ha b hb=>?_⟩
  ·rw [uL a (mt a ha).1,uL b (mt b hb).1];exact oz
  ·rw [WJ,uL b (md b hb).1];exact (md b hb).2
  ·rw [uL a (md a ha).1,uL b (md b hb).1];exact oz
  ·rcases List.mem_cons.1 hb with rfl|hb
   ·rw [WJ,uL a (mt a ha).1];exact (mt a ha).2
   ·rw [uL a (mt a ha).1,uL b (md b hb).1];exact s3 a ha b hb
theorem aJ (L:List (List Int)) (s:List Int):Sq (L++ [s])=Qd (Sq L) (Db L (Sq L) s) L.length:=by
 unfold Sq
 rw [List.length_append,List.length_singleton,List.range_succ,List.foldl_append]
 have e: ∀(is:List Nat) (S:List Int),(∀i∈is,i<L.length)->is.foldl (λ(S:List Int) (i:Nat)=>Qd S (Db ((L++ [s]).take i) S ((L++ [s]).getD i [])) (i:Int)) S=is.foldl (λ(S:List Int) (i:Nat)=>Qd S (Db (L.take i) S (L.getD i [])) (i:Int)) S:=by
  intro is
  induction is with
  |nil=>intro S _;rfl
  |cons i is ih=>
   intro S h
   have hi:=h i (by simp)
   rw [List.foldl_cons,List.foldl_cons,ih _ λj hj=>h j (List.mem_cons_of_mem _ hj)]
   congr 2
   rw [List.take_append_of_le_length (by omega),List.getD_eq_getElem?_getD,List.getElem?_append_left hi,<-List.getD_eq_getElem?_getD]
 rw [e _ _ λi hi=>List.mem_range.1 hi]
 simp only [List.foldl_cons,List.foldl_nil]
 congr 2
 ·rw [List.take_append_of_le_length (Nat.le_refl _),List.take_length]
 ·rw [List.getD_eq_getElem?_getD,List.getElem?_append_right (by omega),Nat.sub_self];rfl
theorem iu {m:Nat} (h:m<=20):Ct m [] []:=⟨by simp,λx hx=>(by cases hx),h,by simp [upto],List.Pairwise.nil⟩
theorem HT {α:Type} {xs:List α} {y:Int} (h0:0<=y) (h:y.toNat<xs.length):idx xs y=some xs[y.toNat]:=by
 unfold idx
 rw [if_pos h0,List.getElem?_eq_getElem h]
theorem TZ (f:SS) (s:List Int) (h:Ct s.length f.1 f.2.2.1):fnW Di (look [(144,Rf)]) aH Try.f104 (f,s,()) (λ(z:Int)=>z=(Db f.1 f.2.2.1 s:Int)):=by
 obtain ⟨L,D,Gv,b,⟨⟩⟩:=f
 dsimp only at h⊢
 have hle:=AT L Gv s
 have zY:=h.mP
 have uR:=h.ec
 refine Eq.mp (UW (L,D,Gv,b,()) s _) ?_
 refine Cb.mk (λv=>v.2.2.1=L/\v.2.2.2.2.1=Gv/\ ∃lo hi:Nat,v.1=lo/\v.2.1=hi/\lo<=hi/\hi<=Gv.length/\lo<=Db L Gv s/\Db L Gv s<=hi) (λv=>(v.2.1-v.1).toNat)
  ⟨rfl,rfl,0,Gv.length,rfl,rfl,by omega,by omega,by omega,hle⟩ ?_
 rintro ⟨lo',ek,L',D',EI,b',⟨⟩⟩ ⟨h1,h2,lo,hi,h3,h4,h5,h6,h7,h8⟩
 dsimp only at h1 h2 h3 h4⊢
 subst h1 h2 h3 h4
 refine Br.dec (λhl=>?_) λhl=>?_
 ·have em:IntKind.i64.wrap ((IntKind.i64.wrap ((lo:Int)+(hi:Int))).tdiv 2)=(((lo+hi)/2:Nat):Int):=by
   rw [Bk (n:=(lo:Int)+(hi:Int)) (by omega) (by omega),Int.tdiv_eq_ediv_of_nonneg (by omega),Bk (by omega) (by omega)]
   omega
  rw [em]
  have VM:(lo+hi)/2<EI.length:=by omega
  have MO:=h.idx VM
  have MP:EI[(lo+hi)/2].toNat<L'.length:=by omega
  have XI:=Ow MP
  have hlen:=h.len _ (List.getElem_mem MP)
  have AG:short L'[EI[(lo+hi)/2].toNat]:=by
   unfold short
   have:=h.short;omega
  refine ⟨by decide,_,Ax VM,_,HT MO.1 MP,_,if_pos ⟨AG,hlen⟩,⟨λhc=>?_,λhc=>?_⟩⟩
  ·have hc:ag L'[EI[(lo+hi)/2].toNat] s=true:=hc
   have hs:=(h.Zb s VM).2 (by rw [XI];exact hc)
   rw [Ap (by omega)]
   exact ⟨⟨rfl,rfl,(lo+hi)/2+1,hi,rfl,rfl,by omega,h6,by omega,h8⟩,by omega⟩
  ·have hc:ag L'[EI[(lo+hi)/2].toNat] s=false:=hc
   have hs: ¬(lo+hi)/2<Db L' EI s:= λhh=>by
    have:=(h.Zb s VM).1 hh
    rw [XI,hc] at this;cases this
   exact ⟨⟨rfl,rfl,lo,(lo+hi)/2,rfl,rfl,by omega,by omega,h7,by omega⟩,by omega⟩
 ·show (lo:Int)=_
  omega
theorem nM:Sound Try.prog 104 aH:=
 Sound.Dp Cf (Ah nK At) mixed Try.func104 (by kernel_rfl) (by kernel_rfl) λx h=>TZ x.1 x.2.1 h
theorem JC (f:SS) (s:List Int) (h:Ct s.length f.1 f.2.2.1):fnW Di (look [(104,aH),(105,Cx)]) Hr Try.f54 (f,s,()) (λ(z:Int)=>z=Wn f.1 s):=by
 obtain ⟨L,D,Gv,b,⟨⟩⟩:=f
 dsimp only at h⊢
 refine Eq.mp (KS (L,D,Gv,b,()) s _) ⟨_,if_pos h,Br.dec (λhl=>?_) λhl=>?_⟩
 ·have hl:Db L Gv s<Gv.length:=by
   have hl:((Db L Gv s:Nat):Int)<(Gv.length:Int):=hl
   omega
  have MO:=h.idx hl
  have MP:Gv[Db L Gv s].toNat<L.length:=by omega
  have XI:=Ow MP
  have hlen:=h.len _ (List.getElem_mem MP)
  have AG:short L[Gv[Db L Gv s].toNat]:=by
   unfold short
   have:=h.short;omega
  refine ⟨_,Ax hl,_,HT MO.1 MP,_,if_pos AG,⟨λhc=>⟨_,Ax hl,?_⟩,λhc=>?_⟩⟩
  ·have hc:L[Gv[Db L Gv s].toNat]=s:=of_decide_eq_true hc
   rcases h.r9 (s:=s) with ⟨hk,_,e⟩|⟨_,Ff⟩
   ·exact e.symm
   ·exact absurd (by rw [XI];exact hc) (Ff hl)
  ·have hc: ¬L[Gv[Db L Gv s].toNat]=s:=of_decide_eq_false hc
   rcases h.r9 (s:=s) with ⟨hk,e,_⟩|⟨e,_⟩
   ·rw [XI] at e;exact absurd e hc
   ·exact e.symm
 ·have hl: ¬Db L Gv s<Gv.length:=by
   have hl: ¬((Db L Gv s:Nat):Int)<(Gv.length:Int):=hl
   omega
  rcases h.r9 (s:=s) with ⟨hk,e,_⟩|⟨e,_⟩
  ·exact absurd hk hl
  ·exact e.symm
theorem Tw:Sound Try.prog 54 Hr:=
 Sound.Dp Cf (Ah nM (Ah ld At)) mixed Try.func54 (by kernel_rfl) (by kernel_rfl) λx h=>JC x.1 x.2.1 h
theorem yf {S:List Int} {k:Nat} (h:k<=S.length) (n:Int):
  (Bt (S++ [0]) (k+1) (List.take ((S++ [0]).length-(k+1)) (List.take ((S++ [0]).length-k) (List.drop k (S++ [0]))))).set k n=Qd S k n:=by
 obtain ⟨A,B,rfl,hA⟩: ∃A B,S=A++B/\A.length=k:=⟨S.take k,S.drop k,(List.take_append_drop k S).symm,by rw [List.length_take];omega⟩
 subst hA
 have e1:List.drop A.length (A++B++ [0])=B++ [0]:=by rw [List.append_assoc,List.drop_left]
 have e2:List.take ((A++B++ [0]).length-A.length) (B++ [0])=B++ [0]:=List.take_of_length_le (by simp only [List.length_append,List.length_singleton];omega)
 have e3:List.take ((A++B++ [0]).length-(A.length+1)) (B++ [0])=B:=by
  have:(A++B++ [(0:Int)]).length-(A.length+1)=B.length:=by simp only [List.length_append,List.length_singleton];omega
  rw [this,List.take_left]
 rw [e1,e2,e3]
 unfold Bt Qd
 have e4:List.drop (A.length+1+B.length) (A++B++ [0])= []:=List.drop_eq_nil_of_le (by simp only [List.length_append,List.length_singleton];omega)
 obtain ⟨c,hc⟩: ∃c,List.take (A.length+1) (A++B++ [0])=A++ [c]:=by
  rw [List.append_assoc,List.take_append,List.take_of_length_le (by omega)]
  cases B with
  |nil=>exact ⟨0,by simp⟩
  |cons b B=>exact ⟨b,by simp⟩
 rw [e4,hc,List.append_nil,List.append_assoc,List.singleton_append,NZ,List.take_left,List.drop_left]
theorem TY (L:List (List Int)) (D S:List Int) (b:Bool) (s:List Int) (d:Int) (h:Ct s.length L S/\D.length<=3000):
  fnMW Ol (look [(104,aH)]) fT Try.f149 (L,D,S,b,s,d,()) (λ(z:(List (List Int)×List Int×List Int×Bool×Unit)×Unit)=>z=((L++ [s],D++ [d],Qd S (Db L S s) L.length,b,()),())):=by
 obtain ⟨h,hD⟩:=h
 have hle:=AT L S s
 have zY:=h.mP
 have uR:=h.ec
 refine Eq.mp (UU L D S b s d _) ?_
 rw [Bj L,Bj D,Bj S]
 refine ⟨_,if_pos h,?_⟩
 dsimp only
 have es:List.take 1 (List.drop 0 [(0:Int)])= [0]:=rfl
 have el:(S++ [(0:Int)]).length=S.length+1:=by simp
 rw [es,Ap (by omega),Nat.zero_add,Nat.zero_add,Int.toNat_natCast,Int.toNat_natCast,Int.toNat_natCast]
 refine ⟨rfl,rfl,by show S.length+1<=4294967296;omega,⟨by omega,by omega,by omega⟩,⟨by omega,by omega,by omega⟩,⟨by omega,by omega⟩,?_,rfl,rfl,by show L.length+1<=4294967296;omega,rfl,rfl,by show D.length+1<=4294967296;omega,?_⟩
 ·unfold Bt
  simp only [List.length_append,List.length_take,List.length_drop,List.length_singleton]
  omega
 ·rw [yf hle,Bj,Bj]
  have e5:List.take (S++ [(0:Int)]).length (List.drop 0 (Qd S (Db L S s) (L.length:Int)))=Qd S (Db L S s) (L.length:Int):=by
   rw [List.drop_zero,List.take_of_length_le]
   unfold Qd
   simp only [List.length_append,List.length_cons,List.length_take,List.length_drop,List.length_nil]
   omega
  rw [e5]
  rfl
theorem zd:Bo Try.prog 149 fT:=
 Bo.ai Nu (Ah nM At) mixed Try.func149 (by kernel_rfl) (by kernel_rfl) λx h=>TY x.1 x.2.1 x.2.2.1 x.2.2.2.1 x.2.2.2.2.1 x.2.2.2.2.2.1 h
structure Pz (p:PP) (m:Nat) (L:List (List Int)) (D:List Int):Prop where
 ok:Ct m L (Sq L)
 len:D.length=L.length
 row: ∀x∈L,∀y∈x,0<=y/\y<p.1
 dep: ∀j (h:j<D.length),0<=D[j]/\D[j]<=j
theorem lG {p:PP} (hv:Valid p) {x:List Int} {l:Int} (hx: ∀y∈x,0<=y/\y<p.1) (hl:Fa (List.length p.2.2.1) l):
  (Aa x (Ag p.2.2.1 l)).length=x.length/\ ∀y∈Aa x (Ag p.2.2.1 l),0<=y/\y<p.1:=by
 obtain ⟨h1,h2⟩:=jh hv hl
 refine ⟨Nw _ _,λy hy=>?_⟩
 have:=uo (n:=(Ag p.2.2.1 l).length) (λz hz=>by have:=hx z hz;omega) h2 y hy
 omega
theorem Pz.add {p:PP} {m:Nat} {L:List (List Int)} {D:List Int} (h:Pz p m L D) {y:List Int} {d:Int} (hn:y∉L) (hl:y.length=m) (hr:L.length<3000) (hy: ∀z∈y,0<=z/\z<p.1) (hd:0<=d/\d<=L.length):Pz p m (L++ [y]) (D++ [d]):=by
 have hlen:=h.len
 refine ⟨by rw [aJ];exact h.ok.add hn hl hr,by simp [hlen],λx hx=>?_,λj hj=>?_⟩
 ·rcases List.mem_append.1 hx with hx|hx
  ·exact h.row x hx
  ·rw [List.mem_singleton.1 hx];exact hy
 ·by_cases e:j<D.length
  ·rw [List.getElem_append_left e];exact h.dep j e
  ·simp only [List.length_append,List.length_singleton] at hj
   have:j=D.length:=by omega
   subst this
   rw [List.getElem_append_right (by omega)]
   simp only [Nat.sub_self,List.getElem_cons_zero]
   omega
theorem dr {p:PP} {s:List Int} (hs:s.length<=20) (hr: ∀y∈s,0<=y/\y<p.1):Pz p s.length [s] [0]:=by
 refine ⟨?_,rfl,λx hx=>by rw [List.mem_singleton.1 hx];exact hr,λj hj=>?_⟩
 ·have:=(iu hs).add (s:=s) (by simp) rfl (by simp)
  have e:Sq [s]=Qd [] (Db [] [] s) 0:=aJ [] s
  rw [e];exact this
 ·simp only [List.length_singleton] at hj
  have:j=0:=by omega
  subst this
  simp
theorem qg {L:List (List Int)} {s:List Int} :Wn L s>=0↔s∈L:=by
 unfold Wn
 split
 ·rename_i h;exact ⟨λ_=>h,λ_=>by omega⟩
 ·rename_i h;exact ⟨λhh=>by omega,λhh=>absurd hh h⟩
theorem NT (p:PP) (s:List Int) (h:Bh p=true/\s.length<=20/\ ∀y∈s,0<=y/\y<p.1):fnW UM (look [(123,Kc),(149,fT),(96,Im),(115,Yw),(54,Hr)]) Dm Try.f112 (p,s,()) (λ(z:SS)=>z=Bg p.2.2.1 s):=by
 obtain ⟨hv,hs,hr⟩:=h
 have hV:=valid hv
 have uR:=hV.ec
 have RQ:=dr hs hr
 have AG:short s:=by unfold short;omega
 obtain ⟨ls,fD⟩: ∃ls,Af (List.length p.2.2.1)=ls:=⟨_,rfl⟩
 refine Eq.mp (OT p s _) ⟨_,if_pos AG,_,if_pos ⟨iu hs,by show 0<=3000;omega⟩,ls,(if_pos (by show List.length p.2.2.1<=8;exact uR.2)).trans (congrArg some fD),rfl,rfl,rfl,rfl,rfl,rfl,rfl,rfl,rfl,rfl,rfl,rfl,?_⟩
 have e0:Qd [] (Db [] [] s) ((([]:List (List Int)).length:Nat):Int)=Sq [s]:=(aJ [] s).symm
 show Cb _ ((0:Int),p.1,p.2.1,p.2.2.1,false,false,[],[],[],[s],[(0:Int)],Qd [] (Db [] [] s) ((([]:List (List Int)).length:Nat):Int),PUnit.unit)
 rw [e0]
 have LH:ls.length<=16:=by rw [<-fD,Km];omega
 have jc: ∀l∈ls,Fa (List.length p.2.2.1) l:= λl hl=>He (fD▸hl)
 have yb:Gl p.2.2.1 ls 3001 0 [s] [0]=Fm p.2.2.1 s:=by unfold Fm;rw [fD]
 refine Cb.mk (λv=>v.2.1=p.1/\v.2.2.1=p.2.1/\v.2.2.2.1=p.2.2.1/\v.2.2.2.2.2.1=false/\ ∃k:Nat,v.1=k/\k<=v.2.2.2.2.2.2.2.2.2.1.length/\
   Pz p s.length v.2.2.2.2.2.2.2.2.2.1 v.2.2.2.2.2.2.2.2.2.2.1/\v.2.2.2.2.2.2.2.2.2.2.2.1=Sq v.2.2.2.2.2.2.2.2.2.1/\
   Gl p.2.2.1 ls (3001-k) k v.2.2.2.2.2.2.2.2.2.1 v.2.2.2.2.2.2.2.2.2.2.1=Fm p.2.2.1 s) (λv=>3001-v.1.toNat)
  ⟨rfl,rfl,rfl,rfl,0,rfl,by simp,RQ,rfl,yb⟩ ?_
 rintro ⟨k',n1,n2,n3,b0,wh,x1,x2,x3,L0,D0,S0,⟨⟩⟩ ⟨h1,h2,h3,h4,k,h5,h6,h7,h8,h9⟩
 dsimp only at h1 h2 h3 h4 h5 h6 h7 h8 h9
 subst h1 h2 h3 h4 h5 h8
 dsimp only
 have hL0:=h7.ok.ec
 have hD0:=h7.len
 refine Br.dec (λhl=>⟨rfl,rfl,rfl,rfl,rfl,rfl,rfl,rfl,rfl,rfl,rfl,rfl,?_⟩) λhl=>?_
 ·have hk:k<L0.length:=by omega
  have BY:k<D0.length:=by omega
  have hx: ∀y∈L0[k],0<=y/\y<p.1:=h7.row _ (List.getElem_mem hk)
  have ND:L0[k].length=s.length:=h7.ok.len _ (List.getElem_mem hk)
  have hdk:=h7.dep k BY
  obtain ⟨f,hf⟩: ∃f,3001-k=f+1:=⟨3000-k,by omega⟩
  have XJ: ∀L' D' ok,Et p.2.2.1 L0[k] D0[k] ls L0 D0=(L',D',ok)->Fm p.2.2.1 s=if ok=true then Gl p.2.2.1 ls f (k+1) L' D' else (L',D',false):=by
   intro L' D' ok he
   rw [<-h9,hf,Gl,if_pos hk,Ow hk,List.getD_eq_getElem?_getD,List.getElem?_eq_getElem BY]
   simp only [Option.getD_some]
   rw [he]
   cases ok<;>rfl
  refine Cb.mk (λv=>v.2.1=p.1/\v.2.2.1=p.2.1/\v.2.2.2.1=p.2.2.1/\v.2.2.2.2.2.1=false/\ ∃i:Nat,v.1=i/\i<=ls.length/\Pz p s.length v.2.2.2.2.2.2.2.2.2.1 v.2.2.2.2.2.2.2.2.2.2.1/\
    v.2.2.2.2.2.2.2.2.2.2.2.1=Sq v.2.2.2.2.2.2.2.2.2.1/\(∃A,v.2.2.2.2.2.2.2.2.2.1=L0++A)/\(∃A,v.2.2.2.2.2.2.2.2.2.2.1=D0++A)/\
    Et p.2.2.1 L0[k] D0[k] (ls.drop i) v.2.2.2.2.2.2.2.2.2.1 v.2.2.2.2.2.2.2.2.2.2.1=Et p.2.2.1 L0[k] D0[k] ls L0 D0) (λv=>ls.length-v.1.toNat)
   ⟨rfl,rfl,rfl,rfl,0,rfl,Nat.zero_le _,h7,rfl,⟨[],by simp⟩,⟨[],by simp⟩,rfl⟩ ?_
  rintro ⟨i',m1,m2,m3,b1,wh1,y1,y2,y3,L,D,S,⟨⟩⟩ ⟨g1,g2,g3,g4,i,g5,g6,g7,g8,⟨A,g9⟩,⟨A',g10⟩,FK⟩
  dsimp only at g1 g2 g3 g4 g5 g6 g7 g8 g9 g10 FK
  subst g1 g2 g3 g4 g5 g8
  dsimp only
  have hLf:=g7.ok.ec
  have PF:=g7.len
  rw [Bj L,Bj D,Bj (Sq L)]
  refine Br.dec (λhli=>?_) λhli=>?_
  ·have hi:i<ls.length:=by omega
   have PV:k<L.length:=by rw [g9,List.length_append];omega
   have hLk:L[k]=L0[k]:=by simp only [g9];exact List.getElem_append_left hk
   have SG:k<D.length:=by rw [PF];exact PV
   have hDk:D[k]=D0[k]:=by simp only [g10];exact List.getElem_append_left BY
   have xU:=jc _ (List.getElem_mem hi)
   obtain ⟨nl,nr⟩:=lG hV hx xU
   rw [List.drop_eq_getElem_cons hi] at FK
   simp only [Et] at FK
   refine ⟨⟨by omega,by omega⟩,L0[k],by rw [Int.toNat_natCast,Nat.zero_add,List.getElem?_eq_getElem PV,hLk],_,Ax hi,_,if_pos ⟨hv,by show L0[k].length<=20;omega,hx,xU⟩,?_⟩
   dsimp only
   have hyl:(Aa L0[k] (Ag p.2.2.1 ls[i])).length=s.length:=by rw [nl,ND]
   refine ⟨_,if_pos (by show Ct (Aa L0[k] (Ag p.2.2.1 ls[i])).length L (Sq L);rw [hyl];exact g7.ok),Br.dec (λOz=>?_) λOz=>?_⟩
   ·have Oz:Aa L0[k] (Ag p.2.2.1 ls[i])∈L:=qg.1 Oz
    rw [if_pos Oz] at FK
    rw [Ap (by omega)]
    exact ⟨rfl,rfl,rfl,rfl,rfl,rfl,rfl,rfl,rfl,rfl,rfl,rfl,⟨rfl,rfl,rfl,rfl,i+1,rfl,hi,g7,rfl,⟨A,g9⟩,⟨A',g10⟩,FK⟩,by omega⟩
   ·have Oz:Aa L0[k] (Ag p.2.2.1 ls[i])∉L:= λhh=>Oz (qg.2 hh)
    rw [if_neg Oz] at FK
    refine ⟨λej=>?_,λej=>⟨⟨by omega,by omega⟩,D0[k],by rw [Int.toNat_natCast,Nat.zero_add,List.getElem?_eq_getElem SG,hDk],rfl,rfl,rfl,rfl,rfl,rfl,?_⟩⟩
    ·have ej:L.length=3000:=by
      have:(L.length:Int)=3000:=by simpa using ej
      omega
     rw [if_pos ej] at FK
     have:=XJ _ _ _ FK.symm
     rw [if_neg (by decide)] at this
     unfold Bg
     rw [this]
    ·have ej:L.length≠3000:=by
      have:(L.length:Int)≠3000:=by simpa using ej
      omega
     rw [if_neg ej] at FK
     rw [Bk (n:=D0[k]+1) (by omega) (by omega)]
     refine ⟨_,if_pos ⟨by show Ct (Aa L0[k] (Ag p.2.2.1 ls[i])).length L (Sq L);rw [hyl];exact g7.ok,by show D.length<=3000;omega⟩,?_⟩
     dsimp only
     rw [Ap (by omega),<-aJ]
     refine ⟨rfl,rfl,rfl,rfl,rfl,rfl,rfl,rfl,rfl,rfl,rfl,rfl,⟨rfl,rfl,rfl,rfl,i+1,rfl,hi,g7.add Oz hyl (by omega) nr ⟨by omega,by omega⟩,rfl,⟨A++ [Aa L0[k] (Ag p.2.2.1 ls[i])],by rw [g9,List.append_assoc]⟩,⟨A'++ [D0[k]+1],by rw [g10,List.append_assoc]⟩,FK⟩,by omega⟩
  ·have:i=ls.length:=by omega
   subst this
   rw [List.drop_length,Et] at FK
   have:=XJ _ _ _ FK.symm
   rw [if_pos rfl] at this
   rw [Ap (by omega)]
   refine ⟨rfl,rfl,rfl,rfl,rfl,rfl,rfl,rfl,rfl,rfl,rfl,rfl,⟨rfl,rfl,rfl,rfl,k+1,rfl,by rw [g9,List.length_append];omega,g7,rfl,?_⟩,by omega⟩
   rw [show 3001-(k+1)=f by omega]
   exact this.symm
 ·have hk:k=L0.length:=by omega
  rw [Bj L0,Bj D0,Bj (Sq L0)]
  obtain ⟨f,hf⟩: ∃f,3001-k=f+1:=⟨3000-k,by omega⟩
  rw [hf,Gl,if_neg (by omega)] at h9
  unfold Bg
  rw [<-h9]
theorem wB:Sound Try.prog 112 Dm:=
 Sound.Dp UN (Ah cV (Fg zd (Ah bo (Ah iw (Ah Tw At))))) mixed Try.func112 (by kernel_rfl) (by kernel_rfl) λx h=>NT x.1 x.2.1 h
end Go.Proofs.Ytjbdmibbbpdnnaa

namespace Go.Proofs.Ytjbdmibbbpdnnaa
open Go.RowKit
theorem gq {p:PP} (hV:Valid p) {m:Nat} {x:List Int} {d:Int} (hx: ∀y∈x,0<=y/\y<p.1) (ND:x.length=m): ∀(ls:List Int) (L:List (List Int)) (D:List Int),(∀l∈ls,Fa (List.length p.2.2.1) l)->
  Pz p m L D->(0<=d/\d<L.length)->Pz p m (Et p.2.2.1 x d ls L D).1 (Et p.2.2.1 x d ls L D).2.1/\(∃A,(Et p.2.2.1 x d ls L D).1=L++A)/\(∃A,(Et p.2.2.1 x d ls L D).2.1=D++A)
 | [],L,D,_,h,_=>⟨h,⟨[],by simp [Et]⟩,⟨[],by simp [Et]⟩⟩
 |l::ls,L,D,hl,h,hd=>by
  obtain ⟨n1,n2⟩:=lG hV hx (hl l (by simp))
  have Hd: ∀l∈ls,Fa (List.length p.2.2.1) l:= λl' h'=>hl l' (List.mem_cons_of_mem _ h')
  simp only [Et]
  split
  ·exact gq hV hx ND ls L D Hd h hd
  ·rename_i hn
   split
   ·exact ⟨h,⟨[],by simp⟩,⟨[],by simp⟩⟩
   ·rename_i hf
    have uR:=h.ok.ec
    obtain ⟨k1,⟨A,k2⟩,⟨A',k3⟩⟩:=gq hV hx ND ls (L++ [Aa x (Ag p.2.2.1 l)]) (D++ [d+1]) Hd (h.add hn (by rw [n1,ND]) (by omega) n2 ⟨by omega,by omega⟩) ⟨hd.1,by rw [List.length_append];omega⟩
    exact ⟨k1,⟨_::A,by rw [k2,List.append_assoc];rfl⟩,⟨_::A',by rw [k3,List.append_assoc];rfl⟩⟩
theorem ud {p:PP} (hV:Valid p) {m:Nat} {ls:List Int} (hl: ∀l∈ls,Fa (List.length p.2.2.1) l): ∀(f k:Nat) (L:List (List Int)) (D:List Int),Pz p m L D->
  Pz p m (Gl p.2.2.1 ls f k L D).1 (Gl p.2.2.1 ls f k L D).2.1/\(∃A,(Gl p.2.2.1 ls f k L D).1=L++A)
 |0,k,L,D,h=>⟨h,⟨[],by simp [Gl]⟩⟩
 |f+1,k,L,D,h=>by
  simp only [Gl]
  split
  ·rename_i hk
   have BY:k<D.length:=by rw [h.len];exact hk
   have hd:=h.dep k BY
   have e:D.getD k 0=D[k]:=by rw [List.getD_eq_getElem?_getD,List.getElem?_eq_getElem BY];rfl
   rw [Ow hk,e]
   obtain ⟨k1,⟨A,k2⟩,_⟩:=gq hV (h.row _ (List.getElem_mem hk)) (h.ok.len _ (List.getElem_mem hk)) (d:=D[k]) ls L D hl h ⟨by omega,by omega⟩
   split
   ·rename_i L' D' he
    rw [he] at k1 k2
    obtain ⟨g1,⟨B,g2⟩⟩:=ud hV hl f (k+1) L' D' k1
    have k2:L'=L++A:=k2
    exact ⟨g1,⟨A++B,by rw [g2,k2,List.append_assoc]⟩⟩
   ·rename_i L' D' he
    rw [he] at k1 k2
    exact ⟨k1,⟨A,k2⟩⟩
  ·exact ⟨h,⟨[],by simp⟩⟩
theorem GG {p:PP} {s:List Int} (hv:Bh p=true) (hs:s.length<=20) (hr: ∀y∈s,0<=y/\y<p.1):Pz p s.length (Fm p.2.2.1 s).1 (Fm p.2.2.1 s).2.1/\ ∃A,(Fm p.2.2.1 s).1=s::A:=
 ud (valid hv) (λ_ hl=>He hl) _ _ _ _ (dr hs hr)
def xl (m:ByteArray->Option Bool) (L:List (List Int)):Prop:= ∀q,Qa q->(m (Mg q)).getD false=decide (q∈L)
theorem xl.add {m:ByteArray->Option Bool} {L:List (List Int)} {y:List Int} (h:xl m L) (hy:Qa y):xl (aQ m (Mg y) true) (L++ [y]):=by
 intro q hq
 unfold aQ
 by_cases e:q=y
 ·subst e
  rw [if_pos rfl];simp
 ·rw [if_neg λhk=>e (key_inj hq hy hk),h q hq]
  simp [e]
end Go.Proofs.Ytjbdmibbbpdnnaa
