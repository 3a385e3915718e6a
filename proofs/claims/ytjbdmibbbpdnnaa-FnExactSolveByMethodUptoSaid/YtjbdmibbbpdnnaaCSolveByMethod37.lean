/-
  Part 38 of the proof that the statement FnExactSolveByMethod holds.
-/
import Derived.Test.YtjbdmibbbpdnnaaCSolveByMethod36
import Derived.KernelRfl
namespace Go.Proofs.Ytjbdmibbbpdnnaa
open Go.RowKit
def Hl (x a b:Int):Bool:=decide (a<=x/\x<=b)
def ee (n x:Int):Bool:=decide (0<=x/\x<=IntKind.i64.wrap (n-1))
def Ip (a b:List Int):Bool:=decide (a=b)
def Bm (xs:List Int) (x:Int):Bool:=decide (x∈xs)
def short (xs:List Int):Prop:=xs.length<=4294967296
noncomputable abbrev Bh:Spec:=Cz (.pair tI (.pair tI (.pair tI .unit))) .bool false true (λ_=>True) (λx=>Hl x.1 x.2.1 x.2.2.1)
noncomputable abbrev Un:Spec:=Cz (.pair tI (.pair tI .unit)) .bool false true (λ_=>True) (λx=>ee x.1 x.2.1)
noncomputable abbrev Eh:Spec:=Cz (.pair tL (.pair tL .unit)) .bool false true (λx=>short x.1) (λx=>Ip x.1 x.2.1)
noncomputable abbrev Da:Spec:=Cz (.pair tL (.pair tI .unit)) .bool false true (λx=>short x.1) (λx=>Bm x.1 x.2.1)
theorem HY (x a b:Int) (P:Bool->Prop):(Br (decide (x>=a)) (P (decide (x<=b))) (P false))=fnW Cr (look []) Bh Try.f93 (x,a,b,()) P:=by kernel_rfl
theorem OF (x a b:Int) (P:Bool->Prop):(Br (decide (x>=a)) (P (decide (x<=b))) (P false))=fnW Cr (look []) Bh Try.f97 (x,a,b,()) P:=by kernel_rfl
theorem IA (n x:Int) (P:Bool->Prop):(∃(y3:Bool),Bh.fn (x,0,IntKind.i64.wrap (n-1),())=some y3/\P y3)=fnW Cr (look [(97,Bh)]) Un Try.f116 (n,x,()) P:=by kernel_rfl
theorem xW (a b:List Int) (P:Bool->Prop):(Br ((↑a.length:Int) !=(↑b.length:Int)) (P false) (Bk (λ(v3:Int×PUnit) (k4:Int×PUnit->Prop)=>Br (decide (v3.1<(↑a.length:Int))) (∃(y5:Int),idx a v3.1=some y5/\ ∃(y6:Int),idx b v3.1=some y6/\Br (y5 !=y6) (P false) (k4 (IntKind.i64.wrap (v3.1+1),()))) (P true)) (0,PUnit.unit)))=fnW Cr (look []) Eh Try.f105 (a,b,()) P:=by kernel_rfl
theorem qt (xs:List Int) (x:Int) (P:Bool->Prop):(Bk (λ(v3:Int×PUnit) (k4:Int×PUnit->Prop)=>Br (decide (v3.1<(↑xs.length:Int))) (∃(y5:Int),idx xs v3.1=some y5/\Br (y5==x) (P true) (k4 (IntKind.i64.wrap (v3.1+1),()))) (P false)) (0,PUnit.unit))=fnW Cr (look []) Da Try.f153 (xs,x,()) P:=by kernel_rfl
theorem FY (x a b:Int) (_:True):fnW Cr (look []) Bh Try.f93 (x,a,b,()) (λ(z:Bool)=>z=Hl x a b):=by
 refine Eq.mp (HY x a b _) ?_
 refine Br.dec (λh=>?_) λh=>?_
 ·have h:a<=x:=h
  simp [Hl,h]
 ·exact (decide_eq_false λhh=>h hh.1).symm
theorem Rw:Sound Try.prog 93 Bh:=
 Sound.Cz Bo Ap mixed Try.func93 (by kernel_rfl) (by kernel_rfl) λx h=>FY x.1 x.2.1 x.2.2.1 h
theorem MK (x a b:Int) (_:True):fnW Cr (look []) Bh Try.f97 (x,a,b,()) (λ(z:Bool)=>z=Hl x a b):=by
 refine Eq.mp (OF x a b _) ?_
 refine Br.dec (λh=>?_) λh=>?_
 ·have h:a<=x:=h
  simp [Hl,h]
 ·exact (decide_eq_false λhh=>h hh.1).symm
theorem Mh:Sound Try.prog 97 Bh:=
 Sound.Cz Bo Ap mixed Try.func97 (by kernel_rfl) (by kernel_rfl) λx h=>MK x.1 x.2.1 x.2.2.1 h
theorem GA (n x:Int) (_:True):fnW Cr (look [(97,Bh)]) Un Try.f116 (n,x,()) (λ(z:Bool)=>z=ee n x):=
 Eq.mp (IA n x _) ⟨_,if_pos trivial,rfl⟩
theorem qg:Sound Try.prog 116 Un:=
 Sound.Cz Bo (Ah Mh Ap) mixed Try.func116 (by kernel_rfl) (by kernel_rfl) λx h=>GA x.1 x.2.1 h
theorem pQ (xs:List Int) (x:Int) (h:short xs):fnW Cr (look []) Da Try.f153 (xs,x,()) (λ(z:Bool)=>z=Bm xs x):=by
 refine Eq.mp (qt xs x _) ?_
 unfold short at h
 refine Aj xs.length (λv=>v.1) (λj _=>x∉xs.take j) rfl (by simp) ?_
 rintro j ⟨i,⟨⟩⟩ K hj hi hR hK
 dsimp only at hi⊢
 subst hi
 refine Br.dec (λhl=>?_) λhl=>?_
 ·have hl:j<xs.length:=by omega
  refine ⟨_,Aq hl,⟨λhe=>?_,λhe=>?_⟩⟩
  ·have hm:=List.getElem_mem hl
   simp only [beq_iff_eq] at he
   rw [he] at hm
   exact (decide_eq_true hm).symm
  ·rw [Al (by omega)]
   refine hK hl _ rfl ?_
   simp only [beq_eq_false_iff_ne,ne_eq] at he
   rw [List.take_succ_eq_append_getElem hl]
   simp only [List.mem_append,List.mem_singleton,not_or]
   exact ⟨hR,λhx=>he hx.symm⟩
 ·have:j=xs.length:=by omega
  subst this
  rw [List.take_length] at hR
  exact (decide_eq_false hR).symm
theorem Xf:Sound Try.prog 153 Da:=
 Sound.Cz Bo Ap mixed Try.func153 (by kernel_rfl) (by kernel_rfl) λx h=>pQ x.1 x.2.1 h
theorem BW (a b:List Int) (hlen:a.length=b.length) (h:short a):
  Bk (λ(v3:Int×PUnit) (k4:Int×PUnit->Prop)=>
   Br (decide (v3.1<(↑a.length:Int))) (∃(y5:Int),idx a v3.1=some y5/\ ∃(y6:Int),idx b v3.1=some y6/\Br (y5 !=y6) (false=Ip a b) (k4 (IntKind.i64.wrap (v3.1+1),())))
    (true=Ip a b))
  (0,PUnit.unit):=by
 unfold short at h
 refine Aj a.length (λv=>v.1) (λj _=>a.take j=b.take j) rfl (by simp) ?_
 rintro j ⟨i,⟨⟩⟩ K hj hi hR hK
 dsimp only at hi⊢
 subst hi
 refine Br.dec (λhl=>?_) λhl=>?_
 ·have wo:j<a.length:=by omega
  have IP:j<b.length:=by omega
  refine ⟨_,Aq wo,_,Aq IP,⟨λhe=>?_,λhe=>?_⟩⟩
  ·simp only [bne_iff_ne,ne_eq] at he
   refine (decide_eq_false λpv=>he ?_).symm
   subst pv
   rfl
  ·rw [Al (by omega)]
   refine hK wo _ rfl ?_
   simp only [bne_eq_false_iff_eq] at he
   rw [List.take_succ_eq_append_getElem wo,List.take_succ_eq_append_getElem IP,hR,he]
 ·have px:j=a.length:=by omega
  subst px
  rw [List.take_length,hlen,List.take_length] at hR
  exact (decide_eq_true hR).symm
theorem xd (a b:List Int) (h:short a):fnW Cr (look []) Eh Try.f105 (a,b,()) (λ(z:Bool)=>z=Ip a b):=by
 refine Eq.mp (xW a b _) ⟨λhl=>?_,λhl=>?_⟩
 ·simp only [bne_iff_ne,ne_eq,Int.natCast_inj] at hl
  exact (decide_eq_false λpv=>hl (by rw [pv])).symm
 ·simp only [bne_eq_false_iff_eq,Int.natCast_inj] at hl
  exact BW a b hl h
theorem lO:Sound Try.prog 105 Eh:=
 Sound.Cz Bo Ap mixed Try.func105 (by kernel_rfl) (by kernel_rfl) λx h=>xd x.1 x.2.1 h
end Go.Proofs.Ytjbdmibbbpdnnaa

namespace Go.Proofs.Ytjbdmibbbpdnnaa
open Go.RowKit
def Cd (xs:List (List Int)):Prop:=xs.length<=4294967296/\ ∀r∈xs,short r
def roomy (room:Int):Prop:=0<=room/\room<=4294967296
def jN (n:Nat) (room:Int):Int:=if room-n<0 then-1 else room-n
def iJ (xs:List Int) (room:Int):Int:=jN xs.length room
def oQ:List (List Int)->Int->Int
 | [],room=>room
 |r::rs,room=>if iJ r room<0 then-1 else oQ rs (iJ r room)
def Jt (xs:List (List Int)) (room:Int):Int:=if jN xs.length room<0 then-1 else oQ xs (jN xs.length room)
def gn (a b:List (List Int)):Bool:=decide (a=b)
noncomputable abbrev rV:Spec:=Cz (.pair tL (.pair tI .unit)) tI false true (λx=>short x.1/\roomy x.2.1) (λx=>iJ x.1 x.2.1)
noncomputable abbrev aT:Spec:=Cz (.pair bL (.pair tI .unit)) tI false true (λx=>Cd x.1/\roomy x.2.1) (λx=>Jt x.1 x.2.1)
noncomputable abbrev lj:Spec:=Cz (.pair tL .unit) tL false true (λx=>short x.1) (λx=>x.1)
noncomputable abbrev dv:Spec:=Cz (.pair bL .unit) bL false true (λx=>Cd x.1) (λx=>x.1)
noncomputable abbrev Ta:Spec:=Cz (.pair bL (.pair bL .unit)) .bool false true (λx=>Cd x.1) (λx=>gn x.1 x.2.1)
theorem Adw (xs:List Int) (room:Int) (P:Int->Prop):(Br (decide (IntKind.i64.wrap (room-(↑xs.length:Int))<0)) (P (-1)) (P (IntKind.i64.wrap (room-(↑xs.length:Int)))))=fnW Cr (look []) rV Try.f74 (xs,room,()) P:=by kernel_rfl
theorem ZI (xs:List (List Int)) (room:Int) (P:Int->Prop):(Br (decide (IntKind.i64.wrap (room-(↑xs.length:Int))<0)) (P (-1)) (Bk (λ(v3:Int×Int×PUnit) (k4:Int×Int×PUnit->Prop)=>Br (decide (v3.2.1<(↑xs.length:Int))) (∃(y5:List Int),idx xs v3.2.1=some y5/\ ∃(y6:Int),rV.fn (y5,v3.1,())=some y6/\Br (decide (y6<0)) (P (-1)) (k4 (y6,IntKind.i64.wrap (v3.2.1+1),()))) (P v3.1)) (IntKind.i64.wrap (room-(↑xs.length:Int)),0,PUnit.unit)))=fnW Cr (look [(74,rV)]) aT Try.f34 (xs,room,()) P:=by kernel_rfl
theorem Ady (xs:List Int) (P:List Int->Prop):((0<=(↑xs.length:Int)/\(↑xs.length:Int)<(↑Bp:Int)+1)/\(↑xs.length:Int)=(↑xs.length:Int)/\0=0/\(List.replicate (↑xs.length:Int).toNat (Int.ofNat 0)).length=(List.replicate (↑xs.length:Int).toNat (Int.ofNat 0)).length/\Bk (λ(v2:Int×List Int×PUnit) (k3:Int×List Int×PUnit->Prop)=>Br (decide (v2.1<(↑xs.length:Int))) (∃(y4:Int),idx xs v2.1=some y4/\(0<=v2.1/\v2.1<(↑v2.2.1.length:Int))/\0+v2.1.toNat<v2.2.1.length/\0=0/\v2.2.1.length=(v2.2.1.set (0+v2.1.toNat) y4).length/\k3 (IntKind.i64.wrap (v2.1+1),v2.2.1.set (0+v2.1.toNat) y4,())) (P (List.take v2.2.1.length (List.drop 0 v2.2.1)))) (0,List.replicate (↑xs.length:Int).toNat (Int.ofNat 0),PUnit.unit))=fnW Cr (look []) lj Try.f17 (xs,()) P:=by kernel_rfl
theorem ZJ (xs:List (List Int)) (P:List (List Int)->Prop):((0<=(↑xs.length:Int)/\(↑xs.length:Int)<(↑Bp:Int)+1)/\(↑xs.length:Int)=(↑xs.length:Int)/\0=0/\(List.replicate (↑xs.length:Int).toNat ([]:List Int)).length=(List.replicate (↑xs.length:Int).toNat ([]:List Int)).length/\Bk (λ(v2:Int×List (List Int)×PUnit) (k3:Int×List (List Int)×PUnit->Prop)=>Br (decide (v2.1<(↑xs.length:Int))) (∃(y4:List Int),idx xs v2.1=some y4/\ ∃(y5:List Int),lj.fn (y4,())=some y5/\(0<=v2.1/\v2.1<(↑v2.2.1.length:Int))/\0+v2.1.toNat<v2.2.1.length/\0=0/\v2.2.1.length=(v2.2.1.set (0+v2.1.toNat) y5).length/\k3 (IntKind.i64.wrap (v2.1+1),v2.2.1.set (0+v2.1.toNat) y5,())) (P (List.take v2.2.1.length (List.drop 0 v2.2.1)))) (0,List.replicate (↑xs.length:Int).toNat ([]:List Int),PUnit.unit))=fnW Cr (look [(17,lj)]) dv Try.f36 (xs,()) P:=by kernel_rfl
theorem Adp (a b:List Int) (P:Bool->Prop):(Br ((↑a.length:Int) !=(↑b.length:Int)) (P false) (Bk (λ(v3:Int×PUnit) (k4:Int×PUnit->Prop)=>Br (decide (v3.1<(↑a.length:Int))) (∃(y5:Int),idx a v3.1=some y5/\ ∃(y6:Int),idx b v3.1=some y6/\Br (y5 !=y6) (P false) (k4 (IntKind.i64.wrap (v3.1+1),()))) (P true)) (0,PUnit.unit)))=fnW Cr (look []) Eh Try.f20 (a,b,()) P:=by kernel_rfl
theorem YZ (a b:List (List Int)) (P:Bool->Prop):(Br ((↑a.length:Int) !=(↑b.length:Int)) (P false) (Bk (λ(v3:Int×PUnit) (k4:Int×PUnit->Prop)=>Br (decide (v3.1<(↑a.length:Int))) (∃(y5:List Int),idx a v3.1=some y5/\ ∃(y6:List Int),idx b v3.1=some y6/\ ∃(y7:Bool),Eh.fn (y5,y6,())=some y7/\Br (!y7) (P false) (k4 (IntKind.i64.wrap (v3.1+1),()))) (P true)) (0,PUnit.unit)))=fnW Cr (look [(20,Eh)]) Ta Try.f38 (a,b,()) P:=by kernel_rfl
theorem jO {n:Nat} {room:Int} (h:roomy room) (h2: ¬jN n room<0):roomy (jN n room):=by
 unfold jN roomy at*
 split at h2<;>simp_all
 omega
theorem Ad6 (xs:List Int) (room:Int) (h:short xs/\roomy room):fnW Cr (look []) rV Try.f74 (xs,room,()) (λ(z:Int)=>z=iJ xs room):=by
 obtain ⟨h1,h2,h3⟩:=h
 unfold short at h1
 refine Eq.mp (Adw xs room _) ?_
 rw [Bu (by omega) (by omega)]
 refine Br.dec (λh=>?_) λh=>?_
 ·simp only [iJ,jN,if_pos h]
 ·simp only [iJ,jN,if_neg h]
theorem HF:Sound Try.prog 74 rV:=
 Sound.Cz Bo Ap mixed Try.func74 (by kernel_rfl) (by kernel_rfl) λx h=>Ad6 x.1 x.2.1 h
theorem YH (xs:List (List Int)) (room:Int) (h:Cd xs/\roomy room):fnW Cr (look [(74,rV)]) aT Try.f34 (xs,room,()) (λ(z:Int)=>z=Jt xs room):=by
 obtain ⟨⟨h1,h4⟩,h2,h3⟩:=h
 refine Eq.mp (ZI xs room _) ?_
 rw [Bu (by omega) (by omega)]
 refine Br.dec (λh=>?_) λh=>?_
 ·simp only [Jt,jN,if_pos h];rfl
 ·refine Aj xs.length (λv=>v.2.1) (λj v=>roomy v.1/\oQ (xs.drop j) v.1=Jt xs room) rfl ?_ ?_
  ·refine ⟨by unfold roomy;omega,?_⟩
   simp only [Jt,jN,if_neg h,List.drop_zero]
  ·rintro j ⟨r,i,⟨⟩⟩ K hj hi ⟨hr,hR⟩ hK
   dsimp only at hi hr hR⊢
   subst hi
   refine Br.dec (λhl=>?_) λhl=>?_
   ·have hl:j<xs.length:=by omega
    have hd:xs.drop j=xs[j]::xs.drop (j+1):=List.drop_eq_getElem_cons hl
    refine ⟨_,Aq hl,_,if_pos ⟨h4 _ (List.getElem_mem hl),hr⟩,?_⟩
    rw [hd] at hR
    simp only [oQ] at hR
    refine Br.dec (λhn=>?_) λhn=>?_
    ·have hn:iJ xs[j] r<0:=hn
     rw [if_pos hn] at hR
     exact hR
    ·have hn: ¬iJ xs[j] r<0:=hn
     rw [if_neg hn] at hR
     rw [Al (by omega)]
     exact hK hl _ rfl ⟨jO hr hn,hR⟩
   ·have:j=xs.length:=by omega
    subst this
    rw [List.drop_length] at hR
    exact hR
theorem oG:Sound Try.prog 34 aT:=
 Sound.Cz Bo (Ah HF Ap) mixed Try.func34 (by kernel_rfl) (by kernel_rfl) λx h=>YH x.1 x.2.1 h
theorem s7: ∀(xs:List (List Int)) (room:Int),roomy room-> ¬oQ xs room<0->roomy (oQ xs room)
 | [],room,h,_=>h
 |r::rs,room,h,h2=>by
  simp only [oQ] at h2⊢
  split
  ·rename_i hn;rw [if_pos hn] at h2;exact absurd (show (-1:Int)<0 by decide) h2
  ·rename_i hn;rw [if_neg hn] at h2;exact s7 rs _ (jO h hn) h2
theorem wO {xs:List (List Int)} {room:Int} (h:roomy room) (h2: ¬Jt xs room<0):roomy (Jt xs room):=by
 unfold Jt at*
 split
 ·rename_i hn;rw [if_pos hn] at h2;exact absurd (show (-1:Int)<0 by decide) h2
 ·rename_i hn;rw [if_neg hn] at h2;exact s7 _ _ (jO h hn) h2
theorem Kz {α:Type} {ys xs:List α} {j:Nat} (h:j<xs.length) (hl:ys.length=xs.length) (ht:ys.take j=xs.take j):(ys.set j xs[j]).take (j+1)=xs.take (j+1):=by
 have h1:j<(ys.set j xs[j]).length:=by rw [List.length_set];omega
 rw [List.take_succ_eq_append_getElem h1,List.take_succ_eq_append_getElem h,List.getElem_set_self,List.take_set_of_le (Nat.le_refl j),ht]
theorem Ad8 (xs:List Int) (h:short xs):fnW Cr (look []) lj Try.f17 (xs,()) (λ(z:List Int)=>z=xs):=by
 unfold short at h
 refine Eq.mp (Ady xs _) ?_
 refine ⟨⟨by omega,by show (xs.length:Int)<(4294967296:Int)+1;omega⟩,rfl,rfl,rfl,?_⟩
 refine Aj xs.length (λv=>v.1) (λj v=>v.2.1.length=xs.length/\v.2.1.take j=xs.take j) rfl ⟨by simp,by simp⟩ ?_
 rintro j ⟨i,ys,⟨⟩⟩ K hj hi ⟨h1,h2⟩ hK
 dsimp only at hi h1 h2⊢
 subst hi
 refine Br.dec (λhl=>?_) λhl=>?_
 ·have hl:j<xs.length:=by omega
  refine ⟨_,Aq hl,⟨by omega,by omega⟩,by rw [Int.toNat_natCast];omega,rfl,by rw [List.length_set],?_⟩
  rw [Al (by omega),Int.toNat_natCast,Nat.zero_add]
  exact hK hl _ rfl ⟨by rw [List.length_set];exact h1,Kz hl h1 h2⟩
 ·have:j=xs.length:=by omega
  subst this
  rw [List.take_length,<-h1,List.take_length] at h2
  rw [List.drop_zero,List.take_length]
  exact h2
theorem s6:Sound Try.prog 17 lj:=
 Sound.Cz Bo Ap mixed Try.func17 (by kernel_rfl) (by kernel_rfl) λx h=>Ad8 x.1 h
theorem YI (xs:List (List Int)) (h:Cd xs):fnW Cr (look [(17,lj)]) dv Try.f36 (xs,()) (λ(z:List (List Int))=>z=xs):=by
 obtain ⟨h,h4⟩:=h
 refine Eq.mp (ZJ xs _) ?_
 refine ⟨⟨by omega,by show (xs.length:Int)<(4294967296:Int)+1;omega⟩,rfl,rfl,rfl,?_⟩
 refine Aj xs.length (λv=>v.1) (λj v=>v.2.1.length=xs.length/\v.2.1.take j=xs.take j) rfl ⟨by simp,by simp⟩ ?_
 rintro j ⟨i,ys,⟨⟩⟩ K hj hi ⟨h1,h2⟩ hK
 dsimp only at hi h1 h2⊢
 subst hi
 refine Br.dec (λhl=>?_) λhl=>?_
 ·have hl:j<xs.length:=by omega
  refine ⟨_,Aq hl,_,if_pos (h4 _ (List.getElem_mem hl)),⟨by omega,by omega⟩,by rw [Int.toNat_natCast];omega,rfl,by rw [List.length_set],?_⟩
  rw [Al (by omega),Int.toNat_natCast,Nat.zero_add]
  exact hK hl _ rfl ⟨by rw [List.length_set];exact h1,Kz hl h1 h2⟩
 ·have:j=xs.length:=by omega
  subst this
  rw [List.take_length,<-h1,List.take_length] at h2
  rw [List.drop_zero,List.take_length]
  exact h2
theorem oH:Sound Try.prog 36 dv:=
 Sound.Cz Bo (Ah s6 Ap) mixed Try.func36 (by kernel_rfl) (by kernel_rfl) λx h=>YI x.1 h
theorem Acz (a b:List Int) (h:short a):fnW Cr (look []) Eh Try.f20 (a,b,()) (λ(z:Bool)=>z=Ip a b):=by
 refine Eq.mp (Adp a b _) ⟨λhl=>?_,λhl=>?_⟩
 ·simp only [bne_iff_ne,ne_eq,Int.natCast_inj] at hl
  exact (decide_eq_false λpv=>hl (by rw [pv])).symm
 ·simp only [bne_eq_false_iff_eq,Int.natCast_inj] at hl
  exact BW a b hl h
theorem s5:Sound Try.prog 20 Eh:=
 Sound.Cz Bo Ap mixed Try.func20 (by kernel_rfl) (by kernel_rfl) λx h=>Acz x.1 x.2.1 h
theorem XY (a b:List (List Int)) (h:Cd a):fnW Cr (look [(20,Eh)]) Ta Try.f38 (a,b,()) (λ(z:Bool)=>z=gn a b):=by
 obtain ⟨h,h4⟩:=h
 refine Eq.mp (YZ a b _) ⟨λhl=>?_,λhl=>?_⟩
 ·simp only [bne_iff_ne,ne_eq,Int.natCast_inj] at hl
  exact (decide_eq_false λpv=>hl (by rw [pv])).symm
 ·simp only [bne_eq_false_iff_eq,Int.natCast_inj] at hl
  refine Aj a.length (λv=>v.1) (λj _=>a.take j=b.take j) rfl (by simp) ?_
  rintro j ⟨i,⟨⟩⟩ K hj hi hR hK
  dsimp only at hi⊢
  subst hi
  refine Br.dec (λHr=>?_) λHr=>?_
  ·have wo:j<a.length:=by omega
   have IP:j<b.length:=by omega
   refine ⟨_,Aq wo,_,Aq IP,_,if_pos (h4 _ (List.getElem_mem wo)),⟨λhe=>?_,λhe=>?_⟩⟩
   ·refine (decide_eq_false λpv=>?_).symm
    subst pv
    simp [Ip] at he
   ·rw [Al (by omega)]
    refine hK wo _ rfl ?_
    simp only [Ip,Bool.not_eq_false',decide_eq_true_eq] at he
    rw [List.take_succ_eq_append_getElem wo,List.take_succ_eq_append_getElem IP,hR]
    exact congrArg (λx=>List.take j b++ [x]) he
  ·have px:j=a.length:=by omega
   subst px
   rw [List.take_length,hl,List.take_length] at hR
   exact (decide_eq_true hR).symm
theorem ou:Sound Try.prog 38 Ta:=
 Sound.Cz Bo (Ah s5 Ap) mixed Try.func38 (by kernel_rfl) (by kernel_rfl) λx h=>XY x.1 x.2.1 h
end Go.Proofs.Ytjbdmibbbpdnnaa

namespace Go.Proofs.Ytjbdmibbbpdnnaa
open Go.RowKit
def Rr:List Int->Int->Int->Int
 | [],_,_=> -1
 |y::r,x,i=>if y=x then i else Rr r x (i+1)
noncomputable abbrev er:Spec:=Cz (.pair tL (.pair tI .unit)) tI false true (λx=>short x.1) (λx=>Rr x.1 x.2.1 0)
def PL (n:Int) (xs:List Int) (k:Nat):Prop:= ∀j (h:j<xs.length),j<k->0<=xs[j]/\xs[j]<=n-1/\(0<j->xs[j-1]<xs[j])
def DL (n:Int) (xs:List Int) (k:Nat):Prop:= ∀j (h:j<xs.length),j<k->0<=xs[j]/\xs[j]<=n-1/\xs[j]∉xs.take j
noncomputable def dec (p:Prop):Bool:= @decide p (Classical.propDecidable p)
theorem Ii {p:Prop} (h:p):true=dec p:=(@decide_eq_true p (Classical.propDecidable p) h).symm
theorem Av {p:Prop} (h: ¬p):false=dec p:=(@decide_eq_false p (Classical.propDecidable p) h).symm
theorem Fm {p:Prop} :dec p=true↔p:= @decide_eq_true_iff p (Classical.propDecidable p)
theorem PF {p:Prop} :dec p=false↔ ¬p:= @decide_eq_false_iff_not p (Classical.propDecidable p)
def XT (n:Int):Prop:=0<=n/\n<=4294967296
noncomputable def Fg (n:Int) (xs:List Int):Bool:=dec (0<xs.length/\PL n xs xs.length)
noncomputable abbrev Fv:Spec:=Cz (.pair tI (.pair tL .unit)) .bool false true (λx=>XT x.1/\short x.2.1) (λx=>Fg x.1 x.2.1)
noncomputable abbrev Nl:Spec:=Cz (.pair bL .unit) tI false true (λ_=>True) (λx=>(List.length x.1:Int))
theorem SQ (xs:List Int) (x:Int) (P:Int->Prop):(Bk (λ(v3:Int×PUnit) (k4:Int×PUnit->Prop)=>Br (decide (v3.1<(↑xs.length:Int))) (∃(y5:Int),idx xs v3.1=some y5/\Br (x==y5) (P v3.1) (k4 (IntKind.i64.wrap (v3.1+(1:Int)),()))) (P (-1:Int))) ((0:Int),PUnit.unit))=fnW Cr (look []) er Try.f160 (xs,x,()) P:=by kernel_rfl
theorem AW (xs:List Int) (x:Int) (P:Bool->Prop):(∃(y3:Int),er.fn (xs,x,())=some y3/\P (decide (y3>=(0:Int))))=fnW Cr (look [(160,er)]) Da Try.f133 (xs,x,()) P:=by kernel_rfl
theorem qx (n:Int) (xs:List Int) (P:Bool->Prop):(∃(y3:Bool),Bh.fn ((↑xs.length:Int),(1:Int),n,())=some y3/\Br (!y3) (P false) (Bk (λ(v4:Int×PUnit) (k5:Int×PUnit->Prop)=>Br (decide (v4.1<(↑xs.length:Int))) (∃(y6:Int),idx xs v4.1=some y6/\ ∃(y7:Bool),Bh.fn (y6,(0:Int),IntKind.i64.wrap (n-(1:Int)),())=some y7/\Br (!y7) (P false) (Br (decide (v4.1>(0:Int))) (∃(y8:Int),idx xs v4.1=some y8/\ ∃(y9:Int),idx xs (IntKind.i64.wrap (v4.1-(1:Int)))=some y9/\Br (decide (y8<=y9)) (P false) (k5 (IntKind.i64.wrap (v4.1+(1:Int)),()))) (k5 (IntKind.i64.wrap (v4.1+(1:Int)),())))) (P true)) ((0:Int),PUnit.unit)))=fnW Cr (look [(93,Bh)]) Fv Try.f111 (n,xs,()) P:=by kernel_rfl
theorem xY (n:Int) (xs:List Int) (P:Bool->Prop):(Bk (λ(v3:Int×PUnit) (k4:Int×PUnit->Prop)=>Br (decide (v3.1<(↑xs.length:Int))) (∃(y5:Int),idx xs v3.1=some y5/\ ∃(y6:Bool),Un.fn (n,y5,())=some y6/\Br (!y6) (P false) (Br (decide (v3.1>(0:Int))) (∃(y7:Int),idx xs (IntKind.i64.wrap (v3.1-(1:Int)))=some y7/\Br (decide (y7>=y5)) (P false) (k4 (IntKind.i64.wrap (v3.1+(1:Int)),()))) (k4 (IntKind.i64.wrap (v3.1+(1:Int)),())))) (P (decide ((↑xs.length:Int)>(0:Int))))) ((0:Int),PUnit.unit))=fnW Cr (look [(116,Un)]) Fv Try.f66 (n,xs,()) P:=by kernel_rfl
theorem SR (xs:List (List Int)) (P:Int->Prop):(P (↑xs.length:Int))=fnW Cr (look []) Nl Try.f58 (xs,()) P:=by kernel_rfl
theorem l5: ∀(xs:List Int) (x i:Int),0<=i->(Rr xs x i<0↔x∉xs)
 | [],x,i,_=>by simp [Rr]
 |y::r,x,i,h=>by
  simp only [Rr]
  split
  ·rename_i hy;subst hy;simp;omega
  ·rename_i hy
   rw [l5 r x (i+1) (by omega)]
   simp only [List.mem_cons,not_or]
   exact ⟨λh=>⟨λe=>hy e.symm,h⟩,λh=>h.2⟩
theorem RN (xs:List Int) (x:Int) (h:short xs):fnW Cr (look []) er Try.f160 (xs,x,()) (λ(z:Int)=>z=Rr xs x 0):=by
 unfold short at h
 refine Eq.mp (SQ xs x _) ?_
 refine Aj xs.length (λv=>v.1) (λj _=>Rr (xs.drop j) x j=Rr xs x 0) rfl (by simp) ?_
 rintro j ⟨i,⟨⟩⟩ K hj hi hR hK
 dsimp only at hi⊢
 subst hi
 refine Br.dec (λhl=>?_) λhl=>?_
 ·have hl:j<xs.length:=by omega
  rw [List.drop_eq_getElem_cons hl] at hR
  simp only [Rr] at hR
  refine ⟨_,Aq hl,⟨λhe=>?_,λhe=>?_⟩⟩
  ·simp only [beq_iff_eq] at he
   rw [if_pos he.symm] at hR
   exact hR
  ·simp only [beq_eq_false_iff_ne,ne_eq] at he
   rw [if_neg (λe=>he e.symm)] at hR
   rw [Al (by omega)]
   exact hK hl _ rfl (by push_cast;exact hR)
 ·have:j=xs.length:=by omega
  subst this
  rw [List.drop_length] at hR
  exact hR
theorem xF:Sound Try.prog 160 er:=
 Sound.Cz Bo Ap mixed Try.func160 (by kernel_rfl) (by kernel_rfl) λx h=>RN x.1 x.2.1 h
theorem zF (xs:List Int) (x:Int) (h:short xs):fnW Cr (look [(160,er)]) Da Try.f133 (xs,x,()) (λ(z:Bool)=>z=Bm xs x):=by
 refine Eq.mp (AW xs x _) ⟨_,if_pos h,?_⟩
 have:=l5 xs x 0 (Int.le_refl 0)
 show decide (Rr xs x 0>=0)=decide (x∈xs)
 by_cases hx:x∈xs
 ·rw [decide_eq_true hx]
  exact decide_eq_true (by have:=mt this.1 (λh=>h hx);omega)
 ·rw [decide_eq_false hx]
  exact decide_eq_false (by have:=this.2 hx;omega)
theorem oq:Sound Try.prog 133 Da:=
 Sound.Cz Bo (Ah xF Ap) mixed Try.func133 (by kernel_rfl) (by kernel_rfl) λx h=>zF x.1 x.2.1 h
theorem RO (xs:List (List Int)) (_:True):fnW Cr (look []) Nl Try.f58 (xs,()) (λ(z:Int)=>z=(xs.length:Int)):=Eq.mp (SR xs _) rfl
theorem dy:Sound Try.prog 58 Nl:=
 Sound.Cz Bo Ap mixed Try.func58 (by kernel_rfl) (by kernel_rfl) λx h=>RO x.1 h
theorem l6 {n x:Int} (hn:XT n):ee n x=true↔0<=x/\x<=n-1:=by
 unfold ee XT at*
 rw [Bu (by omega) (by omega),decide_eq_true_iff]
theorem Cb {x a b:Int} :Hl x a b=true↔a<=x/\x<=b:=decide_eq_true_iff
theorem Ch {b:Bool} (h:(!b)=true): ¬b=true:=by cases b<;>simp_all
theorem Df {b:Bool} (h:(!b)=false):b=true:=by cases b<;>simp_all
theorem zP {n:Int} {xs:List Int} (h:PL n xs xs.length): ∀j (hj:j<xs.length),(j:Int)<=xs[j]
 |0,hj=>(h 0 hj hj).1
 |j+1,hj=>by
  have h1:=zP h j (by omega)
  have h2:=(h (j+1) hj hj).2.2 (by omega)
  simp only [Nat.add_sub_cancel] at h2
  omega
theorem mf {n:Int} {xs:List Int} {j:Nat} (hl:j<xs.length) (h:PL n xs j) (h1:0<=xs[j]) (h2:xs[j]<=n-1) (h3:0<j->xs[j-1]<xs[j]):PL n xs (j+1):=by
 intro i hi jF
 by_cases e:i=j
 ·subst e;exact ⟨h1,h2,h3⟩
 ·exact h i hi (by omega)
theorem xf (n:Int) (xs:List Int) (h:XT n/\short xs):fnW Cr (look [(116,Un)]) Fv Try.f66 (n,xs,()) (λ(z:Bool)=>z=Fg n xs):=by
 obtain ⟨hn,h⟩:=h
 unfold short at h
 refine Eq.mp (xY n xs _) ?_
 refine Aj xs.length (λv=>v.1) (λj _=>PL n xs j) rfl (λj _ hj=>absurd hj (Nat.not_lt_zero _)) ?_
 rintro j ⟨i,⟨⟩⟩ K hj hi hR hK
 dsimp only at hi⊢
 subst hi
 refine Br.dec (λhl=>?_) λhl=>?_
 ·have hl:j<xs.length:=by omega
  refine ⟨_,Aq hl,_,if_pos trivial,⟨λhp=>?_,λhp=>?_⟩⟩
  ·have hp:=Ch hp
   rw [l6 hn] at hp
   exact Av λhh=>hp ⟨(hh.2 j hl hl).1,(hh.2 j hl hl).2.1⟩
  ·have hp:=Df hp
   rw [l6 hn] at hp
   refine Br.dec (λh0=>?_) λh0=>?_
   ·have h0:0<j:=by omega
    rw [Bu (by omega) (by omega),show (j:Int)-1=((j-1:Nat):Int) by omega]
    refine ⟨_,Aq (by omega),Br.dec (λhg=>?_) λhg=>?_⟩
    ·exact Av λhh=>by have:=(hh.2 j hl hl).2.2 h0;omega
    ·rw [Al (by omega)]
     exact hK hl _ rfl (mf hl hR hp.1 hp.2 λ_=>by omega)
   ·have h0:j=0:=by omega
    rw [Al (by omega)]
    exact hK hl _ rfl (mf hl hR hp.1 hp.2 λh=>by omega)
 ·have:j=xs.length:=by omega
  subst this
  by_cases h0:0<xs.length
  ·rw [decide_eq_true (show (xs.length:Int)>0 by omega)];exact Ii ⟨h0,hR⟩
  ·rw [decide_eq_false (show ¬(xs.length:Int)>0 by omega)];exact Av λhh=>h0 hh.1
theorem lQ:Sound Try.prog 66 Fv:=
 Sound.Cz Bo (Ah qg Ap) mixed Try.func66 (by kernel_rfl) (by kernel_rfl) λx h=>xf x.1 x.2.1 h
theorem pT (n:Int) (xs:List Int) (h:XT n/\short xs):fnW Cr (look [(93,Bh)]) Fv Try.f111 (n,xs,()) (λ(z:Bool)=>z=Fg n xs):=by
 obtain ⟨hn,h⟩:=h
 unfold short at h
 refine Eq.mp (qx n xs _) ⟨_,if_pos trivial,⟨λhp=>?_,λhp=>?_⟩⟩
 ·have hp:=Ch hp
  rw [Cb] at hp
  dsimp only at hp
  refine Av λhh=>hp ⟨by omega,?_⟩
  have:=zP hh.2 (xs.length-1) (by omega)
  have:=(hh.2 (xs.length-1) (by omega) (by omega)).2.1
  omega
 ·have hp:=Df hp
  rw [Cb] at hp
  dsimp only at hp
  refine Aj xs.length (λv=>v.1) (λj _=>PL n xs j) rfl (λj _ hj=>absurd hj (Nat.not_lt_zero _)) ?_
  rintro j ⟨i,⟨⟩⟩ K hj hi hR hK
  dsimp only at hi⊢
  subst hi
  refine Br.dec (λhl=>?_) λhl=>?_
  ·have hl:j<xs.length:=by omega
   refine ⟨_,Aq hl,_,if_pos trivial,⟨λhq=>?_,λhq=>?_⟩⟩
   ·have hq:=Ch hq
    unfold XT at hn
    rw [Cb,Bu (by omega) (by omega)] at hq
    exact Av λhh=>hq ⟨(hh.2 j hl hl).1,(hh.2 j hl hl).2.1⟩
   ·have hq:=Df hq
    unfold XT at hn
    rw [Cb,Bu (by omega) (by omega)] at hq
    refine Br.dec (λh0=>?_) λh0=>?_
    ·have h0:0<j:=by omega
     rw [Bu (by omega) (by omega),show (j:Int)-1=((j-1:Nat):Int) by omega]
     refine ⟨_,Aq hl,_,Aq (by omega),Br.dec (λhg=>?_) λhg=>?_⟩
     ·exact Av λhh=>by have:=(hh.2 j hl hl).2.2 h0;omega
     ·rw [Al (by omega)]
      exact hK hl _ rfl (mf hl hR hq.1 hq.2 λ_=>by omega)
    ·rw [Al (by omega)]
     exact hK hl _ rfl (mf hl hR hq.1 hq.2 λh=>by omega)
  ·have:j=xs.length:=by omega
   subst this
   exact Ii ⟨by omega,hR⟩
theorem iZ:Sound Try.prog 111 Fv:=
 Sound.Cz Bo (Ah Rw Ap) mixed Try.func111 (by kernel_rfl) (by kernel_rfl) λx h=>pT x.1 x.2.1 h
theorem PI {n:Int} {xs:List Int} {j:Nat} (hl:j<xs.length) (h:DL n xs j) (h1:0<=xs[j]) (h2:xs[j]<=n-1) (h3:xs[j]∉xs.take j):DL n xs (j+1):=by
 intro i hi jF
 by_cases e:i=j
 ·subst e;exact ⟨h1,h2,h3⟩
 ·exact h i hi (by omega)
theorem AE {xs:List Int} (h:short xs) (j:Nat):short (xs.take j):=by
 unfold short at*
 rw [List.length_take]
 omega
end Go.Proofs.Ytjbdmibbbpdnnaa

namespace Go.Proofs.Ytjbdmibbbpdnnaa
open Go.RowKit
theorem xu:roomy 1048576:=⟨by decide,by decide⟩
end Go.Proofs.Ytjbdmibbbpdnnaa

namespace Go.Proofs.Ytjbdmibbbpdnnaa
open Go.RowKit
abbrev PP:Type:=Int×ByteArray×List (List Int)×Unit
noncomputable def Gc (p:List Int):Bool:=dec (1<=p.length/\p.length<=20/\DL p.length p p.length)
noncomputable def Em (n:Int) (p:List Int):Bool:=dec ((p.length:Int)=n/\Gc p=true)
noncomputable def Sk (n:Int) (g:List (List Int)):Bool:=dec ((1<=n/\n<=20)/\g.length<=8/\ ∀p∈g,Em n p=true)
def Bx {α:Type} (P:α->Bool):List α->Int->Int
 | [],_=> -1
 |y::r,i=>if P y=true then i else Bx P r (i+1)
abbrev tG1:Ty:= .clo 177 (.pair (.ptr tI) .unit)
def sf (s:ByteArray) (i:Nat):Prop:= ∃c:UInt8,s[i]?=some c/\65<=c.toNat/\c.toNat<=90/\ ∀k,k<i->s[k]?≠some c
noncomputable def iI (s:ByteArray) (i:Int):Bool:=dec (sf s i.toNat)
noncomputable def Zf (s:ByteArray):Bool:=dec ((1<=s.size/\s.size<=8)/\ ∀j,j<s.size->sf s j)
noncomputable def Ax (p:PP):Bool:=dec (Sk p.1 p.2.2.1=true/\Zf p.2.1=true/\p.2.1.size=p.2.2.1.length)
def Dn (p:PP):Prop:=p.2.1.size<=4294967296/\Cd p.2.2.1
noncomputable abbrev Kl:Spec:=Cz (.pair tL .unit) tI false true (λ_=>True) (λx=>(List.length x.1:Int))
noncomputable abbrev Eu:Spec:=Cz (.pair tL .unit) .bool false true (λx=>short x.1) (λx=>Gc x.1)
noncomputable abbrev Kq:Spec:=Cz (.pair tI (.pair bL .unit)) .bool false true (λx=>Cd x.2.1) (λx=>Sk x.1 x.2.1)
noncomputable abbrev ek:Spec:=Cz (.pair tL (.pair (.ptr tI) .unit)) .bool false true (λx=>short x.1) (λx=>!Em x.2.1 x.1)
noncomputable abbrev rS:Spec:=Cz (.pair bL (.pair tG1 .unit)) tI false true (λx=>Cd x.1) (λx=>Bx (λp=>!Em x.2.1.1 p) x.1 0)
noncomputable abbrev rK:Spec:=Cz (.pair bL (.pair tG1 .unit)) .bool false true (λx=>Cd x.1) (λx=>List.any x.1 (λp=>!Em x.2.1.1 p))
noncomputable abbrev Zl:Spec:=Cz (.pair .str (.pair tI .unit)) .bool false true (λx=>0<=x.2.1/\x.2.1<x.1.size/\x.1.size<=4294967296) (λx=>iI x.1 x.2.1)
noncomputable abbrev Um:Spec:=Cz (.pair .str .unit) .bool false true (λx=>x.1.size<=4294967296) (λx=>Zf x.1)
noncomputable abbrev Ev:Spec:=Cz (.pair Dl .unit) .bool false true (λx=>Dn x.1) (λx=>Ax x.1)
def Ti (p:PP) (room:Int):Int:=if room-p.2.1.size<0 then-1 else if Jt p.2.2.1 (room-p.2.1.size)<0 then-1 else Jt p.2.2.1 (room-p.2.1.size)
def l4 (a b:PP):Bool:=decide (a.1=b.1)&&(decide (a.2.1=b.2.1)&&decide (a.2.2.1=b.2.2.1))
noncomputable abbrev rW:Spec:=Cz (.pair Dl (.pair tI .unit)) tI false true (λx=>Dn x.1/\roomy x.2.1) (λx=>Ti x.1 x.2.1)
noncomputable abbrev rX:Spec:=Cz (.pair Dl .unit) Dl false true (λx=>Dn x.1) (λx=>x.1)
noncomputable abbrev rQ:Spec:=Cz (.pair Dl (.pair Dl .unit)) .bool false true (λx=>Dn x.1) (λx=>l4 x.1 x.2.1)
theorem ZD (xs:List Int) (P:Int->Prop):(P (↑xs.length:Int))=fnW Cr (look []) Kl Try.f82 (xs,()) P:=by kernel_rfl
theorem uT (p:List Int) (P:Bool->Prop):(∃(y2:Bool),Bh.fn ((↑p.length:Int),(1:Int),(20:Int),())=some y2/\Br (!y2) (P false) (Bk (λ(v3:Int×PUnit) (k4:Int×PUnit->Prop)=>Br (decide (v3.1<(↑p.length:Int))) (∃(y5:Int),idx p v3.1=some y5/\ ∃(y6:Bool),Bh.fn (y5,(0:Int),IntKind.i64.wrap ((↑p.length:Int)-(1:Int)),())=some y6/\Br (!y6) (P false) (((0:Int)<=(0:Int)/\(0:Int)<=v3.1/\v3.1<=(↑p.length:Int))/\ ∃(y7:Int),idx p v3.1=some y7/\ ∃(y8:Bool),Da.fn (List.drop (Int.toNat (0:Int)) (List.take v3.1.toNat p),y7,())=some y8/\Br y8 (P false) (k4 (IntKind.i64.wrap (v3.1+(1:Int)),())))) (P true)) ((0:Int),PUnit.unit)))=fnW Cr (look [(93,Bh),(153,Da)]) Eu Try.f169 (p,()) P:=by kernel_rfl
theorem uO (p:List Int) (P:Bool->Prop):(∃(y2:Int),Kl.fn (p,())=some y2/\ ∃(y3:Bool),Bh.fn (y2,(1:Int),(20:Int),())=some y3/\Br (!y3) (P false) (Bk (λ(v4:Int×Int×PUnit) (k5:Int×Int×PUnit->Prop)=>Br (decide (v4.2.1<(↑p.length:Int))) (∃(y6:Int),idx p v4.2.1=some y6/\ ∃(y7:Int),Kl.fn (p,())=some y7/\ ∃(y8:Bool),Bh.fn (y6,(0:Int),IntKind.i64.wrap (y7-(1:Int)),())=some y8/\Br (!y8) (P false) (¬y6<(0:Int)/\k5 (IntKind.i64.wrap (↑(BitVec.ofInt IntKind.i64.bits v4.1|||BitVec.ofInt IntKind.i64.bits (IntKind.i64.wrap ((1:Int)*(2:Int)^min y6.toNat IntKind.i64.bits))).toNat:Int),IntKind.i64.wrap (v4.2.1+(1:Int)),()))) (¬(↑p.length:Int)<(0:Int)/\P (v4.1==IntKind.i64.wrap (IntKind.i64.wrap ((1:Int)*(2:Int)^min (↑p.length:Int).toNat IntKind.i64.bits)-(1:Int))))) ((0:Int),(0:Int),PUnit.unit)))=fnW Cr (look [(97,Bh),(82,Kl)]) Eu Try.f168 (p,()) P:=by kernel_rfl
theorem uS (n:Int) (g:List (List Int)) (P:Bool->Prop):(∃(y3:Bool),Bh.fn (n,(1:Int),(20:Int),())=some y3/\Br (!y3) (P false) (Br (decide ((↑g.length:Int)>(8:Int))) (P false) (Bk (λ(v4:Int×PUnit) (k5:Int×PUnit->Prop)=>Br (decide (v4.1<(↑g.length:Int))) (∃(y6:List Int),idx g v4.1=some y6/\Br ((↑y6.length:Int) !=n) (P false) (∃(y7:List Int),idx g v4.1=some y7/\ ∃(y8:Bool),Eu.fn (y7,())=some y8/\Br (!y8) (P false) (k5 (IntKind.i64.wrap (v4.1+(1:Int)),())))) (P true)) ((0:Int),PUnit.unit))))=fnW Cr (look [(93,Bh),(169,Eu)]) Kq Try.f147 (n,g,()) P:=by kernel_rfl
theorem SO (p:List Int) (n:Int) (P:Bool->Prop):(∃(y3:Int),Kl.fn (p,())=some y3/\Br (y3 !=n) (P true) (∃(y4:Bool),Eu.fn (p,())=some y4/\P !y4))=fnW Cr (look [(82,Kl),(168,Eu)]) ek Try.f177 (p,n,()) P:=by kernel_rfl
theorem Adt (g:List (List Int)) (n:Int×Unit) (P:Int->Prop):(Bk (λ(v3:Int×PUnit) (k4:Int×PUnit->Prop)=>Br (decide (v3.1<(↑g.length:Int))) (∃(y5:List Int),idx g v3.1=some y5/\ ∃(y6:Bool),ek.fn (y5,n.1,())=some y6/\Br y6 (P v3.1) (k4 (IntKind.i64.wrap (v3.1+(1:Int)),()))) (P (-1:Int))) ((0:Int),PUnit.unit))=fnW Cr (look [(177,ek)]) rS Try.f184 (g,n,()) P:=by kernel_rfl
theorem Adl (g:List (List Int)) (n:Int×Unit) (P:Bool->Prop):(∃(y3:Int),rS.fn (g,n,())=some y3/\P (decide (y3>=(0:Int))))=fnW Cr (look [(184,rS)]) rK Try.f176 (g,n,()) P:=by kernel_rfl
theorem uN (n:Int) (g:List (List Int)) (P:Bool->Prop):(∃(y3:Bool),Bh.fn (n,(1:Int),(20:Int),())=some y3/\Br y3 (Br (decide ((↑g.length:Int)<=(8:Int))) (∃(y4:Bool),rK.fn (g,(n,()),())=some y4/\P !y4) (P false)) (P false))=fnW Cr (look [(97,Bh),(176,rK)]) Kq Try.f158 (n,g,()) P:=by kernel_rfl
theorem NY (s:ByteArray) (i:Int) (P:Bool->Prop):((0:Int)<=i/\ ∃(y3:UInt8),s[i.toNat]?=some y3/\Br (decide ((↑y3.toNat:Int)<(65:Int))) (P false) ((0:Int)<=i/\ ∃(y4:UInt8),s[i.toNat]?=some y4/\Br (decide ((↑y4.toNat:Int)>(90:Int))) (P false) (Bk (λ(v5:Int×PUnit) (k6:Int×PUnit->Prop)=>Br (decide (v5.1<i)) ((0:Int)<=v5.1/\ ∃(y7:UInt8),s[v5.1.toNat]?=some y7/\(0:Int)<=i/\ ∃(y8:UInt8),s[i.toNat]?=some y8/\Br ((↑y7.toNat:Int)==(↑y8.toNat:Int)) (P false) (k6 (IntKind.i64.wrap (v5.1+(1:Int)),()))) (P true)) ((0:Int),PUnit.unit))))=fnW Cr (look []) Zl Try.f148 (s,i,()) P:=by kernel_rfl
theorem HZ (s:ByteArray) (P:Bool->Prop):(Bk (λ(v2:Int×PUnit) (k3:Int×PUnit->Prop)=>Br (decide (v2.1<(↑s.size:Int))) ((0:Int)<=v2.1/\ ∃(y4:UInt8),s[v2.1.toNat]?=some y4/\ ∃(y5:Bool),Bh.fn (IntKind.i64.wrap (↑y4.toNat:Int),(65:Int),(90:Int),())=some y5/\Br (!y5) (P false) (Bk (λ(v6:Int×PUnit) (k7:Int×PUnit->Prop)=>Br (decide (v6.1<v2.1)) ((0:Int)<=v6.1/\ ∃(y8:UInt8),s[v6.1.toNat]?=some y8/\(0:Int)<=v2.1/\ ∃(y9:UInt8),s[v2.1.toNat]?=some y9/\Br ((↑y8.toNat:Int)==(↑y9.toNat:Int)) (P false) (k7 (IntKind.i64.wrap (v6.1+(1:Int)),()))) (k3 (IntKind.i64.wrap (v2.1+(1:Int)),()))) ((0:Int),PUnit.unit))) (∃(y4:Bool),Bh.fn ((↑s.size:Int),(1:Int),(8:Int),())=some y4/\P y4)) ((0:Int),PUnit.unit))=fnW Cr (look [(97,Bh)]) Um Try.f159 (s,()) P:=by kernel_rfl
abbrev fm:Type:=Int×Int×ByteArray×List (List Int)×PUnit
theorem uU (p:Int×ByteArray×List (List Int)×Unit) (P:Bool->Prop):(Br ((↑p.2.2.1.length:Int)==(0:Int)) (P false) (Br ((↑p.2.1.size:Int) !=(↑p.2.2.1.length:Int)) (P false) (∃(y2:Bool),Kq.fn (p.1,p.2.2.1,())=some y2/\Br (!y2) (P false) (Bk (λ(v3:fm) (k4:fm->Prop)=>Br (decide (v3.1<(↑v3.2.2.1.size:Int))) (∃(y5:Bool),Zl.fn (v3.2.2.1,v3.1,())=some y5/\Br (!y5) (P false) (k4 (IntKind.i64.wrap (v3.1+(1:Int)),v3.2.1,v3.2.2.1,v3.2.2.2.1,()))) (P true)) ((0:Int),p.1,p.2.1,p.2.2.1,PUnit.unit)))))=fnW Cr (look [(147,Kq),(148,Zl)]) Ev Try.f110 (p,()) P:=by kernel_rfl
theorem uP (p:Int×ByteArray×List (List Int)×Unit) (P:Bool->Prop):(∃(y2:Bool),Kq.fn (p.1,p.2.2.1,())=some y2/\Br y2 (∃(y3:Bool),Um.fn (p.2.1,())=some y3/\Br y3 (P ((↑p.2.1.size:Int)==(↑p.2.2.1.length:Int))) (P false)) (P false))=fnW Cr (look [(158,Kq),(159,Um)]) Ev Try.f130 (p,()) P:=by kernel_rfl
theorem Adx (p:Int×ByteArray×List (List Int)×Unit) (room:Int) (P:Int->Prop):(Br (decide (IntKind.i64.wrap (room-(↑p.2.1.size:Int))<(0:Int))) (P (-1:Int)) (∃(y3:Int),aT.fn (p.2.2.1,IntKind.i64.wrap (room-(↑p.2.1.size:Int)),())=some y3/\Br (decide (y3<(0:Int))) (P (-1:Int)) (P y3)))=fnW Cr (look [(34,aT)]) rW Try.f14 (p,room,()) P:=by kernel_rfl
theorem Adz (p:Int×ByteArray×List (List Int)×Unit) (P:(Int×ByteArray×List (List Int)×Unit)->Prop):(∃(y2:List (List Int)),dv.fn (p.2.2.1,())=some y2/\P (p.1,p.2.1,y2,()))=fnW Cr (look [(36,dv)]) rX Try.f16 (p,()) P:=by kernel_rfl
theorem Adq (a b:Int×ByteArray×List (List Int)×Unit) (P:Bool->Prop):(Br (a.1 !=b.1) (P false) (Br (!a.2.1.toList==b.2.1.toList) (P false) (∃(y3:Bool),Ta.fn (a.2.2.1,b.2.2.1,())=some y3/\Br (!y3) (P false) (P true))))=fnW Cr (look [(38,Ta)]) rQ Try.f19 (a,b,()) P:=by kernel_rfl
theorem YC (xs:List Int) (_:True):fnW Cr (look []) Kl Try.f82 (xs,()) (λ(z:Int)=>z=(xs.length:Int)):=Eq.mp (ZD xs _) rfl
theorem Wa:Sound Try.prog 82 Kl:=
 Sound.Cz Bo Ap mixed Try.func82 (by kernel_rfl) (by kernel_rfl) λx h=>YC x.1 h
theorem uz {α:Type} [DecidableEq α]: ∀(l m:List α),l.Nodup->(∀x∈l,x∈m)->l.length<=m.length
 | [],m,_,_=>Nat.zero_le _
 |a::l,m,hn,hs=>by
  have ha:a∈m:=hs a (List.mem_cons_self ..)
  have hn:=List.nodup_cons.1 hn
  have:=uz l (m.erase a) hn.2 λx hx=>(List.mem_erase_of_ne (λ(e:x=a)=>hn.1 (by rw [<-e];exact hx))).2 (hs x (List.mem_cons_of_mem _ hx))
  rw [List.length_erase_of_mem ha] at this
  have:0<m.length:=List.length_pos_of_mem ha
  simp only [List.length_cons]
  omega
def upto (n:Nat):List Int:=(List.range n).map Int.ofNat
theorem oY (n:Nat):(upto n).Nodup:=by
 unfold upto
 exact List.Pairwise.map _ (λa b pv e=>pv (Int.ofNat.inj e)) List.nodup_range
theorem Ir {n:Nat} {x:Int} :x∈upto n↔0<=x/\x<n:=by
 unfold upto
 simp only [List.mem_map,List.mem_range]
 constructor
 ·rintro ⟨a,ha,rfl⟩;exact ⟨Int.natCast_nonneg _,Int.ofNat_lt.2 ha⟩
 ·rintro ⟨h1,h2⟩;exact ⟨x.toNat,by omega,by simp only [Int.ofNat_eq_natCast];omega⟩
theorem Py (n:Nat):(upto n).length=n:=by simp [upto]
theorem cZ {xs:List Int} (h: ∀j (hj:j<xs.length),xs[j]∉xs.take j):xs.Nodup:=by
 refine List.pairwise_iff_getElem.2 λi j hi hj jF e=>h j hj ?_
 rw [<-e]
 exact List.mem_take_iff_getElem.2 ⟨i,by omega,rfl⟩
theorem oV {xs:List Int} (h:xs.Nodup): ∀j (hj:j<xs.length),xs[j]∉xs.take j:=by
 intro j hj hm
 obtain ⟨i,hi,e⟩:=List.mem_take_iff_getElem.1 hm
 exact List.pairwise_iff_getElem.1 h i j (by omega) hj (by omega) e
theorem Xo {xs:List Int} (h: ∀x∈xs,0<=x/\x<xs.length):(∀k:Nat,k<xs.length->(k:Int)∈xs)↔ ∀j (hj:j<xs.length),xs[j]∉xs.take j:=by
 constructor
 ·intro ha j hj hm
  have h1:=uz (upto xs.length) (xs.take j++xs.drop (j+1)) (oY _) λx hx=>by
   obtain ⟨h1,h2⟩:=Ir.1 hx
   have hx:=ha x.toNat (by omega)
   rw [show ((x.toNat:Nat):Int)=x by omega] at hx
   rw [<-List.take_append_drop j xs,List.mem_append,List.drop_eq_getElem_cons hj,List.mem_cons] at hx
   rcases hx with hx|rfl|hx
   ·exact List.mem_append_left _ hx
   ·exact List.mem_append_left _ hm
   ·exact List.mem_append_right _ hx
  rw [Py,List.length_append,List.length_take,List.length_drop] at h1
  omega
 ·intro hn k hk
  refine Classical.byContradiction λhc=>?_
  have h1:=uz xs ((upto xs.length).erase (k:Int)) (cZ hn) λx hx=>by
   refine (List.mem_erase_of_ne λ(e:x=(k:Int))=>hc (by rw [<-e];exact hx)).2 (Ir.2 (h x hx))
  rw [List.length_erase_of_mem (Ir.2 ⟨by omega,by omega⟩),Py] at h1
  omega
def mask (xs:List Int):Nat:=xs.foldl (λm x=>m|||2^x.toNat) 0
theorem FJ (xs:List Int) (x:Int):mask (xs++ [x])=mask xs|||2^x.toNat:=by simp [mask]
theorem tE (xs:List Int) (k:Nat): ∀a:Nat,(xs.foldl (λm x=>m|||2^x.toNat) a).testBit k=(a.testBit k||xs.any λx=>decide (x.toNat=k)):=by
 induction xs with
 |nil=>simp
 |cons x xs ih=>
  intro a
  rw [List.foldl_cons,ih,Nat.testBit_or,Nat.testBit_two_pow,List.any_cons,Bool.or_assoc]
theorem nE (xs:List Int) (k:Nat):(mask xs).testBit k=xs.any λx=>decide (x.toNat=k):=by
 unfold mask
 rw [tE,Nat.zero_testBit,Bool.false_or]
theorem RF {xs:List Int} {n:Nat} (h: ∀x∈xs,x.toNat<n):mask xs<2^n:=by
 refine Nat.lt_pow_two_of_testBit _ λk hk=>?_
 rw [nE]
 refine Bool.eq_false_iff.2 λht=>?_
 obtain ⟨x,hx,he⟩:=List.any_eq_true.1 ht
 have:=h x hx
 have:=of_decide_eq_true he
 omega
theorem rk {xs:List Int} (h: ∀x∈xs,0<=x/\x<xs.length):mask xs=2^xs.length-1↔ ∀k:Nat,k<xs.length->(k:Int)∈xs:=by
 constructor
 ·intro e k hk
  have h1:=nE xs k
  rw [e,Nat.testBit_two_pow_sub_one,decide_eq_true hk] at h1
  obtain ⟨x,hx,he⟩:=List.any_eq_true.1 h1.symm
  have:=(h x hx).1
  have:=of_decide_eq_true he
  have e:x=(k:Int):=by omega
  exact e▸hx
 ·intro ha
  refine Nat.eq_of_testBit_eq λk=>?_
  rw [nE,Nat.testBit_two_pow_sub_one]
  by_cases hk:k<xs.length
  ·rw [decide_eq_true hk]
   exact List.any_eq_true.2 ⟨k,ha k hk,by simp⟩
  ·rw [decide_eq_false hk]
   refine Bool.eq_false_iff.2 λht=>?_
   obtain ⟨x,hx,he⟩:=List.any_eq_true.1 ht
   have:=h x hx
   have:=of_decide_eq_true he
   omega
theorem RI {m:Nat} {x:Int} (hm:m<2^20) (h0:0<=x) (h1:x<20):
  IntKind.i64.wrap (((BitVec.ofInt IntKind.i64.bits (m:Int)|||BitVec.ofInt IntKind.i64.bits (IntKind.i64.wrap ((1:Int)*(2:Int)^min x.toNat IntKind.i64.bits))).toNat:Nat):Int)=((m|||2^x.toNat:Nat):Int):=by
 have hx:(2:Nat)^x.toNat<2^20:=Nat.pow_lt_pow_right (by omega) (by omega)
 have e1:min x.toNat IntKind.i64.bits=x.toNat:=by show min x.toNat 64=_;omega
 have e2:(1:Int)*(2:Int)^x.toNat=((2^x.toNat:Nat):Int):=by rw [Int.one_mul];exact (Int.natCast_pow 2 _).symm
 rw [e1,e2,Bu (n:=((2^x.toNat:Nat):Int)) (by have:(0:Int)<=((2^x.toNat:Nat):Int):=Int.natCast_nonneg _;omega) (by omega)]
 show IntKind.i64.wrap (((BitVec.ofInt 64 (m:Int)|||BitVec.ofInt 64 ((2^x.toNat:Nat):Int)).toNat:Nat):Int)=_
 rw [BitVec.ofInt_natCast,BitVec.ofInt_natCast,BitVec.toNat_or,BitVec.toNat_ofNat,BitVec.toNat_ofNat,Nat.mod_eq_of_lt (by omega),Nat.mod_eq_of_lt (by omega)]
 have:=Nat.or_lt_two_pow hm hx
 exact Bu (by omega) (by omega)
theorem tP (p:List Int) (h:short p):fnW Cr (look [(93,Bh),(153,Da)]) Eu Try.f169 (p,()) (λ(z:Bool)=>z=Gc p):=by
 have hs:=h
 unfold short at h
 refine Eq.mp (uT p _) ⟨_,if_pos trivial,⟨λhp=>?_,λhp=>?_⟩⟩
 ·have hp:=Ch hp
  rw [Cb] at hp
  dsimp only at hp
  exact Av λhh=>hp ⟨by omega,by omega⟩
 ·have hp:=Df hp
  rw [Cb] at hp
  dsimp only at hp
  refine Aj p.length (λv=>v.1) (λj _=>DL p.length p j) rfl (λj _ hj=>absurd hj (Nat.not_lt_zero _)) ?_
  rintro j ⟨i,⟨⟩⟩ K hj hi hR hK
  dsimp only at hi⊢
  subst hi
  refine Br.dec (λhl=>?_) λhl=>?_
  ·have hl:j<p.length:=by omega
   refine ⟨_,Aq hl,_,if_pos trivial,⟨λhq=>?_,λhq=>?_⟩⟩
   ·have hq:=Ch hq
    rw [Cb,Bu (by omega) (by omega)] at hq
    exact Av λhh=>hq ⟨(hh.2.2 j hl hl).1,(hh.2.2 j hl hl).2.1⟩
   ·have hq:=Df hq
    rw [Cb,Bu (by omega) (by omega)] at hq
    refine ⟨⟨by omega,by omega,by omega⟩,_,Aq hl,?_⟩
    rw [show (Int.toNat 0)=0 from rfl,List.drop_zero,Int.toNat_natCast]
    refine ⟨_,if_pos (AE hs j),⟨λhc=>?_,λhc=>?_⟩⟩
    ·have hc:decide (p[j]∈p.take j)=true:=hc
     rw [decide_eq_true_iff] at hc
     exact Av λhh=>(hh.2.2 j hl hl).2.2 hc
    ·have hc:decide (p[j]∈p.take j)=false:=hc
     rw [decide_eq_false_iff_not] at hc
     rw [Al (by omega)]
     exact hK hl _ rfl (PI hl hR hq.1 hq.2 hc)
  ·have:j=p.length:=by omega
   subst this
   exact Ii ⟨by omega,by omega,hR⟩
theorem Rh:Sound Try.prog 169 Eu:=
 Sound.Cz Bo (Ah Rw (Ah Xf Ap)) mixed Try.func169 (by kernel_rfl) (by kernel_rfl) λx h=>tP x.1 h
theorem tH (p:List Int) (h:short p):fnW Cr (look [(97,Bh),(82,Kl)]) Eu Try.f168 (p,()) (λ(z:Bool)=>z=Gc p):=by
 unfold short at h
 refine Eq.mp (uO p _) ⟨_,if_pos trivial,_,if_pos trivial,⟨λhp=>?_,λhp=>?_⟩⟩
 ·have hp:=Ch hp
  rw [Cb] at hp
  dsimp only at hp
  exact Av λhh=>hp ⟨by omega,by omega⟩
 ·have hp:=Df hp
  rw [Cb] at hp
  dsimp only at hp
  refine Aj p.length (λv=>v.2.1) (λj v=>v.1=(mask (p.take j):Int)/\ ∀x∈p.take j,0<=x/\x<p.length) rfl ⟨rfl,by simp⟩ ?_
  rintro j ⟨m,i,⟨⟩⟩ K hj hi ⟨hm,hR⟩ hK
  dsimp only at hi hm⊢
  subst hi hm
  refine Br.dec (λhl=>?_) λhl=>?_
  ·have hl:j<p.length:=by omega
   refine ⟨_,Aq hl,_,if_pos trivial,_,if_pos trivial,⟨λhq=>?_,λhq=>?_⟩⟩
   ·have hq:=Ch hq
    rw [Cb] at hq
    dsimp only at hq
    rw [Bu (by omega) (by omega)] at hq
    exact Av λhh=>hq ⟨(hh.2.2 j hl hl).1,(hh.2.2 j hl hl).2.1⟩
   ·have hq:=Df hq
    rw [Cb] at hq
    dsimp only at hq
    rw [Bu (by omega) (by omega)] at hq
    refine ⟨by omega,?_⟩
    rw [Al (by omega)]
    have hb:mask (p.take j)<2^20:=RF λx hx=>by have:=hR x hx;omega
    refine hK hl _ rfl ⟨?_,?_⟩
    ·dsimp only
     rw [RI hb hq.1 (by omega),List.take_succ_eq_append_getElem hl,FJ]
    ·rw [List.take_succ_eq_append_getElem hl]
     intro x hx
     rcases List.mem_append.1 hx with hx|hx
     ·exact hR x hx
     ·rw [List.mem_singleton.1 hx];omega
  ·have:j=p.length:=by omega
   subst this
   rw [List.take_length] at hR⊢
   refine ⟨by omega,?_⟩
   have hx:(2:Nat)^p.length<=2^20:=Nat.pow_le_pow_right (by omega) (by omega)
   have nq:0<(2:Nat)^p.length:=Nat.two_pow_pos _
   have e1:min (p.length:Int).toNat IntKind.i64.bits=p.length:=by show min (p.length:Int).toNat 64=_;omega
   have e2:(1:Int)*(2:Int)^p.length=((2^p.length:Nat):Int):=by rw [Int.one_mul];exact (Int.natCast_pow 2 _).symm
   rw [e1,e2,Bu (n:=((2^p.length:Nat):Int)) (by omega) (by omega),Bu (by omega) (by omega)]
   have hE:((mask p:Int)==((2^p.length:Nat):Int)-1)=decide (mask p=2^p.length-1):=by
    rw [Bool.eq_iff_iff,beq_iff_eq,decide_eq_true_iff]
    omega
   show ((mask p:Int)==((2^p.length:Nat):Int)-1)=Gc p
   rw [hE]
   by_cases hf:mask p=2^p.length-1
   ·rw [decide_eq_true hf]
    have hn:=(Xo hR).1 ((rk hR).1 hf)
    refine Ii ⟨by omega,by omega,λj hj _=>?_⟩
    have:=hR _ (List.getElem_mem hj)
    exact ⟨this.1,by omega,hn j hj⟩
   ·rw [decide_eq_false hf]
    refine Av λhh=>hf ((rk hR).2 ((Xo hR).2 λj hj=>(hh.2.2 j hj hj).2.2))
theorem Zp:Sound Try.prog 168 Eu:=
 Sound.Cz Bo (Ah Mh (Ah Wa Ap)) mixed Try.func168 (by kernel_rfl) (by kernel_rfl) λx h=>tH x.1 h
theorem tN (n:Int) (g:List (List Int)) (h:Cd g):fnW Cr (look [(93,Bh),(169,Eu)]) Kq Try.f147 (n,g,()) (λ(z:Bool)=>z=Sk n g):=by
 obtain ⟨h,h4⟩:=h
 refine Eq.mp (uS n g _) ⟨_,if_pos trivial,⟨λhp=>?_,λhp=>?_⟩⟩
 ·have hp:=Ch hp
  rw [Cb] at hp
  exact Av λhh=>hp hh.1
 ·have hp:=Df hp
  rw [Cb] at hp
  refine Br.dec (λhg=>?_) λhg=>?_
  ·exact Av λhh=>by have:=hh.2.1;omega
  ·refine Aj g.length (λv=>v.1) (λj _=> ∀p∈g.take j,Em n p=true) rfl (by simp) ?_
   rintro j ⟨i,⟨⟩⟩ K hj hi hR hK
   dsimp only at hi⊢
   subst hi
   refine Br.dec (λhl=>?_) λhl=>?_
   ·have hl:j<g.length:=by omega
    have hm:g[j]∈g:=List.getElem_mem hl
    refine ⟨_,Aq hl,⟨λhe=>?_,λhe=>?_⟩⟩
    ·simp only [bne_iff_ne,ne_eq] at he
     exact Av λhh=>he (Fm.1 (hh.2.2 _ hm)).1
    ·simp only [bne_eq_false_iff_eq] at he
     refine ⟨_,Aq hl,_,if_pos (h4 _ hm),⟨λhq=>?_,λhq=>?_⟩⟩
     ·have hq:=Ch hq
      exact Av λhh=>hq (Fm.1 (hh.2.2 _ hm)).2
     ·have hq:=Df hq
      rw [Al (by omega)]
      refine hK hl _ rfl ?_
      rw [List.take_succ_eq_append_getElem hl]
      intro x hx
      rcases List.mem_append.1 hx with hx|hx
      ·exact hR x hx
      ·rw [List.mem_singleton.1 hx];exact Fm.2 ⟨he,hq⟩
   ·have:j=g.length:=by omega
    subst this
    rw [List.take_length] at hR
    exact Ii ⟨hp,by omega,hR⟩
theorem kv:Sound Try.prog 147 Kq:=
 Sound.Cz Bo (Ah Rw (Ah Rh Ap)) mixed Try.func147 (by kernel_rfl) (by kernel_rfl) λx h=>tN x.1 x.2.1 h
theorem RL (p:List Int) (n:Int) (h:short p):fnW Cr (look [(82,Kl),(168,Eu)]) ek Try.f177 (p,n,()) (λ(z:Bool)=>z=!Em n p):=by
 refine Eq.mp (SO p n _) ⟨_,if_pos trivial,⟨λhe=>?_,λhe=>⟨_,if_pos h,?_⟩⟩⟩
 ·simp only [bne_iff_ne,ne_eq] at he
  have:Em n p=false:=PF.2 λhh=>he hh.1
  rw [this];rfl
 ·simp only [bne_eq_false_iff_eq] at he
  show (!Gc p)=_
  congr 1
  cases hp:Gc p with
  |true=>exact Ii ⟨he,hp⟩
  |false=>exact Av λhh=>by rw [hh.2] at hp;cases hp
theorem xD:Sound Try.prog 177 ek:=
 Sound.Cz Bo (Ah Wa (Ah Zp Ap)) mixed Try.func177 (by kernel_rfl) (by kernel_rfl) λx h=>RL x.1 x.2.1 h
theorem Wx {α:Type} (P:α->Bool): ∀(l:List α) (i:Int),0<=i->(0<=Bx P l i↔l.any P=true)
 | [],i,_=>by simp [Bx]
 |y::r,i,h=>by
  simp only [Bx,List.any_cons,Bool.or_eq_true]
  split
  ·rename_i hy;simp [hy,h]
  ·rename_i hy;rw [Wx P r (i+1) (by omega)];simp [hy]
theorem Ad3 (g:List (List Int)) (n:Int×Unit) (h:Cd g):fnW Cr (look [(177,ek)]) rS Try.f184 (g,n,()) (λ(z:Int)=>z=Bx (λp=>!Em n.1 p) g 0):=by
 obtain ⟨h,h4⟩:=h
 refine Eq.mp (Adt g n _) ?_
 refine Aj g.length (λv=>v.1) (λj _=>Bx (λp=>!Em n.1 p) (g.drop j) j=Bx (λp=>!Em n.1 p) g 0) rfl (by simp) ?_
 rintro j ⟨i,⟨⟩⟩ K hj hi hR hK
 dsimp only at hi⊢
 subst hi
 refine Br.dec (λhl=>?_) λhl=>?_
 ·have hl:j<g.length:=by omega
  rw [List.drop_eq_getElem_cons hl] at hR
  simp only [Bx] at hR
  refine ⟨_,Aq hl,_,if_pos (h4 _ (List.getElem_mem hl)),⟨λhe=>?_,λhe=>?_⟩⟩
  ·have he:(!Em n.1 g[j])=true:=he
   rw [if_pos he] at hR
   exact hR
  ·have he:(!Em n.1 g[j])=false:=he
   rw [if_neg (by rw [he];decide)] at hR
   rw [Al (by omega)]
   exact hK hl _ rfl (by push_cast;exact hR)
 ·have:j=g.length:=by omega
  subst this
  rw [List.drop_length] at hR
  exact hR
theorem HC:Sound Try.prog 184 rS:=
 Sound.Cz Bo (Ah xD Ap) mixed Try.func184 (by kernel_rfl) (by kernel_rfl) λx h=>Ad3 x.1 x.2.1 h
theorem Acv (g:List (List Int)) (n:Int×Unit) (h:Cd g):fnW Cr (look [(184,rS)]) rK Try.f176 (g,n,()) (λ(z:Bool)=>z=List.any g (λp=>!Em n.1 p)):=by
 refine Eq.mp (Adl g n _) ⟨_,if_pos h,?_⟩
 rw [Bool.eq_iff_iff,decide_eq_true_iff]
 exact Wx _ g 0 (Int.le_refl 0)
theorem GU:Sound Try.prog 176 rK:=
 Sound.Cz Bo (Ah HC Ap) mixed Try.func176 (by kernel_rfl) (by kernel_rfl) λx h=>Acv x.1 x.2.1 h
theorem tG (n:Int) (g:List (List Int)) (h:Cd g):fnW Cr (look [(97,Bh),(176,rK)]) Kq Try.f158 (n,g,()) (λ(z:Bool)=>z=Sk n g):=by
 refine Eq.mp (uN n g _) ⟨_,if_pos trivial,⟨λhp=>?_,λhp=>?_⟩⟩
 ·have hp:Hl n 1 20=true:=hp
  rw [Cb] at hp
  refine Br.dec (λhl=>⟨_,if_pos h,?_⟩) λhl=>?_
  ·show (!List.any g (λp=>!Em n p))=Sk n g
   cases ha:List.any g (λp=>!Em n p) with
   |true=>
    obtain ⟨p,uY,EO⟩:=List.any_eq_true.1 ha
    exact Av λhh=>by rw [hh.2.2 p uY] at EO;cases EO
   |false=>
    refine Ii ⟨hp,by omega,λp hm=>?_⟩
    have:=List.any_eq_false.1 ha p hm
    simpa using this
  ·exact Av λhh=>by have:=hh.2.1;omega
 ·refine Av λhh=>?_
  have:Hl n 1 20=true:=Cb.2 hh.1
  have hp:Hl n 1 20=false:=hp
  rw [this] at hp;cases hp
theorem kq:Sound Try.prog 158 Kq:=
 Sound.Cz Bo (Ah Mh (Ah GU Ap)) mixed Try.func158 (by kernel_rfl) (by kernel_rfl) λx h=>tG x.1 x.2.1 h
theorem Hv {s:ByteArray} {k:Nat} (h:k<s.size):s[k]?=some s[k]:=getElem?_pos s k h
theorem ME (s:ByteArray) (i:Int) (h:0<=i/\i<s.size/\s.size<=4294967296):fnW Cr (look []) Zl Try.f148 (s,i,()) (λ(z:Bool)=>z=iI s i):=by
 obtain ⟨h1,h2,h3⟩:=h
 have hi:i.toNat<s.size:=by omega
 refine Eq.mp (NY s i _) ⟨h1,_,Hv hi,Br.dec (λhq=>?_) λhq=>⟨h1,_,Hv hi,Br.dec (λhr=>?_) λhr=>?_⟩⟩
 ·refine Av λ⟨c,hc,QC,_⟩=>?_
  rw [Hv hi] at hc;cases hc;omega
 ·refine Av λ⟨c,hc,_,QC,_⟩=>?_
  rw [Hv hi] at hc;cases hc;omega
 ·refine Aj i.toNat (λv=>v.1) (λj _=> ∀k,k<j->s[k]?≠some s[i.toNat]) rfl (λk hk=>absurd hk (Nat.not_lt_zero _)) ?_
  rintro j ⟨i',⟨⟩⟩ K hj gf hR hK
  dsimp only at gf⊢
  subst gf
  refine Br.dec (λhl=>?_) λhl=>?_
  ·have hl:j<i.toNat:=by omega
   have hj:j<s.size:=by omega
   rw [Int.toNat_natCast]
   refine ⟨by omega,_,Hv hj,h1,_,Hv hi,⟨λhe=>?_,λhe=>?_⟩⟩
   ·simp only [beq_iff_eq,Int.natCast_inj] at he
    refine Av λ⟨c,hc,_,_,QC⟩=>?_
    rw [Hv hi] at hc;cases hc
    exact QC j hl (by rw [Hv hj,UInt8.toNat_inj.1 he])
   ·simp only [beq_eq_false_iff_ne,ne_eq,Int.natCast_inj] at he
    rw [Al (by omega)]
    refine hK hl _ rfl λk hk=>?_
    by_cases e:k=j
    ·subst e
     rw [Hv hj]
     exact λe=>he (by rw [Option.some.inj e])
    ·exact hR k (by omega)
  ·have:j=i.toNat:=by omega
   subst this
   exact Ii ⟨_,Hv hi,by omega,by omega,hR⟩
theorem ui:Sound Try.prog 148 Zl:=
 Sound.Cz Bo Ap mixed Try.func148 (by kernel_rfl) (by kernel_rfl) λx h=>ME x.1 x.2.1 h
theorem FZ (s:ByteArray) (h:s.size<=4294967296):fnW Cr (look [(97,Bh)]) Um Try.f159 (s,()) (λ(z:Bool)=>z=Zf s):=by
 refine Eq.mp (HZ s _) ?_
 refine Aj s.size (λv=>v.1) (λj _=> ∀k,k<j->sf s k) rfl (λk hk=>absurd hk (Nat.not_lt_zero _)) ?_
 rintro j ⟨i,⟨⟩⟩ K hj hi hR hK
 dsimp only at hi⊢
 subst hi
 refine Br.dec (λhl=>?_) λhl=>?_
 ·have hl:j<s.size:=by omega
  rw [Int.toNat_natCast]
  have hb:=(s[j]).toNat_lt
  refine ⟨by omega,_,Hv hl,_,if_pos trivial,⟨λhq=>?_,λhq=>?_⟩⟩
  ·have hq:=Ch hq
   rw [Cb] at hq
   dsimp only at hq
   rw [Bu (by omega) (by omega)] at hq
   refine Av λhh=>?_
   obtain ⟨c,hc,QC,ZR,_⟩:=hh.2 j hl
   rw [Hv hl] at hc;cases hc
   exact hq ⟨by omega,by omega⟩
  ·have hq:=Df hq
   rw [Cb] at hq
   dsimp only at hq
   rw [Bu (by omega) (by omega)] at hq
   refine Aj j (λv=>v.1) (λm _=> ∀k,k<m->s[k]?≠some s[j]) rfl (λk hk=>absurd hk (Nat.not_lt_zero _)) ?_
   rintro m ⟨i',⟨⟩⟩ K' hm gf hR' hK'
   dsimp only at gf⊢
   subst gf
   refine Br.dec (λHg=>?_) λHg=>?_
   ·have Hg:m<j:=by omega
    have WQ:m<s.size:=by omega
    rw [Int.toNat_natCast]
    refine ⟨by omega,_,Hv WQ,by omega,_,Hv hl,⟨λhe=>?_,λhe=>?_⟩⟩
    ·simp only [beq_iff_eq,Int.natCast_inj] at he
     refine Av λhh=>?_
     obtain ⟨c,hc,_,_,QC⟩:=hh.2 j hl
     rw [Hv hl] at hc;cases hc
     exact QC m Hg (by rw [Hv WQ,UInt8.toNat_inj.1 he])
    ·simp only [beq_eq_false_iff_ne,ne_eq,Int.natCast_inj] at he
     rw [Al (by omega)]
     refine hK' Hg _ rfl λk hk=>?_
     by_cases e:k=m
     ·subst e
      rw [Hv WQ]
      exact λe=>he (by rw [Option.some.inj e])
     ·exact hR' k (by omega)
   ·have:m=j:=by omega
    subst this
    rw [Al (by omega)]
    refine hK hl _ rfl λk hk=>?_
    by_cases e:k=m
    ·subst e
     exact ⟨_,Hv hl,by omega,by omega,hR'⟩
    ·exact hR k (by omega)
 ·have:j=s.size:=by omega
  subst this
  refine ⟨_,if_pos trivial,?_⟩
  show Hl s.size 1 8=_
  cases hr:Hl s.size 1 8 with
  |true=>rw [Cb] at hr;exact Ii ⟨by omega,hR⟩
  |false=>refine Av λhh=>?_;rw [Cb.2 ⟨by omega,by omega⟩] at hr;cases hr
theorem qf:Sound Try.prog 159 Um:=
 Sound.Cz Bo (Ah Mh Ap) mixed Try.func159 (by kernel_rfl) (by kernel_rfl) λx h=>FZ x.1 h
theorem gJ {p:PP} (h:Ax p=true):1<=p.1/\p.1<=20/\1<=p.2.2.1.length/\p.2.2.1.length<=8:=by
 obtain ⟨h1,h2,h3⟩:=Fm.1 h
 obtain ⟨h4,h5,_⟩:=Fm.1 h1
 obtain ⟨h6,_⟩:=Fm.1 h2
 omega
theorem tQ (p:PP) (h:Dn p):fnW Cr (look [(147,Kq),(148,Zl)]) Ev Try.f110 (p,()) (λ(z:Bool)=>z=Ax p):=by
 obtain ⟨hn,hg⟩:=h
 refine Eq.mp (uU p _) ⟨λh0=>?_,λh0=>⟨λh1=>?_,λh1=>⟨_,if_pos hg,⟨λh2=>?_,λh2=>?_⟩⟩⟩⟩
 ·simp only [beq_iff_eq] at h0
  exact Av λhh=>by obtain ⟨_,h2,h3⟩:=hh;have:=(Fm.1 h2).1;omega
 ·simp only [bne_iff_ne,ne_eq,Int.natCast_inj] at h1
  exact Av λhh=>h1 hh.2.2
 ·have h2:=Ch h2
  exact Av λhh=>h2 hh.1
 ·simp only [beq_eq_false_iff_ne,ne_eq] at h0
  simp only [bne_eq_false_iff_eq,Int.natCast_inj] at h1
  have h2:Sk p.1 p.2.2.1=true:=Df h2
  refine Aj p.2.1.size (λv=>v.1) (λj v=>v.2=(p.1,p.2.1,p.2.2.1,())/\ ∀k,k<j->sf p.2.1 k) rfl ⟨rfl,λk hk=>absurd hk (Nat.not_lt_zero _)⟩ ?_
  rintro j ⟨i,v⟩ K hj hi ⟨hv,hR⟩ hK
  dsimp only at hi hv⊢
  subst hi hv
  dsimp only
  refine Br.dec (λhl=>?_) λhl=>?_
  ·have hl:j<p.2.1.size:=by omega
   refine ⟨_,if_pos ⟨Int.natCast_nonneg j,Int.ofNat_lt.2 hl,hn⟩,⟨λhq=>?_,λhq=>?_⟩⟩
   ·have hq: ¬iI p.2.1 j=true:=Ch hq
    refine Av λhh=>hq (Fm.2 ?_)
    rw [Int.toNat_natCast]
    exact (Fm.1 hh.2.1).2 j hl
   ·have hq:iI p.2.1 j=true:=Df hq
    have hq:=Fm.1 hq
    rw [Int.toNat_natCast] at hq
    rw [Al (by omega)]
    refine hK hl _ rfl ⟨rfl,λk hk=>?_⟩
    by_cases e:k=j
    ·subst e;exact hq
    ·exact hR k (by omega)
  ·have:j=p.2.1.size:=by omega
   subst this
   have:=(Fm.1 h2).2.1
   exact Ii ⟨h2,Fm.2 ⟨⟨by omega,by omega⟩,hR⟩,h1⟩
theorem Ri:Sound Try.prog 110 Ev:=
 Sound.Cz Bo (Ah kv (Ah ui Ap)) mixed Try.func110 (by kernel_rfl) (by kernel_rfl) λx h=>tQ x.1 h
theorem tJ (p:PP) (h:Dn p):fnW Cr (look [(158,Kq),(159,Um)]) Ev Try.f130 (p,()) (λ(z:Bool)=>z=Ax p):=by
 obtain ⟨hn,hg⟩:=h
 refine Eq.mp (uP p _) ⟨_,if_pos hg,⟨λh1=>⟨_,if_pos hn,⟨λh2=>?_,λh2=>?_⟩⟩,λh1=>?_⟩⟩
 ·have h1:Sk p.1 p.2.2.1=true:=h1
  have h2:Zf p.2.1=true:=h2
  by_cases e:p.2.1.size=p.2.2.1.length
  ·rw [e,beq_self_eq_true];exact Ii ⟨h1,h2,e⟩
  ·rw [show ((p.2.1.size:Int)==(p.2.2.1.length:Int))=false from beq_eq_false_iff_ne.2 (by omega)];exact Av λhh=>e hh.2.2
 ·have h2:Zf p.2.1=false:=h2
  exact Av λhh=>by rw [hh.2.1] at h2;cases h2
 ·have h1:Sk p.1 p.2.2.1=false:=h1
  exact Av λhh=>by rw [hh.1] at h1;cases h1
theorem Zq:Sound Try.prog 130 Ev:=
 Sound.Cz Bo (Ah kq (Ah qf Ap)) mixed Try.func130 (by kernel_rfl) (by kernel_rfl) λx h=>tJ x.1 h
theorem Ad7 (p:PP) (room:Int) (h:Dn p/\roomy room):fnW Cr (look [(34,aT)]) rW Try.f14 (p,room,()) (λ(z:Int)=>z=Ti p room):=by
 obtain ⟨⟨h1,h2⟩,h3,h4⟩:=h
 refine Eq.mp (Adx p room _) ?_
 rw [Bu (by omega) (by omega)]
 refine Br.dec (λhn=>?_) λhn=>⟨_,if_pos ⟨h2,by dsimp only;omega,by dsimp only;omega⟩,Br.dec (λhm=>?_) λhm=>?_⟩
 ·simp only [Ti,if_pos hn]
 ·exact ((if_neg hn).trans (if_pos hm)).symm
 ·exact ((if_neg hn).trans (if_neg hm)).symm
theorem HG:Sound Try.prog 14 rW:=
 Sound.Cz Bo (Ah oG Ap) mixed Try.func14 (by kernel_rfl) (by kernel_rfl) λx h=>Ad7 x.1 x.2.1 h
theorem Ad9 (p:PP) (h:Dn p):fnW Cr (look [(36,dv)]) rX Try.f16 (p,()) (λ(z:PP)=>z=p):=Eq.mp (Adz p _) ⟨_,if_pos h.2,rfl⟩
theorem HH:Sound Try.prog 16 rX:=
 Sound.Cz Bo (Ah oH Ap) mixed Try.func16 (by kernel_rfl) (by kernel_rfl) λx h=>Ad9 x.1 h
theorem vI {a b:ByteArray} :(a.toList==b.toList)=decide (a=b):=by
 rw [Bool.eq_iff_iff,beq_iff_eq,decide_eq_true_iff,ByteArray.toList_eq,ByteArray.toList_eq]
 exact ⟨λh=>ByteArray.ext (Array.toList_inj.1 h),λh=>by rw [h]⟩
theorem Ad0 (a b:PP) (h:Dn a):fnW Cr (look [(38,Ta)]) rQ Try.f19 (a,b,()) (λ(z:Bool)=>z=l4 a b):=by
 refine Eq.mp (Adq a b _) ⟨λh1=>?_,λh1=>⟨λh2=>?_,λh2=>⟨_,if_pos h.2,⟨λh3=>?_,λh3=>?_⟩⟩⟩⟩
 ·simp only [bne_iff_ne,ne_eq] at h1
  unfold l4
  rw [decide_eq_false h1];rfl
 ·rw [vI] at h2
  unfold l4
  cases hd:decide (a.2.1=b.2.1)<;>simp_all
 ·have h3:(!gn a.2.2.1 b.2.2.1)=true:=h3
  simp only [gn,Bool.not_eq_true'] at h3
  unfold l4
  rw [h3];simp
 ·have h3:(!gn a.2.2.1 b.2.2.1)=false:=h3
  rw [vI] at h2
  simp only [gn] at h3
  simp only [bne_eq_false_iff_eq] at h1
  unfold l4
  simp_all
theorem GY:Sound Try.prog 19 rQ:=
 Sound.Cz Bo (Ah ou Ap) mixed Try.func19 (by kernel_rfl) (by kernel_rfl) λx h=>Ad0 x.1 x.2.1 h
theorem zt (p:PP):l4 p p=true:=by simp [l4]
end Go.Proofs.Ytjbdmibbbpdnnaa

namespace Go.Proofs.Ytjbdmibbbpdnnaa
open Go.RowKit
abbrev tM1:Ty:= .clo 132 (.pair (.ptr tL) .unit)
noncomputable abbrev eu:Spec:=Cz (.pair tI (.pair (.ptr tL) .unit)) .bool false true (λx=>short x.2.1) (λx=>!Bm x.2.1 x.1)
noncomputable abbrev rT:Spec:=Cz (.pair tL (.pair tM1 .unit)) tI false true (λx=>short x.1/\short x.2.1.1) (λx=>Bx (λy=>!Bm x.2.1.1 y) x.1 0)
noncomputable abbrev rM:Spec:=Cz (.pair tL (.pair tM1 .unit)) .bool false true (λx=>short x.1/\short x.2.1.1) (λx=>List.any x.1 (λy=>!Bm x.2.1.1 y))
noncomputable abbrev ej:Spec:=Cz (.pair tL (.pair tL .unit)) .bool false true (λx=>short x.1/\short x.2.1) (λx=>List.all x.2.1 (λy=>Bm x.1 y))
def yr (n:Int) (g:List (List Int)) (j:Nat):Prop:= ∀h:j<g.length,Fg n g[j]=true/\(∀h1:0<j,g[j-1].length<g[j].length/\ ∀x∈g[j-1],x∈g[j])
noncomputable def Jd (p:PP) (g:List (List Int)):Bool:=dec (Ax p=true/\(1<=g.length/\g.length<=5)/\(∀j,j<g.length->yr p.1 g j)/\ ∃x,g[g.length-1]?=some x/\(x.length:Int)=p.1)
noncomputable abbrev Gx:Spec:=Cz (.pair Dl (.pair bL .unit)) .bool false true (λx=>Dn x.1/\Cd x.2.1) (λx=>Jd x.1 x.2.1)
noncomputable abbrev Zm:Spec:=Cz (.pair tI (.pair tL .unit)) .bool false true (λx=>short x.2.1) (λx=>Em x.1 x.2.1)
noncomputable abbrev Rb:Spec:=Cz (.pair Dl (.pair tL .unit)) .bool false true (λx=>short x.2.1) (λx=>Em x.1.1 x.2.1)
noncomputable abbrev Uo:Spec:=Cz (.pair Dl (.pair tL .unit)) .bool false true (λx=>Dn x.1/\short x.2.1) (λx=>Ax x.1&&Em x.1.1 x.2.1)
theorem SV (x:Int) (xs:List Int) (P:Bool->Prop):(∃(y3:Bool),Da.fn (xs,x,())=some y3/\P !y3)=fnW Cr (look [(133,Da)]) eu Try.f132 (x,xs,()) P:=by kernel_rfl
theorem Adu (xs:List Int) (c:List Int×Unit) (P:Int->Prop):(Bk (λ(v3:Int×PUnit) (k4:Int×PUnit->Prop)=>Br (decide (v3.1<(↑xs.length:Int))) (∃(y5:Int),idx xs v3.1=some y5/\ ∃(y6:Bool),eu.fn (y5,c.1,())=some y6/\Br y6 (P v3.1) (k4 (IntKind.i64.wrap (v3.1+(1:Int)),()))) (P (-1:Int))) ((0:Int),PUnit.unit))=fnW Cr (look [(132,eu)]) rT Try.f118 (xs,c,()) P:=by kernel_rfl
theorem Adm (xs:List Int) (c:List Int×Unit) (P:Bool->Prop):(∃(y3:Int),rT.fn (xs,c,())=some y3/\P (decide (y3>=(0:Int))))=fnW Cr (look [(118,rT)]) rM Try.f131 (xs,c,()) P:=by kernel_rfl
theorem SN (xs ys:List Int) (P:Bool->Prop):(Bk (λ(v3:Int×PUnit) (k4:Int×PUnit->Prop)=>Br (decide (v3.1<(↑ys.length:Int))) (∃(y5:Int),idx ys v3.1=some y5/\ ∃(y6:Bool),Da.fn (xs,y5,())=some y6/\Br (!y6) (P false) (k4 (IntKind.i64.wrap (v3.1+(1:Int)),()))) (P true)) ((0:Int),PUnit.unit))=fnW Cr (look [(153,Da)]) ej Try.f125 (xs,ys,()) P:=by kernel_rfl
abbrev bK:Type:=Int×Int×ByteArray×List (List Int)×PUnit
theorem p9 (p:Int×ByteArray×List (List Int)×Unit) (g:List (List Int)) (P:Bool->Prop):(∃(y3:Bool),Ev.fn ((p.1,p.2.1,p.2.2.1,()),())=some y3/\Br (!y3) (P false) (∃(y4:Bool),Bh.fn ((↑g.length:Int),(1:Int),(5:Int),())=some y4/\Br (!y4) (P false) (Bk (λ(v5:bK) (k6:bK->Prop)=>Br (decide (v5.1<(↑g.length:Int))) (∃(y7:List Int),idx g v5.1=some y7/\ ∃(y8:Bool),Fv.fn (v5.2.1,y7,())=some y8/\Br (!y8) (P false) (Br (decide (v5.1>(0:Int))) (∃(y9:List Int),idx g v5.1=some y9/\ ∃(bh:List Int),idx g (IntKind.i64.wrap (v5.1-(1:Int)))=some bh/\Br (decide ((↑y9.length:Int)<=(↑bh.length:Int))) (P false) (∃(dN:List Int),idx g v5.1=some dN/\ ∃(Yg:List Int),idx g (IntKind.i64.wrap (v5.1-(1:Int)))=some Yg/\ ∃(Wj:Bool),ej.fn (dN,Yg,())=some Wj/\Br (!Wj) (P false) (k6 (IntKind.i64.wrap (v5.1+(1:Int)),v5.2.1,v5.2.2.1,v5.2.2.2.1,())))) (k6 (IntKind.i64.wrap (v5.1+(1:Int)),v5.2.1,v5.2.2.1,v5.2.2.2.1,())))) (∃(y7:List Int),idx g (IntKind.i64.wrap ((↑g.length:Int)-(1:Int)))=some y7/\P ((↑y7.length:Int)==v5.2.1))) ((0:Int),p.1,p.2.1,p.2.2.1,PUnit.unit))))=fnW Cr (look [(110,Ev),(93,Bh),(111,Fv),(125,ej)]) Gx Try.f76 (p,g,()) P:=by kernel_rfl
abbrev bJ:Type:=Int×Int×ByteArray×List (List Int)×PUnit
theorem p7 (p:Int×ByteArray×List (List Int)×Unit) (g:List (List Int)) (P:Bool->Prop):(∃(y3:Bool),Ev.fn ((p.1,p.2.1,p.2.2.1,()),())=some y3/\Br (!y3) (P false) (∃(y4:Int),Nl.fn (g,())=some y4/\ ∃(y5:Bool),Bh.fn (y4,(1:Int),(5:Int),())=some y5/\Br (!y5) (P false) (Bk (λ(v6:bJ) (k7:bJ->Prop)=>Br (decide (v6.1<(↑g.length:Int))) (∃(y8:List Int),idx g v6.1=some y8/\ ∃(y9:Bool),Fv.fn (v6.2.1,y8,())=some y9/\Br (!y9) (P false) (Br (decide (v6.1>(0:Int))) (∃(bh:List Int),idx g (IntKind.i64.wrap (v6.1-(1:Int)))=some bh/\Br (decide ((↑bh.length:Int)>=(↑y8.length:Int))) (P false) (∃(dN:List Int),idx g (IntKind.i64.wrap (v6.1-(1:Int)))=some dN/\ ∃(Yg:Bool),rM.fn (dN,(y8,()),())=some Yg/\Br Yg (P false) (k7 (IntKind.i64.wrap (v6.1+(1:Int)),v6.2.1,v6.2.2.1,v6.2.2.2.1,())))) (k7 (IntKind.i64.wrap (v6.1+(1:Int)),v6.2.1,v6.2.2.1,v6.2.2.2.1,())))) (∃(y8:List Int),idx g (IntKind.i64.wrap ((↑g.length:Int)-(1:Int)))=some y8/\ ∃(y9:Int),Kl.fn (y8,())=some y9/\P (y9==v6.2.1))) ((0:Int),p.1,p.2.1,p.2.2.1,PUnit.unit))))=fnW Cr (look [(130,Ev),(97,Bh),(58,Nl),(66,Fv),(131,rM),(82,Kl)]) Gx Try.f81 (p,g,()) P:=by kernel_rfl
theorem NZ (n:Int) (s:List Int) (P:Bool->Prop):(Br ((↑s.length:Int)==n) (∃(y3:Bool),Eu.fn (s,())=some y3/\P y3) (P false))=fnW Cr (look [(169,Eu)]) Zm Try.f143 (n,s,()) P:=by kernel_rfl
theorem p8 (p:Int×ByteArray×List (List Int)×Unit) (s:List Int) (P:Bool->Prop):(∃(y3:Int),Kl.fn (s,())=some y3/\Br (y3==p.1) (∃(y4:Bool),Eu.fn (s,())=some y4/\P y4) (P false))=fnW Cr (look [(82,Kl),(168,Eu)]) Rb Try.f141 (p,s,()) P:=by kernel_rfl
theorem qz (p:Int×ByteArray×List (List Int)×Unit) (s:List Int) (P:Bool->Prop):(∃(y3:Bool),Ev.fn ((p.1,p.2.1,p.2.2.1,()),())=some y3/\Br y3 (∃(y4:Bool),Zm.fn (p.1,s,())=some y4/\P y4) (P false))=fnW Cr (look [(110,Ev),(143,Zm)]) Uo Try.f103 (p,s,()) P:=by kernel_rfl
theorem RQ (x:Int) (xs:List Int) (h:short xs):fnW Cr (look [(133,Da)]) eu Try.f132 (x,xs,()) (λ(z:Bool)=>z=!Bm xs x):=Eq.mp (SV x xs _) ⟨_,if_pos h,rfl⟩
theorem xG:Sound Try.prog 132 eu:=
 Sound.Cz Bo (Ah oq Ap) mixed Try.func132 (by kernel_rfl) (by kernel_rfl) λx h=>RQ x.1 x.2.1 h
theorem Ad4 (xs:List Int) (c:List Int×Unit) (h:short xs/\short c.1):fnW Cr (look [(132,eu)]) rT Try.f118 (xs,c,()) (λ(z:Int)=>z=Bx (λy=>!Bm c.1 y) xs 0):=by
 obtain ⟨h,h4⟩:=h
 unfold short at h
 refine Eq.mp (Adu xs c _) ?_
 refine Aj xs.length (λv=>v.1) (λj _=>Bx (λy=>!Bm c.1 y) (xs.drop j) j=Bx (λy=>!Bm c.1 y) xs 0) rfl (by simp) ?_
 rintro j ⟨i,⟨⟩⟩ K hj hi hR hK
 dsimp only at hi⊢
 subst hi
 refine Br.dec (λhl=>?_) λhl=>?_
 ·have hl:j<xs.length:=by omega
  rw [List.drop_eq_getElem_cons hl] at hR
  simp only [Bx] at hR
  refine ⟨_,Aq hl,_,if_pos h4,⟨λhe=>?_,λhe=>?_⟩⟩
  ·have he:(!Bm c.1 xs[j])=true:=he
   rw [if_pos he] at hR
   exact hR
  ·have he:(!Bm c.1 xs[j])=false:=he
   rw [if_neg (by rw [he];decide)] at hR
   rw [Al (by omega)]
   exact hK hl _ rfl (by push_cast;exact hR)
 ·have:j=xs.length:=by omega
  subst this
  rw [List.drop_length] at hR
  exact hR
theorem HD:Sound Try.prog 118 rT:=
 Sound.Cz Bo (Ah xG Ap) mixed Try.func118 (by kernel_rfl) (by kernel_rfl) λx h=>Ad4 x.1 x.2.1 h
theorem Acw (xs:List Int) (c:List Int×Unit) (h:short xs/\short c.1):fnW Cr (look [(118,rT)]) rM Try.f131 (xs,c,()) (λ(z:Bool)=>z=List.any xs (λy=>!Bm c.1 y)):=by
 refine Eq.mp (Adm xs c _) ⟨_,if_pos h,?_⟩
 rw [Bool.eq_iff_iff,decide_eq_true_iff]
 exact Wx _ xs 0 (Int.le_refl 0)
theorem GV:Sound Try.prog 131 rM:=
 Sound.Cz Bo (Ah HD Ap) mixed Try.func131 (by kernel_rfl) (by kernel_rfl) λx h=>Acw x.1 x.2.1 h
theorem RK (xs ys:List Int) (h:short xs/\short ys):fnW Cr (look [(153,Da)]) ej Try.f125 (xs,ys,()) (λ(z:Bool)=>z=List.all ys (λy=>Bm xs y)):=by
 obtain ⟨h4,h⟩:=h
 unfold short at h
 refine Eq.mp (SN xs ys _) ?_
 refine Aj ys.length (λv=>v.1) (λj _=> ∀y∈ys.take j,Bm xs y=true) rfl (by simp) ?_
 rintro j ⟨i,⟨⟩⟩ K hj hi hR hK
 dsimp only at hi⊢
 subst hi
 refine Br.dec (λhl=>?_) λhl=>?_
 ·have hl:j<ys.length:=by omega
  refine ⟨_,Aq hl,_,if_pos h4,⟨λhe=>?_,λhe=>?_⟩⟩
  ·have he: ¬Bm xs ys[j]=true:=Ch he
   exact (List.all_eq_false.2 ⟨_,List.getElem_mem hl,he⟩).symm
  ·have he:Bm xs ys[j]=true:=Df he
   rw [Al (by omega)]
   refine hK hl _ rfl ?_
   rw [List.take_succ_eq_append_getElem hl]
   intro x hx
   rcases List.mem_append.1 hx with hx|hx
   ·exact hR x hx
   ·rw [List.mem_singleton.1 hx];exact he
 ·have:j=ys.length:=by omega
  subst this
  rw [List.take_length] at hR
  exact (List.all_eq_true.2 hR).symm
theorem xC:Sound Try.prog 125 ej:=
 Sound.Cz Bo (Ah Xf Ap) mixed Try.func125 (by kernel_rfl) (by kernel_rfl) λx h=>RK x.1 x.2.1 h
theorem BP {a b:Int} {P:Prop} (h:P↔a=b):(a==b)=dec P:=by
 by_cases e:a=b
 ·rw [beq_iff_eq.2 e];exact Ii (h.2 e)
 ·rw [beq_eq_false_iff_ne.2 e];exact Av λhp=>e (h.1 hp)
theorem nU (p:PP) (g:List (List Int)) (h:Dn p/\Cd g):fnW Cr (look [(110,Ev),(93,Bh),(111,Fv),(125,ej)]) Gx Try.f76 (p,g,()) (λ(z:Bool)=>z=Jd p g):=by
 obtain ⟨hp,hg,h4⟩:=h
 refine Eq.mp (p9 p g _) ⟨_,if_pos hp,⟨λh1=>?_,λh1=>⟨_,if_pos trivial,⟨λh2=>?_,λh2=>?_⟩⟩⟩⟩
 ·have h1:=Ch h1
  exact Av λhh=>h1 hh.1
 ·have h2:=Ch h2
  rw [Cb] at h2
  dsimp only at h2
  exact Av λhh=>h2 (by have:=hh.2.1;omega)
 ·have h1:Ax p=true:=Df h1
  have h2:=Df h2
  rw [Cb] at h2
  dsimp only at h2
  have hv:=gJ h1
  refine Aj g.length (λv=>v.1) (λj v=>v.2=(p.1,p.2.1,p.2.2.1,())/\ ∀k,k<j->yr p.1 g k) rfl ⟨rfl,λk hk=>absurd hk (Nat.not_lt_zero _)⟩ ?_
  rintro j ⟨i,v⟩ K hj hi ⟨sW,hR⟩ hK
  dsimp only at hi sW⊢
  subst hi sW
  dsimp only
  refine Br.dec (λhl=>?_) λhl=>?_
  ·have hl:j<g.length:=by omega
   have hm:=h4 _ (List.getElem_mem hl)
   refine ⟨_,Aq hl,_,if_pos ⟨⟨by dsimp only;omega,by dsimp only;omega⟩,hm⟩,⟨λhq=>?_,λhq=>?_⟩⟩
   ·have hq: ¬Fg p.1 g[j]=true:=Ch hq
    exact Av λhh=>hq (hh.2.2.1 j hl hl).1
   ·have hq:Fg p.1 g[j]=true:=Df hq
    refine Br.dec (λh0=>?_) λh0=>?_
    ·have h0:0<j:=by omega
     rw [Bu (by omega) (by omega),show (j:Int)-1=((j-1:Nat):Int) by omega]
     have WQ:=h4 _ (List.getElem_mem (show j-1<g.length by omega))
     refine ⟨_,Aq hl,_,Aq (by omega),Br.dec (λhc=>?_) λhc=>⟨_,Aq hl,_,Aq (by omega),_,if_pos ⟨hm,WQ⟩,⟨λha=>?_,λha=>?_⟩⟩⟩
     ·exact Av λhh=>by have:=((hh.2.2.1 j hl hl).2 h0).1;omega
     ·have ha: ¬List.all g[j-1] (λy=>Bm g[j] y)=true:=Ch ha
      exact Av λhh=>ha (List.all_eq_true.2 λy hy=>decide_eq_true (((hh.2.2.1 j hl hl).2 h0).2 y hy))
     ·have ha:List.all g[j-1] (λy=>Bm g[j] y)=true:=Df ha
      rw [Al (by omega)]
      refine hK hl _ rfl ⟨rfl,λk hk=>?_⟩
      by_cases e:k=j
      ·subst e
       exact λ_=>⟨hq,λ_=>⟨by omega,λy hy=>of_decide_eq_true (List.all_eq_true.1 ha y hy)⟩⟩
      ·exact hR k (by omega)
    ·rw [Al (by omega)]
     refine hK hl _ rfl ⟨rfl,λk hk=>?_⟩
     by_cases e:k=j
     ·subst e
      exact λ_=>⟨hq,λh=>by omega⟩
     ·exact hR k (by omega)
  ·have:j=g.length:=by omega
   subst this
   rw [Bu (by omega) (by omega),show (g.length:Int)-1=((g.length-1:Nat):Int) by omega]
   refine ⟨_,Aq (by omega),BP ?_⟩
   constructor
   ·rintro ⟨_,_,_,x,hx,hn⟩
    rw [List.getElem?_eq_getElem (by omega)] at hx
    rw [Option.some.inj hx];exact hn
   ·intro hn
    exact ⟨h1,by omega,hR,_,List.getElem?_eq_getElem (by omega),hn⟩
theorem gB:Sound Try.prog 76 Gx:=
 Sound.Cz Bo (Ah Ri (Ah Rw (Ah iZ (Ah xC Ap)))) mixed Try.func76 (by kernel_rfl) (by kernel_rfl) λx h=>nU x.1 x.2.1 h
theorem nS (p:PP) (g:List (List Int)) (h:Dn p/\Cd g):fnW Cr (look [(130,Ev),(97,Bh),(58,Nl),(66,Fv),(131,rM),(82,Kl)]) Gx Try.f81 (p,g,()) (λ(z:Bool)=>z=Jd p g):=by
 obtain ⟨hp,hg,h4⟩:=h
 refine Eq.mp (p7 p g _) ⟨_,if_pos hp,⟨λh1=>?_,λh1=>⟨_,if_pos trivial,_,if_pos trivial,⟨λh2=>?_,λh2=>?_⟩⟩⟩⟩
 ·have h1:=Ch h1
  exact Av λhh=>h1 hh.1
 ·have h2:=Ch h2
  rw [Cb] at h2
  dsimp only at h2
  exact Av λhh=>h2 (by have:=hh.2.1;omega)
 ·have h1:Ax p=true:=Df h1
  have h2:=Df h2
  rw [Cb] at h2
  dsimp only at h2
  have hv:=gJ h1
  refine Aj g.length (λv=>v.1) (λj v=>v.2=(p.1,p.2.1,p.2.2.1,())/\ ∀k,k<j->yr p.1 g k) rfl ⟨rfl,λk hk=>absurd hk (Nat.not_lt_zero _)⟩ ?_
  rintro j ⟨i,v⟩ K hj hi ⟨sW,hR⟩ hK
  dsimp only at hi sW⊢
  subst hi sW
  dsimp only
  refine Br.dec (λhl=>?_) λhl=>?_
  ·have hl:j<g.length:=by omega
   have hm:=h4 _ (List.getElem_mem hl)
   refine ⟨_,Aq hl,_,if_pos ⟨⟨by dsimp only;omega,by dsimp only;omega⟩,hm⟩,⟨λhq=>?_,λhq=>?_⟩⟩
   ·have hq: ¬Fg p.1 g[j]=true:=Ch hq
    exact Av λhh=>hq (hh.2.2.1 j hl hl).1
   ·have hq:Fg p.1 g[j]=true:=Df hq
    refine Br.dec (λh0=>?_) λh0=>?_
    ·have h0:0<j:=by omega
     rw [Bu (by omega) (by omega),show (j:Int)-1=((j-1:Nat):Int) by omega]
     have WQ:=h4 _ (List.getElem_mem (show j-1<g.length by omega))
     refine ⟨_,Aq (by omega),Br.dec (λhc=>?_) λhc=>⟨_,Aq (by omega),_,if_pos ⟨WQ,hm⟩,⟨λha=>?_,λha=>?_⟩⟩⟩
     ·exact Av λhh=>by have:=((hh.2.2.1 j hl hl).2 h0).1;omega
     ·have ha:List.any g[j-1] (λy=>!Bm g[j] y)=true:=ha
      obtain ⟨y,hy,hn⟩:=List.any_eq_true.1 ha
      refine Av λhh=>?_
      have:=decide_eq_true (((hh.2.2.1 j hl hl).2 h0).2 y hy)
      have hn:(!decide (y∈g[j]))=true:=hn
      rw [this] at hn;cases hn
     ·have ha:List.any g[j-1] (λy=>!Bm g[j] y)=false:=ha
      rw [Al (by omega)]
      refine hK hl _ rfl ⟨rfl,λk hk=>?_⟩
      by_cases e:k=j
      ·subst e
       refine λ_=>⟨hq,λ_=>⟨by omega,λy hy=>?_⟩⟩
       have hn:=List.any_eq_false.1 ha y hy
       have hn: ¬(!decide (y∈g[k]))=true:=hn
       simpa using hn
      ·exact hR k (by omega)
    ·rw [Al (by omega)]
     refine hK hl _ rfl ⟨rfl,λk hk=>?_⟩
     by_cases e:k=j
     ·subst e
      exact λ_=>⟨hq,λh=>by omega⟩
     ·exact hR k (by omega)
  ·have:j=g.length:=by omega
   subst this
   rw [Bu (by omega) (by omega),show (g.length:Int)-1=((g.length-1:Nat):Int) by omega]
   refine ⟨_,Aq (by omega),_,if_pos trivial,BP ?_⟩
   constructor
   ·rintro ⟨_,_,_,x,hx,hn⟩
    rw [List.getElem?_eq_getElem (by omega)] at hx
    rw [Option.some.inj hx];exact hn
   ·intro hn
    exact ⟨h1,by omega,hR,_,List.getElem?_eq_getElem (by omega),hn⟩
theorem gz:Sound Try.prog 81 Gx:=
 Sound.Cz Bo (Ah Zq (Ah Mh (Ah dy (Ah lQ (Ah GV (Ah Wa Ap)))))) mixed Try.func81 (by kernel_rfl) (by kernel_rfl) λx h=>nS x.1 x.2.1 h
theorem MF (n:Int) (s:List Int) (h:short s):fnW Cr (look [(169,Eu)]) Zm Try.f143 (n,s,()) (λ(z:Bool)=>z=Em n s):=by
 refine Eq.mp (NZ n s _) ⟨λhe=>⟨_,if_pos h,?_⟩,λhe=>?_⟩
 ·simp only [beq_iff_eq] at he
  show Gc s=_
  cases hp:Gc s with
  |true=>exact Ii ⟨he,hp⟩
  |false=>exact Av λhh=>by rw [hh.2] at hp;cases hp
 ·simp only [beq_eq_false_iff_ne,ne_eq] at he
  exact Av λhh=>he hh.1
theorem uj:Sound Try.prog 143 Zm:=
 Sound.Cz Bo (Ah Rh Ap) mixed Try.func143 (by kernel_rfl) (by kernel_rfl) λx h=>MF x.1 x.2.1 h
theorem nT (p:PP) (s:List Int) (h:short s):fnW Cr (look [(82,Kl),(168,Eu)]) Rb Try.f141 (p,s,()) (λ(z:Bool)=>z=Em p.1 s):=by
 refine Eq.mp (p8 p s _) ⟨_,if_pos trivial,⟨λhe=>⟨_,if_pos h,?_⟩,λhe=>?_⟩⟩
 ·simp only [beq_iff_eq] at he
  show Gc s=_
  cases hp:Gc s with
  |true=>exact Ii ⟨he,hp⟩
  |false=>exact Av λhh=>by rw [hh.2] at hp;cases hp
 ·simp only [beq_eq_false_iff_ne,ne_eq] at he
  exact Av λhh=>he hh.1
theorem gA:Sound Try.prog 141 Rb:=
 Sound.Cz Bo (Ah Wa (Ah Zp Ap)) mixed Try.func141 (by kernel_rfl) (by kernel_rfl) λx h=>nT x.1 x.2.1 h
theorem pV (p:PP) (s:List Int) (h:Dn p/\short s):fnW Cr (look [(110,Ev),(143,Zm)]) Uo Try.f103 (p,s,()) (λ(z:Bool)=>z=(Ax p&&Em p.1 s)):=by
 refine Eq.mp (qz p s _) ⟨_,if_pos h.1,⟨λhe=>⟨_,if_pos h.2,?_⟩,λhe=>?_⟩⟩
 ·have he:Ax p=true:=he
  rw [he];rfl
 ·have he:Ax p=false:=he
  rw [he];rfl
theorem j5:Sound Try.prog 103 Uo:=
 Sound.Cz Bo (Ah Ri (Ah uj Ap)) mixed Try.func103 (by kernel_rfl) (by kernel_rfl) λx h=>pV x.1 x.2.1 h
end Go.Proofs.Ytjbdmibbbpdnnaa

namespace Go.Proofs.Ytjbdmibbbpdnnaa
open Go.RowKit
def Ce (xs:List Int) (i:Int):Int:=xs.getD i.toNat 0
def Aa (p q:List Int):List Int:=p.map (Ce q)
def Wn (f:Nat->Nat) (g:Nat->Int) (m:Nat) (init:List Int):List Int:=(List.range m).foldl (λ(out:List Int) (i:Nat)=>out.set (f i) (g i)) init
def An (p:List Int):List Int:=Wn (λi=>(Ce p (i:Int)).toNat) (λi=>(i:Int)) p.length (List.replicate p.length 0)
def Ha (n:Nat) (p:List Int):Prop:= ∀y∈p,0<=y/\y<n
noncomputable abbrev Uj:Spec:=Cz (.pair tL (.pair tL .unit)) tL false true (λx=>List.length x.1<=20/\Ha (List.length x.2.1) x.1) (λx=>Aa x.1 x.2.1)
noncomputable abbrev Er:Spec:=Cz (.pair tL .unit) tL false true (λx=>List.length x.1<=20/\Ha (List.length x.1) x.1) (λx=>An x.1)
noncomputable abbrev Cj:Spec:=Cz (.pair tI .unit) tL false true (λx=>0<=x.1/\x.1<=20) (λx=>upto x.1.toNat)
noncomputable abbrev Ky:Spec:=Cz (.pair tL .unit) tL false true (λx=>Gc x.1=true) (λx=>An x.1)
def Af (g:List (List Int)) (l:Int):List Int:=if l>0 then g.getD (l-1).toNat [] else An (g.getD (-l-1).toNat [])
def Es (n:Int) (l:Int):Prop:=l≠0/\ -n<=l/\l<=n
noncomputable abbrev Rc:Spec:=Cz (.pair bL (.pair tI .unit)) tL false false (λx=>Es (List.length x.1) x.2.1/\List.length x.1<=8/\ ∀p∈x.1,Gc p=true) (λx=>Af x.1 x.2.1)
def Ag (n:Nat):List Int:=(List.range n).flatMap λ(k:Nat)=> [(k:Int)+1,-((k:Int)+1)]
noncomputable abbrev Ih:Spec:=Cz (.pair tI .unit) tL false true (λx=>0<=x.1/\x.1<=8) (λx=>Ag x.1.toNat)
noncomputable abbrev Kp:Spec:=Cz (.pair Dl (.pair tL (.pair tI .unit))) tL false true (λx=>Ax x.1=true/\List.length x.2.1<=20/\(∀y∈x.2.1,0<=y/\y<x.1.1)/\Es (List.length x.1.2.2.1) x.2.2.1) (λx=>Aa x.2.1 (Af x.1.2.2.1 x.2.2.1))
theorem qv (p q:List Int) (P:List Int->Prop):(((0:Int)<=(↑p.length:Int)/\(↑p.length:Int)<(↑Bp:Int)+(1:Int))/\(↑p.length:Int)=(↑p.length:Int)/\0=0/\(List.replicate (↑p.length:Int).toNat (Int.ofNat (nat_lit 0))).length=(List.replicate (↑p.length:Int).toNat (Int.ofNat (nat_lit 0))).length/\Bk (λ(v3:Int×List Int×PUnit) (k4:Int×List Int×PUnit->Prop)=>Br (decide (v3.1<(↑p.length:Int))) (∃(y5:Int),idx p v3.1=some y5/\ ∃(y6:Int),idx q y5=some y6/\((0:Int)<=v3.1/\v3.1<(↑v3.2.1.length:Int))/\0+v3.1.toNat<v3.2.1.length/\0=0/\v3.2.1.length=(v3.2.1.set (0+v3.1.toNat) y6).length/\k4 (IntKind.i64.wrap (v3.1+(1:Int)),v3.2.1.set (0+v3.1.toNat) y6,())) (P (List.take v3.2.1.length (List.drop 0 v3.2.1)))) ((0:Int),List.replicate (↑p.length:Int).toNat (Int.ofNat (nat_lit 0)),PUnit.unit))=fnW Cr (look []) Uj Try.f156 (p,q,()) P:=by kernel_rfl
theorem qw (p:List Int) (P:List Int->Prop):(((0:Int)<=(↑p.length:Int)/\(↑p.length:Int)<(↑Bp:Int)+(1:Int))/\(↑p.length:Int)=(↑p.length:Int)/\0=0/\(List.replicate (↑p.length:Int).toNat (Int.ofNat (nat_lit 0))).length=(List.replicate (↑p.length:Int).toNat (Int.ofNat (nat_lit 0))).length/\Bk (λ(v2:Int×List Int×PUnit) (k3:Int×List Int×PUnit->Prop)=>Br (decide (v2.1<(↑p.length:Int))) (∃(y4:Int),idx p v2.1=some y4/\((0:Int)<=y4/\y4<(↑v2.2.1.length:Int))/\0+y4.toNat<v2.2.1.length/\0=0/\v2.2.1.length=(v2.2.1.set (0+y4.toNat) v2.1).length/\k3 (IntKind.i64.wrap (v2.1+(1:Int)),v2.2.1.set (0+y4.toNat) v2.1,())) (P (List.take v2.2.1.length (List.drop 0 v2.2.1)))) ((0:Int),List.replicate (↑p.length:Int).toNat (Int.ofNat (nat_lit 0)),PUnit.unit))=fnW Cr (look []) Er Try.f175 (p,()) P:=by kernel_rfl
theorem IE (p:List Int) (P:List Int->Prop):(((0:Int)<=(↑p.length:Int)/\(↑p.length:Int)<(↑Bp:Int)+(1:Int))/\(↑p.length:Int)=(↑p.length:Int)/\0=0/\(List.replicate (↑p.length:Int).toNat (Int.ofNat (nat_lit 0))).length=(List.replicate (↑p.length:Int).toNat (Int.ofNat (nat_lit 0))).length/\Bk (λ(v2:Int×List Int×PUnit) (k3:Int×List Int×PUnit->Prop)=>Br (decide (v2.1<(↑p.length:Int))) (∃(y4:Int),idx p v2.1=some y4/\((0:Int)<=y4/\y4<(↑v2.2.1.length:Int))/\0+y4.toNat<v2.2.1.length/\0=0/\v2.2.1.length=(v2.2.1.set (0+y4.toNat) v2.1).length/\k3 (IntKind.i64.wrap (v2.1+(1:Int)),v2.2.1.set (0+y4.toNat) v2.1,())) (P (List.take v2.2.1.length (List.drop 0 v2.2.1)))) ((0:Int),List.replicate (↑p.length:Int).toNat (Int.ofNat (nat_lit 0)),PUnit.unit))=fnW Cr (look []) Er Try.f170 (p,()) P:=by kernel_rfl
theorem qy (p:List Int) (P:List Int->Prop):(∃(y2:Bool),Eu.fn (p,())=some y2/\Br (!y2) (P (List.take 0 (List.drop 0 []))) (∃(y3:List Int),Er.fn (p,())=some y3/\P y3))=fnW Cr (look [(169,Eu),(170,Er)]) Ky Try.f150 (p,()) P:=by kernel_rfl
theorem AZ (n:Int) (P:List Int->Prop):(0=0/\0=([]:List Int).length/\Bk (λ(v2:Int×List Int×PUnit) (k3:Int×List Int×PUnit->Prop)=>Br (decide (v2.1<n)) (0=0/\v2.2.1.length=v2.2.1.length/\v2.2.1.length+(List.take 1 (List.drop 0 [v2.1])).length<=Bp/\0=0/\(v2.2.1++List.take 1 (List.drop 0 [v2.1])).length=(v2.2.1++List.take 1 (List.drop 0 [v2.1])).length/\k3 (IntKind.i64.wrap (v2.1+(1:Int)),v2.2.1++List.take 1 (List.drop 0 [v2.1]),())) (P (List.take v2.2.1.length (List.drop 0 v2.2.1)))) ((0:Int),[],PUnit.unit))=fnW Cr (look []) Cj Try.f124 (n,()) P:=by kernel_rfl
theorem BB (g:List (List Int)) (l:Int) (P:List Int->Prop):(Br (decide (l>(0:Int))) (∃(y3:List Int),idx g (IntKind.i64.wrap (l-(1:Int)))=some y3/\P y3) (∃(y3:List Int),idx g (IntKind.i64.wrap (IntKind.i64.wrap ((0:Int)-l)-(1:Int)))=some y3/\ ∃(y4:List Int),Er.fn (y3,())=some y4/\P y4))=fnW Cr (look [(175,Er)]) Rc Try.f157 (g,l,()) P:=by kernel_rfl
theorem IB (n:Int) (P:List Int->Prop):(0=0/\0=([]:List Int).length/\Bk (λ(v2:Int×List Int×PUnit) (k3:Int×List Int×PUnit->Prop)=>Br (decide (v2.1<n)) (0=0/\v2.2.1.length=v2.2.1.length/\v2.2.1.length+(List.take 2 (List.drop 0 [IntKind.i64.wrap (v2.1+(1:Int)),IntKind.i64.wrap ((0:Int)-IntKind.i64.wrap (v2.1+(1:Int)))])).length<=Bp/\0=0/\(v2.2.1++List.take 2 (List.drop 0 [IntKind.i64.wrap (v2.1+(1:Int)),IntKind.i64.wrap ((0:Int)-IntKind.i64.wrap (v2.1+(1:Int)))])).length=(v2.2.1++List.take 2 (List.drop 0 [IntKind.i64.wrap (v2.1+(1:Int)),IntKind.i64.wrap ((0:Int)-IntKind.i64.wrap (v2.1+(1:Int)))])).length/\k3 (IntKind.i64.wrap (v2.1+(1:Int)),v2.2.1++List.take 2 (List.drop 0 [IntKind.i64.wrap (v2.1+(1:Int)),IntKind.i64.wrap ((0:Int)-IntKind.i64.wrap (v2.1+(1:Int)))]),())) (P (List.take v2.2.1.length (List.drop 0 v2.2.1)))) ((0:Int),[],PUnit.unit))=fnW Cr (look []) Ih Try.f117 (n,()) P:=by kernel_rfl
theorem NU (p:Int×ByteArray×List (List Int)×Unit) (s:List Int) (l:Int) (P:List Int->Prop):(∃(y4:List Int),idx p.2.2.1 (IntKind.i64.wrap ((if true=true then if IntKind.i64.wrap ((0:Int)-l)>l then IntKind.i64.wrap ((0:Int)-l) else l else if IntKind.i64.wrap ((0:Int)-l)<l then IntKind.i64.wrap ((0:Int)-l) else l)-(1:Int)))=some y4/\Br (decide (l<(0:Int))) (∃(y5:List Int),Ky.fn (y4,())=some y5/\0=0/\0=([]:List Int).length/\Bk (λ(v6:Int×List Int×PUnit) (k7:Int×List Int×PUnit->Prop)=>Br (decide (v6.1<(↑s.length:Int))) (∃(y8:Int),idx s v6.1=some y8/\ ∃(y9:Int),idx y5 y8=some y9/\0=0/\v6.2.1.length=v6.2.1.length/\v6.2.1.length+(List.take 1 (List.drop 0 [y9])).length<=Bp/\0=0/\(v6.2.1++List.take 1 (List.drop 0 [y9])).length=(v6.2.1++List.take 1 (List.drop 0 [y9])).length/\k7 (IntKind.i64.wrap (v6.1+(1:Int)),v6.2.1++List.take 1 (List.drop 0 [y9]),())) (P (List.take v6.2.1.length (List.drop 0 v6.2.1)))) ((0:Int),[],PUnit.unit)) (0=0/\0=([]:List Int).length/\Bk (λ(v5:Int×List Int×PUnit) (k6:Int×List Int×PUnit->Prop)=>Br (decide (v5.1<(↑s.length:Int))) (∃(y7:Int),idx s v5.1=some y7/\ ∃(y8:Int),idx y4 y7=some y8/\0=0/\v5.2.1.length=v5.2.1.length/\v5.2.1.length+(List.take 1 (List.drop 0 [y8])).length<=Bp/\0=0/\(v5.2.1++List.take 1 (List.drop 0 [y8])).length=(v5.2.1++List.take 1 (List.drop 0 [y8])).length/\k6 (IntKind.i64.wrap (v5.1+(1:Int)),v5.2.1++List.take 1 (List.drop 0 [y8]),())) (P (List.take v5.2.1.length (List.drop 0 v5.2.1)))) ((0:Int),[],PUnit.unit)))=fnW Cr (look [(150,Ky)]) Kp Try.f115 (p,s,l,()) P:=by kernel_rfl
theorem Ij {xs:List Int} {i:Nat} (h:i<xs.length):Ce xs (i:Int)=xs[i]:=by
 unfold Ce
 rw [Int.toNat_natCast,List.getD_eq_getElem?_getD,List.getElem?_eq_getElem h];rfl
theorem Vi {xs:List Int} {y:Int} (h0:0<=y) (h:y<xs.length):idx xs y=some (Ce xs y):=by
 have hy:y.toNat<xs.length:=by omega
 have e:y=(y.toNat:Int):=by omega
 rw [e,Aq hy,Ij hy]
theorem Tv (f:Nat->Nat) (g:Nat->Int) (m:Nat) (init:List Int):Wn f g (m+1) init=(Wn f g m init).set (f m) (g m):=by simp [Wn,List.range_succ]
theorem Wo (f:Nat->Nat) (g:Nat->Int) (m:Nat) (init:List Int):(Wn f g m init).length=init.length:=by
 induction m with
 |zero=>rfl
 |succ m ih=>rw [Tv,List.length_set,ih]
theorem kM (f:Nat->Nat) (g:Nat->Int) (init:List Int): ∀(m:Nat),(∀i j,i<m->j<m->f i=f j->i=j)-> ∀i,i<m->f i<init.length->(Wn f g m init)[f i]?=some (g i)
 |0,_,i,h,_=>absurd h (Nat.not_lt_zero _)
 |m+1,hf,i,hi,hl=>by
  rw [Tv]
  by_cases e:i=m
  ·subst e
   exact List.getElem?_set_self (by rw [Wo];exact hl)
  ·rw [List.getElem?_set_ne (λh=>e (hf i m hi (by omega) h.symm))]
   exact kM f g init m (λa b ha hb=>hf a b (by omega) (by omega)) i (by omega) hl
structure Ut (p:List Int):Prop where
 pos:1<=p.length
 len:p.length<=20
 row:Ha p.length p
 nodup:p.Nodup
theorem db {p:List Int} (h:Gc p=true):Ut p:=by
 obtain ⟨h1,h2,h3⟩:=Fm.1 h
 refine ⟨h1,h2,λy hy=>?_,cZ λj hj=>(h3 j hj hj).2.2⟩
 obtain ⟨j,hj,rfl⟩:=List.mem_iff_getElem.1 hy
 have:=h3 j hj hj
 omega
theorem Ut.inj {p:List Int} (h:Ut p) (i j:Nat) (hi:i<p.length) (hj:j<p.length) (e:(Ce p (i:Int)).toNat=(Ce p (j:Int)).toNat):i=j:=by
 rw [Ij hi,Ij hj] at e
 have h1:=h.row _ (List.getElem_mem hi)
 have h2:=h.row _ (List.getElem_mem hj)
 have e:p[i]=p[j]:=by omega
 refine Classical.byContradiction λEp=>?_
 rcases Nat.lt_or_gt_of_ne Ep with hl|hl
 ·exact List.pairwise_iff_getElem.1 h.nodup i j hi hj hl e
 ·exact List.pairwise_iff_getElem.1 h.nodup j i hj hi hl e.symm
theorem Ut.LX {p:List Int} (h:Ut p) (k:Nat) (hk:k<p.length): ∃i,i<p.length/\(Ce p (i:Int)).toNat=k:=by
 have hm:=(Xo (xs:=p) h.row).2 (oV h.nodup) k hk
 obtain ⟨i,hi,e⟩:=List.mem_iff_getElem.1 hm
 exact ⟨i,hi,by rw [Ij hi,e];exact Int.toNat_natCast k⟩
theorem Ut.lt {p:List Int} (h:Ut p) {i:Nat} (hi:i<p.length):(Ce p (i:Int)).toNat<p.length:=by
 rw [Ij hi]
 have:=h.row _ (List.getElem_mem hi)
 omega
theorem mc (p:List Int):(An p).length=p.length:=by unfold An;rw [Wo,List.length_replicate]
theorem LC {p:List Int} (h:Ut p) {i:Nat} (hi:i<p.length):(An p)[(Ce p (i:Int)).toNat]?=some (i:Int):=
 kM (λi=>(Ce p (i:Int)).toNat) (λi=>(i:Int)) _ p.length (λi j hi hj=>h.inj i j hi hj) i hi (by rw [List.length_replicate];exact h.lt hi)
theorem RD {p:List Int} (h:Ut p):Ha p.length (An p):=by
 intro y hy
 obtain ⟨k,hk,rfl⟩:=List.mem_iff_getElem.1 hy
 have nj:k<p.length:=by rw [mc] at hk;exact hk
 obtain ⟨i,hi,rfl⟩:=h.LX k nj
 have:=LC h hi
 rw [List.getElem?_eq_getElem hk] at this
 rw [Option.some.inj this]
 omega
theorem Ob (p q:List Int):(Aa p q).length=p.length:=by simp [Aa]
theorem vN {p q:List Int} {n:Nat} (hp:Ha q.length p) (hq:Ha n q):Ha n (Aa p q):=by
 intro y hy
 obtain ⟨x,hx,rfl⟩:=List.mem_map.1 hy
 have h1:=hp x hx
 rw [show x=(x.toNat:Int) by omega,Ij (by omega)]
 exact hq _ (List.getElem_mem _)
theorem pR (p q:List Int) (h:p.length<=20/\Ha q.length p):fnW Cr (look []) Uj Try.f156 (p,q,()) (λ(z:List Int)=>z=Aa p q):=by
 obtain ⟨h,hr⟩:=h
 refine Eq.mp (qv p q _) ?_
 refine ⟨⟨by omega,by show (p.length:Int)<(4294967296:Int)+1;omega⟩,rfl,rfl,rfl,?_⟩
 have Of:=Ob p q
 refine Aj p.length (λv=>v.1) (λj v=>v.2.1.length=(Aa p q).length/\v.2.1.take j=(Aa p q).take j) rfl ⟨by rw [Of];simp,by simp⟩ ?_
 rintro j ⟨i,ys,⟨⟩⟩ K hj hi ⟨h1,h2⟩ hK
 dsimp only at hi h1 h2⊢
 subst hi
 refine Br.dec (λhl=>?_) λhl=>?_
 ·have hl:j<p.length:=by omega
  have hy:=hr _ (List.getElem_mem hl)
  refine ⟨_,Aq hl,_,Vi hy.1 hy.2,⟨by omega,by omega⟩,by rw [Int.toNat_natCast];omega,rfl,by rw [List.length_set],?_⟩
  rw [Al (by omega),Int.toNat_natCast,Nat.zero_add]
  have Hg:j<(Aa p q).length:=by rw [Of];exact hl
  have e:Ce q p[j]=(Aa p q)[j]:=by simp [Aa]
  rw [e]
  exact hK hl _ rfl ⟨by rw [List.length_set];exact h1,Kz Hg h1 h2⟩
 ·have:j=p.length:=by omega
  subst this
  rw [<-Of,List.take_length,<-h1,List.take_length] at h2
  rw [List.drop_zero,List.take_length]
  exact h2
theorem Pv:Sound Try.prog 156 Uj:=
 Sound.Cz Bo Ap mixed Try.func156 (by kernel_rfl) (by kernel_rfl) λx h=>pR x.1 x.2.1 h
theorem pS (p:List Int) (h:p.length<=20/\Ha p.length p):fnW Cr (look []) Er Try.f175 (p,()) (λ(z:List Int)=>z=An p):=by
 obtain ⟨h,hr⟩:=h
 refine Eq.mp (qw p _) ?_
 refine ⟨⟨by omega,by show (p.length:Int)<(4294967296:Int)+1;omega⟩,rfl,rfl,rfl,?_⟩
 refine Aj p.length (λv=>v.1) (λj v=>v.2.1=Wn (λi=>(Ce p (i:Int)).toNat) (λi=>(i:Int)) j (List.replicate p.length 0)) rfl rfl ?_
 rintro j ⟨i,ys,⟨⟩⟩ K hj hi h1 hK
 dsimp only at hi h1⊢
 subst hi
 have hlen:ys.length=p.length:=by rw [h1,Wo,List.length_replicate]
 refine Br.dec (λhl=>?_) λhl=>?_
 ·have hl:j<p.length:=by omega
  have hy:=hr _ (List.getElem_mem hl)
  refine ⟨_,Aq hl,⟨by omega,by omega⟩,by omega,rfl,by rw [List.length_set],?_⟩
  rw [Al (by omega),Nat.zero_add]
  refine hK hl _ rfl ?_
  rw [Tv,<-h1,Ij hl]
 ·have:j=p.length:=by omega
  subst this
  rw [List.drop_zero,List.take_length]
  exact h1
theorem Pw:Sound Try.prog 175 Er:=
 Sound.Cz Bo Ap mixed Try.func175 (by kernel_rfl) (by kernel_rfl) λx h=>pS x.1 h
theorem GF (p:List Int) (h:p.length<=20/\Ha p.length p):fnW Cr (look []) Er Try.f170 (p,()) (λ(z:List Int)=>z=An p):=by
 obtain ⟨h,hr⟩:=h
 refine Eq.mp (IE p _) ?_
 refine ⟨⟨by omega,by show (p.length:Int)<(4294967296:Int)+1;omega⟩,rfl,rfl,rfl,?_⟩
 refine Aj p.length (λv=>v.1) (λj v=>v.2.1=Wn (λi=>(Ce p (i:Int)).toNat) (λi=>(i:Int)) j (List.replicate p.length 0)) rfl rfl ?_
 rintro j ⟨i,ys,⟨⟩⟩ K hj hi h1 hK
 dsimp only at hi h1⊢
 subst hi
 have hlen:ys.length=p.length:=by rw [h1,Wo,List.length_replicate]
 refine Br.dec (λhl=>?_) λhl=>?_
 ·have hl:j<p.length:=by omega
  have hy:=hr _ (List.getElem_mem hl)
  refine ⟨_,Aq hl,⟨by omega,by omega⟩,by omega,rfl,by rw [List.length_set],?_⟩
  rw [Al (by omega),Nat.zero_add]
  refine hK hl _ rfl ?_
  rw [Tv,<-h1,Ij hl]
 ·have:j=p.length:=by omega
  subst this
  rw [List.drop_zero,List.take_length]
  exact h1
theorem qi:Sound Try.prog 170 Er:=
 Sound.Cz Bo Ap mixed Try.func170 (by kernel_rfl) (by kernel_rfl) λx h=>GF x.1 h
theorem pU (p:List Int) (h:Gc p=true):fnW Cr (look [(169,Eu),(170,Er)]) Ky Try.f150 (p,()) (λ(z:List Int)=>z=An p):=by
 have hp:=db h
 have hs:short p:=by have:=hp.len;unfold short;omega
 refine Eq.mp (qy p _) ⟨_,if_pos hs,⟨λhe=>?_,λ_=>⟨_,if_pos ⟨hp.len,hp.row⟩,rfl⟩⟩⟩
 exact absurd h (Ch he)
theorem j4:Sound Try.prog 150 Ky:=
 Sound.Cz Bo (Ah Rh (Ah qi Ap)) mixed Try.func150 (by kernel_rfl) (by kernel_rfl) λx h=>pU x.1 h
theorem Zs (j:Nat):upto (j+1)=upto j++ [(j:Int)]:=by simp [upto,List.range_succ]
theorem zI (n:Int) (h:0<=n/\n<=20):fnW Cr (look []) Cj Try.f124 (n,()) (λ(z:List Int)=>z=upto n.toNat):=by
 refine Eq.mp (AZ n _) ⟨rfl,rfl,?_⟩
 refine Aj n.toNat (λv=>v.1) (λj v=>v.2.1=upto j) rfl rfl ?_
 rintro j ⟨i,ys,⟨⟩⟩ K hj hi h1 hK
 dsimp only at hi h1⊢
 subst hi h1
 refine Br.dec (λhl=>?_) λhl=>?_
 ·refine ⟨rfl,rfl,?_,rfl,rfl,?_⟩
  ·show (upto j).length+1<=4294967296
   rw [Py];omega
  ·rw [Al (by omega)]
   exact hK (by omega) _ rfl (Zs j).symm
 ·have:j=n.toNat:=by omega
  subst this
  rw [List.drop_zero,List.take_length]
theorem ow:Sound Try.prog 124 Cj:=
 Sound.Cz Bo Ap mixed Try.func124 (by kernel_rfl) (by kernel_rfl) λx h=>zI x.1 h
theorem Lq {g:List (List Int)} {k:Nat} (h:k<g.length):Af g ((k:Int)+1)=g[k]:=by
 unfold Af
 rw [if_pos (by omega),show ((k:Int)+1-1).toNat=k by omega,List.getD_eq_getElem?_getD,List.getElem?_eq_getElem h];rfl
theorem Lp {g:List (List Int)} {k:Nat} (h:k<g.length):Af g (-((k:Int)+1))=An g[k]:=by
 unfold Af
 rw [if_neg (by omega),show (-(-((k:Int)+1))-1).toNat=k by omega,List.getD_eq_getElem?_getD,List.getElem?_eq_getElem h];rfl
theorem Mb {n:Nat} {l:Int} (h:Es n l): ∃k:Nat,k<n/\(l=(k:Int)+1\/l= -((k:Int)+1)):=by
 obtain ⟨h1,h2,h3⟩:=h
 by_cases h0:0<l
 ·exact ⟨(l-1).toNat,by omega, .inl (by omega)⟩
 ·exact ⟨(-l-1).toNat,by omega, .inr (by omega)⟩
theorem zK (g:List (List Int)) (l:Int) (h:Es (List.length g) l/\List.length g<=8/\ ∀p∈g,Gc p=true):fnW Cr (look [(175,Er)]) Rc Try.f157 (g,l,()) (λ(z:List Int)=>z=Af g l):=by
 obtain ⟨hl,h8,hp⟩:=h
 refine Eq.mp (BB g l _) ?_
 obtain ⟨k,hk,rfl|rfl⟩:=Mb hl
 ·refine Br.dec (λ_=>?_) λhn=>by omega
  rw [Bu (by omega) (by omega),show (k:Int)+1-1=(k:Int) by omega]
  exact ⟨_,Aq hk,(Lq hk).symm⟩
 ·refine Br.dec (λhn=>by omega) λ_=>?_
  rw [Bu (n:=0- -((k:Int)+1)) (by omega) (by omega),Bu (by omega) (by omega),show (0:Int)- -((k:Int)+1)-1=(k:Int) by omega]
  have:=db (hp _ (List.getElem_mem hk))
  exact ⟨_,Aq hk,_,if_pos ⟨this.len,this.row⟩,(Lp hk).symm⟩
theorem oA:Sound Try.prog 157 Rc:=
 Sound.Cz Bo (Ah Pw Ap) mixed Try.func157 (by kernel_rfl) (by kernel_rfl) λx h=>zK x.1 x.2.1 h
theorem Vp (j:Nat):Ag (j+1)=Ag j++ [(j:Int)+1,-((j:Int)+1)]:=by simp [Ag,List.range_succ,List.flatMap_append]
theorem Kv (j:Nat):(Ag j).length=2*j:=by
 induction j with
 |zero=>rfl
 |succ j ih=>rw [Vp,List.length_append,ih];simp only [List.length_cons,List.length_nil];omega
theorem Iq {n:Nat} {l:Int} (h:l∈Ag n):Es n l:=by
 unfold Ag at h
 obtain ⟨k,hk,hl⟩:=List.mem_flatMap.1 h
 have hk:=List.mem_range.1 hk
 simp only [List.mem_cons,List.not_mem_nil,or_false] at hl
 unfold Es
 omega
theorem GB (n:Int) (h:0<=n/\n<=8):fnW Cr (look []) Ih Try.f117 (n,()) (λ(z:List Int)=>z=Ag n.toNat):=by
 refine Eq.mp (IB n _) ⟨rfl,rfl,?_⟩
 refine Aj n.toNat (λv=>v.1) (λj v=>v.2.1=Ag j) rfl rfl ?_
 rintro j ⟨i,ys,⟨⟩⟩ K hj hi h1 hK
 dsimp only at hi h1⊢
 subst hi h1
 refine Br.dec (λhl=>?_) λhl=>?_
 ·refine ⟨rfl,rfl,?_,rfl,rfl,?_⟩
  ·show (Ag j).length+2<=4294967296
   rw [Kv];omega
  ·have e1:IntKind.i64.wrap ((j:Int)+1)=(j:Int)+1:=Bu (by omega) (by omega)
   have e2:IntKind.i64.wrap ((0:Int)-((j:Int)+1))= -((j:Int)+1):=by rw [Bu (by omega) (by omega)];omega
   rw [e1,e2]
   exact hK (by omega) _ rfl (Vp j).symm
 ·have:j=n.toNat:=by omega
  subst this
  rw [List.drop_zero,List.take_length]
theorem Yb:Sound Try.prog 117 Ih:=
 Sound.Cz Bo Ap mixed Try.func117 (by kernel_rfl) (by kernel_rfl) λx h=>GB x.1 h
structure Valid (p:PP):Prop where
 n:1<=p.1/\p.1<=20
 pb:1<=p.2.2.1.length/\p.2.2.1.length<=8
 perm: ∀m∈p.2.2.1,Gc m=true
 len: ∀m∈p.2.2.1,(m.length:Int)=p.1
theorem valid {p:PP} (h:Ax p=true):Valid p:=by
 have h0:=gJ h
 obtain ⟨h1,_,_⟩:=Fm.1 h
 obtain ⟨_,_,h4⟩:=Fm.1 h1
 exact ⟨⟨h0.1,h0.2.1⟩,h0.2.2,λm hm=>(Fm.1 (h4 m hm)).2,λm hm=>(Fm.1 (h4 m hm)).1⟩
theorem jL {p:PP} (h:Valid p) {l:Int} (hl:Es (List.length p.2.2.1) l):((Af p.2.2.1 l).length:Int)=p.1/\Ha (Af p.2.2.1 l).length (Af p.2.2.1 l):=by
 obtain ⟨k,hk,rfl|rfl⟩:=Mb hl
 ·rw [Lq hk]
  exact ⟨h.len _ (List.getElem_mem hk),(db (h.perm _ (List.getElem_mem hk))).row⟩
 ·rw [Lp hk,mc]
  exact ⟨h.len _ (List.getElem_mem hk),RD (db (h.perm _ (List.getElem_mem hk)))⟩
theorem vr (s y:List Int) (P:List Int->Prop) (h1:s.length<=20) (h2:Ha y.length s) (h3:P (Aa s y)):
  Bk
   (λ(v5:Int×List Int×PUnit) (k6:Int×List Int×PUnit->Prop)=>
    Br (decide (v5.1<(↑s.length:Int)))
     (∃(y7:Int),
      idx s v5.1=some y7/\
       ∃(y8:Int),
        idx y y7=some y8/\
         (0:Nat)=(0:Nat)/\
          v5.2.1.length=v5.2.1.length/\
           v5.2.1.length+(List.take (1:Nat) (List.drop (0:Nat) [y8])).length<=Bp/\
            (0:Nat)=(0:Nat)/\
             (v5.2.1++List.take (1:Nat) (List.drop (0:Nat) [y8])).length=(v5.2.1++List.take (1:Nat) (List.drop (0:Nat) [y8])).length/\
              k6 (IntKind.i64.wrap (v5.1+(1:Int)),v5.2.1++List.take (1:Nat) (List.drop (0:Nat) [y8]),()))
     (P (List.take v5.2.1.length (List.drop (0:Nat) v5.2.1))))
   ((0:Int),([]:List Int),PUnit.unit):=by
 refine Aj s.length (λv=>v.1) (λj v=>v.2.1=(s.take j).map (Ce y)) rfl (by simp) ?_
 rintro j ⟨i,ys,⟨⟩⟩ K hj hi hR hK
 dsimp only at hi hR⊢
 subst hi hR
 refine Br.dec (λhl=>?_) λhl=>?_
 ·have hl:j<s.length:=by omega
  have hy:=h2 _ (List.getElem_mem hl)
  refine ⟨_,Aq hl,_,Vi hy.1 hy.2,rfl,rfl,?_,rfl,rfl,?_⟩
  ·show ((s.take j).map (Ce y)).length+1<=4294967296
   rw [List.length_map,List.length_take];omega
  ·rw [Al (by omega)]
   refine hK hl _ rfl ?_
   dsimp only
   rw [List.take_succ_eq_append_getElem hl,List.map_append]
   rfl
 ·have:j=s.length:=by omega
  subst this
  rw [List.drop_zero,List.take_length,List.take_length]
  exact h3
theorem MA (p:PP) (s:List Int) (l:Int) (h:Ax p=true/\List.length s<=20/\(∀y∈s,0<=y/\y<p.1)/\Es (List.length p.2.2.1) l):fnW Cr (look [(150,Ky)]) Kp Try.f115 (p,s,l,()) (λ(z:List Int)=>z=Aa s (Af p.2.2.1 l)):=by
 obtain ⟨hv,hs,hr,hl⟩:=h
 have hv:=valid hv
 have hf:=hv.pb
 refine Eq.mp (NU p s l _) ?_
 have KI:=jL hv hl
 have Qp:Ha (Af p.2.2.1 l).length s:= λy hy=>by have:=hr y hy;omega
 obtain ⟨k,hk,rfl|rfl⟩:=Mb hl
 ·rw [if_pos rfl,Bu (n:=0-((k:Int)+1)) (by omega) (by omega),if_neg (by omega),Bu (by omega) (by omega),show (k:Int)+1-1=(k:Int) by omega]
  refine ⟨_,Aq hk,Br.dec (λhn=>by omega) λ_=>⟨rfl,rfl,?_⟩⟩
  rw [Lq hk] at Qp⊢
  exact vr s _ (λz=>z=Aa s p.2.2.1[k]) hs Qp rfl
 ·rw [if_pos rfl,Bu (n:=0- -((k:Int)+1)) (by omega) (by omega),if_pos (by omega),Bu (by omega) (by omega),show (0:Int)- -((k:Int)+1)-1=(k:Int) by omega]
  refine ⟨_,Aq hk,Br.dec (λ_=>⟨_,if_pos (hv.perm _ (List.getElem_mem hk)),rfl,rfl,?_⟩) λhn=>by omega⟩
  rw [Lp hk] at Qp⊢
  exact vr s (An p.2.2.1[k]) (λz=>z=Aa s (An p.2.2.1[k])) hs Qp rfl
theorem aU:Sound Try.prog 115 Kp:=
 Sound.Cz Bo (Ah j4 Ap) mixed Try.func115 (by kernel_rfl) (by kernel_rfl) λx h=>MA x.1 x.2.1 x.2.2.1 h
end Go.Proofs.Ytjbdmibbbpdnnaa

namespace Go.Proofs.Ytjbdmibbbpdnnaa
open Go.RowKit
abbrev rL:CK:= .row tI 2
abbrev xLL:CK:= .Dv tL 25
def Jm (k:Int) (n:Nat):List Int:=(List.range n).map λi=>k+(i:Nat)
def Cw:Int->List (List Int)->List (List Int)
 |_,[]=> []
 |k,r::rs=>Jm k r.length::Cw (k+r.length) rs
def Bf:List (List Int)->Nat
 | []=>0
 |r::rs=>r.length+Bf rs
def low (k:Int):Prop:=0<=k/\k<=1099511627776
noncomputable abbrev Ua:MSpec:=jR [none,none] [(true,rL),(false, .Ft tI)] false [none] [.Ft tI] (λx=>short x.1/\low x.2.1) (λx=>((x.2.1+List.length x.1,()),(Jm x.2.1 (List.length x.1),())))
noncomputable abbrev Nd:MSpec:=jR [none,none] [(true,xLL),(false, .Ft tI)] false [none] [.Ft tI] (λx=>Cd x.1/\low x.2.1/\low (x.2.1+Bf x.1)) (λx=>((x.2.1+Bf x.1,()),(Cw x.2.1 x.1,())))
noncomputable abbrev Md:MSpec:=jR [some 3,none] [(false, .Ft tI),(false, .Ft .str),(true,xLL),(false, .Ft tI)] false [none] [.Ft tI]
 (λx=>Cd x.2.2.1/\low x.2.2.2.1/\low (x.2.2.2.1+Bf x.2.2.1)) (λx=>((x.2.2.2.1+Bf x.2.2.1,()),(Cw x.2.2.2.1 x.2.2.1,())))
def Nj (xs:List Int) (k:Int):Int:=if xs=Jm k xs.length then k+xs.length else-1
noncomputable abbrev eo:Spec:=Cz (.pair tL (.pair tI .unit)) tI false true (λx=>short x.1/\low x.2.1) (λx=>Nj x.1 x.2.1)
def Pl:List (List Int)->Int->Int
 | [],k=>k
 |r::rs,k=>if Nj r k<0 then-1 else Pl rs (Nj r k)
noncomputable abbrev Vw:Spec:=Cz (.pair bL (.pair tI .unit)) tI false true (λx=>Cd x.1/\low x.2.1/\low (x.2.1+Bf x.1)) (λx=>Pl x.1 x.2.1)
noncomputable abbrev Tb:MSpec:=jR [none] [(false, .Ft tL)] false [none] [rL] (λx=>short x.1) (λx=>((x.1,()),()))
noncomputable abbrev Nm:MSpec:=jR [none] [(false, .Ft bL)] false [none] [xLL] (λx=>Cd x.1) (λx=>((x.1,()),()))
noncomputable abbrev Kc:MSpec:=jR [some 3] [(false, .Ft tI),(false, .Ft .str),(false, .Ft bL)] false [some 3] [.Ft tI, .Ft .str,xLL] (λx=>Dn (x.1,x.2.1,x.2.2.1,())) (λx=>((x.1,x.2.1,x.2.2.1,()),()))
theorem SU (xs:List Int) (k:Int) (P:((Int×Unit)×List Int×Unit)->Prop):(0=0/\xs.length=xs.length/\Bk (λ(v3:Int×Int×List Int×PUnit) (k4:Int×Int×List Int×PUnit->Prop)=>Br (decide (v3.2.1<(↑v3.2.2.1.length:Int))) (((0:Int)<=v3.2.1/\v3.2.1<(↑v3.2.2.1.length:Int))/\0+v3.2.1.toNat<v3.2.2.1.length/\0=0/\v3.2.2.1.length=(v3.2.2.1.set (0+v3.2.1.toNat) v3.1).length/\k4 (IntKind.i64.wrap (v3.1+(1:Int)),IntKind.i64.wrap (v3.2.1+(1:Int)),v3.2.2.1.set (0+v3.2.1.toNat) v3.1,())) (P ((v3.1,()),v3.2.2.1,()))) (k,(0:Int),xs,PUnit.unit))=fnMW Ye (look []) Ua Try.f26 (xs,k,()) P:=by kernel_rfl
theorem NX (xs:List (List Int)) (k:Int) (P:((Int×Unit)×List (List Int)×Unit)->Prop):(0=0/\xs.length=xs.length/\Bk (λ(v3:Int×Int×List (List Int)×PUnit) (k4:Int×Int×List (List Int)×PUnit->Prop)=>Br (decide (v3.2.1<(↑v3.2.2.1.length:Int))) (((0:Int)<=v3.2.1/\v3.2.1<(↑v3.2.2.1.length:Int))/\ ∃(y5:List Int),v3.2.2.1[0+v3.2.1.toNat]?=some y5/\ ∃(y6:List Int),v3.2.2.1[0+v3.2.1.toNat]?=some y6/\ ∃(y7:(Int×PUnit)×List Int×PUnit),Ua.fn (y6,v3.1,())=some y7/\ ∃(y8:List Int),v3.2.2.1[0+v3.2.1.toNat]?=some y8/\y7.2.1.length=y8.length/\0=0/\v3.2.2.1.length=(v3.2.2.1.set (0+v3.2.1.toNat) y7.2.1).length/\k4 (y7.1.1,IntKind.i64.wrap (v3.2.1+(1:Int)),v3.2.2.1.set (0+v3.2.1.toNat) y7.2.1,())) (P ((v3.1,()),v3.2.2.1,()))) (k,(0:Int),xs,PUnit.unit))=fnMW Ye (look [(26,Ua)]) Nd Try.f41 (xs,k,()) P:=by kernel_rfl
theorem uQ (n:Int) (s:ByteArray) (b:List (List Int)) (k:Int) (P:((Int×Unit)×List (List Int)×Unit)->Prop):(0=0/\b.length=b.length/\ ∃(y5:(Int×PUnit)×List (List Int)×PUnit),Nd.fn (b,k,())=some y5/\(y5.2.1.length=b.length/\b.length=b.length)/\P ((y5.1.1,()),y5.2.1,()))=fnMW Ye (look [(41,Nd)]) Md Try.f25 (n,s,b,k,()) P:=by kernel_rfl
theorem SP (xs:List Int) (k:Int) (P:Int->Prop):(Bk (λ(v3:Int×Int×PUnit) (k4:Int×Int×PUnit->Prop)=>Br (decide (v3.2.1<(↑xs.length:Int))) (∃(y5:Int),idx xs v3.2.1=some y5/\Br (y5 !=v3.1) (P (-1:Int)) (k4 (IntKind.i64.wrap (v3.1+(1:Int)),IntKind.i64.wrap (v3.2.1+(1:Int)),()))) (P v3.1)) (k,(0:Int),PUnit.unit))=fnW Cr (look []) eo Try.f27 (xs,k,()) P:=by kernel_rfl
theorem NW (xs:List (List Int)) (k:Int) (P:Int->Prop):(Bk (λ(v3:Int×Int×PUnit) (k4:Int×Int×PUnit->Prop)=>Br (decide (v3.2.1<(↑xs.length:Int))) (∃(y5:List Int),idx xs v3.2.1=some y5/\ ∃(y6:Int),eo.fn (y5,v3.1,())=some y6/\Br (decide (y6<(0:Int))) (P (-1:Int)) (k4 (y6,IntKind.i64.wrap (v3.2.1+(1:Int)),()))) (P v3.1)) (k,(0:Int),PUnit.unit))=fnW Cr (look [(27,eo)]) Vw Try.f42 (xs,k,()) P:=by kernel_rfl
theorem ZK (xs:List Int) (P:((List Int×Unit)×Unit)->Prop):(((0:Int)<=(↑xs.length:Int)/\(↑xs.length:Int)<(↑Bp:Int)+(1:Int))/\(↑xs.length:Int)=(↑xs.length:Int)/\0=0/\(List.replicate (↑xs.length:Int).toNat (Int.ofNat (nat_lit 0))).length=(List.replicate (↑xs.length:Int).toNat (Int.ofNat (nat_lit 0))).length/\Bk (λ(v2:Int×List Int×PUnit) (k3:Int×List Int×PUnit->Prop)=>Br (decide (v2.1<(↑xs.length:Int))) (∃(y4:Int),idx xs v2.1=some y4/\((0:Int)<=v2.1/\v2.1<(↑v2.2.1.length:Int))/\0+v2.1.toNat<v2.2.1.length/\0=0/\v2.2.1.length=(v2.2.1.set (0+v2.1.toNat) y4).length/\k3 (IntKind.i64.wrap (v2.1+(1:Int)),v2.2.1.set (0+v2.1.toNat) y4,())) (P ((List.take v2.2.1.length (List.drop 0 v2.2.1),()),()))) ((0:Int),List.replicate (↑xs.length:Int).toNat (Int.ofNat (nat_lit 0)),PUnit.unit))=fnMW Ye (look []) Tb Try.f17 (xs,()) P:=by kernel_rfl
theorem TA (xs:List (List Int)) (P:((List (List Int)×Unit)×Unit)->Prop):(((0:Int)<=(↑xs.length:Int)/\(↑xs.length:Int)<(↑Bp:Int)+(1:Int))/\(↑xs.length:Int)=(↑xs.length:Int)/\0=0/\(List.replicate (↑xs.length:Int).toNat ([]:List Int)).length=(List.replicate (↑xs.length:Int).toNat ([]:List Int)).length/\Bk (λ(v2:Int×List (List Int)×PUnit) (k3:Int×List (List Int)×PUnit->Prop)=>Br (decide (v2.1<(↑xs.length:Int))) (∃(y4:List Int),idx xs v2.1=some y4/\ ∃(y5:(List Int×PUnit)×PUnit),Tb.fn (y4,())=some y5/\((0:Int)<=v2.1/\v2.1<(↑v2.2.1.length:Int))/\0+v2.1.toNat<v2.2.1.length/\0=0/\v2.2.1.length=(v2.2.1.set (0+v2.1.toNat) (List.take y5.1.1.length (List.drop 0 y5.1.1))).length/\k3 (IntKind.i64.wrap (v2.1+(1:Int)),v2.2.1.set (0+v2.1.toNat) (List.take y5.1.1.length (List.drop 0 y5.1.1)),())) (P ((List.take v2.2.1.length (List.drop 0 v2.2.1),()),()))) ((0:Int),List.replicate (↑xs.length:Int).toNat ([]:List Int),PUnit.unit))=fnMW Ye (look [(17,Tb)]) Nm Try.f36 (xs,()) P:=by kernel_rfl
theorem yc (n:Int) (s:ByteArray) (b:List (List Int)) (P:((Int×ByteArray×List (List Int)×Unit)×Unit)->Prop):(∃(y4:(List (List Int)×PUnit)×PUnit),Nm.fn (b,())=some y4/\P ((n,s,List.take y4.1.1.length (List.drop 0 y4.1.1),()),()))=fnMW Ye (look [(36,Nm)]) Kc Try.f16 (n,s,b,()) P:=by kernel_rfl
theorem Bi {α:Type} (xs:List α):List.take xs.length (List.drop 0 xs)=xs:=by rw [List.drop_zero,List.take_length]
theorem Sl (k:Int) (n:Nat):(Jm k n).length=n:=by simp [Jm]
theorem iH (k:Int) (n:Nat):Jm k (n+1)=Jm k n++ [k+(n:Nat)]:=by simp [Jm,List.range_succ]
theorem cX (a b:List (List Int)):Bf (a++b)=Bf a+Bf b:=by
 induction a with
 |nil=>simp [Bf]
 |cons r a ih=>simp only [List.cons_append,Bf,ih];omega
theorem Zg: ∀(a b:List (List Int)) (k:Int),Cw k (a++b)=Cw k a++Cw (k+Bf a) b
 | [],b,k=>by simp [Cw,Bf]
 |r::a,b,k=>by
  simp only [List.cons_append,Cw,Bf,Zg a b]
  congr 3
  omega
theorem Je: ∀(xs:List (List Int)) (k:Int),(Cw k xs).length=xs.length
 | [],_=>rfl
 |r::xs,k=>by simp [Cw,Je xs]
theorem Xw: ∀(xs:List (List Int)) (k:Int),Bf (Cw k xs)=Bf xs
 | [],_=>rfl
 |r::xs,k=>by simp [Cw,Bf,Sl,Xw xs]
theorem q8 {xs:List (List Int)} (h:Cd xs) (k:Int):Cd (Cw k xs):=by
 refine ⟨by rw [Je];exact h.1,?_⟩
 have: ∀(xs:List (List Int)) (k:Int),(∀r∈xs,short r)-> ∀r∈Cw k xs,short r:=by
  intro xs
  induction xs with
  |nil=>intro k _ r hr;cases hr
  |cons a xs ih=>
   intro k hx r hr
   simp only [Cw] at hr
   rcases List.mem_cons.1 hr with rfl|hr
   ·have:=hx a (by simp);unfold short at*;rw [Sl];exact this
   ·exact ih _ (λr hr=>hx r (List.mem_cons_of_mem _ hr)) r hr
 exact this xs k h.2
theorem iK {xs:List (List Int)} {j:Nat} (h:j<xs.length):Bf (xs.drop j)=xs[j].length+Bf (xs.drop (j+1)):=by
 rw [List.drop_eq_getElem_cons h];rfl
theorem tC {xs:List (List Int)} {j:Nat} (h:j<xs.length):Bf (xs.take (j+1))=Bf (xs.take j)+xs[j].length:=by
 rw [List.take_succ_eq_append_getElem h,cX];simp [Bf]
theorem pK (xs:List (List Int)) (j:Nat):Bf (xs.take j)+Bf (xs.drop j)=Bf xs:=by
 rw [<-cX,List.take_append_drop]
theorem RP (xs:List Int) (k:Int) (h:short xs/\low k):fnMW Ye (look []) Ua Try.f26 (xs,k,()) (λ(z:(Int×Unit)×List Int×Unit)=>z=((k+xs.length,()),(Jm k xs.length,()))):=by
 obtain ⟨h1,h2,h3⟩:=h
 unfold short at h1
 refine Eq.mp (SU xs k _) ⟨rfl,rfl,?_⟩
 refine Aj xs.length (λv=>v.2.1) (λj v=>v.1=k+(j:Nat)/\v.2.2.1.length=xs.length/\v.2.2.1.take j=Jm k j) rfl ⟨by simp,rfl,by simp [Jm]⟩ ?_
 rintro j ⟨k',i,ys,⟨⟩⟩ K hj hi ⟨g1,g2,g3⟩ hK
 dsimp only at hi g1 g2 g3⊢
 subst hi;subst g1
 refine Br.dec (λhl=>?_) λhl=>?_
 ·have hl:j<ys.length:=by omega
  refine ⟨⟨by omega,by omega⟩,by rw [Int.toNat_natCast];omega,rfl,by rw [List.length_set],?_⟩
  rw [Al (by omega),Int.toNat_natCast,Nat.zero_add,Bu (by omega) (by omega)]
  refine hK (by omega) _ rfl ⟨by dsimp only;omega,by rw [List.length_set];exact g2,?_⟩
  rw [List.take_succ_eq_append_getElem (by rw [List.length_set];exact hl),List.take_set_of_le (Nat.le_refl j),g3,List.getElem_set_self,iH]
 ·have px:j=xs.length:=by omega
  subst px
  rw [<-g2,List.take_length,g2] at g3
  rw [g3]
theorem ll:Ck Try.prog 26 Ua:=
 Ck.jR Wc Ap mixed Try.func26 (by kernel_rfl) (by kernel_rfl) λx h=>RP x.1 x.2.1 h
theorem MD (xs:List (List Int)) (k:Int) (h:Cd xs/\low k/\low (k+Bf xs)):fnMW Ye (look [(26,Ua)]) Nd Try.f41 (xs,k,()) (λ(z:(Int×Unit)×List (List Int)×Unit)=>z=((k+Bf xs,()),(Cw k xs,()))):=by
 obtain ⟨⟨h1,h4⟩,⟨h2,h3⟩,h5,h6⟩:=h
 refine Eq.mp (NX xs k _) ⟨rfl,rfl,?_⟩
 refine Aj xs.length (λv=>v.2.1) (λj v=>v.1=k+(Bf (xs.take j):Nat)/\v.2.2.1.length=xs.length/\v.2.2.1.take j=Cw k (xs.take j)/\v.2.2.1.drop j=xs.drop j) rfl ⟨by simp [Bf],rfl,by simp [Cw],rfl⟩ ?_
 rintro j ⟨k',i,ys,⟨⟩⟩ K hj hi ⟨g1,g2,g3,g4⟩ hK
 dsimp only at hi g1 g2 g3 g4⊢
 subst hi;subst g1
 refine Br.dec (λhl=>?_) λhl=>?_
 ·have hl:j<ys.length:=by omega
  have ZX:j<xs.length:=by omega
  have hy:ys[j]?=some xs[j]:=by
   have:(ys.drop j)[0]?=(xs.drop j)[0]?:=by rw [g4]
   simpa [List.getElem?_drop,List.getElem?_eq_getElem ZX] using this
  have IS:=pK xs j
  have htk:=tC ZX
  have hdr:=iK ZX
  refine ⟨⟨by omega,by omega⟩,?_⟩
  simp only [Int.toNat_natCast,Nat.zero_add]
  have WO:low (k+(Bf (xs.take j):Nat)):=⟨by omega,by omega⟩
  refine ⟨_,hy,_,hy,_,if_pos ⟨h4 _ (List.getElem_mem ZX),WO⟩,_,hy,Sl _ _,trivial,by rw [List.length_set],?_⟩
  rw [Al (by omega)]
  refine hK ZX _ rfl ⟨by dsimp only;omega,by rw [List.length_set];exact g2,?_,?_⟩
  ·rw [List.take_succ_eq_append_getElem (by rw [List.length_set];exact hl),List.take_set_of_le (Nat.le_refl j),g3,List.getElem_set_self,List.take_succ_eq_append_getElem ZX,Zg]
   rfl
  ·dsimp only
   rw [List.drop_set_of_lt (by omega)]
   have e1:ys.drop (j+1)=(ys.drop j).drop 1:=by rw [List.drop_drop]
   rw [e1,g4,List.drop_drop]
 ·have px:j=xs.length:=by omega
  subst px
  rw [<-g2,List.take_length,g2,List.take_length] at g3
  rw [g3,List.take_length]
theorem j0:Ck Try.prog 41 Nd:=
 Ck.jR Wc (Gz ll Ap) mixed Try.func41 (by kernel_rfl) (by kernel_rfl) λx h=>MD x.1 x.2.1 h
theorem tK (n:Int) (s:ByteArray) (b:List (List Int)) (k:Int) (h:Cd b/\low k/\low (k+Bf b)):fnMW Ye (look [(41,Nd)]) Md Try.f25 (n,s,b,k,()) (λ(z:(Int×Unit)×List (List Int)×Unit)=>z=((k+Bf b,()),(Cw k b,()))):=by
 exact Eq.mp (uQ n s b k _) ⟨rfl,rfl,_,if_pos h,⟨Je _ _,rfl⟩,rfl⟩
theorem kr:Ck Try.prog 25 Md:=
 Ck.jR Wc (Gz j0 Ap) mixed Try.func25 (by kernel_rfl) (by kernel_rfl) λx h=>tK x.1 x.2.1 x.2.2.1 x.2.2.2.1 h
theorem RM (xs:List Int) (k:Int) (h:short xs/\low k):fnW Cr (look []) eo Try.f27 (xs,k,()) (λ(z:Int)=>z=Nj xs k):=by
 obtain ⟨h1,h2,h3⟩:=h
 unfold short at h1
 refine Eq.mp (SP xs k _) ?_
 refine Aj xs.length (λv=>v.2.1) (λj v=>v.1=k+(j:Nat)/\xs.take j=Jm k j) rfl ⟨by simp,by simp [Jm]⟩ ?_
 rintro j ⟨k',i,⟨⟩⟩ K hj hi ⟨g1,g3⟩ hK
 dsimp only at hi g1 g3⊢
 subst hi;subst g1
 refine Br.dec (λhl=>?_) λhl=>?_
 ·have hl:j<xs.length:=by omega
  refine ⟨_,Aq hl,λEp=>?_,λhe=>?_⟩
  ·simp only [bne_iff_ne,ne_eq] at Ep
   unfold Nj
   rw [if_neg]
   intro he
   refine Ep ?_
   have e1:xs[j]?=(Jm k xs.length)[j]?:=by rw [<-he]
   rw [List.getElem?_eq_getElem hl] at e1
   simpa [Jm,hl] using e1
  ·simp only [bne_eq_false_iff_eq] at he
   rw [Al (by omega),Bu (by omega) (by omega)]
   refine hK hl _ rfl ⟨by dsimp only;omega,?_⟩
   rw [List.take_succ_eq_append_getElem hl,g3,he,iH]
 ·have px:j=xs.length:=by omega
  subst px
  rw [List.take_length] at g3
  exact (if_pos g3).symm
theorem xE:Sound Try.prog 27 eo:=
 Sound.Cz Bo Ap mixed Try.func27 (by kernel_rfl) (by kernel_rfl) λx h=>RM x.1 x.2.1 h
theorem pJ (k:Int) (n:Nat):Nj (Jm k n) k=k+n:=by unfold Nj;rw [Sl,if_pos rfl]
theorem wN {xs:List Int} {k:Int} (h: ¬Nj xs k<0):Nj xs k=k+xs.length:=by
 unfold Nj at*
 split at h
 ·rename_i h1;rw [if_pos h1]
 ·exact absurd (show (-1:Int)<0 by decide) h
theorem Vo: ∀(xs:List (List Int)) (k:Int),0<=k->Pl (Cw k xs) k=k+Bf xs
 | [],k,_=>by simp [Cw,Pl,Bf]
 |r::xs,k,h=>by
  simp only [Cw,Pl,pJ,Bf]
  rw [if_neg (by omega),Vo xs _ (by omega)]
  omega
theorem MC (xs:List (List Int)) (k:Int) (h:Cd xs/\low k/\low (k+Bf xs)):fnW Cr (look [(27,eo)]) Vw Try.f42 (xs,k,()) (λ(z:Int)=>z=Pl xs k):=by
 obtain ⟨⟨h1,h4⟩,⟨h2,h3⟩,h5,h6⟩:=h
 refine Eq.mp (NW xs k _) ?_
 refine Aj xs.length (λv=>v.2.1) (λj v=>0<=v.1/\v.1+(Bf (xs.drop j):Nat)<=k+(Bf xs:Nat)/\Pl (xs.drop j) v.1=Pl xs k) rfl ⟨h2,by simp,rfl⟩ ?_
 rintro j ⟨k',i,⟨⟩⟩ K hj hi ⟨g1,g2,g3⟩ hK
 dsimp only at hi g1 g2 g3⊢
 subst hi
 refine Br.dec (λhl=>?_) λhl=>?_
 ·have hl:j<xs.length:=by omega
  have hdr:=iK hl
  have WO:low k':=⟨g1,by omega⟩
  rw [List.drop_eq_getElem_cons hl] at g3
  simp only [Pl] at g3
  refine ⟨_,Aq hl,_,if_pos ⟨h4 _ (List.getElem_mem hl),WO⟩,Br.dec (λhn=>?_) λhn=>?_⟩
  ·have hn:Nj xs[j] k'<0:=hn
   rw [if_pos hn] at g3
   exact g3
  ·have hn: ¬Nj xs[j] k'<0:=hn
   rw [if_neg hn] at g3
   have e1:=wN hn
   rw [Al (by omega)]
   refine hK hl _ rfl ⟨by dsimp only;omega,by dsimp only;rw [e1];omega,g3⟩
 ·have px:j=xs.length:=by omega
  subst px
  rw [List.drop_length] at g3
  exact g3
theorem uh:Sound Try.prog 42 Vw:=
 Sound.Cz Bo (Ah xE Ap) mixed Try.func42 (by kernel_rfl) (by kernel_rfl) λx h=>MC x.1 x.2.1 h
theorem YJ (xs:List Int) (h:short xs):fnMW Ye (look []) Tb Try.f17 (xs,()) (λ(z:(List Int×Unit)×Unit)=>z=((xs,()),())):=by
 unfold short at h
 refine Eq.mp (ZK xs _) ?_
 refine ⟨⟨by omega,by show (xs.length:Int)<(4294967296:Int)+1;omega⟩,rfl,rfl,rfl,?_⟩
 refine Aj xs.length (λv=>v.1) (λj v=>v.2.1.length=xs.length/\v.2.1.take j=xs.take j) rfl ⟨by simp,by simp⟩ ?_
 rintro j ⟨i,ys,⟨⟩⟩ K hj hi ⟨h1,h2⟩ hK
 dsimp only at hi h1 h2⊢
 subst hi
 refine Br.dec (λhl=>?_) λhl=>?_
 ·have hl:j<xs.length:=by omega
  refine ⟨_,Aq hl,⟨by omega,by omega⟩,by rw [Int.toNat_natCast];omega,rfl,by rw [List.length_set],?_⟩
  rw [Al (by omega),Int.toNat_natCast,Nat.zero_add]
  exact hK hl _ rfl ⟨by rw [List.length_set];exact h1,Kz hl h1 h2⟩
 ·have:j=xs.length:=by omega
  subst this
  rw [List.take_length,<-h1,List.take_length] at h2
  rw [Bi,h2]
theorem oI:Ck Try.prog 17 Tb:=
 Ck.jR Wc Ap mixed Try.func17 (by kernel_rfl) (by kernel_rfl) λx h=>YJ x.1 h
theorem RV (xs:List (List Int)) (h:Cd xs):fnMW Ye (look [(17,Tb)]) Nm Try.f36 (xs,()) (λ(z:(List (List Int)×Unit)×Unit)=>z=((xs,()),())):=by
 obtain ⟨h,h4⟩:=h
 refine Eq.mp (TA xs _) ?_
 refine ⟨⟨by omega,by show (xs.length:Int)<(4294967296:Int)+1;omega⟩,rfl,rfl,rfl,?_⟩
 refine Aj xs.length (λv=>v.1) (λj v=>v.2.1.length=xs.length/\v.2.1.take j=xs.take j) rfl ⟨by simp,by simp⟩ ?_
 rintro j ⟨i,ys,⟨⟩⟩ K hj hi ⟨h1,h2⟩ hK
 dsimp only at hi h1 h2⊢
 subst hi
 refine Br.dec (λhl=>?_) λhl=>?_
 ·have hl:j<xs.length:=by omega
  refine ⟨_,Aq hl,_,if_pos (h4 _ (List.getElem_mem hl)),⟨by omega,by omega⟩,by rw [Int.toNat_natCast];omega,rfl,by rw [List.length_set],?_⟩
  rw [Al (by omega),Int.toNat_natCast,Nat.zero_add]
  dsimp only
  rw [Bi]
  exact hK hl _ rfl ⟨by rw [List.length_set];exact h1,Kz hl h1 h2⟩
 ·have:j=xs.length:=by omega
  subst this
  rw [List.take_length,<-h1,List.take_length] at h2
  rw [Bi,h2]
theorem lq:Ck Try.prog 36 Nm:=
 Ck.jR Wc (Gz oI Ap) mixed Try.func36 (by kernel_rfl) (by kernel_rfl) λx h=>RV x.1 h
theorem xl (n:Int) (s:ByteArray) (b:List (List Int)) (h:Dn (n,s,b,())):fnMW Ye (look [(36,Nm)]) Kc Try.f16 (n,s,b,()) (λ(z:(Int×ByteArray×List (List Int)×Unit)×Unit)=>z=((n,s,b,()),())):=by
 refine Eq.mp (yc n s b _) ⟨_,if_pos h.2,?_⟩
 simp only [Bi]
theorem lU:Ck Try.prog 16 Kc:=
 Ck.jR Wc (Gz lq Ap) mixed Try.func16 (by kernel_rfl) (by kernel_rfl) λx h=>xl x.1 x.2.1 x.2.2.1 h
end Go.Proofs.Ytjbdmibbbpdnnaa

namespace Go.Proofs.Ytjbdmibbbpdnnaa
open Go.RowKit
theorem jM (a:List Int):Ip a a=true:=by simp [Ip]
theorem ND {n:Nat} {room:Int} (h: ¬jN n room<0):jN n room=room-n/\(n:Int)<=room:=by
 unfold jN at*
 split at h
 ·exact absurd (show (-1:Int)<0 by decide) h
 ·rename_i h1;rw [if_neg h1];exact ⟨rfl,by omega⟩
theorem xM: ∀(xs:List (List Int)) (room:Int),0<=room-> ¬oQ xs room<0->oQ xs room=room-Bf xs
 | [],room,_,_=>by simp [oQ,Bf]
 |r::xs,room,h0,h=>by
  simp only [oQ,Bf] at h⊢
  split at h
  ·exact absurd (show (-1:Int)<0 by decide) h
  ·rename_i h1
   rw [if_neg h1]
   have e1:=ND (n:=r.length) h1
   have e1:iJ r room=room-r.length/\(r.length:Int)<=room:=e1
   rw [xM xs _ (by rw [e1.1];omega) h,e1.1]
   omega
theorem xN {xs:List (List Int)} {room:Int} (h: ¬Jt xs room<0):Jt xs room=room-xs.length-Bf xs:=by
 unfold Jt at*
 split at h
 ·exact absurd (show (-1:Int)<0 by decide) h
 ·rename_i h1
  rw [if_neg h1]
  have e1:=ND h1
  rw [xM xs _ (by rw [e1.1];omega) h,e1.1]
theorem ed:low 1:=⟨by decide,by decide⟩
end Go.Proofs.Ytjbdmibbbpdnnaa

namespace Go.Proofs.Ytjbdmibbbpdnnaa
open Go.RowKit
theorem jo {b:Bool} {P:Prop} (h:(!(b==b))=true):P:=by simp at h
end Go.Proofs.Ytjbdmibbbpdnnaa

namespace Go.Proofs.Ytjbdmibbbpdnnaa
open Go.RowKit
noncomputable abbrev Kk:Spec:=Cz (.pair tL .unit) tL false true (λx=>short x.1) (λx=>x.1)
theorem AX (xs:List Int) (P:List Int->Prop):(0=0/\0=([]:List Int).length/\0+xs.length<=Bp/\P (List.take ([]++xs).length (List.drop 0 ([]++xs))))=fnW Cr (look []) Kk Try.f123 (xs,()) P:=by kernel_rfl
theorem zG (xs:List Int) (h:short xs):fnW Cr (look []) Kk Try.f123 (xs,()) (λ(z:List Int)=>z=xs):=by
 unfold short at h
 refine Eq.mp (AX xs _) ⟨rfl,rfl,by show 0+xs.length<=4294967296;omega,?_⟩
 simp only [Bi,List.nil_append]
theorem dx:Sound Try.prog 123 Kk:=
 Sound.Cz Bo Ap mixed Try.func123 (by kernel_rfl) (by kernel_rfl) λx h=>zG x.1 h
end Go.Proofs.Ytjbdmibbbpdnnaa

namespace Go.Proofs.Ytjbdmibbbpdnnaa
open Go.RowKit
def Ci (xs is:List Int):List Int:=is.map (Ce xs)
noncomputable abbrev Up:Spec:=Cz (.pair tL (.pair tL .unit)) tL false true (λx=>short x.1/\Ha (List.length x.2.1) x.1) (λx=>Ci x.2.1 x.1)
def Ml (xs:List Int):ByteArray:=bytesOf (xs.map λx=>IntKind.u8.wrap x)
noncomputable abbrev El:Spec:=Cz (.pair tL .unit) .str false true (λx=>short x.1) (λx=>Ml x.1)
def iR (ps:List (List Int)) (p:List Int):Int:=Bx (λq=>decide (q=p)) ps 0
theorem ID (is xs:List Int) (P:List Int->Prop):(0=0/\0=([]:List Int).length/\Bk (λ(v3:Int×List Int×PUnit) (k4:Int×List Int×PUnit->Prop)=>Br (decide (v3.1<(↑is.length:Int))) (∃(y5:Int),idx is v3.1=some y5/\ ∃(y6:Int),idx xs y5=some y6/\0=0/\v3.2.1.length=v3.2.1.length/\v3.2.1.length+(List.take 1 (List.drop 0 [y6])).length<=Bp/\0=0/\(v3.2.1++List.take 1 (List.drop 0 [y6])).length=(v3.2.1++List.take 1 (List.drop 0 [y6])).length/\k4 (IntKind.i64.wrap (v3.1+(1:Int)),v3.2.1++List.take 1 (List.drop 0 [y6]),())) (P (List.take v3.2.1.length (List.drop 0 v3.2.1)))) ((0:Int),[],PUnit.unit))=fnW Cr (look []) Up Try.f113 (is,xs,()) P:=by kernel_rfl
theorem BF (xs:List Int) (P:ByteArray->Prop):(((0:Int)<=(↑xs.length:Int)/\(↑xs.length:Int)<(↑Bp:Int)+(1:Int))/\(↑xs.length:Int)=(↑xs.length:Int)/\0=0/\(List.replicate (↑xs.length:Int).toNat (Int.ofNat (nat_lit 0))).length=(List.replicate (↑xs.length:Int).toNat (Int.ofNat (nat_lit 0))).length/\Bk (λ(v2:Int×List Int×PUnit) (k3:Int×List Int×PUnit->Prop)=>Br (decide (v2.1<(↑xs.length:Int))) (∃(y4:Int),idx xs v2.1=some y4/\((0:Int)<=v2.1/\v2.1<(↑v2.2.1.length:Int))/\0+v2.1.toNat<v2.2.1.length/\0=0/\v2.2.1.length=(v2.2.1.set (0+v2.1.toNat) (IntKind.u8.wrap y4)).length/\k3 (IntKind.i64.wrap (v2.1+(1:Int)),v2.2.1.set (0+v2.1.toNat) (IntKind.u8.wrap y4),())) (P (bytesOf (List.take v2.2.1.length (List.drop 0 v2.2.1))))) ((0:Int),List.replicate (↑xs.length:Int).toNat (Int.ofNat (nat_lit 0)),PUnit.unit))=fnW Cr (look []) El Try.f128 (xs,()) P:=by kernel_rfl
theorem xo (xs is:List Int):(Ci xs is).length=is.length:=by simp [Ci]
theorem RH {α:Type} (y:α):List.take 1 (List.drop 0 [y])= [y]:=rfl
theorem GD (is xs:List Int) (h:short is/\Ha xs.length is):fnW Cr (look []) Up Try.f113 (is,xs,()) (λ(z:List Int)=>z=Ci xs is):=by
 obtain ⟨h,hr⟩:=h
 unfold short at h
 refine Eq.mp (ID is xs _) ⟨rfl,rfl,?_⟩
 have Of:=xo xs is
 refine Aj is.length (λv=>v.1) (λj v=>v.2.1=(Ci xs is).take j) rfl rfl ?_
 rintro j ⟨i,ys,⟨⟩⟩ K hj hi h1 hK
 dsimp only at hi h1⊢
 subst hi
 refine Br.dec (λhl=>?_) λhl=>?_
 ·have hl:j<is.length:=by omega
  have hy:=hr _ (List.getElem_mem hl)
  have Hg:j<(Ci xs is).length:=by rw [Of];exact hl
  refine ⟨_,Aq hl,_,Vi hy.1 hy.2,rfl,rfl,?_,rfl,rfl,?_⟩
  ·show ys.length+1<=4294967296
   rw [h1,List.length_take];omega
  ·rw [Al (by omega),RH]
   refine hK hl _ rfl ?_
   dsimp only
   rw [h1,List.take_succ_eq_append_getElem Hg]
   simp [Ci]
 ·have:j=is.length:=by omega
  subst this
  rw [Bi,h1,<-Of,List.take_length]
theorem qh:Sound Try.prog 113 Up:=
 Sound.Cz Bo Ap mixed Try.func113 (by kernel_rfl) (by kernel_rfl) λx h=>GD x.1 x.2.1 h
theorem zO (xs:List Int) (h:short xs):fnW Cr (look []) El Try.f128 (xs,()) (λ(z:ByteArray)=>z=Ml xs):=by
 unfold short at h
 refine Eq.mp (BF xs _) ?_
 refine ⟨⟨by omega,by show (xs.length:Int)<(4294967296:Int)+1;omega⟩,rfl,rfl,rfl,?_⟩
 have Of:(xs.map λx=>IntKind.u8.wrap x).length=xs.length:=by simp
 refine Aj xs.length (λv=>v.1) (λj v=>v.2.1.length=(xs.map λx=>IntKind.u8.wrap x).length/\v.2.1.take j=(xs.map λx=>IntKind.u8.wrap x).take j) rfl ⟨by rw [Of];simp,by simp⟩ ?_
 rintro j ⟨i,ys,⟨⟩⟩ K hj hi ⟨h1,h2⟩ hK
 dsimp only at hi h1 h2⊢
 subst hi
 refine Br.dec (λhl=>?_) λhl=>?_
 ·have hl:j<xs.length:=by omega
  refine ⟨_,Aq hl,⟨by omega,by omega⟩,by rw [Int.toNat_natCast];omega,rfl,by rw [List.length_set],?_⟩
  rw [Al (by omega),Int.toNat_natCast,Nat.zero_add]
  have Hg:j<(xs.map λx=>IntKind.u8.wrap x).length:=by rw [Of];exact hl
  have e:IntKind.u8.wrap xs[j]=(xs.map λx=>IntKind.u8.wrap x)[j]:=by simp
  rw [e]
  exact hK hl _ rfl ⟨by rw [List.length_set];exact h1,Kz Hg h1 h2⟩
 ·have:j=xs.length:=by omega
  subst this
  rw [<-Of,List.take_length,<-h1,List.take_length] at h2
  rw [List.drop_zero,List.take_length,h2];rfl
theorem dz:Sound Try.prog 128 El:=
 Sound.Cz Bo Ap mixed Try.func128 (by kernel_rfl) (by kernel_rfl) λx h=>zO x.1 h
theorem bx {α:Type} (P:α->Bool) (y:α): ∀(l:List α) (i:Int),0<=i->Bx P (l++ [y]) i=if Bx P l i<0 then (if P y=true then i+l.length else-1) else Bx P l i
 | [],i,_=>by simp [Bx]
 |x::r,i,h=>by
  simp only [List.cons_append,Bx,List.length_cons]
  split
  ·rw [if_neg (by omega)]
  ·rw [bx P y r (i+1) (by omega),show i+1+(r.length:Int)=i+((r.length+1:Nat):Int) by push_cast;omega]
theorem tT (ps:List (List Int)) (q p:List Int):iR (ps++ [q]) p=if iR ps p<0 then (if q=p then (ps.length:Int) else-1) else iR ps p:=by
 unfold iR
 rw [bx _ _ _ _ (Int.le_refl 0)]
 simp only [decide_eq_true_eq,Int.zero_add]
def Qc (p:List Int):Prop:= ∀x∈p,0<=x/\x<256
theorem JJ {x y:Int} (hx:0<=x/\x<256) (hy:0<=y/\y<256) (h:UInt8.ofNat (IntKind.u8.wrap x).toNat=UInt8.ofNat (IntKind.u8.wrap y).toNat):x=y:=by
 have h:=congrArg UInt8.toNat h
 simp only [IntKind.wrap_u8,UInt8.toNat_ofNat'] at h
 omega
theorem bytes_inj: ∀(p q:List Int),Qc p->Qc q->(p.map λx=>UInt8.ofNat (IntKind.u8.wrap x).toNat)=(q.map λx=>UInt8.ofNat (IntKind.u8.wrap x).toNat)->p=q
 | [],[],_,_,_=>rfl
 | [],_::_,_,_,h=>by simp at h
 |_::_,[],_,_,h=>by simp at h
 |x::p,y::q,hp,hq,h=>by
  simp only [List.map_cons,List.cons.injEq] at h
  rw [JJ (hp x (by simp)) (hq y (by simp)) h.1,bytes_inj p q (λz hz=>hp z (by simp [hz])) (λz hz=>hq z (by simp [hz])) h.2]
theorem key_inj {p q:List Int} (hp:Qc p) (hq:Qc q) (h:Ml p=Ml q):p=q:=by
 refine bytes_inj p q hp hq ?_
 simp only [Ml,bytesOf,ByteArray.mk.injEq,List.map_map] at h
 have h:=congrArg Array.toList h
 simpa [Function.comp_def] using h
def KM (m:ByteArray->Option Int) (ps:List (List Int)):Prop:= ∀p,Qc p->m (Ml p)=if iR ps p<0 then none else some (iR ps p)
theorem KM.nil:KM (λ_=>none) []:= λp _=>by
 rw [if_pos (by unfold iR;simp [Bx])]
theorem KM.add {m:ByteArray->Option Int} {ps:List (List Int)} {q:List Int} (h:KM m ps) (hq:Qc q) (hn:iR ps q<0):KM (bd m (Ml q) (ps.length:Int)) (ps++ [q]):=by
 intro p hp
 rw [tT]
 unfold bd
 by_cases e:p=q
 ·subst e
  rw [if_pos rfl,if_pos hn,if_pos rfl,if_neg (by omega)]
 ·rw [if_neg (λhk=>e (key_inj hp hq hk)),h p hp]
  have e': ¬q=p:= λh=>e h.symm
  rw [if_neg e']
  by_cases EU:iR ps p<0
  ·rw [if_pos EU,if_pos EU,if_pos (by decide)]
  ·rw [if_neg EU,if_neg EU,if_neg EU]
theorem PU {α:Type} {xs:List α} {j:Nat} (h:j<xs.length) (d:α):xs.getD j d=xs[j]:=by
 rw [List.getD_eq_getElem?_getD,List.getElem?_eq_getElem h];rfl
end Go.Proofs.Ytjbdmibbbpdnnaa

namespace Go.Proofs.Ytjbdmibbbpdnnaa
open Go.RowKit
noncomputable abbrev It:Spec:=Cz (.pair Dl .unit) tL false true (λx=>List.length x.1.2.2.1<=8) (λx=>Ag (List.length x.1.2.2.1))
abbrev j9:Type:=Int×Int×ByteArray×List (List Int)×List Int×PUnit
theorem y0 (p:Int×ByteArray×List (List Int)×Unit) (P:List Int->Prop):(0=0/\0=([]:List Int).length/\Bk (λ(v2:j9) (k3:j9->Prop)=>Br (decide (v2.1<=(↑v2.2.2.2.1.length:Int))) (0=0/\v2.2.2.2.2.1.length=v2.2.2.2.2.1.length/\v2.2.2.2.2.1.length+(List.take 2 (List.drop 0 [v2.1,IntKind.i64.wrap ((0:Int)-v2.1)])).length<=Bp/\0=0/\(v2.2.2.2.2.1++List.take 2 (List.drop 0 [v2.1,IntKind.i64.wrap ((0:Int)-v2.1)])).length=(v2.2.2.2.2.1++List.take 2 (List.drop 0 [v2.1,IntKind.i64.wrap ((0:Int)-v2.1)])).length/\k3 (IntKind.i64.wrap (v2.1+(1:Int)),v2.2.1,v2.2.2.1,v2.2.2.2.1,v2.2.2.2.2.1++List.take 2 (List.drop 0 [v2.1,IntKind.i64.wrap ((0:Int)-v2.1)]),())) (P (List.take v2.2.2.2.2.1.length (List.drop 0 v2.2.2.2.2.1)))) ((1:Int),p.1,p.2.1,p.2.2.1,[],PUnit.unit))=fnW Cr (look []) It Try.f96 (p,()) P:=by kernel_rfl
theorem xh (p:PP) (h:List.length p.2.2.1<=8):fnW Cr (look []) It Try.f96 (p,()) (λ(z:List Int)=>z=Ag (List.length p.2.2.1)):=by
 refine Eq.mp (y0 p _) ⟨rfl,rfl,?_⟩
 refine Bk.mk (λv=> ∃j:Nat,j<=List.length p.2.2.1/\v=((j:Int)+1,p.1,p.2.1,p.2.2.1,Ag j,())) (λv=>List.length p.2.2.1+1-v.1.toNat) ⟨0,Nat.zero_le _,rfl⟩ ?_
 rintro _ ⟨j,hj,rfl⟩
 dsimp only
 refine Br.dec (λhl=>?_) λhl=>?_
 ·refine ⟨rfl,rfl,?_,rfl,rfl,⟨j+1,by omega,?_⟩,?_⟩
  ·show (Ag j).length+2<=4294967296
   rw [Kv];omega
  ·rw [Vp,Bu (n:=(j:Int)+1+1) (by omega) (by omega),Bu (n:=0-((j:Int)+1)) (by omega) (by omega),Int.zero_sub]
   rfl
  ·rw [Bu (by omega) (by omega)];omega
 ·have:j=List.length p.2.2.1:=by omega
  subst this
  rw [Bi]
theorem bG:Sound Try.prog 96 It:=
 Sound.Cz Bo Ap mixed Try.func96 (by kernel_rfl) (by kernel_rfl) λx h=>xh x.1 h
theorem NC {p:PP} {room:Int} (hr:roomy room) (h: ¬Ti p room<0):(Bf p.2.2.1:Int)<=room-Ti p room/\roomy (Ti p room):=by
 unfold Ti at h⊢
 split at h
 ·exact absurd (show (-1:Int)<0 by decide) h
 ·rename_i h1
  rw [if_neg h1]
  split at h
  ·exact absurd (show (-1:Int)<0 by decide) h
  ·rename_i h2
   rw [if_neg h2]
   have e2:=xN h2
   obtain ⟨r1,r2⟩:=hr
   unfold roomy
   omega
end Go.Proofs.Ytjbdmibbbpdnnaa

namespace Go.Proofs.Ytjbdmibbbpdnnaa
open Go.RowKit
def tq (v:Int):List Int->Nat
 | []=>0
 |x::r=>if x>v then tq v r+1 else 0
def RE (v:Int) (t:List Int):Option (List Int):=if tq v t=0 then none else some (Ce t ((tq v t-1:Nat):Int)::(t.set (tq v t-1) v).reverse)
def cW:List Int->Option (List Int)
 | []=>none
 |v::t=>match cW t with
  |some t'=>some (v::t')
  |none=>RE v t
theorem wZ {s s':List Int} (h:cW s=some s'): ∀pre:List Int,cW (pre++s)=some (pre++s')
 | []=>h
 |v::p=>by rw [List.cons_append,cW,wZ h p];rfl
theorem SA {α:Type} (pre:List α) (v a:α) (t:List α):(pre++v::t).set pre.length a=pre++a::t:=by
 rw [List.set_append,if_neg (by omega)];simp
inductive BL:List Int->List (List Int)->List Int->Prop where
 |one (a:List Int):BL a [a] a
 |more {a c b:List Int} {L:List (List Int)} :cW a=some c->BL c L b->BL a (a::L) b
theorem BL.cons {a b:List Int} {L:List (List Int)} (h:BL a L b) (v:Int):BL (v::a) (L.map (v:: ·)) (v::b):=by
 induction h with
 |one a=>exact .one _
 |more h3 _ ih=>exact .more (wZ h3 [v]) ih
theorem BL.head {a b:List Int} {L:List (List Int)} (h:BL a L b): ∃M,L=a::M:=by
 cases h with
 |one=>exact ⟨_,rfl⟩
 |more _ _=>exact ⟨_,rfl⟩
theorem BL.at {a b:List Int} {L:List (List Int)} (h:BL a L b): ∀j (hj:j<L.length),(∀h2:j+1<L.length,cW L[j]=some L[j+1])/\(j+1=L.length->L[j]=b):=by
 induction h with
 |one a=>
  intro j hj
  simp only [List.length_singleton] at hj
  have:j=0:=by omega
  subst this
  exact ⟨λh2=>by simp at h2,λ_=>rfl⟩
 |more h3 h4 ih=>
  intro j hj
  rcases j with _|j
  ·obtain ⟨M,hM⟩:=h4.head
   refine ⟨λh2=>?_,λh2=>?_⟩
   ·simp only [List.getElem_cons_zero,List.getElem_cons_succ]
    subst hM
    exact h3
   ·subst hM;simp at h2
  ·have:=ih j (by simpa using hj)
   refine ⟨λh2=>?_,λh2=>?_⟩
   ·simp only [List.getElem_cons_succ]
    exact this.1 (by simpa using h2)
   ·simp only [List.getElem_cons_succ]
    exact this.2 (by simpa using h2)
theorem BL.distinct {a b:List Int} {L:List (List Int)} (h:BL a L b) (hb:cW b=none): ∀k i j (hi:i<L.length) (hj:j<L.length),L.length-j=k->i<j->L[i]≠L[j]:=by
 intro k
 induction k with
 |zero=>intro i j hi hj hk;omega
 |succ k ih=>
  intro i j hi hj hk jF he
  by_cases e:j+1<L.length
  ·have h1:=(h.at i hi).1 (by omega)
   have h2:=(h.at j hj).1 e
   rw [he,h2] at h1
   exact ih (i+1) (j+1) (by omega) e (by omega) (by omega) (Option.some.inj h1).symm
  ·have h1:=(h.at i hi).1 (by omega)
   have h2:=(h.at j hj).2 (by omega)
   rw [he,h2,hb] at h1
   cases h1
theorem BL.idx {a b:List Int} {L:List (List Int)} (h:BL a L b) (hb:cW b=none) {j:Nat} (hj:j<L.length):L.idxOf L[j]=j:=by
 have h1:L.idxOf L[j]<L.length:=List.idxOf_lt_length_of_mem (List.getElem_mem _)
 have h2:L[L.idxOf L[j]]=L[j]:=List.getElem_idxOf h1
 rcases Nat.lt_trichotomy (L.idxOf L[j]) j with h3|h3|h3
 ·exact absurd h2 (h.distinct hb _ _ _ h1 hj rfl h3)
 ·exact h3
 ·exact absurd h2.symm (h.distinct hb _ _ _ hj h1 rfl h3)
end Go.Proofs.Ytjbdmibbbpdnnaa

namespace Go.Proofs.Ytjbdmibbbpdnnaa
open Go.RowKit
theorem nD {n:Nat} : ∀(xs:List (List Int)),(∀p∈xs,p.length<=n)->Bf xs<=xs.length*n
 | [],_=>by simp [Bf]
 |r::xs,h=>by
  have h1:=nD xs λp hp=>h p (List.mem_cons_of_mem _ hp)
  have h2:=h r (List.mem_cons_self ..)
  simp only [Bf,List.length_cons]
  rw [Nat.add_mul,Nat.one_mul]
  omega
theorem qA (k:Int) (xs:List (List Int)):List.take xs.length (List.drop 0 (Cw k xs))=Cw k xs:=by rw [List.drop_zero,List.take_of_length_le (by rw [Je];exact Nat.le_refl _)]
end Go.Proofs.Ytjbdmibbbpdnnaa

namespace Go.Proofs.Ytjbdmibbbpdnnaa
open Go.RowKit
def Cm:List Int->List Int->Int
 | [],[]=>0
 | [],_::_=> -1
 |_::_,[]=>1
 |x::a,y::b=>if x<y then-1 else if x>y then 1 else Cm a b
def ay (a b:List Int):Bool:=decide (Cm a b<0)
noncomputable abbrev Re:Spec:=Cz (.pair tL (.pair tL .unit)) .bool false true (λx=>short x.1/\List.length x.1=List.length x.2.1) (λx=>ay x.1 x.2.1)
theorem BC (a b:List Int) (P:Bool->Prop):(Bk (λ(v3:Int×PUnit) (k4:Int×PUnit->Prop)=>Br (decide (v3.1<(↑a.length:Int))) (∃(y5:Int),idx a v3.1=some y5/\ ∃(y6:Int),idx b v3.1=some y6/\Br (y5 !=y6) (∃(y7:Int),idx a v3.1=some y7/\ ∃(y8:Int),idx b v3.1=some y8/\P (decide (y7<y8))) (k4 (IntKind.i64.wrap (v3.1+(1:Int)),()))) (P false)) ((0:Int),PUnit.unit))=fnW Cr (look []) Re Try.f144 (a,b,()) P:=by kernel_rfl
theorem zL (a b:List Int) (h:short a/\a.length=b.length):fnW Cr (look []) Re Try.f144 (a,b,()) (λ(z:Bool)=>z=ay a b):=by
 obtain ⟨ha,hb⟩:=h
 unfold short at ha
 refine Eq.mp (BC a b _) ?_
 refine Aj a.length (λv=>v.1) (λj _=>Cm (a.drop j) (b.drop j)=Cm a b) rfl (by simp) ?_
 rintro j ⟨i,⟨⟩⟩ K hj hi VQ hK
 dsimp only at hi⊢
 subst hi
 refine Br.dec (λhl=>?_) λhl=>?_
 ·have hl:j<a.length:=by omega
  have hlb:j<b.length:=by omega
  rw [List.drop_eq_getElem_cons hl,List.drop_eq_getElem_cons hlb] at VQ
  simp only [Cm] at VQ
  refine ⟨_,Aq hl,_,Aq hlb,⟨λEp=>?_,λEp=>?_⟩⟩
  ·refine ⟨_,Aq hl,_,Aq hlb,?_⟩
   have Ep:a[j]≠b[j]:=by simpa using Ep
   unfold ay
   rw [<-VQ]
   by_cases h1:a[j]<b[j]
   ·rw [if_pos h1];simp [h1]
   ·rw [if_neg h1,if_pos (by omega)];simp [h1]
  ·have Ep:a[j]=b[j]:=by simpa using Ep
   rw [if_neg (by omega),if_neg (by omega)] at VQ
   rw [Al (by omega)]
   exact hK hl _ rfl VQ
 ·have:j=a.length:=by omega
  subst this
  rw [List.drop_length,List.drop_eq_nil_of_le (by omega)] at VQ
  unfold ay
  rw [<-VQ]
  rfl
theorem oC:Sound Try.prog 144 Re:=
 Sound.Cz Bo Ap mixed Try.func144 (by kernel_rfl) (by kernel_rfl) λx h=>zL x.1 x.2.1 h
theorem Ww (a:List (List Int)):gn a a=true:=decide_eq_true rfl
end Go.Proofs.Ytjbdmibbbpdnnaa

namespace Go.Proofs.Ytjbdmibbbpdnnaa
open Go.RowKit
abbrev SS:Type:=List (List Int)×List Int×List Int×Bool×Unit
abbrev rLS:CK:= .row tL 25
abbrev rN:CK:= .row tI 3
def Dc (L:List (List Int)) (Hx:List Int) (s:List Int):Nat:=(Hx.takeWhile λi=>ay (L.getD i.toNat []) s).length
structure Cx (m:Nat) (L:List (List Int)) (Hx:List Int):Prop where
 pb:L.length<=3000
 len: ∀x∈L,x.length=m
 short:m<=20
 perm:Hx.Perm (upto L.length)
 sorted:Hx.Pairwise λi j=>ay (L.getD i.toNat []) (L.getD j.toNat [])=true
def bz (L:List (List Int)) (s:List Int):Int:=if s∈L then (L.idxOf s:Int) else-1
def Qe (Hx:List Int) (k:Nat) (x:Int):List Int:=Hx.take k++x::Hx.drop k
noncomputable abbrev aS:Spec:=Cz (.pair Xh (.pair tL .unit)) tI false true (λx=>Cx (List.length x.2.1) x.1.1 x.1.2.2.1) (λx=>(Dc x.1.1 x.1.2.2.1 x.2.1:Int))
noncomputable abbrev Kr:Spec:=Cz (.pair Xh (.pair tL .unit)) tI false true (λx=>Cx (List.length x.2.1) x.1.1 x.1.2.2.1) (λx=>bz x.1.1 x.2.1)
noncomputable abbrev gy:MSpec:=jR [some 4,none,none] [(false,rLS),(false,rL),(false,rN),(false, .Ft .bool),(false, .Ft tL),(false, .Ft tI)] false [some 4] [rLS,rL,rN, .Ft .bool]
 (λx=>Cx (List.length x.2.2.2.2.1) x.1 x.2.2.1/\List.length x.2.1<=3000) (λx=>((x.1++ [x.2.2.2.2.1],x.2.1++ [x.2.2.2.2.2.1],Qe x.2.2.1 (Dc x.1 x.2.2.1 x.2.2.2.2.1) (List.length x.1),x.2.2.2.1,()),()))
def Tl (L:List (List Int)):List Int:=(List.range L.length).foldl (λ(S:List Int) (i:Nat)=>Qe S (Dc (L.take i) S (L.getD i [])) (i:Int)) []
def Ey (g:List (List Int)) (x:List Int) (d:Int):List Int->List (List Int)->List Int->List (List Int)×List Int×Bool
 | [],L,D=>(L,D,true)
 |l::ls,L,D=>if Aa x (Af g l)∈L then Ey g x d ls L D else if L.length=3000 then (L,D,false) else Ey g x d ls (L++ [Aa x (Af g l)]) (D++ [d+1])
def Gs (g:List (List Int)) (ls:List Int):Nat->Nat->List (List Int)->List Int->List (List Int)×List Int×Bool
 |0,_,L,D=>(L,D,true)
 |f+1,k,L,D=>if k<L.length then (match Ey g (L.getD k []) (D.getD k 0) ls L D with
  |(L',D',true)=>Gs g ls f (k+1) L' D'
  |(L',D',false)=>(L',D',false)) else (L,D,true)
def Ds (g:List (List Int)) (s:List Int):List (List Int)×List Int×Bool:=Gs g (Ag g.length) 3001 0 [s] [0]
def Dh (g:List (List Int)) (s:List Int):SS:=((Ds g s).1,(Ds g s).2.1,Tl (Ds g s).1,(Ds g s).2.2,())
noncomputable abbrev De:Spec:=Cz (.pair Dl (.pair tL .unit)) Xh false false (λx=>Ax x.1=true/\List.length x.2.1<=20/\ ∀y∈x.2.1,0<=y/\y<x.1.1) (λx=>Dh x.1.2.2.1 x.2.1)
abbrev DP:Type:=Int×Int×List (List Int)×List Int×List Int×Bool×PUnit
theorem ZH (f:List (List Int)×List Int×List Int×Bool×Unit) (s:List Int) (P:Int->Prop):(Bk (λ(v3:DP) (k4:DP->Prop)=>Br (decide (v3.1<v3.2.1)) ((2:Int)≠(0:Int)/\ ∃(y5:Int),idx v3.2.2.2.2.1 (IntKind.i64.wrap ((IntKind.i64.wrap (v3.1+v3.2.1)).tdiv (2:Int)))=some y5/\ ∃(y6:List Int),idx v3.2.2.1 y5=some y6/\ ∃(y7:Bool),Re.fn (y6,s,())=some y7/\Br y7 (k4 (IntKind.i64.wrap (IntKind.i64.wrap ((IntKind.i64.wrap (v3.1+v3.2.1)).tdiv (2:Int))+(1:Int)),v3.2.1,v3.2.2.1,v3.2.2.2.1,v3.2.2.2.2.1,v3.2.2.2.2.2.1,())) (k4 (v3.1,IntKind.i64.wrap ((IntKind.i64.wrap (v3.1+v3.2.1)).tdiv (2:Int)),v3.2.2.1,v3.2.2.2.1,v3.2.2.2.2.1,v3.2.2.2.2.2.1,()))) (P v3.1)) ((0:Int),(↑f.2.2.1.length:Int),f.1,f.2.1,f.2.2.1,f.2.2.2.1,PUnit.unit))=fnW Cr (look [(144,Re)]) aS Try.f104 (f,s,()) P:=by kernel_rfl
theorem OC (f:List (List Int)×List Int×List Int×Bool×Unit) (s:List Int) (P:Int->Prop):(∃(y3:Int),aS.fn ((f.1,f.2.1,f.2.2.1,f.2.2.2.1,()),s,())=some y3/\Br (decide (y3<(↑f.2.2.1.length:Int))) (∃(y4:Int),idx f.2.2.1 y3=some y4/\ ∃(y5:List Int),idx f.1 y4=some y5/\ ∃(y6:Bool),Eh.fn (y5,s,())=some y6/\Br y6 (∃(y7:Int),idx f.2.2.1 y3=some y7/\P y7) (P (-1:Int))) (P (-1:Int)))=fnW Cr (look [(104,aS),(105,Eh)]) Kr Try.f54 (f,s,()) P:=by kernel_rfl
theorem ZF (L:List (List Int)) (D S:List Int) (b:Bool) (s:List Int) (d:Int) (P:((List (List Int)×List Int×List Int×Bool×Unit)×Unit)->Prop):(∃(y7:Int),aS.fn ((List.take L.length (List.drop 0 L),List.take D.length (List.drop 0 D),List.take S.length (List.drop 0 S),b,()),s,())=some y7/\0=0/\S.length=S.length/\S.length+(List.take 1 (List.drop 0 [(0:Int)])).length<=Bp/\((0:Int)<=IntKind.i64.wrap (y7+(1:Int))/\IntKind.i64.wrap (y7+(1:Int))<=(↑(S++List.take 1 (List.drop 0 [(0:Int)])).length:Int)/\(↑(S++List.take 1 (List.drop 0 [(0:Int)])).length:Int)<=(↑(S++List.take 1 (List.drop 0 [(0:Int)])).length:Int))/\((0:Int)<=y7/\y7<=(↑(S++List.take 1 (List.drop 0 [(0:Int)])).length:Int)/\(↑(S++List.take 1 (List.drop 0 [(0:Int)])).length:Int)<=(↑(S++List.take 1 (List.drop 0 [(0:Int)])).length:Int))/\((0:Int)<=y7/\y7<(↑(S++List.take 1 (List.drop 0 [(0:Int)])).length:Int))/\0+y7.toNat<(Bj (S++List.take 1 (List.drop 0 [(0:Int)])) (0+(IntKind.i64.wrap (y7+(1:Int))).toNat) (List.take ((↑(S++List.take 1 (List.drop 0 [(0:Int)])).length:Int).toNat-(IntKind.i64.wrap (y7+(1:Int))).toNat) (List.take ((↑(S++List.take 1 (List.drop 0 [(0:Int)])).length:Int).toNat-y7.toNat) (List.drop (0+y7.toNat) (S++List.take 1 (List.drop 0 [(0:Int)])))))).length/\0=0/\L.length=L.length/\L.length+(List.take 1 (List.drop 0 [s])).length<=Bp/\0=0/\D.length=D.length/\D.length+(List.take 1 (List.drop 0 [d])).length<=Bp/\P ((List.take (L++List.take 1 (List.drop 0 [s])).length (List.drop 0 (L++List.take 1 (List.drop 0 [s]))),List.take (D++List.take 1 (List.drop 0 [d])).length (List.drop 0 (D++List.take 1 (List.drop 0 [d]))),List.take (S++List.take 1 (List.drop 0 [(0:Int)])).length (List.drop 0 ((Bj (S++List.take 1 (List.drop 0 [(0:Int)])) (0+(IntKind.i64.wrap (y7+(1:Int))).toNat) (List.take ((↑(S++List.take 1 (List.drop 0 [(0:Int)])).length:Int).toNat-(IntKind.i64.wrap (y7+(1:Int))).toNat) (List.take ((↑(S++List.take 1 (List.drop 0 [(0:Int)])).length:Int).toNat-y7.toNat) (List.drop (0+y7.toNat) (S++List.take 1 (List.drop 0 [(0:Int)])))))).set (0+y7.toNat) (↑L.length:Int))),b,()),()))=fnMW Ye (look [(104,aS)]) gy Try.f149 (L,D,S,b,s,d,()) P:=by kernel_rfl
abbrev ja:Type:=Int×Int×ByteArray×List (List Int)×Bool×Bool×List (List Int)×List Int×List Int×List (List Int)×List Int×List Int×PUnit
abbrev xP:Type:=(List (List Int)×List Int×List Int×Bool×PUnit)×PUnit
theorem SZ (p:Int×ByteArray×List (List Int)×Unit) (s:List Int) (P:(List (List Int)×List Int×List Int×Bool×Unit)->Prop):(∃(y3:List Int),Kk.fn (s,())=some y3/\ ∃(y4:xP),gy.fn ([],[],[],false,y3,(0:Int),())=some y4/\ ∃(y5:List Int),It.fn ((p.1,p.2.1,p.2.2.1,()),())=some y5/\0=0/\0=([]:List Int).length/\0=0/\0=([]:List Int).length/\0=0/\0=([]:List Int).length/\0=0/\y4.1.1.length=y4.1.1.length/\0=0/\y4.1.2.1.length=y4.1.2.1.length/\0=0/\y4.1.2.2.1.length=y4.1.2.2.1.length/\Bk (λ(v6:ja) (k7:ja->Prop)=>Br (decide (v6.1<(↑v6.2.2.2.2.2.2.2.2.2.1.length:Int))) (0=0/\v6.2.2.2.2.2.2.1.length=v6.2.2.2.2.2.2.1.length/\0=0/\v6.2.2.2.2.2.2.2.1.length=v6.2.2.2.2.2.2.2.1.length/\0=0/\v6.2.2.2.2.2.2.2.2.1.length=v6.2.2.2.2.2.2.2.2.1.length/\0=0/\v6.2.2.2.2.2.2.2.2.2.1.length=v6.2.2.2.2.2.2.2.2.2.1.length/\0=0/\v6.2.2.2.2.2.2.2.2.2.2.1.length=v6.2.2.2.2.2.2.2.2.2.2.1.length/\0=0/\v6.2.2.2.2.2.2.2.2.2.2.2.1.length=v6.2.2.2.2.2.2.2.2.2.2.2.1.length/\Bk (λ(v8:ja) (k9:ja->Prop)=>Br (decide (v8.1<(↑y5.length:Int))) (((0:Int)<=v6.1/\v6.1<(↑v8.2.2.2.2.2.2.2.2.2.1.length:Int))/\ ∃(bh:List Int),v8.2.2.2.2.2.2.2.2.2.1[0+v6.1.toNat]?=some bh/\ ∃(dN:Int),idx y5 v8.1=some dN/\ ∃(Yg:List Int),Kp.fn ((v8.2.1,v8.2.2.1,v8.2.2.2.1,()),bh,dN,())=some Yg/\ ∃(Wj:Int),Kr.fn ((List.take v8.2.2.2.2.2.2.2.2.2.1.length (List.drop 0 v8.2.2.2.2.2.2.2.2.2.1),List.take v8.2.2.2.2.2.2.2.2.2.2.1.length (List.drop 0 v8.2.2.2.2.2.2.2.2.2.2.1),List.take v8.2.2.2.2.2.2.2.2.2.2.2.1.length (List.drop 0 v8.2.2.2.2.2.2.2.2.2.2.2.1),v8.2.2.2.2.2.1,()),Yg,())=some Wj/\Br (decide (Wj>=(0:Int))) (0=0/\v8.2.2.2.2.2.2.1.length=v8.2.2.2.2.2.2.1.length/\0=0/\v8.2.2.2.2.2.2.2.1.length=v8.2.2.2.2.2.2.2.1.length/\0=0/\v8.2.2.2.2.2.2.2.2.1.length=v8.2.2.2.2.2.2.2.2.1.length/\0=0/\v8.2.2.2.2.2.2.2.2.2.1.length=v8.2.2.2.2.2.2.2.2.2.1.length/\0=0/\v8.2.2.2.2.2.2.2.2.2.2.1.length=v8.2.2.2.2.2.2.2.2.2.2.1.length/\0=0/\v8.2.2.2.2.2.2.2.2.2.2.2.1.length=v8.2.2.2.2.2.2.2.2.2.2.2.1.length/\k9 (IntKind.i64.wrap (v8.1+(1:Int)),v8.2.1,v8.2.2.1,v8.2.2.2.1,v8.2.2.2.2.1,v8.2.2.2.2.2.1,v8.2.2.2.2.2.2.1,v8.2.2.2.2.2.2.2.1,v8.2.2.2.2.2.2.2.2.1,v8.2.2.2.2.2.2.2.2.2.1,v8.2.2.2.2.2.2.2.2.2.2.1,v8.2.2.2.2.2.2.2.2.2.2.2.1,())) (Br ((↑v8.2.2.2.2.2.2.2.2.2.1.length:Int)==(3000:Int)) (P (List.take v8.2.2.2.2.2.2.2.2.2.1.length (List.drop 0 v8.2.2.2.2.2.2.2.2.2.1),List.take v8.2.2.2.2.2.2.2.2.2.2.1.length (List.drop 0 v8.2.2.2.2.2.2.2.2.2.2.1),List.take v8.2.2.2.2.2.2.2.2.2.2.2.1.length (List.drop 0 v8.2.2.2.2.2.2.2.2.2.2.2.1),v8.2.2.2.2.2.1,())) (((0:Int)<=v6.1/\v6.1<(↑v8.2.2.2.2.2.2.2.2.2.2.1.length:Int))/\ ∃(Zu:Int),v8.2.2.2.2.2.2.2.2.2.2.1[0+v6.1.toNat]?=some Zu/\0=0/\v8.2.2.2.2.2.2.2.2.2.1.length=v8.2.2.2.2.2.2.2.2.2.1.length/\0=0/\v8.2.2.2.2.2.2.2.2.2.2.1.length=v8.2.2.2.2.2.2.2.2.2.2.1.length/\0=0/\v8.2.2.2.2.2.2.2.2.2.2.2.1.length=v8.2.2.2.2.2.2.2.2.2.2.2.1.length/\ ∃(dO:xP),gy.fn (v8.2.2.2.2.2.2.2.2.2.1,v8.2.2.2.2.2.2.2.2.2.2.1,v8.2.2.2.2.2.2.2.2.2.2.2.1,v8.2.2.2.2.2.1,Yg,IntKind.i64.wrap (Zu+(1:Int)),())=some dO/\0=0/\v8.2.2.2.2.2.2.1.length=v8.2.2.2.2.2.2.1.length/\0=0/\v8.2.2.2.2.2.2.2.1.length=v8.2.2.2.2.2.2.2.1.length/\0=0/\v8.2.2.2.2.2.2.2.2.1.length=v8.2.2.2.2.2.2.2.2.1.length/\0=0/\dO.1.1.length=dO.1.1.length/\0=0/\dO.1.2.1.length=dO.1.2.1.length/\0=0/\dO.1.2.2.1.length=dO.1.2.2.1.length/\k9 (IntKind.i64.wrap (v8.1+(1:Int)),v8.2.1,v8.2.2.1,v8.2.2.2.1,v8.2.2.2.2.1,dO.1.2.2.2.1,v8.2.2.2.2.2.2.1,v8.2.2.2.2.2.2.2.1,v8.2.2.2.2.2.2.2.2.1,dO.1.1,dO.1.2.1,dO.1.2.2.1,())))) (0=0/\v8.2.2.2.2.2.2.1.length=v8.2.2.2.2.2.2.1.length/\0=0/\v8.2.2.2.2.2.2.2.1.length=v8.2.2.2.2.2.2.2.1.length/\0=0/\v8.2.2.2.2.2.2.2.2.1.length=v8.2.2.2.2.2.2.2.2.1.length/\0=0/\v8.2.2.2.2.2.2.2.2.2.1.length=v8.2.2.2.2.2.2.2.2.2.1.length/\0=0/\v8.2.2.2.2.2.2.2.2.2.2.1.length=v8.2.2.2.2.2.2.2.2.2.2.1.length/\0=0/\v8.2.2.2.2.2.2.2.2.2.2.2.1.length=v8.2.2.2.2.2.2.2.2.2.2.2.1.length/\k7 (IntKind.i64.wrap (v6.1+(1:Int)),v8.2.1,v8.2.2.1,v8.2.2.2.1,v8.2.2.2.2.1,v8.2.2.2.2.2.1,v8.2.2.2.2.2.2.1,v8.2.2.2.2.2.2.2.1,v8.2.2.2.2.2.2.2.2.1,v8.2.2.2.2.2.2.2.2.2.1,v8.2.2.2.2.2.2.2.2.2.2.1,v8.2.2.2.2.2.2.2.2.2.2.2.1,()))) ((0:Int),v6.2.1,v6.2.2.1,v6.2.2.2.1,v6.2.2.2.2.1,v6.2.2.2.2.2.1,v6.2.2.2.2.2.2.1,v6.2.2.2.2.2.2.2.1,v6.2.2.2.2.2.2.2.2.1,v6.2.2.2.2.2.2.2.2.2.1,v6.2.2.2.2.2.2.2.2.2.2.1,v6.2.2.2.2.2.2.2.2.2.2.2.1,PUnit.unit)) (P (List.take v6.2.2.2.2.2.2.2.2.2.1.length (List.drop 0 v6.2.2.2.2.2.2.2.2.2.1),List.take v6.2.2.2.2.2.2.2.2.2.2.1.length (List.drop 0 v6.2.2.2.2.2.2.2.2.2.2.1),List.take v6.2.2.2.2.2.2.2.2.2.2.2.1.length (List.drop 0 v6.2.2.2.2.2.2.2.2.2.2.2.1),true,()))) ((0:Int),p.1,p.2.1,p.2.2.1,false,y4.1.2.2.2.1,[],[],[],y4.1.1,y4.1.2.1,y4.1.2.2.1,PUnit.unit))=fnW YX (look [(123,Kk),(149,gy),(96,It),(115,Kp),(54,Kr)]) De Try.f112 (p,s,()) P:=by kernel_rfl
theorem mK: ∀ {a b:List Int},Cm a b=0↔a=b
 | [],[]=>by simp [Cm]
 | [],_::_=>by simp [Cm]
 |_::_,[]=>by simp [Cm]
 |x::a,y::b=>by
  simp only [Cm,List.cons.injEq]
  by_cases h1:x<y
  ·rw [if_pos h1]
   exact ⟨λh=>by omega,λh=>by omega⟩
  ·rw [if_neg h1]
   by_cases h2:x>y
   ·rw [if_pos h2]
    exact ⟨λh=>by omega,λh=>by omega⟩
   ·rw [if_neg h2,mK]
    exact ⟨λh=>⟨by omega,h⟩,λh=>h.2⟩
theorem BT: ∀(a b:List Int),Cm b a= -Cm a b
 | [],[]=>by simp [Cm]
 | [],_::_=>by simp [Cm]
 |_::_,[]=>by simp [Cm]
 |x::a,y::b=>by
  simp only [Cm]
  rcases Int.lt_trichotomy x y with h1|h1|h1
  ·simp [h1,show ¬y<x by omega]
  ·subst h1
   simp [BT a b]
  ·simp [h1,show ¬x<y by omega]
theorem qH: ∀ {a b c:List Int},Cm a b<0->Cm b c<0->Cm a c<0
 | [],[],_,h,_=>by simp [Cm] at h
 |_::_,[],_,h,_=>by simp [Cm] at h
 |_,_::_,[],_,h=>by simp [Cm] at h
 | [],_::_,_::_,_,_=>by simp [Cm]
 |x::a,y::b,z::c,h1,h2=>by
  simp only [Cm] at h1 h2⊢
  by_cases e1:x<y
  ·by_cases e2:y<z
   ·rw [if_pos (by omega)];omega
   ·rw [if_neg e2] at h2
    by_cases e3:y>z
    ·rw [if_pos e3] at h2;omega
    ·rw [if_pos (by omega)];omega
  ·rw [if_neg e1] at h1
   by_cases e2:x>y
   ·rw [if_pos e2] at h1;omega
   ·rw [if_neg e2] at h1
    by_cases e3:y<z
    ·rw [if_pos (by omega)];omega
    ·rw [if_neg e3] at h2
     by_cases e4:y>z
     ·rw [if_pos e4] at h2;omega
     ·rw [if_neg e4] at h2
      rw [if_neg (by omega),if_neg (by omega)]
      exact qH h1 h2
theorem lt_iff {a b:List Int} :ay a b=true↔Cm a b<0:=decide_eq_true_iff
theorem FI {a b c:List Int} (h1:ay a b=true) (h2:ay b c=true):ay a c=true:=lt_iff.2 (qH (lt_iff.1 h1) (lt_iff.1 h2))
theorem gm (a:List Int):ay a a=false:=by
 have:Cm a a=0:=mK.2 rfl
 unfold ay;rw [this];rfl
theorem LO {a b:List Int} (h:ay a b=false) (Ep:a≠b):ay b a=true:=by
 rw [lt_iff,BT a b]
 have h1: ¬Cm a b<0:= λh'=>by rw [lt_iff.2 h'] at h;cases h
 have h2:Cm a b≠0:= λh'=>Ep (mK.1 h')
 omega
theorem fp {α:Type} (q:α->Bool): ∀(l:List α),l.Pairwise (λi j=>q j=true->q i=true)-> ∀k (hk:k<l.length),k<(l.takeWhile q).length↔q l[k]=true
 | [],_,k,hk=>by simp at hk
 |a::l,h,k,hk=>by
  obtain ⟨h1,h2⟩:=List.pairwise_cons.1 h
  by_cases ha:q a=true
  ·rw [List.takeWhile_cons_of_pos ha]
   rcases k with _|k
   ·simpa using ha
   ·simp only [List.length_cons,List.getElem_cons_succ,Nat.add_lt_add_iff_right]
    exact fp q l h2 k (by simpa using hk)
  ·rw [List.takeWhile_cons_of_neg ha]
   simp only [List.length_nil,Nat.not_lt_zero,false_iff]
   rcases k with _|k
   ·exact ha
   ·simp only [List.getElem_cons_succ]
    exact λhq=>ha (h1 _ (List.getElem_mem _) hq)
theorem Cx.nB {m:Nat} {L:List (List Int)} {Hx:List Int} (h:Cx m L Hx):Hx.length=L.length:=by rw [h.perm.length_eq,Py]
theorem Cx.idx {m:Nat} {L:List (List Int)} {Hx:List Int} (h:Cx m L Hx) {k:Nat} (hk:k<Hx.length):0<=Hx[k]/\Hx[k]<L.length:=Ir.1 (h.perm.mem_iff.1 (List.getElem_mem hk))
theorem Cx.Zo {m:Nat} {L:List (List Int)} {Hx:List Int} (h:Cx m L Hx) (s:List Int) {k:Nat} (hk:k<Hx.length):k<Dc L Hx s↔ay (L.getD Hx[k].toNat []) s=true:=
 fp _ Hx (h.sorted.imp λjF hj=>FI jF hj) k hk
theorem DG (L:List (List Int)) (Hx s:List Int):Dc L Hx s<=Hx.length:=(List.takeWhile_sublist _).length_le
theorem Cx.inj {m:Nat} {L:List (List Int)} {Hx:List Int} (h:Cx m L Hx) {i j:Nat} (hi:i<L.length) (hj:j<L.length) (e:L[i]=L[j]):i=j:=by
 have mem: ∀i,i<L.length->(i:Int)∈Hx:= λi hi=>h.perm.mem_iff.2 (Ir.2 ⟨by omega,by omega⟩)
 obtain ⟨p,hp,ep⟩:=List.mem_iff_getElem.1 (mem i hi)
 obtain ⟨q,hq,eq⟩:=List.mem_iff_getElem.1 (mem j hj)
 have get: ∀i (hi:i<L.length),L.getD ((i:Int)).toNat []=L[i]:= λi hi=>by rw [Int.toNat_natCast,List.getD_eq_getElem?_getD,List.getElem?_eq_getElem hi];rfl
 rcases Nat.lt_trichotomy p q with h1|h1|h1
 ·have:=List.pairwise_iff_getElem.1 h.sorted p q hp hq h1
  rw [ep,eq,get i hi,get j hj,e,gm] at this
  cases this
 ·subst h1
  rw [ep] at eq
  omega
 ·have:=List.pairwise_iff_getElem.1 h.sorted q p hq hp h1
  rw [ep,eq,get i hi,get j hj,e,gm] at this
  cases this
theorem Pd {L:List (List Int)} {k:Nat} (h:k<L.length):L.getD k []=L[k]:=by rw [List.getD_eq_getElem?_getD,List.getElem?_eq_getElem h];rfl
theorem Cx.sq {m:Nat} {L:List (List Int)} {Hx:List Int} (h:Cx m L Hx) {s:List Int} :
  (∃hk:Dc L Hx s<Hx.length,L.getD Hx[Dc L Hx s].toNat []=s/\bz L s=Hx[Dc L Hx s])\/(bz L s= -1/\ ∀hk:Dc L Hx s<Hx.length,L.getD Hx[Dc L Hx s].toNat []≠s):=by
 by_cases hm:s∈L
 ·left
  obtain ⟨j,hj,rfl⟩:=List.mem_iff_getElem.1 hm
  obtain ⟨p,hp,ep⟩:=List.mem_iff_getElem.1 (h.perm.mem_iff.2 (Ir.2 ⟨by omega,by omega⟩):(j:Int)∈Hx)
  have gj:L.getD Hx[p].toNat []=L[j]:=by rw [ep,Int.toNat_natCast,Pd hj]
  have hs:Dc L Hx L[j]=p:=by
   have h1: ¬p<Dc L Hx L[j]:= λh1=>by
    have:=(h.Zo L[j] hp).1 h1
    rw [gj,gm] at this;cases this
   have h2: ¬Dc L Hx L[j]<p:= λh2=>by
    have h3:=(h.Zo L[j] (k:=Dc L Hx L[j]) (by omega)).2 (by
     have:=List.pairwise_iff_getElem.1 h.sorted (Dc L Hx L[j]) p (by omega) hp h2
     rw [gj] at this;exact this)
    omega
   omega
  have hx:L.idxOf L[j]=j:=by
   have h1:L.idxOf L[j]<L.length:=List.idxOf_lt_length_of_mem hm
   exact h.inj h1 hj (List.getElem_idxOf h1)
  refine ⟨by omega,?_,?_⟩
  ·simp only [hs];exact gj
  ·unfold bz
   rw [if_pos hm,hx]
   simp only [hs];exact ep.symm
 ·right
  refine ⟨by unfold bz;rw [if_neg hm],λhk e=>hm ?_⟩
  have hi:=h.idx hk
  rw [Pd (by omega)] at e
  rw [<-e]
  exact List.getElem_mem _
theorem KZ (Hx:List Int) (k:Nat) (x:Int):(Qe Hx k x).Perm (x::Hx):=by
 unfold Qe
 refine List.perm_middle.trans (List.Perm.cons x ?_)
 rw [List.take_append_drop]
theorem Cx.add {m:Nat} {L:List (List Int)} {Hx s:List Int} (h:Cx m L Hx) (hn:s∉L) (hl:s.length=m) (hr:L.length<3000):Cx m (L++ [s]) (Qe Hx (Dc L Hx s) L.length):=by
 have wa: ∀i∈Hx,(L++ [s]).getD i.toNat []=L.getD i.toNat []:= λi hi=>by
  have:=Ir.1 (h.perm.mem_iff.1 hi)
  rw [List.getD_eq_getElem?_getD,List.getD_eq_getElem?_getD,List.getElem?_append_left (by omega)]
 have Aal:(L++ [s]).getD ((L.length:Int)).toNat []=s:=by
  rw [Int.toNat_natCast,List.getD_eq_getElem?_getD,List.getElem?_append_right (by omega),Nat.sub_self];rfl
 refine ⟨by rw [List.length_append,List.length_singleton];omega,λx hx=>?_,h.short,?_,?_⟩
 ·rcases List.mem_append.1 hx with hx|hx
  ·exact h.len x hx
  ·rw [List.mem_singleton.1 hx];exact hl
 ·refine (KZ _ _ _).trans ?_
  rw [List.length_append,List.length_singleton,Zs]
  exact (List.Perm.cons _ h.perm).trans (List.perm_append_singleton _ _).symm
 ·unfold Qe
  have hs:=h.sorted
  rw [<-List.take_append_drop (Dc L Hx s) Hx] at hs
  obtain ⟨s1,s2,s3⟩:=List.pairwise_append.1 hs
  have mt: ∀i∈Hx.take (Dc L Hx s),i∈Hx/\ay (L.getD i.toNat []) s=true:= λi hi=>by
   obtain ⟨k,hk,rfl⟩:=List.mem_iff_getElem.1 hi
   have hk2:k<Dc L Hx s:=by rw [List.length_take] at hk;omega
   have hk3:k<Hx.length:=by rw [List.length_take] at hk;omega
   rw [List.getElem_take]
   exact ⟨List.getElem_mem _,(h.Zo s hk3).1 hk2⟩
  have md: ∀i∈Hx.drop (Dc L Hx s),i∈Hx/\ay s (L.getD i.toNat [])=true:= λi hi=>by
   obtain ⟨k,hk,rfl⟩:=List.mem_iff_getElem.1 hi
   rw [List.length_drop] at hk
   have hk3:Dc L Hx s+k<Hx.length:=by omega
   rw [List.getElem_drop]
   refine ⟨List.getElem_mem _,LO ?_ λe=>hn ?_⟩
   ·exact Bool.eq_false_iff.2 λhh=>by
     have:=(h.Zo s hk3).2 hh
     omega
   ·have hi:=h.idx hk3
    rw [Pd (by omega)] at e
    rw [<-e];exact List.getElem_mem _
  refine List.pairwise_append.2 ⟨s1.imp_of_mem λ {a b} ha hb pv=>?_,List.pairwise_cons.2 ⟨λb hb=>?_,s2.imp_of_mem λ {a b} ha hb pv=>?_⟩,λa ha b hb=>?_⟩
  ·rw [wa a (mt a ha).1,wa b (mt b hb).1];exact pv
  ·rw [Aal,wa b (md b hb).1];exact (md b hb).2
  ·rw [wa a (md a ha).1,wa b (md b hb).1];exact pv
  ·rcases List.mem_cons.1 hb with rfl|hb
   ·rw [Aal,wa a (mt a ha).1];exact (mt a ha).2
   ·rw [wa a (mt a ha).1,wa b (md b hb).1];exact s3 a ha b hb
theorem aW (L:List (List Int)) (s:List Int):Tl (L++ [s])=Qe (Tl L) (Dc L (Tl L) s) L.length:=by
 unfold Tl
 rw [List.length_append,List.length_singleton,List.range_succ,List.foldl_append]
 have e: ∀(is:List Nat) (S:List Int),(∀i∈is,i<L.length)->is.foldl (λ(S:List Int) (i:Nat)=>Qe S (Dc ((L++ [s]).take i) S ((L++ [s]).getD i [])) (i:Int)) S=is.foldl (λ(S:List Int) (i:Nat)=>Qe S (Dc (L.take i) S (L.getD i [])) (i:Int)) S:=by
  intro is
  induction is with
  |nil=>intro S _;rfl
  |cons i is ih=>
   intro S h
   have hi:=h i (by simp)
   rw [List.foldl_cons,List.foldl_cons,ih _ λj hj=>h j (List.mem_cons_of_mem _ hj)]
   congr 2
   rw [List.take_append_of_le_length (by omega),List.getD_eq_getElem?_getD,List.getElem?_append_left hi,<-List.getD_eq_getElem?_getD]
 rw [e _ _ λi hi=>List.mem_range.1 hi]
 simp only [List.foldl_cons,List.foldl_nil]
 congr 2
 ·rw [List.take_append_of_le_length (Nat.le_refl _),List.take_length]
 ·rw [List.getD_eq_getElem?_getD,List.getElem?_append_right (by omega),Nat.sub_self];rfl
theorem iW {m:Nat} (h:m<=20):Cx m [] []:=⟨by simp,λx hx=>(by cases hx),h,by simp [upto],List.Pairwise.nil⟩
theorem KX {α:Type} {xs:List α} {y:Int} (h0:0<=y) (h:y.toNat<xs.length):idx xs y=some xs[y.toNat]:=by
 unfold idx
 rw [if_pos h0,List.getElem?_eq_getElem h]
theorem YG (f:SS) (s:List Int) (h:Cx s.length f.1 f.2.2.1):fnW Cr (look [(144,Re)]) aS Try.f104 (f,s,()) (λ(z:Int)=>z=(Dc f.1 f.2.2.1 s:Int)):=by
 obtain ⟨L,D,Hx,b,⟨⟩⟩:=f
 dsimp only at h⊢
 have hle:=DG L Hx s
 have IP:=h.nB
 have wj:=h.pb
 refine Eq.mp (ZH (L,D,Hx,b,()) s _) ?_
 refine Bk.mk (λv=>v.2.2.1=L/\v.2.2.2.2.1=Hx/\ ∃lo hi:Nat,v.1=lo/\v.2.1=hi/\lo<=hi/\hi<=Hx.length/\lo<=Dc L Hx s/\Dc L Hx s<=hi) (λv=>(v.2.1-v.1).toNat)
  ⟨rfl,rfl,0,Hx.length,rfl,rfl,by omega,by omega,by omega,hle⟩ ?_
 rintro ⟨lo',gf,L',D',HI,b',⟨⟩⟩ ⟨h1,h2,lo,hi,h3,h4,h5,h6,h7,h8⟩
 dsimp only at h1 h2 h3 h4⊢
 subst h1 h2 h3 h4
 refine Br.dec (λhl=>?_) λhl=>?_
 ·have em:IntKind.i64.wrap ((IntKind.i64.wrap ((lo:Int)+(hi:Int))).tdiv 2)=(((lo+hi)/2:Nat):Int):=by
   rw [Bu (n:=(lo:Int)+(hi:Int)) (by omega) (by omega),Int.tdiv_eq_ediv_of_nonneg (by omega),Bu (by omega) (by omega)]
   omega
  rw [em]
  have UG:(lo+hi)/2<HI.length:=by omega
  have QH:=h.idx UG
  have QI:HI[(lo+hi)/2].toNat<L'.length:=by omega
  have OP:=Pd QI
  have hlen:=h.len _ (List.getElem_mem QI)
  have IQ:short L'[HI[(lo+hi)/2].toNat]:=by
   unfold short
   have:=h.short;omega
  refine ⟨by decide,_,Aq UG,_,KX QH.1 QI,_,if_pos ⟨IQ,hlen⟩,⟨λhc=>?_,λhc=>?_⟩⟩
  ·have hc:ay L'[HI[(lo+hi)/2].toNat] s=true:=hc
   have hs:=(h.Zo s UG).2 (by rw [OP];exact hc)
   rw [Al (by omega)]
   exact ⟨⟨rfl,rfl,(lo+hi)/2+1,hi,rfl,rfl,by omega,h6,by omega,h8⟩,by omega⟩
  ·have hc:ay L'[HI[(lo+hi)/2].toNat] s=false:=hc
   have hs: ¬(lo+hi)/2<Dc L' HI s:= λhh=>by
    have:=(h.Zo s UG).1 hh
    rw [OP,hc] at this;cases this
   exact ⟨⟨rfl,rfl,lo,(lo+hi)/2,rfl,rfl,by omega,by omega,h7,by omega⟩,by omega⟩
 ·show (lo:Int)=_
  omega
theorem oD:Sound Try.prog 104 aS:=
 Sound.Cz Bo (Ah oC Ap) mixed Try.func104 (by kernel_rfl) (by kernel_rfl) λx h=>YG x.1 x.2.1 h
theorem MH (f:SS) (s:List Int) (h:Cx s.length f.1 f.2.2.1):fnW Cr (look [(104,aS),(105,Eh)]) Kr Try.f54 (f,s,()) (λ(z:Int)=>z=bz f.1 s):=by
 obtain ⟨L,D,Hx,b,⟨⟩⟩:=f
 dsimp only at h⊢
 refine Eq.mp (OC (L,D,Hx,b,()) s _) ⟨_,if_pos h,Br.dec (λhl=>?_) λhl=>?_⟩
 ·have hl:Dc L Hx s<Hx.length:=by
   have hl:((Dc L Hx s:Nat):Int)<(Hx.length:Int):=hl
   omega
  have QH:=h.idx hl
  have QI:Hx[Dc L Hx s].toNat<L.length:=by omega
  have OP:=Pd QI
  have hlen:=h.len _ (List.getElem_mem QI)
  have IQ:short L[Hx[Dc L Hx s].toNat]:=by
   unfold short
   have:=h.short;omega
  refine ⟨_,Aq hl,_,KX QH.1 QI,_,if_pos IQ,⟨λhc=>⟨_,Aq hl,?_⟩,λhc=>?_⟩⟩
  ·have hc:L[Hx[Dc L Hx s].toNat]=s:=of_decide_eq_true hc
   rcases h.sq (s:=s) with ⟨hk,_,e⟩|⟨_,Ep⟩
   ·exact e.symm
   ·exact absurd (by rw [OP];exact hc) (Ep hl)
  ·have hc: ¬L[Hx[Dc L Hx s].toNat]=s:=of_decide_eq_false hc
   rcases h.sq (s:=s) with ⟨hk,e,_⟩|⟨e,_⟩
   ·rw [OP] at e;exact absurd e hc
   ·exact e.symm
 ·have hl: ¬Dc L Hx s<Hx.length:=by
   have hl: ¬((Dc L Hx s:Nat):Int)<(Hx.length:Int):=hl
   omega
  rcases h.sq (s:=s) with ⟨hk,e,_⟩|⟨e,_⟩
  ·exact absurd hk hl
  ·exact e.symm
theorem aV:Sound Try.prog 54 Kr:=
 Sound.Cz Bo (Ah oD (Ah lO Ap)) mixed Try.func54 (by kernel_rfl) (by kernel_rfl) λx h=>MH x.1 x.2.1 h
theorem zh {S:List Int} {k:Nat} (h:k<=S.length) (n:Int):
  (Bj (S++ [0]) (k+1) (List.take ((S++ [0]).length-(k+1)) (List.take ((S++ [0]).length-k) (List.drop k (S++ [0]))))).set k n=Qe S k n:=by
 obtain ⟨A,B,rfl,hA⟩: ∃A B,S=A++B/\A.length=k:=⟨S.take k,S.drop k,(List.take_append_drop k S).symm,by rw [List.length_take];omega⟩
 subst hA
 have e1:List.drop A.length (A++B++ [0])=B++ [0]:=by rw [List.append_assoc,List.drop_left]
 have e2:List.take ((A++B++ [0]).length-A.length) (B++ [0])=B++ [0]:=List.take_of_length_le (by simp only [List.length_append,List.length_singleton];omega)
 have e3:List.take ((A++B++ [0]).length-(A.length+1)) (B++ [0])=B:=by
  have:(A++B++ [(0:Int)]).length-(A.length+1)=B.length:=by simp only [List.length_append,List.length_singleton];omega
  rw [this,List.take_left]
 rw [e1,e2,e3]
 unfold Bj Qe
 have e4:List.drop (A.length+1+B.length) (A++B++ [0])= []:=List.drop_eq_nil_of_le (by simp only [List.length_append,List.length_singleton];omega)
 obtain ⟨c,hc⟩: ∃c,List.take (A.length+1) (A++B++ [0])=A++ [c]:=by
  rw [List.append_assoc,List.take_append,List.take_of_length_le (by omega)]
  cases B with
  |nil=>exact ⟨0,by simp⟩
  |cons b B=>exact ⟨b,by simp⟩
 rw [e4,hc,List.append_nil,List.append_assoc,List.singleton_append,SA,List.take_left,List.drop_left]
theorem YE (L:List (List Int)) (D S:List Int) (b:Bool) (s:List Int) (d:Int) (h:Cx s.length L S/\D.length<=3000):
  fnMW Ye (look [(104,aS)]) gy Try.f149 (L,D,S,b,s,d,()) (λ(z:(List (List Int)×List Int×List Int×Bool×Unit)×Unit)=>z=((L++ [s],D++ [d],Qe S (Dc L S s) L.length,b,()),())):=by
 obtain ⟨h,hD⟩:=h
 have hle:=DG L S s
 have IP:=h.nB
 have wj:=h.pb
 refine Eq.mp (ZF L D S b s d _) ?_
 rw [Bi L,Bi D,Bi S]
 refine ⟨_,if_pos h,?_⟩
 dsimp only
 have es:List.take 1 (List.drop 0 [(0:Int)])= [0]:=rfl
 have el:(S++ [(0:Int)]).length=S.length+1:=by simp
 rw [es,Al (by omega),Nat.zero_add,Nat.zero_add,Int.toNat_natCast,Int.toNat_natCast,Int.toNat_natCast]
 refine ⟨rfl,rfl,by show S.length+1<=4294967296;omega,⟨by omega,by omega,by omega⟩,⟨by omega,by omega,by omega⟩,⟨by omega,by omega⟩,?_,rfl,rfl,by show L.length+1<=4294967296;omega,rfl,rfl,by show D.length+1<=4294967296;omega,?_⟩
 ·unfold Bj
  simp only [List.length_append,List.length_take,List.length_drop,List.length_singleton]
  omega
 ·rw [zh hle,Bi,Bi]
  have e5:List.take (S++ [(0:Int)]).length (List.drop 0 (Qe S (Dc L S s) (L.length:Int)))=Qe S (Dc L S s) (L.length:Int):=by
   rw [List.drop_zero,List.take_of_length_le]
   unfold Qe
   simp only [List.length_append,List.length_cons,List.length_take,List.length_drop,List.length_nil]
   omega
  rw [e5]
  rfl
theorem AM:Ck Try.prog 149 gy:=
 Ck.jR Wc (Ah oD Ap) mixed Try.func149 (by kernel_rfl) (by kernel_rfl) λx h=>YE x.1 x.2.1 x.2.2.1 x.2.2.2.1 x.2.2.2.2.1 x.2.2.2.2.2.1 h
structure Oy (p:PP) (m:Nat) (L:List (List Int)) (D:List Int):Prop where
 ok:Cx m L (Tl L)
 len:D.length=L.length
 row: ∀x∈L,∀y∈x,0<=y/\y<p.1
 dep: ∀j (h:j<D.length),0<=D[j]/\D[j]<=j
theorem me {p:PP} (hv:Valid p) {x:List Int} {l:Int} (hx: ∀y∈x,0<=y/\y<p.1) (hl:Es (List.length p.2.2.1) l):
  (Aa x (Af p.2.2.1 l)).length=x.length/\ ∀y∈Aa x (Af p.2.2.1 l),0<=y/\y<p.1:=by
 obtain ⟨h1,h2⟩:=jL hv hl
 refine ⟨Ob _ _,λy hy=>?_⟩
 have:=vN (n:=(Af p.2.2.1 l).length) (λz hz=>by have:=hx z hz;omega) h2 y hy
 omega
theorem Oy.add {p:PP} {m:Nat} {L:List (List Int)} {D:List Int} (h:Oy p m L D) {y:List Int} {d:Int} (hn:y∉L) (hl:y.length=m) (hr:L.length<3000) (hy: ∀z∈y,0<=z/\z<p.1) (hd:0<=d/\d<=L.length):Oy p m (L++ [y]) (D++ [d]):=by
 have hlen:=h.len
 refine ⟨by rw [aW];exact h.ok.add hn hl hr,by simp [hlen],λx hx=>?_,λj hj=>?_⟩
 ·rcases List.mem_append.1 hx with hx|hx
  ·exact h.row x hx
  ·rw [List.mem_singleton.1 hx];exact hy
 ·by_cases e:j<D.length
  ·rw [List.getElem_append_left e];exact h.dep j e
  ·simp only [List.length_append,List.length_singleton] at hj
   have:j=D.length:=by omega
   subst this
   rw [List.getElem_append_right (by omega)]
   simp only [Nat.sub_self,List.getElem_cons_zero]
   omega
theorem dR {p:PP} {s:List Int} (hs:s.length<=20) (hr: ∀y∈s,0<=y/\y<p.1):Oy p s.length [s] [0]:=by
 refine ⟨?_,rfl,λx hx=>by rw [List.mem_singleton.1 hx];exact hr,λj hj=>?_⟩
 ·have:=(iW hs).add (s:=s) (by simp) rfl (by simp)
  have e:Tl [s]=Qe [] (Dc [] [] s) 0:=aW [] s
  rw [e];exact this
 ·simp only [List.length_singleton] at hj
  have:j=0:=by omega
  subst this
  simp
theorem ri {L:List (List Int)} {s:List Int} :bz L s>=0↔s∈L:=by
 unfold bz
 split
 ·rename_i h;exact ⟨λ_=>h,λ_=>by omega⟩
 ·rename_i h;exact ⟨λhh=>by omega,λhh=>absurd hh h⟩
theorem RU (p:PP) (s:List Int) (h:Ax p=true/\s.length<=20/\ ∀y∈s,0<=y/\y<p.1):fnW YX (look [(123,Kk),(149,gy),(96,It),(115,Kp),(54,Kr)]) De Try.f112 (p,s,()) (λ(z:SS)=>z=Dh p.2.2.1 s):=by
 obtain ⟨hv,hs,hr⟩:=h
 have hV:=valid hv
 have wj:=hV.pb
 have VS:=dR hs hr
 have IQ:short s:=by unfold short;omega
 obtain ⟨ls,kT⟩: ∃ls,Ag (List.length p.2.2.1)=ls:=⟨_,rfl⟩
 refine Eq.mp (SZ p s _) ⟨_,if_pos IQ,_,if_pos ⟨iW hs,by show 0<=3000;omega⟩,ls,(if_pos (by show List.length p.2.2.1<=8;exact wj.2)).trans (congrArg some kT),rfl,rfl,rfl,rfl,rfl,rfl,rfl,rfl,rfl,rfl,rfl,rfl,?_⟩
 have e0:Qe [] (Dc [] [] s) ((([]:List (List Int)).length:Nat):Int)=Tl [s]:=(aW [] s).symm
 show Bk _ ((0:Int),p.1,p.2.1,p.2.2.1,false,false,[],[],[],[s],[(0:Int)],Qe [] (Dc [] [] s) ((([]:List (List Int)).length:Nat):Int),PUnit.unit)
 rw [e0]
 have OT:ls.length<=16:=by rw [<-kT,Kv];omega
 have jG: ∀l∈ls,Es (List.length p.2.2.1) l:= λl hl=>Iq (kT▸hl)
 have zd:Gs p.2.2.1 ls 3001 0 [s] [0]=Ds p.2.2.1 s:=by unfold Ds;rw [kT]
 refine Bk.mk (λv=>v.2.1=p.1/\v.2.2.1=p.2.1/\v.2.2.2.1=p.2.2.1/\v.2.2.2.2.2.1=false/\ ∃k:Nat,v.1=k/\k<=v.2.2.2.2.2.2.2.2.2.1.length/\
   Oy p s.length v.2.2.2.2.2.2.2.2.2.1 v.2.2.2.2.2.2.2.2.2.2.1/\v.2.2.2.2.2.2.2.2.2.2.2.1=Tl v.2.2.2.2.2.2.2.2.2.1/\
   Gs p.2.2.1 ls (3001-k) k v.2.2.2.2.2.2.2.2.2.1 v.2.2.2.2.2.2.2.2.2.2.1=Ds p.2.2.1 s) (λv=>3001-v.1.toNat)
  ⟨rfl,rfl,rfl,rfl,0,rfl,by simp,VS,rfl,zd⟩ ?_
 rintro ⟨k',n1,n2,n3,b0,wh,x1,x2,x3,L0,D0,S0,⟨⟩⟩ ⟨h1,h2,h3,h4,k,h5,h6,h7,h8,h9⟩
 dsimp only at h1 h2 h3 h4 h5 h6 h7 h8 h9
 subst h1 h2 h3 h4 h5 h8
 dsimp only
 have hL0:=h7.ok.pb
 have hD0:=h7.len
 refine Br.dec (λhl=>⟨rfl,rfl,rfl,rfl,rfl,rfl,rfl,rfl,rfl,rfl,rfl,rfl,?_⟩) λhl=>?_
 ·have hk:k<L0.length:=by omega
  have EM:k<D0.length:=by omega
  have hx: ∀y∈L0[k],0<=y/\y<p.1:=h7.row _ (List.getElem_mem hk)
  have QY:L0[k].length=s.length:=h7.ok.len _ (List.getElem_mem hk)
  have hdk:=h7.dep k EM
  obtain ⟨f,hf⟩: ∃f,3001-k=f+1:=⟨3000-k,by omega⟩
  have z6: ∀L' D' ok,Ey p.2.2.1 L0[k] D0[k] ls L0 D0=(L',D',ok)->Ds p.2.2.1 s=if ok=true then Gs p.2.2.1 ls f (k+1) L' D' else (L',D',false):=by
   intro L' D' ok he
   rw [<-h9,hf,Gs,if_pos hk,Pd hk,List.getD_eq_getElem?_getD,List.getElem?_eq_getElem EM]
   simp only [Option.getD_some]
   rw [he]
   cases ok<;>rfl
  refine Bk.mk (λv=>v.2.1=p.1/\v.2.2.1=p.2.1/\v.2.2.2.1=p.2.2.1/\v.2.2.2.2.2.1=false/\ ∃i:Nat,v.1=i/\i<=ls.length/\Oy p s.length v.2.2.2.2.2.2.2.2.2.1 v.2.2.2.2.2.2.2.2.2.2.1/\
    v.2.2.2.2.2.2.2.2.2.2.2.1=Tl v.2.2.2.2.2.2.2.2.2.1/\(∃A,v.2.2.2.2.2.2.2.2.2.1=L0++A)/\(∃A,v.2.2.2.2.2.2.2.2.2.2.1=D0++A)/\
    Ey p.2.2.1 L0[k] D0[k] (ls.drop i) v.2.2.2.2.2.2.2.2.2.1 v.2.2.2.2.2.2.2.2.2.2.1=Ey p.2.2.1 L0[k] D0[k] ls L0 D0) (λv=>ls.length-v.1.toNat)
   ⟨rfl,rfl,rfl,rfl,0,rfl,Nat.zero_le _,h7,rfl,⟨[],by simp⟩,⟨[],by simp⟩,rfl⟩ ?_
  rintro ⟨i',m1,m2,m3,b1,wh1,y1,y2,y3,L,D,S,⟨⟩⟩ ⟨g1,g2,g3,g4,i,g5,g6,g7,g8,⟨A,g9⟩,⟨A',g10⟩,IK⟩
  dsimp only at g1 g2 g3 g4 g5 g6 g7 g8 g9 g10 IK
  subst g1 g2 g3 g4 g5 g8
  dsimp only
  have hLf:=g7.ok.pb
  have TO:=g7.len
  rw [Bi L,Bi D,Bi (Tl L)]
  refine Br.dec (λhli=>?_) λhli=>?_
  ·have hi:i<ls.length:=by omega
   have UA:k<L.length:=by rw [g9,List.length_append];omega
   have hLk:L[k]=L0[k]:=by simp only [g9];exact List.getElem_append_left hk
   have WI:k<D.length:=by rw [TO];exact UA
   have hDk:D[k]=D0[k]:=by simp only [g10];exact List.getElem_append_left EM
   have sR:=jG _ (List.getElem_mem hi)
   obtain ⟨nl,nr⟩:=me hV hx sR
   rw [List.drop_eq_getElem_cons hi] at IK
   simp only [Ey] at IK
   refine ⟨⟨by omega,by omega⟩,L0[k],by rw [Int.toNat_natCast,Nat.zero_add,List.getElem?_eq_getElem UA,hLk],_,Aq hi,_,if_pos ⟨hv,by show L0[k].length<=20;omega,hx,sR⟩,?_⟩
   dsimp only
   have hyl:(Aa L0[k] (Af p.2.2.1 ls[i])).length=s.length:=by rw [nl,QY]
   refine ⟨_,if_pos (by show Cx (Aa L0[k] (Af p.2.2.1 ls[i])).length L (Tl L);rw [hyl];exact g7.ok),Br.dec (λNs=>?_) λNs=>?_⟩
   ·have Ns:Aa L0[k] (Af p.2.2.1 ls[i])∈L:=ri.1 Ns
    rw [if_pos Ns] at IK
    rw [Al (by omega)]
    exact ⟨rfl,rfl,rfl,rfl,rfl,rfl,rfl,rfl,rfl,rfl,rfl,rfl,⟨rfl,rfl,rfl,rfl,i+1,rfl,hi,g7,rfl,⟨A,g9⟩,⟨A',g10⟩,IK⟩,by omega⟩
   ·have Ns:Aa L0[k] (Af p.2.2.1 ls[i])∉L:= λhh=>Ns (ri.2 hh)
    rw [if_neg Ns] at IK
    refine ⟨λeW=>?_,λeW=>⟨⟨by omega,by omega⟩,D0[k],by rw [Int.toNat_natCast,Nat.zero_add,List.getElem?_eq_getElem WI,hDk],rfl,rfl,rfl,rfl,rfl,rfl,?_⟩⟩
    ·have eW:L.length=3000:=by
      have:(L.length:Int)=3000:=by simpa using eW
      omega
     rw [if_pos eW] at IK
     have:=z6 _ _ _ IK.symm
     rw [if_neg (by decide)] at this
     unfold Dh
     rw [this]
    ·have eW:L.length≠3000:=by
      have:(L.length:Int)≠3000:=by simpa using eW
      omega
     rw [if_neg eW] at IK
     rw [Bu (n:=D0[k]+1) (by omega) (by omega)]
     refine ⟨_,if_pos ⟨by show Cx (Aa L0[k] (Af p.2.2.1 ls[i])).length L (Tl L);rw [hyl];exact g7.ok,by show D.length<=3000;omega⟩,?_⟩
     dsimp only
     rw [Al (by omega),<-aW]
     refine ⟨rfl,rfl,rfl,rfl,rfl,rfl,rfl,rfl,rfl,rfl,rfl,rfl,⟨rfl,rfl,rfl,rfl,i+1,rfl,hi,g7.add Ns hyl (by omega) nr ⟨by omega,by omega⟩,rfl,⟨A++ [Aa L0[k] (Af p.2.2.1 ls[i])],by rw [g9,List.append_assoc]⟩,⟨A'++ [D0[k]+1],by rw [g10,List.append_assoc]⟩,IK⟩,by omega⟩
  ·have:i=ls.length:=by omega
   subst this
   rw [List.drop_length,Ey] at IK
   have:=z6 _ _ _ IK.symm
   rw [if_pos rfl] at this
   rw [Al (by omega)]
   refine ⟨rfl,rfl,rfl,rfl,rfl,rfl,rfl,rfl,rfl,rfl,rfl,rfl,⟨rfl,rfl,rfl,rfl,k+1,rfl,by rw [g9,List.length_append];omega,g7,rfl,?_⟩,by omega⟩
   rw [show 3001-(k+1)=f by omega]
   exact this.symm
 ·have hk:k=L0.length:=by omega
  rw [Bi L0,Bi D0,Bi (Tl L0)]
  obtain ⟨f,hf⟩: ∃f,3001-k=f+1:=⟨3000-k,by omega⟩
  rw [hf,Gs,if_neg (by omega)] at h9
  unfold Dh
  rw [<-h9]
theorem lp:Sound Try.prog 112 De:=
 Sound.Cz YY (Ah dx (Gz AM (Ah bG (Ah aU (Ah aV Ap))))) mixed Try.func112 (by kernel_rfl) (by kernel_rfl) λx h=>RU x.1 x.2.1 h
end Go.Proofs.Ytjbdmibbbpdnnaa

namespace Go.Proofs.Ytjbdmibbbpdnnaa
open Go.RowKit
noncomputable def Dp (p:PP) (t:List Int):Bool:=Ax p&&Fg p.1 t
theorem gT {p:PP} (hV:Valid p) {m:Nat} {x:List Int} {d:Int} (hx: ∀y∈x,0<=y/\y<p.1) (QY:x.length=m): ∀(ls:List Int) (L:List (List Int)) (D:List Int),(∀l∈ls,Es (List.length p.2.2.1) l)->
  Oy p m L D->(0<=d/\d<L.length)->Oy p m (Ey p.2.2.1 x d ls L D).1 (Ey p.2.2.1 x d ls L D).2.1/\(∃A,(Ey p.2.2.1 x d ls L D).1=L++A)/\(∃A,(Ey p.2.2.1 x d ls L D).2.1=D++A)
 | [],L,D,_,h,_=>⟨h,⟨[],by simp [Ey]⟩,⟨[],by simp [Ey]⟩⟩
 |l::ls,L,D,hl,h,hd=>by
  obtain ⟨n1,n2⟩:=me hV hx (hl l (by simp))
  have Hg: ∀l∈ls,Es (List.length p.2.2.1) l:= λl' h'=>hl l' (List.mem_cons_of_mem _ h')
  simp only [Ey]
  split
  ·exact gT hV hx QY ls L D Hg h hd
  ·rename_i hn
   split
   ·exact ⟨h,⟨[],by simp⟩,⟨[],by simp⟩⟩
   ·rename_i hf
    have wj:=h.ok.pb
    obtain ⟨k1,⟨A,k2⟩,⟨A',k3⟩⟩:=gT hV hx QY ls (L++ [Aa x (Af p.2.2.1 l)]) (D++ [d+1]) Hg (h.add hn (by rw [n1,QY]) (by omega) n2 ⟨by omega,by omega⟩) ⟨hd.1,by rw [List.length_append];omega⟩
    exact ⟨k1,⟨_::A,by rw [k2,List.append_assoc];rfl⟩,⟨_::A',by rw [k3,List.append_assoc];rfl⟩⟩
theorem vE {p:PP} (hV:Valid p) {m:Nat} {ls:List Int} (hl: ∀l∈ls,Es (List.length p.2.2.1) l): ∀(f k:Nat) (L:List (List Int)) (D:List Int),Oy p m L D->
  Oy p m (Gs p.2.2.1 ls f k L D).1 (Gs p.2.2.1 ls f k L D).2.1/\(∃A,(Gs p.2.2.1 ls f k L D).1=L++A)
 |0,k,L,D,h=>⟨h,⟨[],by simp [Gs]⟩⟩
 |f+1,k,L,D,h=>by
  simp only [Gs]
  split
  ·rename_i hk
   have EM:k<D.length:=by rw [h.len];exact hk
   have hd:=h.dep k EM
   have e:D.getD k 0=D[k]:=by rw [List.getD_eq_getElem?_getD,List.getElem?_eq_getElem EM];rfl
   rw [Pd hk,e]
   obtain ⟨k1,⟨A,k2⟩,_⟩:=gT hV (h.row _ (List.getElem_mem hk)) (h.ok.len _ (List.getElem_mem hk)) (d:=D[k]) ls L D hl h ⟨by omega,by omega⟩
   split
   ·rename_i L' D' he
    rw [he] at k1 k2
    obtain ⟨g1,⟨B,g2⟩⟩:=vE hV hl f (k+1) L' D' k1
    have k2:L'=L++A:=k2
    exact ⟨g1,⟨A++B,by rw [g2,k2,List.append_assoc]⟩⟩
   ·rename_i L' D' he
    rw [he] at k1 k2
    exact ⟨k1,⟨A,k2⟩⟩
  ·exact ⟨h,⟨[],by simp⟩⟩
theorem ss {p:PP} {s:List Int} (hv:Ax p=true) (hs:s.length<=20) (hr: ∀y∈s,0<=y/\y<p.1):Oy p s.length (Ds p.2.2.1 s).1 (Ds p.2.2.1 s).2.1/\ ∃A,(Ds p.2.2.1 s).1=s::A:=
 vE (valid hv) (λ_ hl=>Iq hl) _ _ _ _ (dR hs hr)
theorem Kd {p:PP} {t:List Int} :Dp p t=true↔Ax p=true/\Fg p.1 t=true:=by
 unfold Dp;rw [Bool.and_eq_true]
theorem Fw {p:PP} {t:List Int} (h:Dp p t=true):t.length<=20/\ ∀y∈t,0<=y/\y<p.1:=by
 obtain ⟨h1,h2⟩:=Kd.1 h
 have hn:=(valid h1).n
 obtain ⟨h3,h4⟩:=Fm.1 h2
 have hy: ∀y∈t,0<=y/\y<p.1:= λy hy=>by
  obtain ⟨j,hj,rfl⟩:=List.mem_iff_getElem.1 hy
  have:=h4 j hj hj
  omega
 refine ⟨?_,hy⟩
 have h5:=zP h4 (t.length-1) (by omega)
 have h6:=hy _ (List.getElem_mem (show t.length-1<t.length by omega))
 omega
theorem nW {p:PP} {t:List Int} (h:Dp p t=true):Oy p t.length (Ds p.2.2.1 t).1 (Ds p.2.2.1 t).2.1:=(ss (Kd.1 h).1 (Fw h).1 (Fw h).2).1
def yt (m:ByteArray->Option Bool) (L:List (List Int)):Prop:= ∀q,Qc q->(m (Ml q)).getD false=decide (q∈L)
theorem yt.add {m:ByteArray->Option Bool} {L:List (List Int)} {y:List Int} (h:yt m L) (hy:Qc y):yt (bd m (Ml y) true) (L++ [y]):=by
 intro q hq
 unfold bd
 by_cases e:q=y
 ·subst e
  rw [if_pos rfl];simp
 ·rw [if_neg λhk=>e (key_inj hq hy hk),h q hq]
  simp [e]
end Go.Proofs.Ytjbdmibbbpdnnaa
