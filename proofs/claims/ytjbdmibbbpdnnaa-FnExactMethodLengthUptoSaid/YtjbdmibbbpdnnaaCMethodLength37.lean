/-
  Part 38 of the proof that the statement FnExactMethodLength holds.
-/
import Derived.Test.YtjbdmibbbpdnnaaCMethodLength36
import Derived.KernelRfl
namespace Go.Proofs.Ytjbdmibbbpdnnaa
open Go.RowKit
def Hj (x a b:Int):Bool:=decide (a<=x/\x<=b)
def dS (n x:Int):Bool:=decide (0<=x/\x<=IntKind.i64.wrap (n-1))
def Iq (a b:List Int):Bool:=decide (a=b)
def Bk (xs:List Int) (x:Int):Bool:=decide (x∈xs)
def short (xs:List Int):Prop:=xs.length<=4294967296
noncomputable abbrev Bg:Spec:=Cu (.pair tI (.pair tI (.pair tI .unit))) .bool false true (λ_=>True) (λx=>Hj x.1 x.2.1 x.2.2.1)
noncomputable abbrev Uf:Spec:=Cu (.pair tI (.pair tI .unit)) .bool false true (λ_=>True) (λx=>dS x.1 x.2.1)
noncomputable abbrev Ef:Spec:=Cu (.pair tL (.pair tL .unit)) .bool false true (λx=>short x.1) (λx=>Iq x.1 x.2.1)
noncomputable abbrev Cx:Spec:=Cu (.pair tL (.pair tI .unit)) .bool false true (λx=>short x.1) (λx=>Bk x.1 x.2.1)
theorem HI (x a b:Int) (P:Bool->Prop):(Br (decide (x>=a)) (P (decide (x<=b))) (P false))=fnW Co (look []) Bg Try.f93 (x,a,b,()) P:=by kernel_rfl
theorem NR (x a b:Int) (P:Bool->Prop):(Br (decide (x>=a)) (P (decide (x<=b))) (P false))=fnW Co (look []) Bg Try.f97 (x,a,b,()) P:=by kernel_rfl
theorem HK (n x:Int) (P:Bool->Prop):(∃(y3:Bool),Bg.fn (x,0,IntKind.i64.wrap (n-1),())=some y3/\P y3)=fnW Co (look [(97,Bg)]) Uf Try.f116 (n,x,()) P:=by kernel_rfl
theorem xD (a b:List Int) (P:Bool->Prop):(Br ((↑a.length:Int) !=(↑b.length:Int)) (P false) (Bn (λ(v3:Int×PUnit) (k4:Int×PUnit->Prop)=>Br (decide (v3.1<(↑a.length:Int))) (∃(y5:Int),idx a v3.1=some y5/\ ∃(y6:Int),idx b v3.1=some y6/\Br (y5 !=y6) (P false) (k4 (IntKind.i64.wrap (v3.1+1),()))) (P true)) (0,PUnit.unit)))=fnW Co (look []) Ef Try.f105 (a,b,()) P:=by kernel_rfl
theorem qb (xs:List Int) (x:Int) (P:Bool->Prop):(Bn (λ(v3:Int×PUnit) (k4:Int×PUnit->Prop)=>Br (decide (v3.1<(↑xs.length:Int))) (∃(y5:Int),idx xs v3.1=some y5/\Br (y5==x) (P true) (k4 (IntKind.i64.wrap (v3.1+1),()))) (P false)) (0,PUnit.unit))=fnW Co (look []) Cx Try.f153 (xs,x,()) P:=by kernel_rfl
theorem FH (x a b:Int) (_:True):fnW Co (look []) Bg Try.f93 (x,a,b,()) (λ(z:Bool)=>z=Hj x a b):=by
 refine Eq.mp (HI x a b _) ?_
 refine Br.dec (λh=>?_) λh=>?_
 ·have h:a<=x:=h
  simp [Hj,h]
 ·exact (decide_eq_false λhh=>h hh.1).symm
theorem Rr:Sound Try.prog 93 Bg:=
 Sound.Cu Bj Aq mixed Try.func93 (by kernel_rfl) (by kernel_rfl) λx h=>FH x.1 x.2.1 x.2.2.1 h
theorem LX (x a b:Int) (_:True):fnW Co (look []) Bg Try.f97 (x,a,b,()) (λ(z:Bool)=>z=Hj x a b):=by
 refine Eq.mp (NR x a b _) ?_
 refine Br.dec (λh=>?_) λh=>?_
 ·have h:a<=x:=h
  simp [Hj,h]
 ·exact (decide_eq_false λhh=>h hh.1).symm
theorem Mf:Sound Try.prog 97 Bg:=
 Sound.Cu Bj Aq mixed Try.func97 (by kernel_rfl) (by kernel_rfl) λx h=>LX x.1 x.2.1 x.2.2.1 h
theorem FJ (n x:Int) (_:True):fnW Co (look [(97,Bg)]) Uf Try.f116 (n,x,()) (λ(z:Bool)=>z=dS n x):=
 Eq.mp (HK n x _) ⟨_,if_pos trivial,rfl⟩
theorem pW:Sound Try.prog 116 Uf:=
 Sound.Cu Bj (Ah Mf Aq) mixed Try.func116 (by kernel_rfl) (by kernel_rfl) λx h=>FJ x.1 x.2.1 h
theorem pB (xs:List Int) (x:Int) (h:short xs):fnW Co (look []) Cx Try.f153 (xs,x,()) (λ(z:Bool)=>z=Bk xs x):=by
 refine Eq.mp (qb xs x _) ?_
 unfold short at h
 refine Am xs.length (λv=>v.1) (λj _=>x∉xs.take j) rfl (by simp) ?_
 rintro j ⟨i,⟨⟩⟩ K hj hi hR hK
 dsimp only at hi⊢
 subst hi
 refine Br.dec (λhl=>?_) λhl=>?_
 ·have hl:j<xs.length:=by omega
  refine ⟨_,Ap hl,⟨λhe=>?_,λhe=>?_⟩⟩
  ·have hm:=List.getElem_mem hl
   simp only [beq_iff_eq] at he
   rw [he] at hm
   exact (decide_eq_true hm).symm
  ·rw [Al (by omega)]
   refine hK hl _ rfl ?_
   simp only [beq_eq_false_iff_ne,ne_eq] at he
   rw [List.take_succ_eq_append_getElem hl]
   simp only [List.mem_append,List.mem_singleton,not_or]
   exact ⟨hR,λhx=>he hx.symm⟩
 ·have:j=xs.length:=by omega
  subst this
  rw [List.take_length] at hR
  exact (decide_eq_false hR).symm
theorem Wu:Sound Try.prog 153 Cx:=
 Sound.Cu Bj Aq mixed Try.func153 (by kernel_rfl) (by kernel_rfl) λx h=>pB x.1 x.2.1 h
theorem BD (a b:List Int) (hlen:a.length=b.length) (h:short a):
  Bn (λ(v3:Int×PUnit) (k4:Int×PUnit->Prop)=>
   Br (decide (v3.1<(↑a.length:Int))) (∃(y5:Int),idx a v3.1=some y5/\ ∃(y6:Int),idx b v3.1=some y6/\Br (y5 !=y6) (false=Iq a b) (k4 (IntKind.i64.wrap (v3.1+1),())))
    (true=Iq a b))
  (0,PUnit.unit):=by
 unfold short at h
 refine Am a.length (λv=>v.1) (λj _=>a.take j=b.take j) rfl (by simp) ?_
 rintro j ⟨i,⟨⟩⟩ K hj hi hR hK
 dsimp only at hi⊢
 subst hi
 refine Br.dec (λhl=>?_) λhl=>?_
 ·have vZ:j<a.length:=by omega
  have IA:j<b.length:=by omega
  refine ⟨_,Ap vZ,_,Ap IA,⟨λhe=>?_,λhe=>?_⟩⟩
  ·simp only [bne_iff_ne,ne_eq] at he
   refine (decide_eq_false λpa=>he ?_).symm
   subst pa
   rfl
  ·rw [Al (by omega)]
   refine hK vZ _ rfl ?_
   simp only [bne_eq_false_iff_eq] at he
   rw [List.take_succ_eq_append_getElem vZ,List.take_succ_eq_append_getElem IA,hR,he]
 ·have DU:j=a.length:=by omega
  subst DU
  rw [List.take_length,hlen,List.take_length] at hR
  exact (decide_eq_true hR).symm
theorem wT (a b:List Int) (h:short a):fnW Co (look []) Ef Try.f105 (a,b,()) (λ(z:Bool)=>z=Iq a b):=by
 refine Eq.mp (xD a b _) ⟨λhl=>?_,λhl=>?_⟩
 ·simp only [bne_iff_ne,ne_eq,Int.natCast_inj] at hl
  exact (decide_eq_false λpa=>hl (by rw [pa])).symm
 ·simp only [bne_eq_false_iff_eq,Int.natCast_inj] at hl
  exact BD a b hl h
theorem lE:Sound Try.prog 105 Ef:=
 Sound.Cu Bj Aq mixed Try.func105 (by kernel_rfl) (by kernel_rfl) λx h=>wT x.1 x.2.1 h
end Go.Proofs.Ytjbdmibbbpdnnaa

namespace Go.Proofs.Ytjbdmibbbpdnnaa
open Go.RowKit
def Cs (xs:List (List Int)):Prop:=xs.length<=4294967296/\ ∀r∈xs,short r
def roomy (room:Int):Prop:=0<=room/\room<=4294967296
def jD (n:Nat) (room:Int):Int:=if room-n<0 then-1 else room-n
def iz (xs:List Int) (room:Int):Int:=jD xs.length room
def oE:List (List Int)->Int->Int
 | [],room=>room
 |r::rs,room=>if iz r room<0 then-1 else oE rs (iz r room)
def Js (xs:List (List Int)) (room:Int):Int:=if jD xs.length room<0 then-1 else oE xs (jD xs.length room)
def fU (a b:List (List Int)):Bool:=decide (a=b)
noncomputable abbrev rH:Spec:=Cu (.pair tL (.pair tI .unit)) tI false true (λx=>short x.1/\roomy x.2.1) (λx=>iz x.1 x.2.1)
noncomputable abbrev aM:Spec:=Cu (.pair bC (.pair tI .unit)) tI false true (λx=>Cs x.1/\roomy x.2.1) (λx=>Js x.1 x.2.1)
noncomputable abbrev dg:Spec:=Cu (.pair tL .unit) tL false true (λx=>short x.1) (λx=>x.1)
noncomputable abbrev Vr:Spec:=Cu (.pair bC .unit) bC false true (λx=>Cs x.1) (λx=>x.1)
noncomputable abbrev aK:Spec:=Cu (.pair bC (.pair bC .unit)) .bool false true (λx=>Cs x.1) (λx=>fU x.1 x.2.1)
theorem Ad8 (xs:List Int) (room:Int) (P:Int->Prop):(Br (decide (IntKind.i64.wrap (room-(↑xs.length:Int))<0)) (P (-1)) (P (IntKind.i64.wrap (room-(↑xs.length:Int)))))=fnW Co (look []) rH Try.f74 (xs,room,()) P:=by kernel_rfl
theorem YO (xs:List (List Int)) (room:Int) (P:Int->Prop):(Br (decide (IntKind.i64.wrap (room-(↑xs.length:Int))<0)) (P (-1)) (Bn (λ(v3:Int×Int×PUnit) (k4:Int×Int×PUnit->Prop)=>Br (decide (v3.2.1<(↑xs.length:Int))) (∃(y5:List Int),idx xs v3.2.1=some y5/\ ∃(y6:Int),rH.fn (y5,v3.1,())=some y6/\Br (decide (y6<0)) (P (-1)) (k4 (y6,IntKind.i64.wrap (v3.2.1+1),()))) (P v3.1)) (IntKind.i64.wrap (room-(↑xs.length:Int)),0,PUnit.unit)))=fnW Co (look [(74,rH)]) aM Try.f34 (xs,room,()) P:=by kernel_rfl
theorem Ada (xs:List Int) (P:List Int->Prop):((0<=(↑xs.length:Int)/\(↑xs.length:Int)<(↑Bp:Int)+1)/\(↑xs.length:Int)=(↑xs.length:Int)/\0=0/\(List.replicate (↑xs.length:Int).toNat (Int.ofNat 0)).length=(List.replicate (↑xs.length:Int).toNat (Int.ofNat 0)).length/\Bn (λ(v2:Int×List Int×PUnit) (k3:Int×List Int×PUnit->Prop)=>Br (decide (v2.1<(↑xs.length:Int))) (∃(y4:Int),idx xs v2.1=some y4/\(0<=v2.1/\v2.1<(↑v2.2.1.length:Int))/\0+v2.1.toNat<v2.2.1.length/\0=0/\v2.2.1.length=(v2.2.1.set (0+v2.1.toNat) y4).length/\k3 (IntKind.i64.wrap (v2.1+1),v2.2.1.set (0+v2.1.toNat) y4,())) (P (List.take v2.2.1.length (List.drop 0 v2.2.1)))) (0,List.replicate (↑xs.length:Int).toNat (Int.ofNat 0),PUnit.unit))=fnW Co (look []) dg Try.f17 (xs,()) P:=by kernel_rfl
theorem YP (xs:List (List Int)) (P:List (List Int)->Prop):((0<=(↑xs.length:Int)/\(↑xs.length:Int)<(↑Bp:Int)+1)/\(↑xs.length:Int)=(↑xs.length:Int)/\0=0/\(List.replicate (↑xs.length:Int).toNat ([]:List Int)).length=(List.replicate (↑xs.length:Int).toNat ([]:List Int)).length/\Bn (λ(v2:Int×List (List Int)×PUnit) (k3:Int×List (List Int)×PUnit->Prop)=>Br (decide (v2.1<(↑xs.length:Int))) (∃(y4:List Int),idx xs v2.1=some y4/\ ∃(y5:List Int),dg.fn (y4,())=some y5/\(0<=v2.1/\v2.1<(↑v2.2.1.length:Int))/\0+v2.1.toNat<v2.2.1.length/\0=0/\v2.2.1.length=(v2.2.1.set (0+v2.1.toNat) y5).length/\k3 (IntKind.i64.wrap (v2.1+1),v2.2.1.set (0+v2.1.toNat) y5,())) (P (List.take v2.2.1.length (List.drop 0 v2.2.1)))) (0,List.replicate (↑xs.length:Int).toNat ([]:List Int),PUnit.unit))=fnW Co (look [(17,dg)]) Vr Try.f36 (xs,()) P:=by kernel_rfl
theorem Ad1 (a b:List Int) (P:Bool->Prop):(Br ((↑a.length:Int) !=(↑b.length:Int)) (P false) (Bn (λ(v3:Int×PUnit) (k4:Int×PUnit->Prop)=>Br (decide (v3.1<(↑a.length:Int))) (∃(y5:Int),idx a v3.1=some y5/\ ∃(y6:Int),idx b v3.1=some y6/\Br (y5 !=y6) (P false) (k4 (IntKind.i64.wrap (v3.1+1),()))) (P true)) (0,PUnit.unit)))=fnW Co (look []) Ef Try.f20 (a,b,()) P:=by kernel_rfl
theorem YF (a b:List (List Int)) (P:Bool->Prop):(Br ((↑a.length:Int) !=(↑b.length:Int)) (P false) (Bn (λ(v3:Int×PUnit) (k4:Int×PUnit->Prop)=>Br (decide (v3.1<(↑a.length:Int))) (∃(y5:List Int),idx a v3.1=some y5/\ ∃(y6:List Int),idx b v3.1=some y6/\ ∃(y7:Bool),Ef.fn (y5,y6,())=some y7/\Br (!y7) (P false) (k4 (IntKind.i64.wrap (v3.1+1),()))) (P true)) (0,PUnit.unit)))=fnW Co (look [(20,Ef)]) aK Try.f38 (a,b,()) P:=by kernel_rfl
theorem jE {n:Nat} {room:Int} (h:roomy room) (h2: ¬jD n room<0):roomy (jD n room):=by
 unfold jD roomy at*
 split at h2<;>simp_all
 omega
theorem Aci (xs:List Int) (room:Int) (h:short xs/\roomy room):fnW Co (look []) rH Try.f74 (xs,room,()) (λ(z:Int)=>z=iz xs room):=by
 obtain ⟨h1,h2,h3⟩:=h
 unfold short at h1
 refine Eq.mp (Ad8 xs room _) ?_
 rw [Bt (by omega) (by omega)]
 refine Br.dec (λh=>?_) λh=>?_
 ·simp only [iz,jD,if_pos h]
 ·simp only [iz,jD,if_neg h]
theorem GN:Sound Try.prog 74 rH:=
 Sound.Cu Bj Aq mixed Try.func74 (by kernel_rfl) (by kernel_rfl) λx h=>Aci x.1 x.2.1 h
theorem XN (xs:List (List Int)) (room:Int) (h:Cs xs/\roomy room):fnW Co (look [(74,rH)]) aM Try.f34 (xs,room,()) (λ(z:Int)=>z=Js xs room):=by
 obtain ⟨⟨h1,h4⟩,h2,h3⟩:=h
 refine Eq.mp (YO xs room _) ?_
 rw [Bt (by omega) (by omega)]
 refine Br.dec (λh=>?_) λh=>?_
 ·simp only [Js,jD,if_pos h];rfl
 ·refine Am xs.length (λv=>v.2.1) (λj v=>roomy v.1/\oE (xs.drop j) v.1=Js xs room) rfl ?_ ?_
  ·refine ⟨by unfold roomy;omega,?_⟩
   simp only [Js,jD,if_neg h,List.drop_zero]
  ·rintro j ⟨r,i,⟨⟩⟩ K hj hi ⟨hr,hR⟩ hK
   dsimp only at hi hr hR⊢
   subst hi
   refine Br.dec (λhl=>?_) λhl=>?_
   ·have hl:j<xs.length:=by omega
    have hd:xs.drop j=xs[j]::xs.drop (j+1):=List.drop_eq_getElem_cons hl
    refine ⟨_,Ap hl,_,if_pos ⟨h4 _ (List.getElem_mem hl),hr⟩,?_⟩
    rw [hd] at hR
    simp only [oE] at hR
    refine Br.dec (λhn=>?_) λhn=>?_
    ·have hn:iz xs[j] r<0:=hn
     rw [if_pos hn] at hR
     exact hR
    ·have hn: ¬iz xs[j] r<0:=hn
     rw [if_neg hn] at hR
     rw [Al (by omega)]
     exact hK hl _ rfl ⟨jE hr hn,hR⟩
   ·have:j=xs.length:=by omega
    subst this
    rw [List.drop_length] at hR
    exact hR
theorem oq:Sound Try.prog 34 aM:=
 Sound.Cu Bj (Ah GN Aq) mixed Try.func34 (by kernel_rfl) (by kernel_rfl) λx h=>XN x.1 x.2.1 h
theorem rQ: ∀(xs:List (List Int)) (room:Int),roomy room-> ¬oE xs room<0->roomy (oE xs room)
 | [],room,h,_=>h
 |r::rs,room,h,h2=>by
  simp only [oE] at h2⊢
  split
  ·rename_i hn;rw [if_pos hn] at h2;exact absurd (show (-1:Int)<0 by decide) h2
  ·rename_i hn;rw [if_neg hn] at h2;exact rQ rs _ (jE h hn) h2
theorem wy {xs:List (List Int)} {room:Int} (h:roomy room) (h2: ¬Js xs room<0):roomy (Js xs room):=by
 unfold Js at*
 split
 ·rename_i hn;rw [if_pos hn] at h2;exact absurd (show (-1:Int)<0 by decide) h2
 ·rename_i hn;rw [if_neg hn] at h2;exact rQ _ _ (jE h hn) h2
theorem Rt {α:Type} {ys xs:List α} {j:Nat} (h:j<xs.length) (hl:ys.length=xs.length) (ht:ys.take j=xs.take j):(ys.set j xs[j]).take (j+1)=xs.take (j+1):=by
 have h1:j<(ys.set j xs[j]).length:=by rw [List.length_set];omega
 rw [List.take_succ_eq_append_getElem h1,List.take_succ_eq_append_getElem h,List.getElem_set_self,List.take_set_of_le (Nat.le_refl j),ht]
theorem Ack (xs:List Int) (h:short xs):fnW Co (look []) dg Try.f17 (xs,()) (λ(z:List Int)=>z=xs):=by
 unfold short at h
 refine Eq.mp (Ada xs _) ?_
 refine ⟨⟨by omega,by show (xs.length:Int)<(4294967296:Int)+1;omega⟩,rfl,rfl,rfl,?_⟩
 refine Am xs.length (λv=>v.1) (λj v=>v.2.1.length=xs.length/\v.2.1.take j=xs.take j) rfl ⟨by simp,by simp⟩ ?_
 rintro j ⟨i,ys,⟨⟩⟩ K hj hi ⟨h1,h2⟩ hK
 dsimp only at hi h1 h2⊢
 subst hi
 refine Br.dec (λhl=>?_) λhl=>?_
 ·have hl:j<xs.length:=by omega
  refine ⟨_,Ap hl,⟨by omega,by omega⟩,by rw [Int.toNat_natCast];omega,rfl,by rw [List.length_set],?_⟩
  rw [Al (by omega),Int.toNat_natCast,Nat.zero_add]
  exact hK hl _ rfl ⟨by rw [List.length_set];exact h1,Rt hl h1 h2⟩
 ·have:j=xs.length:=by omega
  subst this
  rw [List.take_length,<-h1,List.take_length] at h2
  rw [List.drop_zero,List.take_length]
  exact h2
theorem rO:Sound Try.prog 17 dg:=
 Sound.Cu Bj Aq mixed Try.func17 (by kernel_rfl) (by kernel_rfl) λx h=>Ack x.1 h
theorem XO (xs:List (List Int)) (h:Cs xs):fnW Co (look [(17,dg)]) Vr Try.f36 (xs,()) (λ(z:List (List Int))=>z=xs):=by
 obtain ⟨h,h4⟩:=h
 refine Eq.mp (YP xs _) ?_
 refine ⟨⟨by omega,by show (xs.length:Int)<(4294967296:Int)+1;omega⟩,rfl,rfl,rfl,?_⟩
 refine Am xs.length (λv=>v.1) (λj v=>v.2.1.length=xs.length/\v.2.1.take j=xs.take j) rfl ⟨by simp,by simp⟩ ?_
 rintro j ⟨i,ys,⟨⟩⟩ K hj hi ⟨h1,h2⟩ hK
 dsimp only at hi h1 h2⊢
 subst hi
 refine Br.dec (λhl=>?_) λhl=>?_
 ·have hl:j<xs.length:=by omega
  refine ⟨_,Ap hl,_,if_pos (h4 _ (List.getElem_mem hl)),⟨by omega,by omega⟩,by rw [Int.toNat_natCast];omega,rfl,by rw [List.length_set],?_⟩
  rw [Al (by omega),Int.toNat_natCast,Nat.zero_add]
  exact hK hl _ rfl ⟨by rw [List.length_set];exact h1,Rt hl h1 h2⟩
 ·have:j=xs.length:=by omega
  subst this
  rw [List.take_length,<-h1,List.take_length] at h2
  rw [List.drop_zero,List.take_length]
  exact h2
theorem ou:Sound Try.prog 36 Vr:=
 Sound.Cu Bj (Ah rO Aq) mixed Try.func36 (by kernel_rfl) (by kernel_rfl) λx h=>XO x.1 h
theorem Aca (a b:List Int) (h:short a):fnW Co (look []) Ef Try.f20 (a,b,()) (λ(z:Bool)=>z=Iq a b):=by
 refine Eq.mp (Ad1 a b _) ⟨λhl=>?_,λhl=>?_⟩
 ·simp only [bne_iff_ne,ne_eq,Int.natCast_inj] at hl
  exact (decide_eq_false λpa=>hl (by rw [pa])).symm
 ·simp only [bne_eq_false_iff_eq,Int.natCast_inj] at hl
  exact BD a b hl h
theorem rM:Sound Try.prog 20 Ef:=
 Sound.Cu Bj Aq mixed Try.func20 (by kernel_rfl) (by kernel_rfl) λx h=>Aca x.1 x.2.1 h
theorem XE (a b:List (List Int)) (h:Cs a):fnW Co (look [(20,Ef)]) aK Try.f38 (a,b,()) (λ(z:Bool)=>z=fU a b):=by
 obtain ⟨h,h4⟩:=h
 refine Eq.mp (YF a b _) ⟨λhl=>?_,λhl=>?_⟩
 ·simp only [bne_iff_ne,ne_eq,Int.natCast_inj] at hl
  exact (decide_eq_false λpa=>hl (by rw [pa])).symm
 ·simp only [bne_eq_false_iff_eq,Int.natCast_inj] at hl
  refine Am a.length (λv=>v.1) (λj _=>a.take j=b.take j) rfl (by simp) ?_
  rintro j ⟨i,⟨⟩⟩ K hj hi hR hK
  dsimp only at hi⊢
  subst hi
  refine Br.dec (λHq=>?_) λHq=>?_
  ·have vZ:j<a.length:=by omega
   have IA:j<b.length:=by omega
   refine ⟨_,Ap vZ,_,Ap IA,_,if_pos (h4 _ (List.getElem_mem vZ)),⟨λhe=>?_,λhe=>?_⟩⟩
   ·refine (decide_eq_false λpa=>?_).symm
    subst pa
    simp [Iq] at he
   ·rw [Al (by omega)]
    refine hK vZ _ rfl ?_
    simp only [Iq,Bool.not_eq_false',decide_eq_true_eq] at he
    rw [List.take_succ_eq_append_getElem vZ,List.take_succ_eq_append_getElem IA,hR]
    exact congrArg (λx=>List.take j b++ [x]) he
  ·have DU:j=a.length:=by omega
   subst DU
   rw [List.take_length,hl,List.take_length] at hR
   exact (decide_eq_true hR).symm
theorem o8:Sound Try.prog 38 aK:=
 Sound.Cu Bj (Ah rM Aq) mixed Try.func38 (by kernel_rfl) (by kernel_rfl) λx h=>XE x.1 x.2.1 h
end Go.Proofs.Ytjbdmibbbpdnnaa

namespace Go.Proofs.Ytjbdmibbbpdnnaa
open Go.RowKit
def Rn:List Int->Int->Int->Int
 | [],_,_=> -1
 |y::r,x,i=>if y=x then i else Rn r x (i+1)
noncomputable abbrev dZ:Spec:=Cu (.pair tL (.pair tI .unit)) tI false true (λx=>short x.1) (λx=>Rn x.1 x.2.1 0)
def PL (n:Int) (xs:List Int) (k:Nat):Prop:= ∀j (h:j<xs.length),j<k->0<=xs[j]/\xs[j]<=n-1/\(0<j->xs[j-1]<xs[j])
def DL (n:Int) (xs:List Int) (k:Nat):Prop:= ∀j (h:j<xs.length),j<k->0<=xs[j]/\xs[j]<=n-1/\xs[j]∉xs.take j
noncomputable def dec (p:Prop):Bool:= @decide p (Classical.propDecidable p)
theorem Ij {p:Prop} (h:p):true=dec p:=(@decide_eq_true p (Classical.propDecidable p) h).symm
theorem Av {p:Prop} (h: ¬p):false=dec p:=(@decide_eq_false p (Classical.propDecidable p) h).symm
theorem Fp {p:Prop} :dec p=true↔p:= @decide_eq_true_iff p (Classical.propDecidable p)
theorem OT {p:Prop} :dec p=false↔ ¬p:= @decide_eq_false_iff_not p (Classical.propDecidable p)
def WZ (n:Int):Prop:=0<=n/\n<=4294967296
noncomputable def Fh (n:Int) (xs:List Int):Bool:=dec (0<xs.length/\PL n xs xs.length)
noncomputable abbrev Fw:Spec:=Cu (.pair tI (.pair tL .unit)) .bool false true (λx=>WZ x.1/\short x.2.1) (λx=>Fh x.1 x.2.1)
noncomputable abbrev Nj:Spec:=Cu (.pair bC .unit) tI false true (λ_=>True) (λx=>(List.length x.1:Int))
theorem RZ (xs:List Int) (x:Int) (P:Int->Prop):(Bn (λ(v3:Int×PUnit) (k4:Int×PUnit->Prop)=>Br (decide (v3.1<(↑xs.length:Int))) (∃(y5:Int),idx xs v3.1=some y5/\Br (x==y5) (P v3.1) (k4 (IntKind.i64.wrap (v3.1+(1:Int)),()))) (P (-1:Int))) ((0:Int),PUnit.unit))=fnW Co (look []) dZ Try.f160 (xs,x,()) P:=by kernel_rfl
theorem AA (xs:List Int) (x:Int) (P:Bool->Prop):(∃(y3:Int),dZ.fn (xs,x,())=some y3/\P (decide (y3>=(0:Int))))=fnW Co (look [(160,dZ)]) Cx Try.f133 (xs,x,()) P:=by kernel_rfl
theorem qf (n:Int) (xs:List Int) (P:Bool->Prop):(∃(y3:Bool),Bg.fn ((↑xs.length:Int),(1:Int),n,())=some y3/\Br (!y3) (P false) (Bn (λ(v4:Int×PUnit) (k5:Int×PUnit->Prop)=>Br (decide (v4.1<(↑xs.length:Int))) (∃(y6:Int),idx xs v4.1=some y6/\ ∃(y7:Bool),Bg.fn (y6,(0:Int),IntKind.i64.wrap (n-(1:Int)),())=some y7/\Br (!y7) (P false) (Br (decide (v4.1>(0:Int))) (∃(y8:Int),idx xs v4.1=some y8/\ ∃(y9:Int),idx xs (IntKind.i64.wrap (v4.1-(1:Int)))=some y9/\Br (decide (y8<=y9)) (P false) (k5 (IntKind.i64.wrap (v4.1+(1:Int)),()))) (k5 (IntKind.i64.wrap (v4.1+(1:Int)),())))) (P true)) ((0:Int),PUnit.unit)))=fnW Co (look [(93,Bg)]) Fw Try.f111 (n,xs,()) P:=by kernel_rfl
theorem xF (n:Int) (xs:List Int) (P:Bool->Prop):(Bn (λ(v3:Int×PUnit) (k4:Int×PUnit->Prop)=>Br (decide (v3.1<(↑xs.length:Int))) (∃(y5:Int),idx xs v3.1=some y5/\ ∃(y6:Bool),Uf.fn (n,y5,())=some y6/\Br (!y6) (P false) (Br (decide (v3.1>(0:Int))) (∃(y7:Int),idx xs (IntKind.i64.wrap (v3.1-(1:Int)))=some y7/\Br (decide (y7>=y5)) (P false) (k4 (IntKind.i64.wrap (v3.1+(1:Int)),()))) (k4 (IntKind.i64.wrap (v3.1+(1:Int)),())))) (P (decide ((↑xs.length:Int)>(0:Int))))) ((0:Int),PUnit.unit))=fnW Co (look [(116,Uf)]) Fw Try.f66 (n,xs,()) P:=by kernel_rfl
theorem SA (xs:List (List Int)) (P:Int->Prop):(P (↑xs.length:Int))=fnW Co (look []) Nj Try.f58 (xs,()) P:=by kernel_rfl
theorem kT: ∀(xs:List Int) (x i:Int),0<=i->(Rn xs x i<0↔x∉xs)
 | [],x,i,_=>by simp [Rn]
 |y::r,x,i,h=>by
  simp only [Rn]
  split
  ·rename_i hy;subst hy;simp;omega
  ·rename_i hy
   rw [kT r x (i+1) (by omega)]
   simp only [List.mem_cons,not_or]
   exact ⟨λh=>⟨λe=>hy e.symm,h⟩,λh=>h.2⟩
theorem QX (xs:List Int) (x:Int) (h:short xs):fnW Co (look []) dZ Try.f160 (xs,x,()) (λ(z:Int)=>z=Rn xs x 0):=by
 unfold short at h
 refine Eq.mp (RZ xs x _) ?_
 refine Am xs.length (λv=>v.1) (λj _=>Rn (xs.drop j) x j=Rn xs x 0) rfl (by simp) ?_
 rintro j ⟨i,⟨⟩⟩ K hj hi hR hK
 dsimp only at hi⊢
 subst hi
 refine Br.dec (λhl=>?_) λhl=>?_
 ·have hl:j<xs.length:=by omega
  rw [List.drop_eq_getElem_cons hl] at hR
  simp only [Rn] at hR
  refine ⟨_,Ap hl,⟨λhe=>?_,λhe=>?_⟩⟩
  ·simp only [beq_iff_eq] at he
   rw [if_pos he.symm] at hR
   exact hR
  ·simp only [beq_eq_false_iff_ne,ne_eq] at he
   rw [if_neg (λe=>he e.symm)] at hR
   rw [Al (by omega)]
   exact hK hl _ rfl (by push_cast;exact hR)
 ·have:j=xs.length:=by omega
  subst this
  rw [List.drop_length] at hR
  exact hR
theorem xj:Sound Try.prog 160 dZ:=
 Sound.Cu Bj Aq mixed Try.func160 (by kernel_rfl) (by kernel_rfl) λx h=>QX x.1 x.2.1 h
theorem zi (xs:List Int) (x:Int) (h:short xs):fnW Co (look [(160,dZ)]) Cx Try.f133 (xs,x,()) (λ(z:Bool)=>z=Bk xs x):=by
 refine Eq.mp (AA xs x _) ⟨_,if_pos h,?_⟩
 have:=kT xs x 0 (Int.le_refl 0)
 show decide (Rn xs x 0>=0)=decide (x∈xs)
 by_cases hx:x∈xs
 ·rw [decide_eq_true hx]
  exact decide_eq_true (by have:=mt this.1 (λh=>h hx);omega)
 ·rw [decide_eq_false hx]
  exact decide_eq_false (by have:=this.2 hx;omega)
theorem o7:Sound Try.prog 133 Cx:=
 Sound.Cu Bj (Ah xj Aq) mixed Try.func133 (by kernel_rfl) (by kernel_rfl) λx h=>zi x.1 x.2.1 h
theorem QY (xs:List (List Int)) (_:True):fnW Co (look []) Nj Try.f58 (xs,()) (λ(z:Int)=>z=(xs.length:Int)):=Eq.mp (SA xs _) rfl
theorem dj:Sound Try.prog 58 Nj:=
 Sound.Cu Bj Aq mixed Try.func58 (by kernel_rfl) (by kernel_rfl) λx h=>QY x.1 h
theorem kU {n x:Int} (hn:WZ n):dS n x=true↔0<=x/\x<=n-1:=by
 unfold dS WZ at*
 rw [Bt (by omega) (by omega),decide_eq_true_iff]
theorem Bz {x a b:Int} :Hj x a b=true↔a<=x/\x<=b:=decide_eq_true_iff
theorem Ci {b:Bool} (h:(!b)=true): ¬b=true:=by cases b<;>simp_all
theorem Dd {b:Bool} (h:(!b)=false):b=true:=by cases b<;>simp_all
theorem zu {n:Int} {xs:List Int} (h:PL n xs xs.length): ∀j (hj:j<xs.length),(j:Int)<=xs[j]
 |0,hj=>(h 0 hj hj).1
 |j+1,hj=>by
  have h1:=zu h j (by omega)
  have h2:=(h (j+1) hj hj).2.2 (by omega)
  simp only [Nat.add_sub_cancel] at h2
  omega
theorem lZ {n:Int} {xs:List Int} {j:Nat} (hl:j<xs.length) (h:PL n xs j) (h1:0<=xs[j]) (h2:xs[j]<=n-1) (h3:0<j->xs[j-1]<xs[j]):PL n xs (j+1):=by
 intro i hi jv
 by_cases e:i=j
 ·subst e;exact ⟨h1,h2,h3⟩
 ·exact h i hi (by omega)
theorem wV (n:Int) (xs:List Int) (h:WZ n/\short xs):fnW Co (look [(116,Uf)]) Fw Try.f66 (n,xs,()) (λ(z:Bool)=>z=Fh n xs):=by
 obtain ⟨hn,h⟩:=h
 unfold short at h
 refine Eq.mp (xF n xs _) ?_
 refine Am xs.length (λv=>v.1) (λj _=>PL n xs j) rfl (λj _ hj=>absurd hj (Nat.not_lt_zero _)) ?_
 rintro j ⟨i,⟨⟩⟩ K hj hi hR hK
 dsimp only at hi⊢
 subst hi
 refine Br.dec (λhl=>?_) λhl=>?_
 ·have hl:j<xs.length:=by omega
  refine ⟨_,Ap hl,_,if_pos trivial,⟨λhp=>?_,λhp=>?_⟩⟩
  ·have hp:=Ci hp
   rw [kU hn] at hp
   exact Av λhh=>hp ⟨(hh.2 j hl hl).1,(hh.2 j hl hl).2.1⟩
  ·have hp:=Dd hp
   rw [kU hn] at hp
   refine Br.dec (λh0=>?_) λh0=>?_
   ·have h0:0<j:=by omega
    rw [Bt (by omega) (by omega),show (j:Int)-1=((j-1:Nat):Int) by omega]
    refine ⟨_,Ap (by omega),Br.dec (λhg=>?_) λhg=>?_⟩
    ·exact Av λhh=>by have:=(hh.2 j hl hl).2.2 h0;omega
    ·rw [Al (by omega)]
     exact hK hl _ rfl (lZ hl hR hp.1 hp.2 λ_=>by omega)
   ·have h0:j=0:=by omega
    rw [Al (by omega)]
    exact hK hl _ rfl (lZ hl hR hp.1 hp.2 λh=>by omega)
 ·have:j=xs.length:=by omega
  subst this
  by_cases h0:0<xs.length
  ·rw [decide_eq_true (show (xs.length:Int)>0 by omega)];exact Ij ⟨h0,hR⟩
  ·rw [decide_eq_false (show ¬(xs.length:Int)>0 by omega)];exact Av λhh=>h0 hh.1
theorem lG:Sound Try.prog 66 Fw:=
 Sound.Cu Bj (Ah pW Aq) mixed Try.func66 (by kernel_rfl) (by kernel_rfl) λx h=>wV x.1 x.2.1 h
theorem pF (n:Int) (xs:List Int) (h:WZ n/\short xs):fnW Co (look [(93,Bg)]) Fw Try.f111 (n,xs,()) (λ(z:Bool)=>z=Fh n xs):=by
 obtain ⟨hn,h⟩:=h
 unfold short at h
 refine Eq.mp (qf n xs _) ⟨_,if_pos trivial,⟨λhp=>?_,λhp=>?_⟩⟩
 ·have hp:=Ci hp
  rw [Bz] at hp
  dsimp only at hp
  refine Av λhh=>hp ⟨by omega,?_⟩
  have:=zu hh.2 (xs.length-1) (by omega)
  have:=(hh.2 (xs.length-1) (by omega) (by omega)).2.1
  omega
 ·have hp:=Dd hp
  rw [Bz] at hp
  dsimp only at hp
  refine Am xs.length (λv=>v.1) (λj _=>PL n xs j) rfl (λj _ hj=>absurd hj (Nat.not_lt_zero _)) ?_
  rintro j ⟨i,⟨⟩⟩ K hj hi hR hK
  dsimp only at hi⊢
  subst hi
  refine Br.dec (λhl=>?_) λhl=>?_
  ·have hl:j<xs.length:=by omega
   refine ⟨_,Ap hl,_,if_pos trivial,⟨λhq=>?_,λhq=>?_⟩⟩
   ·have hq:=Ci hq
    unfold WZ at hn
    rw [Bz,Bt (by omega) (by omega)] at hq
    exact Av λhh=>hq ⟨(hh.2 j hl hl).1,(hh.2 j hl hl).2.1⟩
   ·have hq:=Dd hq
    unfold WZ at hn
    rw [Bz,Bt (by omega) (by omega)] at hq
    refine Br.dec (λh0=>?_) λh0=>?_
    ·have h0:0<j:=by omega
     rw [Bt (by omega) (by omega),show (j:Int)-1=((j-1:Nat):Int) by omega]
     refine ⟨_,Ap hl,_,Ap (by omega),Br.dec (λhg=>?_) λhg=>?_⟩
     ·exact Av λhh=>by have:=(hh.2 j hl hl).2.2 h0;omega
     ·rw [Al (by omega)]
      exact hK hl _ rfl (lZ hl hR hq.1 hq.2 λ_=>by omega)
    ·rw [Al (by omega)]
     exact hK hl _ rfl (lZ hl hR hq.1 hq.2 λh=>by omega)
  ·have:j=xs.length:=by omega
   subst this
   exact Ij ⟨by omega,hR⟩
theorem iP:Sound Try.prog 111 Fw:=
 Sound.Cu Bj (Ah Rr Aq) mixed Try.func111 (by kernel_rfl) (by kernel_rfl) λx h=>pF x.1 x.2.1 h
theorem OV {n:Int} {xs:List Int} {j:Nat} (hl:j<xs.length) (h:DL n xs j) (h1:0<=xs[j]) (h2:xs[j]<=n-1) (h3:xs[j]∉xs.take j):DL n xs (j+1):=by
 intro i hi jv
 by_cases e:i=j
 ·subst e;exact ⟨h1,h2,h3⟩
 ·exact h i hi (by omega)
theorem zI {xs:List Int} (h:short xs) (j:Nat):short (xs.take j):=by
 unfold short at*
 rw [List.length_take]
 omega
end Go.Proofs.Ytjbdmibbbpdnnaa

namespace Go.Proofs.Ytjbdmibbbpdnnaa
open Go.RowKit
theorem x9:roomy 1048576:=⟨by decide,by decide⟩
end Go.Proofs.Ytjbdmibbbpdnnaa

namespace Go.Proofs.Ytjbdmibbbpdnnaa
open Go.RowKit
abbrev PP:Type:=Int×ByteArray×List (List Int)×Unit
noncomputable def Gd (p:List Int):Bool:=dec (1<=p.length/\p.length<=20/\DL p.length p p.length)
noncomputable def El (n:Int) (p:List Int):Bool:=dec ((p.length:Int)=n/\Gd p=true)
noncomputable def Si (n:Int) (g:List (List Int)):Bool:=dec ((1<=n/\n<=20)/\g.length<=8/\ ∀p∈g,El n p=true)
def Bw {α:Type} (P:α->Bool):List α->Int->Int
 | [],_=> -1
 |y::r,i=>if P y=true then i else Bw P r (i+1)
abbrev tG1:Ty:= .clo 177 (.pair (.ptr tI) .unit)
def rW (s:ByteArray) (i:Nat):Prop:= ∃c:UInt8,s[i]?=some c/\65<=c.toNat/\c.toNat<=90/\ ∀k,k<i->s[k]?≠some c
noncomputable def iy (s:ByteArray) (i:Int):Bool:=dec (rW s i.toNat)
noncomputable def Yt (s:ByteArray):Bool:=dec ((1<=s.size/\s.size<=8)/\ ∀j,j<s.size->rW s j)
noncomputable def Ay (p:PP):Bool:=dec (Si p.1 p.2.2.1=true/\Yt p.2.1=true/\p.2.1.size=p.2.2.1.length)
def Dg (p:PP):Prop:=p.2.1.size<=4294967296/\Cs p.2.2.1
noncomputable abbrev Ic:Spec:=Cu (.pair tL .unit) tI false true (λ_=>True) (λx=>(List.length x.1:Int))
noncomputable abbrev Et:Spec:=Cu (.pair tL .unit) .bool false true (λx=>short x.1) (λx=>Gd x.1)
noncomputable abbrev Kn:Spec:=Cu (.pair tI (.pair bC .unit)) .bool false true (λx=>Cs x.2.1) (λx=>Si x.1 x.2.1)
noncomputable abbrev dY:Spec:=Cu (.pair tL (.pair (.ptr tI) .unit)) .bool false true (λx=>short x.1) (λx=>!El x.2.1 x.1)
noncomputable abbrev rE:Spec:=Cu (.pair bC (.pair tG1 .unit)) tI false true (λx=>Cs x.1) (λx=>Bw (λp=>!El x.2.1.1 p) x.1 0)
noncomputable abbrev ru:Spec:=Cu (.pair bC (.pair tG1 .unit)) .bool false true (λx=>Cs x.1) (λx=>List.any x.1 (λp=>!El x.2.1.1 p))
noncomputable abbrev Yy:Spec:=Cu (.pair .str (.pair tI .unit)) .bool false true (λx=>0<=x.2.1/\x.2.1<x.1.size/\x.1.size<=4294967296) (λx=>iy x.1 x.2.1)
noncomputable abbrev Ue:Spec:=Cu (.pair .str .unit) .bool false true (λx=>x.1.size<=4294967296) (λx=>Yt x.1)
noncomputable abbrev Eu:Spec:=Cu (.pair Dc .unit) .bool false true (λx=>Dg x.1) (λx=>Ay x.1)
def Tb (p:PP) (room:Int):Int:=if room-p.2.1.size<0 then-1 else if Js p.2.2.1 (room-p.2.1.size)<0 then-1 else Js p.2.2.1 (room-p.2.1.size)
def kS (a b:PP):Bool:=decide (a.1=b.1)&&(decide (a.2.1=b.2.1)&&decide (a.2.2.1=b.2.2.1))
noncomputable abbrev rI:Spec:=Cu (.pair Dc (.pair tI .unit)) tI false true (λx=>Dg x.1/\roomy x.2.1) (λx=>Tb x.1 x.2.1)
noncomputable abbrev l7:Spec:=Cu (.pair Dc .unit) Dc false true (λx=>Dg x.1) (λx=>x.1)
noncomputable abbrev rC:Spec:=Cu (.pair Dc (.pair Dc .unit)) .bool false true (λx=>Dg x.1) (λx=>kS x.1 x.2.1)
theorem YJ (xs:List Int) (P:Int->Prop):(P (↑xs.length:Int))=fnW Co (look []) Ic Try.f82 (xs,()) P:=by kernel_rfl
theorem uH (p:List Int) (P:Bool->Prop):(∃(y2:Bool),Bg.fn ((↑p.length:Int),(1:Int),(20:Int),())=some y2/\Br (!y2) (P false) (Bn (λ(v3:Int×PUnit) (k4:Int×PUnit->Prop)=>Br (decide (v3.1<(↑p.length:Int))) (∃(y5:Int),idx p v3.1=some y5/\ ∃(y6:Bool),Bg.fn (y5,(0:Int),IntKind.i64.wrap ((↑p.length:Int)-(1:Int)),())=some y6/\Br (!y6) (P false) (((0:Int)<=(0:Int)/\(0:Int)<=v3.1/\v3.1<=(↑p.length:Int))/\ ∃(y7:Int),idx p v3.1=some y7/\ ∃(y8:Bool),Cx.fn (List.drop (Int.toNat (0:Int)) (List.take v3.1.toNat p),y7,())=some y8/\Br y8 (P false) (k4 (IntKind.i64.wrap (v3.1+(1:Int)),())))) (P true)) ((0:Int),PUnit.unit)))=fnW Co (look [(93,Bg),(153,Cx)]) Et Try.f169 (p,()) P:=by kernel_rfl
theorem uC (p:List Int) (P:Bool->Prop):(∃(y2:Int),Ic.fn (p,())=some y2/\ ∃(y3:Bool),Bg.fn (y2,(1:Int),(20:Int),())=some y3/\Br (!y3) (P false) (Bn (λ(v4:Int×Int×PUnit) (k5:Int×Int×PUnit->Prop)=>Br (decide (v4.2.1<(↑p.length:Int))) (∃(y6:Int),idx p v4.2.1=some y6/\ ∃(y7:Int),Ic.fn (p,())=some y7/\ ∃(y8:Bool),Bg.fn (y6,(0:Int),IntKind.i64.wrap (y7-(1:Int)),())=some y8/\Br (!y8) (P false) (¬y6<(0:Int)/\k5 (IntKind.i64.wrap (↑(BitVec.ofInt IntKind.i64.bits v4.1|||BitVec.ofInt IntKind.i64.bits (IntKind.i64.wrap ((1:Int)*(2:Int)^min y6.toNat IntKind.i64.bits))).toNat:Int),IntKind.i64.wrap (v4.2.1+(1:Int)),()))) (¬(↑p.length:Int)<(0:Int)/\P (v4.1==IntKind.i64.wrap (IntKind.i64.wrap ((1:Int)*(2:Int)^min (↑p.length:Int).toNat IntKind.i64.bits)-(1:Int))))) ((0:Int),(0:Int),PUnit.unit)))=fnW Co (look [(97,Bg),(82,Ic)]) Et Try.f168 (p,()) P:=by kernel_rfl
theorem uG (n:Int) (g:List (List Int)) (P:Bool->Prop):(∃(y3:Bool),Bg.fn (n,(1:Int),(20:Int),())=some y3/\Br (!y3) (P false) (Br (decide ((↑g.length:Int)>(8:Int))) (P false) (Bn (λ(v4:Int×PUnit) (k5:Int×PUnit->Prop)=>Br (decide (v4.1<(↑g.length:Int))) (∃(y6:List Int),idx g v4.1=some y6/\Br ((↑y6.length:Int) !=n) (P false) (∃(y7:List Int),idx g v4.1=some y7/\ ∃(y8:Bool),Et.fn (y7,())=some y8/\Br (!y8) (P false) (k5 (IntKind.i64.wrap (v4.1+(1:Int)),())))) (P true)) ((0:Int),PUnit.unit))))=fnW Co (look [(93,Bg),(169,Et)]) Kn Try.f147 (n,g,()) P:=by kernel_rfl
theorem RY (p:List Int) (n:Int) (P:Bool->Prop):(∃(y3:Int),Ic.fn (p,())=some y3/\Br (y3 !=n) (P true) (∃(y4:Bool),Et.fn (p,())=some y4/\P !y4))=fnW Co (look [(82,Ic),(168,Et)]) dY Try.f177 (p,n,()) P:=by kernel_rfl
theorem Ad5 (g:List (List Int)) (n:Int×Unit) (P:Int->Prop):(Bn (λ(v3:Int×PUnit) (k4:Int×PUnit->Prop)=>Br (decide (v3.1<(↑g.length:Int))) (∃(y5:List Int),idx g v3.1=some y5/\ ∃(y6:Bool),dY.fn (y5,n.1,())=some y6/\Br y6 (P v3.1) (k4 (IntKind.i64.wrap (v3.1+(1:Int)),()))) (P (-1:Int))) ((0:Int),PUnit.unit))=fnW Co (look [(177,dY)]) rE Try.f184 (g,n,()) P:=by kernel_rfl
theorem Acx (g:List (List Int)) (n:Int×Unit) (P:Bool->Prop):(∃(y3:Int),rE.fn (g,n,())=some y3/\P (decide (y3>=(0:Int))))=fnW Co (look [(184,rE)]) ru Try.f176 (g,n,()) P:=by kernel_rfl
theorem uz (n:Int) (g:List (List Int)) (P:Bool->Prop):(∃(y3:Bool),Bg.fn (n,(1:Int),(20:Int),())=some y3/\Br y3 (Br (decide ((↑g.length:Int)<=(8:Int))) (∃(y4:Bool),ru.fn (g,(n,()),())=some y4/\P !y4) (P false)) (P false))=fnW Co (look [(97,Bg),(176,ru)]) Kn Try.f158 (n,g,()) P:=by kernel_rfl
theorem NK (s:ByteArray) (i:Int) (P:Bool->Prop):((0:Int)<=i/\ ∃(y3:UInt8),s[i.toNat]?=some y3/\Br (decide ((↑y3.toNat:Int)<(65:Int))) (P false) ((0:Int)<=i/\ ∃(y4:UInt8),s[i.toNat]?=some y4/\Br (decide ((↑y4.toNat:Int)>(90:Int))) (P false) (Bn (λ(v5:Int×PUnit) (k6:Int×PUnit->Prop)=>Br (decide (v5.1<i)) ((0:Int)<=v5.1/\ ∃(y7:UInt8),s[v5.1.toNat]?=some y7/\(0:Int)<=i/\ ∃(y8:UInt8),s[i.toNat]?=some y8/\Br ((↑y7.toNat:Int)==(↑y8.toNat:Int)) (P false) (k6 (IntKind.i64.wrap (v5.1+(1:Int)),()))) (P true)) ((0:Int),PUnit.unit))))=fnW Co (look []) Yy Try.f148 (s,i,()) P:=by kernel_rfl
theorem HJ (s:ByteArray) (P:Bool->Prop):(Bn (λ(v2:Int×PUnit) (k3:Int×PUnit->Prop)=>Br (decide (v2.1<(↑s.size:Int))) ((0:Int)<=v2.1/\ ∃(y4:UInt8),s[v2.1.toNat]?=some y4/\ ∃(y5:Bool),Bg.fn (IntKind.i64.wrap (↑y4.toNat:Int),(65:Int),(90:Int),())=some y5/\Br (!y5) (P false) (Bn (λ(v6:Int×PUnit) (k7:Int×PUnit->Prop)=>Br (decide (v6.1<v2.1)) ((0:Int)<=v6.1/\ ∃(y8:UInt8),s[v6.1.toNat]?=some y8/\(0:Int)<=v2.1/\ ∃(y9:UInt8),s[v2.1.toNat]?=some y9/\Br ((↑y8.toNat:Int)==(↑y9.toNat:Int)) (P false) (k7 (IntKind.i64.wrap (v6.1+(1:Int)),()))) (k3 (IntKind.i64.wrap (v2.1+(1:Int)),()))) ((0:Int),PUnit.unit))) (∃(y4:Bool),Bg.fn ((↑s.size:Int),(1:Int),(8:Int),())=some y4/\P y4)) ((0:Int),PUnit.unit))=fnW Co (look [(97,Bg)]) Ue Try.f159 (s,()) P:=by kernel_rfl
abbrev eV:Type:=Int×Int×ByteArray×List (List Int)×PUnit
theorem uI (p:Int×ByteArray×List (List Int)×Unit) (P:Bool->Prop):(Br ((↑p.2.2.1.length:Int)==(0:Int)) (P false) (Br ((↑p.2.1.size:Int) !=(↑p.2.2.1.length:Int)) (P false) (∃(y2:Bool),Kn.fn (p.1,p.2.2.1,())=some y2/\Br (!y2) (P false) (Bn (λ(v3:eV) (k4:eV->Prop)=>Br (decide (v3.1<(↑v3.2.2.1.size:Int))) (∃(y5:Bool),Yy.fn (v3.2.2.1,v3.1,())=some y5/\Br (!y5) (P false) (k4 (IntKind.i64.wrap (v3.1+(1:Int)),v3.2.1,v3.2.2.1,v3.2.2.2.1,()))) (P true)) ((0:Int),p.1,p.2.1,p.2.2.1,PUnit.unit)))))=fnW Co (look [(147,Kn),(148,Yy)]) Eu Try.f110 (p,()) P:=by kernel_rfl
theorem uD (p:Int×ByteArray×List (List Int)×Unit) (P:Bool->Prop):(∃(y2:Bool),Kn.fn (p.1,p.2.2.1,())=some y2/\Br y2 (∃(y3:Bool),Ue.fn (p.2.1,())=some y3/\Br y3 (P ((↑p.2.1.size:Int)==(↑p.2.2.1.length:Int))) (P false)) (P false))=fnW Co (look [(158,Kn),(159,Ue)]) Eu Try.f130 (p,()) P:=by kernel_rfl
theorem Ad9 (p:Int×ByteArray×List (List Int)×Unit) (room:Int) (P:Int->Prop):(Br (decide (IntKind.i64.wrap (room-(↑p.2.1.size:Int))<(0:Int))) (P (-1:Int)) (∃(y3:Int),aM.fn (p.2.2.1,IntKind.i64.wrap (room-(↑p.2.1.size:Int)),())=some y3/\Br (decide (y3<(0:Int))) (P (-1:Int)) (P y3)))=fnW Co (look [(34,aM)]) rI Try.f14 (p,room,()) P:=by kernel_rfl
theorem Adb (p:Int×ByteArray×List (List Int)×Unit) (P:(Int×ByteArray×List (List Int)×Unit)->Prop):(∃(y2:List (List Int)),Vr.fn (p.2.2.1,())=some y2/\P (p.1,p.2.1,y2,()))=fnW Co (look [(36,Vr)]) l7 Try.f16 (p,()) P:=by kernel_rfl
theorem Ad2 (a b:Int×ByteArray×List (List Int)×Unit) (P:Bool->Prop):(Br (a.1 !=b.1) (P false) (Br (!a.2.1.toList==b.2.1.toList) (P false) (∃(y3:Bool),aK.fn (a.2.2.1,b.2.2.1,())=some y3/\Br (!y3) (P false) (P true))))=fnW Co (look [(38,aK)]) rC Try.f19 (a,b,()) P:=by kernel_rfl
theorem XI (xs:List Int) (_:True):fnW Co (look []) Ic Try.f82 (xs,()) (λ(z:Int)=>z=(xs.length:Int)):=Eq.mp (YJ xs _) rfl
theorem Rd:Sound Try.prog 82 Ic:=
 Sound.Cu Bj Aq mixed Try.func82 (by kernel_rfl) (by kernel_rfl) λx h=>XI x.1 h
theorem uh {α:Type} [DecidableEq α]: ∀(l m:List α),l.Nodup->(∀x∈l,x∈m)->l.length<=m.length
 | [],m,_,_=>Nat.zero_le _
 |a::l,m,hn,hs=>by
  have ha:a∈m:=hs a (List.mem_cons_self ..)
  have hn:=List.nodup_cons.1 hn
  have:=uh l (m.erase a) hn.2 λx hx=>(List.mem_erase_of_ne (λ(e:x=a)=>hn.1 (by rw [<-e];exact hx))).2 (hs x (List.mem_cons_of_mem _ hx))
  rw [List.length_erase_of_mem ha] at this
  have:0<m.length:=List.length_pos_of_mem ha
  simp only [List.length_cons]
  omega
def upto (n:Nat):List Int:=(List.range n).map Int.ofNat
theorem oN (n:Nat):(upto n).Nodup:=by
 unfold upto
 exact List.Pairwise.map _ (λa b pa e=>pa (Int.ofNat.inj e)) List.nodup_range
theorem Is {n:Nat} {x:Int} :x∈upto n↔0<=x/\x<n:=by
 unfold upto
 simp only [List.mem_map,List.mem_range]
 constructor
 ·rintro ⟨a,ha,rfl⟩;exact ⟨Int.natCast_nonneg _,Int.ofNat_lt.2 ha⟩
 ·rintro ⟨h1,h2⟩;exact ⟨x.toNat,by omega,by simp only [Int.ofNat_eq_natCast];omega⟩
theorem Pr (n:Nat):(upto n).length=n:=by simp [upto]
theorem cO {xs:List Int} (h: ∀j (hj:j<xs.length),xs[j]∉xs.take j):xs.Nodup:=by
 refine List.pairwise_iff_getElem.2 λi j hi hj jv e=>h j hj ?_
 rw [<-e]
 exact List.mem_take_iff_getElem.2 ⟨i,by omega,rfl⟩
theorem oK {xs:List Int} (h:xs.Nodup): ∀j (hj:j<xs.length),xs[j]∉xs.take j:=by
 intro j hj hm
 obtain ⟨i,hi,e⟩:=List.mem_take_iff_getElem.1 hm
 exact List.pairwise_iff_getElem.1 h i j (by omega) hj (by omega) e
theorem Xe {xs:List Int} (h: ∀x∈xs,0<=x/\x<xs.length):(∀k:Nat,k<xs.length->(k:Int)∈xs)↔ ∀j (hj:j<xs.length),xs[j]∉xs.take j:=by
 constructor
 ·intro ha j hj hm
  have h1:=uh (upto xs.length) (xs.take j++xs.drop (j+1)) (oN _) λx hx=>by
   obtain ⟨h1,h2⟩:=Is.1 hx
   have hx:=ha x.toNat (by omega)
   rw [show ((x.toNat:Nat):Int)=x by omega] at hx
   rw [<-List.take_append_drop j xs,List.mem_append,List.drop_eq_getElem_cons hj,List.mem_cons] at hx
   rcases hx with hx|rfl|hx
   ·exact List.mem_append_left _ hx
   ·exact List.mem_append_left _ hm
   ·exact List.mem_append_right _ hx
  rw [Pr,List.length_append,List.length_take,List.length_drop] at h1
  omega
 ·intro hn k hk
  refine Classical.byContradiction λhc=>?_
  have h1:=uh xs ((upto xs.length).erase (k:Int)) (cO hn) λx hx=>by
   refine (List.mem_erase_of_ne λ(e:x=(k:Int))=>hc (by rw [<-e];exact hx)).2 (Is.2 (h x hx))
  rw [List.length_erase_of_mem (Is.2 ⟨by omega,by omega⟩),Pr] at h1
  omega
def mask (xs:List Int):Nat:=xs.foldl (λm x=>m|||2^x.toNat) 0
theorem ES (xs:List Int) (x:Int):mask (xs++ [x])=mask xs|||2^x.toNat:=by simp [mask]
theorem th (xs:List Int) (k:Nat): ∀a:Nat,(xs.foldl (λm x=>m|||2^x.toNat) a).testBit k=(a.testBit k||xs.any λx=>decide (x.toNat=k)):=by
 induction xs with
 |nil=>simp
 |cons x xs ih=>
  intro a
  rw [List.foldl_cons,ih,Nat.testBit_or,Nat.testBit_two_pow,List.any_cons,Bool.or_assoc]
theorem nq (xs:List Int) (k:Nat):(mask xs).testBit k=xs.any λx=>decide (x.toNat=k):=by
 unfold mask
 rw [th,Nat.zero_testBit,Bool.false_or]
theorem QQ {xs:List Int} {n:Nat} (h: ∀x∈xs,x.toNat<n):mask xs<2^n:=by
 refine Nat.lt_pow_two_of_testBit _ λk hk=>?_
 rw [nq]
 refine Bool.eq_false_iff.2 λht=>?_
 obtain ⟨x,hx,he⟩:=List.any_eq_true.1 ht
 have:=h x hx
 have:=of_decide_eq_true he
 omega
theorem qX {xs:List Int} (h: ∀x∈xs,0<=x/\x<xs.length):mask xs=2^xs.length-1↔ ∀k:Nat,k<xs.length->(k:Int)∈xs:=by
 constructor
 ·intro e k hk
  have h1:=nq xs k
  rw [e,Nat.testBit_two_pow_sub_one,decide_eq_true hk] at h1
  obtain ⟨x,hx,he⟩:=List.any_eq_true.1 h1.symm
  have:=(h x hx).1
  have:=of_decide_eq_true he
  have e:x=(k:Int):=by omega
  exact e▸hx
 ·intro ha
  refine Nat.eq_of_testBit_eq λk=>?_
  rw [nq,Nat.testBit_two_pow_sub_one]
  by_cases hk:k<xs.length
  ·rw [decide_eq_true hk]
   exact List.any_eq_true.2 ⟨k,ha k hk,by simp⟩
  ·rw [decide_eq_false hk]
   refine Bool.eq_false_iff.2 λht=>?_
   obtain ⟨x,hx,he⟩:=List.any_eq_true.1 ht
   have:=h x hx
   have:=of_decide_eq_true he
   omega
theorem QT {m:Nat} {x:Int} (hm:m<2^20) (h0:0<=x) (h1:x<20):
  IntKind.i64.wrap (((BitVec.ofInt IntKind.i64.bits (m:Int)|||BitVec.ofInt IntKind.i64.bits (IntKind.i64.wrap ((1:Int)*(2:Int)^min x.toNat IntKind.i64.bits))).toNat:Nat):Int)=((m|||2^x.toNat:Nat):Int):=by
 have hx:(2:Nat)^x.toNat<2^20:=Nat.pow_lt_pow_right (by omega) (by omega)
 have e1:min x.toNat IntKind.i64.bits=x.toNat:=by show min x.toNat 64=_;omega
 have e2:(1:Int)*(2:Int)^x.toNat=((2^x.toNat:Nat):Int):=by rw [Int.one_mul];exact (Int.natCast_pow 2 _).symm
 rw [e1,e2,Bt (n:=((2^x.toNat:Nat):Int)) (by have:(0:Int)<=((2^x.toNat:Nat):Int):=Int.natCast_nonneg _;omega) (by omega)]
 show IntKind.i64.wrap (((BitVec.ofInt 64 (m:Int)|||BitVec.ofInt 64 ((2^x.toNat:Nat):Int)).toNat:Nat):Int)=_
 rw [BitVec.ofInt_natCast,BitVec.ofInt_natCast,BitVec.toNat_or,BitVec.toNat_ofNat,BitVec.toNat_ofNat,Nat.mod_eq_of_lt (by omega),Nat.mod_eq_of_lt (by omega)]
 have:=Nat.or_lt_two_pow hm hx
 exact Bt (by omega) (by omega)
theorem tw (p:List Int) (h:short p):fnW Co (look [(93,Bg),(153,Cx)]) Et Try.f169 (p,()) (λ(z:Bool)=>z=Gd p):=by
 have hs:=h
 unfold short at h
 refine Eq.mp (uH p _) ⟨_,if_pos trivial,⟨λhp=>?_,λhp=>?_⟩⟩
 ·have hp:=Ci hp
  rw [Bz] at hp
  dsimp only at hp
  exact Av λhh=>hp ⟨by omega,by omega⟩
 ·have hp:=Dd hp
  rw [Bz] at hp
  dsimp only at hp
  refine Am p.length (λv=>v.1) (λj _=>DL p.length p j) rfl (λj _ hj=>absurd hj (Nat.not_lt_zero _)) ?_
  rintro j ⟨i,⟨⟩⟩ K hj hi hR hK
  dsimp only at hi⊢
  subst hi
  refine Br.dec (λhl=>?_) λhl=>?_
  ·have hl:j<p.length:=by omega
   refine ⟨_,Ap hl,_,if_pos trivial,⟨λhq=>?_,λhq=>?_⟩⟩
   ·have hq:=Ci hq
    rw [Bz,Bt (by omega) (by omega)] at hq
    exact Av λhh=>hq ⟨(hh.2.2 j hl hl).1,(hh.2.2 j hl hl).2.1⟩
   ·have hq:=Dd hq
    rw [Bz,Bt (by omega) (by omega)] at hq
    refine ⟨⟨by omega,by omega,by omega⟩,_,Ap hl,?_⟩
    rw [show (Int.toNat 0)=0 from rfl,List.drop_zero,Int.toNat_natCast]
    refine ⟨_,if_pos (zI hs j),⟨λhc=>?_,λhc=>?_⟩⟩
    ·have hc:decide (p[j]∈p.take j)=true:=hc
     rw [decide_eq_true_iff] at hc
     exact Av λhh=>(hh.2.2 j hl hl).2.2 hc
    ·have hc:decide (p[j]∈p.take j)=false:=hc
     rw [decide_eq_false_iff_not] at hc
     rw [Al (by omega)]
     exact hK hl _ rfl (OV hl hR hq.1 hq.2 hc)
  ·have:j=p.length:=by omega
   subst this
   exact Ij ⟨by omega,by omega,hR⟩
theorem Re:Sound Try.prog 169 Et:=
 Sound.Cu Bj (Ah Rr (Ah Wu Aq)) mixed Try.func169 (by kernel_rfl) (by kernel_rfl) λx h=>tw x.1 h
theorem tp (p:List Int) (h:short p):fnW Co (look [(97,Bg),(82,Ic)]) Et Try.f168 (p,()) (λ(z:Bool)=>z=Gd p):=by
 unfold short at h
 refine Eq.mp (uC p _) ⟨_,if_pos trivial,_,if_pos trivial,⟨λhp=>?_,λhp=>?_⟩⟩
 ·have hp:=Ci hp
  rw [Bz] at hp
  dsimp only at hp
  exact Av λhh=>hp ⟨by omega,by omega⟩
 ·have hp:=Dd hp
  rw [Bz] at hp
  dsimp only at hp
  refine Am p.length (λv=>v.2.1) (λj v=>v.1=(mask (p.take j):Int)/\ ∀x∈p.take j,0<=x/\x<p.length) rfl ⟨rfl,by simp⟩ ?_
  rintro j ⟨m,i,⟨⟩⟩ K hj hi ⟨hm,hR⟩ hK
  dsimp only at hi hm⊢
  subst hi hm
  refine Br.dec (λhl=>?_) λhl=>?_
  ·have hl:j<p.length:=by omega
   refine ⟨_,Ap hl,_,if_pos trivial,_,if_pos trivial,⟨λhq=>?_,λhq=>?_⟩⟩
   ·have hq:=Ci hq
    rw [Bz] at hq
    dsimp only at hq
    rw [Bt (by omega) (by omega)] at hq
    exact Av λhh=>hq ⟨(hh.2.2 j hl hl).1,(hh.2.2 j hl hl).2.1⟩
   ·have hq:=Dd hq
    rw [Bz] at hq
    dsimp only at hq
    rw [Bt (by omega) (by omega)] at hq
    refine ⟨by omega,?_⟩
    rw [Al (by omega)]
    have hb:mask (p.take j)<2^20:=QQ λx hx=>by have:=hR x hx;omega
    refine hK hl _ rfl ⟨?_,?_⟩
    ·dsimp only
     rw [QT hb hq.1 (by omega),List.take_succ_eq_append_getElem hl,ES]
    ·rw [List.take_succ_eq_append_getElem hl]
     intro x hx
     rcases List.mem_append.1 hx with hx|hx
     ·exact hR x hx
     ·rw [List.mem_singleton.1 hx];omega
  ·have:j=p.length:=by omega
   subst this
   rw [List.take_length] at hR⊢
   refine ⟨by omega,?_⟩
   have hx:(2:Nat)^p.length<=2^20:=Nat.pow_le_pow_right (by omega) (by omega)
   have nc:0<(2:Nat)^p.length:=Nat.two_pow_pos _
   have e1:min (p.length:Int).toNat IntKind.i64.bits=p.length:=by show min (p.length:Int).toNat 64=_;omega
   have e2:(1:Int)*(2:Int)^p.length=((2^p.length:Nat):Int):=by rw [Int.one_mul];exact (Int.natCast_pow 2 _).symm
   rw [e1,e2,Bt (n:=((2^p.length:Nat):Int)) (by omega) (by omega),Bt (by omega) (by omega)]
   have hE:((mask p:Int)==((2^p.length:Nat):Int)-1)=decide (mask p=2^p.length-1):=by
    rw [Bool.eq_iff_iff,beq_iff_eq,decide_eq_true_iff]
    omega
   show ((mask p:Int)==((2^p.length:Nat):Int)-1)=Gd p
   rw [hE]
   by_cases hf:mask p=2^p.length-1
   ·rw [decide_eq_true hf]
    have hn:=(Xe hR).1 ((qX hR).1 hf)
    refine Ij ⟨by omega,by omega,λj hj _=>?_⟩
    have:=hR _ (List.getElem_mem hj)
    exact ⟨this.1,by omega,hn j hj⟩
   ·rw [decide_eq_false hf]
    refine Av λhh=>hf ((qX hR).2 ((Xe hR).2 λj hj=>(hh.2.2 j hj hj).2.2))
theorem Zd:Sound Try.prog 168 Et:=
 Sound.Cu Bj (Ah Mf (Ah Rd Aq)) mixed Try.func168 (by kernel_rfl) (by kernel_rfl) λx h=>tp x.1 h
theorem tv (n:Int) (g:List (List Int)) (h:Cs g):fnW Co (look [(93,Bg),(169,Et)]) Kn Try.f147 (n,g,()) (λ(z:Bool)=>z=Si n g):=by
 obtain ⟨h,h4⟩:=h
 refine Eq.mp (uG n g _) ⟨_,if_pos trivial,⟨λhp=>?_,λhp=>?_⟩⟩
 ·have hp:=Ci hp
  rw [Bz] at hp
  exact Av λhh=>hp hh.1
 ·have hp:=Dd hp
  rw [Bz] at hp
  refine Br.dec (λhg=>?_) λhg=>?_
  ·exact Av λhh=>by have:=hh.2.1;omega
  ·refine Am g.length (λv=>v.1) (λj _=> ∀p∈g.take j,El n p=true) rfl (by simp) ?_
   rintro j ⟨i,⟨⟩⟩ K hj hi hR hK
   dsimp only at hi⊢
   subst hi
   refine Br.dec (λhl=>?_) λhl=>?_
   ·have hl:j<g.length:=by omega
    have hm:g[j]∈g:=List.getElem_mem hl
    refine ⟨_,Ap hl,⟨λhe=>?_,λhe=>?_⟩⟩
    ·simp only [bne_iff_ne,ne_eq] at he
     exact Av λhh=>he (Fp.1 (hh.2.2 _ hm)).1
    ·simp only [bne_eq_false_iff_eq] at he
     refine ⟨_,Ap hl,_,if_pos (h4 _ hm),⟨λhq=>?_,λhq=>?_⟩⟩
     ·have hq:=Ci hq
      exact Av λhh=>hq (Fp.1 (hh.2.2 _ hm)).2
     ·have hq:=Dd hq
      rw [Al (by omega)]
      refine hK hl _ rfl ?_
      rw [List.take_succ_eq_append_getElem hl]
      intro x hx
      rcases List.mem_append.1 hx with hx|hx
      ·exact hR x hx
      ·rw [List.mem_singleton.1 hx];exact Fp.2 ⟨he,hq⟩
   ·have:j=g.length:=by omega
    subst this
    rw [List.take_length] at hR
    exact Ij ⟨hp,by omega,hR⟩
theorem kd:Sound Try.prog 147 Kn:=
 Sound.Cu Bj (Ah Rr (Ah Re Aq)) mixed Try.func147 (by kernel_rfl) (by kernel_rfl) λx h=>tv x.1 x.2.1 h
theorem QW (p:List Int) (n:Int) (h:short p):fnW Co (look [(82,Ic),(168,Et)]) dY Try.f177 (p,n,()) (λ(z:Bool)=>z=!El n p):=by
 refine Eq.mp (RY p n _) ⟨_,if_pos trivial,⟨λhe=>?_,λhe=>⟨_,if_pos h,?_⟩⟩⟩
 ·simp only [bne_iff_ne,ne_eq] at he
  have:El n p=false:=OT.2 λhh=>he hh.1
  rw [this];rfl
 ·simp only [bne_eq_false_iff_eq] at he
  show (!Gd p)=_
  congr 1
  cases hp:Gd p with
  |true=>exact Ij ⟨he,hp⟩
  |false=>exact Av λhh=>by rw [hh.2] at hp;cases hp
theorem xh:Sound Try.prog 177 dY:=
 Sound.Cu Bj (Ah Rd (Ah Zd Aq)) mixed Try.func177 (by kernel_rfl) (by kernel_rfl) λx h=>QW x.1 x.2.1 h
theorem Wm {α:Type} (P:α->Bool): ∀(l:List α) (i:Int),0<=i->(0<=Bw P l i↔l.any P=true)
 | [],i,_=>by simp [Bw]
 |y::r,i,h=>by
  simp only [Bw,List.any_cons,Bool.or_eq_true]
  split
  ·rename_i hy;simp [hy,h]
  ·rename_i hy;rw [Wm P r (i+1) (by omega)];simp [hy]
theorem Acf (g:List (List Int)) (n:Int×Unit) (h:Cs g):fnW Co (look [(177,dY)]) rE Try.f184 (g,n,()) (λ(z:Int)=>z=Bw (λp=>!El n.1 p) g 0):=by
 obtain ⟨h,h4⟩:=h
 refine Eq.mp (Ad5 g n _) ?_
 refine Am g.length (λv=>v.1) (λj _=>Bw (λp=>!El n.1 p) (g.drop j) j=Bw (λp=>!El n.1 p) g 0) rfl (by simp) ?_
 rintro j ⟨i,⟨⟩⟩ K hj hi hR hK
 dsimp only at hi⊢
 subst hi
 refine Br.dec (λhl=>?_) λhl=>?_
 ·have hl:j<g.length:=by omega
  rw [List.drop_eq_getElem_cons hl] at hR
  simp only [Bw] at hR
  refine ⟨_,Ap hl,_,if_pos (h4 _ (List.getElem_mem hl)),⟨λhe=>?_,λhe=>?_⟩⟩
  ·have he:(!El n.1 g[j])=true:=he
   rw [if_pos he] at hR
   exact hR
  ·have he:(!El n.1 g[j])=false:=he
   rw [if_neg (by rw [he];decide)] at hR
   rw [Al (by omega)]
   exact hK hl _ rfl (by push_cast;exact hR)
 ·have:j=g.length:=by omega
  subst this
  rw [List.drop_length] at hR
  exact hR
theorem GK:Sound Try.prog 184 rE:=
 Sound.Cu Bj (Ah xh Aq) mixed Try.func184 (by kernel_rfl) (by kernel_rfl) λx h=>Acf x.1 x.2.1 h
theorem Ac6 (g:List (List Int)) (n:Int×Unit) (h:Cs g):fnW Co (look [(184,rE)]) ru Try.f176 (g,n,()) (λ(z:Bool)=>z=List.any g (λp=>!El n.1 p)):=by
 refine Eq.mp (Acx g n _) ⟨_,if_pos h,?_⟩
 rw [Bool.eq_iff_iff,decide_eq_true_iff]
 exact Wm _ g 0 (Int.le_refl 0)
theorem GC:Sound Try.prog 176 ru:=
 Sound.Cu Bj (Ah GK Aq) mixed Try.func176 (by kernel_rfl) (by kernel_rfl) λx h=>Ac6 x.1 x.2.1 h
theorem tm (n:Int) (g:List (List Int)) (h:Cs g):fnW Co (look [(97,Bg),(176,ru)]) Kn Try.f158 (n,g,()) (λ(z:Bool)=>z=Si n g):=by
 refine Eq.mp (uz n g _) ⟨_,if_pos trivial,⟨λhp=>?_,λhp=>?_⟩⟩
 ·have hp:Hj n 1 20=true:=hp
  rw [Bz] at hp
  refine Br.dec (λhl=>⟨_,if_pos h,?_⟩) λhl=>?_
  ·show (!List.any g (λp=>!El n p))=Si n g
   cases ha:List.any g (λp=>!El n p) with
   |true=>
    obtain ⟨p,uM,DY⟩:=List.any_eq_true.1 ha
    exact Av λhh=>by rw [hh.2.2 p uM] at DY;cases DY
   |false=>
    refine Ij ⟨hp,by omega,λp hm=>?_⟩
    have:=List.any_eq_false.1 ha p hm
    simpa using this
  ·exact Av λhh=>by have:=hh.2.1;omega
 ·refine Av λhh=>?_
  have:Hj n 1 20=true:=Bz.2 hh.1
  have hp:Hj n 1 20=false:=hp
  rw [this] at hp;cases hp
theorem ka:Sound Try.prog 158 Kn:=
 Sound.Cu Bj (Ah Mf (Ah GC Aq)) mixed Try.func158 (by kernel_rfl) (by kernel_rfl) λx h=>tm x.1 x.2.1 h
theorem Ht {s:ByteArray} {k:Nat} (h:k<s.size):s[k]?=some s[k]:=getElem?_pos s k h
theorem LP (s:ByteArray) (i:Int) (h:0<=i/\i<s.size/\s.size<=4294967296):fnW Co (look []) Yy Try.f148 (s,i,()) (λ(z:Bool)=>z=iy s i):=by
 obtain ⟨h1,h2,h3⟩:=h
 have hi:i.toNat<s.size:=by omega
 refine Eq.mp (NK s i _) ⟨h1,_,Ht hi,Br.dec (λhq=>?_) λhq=>⟨h1,_,Ht hi,Br.dec (λhr=>?_) λhr=>?_⟩⟩
 ·refine Av λ⟨c,hc,PQ,_⟩=>?_
  rw [Ht hi] at hc;cases hc;omega
 ·refine Av λ⟨c,hc,_,PQ,_⟩=>?_
  rw [Ht hi] at hc;cases hc;omega
 ·refine Am i.toNat (λv=>v.1) (λj _=> ∀k,k<j->s[k]?≠some s[i.toNat]) rfl (λk hk=>absurd hk (Nat.not_lt_zero _)) ?_
  rintro j ⟨i',⟨⟩⟩ K hj eH hR hK
  dsimp only at eH⊢
  subst eH
  refine Br.dec (λhl=>?_) λhl=>?_
  ·have hl:j<i.toNat:=by omega
   have hj:j<s.size:=by omega
   rw [Int.toNat_natCast]
   refine ⟨by omega,_,Ht hj,h1,_,Ht hi,⟨λhe=>?_,λhe=>?_⟩⟩
   ·simp only [beq_iff_eq,Int.natCast_inj] at he
    refine Av λ⟨c,hc,_,_,PQ⟩=>?_
    rw [Ht hi] at hc;cases hc
    exact PQ j hl (by rw [Ht hj,UInt8.toNat_inj.1 he])
   ·simp only [beq_eq_false_iff_ne,ne_eq,Int.natCast_inj] at he
    rw [Al (by omega)]
    refine hK hl _ rfl λk hk=>?_
    by_cases e:k=j
    ·subst e
     rw [Ht hj]
     exact λe=>he (by rw [Option.some.inj e])
    ·exact hR k (by omega)
  ·have:j=i.toNat:=by omega
   subst this
   exact Ij ⟨_,Ht hi,by omega,by omega,hR⟩
theorem tY:Sound Try.prog 148 Yy:=
 Sound.Cu Bj Aq mixed Try.func148 (by kernel_rfl) (by kernel_rfl) λx h=>LP x.1 x.2.1 h
theorem FI (s:ByteArray) (h:s.size<=4294967296):fnW Co (look [(97,Bg)]) Ue Try.f159 (s,()) (λ(z:Bool)=>z=Yt s):=by
 refine Eq.mp (HJ s _) ?_
 refine Am s.size (λv=>v.1) (λj _=> ∀k,k<j->rW s k) rfl (λk hk=>absurd hk (Nat.not_lt_zero _)) ?_
 rintro j ⟨i,⟨⟩⟩ K hj hi hR hK
 dsimp only at hi⊢
 subst hi
 refine Br.dec (λhl=>?_) λhl=>?_
 ·have hl:j<s.size:=by omega
  rw [Int.toNat_natCast]
  have hb:=(s[j]).toNat_lt
  refine ⟨by omega,_,Ht hl,_,if_pos trivial,⟨λhq=>?_,λhq=>?_⟩⟩
  ·have hq:=Ci hq
   rw [Bz] at hq
   dsimp only at hq
   rw [Bt (by omega) (by omega)] at hq
   refine Av λhh=>?_
   obtain ⟨c,hc,PQ,YW,_⟩:=hh.2 j hl
   rw [Ht hl] at hc;cases hc
   exact hq ⟨by omega,by omega⟩
  ·have hq:=Dd hq
   rw [Bz] at hq
   dsimp only at hq
   rw [Bt (by omega) (by omega)] at hq
   refine Am j (λv=>v.1) (λm _=> ∀k,k<m->s[k]?≠some s[j]) rfl (λk hk=>absurd hk (Nat.not_lt_zero _)) ?_
   rintro m ⟨i',⟨⟩⟩ K' hm eH hR' UY
   dsimp only at eH⊢
   subst eH
   refine Br.dec (λGk=>?_) λGk=>?_
   ·have Gk:m<j:=by omega
    have VW:m<s.size:=by omega
    rw [Int.toNat_natCast]
    refine ⟨by omega,_,Ht VW,by omega,_,Ht hl,⟨λhe=>?_,λhe=>?_⟩⟩
    ·simp only [beq_iff_eq,Int.natCast_inj] at he
     refine Av λhh=>?_
     obtain ⟨c,hc,_,_,PQ⟩:=hh.2 j hl
     rw [Ht hl] at hc;cases hc
     exact PQ m Gk (by rw [Ht VW,UInt8.toNat_inj.1 he])
    ·simp only [beq_eq_false_iff_ne,ne_eq,Int.natCast_inj] at he
     rw [Al (by omega)]
     refine UY Gk _ rfl λk hk=>?_
     by_cases e:k=m
     ·subst e
      rw [Ht VW]
      exact λe=>he (by rw [Option.some.inj e])
     ·exact hR' k (by omega)
   ·have:m=j:=by omega
    subst this
    rw [Al (by omega)]
    refine hK hl _ rfl λk hk=>?_
    by_cases e:k=m
    ·subst e
     exact ⟨_,Ht hl,by omega,by omega,hR'⟩
    ·exact hR k (by omega)
 ·have:j=s.size:=by omega
  subst this
  refine ⟨_,if_pos trivial,?_⟩
  show Hj s.size 1 8=_
  cases hr:Hj s.size 1 8 with
  |true=>rw [Bz] at hr;exact Ij ⟨by omega,hR⟩
  |false=>refine Av λhh=>?_;rw [Bz.2 ⟨by omega,by omega⟩] at hr;cases hr
theorem pV:Sound Try.prog 159 Ue:=
 Sound.Cu Bj (Ah Mf Aq) mixed Try.func159 (by kernel_rfl) (by kernel_rfl) λx h=>FI x.1 h
theorem gw {p:PP} (h:Ay p=true):1<=p.1/\p.1<=20/\1<=p.2.2.1.length/\p.2.2.1.length<=8:=by
 obtain ⟨h1,h2,h3⟩:=Fp.1 h
 obtain ⟨h4,h5,_⟩:=Fp.1 h1
 obtain ⟨h6,_⟩:=Fp.1 h2
 omega
theorem tz (p:PP) (h:Dg p):fnW Co (look [(147,Kn),(148,Yy)]) Eu Try.f110 (p,()) (λ(z:Bool)=>z=Ay p):=by
 obtain ⟨hn,hg⟩:=h
 refine Eq.mp (uI p _) ⟨λh0=>?_,λh0=>⟨λh1=>?_,λh1=>⟨_,if_pos hg,⟨λh2=>?_,λh2=>?_⟩⟩⟩⟩
 ·simp only [beq_iff_eq] at h0
  exact Av λhh=>by obtain ⟨_,h2,h3⟩:=hh;have:=(Fp.1 h2).1;omega
 ·simp only [bne_iff_ne,ne_eq,Int.natCast_inj] at h1
  exact Av λhh=>h1 hh.2.2
 ·have h2:=Ci h2
  exact Av λhh=>h2 hh.1
 ·simp only [beq_eq_false_iff_ne,ne_eq] at h0
  simp only [bne_eq_false_iff_eq,Int.natCast_inj] at h1
  have h2:Si p.1 p.2.2.1=true:=Dd h2
  refine Am p.2.1.size (λv=>v.1) (λj v=>v.2=(p.1,p.2.1,p.2.2.1,())/\ ∀k,k<j->rW p.2.1 k) rfl ⟨rfl,λk hk=>absurd hk (Nat.not_lt_zero _)⟩ ?_
  rintro j ⟨i,v⟩ K hj hi ⟨hv,hR⟩ hK
  dsimp only at hi hv⊢
  subst hi hv
  dsimp only
  refine Br.dec (λhl=>?_) λhl=>?_
  ·have hl:j<p.2.1.size:=by omega
   refine ⟨_,if_pos ⟨Int.natCast_nonneg j,Int.ofNat_lt.2 hl,hn⟩,⟨λhq=>?_,λhq=>?_⟩⟩
   ·have hq: ¬iy p.2.1 j=true:=Ci hq
    refine Av λhh=>hq (Fp.2 ?_)
    rw [Int.toNat_natCast]
    exact (Fp.1 hh.2.1).2 j hl
   ·have hq:iy p.2.1 j=true:=Dd hq
    have hq:=Fp.1 hq
    rw [Int.toNat_natCast] at hq
    rw [Al (by omega)]
    refine hK hl _ rfl ⟨rfl,λk hk=>?_⟩
    by_cases e:k=j
    ·subst e;exact hq
    ·exact hR k (by omega)
  ·have:j=p.2.1.size:=by omega
   subst this
   have:=(Fp.1 h2).2.1
   exact Ij ⟨h2,Fp.2 ⟨⟨by omega,by omega⟩,hR⟩,h1⟩
theorem Rf:Sound Try.prog 110 Eu:=
 Sound.Cu Bj (Ah kd (Ah tY Aq)) mixed Try.func110 (by kernel_rfl) (by kernel_rfl) λx h=>tz x.1 h
theorem tq (p:PP) (h:Dg p):fnW Co (look [(158,Kn),(159,Ue)]) Eu Try.f130 (p,()) (λ(z:Bool)=>z=Ay p):=by
 obtain ⟨hn,hg⟩:=h
 refine Eq.mp (uD p _) ⟨_,if_pos hg,⟨λh1=>⟨_,if_pos hn,⟨λh2=>?_,λh2=>?_⟩⟩,λh1=>?_⟩⟩
 ·have h1:Si p.1 p.2.2.1=true:=h1
  have h2:Yt p.2.1=true:=h2
  by_cases e:p.2.1.size=p.2.2.1.length
  ·rw [e,beq_self_eq_true];exact Ij ⟨h1,h2,e⟩
  ·rw [show ((p.2.1.size:Int)==(p.2.2.1.length:Int))=false from beq_eq_false_iff_ne.2 (by omega)];exact Av λhh=>e hh.2.2
 ·have h2:Yt p.2.1=false:=h2
  exact Av λhh=>by rw [hh.2.1] at h2;cases h2
 ·have h1:Si p.1 p.2.2.1=false:=h1
  exact Av λhh=>by rw [hh.1] at h1;cases h1
theorem Ze:Sound Try.prog 130 Eu:=
 Sound.Cu Bj (Ah ka (Ah pV Aq)) mixed Try.func130 (by kernel_rfl) (by kernel_rfl) λx h=>tq x.1 h
theorem Acj (p:PP) (room:Int) (h:Dg p/\roomy room):fnW Co (look [(34,aM)]) rI Try.f14 (p,room,()) (λ(z:Int)=>z=Tb p room):=by
 obtain ⟨⟨h1,h2⟩,h3,h4⟩:=h
 refine Eq.mp (Ad9 p room _) ?_
 rw [Bt (by omega) (by omega)]
 refine Br.dec (λhn=>?_) λhn=>⟨_,if_pos ⟨h2,by dsimp only;omega,by dsimp only;omega⟩,Br.dec (λhm=>?_) λhm=>?_⟩
 ·simp only [Tb,if_pos hn]
 ·exact ((if_neg hn).trans (if_pos hm)).symm
 ·exact ((if_neg hn).trans (if_neg hm)).symm
theorem GO:Sound Try.prog 14 rI:=
 Sound.Cu Bj (Ah oq Aq) mixed Try.func14 (by kernel_rfl) (by kernel_rfl) λx h=>Acj x.1 x.2.1 h
theorem Acl (p:PP) (h:Dg p):fnW Co (look [(36,Vr)]) l7 Try.f16 (p,()) (λ(z:PP)=>z=p):=Eq.mp (Adb p _) ⟨_,if_pos h.2,rfl⟩
theorem GP:Sound Try.prog 16 l7:=
 Sound.Cu Bj (Ah ou Aq) mixed Try.func16 (by kernel_rfl) (by kernel_rfl) λx h=>Acl x.1 h
theorem vn {a b:ByteArray} :(a.toList==b.toList)=decide (a=b):=by
 rw [Bool.eq_iff_iff,beq_iff_eq,decide_eq_true_iff,ByteArray.toList_eq,ByteArray.toList_eq]
 exact ⟨λh=>ByteArray.ext (Array.toList_inj.1 h),λh=>by rw [h]⟩
theorem Acb (a b:PP) (h:Dg a):fnW Co (look [(38,aK)]) rC Try.f19 (a,b,()) (λ(z:Bool)=>z=kS a b):=by
 refine Eq.mp (Ad2 a b _) ⟨λh1=>?_,λh1=>⟨λh2=>?_,λh2=>⟨_,if_pos h.2,⟨λh3=>?_,λh3=>?_⟩⟩⟩⟩
 ·simp only [bne_iff_ne,ne_eq] at h1
  unfold kS
  rw [decide_eq_false h1];rfl
 ·rw [vn] at h2
  unfold kS
  cases hd:decide (a.2.1=b.2.1)<;>simp_all
 ·have h3:(!fU a.2.2.1 b.2.2.1)=true:=h3
  simp only [fU,Bool.not_eq_true'] at h3
  unfold kS
  rw [h3];simp
 ·have h3:(!fU a.2.2.1 b.2.2.1)=false:=h3
  rw [vn] at h2
  simp only [fU] at h3
  simp only [bne_eq_false_iff_eq] at h1
  unfold kS
  simp_all
theorem GH:Sound Try.prog 19 rC:=
 Sound.Cu Bj (Ah o8 Aq) mixed Try.func19 (by kernel_rfl) (by kernel_rfl) λx h=>Acb x.1 x.2.1 h
theorem z6 (p:PP):kS p p=true:=by simp [kS]
end Go.Proofs.Ytjbdmibbbpdnnaa

namespace Go.Proofs.Ytjbdmibbbpdnnaa
open Go.RowKit
abbrev tM1:Ty:= .clo 132 (.pair (.ptr tL) .unit)
noncomputable abbrev e8:Spec:=Cu (.pair tI (.pair (.ptr tL) .unit)) .bool false true (λx=>short x.2.1) (λx=>!Bk x.2.1 x.1)
noncomputable abbrev rF:Spec:=Cu (.pair tL (.pair tM1 .unit)) tI false true (λx=>short x.1/\short x.2.1.1) (λx=>Bw (λy=>!Bk x.2.1.1 y) x.1 0)
noncomputable abbrev rv:Spec:=Cu (.pair tL (.pair tM1 .unit)) .bool false true (λx=>short x.1/\short x.2.1.1) (λx=>List.any x.1 (λy=>!Bk x.2.1.1 y))
noncomputable abbrev dX:Spec:=Cu (.pair tL (.pair tL .unit)) .bool false true (λx=>short x.1/\short x.2.1) (λx=>List.all x.2.1 (λy=>Bk x.1 y))
def xW (n:Int) (g:List (List Int)) (j:Nat):Prop:= ∀h:j<g.length,Fh n g[j]=true/\(∀h1:0<j,g[j-1].length<g[j].length/\ ∀x∈g[j-1],x∈g[j])
noncomputable def Je (p:PP) (g:List (List Int)):Bool:=dec (Ay p=true/\(1<=g.length/\g.length<=5)/\(∀j,j<g.length->xW p.1 g j)/\ ∃x,g[g.length-1]?=some x/\(x.length:Int)=p.1)
noncomputable abbrev Gy:Spec:=Cu (.pair Dc (.pair bC .unit)) .bool false true (λx=>Dg x.1/\Cs x.2.1) (λx=>Je x.1 x.2.1)
noncomputable abbrev Yz:Spec:=Cu (.pair tI (.pair tL .unit)) .bool false true (λx=>short x.2.1) (λx=>El x.1 x.2.1)
noncomputable abbrev Qx:Spec:=Cu (.pair Dc (.pair tL .unit)) .bool false true (λx=>short x.2.1) (λx=>El x.1.1 x.2.1)
noncomputable abbrev Ug:Spec:=Cu (.pair Dc (.pair tL .unit)) .bool false true (λx=>Dg x.1/\short x.2.1) (λx=>Ay x.1&&El x.1.1 x.2.1)
theorem SB (x:Int) (xs:List Int) (P:Bool->Prop):(∃(y3:Bool),Cx.fn (xs,x,())=some y3/\P !y3)=fnW Co (look [(133,Cx)]) e8 Try.f132 (x,xs,()) P:=by kernel_rfl
theorem Ad6 (xs:List Int) (c:List Int×Unit) (P:Int->Prop):(Bn (λ(v3:Int×PUnit) (k4:Int×PUnit->Prop)=>Br (decide (v3.1<(↑xs.length:Int))) (∃(y5:Int),idx xs v3.1=some y5/\ ∃(y6:Bool),e8.fn (y5,c.1,())=some y6/\Br y6 (P v3.1) (k4 (IntKind.i64.wrap (v3.1+(1:Int)),()))) (P (-1:Int))) ((0:Int),PUnit.unit))=fnW Co (look [(132,e8)]) rF Try.f118 (xs,c,()) P:=by kernel_rfl
theorem Acy (xs:List Int) (c:List Int×Unit) (P:Bool->Prop):(∃(y3:Int),rF.fn (xs,c,())=some y3/\P (decide (y3>=(0:Int))))=fnW Co (look [(118,rF)]) rv Try.f131 (xs,c,()) P:=by kernel_rfl
theorem RX (xs ys:List Int) (P:Bool->Prop):(Bn (λ(v3:Int×PUnit) (k4:Int×PUnit->Prop)=>Br (decide (v3.1<(↑ys.length:Int))) (∃(y5:Int),idx ys v3.1=some y5/\ ∃(y6:Bool),Cx.fn (xs,y5,())=some y6/\Br (!y6) (P false) (k4 (IntKind.i64.wrap (v3.1+(1:Int)),()))) (P true)) ((0:Int),PUnit.unit))=fnW Co (look [(153,Cx)]) dX Try.f125 (xs,ys,()) P:=by kernel_rfl
abbrev bB:Type:=Int×Int×ByteArray×List (List Int)×PUnit
theorem oS (p:Int×ByteArray×List (List Int)×Unit) (g:List (List Int)) (P:Bool->Prop):(∃(y3:Bool),Eu.fn ((p.1,p.2.1,p.2.2.1,()),())=some y3/\Br (!y3) (P false) (∃(y4:Bool),Bg.fn ((↑g.length:Int),(1:Int),(5:Int),())=some y4/\Br (!y4) (P false) (Bn (λ(v5:bB) (k6:bB->Prop)=>Br (decide (v5.1<(↑g.length:Int))) (∃(y7:List Int),idx g v5.1=some y7/\ ∃(y8:Bool),Fw.fn (v5.2.1,y7,())=some y8/\Br (!y8) (P false) (Br (decide (v5.1>(0:Int))) (∃(y9:List Int),idx g v5.1=some y9/\ ∃(j4:List Int),idx g (IntKind.i64.wrap (v5.1-(1:Int)))=some j4/\Br (decide ((↑y9.length:Int)<=(↑j4.length:Int))) (P false) (∃(kr:List Int),idx g v5.1=some kr/\ ∃(dC:List Int),idx g (IntKind.i64.wrap (v5.1-(1:Int)))=some dC/\ ∃(fg:Bool),dX.fn (kr,dC,())=some fg/\Br (!fg) (P false) (k6 (IntKind.i64.wrap (v5.1+(1:Int)),v5.2.1,v5.2.2.1,v5.2.2.2.1,())))) (k6 (IntKind.i64.wrap (v5.1+(1:Int)),v5.2.1,v5.2.2.1,v5.2.2.2.1,())))) (∃(y7:List Int),idx g (IntKind.i64.wrap ((↑g.length:Int)-(1:Int)))=some y7/\P ((↑y7.length:Int)==v5.2.1))) ((0:Int),p.1,p.2.1,p.2.2.1,PUnit.unit))))=fnW Co (look [(110,Eu),(93,Bg),(111,Fw),(125,dX)]) Gy Try.f76 (p,g,()) P:=by kernel_rfl
abbrev bA:Type:=Int×Int×ByteArray×List (List Int)×PUnit
theorem oQ (p:Int×ByteArray×List (List Int)×Unit) (g:List (List Int)) (P:Bool->Prop):(∃(y3:Bool),Eu.fn ((p.1,p.2.1,p.2.2.1,()),())=some y3/\Br (!y3) (P false) (∃(y4:Int),Nj.fn (g,())=some y4/\ ∃(y5:Bool),Bg.fn (y4,(1:Int),(5:Int),())=some y5/\Br (!y5) (P false) (Bn (λ(v6:bA) (k7:bA->Prop)=>Br (decide (v6.1<(↑g.length:Int))) (∃(y8:List Int),idx g v6.1=some y8/\ ∃(y9:Bool),Fw.fn (v6.2.1,y8,())=some y9/\Br (!y9) (P false) (Br (decide (v6.1>(0:Int))) (∃(j4:List Int),idx g (IntKind.i64.wrap (v6.1-(1:Int)))=some j4/\Br (decide ((↑j4.length:Int)>=(↑y8.length:Int))) (P false) (∃(kr:List Int),idx g (IntKind.i64.wrap (v6.1-(1:Int)))=some kr/\ ∃(dC:Bool),rv.fn (kr,(y8,()),())=some dC/\Br dC (P false) (k7 (IntKind.i64.wrap (v6.1+(1:Int)),v6.2.1,v6.2.2.1,v6.2.2.2.1,())))) (k7 (IntKind.i64.wrap (v6.1+(1:Int)),v6.2.1,v6.2.2.1,v6.2.2.2.1,())))) (∃(y8:List Int),idx g (IntKind.i64.wrap ((↑g.length:Int)-(1:Int)))=some y8/\ ∃(y9:Int),Ic.fn (y8,())=some y9/\P (y9==v6.2.1))) ((0:Int),p.1,p.2.1,p.2.2.1,PUnit.unit))))=fnW Co (look [(130,Eu),(97,Bg),(58,Nj),(66,Fw),(131,rv),(82,Ic)]) Gy Try.f81 (p,g,()) P:=by kernel_rfl
theorem NL (n:Int) (s:List Int) (P:Bool->Prop):(Br ((↑s.length:Int)==n) (∃(y3:Bool),Et.fn (s,())=some y3/\P y3) (P false))=fnW Co (look [(169,Et)]) Yz Try.f143 (n,s,()) P:=by kernel_rfl
theorem oR (p:Int×ByteArray×List (List Int)×Unit) (s:List Int) (P:Bool->Prop):(∃(y3:Int),Ic.fn (s,())=some y3/\Br (y3==p.1) (∃(y4:Bool),Et.fn (s,())=some y4/\P y4) (P false))=fnW Co (look [(82,Ic),(168,Et)]) Qx Try.f141 (p,s,()) P:=by kernel_rfl
theorem qh (p:Int×ByteArray×List (List Int)×Unit) (s:List Int) (P:Bool->Prop):(∃(y3:Bool),Eu.fn ((p.1,p.2.1,p.2.2.1,()),())=some y3/\Br y3 (∃(y4:Bool),Yz.fn (p.1,s,())=some y4/\P y4) (P false))=fnW Co (look [(110,Eu),(143,Yz)]) Ug Try.f103 (p,s,()) P:=by kernel_rfl
theorem QZ (x:Int) (xs:List Int) (h:short xs):fnW Co (look [(133,Cx)]) e8 Try.f132 (x,xs,()) (λ(z:Bool)=>z=!Bk xs x):=Eq.mp (SB x xs _) ⟨_,if_pos h,rfl⟩
theorem xk:Sound Try.prog 132 e8:=
 Sound.Cu Bj (Ah o7 Aq) mixed Try.func132 (by kernel_rfl) (by kernel_rfl) λx h=>QZ x.1 x.2.1 h
theorem Acg (xs:List Int) (c:List Int×Unit) (h:short xs/\short c.1):fnW Co (look [(132,e8)]) rF Try.f118 (xs,c,()) (λ(z:Int)=>z=Bw (λy=>!Bk c.1 y) xs 0):=by
 obtain ⟨h,h4⟩:=h
 unfold short at h
 refine Eq.mp (Ad6 xs c _) ?_
 refine Am xs.length (λv=>v.1) (λj _=>Bw (λy=>!Bk c.1 y) (xs.drop j) j=Bw (λy=>!Bk c.1 y) xs 0) rfl (by simp) ?_
 rintro j ⟨i,⟨⟩⟩ K hj hi hR hK
 dsimp only at hi⊢
 subst hi
 refine Br.dec (λhl=>?_) λhl=>?_
 ·have hl:j<xs.length:=by omega
  rw [List.drop_eq_getElem_cons hl] at hR
  simp only [Bw] at hR
  refine ⟨_,Ap hl,_,if_pos h4,⟨λhe=>?_,λhe=>?_⟩⟩
  ·have he:(!Bk c.1 xs[j])=true:=he
   rw [if_pos he] at hR
   exact hR
  ·have he:(!Bk c.1 xs[j])=false:=he
   rw [if_neg (by rw [he];decide)] at hR
   rw [Al (by omega)]
   exact hK hl _ rfl (by push_cast;exact hR)
 ·have:j=xs.length:=by omega
  subst this
  rw [List.drop_length] at hR
  exact hR
theorem GL:Sound Try.prog 118 rF:=
 Sound.Cu Bj (Ah xk Aq) mixed Try.func118 (by kernel_rfl) (by kernel_rfl) λx h=>Acg x.1 x.2.1 h
theorem Ac7 (xs:List Int) (c:List Int×Unit) (h:short xs/\short c.1):fnW Co (look [(118,rF)]) rv Try.f131 (xs,c,()) (λ(z:Bool)=>z=List.any xs (λy=>!Bk c.1 y)):=by
 refine Eq.mp (Acy xs c _) ⟨_,if_pos h,?_⟩
 rw [Bool.eq_iff_iff,decide_eq_true_iff]
 exact Wm _ xs 0 (Int.le_refl 0)
theorem GD:Sound Try.prog 131 rv:=
 Sound.Cu Bj (Ah GL Aq) mixed Try.func131 (by kernel_rfl) (by kernel_rfl) λx h=>Ac7 x.1 x.2.1 h
theorem QV (xs ys:List Int) (h:short xs/\short ys):fnW Co (look [(153,Cx)]) dX Try.f125 (xs,ys,()) (λ(z:Bool)=>z=List.all ys (λy=>Bk xs y)):=by
 obtain ⟨h4,h⟩:=h
 unfold short at h
 refine Eq.mp (RX xs ys _) ?_
 refine Am ys.length (λv=>v.1) (λj _=> ∀y∈ys.take j,Bk xs y=true) rfl (by simp) ?_
 rintro j ⟨i,⟨⟩⟩ K hj hi hR hK
 dsimp only at hi⊢
 subst hi
 refine Br.dec (λhl=>?_) λhl=>?_
 ·have hl:j<ys.length:=by omega
  refine ⟨_,Ap hl,_,if_pos h4,⟨λhe=>?_,λhe=>?_⟩⟩
  ·have he: ¬Bk xs ys[j]=true:=Ci he
   exact (List.all_eq_false.2 ⟨_,List.getElem_mem hl,he⟩).symm
  ·have he:Bk xs ys[j]=true:=Dd he
   rw [Al (by omega)]
   refine hK hl _ rfl ?_
   rw [List.take_succ_eq_append_getElem hl]
   intro x hx
   rcases List.mem_append.1 hx with hx|hx
   ·exact hR x hx
   ·rw [List.mem_singleton.1 hx];exact he
 ·have:j=ys.length:=by omega
  subst this
  rw [List.take_length] at hR
  exact (List.all_eq_true.2 hR).symm
theorem xg:Sound Try.prog 125 dX:=
 Sound.Cu Bj (Ah Wu Aq) mixed Try.func125 (by kernel_rfl) (by kernel_rfl) λx h=>QV x.1 x.2.1 h
theorem AW {a b:Int} {P:Prop} (h:P↔a=b):(a==b)=dec P:=by
 by_cases e:a=b
 ·rw [beq_iff_eq.2 e];exact Ij (h.2 e)
 ·rw [beq_eq_false_iff_ne.2 e];exact Av λhp=>e (h.1 hp)
theorem nJ (p:PP) (g:List (List Int)) (h:Dg p/\Cs g):fnW Co (look [(110,Eu),(93,Bg),(111,Fw),(125,dX)]) Gy Try.f76 (p,g,()) (λ(z:Bool)=>z=Je p g):=by
 obtain ⟨hp,hg,h4⟩:=h
 refine Eq.mp (oS p g _) ⟨_,if_pos hp,⟨λh1=>?_,λh1=>⟨_,if_pos trivial,⟨λh2=>?_,λh2=>?_⟩⟩⟩⟩
 ·have h1:=Ci h1
  exact Av λhh=>h1 hh.1
 ·have h2:=Ci h2
  rw [Bz] at h2
  dsimp only at h2
  exact Av λhh=>h2 (by have:=hh.2.1;omega)
 ·have h1:Ay p=true:=Dd h1
  have h2:=Dd h2
  rw [Bz] at h2
  dsimp only at h2
  have hv:=gw h1
  refine Am g.length (λv=>v.1) (λj v=>v.2=(p.1,p.2.1,p.2.2.1,())/\ ∀k,k<j->xW p.1 g k) rfl ⟨rfl,λk hk=>absurd hk (Nat.not_lt_zero _)⟩ ?_
  rintro j ⟨i,v⟩ K hj hi ⟨sJ,hR⟩ hK
  dsimp only at hi sJ⊢
  subst hi sJ
  dsimp only
  refine Br.dec (λhl=>?_) λhl=>?_
  ·have hl:j<g.length:=by omega
   have hm:=h4 _ (List.getElem_mem hl)
   refine ⟨_,Ap hl,_,if_pos ⟨⟨by dsimp only;omega,by dsimp only;omega⟩,hm⟩,⟨λhq=>?_,λhq=>?_⟩⟩
   ·have hq: ¬Fh p.1 g[j]=true:=Ci hq
    exact Av λhh=>hq (hh.2.2.1 j hl hl).1
   ·have hq:Fh p.1 g[j]=true:=Dd hq
    refine Br.dec (λh0=>?_) λh0=>?_
    ·have h0:0<j:=by omega
     rw [Bt (by omega) (by omega),show (j:Int)-1=((j-1:Nat):Int) by omega]
     have VW:=h4 _ (List.getElem_mem (show j-1<g.length by omega))
     refine ⟨_,Ap hl,_,Ap (by omega),Br.dec (λhc=>?_) λhc=>⟨_,Ap hl,_,Ap (by omega),_,if_pos ⟨hm,VW⟩,⟨λha=>?_,λha=>?_⟩⟩⟩
     ·exact Av λhh=>by have:=((hh.2.2.1 j hl hl).2 h0).1;omega
     ·have ha: ¬List.all g[j-1] (λy=>Bk g[j] y)=true:=Ci ha
      exact Av λhh=>ha (List.all_eq_true.2 λy hy=>decide_eq_true (((hh.2.2.1 j hl hl).2 h0).2 y hy))
     ·have ha:List.all g[j-1] (λy=>Bk g[j] y)=true:=Dd ha
      rw [Al (by omega)]
      refine hK hl _ rfl ⟨rfl,λk hk=>?_⟩
      by_cases e:k=j
      ·subst e
       exact λ_=>⟨hq,λ_=>⟨by omega,λy hy=>of_decide_eq_true (List.all_eq_true.1 ha y hy)⟩⟩
      ·exact hR k (by omega)
    ·rw [Al (by omega)]
     refine hK hl _ rfl ⟨rfl,λk hk=>?_⟩
     by_cases e:k=j
     ·subst e
      exact λ_=>⟨hq,λh=>by omega⟩
     ·exact hR k (by omega)
  ·have:j=g.length:=by omega
   subst this
   rw [Bt (by omega) (by omega),show (g.length:Int)-1=((g.length-1:Nat):Int) by omega]
   refine ⟨_,Ap (by omega),AW ?_⟩
   constructor
   ·rintro ⟨_,_,_,x,hx,hn⟩
    rw [List.getElem?_eq_getElem (by omega)] at hx
    rw [Option.some.inj hx];exact hn
   ·intro hn
    exact ⟨h1,by omega,hR,_,List.getElem?_eq_getElem (by omega),hn⟩
theorem gh:Sound Try.prog 76 Gy:=
 Sound.Cu Bj (Ah Rf (Ah Rr (Ah iP (Ah xg Aq)))) mixed Try.func76 (by kernel_rfl) (by kernel_rfl) λx h=>nJ x.1 x.2.1 h
theorem nH (p:PP) (g:List (List Int)) (h:Dg p/\Cs g):fnW Co (look [(130,Eu),(97,Bg),(58,Nj),(66,Fw),(131,rv),(82,Ic)]) Gy Try.f81 (p,g,()) (λ(z:Bool)=>z=Je p g):=by
 obtain ⟨hp,hg,h4⟩:=h
 refine Eq.mp (oQ p g _) ⟨_,if_pos hp,⟨λh1=>?_,λh1=>⟨_,if_pos trivial,_,if_pos trivial,⟨λh2=>?_,λh2=>?_⟩⟩⟩⟩
 ·have h1:=Ci h1
  exact Av λhh=>h1 hh.1
 ·have h2:=Ci h2
  rw [Bz] at h2
  dsimp only at h2
  exact Av λhh=>h2 (by have:=hh.2.1;omega)
 ·have h1:Ay p=true:=Dd h1
  have h2:=Dd h2
  rw [Bz] at h2
  dsimp only at h2
  have hv:=gw h1
  refine Am g.length (λv=>v.1) (λj v=>v.2=(p.1,p.2.1,p.2.2.1,())/\ ∀k,k<j->xW p.1 g k) rfl ⟨rfl,λk hk=>absurd hk (Nat.not_lt_zero _)⟩ ?_
  rintro j ⟨i,v⟩ K hj hi ⟨sJ,hR⟩ hK
  dsimp only at hi sJ⊢
  subst hi sJ
  dsimp only
  refine Br.dec (λhl=>?_) λhl=>?_
  ·have hl:j<g.length:=by omega
   have hm:=h4 _ (List.getElem_mem hl)
   refine ⟨_,Ap hl,_,if_pos ⟨⟨by dsimp only;omega,by dsimp only;omega⟩,hm⟩,⟨λhq=>?_,λhq=>?_⟩⟩
   ·have hq: ¬Fh p.1 g[j]=true:=Ci hq
    exact Av λhh=>hq (hh.2.2.1 j hl hl).1
   ·have hq:Fh p.1 g[j]=true:=Dd hq
    refine Br.dec (λh0=>?_) λh0=>?_
    ·have h0:0<j:=by omega
     rw [Bt (by omega) (by omega),show (j:Int)-1=((j-1:Nat):Int) by omega]
     have VW:=h4 _ (List.getElem_mem (show j-1<g.length by omega))
     refine ⟨_,Ap (by omega),Br.dec (λhc=>?_) λhc=>⟨_,Ap (by omega),_,if_pos ⟨VW,hm⟩,⟨λha=>?_,λha=>?_⟩⟩⟩
     ·exact Av λhh=>by have:=((hh.2.2.1 j hl hl).2 h0).1;omega
     ·have ha:List.any g[j-1] (λy=>!Bk g[j] y)=true:=ha
      obtain ⟨y,hy,hn⟩:=List.any_eq_true.1 ha
      refine Av λhh=>?_
      have:=decide_eq_true (((hh.2.2.1 j hl hl).2 h0).2 y hy)
      have hn:(!decide (y∈g[j]))=true:=hn
      rw [this] at hn;cases hn
     ·have ha:List.any g[j-1] (λy=>!Bk g[j] y)=false:=ha
      rw [Al (by omega)]
      refine hK hl _ rfl ⟨rfl,λk hk=>?_⟩
      by_cases e:k=j
      ·subst e
       refine λ_=>⟨hq,λ_=>⟨by omega,λy hy=>?_⟩⟩
       have hn:=List.any_eq_false.1 ha y hy
       have hn: ¬(!decide (y∈g[k]))=true:=hn
       simpa using hn
      ·exact hR k (by omega)
    ·rw [Al (by omega)]
     refine hK hl _ rfl ⟨rfl,λk hk=>?_⟩
     by_cases e:k=j
     ·subst e
      exact λ_=>⟨hq,λh=>by omega⟩
     ·exact hR k (by omega)
  ·have:j=g.length:=by omega
   subst this
   rw [Bt (by omega) (by omega),show (g.length:Int)-1=((g.length-1:Nat):Int) by omega]
   refine ⟨_,Ap (by omega),_,if_pos trivial,AW ?_⟩
   constructor
   ·rintro ⟨_,_,_,x,hx,hn⟩
    rw [List.getElem?_eq_getElem (by omega)] at hx
    rw [Option.some.inj hx];exact hn
   ·intro hn
    exact ⟨h1,by omega,hR,_,List.getElem?_eq_getElem (by omega),hn⟩
theorem gf:Sound Try.prog 81 Gy:=
 Sound.Cu Bj (Ah Ze (Ah Mf (Ah dj (Ah lG (Ah GD (Ah Rd Aq)))))) mixed Try.func81 (by kernel_rfl) (by kernel_rfl) λx h=>nH x.1 x.2.1 h
theorem LQ (n:Int) (s:List Int) (h:short s):fnW Co (look [(169,Et)]) Yz Try.f143 (n,s,()) (λ(z:Bool)=>z=El n s):=by
 refine Eq.mp (NL n s _) ⟨λhe=>⟨_,if_pos h,?_⟩,λhe=>?_⟩
 ·simp only [beq_iff_eq] at he
  show Gd s=_
  cases hp:Gd s with
  |true=>exact Ij ⟨he,hp⟩
  |false=>exact Av λhh=>by rw [hh.2] at hp;cases hp
 ·simp only [beq_eq_false_iff_ne,ne_eq] at he
  exact Av λhh=>he hh.1
theorem tZ:Sound Try.prog 143 Yz:=
 Sound.Cu Bj (Ah Re Aq) mixed Try.func143 (by kernel_rfl) (by kernel_rfl) λx h=>LQ x.1 x.2.1 h
theorem nI (p:PP) (s:List Int) (h:short s):fnW Co (look [(82,Ic),(168,Et)]) Qx Try.f141 (p,s,()) (λ(z:Bool)=>z=El p.1 s):=by
 refine Eq.mp (oR p s _) ⟨_,if_pos trivial,⟨λhe=>⟨_,if_pos h,?_⟩,λhe=>?_⟩⟩
 ·simp only [beq_iff_eq] at he
  show Gd s=_
  cases hp:Gd s with
  |true=>exact Ij ⟨he,hp⟩
  |false=>exact Av λhh=>by rw [hh.2] at hp;cases hp
 ·simp only [beq_eq_false_iff_ne,ne_eq] at he
  exact Av λhh=>he hh.1
theorem gg:Sound Try.prog 141 Qx:=
 Sound.Cu Bj (Ah Rd (Ah Zd Aq)) mixed Try.func141 (by kernel_rfl) (by kernel_rfl) λx h=>nI x.1 x.2.1 h
theorem pH (p:PP) (s:List Int) (h:Dg p/\short s):fnW Co (look [(110,Eu),(143,Yz)]) Ug Try.f103 (p,s,()) (λ(z:Bool)=>z=(Ay p&&El p.1 s)):=by
 refine Eq.mp (qh p s _) ⟨_,if_pos h.1,⟨λhe=>⟨_,if_pos h.2,?_⟩,λhe=>?_⟩⟩
 ·have he:Ay p=true:=he
  rw [he];rfl
 ·have he:Ay p=false:=he
  rw [he];rfl
theorem iR:Sound Try.prog 103 Ug:=
 Sound.Cu Bj (Ah Rf (Ah tZ Aq)) mixed Try.func103 (by kernel_rfl) (by kernel_rfl) λx h=>pH x.1 x.2.1 h
end Go.Proofs.Ytjbdmibbbpdnnaa

namespace Go.Proofs.Ytjbdmibbbpdnnaa
open Go.RowKit
def Cb (xs:List Int) (i:Int):Int:=xs.getD i.toNat 0
def Aa (p q:List Int):List Int:=p.map (Cb q)
def Wd (f:Nat->Nat) (g:Nat->Int) (m:Nat) (init:List Int):List Int:=(List.range m).foldl (λ(out:List Int) (i:Nat)=>out.set (f i) (g i)) init
def An (p:List Int):List Int:=Wd (λi=>(Cb p (i:Int)).toNat) (λi=>(i:Int)) p.length (List.replicate p.length 0)
def Hb (n:Nat) (p:List Int):Prop:= ∀y∈p,0<=y/\y<n
noncomputable abbrev Ub:Spec:=Cu (.pair tL (.pair tL .unit)) tL false true (λx=>List.length x.1<=20/\Hb (List.length x.2.1) x.1) (λx=>Aa x.1 x.2.1)
noncomputable abbrev Eo:Spec:=Cu (.pair tL .unit) tL false true (λx=>List.length x.1<=20/\Hb (List.length x.1) x.1) (λx=>An x.1)
noncomputable abbrev Cg:Spec:=Cu (.pair tI .unit) tL false true (λx=>0<=x.1/\x.1<=20) (λx=>upto x.1.toNat)
noncomputable abbrev Kv:Spec:=Cu (.pair tL .unit) tL false true (λx=>Gd x.1=true) (λx=>An x.1)
def Af (g:List (List Int)) (l:Int):List Int:=if l>0 then g.getD (l-1).toNat [] else An (g.getD (-l-1).toNat [])
def Er (n:Int) (l:Int):Prop:=l≠0/\ -n<=l/\l<=n
noncomputable abbrev Qy:Spec:=Cu (.pair bC (.pair tI .unit)) tL false false (λx=>Er (List.length x.1) x.2.1/\List.length x.1<=8/\ ∀p∈x.1,Gd p=true) (λx=>Af x.1 x.2.1)
def Ag (n:Nat):List Int:=(List.range n).flatMap λ(k:Nat)=> [(k:Int)+1,-((k:Int)+1)]
noncomputable abbrev Ih:Spec:=Cu (.pair tI .unit) tL false true (λx=>0<=x.1/\x.1<=8) (λx=>Ag x.1.toNat)
noncomputable abbrev Km:Spec:=Cu (.pair Dc (.pair tL (.pair tI .unit))) tL false true (λx=>Ay x.1=true/\List.length x.2.1<=20/\(∀y∈x.2.1,0<=y/\y<x.1.1)/\Er (List.length x.1.2.2.1) x.2.2.1) (λx=>Aa x.2.1 (Af x.1.2.2.1 x.2.2.1))
theorem qc (p q:List Int) (P:List Int->Prop):(((0:Int)<=(↑p.length:Int)/\(↑p.length:Int)<(↑Bp:Int)+(1:Int))/\(↑p.length:Int)=(↑p.length:Int)/\0=0/\(List.replicate (↑p.length:Int).toNat (Int.ofNat (nat_lit 0))).length=(List.replicate (↑p.length:Int).toNat (Int.ofNat (nat_lit 0))).length/\Bn (λ(v3:Int×List Int×PUnit) (k4:Int×List Int×PUnit->Prop)=>Br (decide (v3.1<(↑p.length:Int))) (∃(y5:Int),idx p v3.1=some y5/\ ∃(y6:Int),idx q y5=some y6/\((0:Int)<=v3.1/\v3.1<(↑v3.2.1.length:Int))/\0+v3.1.toNat<v3.2.1.length/\0=0/\v3.2.1.length=(v3.2.1.set (0+v3.1.toNat) y6).length/\k4 (IntKind.i64.wrap (v3.1+(1:Int)),v3.2.1.set (0+v3.1.toNat) y6,())) (P (List.take v3.2.1.length (List.drop 0 v3.2.1)))) ((0:Int),List.replicate (↑p.length:Int).toNat (Int.ofNat (nat_lit 0)),PUnit.unit))=fnW Co (look []) Ub Try.f156 (p,q,()) P:=by kernel_rfl
theorem qd (p:List Int) (P:List Int->Prop):(((0:Int)<=(↑p.length:Int)/\(↑p.length:Int)<(↑Bp:Int)+(1:Int))/\(↑p.length:Int)=(↑p.length:Int)/\0=0/\(List.replicate (↑p.length:Int).toNat (Int.ofNat (nat_lit 0))).length=(List.replicate (↑p.length:Int).toNat (Int.ofNat (nat_lit 0))).length/\Bn (λ(v2:Int×List Int×PUnit) (k3:Int×List Int×PUnit->Prop)=>Br (decide (v2.1<(↑p.length:Int))) (∃(y4:Int),idx p v2.1=some y4/\((0:Int)<=y4/\y4<(↑v2.2.1.length:Int))/\0+y4.toNat<v2.2.1.length/\0=0/\v2.2.1.length=(v2.2.1.set (0+y4.toNat) v2.1).length/\k3 (IntKind.i64.wrap (v2.1+(1:Int)),v2.2.1.set (0+y4.toNat) v2.1,())) (P (List.take v2.2.1.length (List.drop 0 v2.2.1)))) ((0:Int),List.replicate (↑p.length:Int).toNat (Int.ofNat (nat_lit 0)),PUnit.unit))=fnW Co (look []) Eo Try.f175 (p,()) P:=by kernel_rfl
theorem HO (p:List Int) (P:List Int->Prop):(((0:Int)<=(↑p.length:Int)/\(↑p.length:Int)<(↑Bp:Int)+(1:Int))/\(↑p.length:Int)=(↑p.length:Int)/\0=0/\(List.replicate (↑p.length:Int).toNat (Int.ofNat (nat_lit 0))).length=(List.replicate (↑p.length:Int).toNat (Int.ofNat (nat_lit 0))).length/\Bn (λ(v2:Int×List Int×PUnit) (k3:Int×List Int×PUnit->Prop)=>Br (decide (v2.1<(↑p.length:Int))) (∃(y4:Int),idx p v2.1=some y4/\((0:Int)<=y4/\y4<(↑v2.2.1.length:Int))/\0+y4.toNat<v2.2.1.length/\0=0/\v2.2.1.length=(v2.2.1.set (0+y4.toNat) v2.1).length/\k3 (IntKind.i64.wrap (v2.1+(1:Int)),v2.2.1.set (0+y4.toNat) v2.1,())) (P (List.take v2.2.1.length (List.drop 0 v2.2.1)))) ((0:Int),List.replicate (↑p.length:Int).toNat (Int.ofNat (nat_lit 0)),PUnit.unit))=fnW Co (look []) Eo Try.f170 (p,()) P:=by kernel_rfl
theorem qg (p:List Int) (P:List Int->Prop):(∃(y2:Bool),Et.fn (p,())=some y2/\Br (!y2) (P (List.take 0 (List.drop 0 []))) (∃(y3:List Int),Eo.fn (p,())=some y3/\P y3))=fnW Co (look [(169,Et),(170,Eo)]) Kv Try.f150 (p,()) P:=by kernel_rfl
theorem AE (n:Int) (P:List Int->Prop):(0=0/\0=([]:List Int).length/\Bn (λ(v2:Int×List Int×PUnit) (k3:Int×List Int×PUnit->Prop)=>Br (decide (v2.1<n)) (0=0/\v2.2.1.length=v2.2.1.length/\v2.2.1.length+(List.take 1 (List.drop 0 [v2.1])).length<=Bp/\0=0/\(v2.2.1++List.take 1 (List.drop 0 [v2.1])).length=(v2.2.1++List.take 1 (List.drop 0 [v2.1])).length/\k3 (IntKind.i64.wrap (v2.1+(1:Int)),v2.2.1++List.take 1 (List.drop 0 [v2.1]),())) (P (List.take v2.2.1.length (List.drop 0 v2.2.1)))) ((0:Int),[],PUnit.unit))=fnW Co (look []) Cg Try.f124 (n,()) P:=by kernel_rfl
theorem AG (g:List (List Int)) (l:Int) (P:List Int->Prop):(Br (decide (l>(0:Int))) (∃(y3:List Int),idx g (IntKind.i64.wrap (l-(1:Int)))=some y3/\P y3) (∃(y3:List Int),idx g (IntKind.i64.wrap (IntKind.i64.wrap ((0:Int)-l)-(1:Int)))=some y3/\ ∃(y4:List Int),Eo.fn (y3,())=some y4/\P y4))=fnW Co (look [(175,Eo)]) Qy Try.f157 (g,l,()) P:=by kernel_rfl
theorem HL (n:Int) (P:List Int->Prop):(0=0/\0=([]:List Int).length/\Bn (λ(v2:Int×List Int×PUnit) (k3:Int×List Int×PUnit->Prop)=>Br (decide (v2.1<n)) (0=0/\v2.2.1.length=v2.2.1.length/\v2.2.1.length+(List.take 2 (List.drop 0 [IntKind.i64.wrap (v2.1+(1:Int)),IntKind.i64.wrap ((0:Int)-IntKind.i64.wrap (v2.1+(1:Int)))])).length<=Bp/\0=0/\(v2.2.1++List.take 2 (List.drop 0 [IntKind.i64.wrap (v2.1+(1:Int)),IntKind.i64.wrap ((0:Int)-IntKind.i64.wrap (v2.1+(1:Int)))])).length=(v2.2.1++List.take 2 (List.drop 0 [IntKind.i64.wrap (v2.1+(1:Int)),IntKind.i64.wrap ((0:Int)-IntKind.i64.wrap (v2.1+(1:Int)))])).length/\k3 (IntKind.i64.wrap (v2.1+(1:Int)),v2.2.1++List.take 2 (List.drop 0 [IntKind.i64.wrap (v2.1+(1:Int)),IntKind.i64.wrap ((0:Int)-IntKind.i64.wrap (v2.1+(1:Int)))]),())) (P (List.take v2.2.1.length (List.drop 0 v2.2.1)))) ((0:Int),[],PUnit.unit))=fnW Co (look []) Ih Try.f117 (n,()) P:=by kernel_rfl
theorem NH (p:Int×ByteArray×List (List Int)×Unit) (s:List Int) (l:Int) (P:List Int->Prop):(∃(y4:List Int),idx p.2.2.1 (IntKind.i64.wrap ((if true=true then if IntKind.i64.wrap ((0:Int)-l)>l then IntKind.i64.wrap ((0:Int)-l) else l else if IntKind.i64.wrap ((0:Int)-l)<l then IntKind.i64.wrap ((0:Int)-l) else l)-(1:Int)))=some y4/\Br (decide (l<(0:Int))) (∃(y5:List Int),Kv.fn (y4,())=some y5/\0=0/\0=([]:List Int).length/\Bn (λ(v6:Int×List Int×PUnit) (k7:Int×List Int×PUnit->Prop)=>Br (decide (v6.1<(↑s.length:Int))) (∃(y8:Int),idx s v6.1=some y8/\ ∃(y9:Int),idx y5 y8=some y9/\0=0/\v6.2.1.length=v6.2.1.length/\v6.2.1.length+(List.take 1 (List.drop 0 [y9])).length<=Bp/\0=0/\(v6.2.1++List.take 1 (List.drop 0 [y9])).length=(v6.2.1++List.take 1 (List.drop 0 [y9])).length/\k7 (IntKind.i64.wrap (v6.1+(1:Int)),v6.2.1++List.take 1 (List.drop 0 [y9]),())) (P (List.take v6.2.1.length (List.drop 0 v6.2.1)))) ((0:Int),[],PUnit.unit)) (0=0/\0=([]:List Int).length/\Bn (λ(v5:Int×List Int×PUnit) (k6:Int×List Int×PUnit->Prop)=>Br (decide (v5.1<(↑s.length:Int))) (∃(y7:Int),idx s v5.1=some y7/\ ∃(y8:Int),idx y4 y7=some y8/\0=0/\v5.2.1.length=v5.2.1.length/\v5.2.1.length+(List.take 1 (List.drop 0 [y8])).length<=Bp/\0=0/\(v5.2.1++List.take 1 (List.drop 0 [y8])).length=(v5.2.1++List.take 1 (List.drop 0 [y8])).length/\k6 (IntKind.i64.wrap (v5.1+(1:Int)),v5.2.1++List.take 1 (List.drop 0 [y8]),())) (P (List.take v5.2.1.length (List.drop 0 v5.2.1)))) ((0:Int),[],PUnit.unit)))=fnW Co (look [(150,Kv)]) Km Try.f115 (p,s,l,()) P:=by kernel_rfl
theorem Ik {xs:List Int} {i:Nat} (h:i<xs.length):Cb xs (i:Int)=xs[i]:=by
 unfold Cb
 rw [Int.toNat_natCast,List.getD_eq_getElem?_getD,List.getElem?_eq_getElem h];rfl
theorem Vb {xs:List Int} {y:Int} (h0:0<=y) (h:y<xs.length):idx xs y=some (Cb xs y):=by
 have hy:y.toNat<xs.length:=by omega
 have e:y=(y.toNat:Int):=by omega
 rw [e,Ap hy,Ik hy]
theorem Tn (f:Nat->Nat) (g:Nat->Int) (m:Nat) (init:List Int):Wd f g (m+1) init=(Wd f g m init).set (f m) (g m):=by simp [Wd,List.range_succ]
theorem We (f:Nat->Nat) (g:Nat->Int) (m:Nat) (init:List Int):(Wd f g m init).length=init.length:=by
 induction m with
 |zero=>rfl
 |succ m ih=>rw [Tn,List.length_set,ih]
theorem kE (f:Nat->Nat) (g:Nat->Int) (init:List Int): ∀(m:Nat),(∀i j,i<m->j<m->f i=f j->i=j)-> ∀i,i<m->f i<init.length->(Wd f g m init)[f i]?=some (g i)
 |0,_,i,h,_=>absurd h (Nat.not_lt_zero _)
 |m+1,hf,i,hi,hl=>by
  rw [Tn]
  by_cases e:i=m
  ·subst e
   exact List.getElem?_set_self (by rw [We];exact hl)
  ·rw [List.getElem?_set_ne (λh=>e (hf i m hi (by omega) h.symm))]
   exact kE f g init m (λa b ha hb=>hf a b (by omega) (by omega)) i (by omega) hl
structure Ul (p:List Int):Prop where
 pos:1<=p.length
 len:p.length<=20
 row:Hb p.length p
 nodup:p.Nodup
theorem cQ {p:List Int} (h:Gd p=true):Ul p:=by
 obtain ⟨h1,h2,h3⟩:=Fp.1 h
 refine ⟨h1,h2,λy hy=>?_,cO λj hj=>(h3 j hj hj).2.2⟩
 obtain ⟨j,hj,rfl⟩:=List.mem_iff_getElem.1 hy
 have:=h3 j hj hj
 omega
theorem Ul.inj {p:List Int} (h:Ul p) (i j:Nat) (hi:i<p.length) (hj:j<p.length) (e:(Cb p (i:Int)).toNat=(Cb p (j:Int)).toNat):i=j:=by
 rw [Ik hi,Ik hj] at e
 have h1:=h.row _ (List.getElem_mem hi)
 have h2:=h.row _ (List.getElem_mem hj)
 have e:p[i]=p[j]:=by omega
 refine Classical.byContradiction λEx=>?_
 rcases Nat.lt_or_gt_of_ne Ex with hl|hl
 ·exact List.pairwise_iff_getElem.1 h.nodup i j hi hj hl e
 ·exact List.pairwise_iff_getElem.1 h.nodup j i hj hi hl e.symm
theorem Ul.LJ {p:List Int} (h:Ul p) (k:Nat) (hk:k<p.length): ∃i,i<p.length/\(Cb p (i:Int)).toNat=k:=by
 have hm:=(Xe (xs:=p) h.row).2 (oK h.nodup) k hk
 obtain ⟨i,hi,e⟩:=List.mem_iff_getElem.1 hm
 exact ⟨i,hi,by rw [Ik hi,e];exact Int.toNat_natCast k⟩
theorem Ul.lt {p:List Int} (h:Ul p) {i:Nat} (hi:i<p.length):(Cb p (i:Int)).toNat<p.length:=by
 rw [Ik hi]
 have:=h.row _ (List.getElem_mem hi)
 omega
theorem lW (p:List Int):(An p).length=p.length:=by unfold An;rw [We,List.length_replicate]
theorem KN {p:List Int} (h:Ul p) {i:Nat} (hi:i<p.length):(An p)[(Cb p (i:Int)).toNat]?=some (i:Int):=
 kE (λi=>(Cb p (i:Int)).toNat) (λi=>(i:Int)) _ p.length (λi j hi hj=>h.inj i j hi hj) i hi (by rw [List.length_replicate];exact h.lt hi)
theorem QO {p:List Int} (h:Ul p):Hb p.length (An p):=by
 intro y hy
 obtain ⟨k,hk,rfl⟩:=List.mem_iff_getElem.1 hy
 have mW:k<p.length:=by rw [lW] at hk;exact hk
 obtain ⟨i,hi,rfl⟩:=h.LJ k mW
 have:=KN h hi
 rw [List.getElem?_eq_getElem hk] at this
 rw [Option.some.inj this]
 omega
theorem Nx (p q:List Int):(Aa p q).length=p.length:=by simp [Aa]
theorem vz {p q:List Int} {n:Nat} (hp:Hb q.length p) (hq:Hb n q):Hb n (Aa p q):=by
 intro y hy
 obtain ⟨x,hx,rfl⟩:=List.mem_map.1 hy
 have h1:=hp x hx
 rw [show x=(x.toNat:Int) by omega,Ik (by omega)]
 exact hq _ (List.getElem_mem _)
theorem pC (p q:List Int) (h:p.length<=20/\Hb q.length p):fnW Co (look []) Ub Try.f156 (p,q,()) (λ(z:List Int)=>z=Aa p q):=by
 obtain ⟨h,hr⟩:=h
 refine Eq.mp (qc p q _) ?_
 refine ⟨⟨by omega,by show (p.length:Int)<(4294967296:Int)+1;omega⟩,rfl,rfl,rfl,?_⟩
 have Na:=Nx p q
 refine Am p.length (λv=>v.1) (λj v=>v.2.1.length=(Aa p q).length/\v.2.1.take j=(Aa p q).take j) rfl ⟨by rw [Na];simp,by simp⟩ ?_
 rintro j ⟨i,ys,⟨⟩⟩ K hj hi ⟨h1,h2⟩ hK
 dsimp only at hi h1 h2⊢
 subst hi
 refine Br.dec (λhl=>?_) λhl=>?_
 ·have hl:j<p.length:=by omega
  have hy:=hr _ (List.getElem_mem hl)
  refine ⟨_,Ap hl,_,Vb hy.1 hy.2,⟨by omega,by omega⟩,by rw [Int.toNat_natCast];omega,rfl,by rw [List.length_set],?_⟩
  rw [Al (by omega),Int.toNat_natCast,Nat.zero_add]
  have Gk:j<(Aa p q).length:=by rw [Na];exact hl
  have e:Cb q p[j]=(Aa p q)[j]:=by simp [Aa]
  rw [e]
  exact hK hl _ rfl ⟨by rw [List.length_set];exact h1,Rt Gk h1 h2⟩
 ·have:j=p.length:=by omega
  subst this
  rw [<-Na,List.take_length,<-h1,List.take_length] at h2
  rw [List.drop_zero,List.take_length]
  exact h2
theorem Po:Sound Try.prog 156 Ub:=
 Sound.Cu Bj Aq mixed Try.func156 (by kernel_rfl) (by kernel_rfl) λx h=>pC x.1 x.2.1 h
theorem pD (p:List Int) (h:p.length<=20/\Hb p.length p):fnW Co (look []) Eo Try.f175 (p,()) (λ(z:List Int)=>z=An p):=by
 obtain ⟨h,hr⟩:=h
 refine Eq.mp (qd p _) ?_
 refine ⟨⟨by omega,by show (p.length:Int)<(4294967296:Int)+1;omega⟩,rfl,rfl,rfl,?_⟩
 refine Am p.length (λv=>v.1) (λj v=>v.2.1=Wd (λi=>(Cb p (i:Int)).toNat) (λi=>(i:Int)) j (List.replicate p.length 0)) rfl rfl ?_
 rintro j ⟨i,ys,⟨⟩⟩ K hj hi h1 hK
 dsimp only at hi h1⊢
 subst hi
 have hlen:ys.length=p.length:=by rw [h1,We,List.length_replicate]
 refine Br.dec (λhl=>?_) λhl=>?_
 ·have hl:j<p.length:=by omega
  have hy:=hr _ (List.getElem_mem hl)
  refine ⟨_,Ap hl,⟨by omega,by omega⟩,by omega,rfl,by rw [List.length_set],?_⟩
  rw [Al (by omega),Nat.zero_add]
  refine hK hl _ rfl ?_
  rw [Tn,<-h1,Ik hl]
 ·have:j=p.length:=by omega
  subst this
  rw [List.drop_zero,List.take_length]
  exact h1
theorem Pp:Sound Try.prog 175 Eo:=
 Sound.Cu Bj Aq mixed Try.func175 (by kernel_rfl) (by kernel_rfl) λx h=>pD x.1 h
theorem FN (p:List Int) (h:p.length<=20/\Hb p.length p):fnW Co (look []) Eo Try.f170 (p,()) (λ(z:List Int)=>z=An p):=by
 obtain ⟨h,hr⟩:=h
 refine Eq.mp (HO p _) ?_
 refine ⟨⟨by omega,by show (p.length:Int)<(4294967296:Int)+1;omega⟩,rfl,rfl,rfl,?_⟩
 refine Am p.length (λv=>v.1) (λj v=>v.2.1=Wd (λi=>(Cb p (i:Int)).toNat) (λi=>(i:Int)) j (List.replicate p.length 0)) rfl rfl ?_
 rintro j ⟨i,ys,⟨⟩⟩ K hj hi h1 hK
 dsimp only at hi h1⊢
 subst hi
 have hlen:ys.length=p.length:=by rw [h1,We,List.length_replicate]
 refine Br.dec (λhl=>?_) λhl=>?_
 ·have hl:j<p.length:=by omega
  have hy:=hr _ (List.getElem_mem hl)
  refine ⟨_,Ap hl,⟨by omega,by omega⟩,by omega,rfl,by rw [List.length_set],?_⟩
  rw [Al (by omega),Nat.zero_add]
  refine hK hl _ rfl ?_
  rw [Tn,<-h1,Ik hl]
 ·have:j=p.length:=by omega
  subst this
  rw [List.drop_zero,List.take_length]
  exact h1
theorem pY:Sound Try.prog 170 Eo:=
 Sound.Cu Bj Aq mixed Try.func170 (by kernel_rfl) (by kernel_rfl) λx h=>FN x.1 h
theorem pG (p:List Int) (h:Gd p=true):fnW Co (look [(169,Et),(170,Eo)]) Kv Try.f150 (p,()) (λ(z:List Int)=>z=An p):=by
 have hp:=cQ h
 have hs:short p:=by have:=hp.len;unfold short;omega
 refine Eq.mp (qg p _) ⟨_,if_pos hs,⟨λhe=>?_,λ_=>⟨_,if_pos ⟨hp.len,hp.row⟩,rfl⟩⟩⟩
 exact absurd h (Ci he)
theorem iQ:Sound Try.prog 150 Kv:=
 Sound.Cu Bj (Ah Re (Ah pY Aq)) mixed Try.func150 (by kernel_rfl) (by kernel_rfl) λx h=>pG x.1 h
theorem Zg (j:Nat):upto (j+1)=upto j++ [(j:Int)]:=by simp [upto,List.range_succ]
theorem zl (n:Int) (h:0<=n/\n<=20):fnW Co (look []) Cg Try.f124 (n,()) (λ(z:List Int)=>z=upto n.toNat):=by
 refine Eq.mp (AE n _) ⟨rfl,rfl,?_⟩
 refine Am n.toNat (λv=>v.1) (λj v=>v.2.1=upto j) rfl rfl ?_
 rintro j ⟨i,ys,⟨⟩⟩ K hj hi h1 hK
 dsimp only at hi h1⊢
 subst hi h1
 refine Br.dec (λhl=>?_) λhl=>?_
 ·refine ⟨rfl,rfl,?_,rfl,rfl,?_⟩
  ·show (upto j).length+1<=4294967296
   rw [Pr];omega
  ·rw [Al (by omega)]
   exact hK (by omega) _ rfl (Zg j).symm
 ·have:j=n.toNat:=by omega
  subst this
  rw [List.drop_zero,List.take_length]
theorem oa:Sound Try.prog 124 Cg:=
 Sound.Cu Bj Aq mixed Try.func124 (by kernel_rfl) (by kernel_rfl) λx h=>zl x.1 h
theorem Lo {g:List (List Int)} {k:Nat} (h:k<g.length):Af g ((k:Int)+1)=g[k]:=by
 unfold Af
 rw [if_pos (by omega),show ((k:Int)+1-1).toNat=k by omega,List.getD_eq_getElem?_getD,List.getElem?_eq_getElem h];rfl
theorem Ln {g:List (List Int)} {k:Nat} (h:k<g.length):Af g (-((k:Int)+1))=An g[k]:=by
 unfold Af
 rw [if_neg (by omega),show (-(-((k:Int)+1))-1).toNat=k by omega,List.getD_eq_getElem?_getD,List.getElem?_eq_getElem h];rfl
theorem Ma {n:Nat} {l:Int} (h:Er n l): ∃k:Nat,k<n/\(l=(k:Int)+1\/l= -((k:Int)+1)):=by
 obtain ⟨h1,h2,h3⟩:=h
 by_cases h0:0<l
 ·exact ⟨(l-1).toNat,by omega, .inl (by omega)⟩
 ·exact ⟨(-l-1).toNat,by omega, .inr (by omega)⟩
theorem zo (g:List (List Int)) (l:Int) (h:Er (List.length g) l/\List.length g<=8/\ ∀p∈g,Gd p=true):fnW Co (look [(175,Eo)]) Qy Try.f157 (g,l,()) (λ(z:List Int)=>z=Af g l):=by
 obtain ⟨hl,h8,hp⟩:=h
 refine Eq.mp (AG g l _) ?_
 obtain ⟨k,hk,rfl|rfl⟩:=Ma hl
 ·refine Br.dec (λ_=>?_) λhn=>by omega
  rw [Bt (by omega) (by omega),show (k:Int)+1-1=(k:Int) by omega]
  exact ⟨_,Ap hk,(Lo hk).symm⟩
 ·refine Br.dec (λhn=>by omega) λ_=>?_
  rw [Bt (n:=0- -((k:Int)+1)) (by omega) (by omega),Bt (by omega) (by omega),show (0:Int)- -((k:Int)+1)-1=(k:Int) by omega]
  have:=cQ (hp _ (List.getElem_mem hk))
  exact ⟨_,Ap hk,_,if_pos ⟨this.len,this.row⟩,(Ln hk).symm⟩
theorem od:Sound Try.prog 157 Qy:=
 Sound.Cu Bj (Ah Pp Aq) mixed Try.func157 (by kernel_rfl) (by kernel_rfl) λx h=>zo x.1 x.2.1 h
theorem Vh (j:Nat):Ag (j+1)=Ag j++ [(j:Int)+1,-((j:Int)+1)]:=by simp [Ag,List.range_succ,List.flatMap_append]
theorem Ks (j:Nat):(Ag j).length=2*j:=by
 induction j with
 |zero=>rfl
 |succ j ih=>rw [Vh,List.length_append,ih];simp only [List.length_cons,List.length_nil];omega
theorem Ir {n:Nat} {l:Int} (h:l∈Ag n):Er n l:=by
 unfold Ag at h
 obtain ⟨k,hk,hl⟩:=List.mem_flatMap.1 h
 have hk:=List.mem_range.1 hk
 simp only [List.mem_cons,List.not_mem_nil,or_false] at hl
 unfold Er
 omega
theorem FK (n:Int) (h:0<=n/\n<=8):fnW Co (look []) Ih Try.f117 (n,()) (λ(z:List Int)=>z=Ag n.toNat):=by
 refine Eq.mp (HL n _) ⟨rfl,rfl,?_⟩
 refine Am n.toNat (λv=>v.1) (λj v=>v.2.1=Ag j) rfl rfl ?_
 rintro j ⟨i,ys,⟨⟩⟩ K hj hi h1 hK
 dsimp only at hi h1⊢
 subst hi h1
 refine Br.dec (λhl=>?_) λhl=>?_
 ·refine ⟨rfl,rfl,?_,rfl,rfl,?_⟩
  ·show (Ag j).length+2<=4294967296
   rw [Ks];omega
  ·have e1:IntKind.i64.wrap ((j:Int)+1)=(j:Int)+1:=Bt (by omega) (by omega)
   have e2:IntKind.i64.wrap ((0:Int)-((j:Int)+1))= -((j:Int)+1):=by rw [Bt (by omega) (by omega)];omega
   rw [e1,e2]
   exact hK (by omega) _ rfl (Vh j).symm
 ·have:j=n.toNat:=by omega
  subst this
  rw [List.drop_zero,List.take_length]
theorem Xq:Sound Try.prog 117 Ih:=
 Sound.Cu Bj Aq mixed Try.func117 (by kernel_rfl) (by kernel_rfl) λx h=>FK x.1 h
structure Valid (p:PP):Prop where
 n:1<=p.1/\p.1<=20
 oU:1<=p.2.2.1.length/\p.2.2.1.length<=8
 perm: ∀m∈p.2.2.1,Gd m=true
 len: ∀m∈p.2.2.1,(m.length:Int)=p.1
theorem valid {p:PP} (h:Ay p=true):Valid p:=by
 have h0:=gw h
 obtain ⟨h1,_,_⟩:=Fp.1 h
 obtain ⟨_,_,h4⟩:=Fp.1 h1
 exact ⟨⟨h0.1,h0.2.1⟩,h0.2.2,λm hm=>(Fp.1 (h4 m hm)).2,λm hm=>(Fp.1 (h4 m hm)).1⟩
theorem jB {p:PP} (h:Valid p) {l:Int} (hl:Er (List.length p.2.2.1) l):((Af p.2.2.1 l).length:Int)=p.1/\Hb (Af p.2.2.1 l).length (Af p.2.2.1 l):=by
 obtain ⟨k,hk,rfl|rfl⟩:=Ma hl
 ·rw [Lo hk]
  exact ⟨h.len _ (List.getElem_mem hk),(cQ (h.perm _ (List.getElem_mem hk))).row⟩
 ·rw [Ln hk,lW]
  exact ⟨h.len _ (List.getElem_mem hk),QO (cQ (h.perm _ (List.getElem_mem hk)))⟩
theorem uV (s y:List Int) (P:List Int->Prop) (h1:s.length<=20) (h2:Hb y.length s) (h3:P (Aa s y)):
  Bn
   (λ(v5:Int×List Int×PUnit) (k6:Int×List Int×PUnit->Prop)=>
    Br (decide (v5.1<(↑s.length:Int)))
     (∃(y7:Int),
      idx s v5.1=some y7/\
       ∃(y8:Int),
        idx y y7=some y8/\
         (0:Nat)=(0:Nat)/\
          v5.2.1.length=v5.2.1.length/\
           v5.2.1.length+(List.take (1:Nat) (List.drop (0:Nat) [y8])).length<=Bp/\
            (0:Nat)=(0:Nat)/\
             (v5.2.1++List.take (1:Nat) (List.drop (0:Nat) [y8])).length=(v5.2.1++List.take (1:Nat) (List.drop (0:Nat) [y8])).length/\
              k6 (IntKind.i64.wrap (v5.1+(1:Int)),v5.2.1++List.take (1:Nat) (List.drop (0:Nat) [y8]),()))
     (P (List.take v5.2.1.length (List.drop (0:Nat) v5.2.1))))
   ((0:Int),([]:List Int),PUnit.unit):=by
 refine Am s.length (λv=>v.1) (λj v=>v.2.1=(s.take j).map (Cb y)) rfl (by simp) ?_
 rintro j ⟨i,ys,⟨⟩⟩ K hj hi hR hK
 dsimp only at hi hR⊢
 subst hi hR
 refine Br.dec (λhl=>?_) λhl=>?_
 ·have hl:j<s.length:=by omega
  have hy:=h2 _ (List.getElem_mem hl)
  refine ⟨_,Ap hl,_,Vb hy.1 hy.2,rfl,rfl,?_,rfl,rfl,?_⟩
  ·show ((s.take j).map (Cb y)).length+1<=4294967296
   rw [List.length_map,List.length_take];omega
  ·rw [Al (by omega)]
   refine hK hl _ rfl ?_
   dsimp only
   rw [List.take_succ_eq_append_getElem hl,List.map_append]
   rfl
 ·have:j=s.length:=by omega
  subst this
  rw [List.drop_zero,List.take_length,List.take_length]
  exact h3
theorem LM (p:PP) (s:List Int) (l:Int) (h:Ay p=true/\List.length s<=20/\(∀y∈s,0<=y/\y<p.1)/\Er (List.length p.2.2.1) l):fnW Co (look [(150,Kv)]) Km Try.f115 (p,s,l,()) (λ(z:List Int)=>z=Aa s (Af p.2.2.1 l)):=by
 obtain ⟨hv,hs,hr,hl⟩:=h
 have hv:=valid hv
 have hf:=hv.oU
 refine Eq.mp (NH p s l _) ?_
 have JT:=jB hv hl
 have Ql:Hb (Af p.2.2.1 l).length s:= λy hy=>by have:=hr y hy;omega
 obtain ⟨k,hk,rfl|rfl⟩:=Ma hl
 ·rw [if_pos rfl,Bt (n:=0-((k:Int)+1)) (by omega) (by omega),if_neg (by omega),Bt (by omega) (by omega),show (k:Int)+1-1=(k:Int) by omega]
  refine ⟨_,Ap hk,Br.dec (λhn=>by omega) λ_=>⟨rfl,rfl,?_⟩⟩
  rw [Lo hk] at Ql⊢
  exact uV s _ (λz=>z=Aa s p.2.2.1[k]) hs Ql rfl
 ·rw [if_pos rfl,Bt (n:=0- -((k:Int)+1)) (by omega) (by omega),if_pos (by omega),Bt (by omega) (by omega),show (0:Int)- -((k:Int)+1)-1=(k:Int) by omega]
  refine ⟨_,Ap hk,Br.dec (λ_=>⟨_,if_pos (hv.perm _ (List.getElem_mem hk)),rfl,rfl,?_⟩) λhn=>by omega⟩
  rw [Ln hk] at Ql⊢
  exact uV s (An p.2.2.1[k]) (λz=>z=Aa s (An p.2.2.1[k])) hs Ql rfl
theorem aN:Sound Try.prog 115 Km:=
 Sound.Cu Bj (Ah iQ Aq) mixed Try.func115 (by kernel_rfl) (by kernel_rfl) λx h=>LM x.1 x.2.1 x.2.2.1 h
end Go.Proofs.Ytjbdmibbbpdnnaa

namespace Go.Proofs.Ytjbdmibbbpdnnaa
open Go.RowKit
abbrev rL:CK:= .row tI 2
def Le:List (List Int)->Nat
 | []=>0
 |r::rs=>r.length+Le rs
def low (k:Int):Prop:=0<=k/\k<=1099511627776
theorem Cc {α:Type} (xs:List α):List.take xs.length (List.drop 0 xs)=xs:=by rw [List.drop_zero,List.take_length]
end Go.Proofs.Ytjbdmibbbpdnnaa

namespace Go.Proofs.Ytjbdmibbbpdnnaa
open Go.RowKit
theorem jC (a:List Int):Iq a a=true:=by simp [Iq]
theorem MQ {n:Nat} {room:Int} (h: ¬jD n room<0):jD n room=room-n/\(n:Int)<=room:=by
 unfold jD at*
 split at h
 ·exact absurd (show (-1:Int)<0 by decide) h
 ·rename_i h1;rw [if_neg h1];exact ⟨rfl,by omega⟩
theorem xr: ∀(xs:List (List Int)) (room:Int),0<=room-> ¬oE xs room<0->oE xs room=room-Le xs
 | [],room,_,_=>by simp [oE,Le]
 |r::xs,room,h0,h=>by
  simp only [oE,Le] at h⊢
  split at h
  ·exact absurd (show (-1:Int)<0 by decide) h
  ·rename_i h1
   rw [if_neg h1]
   have e1:=MQ (n:=r.length) h1
   have e1:iz r room=room-r.length/\(r.length:Int)<=room:=e1
   rw [xr xs _ (by rw [e1.1];omega) h,e1.1]
   omega
theorem xt {xs:List (List Int)} {room:Int} (h: ¬Js xs room<0):Js xs room=room-xs.length-Le xs:=by
 unfold Js at*
 split at h
 ·exact absurd (show (-1:Int)<0 by decide) h
 ·rename_i h1
  rw [if_neg h1]
  have e1:=MQ h1
  rw [xr xs _ (by rw [e1.1];omega) h,e1.1]
end Go.Proofs.Ytjbdmibbbpdnnaa

namespace Go.Proofs.Ytjbdmibbbpdnnaa
open Go.RowKit
noncomputable abbrev Ki:Spec:=Cu (.pair tL .unit) tL false true (λx=>short x.1) (λx=>x.1)
theorem AB (xs:List Int) (P:List Int->Prop):(0=0/\0=([]:List Int).length/\0+xs.length<=Bp/\P (List.take ([]++xs).length (List.drop 0 ([]++xs))))=fnW Co (look []) Ki Try.f123 (xs,()) P:=by kernel_rfl
theorem zj (xs:List Int) (h:short xs):fnW Co (look []) Ki Try.f123 (xs,()) (λ(z:List Int)=>z=xs):=by
 unfold short at h
 refine Eq.mp (AB xs _) ⟨rfl,rfl,by show 0+xs.length<=4294967296;omega,?_⟩
 simp only [Cc,List.nil_append]
theorem di:Sound Try.prog 123 Ki:=
 Sound.Cu Bj Aq mixed Try.func123 (by kernel_rfl) (by kernel_rfl) λx h=>zj x.1 h
end Go.Proofs.Ytjbdmibbbpdnnaa

namespace Go.Proofs.Ytjbdmibbbpdnnaa
open Go.RowKit
def Cf (xs is:List Int):List Int:=is.map (Cb xs)
noncomputable abbrev Uh:Spec:=Cu (.pair tL (.pair tL .unit)) tL false true (λx=>short x.1/\Hb (List.length x.2.1) x.1) (λx=>Cf x.2.1 x.1)
def Mj (xs:List Int):ByteArray:=bytesOf (xs.map λx=>IntKind.u8.wrap x)
noncomputable abbrev Ek:Spec:=Cu (.pair tL .unit) .str false true (λx=>short x.1) (λx=>Mj x.1)
def iG (ps:List (List Int)) (p:List Int):Int:=Bw (λq=>decide (q=p)) ps 0
theorem HN (is xs:List Int) (P:List Int->Prop):(0=0/\0=([]:List Int).length/\Bn (λ(v3:Int×List Int×PUnit) (k4:Int×List Int×PUnit->Prop)=>Br (decide (v3.1<(↑is.length:Int))) (∃(y5:Int),idx is v3.1=some y5/\ ∃(y6:Int),idx xs y5=some y6/\0=0/\v3.2.1.length=v3.2.1.length/\v3.2.1.length+(List.take 1 (List.drop 0 [y6])).length<=Bp/\0=0/\(v3.2.1++List.take 1 (List.drop 0 [y6])).length=(v3.2.1++List.take 1 (List.drop 0 [y6])).length/\k4 (IntKind.i64.wrap (v3.1+(1:Int)),v3.2.1++List.take 1 (List.drop 0 [y6]),())) (P (List.take v3.2.1.length (List.drop 0 v3.2.1)))) ((0:Int),[],PUnit.unit))=fnW Co (look []) Uh Try.f113 (is,xs,()) P:=by kernel_rfl
theorem AK (xs:List Int) (P:ByteArray->Prop):(((0:Int)<=(↑xs.length:Int)/\(↑xs.length:Int)<(↑Bp:Int)+(1:Int))/\(↑xs.length:Int)=(↑xs.length:Int)/\0=0/\(List.replicate (↑xs.length:Int).toNat (Int.ofNat (nat_lit 0))).length=(List.replicate (↑xs.length:Int).toNat (Int.ofNat (nat_lit 0))).length/\Bn (λ(v2:Int×List Int×PUnit) (k3:Int×List Int×PUnit->Prop)=>Br (decide (v2.1<(↑xs.length:Int))) (∃(y4:Int),idx xs v2.1=some y4/\((0:Int)<=v2.1/\v2.1<(↑v2.2.1.length:Int))/\0+v2.1.toNat<v2.2.1.length/\0=0/\v2.2.1.length=(v2.2.1.set (0+v2.1.toNat) (IntKind.u8.wrap y4)).length/\k3 (IntKind.i64.wrap (v2.1+(1:Int)),v2.2.1.set (0+v2.1.toNat) (IntKind.u8.wrap y4),())) (P (bytesOf (List.take v2.2.1.length (List.drop 0 v2.2.1))))) ((0:Int),List.replicate (↑xs.length:Int).toNat (Int.ofNat (nat_lit 0)),PUnit.unit))=fnW Co (look []) Ek Try.f128 (xs,()) P:=by kernel_rfl
theorem x4 (xs is:List Int):(Cf xs is).length=is.length:=by simp [Cf]
theorem QS {α:Type} (y:α):List.take 1 (List.drop 0 [y])= [y]:=rfl
theorem FM (is xs:List Int) (h:short is/\Hb xs.length is):fnW Co (look []) Uh Try.f113 (is,xs,()) (λ(z:List Int)=>z=Cf xs is):=by
 obtain ⟨h,hr⟩:=h
 unfold short at h
 refine Eq.mp (HN is xs _) ⟨rfl,rfl,?_⟩
 have Na:=x4 xs is
 refine Am is.length (λv=>v.1) (λj v=>v.2.1=(Cf xs is).take j) rfl rfl ?_
 rintro j ⟨i,ys,⟨⟩⟩ K hj hi h1 hK
 dsimp only at hi h1⊢
 subst hi
 refine Br.dec (λhl=>?_) λhl=>?_
 ·have hl:j<is.length:=by omega
  have hy:=hr _ (List.getElem_mem hl)
  have Gk:j<(Cf xs is).length:=by rw [Na];exact hl
  refine ⟨_,Ap hl,_,Vb hy.1 hy.2,rfl,rfl,?_,rfl,rfl,?_⟩
  ·show ys.length+1<=4294967296
   rw [h1,List.length_take];omega
  ·rw [Al (by omega),QS]
   refine hK hl _ rfl ?_
   dsimp only
   rw [h1,List.take_succ_eq_append_getElem Gk]
   simp [Cf]
 ·have:j=is.length:=by omega
  subst this
  rw [Cc,h1,<-Na,List.take_length]
theorem pX:Sound Try.prog 113 Uh:=
 Sound.Cu Bj Aq mixed Try.func113 (by kernel_rfl) (by kernel_rfl) λx h=>FM x.1 x.2.1 h
theorem zt (xs:List Int) (h:short xs):fnW Co (look []) Ek Try.f128 (xs,()) (λ(z:ByteArray)=>z=Mj xs):=by
 unfold short at h
 refine Eq.mp (AK xs _) ?_
 refine ⟨⟨by omega,by show (xs.length:Int)<(4294967296:Int)+1;omega⟩,rfl,rfl,rfl,?_⟩
 have Na:(xs.map λx=>IntKind.u8.wrap x).length=xs.length:=by simp
 refine Am xs.length (λv=>v.1) (λj v=>v.2.1.length=(xs.map λx=>IntKind.u8.wrap x).length/\v.2.1.take j=(xs.map λx=>IntKind.u8.wrap x).take j) rfl ⟨by rw [Na];simp,by simp⟩ ?_
 rintro j ⟨i,ys,⟨⟩⟩ K hj hi ⟨h1,h2⟩ hK
 dsimp only at hi h1 h2⊢
 subst hi
 refine Br.dec (λhl=>?_) λhl=>?_
 ·have hl:j<xs.length:=by omega
  refine ⟨_,Ap hl,⟨by omega,by omega⟩,by rw [Int.toNat_natCast];omega,rfl,by rw [List.length_set],?_⟩
  rw [Al (by omega),Int.toNat_natCast,Nat.zero_add]
  have Gk:j<(xs.map λx=>IntKind.u8.wrap x).length:=by rw [Na];exact hl
  have e:IntKind.u8.wrap xs[j]=(xs.map λx=>IntKind.u8.wrap x)[j]:=by simp
  rw [e]
  exact hK hl _ rfl ⟨by rw [List.length_set];exact h1,Rt Gk h1 h2⟩
 ·have:j=xs.length:=by omega
  subst this
  rw [<-Na,List.take_length,<-h1,List.take_length] at h2
  rw [List.drop_zero,List.take_length,h2];rfl
theorem dk:Sound Try.prog 128 Ek:=
 Sound.Cu Bj Aq mixed Try.func128 (by kernel_rfl) (by kernel_rfl) λx h=>zt x.1 h
theorem bm {α:Type} (P:α->Bool) (y:α): ∀(l:List α) (i:Int),0<=i->Bw P (l++ [y]) i=if Bw P l i<0 then (if P y=true then i+l.length else-1) else Bw P l i
 | [],i,_=>by simp [Bw]
 |x::r,i,h=>by
  simp only [List.cons_append,Bw,List.length_cons]
  split
  ·rw [if_neg (by omega)]
  ·rw [bm P y r (i+1) (by omega),show i+1+(r.length:Int)=i+((r.length+1:Nat):Int) by push_cast;omega]
theorem tC (ps:List (List Int)) (q p:List Int):iG (ps++ [q]) p=if iG ps p<0 then (if q=p then (ps.length:Int) else-1) else iG ps p:=by
 unfold iG
 rw [bm _ _ _ _ (Int.le_refl 0)]
 simp only [decide_eq_true_eq,Int.zero_add]
def Px (p:List Int):Prop:= ∀x∈p,0<=x/\x<256
theorem IV {x y:Int} (hx:0<=x/\x<256) (hy:0<=y/\y<256) (h:UInt8.ofNat (IntKind.u8.wrap x).toNat=UInt8.ofNat (IntKind.u8.wrap y).toNat):x=y:=by
 have h:=congrArg UInt8.toNat h
 simp only [IntKind.wrap_u8,UInt8.toNat_ofNat'] at h
 omega
theorem bytes_inj: ∀(p q:List Int),Px p->Px q->(p.map λx=>UInt8.ofNat (IntKind.u8.wrap x).toNat)=(q.map λx=>UInt8.ofNat (IntKind.u8.wrap x).toNat)->p=q
 | [],[],_,_,_=>rfl
 | [],_::_,_,_,h=>by simp at h
 |_::_,[],_,_,h=>by simp at h
 |x::p,y::q,hp,hq,h=>by
  simp only [List.map_cons,List.cons.injEq] at h
  rw [IV (hp x (by simp)) (hq y (by simp)) h.1,bytes_inj p q (λz hz=>hp z (by simp [hz])) (λz hz=>hq z (by simp [hz])) h.2]
theorem key_inj {p q:List Int} (hp:Px p) (hq:Px q) (h:Mj p=Mj q):p=q:=by
 refine bytes_inj p q hp hq ?_
 simp only [Mj,bytesOf,ByteArray.mk.injEq,List.map_map] at h
 have h:=congrArg Array.toList h
 simpa [Function.comp_def] using h
def KM (m:ByteArray->Option Int) (ps:List (List Int)):Prop:= ∀p,Px p->m (Mj p)=if iG ps p<0 then none else some (iG ps p)
theorem KM.nil:KM (λ_=>none) []:= λp _=>by
 rw [if_pos (by unfold iG;simp [Bw])]
theorem KM.add {m:ByteArray->Option Int} {ps:List (List Int)} {q:List Int} (h:KM m ps) (hq:Px q) (hn:iG ps q<0):KM (aU m (Mj q) (ps.length:Int)) (ps++ [q]):=by
 intro p hp
 rw [tC]
 unfold aU
 by_cases e:p=q
 ·subst e
  rw [if_pos rfl,if_pos hn,if_pos rfl,if_neg (by omega)]
 ·rw [if_neg (λhk=>e (key_inj hp hq hk)),h p hp]
  have e': ¬q=p:= λh=>e h.symm
  rw [if_neg e']
  by_cases ED:iG ps p<0
  ·rw [if_pos ED,if_pos ED,if_pos (by decide)]
  ·rw [if_neg ED,if_neg ED,if_neg ED]
theorem PE {α:Type} {xs:List α} {j:Nat} (h:j<xs.length) (d:α):xs.getD j d=xs[j]:=by
 rw [List.getD_eq_getElem?_getD,List.getElem?_eq_getElem h];rfl
end Go.Proofs.Ytjbdmibbbpdnnaa

namespace Go.Proofs.Ytjbdmibbbpdnnaa
open Go.RowKit
noncomputable abbrev Iu:Spec:=Cu (.pair Dc .unit) tL false true (λx=>List.length x.1.2.2.1<=8) (λx=>Ag (List.length x.1.2.2.1))
abbrev iW:Type:=Int×Int×ByteArray×List (List Int)×List Int×PUnit
theorem xG (p:Int×ByteArray×List (List Int)×Unit) (P:List Int->Prop):(0=0/\0=([]:List Int).length/\Bn (λ(v2:iW) (k3:iW->Prop)=>Br (decide (v2.1<=(↑v2.2.2.2.1.length:Int))) (0=0/\v2.2.2.2.2.1.length=v2.2.2.2.2.1.length/\v2.2.2.2.2.1.length+(List.take 2 (List.drop 0 [v2.1,IntKind.i64.wrap ((0:Int)-v2.1)])).length<=Bp/\0=0/\(v2.2.2.2.2.1++List.take 2 (List.drop 0 [v2.1,IntKind.i64.wrap ((0:Int)-v2.1)])).length=(v2.2.2.2.2.1++List.take 2 (List.drop 0 [v2.1,IntKind.i64.wrap ((0:Int)-v2.1)])).length/\k3 (IntKind.i64.wrap (v2.1+(1:Int)),v2.2.1,v2.2.2.1,v2.2.2.2.1,v2.2.2.2.2.1++List.take 2 (List.drop 0 [v2.1,IntKind.i64.wrap ((0:Int)-v2.1)]),())) (P (List.take v2.2.2.2.2.1.length (List.drop 0 v2.2.2.2.2.1)))) ((1:Int),p.1,p.2.1,p.2.2.1,[],PUnit.unit))=fnW Co (look []) Iu Try.f96 (p,()) P:=by kernel_rfl
theorem wW (p:PP) (h:List.length p.2.2.1<=8):fnW Co (look []) Iu Try.f96 (p,()) (λ(z:List Int)=>z=Ag (List.length p.2.2.1)):=by
 refine Eq.mp (xG p _) ⟨rfl,rfl,?_⟩
 refine Bn.mk (λv=> ∃j:Nat,j<=List.length p.2.2.1/\v=((j:Int)+1,p.1,p.2.1,p.2.2.1,Ag j,())) (λv=>List.length p.2.2.1+1-v.1.toNat) ⟨0,Nat.zero_le _,rfl⟩ ?_
 rintro _ ⟨j,hj,rfl⟩
 dsimp only
 refine Br.dec (λhl=>?_) λhl=>?_
 ·refine ⟨rfl,rfl,?_,rfl,rfl,⟨j+1,by omega,?_⟩,?_⟩
  ·show (Ag j).length+2<=4294967296
   rw [Ks];omega
  ·rw [Vh,Bt (n:=(j:Int)+1+1) (by omega) (by omega),Bt (n:=0-((j:Int)+1)) (by omega) (by omega),Int.zero_sub]
   rfl
  ·rw [Bt (by omega) (by omega)];omega
 ·have:j=List.length p.2.2.1:=by omega
  subst this
  rw [Cc]
theorem bw:Sound Try.prog 96 Iu:=
 Sound.Cu Bj Aq mixed Try.func96 (by kernel_rfl) (by kernel_rfl) λx h=>wW x.1 h
theorem KL {a:Int} {P:Prop} (h:(a !=a)=true):P:=by simp at h
theorem MP {p:PP} {room:Int} (hr:roomy room) (h: ¬Tb p room<0):(Le p.2.2.1:Int)<=room-Tb p room/\roomy (Tb p room):=by
 unfold Tb at h⊢
 split at h
 ·exact absurd (show (-1:Int)<0 by decide) h
 ·rename_i h1
  rw [if_neg h1]
  split at h
  ·exact absurd (show (-1:Int)<0 by decide) h
  ·rename_i h2
   rw [if_neg h2]
   have e2:=xt h2
   obtain ⟨r1,r2⟩:=hr
   unfold roomy
   omega
end Go.Proofs.Ytjbdmibbbpdnnaa

namespace Go.Proofs.Ytjbdmibbbpdnnaa
open Go.RowKit
def sW (v:Int):List Int->Nat
 | []=>0
 |x::r=>if x>v then sW v r+1 else 0
def QP (v:Int) (t:List Int):Option (List Int):=if sW v t=0 then none else some (Cb t ((sW v t-1:Nat):Int)::(t.set (sW v t-1) v).reverse)
def cM:List Int->Option (List Int)
 | []=>none
 |v::t=>match cM t with
  |some t'=>some (v::t')
  |none=>QP v t
theorem wJ {s s':List Int} (h:cM s=some s'): ∀pre:List Int,cM (pre++s)=some (pre++s')
 | []=>h
 |v::p=>by rw [List.cons_append,cM,wJ h p];rfl
theorem RK {α:Type} (pre:List α) (v a:α) (t:List α):(pre++v::t).set pre.length a=pre++a::t:=by
 rw [List.set_append,if_neg (by omega)];simp
inductive AR:List Int->List (List Int)->List Int->Prop where
 |one (a:List Int):AR a [a] a
 |more {a c b:List Int} {L:List (List Int)} :cM a=some c->AR c L b->AR a (a::L) b
theorem AR.cons {a b:List Int} {L:List (List Int)} (h:AR a L b) (v:Int):AR (v::a) (L.map (v:: ·)) (v::b):=by
 induction h with
 |one a=>exact .one _
 |more h3 _ ih=>exact .more (wJ h3 [v]) ih
theorem AR.head {a b:List Int} {L:List (List Int)} (h:AR a L b): ∃M,L=a::M:=by
 cases h with
 |one=>exact ⟨_,rfl⟩
 |more _ _=>exact ⟨_,rfl⟩
theorem AR.at {a b:List Int} {L:List (List Int)} (h:AR a L b): ∀j (hj:j<L.length),(∀h2:j+1<L.length,cM L[j]=some L[j+1])/\(j+1=L.length->L[j]=b):=by
 induction h with
 |one a=>
  intro j hj
  simp only [List.length_singleton] at hj
  have:j=0:=by omega
  subst this
  exact ⟨λh2=>by simp at h2,λ_=>rfl⟩
 |more h3 h4 ih=>
  intro j hj
  rcases j with _|j
  ·obtain ⟨M,hM⟩:=h4.head
   refine ⟨λh2=>?_,λh2=>?_⟩
   ·simp only [List.getElem_cons_zero,List.getElem_cons_succ]
    subst hM
    exact h3
   ·subst hM;simp at h2
  ·have:=ih j (by simpa using hj)
   refine ⟨λh2=>?_,λh2=>?_⟩
   ·simp only [List.getElem_cons_succ]
    exact this.1 (by simpa using h2)
   ·simp only [List.getElem_cons_succ]
    exact this.2 (by simpa using h2)
theorem AR.distinct {a b:List Int} {L:List (List Int)} (h:AR a L b) (hb:cM b=none): ∀k i j (hi:i<L.length) (hj:j<L.length),L.length-j=k->i<j->L[i]≠L[j]:=by
 intro k
 induction k with
 |zero=>intro i j hi hj hk;omega
 |succ k ih=>
  intro i j hi hj hk jv he
  by_cases e:j+1<L.length
  ·have h1:=(h.at i hi).1 (by omega)
   have h2:=(h.at j hj).1 e
   rw [he,h2] at h1
   exact ih (i+1) (j+1) (by omega) e (by omega) (by omega) (Option.some.inj h1).symm
  ·have h1:=(h.at i hi).1 (by omega)
   have h2:=(h.at j hj).2 (by omega)
   rw [he,h2,hb] at h1
   cases h1
theorem AR.idx {a b:List Int} {L:List (List Int)} (h:AR a L b) (hb:cM b=none) {j:Nat} (hj:j<L.length):L.idxOf L[j]=j:=by
 have h1:L.idxOf L[j]<L.length:=List.idxOf_lt_length_of_mem (List.getElem_mem _)
 have h2:L[L.idxOf L[j]]=L[j]:=List.getElem_idxOf h1
 rcases Nat.lt_trichotomy (L.idxOf L[j]) j with h3|h3|h3
 ·exact absurd h2 (h.distinct hb _ _ _ h1 hj rfl h3)
 ·exact h3
 ·exact absurd h2.symm (h.distinct hb _ _ _ hj h1 rfl h3)
end Go.Proofs.Ytjbdmibbbpdnnaa

namespace Go.Proofs.Ytjbdmibbbpdnnaa
open Go.RowKit
def Cj:List Int->List Int->Int
 | [],[]=>0
 | [],_::_=> -1
 |_::_,[]=>1
 |x::a,y::b=>if x<y then-1 else if x>y then 1 else Cj a b
def aj (a b:List Int):Bool:=decide (Cj a b<0)
noncomputable abbrev Ra:Spec:=Cu (.pair tL (.pair tL .unit)) .bool false true (λx=>short x.1/\List.length x.1=List.length x.2.1) (λx=>aj x.1 x.2.1)
theorem AH (a b:List Int) (P:Bool->Prop):(Bn (λ(v3:Int×PUnit) (k4:Int×PUnit->Prop)=>Br (decide (v3.1<(↑a.length:Int))) (∃(y5:Int),idx a v3.1=some y5/\ ∃(y6:Int),idx b v3.1=some y6/\Br (y5 !=y6) (∃(y7:Int),idx a v3.1=some y7/\ ∃(y8:Int),idx b v3.1=some y8/\P (decide (y7<y8))) (k4 (IntKind.i64.wrap (v3.1+(1:Int)),()))) (P false)) ((0:Int),PUnit.unit))=fnW Co (look []) Ra Try.f144 (a,b,()) P:=by kernel_rfl
theorem zp (a b:List Int) (h:short a/\a.length=b.length):fnW Co (look []) Ra Try.f144 (a,b,()) (λ(z:Bool)=>z=aj a b):=by
 obtain ⟨ha,hb⟩:=h
 unfold short at ha
 refine Eq.mp (AH a b _) ?_
 refine Am a.length (λv=>v.1) (λj _=>Cj (a.drop j) (b.drop j)=Cj a b) rfl (by simp) ?_
 rintro j ⟨i,⟨⟩⟩ K hj hi UZ hK
 dsimp only at hi⊢
 subst hi
 refine Br.dec (λhl=>?_) λhl=>?_
 ·have hl:j<a.length:=by omega
  have hlb:j<b.length:=by omega
  rw [List.drop_eq_getElem_cons hl,List.drop_eq_getElem_cons hlb] at UZ
  simp only [Cj] at UZ
  refine ⟨_,Ap hl,_,Ap hlb,⟨λEx=>?_,λEx=>?_⟩⟩
  ·refine ⟨_,Ap hl,_,Ap hlb,?_⟩
   have Ex:a[j]≠b[j]:=by simpa using Ex
   unfold aj
   rw [<-UZ]
   by_cases h1:a[j]<b[j]
   ·rw [if_pos h1];simp [h1]
   ·rw [if_neg h1,if_pos (by omega)];simp [h1]
  ·have Ex:a[j]=b[j]:=by simpa using Ex
   rw [if_neg (by omega),if_neg (by omega)] at UZ
   rw [Al (by omega)]
   exact hK hl _ rfl UZ
 ·have:j=a.length:=by omega
  subst this
  rw [List.drop_length,List.drop_eq_nil_of_le (by omega)] at UZ
  unfold aj
  rw [<-UZ]
  rfl
theorem og:Sound Try.prog 144 Ra:=
 Sound.Cu Bj Aq mixed Try.func144 (by kernel_rfl) (by kernel_rfl) λx h=>zp x.1 x.2.1 h
theorem wx (a:List (List Int)):fU a a=true:=decide_eq_true rfl
end Go.Proofs.Ytjbdmibbbpdnnaa

namespace Go.Proofs.Ytjbdmibbbpdnnaa
open Go.RowKit
abbrev SS:Type:=List (List Int)×List Int×List Int×Bool×Unit
abbrev rLS:CK:= .row tL 25
abbrev rN:CK:= .row tI 3
def Cz (L:List (List Int)) (Hv:List Int) (s:List Int):Nat:=(Hv.takeWhile λi=>aj (L.getD i.toNat []) s).length
structure Cv (m:Nat) (L:List (List Int)) (Hv:List Int):Prop where
 oU:L.length<=3000
 len: ∀x∈L,x.length=m
 short:m<=20
 perm:Hv.Perm (upto L.length)
 sorted:Hv.Pairwise λi j=>aj (L.getD i.toNat []) (L.getD j.toNat [])=true
def bn (L:List (List Int)) (s:List Int):Int:=if s∈L then (L.idxOf s:Int) else-1
def Pz (Hv:List Int) (k:Nat) (x:Int):List Int:=Hv.take k++x::Hv.drop k
noncomputable abbrev aL:Spec:=Cu (.pair Ww (.pair tL .unit)) tI false true (λx=>Cv (List.length x.2.1) x.1.1 x.1.2.2.1) (λx=>(Cz x.1.1 x.1.2.2.1 x.2.1:Int))
noncomputable abbrev Ko:Spec:=Cu (.pair Ww (.pair tL .unit)) tI false true (λx=>Cv (List.length x.2.1) x.1.1 x.1.2.2.1) (λx=>bn x.1.1 x.2.1)
noncomputable abbrev gb:MSpec:=xT [some 4,none,none] [(false,rLS),(false,rL),(false,rN),(false, .Gt .bool),(false, .Gt tL),(false, .Gt tI)] false [some 4] [rLS,rL,rN, .Gt .bool]
 (λx=>Cv (List.length x.2.2.2.2.1) x.1 x.2.2.1/\List.length x.2.1<=3000) (λx=>((x.1++ [x.2.2.2.2.1],x.2.1++ [x.2.2.2.2.2.1],Pz x.2.2.1 (Cz x.1 x.2.2.1 x.2.2.2.2.1) (List.length x.1),x.2.2.2.1,()),()))
def Td (L:List (List Int)):List Int:=(List.range L.length).foldl (λ(S:List Int) (i:Nat)=>Pz S (Cz (L.take i) S (L.getD i [])) (i:Int)) []
def Ey (g:List (List Int)) (x:List Int) (d:Int):List Int->List (List Int)->List Int->List (List Int)×List Int×Bool
 | [],L,D=>(L,D,true)
 |l::ls,L,D=>if Aa x (Af g l)∈L then Ey g x d ls L D else if L.length=3000 then (L,D,false) else Ey g x d ls (L++ [Aa x (Af g l)]) (D++ [d+1])
def Gs (g:List (List Int)) (ls:List Int):Nat->Nat->List (List Int)->List Int->List (List Int)×List Int×Bool
 |0,_,L,D=>(L,D,true)
 |f+1,k,L,D=>if k<L.length then (match Ey g (L.getD k []) (D.getD k 0) ls L D with
  |(L',D',true)=>Gs g ls f (k+1) L' D'
  |(L',D',false)=>(L',D',false)) else (L,D,true)
def Dr (g:List (List Int)) (s:List Int):List (List Int)×List Int×Bool:=Gs g (Ag g.length) 3001 0 [s] [0]
def Df (g:List (List Int)) (s:List Int):SS:=((Dr g s).1,(Dr g s).2.1,Td (Dr g s).1,(Dr g s).2.2,())
noncomputable abbrev Db:Spec:=Cu (.pair Dc (.pair tL .unit)) Ww false false (λx=>Ay x.1=true/\List.length x.2.1<=20/\ ∀y∈x.2.1,0<=y/\y<x.1.1) (λx=>Df x.1.2.2.1 x.2.1)
abbrev CU:Type:=Int×Int×List (List Int)×List Int×List Int×Bool×PUnit
theorem YN (f:List (List Int)×List Int×List Int×Bool×Unit) (s:List Int) (P:Int->Prop):(Bn (λ(v3:CU) (k4:CU->Prop)=>Br (decide (v3.1<v3.2.1)) ((2:Int)≠(0:Int)/\ ∃(y5:Int),idx v3.2.2.2.2.1 (IntKind.i64.wrap ((IntKind.i64.wrap (v3.1+v3.2.1)).tdiv (2:Int)))=some y5/\ ∃(y6:List Int),idx v3.2.2.1 y5=some y6/\ ∃(y7:Bool),Ra.fn (y6,s,())=some y7/\Br y7 (k4 (IntKind.i64.wrap (IntKind.i64.wrap ((IntKind.i64.wrap (v3.1+v3.2.1)).tdiv (2:Int))+(1:Int)),v3.2.1,v3.2.2.1,v3.2.2.2.1,v3.2.2.2.2.1,v3.2.2.2.2.2.1,())) (k4 (v3.1,IntKind.i64.wrap ((IntKind.i64.wrap (v3.1+v3.2.1)).tdiv (2:Int)),v3.2.2.1,v3.2.2.2.1,v3.2.2.2.2.1,v3.2.2.2.2.2.1,()))) (P v3.1)) ((0:Int),(↑f.2.2.1.length:Int),f.1,f.2.1,f.2.2.1,f.2.2.2.1,PUnit.unit))=fnW Co (look [(144,Ra)]) aL Try.f104 (f,s,()) P:=by kernel_rfl
theorem NN (f:List (List Int)×List Int×List Int×Bool×Unit) (s:List Int) (P:Int->Prop):(∃(y3:Int),aL.fn ((f.1,f.2.1,f.2.2.1,f.2.2.2.1,()),s,())=some y3/\Br (decide (y3<(↑f.2.2.1.length:Int))) (∃(y4:Int),idx f.2.2.1 y3=some y4/\ ∃(y5:List Int),idx f.1 y4=some y5/\ ∃(y6:Bool),Ef.fn (y5,s,())=some y6/\Br y6 (∃(y7:Int),idx f.2.2.1 y3=some y7/\P y7) (P (-1:Int))) (P (-1:Int)))=fnW Co (look [(104,aL),(105,Ef)]) Ko Try.f54 (f,s,()) P:=by kernel_rfl
theorem YL (L:List (List Int)) (D S:List Int) (b:Bool) (s:List Int) (d:Int) (P:((List (List Int)×List Int×List Int×Bool×Unit)×Unit)->Prop):(∃(y7:Int),aL.fn ((List.take L.length (List.drop 0 L),List.take D.length (List.drop 0 D),List.take S.length (List.drop 0 S),b,()),s,())=some y7/\0=0/\S.length=S.length/\S.length+(List.take 1 (List.drop 0 [(0:Int)])).length<=Bp/\((0:Int)<=IntKind.i64.wrap (y7+(1:Int))/\IntKind.i64.wrap (y7+(1:Int))<=(↑(S++List.take 1 (List.drop 0 [(0:Int)])).length:Int)/\(↑(S++List.take 1 (List.drop 0 [(0:Int)])).length:Int)<=(↑(S++List.take 1 (List.drop 0 [(0:Int)])).length:Int))/\((0:Int)<=y7/\y7<=(↑(S++List.take 1 (List.drop 0 [(0:Int)])).length:Int)/\(↑(S++List.take 1 (List.drop 0 [(0:Int)])).length:Int)<=(↑(S++List.take 1 (List.drop 0 [(0:Int)])).length:Int))/\((0:Int)<=y7/\y7<(↑(S++List.take 1 (List.drop 0 [(0:Int)])).length:Int))/\0+y7.toNat<(Bh (S++List.take 1 (List.drop 0 [(0:Int)])) (0+(IntKind.i64.wrap (y7+(1:Int))).toNat) (List.take ((↑(S++List.take 1 (List.drop 0 [(0:Int)])).length:Int).toNat-(IntKind.i64.wrap (y7+(1:Int))).toNat) (List.take ((↑(S++List.take 1 (List.drop 0 [(0:Int)])).length:Int).toNat-y7.toNat) (List.drop (0+y7.toNat) (S++List.take 1 (List.drop 0 [(0:Int)])))))).length/\0=0/\L.length=L.length/\L.length+(List.take 1 (List.drop 0 [s])).length<=Bp/\0=0/\D.length=D.length/\D.length+(List.take 1 (List.drop 0 [d])).length<=Bp/\P ((List.take (L++List.take 1 (List.drop 0 [s])).length (List.drop 0 (L++List.take 1 (List.drop 0 [s]))),List.take (D++List.take 1 (List.drop 0 [d])).length (List.drop 0 (D++List.take 1 (List.drop 0 [d]))),List.take (S++List.take 1 (List.drop 0 [(0:Int)])).length (List.drop 0 ((Bh (S++List.take 1 (List.drop 0 [(0:Int)])) (0+(IntKind.i64.wrap (y7+(1:Int))).toNat) (List.take ((↑(S++List.take 1 (List.drop 0 [(0:Int)])).length:Int).toNat-(IntKind.i64.wrap (y7+(1:Int))).toNat) (List.take ((↑(S++List.take 1 (List.drop 0 [(0:Int)])).length:Int).toNat-y7.toNat) (List.drop (0+y7.toNat) (S++List.take 1 (List.drop 0 [(0:Int)])))))).set (0+y7.toNat) (↑L.length:Int))),b,()),()))=fnMW um (look [(104,aL)]) gb Try.f149 (L,D,S,b,s,d,()) P:=by kernel_rfl
abbrev iX:Type:=Int×Int×ByteArray×List (List Int)×Bool×Bool×List (List Int)×List Int×List Int×List (List Int)×List Int×List Int×PUnit
abbrev xw:Type:=(List (List Int)×List Int×List Int×Bool×PUnit)×PUnit
theorem SF (p:Int×ByteArray×List (List Int)×Unit) (s:List Int) (P:(List (List Int)×List Int×List Int×Bool×Unit)->Prop):(∃(y3:List Int),Ki.fn (s,())=some y3/\ ∃(y4:xw),gb.fn ([],[],[],false,y3,(0:Int),())=some y4/\ ∃(y5:List Int),Iu.fn ((p.1,p.2.1,p.2.2.1,()),())=some y5/\0=0/\0=([]:List Int).length/\0=0/\0=([]:List Int).length/\0=0/\0=([]:List Int).length/\0=0/\y4.1.1.length=y4.1.1.length/\0=0/\y4.1.2.1.length=y4.1.2.1.length/\0=0/\y4.1.2.2.1.length=y4.1.2.2.1.length/\Bn (λ(v6:iX) (k7:iX->Prop)=>Br (decide (v6.1<(↑v6.2.2.2.2.2.2.2.2.2.1.length:Int))) (0=0/\v6.2.2.2.2.2.2.1.length=v6.2.2.2.2.2.2.1.length/\0=0/\v6.2.2.2.2.2.2.2.1.length=v6.2.2.2.2.2.2.2.1.length/\0=0/\v6.2.2.2.2.2.2.2.2.1.length=v6.2.2.2.2.2.2.2.2.1.length/\0=0/\v6.2.2.2.2.2.2.2.2.2.1.length=v6.2.2.2.2.2.2.2.2.2.1.length/\0=0/\v6.2.2.2.2.2.2.2.2.2.2.1.length=v6.2.2.2.2.2.2.2.2.2.2.1.length/\0=0/\v6.2.2.2.2.2.2.2.2.2.2.2.1.length=v6.2.2.2.2.2.2.2.2.2.2.2.1.length/\Bn (λ(v8:iX) (k9:iX->Prop)=>Br (decide (v8.1<(↑y5.length:Int))) (((0:Int)<=v6.1/\v6.1<(↑v8.2.2.2.2.2.2.2.2.2.1.length:Int))/\ ∃(j4:List Int),v8.2.2.2.2.2.2.2.2.2.1[0+v6.1.toNat]?=some j4/\ ∃(kr:Int),idx y5 v8.1=some kr/\ ∃(dC:List Int),Km.fn ((v8.2.1,v8.2.2.1,v8.2.2.2.1,()),j4,kr,())=some dC/\ ∃(fg:Int),Ko.fn ((List.take v8.2.2.2.2.2.2.2.2.2.1.length (List.drop 0 v8.2.2.2.2.2.2.2.2.2.1),List.take v8.2.2.2.2.2.2.2.2.2.2.1.length (List.drop 0 v8.2.2.2.2.2.2.2.2.2.2.1),List.take v8.2.2.2.2.2.2.2.2.2.2.2.1.length (List.drop 0 v8.2.2.2.2.2.2.2.2.2.2.2.1),v8.2.2.2.2.2.1,()),dC,())=some fg/\Br (decide (fg>=(0:Int))) (0=0/\v8.2.2.2.2.2.2.1.length=v8.2.2.2.2.2.2.1.length/\0=0/\v8.2.2.2.2.2.2.2.1.length=v8.2.2.2.2.2.2.2.1.length/\0=0/\v8.2.2.2.2.2.2.2.2.1.length=v8.2.2.2.2.2.2.2.2.1.length/\0=0/\v8.2.2.2.2.2.2.2.2.2.1.length=v8.2.2.2.2.2.2.2.2.2.1.length/\0=0/\v8.2.2.2.2.2.2.2.2.2.2.1.length=v8.2.2.2.2.2.2.2.2.2.2.1.length/\0=0/\v8.2.2.2.2.2.2.2.2.2.2.2.1.length=v8.2.2.2.2.2.2.2.2.2.2.2.1.length/\k9 (IntKind.i64.wrap (v8.1+(1:Int)),v8.2.1,v8.2.2.1,v8.2.2.2.1,v8.2.2.2.2.1,v8.2.2.2.2.2.1,v8.2.2.2.2.2.2.1,v8.2.2.2.2.2.2.2.1,v8.2.2.2.2.2.2.2.2.1,v8.2.2.2.2.2.2.2.2.2.1,v8.2.2.2.2.2.2.2.2.2.2.1,v8.2.2.2.2.2.2.2.2.2.2.2.1,())) (Br ((↑v8.2.2.2.2.2.2.2.2.2.1.length:Int)==(3000:Int)) (P (List.take v8.2.2.2.2.2.2.2.2.2.1.length (List.drop 0 v8.2.2.2.2.2.2.2.2.2.1),List.take v8.2.2.2.2.2.2.2.2.2.2.1.length (List.drop 0 v8.2.2.2.2.2.2.2.2.2.2.1),List.take v8.2.2.2.2.2.2.2.2.2.2.2.1.length (List.drop 0 v8.2.2.2.2.2.2.2.2.2.2.2.1),v8.2.2.2.2.2.1,())) (((0:Int)<=v6.1/\v6.1<(↑v8.2.2.2.2.2.2.2.2.2.2.1.length:Int))/\ ∃(Zi:Int),v8.2.2.2.2.2.2.2.2.2.2.1[0+v6.1.toNat]?=some Zi/\0=0/\v8.2.2.2.2.2.2.2.2.2.1.length=v8.2.2.2.2.2.2.2.2.2.1.length/\0=0/\v8.2.2.2.2.2.2.2.2.2.2.1.length=v8.2.2.2.2.2.2.2.2.2.2.1.length/\0=0/\v8.2.2.2.2.2.2.2.2.2.2.2.1.length=v8.2.2.2.2.2.2.2.2.2.2.2.1.length/\ ∃(dD:xw),gb.fn (v8.2.2.2.2.2.2.2.2.2.1,v8.2.2.2.2.2.2.2.2.2.2.1,v8.2.2.2.2.2.2.2.2.2.2.2.1,v8.2.2.2.2.2.1,dC,IntKind.i64.wrap (Zi+(1:Int)),())=some dD/\0=0/\v8.2.2.2.2.2.2.1.length=v8.2.2.2.2.2.2.1.length/\0=0/\v8.2.2.2.2.2.2.2.1.length=v8.2.2.2.2.2.2.2.1.length/\0=0/\v8.2.2.2.2.2.2.2.2.1.length=v8.2.2.2.2.2.2.2.2.1.length/\0=0/\dD.1.1.length=dD.1.1.length/\0=0/\dD.1.2.1.length=dD.1.2.1.length/\0=0/\dD.1.2.2.1.length=dD.1.2.2.1.length/\k9 (IntKind.i64.wrap (v8.1+(1:Int)),v8.2.1,v8.2.2.1,v8.2.2.2.1,v8.2.2.2.2.1,dD.1.2.2.2.1,v8.2.2.2.2.2.2.1,v8.2.2.2.2.2.2.2.1,v8.2.2.2.2.2.2.2.2.1,dD.1.1,dD.1.2.1,dD.1.2.2.1,())))) (0=0/\v8.2.2.2.2.2.2.1.length=v8.2.2.2.2.2.2.1.length/\0=0/\v8.2.2.2.2.2.2.2.1.length=v8.2.2.2.2.2.2.2.1.length/\0=0/\v8.2.2.2.2.2.2.2.2.1.length=v8.2.2.2.2.2.2.2.2.1.length/\0=0/\v8.2.2.2.2.2.2.2.2.2.1.length=v8.2.2.2.2.2.2.2.2.2.1.length/\0=0/\v8.2.2.2.2.2.2.2.2.2.2.1.length=v8.2.2.2.2.2.2.2.2.2.2.1.length/\0=0/\v8.2.2.2.2.2.2.2.2.2.2.2.1.length=v8.2.2.2.2.2.2.2.2.2.2.2.1.length/\k7 (IntKind.i64.wrap (v6.1+(1:Int)),v8.2.1,v8.2.2.1,v8.2.2.2.1,v8.2.2.2.2.1,v8.2.2.2.2.2.1,v8.2.2.2.2.2.2.1,v8.2.2.2.2.2.2.2.1,v8.2.2.2.2.2.2.2.2.1,v8.2.2.2.2.2.2.2.2.2.1,v8.2.2.2.2.2.2.2.2.2.2.1,v8.2.2.2.2.2.2.2.2.2.2.2.1,()))) ((0:Int),v6.2.1,v6.2.2.1,v6.2.2.2.1,v6.2.2.2.2.1,v6.2.2.2.2.2.1,v6.2.2.2.2.2.2.1,v6.2.2.2.2.2.2.2.1,v6.2.2.2.2.2.2.2.2.1,v6.2.2.2.2.2.2.2.2.2.1,v6.2.2.2.2.2.2.2.2.2.2.1,v6.2.2.2.2.2.2.2.2.2.2.2.1,PUnit.unit)) (P (List.take v6.2.2.2.2.2.2.2.2.2.1.length (List.drop 0 v6.2.2.2.2.2.2.2.2.2.1),List.take v6.2.2.2.2.2.2.2.2.2.2.1.length (List.drop 0 v6.2.2.2.2.2.2.2.2.2.2.1),List.take v6.2.2.2.2.2.2.2.2.2.2.2.1.length (List.drop 0 v6.2.2.2.2.2.2.2.2.2.2.2.1),true,()))) ((0:Int),p.1,p.2.1,p.2.2.1,false,y4.1.2.2.2.1,[],[],[],y4.1.1,y4.1.2.1,y4.1.2.2.1,PUnit.unit))=fnW YD (look [(123,Ki),(149,gb),(96,Iu),(115,Km),(54,Ko)]) Db Try.f112 (p,s,()) P:=by kernel_rfl
theorem mA: ∀ {a b:List Int},Cj a b=0↔a=b
 | [],[]=>by simp [Cj]
 | [],_::_=>by simp [Cj]
 |_::_,[]=>by simp [Cj]
 |x::a,y::b=>by
  simp only [Cj,List.cons.injEq]
  by_cases h1:x<y
  ·rw [if_pos h1]
   exact ⟨λh=>by omega,λh=>by omega⟩
  ·rw [if_neg h1]
   by_cases h2:x>y
   ·rw [if_pos h2]
    exact ⟨λh=>by omega,λh=>by omega⟩
   ·rw [if_neg h2,mA]
    exact ⟨λh=>⟨by omega,h⟩,λh=>h.2⟩
theorem BA: ∀(a b:List Int),Cj b a= -Cj a b
 | [],[]=>by simp [Cj]
 | [],_::_=>by simp [Cj]
 |_::_,[]=>by simp [Cj]
 |x::a,y::b=>by
  simp only [Cj]
  rcases Int.lt_trichotomy x y with h1|h1|h1
  ·simp [h1,show ¬y<x by omega]
  ·subst h1
   simp [BA a b]
  ·simp [h1,show ¬x<y by omega]
theorem qt: ∀ {a b c:List Int},Cj a b<0->Cj b c<0->Cj a c<0
 | [],[],_,h,_=>by simp [Cj] at h
 |_::_,[],_,h,_=>by simp [Cj] at h
 |_,_::_,[],_,h=>by simp [Cj] at h
 | [],_::_,_::_,_,_=>by simp [Cj]
 |x::a,y::b,z::c,h1,h2=>by
  simp only [Cj] at h1 h2⊢
  by_cases e1:x<y
  ·by_cases e2:y<z
   ·rw [if_pos (by omega)];omega
   ·rw [if_neg e2] at h2
    by_cases e3:y>z
    ·rw [if_pos e3] at h2;omega
    ·rw [if_pos (by omega)];omega
  ·rw [if_neg e1] at h1
   by_cases e2:x>y
   ·rw [if_pos e2] at h1;omega
   ·rw [if_neg e2] at h1
    by_cases e3:y<z
    ·rw [if_pos (by omega)];omega
    ·rw [if_neg e3] at h2
     by_cases e4:y>z
     ·rw [if_pos e4] at h2;omega
     ·rw [if_neg e4] at h2
      rw [if_neg (by omega),if_neg (by omega)]
      exact qt h1 h2
theorem lt_iff {a b:List Int} :aj a b=true↔Cj a b<0:=decide_eq_true_iff
theorem ER {a b c:List Int} (h1:aj a b=true) (h2:aj b c=true):aj a c=true:=lt_iff.2 (qt (lt_iff.1 h1) (lt_iff.1 h2))
theorem fT (a:List Int):aj a a=false:=by
 have:Cj a a=0:=mA.2 rfl
 unfold aj;rw [this];rfl
theorem KY {a b:List Int} (h:aj a b=false) (Ex:a≠b):aj b a=true:=by
 rw [lt_iff,BA a b]
 have h1: ¬Cj a b<0:= λh'=>by rw [lt_iff.2 h'] at h;cases h
 have h2:Cj a b≠0:= λh'=>Ex (mA.1 h')
 omega
theorem eX {α:Type} (q:α->Bool): ∀(l:List α),l.Pairwise (λi j=>q j=true->q i=true)-> ∀k (hk:k<l.length),k<(l.takeWhile q).length↔q l[k]=true
 | [],_,k,hk=>by simp at hk
 |a::l,h,k,hk=>by
  obtain ⟨h1,h2⟩:=List.pairwise_cons.1 h
  by_cases ha:q a=true
  ·rw [List.takeWhile_cons_of_pos ha]
   rcases k with _|k
   ·simpa using ha
   ·simp only [List.length_cons,List.getElem_cons_succ,Nat.add_lt_add_iff_right]
    exact eX q l h2 k (by simpa using hk)
  ·rw [List.takeWhile_cons_of_neg ha]
   simp only [List.length_nil,Nat.not_lt_zero,false_iff]
   rcases k with _|k
   ·exact ha
   ·simp only [List.getElem_cons_succ]
    exact λhq=>ha (h1 _ (List.getElem_mem _) hq)
theorem Cv.nm {m:Nat} {L:List (List Int)} {Hv:List Int} (h:Cv m L Hv):Hv.length=L.length:=by rw [h.perm.length_eq,Pr]
theorem Cv.idx {m:Nat} {L:List (List Int)} {Hv:List Int} (h:Cv m L Hv) {k:Nat} (hk:k<Hv.length):0<=Hv[k]/\Hv[k]<L.length:=Is.1 (h.perm.mem_iff.1 (List.getElem_mem hk))
theorem Cv.Zc {m:Nat} {L:List (List Int)} {Hv:List Int} (h:Cv m L Hv) (s:List Int) {k:Nat} (hk:k<Hv.length):k<Cz L Hv s↔aj (L.getD Hv[k].toNat []) s=true:=
 eX _ Hv (h.sorted.imp λjv hj=>ER jv hj) k hk
theorem CN (L:List (List Int)) (Hv s:List Int):Cz L Hv s<=Hv.length:=(List.takeWhile_sublist _).length_le
theorem Cv.inj {m:Nat} {L:List (List Int)} {Hv:List Int} (h:Cv m L Hv) {i j:Nat} (hi:i<L.length) (hj:j<L.length) (e:L[i]=L[j]):i=j:=by
 have mem: ∀i,i<L.length->(i:Int)∈Hv:= λi hi=>h.perm.mem_iff.2 (Is.2 ⟨by omega,by omega⟩)
 obtain ⟨p,hp,ep⟩:=List.mem_iff_getElem.1 (mem i hi)
 obtain ⟨q,hq,eq⟩:=List.mem_iff_getElem.1 (mem j hj)
 have get: ∀i (hi:i<L.length),L.getD ((i:Int)).toNat []=L[i]:= λi hi=>by rw [Int.toNat_natCast,List.getD_eq_getElem?_getD,List.getElem?_eq_getElem hi];rfl
 rcases Nat.lt_trichotomy p q with h1|h1|h1
 ·have:=List.pairwise_iff_getElem.1 h.sorted p q hp hq h1
  rw [ep,eq,get i hi,get j hj,e,fT] at this
  cases this
 ·subst h1
  rw [ep] at eq
  omega
 ·have:=List.pairwise_iff_getElem.1 h.sorted q p hq hp h1
  rw [ep,eq,get i hi,get j hj,e,fT] at this
  cases this
theorem Ox {L:List (List Int)} {k:Nat} (h:k<L.length):L.getD k []=L[k]:=by rw [List.getD_eq_getElem?_getD,List.getElem?_eq_getElem h];rfl
theorem Cv.s9 {m:Nat} {L:List (List Int)} {Hv:List Int} (h:Cv m L Hv) {s:List Int} :
  (∃hk:Cz L Hv s<Hv.length,L.getD Hv[Cz L Hv s].toNat []=s/\bn L s=Hv[Cz L Hv s])\/(bn L s= -1/\ ∀hk:Cz L Hv s<Hv.length,L.getD Hv[Cz L Hv s].toNat []≠s):=by
 by_cases hm:s∈L
 ·left
  obtain ⟨j,hj,rfl⟩:=List.mem_iff_getElem.1 hm
  obtain ⟨p,hp,ep⟩:=List.mem_iff_getElem.1 (h.perm.mem_iff.2 (Is.2 ⟨by omega,by omega⟩):(j:Int)∈Hv)
  have gj:L.getD Hv[p].toNat []=L[j]:=by rw [ep,Int.toNat_natCast,Ox hj]
  have hs:Cz L Hv L[j]=p:=by
   have h1: ¬p<Cz L Hv L[j]:= λh1=>by
    have:=(h.Zc L[j] hp).1 h1
    rw [gj,fT] at this;cases this
   have h2: ¬Cz L Hv L[j]<p:= λh2=>by
    have h3:=(h.Zc L[j] (k:=Cz L Hv L[j]) (by omega)).2 (by
     have:=List.pairwise_iff_getElem.1 h.sorted (Cz L Hv L[j]) p (by omega) hp h2
     rw [gj] at this;exact this)
    omega
   omega
  have hx:L.idxOf L[j]=j:=by
   have h1:L.idxOf L[j]<L.length:=List.idxOf_lt_length_of_mem hm
   exact h.inj h1 hj (List.getElem_idxOf h1)
  refine ⟨by omega,?_,?_⟩
  ·simp only [hs];exact gj
  ·unfold bn
   rw [if_pos hm,hx]
   simp only [hs];exact ep.symm
 ·right
  refine ⟨by unfold bn;rw [if_neg hm],λhk e=>hm ?_⟩
  have hi:=h.idx hk
  rw [Ox (by omega)] at e
  rw [<-e]
  exact List.getElem_mem _
theorem KK (Hv:List Int) (k:Nat) (x:Int):(Pz Hv k x).Perm (x::Hv):=by
 unfold Pz
 refine List.perm_middle.trans (List.Perm.cons x ?_)
 rw [List.take_append_drop]
theorem Cv.add {m:Nat} {L:List (List Int)} {Hv s:List Int} (h:Cv m L Hv) (hn:s∉L) (hl:s.length=m) (hr:L.length<3000):Cv m (L++ [s]) (Pz Hv (Cz L Hv s) L.length):=by
 have vQ: ∀i∈Hv,(L++ [s]).getD i.toNat []=L.getD i.toNat []:= λi hi=>by
  have:=Is.1 (h.perm.mem_iff.1 hi)
  rw [List.getD_eq_getElem?_getD,List.getD_eq_getElem?_getD,List.getElem?_append_left (by omega)]
 have ZW:(L++ [s]).getD ((L.length:Int)).toNat []=s:=by
  rw [Int.toNat_natCast,List.getD_eq_getElem?_getD,List.getElem?_append_right (by omega),Nat.sub_self];rfl
 refine ⟨by rw [List.length_append,List.length_singleton];omega,λx hx=>?_,h.short,?_,?_⟩
 ·rcases List.mem_append.1 hx with hx|hx
  ·exact h.len x hx
  ·rw [List.mem_singleton.1 hx];exact hl
 ·refine (KK _ _ _).trans ?_
  rw [List.length_append,List.length_singleton,Zg]
  exact (List.Perm.cons _ h.perm).trans (List.perm_append_singleton _ _).symm
 ·unfold Pz
  have hs:=h.sorted
  rw [<-List.take_append_drop (Cz L Hv s) Hv] at hs
  obtain ⟨s1,s2,s3⟩:=List.pairwise_append.1 hs
  have mt: ∀i∈Hv.take (Cz L Hv s),i∈Hv/\aj (L.getD i.toNat []) s=true:= λi hi=>by
   obtain ⟨k,hk,rfl⟩:=List.mem_iff_getElem.1 hi
   have hk2:k<Cz L Hv s:=by rw [List.length_take] at hk;omega
   have hk3:k<Hv.length:=by rw [List.length_take] at hk;omega
   rw [List.getElem_take]
   exact ⟨List.getElem_mem _,(h.Zc s hk3).1 hk2⟩
  have md: ∀i∈Hv.drop (Cz L Hv s),i∈Hv/\aj s (L.getD i.toNat [])=true:= λi hi=>by
   obtain ⟨k,hk,rfl⟩:=List.mem_iff_getElem.1 hi
   rw [List.length_drop] at hk
   have hk3:Cz L Hv s+k<Hv.length:=by omega
   rw [List.getElem_drop]
   refine ⟨List.getElem_mem _,KY ?_ λe=>hn ?_⟩
   ·exact Bool.eq_false_iff.2 λhh=>by
     have:=(h.Zc s hk3).2 hh
     omega
   ·have hi:=h.idx hk3
    rw [Ox (by omega)] at e
    rw [<-e];exact List.getElem_mem _
  refine List.pairwise_append.2 ⟨s1.imp_of_mem λ {a b} ha hb pa=>?_,List.pairwise_cons.2 ⟨λb hb=>?_,s2.imp_of_mem λ {a b} ha hb pa=>?_⟩,λa ha b hb=>?_⟩
  ·rw [vQ a (mt a ha).1,vQ b (mt b hb).1];exact pa
  ·rw [ZW,vQ b (md b hb).1];exact (md b hb).2
  ·rw [vQ a (md a ha).1,vQ b (md b hb).1];exact pa
  ·rcases List.mem_cons.1 hb with rfl|hb
   ·rw [ZW,vQ a (mt a ha).1];exact (mt a ha).2
   ·rw [vQ a (mt a ha).1,vQ b (md b hb).1];exact s3 a ha b hb
theorem aP (L:List (List Int)) (s:List Int):Td (L++ [s])=Pz (Td L) (Cz L (Td L) s) L.length:=by
 unfold Td
 rw [List.length_append,List.length_singleton,List.range_succ,List.foldl_append]
 have e: ∀(is:List Nat) (S:List Int),(∀i∈is,i<L.length)->is.foldl (λ(S:List Int) (i:Nat)=>Pz S (Cz ((L++ [s]).take i) S ((L++ [s]).getD i [])) (i:Int)) S=is.foldl (λ(S:List Int) (i:Nat)=>Pz S (Cz (L.take i) S (L.getD i [])) (i:Int)) S:=by
  intro is
  induction is with
  |nil=>intro S _;rfl
  |cons i is ih=>
   intro S h
   have hi:=h i (by simp)
   rw [List.foldl_cons,List.foldl_cons,ih _ λj hj=>h j (List.mem_cons_of_mem _ hj)]
   congr 2
   rw [List.take_append_of_le_length (by omega),List.getD_eq_getElem?_getD,List.getElem?_append_left hi,<-List.getD_eq_getElem?_getD]
 rw [e _ _ λi hi=>List.mem_range.1 hi]
 simp only [List.foldl_cons,List.foldl_nil]
 congr 2
 ·rw [List.take_append_of_le_length (Nat.le_refl _),List.take_length]
 ·rw [List.getD_eq_getElem?_getD,List.getElem?_append_right (by omega),Nat.sub_self];rfl
theorem iL {m:Nat} (h:m<=20):Cv m [] []:=⟨by simp,λx hx=>(by cases hx),h,by simp [upto],List.Pairwise.nil⟩
theorem KI {α:Type} {xs:List α} {y:Int} (h0:0<=y) (h:y.toNat<xs.length):idx xs y=some xs[y.toNat]:=by
 unfold idx
 rw [if_pos h0,List.getElem?_eq_getElem h]
theorem XM (f:SS) (s:List Int) (h:Cv s.length f.1 f.2.2.1):fnW Co (look [(144,Ra)]) aL Try.f104 (f,s,()) (λ(z:Int)=>z=(Cz f.1 f.2.2.1 s:Int)):=by
 obtain ⟨L,D,Hv,b,⟨⟩⟩:=f
 dsimp only at h⊢
 have hle:=CN L Hv s
 have IA:=h.nm
 have vW:=h.oU
 refine Eq.mp (YN (L,D,Hv,b,()) s _) ?_
 refine Bn.mk (λv=>v.2.2.1=L/\v.2.2.2.2.1=Hv/\ ∃lo hi:Nat,v.1=lo/\v.2.1=hi/\lo<=hi/\hi<=Hv.length/\lo<=Cz L Hv s/\Cz L Hv s<=hi) (λv=>(v.2.1-v.1).toNat)
  ⟨rfl,rfl,0,Hv.length,rfl,rfl,by omega,by omega,by omega,hle⟩ ?_
 rintro ⟨lo',eH,L',D',GQ,b',⟨⟩⟩ ⟨h1,h2,lo,hi,h3,h4,h5,h6,h7,h8⟩
 dsimp only at h1 h2 h3 h4⊢
 subst h1 h2 h3 h4
 refine Br.dec (λhl=>?_) λhl=>?_
 ·have em:IntKind.i64.wrap ((IntKind.i64.wrap ((lo:Int)+(hi:Int))).tdiv 2)=(((lo+hi)/2:Nat):Int):=by
   rw [Bt (n:=(lo:Int)+(hi:Int)) (by omega) (by omega),Int.tdiv_eq_ediv_of_nonneg (by omega),Bt (by omega) (by omega)]
   omega
  rw [em]
  have TN:(lo+hi)/2<GQ.length:=by omega
  have PU:=h.idx TN
  have PV:GQ[(lo+hi)/2].toNat<L'.length:=by omega
  have OA:=Ox PV
  have hlen:=h.len _ (List.getElem_mem PV)
  have IB:short L'[GQ[(lo+hi)/2].toNat]:=by
   unfold short
   have:=h.short;omega
  refine ⟨by decide,_,Ap TN,_,KI PU.1 PV,_,if_pos ⟨IB,hlen⟩,⟨λhc=>?_,λhc=>?_⟩⟩
  ·have hc:aj L'[GQ[(lo+hi)/2].toNat] s=true:=hc
   have hs:=(h.Zc s TN).2 (by rw [OA];exact hc)
   rw [Al (by omega)]
   exact ⟨⟨rfl,rfl,(lo+hi)/2+1,hi,rfl,rfl,by omega,h6,by omega,h8⟩,by omega⟩
  ·have hc:aj L'[GQ[(lo+hi)/2].toNat] s=false:=hc
   have hs: ¬(lo+hi)/2<Cz L' GQ s:= λhh=>by
    have:=(h.Zc s TN).1 hh
    rw [OA,hc] at this;cases this
   exact ⟨⟨rfl,rfl,lo,(lo+hi)/2,rfl,rfl,by omega,by omega,h7,by omega⟩,by omega⟩
 ·show (lo:Int)=_
  omega
theorem oh:Sound Try.prog 104 aL:=
 Sound.Cu Bj (Ah og Aq) mixed Try.func104 (by kernel_rfl) (by kernel_rfl) λx h=>XM x.1 x.2.1 h
theorem LS (f:SS) (s:List Int) (h:Cv s.length f.1 f.2.2.1):fnW Co (look [(104,aL),(105,Ef)]) Ko Try.f54 (f,s,()) (λ(z:Int)=>z=bn f.1 s):=by
 obtain ⟨L,D,Hv,b,⟨⟩⟩:=f
 dsimp only at h⊢
 refine Eq.mp (NN (L,D,Hv,b,()) s _) ⟨_,if_pos h,Br.dec (λhl=>?_) λhl=>?_⟩
 ·have hl:Cz L Hv s<Hv.length:=by
   have hl:((Cz L Hv s:Nat):Int)<(Hv.length:Int):=hl
   omega
  have PU:=h.idx hl
  have PV:Hv[Cz L Hv s].toNat<L.length:=by omega
  have OA:=Ox PV
  have hlen:=h.len _ (List.getElem_mem PV)
  have IB:short L[Hv[Cz L Hv s].toNat]:=by
   unfold short
   have:=h.short;omega
  refine ⟨_,Ap hl,_,KI PU.1 PV,_,if_pos IB,⟨λhc=>⟨_,Ap hl,?_⟩,λhc=>?_⟩⟩
  ·have hc:L[Hv[Cz L Hv s].toNat]=s:=of_decide_eq_true hc
   rcases h.s9 (s:=s) with ⟨hk,_,e⟩|⟨_,Ex⟩
   ·exact e.symm
   ·exact absurd (by rw [OA];exact hc) (Ex hl)
  ·have hc: ¬L[Hv[Cz L Hv s].toNat]=s:=of_decide_eq_false hc
   rcases h.s9 (s:=s) with ⟨hk,e,_⟩|⟨e,_⟩
   ·rw [OA] at e;exact absurd e hc
   ·exact e.symm
 ·have hl: ¬Cz L Hv s<Hv.length:=by
   have hl: ¬((Cz L Hv s:Nat):Int)<(Hv.length:Int):=hl
   omega
  rcases h.s9 (s:=s) with ⟨hk,e,_⟩|⟨e,_⟩
  ·exact absurd hk hl
  ·exact e.symm
theorem aO:Sound Try.prog 54 Ko:=
 Sound.Cu Bj (Ah oh (Ah lE Aq)) mixed Try.func54 (by kernel_rfl) (by kernel_rfl) λx h=>LS x.1 x.2.1 h
theorem yR {S:List Int} {k:Nat} (h:k<=S.length) (n:Int):
  (Bh (S++ [0]) (k+1) (List.take ((S++ [0]).length-(k+1)) (List.take ((S++ [0]).length-k) (List.drop k (S++ [0]))))).set k n=Pz S k n:=by
 obtain ⟨A,B,rfl,hA⟩: ∃A B,S=A++B/\A.length=k:=⟨S.take k,S.drop k,(List.take_append_drop k S).symm,by rw [List.length_take];omega⟩
 subst hA
 have e1:List.drop A.length (A++B++ [0])=B++ [0]:=by rw [List.append_assoc,List.drop_left]
 have e2:List.take ((A++B++ [0]).length-A.length) (B++ [0])=B++ [0]:=List.take_of_length_le (by simp only [List.length_append,List.length_singleton];omega)
 have e3:List.take ((A++B++ [0]).length-(A.length+1)) (B++ [0])=B:=by
  have:(A++B++ [(0:Int)]).length-(A.length+1)=B.length:=by simp only [List.length_append,List.length_singleton];omega
  rw [this,List.take_left]
 rw [e1,e2,e3]
 unfold Bh Pz
 have e4:List.drop (A.length+1+B.length) (A++B++ [0])= []:=List.drop_eq_nil_of_le (by simp only [List.length_append,List.length_singleton];omega)
 obtain ⟨c,hc⟩: ∃c,List.take (A.length+1) (A++B++ [0])=A++ [c]:=by
  rw [List.append_assoc,List.take_append,List.take_of_length_le (by omega)]
  cases B with
  |nil=>exact ⟨0,by simp⟩
  |cons b B=>exact ⟨b,by simp⟩
 rw [e4,hc,List.append_nil,List.append_assoc,List.singleton_append,RK,List.take_left,List.drop_left]
theorem XK (L:List (List Int)) (D S:List Int) (b:Bool) (s:List Int) (d:Int) (h:Cv s.length L S/\D.length<=3000):
  fnMW um (look [(104,aL)]) gb Try.f149 (L,D,S,b,s,d,()) (λ(z:(List (List Int)×List Int×List Int×Bool×Unit)×Unit)=>z=((L++ [s],D++ [d],Pz S (Cz L S s) L.length,b,()),())):=by
 obtain ⟨h,hD⟩:=h
 have hle:=CN L S s
 have IA:=h.nm
 have vW:=h.oU
 refine Eq.mp (YL L D S b s d _) ?_
 rw [Cc L,Cc D,Cc S]
 refine ⟨_,if_pos h,?_⟩
 dsimp only
 have es:List.take 1 (List.drop 0 [(0:Int)])= [0]:=rfl
 have el:(S++ [(0:Int)]).length=S.length+1:=by simp
 rw [es,Al (by omega),Nat.zero_add,Nat.zero_add,Int.toNat_natCast,Int.toNat_natCast,Int.toNat_natCast]
 refine ⟨rfl,rfl,by show S.length+1<=4294967296;omega,⟨by omega,by omega,by omega⟩,⟨by omega,by omega,by omega⟩,⟨by omega,by omega⟩,?_,rfl,rfl,by show L.length+1<=4294967296;omega,rfl,rfl,by show D.length+1<=4294967296;omega,?_⟩
 ·unfold Bh
  simp only [List.length_append,List.length_take,List.length_drop,List.length_singleton]
  omega
 ·rw [yR hle,Cc,Cc]
  have e5:List.take (S++ [(0:Int)]).length (List.drop 0 (Pz S (Cz L S s) (L.length:Int)))=Pz S (Cz L S s) (L.length:Int):=by
   rw [List.drop_zero,List.take_of_length_le]
   unfold Pz
   simp only [List.length_append,List.length_cons,List.length_take,List.length_drop,List.length_nil]
   omega
  rw [e5]
  rfl
theorem zR:Dp Try.prog 149 gb:=
 Dp.xT oI (Ah oh Aq) mixed Try.func149 (by kernel_rfl) (by kernel_rfl) λx h=>XK x.1 x.2.1 x.2.2.1 x.2.2.2.1 x.2.2.2.2.1 x.2.2.2.2.2.1 h
structure Ot (p:PP) (m:Nat) (L:List (List Int)) (D:List Int):Prop where
 ok:Cv m L (Td L)
 len:D.length=L.length
 row: ∀x∈L,∀y∈x,0<=y/\y<p.1
 dep: ∀j (h:j<D.length),0<=D[j]/\D[j]<=j
theorem lY {p:PP} (hv:Valid p) {x:List Int} {l:Int} (hx: ∀y∈x,0<=y/\y<p.1) (hl:Er (List.length p.2.2.1) l):
  (Aa x (Af p.2.2.1 l)).length=x.length/\ ∀y∈Aa x (Af p.2.2.1 l),0<=y/\y<p.1:=by
 obtain ⟨h1,h2⟩:=jB hv hl
 refine ⟨Nx _ _,λy hy=>?_⟩
 have:=vz (n:=(Af p.2.2.1 l).length) (λz hz=>by have:=hx z hz;omega) h2 y hy
 omega
theorem Ot.add {p:PP} {m:Nat} {L:List (List Int)} {D:List Int} (h:Ot p m L D) {y:List Int} {d:Int} (hn:y∉L) (hl:y.length=m) (hr:L.length<3000) (hy: ∀z∈y,0<=z/\z<p.1) (hd:0<=d/\d<=L.length):Ot p m (L++ [y]) (D++ [d]):=by
 have hlen:=h.len
 refine ⟨by rw [aP];exact h.ok.add hn hl hr,by simp [hlen],λx hx=>?_,λj hj=>?_⟩
 ·rcases List.mem_append.1 hx with hx|hx
  ·exact h.row x hx
  ·rw [List.mem_singleton.1 hx];exact hy
 ·by_cases e:j<D.length
  ·rw [List.getElem_append_left e];exact h.dep j e
  ·simp only [List.length_append,List.length_singleton] at hj
   have:j=D.length:=by omega
   subst this
   rw [List.getElem_append_right (by omega)]
   simp only [Nat.sub_self,List.getElem_cons_zero]
   omega
theorem dG {p:PP} {s:List Int} (hs:s.length<=20) (hr: ∀y∈s,0<=y/\y<p.1):Ot p s.length [s] [0]:=by
 refine ⟨?_,rfl,λx hx=>by rw [List.mem_singleton.1 hx];exact hr,λj hj=>?_⟩
 ·have:=(iL hs).add (s:=s) (by simp) rfl (by simp)
  have e:Td [s]=Pz [] (Cz [] [] s) 0:=aP [] s
  rw [e];exact this
 ·simp only [List.length_singleton] at hj
  have:j=0:=by omega
  subst this
  simp
theorem qU {L:List (List Int)} {s:List Int} :bn L s>=0↔s∈L:=by
 unfold bn
 split
 ·rename_i h;exact ⟨λ_=>h,λ_=>by omega⟩
 ·rename_i h;exact ⟨λhh=>by omega,λhh=>absurd hh h⟩
theorem RF (p:PP) (s:List Int) (h:Ay p=true/\s.length<=20/\ ∀y∈s,0<=y/\y<p.1):fnW YD (look [(123,Ki),(149,gb),(96,Iu),(115,Km),(54,Ko)]) Db Try.f112 (p,s,()) (λ(z:SS)=>z=Df p.2.2.1 s):=by
 obtain ⟨hv,hs,hr⟩:=h
 have hV:=valid hv
 have vW:=hV.oU
 have VB:=dG hs hr
 have IB:short s:=by unfold short;omega
 obtain ⟨ls,kL⟩: ∃ls,Ag (List.length p.2.2.1)=ls:=⟨_,rfl⟩
 refine Eq.mp (SF p s _) ⟨_,if_pos IB,_,if_pos ⟨iL hs,by show 0<=3000;omega⟩,ls,(if_pos (by show List.length p.2.2.1<=8;exact vW.2)).trans (congrArg some kL),rfl,rfl,rfl,rfl,rfl,rfl,rfl,rfl,rfl,rfl,rfl,rfl,?_⟩
 have e0:Pz [] (Cz [] [] s) ((([]:List (List Int)).length:Nat):Int)=Td [s]:=(aP [] s).symm
 show Bn _ ((0:Int),p.1,p.2.1,p.2.2.1,false,false,[],[],[],[s],[(0:Int)],Pz [] (Cz [] [] s) ((([]:List (List Int)).length:Nat):Int),PUnit.unit)
 rw [e0]
 have OG:ls.length<=16:=by rw [<-kL,Ks];omega
 have jw: ∀l∈ls,Er (List.length p.2.2.1) l:= λl hl=>Ir (kL▸hl)
 have yN:Gs p.2.2.1 ls 3001 0 [s] [0]=Dr p.2.2.1 s:=by unfold Dr;rw [kL]
 refine Bn.mk (λv=>v.2.1=p.1/\v.2.2.1=p.2.1/\v.2.2.2.1=p.2.2.1/\v.2.2.2.2.2.1=false/\ ∃k:Nat,v.1=k/\k<=v.2.2.2.2.2.2.2.2.2.1.length/\
   Ot p s.length v.2.2.2.2.2.2.2.2.2.1 v.2.2.2.2.2.2.2.2.2.2.1/\v.2.2.2.2.2.2.2.2.2.2.2.1=Td v.2.2.2.2.2.2.2.2.2.1/\
   Gs p.2.2.1 ls (3001-k) k v.2.2.2.2.2.2.2.2.2.1 v.2.2.2.2.2.2.2.2.2.2.1=Dr p.2.2.1 s) (λv=>3001-v.1.toNat)
  ⟨rfl,rfl,rfl,rfl,0,rfl,by simp,VB,rfl,yN⟩ ?_
 rintro ⟨k',n1,n2,n3,b0,wh,x1,x2,x3,L0,D0,S0,⟨⟩⟩ ⟨h1,h2,h3,h4,k,h5,h6,h7,h8,h9⟩
 dsimp only at h1 h2 h3 h4 h5 h6 h7 h8 h9
 subst h1 h2 h3 h4 h5 h8
 dsimp only
 have hL0:=h7.ok.oU
 have hD0:=h7.len
 refine Br.dec (λhl=>⟨rfl,rfl,rfl,rfl,rfl,rfl,rfl,rfl,rfl,rfl,rfl,rfl,?_⟩) λhl=>?_
 ·have hk:k<L0.length:=by omega
  have DV:k<D0.length:=by omega
  have hx: ∀y∈L0[k],0<=y/\y<p.1:=h7.row _ (List.getElem_mem hk)
  have QL:L0[k].length=s.length:=h7.ok.len _ (List.getElem_mem hk)
  have hdk:=h7.dep k DV
  obtain ⟨f,hf⟩: ∃f,3001-k=f+1:=⟨3000-k,by omega⟩
  have yG: ∀L' D' ok,Ey p.2.2.1 L0[k] D0[k] ls L0 D0=(L',D',ok)->Dr p.2.2.1 s=if ok=true then Gs p.2.2.1 ls f (k+1) L' D' else (L',D',false):=by
   intro L' D' ok he
   rw [<-h9,hf,Gs,if_pos hk,Ox hk,List.getD_eq_getElem?_getD,List.getElem?_eq_getElem DV]
   simp only [Option.getD_some]
   rw [he]
   cases ok<;>rfl
  refine Bn.mk (λv=>v.2.1=p.1/\v.2.2.1=p.2.1/\v.2.2.2.1=p.2.2.1/\v.2.2.2.2.2.1=false/\ ∃i:Nat,v.1=i/\i<=ls.length/\Ot p s.length v.2.2.2.2.2.2.2.2.2.1 v.2.2.2.2.2.2.2.2.2.2.1/\
    v.2.2.2.2.2.2.2.2.2.2.2.1=Td v.2.2.2.2.2.2.2.2.2.1/\(∃A,v.2.2.2.2.2.2.2.2.2.1=L0++A)/\(∃A,v.2.2.2.2.2.2.2.2.2.2.1=D0++A)/\
    Ey p.2.2.1 L0[k] D0[k] (ls.drop i) v.2.2.2.2.2.2.2.2.2.1 v.2.2.2.2.2.2.2.2.2.2.1=Ey p.2.2.1 L0[k] D0[k] ls L0 D0) (λv=>ls.length-v.1.toNat)
   ⟨rfl,rfl,rfl,rfl,0,rfl,Nat.zero_le _,h7,rfl,⟨[],by simp⟩,⟨[],by simp⟩,rfl⟩ ?_
  rintro ⟨i',m1,m2,m3,b1,wh1,y1,y2,y3,L,D,S,⟨⟩⟩ ⟨g1,g2,g3,g4,i,g5,g6,g7,g8,⟨A,g9⟩,⟨A',g10⟩,HW⟩
  dsimp only at g1 g2 g3 g4 g5 g6 g7 g8 g9 g10 HW
  subst g1 g2 g3 g4 g5 g8
  dsimp only
  have hLf:=g7.ok.oU
  have SW:=g7.len
  rw [Cc L,Cc D,Cc (Td L)]
  refine Br.dec (λhli=>?_) λhli=>?_
  ·have hi:i<ls.length:=by omega
   have TI:k<L.length:=by rw [g9,List.length_append];omega
   have hLk:L[k]=L0[k]:=by simp only [g9];exact List.getElem_append_left hk
   have VQ:k<D.length:=by rw [SW];exact TI
   have hDk:D[k]=D0[k]:=by simp only [g10];exact List.getElem_append_left DV
   have sE:=jw _ (List.getElem_mem hi)
   obtain ⟨nl,nr⟩:=lY hV hx sE
   rw [List.drop_eq_getElem_cons hi] at HW
   simp only [Ey] at HW
   refine ⟨⟨by omega,by omega⟩,L0[k],by rw [Int.toNat_natCast,Nat.zero_add,List.getElem?_eq_getElem TI,hLk],_,Ap hi,_,if_pos ⟨hv,by show L0[k].length<=20;omega,hx,sE⟩,?_⟩
   dsimp only
   have hyl:(Aa L0[k] (Af p.2.2.1 ls[i])).length=s.length:=by rw [nl,QL]
   refine ⟨_,if_pos (by show Cv (Aa L0[k] (Af p.2.2.1 ls[i])).length L (Td L);rw [hyl];exact g7.ok),Br.dec (λNq=>?_) λNq=>?_⟩
   ·have Nq:Aa L0[k] (Af p.2.2.1 ls[i])∈L:=qU.1 Nq
    rw [if_pos Nq] at HW
    rw [Al (by omega)]
    exact ⟨rfl,rfl,rfl,rfl,rfl,rfl,rfl,rfl,rfl,rfl,rfl,rfl,⟨rfl,rfl,rfl,rfl,i+1,rfl,hi,g7,rfl,⟨A,g9⟩,⟨A',g10⟩,HW⟩,by omega⟩
   ·have Nq:Aa L0[k] (Af p.2.2.1 ls[i])∉L:= λhh=>Nq (qU.2 hh)
    rw [if_neg Nq] at HW
    refine ⟨λeG=>?_,λeG=>⟨⟨by omega,by omega⟩,D0[k],by rw [Int.toNat_natCast,Nat.zero_add,List.getElem?_eq_getElem VQ,hDk],rfl,rfl,rfl,rfl,rfl,rfl,?_⟩⟩
    ·have eG:L.length=3000:=by
      have:(L.length:Int)=3000:=by simpa using eG
      omega
     rw [if_pos eG] at HW
     have:=yG _ _ _ HW.symm
     rw [if_neg (by decide)] at this
     unfold Df
     rw [this]
    ·have eG:L.length≠3000:=by
      have:(L.length:Int)≠3000:=by simpa using eG
      omega
     rw [if_neg eG] at HW
     rw [Bt (n:=D0[k]+1) (by omega) (by omega)]
     refine ⟨_,if_pos ⟨by show Cv (Aa L0[k] (Af p.2.2.1 ls[i])).length L (Td L);rw [hyl];exact g7.ok,by show D.length<=3000;omega⟩,?_⟩
     dsimp only
     rw [Al (by omega),<-aP]
     refine ⟨rfl,rfl,rfl,rfl,rfl,rfl,rfl,rfl,rfl,rfl,rfl,rfl,⟨rfl,rfl,rfl,rfl,i+1,rfl,hi,g7.add Nq hyl (by omega) nr ⟨by omega,by omega⟩,rfl,⟨A++ [Aa L0[k] (Af p.2.2.1 ls[i])],by rw [g9,List.append_assoc]⟩,⟨A'++ [D0[k]+1],by rw [g10,List.append_assoc]⟩,HW⟩,by omega⟩
  ·have:i=ls.length:=by omega
   subst this
   rw [List.drop_length,Ey] at HW
   have:=yG _ _ _ HW.symm
   rw [if_pos rfl] at this
   rw [Al (by omega)]
   refine ⟨rfl,rfl,rfl,rfl,rfl,rfl,rfl,rfl,rfl,rfl,rfl,rfl,⟨rfl,rfl,rfl,rfl,k+1,rfl,by rw [g9,List.length_append];omega,g7,rfl,?_⟩,by omega⟩
   rw [show 3001-(k+1)=f by omega]
   exact this.symm
 ·have hk:k=L0.length:=by omega
  rw [Cc L0,Cc D0,Cc (Td L0)]
  obtain ⟨f,hf⟩: ∃f,3001-k=f+1:=⟨3000-k,by omega⟩
  rw [hf,Gs,if_neg (by omega)] at h9
  unfold Df
  rw [<-h9]
theorem l9:Sound Try.prog 112 Db:=
 Sound.Cu YE (Ah di (My zR (Ah bw (Ah aN (Ah aO Aq))))) mixed Try.func112 (by kernel_rfl) (by kernel_rfl) λx h=>RF x.1 x.2.1 h
end Go.Proofs.Ytjbdmibbbpdnnaa

namespace Go.Proofs.Ytjbdmibbbpdnnaa
open Go.RowKit
noncomputable def Dl (p:PP) (t:List Int):Bool:=Ay p&&Fh p.1 t
theorem gJ {p:PP} (hV:Valid p) {m:Nat} {x:List Int} {d:Int} (hx: ∀y∈x,0<=y/\y<p.1) (QL:x.length=m): ∀(ls:List Int) (L:List (List Int)) (D:List Int),(∀l∈ls,Er (List.length p.2.2.1) l)->
  Ot p m L D->(0<=d/\d<L.length)->Ot p m (Ey p.2.2.1 x d ls L D).1 (Ey p.2.2.1 x d ls L D).2.1/\(∃A,(Ey p.2.2.1 x d ls L D).1=L++A)/\(∃A,(Ey p.2.2.1 x d ls L D).2.1=D++A)
 | [],L,D,_,h,_=>⟨h,⟨[],by simp [Ey]⟩,⟨[],by simp [Ey]⟩⟩
 |l::ls,L,D,hl,h,hd=>by
  obtain ⟨n1,n2⟩:=lY hV hx (hl l (by simp))
  have Gk: ∀l∈ls,Er (List.length p.2.2.1) l:= λl' h'=>hl l' (List.mem_cons_of_mem _ h')
  simp only [Ey]
  split
  ·exact gJ hV hx QL ls L D Gk h hd
  ·rename_i hn
   split
   ·exact ⟨h,⟨[],by simp⟩,⟨[],by simp⟩⟩
   ·rename_i hf
    have vW:=h.ok.oU
    obtain ⟨k1,⟨A,k2⟩,⟨A',k3⟩⟩:=gJ hV hx QL ls (L++ [Aa x (Af p.2.2.1 l)]) (D++ [d+1]) Gk (h.add hn (by rw [n1,QL]) (by omega) n2 ⟨by omega,by omega⟩) ⟨hd.1,by rw [List.length_append];omega⟩
    exact ⟨k1,⟨_::A,by rw [k2,List.append_assoc];rfl⟩,⟨_::A',by rw [k3,List.append_assoc];rfl⟩⟩
theorem ve {p:PP} (hV:Valid p) {m:Nat} {ls:List Int} (hl: ∀l∈ls,Er (List.length p.2.2.1) l): ∀(f k:Nat) (L:List (List Int)) (D:List Int),Ot p m L D->
  Ot p m (Gs p.2.2.1 ls f k L D).1 (Gs p.2.2.1 ls f k L D).2.1/\(∃A,(Gs p.2.2.1 ls f k L D).1=L++A)
 |0,k,L,D,h=>⟨h,⟨[],by simp [Gs]⟩⟩
 |f+1,k,L,D,h=>by
  simp only [Gs]
  split
  ·rename_i hk
   have DV:k<D.length:=by rw [h.len];exact hk
   have hd:=h.dep k DV
   have e:D.getD k 0=D[k]:=by rw [List.getD_eq_getElem?_getD,List.getElem?_eq_getElem DV];rfl
   rw [Ox hk,e]
   obtain ⟨k1,⟨A,k2⟩,_⟩:=gJ hV (h.row _ (List.getElem_mem hk)) (h.ok.len _ (List.getElem_mem hk)) (d:=D[k]) ls L D hl h ⟨by omega,by omega⟩
   split
   ·rename_i L' D' he
    rw [he] at k1 k2
    obtain ⟨g1,⟨B,g2⟩⟩:=ve hV hl f (k+1) L' D' k1
    have k2:L'=L++A:=k2
    exact ⟨g1,⟨A++B,by rw [g2,k2,List.append_assoc]⟩⟩
   ·rename_i L' D' he
    rw [he] at k1 k2
    exact ⟨k1,⟨A,k2⟩⟩
  ·exact ⟨h,⟨[],by simp⟩⟩
theorem sd {p:PP} {s:List Int} (hv:Ay p=true) (hs:s.length<=20) (hr: ∀y∈s,0<=y/\y<p.1):Ot p s.length (Dr p.2.2.1 s).1 (Dr p.2.2.1 s).2.1/\ ∃A,(Dr p.2.2.1 s).1=s::A:=
 ve (valid hv) (λ_ hl=>Ir hl) _ _ _ _ (dG hs hr)
theorem Kb {p:PP} {t:List Int} :Dl p t=true↔Ay p=true/\Fh p.1 t=true:=by
 unfold Dl;rw [Bool.and_eq_true]
theorem Fy {p:PP} {t:List Int} (h:Dl p t=true):t.length<=20/\ ∀y∈t,0<=y/\y<p.1:=by
 obtain ⟨h1,h2⟩:=Kb.1 h
 have hn:=(valid h1).n
 obtain ⟨h3,h4⟩:=Fp.1 h2
 have hy: ∀y∈t,0<=y/\y<p.1:= λy hy=>by
  obtain ⟨j,hj,rfl⟩:=List.mem_iff_getElem.1 hy
  have:=h4 j hj hj
  omega
 refine ⟨?_,hy⟩
 have h5:=zu h4 (t.length-1) (by omega)
 have h6:=hy _ (List.getElem_mem (show t.length-1<t.length by omega))
 omega
theorem nL {p:PP} {t:List Int} (h:Dl p t=true):Ot p t.length (Dr p.2.2.1 t).1 (Dr p.2.2.1 t).2.1:=(sd (Kb.1 h).1 (Fy h).1 (Fy h).2).1
def xX (m:ByteArray->Option Bool) (L:List (List Int)):Prop:= ∀q,Px q->(m (Mj q)).getD false=decide (q∈L)
theorem xX.add {m:ByteArray->Option Bool} {L:List (List Int)} {y:List Int} (h:xX m L) (hy:Px y):xX (aU m (Mj y) true) (L++ [y]):=by
 intro q hq
 unfold aU
 by_cases e:q=y
 ·subst e
  rw [if_pos rfl];simp
 ·rw [if_neg λhk=>e (key_inj hq hy hk),h q hq]
  simp [e]
end Go.Proofs.Ytjbdmibbbpdnnaa
