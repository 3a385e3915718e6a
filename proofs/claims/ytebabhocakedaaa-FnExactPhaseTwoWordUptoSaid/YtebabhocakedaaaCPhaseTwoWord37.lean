/-
  Part 38 of the proof that the statement FnExactPhaseTwoWord holds.
-/
import Derived.Test.YtebabhocakedaaaCPhaseTwoWord36
import Derived.KernelRfl
namespace Go.Proofs.Ytebabhocakedaaa
open Go.RowKit
def Gl (x a b:Int):Bool:=decide (a≤x∧x≤b)
def Abv (n x:Int):Bool:=decide (0≤x∧x≤IntKind.i64.wrap (n-1))
def Hj (a b:List Int):Bool:=decide (a=b)
def Acp (xs:List Int) (x:Int):Bool:=decide (x∈xs)
def short (xs:List Int):Prop:=xs.length≤4294967296
noncomputable abbrev Bp:Spec:=mkS (.pair tI (.pair tI (.pair tI .unit))) .bool false true (fun _=>True) (fun x=>Gl x.1 x.2.1 x.2.2.1)
noncomputable abbrev Ro:Spec:=mkS (.pair tI (.pair tI .unit)) .bool false true (fun _=>True) (fun x=>Abv x.1 x.2.1)
noncomputable abbrev Ct:Spec:=mkS (.pair tL (.pair tL .unit)) .bool false true (fun x=>short x.1) (fun x=>Hj x.1 x.2.1)
noncomputable abbrev Jo:Spec:=mkS (.pair tL (.pair tI .unit)) .bool false true (fun x=>short x.1) (fun x=>Acp x.1 x.2.1)
theorem Bcc (x a b:Int) (P:Bool→Prop):(Br (decide (x≥a)) (P (decide (x≤b))) (P false))=fnW tab (look []) Bp Try.f122 (x,a,b,()) P:=by kernel_rfl
theorem Bf3 (x a b:Int) (P:Bool→Prop):(Br (decide (x≥a)) (P (decide (x≤b))) (P false))=fnW tab (look []) Bp Try.f108 (x,a,b,()) P:=by kernel_rfl
theorem Bce (n x:Int) (P:Bool→Prop):(∃(y3:Bool),Bp.fn (x,0,IntKind.i64.wrap (n-1),())=some y3∧P y3)=fnW tab (look [(108,Bp)]) Ro Try.f102 (n,x,()) P:=by kernel_rfl
theorem Aw6 (a b:List Int) (P:Bool→Prop):(Br ((↑a.length:Int) !=(↑b.length:Int)) (P false)
 (Bx
  (fun (v3:Int×PUnit) (k4:Int×PUnit→Prop)=>
   Br (decide (v3.1<(↑a.length:Int))) (∃(y5:Int),idx a v3.1=some y5∧ ∃(y6:Int),idx b v3.1=some y6∧Br (y5 !=y6) (P false) (k4 (IntKind.i64.wrap (v3.1+1),())))
    (P true))
  (0,PUnit.unit)))=fnW tab (look []) Ct Try.f59 (a,b,()) P:=by kernel_rfl
theorem Anv (xs:List Int) (x:Int) (P:Bool→Prop):(Bx
 (fun (v3:Int×PUnit) (k4:Int×PUnit→Prop)=>
  Br (decide (v3.1<(↑xs.length:Int))) (∃(y5:Int),idx xs v3.1=some y5∧Br (y5==x) (P true) (k4 (IntKind.i64.wrap (v3.1+1),()))) (P false))
 (0,PUnit.unit))=fnW tab (look []) Jo Try.f152 (xs,x,()) P:=by kernel_rfl
theorem Bb9 (x a b:Int) (_:True):fnW tab (look []) Bp Try.f122 (x,a,b,()) (fun (z:Bool)=>z=Gl x a b):=by
 refine Eq.mp (Bcc x a b _) ?_
 refine Br.dec (fun h=>?_) fun h=>?_
 ·have h:a≤x:=h
  simp [Gl,h]
 ·exact (decide_eq_false fun hh=>h hh.1).symm
theorem Uu:Sound Try.prog 122 Bp:=
 Sound.mkS Cc As mixed Try.func122 (by kernel_rfl) (by kernel_rfl) fun x h=>Bb9 x.1 x.2.1 x.2.2.1 h
theorem Be2 (x a b:Int) (_:True):fnW tab (look []) Bp Try.f108 (x,a,b,()) (fun (z:Bool)=>z=Gl x a b):=by
 refine Eq.mp (Bf3 x a b _) ?_
 refine Br.dec (fun h=>?_) fun h=>?_
 ·have h:a≤x:=h
  simp [Gl,h]
 ·exact (decide_eq_false fun hh=>h hh.1).symm
theorem No:Sound Try.prog 108 Bp:=
 Sound.mkS Cc As mixed Try.func108 (by kernel_rfl) (by kernel_rfl) fun x h=>Be2 x.1 x.2.1 x.2.2.1 h
theorem Bbb (n x:Int) (_:True):fnW tab (look [(108,Bp)]) Ro Try.f102 (n,x,()) (fun (z:Bool)=>z=Abv n x):=
 Eq.mp (Bce n x _) ⟨_,if_pos trivial,rfl⟩
theorem Ano:Sound Try.prog 102 Ro:=
 Sound.mkS Cc (Ag No As) mixed Try.func102 (by kernel_rfl) (by kernel_rfl) fun x h=>Bbb x.1 x.2.1 h
theorem An3 (xs:List Int) (x:Int) (h:short xs):fnW tab (look []) Jo Try.f152 (xs,x,()) (fun (z:Bool)=>z=Acp xs x):=by
 refine Eq.mp (Anv xs x _) ?_
 unfold short at h
 refine Ao xs.length (fun v=>v.1) (fun j _=>x∉xs.take j) rfl (by simp) ?_
 rintro j ⟨i,⟨⟩⟩ K hj hi hR hK
 dsimp only at hi⊢
 subst hi
 refine Br.dec (fun hl=>?_) fun hl=>?_
 ·have hl:j<xs.length:=by omega
  refine ⟨_,Aw hl,⟨fun he=>?_,fun he=>?_⟩⟩
  ·have hm:=List.getElem_mem hl
   simp only [beq_iff_eq] at he
   rw [he] at hm
   exact (decide_eq_true hm).symm
  ·rw [An (by omega)]
   refine hK hl _ rfl ?_
   simp only [beq_eq_false_iff_ne,ne_eq] at he
   rw [List.take_succ_eq_append_getElem hl]
   simp only [List.mem_append,List.mem_singleton,not_or]
   exact ⟨hR,fun hx=>he hx.symm⟩
 ·have:j=xs.length:=by omega
  subst this
  rw [List.take_length] at hR
  exact (decide_eq_false hR).symm
theorem Afx:Sound Try.prog 152 Jo:=
 Sound.mkS Cc As mixed Try.func152 (by kernel_rfl) (by kernel_rfl) fun x h=>An3 x.1 x.2.1 h
theorem Azk (a b:List Int) (hlen:a.length=b.length) (h:short a):
  Bx (fun (v3:Int×PUnit) (k4:Int×PUnit→Prop)=>
   Br (decide (v3.1<(↑a.length:Int))) (∃(y5:Int),idx a v3.1=some y5∧ ∃(y6:Int),idx b v3.1=some y6∧Br (y5 !=y6) (false=Hj a b) (k4 (IntKind.i64.wrap (v3.1+1),())))
    (true=Hj a b))
  (0,PUnit.unit):=by
 unfold short at h
 refine Ao a.length (fun v=>v.1) (fun j _=>a.take j=b.take j) rfl (by simp) ?_
 rintro j ⟨i,⟨⟩⟩ K hj hi hR hK
 dsimp only at hi⊢
 subst hi
 refine Br.dec (fun hl=>?_) fun hl=>?_
 ·have hl1:j<a.length:=by omega
  have hl2:j<b.length:=by omega
  refine ⟨_,Aw hl1,_,Aw hl2,⟨fun he=>?_,fun he=>?_⟩⟩
  ·simp only [bne_iff_ne,ne_eq] at he
   refine (decide_eq_false fun hab=>he ?_).symm
   subst hab
   rfl
  ·rw [An (by omega)]
   refine hK hl1 _ rfl ?_
   simp only [bne_eq_false_iff_eq] at he
   rw [List.take_succ_eq_append_getElem hl1,List.take_succ_eq_append_getElem hl2,hR,he]
 ·have hj':j=a.length:=by omega
  subst hj'
  rw [List.take_length,hlen,List.take_length] at hR
  exact (decide_eq_true hR).symm
theorem Av1 (a b:List Int) (h:short a):fnW tab (look []) Ct Try.f59 (a,b,()) (fun (z:Bool)=>z=Hj a b):=by
 refine Eq.mp (Aw6 a b _) ⟨fun hl=>?_,fun hl=>?_⟩
 ·simp only [bne_iff_ne,ne_eq,Int.natCast_inj] at hl
  exact (decide_eq_false fun hab=>hl (by rw [hab])).symm
 ·simp only [bne_eq_false_iff_eq,Int.natCast_inj] at hl
  exact Azk a b hl h
theorem Aj3:Sound Try.prog 59 Ct:=
 Sound.mkS Cc As mixed Try.func59 (by kernel_rfl) (by kernel_rfl) fun x h=>Av1 x.1 x.2.1 h
end Go.Proofs.Ytebabhocakedaaa

namespace Go.Proofs.Ytebabhocakedaaa
open Go.RowKit
def Fk (xs:List (List Int)):Prop:=xs.length≤4294967296∧ ∀r∈xs,short r
def roomy (room:Int):Prop:=0≤room∧room≤4294967296
def Agv (n:Nat) (room:Int):Int:=if room-n<0 then-1 else room-n
def Afi (xs:List Int) (room:Int):Int:=Agv xs.length room
def Avw:List (List Int)→Int→Int
 | [],room=>room
 |r::rs,room=>if Afi r room<0 then-1 else Avw rs (Afi r room)
def Uo (xs:List (List Int)) (room:Int):Int:=if Agv xs.length room<0 then-1 else Avw xs (Agv xs.length room)
def Agu (a b:List (List Int)):Bool:=decide (a=b)
noncomputable abbrev Apg:Spec:=mkS (.pair tL (.pair tI .unit)) tI false true (fun x=>short x.1∧roomy x.2.1) (fun x=>Afi x.1 x.2.1)
noncomputable abbrev Ahc:Spec:=mkS (.pair tLL (.pair tI .unit)) tI false true (fun x=>Fk x.1∧roomy x.2.1) (fun x=>Uo x.1 x.2.1)
noncomputable abbrev Ail:Spec:=mkS (.pair tL .unit) tL false true (fun x=>short x.1) (fun x=>x.1)
noncomputable abbrev Ahd:Spec:=mkS (.pair tLL .unit) tLL false true (fun x=>Fk x.1) (fun x=>x.1)
noncomputable abbrev Aha:Spec:=mkS (.pair tLL (.pair tLL .unit)) .bool false true (fun x=>Fk x.1) (fun x=>Agu x.1 x.2.1)
theorem Biv (xs:List Int) (room:Int) (P:Int→Prop):(Br (decide (IntKind.i64.wrap (room-(↑xs.length:Int))<0)) (P (-1)) (P (IntKind.i64.wrap (room-(↑xs.length:Int)))))=fnW tab (look []) Apg Try.f76 (xs,room,()) P:=by kernel_rfl
theorem Bhz (xs:List (List Int)) (room:Int) (P:Int→Prop):(Br (decide (IntKind.i64.wrap (room-(↑xs.length:Int))<0)) (P (-1))
 (Bx
  (fun (v3:Int×Int×PUnit) (k4:Int×Int×PUnit→Prop)=>
   Br (decide (v3.2.1<(↑xs.length:Int)))
    (∃(y5:List Int),idx xs v3.2.1=some y5∧ ∃(y6:Int),Apg.fn (y5,v3.1,())=some y6∧Br (decide (y6<0)) (P (-1)) (k4 (y6,IntKind.i64.wrap (v3.2.1+1),()))) (P v3.1))
  (IntKind.i64.wrap (room-(↑xs.length:Int)),0,PUnit.unit)))=fnW tab (look [(76,Apg)]) Ahc Try.f33 (xs,room,()) P:=by kernel_rfl
theorem Bix (xs:List Int) (P:List Int→Prop):((0≤(↑xs.length:Int)∧(↑xs.length:Int)<(↑Ap:Int)+1)∧
 (↑xs.length:Int)=(↑xs.length:Int)∧
  0=0∧
   (List.replicate (↑xs.length:Int).toNat (Int.ofNat 0)).length=(List.replicate (↑xs.length:Int).toNat (Int.ofNat 0)).length∧
    Bx
     (fun (v2:Int×List Int×PUnit) (k3:Int×List Int×PUnit→Prop)=>
      Br (decide (v2.1<(↑xs.length:Int)))
       (∃(y4:Int),
        idx xs v2.1=some y4∧
         (0≤v2.1∧v2.1<(↑v2.2.1.length:Int))∧
          0+v2.1.toNat<v2.2.1.length∧
           0=0∧v2.2.1.length=(v2.2.1.set (0+v2.1.toNat) y4).length∧k3 (IntKind.i64.wrap (v2.1+1),v2.2.1.set (0+v2.1.toNat) y4,()))
       (P (List.take v2.2.1.length (List.drop 0 v2.2.1))))
     (0,List.replicate (↑xs.length:Int).toNat (Int.ofNat 0),PUnit.unit))=fnW tab (look []) Ail Try.f18 (xs,()) P:=by kernel_rfl
theorem Bi0 (xs:List (List Int)) (P:List (List Int)→Prop):((0≤(↑xs.length:Int)∧(↑xs.length:Int)<(↑Ap:Int)+1)∧
 (↑xs.length:Int)=(↑xs.length:Int)∧
  0=0∧
   (List.replicate (↑xs.length:Int).toNat ([]:List Int)).length=(List.replicate (↑xs.length:Int).toNat ([]:List Int)).length∧
    Bx
     (fun (v2:Int×List (List Int)×PUnit) (k3:Int×List (List Int)×PUnit→Prop)=>
      Br (decide (v2.1<(↑xs.length:Int)))
       (∃(y4:List Int),
        idx xs v2.1=some y4∧
         ∃(y5:List Int),
          Ail.fn (y4,())=some y5∧
           (0≤v2.1∧v2.1<(↑v2.2.1.length:Int))∧
            0+v2.1.toNat<v2.2.1.length∧
             0=0∧v2.2.1.length=(v2.2.1.set (0+v2.1.toNat) y5).length∧k3 (IntKind.i64.wrap (v2.1+1),v2.2.1.set (0+v2.1.toNat) y5,()))
       (P (List.take v2.2.1.length (List.drop 0 v2.2.1))))
     (0,List.replicate (↑xs.length:Int).toNat ([]:List Int),PUnit.unit))=fnW tab (look [(18,Ail)]) Ahd Try.f35 (xs,()) P:=by kernel_rfl
theorem Biq (a b:List Int) (P:Bool→Prop):(Br ((↑a.length:Int) !=(↑b.length:Int)) (P false)
 (Bx
  (fun (v3:Int×PUnit) (k4:Int×PUnit→Prop)=>
   Br (decide (v3.1<(↑a.length:Int))) (∃(y5:Int),idx a v3.1=some y5∧ ∃(y6:Int),idx b v3.1=some y6∧Br (y5 !=y6) (P false) (k4 (IntKind.i64.wrap (v3.1+1),())))
    (P true))
  (0,PUnit.unit)))=fnW tab (look []) Ct Try.f21 (a,b,()) P:=by kernel_rfl
theorem Bht (a b:List (List Int)) (P:Bool→Prop):(Br ((↑a.length:Int) !=(↑b.length:Int)) (P false)
 (Bx
  (fun (v3:Int×PUnit) (k4:Int×PUnit→Prop)=>
   Br (decide (v3.1<(↑a.length:Int)))
    (∃(y5:List Int),
     idx a v3.1=some y5∧ ∃(y6:List Int),idx b v3.1=some y6∧ ∃(y7:Bool),Ct.fn (y5,y6,())=some y7∧Br (!y7) (P false) (k4 (IntKind.i64.wrap (v3.1+1),())))
    (P true))
  (0,PUnit.unit)))=fnW tab (look [(21,Ct)]) Aha Try.f37 (a,b,()) P:=by kernel_rfl
theorem Bav {n:Nat} {room:Int} (h:roomy room) (h2: ¬Agv n room<0):roomy (Agv n room):=by
 unfold Agv roomy at*
 split at h2<;>simp_all
 omega
theorem Bih (xs:List Int) (room:Int) (h:short xs∧roomy room):fnW tab (look []) Apg Try.f76 (xs,room,()) (fun (z:Int)=>z=Afi xs room):=by
 obtain ⟨h1,h2,h3⟩:=h
 unfold short at h1
 refine Eq.mp (Biv xs room _) ?_
 rw [Bj (by omega) (by omega)]
 refine Br.dec (fun h=>?_) fun h=>?_
 ·simp only [Afi,Agv,if_pos h]
 ·simp only [Afi,Agv,if_neg h]
theorem Bbv:Sound Try.prog 76 Apg:=
 Sound.mkS Cc As mixed Try.func76 (by kernel_rfl) (by kernel_rfl) fun x h=>Bih x.1 x.2.1 h
theorem Bhh (xs:List (List Int)) (room:Int) (h:Fk xs∧roomy room):fnW tab (look [(76,Apg)]) Ahc Try.f33 (xs,room,()) (fun (z:Int)=>z=Uo xs room):=by
 obtain ⟨⟨h1,h4⟩,h2,h3⟩:=h
 refine Eq.mp (Bhz xs room _) ?_
 rw [Bj (by omega) (by omega)]
 refine Br.dec (fun h=>?_) fun h=>?_
 ·simp only [Uo,Agv,if_pos h];rfl
 ·refine Ao xs.length (fun v=>v.2.1) (fun j v=>roomy v.1∧Avw (xs.drop j) v.1=Uo xs room) rfl ?_ ?_
  ·refine ⟨by unfold roomy;omega,?_⟩
   simp only [Uo,Agv,if_neg h,List.drop_zero]
  ·rintro j ⟨r,i,⟨⟩⟩ K hj hi ⟨hr,hR⟩ hK
   dsimp only at hi hr hR⊢
   subst hi
   refine Br.dec (fun hl=>?_) fun hl=>?_
   ·have hl:j<xs.length:=by omega
    have hd:xs.drop j=xs[j]::xs.drop (j+1):=List.drop_eq_getElem_cons hl
    refine ⟨_,Aw hl,_,if_pos ⟨h4 _ (List.getElem_mem hl),hr⟩,?_⟩
    rw [hd] at hR
    simp only [Avw] at hR
    refine Br.dec (fun hn=>?_) fun hn=>?_
    ·have hn:Afi xs[j] r<0:=hn
     rw [if_pos hn] at hR
     exact hR
    ·have hn: ¬Afi xs[j] r<0:=hn
     rw [if_neg hn] at hR
     rw [An (by omega)]
     exact hK hl _ rfl ⟨Bav hr hn,hR⟩
   ·have:j=xs.length:=by omega
    subst this
    rw [List.drop_length] at hR
    exact hR
theorem Ayu:Sound Try.prog 33 Ahc:=
 Sound.mkS Cc (Ag Bbv As) mixed Try.func33 (by kernel_rfl) (by kernel_rfl) fun x h=>Bhh x.1 x.2.1 h
theorem Js {α:Type} {ys xs:List α} {j:Nat} (h:j<xs.length) (hl:ys.length=xs.length) (ht:ys.take j=xs.take j):(ys.set j xs[j]).take (j+1)=xs.take (j+1):=by
 have h1:j<(ys.set j xs[j]).length:=by rw [List.length_set];omega
 rw [List.take_succ_eq_append_getElem h1,List.take_succ_eq_append_getElem h,List.getElem_set_self,List.take_set_of_le (Nat.le_refl j),ht]
theorem Bij (xs:List Int) (h:short xs):fnW tab (look []) Ail Try.f18 (xs,()) (fun (z:List Int)=>z=xs):=by
 unfold short at h
 refine Eq.mp (Bix xs _) ?_
 refine ⟨⟨by omega,by show (xs.length:Int)<(4294967296:Int)+1;omega⟩,rfl,rfl,rfl,?_⟩
 refine Ao xs.length (fun v=>v.1) (fun j v=>v.2.1.length=xs.length∧v.2.1.take j=xs.take j) rfl ⟨by simp,by simp⟩ ?_
 rintro j ⟨i,ys,⟨⟩⟩ K hj hi ⟨h1,h2⟩ hK
 dsimp only at hi h1 h2⊢
 subst hi
 refine Br.dec (fun hl=>?_) fun hl=>?_
 ·have hl:j<xs.length:=by omega
  refine ⟨_,Aw hl,⟨by omega,by omega⟩,by rw [Int.toNat_natCast];omega,rfl,by rw [List.length_set],?_⟩
  rw [An (by omega),Int.toNat_natCast,Nat.zero_add]
  exact hK hl _ rfl ⟨by rw [List.length_set];exact h1,Js hl h1 h2⟩
 ·have:j=xs.length:=by omega
  subst this
  rw [List.take_length,←h1,List.take_length] at h2
  rw [List.drop_zero,List.take_length]
  exact h2
theorem Apn:Sound Try.prog 18 Ail:=
 Sound.mkS Cc As mixed Try.func18 (by kernel_rfl) (by kernel_rfl) fun x h=>Bij x.1 h
theorem Bhi (xs:List (List Int)) (h:Fk xs):fnW tab (look [(18,Ail)]) Ahd Try.f35 (xs,()) (fun (z:List (List Int))=>z=xs):=by
 obtain ⟨h,h4⟩:=h
 refine Eq.mp (Bi0 xs _) ?_
 refine ⟨⟨by omega,by show (xs.length:Int)<(4294967296:Int)+1;omega⟩,rfl,rfl,rfl,?_⟩
 refine Ao xs.length (fun v=>v.1) (fun j v=>v.2.1.length=xs.length∧v.2.1.take j=xs.take j) rfl ⟨by simp,by simp⟩ ?_
 rintro j ⟨i,ys,⟨⟩⟩ K hj hi ⟨h1,h2⟩ hK
 dsimp only at hi h1 h2⊢
 subst hi
 refine Br.dec (fun hl=>?_) fun hl=>?_
 ·have hl:j<xs.length:=by omega
  refine ⟨_,Aw hl,_,if_pos (h4 _ (List.getElem_mem hl)),⟨by omega,by omega⟩,by rw [Int.toNat_natCast];omega,rfl,by rw [List.length_set],?_⟩
  rw [An (by omega),Int.toNat_natCast,Nat.zero_add]
  exact hK hl _ rfl ⟨by rw [List.length_set];exact h1,Js hl h1 h2⟩
 ·have:j=xs.length:=by omega
  subst this
  rw [List.take_length,←h1,List.take_length] at h2
  rw [List.drop_zero,List.take_length]
  exact h2
theorem Ayv:Sound Try.prog 35 Ahd:=
 Sound.mkS Cc (Ag Apn As) mixed Try.func35 (by kernel_rfl) (by kernel_rfl) fun x h=>Bhi x.1 h
theorem Bic (a b:List Int) (h:short a):fnW tab (look []) Ct Try.f21 (a,b,()) (fun (z:Bool)=>z=Hj a b):=by
 refine Eq.mp (Biq a b _) ⟨fun hl=>?_,fun hl=>?_⟩
 ·simp only [bne_iff_ne,ne_eq,Int.natCast_inj] at hl
  exact (decide_eq_false fun hab=>hl (by rw [hab])).symm
 ·simp only [bne_eq_false_iff_eq,Int.natCast_inj] at hl
  exact Azk a b hl h
theorem Apm:Sound Try.prog 21 Ct:=
 Sound.mkS Cc As mixed Try.func21 (by kernel_rfl) (by kernel_rfl) fun x h=>Bic x.1 x.2.1 h
theorem Bhb (a b:List (List Int)) (h:Fk a):fnW tab (look [(21,Ct)]) Aha Try.f37 (a,b,()) (fun (z:Bool)=>z=Agu a b):=by
 obtain ⟨h,h4⟩:=h
 refine Eq.mp (Bht a b _) ⟨fun hl=>?_,fun hl=>?_⟩
 ·simp only [bne_iff_ne,ne_eq,Int.natCast_inj] at hl
  exact (decide_eq_false fun hab=>hl (by rw [hab])).symm
 ·simp only [bne_eq_false_iff_eq,Int.natCast_inj] at hl
  refine Ao a.length (fun v=>v.1) (fun j _=>a.take j=b.take j) rfl (by simp) ?_
  rintro j ⟨i,⟨⟩⟩ K hj hi hR hK
  dsimp only at hi⊢
  subst hi
  refine Br.dec (fun hlt=>?_) fun hlt=>?_
  ·have hl1:j<a.length:=by omega
   have hl2:j<b.length:=by omega
   refine ⟨_,Aw hl1,_,Aw hl2,_,if_pos (h4 _ (List.getElem_mem hl1)),⟨fun he=>?_,fun he=>?_⟩⟩
   ·refine (decide_eq_false fun hab=>?_).symm
    subst hab
    simp [Hj] at he
   ·rw [An (by omega)]
    refine hK hl1 _ rfl ?_
    simp only [Hj,Bool.not_eq_false',decide_eq_true_eq] at he
    rw [List.take_succ_eq_append_getElem hl1,List.take_succ_eq_append_getElem hl2,hR]
    exact congrArg (fun x=>List.take j b++ [x]) he
  ·have hj':j=a.length:=by omega
   subst hj'
   rw [List.take_length,hl,List.take_length] at hR
   exact (decide_eq_true hR).symm
theorem Ayr:Sound Try.prog 37 Aha:=
 Sound.mkS Cc (Ag Apm As) mixed Try.func37 (by kernel_rfl) (by kernel_rfl) fun x h=>Bhb x.1 x.2.1 h
end Go.Proofs.Ytebabhocakedaaa

namespace Go.Proofs.Ytebabhocakedaaa
open Go.RowKit
def PL (n:Int) (xs:List Int) (k:Nat):Prop:= ∀j (h:j<xs.length),j<k→0≤xs[j]∧xs[j]≤n-1∧(0<j→xs[j-1]<xs[j])
def DL (n:Int) (xs:List Int) (k:Nat):Prop:= ∀j (h:j<xs.length),j<k→0≤xs[j]∧xs[j]≤n-1∧xs[j]∉xs.take j
noncomputable def dec (p:Prop):Bool:= @decide p (Classical.propDecidable p)
theorem Hd {p:Prop} (h:p):true=dec p:=(@decide_eq_true p (Classical.propDecidable p) h).symm
theorem Bh {p:Prop} (h: ¬p):false=dec p:=(@decide_eq_false p (Classical.propDecidable p) h).symm
theorem Dj {p:Prop} :dec p=true↔p:= @decide_eq_true_iff p (Classical.propDecidable p)
theorem Bfc {p:Prop} :dec p=false↔ ¬p:= @decide_eq_false_iff_not p (Classical.propDecidable p)
def nOK (n:Int):Prop:=0≤n∧n≤4294967296
noncomputable def Mm (n:Int) (xs:List Int):Bool:=dec (0<xs.length∧PL n xs xs.length)
noncomputable abbrev Ex:Spec:=mkS (.pair tI (.pair tL .unit)) .bool false true (fun x=>nOK x.1∧short x.2.1) (fun x=>Mm x.1 x.2.1)
noncomputable abbrev Rc:Spec:=mkS (.pair tLL .unit) tI false true (fun _=>True) (fun x=>(List.length x.1:Int))
theorem Anz (n:Int) (xs:List Int) (P:Bool→Prop):(∃(y3:Bool),
 Bp.fn ((↑xs.length:Int),(1:Int),n,())=some y3∧
  Br (!y3) (P false)
   (Bx
    (fun (v4:Int×PUnit) (k5:Int×PUnit→Prop)=>
     Br (decide (v4.1<(↑xs.length:Int)))
      (∃(y6:Int),
       idx xs v4.1=some y6∧
        ∃(y7:Bool),
         Bp.fn (y6,(0:Int),IntKind.i64.wrap (n-(1:Int)),())=some y7∧
          Br (!y7) (P false)
           (Br (decide (v4.1>(0:Int)))
            (∃(y8:Int),
             idx xs v4.1=some y8∧
              ∃(y9:Int),idx xs (IntKind.i64.wrap (v4.1-(1:Int)))=some y9∧Br (decide (y8≤y9)) (P false) (k5 (IntKind.i64.wrap (v4.1+(1:Int)),())))
            (k5 (IntKind.i64.wrap (v4.1+(1:Int)),()))))
      (P true))
    ((0:Int),PUnit.unit)))=fnW tab (look [(122,Bp)]) Ex Try.f100 (n,xs,()) P:=by kernel_rfl
theorem Aw8 (n:Int) (xs:List Int) (P:Bool→Prop):(Bx
 (fun (v3:Int×PUnit) (k4:Int×PUnit→Prop)=>
  Br (decide (v3.1<(↑xs.length:Int)))
   (∃(y5:Int),
    idx xs v3.1=some y5∧
     ∃(y6:Bool),
      Ro.fn (n,y5,())=some y6∧
       Br (!y6) (P false)
        (Br (decide (v3.1>(0:Int)))
         (∃(y7:Int),idx xs (IntKind.i64.wrap (v3.1-(1:Int)))=some y7∧Br (decide (y7≥y5)) (P false) (k4 (IntKind.i64.wrap (v3.1+(1:Int)),())))
         (k4 (IntKind.i64.wrap (v3.1+(1:Int)),()))))
   (P (decide ((↑xs.length:Int)>(0:Int)))))
 ((0:Int),PUnit.unit))=fnW tab (look [(102,Ro)]) Ex Try.f55 (n,xs,()) P:=by kernel_rfl
theorem Bgd (xs:List (List Int)) (P:Int→Prop):(P (↑xs.length:Int))=fnW tab (look []) Rc Try.f67 (xs,()) P:=by kernel_rfl
theorem Bfr (xs:List (List Int)) (_:True):fnW tab (look []) Rc Try.f67 (xs,()) (fun (z:Int)=>z=(xs.length:Int)):=Eq.mp (Bgd xs _) rfl
theorem Aim:Sound Try.prog 67 Rc:=
 Sound.mkS Cc As mixed Try.func67 (by kernel_rfl) (by kernel_rfl) fun x h=>Bfr x.1 h
theorem Aic {n x:Int} (hn:nOK n):Abv n x=true↔0≤x∧x≤n-1:=by
 unfold Abv nOK at*
 rw [Bj (by omega) (by omega),decide_eq_true_iff]
theorem Cl {x a b:Int} :Gl x a b=true↔a≤x∧x≤b:=decide_eq_true_iff
theorem Cu {b:Bool} (h:(!b)=true): ¬b=true:=by cases b<;>simp_all
theorem Fz {b:Bool} (h:(!b)=false):b=true:=by cases b<;>simp_all
theorem Ay5 {n:Int} {xs:List Int} (h:PL n xs xs.length): ∀j (hj:j<xs.length),(j:Int)≤xs[j]
 |0,hj=>(h 0 hj hj).1
 |j+1,hj=>by
  have h1:=Ay5 h j (by omega)
  have h2:=(h (j+1) hj hj).2.2 (by omega)
  simp only [Nat.add_sub_cancel] at h2
  omega
theorem Ajn {n:Int} {xs:List Int} {j:Nat} (hl:j<xs.length) (h:PL n xs j) (h1:0≤xs[j]) (h2:xs[j]≤n-1) (h3:0<j→xs[j-1]<xs[j]):PL n xs (j+1):=by
 intro i hi hij
 by_cases e:i=j
 ·subst e;exact ⟨h1,h2,h3⟩
 ·exact h i hi (by omega)
theorem Av3 (n:Int) (xs:List Int) (h:nOK n∧short xs):fnW tab (look [(102,Ro)]) Ex Try.f55 (n,xs,()) (fun (z:Bool)=>z=Mm n xs):=by
 obtain ⟨hn,h⟩:=h
 unfold short at h
 refine Eq.mp (Aw8 n xs _) ?_
 refine Ao xs.length (fun v=>v.1) (fun j _=>PL n xs j) rfl (fun j _ hj=>absurd hj (Nat.not_lt_zero _)) ?_
 rintro j ⟨i,⟨⟩⟩ K hj hi hR hK
 dsimp only at hi⊢
 subst hi
 refine Br.dec (fun hl=>?_) fun hl=>?_
 ·have hl:j<xs.length:=by omega
  refine ⟨_,Aw hl,_,if_pos trivial,⟨fun hp=>?_,fun hp=>?_⟩⟩
  ·have hp:=Cu hp
   rw [Aic hn] at hp
   exact Bh fun hh=>hp ⟨(hh.2 j hl hl).1,(hh.2 j hl hl).2.1⟩
  ·have hp:=Fz hp
   rw [Aic hn] at hp
   refine Br.dec (fun h0=>?_) fun h0=>?_
   ·have h0:0<j:=by omega
    rw [Bj (by omega) (by omega),show (j:Int)-1=((j-1:Nat):Int) by omega]
    refine ⟨_,Aw (by omega),Br.dec (fun hg=>?_) fun hg=>?_⟩
    ·exact Bh fun hh=>by have:=(hh.2 j hl hl).2.2 h0;omega
    ·rw [An (by omega)]
     exact hK hl _ rfl (Ajn hl hR hp.1 hp.2 fun _=>by omega)
   ·have h0:j=0:=by omega
    rw [An (by omega)]
    exact hK hl _ rfl (Ajn hl hR hp.1 hp.2 fun h=>by omega)
 ·have:j=xs.length:=by omega
  subst this
  by_cases h0:0<xs.length
  ·rw [decide_eq_true (show (xs.length:Int)>0 by omega)];exact Hd ⟨h0,hR⟩
  ·rw [decide_eq_false (show ¬(xs.length:Int)>0 by omega)];exact Bh fun hh=>h0 hh.1
theorem Aj5:Sound Try.prog 55 Ex:=
 Sound.mkS Cc (Ag Ano As) mixed Try.func55 (by kernel_rfl) (by kernel_rfl) fun x h=>Av3 x.1 x.2.1 h
theorem An6 (n:Int) (xs:List Int) (h:nOK n∧short xs):fnW tab (look [(122,Bp)]) Ex Try.f100 (n,xs,()) (fun (z:Bool)=>z=Mm n xs):=by
 obtain ⟨hn,h⟩:=h
 unfold short at h
 refine Eq.mp (Anz n xs _) ⟨_,if_pos trivial,⟨fun hp=>?_,fun hp=>?_⟩⟩
 ·have hp:=Cu hp
  rw [Cl] at hp
  dsimp only at hp
  refine Bh fun hh=>hp ⟨by omega,?_⟩
  have:=Ay5 hh.2 (xs.length-1) (by omega)
  have:=(hh.2 (xs.length-1) (by omega) (by omega)).2.1
  omega
 ·have hp:=Fz hp
  rw [Cl] at hp
  dsimp only at hp
  refine Ao xs.length (fun v=>v.1) (fun j _=>PL n xs j) rfl (fun j _ hj=>absurd hj (Nat.not_lt_zero _)) ?_
  rintro j ⟨i,⟨⟩⟩ K hj hi hR hK
  dsimp only at hi⊢
  subst hi
  refine Br.dec (fun hl=>?_) fun hl=>?_
  ·have hl:j<xs.length:=by omega
   refine ⟨_,Aw hl,_,if_pos trivial,⟨fun hq=>?_,fun hq=>?_⟩⟩
   ·have hq:=Cu hq
    unfold nOK at hn
    rw [Cl,Bj (by omega) (by omega)] at hq
    exact Bh fun hh=>hq ⟨(hh.2 j hl hl).1,(hh.2 j hl hl).2.1⟩
   ·have hq:=Fz hq
    unfold nOK at hn
    rw [Cl,Bj (by omega) (by omega)] at hq
    refine Br.dec (fun h0=>?_) fun h0=>?_
    ·have h0:0<j:=by omega
     rw [Bj (by omega) (by omega),show (j:Int)-1=((j-1:Nat):Int) by omega]
     refine ⟨_,Aw hl,_,Aw (by omega),Br.dec (fun hg=>?_) fun hg=>?_⟩
     ·exact Bh fun hh=>by have:=(hh.2 j hl hl).2.2 h0;omega
     ·rw [An (by omega)]
      exact hK hl _ rfl (Ajn hl hR hq.1 hq.2 fun _=>by omega)
    ·rw [An (by omega)]
     exact hK hl _ rfl (Ajn hl hR hq.1 hq.2 fun h=>by omega)
  ·have:j=xs.length:=by omega
   subst this
   exact Hd ⟨by omega,hR⟩
theorem Afy:Sound Try.prog 100 Ex:=
 Sound.mkS Cc (Ag Uu As) mixed Try.func100 (by kernel_rfl) (by kernel_rfl) fun x h=>An6 x.1 x.2.1 h
theorem Bfe {n:Int} {xs:List Int} {j:Nat} (hl:j<xs.length) (h:DL n xs j) (h1:0≤xs[j]) (h2:xs[j]≤n-1) (h3:xs[j]∉xs.take j):DL n xs (j+1):=by
 intro i hi hij
 by_cases e:i=j
 ·subst e;exact ⟨h1,h2,h3⟩
 ·exact h i hi (by omega)
theorem Ayl {xs:List Int} (h:short xs) (j:Nat):short (xs.take j):=by
 unfold short at*
 rw [List.length_take]
 omega
end Go.Proofs.Ytebabhocakedaaa

namespace Go.Proofs.Ytebabhocakedaaa
open Go.RowKit
theorem Avd:roomy 1048576:=⟨by decide,by decide⟩
end Go.Proofs.Ytebabhocakedaaa

namespace Go.Proofs.Ytebabhocakedaaa
open Go.RowKit
abbrev PP:Type:=Int×ByteArray×List (List Int)×Unit
noncomputable def Fa (p:List Int):Bool:=dec (1≤p.length∧p.length≤20∧DL p.length p p.length)
noncomputable def Dx (n:Int) (p:List Int):Bool:=dec ((p.length:Int)=n∧Fa p=true)
noncomputable def Pu (n:Int) (g:List (List Int)):Bool:=dec ((1≤n∧n≤20)∧g.length≤8∧ ∀p∈g,Dx n p=true)
def Dq {α:Type} (P:α→Bool):List α→Int→Int
 | [],_=> -1
 |y::r,i=>if P y=true then i else Dq P r (i+1)
abbrev tG1:Ty:= .clo 174 (.pair (.ptr tI) .unit)
def Apt (s:ByteArray) (i:Nat):Prop:= ∃c:UInt8,s[i]?=some c∧65≤c.toNat∧c.toNat≤90∧ ∀k,k<i→s[k]?≠some c
noncomputable def Afh (s:ByteArray) (i:Int):Bool:=dec (Apt s i.toNat)
noncomputable def Vr (s:ByteArray):Bool:=dec ((1≤s.size∧s.size≤8)∧ ∀j,j<s.size→Apt s j)
noncomputable def Bg (p:PP):Bool:=dec (Pu p.1 p.2.2.1=true∧Vr p.2.1=true∧p.2.1.size=p.2.2.1.length)
noncomputable def Bk (p:PP) (xs:List Int):Bool:=dec (Bg p=true∧Mm p.2.2.1.length xs=true)
def Cg (p:PP):Prop:=p.2.1.size≤4294967296∧Fk p.2.2.1
noncomputable abbrev Lc:Spec:=mkS (.pair tL .unit) tI false true (fun _=>True) (fun x=>(List.length x.1:Int))
noncomputable abbrev Eb:Spec:=mkS (.pair tL .unit) .bool false true (fun x=>short x.1) (fun x=>Fa x.1)
noncomputable abbrev Ji:Spec:=mkS (.pair tI (.pair tLL .unit)) .bool false true (fun x=>Fk x.2.1) (fun x=>Pu x.1 x.2.1)
noncomputable abbrev Ac0:Spec:=mkS (.pair tL (.pair (.ptr tI) .unit)) .bool false true (fun x=>short x.1) (fun x=>!Dx x.2.1 x.1)
noncomputable abbrev Apf:Spec:=mkS (.pair tLL (.pair tG1 .unit)) tI false true (fun x=>Fk x.1) (fun x=>Dq (fun p=>!Dx x.2.1.1 p) x.1 0)
noncomputable abbrev Apb:Spec:=mkS (.pair tLL (.pair tG1 .unit)) .bool false true (fun x=>Fk x.1) (fun x=>List.any x.1 (fun p=>!Dx x.2.1.1 p))
noncomputable abbrev Vy:Spec:=mkS (.pair .str (.pair tI .unit)) .bool false true (fun x=>0≤x.2.1∧x.2.1<x.1.size∧x.1.size≤4294967296) (fun x=>Afh x.1 x.2.1)
noncomputable abbrev Rn:Spec:=mkS (.pair .str .unit) .bool false true (fun x=>x.1.size≤4294967296) (fun x=>Vr x.1)
noncomputable abbrev Ec:Spec:=mkS (.pair Cq .unit) .bool false true (fun x=>Cg x.1) (fun x=>Bg x.1)
noncomputable abbrev Ef:Spec:=mkS (.pair Cq (.pair tL .unit)) .bool false true (fun x=>Cg x.1∧short x.2.1) (fun x=>Bk x.1 x.2.1)
def Aag (p:PP) (room:Int):Int:=if room-p.2.1.size<0 then-1 else if Uo p.2.2.1 (room-p.2.1.size)<0 then-1 else Uo p.2.2.1 (room-p.2.1.size)
def Aia (a b:PP):Bool:=decide (a.1=b.1)&&(decide (a.2.1=b.2.1)&&decide (a.2.2.1=b.2.2.1))
noncomputable abbrev Aph:Spec:=mkS (.pair Cq (.pair tI .unit)) tI false true (fun x=>Cg x.1∧roomy x.2.1) (fun x=>Aag x.1 x.2.1)
noncomputable abbrev Api:Spec:=mkS (.pair Cq .unit) Cq false true (fun x=>Cg x.1) (fun x=>x.1)
noncomputable abbrev Apc:Spec:=mkS (.pair Cq (.pair Cq .unit)) .bool false true (fun x=>Cg x.1) (fun x=>Aia x.1 x.2.1)
theorem Bhv (xs:List Int) (P:Int→Prop):(P (↑xs.length:Int))=fnW tab (look []) Lc Try.f127 (xs,()) P:=by kernel_rfl
theorem Aso (p:List Int) (P:Bool→Prop):(∃(y2:Bool),
 Bp.fn ((↑p.length:Int),(1:Int),(20:Int),())=some y2∧
  Br (!y2) (P false)
   (Bx
    (fun (v3:Int×PUnit) (k4:Int×PUnit→Prop)=>
     Br (decide (v3.1<(↑p.length:Int)))
      (∃(y5:Int),
       idx p v3.1=some y5∧
        ∃(y6:Bool),
         Bp.fn (y5,(0:Int),IntKind.i64.wrap ((↑p.length:Int)-(1:Int)),())=some y6∧
          Br (!y6) (P false)
           (((0:Int)≤(0:Int)∧(0:Int)≤v3.1∧v3.1≤(↑p.length:Int))∧
            ∃(y7:Int),
             idx p v3.1=some y7∧
              ∃(y8:Bool),
               Jo.fn (List.drop (Int.toNat (0:Int)) (List.take v3.1.toNat p),y7,())=some y8∧Br y8 (P false) (k4 (IntKind.i64.wrap (v3.1+(1:Int)),()))))
      (P true))
    ((0:Int),PUnit.unit)))=fnW tab (look [(122,Bp),(152,Jo)]) Eb Try.f169 (p,()) P:=by kernel_rfl
theorem Asj (p:List Int) (P:Bool→Prop):(∃(y2:Int),
 Lc.fn (p,())=some y2∧
  ∃(y3:Bool),
   Bp.fn (y2,(1:Int),(20:Int),())=some y3∧
    Br (!y3) (P false)
     (Bx
      (fun (v4:Int×Int×PUnit) (k5:Int×Int×PUnit→Prop)=>
       Br (decide (v4.2.1<(↑p.length:Int)))
        (∃(y6:Int),
         idx p v4.2.1=some y6∧
          ∃(y7:Int),
           Lc.fn (p,())=some y7∧
            ∃(y8:Bool),
             Bp.fn (y6,(0:Int),IntKind.i64.wrap (y7-(1:Int)),())=some y8∧
              Br (!y8) (P false)
               (¬y6<(0:Int)∧
                k5
                 (IntKind.i64.wrap
                   (↑(BitVec.ofInt IntKind.i64.bits v4.1|||BitVec.ofInt IntKind.i64.bits (IntKind.i64.wrap ((1:Int)*(2:Int)^min y6.toNat IntKind.i64.bits))).toNat:
                    Int),
                  IntKind.i64.wrap (v4.2.1+(1:Int)),())))
        (¬(↑p.length:Int)<(0:Int)∧P (v4.1==IntKind.i64.wrap (IntKind.i64.wrap ((1:Int)*(2:Int)^min (↑p.length:Int).toNat IntKind.i64.bits)-(1:Int)))))
      ((0:Int),(0:Int),PUnit.unit)))=fnW tab (look [(108,Bp),(127,Lc)]) Eb Try.f170 (p,()) P:=by kernel_rfl
theorem Asn (n:Int) (g:List (List Int)) (P:Bool→Prop):(∃(y3:Bool),
 Bp.fn (n,(1:Int),(20:Int),())=some y3∧
  Br (!y3) (P false)
   (Br (decide ((↑g.length:Int)>(8:Int))) (P false)
    (Bx
     (fun (v4:Int×PUnit) (k5:Int×PUnit→Prop)=>
      Br (decide (v4.1<(↑g.length:Int)))
       (∃(y6:List Int),
        idx g v4.1=some y6∧
         Br ((↑y6.length:Int) !=n) (P false)
          (∃(y7:List Int),idx g v4.1=some y7∧ ∃(y8:Bool),Eb.fn (y7,())=some y8∧Br (!y8) (P false) (k5 (IntKind.i64.wrap (v4.1+(1:Int)),()))))
       (P true))
     ((0:Int),PUnit.unit))))=fnW tab (look [(122,Bp),(169,Eb)]) Ji Try.f148 (n,g,()) P:=by kernel_rfl
theorem Bgb (p:List Int) (n:Int) (P:Bool→Prop):(∃(y3:Int),Lc.fn (p,())=some y3∧Br (y3 !=n) (P true) (∃(y4:Bool),Eb.fn (p,())=some y4∧P !y4))=fnW tab (look [(127,Lc),(170,Eb)]) Ac0 Try.f174 (p,n,()) P:=by kernel_rfl
theorem Biu (g:List (List Int)) (n:Int×Unit) (P:Int→Prop):(Bx
 (fun (v3:Int×PUnit) (k4:Int×PUnit→Prop)=>
  Br (decide (v3.1<(↑g.length:Int)))
   (∃(y5:List Int),idx g v3.1=some y5∧ ∃(y6:Bool),Ac0.fn (y5,n.1,())=some y6∧Br y6 (P v3.1) (k4 (IntKind.i64.wrap (v3.1+(1:Int)),()))) (P (-1:Int)))
 ((0:Int),PUnit.unit))=fnW tab (look [(174,Ac0)]) Apf Try.f181 (g,n,()) P:=by kernel_rfl
theorem Bip (g:List (List Int)) (n:Int×Unit) (P:Bool→Prop):(∃(y3:Int),Apf.fn (g,n,())=some y3∧P (decide (y3≥(0:Int))))=fnW tab (look [(181,Apf)]) Apb Try.f173 (g,n,()) P:=by kernel_rfl
theorem Asi (n:Int) (g:List (List Int)) (P:Bool→Prop):(∃(y3:Bool),
 Bp.fn (n,(1:Int),(20:Int),())=some y3∧Br y3 (Br (decide ((↑g.length:Int)≤(8:Int))) (∃(y4:Bool),Apb.fn (g,(n,()),())=some y4∧P !y4) (P false)) (P false))=fnW tab (look [(108,Bp),(173,Apb)]) Ji Try.f157 (n,g,()) P:=by kernel_rfl
theorem Bez (s:ByteArray) (i:Int) (P:Bool→Prop):((0:Int)≤i∧
 ∃(y3:UInt8),
  s[i.toNat]?=some y3∧
   Br (decide ((↑y3.toNat:Int)<(65:Int))) (P false)
    ((0:Int)≤i∧
     ∃(y4:UInt8),
      s[i.toNat]?=some y4∧
       Br (decide ((↑y4.toNat:Int)>(90:Int))) (P false)
        (Bx
         (fun (v5:Int×PUnit) (k6:Int×PUnit→Prop)=>
          Br (decide (v5.1<i))
           ((0:Int)≤v5.1∧
            ∃(y7:UInt8),
             s[v5.1.toNat]?=some y7∧
              (0:Int)≤i∧ ∃(y8:UInt8),s[i.toNat]?=some y8∧Br ((↑y7.toNat:Int)==(↑y8.toNat:Int)) (P false) (k6 (IntKind.i64.wrap (v5.1+(1:Int)),())))
           (P true))
         ((0:Int),PUnit.unit))))=fnW tab (look []) Vy Try.f149 (s,i,()) P:=by kernel_rfl
theorem Bcd (s:ByteArray) (P:Bool→Prop):(Bx
 (fun (v2:Int×PUnit) (k3:Int×PUnit→Prop)=>
  Br (decide (v2.1<(↑s.size:Int)))
   ((0:Int)≤v2.1∧
    ∃(y4:UInt8),
     s[v2.1.toNat]?=some y4∧
      ∃(y5:Bool),
       Bp.fn (IntKind.i64.wrap (↑y4.toNat:Int),(65:Int),(90:Int),())=some y5∧
        Br (!y5) (P false)
         (Bx
          (fun (v6:Int×PUnit) (k7:Int×PUnit→Prop)=>
           Br (decide (v6.1<v2.1))
            ((0:Int)≤v6.1∧
             ∃(y8:UInt8),
              s[v6.1.toNat]?=some y8∧
               (0:Int)≤v2.1∧ ∃(y9:UInt8),s[v2.1.toNat]?=some y9∧Br ((↑y8.toNat:Int)==(↑y9.toNat:Int)) (P false) (k7 (IntKind.i64.wrap (v6.1+(1:Int)),())))
            (k3 (IntKind.i64.wrap (v2.1+(1:Int)),())))
          ((0:Int),PUnit.unit)))
   (∃(y4:Bool),Bp.fn ((↑s.size:Int),(1:Int),(8:Int),())=some y4∧P y4))
 ((0:Int),PUnit.unit))=fnW tab (look [(108,Bp)]) Rn Try.f158 (s,()) P:=by kernel_rfl
theorem Asp (p:Int×ByteArray×List (List Int)×Unit) (P:Bool→Prop):(Br ((↑p.2.2.1.length:Int)==(0:Int)) (P false)
 (Br ((↑p.2.1.size:Int) !=(↑p.2.2.1.length:Int)) (P false)
  (∃(y2:Bool),
   Ji.fn (p.1,p.2.2.1,())=some y2∧
    Br (!y2) (P false)
     (Bx
      (fun (v3:Int×Int×ByteArray×List (List Int)×PUnit) (k4:Int×Int×ByteArray×List (List Int)×PUnit→Prop)=>
       Br (decide (v3.1<(↑v3.2.2.1.size:Int)))
        (∃(y5:Bool),Vy.fn (v3.2.2.1,v3.1,())=some y5∧Br (!y5) (P false) (k4 (IntKind.i64.wrap (v3.1+(1:Int)),v3.2.1,v3.2.2.1,v3.2.2.2.1,())))
        (P true))
      ((0:Int),p.1,p.2.1,p.2.2.1,PUnit.unit)))))=fnW tab (look [(148,Ji),(149,Vy)]) Ec Try.f99 (p,()) P:=by kernel_rfl
theorem Asl (p:Int×ByteArray×List (List Int)×Unit) (P:Bool→Prop):(∃(y2:Bool),
 Ji.fn (p.1,p.2.2.1,())=some y2∧Br y2 (∃(y3:Bool),Rn.fn (p.2.1,())=some y3∧Br y3 (P ((↑p.2.1.size:Int)==(↑p.2.2.1.length:Int))) (P false)) (P false))=fnW tab (look [(157,Ji),(158,Rn)]) Ec Try.f124 (p,()) P:=by kernel_rfl
theorem Ahq (p:Int×ByteArray×List (List Int)×Unit) (xs:List Int) (P:Bool→Prop):(∃(y3:Bool),Ec.fn ((p.1,p.2.1,p.2.2.1,()),())=some y3∧Br y3 (∃(y4:Bool),Ex.fn ((↑p.2.2.1.length:Int),xs,())=some y4∧P y4) (P false))=fnW tab (look [(99,Ec),(100,Ex)]) Ef Try.f116 (p,xs,()) P:=by kernel_rfl
theorem Ahp (p:Int×ByteArray×List (List Int)×Unit) (xs:List Int) (P:Bool→Prop):(∃(y3:Bool),
 Ec.fn ((p.1,p.2.1,p.2.2.1,()),())=some y3∧Br y3 (∃(y4:Int),Rc.fn (p.2.2.1,())=some y4∧ ∃(y5:Bool),Ex.fn (y4,xs,())=some y5∧P y5) (P false))=fnW tab (look [(124,Ec),(55,Ex),(67,Rc)]) Ef Try.f117 (p,xs,()) P:=by kernel_rfl
theorem Biw (p:Int×ByteArray×List (List Int)×Unit) (room:Int) (P:Int→Prop):(Br (decide (IntKind.i64.wrap (room-(↑p.2.1.size:Int))<(0:Int))) (P (-1:Int))
 (∃(y3:Int),Ahc.fn (p.2.2.1,IntKind.i64.wrap (room-(↑p.2.1.size:Int)),())=some y3∧Br (decide (y3<(0:Int))) (P (-1:Int)) (P y3)))=fnW tab (look [(33,Ahc)]) Aph Try.f15 (p,room,()) P:=by kernel_rfl
theorem Biy (p:Int×ByteArray×List (List Int)×Unit) (P:(Int×ByteArray×List (List Int)×Unit)→Prop):(∃(y2:List (List Int)),Ahd.fn (p.2.2.1,())=some y2∧P (p.1,p.2.1,y2,()))=fnW tab (look [(35,Ahd)]) Api Try.f17 (p,()) P:=by kernel_rfl
theorem Bir (a b:Int×ByteArray×List (List Int)×Unit) (P:Bool→Prop):(Br (a.1 !=b.1) (P false) (Br (!a.2.1.toList==b.2.1.toList) (P false) (∃(y3:Bool),Aha.fn (a.2.2.1,b.2.2.1,())=some y3∧Br (!y3) (P false) (P true))))=fnW tab (look [(37,Aha)]) Apc Try.f20 (a,b,()) P:=by kernel_rfl
theorem Bhd (xs:List Int) (_:True):fnW tab (look []) Lc Try.f127 (xs,()) (fun (z:Int)=>z=(xs.length:Int)):=Eq.mp (Bhv xs _) rfl
theorem Xz:Sound Try.prog 127 Lc:=
 Sound.mkS Cc As mixed Try.func127 (by kernel_rfl) (by kernel_rfl) fun x h=>Bhd x.1 h
theorem As9 {α:Type} [DecidableEq α]: ∀(l m:List α),l.Nodup→(∀x∈l,x∈m)→l.length≤m.length
 | [],m,_,_=>Nat.zero_le _
 |a::l,m,hn,hs=>by
  have ha:a∈m:=hs a (List.mem_cons_self ..)
  have hn:=List.nodup_cons.1 hn
  have:=As9 l (m.erase a) hn.2 fun x hx=>(List.mem_erase_of_ne (fun (e:x=a)=>hn.1 (by rw [←e];exact hx))).2 (hs x (List.mem_cons_of_mem _ hx))
  rw [List.length_erase_of_mem ha] at this
  have:0<m.length:=List.length_pos_of_mem ha
  simp only [List.length_cons]
  omega
def upto (n:Nat):List Int:=(List.range n).map Int.ofNat
theorem Ami (n:Nat):(upto n).Nodup:=by
 unfold upto
 exact List.Pairwise.map _ (fun a b hab e=>hab (Int.ofNat.inj e)) List.nodup_range
theorem Hk {n:Nat} {x:Int} :x∈upto n↔0≤x∧x<n:=by
 unfold upto
 simp only [List.mem_map,List.mem_range]
 constructor
 ·rintro ⟨a,ha,rfl⟩;exact ⟨Int.natCast_nonneg _,Int.ofNat_lt.2 ha⟩
 ·rintro ⟨h1,h2⟩;exact ⟨x.toNat,by omega,by simp only [Int.ofNat_eq_natCast];omega⟩
theorem Nr (n:Nat):(upto n).length=n:=by simp [upto]
theorem Aaj {xs:List Int} (h: ∀j (hj:j<xs.length),xs[j]∉xs.take j):xs.Nodup:=by
 refine List.pairwise_iff_getElem.2 fun i j hi hj hij e=>h j hj ?_
 rw [←e]
 exact List.mem_take_iff_getElem.2 ⟨i,by omega,rfl⟩
theorem Amg {xs:List Int} (h:xs.Nodup): ∀j (hj:j<xs.length),xs[j]∉xs.take j:=by
 intro j hj hm
 obtain ⟨i,hi,e⟩:=List.mem_take_iff_getElem.1 hm
 exact List.pairwise_iff_getElem.1 h i j (by omega) hj (by omega) e
theorem Ug {xs:List Int} (h: ∀x∈xs,0≤x∧x<xs.length):(∀k:Nat,k<xs.length→(k:Int)∈xs)↔ ∀j (hj:j<xs.length),xs[j]∉xs.take j:=by
 constructor
 ·intro ha j hj hm
  have h1:=As9 (upto xs.length) (xs.take j++xs.drop (j+1)) (Ami _) fun x hx=>by
   obtain ⟨h1,h2⟩:=Hk.1 hx
   have hx:=ha x.toNat (by omega)
   rw [show ((x.toNat:Nat):Int)=x by omega] at hx
   rw [←List.take_append_drop j xs,List.mem_append,List.drop_eq_getElem_cons hj,List.mem_cons] at hx
   rcases hx with hx|rfl|hx
   ·exact List.mem_append_left _ hx
   ·exact List.mem_append_left _ hm
   ·exact List.mem_append_right _ hx
  rw [Nr,List.length_append,List.length_take,List.length_drop] at h1
  omega
 ·intro hn k hk
  refine Classical.byContradiction fun hc=>?_
  have h1:=As9 xs ((upto xs.length).erase (k:Int)) (Aaj hn) fun x hx=>by
   refine (List.mem_erase_of_ne fun (e:x=(k:Int))=>hc (by rw [←e];exact hx)).2 (Hk.2 (h x hx))
  rw [List.length_erase_of_mem (Hk.2 ⟨by omega,by omega⟩),Nr] at h1
  omega
def mask (xs:List Int):Nat:=xs.foldl (fun m x=>m|||2^x.toNat) 0
theorem Baw (xs:List Int) (x:Int):mask (xs++ [x])=mask xs|||2^x.toNat:=by simp [mask]
theorem Ar0 (xs:List Int) (k:Nat): ∀a:Nat,(xs.foldl (fun m x=>m|||2^x.toNat) a).testBit k=(a.testBit k||xs.any fun x=>decide (x.toNat=k)):=by
 induction xs with
 |nil=>simp
 |cons x xs ih=>
  intro a
  rw [List.foldl_cons,ih,Nat.testBit_or,Nat.testBit_two_pow,List.any_cons,Bool.or_assoc]
theorem Al1 (xs:List Int) (k:Nat):(mask xs).testBit k=xs.any fun x=>decide (x.toNat=k):=by
 unfold mask
 rw [Ar0,Nat.zero_testBit,Bool.false_or]
theorem Bfl {xs:List Int} {n:Nat} (h: ∀x∈xs,x.toNat<n):mask xs<2^n:=by
 refine Nat.lt_pow_two_of_testBit _ fun k hk=>?_
 rw [Al1]
 refine Bool.eq_false_iff.2 fun ht=>?_
 obtain ⟨x,hx,he⟩:=List.any_eq_true.1 ht
 have:=h x hx
 have:=of_decide_eq_true he
 omega
theorem Aow {xs:List Int} (h: ∀x∈xs,0≤x∧x<xs.length):mask xs=2^xs.length-1↔ ∀k:Nat,k<xs.length→(k:Int)∈xs:=by
 constructor
 ·intro e k hk
  have h1:=Al1 xs k
  rw [e,Nat.testBit_two_pow_sub_one,decide_eq_true hk] at h1
  obtain ⟨x,hx,he⟩:=List.any_eq_true.1 h1.symm
  have:=(h x hx).1
  have:=of_decide_eq_true he
  have e:x=(k:Int):=by omega
  exact e▸hx
 ·intro ha
  refine Nat.eq_of_testBit_eq fun k=>?_
  rw [Al1,Nat.testBit_two_pow_sub_one]
  by_cases hk:k<xs.length
  ·rw [decide_eq_true hk]
   exact List.any_eq_true.2 ⟨k,ha k hk,by simp⟩
  ·rw [decide_eq_false hk]
   refine Bool.eq_false_iff.2 fun ht=>?_
   obtain ⟨x,hx,he⟩:=List.any_eq_true.1 ht
   have:=h x hx
   have:=of_decide_eq_true he
   omega
theorem Bfn {m:Nat} {x:Int} (hm:m<2^20) (h0:0≤x) (h1:x<20):
  IntKind.i64.wrap (((BitVec.ofInt IntKind.i64.bits (m:Int)|||BitVec.ofInt IntKind.i64.bits (IntKind.i64.wrap ((1:Int)*(2:Int)^min x.toNat IntKind.i64.bits))).toNat:Nat):Int)=((m|||2^x.toNat:Nat):Int):=by
 have hx:(2:Nat)^x.toNat<2^20:=Nat.pow_lt_pow_right (by omega) (by omega)
 have e1:min x.toNat IntKind.i64.bits=x.toNat:=by show min x.toNat 64=_;omega
 have e2:(1:Int)*(2:Int)^x.toNat=((2^x.toNat:Nat):Int):=by rw [Int.one_mul];exact (Int.natCast_pow 2 _).symm
 rw [e1,e2,Bj (n:=((2^x.toNat:Nat):Int)) (by have:(0:Int)≤((2^x.toNat:Nat):Int):=Int.natCast_nonneg _;omega) (by omega)]
 show IntKind.i64.wrap (((BitVec.ofInt 64 (m:Int)|||BitVec.ofInt 64 ((2^x.toNat:Nat):Int)).toNat:Nat):Int)=_
 rw [BitVec.ofInt_natCast,BitVec.ofInt_natCast,BitVec.toNat_or,BitVec.toNat_ofNat,BitVec.toNat_ofNat,Nat.mod_eq_of_lt (by omega),Nat.mod_eq_of_lt (by omega)]
 have:=Nat.or_lt_two_pow hm hx
 exact Bj (by omega) (by omega)
theorem Ar9 (p:List Int) (h:short p):fnW tab (look [(122,Bp),(152,Jo)]) Eb Try.f169 (p,()) (fun (z:Bool)=>z=Fa p):=by
 have hs:=h
 unfold short at h
 refine Eq.mp (Aso p _) ⟨_,if_pos trivial,⟨fun hp=>?_,fun hp=>?_⟩⟩
 ·have hp:=Cu hp
  rw [Cl] at hp
  dsimp only at hp
  exact Bh fun hh=>hp ⟨by omega,by omega⟩
 ·have hp:=Fz hp
  rw [Cl] at hp
  dsimp only at hp
  refine Ao p.length (fun v=>v.1) (fun j _=>DL p.length p j) rfl (fun j _ hj=>absurd hj (Nat.not_lt_zero _)) ?_
  rintro j ⟨i,⟨⟩⟩ K hj hi hR hK
  dsimp only at hi⊢
  subst hi
  refine Br.dec (fun hl=>?_) fun hl=>?_
  ·have hl:j<p.length:=by omega
   refine ⟨_,Aw hl,_,if_pos trivial,⟨fun hq=>?_,fun hq=>?_⟩⟩
   ·have hq:=Cu hq
    rw [Cl,Bj (by omega) (by omega)] at hq
    exact Bh fun hh=>hq ⟨(hh.2.2 j hl hl).1,(hh.2.2 j hl hl).2.1⟩
   ·have hq:=Fz hq
    rw [Cl,Bj (by omega) (by omega)] at hq
    refine ⟨⟨by omega,by omega,by omega⟩,_,Aw hl,?_⟩
    rw [show (Int.toNat 0)=0 from rfl,List.drop_zero,Int.toNat_natCast]
    refine ⟨_,if_pos (Ayl hs j),⟨fun hc=>?_,fun hc=>?_⟩⟩
    ·have hc:decide (p[j]∈p.take j)=true:=hc
     rw [decide_eq_true_iff] at hc
     exact Bh fun hh=>(hh.2.2 j hl hl).2.2 hc
    ·have hc:decide (p[j]∈p.take j)=false:=hc
     rw [decide_eq_false_iff_not] at hc
     rw [An (by omega)]
     exact hK hl _ rfl (Bfe hl hR hq.1 hq.2 hc)
  ·have:j=p.length:=by omega
   subst this
   exact Hd ⟨by omega,by omega,hR⟩
theorem Ow:Sound Try.prog 169 Eb:=
 Sound.mkS Cc (Ag Uu (Ag Afx As)) mixed Try.func169 (by kernel_rfl) (by kernel_rfl) fun x h=>Ar9 x.1 h
theorem Ar5 (p:List Int) (h:short p):fnW tab (look [(108,Bp),(127,Lc)]) Eb Try.f170 (p,()) (fun (z:Bool)=>z=Fa p):=by
 unfold short at h
 refine Eq.mp (Asj p _) ⟨_,if_pos trivial,_,if_pos trivial,⟨fun hp=>?_,fun hp=>?_⟩⟩
 ·have hp:=Cu hp
  rw [Cl] at hp
  dsimp only at hp
  exact Bh fun hh=>hp ⟨by omega,by omega⟩
 ·have hp:=Fz hp
  rw [Cl] at hp
  dsimp only at hp
  refine Ao p.length (fun v=>v.2.1) (fun j v=>v.1=(mask (p.take j):Int)∧ ∀x∈p.take j,0≤x∧x<p.length) rfl ⟨rfl,by simp⟩ ?_
  rintro j ⟨m,i,⟨⟩⟩ K hj hi ⟨hm,hR⟩ hK
  dsimp only at hi hm⊢
  subst hi hm
  refine Br.dec (fun hl=>?_) fun hl=>?_
  ·have hl:j<p.length:=by omega
   refine ⟨_,Aw hl,_,if_pos trivial,_,if_pos trivial,⟨fun hq=>?_,fun hq=>?_⟩⟩
   ·have hq:=Cu hq
    rw [Cl] at hq
    dsimp only at hq
    rw [Bj (by omega) (by omega)] at hq
    exact Bh fun hh=>hq ⟨(hh.2.2 j hl hl).1,(hh.2.2 j hl hl).2.1⟩
   ·have hq:=Fz hq
    rw [Cl] at hq
    dsimp only at hq
    rw [Bj (by omega) (by omega)] at hq
    refine ⟨by omega,?_⟩
    rw [An (by omega)]
    have hb:mask (p.take j)<2^20:=Bfl fun x hx=>by have:=hR x hx;omega
    refine hK hl _ rfl ⟨?_,?_⟩
    ·dsimp only
     rw [Bfn hb hq.1 (by omega),List.take_succ_eq_append_getElem hl,Baw]
    ·rw [List.take_succ_eq_append_getElem hl]
     intro x hx
     rcases List.mem_append.1 hx with hx|hx
     ·exact hR x hx
     ·rw [List.mem_singleton.1 hx];omega
  ·have:j=p.length:=by omega
   subst this
   rw [List.take_length] at hR⊢
   refine ⟨by omega,?_⟩
   have hx:(2:Nat)^p.length≤2^20:=Nat.pow_le_pow_right (by omega) (by omega)
   have hpos:0<(2:Nat)^p.length:=Nat.two_pow_pos _
   have e1:min (p.length:Int).toNat IntKind.i64.bits=p.length:=by show min (p.length:Int).toNat 64=_;omega
   have e2:(1:Int)*(2:Int)^p.length=((2^p.length:Nat):Int):=by rw [Int.one_mul];exact (Int.natCast_pow 2 _).symm
   rw [e1,e2,Bj (n:=((2^p.length:Nat):Int)) (by omega) (by omega),Bj (by omega) (by omega)]
   have hE:((mask p:Int)==((2^p.length:Nat):Int)-1)=decide (mask p=2^p.length-1):=by
    rw [Bool.eq_iff_iff,beq_iff_eq,decide_eq_true_iff]
    omega
   show ((mask p:Int)==((2^p.length:Nat):Int)-1)=Fa p
   rw [hE]
   by_cases hf:mask p=2^p.length-1
   ·rw [decide_eq_true hf]
    have hn:=(Ug hR).1 ((Aow hR).1 hf)
    refine Hd ⟨by omega,by omega,fun j hj _=>?_⟩
    have:=hR _ (List.getElem_mem hj)
    exact ⟨this.1,by omega,hn j hj⟩
   ·rw [decide_eq_false hf]
    refine Bh fun hh=>hf ((Aow hR).2 ((Ug hR).2 fun j hj=>(hh.2.2 j hj hj).2.2))
theorem Wd:Sound Try.prog 170 Eb:=
 Sound.mkS Cc (Ag No (Ag Xz As)) mixed Try.func170 (by kernel_rfl) (by kernel_rfl) fun x h=>Ar5 x.1 h
theorem Ar8 (n:Int) (g:List (List Int)) (h:Fk g):fnW tab (look [(122,Bp),(169,Eb)]) Ji Try.f148 (n,g,()) (fun (z:Bool)=>z=Pu n g):=by
 obtain ⟨h,h4⟩:=h
 refine Eq.mp (Asn n g _) ⟨_,if_pos trivial,⟨fun hp=>?_,fun hp=>?_⟩⟩
 ·have hp:=Cu hp
  rw [Cl] at hp
  exact Bh fun hh=>hp hh.1
 ·have hp:=Fz hp
  rw [Cl] at hp
  refine Br.dec (fun hg=>?_) fun hg=>?_
  ·exact Bh fun hh=>by have:=hh.2.1;omega
  ·refine Ao g.length (fun v=>v.1) (fun j _=> ∀p∈g.take j,Dx n p=true) rfl (by simp) ?_
   rintro j ⟨i,⟨⟩⟩ K hj hi hR hK
   dsimp only at hi⊢
   subst hi
   refine Br.dec (fun hl=>?_) fun hl=>?_
   ·have hl:j<g.length:=by omega
    have hm:g[j]∈g:=List.getElem_mem hl
    refine ⟨_,Aw hl,⟨fun he=>?_,fun he=>?_⟩⟩
    ·simp only [bne_iff_ne,ne_eq] at he
     exact Bh fun hh=>he (Dj.1 (hh.2.2 _ hm)).1
    ·simp only [bne_eq_false_iff_eq] at he
     refine ⟨_,Aw hl,_,if_pos (h4 _ hm),⟨fun hq=>?_,fun hq=>?_⟩⟩
     ·have hq:=Cu hq
      exact Bh fun hh=>hq (Dj.1 (hh.2.2 _ hm)).2
     ·have hq:=Fz hq
      rw [An (by omega)]
      refine hK hl _ rfl ?_
      rw [List.take_succ_eq_append_getElem hl]
      intro x hx
      rcases List.mem_append.1 hx with hx|hx
      ·exact hR x hx
      ·rw [List.mem_singleton.1 hx];exact Dj.2 ⟨he,hq⟩
   ·have:j=g.length:=by omega
    subst this
    rw [List.take_length] at hR
    exact Hd ⟨hp,by omega,hR⟩
theorem Ahi:Sound Try.prog 148 Ji:=
 Sound.mkS Cc (Ag Uu (Ag Ow As)) mixed Try.func148 (by kernel_rfl) (by kernel_rfl) fun x h=>Ar8 x.1 x.2.1 h
theorem Bfp (p:List Int) (n:Int) (h:short p):fnW tab (look [(127,Lc),(170,Eb)]) Ac0 Try.f174 (p,n,()) (fun (z:Bool)=>z=!Dx n p):=by
 refine Eq.mp (Bgb p n _) ⟨_,if_pos trivial,⟨fun he=>?_,fun he=>⟨_,if_pos h,?_⟩⟩⟩
 ·simp only [bne_iff_ne,ne_eq] at he
  have:Dx n p=false:=Bfc.2 fun hh=>he hh.1
  rw [this];rfl
 ·simp only [bne_eq_false_iff_eq] at he
  show (!Fa p)=_
  congr 1
  cases hp:Fa p with
  |true=>exact Hd ⟨he,hp⟩
  |false=>exact Bh fun hh=>by rw [hh.2] at hp;cases hp
theorem Avk:Sound Try.prog 174 Ac0:=
 Sound.mkS Cc (Ag Xz (Ag Wd As)) mixed Try.func174 (by kernel_rfl) (by kernel_rfl) fun x h=>Bfp x.1 x.2.1 h
theorem Aib {α:Type} (P:α→Bool): ∀(l:List α) (i:Int),0≤i→(0≤Dq P l i↔l.any P=true)
 | [],i,_=>by simp [Dq]
 |y::r,i,h=>by
  simp only [Dq,List.any_cons,Bool.or_eq_true]
  split
  ·rename_i hy;simp [hy,h]
  ·rename_i hy;rw [Aib P r (i+1) (by omega)];simp [hy]
theorem Big (g:List (List Int)) (n:Int×Unit) (h:Fk g):fnW tab (look [(174,Ac0)]) Apf Try.f181 (g,n,()) (fun (z:Int)=>z=Dq (fun p=>!Dx n.1 p) g 0):=by
 obtain ⟨h,h4⟩:=h
 refine Eq.mp (Biu g n _) ?_
 refine Ao g.length (fun v=>v.1) (fun j _=>Dq (fun p=>!Dx n.1 p) (g.drop j) j=Dq (fun p=>!Dx n.1 p) g 0) rfl (by simp) ?_
 rintro j ⟨i,⟨⟩⟩ K hj hi hR hK
 dsimp only at hi⊢
 subst hi
 refine Br.dec (fun hl=>?_) fun hl=>?_
 ·have hl:j<g.length:=by omega
  rw [List.drop_eq_getElem_cons hl] at hR
  simp only [Dq] at hR
  refine ⟨_,Aw hl,_,if_pos (h4 _ (List.getElem_mem hl)),⟨fun he=>?_,fun he=>?_⟩⟩
  ·have he:(!Dx n.1 g[j])=true:=he
   rw [if_pos he] at hR
   exact hR
  ·have he:(!Dx n.1 g[j])=false:=he
   rw [if_neg (by rw [he];decide)] at hR
   rw [An (by omega)]
   exact hK hl _ rfl (by push_cast;exact hR)
 ·have:j=g.length:=by omega
  subst this
  rw [List.drop_length] at hR
  exact hR
theorem Bbu:Sound Try.prog 181 Apf:=
 Sound.mkS Cc (Ag Avk As) mixed Try.func181 (by kernel_rfl) (by kernel_rfl) fun x h=>Big x.1 x.2.1 h
theorem Bib (g:List (List Int)) (n:Int×Unit) (h:Fk g):fnW tab (look [(181,Apf)]) Apb Try.f173 (g,n,()) (fun (z:Bool)=>z=List.any g (fun p=>!Dx n.1 p)):=by
 refine Eq.mp (Bip g n _) ⟨_,if_pos h,?_⟩
 rw [Bool.eq_iff_iff,decide_eq_true_iff]
 exact Aib _ g 0 (Int.le_refl 0)
theorem Bbq:Sound Try.prog 173 Apb:=
 Sound.mkS Cc (Ag Bbu As) mixed Try.func173 (by kernel_rfl) (by kernel_rfl) fun x h=>Bib x.1 x.2.1 h
theorem Ar4 (n:Int) (g:List (List Int)) (h:Fk g):fnW tab (look [(108,Bp),(173,Apb)]) Ji Try.f157 (n,g,()) (fun (z:Bool)=>z=Pu n g):=by
 refine Eq.mp (Asi n g _) ⟨_,if_pos trivial,⟨fun hp=>?_,fun hp=>?_⟩⟩
 ·have hp:Gl n 1 20=true:=hp
  rw [Cl] at hp
  refine Br.dec (fun hl=>⟨_,if_pos h,?_⟩) fun hl=>?_
  ·show (!List.any g (fun p=>!Dx n p))=Pu n g
   cases ha:List.any g (fun p=>!Dx n p) with
   |true=>
    obtain ⟨p,hp1,hp2⟩:=List.any_eq_true.1 ha
    exact Bh fun hh=>by rw [hh.2.2 p hp1] at hp2;cases hp2
   |false=>
    refine Hd ⟨hp,by omega,fun p hm=>?_⟩
    have:=List.any_eq_false.1 ha p hm
    simpa using this
  ·exact Bh fun hh=>by have:=hh.2.1;omega
 ·refine Bh fun hh=>?_
  have:Gl n 1 20=true:=Cl.2 hh.1
  have hp:Gl n 1 20=false:=hp
  rw [this] at hp;cases hp
theorem Ahg:Sound Try.prog 157 Ji:=
 Sound.mkS Cc (Ag No (Ag Bbq As)) mixed Try.func157 (by kernel_rfl) (by kernel_rfl) fun x h=>Ar4 x.1 x.2.1 h
theorem Gu {s:ByteArray} {k:Nat} (h:k<s.size):s[k]?=some s[k]:=getElem?_pos s k h
theorem Bdy (s:ByteArray) (i:Int) (h:0≤i∧i<s.size∧s.size≤4294967296):fnW tab (look []) Vy Try.f149 (s,i,()) (fun (z:Bool)=>z=Afh s i):=by
 obtain ⟨h1,h2,h3⟩:=h
 have hi:i.toNat<s.size:=by omega
 refine Eq.mp (Bez s i _) ⟨h1,_,Gu hi,Br.dec (fun hq=>?_) fun hq=>⟨h1,_,Gu hi,Br.dec (fun hr=>?_) fun hr=>?_⟩⟩
 ·refine Bh fun ⟨c,hc,hc1,_⟩=>?_
  rw [Gu hi] at hc;cases hc;omega
 ·refine Bh fun ⟨c,hc,_,hc1,_⟩=>?_
  rw [Gu hi] at hc;cases hc;omega
 ·refine Ao i.toNat (fun v=>v.1) (fun j _=> ∀k,k<j→s[k]?≠some s[i.toNat]) rfl (fun k hk=>absurd hk (Nat.not_lt_zero _)) ?_
  rintro j ⟨i',⟨⟩⟩ K hj hi' hR hK
  dsimp only at hi'⊢
  subst hi'
  refine Br.dec (fun hl=>?_) fun hl=>?_
  ·have hl:j<i.toNat:=by omega
   have hj:j<s.size:=by omega
   rw [Int.toNat_natCast]
   refine ⟨by omega,_,Gu hj,h1,_,Gu hi,⟨fun he=>?_,fun he=>?_⟩⟩
   ·simp only [beq_iff_eq,Int.natCast_inj] at he
    refine Bh fun ⟨c,hc,_,_,hc1⟩=>?_
    rw [Gu hi] at hc;cases hc
    exact hc1 j hl (by rw [Gu hj,UInt8.toNat_inj.1 he])
   ·simp only [beq_eq_false_iff_ne,ne_eq,Int.natCast_inj] at he
    rw [An (by omega)]
    refine hK hl _ rfl fun k hk=>?_
    by_cases e:k=j
    ·subst e
     rw [Gu hj]
     exact fun e=>he (by rw [Option.some.inj e])
    ·exact hR k (by omega)
  ·have:j=i.toNat:=by omega
   subst this
   exact Hd ⟨_,Gu hi,by omega,by omega,hR⟩
theorem Arz:Sound Try.prog 149 Vy:=
 Sound.mkS Cc As mixed Try.func149 (by kernel_rfl) (by kernel_rfl) fun x h=>Bdy x.1 x.2.1 h
theorem Bba (s:ByteArray) (h:s.size≤4294967296):fnW tab (look [(108,Bp)]) Rn Try.f158 (s,()) (fun (z:Bool)=>z=Vr s):=by
 refine Eq.mp (Bcd s _) ?_
 refine Ao s.size (fun v=>v.1) (fun j _=> ∀k,k<j→Apt s k) rfl (fun k hk=>absurd hk (Nat.not_lt_zero _)) ?_
 rintro j ⟨i,⟨⟩⟩ K hj hi hR hK
 dsimp only at hi⊢
 subst hi
 refine Br.dec (fun hl=>?_) fun hl=>?_
 ·have hl:j<s.size:=by omega
  rw [Int.toNat_natCast]
  have hb:=(s[j]).toNat_lt
  refine ⟨by omega,_,Gu hl,_,if_pos trivial,⟨fun hq=>?_,fun hq=>?_⟩⟩
  ·have hq:=Cu hq
   rw [Cl] at hq
   dsimp only at hq
   rw [Bj (by omega) (by omega)] at hq
   refine Bh fun hh=>?_
   obtain ⟨c,hc,hc1,hc2,_⟩:=hh.2 j hl
   rw [Gu hl] at hc;cases hc
   exact hq ⟨by omega,by omega⟩
  ·have hq:=Fz hq
   rw [Cl] at hq
   dsimp only at hq
   rw [Bj (by omega) (by omega)] at hq
   refine Ao j (fun v=>v.1) (fun m _=> ∀k,k<m→s[k]?≠some s[j]) rfl (fun k hk=>absurd hk (Nat.not_lt_zero _)) ?_
   rintro m ⟨i',⟨⟩⟩ K' hm hi' hR' hK'
   dsimp only at hi'⊢
   subst hi'
   refine Br.dec (fun hl'=>?_) fun hl'=>?_
   ·have hl':m<j:=by omega
    have hm':m<s.size:=by omega
    rw [Int.toNat_natCast]
    refine ⟨by omega,_,Gu hm',by omega,_,Gu hl,⟨fun he=>?_,fun he=>?_⟩⟩
    ·simp only [beq_iff_eq,Int.natCast_inj] at he
     refine Bh fun hh=>?_
     obtain ⟨c,hc,_,_,hc1⟩:=hh.2 j hl
     rw [Gu hl] at hc;cases hc
     exact hc1 m hl' (by rw [Gu hm',UInt8.toNat_inj.1 he])
    ·simp only [beq_eq_false_iff_ne,ne_eq,Int.natCast_inj] at he
     rw [An (by omega)]
     refine hK' hl' _ rfl fun k hk=>?_
     by_cases e:k=m
     ·subst e
      rw [Gu hm']
      exact fun e=>he (by rw [Option.some.inj e])
     ·exact hR' k (by omega)
   ·have:m=j:=by omega
    subst this
    rw [An (by omega)]
    refine hK hl _ rfl fun k hk=>?_
    by_cases e:k=m
    ·subst e
     exact ⟨_,Gu hl,by omega,by omega,hR'⟩
    ·exact hR k (by omega)
 ·have:j=s.size:=by omega
  subst this
  refine ⟨_,if_pos trivial,?_⟩
  show Gl s.size 1 8=_
  cases hr:Gl s.size 1 8 with
  |true=>rw [Cl] at hr;exact Hd ⟨by omega,hR⟩
  |false=>refine Bh fun hh=>?_;rw [Cl.2 ⟨by omega,by omega⟩] at hr;cases hr
theorem Ann:Sound Try.prog 158 Rn:=
 Sound.mkS Cc (Ag No As) mixed Try.func158 (by kernel_rfl) (by kernel_rfl) fun x h=>Bba x.1 h
theorem Az2 {p:PP} (h:Bg p=true):1≤p.1∧p.1≤20∧1≤p.2.2.1.length∧p.2.2.1.length≤8:=by
 obtain ⟨h1,h2,h3⟩:=Dj.1 h
 obtain ⟨h4,h5,_⟩:=Dj.1 h1
 obtain ⟨h6,_⟩:=Dj.1 h2
 omega
theorem Ara (p:PP) (h:Cg p):fnW tab (look [(148,Ji),(149,Vy)]) Ec Try.f99 (p,()) (fun (z:Bool)=>z=Bg p):=by
 obtain ⟨hn,hg⟩:=h
 refine Eq.mp (Asp p _) ⟨fun h0=>?_,fun h0=>⟨fun h1=>?_,fun h1=>⟨_,if_pos hg,⟨fun h2=>?_,fun h2=>?_⟩⟩⟩⟩
 ·simp only [beq_iff_eq] at h0
  exact Bh fun hh=>by obtain ⟨_,h2,h3⟩:=hh;have:=(Dj.1 h2).1;omega
 ·simp only [bne_iff_ne,ne_eq,Int.natCast_inj] at h1
  exact Bh fun hh=>h1 hh.2.2
 ·have h2:=Cu h2
  exact Bh fun hh=>h2 hh.1
 ·simp only [beq_eq_false_iff_ne,ne_eq] at h0
  simp only [bne_eq_false_iff_eq,Int.natCast_inj] at h1
  have h2:Pu p.1 p.2.2.1=true:=Fz h2
  refine Ao p.2.1.size (fun v=>v.1) (fun j v=>v.2=(p.1,p.2.1,p.2.2.1,())∧ ∀k,k<j→Apt p.2.1 k) rfl ⟨rfl,fun k hk=>absurd hk (Nat.not_lt_zero _)⟩ ?_
  rintro j ⟨i,v⟩ K hj hi ⟨hv,hR⟩ hK
  dsimp only at hi hv⊢
  subst hi hv
  dsimp only
  refine Br.dec (fun hl=>?_) fun hl=>?_
  ·have hl:j<p.2.1.size:=by omega
   refine ⟨_,if_pos ⟨Int.natCast_nonneg j,Int.ofNat_lt.2 hl,hn⟩,⟨fun hq=>?_,fun hq=>?_⟩⟩
   ·have hq: ¬Afh p.2.1 j=true:=Cu hq
    refine Bh fun hh=>hq (Dj.2 ?_)
    rw [Int.toNat_natCast]
    exact (Dj.1 hh.2.1).2 j hl
   ·have hq:Afh p.2.1 j=true:=Fz hq
    have hq:=Dj.1 hq
    rw [Int.toNat_natCast] at hq
    rw [An (by omega)]
    refine hK hl _ rfl ⟨rfl,fun k hk=>?_⟩
    by_cases e:k=j
    ·subst e;exact hq
    ·exact hR k (by omega)
  ·have:j=p.2.1.size:=by omega
   subst this
   have:=(Dj.1 h2).2.1
   exact Hd ⟨h2,Dj.2 ⟨⟨by omega,by omega⟩,hR⟩,h1⟩
theorem Ox:Sound Try.prog 99 Ec:=
 Sound.mkS Cc (Ag Ahi (Ag Arz As)) mixed Try.func99 (by kernel_rfl) (by kernel_rfl) fun x h=>Ara x.1 h
theorem Ar6 (p:PP) (h:Cg p):fnW tab (look [(157,Ji),(158,Rn)]) Ec Try.f124 (p,()) (fun (z:Bool)=>z=Bg p):=by
 obtain ⟨hn,hg⟩:=h
 refine Eq.mp (Asl p _) ⟨_,if_pos hg,⟨fun h1=>⟨_,if_pos hn,⟨fun h2=>?_,fun h2=>?_⟩⟩,fun h1=>?_⟩⟩
 ·have h1:Pu p.1 p.2.2.1=true:=h1
  have h2:Vr p.2.1=true:=h2
  by_cases e:p.2.1.size=p.2.2.1.length
  ·rw [e,beq_self_eq_true];exact Hd ⟨h1,h2,e⟩
  ·rw [show ((p.2.1.size:Int)==(p.2.2.1.length:Int))=false from beq_eq_false_iff_ne.2 (by omega)];exact Bh fun hh=>e hh.2.2
 ·have h2:Vr p.2.1=false:=h2
  exact Bh fun hh=>by rw [hh.2.1] at h2;cases h2
 ·have h1:Pu p.1 p.2.2.1=false:=h1
  exact Bh fun hh=>by rw [hh.1] at h1;cases h1
theorem We:Sound Try.prog 124 Ec:=
 Sound.mkS Cc (Ag Ahg (Ag Ann As)) mixed Try.func124 (by kernel_rfl) (by kernel_rfl) fun x h=>Ar6 x.1 h
theorem Ajc {a b:Bool} :(a&&b)=dec (a=true∧b=true):=by
 cases ha:a<;>cases hb:b
 ·exact Bh (by simp)
 ·exact Bh (by simp)
 ·exact Bh (by simp)
 ·exact Hd ⟨rfl,rfl⟩
theorem Ah5 (p:PP) (xs:List Int) (h:Cg p∧short xs):fnW tab (look [(99,Ec),(100,Ex)]) Ef Try.f116 (p,xs,()) (fun (z:Bool)=>z=Bk p xs):=by
 refine Eq.mp (Ahq p xs _) ⟨_,if_pos h.1,⟨fun h1=>⟨_,if_pos ⟨⟨by omega,by have:=h.1.2.1;dsimp only;omega⟩,h.2⟩,?_⟩,fun h1=>?_⟩⟩
 ·have h1:Bg p=true:=h1
  show Mm p.2.2.1.length xs=_
  rw [Bk,←Ajc,h1,Bool.true_and]
 ·have h1:Bg p=false:=h1
  rw [Bk,←Ajc,h1,Bool.false_and]
theorem Ab4:Sound Try.prog 116 Ef:=
 Sound.mkS Cc (Ag Ox (Ag Afy As)) mixed Try.func116 (by kernel_rfl) (by kernel_rfl) fun x h=>Ah5 x.1 x.2.1 h
theorem Ah4 (p:PP) (xs:List Int) (h:Cg p∧short xs):fnW tab (look [(124,Ec),(55,Ex),(67,Rc)]) Ef Try.f117 (p,xs,()) (fun (z:Bool)=>z=Bk p xs):=by
 refine Eq.mp (Ahp p xs _) ⟨_,if_pos h.1,⟨fun h1=>⟨_,if_pos trivial,_,if_pos ⟨⟨by dsimp only;omega,by have:=h.1.2.1;dsimp only;omega⟩,h.2⟩,?_⟩,fun h1=>?_⟩⟩
 ·have h1:Bg p=true:=h1
  show Mm p.2.2.1.length xs=_
  rw [Bk,←Ajc,h1,Bool.true_and]
 ·have h1:Bg p=false:=h1
  rw [Bk,←Ajc,h1,Bool.false_and]
theorem Ab3:Sound Try.prog 117 Ef:=
 Sound.mkS Cc (Ag We (Ag Aj5 (Ag Aim As))) mixed Try.func117 (by kernel_rfl) (by kernel_rfl) fun x h=>Ah4 x.1 x.2.1 h
theorem Bii (p:PP) (room:Int) (h:Cg p∧roomy room):fnW tab (look [(33,Ahc)]) Aph Try.f15 (p,room,()) (fun (z:Int)=>z=Aag p room):=by
 obtain ⟨⟨h1,h2⟩,h3,h4⟩:=h
 refine Eq.mp (Biw p room _) ?_
 rw [Bj (by omega) (by omega)]
 refine Br.dec (fun hn=>?_) fun hn=>⟨_,if_pos ⟨h2,by dsimp only;omega,by dsimp only;omega⟩,Br.dec (fun hm=>?_) fun hm=>?_⟩
 ·simp only [Aag,if_pos hn]
 ·exact ((if_neg hn).trans (if_pos hm)).symm
 ·exact ((if_neg hn).trans (if_neg hm)).symm
theorem Bbw:Sound Try.prog 15 Aph:=
 Sound.mkS Cc (Ag Ayu As) mixed Try.func15 (by kernel_rfl) (by kernel_rfl) fun x h=>Bii x.1 x.2.1 h
theorem Bik (p:PP) (h:Cg p):fnW tab (look [(35,Ahd)]) Api Try.f17 (p,()) (fun (z:PP)=>z=p):=Eq.mp (Biy p _) ⟨_,if_pos h.2,rfl⟩
theorem Bbx:Sound Try.prog 17 Api:=
 Sound.mkS Cc (Ag Ayv As) mixed Try.func17 (by kernel_rfl) (by kernel_rfl) fun x h=>Bik x.1 h
theorem Ata {a b:ByteArray} :(a.toList==b.toList)=decide (a=b):=by
 rw [Bool.eq_iff_iff,beq_iff_eq,decide_eq_true_iff,ByteArray.toList_eq,ByteArray.toList_eq]
 exact ⟨fun h=>ByteArray.ext (Array.toList_inj.1 h),fun h=>by rw [h]⟩
theorem Bid (a b:PP) (h:Cg a):fnW tab (look [(37,Aha)]) Apc Try.f20 (a,b,()) (fun (z:Bool)=>z=Aia a b):=by
 refine Eq.mp (Bir a b _) ⟨fun h1=>?_,fun h1=>⟨fun h2=>?_,fun h2=>⟨_,if_pos h.2,⟨fun h3=>?_,fun h3=>?_⟩⟩⟩⟩
 ·simp only [bne_iff_ne,ne_eq] at h1
  unfold Aia
  rw [decide_eq_false h1];rfl
 ·rw [Ata] at h2
  unfold Aia
  cases hd:decide (a.2.1=b.2.1)<;>simp_all
 ·have h3:(!Agu a.2.2.1 b.2.2.1)=true:=h3
  simp only [Agu,Bool.not_eq_true'] at h3
  unfold Aia
  rw [h3];simp
 ·have h3:(!Agu a.2.2.1 b.2.2.1)=false:=h3
  rw [Ata] at h2
  simp only [Agu] at h3
  simp only [bne_eq_false_iff_eq] at h1
  unfold Aia
  simp_all
theorem Bbr:Sound Try.prog 20 Apc:=
 Sound.mkS Cc (Ag Ayr As) mixed Try.func20 (by kernel_rfl) (by kernel_rfl) fun x h=>Bid x.1 x.2.1 h
theorem Axm (p:PP):Aia p p=true:=by simp [Aia]
end Go.Proofs.Ytebabhocakedaaa

namespace Go.Proofs.Ytebabhocakedaaa
open Go.RowKit
noncomputable abbrev Vz:Spec:=mkS (.pair tI (.pair tL .unit)) .bool false true (fun x=>short x.2.1) (fun x=>Dx x.1 x.2.1)
noncomputable abbrev Oo:Spec:=mkS (.pair Cq (.pair tL .unit)) .bool false true (fun x=>short x.2.1) (fun x=>Dx x.1.1 x.2.1)
noncomputable abbrev Rp:Spec:=mkS (.pair Cq (.pair tL .unit)) .bool false true (fun x=>Cg x.1∧short x.2.1) (fun x=>Bg x.1&&Dx x.1.1 x.2.1)
theorem Bf0 (n:Int) (s:List Int) (P:Bool→Prop):(Br ((↑s.length:Int)==n) (∃(y3:Bool),Eb.fn (s,())=some y3∧P y3) (P false))=fnW tab (look [(169,Eb)]) Vz Try.f156 (n,s,()) P:=by kernel_rfl
theorem Amk (p:Int×ByteArray×List (List Int)×Unit) (s:List Int) (P:Bool→Prop):(∃(y3:Int),Lc.fn (s,())=some y3∧Br (y3==p.1) (∃(y4:Bool),Eb.fn (s,())=some y4∧P y4) (P false))=fnW tab (look [(127,Lc),(170,Eb)]) Oo Try.f150 (p,s,()) P:=by kernel_rfl
theorem Ao1 (p:Int×ByteArray×List (List Int)×Unit) (s:List Int) (P:Bool→Prop):(∃(y3:Bool),Ec.fn ((p.1,p.2.1,p.2.2.1,()),())=some y3∧Br y3 (∃(y4:Bool),Vz.fn (p.1,s,())=some y4∧P y4) (P false))=fnW tab (look [(99,Ec),(156,Vz)]) Rp Try.f118 (p,s,()) P:=by kernel_rfl
theorem Bdz (n:Int) (s:List Int) (h:short s):fnW tab (look [(169,Eb)]) Vz Try.f156 (n,s,()) (fun (z:Bool)=>z=Dx n s):=by
 refine Eq.mp (Bf0 n s _) ⟨fun he=>⟨_,if_pos h,?_⟩,fun he=>?_⟩
 ·simp only [beq_iff_eq] at he
  show Fa s=_
  cases hp:Fa s with
  |true=>exact Hd ⟨he,hp⟩
  |false=>exact Bh fun hh=>by rw [hh.2] at hp;cases hp
 ·simp only [beq_eq_false_iff_ne,ne_eq] at he
  exact Bh fun hh=>he hh.1
theorem As0:Sound Try.prog 156 Vz:=
 Sound.mkS Cc (Ag Ow As) mixed Try.func156 (by kernel_rfl) (by kernel_rfl) fun x h=>Bdz x.1 x.2.1 h
theorem Alf (p:PP) (s:List Int) (h:short s):fnW tab (look [(127,Lc),(170,Eb)]) Oo Try.f150 (p,s,()) (fun (z:Bool)=>z=Dx p.1 s):=by
 refine Eq.mp (Amk p s _) ⟨_,if_pos trivial,⟨fun he=>⟨_,if_pos h,?_⟩,fun he=>?_⟩⟩
 ·simp only [beq_iff_eq] at he
  show Fa s=_
  cases hp:Fa s with
  |true=>exact Hd ⟨he,hp⟩
  |false=>exact Bh fun hh=>by rw [hh.2] at hp;cases hp
 ·simp only [beq_eq_false_iff_ne,ne_eq] at he
  exact Bh fun hh=>he hh.1
theorem Aea:Sound Try.prog 150 Oo:=
 Sound.mkS Cc (Ag Xz (Ag Wd As)) mixed Try.func150 (by kernel_rfl) (by kernel_rfl) fun x h=>Alf x.1 x.2.1 h
theorem An8 (p:PP) (s:List Int) (h:Cg p∧short s):fnW tab (look [(99,Ec),(156,Vz)]) Rp Try.f118 (p,s,()) (fun (z:Bool)=>z=(Bg p&&Dx p.1 s)):=by
 refine Eq.mp (Ao1 p s _) ⟨_,if_pos h.1,⟨fun he=>⟨_,if_pos h.2,?_⟩,fun he=>?_⟩⟩
 ·have he:Bg p=true:=he
  rw [he];rfl
 ·have he:Bg p=false:=he
  rw [he];rfl
theorem Ag0:Sound Try.prog 118 Rp:=
 Sound.mkS Cc (Ag Ox (Ag As0 As)) mixed Try.func118 (by kernel_rfl) (by kernel_rfl) fun x h=>An8 x.1 x.2.1 h
end Go.Proofs.Ytebabhocakedaaa

namespace Go.Proofs.Ytebabhocakedaaa
open Go.RowKit
def Bv (xs:List Int) (i:Int):Int:=xs.getD i.toNat 0
def Aa (p q:List Int):List Int:=p.map (Bv q)
def Tk (f:Nat→Nat) (g:Nat→Int) (m:Nat) (init:List Int):List Int:=(List.range m).foldl (fun (out:List Int) (i:Nat)=>out.set (f i) (g i)) init
def Ak (p:List Int):List Int:=Tk (fun i=>(Bv p (i:Int)).toNat) (fun i=>(i:Int)) p.length (List.replicate p.length 0)
def Nu (n:Nat) (p:List Int):Prop:= ∀y∈p,0≤y∧y<n
noncomputable abbrev Rk:Spec:=mkS (.pair tL (.pair tL .unit)) tL false true (fun x=>List.length x.1≤20∧Nu (List.length x.2.1) x.1) (fun x=>Aa x.1 x.2.1)
noncomputable abbrev Ea:Spec:=mkS (.pair tL .unit) tL false true (fun x=>List.length x.1≤20∧Nu (List.length x.1) x.1) (fun x=>Ak x.1)
noncomputable abbrev Cb:Spec:=mkS (.pair tI .unit) tL false true (fun x=>0≤x.1∧x.1≤20) (fun x=>upto x.1.toNat)
noncomputable abbrev Jr:Spec:=mkS (.pair tL .unit) tL false true (fun x=>Fa x.1=true) (fun x=>Ak x.1)
def Af (g:List (List Int)) (l:Int):List Int:=if l>0 then g.getD (l-1).toNat [] else Ak (g.getD (-l-1).toNat [])
def En (n:Int) (l:Int):Prop:=l≠0∧ -n≤l∧l≤n
noncomputable abbrev Oq:Spec:=mkS (.pair tLL (.pair tI .unit)) tL false false (fun x=>En (List.length x.1) x.2.1∧List.length x.1≤8∧ ∀p∈x.1,Fa p=true) (fun x=>Af x.1 x.2.1)
def Ae (n:Nat):List Int:=(List.range n).flatMap fun (k:Nat)=> [(k:Int)+1,-((k:Int)+1)]
noncomputable abbrev Hc:Spec:=mkS (.pair tI .unit) tL false true (fun x=>0≤x.1∧x.1≤8) (fun x=>Ae x.1.toNat)
noncomputable abbrev Vw:Spec:=mkS (.pair Cq (.pair tL (.pair tI .unit))) tL false true (fun x=>Bg x.1=true∧List.length x.2.1≤20∧(∀y∈x.2.1,0≤y∧y<x.1.1)∧En (List.length x.1.2.2.1) x.2.2.1) (fun x=>Aa x.2.1 (Af x.1.2.2.1 x.2.2.1))
theorem Anw (p q:List Int) (P:List Int→Prop):(((0:Int)≤(↑p.length:Int)∧(↑p.length:Int)<(↑Ap:Int)+(1:Int))∧
 (↑p.length:Int)=(↑p.length:Int)∧
  (0:Nat)=(0:Nat)∧
   (List.replicate (↑p.length:Int).toNat (Int.ofNat (nat_lit 0))).length=(List.replicate (↑p.length:Int).toNat (Int.ofNat (nat_lit 0))).length∧
    Bx
     (fun (v3:Int×List Int×PUnit) (k4:Int×List Int×PUnit→Prop)=>
      Br (decide (v3.1<(↑p.length:Int)))
       (∃(y5:Int),
        idx p v3.1=some y5∧
         ∃(y6:Int),
          idx q y5=some y6∧
           ((0:Int)≤v3.1∧v3.1<(↑v3.2.1.length:Int))∧
            (0:Nat)+v3.1.toNat<v3.2.1.length∧
             (0:Nat)=(0:Nat)∧
              v3.2.1.length=(v3.2.1.set ((0:Nat)+v3.1.toNat) y6).length∧k4 (IntKind.i64.wrap (v3.1+(1:Int)),v3.2.1.set ((0:Nat)+v3.1.toNat) y6,()))
       (P (List.take v3.2.1.length (List.drop (0:Nat) v3.2.1))))
     ((0:Int),List.replicate (↑p.length:Int).toNat (Int.ofNat (nat_lit 0)),PUnit.unit))=fnW tab (look []) Rk Try.f131 (p,q,()) P:=by kernel_rfl
theorem Anx (p:List Int) (P:List Int→Prop):(((0:Int)≤(↑p.length:Int)∧(↑p.length:Int)<(↑Ap:Int)+(1:Int))∧
 (↑p.length:Int)=(↑p.length:Int)∧
  (0:Nat)=(0:Nat)∧
   (List.replicate (↑p.length:Int).toNat (Int.ofNat (nat_lit 0))).length=(List.replicate (↑p.length:Int).toNat (Int.ofNat (nat_lit 0))).length∧
    Bx
     (fun (v2:Int×List Int×PUnit) (k3:Int×List Int×PUnit→Prop)=>
      Br (decide (v2.1<(↑p.length:Int)))
       (∃(y4:Int),
        idx p v2.1=some y4∧
         ((0:Int)≤y4∧y4<(↑v2.2.1.length:Int))∧
          (0:Nat)+y4.toNat<v2.2.1.length∧
           (0:Nat)=(0:Nat)∧
            v2.2.1.length=(v2.2.1.set ((0:Nat)+y4.toNat) v2.1).length∧k3 (IntKind.i64.wrap (v2.1+(1:Int)),v2.2.1.set ((0:Nat)+y4.toNat) v2.1,()))
       (P (List.take v2.2.1.length (List.drop (0:Nat) v2.2.1))))
     ((0:Int),List.replicate (↑p.length:Int).toNat (Int.ofNat (nat_lit 0)),PUnit.unit))=fnW tab (look []) Ea Try.f165 (p,()) P:=by kernel_rfl
theorem Bch (p:List Int) (P:List Int→Prop):(((0:Int)≤(↑p.length:Int)∧(↑p.length:Int)<(↑Ap:Int)+(1:Int))∧
 (↑p.length:Int)=(↑p.length:Int)∧
  (0:Nat)=(0:Nat)∧
   (List.replicate (↑p.length:Int).toNat (Int.ofNat (nat_lit 0))).length=(List.replicate (↑p.length:Int).toNat (Int.ofNat (nat_lit 0))).length∧
    Bx
     (fun (v2:Int×List Int×PUnit) (k3:Int×List Int×PUnit→Prop)=>
      Br (decide (v2.1<(↑p.length:Int)))
       (∃(y4:Int),
        idx p v2.1=some y4∧
         ((0:Int)≤y4∧y4<(↑v2.2.1.length:Int))∧
          (0:Nat)+y4.toNat<v2.2.1.length∧
           (0:Nat)=(0:Nat)∧
            v2.2.1.length=(v2.2.1.set ((0:Nat)+y4.toNat) v2.1).length∧k3 (IntKind.i64.wrap (v2.1+(1:Int)),v2.2.1.set ((0:Nat)+y4.toNat) v2.1,()))
       (P (List.take v2.2.1.length (List.drop (0:Nat) v2.2.1))))
     ((0:Int),List.replicate (↑p.length:Int).toNat (Int.ofNat (nat_lit 0)),PUnit.unit))=fnW tab (look []) Ea Try.f175 (p,()) P:=by kernel_rfl
theorem Ao0 (p:List Int) (P:List Int→Prop):(∃(y2:Bool),Eb.fn (p,())=some y2∧Br (!y2) (P (List.take (0:Nat) (List.drop (0:Nat) []))) (∃(y3:List Int),Ea.fn (p,())=some y3∧P y3))=fnW tab (look [(169,Eb),(175,Ea)]) Jr Try.f160 (p,()) P:=by kernel_rfl
theorem Az5 (n:Int) (P:List Int→Prop):((0:Nat)=(0:Nat)∧
 (0:Nat)=([]:List Int).length∧
  Bx
   (fun (v2:Int×List Int×PUnit) (k3:Int×List Int×PUnit→Prop)=>
    Br (decide (v2.1<n))
     ((0:Nat)=(0:Nat)∧
      v2.2.1.length=v2.2.1.length∧
       v2.2.1.length+(List.take (1:Nat) (List.drop (0:Nat) [v2.1])).length≤Ap∧
        (0:Nat)=(0:Nat)∧
         (v2.2.1++List.take (1:Nat) (List.drop (0:Nat) [v2.1])).length=(v2.2.1++List.take (1:Nat) (List.drop (0:Nat) [v2.1])).length∧
          k3 (IntKind.i64.wrap (v2.1+(1:Int)),v2.2.1++List.take (1:Nat) (List.drop (0:Nat) [v2.1]),()))
     (P (List.take v2.2.1.length (List.drop (0:Nat) v2.2.1))))
   ((0:Int),[],PUnit.unit))=fnW tab (look []) Cb Try.f106 (n,()) P:=by kernel_rfl
theorem Az6 (g:List (List Int)) (l:Int) (P:List Int→Prop):(Br (decide (l>(0:Int))) (∃(y3:List Int),idx g (IntKind.i64.wrap (l-(1:Int)))=some y3∧P y3)
 (∃(y3:List Int),idx g (IntKind.i64.wrap (IntKind.i64.wrap ((0:Int)-l)-(1:Int)))=some y3∧ ∃(y4:List Int),Ea.fn (y3,())=some y4∧P y4))=fnW tab (look [(165,Ea)]) Oq Try.f155 (g,l,()) P:=by kernel_rfl
theorem Bcf (n:Int) (P:List Int→Prop):((0:Nat)=(0:Nat)∧
 (0:Nat)=([]:List Int).length∧
  Bx
   (fun (v2:Int×List Int×PUnit) (k3:Int×List Int×PUnit→Prop)=>
    Br (decide (v2.1<n))
     ((0:Nat)=(0:Nat)∧
      v2.2.1.length=v2.2.1.length∧
       v2.2.1.length+(List.take (2:Nat) (List.drop (0:Nat) [IntKind.i64.wrap (v2.1+(1:Int)),IntKind.i64.wrap ((0:Int)-IntKind.i64.wrap (v2.1+(1:Int)))])).length≤
         Ap∧
        (0:Nat)=(0:Nat)∧
         (v2.2.1++List.take (2:Nat) (List.drop (0:Nat) [IntKind.i64.wrap (v2.1+(1:Int)),IntKind.i64.wrap ((0:Int)-IntKind.i64.wrap (v2.1+(1:Int)))])).length=
           (v2.2.1++List.take (2:Nat) (List.drop (0:Nat) [IntKind.i64.wrap (v2.1+(1:Int)),IntKind.i64.wrap ((0:Int)-IntKind.i64.wrap (v2.1+(1:Int)))])).length∧
          k3
           (IntKind.i64.wrap (v2.1+(1:Int)),
            v2.2.1++List.take (2:Nat) (List.drop (0:Nat) [IntKind.i64.wrap (v2.1+(1:Int)),IntKind.i64.wrap ((0:Int)-IntKind.i64.wrap (v2.1+(1:Int)))]),()))
     (P (List.take v2.2.1.length (List.drop (0:Nat) v2.2.1))))
   ((0:Int),[],PUnit.unit))=fnW tab (look []) Hc Try.f112 (n,()) P:=by kernel_rfl
theorem Bev (p:Int×ByteArray×List (List Int)×Unit) (s:List Int) (l:Int) (P:List Int→Prop):(∃(y4:List Int),
 idx p.2.2.1
    (IntKind.i64.wrap
     ((if true=true then if IntKind.i64.wrap ((0:Int)-l)>l then IntKind.i64.wrap ((0:Int)-l) else l
      else if IntKind.i64.wrap ((0:Int)-l)<l then IntKind.i64.wrap ((0:Int)-l) else l)-
      (1:Int)))=
   some y4∧
  Br (decide (l<(0:Int)))
   (∃(y5:List Int),
    Jr.fn (y4,())=some y5∧
     (0:Nat)=(0:Nat)∧
      (0:Nat)=([]:List Int).length∧
       Bx
        (fun (v6:Int×List Int×PUnit) (k7:Int×List Int×PUnit→Prop)=>
         Br (decide (v6.1<(↑s.length:Int)))
          (∃(y8:Int),
           idx s v6.1=some y8∧
            ∃(y9:Int),
             idx y5 y8=some y9∧
              (0:Nat)=(0:Nat)∧
               v6.2.1.length=v6.2.1.length∧
                v6.2.1.length+(List.take (1:Nat) (List.drop (0:Nat) [y9])).length≤Ap∧
                 (0:Nat)=(0:Nat)∧
                  (v6.2.1++List.take (1:Nat) (List.drop (0:Nat) [y9])).length=(v6.2.1++List.take (1:Nat) (List.drop (0:Nat) [y9])).length∧
                   k7 (IntKind.i64.wrap (v6.1+(1:Int)),v6.2.1++List.take (1:Nat) (List.drop (0:Nat) [y9]),()))
          (P (List.take v6.2.1.length (List.drop (0:Nat) v6.2.1))))
        ((0:Int),[],PUnit.unit))
   ((0:Nat)=(0:Nat)∧
    (0:Nat)=([]:List Int).length∧
     Bx
      (fun (v5:Int×List Int×PUnit) (k6:Int×List Int×PUnit→Prop)=>
       Br (decide (v5.1<(↑s.length:Int)))
        (∃(y7:Int),
         idx s v5.1=some y7∧
          ∃(y8:Int),
           idx y4 y7=some y8∧
            (0:Nat)=(0:Nat)∧
             v5.2.1.length=v5.2.1.length∧
              v5.2.1.length+(List.take (1:Nat) (List.drop (0:Nat) [y8])).length≤Ap∧
               (0:Nat)=(0:Nat)∧
                (v5.2.1++List.take (1:Nat) (List.drop (0:Nat) [y8])).length=(v5.2.1++List.take (1:Nat) (List.drop (0:Nat) [y8])).length∧
                 k6 (IntKind.i64.wrap (v5.1+(1:Int)),v5.2.1++List.take (1:Nat) (List.drop (0:Nat) [y8]),()))
        (P (List.take v5.2.1.length (List.drop (0:Nat) v5.2.1))))
      ((0:Int),[],PUnit.unit)))=fnW tab (look [(160,Jr)]) Vw Try.f129 (p,s,l,()) P:=by kernel_rfl
theorem He {xs:List Int} {i:Nat} (h:i<xs.length):Bv xs (i:Int)=xs[i]:=by
 unfold Bv
 rw [Int.toNat_natCast,List.getD_eq_getElem?_getD,List.getElem?_eq_getElem h];rfl
theorem Lm {xs:List Int} {y:Int} (h0:0≤y) (h:y<xs.length):idx xs y=some (Bv xs y):=by
 have hy:y.toNat<xs.length:=by omega
 have e:y=(y.toNat:Int):=by omega
 rw [e,Aw hy,He hy]
theorem Qx (f:Nat→Nat) (g:Nat→Int) (m:Nat) (init:List Int):Tk f g (m+1) init=(Tk f g m init).set (f m) (g m):=by simp [Tk,List.range_succ]
theorem Tl (f:Nat→Nat) (g:Nat→Int) (m:Nat) (init:List Int):(Tk f g m init).length=init.length:=by
 induction m with
 |zero=>rfl
 |succ m ih=>rw [Qx,List.length_set,ih]
theorem Ahz (f:Nat→Nat) (g:Nat→Int) (init:List Int): ∀(m:Nat),(∀i j,i<m→j<m→f i=f j→i=j)→ ∀i,i<m→f i<init.length→(Tk f g m init)[f i]?=some (g i)
 |0,_,i,h,_=>absurd h (Nat.not_lt_zero _)
 |m+1,hf,i,hi,hl=>by
  rw [Qx]
  by_cases e:i=m
  ·subst e
   exact List.getElem?_set_self (by rw [Tl];exact hl)
  ·rw [List.getElem?_set_ne (fun h=>e (hf i m hi (by omega) h.symm))]
   exact Ahz f g init m (fun a b ha hb=>hf a b (by omega) (by omega)) i (by omega) hl
structure Rw (p:List Int):Prop where
 pos:1≤p.length
 len:p.length≤20
 row:Nu p.length p
 nodup:p.Nodup
theorem Ae5 {p:List Int} (h:Fa p=true):Rw p:=by
 obtain ⟨h1,h2,h3⟩:=Dj.1 h
 refine ⟨h1,h2,fun y hy=>?_,Aaj fun j hj=>(h3 j hj hj).2.2⟩
 obtain ⟨j,hj,rfl⟩:=List.mem_iff_getElem.1 hy
 have:=h3 j hj hj
 omega
theorem Rw.inj {p:List Int} (h:Rw p) (i j:Nat) (hi:i<p.length) (hj:j<p.length) (e:(Bv p (i:Int)).toNat=(Bv p (j:Int)).toNat):i=j:=by
 rw [He hi,He hj] at e
 have h1:=h.row _ (List.getElem_mem hi)
 have h2:=h.row _ (List.getElem_mem hj)
 have e:p[i]=p[j]:=by omega
 refine Classical.byContradiction fun hne=>?_
 rcases Nat.lt_or_gt_of_ne hne with hl|hl
 ·exact List.pairwise_iff_getElem.1 h.nodup i j hi hj hl e
 ·exact List.pairwise_iff_getElem.1 h.nodup j i hj hi hl e.symm
theorem Rw.Bdq {p:List Int} (h:Rw p) (k:Nat) (hk:k<p.length): ∃i,i<p.length∧(Bv p (i:Int)).toNat=k:=by
 have hm:=(Ug (xs:=p) h.row).2 (Amg h.nodup) k hk
 obtain ⟨i,hi,e⟩:=List.mem_iff_getElem.1 hm
 exact ⟨i,hi,by rw [He hi,e];exact Int.toNat_natCast k⟩
theorem Rw.lt {p:List Int} (h:Rw p) {i:Nat} (hi:i<p.length):(Bv p (i:Int)).toNat<p.length:=by
 rw [He hi]
 have:=h.row _ (List.getElem_mem hi)
 omega
theorem Ajk (p:List Int):(Ak p).length=p.length:=by unfold Ak;rw [Tl,List.length_replicate]
theorem Bda {p:List Int} (h:Rw p) {i:Nat} (hi:i<p.length):(Ak p)[(Bv p (i:Int)).toNat]?=some (i:Int):=
 Ahz (fun i=>(Bv p (i:Int)).toNat) (fun i=>(i:Int)) _ p.length (fun i j hi hj=>h.inj i j hi hj) i hi (by rw [List.length_replicate];exact h.lt hi)
theorem Bfj {p:List Int} (h:Rw p):Nu p.length (Ak p):=by
 intro y hy
 obtain ⟨k,hk,rfl⟩:=List.mem_iff_getElem.1 hy
 have hk':k<p.length:=by rw [Ajk] at hk;exact hk
 obtain ⟨i,hi,rfl⟩:=h.Bdq k hk'
 have:=Bda h hi
 rw [List.getElem?_eq_getElem hk] at this
 rw [Option.some.inj this]
 omega
theorem Mi (p q:List Int):(Aa p q).length=p.length:=by simp [Aa]
theorem Atg {p q:List Int} {n:Nat} (hp:Nu q.length p) (hq:Nu n q):Nu n (Aa p q):=by
 intro y hy
 obtain ⟨x,hx,rfl⟩:=List.mem_map.1 hy
 have h1:=hp x hx
 rw [show x=(x.toNat:Int) by omega,He (by omega)]
 exact hq _ (List.getElem_mem _)
theorem An4 (p q:List Int) (h:p.length≤20∧Nu q.length p):fnW tab (look []) Rk Try.f131 (p,q,()) (fun (z:List Int)=>z=Aa p q):=by
 obtain ⟨h,hr⟩:=h
 refine Eq.mp (Anw p q _) ?_
 refine ⟨⟨by omega,by show (p.length:Int)<(4294967296:Int)+1;omega⟩,rfl,rfl,rfl,?_⟩
 have hcl:=Mi p q
 refine Ao p.length (fun v=>v.1) (fun j v=>v.2.1.length=(Aa p q).length∧v.2.1.take j=(Aa p q).take j) rfl ⟨by rw [hcl];simp,by simp⟩ ?_
 rintro j ⟨i,ys,⟨⟩⟩ K hj hi ⟨h1,h2⟩ hK
 dsimp only at hi h1 h2⊢
 subst hi
 refine Br.dec (fun hl=>?_) fun hl=>?_
 ·have hl:j<p.length:=by omega
  have hy:=hr _ (List.getElem_mem hl)
  refine ⟨_,Aw hl,_,Lm hy.1 hy.2,⟨by omega,by omega⟩,by rw [Int.toNat_natCast];omega,rfl,by rw [List.length_set],?_⟩
  rw [An (by omega),Int.toNat_natCast,Nat.zero_add]
  have hl':j<(Aa p q).length:=by rw [hcl];exact hl
  have e:Bv q p[j]=(Aa p q)[j]:=by simp [Aa]
  rw [e]
  exact hK hl _ rfl ⟨by rw [List.length_set];exact h1,Js hl' h1 h2⟩
 ·have:j=p.length:=by omega
  subst this
  rw [←hcl,List.take_length,←h1,List.take_length] at h2
  rw [List.drop_zero,List.take_length]
  exact h2
theorem Nm:Sound Try.prog 131 Rk:=
 Sound.mkS Cc As mixed Try.func131 (by kernel_rfl) (by kernel_rfl) fun x h=>An4 x.1 x.2.1 h
theorem An5 (p:List Int) (h:p.length≤20∧Nu p.length p):fnW tab (look []) Ea Try.f165 (p,()) (fun (z:List Int)=>z=Ak p):=by
 obtain ⟨h,hr⟩:=h
 refine Eq.mp (Anx p _) ?_
 refine ⟨⟨by omega,by show (p.length:Int)<(4294967296:Int)+1;omega⟩,rfl,rfl,rfl,?_⟩
 refine Ao p.length (fun v=>v.1) (fun j v=>v.2.1=Tk (fun i=>(Bv p (i:Int)).toNat) (fun i=>(i:Int)) j (List.replicate p.length 0)) rfl rfl ?_
 rintro j ⟨i,ys,⟨⟩⟩ K hj hi h1 hK
 dsimp only at hi h1⊢
 subst hi
 have hlen:ys.length=p.length:=by rw [h1,Tl,List.length_replicate]
 refine Br.dec (fun hl=>?_) fun hl=>?_
 ·have hl:j<p.length:=by omega
  have hy:=hr _ (List.getElem_mem hl)
  refine ⟨_,Aw hl,⟨by omega,by omega⟩,by omega,rfl,by rw [List.length_set],?_⟩
  rw [An (by omega),Nat.zero_add]
  refine hK hl _ rfl ?_
  rw [Qx,←h1,He hl]
 ·have:j=p.length:=by omega
  subst this
  rw [List.drop_zero,List.take_length]
  exact h1
theorem Nn:Sound Try.prog 165 Ea:=
 Sound.mkS Cc As mixed Try.func165 (by kernel_rfl) (by kernel_rfl) fun x h=>An5 x.1 h
theorem Bbe (p:List Int) (h:p.length≤20∧Nu p.length p):fnW tab (look []) Ea Try.f175 (p,()) (fun (z:List Int)=>z=Ak p):=by
 obtain ⟨h,hr⟩:=h
 refine Eq.mp (Bch p _) ?_
 refine ⟨⟨by omega,by show (p.length:Int)<(4294967296:Int)+1;omega⟩,rfl,rfl,rfl,?_⟩
 refine Ao p.length (fun v=>v.1) (fun j v=>v.2.1=Tk (fun i=>(Bv p (i:Int)).toNat) (fun i=>(i:Int)) j (List.replicate p.length 0)) rfl rfl ?_
 rintro j ⟨i,ys,⟨⟩⟩ K hj hi h1 hK
 dsimp only at hi h1⊢
 subst hi
 have hlen:ys.length=p.length:=by rw [h1,Tl,List.length_replicate]
 refine Br.dec (fun hl=>?_) fun hl=>?_
 ·have hl:j<p.length:=by omega
  have hy:=hr _ (List.getElem_mem hl)
  refine ⟨_,Aw hl,⟨by omega,by omega⟩,by omega,rfl,by rw [List.length_set],?_⟩
  rw [An (by omega),Nat.zero_add]
  refine hK hl _ rfl ?_
  rw [Qx,←h1,He hl]
 ·have:j=p.length:=by omega
  subst this
  rw [List.drop_zero,List.take_length]
  exact h1
theorem Anp:Sound Try.prog 175 Ea:=
 Sound.mkS Cc As mixed Try.func175 (by kernel_rfl) (by kernel_rfl) fun x h=>Bbe x.1 h
theorem An7 (p:List Int) (h:Fa p=true):fnW tab (look [(169,Eb),(175,Ea)]) Jr Try.f160 (p,()) (fun (z:List Int)=>z=Ak p):=by
 have hp:=Ae5 h
 have hs:short p:=by have:=hp.len;unfold short;omega
 refine Eq.mp (Ao0 p _) ⟨_,if_pos hs,⟨fun he=>?_,fun _=>⟨_,if_pos ⟨hp.len,hp.row⟩,rfl⟩⟩⟩
 exact absurd h (Cu he)
theorem Afz:Sound Try.prog 160 Jr:=
 Sound.mkS Cc (Ag Ow (Ag Anp As)) mixed Try.func160 (by kernel_rfl) (by kernel_rfl) fun x h=>An7 x.1 h
theorem Wh (j:Nat):upto (j+1)=upto j++ [(j:Int)]:=by simp [upto,List.range_succ]
theorem Axy (n:Int) (h:0≤n∧n≤20):fnW tab (look []) Cb Try.f106 (n,()) (fun (z:List Int)=>z=upto n.toNat):=by
 refine Eq.mp (Az5 n _) ⟨rfl,rfl,?_⟩
 refine Ao n.toNat (fun v=>v.1) (fun j v=>v.2.1=upto j) rfl rfl ?_
 rintro j ⟨i,ys,⟨⟩⟩ K hj hi h1 hK
 dsimp only at hi h1⊢
 subst hi h1
 refine Br.dec (fun hl=>?_) fun hl=>?_
 ·refine ⟨rfl,rfl,?_,rfl,rfl,?_⟩
  ·show (upto j).length+1≤4294967296
   rw [Nr];omega
  ·rw [An (by omega)]
   exact hK (by omega) _ rfl (Wh j).symm
 ·have:j=n.toNat:=by omega
  subst this
  rw [List.drop_zero,List.take_length]
theorem Aly:Sound Try.prog 106 Cb:=
 Sound.mkS Cc As mixed Try.func106 (by kernel_rfl) (by kernel_rfl) fun x h=>Axy x.1 h
theorem Ma {g:List (List Int)} {k:Nat} (h:k<g.length):Af g ((k:Int)+1)=g[k]:=by
 unfold Af
 rw [if_pos (by omega),show ((k:Int)+1-1).toNat=k by omega,List.getD_eq_getElem?_getD,List.getElem?_eq_getElem h];rfl
theorem Lz {g:List (List Int)} {k:Nat} (h:k<g.length):Af g (-((k:Int)+1))=Ak g[k]:=by
 unfold Af
 rw [if_neg (by omega),show (-(-((k:Int)+1))-1).toNat=k by omega,List.getD_eq_getElem?_getD,List.getElem?_eq_getElem h];rfl
theorem Na {n:Nat} {l:Int} (h:En n l): ∃k:Nat,k<n∧(l=(k:Int)+1∨l= -((k:Int)+1)):=by
 obtain ⟨h1,h2,h3⟩:=h
 by_cases h0:0<l
 ·exact ⟨(l-1).toNat,by omega, .inl (by omega)⟩
 ·exact ⟨(-l-1).toNat,by omega, .inr (by omega)⟩
theorem Axz (g:List (List Int)) (l:Int) (h:En (List.length g) l∧List.length g≤8∧ ∀p∈g,Fa p=true):fnW tab (look [(165,Ea)]) Oq Try.f155 (g,l,()) (fun (z:List Int)=>z=Af g l):=by
 obtain ⟨hl,h8,hp⟩:=h
 refine Eq.mp (Az6 g l _) ?_
 obtain ⟨k,hk,rfl|rfl⟩:=Na hl
 ·refine Br.dec (fun _=>?_) fun hn=>by omega
  rw [Bj (by omega) (by omega),show (k:Int)+1-1=(k:Int) by omega]
  exact ⟨_,Aw hk,(Ma hk).symm⟩
 ·refine Br.dec (fun hn=>by omega) fun _=>?_
  rw [Bj (n:=0- -((k:Int)+1)) (by omega) (by omega),Bj (by omega) (by omega),show (0:Int)- -((k:Int)+1)-1=(k:Int) by omega]
  have:=Ae5 (hp _ (List.getElem_mem hk))
  exact ⟨_,Aw hk,_,if_pos ⟨this.len,this.row⟩,(Lz hk).symm⟩
theorem Alz:Sound Try.prog 155 Oq:=
 Sound.mkS Cc (Ag Nn As) mixed Try.func155 (by kernel_rfl) (by kernel_rfl) fun x h=>Axz x.1 x.2.1 h
theorem Ss (j:Nat):Ae (j+1)=Ae j++ [(j:Int)+1,-((j:Int)+1)]:=by simp [Ae,List.range_succ,List.flatMap_append]
theorem Jm (j:Nat):(Ae j).length=2*j:=by
 induction j with
 |zero=>rfl
 |succ j ih=>rw [Ss,List.length_append,ih];simp only [List.length_cons,List.length_nil];omega
theorem Gh {n:Nat} {l:Int} (h:l∈Ae n):En n l:=by
 unfold Ae at h
 obtain ⟨k,hk,hl⟩:=List.mem_flatMap.1 h
 have hk:=List.mem_range.1 hk
 simp only [List.mem_cons,List.not_mem_nil,or_false] at hl
 unfold En
 omega
theorem Bbc (n:Int) (h:0≤n∧n≤8):fnW tab (look []) Hc Try.f112 (n,()) (fun (z:List Int)=>z=Ae n.toNat):=by
 refine Eq.mp (Bcf n _) ⟨rfl,rfl,?_⟩
 refine Ao n.toNat (fun v=>v.1) (fun j v=>v.2.1=Ae j) rfl rfl ?_
 rintro j ⟨i,ys,⟨⟩⟩ K hj hi h1 hK
 dsimp only at hi h1⊢
 subst hi h1
 refine Br.dec (fun hl=>?_) fun hl=>?_
 ·refine ⟨rfl,rfl,?_,rfl,rfl,?_⟩
  ·show (Ae j).length+2≤4294967296
   rw [Jm];omega
  ·have e1:IntKind.i64.wrap ((j:Int)+1)=(j:Int)+1:=Bj (by omega) (by omega)
   have e2:IntKind.i64.wrap ((0:Int)-((j:Int)+1))= -((j:Int)+1):=by rw [Bj (by omega) (by omega)];omega
   rw [e1,e2]
   exact hK (by omega) _ rfl (Ss j).symm
 ·have:j=n.toNat:=by omega
  subst this
  rw [List.drop_zero,List.take_length]
theorem Uv:Sound Try.prog 112 Hc:=
 Sound.mkS Cc As mixed Try.func112 (by kernel_rfl) (by kernel_rfl) fun x h=>Bbc x.1 h
structure Valid (p:PP):Prop where
 n:1≤p.1∧p.1≤20
 few:1≤p.2.2.1.length∧p.2.2.1.length≤8
 perm: ∀m∈p.2.2.1,Fa m=true
 len: ∀m∈p.2.2.1,(m.length:Int)=p.1
theorem valid {p:PP} (h:Bg p=true):Valid p:=by
 have h0:=Az2 h
 obtain ⟨h1,_,_⟩:=Dj.1 h
 obtain ⟨_,_,h4⟩:=Dj.1 h1
 exact ⟨⟨h0.1,h0.2.1⟩,h0.2.2,fun m hm=>(Dj.1 (h4 m hm)).2,fun m hm=>(Dj.1 (h4 m hm)).1⟩
theorem Agt {p:PP} (h:Valid p) {l:Int} (hl:En (List.length p.2.2.1) l):((Af p.2.2.1 l).length:Int)=p.1∧Nu (Af p.2.2.1 l).length (Af p.2.2.1 l):=by
 obtain ⟨k,hk,rfl|rfl⟩:=Na hl
 ·rw [Ma hk]
  exact ⟨h.len _ (List.getElem_mem hk),(Ae5 (h.perm _ (List.getElem_mem hk))).row⟩
 ·rw [Lz hk,Ajk]
  exact ⟨h.len _ (List.getElem_mem hk),Bfj (Ae5 (h.perm _ (List.getElem_mem hk)))⟩
theorem At0 (s y:List Int) (P:List Int→Prop) (h1:s.length≤20) (h2:Nu y.length s) (h3:P (Aa s y)):
  Bx
   (fun (v5:Int×List Int×PUnit) (k6:Int×List Int×PUnit→Prop)=>
    Br (decide (v5.1<(↑s.length:Int)))
     (∃(y7:Int),
      idx s v5.1=some y7∧
       ∃(y8:Int),
        idx y y7=some y8∧
         (0:Nat)=(0:Nat)∧
          v5.2.1.length=v5.2.1.length∧
           v5.2.1.length+(List.take (1:Nat) (List.drop (0:Nat) [y8])).length≤Ap∧
            (0:Nat)=(0:Nat)∧
             (v5.2.1++List.take (1:Nat) (List.drop (0:Nat) [y8])).length=(v5.2.1++List.take (1:Nat) (List.drop (0:Nat) [y8])).length∧
              k6 (IntKind.i64.wrap (v5.1+(1:Int)),v5.2.1++List.take (1:Nat) (List.drop (0:Nat) [y8]),()))
     (P (List.take v5.2.1.length (List.drop (0:Nat) v5.2.1))))
   ((0:Int),([]:List Int),PUnit.unit):=by
 refine Ao s.length (fun v=>v.1) (fun j v=>v.2.1=(s.take j).map (Bv y)) rfl (by simp) ?_
 rintro j ⟨i,ys,⟨⟩⟩ K hj hi hR hK
 dsimp only at hi hR⊢
 subst hi hR
 refine Br.dec (fun hl=>?_) fun hl=>?_
 ·have hl:j<s.length:=by omega
  have hy:=h2 _ (List.getElem_mem hl)
  refine ⟨_,Aw hl,_,Lm hy.1 hy.2,rfl,rfl,?_,rfl,rfl,?_⟩
  ·show ((s.take j).map (Bv y)).length+1≤4294967296
   rw [List.length_map,List.length_take];omega
  ·rw [An (by omega)]
   refine hK hl _ rfl ?_
   dsimp only
   rw [List.take_succ_eq_append_getElem hl,List.map_append]
   rfl
 ·have:j=s.length:=by omega
  subst this
  rw [List.drop_zero,List.take_length,List.take_length]
  exact h3
theorem Bdu (p:PP) (s:List Int) (l:Int) (h:Bg p=true∧List.length s≤20∧(∀y∈s,0≤y∧y<p.1)∧En (List.length p.2.2.1) l):fnW tab (look [(160,Jr)]) Vw Try.f129 (p,s,l,()) (fun (z:List Int)=>z=Aa s (Af p.2.2.1 l)):=by
 obtain ⟨hv,hs,hr,hl⟩:=h
 have hv:=valid hv
 have hf:=hv.few
 refine Eq.mp (Bev p s l _) ?_
 have hlo:=Agt hv hl
 have hrow:Nu (Af p.2.2.1 l).length s:=fun y hy=>by have:=hr y hy;omega
 obtain ⟨k,hk,rfl|rfl⟩:=Na hl
 ·rw [if_pos rfl,Bj (n:=0-((k:Int)+1)) (by omega) (by omega),if_neg (by omega),Bj (by omega) (by omega),show (k:Int)+1-1=(k:Int) by omega]
  refine ⟨_,Aw hk,Br.dec (fun hn=>by omega) fun _=>⟨rfl,rfl,?_⟩⟩
  rw [Ma hk] at hrow⊢
  exact At0 s _ (fun z=>z=Aa s p.2.2.1[k]) hs hrow rfl
 ·rw [if_pos rfl,Bj (n:=0- -((k:Int)+1)) (by omega) (by omega),if_pos (by omega),Bj (by omega) (by omega),show (0:Int)- -((k:Int)+1)-1=(k:Int) by omega]
  refine ⟨_,Aw hk,Br.dec (fun _=>⟨_,if_pos (hv.perm _ (List.getElem_mem hk)),rfl,rfl,?_⟩) fun hn=>by omega⟩
  rw [Lz hk] at hrow⊢
  exact At0 s (Ak p.2.2.1[k]) (fun z=>z=Aa s (Ak p.2.2.1[k])) hs hrow rfl
theorem Afw:Sound Try.prog 129 Vw:=
 Sound.mkS Cc (Ag Afz As) mixed Try.func129 (by kernel_rfl) (by kernel_rfl) fun x h=>Bdu x.1 x.2.1 x.2.2.1 h
end Go.Proofs.Ytebabhocakedaaa

namespace Go.Proofs.Ytebabhocakedaaa
open Go.RowKit
abbrev rL:CK:= .row tI 2
abbrev xLL:CK:= .xrow tL 25
def Gf (k:Int) (n:Nat):List Int:=(List.range n).map fun i=>k+(i:Nat)
def Fy:Int→List (List Int)→List (List Int)
 |_,[]=> []
 |k,r::rs=>Gf k r.length::Fy (k+r.length) rs
def Ck:List (List Int)→Nat
 | []=>0
 |r::rs=>r.length+Ck rs
def low (k:Int):Prop:=0≤k∧k≤1099511627776
noncomputable abbrev Nk:Bl:=mkM [none,none] [(true,rL),(false, .dat tI)] false [none] [.dat tI] (fun x=>short x.1∧low x.2.1) (fun x=>((x.2.1+List.length x.1,()),(Gf x.2.1 (List.length x.1),())))
noncomputable abbrev Vx:Bl:=mkM [none,none] [(true,xLL),(false, .dat tI)] false [none] [.dat tI] (fun x=>Fk x.1∧low x.2.1∧low (x.2.1+Ck x.1)) (fun x=>((x.2.1+Ck x.1,()),(Fy x.2.1 x.1,())))
noncomputable abbrev Kp:Bl:=mkM [some 3,none] [(false, .dat tI),(false, .dat .str),(true,xLL),(false, .dat tI)] false [none] [.dat tI]
 (fun x=>Fk x.2.2.1∧low x.2.2.2.1∧low (x.2.2.2.1+Ck x.2.2.1)) (fun x=>((x.2.2.2.1+Ck x.2.2.1,()),(Fy x.2.2.2.1 x.2.2.1,())))
def Aff (xs:List Int) (k:Int):Int:=if xs=Gf k xs.length then k+xs.length else-1
noncomputable abbrev Xw:Spec:=mkS (.pair tL (.pair tI .unit)) tI false true (fun x=>short x.1∧low x.2.1) (fun x=>Aff x.1 x.2.1)
noncomputable abbrev Ld:Bl:=mkM [none] [(false, .dat tL)] false [none] [rL] (fun x=>short x.1) (fun x=>((x.1,()),()))
noncomputable abbrev Ac3:Bl:=mkM [none] [(false, .dat tLL)] false [none] [xLL] (fun x=>Fk x.1) (fun x=>((x.1,()),()))
noncomputable abbrev Iu:Bl:=mkM [some 3] [(false, .dat tI),(false, .dat .str),(false, .dat tLL)] false [some 3] [.dat tI, .dat .str,xLL] (fun x=>Cg (x.1,x.2.1,x.2.2.1,())) (fun x=>((x.1,x.2.1,x.2.2.1,()),()))
theorem Bge (xs:List Int) (k:Int) (P:((Int×Unit)×List Int×Unit)→Prop):((0:Nat)=(0:Nat)∧
 xs.length=xs.length∧
  Bx
   (fun (v3:Int×Int×List Int×PUnit) (k4:Int×Int×List Int×PUnit→Prop)=>
    Br (decide (v3.2.1<(↑v3.2.2.1.length:Int)))
     (((0:Int)≤v3.2.1∧v3.2.1<(↑v3.2.2.1.length:Int))∧
      (0:Nat)+v3.2.1.toNat<v3.2.2.1.length∧
       (0:Nat)=(0:Nat)∧
        v3.2.2.1.length=(v3.2.2.1.set ((0:Nat)+v3.2.1.toNat) v3.1).length∧
         k4 (IntKind.i64.wrap (v3.1+(1:Int)),IntKind.i64.wrap (v3.2.1+(1:Int)),v3.2.2.1.set ((0:Nat)+v3.2.1.toNat) v3.1,()))
     (P ((v3.1,()),v3.2.2.1,())))
   (k,(0:Int),xs,PUnit.unit))=Hy Mu (look []) Nk Try.f31 (xs,k,()) P:=by kernel_rfl
theorem Bey (xs:List (List Int)) (k:Int) (P:((Int×Unit)×List (List Int)×Unit)→Prop):((0:Nat)=(0:Nat)∧
 xs.length=xs.length∧
  Bx
   (fun (v3:Int×Int×List (List Int)×PUnit) (k4:Int×Int×List (List Int)×PUnit→Prop)=>
    Br (decide (v3.2.1<(↑v3.2.2.1.length:Int)))
     (((0:Int)≤v3.2.1∧v3.2.1<(↑v3.2.2.1.length:Int))∧
      ∃(y5:List Int),
       v3.2.2.1[(0:Nat)+v3.2.1.toNat]?=some y5∧
        ∃(y6:List Int),
         v3.2.2.1[(0:Nat)+v3.2.1.toNat]?=some y6∧
          ∃(y7:(Int×PUnit)×List Int×PUnit),
           Nk.fn (y6,v3.1,())=some y7∧
            ∃(y8:List Int),
             v3.2.2.1[(0:Nat)+v3.2.1.toNat]?=some y8∧
              y7.2.1.length=y8.length∧
               (0:Nat)=(0:Nat)∧
                v3.2.2.1.length=(v3.2.2.1.set ((0:Nat)+v3.2.1.toNat) y7.2.1).length∧
                 k4 (y7.1.1,IntKind.i64.wrap (v3.2.1+(1:Int)),v3.2.2.1.set ((0:Nat)+v3.2.1.toNat) y7.2.1,()))
     (P ((v3.1,()),v3.2.2.1,())))
   (k,(0:Int),xs,PUnit.unit))=Hy Mu (look [(31,Nk)]) Vx Try.f74 (xs,k,()) P:=by kernel_rfl
theorem Asm (n:Int) (s:ByteArray) (b:List (List Int)) (k:Int) (P:((Int×Unit)×List (List Int)×Unit)→Prop):((0:Nat)=(0:Nat)∧
 b.length=b.length∧ ∃(y5:(Int×PUnit)×List (List Int)×PUnit),Vx.fn (b,k,())=some y5∧(y5.2.1.length=b.length∧b.length=b.length)∧P ((y5.1.1,()),y5.2.1,()))=Hy Mu (look [(74,Vx)]) Kp Try.f30 (n,s,b,k,()) P:=by kernel_rfl
theorem Bgc (xs:List Int) (k:Int) (P:Int→Prop):(Bx
 (fun (v3:Int×Int×PUnit) (k4:Int×Int×PUnit→Prop)=>
  Br (decide (v3.2.1<(↑xs.length:Int)))
   (∃(y5:Int),idx xs v3.2.1=some y5∧Br (y5 !=v3.1) (P (-1:Int)) (k4 (IntKind.i64.wrap (v3.1+(1:Int)),IntKind.i64.wrap (v3.2.1+(1:Int)),()))) (P v3.1))
 (k,(0:Int),PUnit.unit))=fnW tab (look []) Xw Try.f44 (xs,k,()) P:=by kernel_rfl
theorem Bi1 (xs:List Int) (P:((List Int×Unit)×Unit)→Prop):(((0:Int)≤(↑xs.length:Int)∧(↑xs.length:Int)<(↑Ap:Int)+(1:Int))∧
 (↑xs.length:Int)=(↑xs.length:Int)∧
  (0:Nat)=(0:Nat)∧
   (List.replicate (↑xs.length:Int).toNat (Int.ofNat (nat_lit 0))).length=(List.replicate (↑xs.length:Int).toNat (Int.ofNat (nat_lit 0))).length∧
    Bx
     (fun (v2:Int×List Int×PUnit) (k3:Int×List Int×PUnit→Prop)=>
      Br (decide (v2.1<(↑xs.length:Int)))
       (∃(y4:Int),
        idx xs v2.1=some y4∧
         ((0:Int)≤v2.1∧v2.1<(↑v2.2.1.length:Int))∧
          (0:Nat)+v2.1.toNat<v2.2.1.length∧
           (0:Nat)=(0:Nat)∧
            v2.2.1.length=(v2.2.1.set ((0:Nat)+v2.1.toNat) y4).length∧k3 (IntKind.i64.wrap (v2.1+(1:Int)),v2.2.1.set ((0:Nat)+v2.1.toNat) y4,()))
       (P ((List.take v2.2.1.length (List.drop (0:Nat) v2.2.1),()),())))
     ((0:Int),List.replicate (↑xs.length:Int).toNat (Int.ofNat (nat_lit 0)),PUnit.unit))=Hy Mu (look []) Ld Try.f18 (xs,()) P:=by kernel_rfl
theorem Bgj (xs:List (List Int)) (P:((List (List Int)×Unit)×Unit)→Prop):(((0:Int)≤(↑xs.length:Int)∧(↑xs.length:Int)<(↑Ap:Int)+(1:Int))∧
 (↑xs.length:Int)=(↑xs.length:Int)∧
  (0:Nat)=(0:Nat)∧
   (List.replicate (↑xs.length:Int).toNat ([]:List Int)).length=(List.replicate (↑xs.length:Int).toNat ([]:List Int)).length∧
    Bx
     (fun (v2:Int×List (List Int)×PUnit) (k3:Int×List (List Int)×PUnit→Prop)=>
      Br (decide (v2.1<(↑xs.length:Int)))
       (∃(y4:List Int),
        idx xs v2.1=some y4∧
         ∃(y5:(List Int×PUnit)×PUnit),
          Ld.fn (y4,())=some y5∧
           ((0:Int)≤v2.1∧v2.1<(↑v2.2.1.length:Int))∧
            (0:Nat)+v2.1.toNat<v2.2.1.length∧
             (0:Nat)=(0:Nat)∧
              v2.2.1.length=(v2.2.1.set ((0:Nat)+v2.1.toNat) (List.take y5.1.1.length (List.drop (0:Nat) y5.1.1))).length∧
               k3 (IntKind.i64.wrap (v2.1+(1:Int)),v2.2.1.set ((0:Nat)+v2.1.toNat) (List.take y5.1.1.length (List.drop (0:Nat) y5.1.1)),()))
       (P ((List.take v2.2.1.length (List.drop (0:Nat) v2.2.1),()),())))
     ((0:Int),List.replicate (↑xs.length:Int).toNat ([]:List Int),PUnit.unit))=Hy Mu (look [(18,Ld)]) Ac3 Try.f35 (xs,()) P:=by kernel_rfl
theorem Awc (n:Int) (s:ByteArray) (b:List (List Int)) (P:((Int×ByteArray×List (List Int)×Unit)×Unit)→Prop):(∃(y4:(List (List Int)×PUnit)×PUnit),Ac3.fn (b,())=some y4∧P ((n,s,List.take y4.1.1.length (List.drop (0:Nat) y4.1.1),()),()))=Hy Mu (look [(35,Ac3)]) Iu Try.f17 (n,s,b,()) P:=by kernel_rfl
theorem Bi {α:Type} (xs:List α):List.take xs.length (List.drop 0 xs)=xs:=by rw [List.drop_zero,List.take_length]
theorem Ke (k:Int) (n:Nat):(Gf k n).length=n:=by simp [Gf]
theorem Afg (k:Int) (n:Nat):Gf k (n+1)=Gf k n++ [k+(n:Nat)]:=by simp [Gf,List.range_succ]
theorem Aah (a b:List (List Int)):Ck (a++b)=Ck a+Ck b:=by
 induction a with
 |nil=>simp [Ck]
 |cons r a ih=>simp only [List.cons_append,Ck,ih];omega
theorem Vs: ∀(a b:List (List Int)) (k:Int),Fy k (a++b)=Fy k a++Fy (k+Ck a) b
 | [],b,k=>by simp [Fy,Ck]
 |r::a,b,k=>by
  simp only [List.cons_append,Fy,Ck,Vs a b]
  congr 3
  omega
theorem Un: ∀(xs:List (List Int)) (k:Int),(Fy k xs).length=xs.length
 | [],_=>rfl
 |r::xs,k=>by simp [Fy,Un xs]
theorem Aqx {xs:List (List Int)} {j:Nat} (h:j<xs.length):Ck (xs.drop j)=xs[j].length+Ck (xs.drop (j+1)):=by
 rw [List.drop_eq_getElem_cons h];rfl
theorem Aqy {xs:List (List Int)} {j:Nat} (h:j<xs.length):Ck (xs.take (j+1))=Ck (xs.take j)+xs[j].length:=by
 rw [List.take_succ_eq_append_getElem h,Aah];simp [Ck]
theorem Amx (xs:List (List Int)) (j:Nat):Ck (xs.take j)+Ck (xs.drop j)=Ck xs:=by
 rw [←Aah,List.take_append_drop]
theorem Bfs (xs:List Int) (k:Int) (h:short xs∧low k):Hy Mu (look []) Nk Try.f31 (xs,k,()) (fun (z:(Int×Unit)×List Int×Unit)=>z=((k+xs.length,()),(Gf k xs.length,()))):=by
 obtain ⟨h1,h2,h3⟩:=h
 unfold short at h1
 refine Eq.mp (Bge xs k _) ⟨rfl,rfl,?_⟩
 refine Ao xs.length (fun v=>v.2.1) (fun j v=>v.1=k+(j:Nat)∧v.2.2.1.length=xs.length∧v.2.2.1.take j=Gf k j) rfl ⟨by simp,rfl,by simp [Gf]⟩ ?_
 rintro j ⟨k',i,ys,⟨⟩⟩ K hj hi ⟨g1,g2,g3⟩ hK
 dsimp only at hi g1 g2 g3⊢
 subst hi;subst g1
 refine Br.dec (fun hl=>?_) fun hl=>?_
 ·have hl:j<ys.length:=by omega
  refine ⟨⟨by omega,by omega⟩,by rw [Int.toNat_natCast];omega,rfl,by rw [List.length_set],?_⟩
  rw [An (by omega),Int.toNat_natCast,Nat.zero_add,Bj (by omega) (by omega)]
  refine hK (by omega) _ rfl ⟨by dsimp only;omega,by rw [List.length_set];exact g2,?_⟩
  rw [List.take_succ_eq_append_getElem (by rw [List.length_set];exact hl),List.take_set_of_le (Nat.le_refl j),g3,List.getElem_set_self,Afg]
 ·have hj':j=xs.length:=by omega
  subst hj'
  rw [←g2,List.take_length,g2] at g3
  rw [g3]
theorem Ain:Bn Try.prog 31 Nk:=
 Bn.mkM Mh As mixed Try.func31 (by kernel_rfl) (by kernel_rfl) fun x h=>Bfs x.1 x.2.1 h
theorem Bdx (xs:List (List Int)) (k:Int) (h:Fk xs∧low k∧low (k+Ck xs)):Hy Mu (look [(31,Nk)]) Vx Try.f74 (xs,k,()) (fun (z:(Int×Unit)×List (List Int)×Unit)=>z=((k+Ck xs,()),(Fy k xs,()))):=by
 obtain ⟨⟨h1,h4⟩,⟨h2,h3⟩,h5,h6⟩:=h
 refine Eq.mp (Bey xs k _) ⟨rfl,rfl,?_⟩
 refine Ao xs.length (fun v=>v.2.1) (fun j v=>v.1=k+(Ck (xs.take j):Nat)∧v.2.2.1.length=xs.length∧v.2.2.1.take j=Fy k (xs.take j)∧v.2.2.1.drop j=xs.drop j) rfl ⟨by simp [Ck],rfl,by simp [Fy],rfl⟩ ?_
 rintro j ⟨k',i,ys,⟨⟩⟩ K hj hi ⟨g1,g2,g3,g4⟩ hK
 dsimp only at hi g1 g2 g3 g4⊢
 subst hi;subst g1
 refine Br.dec (fun hl=>?_) fun hl=>?_
 ·have hl:j<ys.length:=by omega
  have hlx:j<xs.length:=by omega
  have hy:ys[j]?=some xs[j]:=by
   have:(ys.drop j)[0]?=(xs.drop j)[0]?:=by rw [g4]
   simpa [List.getElem?_drop,List.getElem?_eq_getElem hlx] using this
  have hsp:=Amx xs j
  have htk:=Aqy hlx
  have hdr:=Aqx hlx
  refine ⟨⟨by omega,by omega⟩,?_⟩
  simp only [Int.toNat_natCast,Nat.zero_add]
  have hlow:low (k+(Ck (xs.take j):Nat)):=⟨by omega,by omega⟩
  refine ⟨_,hy,_,hy,_,if_pos ⟨h4 _ (List.getElem_mem hlx),hlow⟩,_,hy,Ke _ _,trivial,by rw [List.length_set],?_⟩
  rw [An (by omega)]
  refine hK hlx _ rfl ⟨by dsimp only;omega,by rw [List.length_set];exact g2,?_,?_⟩
  ·rw [List.take_succ_eq_append_getElem (by rw [List.length_set];exact hl),List.take_set_of_le (Nat.le_refl j),g3,List.getElem_set_self,List.take_succ_eq_append_getElem hlx,Vs]
   rfl
  ·dsimp only
   rw [List.drop_set_of_lt (by omega)]
   have e1:ys.drop (j+1)=(ys.drop j).drop 1:=by rw [List.drop_drop]
   rw [e1,g4,List.drop_drop]
 ·have hj':j=xs.length:=by omega
  subst hj'
  rw [←g2,List.take_length,g2,List.take_length] at g3
  rw [g3,List.take_length]
theorem Ary:Bn Try.prog 74 Vx:=
 Bn.mkM Mh (Es Ain As) mixed Try.func74 (by kernel_rfl) (by kernel_rfl) fun x h=>Bdx x.1 x.2.1 h
theorem Ar7 (n:Int) (s:ByteArray) (b:List (List Int)) (k:Int) (h:Fk b∧low k∧low (k+Ck b)):Hy Mu (look [(74,Vx)]) Kp Try.f30 (n,s,b,k,()) (fun (z:(Int×Unit)×List (List Int)×Unit)=>z=((k+Ck b,()),(Fy k b,()))):=by
 exact Eq.mp (Asm n s b k _) ⟨rfl,rfl,_,if_pos h,⟨Un _ _,rfl⟩,rfl⟩
theorem Ahh:Bn Try.prog 30 Kp:=
 Bn.mkM Mh (Es Ary As) mixed Try.func30 (by kernel_rfl) (by kernel_rfl) fun x h=>Ar7 x.1 x.2.1 x.2.2.1 x.2.2.2.1 h
theorem Bfq (xs:List Int) (k:Int) (h:short xs∧low k):fnW tab (look []) Xw Try.f44 (xs,k,()) (fun (z:Int)=>z=Aff xs k):=by
 obtain ⟨h1,h2,h3⟩:=h
 unfold short at h1
 refine Eq.mp (Bgc xs k _) ?_
 refine Ao xs.length (fun v=>v.2.1) (fun j v=>v.1=k+(j:Nat)∧xs.take j=Gf k j) rfl ⟨by simp,by simp [Gf]⟩ ?_
 rintro j ⟨k',i,⟨⟩⟩ K hj hi ⟨g1,g3⟩ hK
 dsimp only at hi g1 g3⊢
 subst hi;subst g1
 refine Br.dec (fun hl=>?_) fun hl=>?_
 ·have hl:j<xs.length:=by omega
  refine ⟨_,Aw hl,fun hne=>?_,fun he=>?_⟩
  ·simp only [bne_iff_ne,ne_eq] at hne
   unfold Aff
   rw [if_neg]
   intro he
   refine hne ?_
   have e1:xs[j]?=(Gf k xs.length)[j]?:=by rw [←he]
   rw [List.getElem?_eq_getElem hl] at e1
   simpa [Gf,hl] using e1
  ·simp only [bne_eq_false_iff_eq] at he
   rw [An (by omega),Bj (by omega) (by omega)]
   refine hK hl _ rfl ⟨by dsimp only;omega,?_⟩
   rw [List.take_succ_eq_append_getElem hl,g3,he,Afg]
 ·have hj':j=xs.length:=by omega
  subst hj'
  rw [List.take_length] at g3
  exact (if_pos g3).symm
theorem Avl:Sound Try.prog 44 Xw:=
 Sound.mkS Cc As mixed Try.func44 (by kernel_rfl) (by kernel_rfl) fun x h=>Bfq x.1 x.2.1 h
theorem Acq (k:Int) (n:Nat):Aff (Gf k n) k=k+n:=by unfold Aff;rw [Ke,if_pos rfl]
theorem Bhj (xs:List Int) (h:short xs):Hy Mu (look []) Ld Try.f18 (xs,()) (fun (z:(List Int×Unit)×Unit)=>z=((xs,()),())):=by
 unfold short at h
 refine Eq.mp (Bi1 xs _) ?_
 refine ⟨⟨by omega,by show (xs.length:Int)<(4294967296:Int)+1;omega⟩,rfl,rfl,rfl,?_⟩
 refine Ao xs.length (fun v=>v.1) (fun j v=>v.2.1.length=xs.length∧v.2.1.take j=xs.take j) rfl ⟨by simp,by simp⟩ ?_
 rintro j ⟨i,ys,⟨⟩⟩ K hj hi ⟨h1,h2⟩ hK
 dsimp only at hi h1 h2⊢
 subst hi
 refine Br.dec (fun hl=>?_) fun hl=>?_
 ·have hl:j<xs.length:=by omega
  refine ⟨_,Aw hl,⟨by omega,by omega⟩,by rw [Int.toNat_natCast];omega,rfl,by rw [List.length_set],?_⟩
  rw [An (by omega),Int.toNat_natCast,Nat.zero_add]
  exact hK hl _ rfl ⟨by rw [List.length_set];exact h1,Js hl h1 h2⟩
 ·have:j=xs.length:=by omega
  subst this
  rw [List.take_length,←h1,List.take_length] at h2
  rw [Bi,h2]
theorem Am6:Bn Try.prog 18 Ld:=
 Bn.mkM Mh As mixed Try.func18 (by kernel_rfl) (by kernel_rfl) fun x h=>Bhj x.1 h
theorem Bfx (xs:List (List Int)) (h:Fk xs):Hy Mu (look [(18,Ld)]) Ac3 Try.f35 (xs,()) (fun (z:(List (List Int)×Unit)×Unit)=>z=((xs,()),())):=by
 obtain ⟨h,h4⟩:=h
 refine Eq.mp (Bgj xs _) ?_
 refine ⟨⟨by omega,by show (xs.length:Int)<(4294967296:Int)+1;omega⟩,rfl,rfl,rfl,?_⟩
 refine Ao xs.length (fun v=>v.1) (fun j v=>v.2.1.length=xs.length∧v.2.1.take j=xs.take j) rfl ⟨by simp,by simp⟩ ?_
 rintro j ⟨i,ys,⟨⟩⟩ K hj hi ⟨h1,h2⟩ hK
 dsimp only at hi h1 h2⊢
 subst hi
 refine Br.dec (fun hl=>?_) fun hl=>?_
 ·have hl:j<xs.length:=by omega
  refine ⟨_,Aw hl,_,if_pos (h4 _ (List.getElem_mem hl)),⟨by omega,by omega⟩,by rw [Int.toNat_natCast];omega,rfl,by rw [List.length_set],?_⟩
  rw [An (by omega),Int.toNat_natCast,Nat.zero_add]
  dsimp only
  rw [Bi]
  exact hK hl _ rfl ⟨by rw [List.length_set];exact h1,Js hl h1 h2⟩
 ·have:j=xs.length:=by omega
  subst this
  rw [List.take_length,←h1,List.take_length] at h2
  rw [Bi,h2]
theorem Avq:Bn Try.prog 35 Ac3:=
 Bn.mkM Mh (Es Am6 As) mixed Try.func35 (by kernel_rfl) (by kernel_rfl) fun x h=>Bfx x.1 h
theorem Av8 (n:Int) (s:ByteArray) (b:List (List Int)) (h:Cg (n,s,b,())):Hy Mu (look [(35,Ac3)]) Iu Try.f17 (n,s,b,()) (fun (z:(Int×ByteArray×List (List Int)×Unit)×Unit)=>z=((n,s,b,()),())):=by
 refine Eq.mp (Awc n s b _) ⟨_,if_pos h.2,?_⟩
 simp only [Bi]
theorem Aj9:Bn Try.prog 17 Iu:=
 Bn.mkM Mh (Es Avq As) mixed Try.func17 (by kernel_rfl) (by kernel_rfl) fun x h=>Av8 x.1 x.2.1 x.2.2.1 h
end Go.Proofs.Ytebabhocakedaaa

namespace Go.Proofs.Ytebabhocakedaaa
open Go.RowKit
theorem Ih (a:List Int):Hj a a=true:=by simp [Hj]
theorem Bek {n:Nat} {room:Int} (h: ¬Agv n room<0):Agv n room=room-n∧(n:Int)≤room:=by
 unfold Agv at*
 split at h
 ·exact absurd (show (-1:Int)<0 by decide) h
 ·rename_i h1;rw [if_neg h1];exact ⟨rfl,by omega⟩
theorem Avx: ∀(xs:List (List Int)) (room:Int),0≤room→ ¬Avw xs room<0→Avw xs room=room-Ck xs
 | [],room,_,_=>by simp [Avw,Ck]
 |r::xs,room,h0,h=>by
  simp only [Avw,Ck] at h⊢
  split at h
  ·exact absurd (show (-1:Int)<0 by decide) h
  ·rename_i h1
   rw [if_neg h1]
   have e1:=Bek (n:=r.length) h1
   have e1:Afi r room=room-r.length∧(r.length:Int)≤room:=e1
   rw [Avx xs _ (by rw [e1.1];omega) h,e1.1]
   omega
theorem Bei {xs:List (List Int)} {room:Int} (h: ¬Uo xs room<0):Uo xs room=room-xs.length-Ck xs:=by
 unfold Uo at*
 split at h
 ·exact absurd (show (-1:Int)<0 by decide) h
 ·rename_i h1
  rw [if_neg h1]
  have e1:=Bek h1
  rw [Avx xs _ (by rw [e1.1];omega) h,e1.1]
theorem Awi (k:Int) (n:Nat):List.take n (List.drop 0 (Gf k n))=Gf k n:=by rw [List.drop_zero,List.take_of_length_le (by rw [Ke];exact Nat.le_refl _)]
theorem Ajl:low 1:=⟨by decide,by decide⟩
end Go.Proofs.Ytebabhocakedaaa

namespace Go.Proofs.Ytebabhocakedaaa
open Go.RowKit
theorem Agc {b:Bool} {P:Prop} (h:(!(b==b))=true):P:=by simp at h
end Go.Proofs.Ytebabhocakedaaa

namespace Go.Proofs.Ytebabhocakedaaa
open Go.RowKit
noncomputable abbrev Jc:Spec:=mkS (.pair tL .unit) tL false true (fun x=>short x.1) (fun x=>x.1)
theorem Az4 (xs:List Int) (P:List Int→Prop):((0:Nat)=(0:Nat)∧(0:Nat)=([]:List Int).length∧(0:Nat)+xs.length≤Ap∧P (List.take ([]++xs).length (List.drop (0:Nat) ([]++xs))))=fnW tab (look []) Jc Try.f120 (xs,()) P:=by kernel_rfl
theorem Axx (xs:List Int) (h:short xs):fnW tab (look []) Jc Try.f120 (xs,()) (fun (z:List Int)=>z=xs):=by
 unfold short at h
 refine Eq.mp (Az4 xs _) ⟨rfl,rfl,by show 0+xs.length≤4294967296;omega,?_⟩
 simp only [Bi,List.nil_append]
theorem Ab2:Sound Try.prog 120 Jc:=
 Sound.mkS Cc As mixed Try.func120 (by kernel_rfl) (by kernel_rfl) fun x h=>Axx x.1 h
end Go.Proofs.Ytebabhocakedaaa

namespace Go.Proofs.Ytebabhocakedaaa
open Go.RowKit
def Kt (xs:List Int):ByteArray:=bytesOf (xs.map fun x=>IntKind.u8.wrap x)
noncomputable abbrev Dv:Spec:=mkS (.pair tL .unit) .str false true (fun x=>short x.1) (fun x=>Kt x.1)
def Afn (ps:List (List Int)) (p:List Int):Int:=Dq (fun q=>decide (q=p)) ps 0
theorem Aza (xs:List Int) (P:ByteArray→Prop):(((0:Int)≤(↑xs.length:Int)∧(↑xs.length:Int)<(↑Ap:Int)+(1:Int))∧
 (↑xs.length:Int)=(↑xs.length:Int)∧
  (0:Nat)=(0:Nat)∧
   (List.replicate (↑xs.length:Int).toNat (Int.ofNat (nat_lit 0))).length=(List.replicate (↑xs.length:Int).toNat (Int.ofNat (nat_lit 0))).length∧
    Bx
     (fun (v2:Int×List Int×PUnit) (k3:Int×List Int×PUnit→Prop)=>
      Br (decide (v2.1<(↑xs.length:Int)))
       (∃(y4:Int),
        idx xs v2.1=some y4∧
         ((0:Int)≤v2.1∧v2.1<(↑v2.2.1.length:Int))∧
          (0:Nat)+v2.1.toNat<v2.2.1.length∧
           (0:Nat)=(0:Nat)∧
            v2.2.1.length=(v2.2.1.set ((0:Nat)+v2.1.toNat) (IntKind.u8.wrap y4)).length∧
             k3 (IntKind.i64.wrap (v2.1+(1:Int)),v2.2.1.set ((0:Nat)+v2.1.toNat) (IntKind.u8.wrap y4),()))
       (P (bytesOf (List.take v2.2.1.length (List.drop (0:Nat) v2.2.1)))))
     ((0:Int),List.replicate (↑xs.length:Int).toNat (Int.ofNat (nat_lit 0)),PUnit.unit))=fnW tab (look []) Dv Try.f111 (xs,()) P:=by kernel_rfl
theorem Ay4 (xs:List Int) (h:short xs):fnW tab (look []) Dv Try.f111 (xs,()) (fun (z:ByteArray)=>z=Kt xs):=by
 unfold short at h
 refine Eq.mp (Aza xs _) ?_
 refine ⟨⟨by omega,by show (xs.length:Int)<(4294967296:Int)+1;omega⟩,rfl,rfl,rfl,?_⟩
 have hcl:(xs.map fun x=>IntKind.u8.wrap x).length=xs.length:=by simp
 refine Ao xs.length (fun v=>v.1) (fun j v=>v.2.1.length=(xs.map fun x=>IntKind.u8.wrap x).length∧v.2.1.take j=(xs.map fun x=>IntKind.u8.wrap x).take j) rfl ⟨by rw [hcl];simp,by simp⟩ ?_
 rintro j ⟨i,ys,⟨⟩⟩ K hj hi ⟨h1,h2⟩ hK
 dsimp only at hi h1 h2⊢
 subst hi
 refine Br.dec (fun hl=>?_) fun hl=>?_
 ·have hl:j<xs.length:=by omega
  refine ⟨_,Aw hl,⟨by omega,by omega⟩,by rw [Int.toNat_natCast];omega,rfl,by rw [List.length_set],?_⟩
  rw [An (by omega),Int.toNat_natCast,Nat.zero_add]
  have hl':j<(xs.map fun x=>IntKind.u8.wrap x).length:=by rw [hcl];exact hl
  have e:IntKind.u8.wrap xs[j]=(xs.map fun x=>IntKind.u8.wrap x)[j]:=by simp
  rw [e]
  exact hK hl _ rfl ⟨by rw [List.length_set];exact h1,Js hl' h1 h2⟩
 ·have:j=xs.length:=by omega
  subst this
  rw [←hcl,List.take_length,←h1,List.take_length] at h2
  rw [List.drop_zero,List.take_length,h2];rfl
theorem Ab5:Sound Try.prog 111 Dv:=
 Sound.mkS Cc As mixed Try.func111 (by kernel_rfl) (by kernel_rfl) fun x h=>Ay4 x.1 h
theorem Ys {α:Type} (P:α→Bool) (y:α): ∀(l:List α) (i:Int),0≤i→Dq P (l++ [y]) i=if Dq P l i<0 then (if P y=true then i+l.length else-1) else Dq P l i
 | [],i,_=>by simp [Dq]
 |x::r,i,h=>by
  simp only [List.cons_append,Dq,List.length_cons]
  split
  ·rw [if_neg (by omega)]
  ·rw [Ys P y r (i+1) (by omega),show i+1+(r.length:Int)=i+((r.length+1:Nat):Int) by push_cast;omega]
theorem Ard (ps:List (List Int)) (q p:List Int):Afn (ps++ [q]) p=if Afn ps p<0 then (if q=p then (ps.length:Int) else-1) else Afn ps p:=by
 unfold Afn
 rw [Ys _ _ _ _ (Int.le_refl 0)]
 simp only [decide_eq_true_eq,Int.zero_add]
def Nt (p:List Int):Prop:= ∀x∈p,0≤x∧x<256
theorem Bcx {x y:Int} (hx:0≤x∧x<256) (hy:0≤y∧y<256) (h:UInt8.ofNat (IntKind.u8.wrap x).toNat=UInt8.ofNat (IntKind.u8.wrap y).toNat):x=y:=by
 have h:=congrArg UInt8.toNat h
 simp only [IntKind.wrap_u8,UInt8.toNat_ofNat'] at h
 omega
theorem bytes_inj: ∀(p q:List Int),Nt p→Nt q→(p.map fun x=>UInt8.ofNat (IntKind.u8.wrap x).toNat)=(q.map fun x=>UInt8.ofNat (IntKind.u8.wrap x).toNat)→p=q
 | [],[],_,_,_=>rfl
 | [],_::_,_,_,h=>by simp at h
 |_::_,[],_,_,h=>by simp at h
 |x::p,y::q,hp,hq,h=>by
  simp only [List.map_cons,List.cons.injEq] at h
  rw [Bcx (hp x (by simp)) (hq y (by simp)) h.1,bytes_inj p q (fun z hz=>hp z (by simp [hz])) (fun z hz=>hq z (by simp [hz])) h.2]
theorem key_inj {p q:List Int} (hp:Nt p) (hq:Nt q) (h:Kt p=Kt q):p=q:=by
 refine bytes_inj p q hp hq ?_
 simp only [Kt,bytesOf,ByteArray.mk.injEq,List.map_map] at h
 have h:=congrArg Array.toList h
 simpa [Function.comp_def] using h
def KM (m:ByteArray→Option Int) (ps:List (List Int)):Prop:= ∀p,Nt p→m (Kt p)=if Afn ps p<0 then none else some (Afn ps p)
theorem KM.nil:KM (fun _=>none) []:=fun p _=>by
 rw [if_pos (by unfold Afn;simp [Dq])]
theorem KM.add {m:ByteArray→Option Int} {ps:List (List Int)} {q:List Int} (h:KM m ps) (hq:Nt q) (hn:Afn ps q<0):KM (Fg m (Kt q) (ps.length:Int)) (ps++ [q]):=by
 intro p hp
 rw [Ard]
 unfold Fg
 by_cases e:p=q
 ·subst e
  rw [if_pos rfl,if_pos hn,if_pos rfl,if_neg (by omega)]
 ·rw [if_neg (fun hk=>e (key_inj hp hq hk)),h p hp]
  have e': ¬q=p:=fun h=>e h.symm
  rw [if_neg e']
  by_cases hpn:Afn ps p<0
  ·rw [if_pos hpn,if_pos hpn,if_pos (by decide)]
  ·rw [if_neg hpn,if_neg hpn,if_neg hpn]
end Go.Proofs.Ytebabhocakedaaa

namespace Go.Proofs.Ytebabhocakedaaa
open Go.RowKit
noncomputable abbrev Hm:Spec:=mkS (.pair Cq .unit) tL false true (fun x=>List.length x.1.2.2.1≤8) (fun x=>Ae (List.length x.1.2.2.1))
theorem Aw9 (p:Int×ByteArray×List (List Int)×Unit) (P:List Int→Prop):((0:Nat)=(0:Nat)∧
 (0:Nat)=([]:List Int).length∧
  Bx
   (fun (v2:Int×Int×ByteArray×List (List Int)×List Int×PUnit) (k3:Int×Int×ByteArray×List (List Int)×List Int×PUnit→Prop)=>
    Br (decide (v2.1≤(↑v2.2.2.2.1.length:Int)))
     ((0:Nat)=(0:Nat)∧
      v2.2.2.2.2.1.length=v2.2.2.2.2.1.length∧
       v2.2.2.2.2.1.length+(List.take (2:Nat) (List.drop (0:Nat) [v2.1,IntKind.i64.wrap ((0:Int)-v2.1)])).length≤Ap∧
        (0:Nat)=(0:Nat)∧
         (v2.2.2.2.2.1++List.take (2:Nat) (List.drop (0:Nat) [v2.1,IntKind.i64.wrap ((0:Int)-v2.1)])).length=
           (v2.2.2.2.2.1++List.take (2:Nat) (List.drop (0:Nat) [v2.1,IntKind.i64.wrap ((0:Int)-v2.1)])).length∧
          k3
           (IntKind.i64.wrap (v2.1+(1:Int)),v2.2.1,v2.2.2.1,v2.2.2.2.1,
            v2.2.2.2.2.1++List.take (2:Nat) (List.drop (0:Nat) [v2.1,IntKind.i64.wrap ((0:Int)-v2.1)]),()))
     (P (List.take v2.2.2.2.2.1.length (List.drop (0:Nat) v2.2.2.2.2.1))))
   ((1:Int),p.1,p.2.1,p.2.2.1,[],PUnit.unit))=fnW tab (look []) Hm Try.f142 (p,()) P:=by kernel_rfl
theorem Av4 (p:PP) (h:List.length p.2.2.1≤8):fnW tab (look []) Hm Try.f142 (p,()) (fun (z:List Int)=>z=Ae (List.length p.2.2.1)):=by
 refine Eq.mp (Aw9 p _) ⟨rfl,rfl,?_⟩
 refine Bx.mk (fun v=> ∃j:Nat,j≤List.length p.2.2.1∧v=((j:Int)+1,p.1,p.2.1,p.2.2.1,Ae j,())) (fun v=>List.length p.2.2.1+1-v.1.toNat) ⟨0,Nat.zero_le _,rfl⟩ ?_
 rintro _ ⟨j,hj,rfl⟩
 dsimp only
 refine Br.dec (fun hl=>?_) fun hl=>?_
 ·refine ⟨rfl,rfl,?_,rfl,rfl,⟨j+1,by omega,?_⟩,?_⟩
  ·show (Ae j).length+2≤4294967296
   rw [Jm];omega
  ·rw [Ss,Bj (n:=(j:Int)+1+1) (by omega) (by omega),Bj (n:=0-((j:Int)+1)) (by omega) (by omega),Int.zero_sub]
   rfl
  ·rw [Bj (by omega) (by omega)];omega
 ·have:j=List.length p.2.2.1:=by omega
  subst this
  rw [Bi]
theorem Yz:Sound Try.prog 142 Hm:=
 Sound.mkS Cc As mixed Try.func142 (by kernel_rfl) (by kernel_rfl) fun x h=>Av4 x.1 h
theorem Bej {p:PP} {room:Int} (hr:roomy room) (h: ¬Aag p room<0):(Ck p.2.2.1:Int)≤room-Aag p room∧roomy (Aag p room):=by
 unfold Aag at h⊢
 split at h
 ·exact absurd (show (-1:Int)<0 by decide) h
 ·rename_i h1
  rw [if_neg h1]
  split at h
  ·exact absurd (show (-1:Int)<0 by decide) h
  ·rename_i h2
   rw [if_neg h2]
   have e2:=Bei h2
   obtain ⟨r1,r2⟩:=hr
   unfold roomy
   omega
end Go.Proofs.Ytebabhocakedaaa

namespace Go.Proofs.Ytebabhocakedaaa
open Go.RowKit
def Aqs (v:Int):List Int→Nat
 | []=>0
 |x::r=>if x>v then Aqs v r+1 else 0
def Bfk (v:Int) (t:List Int):Option (List Int):=if Aqs v t=0 then none else some (Bv t ((Aqs v t-1:Nat):Int)::(t.set (Aqs v t-1) v).reverse)
def Aaf:List Int→Option (List Int)
 | []=>none
 |v::t=>match Aaf t with
  |some t'=>some (v::t')
  |none=>Bfk v t
noncomputable abbrev Ew:Bl:=mkM [none] [(false, .dat tL)] false [none] [rL] (fun x=>short x.1) (fun x=>((x.1,()),()))
theorem Aw5 (xs:List Int) (P:((List Int×Unit)×Unit)→Prop):((0:Nat)=(0:Nat)∧(0:Nat)=([]:List Int).length∧(0:Nat)+xs.length≤Ap∧P ((List.take ([]++xs).length (List.drop (0:Nat) ([]++xs)),()),()))=Hy Mu (look []) Ew Try.f120 (xs,()) P:=by kernel_rfl
theorem Auq {s s':List Int} (h:Aaf s=some s'): ∀pre:List Int,Aaf (pre++s)=some (pre++s')
 | []=>h
 |v::p=>by rw [List.cons_append,Aaf,Auq h p];rfl
theorem Bg0 {α:Type} (pre:List α) (v a:α) (t:List α):(pre++v::t).set pre.length a=pre++a::t:=by
 rw [List.set_append,if_neg (by omega)];simp
theorem Av0 (xs:List Int) (h:short xs):Hy Mu (look []) Ew Try.f120 (xs,()) (fun (z:(List Int×Unit)×Unit)=>z=((xs,()),())):=by
 unfold short at h
 refine Eq.mp (Aw5 xs _) ⟨rfl,rfl,by show 0+xs.length≤4294967296;omega,?_⟩
 simp only [Bi,List.nil_append]
theorem Aj2:Bn Try.prog 120 Ew:=
 Bn.mkM Mh As mixed Try.func120 (by kernel_rfl) (by kernel_rfl) fun x h=>Av0 x.1 h
inductive Run:List Int→List (List Int)→List Int→Prop where
 |one (a:List Int):Run a [a] a
 |more {a c b:List Int} {L:List (List Int)} :Aaf a=some c→Run c L b→Run a (a::L) b
theorem Run.cons {a b:List Int} {L:List (List Int)} (h:Run a L b) (v:Int):Run (v::a) (L.map (v:: ·)) (v::b):=by
 induction h with
 |one a=>exact .one _
 |more h3 _ ih=>exact .more (Auq h3 [v]) ih
theorem Run.head {a b:List Int} {L:List (List Int)} (h:Run a L b): ∃M,L=a::M:=by
 cases h with
 |one=>exact ⟨_,rfl⟩
 |more _ _=>exact ⟨_,rfl⟩
theorem Run.at {a b:List Int} {L:List (List Int)} (h:Run a L b): ∀j (hj:j<L.length),(∀h2:j+1<L.length,Aaf L[j]=some L[j+1])∧(j+1=L.length→L[j]=b):=by
 induction h with
 |one a=>
  intro j hj
  simp only [List.length_singleton] at hj
  have:j=0:=by omega
  subst this
  exact ⟨fun h2=>by simp at h2,fun _=>rfl⟩
 |more h3 h4 ih=>
  intro j hj
  rcases j with _|j
  ·obtain ⟨M,hM⟩:=h4.head
   refine ⟨fun h2=>?_,fun h2=>?_⟩
   ·simp only [List.getElem_cons_zero,List.getElem_cons_succ]
    subst hM
    exact h3
   ·subst hM;simp at h2
  ·have:=ih j (by simpa using hj)
   refine ⟨fun h2=>?_,fun h2=>?_⟩
   ·simp only [List.getElem_cons_succ]
    exact this.1 (by simpa using h2)
   ·simp only [List.getElem_cons_succ]
    exact this.2 (by simpa using h2)
theorem Run.distinct {a b:List Int} {L:List (List Int)} (h:Run a L b) (hb:Aaf b=none): ∀k i j (hi:i<L.length) (hj:j<L.length),L.length-j=k→i<j→L[i]≠L[j]:=by
 intro k
 induction k with
 |zero=>intro i j hi hj hk;omega
 |succ k ih=>
  intro i j hi hj hk hij he
  by_cases e:j+1<L.length
  ·have h1:=(h.at i hi).1 (by omega)
   have h2:=(h.at j hj).1 e
   rw [he,h2] at h1
   exact ih (i+1) (j+1) (by omega) e (by omega) (by omega) (Option.some.inj h1).symm
  ·have h1:=(h.at i hi).1 (by omega)
   have h2:=(h.at j hj).2 (by omega)
   rw [he,h2,hb] at h1
   cases h1
theorem Run.idx {a b:List Int} {L:List (List Int)} (h:Run a L b) (hb:Aaf b=none) {j:Nat} (hj:j<L.length):L.idxOf L[j]=j:=by
 have h1:L.idxOf L[j]<L.length:=List.idxOf_lt_length_of_mem (List.getElem_mem _)
 have h2:L[L.idxOf L[j]]=L[j]:=List.getElem_idxOf h1
 rcases Nat.lt_trichotomy (L.idxOf L[j]) j with h3|h3|h3
 ·exact absurd h2 (h.distinct hb _ _ _ h1 hj rfl h3)
 ·exact h3
 ·exact absurd h2.symm (h.distinct hb _ _ _ hj h1 rfl h3)
end Go.Proofs.Ytebabhocakedaaa

namespace Go.Proofs.Ytebabhocakedaaa
open Go.RowKit
def Cf:List Int→List Int→Int
 | [],[]=>0
 | [],_::_=> -1
 |_::_,[]=>1
 |x::a,y::b=>if x<y then-1 else if x>y then 1 else Cf a b
def Xe (a b:List Int):Bool:=decide (Cf a b<0)
noncomputable abbrev Ah9:Spec:=mkS (.pair (.oslice tI) .unit) tL false true (fun x=>short (x.1.getD [])) (fun x=>x.1.getD [])
noncomputable abbrev Aft:Spec:=mkS (.pair tL .unit) tL false true (fun x=>short x.1) (fun x=>x.1)
noncomputable abbrev Ou:Spec:=mkS (.pair tL (.pair tL .unit)) .bool false true (fun x=>short x.1∧List.length x.1=List.length x.2.1) (fun x=>Xe x.1 x.2.1)
theorem Bc7 (xs:Option (List Int)) (P:List Int→Prop):(Br xs.isNone (P (List.take (0:Nat) (List.drop (0:Nat) [])))
 ((0:Nat)=(0:Nat)∧(0:Nat)=([]:List Int).length∧(0:Nat)+(xs.getD []).length≤Ap∧P (List.take ([]++xs.getD []).length (List.drop (0:Nat) ([]++xs.getD [])))))=fnW tab (look []) Ah9 Try.f121 (xs,()) P:=by kernel_rfl
theorem Az7 (a b:List Int) (P:Bool→Prop):(Bx
 (fun (v3:Int×PUnit) (k4:Int×PUnit→Prop)=>
  Br (decide (v3.1<(↑a.length:Int)))
   (∃(y5:Int),
    idx a v3.1=some y5∧
     ∃(y6:Int),
      idx b v3.1=some y6∧
       Br (y5 !=y6) (∃(y7:Int),idx a v3.1=some y7∧ ∃(y8:Int),idx b v3.1=some y8∧P (decide (y7<y8))) (k4 (IntKind.i64.wrap (v3.1+(1:Int)),())))
   (P false))
 ((0:Int),PUnit.unit))=fnW tab (look []) Ou Try.f135 (a,b,()) P:=by kernel_rfl
theorem Sound.ofO {P:Program} {f:FuncId} {e:Ty} {r res:Ty} {multi fresh:Bool} {pre:(Ty.pair (.oslice e) r).den→Prop} {val:(Ty.pair (.oslice e) r).den→res.den} {pre':(Ty.pair (.slice e) r).den→Prop} {val':(Ty.pair (.slice e) r).den→res.den}
  (h:Sound P f (Go.Proofs.Ytebabhocakedaaa.mkS (.pair (.oslice e) r) res multi fresh pre val))
  (hp: ∀(o:Option (List e.den)) (y:r.den),pre' (o.getD [],y)→pre (o,y)∧val (o,y)=val' (o.getD [],y)):Sound P f (Go.Proofs.Ytebabhocakedaaa.mkS (.pair (.slice e) r) res multi fresh pre' val'):=by
 refine ⟨h.enter,fun w S vs x y hS h2 h5=>?_⟩
 obtain ⟨xs,rest⟩:=x
 cases vs with
 |nil=>exact h2.elim
 |cons u us=>
  obtain ⟨h7,h8⟩:=h2
  obtain ⟨ox,h9,rfl⟩:=h7.told
  have hpre:pre' (ox.getD [],rest):=Classical.byContradiction fun hn=>by
   have:(Go.Proofs.Ytebabhocakedaaa.mkS (.pair (.slice e) r) res multi fresh pre' val').fn (ox.getD [],rest)=none:=if_neg hn
   rw [this] at h5;cases h5
  obtain ⟨k1,k2⟩:=hp ox rest hpre
  have hv:(Go.Proofs.Ytebabhocakedaaa.mkS (.pair (.slice e) r) res multi fresh pre' val').fn (ox.getD [],rest)=some (val' (ox.getD [],rest)):=if_pos hpre
  rw [hv] at h5
  have h5:=Option.some.inj h5
  exact h.calls w S (u::us) (ox,rest) y hS ⟨h9,h8⟩ ((if_pos k1).trans (by rw [k2];exact congrArg some h5))
theorem Bb4 (xs:Option (List Int)) (h:short (xs.getD [])):fnW tab (look []) Ah9 Try.f121 (xs,()) (fun (z:List Int)=>z=xs.getD []):=by
 unfold short at h
 refine Eq.mp (Bc7 xs _) ⟨fun hn=>?_,fun _=>⟨rfl,rfl,by show 0+(xs.getD []).length≤4294967296;omega,?_⟩⟩
 ·cases xs with
  |none=>rfl
  |some y=>cases hn
 ·simp only [Bi,List.nil_append]
theorem Ani:Sound Try.prog 121 Ah9:=
 Sound.mkS Cc As mixed Try.func121 (by kernel_rfl) (by kernel_rfl) fun x h=>Bb4 x.1 h
theorem Arv:Sound Try.prog 121 Aft:=Sound.ofO Ani fun _ _ h=>⟨h,rfl⟩
theorem Ay1 (a b:List Int) (h:short a∧a.length=b.length):fnW tab (look []) Ou Try.f135 (a,b,()) (fun (z:Bool)=>z=Xe a b):=by
 obtain ⟨ha,hb⟩:=h
 unfold short at ha
 refine Eq.mp (Az7 a b _) ?_
 refine Ao a.length (fun v=>v.1) (fun j _=>Cf (a.drop j) (b.drop j)=Cf a b) rfl (by simp) ?_
 rintro j ⟨i,⟨⟩⟩ K hj hi hR2 hK
 dsimp only at hi⊢
 subst hi
 refine Br.dec (fun hl=>?_) fun hl=>?_
 ·have hl:j<a.length:=by omega
  have hlb:j<b.length:=by omega
  rw [List.drop_eq_getElem_cons hl,List.drop_eq_getElem_cons hlb] at hR2
  simp only [Cf] at hR2
  refine ⟨_,Aw hl,_,Aw hlb,⟨fun hne=>?_,fun hne=>?_⟩⟩
  ·refine ⟨_,Aw hl,_,Aw hlb,?_⟩
   have hne:a[j]≠b[j]:=by simpa using hne
   unfold Xe
   rw [←hR2]
   by_cases h1:a[j]<b[j]
   ·rw [if_pos h1];simp [h1]
   ·rw [if_neg h1,if_pos (by omega)];simp [h1]
  ·have hne:a[j]=b[j]:=by simpa using hne
   rw [if_neg (by omega),if_neg (by omega)] at hR2
   rw [An (by omega)]
   exact hK hl _ rfl hR2
 ·have:j=a.length:=by omega
  subst this
  rw [List.drop_length,List.drop_eq_nil_of_le (by omega)] at hR2
  unfold Xe
  rw [←hR2]
  rfl
theorem Am2:Sound Try.prog 135 Ou:=
 Sound.mkS Cc As mixed Try.func135 (by kernel_rfl) (by kernel_rfl) fun x h=>Ay1 x.1 x.2.1 h
end Go.Proofs.Ytebabhocakedaaa

namespace Go.Proofs.Ytebabhocakedaaa
open Go.RowKit
abbrev SS:Type:=List (List Int)×List Int×List Int×Bool×Unit
abbrev rLS:CK:= .row tL 25
abbrev rN:CK:= .row tI 3
def Cy (L:List (List Int)) (srt:List Int) (s:List Int):Nat:=(srt.takeWhile fun i=>Xe (L.getD i.toNat []) s).length
structure Cp (m:Nat) (L:List (List Int)) (srt:List Int):Prop where
 few:L.length≤3000
 len: ∀x∈L,x.length=m
 short:m≤20
 perm:srt.Perm (upto L.length)
 sorted:srt.Pairwise fun i j=>Xe (L.getD i.toNat []) (L.getD j.toNat [])=true
def Ts (L:List (List Int)) (s:List Int):Int:=if s∈L then (L.idxOf s:Int) else-1
def Nv (srt:List Int) (k:Nat) (x:Int):List Int:=srt.take k++x::srt.drop k
noncomputable abbrev Xy:Spec:=mkS (.pair Np (.pair tL .unit)) tI false true (fun x=>Cp (List.length x.2.1) x.1.1 x.1.2.2.1) (fun x=>(Cy x.1.1 x.1.2.2.1 x.2.1:Int))
noncomputable abbrev Gt:Spec:=mkS (.pair Np (.pair tL .unit)) tI false true (fun x=>Cp (List.length x.2.1) x.1.1 x.1.2.2.1) (fun x=>Ts x.1.1 x.2.1)
noncomputable abbrev Ae8:Bl:=mkM [some 4,none,none] [(false,rLS),(false,rL),(false,rN),(false, .dat .bool),(false, .dat tL),(false, .dat tI)] false [some 4] [rLS,rL,rN, .dat .bool]
 (fun x=>Cp (List.length x.2.2.2.2.1) x.1 x.2.2.1∧List.length x.2.1≤3000) (fun x=>((x.1++ [x.2.2.2.2.1],x.2.1++ [x.2.2.2.2.2.1],Nv x.2.2.1 (Cy x.1 x.2.2.1 x.2.2.2.2.1) (List.length x.1),x.2.2.2.1,()),()))
def Qc (L:List (List Int)):List Int:=(List.range L.length).foldl (fun (S:List Int) (i:Nat)=>Nv S (Cy (L.take i) S (L.getD i [])) (i:Int)) []
def Eg (g:List (List Int)) (x:List Int) (d:Int):List Int→List (List Int)→List Int→List (List Int)×List Int×Bool
 | [],L,D=>(L,D,true)
 |l::ls,L,D=>if Aa x (Af g l)∈L then Eg g x d ls L D else if L.length=3000 then (L,D,false) else Eg g x d ls (L++ [Aa x (Af g l)]) (D++ [d+1])
def Fu (g:List (List Int)) (ls:List Int):Nat→Nat→List (List Int)→List Int→List (List Int)×List Int×Bool
 |0,_,L,D=>(L,D,true)
 |f+1,k,L,D=>if k<L.length then (match Eg g (L.getD k []) (D.getD k 0) ls L D with
  |(L',D',true)=>Fu g ls f (k+1) L' D'
  |(L',D',false)=>(L',D',false)) else (L,D,true)
def Ev (g:List (List Int)) (s:List Int):List (List Int)×List Int×Bool:=Fu g (Ae g.length) 3001 0 [s] [0]
def Bf (g:List (List Int)) (s:List Int):SS:=((Ev g s).1,(Ev g s).2.1,Qc (Ev g s).1,(Ev g s).2.2,())
noncomputable abbrev Df:Spec:=mkS (.pair Cq (.pair tL .unit)) Np false false (fun x=>Bg x.1=true∧List.length x.2.1≤20∧ ∀y∈x.2.1,0≤y∧y<x.1.1) (fun x=>Bf x.1.2.2.1 x.2.1)
theorem Bhy (f:List (List Int)×List Int×List Int×Bool×Unit) (s:List Int) (P:Int→Prop):(Bx
 (fun (v3:Int×Int×List (List Int)×List Int×List Int×Bool×PUnit) (k4:Int×Int×List (List Int)×List Int×List Int×Bool×PUnit→Prop)=>
  Br (decide (v3.1<v3.2.1))
   ((2:Int)≠(0:Int)∧
    ∃(y5:Int),
     idx v3.2.2.2.2.1 (IntKind.i64.wrap ((IntKind.i64.wrap (v3.1+v3.2.1)).tdiv (2:Int)))=some y5∧
      ∃(y6:List Int),
       idx v3.2.2.1 y5=some y6∧
        ∃(y7:Bool),
         Ou.fn (y6,s,())=some y7∧
          Br y7
           (k4
            (IntKind.i64.wrap (IntKind.i64.wrap ((IntKind.i64.wrap (v3.1+v3.2.1)).tdiv (2:Int))+(1:Int)),v3.2.1,v3.2.2.1,v3.2.2.2.1,v3.2.2.2.2.1,
             v3.2.2.2.2.2.1,()))
           (k4 (v3.1,IntKind.i64.wrap ((IntKind.i64.wrap (v3.1+v3.2.1)).tdiv (2:Int)),v3.2.2.1,v3.2.2.2.1,v3.2.2.2.2.1,v3.2.2.2.2.2.1,())))
   (P v3.1))
 ((0:Int),(↑f.2.2.1.length:Int),f.1,f.2.1,f.2.2.1,f.2.2.2.1,PUnit.unit))=fnW tab (look [(135,Ou)]) Xy Try.f119 (f,s,()) P:=by kernel_rfl
theorem Bf2 (f:List (List Int)×List Int×List Int×Bool×Unit) (s:List Int) (P:Int→Prop):(∃(y3:Int),
 Xy.fn ((f.1,f.2.1,f.2.2.1,f.2.2.2.1,()),s,())=some y3∧
  Br (decide (y3<(↑f.2.2.1.length:Int)))
   (∃(y4:Int),
    idx f.2.2.1 y3=some y4∧
     ∃(y5:List Int),idx f.1 y4=some y5∧ ∃(y6:Bool),Ct.fn (y5,s,())=some y6∧Br y6 (∃(y7:Int),idx f.2.2.1 y3=some y7∧P y7) (P (-1:Int)))
   (P (-1:Int)))=fnW tab (look [(119,Xy),(59,Ct)]) Gt Try.f69 (f,s,()) P:=by kernel_rfl
theorem Bhx (L:List (List Int)) (D S:List Int) (b:Bool) (s:List Int) (d:Int) (P:((List (List Int)×List Int×List Int×Bool×Unit)×Unit)→Prop):(∃(y7:Int),
 Xy.fn ((List.take L.length (List.drop (0:Nat) L),List.take D.length (List.drop (0:Nat) D),List.take S.length (List.drop (0:Nat) S),b,()),s,())=some y7∧
  (0:Nat)=(0:Nat)∧
   S.length=S.length∧
    S.length+(List.take (1:Nat) (List.drop (0:Nat) [(0:Int)])).length≤Ap∧
     ((0:Int)≤IntKind.i64.wrap (y7+(1:Int))∧
       IntKind.i64.wrap (y7+(1:Int))≤(↑(S++List.take (1:Nat) (List.drop (0:Nat) [(0:Int)])).length:Int)∧
        (↑(S++List.take (1:Nat) (List.drop (0:Nat) [(0:Int)])).length:Int)≤(↑(S++List.take (1:Nat) (List.drop (0:Nat) [(0:Int)])).length:Int))∧
      ((0:Int)≤y7∧
        y7≤(↑(S++List.take (1:Nat) (List.drop (0:Nat) [(0:Int)])).length:Int)∧
         (↑(S++List.take (1:Nat) (List.drop (0:Nat) [(0:Int)])).length:Int)≤(↑(S++List.take (1:Nat) (List.drop (0:Nat) [(0:Int)])).length:Int))∧
       ((0:Int)≤y7∧y7<(↑(S++List.take (1:Nat) (List.drop (0:Nat) [(0:Int)])).length:Int))∧
        (0:Nat)+y7.toNat<
          (Bs (S++List.take (1:Nat) (List.drop (0:Nat) [(0:Int)])) ((0:Nat)+(IntKind.i64.wrap (y7+(1:Int))).toNat)
            (List.take ((↑(S++List.take (1:Nat) (List.drop (0:Nat) [(0:Int)])).length:Int).toNat-(IntKind.i64.wrap (y7+(1:Int))).toNat)
             (List.take ((↑(S++List.take (1:Nat) (List.drop (0:Nat) [(0:Int)])).length:Int).toNat-y7.toNat)
              (List.drop ((0:Nat)+y7.toNat) (S++List.take (1:Nat) (List.drop (0:Nat) [(0:Int)])))))).length∧
         (0:Nat)=(0:Nat)∧
          L.length=L.length∧
           L.length+(List.take (1:Nat) (List.drop (0:Nat) [s])).length≤Ap∧
            (0:Nat)=(0:Nat)∧
             D.length=D.length∧
              D.length+(List.take (1:Nat) (List.drop (0:Nat) [d])).length≤Ap∧
               P
                ((List.take (L++List.take (1:Nat) (List.drop (0:Nat) [s])).length (List.drop (0:Nat) (L++List.take (1:Nat) (List.drop (0:Nat) [s]))),
                  List.take (D++List.take (1:Nat) (List.drop (0:Nat) [d])).length (List.drop (0:Nat) (D++List.take (1:Nat) (List.drop (0:Nat) [d]))),
                  List.take (S++List.take (1:Nat) (List.drop (0:Nat) [(0:Int)])).length
                   (List.drop (0:Nat)
                    ((Bs (S++List.take (1:Nat) (List.drop (0:Nat) [(0:Int)])) ((0:Nat)+(IntKind.i64.wrap (y7+(1:Int))).toNat)
                       (List.take ((↑(S++List.take (1:Nat) (List.drop (0:Nat) [(0:Int)])).length:Int).toNat-(IntKind.i64.wrap (y7+(1:Int))).toNat)
                        (List.take ((↑(S++List.take (1:Nat) (List.drop (0:Nat) [(0:Int)])).length:Int).toNat-y7.toNat)
                         (List.drop ((0:Nat)+y7.toNat) (S++List.take (1:Nat) (List.drop (0:Nat) [(0:Int)])))))).set
                     ((0:Nat)+y7.toNat) (↑L.length:Int))),
                  b,()),
                 ()))=Hy Mu (look [(119,Xy)]) Ae8 Try.f151 (L,D,S,b,s,d,()) P:=by kernel_rfl
theorem Bgi (p:Int×ByteArray×List (List Int)×Unit) (s:List Int) (P:(List (List Int)×List Int×List Int×Bool×Unit)→Prop):(∃(y3:List Int),
 Jc.fn (s,())=some y3∧
  ∃(y4:(List (List Int)×List Int×List Int×Bool×PUnit)×PUnit),
   Ae8.fn ([],[],[],false,y3,(0:Int),())=some y4∧
    ∃(y5:List Int),
     Hm.fn ((p.1,p.2.1,p.2.2.1,()),())=some y5∧
      (0:Nat)=(0:Nat)∧
       (0:Nat)=([]:List Int).length∧
        (0:Nat)=(0:Nat)∧
         (0:Nat)=([]:List Int).length∧
          (0:Nat)=(0:Nat)∧
           (0:Nat)=([]:List Int).length∧
            (0:Nat)=(0:Nat)∧
             y4.1.1.length=y4.1.1.length∧
              (0:Nat)=(0:Nat)∧
               y4.1.2.1.length=y4.1.2.1.length∧
                (0:Nat)=(0:Nat)∧
                 y4.1.2.2.1.length=y4.1.2.2.1.length∧
                  Bx
                   (fun (v6:Int×Int×ByteArray×List (List Int)×Bool×Bool×List (List Int)×List Int×List Int×List (List Int)×List Int×List Int×PUnit)
                     (k7:Int×Int×ByteArray×List (List Int)×Bool×Bool×List (List Int)×List Int×List Int×List (List Int)×List Int×List Int×PUnit→Prop)=>
                    Br (decide (v6.1<(↑v6.2.2.2.2.2.2.2.2.2.1.length:Int)))
                     ((0:Nat)=(0:Nat)∧
                      v6.2.2.2.2.2.2.1.length=v6.2.2.2.2.2.2.1.length∧
                       (0:Nat)=(0:Nat)∧
                        v6.2.2.2.2.2.2.2.1.length=v6.2.2.2.2.2.2.2.1.length∧
                         (0:Nat)=(0:Nat)∧
                          v6.2.2.2.2.2.2.2.2.1.length=v6.2.2.2.2.2.2.2.2.1.length∧
                           (0:Nat)=(0:Nat)∧
                            v6.2.2.2.2.2.2.2.2.2.1.length=v6.2.2.2.2.2.2.2.2.2.1.length∧
                             (0:Nat)=(0:Nat)∧
                              v6.2.2.2.2.2.2.2.2.2.2.1.length=v6.2.2.2.2.2.2.2.2.2.2.1.length∧
                               (0:Nat)=(0:Nat)∧
                                v6.2.2.2.2.2.2.2.2.2.2.2.1.length=v6.2.2.2.2.2.2.2.2.2.2.2.1.length∧
                                 Bx
                                  (fun
                                    (v8:
                                     Int×
                                      Int×
                                       ByteArray×
                                        List (List Int)×Bool×Bool×List (List Int)×List Int×List Int×List (List Int)×List Int×List Int×PUnit)
                                    (k9:
                                     Int×
                                       Int×
                                        ByteArray×
                                         List (List Int)×
                                          Bool×Bool×List (List Int)×List Int×List Int×List (List Int)×List Int×List Int×PUnit→
                                      Prop)=>
                                   Br (decide (v8.1<(↑y5.length:Int)))
                                    (((0:Int)≤v6.1∧v6.1<(↑v8.2.2.2.2.2.2.2.2.2.1.length:Int))∧
                                     ∃(y10:List Int),
                                      v8.2.2.2.2.2.2.2.2.2.1[(0:Nat)+v6.1.toNat]?=some y10∧
                                       ∃(y11:Int),
                                        idx y5 v8.1=some y11∧
                                         ∃(y12:List Int),
                                          Vw.fn ((v8.2.1,v8.2.2.1,v8.2.2.2.1,()),y10,y11,())=some y12∧
                                           ∃(y13:Int),
                                            Gt.fn
                                               ((List.take v8.2.2.2.2.2.2.2.2.2.1.length
                                                  (List.drop ((0:Nat)) v8.2.2.2.2.2.2.2.2.2.1),
                                                 List.take v8.2.2.2.2.2.2.2.2.2.2.1.length
                                                  (List.drop ((0:Nat)) v8.2.2.2.2.2.2.2.2.2.2.1),
                                                 List.take v8.2.2.2.2.2.2.2.2.2.2.2.1.length
                                                  (List.drop ((0:Nat)) v8.2.2.2.2.2.2.2.2.2.2.2.1),
                                                 v8.2.2.2.2.2.1,()),
                                                y12,())=
                                              some y13∧
                                             Br (decide (y13≥(0:Int)))
                                              ((0:Nat)=(0:Nat)∧
                                               v8.2.2.2.2.2.2.1.length=v8.2.2.2.2.2.2.1.length∧
                                                (0:Nat)=(0:Nat)∧
                                                 v8.2.2.2.2.2.2.2.1.length=v8.2.2.2.2.2.2.2.1.length∧
                                                  (0:Nat)=(0:Nat)∧
                                                   v8.2.2.2.2.2.2.2.2.1.length=v8.2.2.2.2.2.2.2.2.1.length∧
                                                    (0:Nat)=(0:Nat)∧
                                                     v8.2.2.2.2.2.2.2.2.2.1.length=v8.2.2.2.2.2.2.2.2.2.1.length∧
                                                      (0:Nat)=(0:Nat)∧
                                                       v8.2.2.2.2.2.2.2.2.2.2.1.length=
                                                         v8.2.2.2.2.2.2.2.2.2.2.1.length∧
                                                        (0:Nat)=(0:Nat)∧
                                                         v8.2.2.2.2.2.2.2.2.2.2.2.1.length=
                                                           v8.2.2.2.2.2.2.2.2.2.2.2.1.length∧
                                                          k9
                                                           (IntKind.i64.wrap (v8.1+(1:Int)),v8.2.1,v8.2.2.1,v8.2.2.2.1,
                                                            v8.2.2.2.2.1,v8.2.2.2.2.2.1,v8.2.2.2.2.2.2.1,
                                                            v8.2.2.2.2.2.2.2.1,v8.2.2.2.2.2.2.2.2.1,
                                                            v8.2.2.2.2.2.2.2.2.2.1,v8.2.2.2.2.2.2.2.2.2.2.1,
                                                            v8.2.2.2.2.2.2.2.2.2.2.2.1,()))
                                              (Br ((↑v8.2.2.2.2.2.2.2.2.2.1.length:Int)==(3000:Int))
                                               (P
                                                (List.take v8.2.2.2.2.2.2.2.2.2.1.length
                                                  (List.drop ((0:Nat)) v8.2.2.2.2.2.2.2.2.2.1),
                                                 List.take v8.2.2.2.2.2.2.2.2.2.2.1.length
                                                  (List.drop ((0:Nat)) v8.2.2.2.2.2.2.2.2.2.2.1),
                                                 List.take v8.2.2.2.2.2.2.2.2.2.2.2.1.length
                                                  (List.drop ((0:Nat)) v8.2.2.2.2.2.2.2.2.2.2.2.1),
                                                 v8.2.2.2.2.2.1,()))
                                               (((0:Int)≤v6.1∧v6.1<(↑v8.2.2.2.2.2.2.2.2.2.2.1.length:Int))∧
                                                ∃(y14:Int),
                                                 v8.2.2.2.2.2.2.2.2.2.2.1[(0:Nat)+v6.1.toNat]?=some y14∧
                                                  (0:Nat)=(0:Nat)∧
                                                   v8.2.2.2.2.2.2.2.2.2.1.length=v8.2.2.2.2.2.2.2.2.2.1.length∧
                                                    (0:Nat)=(0:Nat)∧
                                                     v8.2.2.2.2.2.2.2.2.2.2.1.length=v8.2.2.2.2.2.2.2.2.2.2.1.length∧
                                                      (0:Nat)=(0:Nat)∧
                                                       v8.2.2.2.2.2.2.2.2.2.2.2.1.length=
                                                         v8.2.2.2.2.2.2.2.2.2.2.2.1.length∧
                                                        ∃(y15:(List (List Int)×List Int×List Int×Bool×PUnit)×PUnit),
                                                         Ae8.fn
                                                            (v8.2.2.2.2.2.2.2.2.2.1,v8.2.2.2.2.2.2.2.2.2.2.1,
                                                             v8.2.2.2.2.2.2.2.2.2.2.2.1,v8.2.2.2.2.2.1,y12,
                                                             IntKind.i64.wrap (y14+(1:Int)),())=
                                                           some y15∧
                                                          (0:Nat)=(0:Nat)∧
                                                           v8.2.2.2.2.2.2.1.length=v8.2.2.2.2.2.2.1.length∧
                                                            (0:Nat)=(0:Nat)∧
                                                             v8.2.2.2.2.2.2.2.1.length=v8.2.2.2.2.2.2.2.1.length∧
                                                              (0:Nat)=(0:Nat)∧
                                                               v8.2.2.2.2.2.2.2.2.1.length=
                                                                 v8.2.2.2.2.2.2.2.2.1.length∧
                                                                (0:Nat)=(0:Nat)∧
                                                                 y15.1.1.length=y15.1.1.length∧
                                                                  (0:Nat)=(0:Nat)∧
                                                                   y15.1.2.1.length=y15.1.2.1.length∧
                                                                    (0:Nat)=(0:Nat)∧
                                                                     y15.1.2.2.1.length=y15.1.2.2.1.length∧
                                                                      k9
                                                                       (IntKind.i64.wrap (v8.1+(1:Int)),v8.2.1,
                                                                        v8.2.2.1,v8.2.2.2.1,v8.2.2.2.2.1,
                                                                        y15.1.2.2.2.1,v8.2.2.2.2.2.2.1,
                                                                        v8.2.2.2.2.2.2.2.1,
                                                                        v8.2.2.2.2.2.2.2.2.1,y15.1.1,
                                                                        y15.1.2.1,y15.1.2.2.1,()))))
                                    ((0:Nat)=(0:Nat)∧
                                     v8.2.2.2.2.2.2.1.length=v8.2.2.2.2.2.2.1.length∧
                                      (0:Nat)=(0:Nat)∧
                                       v8.2.2.2.2.2.2.2.1.length=v8.2.2.2.2.2.2.2.1.length∧
                                        (0:Nat)=(0:Nat)∧
                                         v8.2.2.2.2.2.2.2.2.1.length=v8.2.2.2.2.2.2.2.2.1.length∧
                                          (0:Nat)=(0:Nat)∧
                                           v8.2.2.2.2.2.2.2.2.2.1.length=v8.2.2.2.2.2.2.2.2.2.1.length∧
                                            (0:Nat)=(0:Nat)∧
                                             v8.2.2.2.2.2.2.2.2.2.2.1.length=v8.2.2.2.2.2.2.2.2.2.2.1.length∧
                                              (0:Nat)=(0:Nat)∧
                                               v8.2.2.2.2.2.2.2.2.2.2.2.1.length=v8.2.2.2.2.2.2.2.2.2.2.2.1.length∧
                                                k7
                                                 (IntKind.i64.wrap (v6.1+(1:Int)),v8.2.1,v8.2.2.1,v8.2.2.2.1,v8.2.2.2.2.1,
                                                  v8.2.2.2.2.2.1,v8.2.2.2.2.2.2.1,v8.2.2.2.2.2.2.2.1,
                                                  v8.2.2.2.2.2.2.2.2.1,v8.2.2.2.2.2.2.2.2.2.1,
                                                  v8.2.2.2.2.2.2.2.2.2.2.1,v8.2.2.2.2.2.2.2.2.2.2.2.1,())))
                                  ((0:Int),v6.2.1,v6.2.2.1,v6.2.2.2.1,v6.2.2.2.2.1,v6.2.2.2.2.2.1,v6.2.2.2.2.2.2.1,
                                   v6.2.2.2.2.2.2.2.1,v6.2.2.2.2.2.2.2.2.1,v6.2.2.2.2.2.2.2.2.2.1,
                                   v6.2.2.2.2.2.2.2.2.2.2.1,v6.2.2.2.2.2.2.2.2.2.2.2.1,PUnit.unit))
                     (P
                      (List.take v6.2.2.2.2.2.2.2.2.2.1.length (List.drop ((0:Nat)) v6.2.2.2.2.2.2.2.2.2.1),
                       List.take v6.2.2.2.2.2.2.2.2.2.2.1.length (List.drop ((0:Nat)) v6.2.2.2.2.2.2.2.2.2.2.1),
                       List.take v6.2.2.2.2.2.2.2.2.2.2.2.1.length (List.drop ((0:Nat)) v6.2.2.2.2.2.2.2.2.2.2.2.1),true,())))
                   ((0:Int),p.1,p.2.1,p.2.2.1,false,y4.1.2.2.2.1,[],[],[],y4.1.1,y4.1.2.1,y4.1.2.2.1,PUnit.unit))=fnW Bhp (look [(120,Jc),(151,Ae8),(142,Hm),(129,Vw),(69,Gt)]) Df Try.f105 (p,s,()) P:=by kernel_rfl
theorem Akc: ∀ {a b:List Int},Cf a b=0↔a=b
 | [],[]=>by simp [Cf]
 | [],_::_=>by simp [Cf]
 |_::_,[]=>by simp [Cf]
 |x::a,y::b=>by
  simp only [Cf,List.cons.injEq]
  by_cases h1:x<y
  ·rw [if_pos h1]
   exact ⟨fun h=>by omega,fun h=>by omega⟩
  ·rw [if_neg h1]
   by_cases h2:x>y
   ·rw [if_pos h2]
    exact ⟨fun h=>by omega,fun h=>by omega⟩
   ·rw [if_neg h2,Akc]
    exact ⟨fun h=>⟨by omega,h⟩,fun h=>h.2⟩
theorem Azj: ∀(a b:List Int),Cf b a= -Cf a b
 | [],[]=>by simp [Cf]
 | [],_::_=>by simp [Cf]
 |_::_,[]=>by simp [Cf]
 |x::a,y::b=>by
  simp only [Cf]
  rcases Int.lt_trichotomy x y with h1|h1|h1
  ·simp [h1,show ¬y<x by omega]
  ·subst h1
   simp [Azj a b]
  ·simp [h1,show ¬x<y by omega]
theorem Ao7: ∀ {a b c:List Int},Cf a b<0→Cf b c<0→Cf a c<0
 | [],[],_,h,_=>by simp [Cf] at h
 |_::_,[],_,h,_=>by simp [Cf] at h
 |_,_::_,[],_,h=>by simp [Cf] at h
 | [],_::_,_::_,_,_=>by simp [Cf]
 |x::a,y::b,z::c,h1,h2=>by
  simp only [Cf] at h1 h2⊢
  by_cases e1:x<y
  ·by_cases e2:y<z
   ·rw [if_pos (by omega)];omega
   ·rw [if_neg e2] at h2
    by_cases e3:y>z
    ·rw [if_pos e3] at h2;omega
    ·rw [if_pos (by omega)];omega
  ·rw [if_neg e1] at h1
   by_cases e2:x>y
   ·rw [if_pos e2] at h1;omega
   ·rw [if_neg e2] at h1
    by_cases e3:y<z
    ·rw [if_pos (by omega)];omega
    ·rw [if_neg e3] at h2
     by_cases e4:y>z
     ·rw [if_pos e4] at h2;omega
     ·rw [if_neg e4] at h2
      rw [if_neg (by omega),if_neg (by omega)]
      exact Ao7 h1 h2
theorem lt_iff {a b:List Int} :Xe a b=true↔Cf a b<0:=decide_eq_true_iff
theorem Bau {a b c:List Int} (h1:Xe a b=true) (h2:Xe b c=true):Xe a c=true:=lt_iff.2 (Ao7 (lt_iff.1 h1) (lt_iff.1 h2))
theorem Ae0 (a:List Int):Xe a a=false:=by
 have:Cf a a=0:=Akc.2 rfl
 unfold Xe;rw [this];rfl
theorem Bdi {a b:List Int} (h:Xe a b=false) (hne:a≠b):Xe b a=true:=by
 rw [lt_iff,Azj a b]
 have h1: ¬Cf a b<0:=fun h'=>by rw [lt_iff.2 h'] at h;cases h
 have h2:Cf a b≠0:=fun h'=>hne (Akc.1 h')
 omega
theorem Ad1 {α:Type} (q:α→Bool): ∀(l:List α),l.Pairwise (fun i j=>q j=true→q i=true)→ ∀k (hk:k<l.length),k<(l.takeWhile q).length↔q l[k]=true
 | [],_,k,hk=>by simp at hk
 |a::l,h,k,hk=>by
  obtain ⟨h1,h2⟩:=List.pairwise_cons.1 h
  by_cases ha:q a=true
  ·rw [List.takeWhile_cons_of_pos ha]
   rcases k with _|k
   ·simpa using ha
   ·simp only [List.length_cons,List.getElem_cons_succ,Nat.add_lt_add_iff_right]
    exact Ad1 q l h2 k (by simpa using hk)
  ·rw [List.takeWhile_cons_of_neg ha]
   simp only [List.length_nil,Nat.not_lt_zero,false_iff]
   rcases k with _|k
   ·exact ha
   ·simp only [List.getElem_cons_succ]
    exact fun hq=>ha (h1 _ (List.getElem_mem _) hq)
theorem Cp.Akz {m:Nat} {L:List (List Int)} {srt:List Int} (h:Cp m L srt):srt.length=L.length:=by rw [h.perm.length_eq,Nr]
theorem Cp.idx {m:Nat} {L:List (List Int)} {srt:List Int} (h:Cp m L srt) {k:Nat} (hk:k<srt.length):0≤srt[k]∧srt[k]<L.length:=Hk.1 (h.perm.mem_iff.1 (List.getElem_mem hk))
theorem Cp.Wb {m:Nat} {L:List (List Int)} {srt:List Int} (h:Cp m L srt) (s:List Int) {k:Nat} (hk:k<srt.length):k<Cy L srt s↔Xe (L.getD srt[k].toNat []) s=true:=
 Ad1 _ srt (h.sorted.imp fun hij hj=>Bau hij hj) k hk
theorem Ba1 (L:List (List Int)) (srt s:List Int):Cy L srt s≤srt.length:=(List.takeWhile_sublist _).length_le
theorem Cp.inj {m:Nat} {L:List (List Int)} {srt:List Int} (h:Cp m L srt) {i j:Nat} (hi:i<L.length) (hj:j<L.length) (e:L[i]=L[j]):i=j:=by
 have mem: ∀i,i<L.length→(i:Int)∈srt:=fun i hi=>h.perm.mem_iff.2 (Hk.2 ⟨by omega,by omega⟩)
 obtain ⟨p,hp,ep⟩:=List.mem_iff_getElem.1 (mem i hi)
 obtain ⟨q,hq,eq⟩:=List.mem_iff_getElem.1 (mem j hj)
 have get: ∀i (hi:i<L.length),L.getD ((i:Int)).toNat []=L[i]:=fun i hi=>by rw [Int.toNat_natCast,List.getD_eq_getElem?_getD,List.getElem?_eq_getElem hi];rfl
 rcases Nat.lt_trichotomy p q with h1|h1|h1
 ·have:=List.pairwise_iff_getElem.1 h.sorted p q hp hq h1
  rw [ep,eq,get i hi,get j hj,e,Ae0] at this
  cases this
 ·subst h1
  rw [ep] at eq
  omega
 ·have:=List.pairwise_iff_getElem.1 h.sorted q p hq hp h1
  rw [ep,eq,get i hi,get j hj,e,Ae0] at this
  cases this
theorem Mx {L:List (List Int)} {k:Nat} (h:k<L.length):L.getD k []=L[k]:=by rw [List.getD_eq_getElem?_getD,List.getElem?_eq_getElem h];rfl
theorem Cp.Aq1 {m:Nat} {L:List (List Int)} {srt:List Int} (h:Cp m L srt) {s:List Int} :
  (∃hk:Cy L srt s<srt.length,L.getD srt[Cy L srt s].toNat []=s∧Ts L s=srt[Cy L srt s])∨(Ts L s= -1∧ ∀hk:Cy L srt s<srt.length,L.getD srt[Cy L srt s].toNat []≠s):=by
 by_cases hm:s∈L
 ·left
  obtain ⟨j,hj,rfl⟩:=List.mem_iff_getElem.1 hm
  obtain ⟨p,hp,ep⟩:=List.mem_iff_getElem.1 (h.perm.mem_iff.2 (Hk.2 ⟨by omega,by omega⟩):(j:Int)∈srt)
  have gj:L.getD srt[p].toNat []=L[j]:=by rw [ep,Int.toNat_natCast,Mx hj]
  have hs:Cy L srt L[j]=p:=by
   have h1: ¬p<Cy L srt L[j]:=fun h1=>by
    have:=(h.Wb L[j] hp).1 h1
    rw [gj,Ae0] at this;cases this
   have h2: ¬Cy L srt L[j]<p:=fun h2=>by
    have h3:=(h.Wb L[j] (k:=Cy L srt L[j]) (by omega)).2 (by
     have:=List.pairwise_iff_getElem.1 h.sorted (Cy L srt L[j]) p (by omega) hp h2
     rw [gj] at this;exact this)
    omega
   omega
  have hx:L.idxOf L[j]=j:=by
   have h1:L.idxOf L[j]<L.length:=List.idxOf_lt_length_of_mem hm
   exact h.inj h1 hj (List.getElem_idxOf h1)
  refine ⟨by omega,?_,?_⟩
  ·simp only [hs];exact gj
  ·unfold Ts
   rw [if_pos hm,hx]
   simp only [hs];exact ep.symm
 ·right
  refine ⟨by unfold Ts;rw [if_neg hm],fun hk e=>hm ?_⟩
  have hi:=h.idx hk
  rw [Mx (by omega)] at e
  rw [←e]
  exact List.getElem_mem _
theorem Bd9 (srt:List Int) (k:Nat) (x:Int):(Nv srt k x).Perm (x::srt):=by
 unfold Nv
 refine List.perm_middle.trans (List.Perm.cons x ?_)
 rw [List.take_append_drop]
theorem Cp.add {m:Nat} {L:List (List Int)} {srt s:List Int} (h:Cp m L srt) (hn:s∉L) (hl:s.length=m) (hr:L.length<3000):Cp m (L++ [s]) (Nv srt (Cy L srt s) L.length):=by
 have get1: ∀i∈srt,(L++ [s]).getD i.toNat []=L.getD i.toNat []:=fun i hi=>by
  have:=Hk.1 (h.perm.mem_iff.1 hi)
  rw [List.getD_eq_getElem?_getD,List.getD_eq_getElem?_getD,List.getElem?_append_left (by omega)]
 have get2:(L++ [s]).getD ((L.length:Int)).toNat []=s:=by
  rw [Int.toNat_natCast,List.getD_eq_getElem?_getD,List.getElem?_append_right (by omega),Nat.sub_self];rfl
 refine ⟨by rw [List.length_append,List.length_singleton];omega,fun x hx=>?_,h.short,?_,?_⟩
 ·rcases List.mem_append.1 hx with hx|hx
  ·exact h.len x hx
  ·rw [List.mem_singleton.1 hx];exact hl
 ·refine (Bd9 _ _ _).trans ?_
  rw [List.length_append,List.length_singleton,Wh]
  exact (List.Perm.cons _ h.perm).trans (List.perm_append_singleton _ _).symm
 ·unfold Nv
  have hs:=h.sorted
  rw [←List.take_append_drop (Cy L srt s) srt] at hs
  obtain ⟨s1,s2,s3⟩:=List.pairwise_append.1 hs
  have mt: ∀i∈srt.take (Cy L srt s),i∈srt∧Xe (L.getD i.toNat []) s=true:=fun i hi=>by
   obtain ⟨k,hk,rfl⟩:=List.mem_iff_getElem.1 hi
   have hk2:k<Cy L srt s:=by rw [List.length_take] at hk;omega
   have hk3:k<srt.length:=by rw [List.length_take] at hk;omega
   rw [List.getElem_take]
   exact ⟨List.getElem_mem _,(h.Wb s hk3).1 hk2⟩
  have md: ∀i∈srt.drop (Cy L srt s),i∈srt∧Xe s (L.getD i.toNat [])=true:=fun i hi=>by
   obtain ⟨k,hk,rfl⟩:=List.mem_iff_getElem.1 hi
   rw [List.length_drop] at hk
   have hk3:Cy L srt s+k<srt.length:=by omega
   rw [List.getElem_drop]
   refine ⟨List.getElem_mem _,Bdi ?_ fun e=>hn ?_⟩
   ·exact Bool.eq_false_iff.2 fun hh=>by
     have:=(h.Wb s hk3).2 hh
     omega
   ·have hi:=h.idx hk3
    rw [Mx (by omega)] at e
    rw [←e];exact List.getElem_mem _
  refine List.pairwise_append.2 ⟨s1.imp_of_mem fun {a b} ha hb hab=>?_,List.pairwise_cons.2 ⟨fun b hb=>?_,s2.imp_of_mem fun {a b} ha hb hab=>?_⟩,fun a ha b hb=>?_⟩
  ·rw [get1 a (mt a ha).1,get1 b (mt b hb).1];exact hab
  ·rw [get2,get1 b (md b hb).1];exact (md b hb).2
  ·rw [get1 a (md a ha).1,get1 b (md b hb).1];exact hab
  ·rcases List.mem_cons.1 hb with rfl|hb
   ·rw [get2,get1 a (mt a ha).1];exact (mt a ha).2
   ·rw [get1 a (mt a ha).1,get1 b (md b hb).1];exact s3 a ha b hb
theorem Ya (L:List (List Int)) (s:List Int):Qc (L++ [s])=Nv (Qc L) (Cy L (Qc L) s) L.length:=by
 unfold Qc
 rw [List.length_append,List.length_singleton,List.range_succ,List.foldl_append]
 have e: ∀(is:List Nat) (S:List Int),(∀i∈is,i<L.length)→is.foldl (fun (S:List Int) (i:Nat)=>Nv S (Cy ((L++ [s]).take i) S ((L++ [s]).getD i [])) (i:Int)) S=is.foldl (fun (S:List Int) (i:Nat)=>Nv S (Cy (L.take i) S (L.getD i [])) (i:Int)) S:=by
  intro is
  induction is with
  |nil=>intro S _;rfl
  |cons i is ih=>
   intro S h
   have hi:=h i (by simp)
   rw [List.foldl_cons,List.foldl_cons,ih _ fun j hj=>h j (List.mem_cons_of_mem _ hj)]
   congr 2
   rw [List.take_append_of_le_length (by omega),List.getD_eq_getElem?_getD,List.getElem?_append_left hi,←List.getD_eq_getElem?_getD]
 rw [e _ _ fun i hi=>List.mem_range.1 hi]
 simp only [List.foldl_cons,List.foldl_nil]
 congr 2
 ·rw [List.take_append_of_le_length (Nat.le_refl _),List.take_length]
 ·rw [List.getD_eq_getElem?_getD,List.getElem?_append_right (by omega),Nat.sub_self];rfl
theorem Afu {m:Nat} (h:m≤20):Cp m [] []:=⟨by simp,fun x hx=>(by cases hx),h,by simp [upto],List.Pairwise.nil⟩
theorem Bd7 {α:Type} {xs:List α} {y:Int} (h0:0≤y) (h:y.toNat<xs.length):idx xs y=some xs[y.toNat]:=by
 unfold idx
 rw [if_pos h0,List.getElem?_eq_getElem h]
theorem Bhg (f:SS) (s:List Int) (h:Cp s.length f.1 f.2.2.1):fnW tab (look [(135,Ou)]) Xy Try.f119 (f,s,()) (fun (z:Int)=>z=(Cy f.1 f.2.2.1 s:Int)):=by
 obtain ⟨L,D,srt,b,⟨⟩⟩:=f
 dsimp only at h⊢
 have hle:=Ba1 L srt s
 have hl2:=h.Akz
 have hfew:=h.few
 refine Eq.mp (Bhy (L,D,srt,b,()) s _) ?_
 refine Bx.mk (fun v=>v.2.2.1=L∧v.2.2.2.2.1=srt∧ ∃lo hi:Nat,v.1=lo∧v.2.1=hi∧lo≤hi∧hi≤srt.length∧lo≤Cy L srt s∧Cy L srt s≤hi) (fun v=>(v.2.1-v.1).toNat)
  ⟨rfl,rfl,0,srt.length,rfl,rfl,by omega,by omega,by omega,hle⟩ ?_
 rintro ⟨lo',hi',L',D',srt',b',⟨⟩⟩ ⟨h1,h2,lo,hi,h3,h4,h5,h6,h7,h8⟩
 dsimp only at h1 h2 h3 h4⊢
 subst h1 h2 h3 h4
 refine Br.dec (fun hl=>?_) fun hl=>?_
 ·have em:IntKind.i64.wrap ((IntKind.i64.wrap ((lo:Int)+(hi:Int))).tdiv 2)=(((lo+hi)/2:Nat):Int):=by
   rw [Bj (n:=(lo:Int)+(hi:Int)) (by omega) (by omega),Int.tdiv_eq_ediv_of_nonneg (by omega),Bj (by omega) (by omega)]
   omega
  rw [em]
  have hm1:(lo+hi)/2<srt'.length:=by omega
  have hi1:=h.idx hm1
  have hi2:srt'[(lo+hi)/2].toNat<L'.length:=by omega
  have hgd:=Mx hi2
  have hlen:=h.len _ (List.getElem_mem hi2)
  have hsh:short L'[srt'[(lo+hi)/2].toNat]:=by
   unfold short
   have:=h.short;omega
  refine ⟨by decide,_,Aw hm1,_,Bd7 hi1.1 hi2,_,if_pos ⟨hsh,hlen⟩,⟨fun hc=>?_,fun hc=>?_⟩⟩
  ·have hc:Xe L'[srt'[(lo+hi)/2].toNat] s=true:=hc
   have hs:=(h.Wb s hm1).2 (by rw [hgd];exact hc)
   rw [An (by omega)]
   exact ⟨⟨rfl,rfl,(lo+hi)/2+1,hi,rfl,rfl,by omega,h6,by omega,h8⟩,by omega⟩
  ·have hc:Xe L'[srt'[(lo+hi)/2].toNat] s=false:=hc
   have hs: ¬(lo+hi)/2<Cy L' srt' s:=fun hh=>by
    have:=(h.Wb s hm1).1 hh
    rw [hgd,hc] at this;cases this
   exact ⟨⟨rfl,rfl,lo,(lo+hi)/2,rfl,rfl,by omega,by omega,h7,by omega⟩,by omega⟩
 ·show (lo:Int)=_
  omega
theorem Am4:Sound Try.prog 119 Xy:=
 Sound.mkS Cc (Ag Am2 As) mixed Try.func119 (by kernel_rfl) (by kernel_rfl) fun x h=>Bhg x.1 x.2.1 h
theorem Be1 (f:SS) (s:List Int) (h:Cp s.length f.1 f.2.2.1):fnW tab (look [(119,Xy),(59,Ct)]) Gt Try.f69 (f,s,()) (fun (z:Int)=>z=Ts f.1 s):=by
 obtain ⟨L,D,srt,b,⟨⟩⟩:=f
 dsimp only at h⊢
 refine Eq.mp (Bf2 (L,D,srt,b,()) s _) ⟨_,if_pos h,Br.dec (fun hl=>?_) fun hl=>?_⟩
 ·have hl:Cy L srt s<srt.length:=by
   have hl:((Cy L srt s:Nat):Int)<(srt.length:Int):=hl
   omega
  have hi1:=h.idx hl
  have hi2:srt[Cy L srt s].toNat<L.length:=by omega
  have hgd:=Mx hi2
  have hlen:=h.len _ (List.getElem_mem hi2)
  have hsh:short L[srt[Cy L srt s].toNat]:=by
   unfold short
   have:=h.short;omega
  refine ⟨_,Aw hl,_,Bd7 hi1.1 hi2,_,if_pos hsh,⟨fun hc=>⟨_,Aw hl,?_⟩,fun hc=>?_⟩⟩
  ·have hc:L[srt[Cy L srt s].toNat]=s:=of_decide_eq_true hc
   rcases h.Aq1 (s:=s) with ⟨hk,_,e⟩|⟨_,hne⟩
   ·exact e.symm
   ·exact absurd (by rw [hgd];exact hc) (hne hl)
  ·have hc: ¬L[srt[Cy L srt s].toNat]=s:=of_decide_eq_false hc
   rcases h.Aq1 (s:=s) with ⟨hk,e,_⟩|⟨e,_⟩
   ·rw [hgd] at e;exact absurd e hc
   ·exact e.symm
 ·have hl: ¬Cy L srt s<srt.length:=by
   have hl: ¬((Cy L srt s:Nat):Int)<(srt.length:Int):=hl
   omega
  rcases h.Aq1 (s:=s) with ⟨hk,e,_⟩|⟨e,_⟩
  ·exact absurd hk hl
  ·exact e.symm
theorem Rd:Sound Try.prog 69 Gt:=
 Sound.mkS Cc (Ag Am4 (Ag Aj3 As)) mixed Try.func69 (by kernel_rfl) (by kernel_rfl) fun x h=>Be1 x.1 x.2.1 h
theorem Axc {S:List Int} {k:Nat} (h:k≤S.length) (n:Int):
  (Bs (S++ [0]) (k+1) (List.take ((S++ [0]).length-(k+1)) (List.take ((S++ [0]).length-k) (List.drop k (S++ [0]))))).set k n=Nv S k n:=by
 obtain ⟨A,B,rfl,hA⟩: ∃A B,S=A++B∧A.length=k:=⟨S.take k,S.drop k,(List.take_append_drop k S).symm,by rw [List.length_take];omega⟩
 subst hA
 have e1:List.drop A.length (A++B++ [0])=B++ [0]:=by rw [List.append_assoc,List.drop_left]
 have e2:List.take ((A++B++ [0]).length-A.length) (B++ [0])=B++ [0]:=List.take_of_length_le (by simp only [List.length_append,List.length_singleton];omega)
 have e3:List.take ((A++B++ [0]).length-(A.length+1)) (B++ [0])=B:=by
  have:(A++B++ [(0:Int)]).length-(A.length+1)=B.length:=by simp only [List.length_append,List.length_singleton];omega
  rw [this,List.take_left]
 rw [e1,e2,e3]
 unfold Bs Nv
 have e4:List.drop (A.length+1+B.length) (A++B++ [0])= []:=List.drop_eq_nil_of_le (by simp only [List.length_append,List.length_singleton];omega)
 obtain ⟨c,hc⟩: ∃c,List.take (A.length+1) (A++B++ [0])=A++ [c]:=by
  rw [List.append_assoc,List.take_append,List.take_of_length_le (by omega)]
  cases B with
  |nil=>exact ⟨0,by simp⟩
  |cons b B=>exact ⟨b,by simp⟩
 rw [e4,hc,List.append_nil,List.append_assoc,List.singleton_append,Bg0,List.take_left,List.drop_left]
theorem Bhf (L:List (List Int)) (D S:List Int) (b:Bool) (s:List Int) (d:Int) (h:Cp s.length L S∧D.length≤3000):
  Hy Mu (look [(119,Xy)]) Ae8 Try.f151 (L,D,S,b,s,d,()) (fun (z:(List (List Int)×List Int×List Int×Bool×Unit)×Unit)=>z=((L++ [s],D++ [d],Nv S (Cy L S s) L.length,b,()),())):=by
 obtain ⟨h,hD⟩:=h
 have hle:=Ba1 L S s
 have hl2:=h.Akz
 have hfew:=h.few
 refine Eq.mp (Bhx L D S b s d _) ?_
 rw [Bi L,Bi D,Bi S]
 refine ⟨_,if_pos h,?_⟩
 dsimp only
 have es:List.take 1 (List.drop 0 [(0:Int)])= [0]:=rfl
 have el:(S++ [(0:Int)]).length=S.length+1:=by simp
 rw [es,An (by omega),Nat.zero_add,Nat.zero_add,Int.toNat_natCast,Int.toNat_natCast,Int.toNat_natCast]
 refine ⟨rfl,rfl,by show S.length+1≤4294967296;omega,⟨by omega,by omega,by omega⟩,⟨by omega,by omega,by omega⟩,⟨by omega,by omega⟩,?_,rfl,rfl,by show L.length+1≤4294967296;omega,rfl,rfl,by show D.length+1≤4294967296;omega,?_⟩
 ·unfold Bs
  simp only [List.length_append,List.length_take,List.length_drop,List.length_singleton]
  omega
 ·rw [Axc hle,Bi,Bi]
  have e5:List.take (S++ [(0:Int)]).length (List.drop 0 (Nv S (Cy L S s) (L.length:Int)))=Nv S (Cy L S s) (L.length:Int):=by
   rw [List.drop_zero,List.take_of_length_le]
   unfold Nv
   simp only [List.length_append,List.length_cons,List.length_take,List.length_drop,List.length_nil]
   omega
  rw [e5]
  rfl
theorem Ayt:Bn Try.prog 151 Ae8:=
 Bn.mkM Mh (Ag Am4 As) mixed Try.func151 (by kernel_rfl) (by kernel_rfl) fun x h=>Bhf x.1 x.2.1 x.2.2.1 x.2.2.2.1 x.2.2.2.2.1 x.2.2.2.2.2.1 h
structure Ns (p:PP) (m:Nat) (L:List (List Int)) (D:List Int):Prop where
 ok:Cp m L (Qc L)
 len:D.length=L.length
 row: ∀x∈L,∀y∈x,0≤y∧y<p.1
 dep: ∀j (h:j<D.length),0≤D[j]∧D[j]≤j
theorem Ajm {p:PP} (hv:Valid p) {x:List Int} {l:Int} (hx: ∀y∈x,0≤y∧y<p.1) (hl:En (List.length p.2.2.1) l):
  (Aa x (Af p.2.2.1 l)).length=x.length∧ ∀y∈Aa x (Af p.2.2.1 l),0≤y∧y<p.1:=by
 obtain ⟨h1,h2⟩:=Agt hv hl
 refine ⟨Mi _ _,fun y hy=>?_⟩
 have:=Atg (n:=(Af p.2.2.1 l).length) (fun z hz=>by have:=hx z hz;omega) h2 y hy
 omega
theorem Ns.add {p:PP} {m:Nat} {L:List (List Int)} {D:List Int} (h:Ns p m L D) {y:List Int} {d:Int} (hn:y∉L) (hl:y.length=m) (hr:L.length<3000) (hy: ∀z∈y,0≤z∧z<p.1) (hd:0≤d∧d≤L.length):Ns p m (L++ [y]) (D++ [d]):=by
 have hlen:=h.len
 refine ⟨by rw [Ya];exact h.ok.add hn hl hr,by simp [hlen],fun x hx=>?_,fun j hj=>?_⟩
 ·rcases List.mem_append.1 hx with hx|hx
  ·exact h.row x hx
  ·rw [List.mem_singleton.1 hx];exact hy
 ·by_cases e:j<D.length
  ·rw [List.getElem_append_left e];exact h.dep j e
  ·simp only [List.length_append,List.length_singleton] at hj
   have:j=D.length:=by omega
   subst this
   rw [List.getElem_append_right (by omega)]
   simp only [Nat.sub_self,List.getElem_cons_zero]
   omega
theorem Abk {p:PP} {s:List Int} (hs:s.length≤20) (hr: ∀y∈s,0≤y∧y<p.1):Ns p s.length [s] [0]:=by
 refine ⟨?_,rfl,fun x hx=>by rw [List.mem_singleton.1 hx];exact hr,fun j hj=>?_⟩
 ·have:=(Afu hs).add (s:=s) (by simp) rfl (by simp)
  have e:Qc [s]=Nv [] (Cy [] [] s) 0:=Ya [] s
  rw [e];exact this
 ·simp only [List.length_singleton] at hj
  have:j=0:=by omega
  subst this
  simp
theorem Aou {L:List (List Int)} {s:List Int} :Ts L s≥0↔s∈L:=by
 unfold Ts
 split
 ·rename_i h;exact ⟨fun _=>h,fun _=>by omega⟩
 ·rename_i h;exact ⟨fun hh=>by omega,fun hh=>absurd hh h⟩
theorem Bfw (p:PP) (s:List Int) (h:Bg p=true∧s.length≤20∧ ∀y∈s,0≤y∧y<p.1):fnW Bhp (look [(120,Jc),(151,Ae8),(142,Hm),(129,Vw),(69,Gt)]) Df Try.f105 (p,s,()) (fun (z:SS)=>z=Bf p.2.2.1 s):=by
 obtain ⟨hv,hs,hr⟩:=h
 have hV:=valid hv
 have hfew:=hV.few
 have hb0:=Abk hs hr
 have hsh:short s:=by unfold short;omega
 obtain ⟨ls,hls⟩: ∃ls,Ae (List.length p.2.2.1)=ls:=⟨_,rfl⟩
 refine Eq.mp (Bgi p s _) ⟨_,if_pos hsh,_,if_pos ⟨Afu hs,by show 0≤3000;omega⟩,ls,(if_pos (by show List.length p.2.2.1≤8;exact hfew.2)).trans (congrArg some hls),rfl,rfl,rfl,rfl,rfl,rfl,rfl,rfl,rfl,rfl,rfl,rfl,?_⟩
 have e0:Nv [] (Cy [] [] s) ((([]:List (List Int)).length:Nat):Int)=Qc [s]:=(Ya [] s).symm
 show Bx _ ((0:Int),p.1,p.2.1,p.2.2.1,false,false,[],[],[],[s],[(0:Int)],Nv [] (Cy [] [] s) ((([]:List (List Int)).length:Nat):Int),PUnit.unit)
 rw [e0]
 have hll:ls.length≤16:=by rw [←hls,Jm];omega
 have hmem: ∀l∈ls,En (List.length p.2.2.1) l:=fun l hl=>Gh (hls▸hl)
 have hstart:Fu p.2.2.1 ls 3001 0 [s] [0]=Ev p.2.2.1 s:=by unfold Ev;rw [hls]
 refine Bx.mk (fun v=>v.2.1=p.1∧v.2.2.1=p.2.1∧v.2.2.2.1=p.2.2.1∧v.2.2.2.2.2.1=false∧ ∃k:Nat,v.1=k∧k≤v.2.2.2.2.2.2.2.2.2.1.length∧
   Ns p s.length v.2.2.2.2.2.2.2.2.2.1 v.2.2.2.2.2.2.2.2.2.2.1∧v.2.2.2.2.2.2.2.2.2.2.2.1=Qc v.2.2.2.2.2.2.2.2.2.1∧
   Fu p.2.2.1 ls (3001-k) k v.2.2.2.2.2.2.2.2.2.1 v.2.2.2.2.2.2.2.2.2.2.1=Ev p.2.2.1 s) (fun v=>3001-v.1.toNat)
  ⟨rfl,rfl,rfl,rfl,0,rfl,by simp,hb0,rfl,hstart⟩ ?_
 rintro ⟨k',n1,n2,n3,b0,wh,x1,x2,x3,L0,D0,S0,⟨⟩⟩ ⟨h1,h2,h3,h4,k,h5,h6,h7,h8,h9⟩
 dsimp only at h1 h2 h3 h4 h5 h6 h7 h8 h9
 subst h1 h2 h3 h4 h5 h8
 dsimp only
 have hL0:=h7.ok.few
 have hD0:=h7.len
 refine Br.dec (fun hl=>⟨rfl,rfl,rfl,rfl,rfl,rfl,rfl,rfl,rfl,rfl,rfl,rfl,?_⟩) fun hl=>?_
 ·have hk:k<L0.length:=by omega
  have hkD:k<D0.length:=by omega
  have hx: ∀y∈L0[k],0≤y∧y<p.1:=h7.row _ (List.getElem_mem hk)
  have hxl:L0[k].length=s.length:=h7.ok.len _ (List.getElem_mem hk)
  have hdk:=h7.dep k hkD
  obtain ⟨f,hf⟩: ∃f,3001-k=f+1:=⟨3000-k,by omega⟩
  have hgo: ∀L' D' ok,Eg p.2.2.1 L0[k] D0[k] ls L0 D0=(L',D',ok)→Ev p.2.2.1 s=if ok=true then Fu p.2.2.1 ls f (k+1) L' D' else (L',D',false):=by
   intro L' D' ok he
   rw [←h9,hf,Fu,if_pos hk,Mx hk,List.getD_eq_getElem?_getD,List.getElem?_eq_getElem hkD]
   simp only [Option.getD_some]
   rw [he]
   cases ok<;>rfl
  refine Bx.mk (fun v=>v.2.1=p.1∧v.2.2.1=p.2.1∧v.2.2.2.1=p.2.2.1∧v.2.2.2.2.2.1=false∧ ∃i:Nat,v.1=i∧i≤ls.length∧Ns p s.length v.2.2.2.2.2.2.2.2.2.1 v.2.2.2.2.2.2.2.2.2.2.1∧
    v.2.2.2.2.2.2.2.2.2.2.2.1=Qc v.2.2.2.2.2.2.2.2.2.1∧(∃A,v.2.2.2.2.2.2.2.2.2.1=L0++A)∧(∃A,v.2.2.2.2.2.2.2.2.2.2.1=D0++A)∧
    Eg p.2.2.1 L0[k] D0[k] (ls.drop i) v.2.2.2.2.2.2.2.2.2.1 v.2.2.2.2.2.2.2.2.2.2.1=Eg p.2.2.1 L0[k] D0[k] ls L0 D0) (fun v=>ls.length-v.1.toNat)
   ⟨rfl,rfl,rfl,rfl,0,rfl,Nat.zero_le _,h7,rfl,⟨[],by simp⟩,⟨[],by simp⟩,rfl⟩ ?_
  rintro ⟨i',m1,m2,m3,b1,wh1,y1,y2,y3,L,D,S,⟨⟩⟩ ⟨g1,g2,g3,g4,i,g5,g6,g7,g8,⟨A,g9⟩,⟨A',g10⟩,g11⟩
  dsimp only at g1 g2 g3 g4 g5 g6 g7 g8 g9 g10 g11
  subst g1 g2 g3 g4 g5 g8
  dsimp only
  have hLf:=g7.ok.few
  have hDl:=g7.len
  rw [Bi L,Bi D,Bi (Qc L)]
  refine Br.dec (fun hli=>?_) fun hli=>?_
  ·have hi:i<ls.length:=by omega
   have hkL:k<L.length:=by rw [g9,List.length_append];omega
   have hLk:L[k]=L0[k]:=by simp only [g9];exact List.getElem_append_left hk
   have hkD2:k<D.length:=by rw [hDl];exact hkL
   have hDk:D[k]=D0[k]:=by simp only [g10];exact List.getElem_append_left hkD
   have hlet:=hmem _ (List.getElem_mem hi)
   obtain ⟨nl,nr⟩:=Ajm hV hx hlet
   rw [List.drop_eq_getElem_cons hi] at g11
   simp only [Eg] at g11
   refine ⟨⟨by omega,by omega⟩,L0[k],by rw [Int.toNat_natCast,Nat.zero_add,List.getElem?_eq_getElem hkL,hLk],_,Aw hi,_,if_pos ⟨hv,by show L0[k].length≤20;omega,hx,hlet⟩,?_⟩
   dsimp only
   have hyl:(Aa L0[k] (Af p.2.2.1 ls[i])).length=s.length:=by rw [nl,hxl]
   refine ⟨_,if_pos (by show Cp (Aa L0[k] (Af p.2.2.1 ls[i])).length L (Qc L);rw [hyl];exact g7.ok),Br.dec (fun hin=>?_) fun hin=>?_⟩
   ·have hin:Aa L0[k] (Af p.2.2.1 ls[i])∈L:=Aou.1 hin
    rw [if_pos hin] at g11
    rw [An (by omega)]
    exact ⟨rfl,rfl,rfl,rfl,rfl,rfl,rfl,rfl,rfl,rfl,rfl,rfl,⟨rfl,rfl,rfl,rfl,i+1,rfl,hi,g7,rfl,⟨A,g9⟩,⟨A',g10⟩,g11⟩,by omega⟩
   ·have hin:Aa L0[k] (Af p.2.2.1 ls[i])∉L:=fun hh=>hin (Aou.2 hh)
    rw [if_neg hin] at g11
    refine ⟨fun hfull=>?_,fun hfull=>⟨⟨by omega,by omega⟩,D0[k],by rw [Int.toNat_natCast,Nat.zero_add,List.getElem?_eq_getElem hkD2,hDk],rfl,rfl,rfl,rfl,rfl,rfl,?_⟩⟩
    ·have hfull:L.length=3000:=by
      have:(L.length:Int)=3000:=by simpa using hfull
      omega
     rw [if_pos hfull] at g11
     have:=hgo _ _ _ g11.symm
     rw [if_neg (by decide)] at this
     unfold Bf
     rw [this]
    ·have hfull:L.length≠3000:=by
      have:(L.length:Int)≠3000:=by simpa using hfull
      omega
     rw [if_neg hfull] at g11
     rw [Bj (n:=D0[k]+1) (by omega) (by omega)]
     refine ⟨_,if_pos ⟨by show Cp (Aa L0[k] (Af p.2.2.1 ls[i])).length L (Qc L);rw [hyl];exact g7.ok,by show D.length≤3000;omega⟩,?_⟩
     dsimp only
     rw [An (by omega),←Ya]
     refine ⟨rfl,rfl,rfl,rfl,rfl,rfl,rfl,rfl,rfl,rfl,rfl,rfl,⟨rfl,rfl,rfl,rfl,i+1,rfl,hi,g7.add hin hyl (by omega) nr ⟨by omega,by omega⟩,rfl,⟨A++ [Aa L0[k] (Af p.2.2.1 ls[i])],by rw [g9,List.append_assoc]⟩,⟨A'++ [D0[k]+1],by rw [g10,List.append_assoc]⟩,g11⟩,by omega⟩
  ·have:i=ls.length:=by omega
   subst this
   rw [List.drop_length,Eg] at g11
   have:=hgo _ _ _ g11.symm
   rw [if_pos rfl] at this
   rw [An (by omega)]
   refine ⟨rfl,rfl,rfl,rfl,rfl,rfl,rfl,rfl,rfl,rfl,rfl,rfl,⟨rfl,rfl,rfl,rfl,k+1,rfl,by rw [g9,List.length_append];omega,g7,rfl,?_⟩,by omega⟩
   rw [show 3001-(k+1)=f by omega]
   exact this.symm
 ·have hk:k=L0.length:=by omega
  rw [Bi L0,Bi D0,Bi (Qc L0)]
  obtain ⟨f,hf⟩: ∃f,3001-k=f+1:=⟨3000-k,by omega⟩
  rw [hf,Fu,if_neg (by omega)] at h9
  unfold Bf
  rw [←h9]
theorem Avp:Sound Try.prog 105 Df:=
 Sound.mkS Bhq (Ag Ab2 (Es Ayt (Ag Yz (Ag Afw (Ag Rd As))))) mixed Try.func105 (by kernel_rfl) (by kernel_rfl) fun x h=>Bfw x.1 x.2.1 h
end Go.Proofs.Ytebabhocakedaaa

namespace Go.Proofs.Ytebabhocakedaaa
open Go.RowKit
theorem Ael {p:PP} (hV:Valid p) {m:Nat} {x:List Int} {d:Int} (hx: ∀y∈x,0≤y∧y<p.1) (hxl:x.length=m): ∀(ls:List Int) (L:List (List Int)) (D:List Int),(∀l∈ls,En (List.length p.2.2.1) l)→
  Ns p m L D→(0≤d∧d<L.length)→Ns p m (Eg p.2.2.1 x d ls L D).1 (Eg p.2.2.1 x d ls L D).2.1∧(∃A,(Eg p.2.2.1 x d ls L D).1=L++A)∧(∃A,(Eg p.2.2.1 x d ls L D).2.1=D++A)
 | [],L,D,_,h,_=>⟨h,⟨[],by simp [Eg]⟩,⟨[],by simp [Eg]⟩⟩
 |l::ls,L,D,hl,h,hd=>by
  obtain ⟨n1,n2⟩:=Ajm hV hx (hl l (by simp))
  have hl': ∀l∈ls,En (List.length p.2.2.1) l:=fun l' h'=>hl l' (List.mem_cons_of_mem _ h')
  simp only [Eg]
  split
  ·exact Ael hV hx hxl ls L D hl' h hd
  ·rename_i hn
   split
   ·exact ⟨h,⟨[],by simp⟩,⟨[],by simp⟩⟩
   ·rename_i hf
    have hfew:=h.ok.few
    obtain ⟨k1,⟨A,k2⟩,⟨A',k3⟩⟩:=Ael hV hx hxl ls (L++ [Aa x (Af p.2.2.1 l)]) (D++ [d+1]) hl' (h.add hn (by rw [n1,hxl]) (by omega) n2 ⟨by omega,by omega⟩) ⟨hd.1,by rw [List.length_append];omega⟩
    exact ⟨k1,⟨_::A,by rw [k2,List.append_assoc];rfl⟩,⟨_::A',by rw [k3,List.append_assoc];rfl⟩⟩
theorem At6 {p:PP} (hV:Valid p) {m:Nat} {ls:List Int} (hl: ∀l∈ls,En (List.length p.2.2.1) l): ∀(f k:Nat) (L:List (List Int)) (D:List Int),Ns p m L D→
  Ns p m (Fu p.2.2.1 ls f k L D).1 (Fu p.2.2.1 ls f k L D).2.1∧(∃A,(Fu p.2.2.1 ls f k L D).1=L++A)
 |0,k,L,D,h=>⟨h,⟨[],by simp [Fu]⟩⟩
 |f+1,k,L,D,h=>by
  simp only [Fu]
  split
  ·rename_i hk
   have hkD:k<D.length:=by rw [h.len];exact hk
   have hd:=h.dep k hkD
   have e:D.getD k 0=D[k]:=by rw [List.getD_eq_getElem?_getD,List.getElem?_eq_getElem hkD];rfl
   rw [Mx hk,e]
   obtain ⟨k1,⟨A,k2⟩,_⟩:=Ael hV (h.row _ (List.getElem_mem hk)) (h.ok.len _ (List.getElem_mem hk)) (d:=D[k]) ls L D hl h ⟨by omega,by omega⟩
   split
   ·rename_i L' D' he
    rw [he] at k1 k2
    obtain ⟨g1,⟨B,g2⟩⟩:=At6 hV hl f (k+1) L' D' k1
    have k2:L'=L++A:=k2
    exact ⟨g1,⟨A++B,by rw [g2,k2,List.append_assoc]⟩⟩
   ·rename_i L' D' he
    rw [he] at k1 k2
    exact ⟨k1,⟨A,k2⟩⟩
  ·exact ⟨h,⟨[],by simp⟩⟩
theorem Bcv {p:PP} {s:List Int} (hv:Bg p=true) (hs:s.length≤20) (hr: ∀y∈s,0≤y∧y<p.1):Ns p s.length (Ev p.2.2.1 s).1 (Ev p.2.2.1 s).2.1∧ ∃A,(Ev p.2.2.1 s).1=s::A:=
 At6 (valid hv) (fun _ hl=>Gh hl) _ _ _ _ (Abk hs hr)
def Awl (m:ByteArray→Option Bool) (L:List (List Int)):Prop:= ∀q,Nt q→(m (Kt q)).getD false=decide (q∈L)
theorem Awl.add {m:ByteArray→Option Bool} {L:List (List Int)} {y:List Int} (h:Awl m L) (hy:Nt y):Awl (Fg m (Kt y) true) (L++ [y]):=by
 intro q hq
 unfold Fg
 by_cases e:q=y
 ·subst e
  rw [if_pos rfl];simp
 ·rw [if_neg fun hk=>e (key_inj hq hy hk),h q hq]
  simp [e]
end Go.Proofs.Ytebabhocakedaaa
