/-
  Part 38 of the proof that the statement FnExactSatisfiesGoal holds.
-/
import Derived.Test.YtebabhocakedaaaCSatisfiesGoal36
import Derived.KernelRfl
namespace Go.Proofs.Ytebabhocakedaaa
open Go.RowKit
def Fl (x a b:Int):Bool:=decide (a≤x∧x≤b)
def Zx (n x:Int):Bool:=decide (0≤x∧x≤IntKind.i64.wrap (n-1))
def Gl (a b:List Int):Bool:=decide (a=b)
def Aao (xs:List Int) (x:Int):Bool:=decide (x∈xs)
def short (xs:List Int):Prop:=xs.length≤4294967296
noncomputable abbrev Bg:Spec:=mkS (.pair tI (.pair tI (.pair tI .unit))) .bool false true (fun _=>True) (fun x=>Fl x.1 x.2.1 x.2.2.1)
noncomputable abbrev Pv:Spec:=mkS (.pair tI (.pair tI .unit)) .bool false true (fun _=>True) (fun x=>Zx x.1 x.2.1)
noncomputable abbrev Cr:Spec:=mkS (.pair tL (.pair tL .unit)) .bool false true (fun x=>short x.1) (fun x=>Gl x.1 x.2.1)
noncomputable abbrev Io:Spec:=mkS (.pair tL (.pair tI .unit)) .bool false true (fun x=>short x.1) (fun x=>Aao x.1 x.2.1)
theorem Ayj (x a b:Int) (P:Bool→Prop):(Br (decide (x≥a)) (P (decide (x≤b))) (P false))=fnW tab (look []) Bg Try.f122 (x,a,b,()) P:=by kernel_rfl
theorem Bav (x a b:Int) (P:Bool→Prop):(Br (decide (x≥a)) (P (decide (x≤b))) (P false))=fnW tab (look []) Bg Try.f108 (x,a,b,()) P:=by kernel_rfl
theorem Ayl (n x:Int) (P:Bool→Prop):(∃(y3:Bool),Bg.fn (x,0,IntKind.i64.wrap (n-1),())=some y3∧P y3)=fnW tab (look [(108,Bg)]) Pv Try.f102 (n,x,()) P:=by kernel_rfl
theorem Asw (a b:List Int) (P:Bool→Prop):(Br ((↑a.length:Int) !=(↑b.length:Int)) (P false)
 (Ch
  (fun (v3:Int×PUnit) (k4:Int×PUnit→Prop)=>
   Br (decide (v3.1<(↑a.length:Int))) (∃(y5:Int),idx a v3.1=some y5∧ ∃(y6:Int),idx b v3.1=some y6∧Br (y5 !=y6) (P false) (k4 (IntKind.i64.wrap (v3.1+1),())))
    (P true))
  (0,PUnit.unit)))=fnW tab (look []) Cr Try.f59 (a,b,()) P:=by kernel_rfl
theorem Al2 (xs:List Int) (x:Int) (P:Bool→Prop):(Ch
 (fun (v3:Int×PUnit) (k4:Int×PUnit→Prop)=>
  Br (decide (v3.1<(↑xs.length:Int))) (∃(y5:Int),idx xs v3.1=some y5∧Br (y5==x) (P true) (k4 (IntKind.i64.wrap (v3.1+1),()))) (P false))
 (0,PUnit.unit))=fnW tab (look []) Io Try.f152 (xs,x,()) P:=by kernel_rfl
theorem Axl (x a b:Int) (_:True):fnW tab (look []) Bg Try.f122 (x,a,b,()) (fun (z:Bool)=>z=Fl x a b):=by
 refine Eq.mp (Ayj x a b _) ?_
 refine Br.dec (fun h=>?_) fun h=>?_
 ·have h:a≤x:=h
  simp [Fl,h]
 ·exact (decide_eq_false fun hh=>h hh.1).symm
theorem Sp:Sound Try.prog 122 Bg:=
 Sound.mkS Bw Ax mixed Try.func122 (by kernel_rfl) (by kernel_rfl) fun x h=>Axl x.1 x.2.1 x.2.2.1 h
theorem Azz (x a b:Int) (_:True):fnW tab (look []) Bg Try.f108 (x,a,b,()) (fun (z:Bool)=>z=Fl x a b):=by
 refine Eq.mp (Bav x a b _) ?_
 refine Br.dec (fun h=>?_) fun h=>?_
 ·have h:a≤x:=h
  simp [Fl,h]
 ·exact (decide_eq_false fun hh=>h hh.1).symm
theorem Ma:Sound Try.prog 108 Bg:=
 Sound.mkS Bw Ax mixed Try.func108 (by kernel_rfl) (by kernel_rfl) fun x h=>Azz x.1 x.2.1 x.2.2.1 h
theorem Axn (n x:Int) (_:True):fnW tab (look [(108,Bg)]) Pv Try.f102 (n,x,()) (fun (z:Bool)=>z=Zx n x):=
 Eq.mp (Ayl n x _) ⟨_,if_pos trivial,rfl⟩
theorem Akw:Sound Try.prog 102 Pv:=
 Sound.mkS Bw (Ad Ma Ax) mixed Try.func102 (by kernel_rfl) (by kernel_rfl) fun x h=>Axn x.1 x.2.1 h
theorem Akc (xs:List Int) (x:Int) (h:short xs):fnW tab (look []) Io Try.f152 (xs,x,()) (fun (z:Bool)=>z=Aao xs x):=by
 refine Eq.mp (Al2 xs x _) ?_
 unfold short at h
 refine Az xs.length (fun v=>v.1) (fun j _=>x∉xs.take j) rfl (by simp) ?_
 rintro j ⟨i,⟨⟩⟩ K hj hi hR hK
 dsimp only at hi⊢
 subst hi
 refine Br.dec (fun hl=>?_) fun hl=>?_
 ·have hl:j<xs.length:=by omega
  refine ⟨_,Bc hl,⟨fun he=>?_,fun he=>?_⟩⟩
  ·have hm:=List.getElem_mem hl
   simp only [beq_iff_eq] at he
   rw [he] at hm
   exact (decide_eq_true hm).symm
  ·rw [At (by omega)]
   refine hK hl _ rfl ?_
   simp only [beq_eq_false_iff_ne,ne_eq] at he
   rw [List.take_succ_eq_append_getElem hl]
   simp only [List.mem_append,List.mem_singleton,not_or]
   exact ⟨hR,fun hx=>he hx.symm⟩
 ·have:j=xs.length:=by omega
  subst this
  rw [List.take_length] at hR
  exact (decide_eq_false hR).symm
theorem Adt:Sound Try.prog 152 Io:=
 Sound.mkS Bw Ax mixed Try.func152 (by kernel_rfl) (by kernel_rfl) fun x h=>Akc x.1 x.2.1 h
theorem Aw3 (a b:List Int) (hlen:a.length=b.length) (h:short a):
  Ch (fun (v3:Int×PUnit) (k4:Int×PUnit→Prop)=>
   Br (decide (v3.1<(↑a.length:Int))) (∃(y5:Int),idx a v3.1=some y5∧ ∃(y6:Int),idx b v3.1=some y6∧Br (y5 !=y6) (false=Gl a b) (k4 (IntKind.i64.wrap (v3.1+1),())))
    (true=Gl a b))
  (0,PUnit.unit):=by
 unfold short at h
 refine Az a.length (fun v=>v.1) (fun j _=>a.take j=b.take j) rfl (by simp) ?_
 rintro j ⟨i,⟨⟩⟩ K hj hi hR hK
 dsimp only at hi⊢
 subst hi
 refine Br.dec (fun hl=>?_) fun hl=>?_
 ·have hl1:j<a.length:=by omega
  have hl2:j<b.length:=by omega
  refine ⟨_,Bc hl1,_,Bc hl2,⟨fun he=>?_,fun he=>?_⟩⟩
  ·simp only [bne_iff_ne,ne_eq] at he
   refine (decide_eq_false fun hab=>he ?_).symm
   subst hab
   rfl
  ·rw [At (by omega)]
   refine hK hl1 _ rfl ?_
   simp only [bne_eq_false_iff_eq] at he
   rw [List.take_succ_eq_append_getElem hl1,List.take_succ_eq_append_getElem hl2,hR,he]
 ·have hj':j=a.length:=by omega
  subst hj'
  rw [List.take_length,hlen,List.take_length] at hR
  exact (decide_eq_true hR).symm
theorem Arw (a b:List Int) (h:short a):fnW tab (look []) Cr Try.f59 (a,b,()) (fun (z:Bool)=>z=Gl a b):=by
 refine Eq.mp (Asw a b _) ⟨fun hl=>?_,fun hl=>?_⟩
 ·simp only [bne_iff_ne,ne_eq,Int.natCast_inj] at hl
  exact (decide_eq_false fun hab=>hl (by rw [hab])).symm
 ·simp only [bne_eq_false_iff_eq,Int.natCast_inj] at hl
  exact Aw3 a b hl h
theorem Ags:Sound Try.prog 59 Cr:=
 Sound.mkS Bw Ax mixed Try.func59 (by kernel_rfl) (by kernel_rfl) fun x h=>Arw x.1 x.2.1 h
end Go.Proofs.Ytebabhocakedaaa

namespace Go.Proofs.Ytebabhocakedaaa
open Go.RowKit
def Ia (xs:List (List Int)):Prop:=xs.length≤4294967296∧ ∀r∈xs,short r
def roomy (room:Int):Prop:=0≤room∧room≤4294967296
def Aet (n:Nat) (room:Int):Int:=if room-n<0 then-1 else room-n
def Ade (xs:List Int) (room:Int):Int:=Aet xs.length room
def Asm:List (List Int)→Int→Int
 | [],room=>room
 |r::rs,room=>if Ade r room<0 then-1 else Asm rs (Ade r room)
def Sk (xs:List (List Int)) (room:Int):Int:=if Aet xs.length room<0 then-1 else Asm xs (Aet xs.length room)
def Aes (a b:List (List Int)):Bool:=decide (a=b)
noncomputable abbrev Amo:Spec:=mkS (.pair tL (.pair tI .unit)) tI false true (fun x=>short x.1∧roomy x.2.1) (fun x=>Ade x.1 x.2.1)
noncomputable abbrev Afa:Spec:=mkS (.pair tLL (.pair tI .unit)) tI false true (fun x=>Ia x.1∧roomy x.2.1) (fun x=>Sk x.1 x.2.1)
noncomputable abbrev Ru:Spec:=mkS (.pair tL .unit) tL false true (fun x=>short x.1) (fun x=>x.1)
noncomputable abbrev Afb:Spec:=mkS (.pair tLL .unit) tLL false true (fun x=>Ia x.1) (fun x=>x.1)
noncomputable abbrev Af6:Spec:=mkS (.pair tLL (.pair tLL .unit)) .bool false true (fun x=>Ia x.1) (fun x=>Aes x.1 x.2.1)
theorem Be8 (xs:List Int) (room:Int) (P:Int→Prop):(Br (decide (IntKind.i64.wrap (room-(↑xs.length:Int))<0)) (P (-1)) (P (IntKind.i64.wrap (room-(↑xs.length:Int)))))=fnW tab (look []) Amo Try.f76 (xs,room,()) P:=by kernel_rfl
theorem Bdb (xs:List (List Int)) (room:Int) (P:Int→Prop):(Br (decide (IntKind.i64.wrap (room-(↑xs.length:Int))<0)) (P (-1))
 (Ch
  (fun (v3:Int×Int×PUnit) (k4:Int×Int×PUnit→Prop)=>
   Br (decide (v3.2.1<(↑xs.length:Int)))
    (∃(y5:List Int),idx xs v3.2.1=some y5∧ ∃(y6:Int),Amo.fn (y5,v3.1,())=some y6∧Br (decide (y6<0)) (P (-1)) (k4 (y6,IntKind.i64.wrap (v3.2.1+1),()))) (P v3.1))
  (IntKind.i64.wrap (room-(↑xs.length:Int)),0,PUnit.unit)))=fnW tab (look [(76,Amo)]) Afa Try.f33 (xs,room,()) P:=by kernel_rfl
theorem Bea (xs:List Int) (P:List Int→Prop):((0≤(↑xs.length:Int)∧(↑xs.length:Int)<(↑As:Int)+1)∧
 (↑xs.length:Int)=(↑xs.length:Int)∧
  0=0∧
   (List.replicate (↑xs.length:Int).toNat (Int.ofNat 0)).length=(List.replicate (↑xs.length:Int).toNat (Int.ofNat 0)).length∧
    Ch
     (fun (v2:Int×List Int×PUnit) (k3:Int×List Int×PUnit→Prop)=>
      Br (decide (v2.1<(↑xs.length:Int)))
       (∃(y4:Int),
        idx xs v2.1=some y4∧
         (0≤v2.1∧v2.1<(↑v2.2.1.length:Int))∧
          0+v2.1.toNat<v2.2.1.length∧
           0=0∧v2.2.1.length=(v2.2.1.set (0+v2.1.toNat) y4).length∧k3 (IntKind.i64.wrap (v2.1+1),v2.2.1.set (0+v2.1.toNat) y4,()))
       (P (List.take v2.2.1.length (List.drop 0 v2.2.1))))
     (0,List.replicate (↑xs.length:Int).toNat (Int.ofNat 0),PUnit.unit))=fnW tab (look []) Ru Try.f18 (xs,()) P:=by kernel_rfl
theorem Bdc (xs:List (List Int)) (P:List (List Int)→Prop):((0≤(↑xs.length:Int)∧(↑xs.length:Int)<(↑As:Int)+1)∧
 (↑xs.length:Int)=(↑xs.length:Int)∧
  0=0∧
   (List.replicate (↑xs.length:Int).toNat ([]:List Int)).length=(List.replicate (↑xs.length:Int).toNat ([]:List Int)).length∧
    Ch
     (fun (v2:Int×List (List Int)×PUnit) (k3:Int×List (List Int)×PUnit→Prop)=>
      Br (decide (v2.1<(↑xs.length:Int)))
       (∃(y4:List Int),
        idx xs v2.1=some y4∧
         ∃(y5:List Int),
          Ru.fn (y4,())=some y5∧
           (0≤v2.1∧v2.1<(↑v2.2.1.length:Int))∧
            0+v2.1.toNat<v2.2.1.length∧
             0=0∧v2.2.1.length=(v2.2.1.set (0+v2.1.toNat) y5).length∧k3 (IntKind.i64.wrap (v2.1+1),v2.2.1.set (0+v2.1.toNat) y5,()))
       (P (List.take v2.2.1.length (List.drop 0 v2.2.1))))
     (0,List.replicate (↑xs.length:Int).toNat ([]:List Int),PUnit.unit))=fnW tab (look [(18,Ru)]) Afb Try.f35 (xs,()) P:=by kernel_rfl
theorem Be3 (a b:List Int) (P:Bool→Prop):(Br ((↑a.length:Int) !=(↑b.length:Int)) (P false)
 (Ch
  (fun (v3:Int×PUnit) (k4:Int×PUnit→Prop)=>
   Br (decide (v3.1<(↑a.length:Int))) (∃(y5:Int),idx a v3.1=some y5∧ ∃(y6:Int),idx b v3.1=some y6∧Br (y5 !=y6) (P false) (k4 (IntKind.i64.wrap (v3.1+1),())))
    (P true))
  (0,PUnit.unit)))=fnW tab (look []) Cr Try.f21 (a,b,()) P:=by kernel_rfl
theorem Bd5 (a b:List (List Int)) (P:Bool→Prop):(Br ((↑a.length:Int) !=(↑b.length:Int)) (P false)
 (Ch
  (fun (v3:Int×PUnit) (k4:Int×PUnit→Prop)=>
   Br (decide (v3.1<(↑a.length:Int)))
    (∃(y5:List Int),
     idx a v3.1=some y5∧ ∃(y6:List Int),idx b v3.1=some y6∧ ∃(y7:Bool),Cr.fn (y5,y6,())=some y7∧Br (!y7) (P false) (k4 (IntKind.i64.wrap (v3.1+1),())))
    (P true))
  (0,PUnit.unit)))=fnW tab (look [(21,Cr)]) Af6 Try.f37 (a,b,()) P:=by kernel_rfl
theorem Axa {n:Nat} {room:Int} (h:roomy room) (h2: ¬Aet n room<0):roomy (Aet n room):=by
 unfold Aet roomy at*
 split at h2<;>simp_all
 omega
theorem Bds (xs:List Int) (room:Int) (h:short xs∧roomy room):fnW tab (look []) Amo Try.f76 (xs,room,()) (fun (z:Int)=>z=Ade xs room):=by
 obtain ⟨h1,h2,h3⟩:=h
 unfold short at h1
 refine Eq.mp (Be8 xs room _) ?_
 rw [Cb (by omega) (by omega)]
 refine Br.dec (fun h=>?_) fun h=>?_
 ·simp only [Ade,Aet,if_pos h]
 ·simp only [Ade,Aet,if_neg h]
theorem Ay7:Sound Try.prog 76 Amo:=
 Sound.mkS Bw Ax mixed Try.func76 (by kernel_rfl) (by kernel_rfl) fun x h=>Bds x.1 x.2.1 h
theorem Bcw (xs:List (List Int)) (room:Int) (h:Ia xs∧roomy room):fnW tab (look [(76,Amo)]) Afa Try.f33 (xs,room,()) (fun (z:Int)=>z=Sk xs room):=by
 obtain ⟨⟨h1,h4⟩,h2,h3⟩:=h
 refine Eq.mp (Bdb xs room _) ?_
 rw [Cb (by omega) (by omega)]
 refine Br.dec (fun h=>?_) fun h=>?_
 ·simp only [Sk,Aet,if_pos h];rfl
 ·refine Az xs.length (fun v=>v.2.1) (fun j v=>roomy v.1∧Asm (xs.drop j) v.1=Sk xs room) rfl ?_ ?_
  ·refine ⟨by unfold roomy;omega,?_⟩
   simp only [Sk,Aet,if_neg h,List.drop_zero]
  ·rintro j ⟨r,i,⟨⟩⟩ K hj hi ⟨hr,hR⟩ hK
   dsimp only at hi hr hR⊢
   subst hi
   refine Br.dec (fun hl=>?_) fun hl=>?_
   ·have hl:j<xs.length:=by omega
    have hd:xs.drop j=xs[j]::xs.drop (j+1):=List.drop_eq_getElem_cons hl
    refine ⟨_,Bc hl,_,if_pos ⟨h4 _ (List.getElem_mem hl),hr⟩,?_⟩
    rw [hd] at hR
    simp only [Asm] at hR
    refine Br.dec (fun hn=>?_) fun hn=>?_
    ·have hn:Ade xs[j] r<0:=hn
     rw [if_pos hn] at hR
     exact hR
    ·have hn: ¬Ade xs[j] r<0:=hn
     rw [if_neg hn] at hR
     rw [At (by omega)]
     exact hK hl _ rfl ⟨Axa hr hn,hR⟩
   ·have:j=xs.length:=by omega
    subst this
    rw [List.drop_length] at hR
    exact hR
theorem Avf:Sound Try.prog 33 Afa:=
 Sound.mkS Bw (Ad Ay7 Ax) mixed Try.func33 (by kernel_rfl) (by kernel_rfl) fun x h=>Bcw x.1 x.2.1 h
theorem No {α:Type} {ys xs:List α} {j:Nat} (h:j<xs.length) (hl:ys.length=xs.length) (ht:ys.take j=xs.take j):(ys.set j xs[j]).take (j+1)=xs.take (j+1):=by
 have h1:j<(ys.set j xs[j]).length:=by rw [List.length_set];omega
 rw [List.take_succ_eq_append_getElem h1,List.take_succ_eq_append_getElem h,List.getElem_set_self,List.take_set_of_le (Nat.le_refl j),ht]
theorem Bdu (xs:List Int) (h:short xs):fnW tab (look []) Ru Try.f18 (xs,()) (fun (z:List Int)=>z=xs):=by
 unfold short at h
 refine Eq.mp (Bea xs _) ?_
 refine ⟨⟨by omega,by show (xs.length:Int)<(4294967296:Int)+1;omega⟩,rfl,rfl,rfl,?_⟩
 refine Az xs.length (fun v=>v.1) (fun j v=>v.2.1.length=xs.length∧v.2.1.take j=xs.take j) rfl ⟨by simp,by simp⟩ ?_
 rintro j ⟨i,ys,⟨⟩⟩ K hj hi ⟨h1,h2⟩ hK
 dsimp only at hi h1 h2⊢
 subst hi
 refine Br.dec (fun hl=>?_) fun hl=>?_
 ·have hl:j<xs.length:=by omega
  refine ⟨_,Bc hl,⟨by omega,by omega⟩,by rw [Int.toNat_natCast];omega,rfl,by rw [List.length_set],?_⟩
  rw [At (by omega),Int.toNat_natCast,Nat.zero_add]
  exact hK hl _ rfl ⟨by rw [List.length_set];exact h1,No hl h1 h2⟩
 ·have:j=xs.length:=by omega
  subst this
  rw [List.take_length,←h1,List.take_length] at h2
  rw [List.drop_zero,List.take_length]
  exact h2
theorem Amu:Sound Try.prog 18 Ru:=
 Sound.mkS Bw Ax mixed Try.func18 (by kernel_rfl) (by kernel_rfl) fun x h=>Bdu x.1 h
theorem Bcx (xs:List (List Int)) (h:Ia xs):fnW tab (look [(18,Ru)]) Afb Try.f35 (xs,()) (fun (z:List (List Int))=>z=xs):=by
 obtain ⟨h,h4⟩:=h
 refine Eq.mp (Bdc xs _) ?_
 refine ⟨⟨by omega,by show (xs.length:Int)<(4294967296:Int)+1;omega⟩,rfl,rfl,rfl,?_⟩
 refine Az xs.length (fun v=>v.1) (fun j v=>v.2.1.length=xs.length∧v.2.1.take j=xs.take j) rfl ⟨by simp,by simp⟩ ?_
 rintro j ⟨i,ys,⟨⟩⟩ K hj hi ⟨h1,h2⟩ hK
 dsimp only at hi h1 h2⊢
 subst hi
 refine Br.dec (fun hl=>?_) fun hl=>?_
 ·have hl:j<xs.length:=by omega
  refine ⟨_,Bc hl,_,if_pos (h4 _ (List.getElem_mem hl)),⟨by omega,by omega⟩,by rw [Int.toNat_natCast];omega,rfl,by rw [List.length_set],?_⟩
  rw [At (by omega),Int.toNat_natCast,Nat.zero_add]
  exact hK hl _ rfl ⟨by rw [List.length_set];exact h1,No hl h1 h2⟩
 ·have:j=xs.length:=by omega
  subst this
  rw [List.take_length,←h1,List.take_length] at h2
  rw [List.drop_zero,List.take_length]
  exact h2
theorem Avg:Sound Try.prog 35 Afb:=
 Sound.mkS Bw (Ad Amu Ax) mixed Try.func35 (by kernel_rfl) (by kernel_rfl) fun x h=>Bcx x.1 h
theorem Bdn (a b:List Int) (h:short a):fnW tab (look []) Cr Try.f21 (a,b,()) (fun (z:Bool)=>z=Gl a b):=by
 refine Eq.mp (Be3 a b _) ⟨fun hl=>?_,fun hl=>?_⟩
 ·simp only [bne_iff_ne,ne_eq,Int.natCast_inj] at hl
  exact (decide_eq_false fun hab=>hl (by rw [hab])).symm
 ·simp only [bne_eq_false_iff_eq,Int.natCast_inj] at hl
  exact Aw3 a b hl h
theorem Amt:Sound Try.prog 21 Cr:=
 Sound.mkS Bw Ax mixed Try.func21 (by kernel_rfl) (by kernel_rfl) fun x h=>Bdn x.1 x.2.1 h
theorem Bcq (a b:List (List Int)) (h:Ia a):fnW tab (look [(21,Cr)]) Af6 Try.f37 (a,b,()) (fun (z:Bool)=>z=Aes a b):=by
 obtain ⟨h,h4⟩:=h
 refine Eq.mp (Bd5 a b _) ⟨fun hl=>?_,fun hl=>?_⟩
 ·simp only [bne_iff_ne,ne_eq,Int.natCast_inj] at hl
  exact (decide_eq_false fun hab=>hl (by rw [hab])).symm
 ·simp only [bne_eq_false_iff_eq,Int.natCast_inj] at hl
  refine Az a.length (fun v=>v.1) (fun j _=>a.take j=b.take j) rfl (by simp) ?_
  rintro j ⟨i,⟨⟩⟩ K hj hi hR hK
  dsimp only at hi⊢
  subst hi
  refine Br.dec (fun hlt=>?_) fun hlt=>?_
  ·have hl1:j<a.length:=by omega
   have hl2:j<b.length:=by omega
   refine ⟨_,Bc hl1,_,Bc hl2,_,if_pos (h4 _ (List.getElem_mem hl1)),⟨fun he=>?_,fun he=>?_⟩⟩
   ·refine (decide_eq_false fun hab=>?_).symm
    subst hab
    simp [Gl] at he
   ·rw [At (by omega)]
    refine hK hl1 _ rfl ?_
    simp only [Gl,Bool.not_eq_false',decide_eq_true_eq] at he
    rw [List.take_succ_eq_append_getElem hl1,List.take_succ_eq_append_getElem hl2,hR]
    exact congrArg (fun x=>List.take j b++ [x]) he
  ·have hj':j=a.length:=by omega
   subst hj'
   rw [List.take_length,hl,List.take_length] at hR
   exact (decide_eq_true hR).symm
theorem Avb:Sound Try.prog 37 Af6:=
 Sound.mkS Bw (Ad Amt Ax) mixed Try.func37 (by kernel_rfl) (by kernel_rfl) fun x h=>Bcq x.1 x.2.1 h
end Go.Proofs.Ytebabhocakedaaa

namespace Go.Proofs.Ytebabhocakedaaa
open Go.RowKit
def PL (n:Int) (xs:List Int) (k:Nat):Prop:= ∀j (h:j<xs.length),j<k→0≤xs[j]∧xs[j]≤n-1∧(0<j→xs[j-1]<xs[j])
def DL (n:Int) (xs:List Int) (k:Nat):Prop:= ∀j (h:j<xs.length),j<k→0≤xs[j]∧xs[j]≤n-1∧xs[j]∉xs.take j
noncomputable def dec (p:Prop):Bool:= @decide p (Classical.propDecidable p)
theorem Hg {p:Prop} (h:p):true=dec p:=(@decide_eq_true p (Classical.propDecidable p) h).symm
theorem Bb {p:Prop} (h: ¬p):false=dec p:=(@decide_eq_false p (Classical.propDecidable p) h).symm
theorem En {p:Prop} :dec p=true↔p:= @decide_eq_true_iff p (Classical.propDecidable p)
theorem Bb3 {p:Prop} :dec p=false↔ ¬p:= @decide_eq_false_iff_not p (Classical.propDecidable p)
def nOK (n:Int):Prop:=0≤n∧n≤4294967296
noncomputable def Gm (n:Int) (xs:List Int):Bool:=dec (0<xs.length∧PL n xs xs.length)
noncomputable abbrev Ed:Spec:=mkS (.pair tI (.pair tL .unit)) .bool false true (fun x=>nOK x.1∧short x.2.1) (fun x=>Gm x.1 x.2.1)
noncomputable abbrev Aa2:Spec:=mkS (.pair tLL .unit) tI false true (fun _=>True) (fun x=>(List.length x.1:Int))
theorem Al6 (n:Int) (xs:List Int) (P:Bool→Prop):(∃(y3:Bool),
 Bg.fn ((↑xs.length:Int),(1:Int),n,())=some y3∧
  Br (!y3) (P false)
   (Ch
    (fun (v4:Int×PUnit) (k5:Int×PUnit→Prop)=>
     Br (decide (v4.1<(↑xs.length:Int)))
      (∃(y6:Int),
       idx xs v4.1=some y6∧
        ∃(y7:Bool),
         Bg.fn (y6,(0:Int),IntKind.i64.wrap (n-(1:Int)),())=some y7∧
          Br (!y7) (P false)
           (Br (decide (v4.1>(0:Int)))
            (∃(y8:Int),
             idx xs v4.1=some y8∧
              ∃(y9:Int),idx xs (IntKind.i64.wrap (v4.1-(1:Int)))=some y9∧Br (decide (y8≤y9)) (P false) (k5 (IntKind.i64.wrap (v4.1+(1:Int)),())))
            (k5 (IntKind.i64.wrap (v4.1+(1:Int)),()))))
      (P true))
    ((0:Int),PUnit.unit)))=fnW tab (look [(122,Bg)]) Ed Try.f100 (n,xs,()) P:=by kernel_rfl
theorem Asy (n:Int) (xs:List Int) (P:Bool→Prop):(Ch
 (fun (v3:Int×PUnit) (k4:Int×PUnit→Prop)=>
  Br (decide (v3.1<(↑xs.length:Int)))
   (∃(y5:Int),
    idx xs v3.1=some y5∧
     ∃(y6:Bool),
      Pv.fn (n,y5,())=some y6∧
       Br (!y6) (P false)
        (Br (decide (v3.1>(0:Int)))
         (∃(y7:Int),idx xs (IntKind.i64.wrap (v3.1-(1:Int)))=some y7∧Br (decide (y7≥y5)) (P false) (k4 (IntKind.i64.wrap (v3.1+(1:Int)),())))
         (k4 (IntKind.i64.wrap (v3.1+(1:Int)),()))))
   (P (decide ((↑xs.length:Int)>(0:Int)))))
 ((0:Int),PUnit.unit))=fnW tab (look [(102,Pv)]) Ed Try.f55 (n,xs,()) P:=by kernel_rfl
theorem Bby (xs:List (List Int)) (P:Int→Prop):(P (↑xs.length:Int))=fnW tab (look []) Aa2 Try.f67 (xs,()) P:=by kernel_rfl
theorem Bbf (xs:List (List Int)) (_:True):fnW tab (look []) Aa2 Try.f67 (xs,()) (fun (z:Int)=>z=(xs.length:Int)):=Eq.mp (Bby xs _) rfl
theorem Asf:Sound Try.prog 67 Aa2:=
 Sound.mkS Bw Ax mixed Try.func67 (by kernel_rfl) (by kernel_rfl) fun x h=>Bbf x.1 h
theorem Ag5 {n x:Int} (hn:nOK n):Zx n x=true↔0≤x∧x≤n-1:=by
 unfold Zx nOK at*
 rw [Cb (by omega) (by omega),decide_eq_true_iff]
theorem Bx {x a b:Int} :Fl x a b=true↔a≤x∧x≤b:=decide_eq_true_iff
theorem Dx {b:Bool} (h:(!b)=true): ¬b=true:=by cases b<;>simp_all
theorem Ey {b:Bool} (h:(!b)=false):b=true:=by cases b<;>simp_all
theorem Aur {n:Int} {xs:List Int} (h:PL n xs xs.length): ∀j (hj:j<xs.length),(j:Int)≤xs[j]
 |0,hj=>(h 0 hj hj).1
 |j+1,hj=>by
  have h1:=Aur h j (by omega)
  have h2:=(h (j+1) hj hj).2.2 (by omega)
  simp only [Nat.add_sub_cancel] at h2
  omega
theorem Ah8 {n:Int} {xs:List Int} {j:Nat} (hl:j<xs.length) (h:PL n xs j) (h1:0≤xs[j]) (h2:xs[j]≤n-1) (h3:0<j→xs[j-1]<xs[j]):PL n xs (j+1):=by
 intro i hi hij
 by_cases e:i=j
 ·subst e;exact ⟨h1,h2,h3⟩
 ·exact h i hi (by omega)
theorem Ary (n:Int) (xs:List Int) (h:nOK n∧short xs):fnW tab (look [(102,Pv)]) Ed Try.f55 (n,xs,()) (fun (z:Bool)=>z=Gm n xs):=by
 obtain ⟨hn,h⟩:=h
 unfold short at h
 refine Eq.mp (Asy n xs _) ?_
 refine Az xs.length (fun v=>v.1) (fun j _=>PL n xs j) rfl (fun j _ hj=>absurd hj (Nat.not_lt_zero _)) ?_
 rintro j ⟨i,⟨⟩⟩ K hj hi hR hK
 dsimp only at hi⊢
 subst hi
 refine Br.dec (fun hl=>?_) fun hl=>?_
 ·have hl:j<xs.length:=by omega
  refine ⟨_,Bc hl,_,if_pos trivial,⟨fun hp=>?_,fun hp=>?_⟩⟩
  ·have hp:=Dx hp
   rw [Ag5 hn] at hp
   exact Bb fun hh=>hp ⟨(hh.2 j hl hl).1,(hh.2 j hl hl).2.1⟩
  ·have hp:=Ey hp
   rw [Ag5 hn] at hp
   refine Br.dec (fun h0=>?_) fun h0=>?_
   ·have h0:0<j:=by omega
    rw [Cb (by omega) (by omega),show (j:Int)-1=((j-1:Nat):Int) by omega]
    refine ⟨_,Bc (by omega),Br.dec (fun hg=>?_) fun hg=>?_⟩
    ·exact Bb fun hh=>by have:=(hh.2 j hl hl).2.2 h0;omega
    ·rw [At (by omega)]
     exact hK hl _ rfl (Ah8 hl hR hp.1 hp.2 fun _=>by omega)
   ·have h0:j=0:=by omega
    rw [At (by omega)]
    exact hK hl _ rfl (Ah8 hl hR hp.1 hp.2 fun h=>by omega)
 ·have:j=xs.length:=by omega
  subst this
  by_cases h0:0<xs.length
  ·rw [decide_eq_true (show (xs.length:Int)>0 by omega)];exact Hg ⟨h0,hR⟩
  ·rw [decide_eq_false (show ¬(xs.length:Int)>0 by omega)];exact Bb fun hh=>h0 hh.1
theorem Agu:Sound Try.prog 55 Ed:=
 Sound.mkS Bw (Ad Akw Ax) mixed Try.func55 (by kernel_rfl) (by kernel_rfl) fun x h=>Ary x.1 x.2.1 h
theorem Akg (n:Int) (xs:List Int) (h:nOK n∧short xs):fnW tab (look [(122,Bg)]) Ed Try.f100 (n,xs,()) (fun (z:Bool)=>z=Gm n xs):=by
 obtain ⟨hn,h⟩:=h
 unfold short at h
 refine Eq.mp (Al6 n xs _) ⟨_,if_pos trivial,⟨fun hp=>?_,fun hp=>?_⟩⟩
 ·have hp:=Dx hp
  rw [Bx] at hp
  dsimp only at hp
  refine Bb fun hh=>hp ⟨by omega,?_⟩
  have:=Aur hh.2 (xs.length-1) (by omega)
  have:=(hh.2 (xs.length-1) (by omega) (by omega)).2.1
  omega
 ·have hp:=Ey hp
  rw [Bx] at hp
  dsimp only at hp
  refine Az xs.length (fun v=>v.1) (fun j _=>PL n xs j) rfl (fun j _ hj=>absurd hj (Nat.not_lt_zero _)) ?_
  rintro j ⟨i,⟨⟩⟩ K hj hi hR hK
  dsimp only at hi⊢
  subst hi
  refine Br.dec (fun hl=>?_) fun hl=>?_
  ·have hl:j<xs.length:=by omega
   refine ⟨_,Bc hl,_,if_pos trivial,⟨fun hq=>?_,fun hq=>?_⟩⟩
   ·have hq:=Dx hq
    unfold nOK at hn
    rw [Bx,Cb (by omega) (by omega)] at hq
    exact Bb fun hh=>hq ⟨(hh.2 j hl hl).1,(hh.2 j hl hl).2.1⟩
   ·have hq:=Ey hq
    unfold nOK at hn
    rw [Bx,Cb (by omega) (by omega)] at hq
    refine Br.dec (fun h0=>?_) fun h0=>?_
    ·have h0:0<j:=by omega
     rw [Cb (by omega) (by omega),show (j:Int)-1=((j-1:Nat):Int) by omega]
     refine ⟨_,Bc hl,_,Bc (by omega),Br.dec (fun hg=>?_) fun hg=>?_⟩
     ·exact Bb fun hh=>by have:=(hh.2 j hl hl).2.2 h0;omega
     ·rw [At (by omega)]
      exact hK hl _ rfl (Ah8 hl hR hq.1 hq.2 fun _=>by omega)
    ·rw [At (by omega)]
     exact hK hl _ rfl (Ah8 hl hR hq.1 hq.2 fun h=>by omega)
  ·have:j=xs.length:=by omega
   subst this
   exact Hg ⟨by omega,hR⟩
theorem Adv:Sound Try.prog 100 Ed:=
 Sound.mkS Bw (Ad Sp Ax) mixed Try.func100 (by kernel_rfl) (by kernel_rfl) fun x h=>Akg x.1 x.2.1 h
theorem Bb4 {n:Int} {xs:List Int} {j:Nat} (hl:j<xs.length) (h:DL n xs j) (h1:0≤xs[j]) (h2:xs[j]≤n-1) (h3:xs[j]∉xs.take j):DL n xs (j+1):=by
 intro i hi hij
 by_cases e:i=j
 ·subst e;exact ⟨h1,h2,h3⟩
 ·exact h i hi (by omega)
theorem Av7 {xs:List Int} (h:short xs) (j:Nat):short (xs.take j):=by
 unfold short at*
 rw [List.length_take]
 omega
end Go.Proofs.Ytebabhocakedaaa

namespace Go.Proofs.Ytebabhocakedaaa
open Go.RowKit
theorem As7:roomy 1048576:=⟨by decide,by decide⟩
end Go.Proofs.Ytebabhocakedaaa

namespace Go.Proofs.Ytebabhocakedaaa
open Go.RowKit
abbrev PP:Type:=Int×ByteArray×List (List Int)×Unit
noncomputable def Eg (p:List Int):Bool:=dec (1≤p.length∧p.length≤20∧DL p.length p p.length)
noncomputable def Dh (n:Int) (p:List Int):Bool:=dec ((p.length:Int)=n∧Eg p=true)
noncomputable def Ny (n:Int) (g:List (List Int)):Bool:=dec ((1≤n∧n≤20)∧g.length≤8∧ ∀p∈g,Dh n p=true)
def Dl {α:Type} (P:α→Bool):List α→Int→Int
 | [],_=> -1
 |y::r,i=>if P y=true then i else Dl P r (i+1)
abbrev tG1:Ty:= .clo 174 (.pair (.ptr tI) .unit)
def Amy (s:ByteArray) (i:Nat):Prop:= ∃c:UInt8,s[i]?=some c∧65≤c.toNat∧c.toNat≤90∧ ∀k,k<i→s[k]?≠some c
noncomputable def Adb (s:ByteArray) (i:Int):Bool:=dec (Amy s i.toNat)
noncomputable def Tp (s:ByteArray):Bool:=dec ((1≤s.size∧s.size≤8)∧ ∀j,j<s.size→Amy s j)
noncomputable def Bd (p:PP):Bool:=dec (Ny p.1 p.2.2.1=true∧Tp p.2.1=true∧p.2.1.size=p.2.2.1.length)
def Dn (p:PP):Prop:=p.2.1.size≤4294967296∧Ia p.2.2.1
noncomputable abbrev Jy:Spec:=mkS (.pair tL .unit) tI false true (fun _=>True) (fun x=>(List.length x.1:Int))
noncomputable abbrev Dm:Spec:=mkS (.pair tL .unit) .bool false true (fun x=>short x.1) (fun x=>Eg x.1)
noncomputable abbrev Ii:Spec:=mkS (.pair tI (.pair tLL .unit)) .bool false true (fun x=>Ia x.2.1) (fun x=>Ny x.1 x.2.1)
noncomputable abbrev Aa1:Spec:=mkS (.pair tL (.pair (.ptr tI) .unit)) .bool false true (fun x=>short x.1) (fun x=>!Dh x.2.1 x.1)
noncomputable abbrev Amm:Spec:=mkS (.pair tLL (.pair tG1 .unit)) tI false true (fun x=>Ia x.1) (fun x=>Dl (fun p=>!Dh x.2.1.1 p) x.1 0)
noncomputable abbrev Ami:Spec:=mkS (.pair tLL (.pair tG1 .unit)) .bool false true (fun x=>Ia x.1) (fun x=>List.any x.1 (fun p=>!Dh x.2.1.1 p))
noncomputable abbrev Tu:Spec:=mkS (.pair .str (.pair tI .unit)) .bool false true (fun x=>0≤x.2.1∧x.2.1<x.1.size∧x.1.size≤4294967296) (fun x=>Adb x.1 x.2.1)
noncomputable abbrev Pu:Spec:=mkS (.pair .str .unit) .bool false true (fun x=>x.1.size≤4294967296) (fun x=>Tp x.1)
noncomputable abbrev Ei:Spec:=mkS (.pair Cu .unit) .bool false true (fun x=>Dn x.1) (fun x=>Bd x.1)
def Yg (p:PP) (room:Int):Int:=if room-p.2.1.size<0 then-1 else if Sk p.2.2.1 (room-p.2.1.size)<0 then-1 else Sk p.2.2.1 (room-p.2.1.size)
def Ag4 (a b:PP):Bool:=decide (a.1=b.1)&&(decide (a.2.1=b.2.1)&&decide (a.2.2.1=b.2.2.1))
noncomputable abbrev Amp:Spec:=mkS (.pair Cu (.pair tI .unit)) tI false true (fun x=>Dn x.1∧roomy x.2.1) (fun x=>Yg x.1 x.2.1)
noncomputable abbrev Age:Spec:=mkS (.pair Cu .unit) Cu false true (fun x=>Dn x.1) (fun x=>x.1)
noncomputable abbrev Amk:Spec:=mkS (.pair Cu (.pair Cu .unit)) .bool false true (fun x=>Dn x.1) (fun x=>Ag4 x.1 x.2.1)
theorem Bd7 (xs:List Int) (P:Int→Prop):(P (↑xs.length:Int))=fnW tab (look []) Jy Try.f127 (xs,()) P:=by kernel_rfl
theorem Apl (p:List Int) (P:Bool→Prop):(∃(y2:Bool),
 Bg.fn ((↑p.length:Int),(1:Int),(20:Int),())=some y2∧
  Br (!y2) (P false)
   (Ch
    (fun (v3:Int×PUnit) (k4:Int×PUnit→Prop)=>
     Br (decide (v3.1<(↑p.length:Int)))
      (∃(y5:Int),
       idx p v3.1=some y5∧
        ∃(y6:Bool),
         Bg.fn (y5,(0:Int),IntKind.i64.wrap ((↑p.length:Int)-(1:Int)),())=some y6∧
          Br (!y6) (P false)
           (((0:Int)≤(0:Int)∧(0:Int)≤v3.1∧v3.1≤(↑p.length:Int))∧
            ∃(y7:Int),
             idx p v3.1=some y7∧
              ∃(y8:Bool),
               Io.fn (List.drop (Int.toNat (0:Int)) (List.take v3.1.toNat p),y7,())=some y8∧Br y8 (P false) (k4 (IntKind.i64.wrap (v3.1+(1:Int)),()))))
      (P true))
    ((0:Int),PUnit.unit)))=fnW tab (look [(122,Bg),(152,Io)]) Dm Try.f169 (p,()) P:=by kernel_rfl
theorem Apg (p:List Int) (P:Bool→Prop):(∃(y2:Int),
 Jy.fn (p,())=some y2∧
  ∃(y3:Bool),
   Bg.fn (y2,(1:Int),(20:Int),())=some y3∧
    Br (!y3) (P false)
     (Ch
      (fun (v4:Int×Int×PUnit) (k5:Int×Int×PUnit→Prop)=>
       Br (decide (v4.2.1<(↑p.length:Int)))
        (∃(y6:Int),
         idx p v4.2.1=some y6∧
          ∃(y7:Int),
           Jy.fn (p,())=some y7∧
            ∃(y8:Bool),
             Bg.fn (y6,(0:Int),IntKind.i64.wrap (y7-(1:Int)),())=some y8∧
              Br (!y8) (P false)
               (¬y6<(0:Int)∧
                k5
                 (IntKind.i64.wrap
                   (↑(BitVec.ofInt IntKind.i64.bits v4.1|||BitVec.ofInt IntKind.i64.bits (IntKind.i64.wrap ((1:Int)*(2:Int)^min y6.toNat IntKind.i64.bits))).toNat:
                    Int),
                  IntKind.i64.wrap (v4.2.1+(1:Int)),())))
        (¬(↑p.length:Int)<(0:Int)∧P (v4.1==IntKind.i64.wrap (IntKind.i64.wrap ((1:Int)*(2:Int)^min (↑p.length:Int).toNat IntKind.i64.bits)-(1:Int)))))
      ((0:Int),(0:Int),PUnit.unit)))=fnW tab (look [(108,Bg),(127,Jy)]) Dm Try.f170 (p,()) P:=by kernel_rfl
theorem Apk (n:Int) (g:List (List Int)) (P:Bool→Prop):(∃(y3:Bool),
 Bg.fn (n,(1:Int),(20:Int),())=some y3∧
  Br (!y3) (P false)
   (Br (decide ((↑g.length:Int)>(8:Int))) (P false)
    (Ch
     (fun (v4:Int×PUnit) (k5:Int×PUnit→Prop)=>
      Br (decide (v4.1<(↑g.length:Int)))
       (∃(y6:List Int),
        idx g v4.1=some y6∧
         Br ((↑y6.length:Int) !=n) (P false)
          (∃(y7:List Int),idx g v4.1=some y7∧ ∃(y8:Bool),Dm.fn (y7,())=some y8∧Br (!y8) (P false) (k5 (IntKind.i64.wrap (v4.1+(1:Int)),()))))
       (P true))
     ((0:Int),PUnit.unit))))=fnW tab (look [(122,Bg),(169,Dm)]) Ii Try.f148 (n,g,()) P:=by kernel_rfl
theorem Bbx (p:List Int) (n:Int) (P:Bool→Prop):(∃(y3:Int),Jy.fn (p,())=some y3∧Br (y3 !=n) (P true) (∃(y4:Bool),Dm.fn (p,())=some y4∧P !y4))=fnW tab (look [(127,Jy),(170,Dm)]) Aa1 Try.f174 (p,n,()) P:=by kernel_rfl
theorem Be6 (g:List (List Int)) (n:Int×Unit) (P:Int→Prop):(Ch
 (fun (v3:Int×PUnit) (k4:Int×PUnit→Prop)=>
  Br (decide (v3.1<(↑g.length:Int)))
   (∃(y5:List Int),idx g v3.1=some y5∧ ∃(y6:Bool),Aa1.fn (y5,n.1,())=some y6∧Br y6 (P v3.1) (k4 (IntKind.i64.wrap (v3.1+(1:Int)),()))) (P (-1:Int)))
 ((0:Int),PUnit.unit))=fnW tab (look [(174,Aa1)]) Amm Try.f181 (g,n,()) P:=by kernel_rfl
theorem Be1 (g:List (List Int)) (n:Int×Unit) (P:Bool→Prop):(∃(y3:Int),Amm.fn (g,n,())=some y3∧P (decide (y3≥(0:Int))))=fnW tab (look [(181,Amm)]) Ami Try.f173 (g,n,()) P:=by kernel_rfl
theorem Apf (n:Int) (g:List (List Int)) (P:Bool→Prop):(∃(y3:Bool),
 Bg.fn (n,(1:Int),(20:Int),())=some y3∧Br y3 (Br (decide ((↑g.length:Int)≤(8:Int))) (∃(y4:Bool),Ami.fn (g,(n,()),())=some y4∧P !y4) (P false)) (P false))=fnW tab (look [(108,Bg),(173,Ami)]) Ii Try.f157 (n,g,()) P:=by kernel_rfl
theorem Bas (s:ByteArray) (i:Int) (P:Bool→Prop):((0:Int)≤i∧
 ∃(y3:UInt8),
  s[i.toNat]?=some y3∧
   Br (decide ((↑y3.toNat:Int)<(65:Int))) (P false)
    ((0:Int)≤i∧
     ∃(y4:UInt8),
      s[i.toNat]?=some y4∧
       Br (decide ((↑y4.toNat:Int)>(90:Int))) (P false)
        (Ch
         (fun (v5:Int×PUnit) (k6:Int×PUnit→Prop)=>
          Br (decide (v5.1<i))
           ((0:Int)≤v5.1∧
            ∃(y7:UInt8),
             s[v5.1.toNat]?=some y7∧
              (0:Int)≤i∧ ∃(y8:UInt8),s[i.toNat]?=some y8∧Br ((↑y7.toNat:Int)==(↑y8.toNat:Int)) (P false) (k6 (IntKind.i64.wrap (v5.1+(1:Int)),())))
           (P true))
         ((0:Int),PUnit.unit))))=fnW tab (look []) Tu Try.f149 (s,i,()) P:=by kernel_rfl
theorem Ayk (s:ByteArray) (P:Bool→Prop):(Ch
 (fun (v2:Int×PUnit) (k3:Int×PUnit→Prop)=>
  Br (decide (v2.1<(↑s.size:Int)))
   ((0:Int)≤v2.1∧
    ∃(y4:UInt8),
     s[v2.1.toNat]?=some y4∧
      ∃(y5:Bool),
       Bg.fn (IntKind.i64.wrap (↑y4.toNat:Int),(65:Int),(90:Int),())=some y5∧
        Br (!y5) (P false)
         (Ch
          (fun (v6:Int×PUnit) (k7:Int×PUnit→Prop)=>
           Br (decide (v6.1<v2.1))
            ((0:Int)≤v6.1∧
             ∃(y8:UInt8),
              s[v6.1.toNat]?=some y8∧
               (0:Int)≤v2.1∧ ∃(y9:UInt8),s[v2.1.toNat]?=some y9∧Br ((↑y8.toNat:Int)==(↑y9.toNat:Int)) (P false) (k7 (IntKind.i64.wrap (v6.1+(1:Int)),())))
            (k3 (IntKind.i64.wrap (v2.1+(1:Int)),())))
          ((0:Int),PUnit.unit)))
   (∃(y4:Bool),Bg.fn ((↑s.size:Int),(1:Int),(8:Int),())=some y4∧P y4))
 ((0:Int),PUnit.unit))=fnW tab (look [(108,Bg)]) Pu Try.f158 (s,()) P:=by kernel_rfl
theorem Apm (p:Int×ByteArray×List (List Int)×Unit) (P:Bool→Prop):(Br ((↑p.2.2.1.length:Int)==(0:Int)) (P false)
 (Br ((↑p.2.1.size:Int) !=(↑p.2.2.1.length:Int)) (P false)
  (∃(y2:Bool),
   Ii.fn (p.1,p.2.2.1,())=some y2∧
    Br (!y2) (P false)
     (Ch
      (fun (v3:Int×Int×ByteArray×List (List Int)×PUnit) (k4:Int×Int×ByteArray×List (List Int)×PUnit→Prop)=>
       Br (decide (v3.1<(↑v3.2.2.1.size:Int)))
        (∃(y5:Bool),Tu.fn (v3.2.2.1,v3.1,())=some y5∧Br (!y5) (P false) (k4 (IntKind.i64.wrap (v3.1+(1:Int)),v3.2.1,v3.2.2.1,v3.2.2.2.1,())))
        (P true))
      ((0:Int),p.1,p.2.1,p.2.2.1,PUnit.unit)))))=fnW tab (look [(148,Ii),(149,Tu)]) Ei Try.f99 (p,()) P:=by kernel_rfl
theorem Aph (p:Int×ByteArray×List (List Int)×Unit) (P:Bool→Prop):(∃(y2:Bool),
 Ii.fn (p.1,p.2.2.1,())=some y2∧Br y2 (∃(y3:Bool),Pu.fn (p.2.1,())=some y3∧Br y3 (P ((↑p.2.1.size:Int)==(↑p.2.2.1.length:Int))) (P false)) (P false))=fnW tab (look [(157,Ii),(158,Pu)]) Ei Try.f124 (p,()) P:=by kernel_rfl
theorem Be9 (p:Int×ByteArray×List (List Int)×Unit) (room:Int) (P:Int→Prop):(Br (decide (IntKind.i64.wrap (room-(↑p.2.1.size:Int))<(0:Int))) (P (-1:Int))
 (∃(y3:Int),Afa.fn (p.2.2.1,IntKind.i64.wrap (room-(↑p.2.1.size:Int)),())=some y3∧Br (decide (y3<(0:Int))) (P (-1:Int)) (P y3)))=fnW tab (look [(33,Afa)]) Amp Try.f15 (p,room,()) P:=by kernel_rfl
theorem Beb (p:Int×ByteArray×List (List Int)×Unit) (P:(Int×ByteArray×List (List Int)×Unit)→Prop):(∃(y2:List (List Int)),Afb.fn (p.2.2.1,())=some y2∧P (p.1,p.2.1,y2,()))=fnW tab (look [(35,Afb)]) Age Try.f17 (p,()) P:=by kernel_rfl
theorem Be4 (a b:Int×ByteArray×List (List Int)×Unit) (P:Bool→Prop):(Br (a.1 !=b.1) (P false) (Br (!a.2.1.toList==b.2.1.toList) (P false) (∃(y3:Bool),Af6.fn (a.2.2.1,b.2.2.1,())=some y3∧Br (!y3) (P false) (P true))))=fnW tab (look [(37,Af6)]) Amk Try.f20 (a,b,()) P:=by kernel_rfl
theorem Bcs (xs:List Int) (_:True):fnW tab (look []) Jy Try.f127 (xs,()) (fun (z:Int)=>z=(xs.length:Int)):=Eq.mp (Bd7 xs _) rfl
theorem Vq:Sound Try.prog 127 Jy:=
 Sound.mkS Bw Ax mixed Try.func127 (by kernel_rfl) (by kernel_rfl) fun x h=>Bcs x.1 h
theorem Ap6 {α:Type} [DecidableEq α]: ∀(l m:List α),l.Nodup→(∀x∈l,x∈m)→l.length≤m.length
 | [],m,_,_=>Nat.zero_le _
 |a::l,m,hn,hs=>by
  have ha:a∈m:=hs a (List.mem_cons_self ..)
  have hn:=List.nodup_cons.1 hn
  have:=Ap6 l (m.erase a) hn.2 fun x hx=>(List.mem_erase_of_ne (fun (e:x=a)=>hn.1 (by rw [←e];exact hx))).2 (hs x (List.mem_cons_of_mem _ hx))
  rw [List.length_erase_of_mem ha] at this
  have:0<m.length:=List.length_pos_of_mem ha
  simp only [List.length_cons]
  omega
def upto (n:Nat):List Int:=(List.range n).map Int.ofNat
theorem Ajt (n:Nat):(upto n).Nodup:=by
 unfold upto
 exact List.Pairwise.map _ (fun a b hab e=>hab (Int.ofNat.inj e)) List.nodup_range
theorem Ih {n:Nat} {x:Int} :x∈upto n↔0≤x∧x<n:=by
 unfold upto
 simp only [List.mem_map,List.mem_range]
 constructor
 ·rintro ⟨a,ha,rfl⟩;exact ⟨Int.natCast_nonneg _,Int.ofNat_lt.2 ha⟩
 ·rintro ⟨h1,h2⟩;exact ⟨x.toNat,by omega,by simp only [Int.ofNat_eq_natCast];omega⟩
theorem Ra (n:Nat):(upto n).length=n:=by simp [upto]
theorem Yh {xs:List Int} (h: ∀j (hj:j<xs.length),xs[j]∉xs.take j):xs.Nodup:=by
 refine List.pairwise_iff_getElem.2 fun i j hi hj hij e=>h j hj ?_
 rw [←e]
 exact List.mem_take_iff_getElem.2 ⟨i,by omega,rfl⟩
theorem Ajr {xs:List Int} (h:xs.Nodup): ∀j (hj:j<xs.length),xs[j]∉xs.take j:=by
 intro j hj hm
 obtain ⟨i,hi,e⟩:=List.mem_take_iff_getElem.1 hm
 exact List.pairwise_iff_getElem.1 h i j (by omega) hj (by omega) e
theorem Se {xs:List Int} (h: ∀x∈xs,0≤x∧x<xs.length):(∀k:Nat,k<xs.length→(k:Int)∈xs)↔ ∀j (hj:j<xs.length),xs[j]∉xs.take j:=by
 constructor
 ·intro ha j hj hm
  have h1:=Ap6 (upto xs.length) (xs.take j++xs.drop (j+1)) (Ajt _) fun x hx=>by
   obtain ⟨h1,h2⟩:=Ih.1 hx
   have hx:=ha x.toNat (by omega)
   rw [show ((x.toNat:Nat):Int)=x by omega] at hx
   rw [←List.take_append_drop j xs,List.mem_append,List.drop_eq_getElem_cons hj,List.mem_cons] at hx
   rcases hx with hx|rfl|hx
   ·exact List.mem_append_left _ hx
   ·exact List.mem_append_left _ hm
   ·exact List.mem_append_right _ hx
  rw [Ra,List.length_append,List.length_take,List.length_drop] at h1
  omega
 ·intro hn k hk
  refine Classical.byContradiction fun hc=>?_
  have h1:=Ap6 xs ((upto xs.length).erase (k:Int)) (Yh hn) fun x hx=>by
   refine (List.mem_erase_of_ne fun (e:x=(k:Int))=>hc (by rw [←e];exact hx)).2 (Ih.2 (h x hx))
  rw [List.length_erase_of_mem (Ih.2 ⟨by omega,by omega⟩),Ra] at h1
  omega
def mask (xs:List Int):Nat:=xs.foldl (fun m x=>m|||2^x.toNat) 0
theorem Axb (xs:List Int) (x:Int):mask (xs++ [x])=mask xs|||2^x.toNat:=by simp [mask]
theorem Ao4 (xs:List Int) (k:Nat): ∀a:Nat,(xs.foldl (fun m x=>m|||2^x.toNat) a).testBit k=(a.testBit k||xs.any fun x=>decide (x.toNat=k)):=by
 induction xs with
 |nil=>simp
 |cons x xs ih=>
  intro a
  rw [List.foldl_cons,ih,Nat.testBit_or,Nat.testBit_two_pow,List.any_cons,Bool.or_assoc]
theorem Aij (xs:List Int) (k:Nat):(mask xs).testBit k=xs.any fun x=>decide (x.toNat=k):=by
 unfold mask
 rw [Ao4,Nat.zero_testBit,Bool.false_or]
theorem Bba {xs:List Int} {n:Nat} (h: ∀x∈xs,x.toNat<n):mask xs<2^n:=by
 refine Nat.lt_pow_two_of_testBit _ fun k hk=>?_
 rw [Aij]
 refine Bool.eq_false_iff.2 fun ht=>?_
 obtain ⟨x,hx,he⟩:=List.any_eq_true.1 ht
 have:=h x hx
 have:=of_decide_eq_true he
 omega
theorem Am3 {xs:List Int} (h: ∀x∈xs,0≤x∧x<xs.length):mask xs=2^xs.length-1↔ ∀k:Nat,k<xs.length→(k:Int)∈xs:=by
 constructor
 ·intro e k hk
  have h1:=Aij xs k
  rw [e,Nat.testBit_two_pow_sub_one,decide_eq_true hk] at h1
  obtain ⟨x,hx,he⟩:=List.any_eq_true.1 h1.symm
  have:=(h x hx).1
  have:=of_decide_eq_true he
  have e:x=(k:Int):=by omega
  exact e▸hx
 ·intro ha
  refine Nat.eq_of_testBit_eq fun k=>?_
  rw [Aij,Nat.testBit_two_pow_sub_one]
  by_cases hk:k<xs.length
  ·rw [decide_eq_true hk]
   exact List.any_eq_true.2 ⟨k,ha k hk,by simp⟩
  ·rw [decide_eq_false hk]
   refine Bool.eq_false_iff.2 fun ht=>?_
   obtain ⟨x,hx,he⟩:=List.any_eq_true.1 ht
   have:=h x hx
   have:=of_decide_eq_true he
   omega
theorem Bbc {m:Nat} {x:Int} (hm:m<2^20) (h0:0≤x) (h1:x<20):
  IntKind.i64.wrap (((BitVec.ofInt IntKind.i64.bits (m:Int)|||BitVec.ofInt IntKind.i64.bits (IntKind.i64.wrap ((1:Int)*(2:Int)^min x.toNat IntKind.i64.bits))).toNat:Nat):Int)=((m|||2^x.toNat:Nat):Int):=by
 have hx:(2:Nat)^x.toNat<2^20:=Nat.pow_lt_pow_right (by omega) (by omega)
 have e1:min x.toNat IntKind.i64.bits=x.toNat:=by show min x.toNat 64=_;omega
 have e2:(1:Int)*(2:Int)^x.toNat=((2^x.toNat:Nat):Int):=by rw [Int.one_mul];exact (Int.natCast_pow 2 _).symm
 rw [e1,e2,Cb (n:=((2^x.toNat:Nat):Int)) (by have:(0:Int)≤((2^x.toNat:Nat):Int):=Int.natCast_nonneg _;omega) (by omega)]
 show IntKind.i64.wrap (((BitVec.ofInt 64 (m:Int)|||BitVec.ofInt 64 ((2^x.toNat:Nat):Int)).toNat:Nat):Int)=_
 rw [BitVec.ofInt_natCast,BitVec.ofInt_natCast,BitVec.toNat_or,BitVec.toNat_ofNat,BitVec.toNat_ofNat,Nat.mod_eq_of_lt (by omega),Nat.mod_eq_of_lt (by omega)]
 have:=Nat.or_lt_two_pow hm hx
 exact Cb (by omega) (by omega)
theorem Aod (p:List Int) (h:short p):fnW tab (look [(122,Bg),(152,Io)]) Dm Try.f169 (p,()) (fun (z:Bool)=>z=Eg p):=by
 have hs:=h
 unfold short at h
 refine Eq.mp (Apl p _) ⟨_,if_pos trivial,⟨fun hp=>?_,fun hp=>?_⟩⟩
 ·have hp:=Dx hp
  rw [Bx] at hp
  dsimp only at hp
  exact Bb fun hh=>hp ⟨by omega,by omega⟩
 ·have hp:=Ey hp
  rw [Bx] at hp
  dsimp only at hp
  refine Az p.length (fun v=>v.1) (fun j _=>DL p.length p j) rfl (fun j _ hj=>absurd hj (Nat.not_lt_zero _)) ?_
  rintro j ⟨i,⟨⟩⟩ K hj hi hR hK
  dsimp only at hi⊢
  subst hi
  refine Br.dec (fun hl=>?_) fun hl=>?_
  ·have hl:j<p.length:=by omega
   refine ⟨_,Bc hl,_,if_pos trivial,⟨fun hq=>?_,fun hq=>?_⟩⟩
   ·have hq:=Dx hq
    rw [Bx,Cb (by omega) (by omega)] at hq
    exact Bb fun hh=>hq ⟨(hh.2.2 j hl hl).1,(hh.2.2 j hl hl).2.1⟩
   ·have hq:=Ey hq
    rw [Bx,Cb (by omega) (by omega)] at hq
    refine ⟨⟨by omega,by omega,by omega⟩,_,Bc hl,?_⟩
    rw [show (Int.toNat 0)=0 from rfl,List.drop_zero,Int.toNat_natCast]
    refine ⟨_,if_pos (Av7 hs j),⟨fun hc=>?_,fun hc=>?_⟩⟩
    ·have hc:decide (p[j]∈p.take j)=true:=hc
     rw [decide_eq_true_iff] at hc
     exact Bb fun hh=>(hh.2.2 j hl hl).2.2 hc
    ·have hc:decide (p[j]∈p.take j)=false:=hc
     rw [decide_eq_false_iff_not] at hc
     rw [At (by omega)]
     exact hK hl _ rfl (Bb4 hl hR hq.1 hq.2 hc)
  ·have:j=p.length:=by omega
   subst this
   exact Hg ⟨by omega,by omega,hR⟩
theorem Nb:Sound Try.prog 169 Dm:=
 Sound.mkS Bw (Ad Sp (Ad Adt Ax)) mixed Try.func169 (by kernel_rfl) (by kernel_rfl) fun x h=>Aod x.1 h
theorem Ao8 (p:List Int) (h:short p):fnW tab (look [(108,Bg),(127,Jy)]) Dm Try.f170 (p,()) (fun (z:Bool)=>z=Eg p):=by
 unfold short at h
 refine Eq.mp (Apg p _) ⟨_,if_pos trivial,_,if_pos trivial,⟨fun hp=>?_,fun hp=>?_⟩⟩
 ·have hp:=Dx hp
  rw [Bx] at hp
  dsimp only at hp
  exact Bb fun hh=>hp ⟨by omega,by omega⟩
 ·have hp:=Ey hp
  rw [Bx] at hp
  dsimp only at hp
  refine Az p.length (fun v=>v.2.1) (fun j v=>v.1=(mask (p.take j):Int)∧ ∀x∈p.take j,0≤x∧x<p.length) rfl ⟨rfl,by simp⟩ ?_
  rintro j ⟨m,i,⟨⟩⟩ K hj hi ⟨hm,hR⟩ hK
  dsimp only at hi hm⊢
  subst hi hm
  refine Br.dec (fun hl=>?_) fun hl=>?_
  ·have hl:j<p.length:=by omega
   refine ⟨_,Bc hl,_,if_pos trivial,_,if_pos trivial,⟨fun hq=>?_,fun hq=>?_⟩⟩
   ·have hq:=Dx hq
    rw [Bx] at hq
    dsimp only at hq
    rw [Cb (by omega) (by omega)] at hq
    exact Bb fun hh=>hq ⟨(hh.2.2 j hl hl).1,(hh.2.2 j hl hl).2.1⟩
   ·have hq:=Ey hq
    rw [Bx] at hq
    dsimp only at hq
    rw [Cb (by omega) (by omega)] at hq
    refine ⟨by omega,?_⟩
    rw [At (by omega)]
    have hb:mask (p.take j)<2^20:=Bba fun x hx=>by have:=hR x hx;omega
    refine hK hl _ rfl ⟨?_,?_⟩
    ·dsimp only
     rw [Bbc hb hq.1 (by omega),List.take_succ_eq_append_getElem hl,Axb]
    ·rw [List.take_succ_eq_append_getElem hl]
     intro x hx
     rcases List.mem_append.1 hx with hx|hx
     ·exact hR x hx
     ·rw [List.mem_singleton.1 hx];omega
  ·have:j=p.length:=by omega
   subst this
   rw [List.take_length] at hR⊢
   refine ⟨by omega,?_⟩
   have hx:(2:Nat)^p.length≤2^20:=Nat.pow_le_pow_right (by omega) (by omega)
   have hpos:0<(2:Nat)^p.length:=Nat.two_pow_pos _
   have e1:min (p.length:Int).toNat IntKind.i64.bits=p.length:=by show min (p.length:Int).toNat 64=_;omega
   have e2:(1:Int)*(2:Int)^p.length=((2^p.length:Nat):Int):=by rw [Int.one_mul];exact (Int.natCast_pow 2 _).symm
   rw [e1,e2,Cb (n:=((2^p.length:Nat):Int)) (by omega) (by omega),Cb (by omega) (by omega)]
   have hE:((mask p:Int)==((2^p.length:Nat):Int)-1)=decide (mask p=2^p.length-1):=by
    rw [Bool.eq_iff_iff,beq_iff_eq,decide_eq_true_iff]
    omega
   show ((mask p:Int)==((2^p.length:Nat):Int)-1)=Eg p
   rw [hE]
   by_cases hf:mask p=2^p.length-1
   ·rw [decide_eq_true hf]
    have hn:=(Se hR).1 ((Am3 hR).1 hf)
    refine Hg ⟨by omega,by omega,fun j hj _=>?_⟩
    have:=hR _ (List.getElem_mem hj)
    exact ⟨this.1,by omega,hn j hj⟩
   ·rw [decide_eq_false hf]
    refine Bb fun hh=>hf ((Am3 hR).2 ((Se hR).2 fun j hj=>(hh.2.2 j hj hj).2.2))
theorem Tx:Sound Try.prog 170 Dm:=
 Sound.mkS Bw (Ad Ma (Ad Vq Ax)) mixed Try.func170 (by kernel_rfl) (by kernel_rfl) fun x h=>Ao8 x.1 h
theorem Aoc (n:Int) (g:List (List Int)) (h:Ia g):fnW tab (look [(122,Bg),(169,Dm)]) Ii Try.f148 (n,g,()) (fun (z:Bool)=>z=Ny n g):=by
 obtain ⟨h,h4⟩:=h
 refine Eq.mp (Apk n g _) ⟨_,if_pos trivial,⟨fun hp=>?_,fun hp=>?_⟩⟩
 ·have hp:=Dx hp
  rw [Bx] at hp
  exact Bb fun hh=>hp hh.1
 ·have hp:=Ey hp
  rw [Bx] at hp
  refine Br.dec (fun hg=>?_) fun hg=>?_
  ·exact Bb fun hh=>by have:=hh.2.1;omega
  ·refine Az g.length (fun v=>v.1) (fun j _=> ∀p∈g.take j,Dh n p=true) rfl (by simp) ?_
   rintro j ⟨i,⟨⟩⟩ K hj hi hR hK
   dsimp only at hi⊢
   subst hi
   refine Br.dec (fun hl=>?_) fun hl=>?_
   ·have hl:j<g.length:=by omega
    have hm:g[j]∈g:=List.getElem_mem hl
    refine ⟨_,Bc hl,⟨fun he=>?_,fun he=>?_⟩⟩
    ·simp only [bne_iff_ne,ne_eq] at he
     exact Bb fun hh=>he (En.1 (hh.2.2 _ hm)).1
    ·simp only [bne_eq_false_iff_eq] at he
     refine ⟨_,Bc hl,_,if_pos (h4 _ hm),⟨fun hq=>?_,fun hq=>?_⟩⟩
     ·have hq:=Dx hq
      exact Bb fun hh=>hq (En.1 (hh.2.2 _ hm)).2
     ·have hq:=Ey hq
      rw [At (by omega)]
      refine hK hl _ rfl ?_
      rw [List.take_succ_eq_append_getElem hl]
      intro x hx
      rcases List.mem_append.1 hx with hx|hx
      ·exact hR x hx
      ·rw [List.mem_singleton.1 hx];exact En.2 ⟨he,hq⟩
   ·have:j=g.length:=by omega
    subst this
    rw [List.take_length] at hR
    exact Hg ⟨hp,by omega,hR⟩
theorem Afi:Sound Try.prog 148 Ii:=
 Sound.mkS Bw (Ad Sp (Ad Nb Ax)) mixed Try.func148 (by kernel_rfl) (by kernel_rfl) fun x h=>Aoc x.1 x.2.1 h
theorem Bbe (p:List Int) (n:Int) (h:short p):fnW tab (look [(127,Jy),(170,Dm)]) Aa1 Try.f174 (p,n,()) (fun (z:Bool)=>z=!Dh n p):=by
 refine Eq.mp (Bbx p n _) ⟨_,if_pos trivial,⟨fun he=>?_,fun he=>⟨_,if_pos h,?_⟩⟩⟩
 ·simp only [bne_iff_ne,ne_eq] at he
  have:Dh n p=false:=Bb3.2 fun hh=>he hh.1
  rw [this];rfl
 ·simp only [bne_eq_false_iff_eq] at he
  show (!Eg p)=_
  congr 1
  cases hp:Eg p with
  |true=>exact Hg ⟨he,hp⟩
  |false=>exact Bb fun hh=>by rw [hh.2] at hp;cases hp
theorem Ase:Sound Try.prog 174 Aa1:=
 Sound.mkS Bw (Ad Vq (Ad Tx Ax)) mixed Try.func174 (by kernel_rfl) (by kernel_rfl) fun x h=>Bbe x.1 x.2.1 h
theorem Ye {α:Type} (P:α→Bool): ∀(l:List α) (i:Int),0≤i→(0≤Dl P l i↔l.any P=true)
 | [],i,_=>by simp [Dl]
 |y::r,i,h=>by
  simp only [Dl,List.any_cons,Bool.or_eq_true]
  split
  ·rename_i hy;simp [hy,h]
  ·rename_i hy;rw [Ye P r (i+1) (by omega)];simp [hy]
theorem Bdq (g:List (List Int)) (n:Int×Unit) (h:Ia g):fnW tab (look [(174,Aa1)]) Amm Try.f181 (g,n,()) (fun (z:Int)=>z=Dl (fun p=>!Dh n.1 p) g 0):=by
 obtain ⟨h,h4⟩:=h
 refine Eq.mp (Be6 g n _) ?_
 refine Az g.length (fun v=>v.1) (fun j _=>Dl (fun p=>!Dh n.1 p) (g.drop j) j=Dl (fun p=>!Dh n.1 p) g 0) rfl (by simp) ?_
 rintro j ⟨i,⟨⟩⟩ K hj hi hR hK
 dsimp only at hi⊢
 subst hi
 refine Br.dec (fun hl=>?_) fun hl=>?_
 ·have hl:j<g.length:=by omega
  rw [List.drop_eq_getElem_cons hl] at hR
  simp only [Dl] at hR
  refine ⟨_,Bc hl,_,if_pos (h4 _ (List.getElem_mem hl)),⟨fun he=>?_,fun he=>?_⟩⟩
  ·have he:(!Dh n.1 g[j])=true:=he
   rw [if_pos he] at hR
   exact hR
  ·have he:(!Dh n.1 g[j])=false:=he
   rw [if_neg (by rw [he];decide)] at hR
   rw [At (by omega)]
   exact hK hl _ rfl (by push_cast;exact hR)
 ·have:j=g.length:=by omega
  subst this
  rw [List.drop_length] at hR
  exact hR
theorem Ay5:Sound Try.prog 181 Amm:=
 Sound.mkS Bw (Ad Ase Ax) mixed Try.func181 (by kernel_rfl) (by kernel_rfl) fun x h=>Bdq x.1 x.2.1 h
theorem Bdl (g:List (List Int)) (n:Int×Unit) (h:Ia g):fnW tab (look [(181,Amm)]) Ami Try.f173 (g,n,()) (fun (z:Bool)=>z=List.any g (fun p=>!Dh n.1 p)):=by
 refine Eq.mp (Be1 g n _) ⟨_,if_pos h,?_⟩
 rw [Bool.eq_iff_iff,decide_eq_true_iff]
 exact Ye _ g 0 (Int.le_refl 0)
theorem Ay1:Sound Try.prog 173 Ami:=
 Sound.mkS Bw (Ad Ay5 Ax) mixed Try.func173 (by kernel_rfl) (by kernel_rfl) fun x h=>Bdl x.1 x.2.1 h
theorem Ao7 (n:Int) (g:List (List Int)) (h:Ia g):fnW tab (look [(108,Bg),(173,Ami)]) Ii Try.f157 (n,g,()) (fun (z:Bool)=>z=Ny n g):=by
 refine Eq.mp (Apf n g _) ⟨_,if_pos trivial,⟨fun hp=>?_,fun hp=>?_⟩⟩
 ·have hp:Fl n 1 20=true:=hp
  rw [Bx] at hp
  refine Br.dec (fun hl=>⟨_,if_pos h,?_⟩) fun hl=>?_
  ·show (!List.any g (fun p=>!Dh n p))=Ny n g
   cases ha:List.any g (fun p=>!Dh n p) with
   |true=>
    obtain ⟨p,hp1,hp2⟩:=List.any_eq_true.1 ha
    exact Bb fun hh=>by rw [hh.2.2 p hp1] at hp2;cases hp2
   |false=>
    refine Hg ⟨hp,by omega,fun p hm=>?_⟩
    have:=List.any_eq_false.1 ha p hm
    simpa using this
  ·exact Bb fun hh=>by have:=hh.2.1;omega
 ·refine Bb fun hh=>?_
  have:Fl n 1 20=true:=Bx.2 hh.1
  have hp:Fl n 1 20=false:=hp
  rw [this] at hp;cases hp
theorem Afe:Sound Try.prog 157 Ii:=
 Sound.mkS Bw (Ad Ma (Ad Ay1 Ax)) mixed Try.func157 (by kernel_rfl) (by kernel_rfl) fun x h=>Ao7 x.1 x.2.1 h
theorem Fw {s:ByteArray} {k:Nat} (h:k<s.size):s[k]?=some s[k]:=getElem?_pos s k h
theorem Azw (s:ByteArray) (i:Int) (h:0≤i∧i<s.size∧s.size≤4294967296):fnW tab (look []) Tu Try.f149 (s,i,()) (fun (z:Bool)=>z=Adb s i):=by
 obtain ⟨h1,h2,h3⟩:=h
 have hi:i.toNat<s.size:=by omega
 refine Eq.mp (Bas s i _) ⟨h1,_,Fw hi,Br.dec (fun hq=>?_) fun hq=>⟨h1,_,Fw hi,Br.dec (fun hr=>?_) fun hr=>?_⟩⟩
 ·refine Bb fun ⟨c,hc,hc1,_⟩=>?_
  rw [Fw hi] at hc;cases hc;omega
 ·refine Bb fun ⟨c,hc,_,hc1,_⟩=>?_
  rw [Fw hi] at hc;cases hc;omega
 ·refine Az i.toNat (fun v=>v.1) (fun j _=> ∀k,k<j→s[k]?≠some s[i.toNat]) rfl (fun k hk=>absurd hk (Nat.not_lt_zero _)) ?_
  rintro j ⟨i',⟨⟩⟩ K hj hi' hR hK
  dsimp only at hi'⊢
  subst hi'
  refine Br.dec (fun hl=>?_) fun hl=>?_
  ·have hl:j<i.toNat:=by omega
   have hj:j<s.size:=by omega
   rw [Int.toNat_natCast]
   refine ⟨by omega,_,Fw hj,h1,_,Fw hi,⟨fun he=>?_,fun he=>?_⟩⟩
   ·simp only [beq_iff_eq,Int.natCast_inj] at he
    refine Bb fun ⟨c,hc,_,_,hc1⟩=>?_
    rw [Fw hi] at hc;cases hc
    exact hc1 j hl (by rw [Fw hj,UInt8.toNat_inj.1 he])
   ·simp only [beq_eq_false_iff_ne,ne_eq,Int.natCast_inj] at he
    rw [At (by omega)]
    refine hK hl _ rfl fun k hk=>?_
    by_cases e:k=j
    ·subst e
     rw [Fw hj]
     exact fun e=>he (by rw [Option.some.inj e])
    ·exact hR k (by omega)
  ·have:j=i.toNat:=by omega
   subst this
   exact Hg ⟨_,Fw hi,by omega,by omega,hR⟩
theorem Aoy:Sound Try.prog 149 Tu:=
 Sound.mkS Bw Ax mixed Try.func149 (by kernel_rfl) (by kernel_rfl) fun x h=>Azw x.1 x.2.1 h
theorem Axm (s:ByteArray) (h:s.size≤4294967296):fnW tab (look [(108,Bg)]) Pu Try.f158 (s,()) (fun (z:Bool)=>z=Tp s):=by
 refine Eq.mp (Ayk s _) ?_
 refine Az s.size (fun v=>v.1) (fun j _=> ∀k,k<j→Amy s k) rfl (fun k hk=>absurd hk (Nat.not_lt_zero _)) ?_
 rintro j ⟨i,⟨⟩⟩ K hj hi hR hK
 dsimp only at hi⊢
 subst hi
 refine Br.dec (fun hl=>?_) fun hl=>?_
 ·have hl:j<s.size:=by omega
  rw [Int.toNat_natCast]
  have hb:=(s[j]).toNat_lt
  refine ⟨by omega,_,Fw hl,_,if_pos trivial,⟨fun hq=>?_,fun hq=>?_⟩⟩
  ·have hq:=Dx hq
   rw [Bx] at hq
   dsimp only at hq
   rw [Cb (by omega) (by omega)] at hq
   refine Bb fun hh=>?_
   obtain ⟨c,hc,hc1,hc2,_⟩:=hh.2 j hl
   rw [Fw hl] at hc;cases hc
   exact hq ⟨by omega,by omega⟩
  ·have hq:=Ey hq
   rw [Bx] at hq
   dsimp only at hq
   rw [Cb (by omega) (by omega)] at hq
   refine Az j (fun v=>v.1) (fun m _=> ∀k,k<m→s[k]?≠some s[j]) rfl (fun k hk=>absurd hk (Nat.not_lt_zero _)) ?_
   rintro m ⟨i',⟨⟩⟩ K' hm hi' hR' hK'
   dsimp only at hi'⊢
   subst hi'
   refine Br.dec (fun hl'=>?_) fun hl'=>?_
   ·have hl':m<j:=by omega
    have hm':m<s.size:=by omega
    rw [Int.toNat_natCast]
    refine ⟨by omega,_,Fw hm',by omega,_,Fw hl,⟨fun he=>?_,fun he=>?_⟩⟩
    ·simp only [beq_iff_eq,Int.natCast_inj] at he
     refine Bb fun hh=>?_
     obtain ⟨c,hc,_,_,hc1⟩:=hh.2 j hl
     rw [Fw hl] at hc;cases hc
     exact hc1 m hl' (by rw [Fw hm',UInt8.toNat_inj.1 he])
    ·simp only [beq_eq_false_iff_ne,ne_eq,Int.natCast_inj] at he
     rw [At (by omega)]
     refine hK' hl' _ rfl fun k hk=>?_
     by_cases e:k=m
     ·subst e
      rw [Fw hm']
      exact fun e=>he (by rw [Option.some.inj e])
     ·exact hR' k (by omega)
   ·have:m=j:=by omega
    subst this
    rw [At (by omega)]
    refine hK hl _ rfl fun k hk=>?_
    by_cases e:k=m
    ·subst e
     exact ⟨_,Fw hl,by omega,by omega,hR'⟩
    ·exact hR k (by omega)
 ·have:j=s.size:=by omega
  subst this
  refine ⟨_,if_pos trivial,?_⟩
  show Fl s.size 1 8=_
  cases hr:Fl s.size 1 8 with
  |true=>rw [Bx] at hr;exact Hg ⟨by omega,hR⟩
  |false=>refine Bb fun hh=>?_;rw [Bx.2 ⟨by omega,by omega⟩] at hr;cases hr
theorem Akv:Sound Try.prog 158 Pu:=
 Sound.mkS Bw (Ad Ma Ax) mixed Try.func158 (by kernel_rfl) (by kernel_rfl) fun x h=>Axm x.1 h
theorem Avm {p:PP} (h:Bd p=true):1≤p.1∧p.1≤20∧1≤p.2.2.1.length∧p.2.2.1.length≤8:=by
 obtain ⟨h1,h2,h3⟩:=En.1 h
 obtain ⟨h4,h5,_⟩:=En.1 h1
 obtain ⟨h6,_⟩:=En.1 h2
 omega
theorem Aoe (p:PP) (h:Dn p):fnW tab (look [(148,Ii),(149,Tu)]) Ei Try.f99 (p,()) (fun (z:Bool)=>z=Bd p):=by
 obtain ⟨hn,hg⟩:=h
 refine Eq.mp (Apm p _) ⟨fun h0=>?_,fun h0=>⟨fun h1=>?_,fun h1=>⟨_,if_pos hg,⟨fun h2=>?_,fun h2=>?_⟩⟩⟩⟩
 ·simp only [beq_iff_eq] at h0
  exact Bb fun hh=>by obtain ⟨_,h2,h3⟩:=hh;have:=(En.1 h2).1;omega
 ·simp only [bne_iff_ne,ne_eq,Int.natCast_inj] at h1
  exact Bb fun hh=>h1 hh.2.2
 ·have h2:=Dx h2
  exact Bb fun hh=>h2 hh.1
 ·simp only [beq_eq_false_iff_ne,ne_eq] at h0
  simp only [bne_eq_false_iff_eq,Int.natCast_inj] at h1
  have h2:Ny p.1 p.2.2.1=true:=Ey h2
  refine Az p.2.1.size (fun v=>v.1) (fun j v=>v.2=(p.1,p.2.1,p.2.2.1,())∧ ∀k,k<j→Amy p.2.1 k) rfl ⟨rfl,fun k hk=>absurd hk (Nat.not_lt_zero _)⟩ ?_
  rintro j ⟨i,v⟩ K hj hi ⟨hv,hR⟩ hK
  dsimp only at hi hv⊢
  subst hi hv
  dsimp only
  refine Br.dec (fun hl=>?_) fun hl=>?_
  ·have hl:j<p.2.1.size:=by omega
   refine ⟨_,if_pos ⟨Int.natCast_nonneg j,Int.ofNat_lt.2 hl,hn⟩,⟨fun hq=>?_,fun hq=>?_⟩⟩
   ·have hq: ¬Adb p.2.1 j=true:=Dx hq
    refine Bb fun hh=>hq (En.2 ?_)
    rw [Int.toNat_natCast]
    exact (En.1 hh.2.1).2 j hl
   ·have hq:Adb p.2.1 j=true:=Ey hq
    have hq:=En.1 hq
    rw [Int.toNat_natCast] at hq
    rw [At (by omega)]
    refine hK hl _ rfl ⟨rfl,fun k hk=>?_⟩
    by_cases e:k=j
    ·subst e;exact hq
    ·exact hR k (by omega)
  ·have:j=p.2.1.size:=by omega
   subst this
   have:=(En.1 h2).2.1
   exact Hg ⟨h2,En.2 ⟨⟨by omega,by omega⟩,hR⟩,h1⟩
theorem Nc:Sound Try.prog 99 Ei:=
 Sound.mkS Bw (Ad Afi (Ad Aoy Ax)) mixed Try.func99 (by kernel_rfl) (by kernel_rfl) fun x h=>Aoe x.1 h
theorem Ao9 (p:PP) (h:Dn p):fnW tab (look [(157,Ii),(158,Pu)]) Ei Try.f124 (p,()) (fun (z:Bool)=>z=Bd p):=by
 obtain ⟨hn,hg⟩:=h
 refine Eq.mp (Aph p _) ⟨_,if_pos hg,⟨fun h1=>⟨_,if_pos hn,⟨fun h2=>?_,fun h2=>?_⟩⟩,fun h1=>?_⟩⟩
 ·have h1:Ny p.1 p.2.2.1=true:=h1
  have h2:Tp p.2.1=true:=h2
  by_cases e:p.2.1.size=p.2.2.1.length
  ·rw [e,beq_self_eq_true];exact Hg ⟨h1,h2,e⟩
  ·rw [show ((p.2.1.size:Int)==(p.2.2.1.length:Int))=false from beq_eq_false_iff_ne.2 (by omega)];exact Bb fun hh=>e hh.2.2
 ·have h2:Tp p.2.1=false:=h2
  exact Bb fun hh=>by rw [hh.2.1] at h2;cases h2
 ·have h1:Ny p.1 p.2.2.1=false:=h1
  exact Bb fun hh=>by rw [hh.1] at h1;cases h1
theorem Aff:Sound Try.prog 124 Ei:=
 Sound.mkS Bw (Ad Afe (Ad Akv Ax)) mixed Try.func124 (by kernel_rfl) (by kernel_rfl) fun x h=>Ao9 x.1 h
theorem Bdt (p:PP) (room:Int) (h:Dn p∧roomy room):fnW tab (look [(33,Afa)]) Amp Try.f15 (p,room,()) (fun (z:Int)=>z=Yg p room):=by
 obtain ⟨⟨h1,h2⟩,h3,h4⟩:=h
 refine Eq.mp (Be9 p room _) ?_
 rw [Cb (by omega) (by omega)]
 refine Br.dec (fun hn=>?_) fun hn=>⟨_,if_pos ⟨h2,by dsimp only;omega,by dsimp only;omega⟩,Br.dec (fun hm=>?_) fun hm=>?_⟩
 ·simp only [Yg,if_pos hn]
 ·exact ((if_neg hn).trans (if_pos hm)).symm
 ·exact ((if_neg hn).trans (if_neg hm)).symm
theorem Ay8:Sound Try.prog 15 Amp:=
 Sound.mkS Bw (Ad Avf Ax) mixed Try.func15 (by kernel_rfl) (by kernel_rfl) fun x h=>Bdt x.1 x.2.1 h
theorem Bdv (p:PP) (h:Dn p):fnW tab (look [(35,Afb)]) Age Try.f17 (p,()) (fun (z:PP)=>z=p):=Eq.mp (Beb p _) ⟨_,if_pos h.2,rfl⟩
theorem Ay9:Sound Try.prog 17 Age:=
 Sound.mkS Bw (Ad Avg Ax) mixed Try.func17 (by kernel_rfl) (by kernel_rfl) fun x h=>Bdv x.1 h
theorem Aq6 {a b:ByteArray} :(a.toList==b.toList)=decide (a=b):=by
 rw [Bool.eq_iff_iff,beq_iff_eq,decide_eq_true_iff,ByteArray.toList_eq,ByteArray.toList_eq]
 exact ⟨fun h=>ByteArray.ext (Array.toList_inj.1 h),fun h=>by rw [h]⟩
theorem Bdo (a b:PP) (h:Dn a):fnW tab (look [(37,Af6)]) Amk Try.f20 (a,b,()) (fun (z:Bool)=>z=Ag4 a b):=by
 refine Eq.mp (Be4 a b _) ⟨fun h1=>?_,fun h1=>⟨fun h2=>?_,fun h2=>⟨_,if_pos h.2,⟨fun h3=>?_,fun h3=>?_⟩⟩⟩⟩
 ·simp only [bne_iff_ne,ne_eq] at h1
  unfold Ag4
  rw [decide_eq_false h1];rfl
 ·rw [Aq6] at h2
  unfold Ag4
  cases hd:decide (a.2.1=b.2.1)<;>simp_all
 ·have h3:(!Aes a.2.2.1 b.2.2.1)=true:=h3
  simp only [Aes,Bool.not_eq_true'] at h3
  unfold Ag4
  rw [h3];simp
 ·have h3:(!Aes a.2.2.1 b.2.2.1)=false:=h3
  rw [Aq6] at h2
  simp only [Aes] at h3
  simp only [bne_eq_false_iff_eq] at h1
  unfold Ag4
  simp_all
theorem Ay3:Sound Try.prog 20 Amk:=
 Sound.mkS Bw (Ad Avb Ax) mixed Try.func20 (by kernel_rfl) (by kernel_rfl) fun x h=>Bdo x.1 x.2.1 h
theorem Aua (p:PP):Ag4 p p=true:=by simp [Ag4]
end Go.Proofs.Ytebabhocakedaaa

namespace Go.Proofs.Ytebabhocakedaaa
open Go.RowKit
noncomputable abbrev Tv:Spec:=mkS (.pair tI (.pair tL .unit)) .bool false true (fun x=>short x.2.1) (fun x=>Dh x.1 x.2.1)
noncomputable abbrev Mw:Spec:=mkS (.pair Cu (.pair tL .unit)) .bool false true (fun x=>short x.2.1) (fun x=>Dh x.1.1 x.2.1)
noncomputable abbrev Pw:Spec:=mkS (.pair Cu (.pair tL .unit)) .bool false true (fun x=>Dn x.1∧short x.2.1) (fun x=>Bd x.1&&Dh x.1.1 x.2.1)
theorem Bat (n:Int) (s:List Int) (P:Bool→Prop):(Br ((↑s.length:Int)==n) (∃(y3:Bool),Dm.fn (s,())=some y3∧P y3) (P false))=fnW tab (look [(169,Dm)]) Tv Try.f156 (n,s,()) P:=by kernel_rfl
theorem Ajv (p:Int×ByteArray×List (List Int)×Unit) (s:List Int) (P:Bool→Prop):(∃(y3:Int),Jy.fn (s,())=some y3∧Br (y3==p.1) (∃(y4:Bool),Dm.fn (s,())=some y4∧P y4) (P false))=fnW tab (look [(127,Jy),(170,Dm)]) Mw Try.f150 (p,s,()) P:=by kernel_rfl
theorem Al8 (p:Int×ByteArray×List (List Int)×Unit) (s:List Int) (P:Bool→Prop):(∃(y3:Bool),Ei.fn ((p.1,p.2.1,p.2.2.1,()),())=some y3∧Br y3 (∃(y4:Bool),Tv.fn (p.1,s,())=some y4∧P y4) (P false))=fnW tab (look [(99,Ei),(156,Tv)]) Pw Try.f118 (p,s,()) P:=by kernel_rfl
theorem Azx (n:Int) (s:List Int) (h:short s):fnW tab (look [(169,Dm)]) Tv Try.f156 (n,s,()) (fun (z:Bool)=>z=Dh n s):=by
 refine Eq.mp (Bat n s _) ⟨fun he=>⟨_,if_pos h,?_⟩,fun he=>?_⟩
 ·simp only [beq_iff_eq] at he
  show Eg s=_
  cases hp:Eg s with
  |true=>exact Hg ⟨he,hp⟩
  |false=>exact Bb fun hh=>by rw [hh.2] at hp;cases hp
 ·simp only [beq_eq_false_iff_ne,ne_eq] at he
  exact Bb fun hh=>he hh.1
theorem Aoz:Sound Try.prog 156 Tv:=
 Sound.mkS Bw (Ad Nb Ax) mixed Try.func156 (by kernel_rfl) (by kernel_rfl) fun x h=>Azx x.1 x.2.1 h
theorem Aiw (p:PP) (s:List Int) (h:short s):fnW tab (look [(127,Jy),(170,Dm)]) Mw Try.f150 (p,s,()) (fun (z:Bool)=>z=Dh p.1 s):=by
 refine Eq.mp (Ajv p s _) ⟨_,if_pos trivial,⟨fun he=>⟨_,if_pos h,?_⟩,fun he=>?_⟩⟩
 ·simp only [beq_iff_eq] at he
  show Eg s=_
  cases hp:Eg s with
  |true=>exact Hg ⟨he,hp⟩
  |false=>exact Bb fun hh=>by rw [hh.2] at hp;cases hp
 ·simp only [beq_eq_false_iff_ne,ne_eq] at he
  exact Bb fun hh=>he hh.1
theorem Ac3:Sound Try.prog 150 Mw:=
 Sound.mkS Bw (Ad Vq (Ad Tx Ax)) mixed Try.func150 (by kernel_rfl) (by kernel_rfl) fun x h=>Aiw x.1 x.2.1 h
theorem Aki (p:PP) (s:List Int) (h:Dn p∧short s):fnW tab (look [(99,Ei),(156,Tv)]) Pw Try.f118 (p,s,()) (fun (z:Bool)=>z=(Bd p&&Dh p.1 s)):=by
 refine Eq.mp (Al8 p s _) ⟨_,if_pos h.1,⟨fun he=>⟨_,if_pos h.2,?_⟩,fun he=>?_⟩⟩
 ·have he:Bd p=true:=he
  rw [he];rfl
 ·have he:Bd p=false:=he
  rw [he];rfl
theorem Ady:Sound Try.prog 118 Pw:=
 Sound.mkS Bw (Ad Nc (Ad Aoz Ax)) mixed Try.func118 (by kernel_rfl) (by kernel_rfl) fun x h=>Aki x.1 x.2.1 h
end Go.Proofs.Ytebabhocakedaaa

namespace Go.Proofs.Ytebabhocakedaaa
open Go.RowKit
def Ga (xs:List Int) (i:Int):Int:=xs.getD i.toNat 0
def Aa (p q:List Int):List Int:=p.map (Ga q)
def Rh (f:Nat→Nat) (g:Nat→Int) (m:Nat) (init:List Int):List Int:=(List.range m).foldl (fun (out:List Int) (i:Nat)=>out.set (f i) (g i)) init
def Ah (p:List Int):List Int:=Rh (fun i=>(Ga p (i:Int)).toNat) (fun i=>(i:Int)) p.length (List.replicate p.length 0)
def Hj (n:Nat) (p:List Int):Prop:= ∀y∈p,0≤y∧y<n
noncomputable abbrev Pq:Spec:=mkS (.pair tL (.pair tL .unit)) tL false true (fun x=>List.length x.1≤20∧Hj (List.length x.2.1) x.1) (fun x=>Aa x.1 x.2.1)
noncomputable abbrev Dk:Spec:=mkS (.pair tL .unit) tL false true (fun x=>List.length x.1≤20∧Hj (List.length x.1) x.1) (fun x=>Ah x.1)
noncomputable abbrev Bp:Spec:=mkS (.pair tI .unit) tL false true (fun x=>0≤x.1∧x.1≤20) (fun x=>upto x.1.toNat)
noncomputable abbrev Iq:Spec:=mkS (.pair tL .unit) tL false true (fun x=>Eg x.1=true) (fun x=>Ah x.1)
def Af (g:List (List Int)) (l:Int):List Int:=if l>0 then g.getD (l-1).toNat [] else Ah (g.getD (-l-1).toNat [])
def Fu (n:Int) (l:Int):Prop:=l≠0∧ -n≤l∧l≤n
noncomputable abbrev Mx:Spec:=mkS (.pair tLL (.pair tI .unit)) tL false false (fun x=>Fu (List.length x.1) x.2.1∧List.length x.1≤8∧ ∀p∈x.1,Eg p=true) (fun x=>Af x.1 x.2.1)
def Ba (n:Nat):List Int:=(List.range n).flatMap fun (k:Nat)=> [(k:Int)+1,-((k:Int)+1)]
noncomputable abbrev Jl:Spec:=mkS (.pair tI .unit) tL false true (fun x=>0≤x.1∧x.1≤8) (fun x=>Ba x.1.toNat)
noncomputable abbrev Tt:Spec:=mkS (.pair Cu (.pair tL (.pair tI .unit))) tL false true (fun x=>Bd x.1=true∧List.length x.2.1≤20∧(∀y∈x.2.1,0≤y∧y<x.1.1)∧Fu (List.length x.1.2.2.1) x.2.2.1) (fun x=>Aa x.2.1 (Af x.1.2.2.1 x.2.2.1))
theorem Al3 (p q:List Int) (P:List Int→Prop):(((0:Int)≤(↑p.length:Int)∧(↑p.length:Int)<(↑As:Int)+(1:Int))∧
 (↑p.length:Int)=(↑p.length:Int)∧
  (0:Nat)=(0:Nat)∧
   (List.replicate (↑p.length:Int).toNat (Int.ofNat (nat_lit 0))).length=(List.replicate (↑p.length:Int).toNat (Int.ofNat (nat_lit 0))).length∧
    Ch
     (fun (v3:Int×List Int×PUnit) (k4:Int×List Int×PUnit→Prop)=>
      Br (decide (v3.1<(↑p.length:Int)))
       (∃(y5:Int),
        idx p v3.1=some y5∧
         ∃(y6:Int),
          idx q y5=some y6∧
           ((0:Int)≤v3.1∧v3.1<(↑v3.2.1.length:Int))∧
            (0:Nat)+v3.1.toNat<v3.2.1.length∧
             (0:Nat)=(0:Nat)∧
              v3.2.1.length=(v3.2.1.set ((0:Nat)+v3.1.toNat) y6).length∧k4 (IntKind.i64.wrap (v3.1+(1:Int)),v3.2.1.set ((0:Nat)+v3.1.toNat) y6,()))
       (P (List.take v3.2.1.length (List.drop (0:Nat) v3.2.1))))
     ((0:Int),List.replicate (↑p.length:Int).toNat (Int.ofNat (nat_lit 0)),PUnit.unit))=fnW tab (look []) Pq Try.f131 (p,q,()) P:=by kernel_rfl
theorem Al4 (p:List Int) (P:List Int→Prop):(((0:Int)≤(↑p.length:Int)∧(↑p.length:Int)<(↑As:Int)+(1:Int))∧
 (↑p.length:Int)=(↑p.length:Int)∧
  (0:Nat)=(0:Nat)∧
   (List.replicate (↑p.length:Int).toNat (Int.ofNat (nat_lit 0))).length=(List.replicate (↑p.length:Int).toNat (Int.ofNat (nat_lit 0))).length∧
    Ch
     (fun (v2:Int×List Int×PUnit) (k3:Int×List Int×PUnit→Prop)=>
      Br (decide (v2.1<(↑p.length:Int)))
       (∃(y4:Int),
        idx p v2.1=some y4∧
         ((0:Int)≤y4∧y4<(↑v2.2.1.length:Int))∧
          (0:Nat)+y4.toNat<v2.2.1.length∧
           (0:Nat)=(0:Nat)∧
            v2.2.1.length=(v2.2.1.set ((0:Nat)+y4.toNat) v2.1).length∧k3 (IntKind.i64.wrap (v2.1+(1:Int)),v2.2.1.set ((0:Nat)+y4.toNat) v2.1,()))
       (P (List.take v2.2.1.length (List.drop (0:Nat) v2.2.1))))
     ((0:Int),List.replicate (↑p.length:Int).toNat (Int.ofNat (nat_lit 0)),PUnit.unit))=fnW tab (look []) Dk Try.f165 (p,()) P:=by kernel_rfl
theorem Ayo (p:List Int) (P:List Int→Prop):(((0:Int)≤(↑p.length:Int)∧(↑p.length:Int)<(↑As:Int)+(1:Int))∧
 (↑p.length:Int)=(↑p.length:Int)∧
  (0:Nat)=(0:Nat)∧
   (List.replicate (↑p.length:Int).toNat (Int.ofNat (nat_lit 0))).length=(List.replicate (↑p.length:Int).toNat (Int.ofNat (nat_lit 0))).length∧
    Ch
     (fun (v2:Int×List Int×PUnit) (k3:Int×List Int×PUnit→Prop)=>
      Br (decide (v2.1<(↑p.length:Int)))
       (∃(y4:Int),
        idx p v2.1=some y4∧
         ((0:Int)≤y4∧y4<(↑v2.2.1.length:Int))∧
          (0:Nat)+y4.toNat<v2.2.1.length∧
           (0:Nat)=(0:Nat)∧
            v2.2.1.length=(v2.2.1.set ((0:Nat)+y4.toNat) v2.1).length∧k3 (IntKind.i64.wrap (v2.1+(1:Int)),v2.2.1.set ((0:Nat)+y4.toNat) v2.1,()))
       (P (List.take v2.2.1.length (List.drop (0:Nat) v2.2.1))))
     ((0:Int),List.replicate (↑p.length:Int).toNat (Int.ofNat (nat_lit 0)),PUnit.unit))=fnW tab (look []) Dk Try.f175 (p,()) P:=by kernel_rfl
theorem Al7 (p:List Int) (P:List Int→Prop):(∃(y2:Bool),Dm.fn (p,())=some y2∧Br (!y2) (P (List.take (0:Nat) (List.drop (0:Nat) []))) (∃(y3:List Int),Dk.fn (p,())=some y3∧P y3))=fnW tab (look [(169,Dm),(175,Dk)]) Iq Try.f160 (p,()) P:=by kernel_rfl
theorem Avp (n:Int) (P:List Int→Prop):((0:Nat)=(0:Nat)∧
 (0:Nat)=([]:List Int).length∧
  Ch
   (fun (v2:Int×List Int×PUnit) (k3:Int×List Int×PUnit→Prop)=>
    Br (decide (v2.1<n))
     ((0:Nat)=(0:Nat)∧
      v2.2.1.length=v2.2.1.length∧
       v2.2.1.length+(List.take (1:Nat) (List.drop (0:Nat) [v2.1])).length≤As∧
        (0:Nat)=(0:Nat)∧
         (v2.2.1++List.take (1:Nat) (List.drop (0:Nat) [v2.1])).length=(v2.2.1++List.take (1:Nat) (List.drop (0:Nat) [v2.1])).length∧
          k3 (IntKind.i64.wrap (v2.1+(1:Int)),v2.2.1++List.take (1:Nat) (List.drop (0:Nat) [v2.1]),()))
     (P (List.take v2.2.1.length (List.drop (0:Nat) v2.2.1))))
   ((0:Int),[],PUnit.unit))=fnW tab (look []) Bp Try.f106 (n,()) P:=by kernel_rfl
theorem Avq (g:List (List Int)) (l:Int) (P:List Int→Prop):(Br (decide (l>(0:Int))) (∃(y3:List Int),idx g (IntKind.i64.wrap (l-(1:Int)))=some y3∧P y3)
 (∃(y3:List Int),idx g (IntKind.i64.wrap (IntKind.i64.wrap ((0:Int)-l)-(1:Int)))=some y3∧ ∃(y4:List Int),Dk.fn (y3,())=some y4∧P y4))=fnW tab (look [(165,Dk)]) Mx Try.f155 (g,l,()) P:=by kernel_rfl
theorem Aym (n:Int) (P:List Int→Prop):((0:Nat)=(0:Nat)∧
 (0:Nat)=([]:List Int).length∧
  Ch
   (fun (v2:Int×List Int×PUnit) (k3:Int×List Int×PUnit→Prop)=>
    Br (decide (v2.1<n))
     ((0:Nat)=(0:Nat)∧
      v2.2.1.length=v2.2.1.length∧
       v2.2.1.length+(List.take (2:Nat) (List.drop (0:Nat) [IntKind.i64.wrap (v2.1+(1:Int)),IntKind.i64.wrap ((0:Int)-IntKind.i64.wrap (v2.1+(1:Int)))])).length≤
         As∧
        (0:Nat)=(0:Nat)∧
         (v2.2.1++List.take (2:Nat) (List.drop (0:Nat) [IntKind.i64.wrap (v2.1+(1:Int)),IntKind.i64.wrap ((0:Int)-IntKind.i64.wrap (v2.1+(1:Int)))])).length=
           (v2.2.1++List.take (2:Nat) (List.drop (0:Nat) [IntKind.i64.wrap (v2.1+(1:Int)),IntKind.i64.wrap ((0:Int)-IntKind.i64.wrap (v2.1+(1:Int)))])).length∧
          k3
           (IntKind.i64.wrap (v2.1+(1:Int)),
            v2.2.1++List.take (2:Nat) (List.drop (0:Nat) [IntKind.i64.wrap (v2.1+(1:Int)),IntKind.i64.wrap ((0:Int)-IntKind.i64.wrap (v2.1+(1:Int)))]),()))
     (P (List.take v2.2.1.length (List.drop (0:Nat) v2.2.1))))
   ((0:Int),[],PUnit.unit))=fnW tab (look []) Jl Try.f112 (n,()) P:=by kernel_rfl
theorem Bar (p:Int×ByteArray×List (List Int)×Unit) (s:List Int) (l:Int) (P:List Int→Prop):(∃(y4:List Int),
 idx p.2.2.1
    (IntKind.i64.wrap
     ((if true=true then if IntKind.i64.wrap ((0:Int)-l)>l then IntKind.i64.wrap ((0:Int)-l) else l
      else if IntKind.i64.wrap ((0:Int)-l)<l then IntKind.i64.wrap ((0:Int)-l) else l)-
      (1:Int)))=
   some y4∧
  Br (decide (l<(0:Int)))
   (∃(y5:List Int),
    Iq.fn (y4,())=some y5∧
     (0:Nat)=(0:Nat)∧
      (0:Nat)=([]:List Int).length∧
       Ch
        (fun (v6:Int×List Int×PUnit) (k7:Int×List Int×PUnit→Prop)=>
         Br (decide (v6.1<(↑s.length:Int)))
          (∃(y8:Int),
           idx s v6.1=some y8∧
            ∃(y9:Int),
             idx y5 y8=some y9∧
              (0:Nat)=(0:Nat)∧
               v6.2.1.length=v6.2.1.length∧
                v6.2.1.length+(List.take (1:Nat) (List.drop (0:Nat) [y9])).length≤As∧
                 (0:Nat)=(0:Nat)∧
                  (v6.2.1++List.take (1:Nat) (List.drop (0:Nat) [y9])).length=(v6.2.1++List.take (1:Nat) (List.drop (0:Nat) [y9])).length∧
                   k7 (IntKind.i64.wrap (v6.1+(1:Int)),v6.2.1++List.take (1:Nat) (List.drop (0:Nat) [y9]),()))
          (P (List.take v6.2.1.length (List.drop (0:Nat) v6.2.1))))
        ((0:Int),[],PUnit.unit))
   ((0:Nat)=(0:Nat)∧
    (0:Nat)=([]:List Int).length∧
     Ch
      (fun (v5:Int×List Int×PUnit) (k6:Int×List Int×PUnit→Prop)=>
       Br (decide (v5.1<(↑s.length:Int)))
        (∃(y7:Int),
         idx s v5.1=some y7∧
          ∃(y8:Int),
           idx y4 y7=some y8∧
            (0:Nat)=(0:Nat)∧
             v5.2.1.length=v5.2.1.length∧
              v5.2.1.length+(List.take (1:Nat) (List.drop (0:Nat) [y8])).length≤As∧
               (0:Nat)=(0:Nat)∧
                (v5.2.1++List.take (1:Nat) (List.drop (0:Nat) [y8])).length=(v5.2.1++List.take (1:Nat) (List.drop (0:Nat) [y8])).length∧
                 k6 (IntKind.i64.wrap (v5.1+(1:Int)),v5.2.1++List.take (1:Nat) (List.drop (0:Nat) [y8]),()))
        (P (List.take v5.2.1.length (List.drop (0:Nat) v5.2.1))))
      ((0:Int),[],PUnit.unit)))=fnW tab (look [(160,Iq)]) Tt Try.f129 (p,s,l,()) P:=by kernel_rfl
theorem Gh {xs:List Int} {i:Nat} (h:i<xs.length):Ga xs (i:Int)=xs[i]:=by
 unfold Ga
 rw [Int.toNat_natCast,List.getD_eq_getElem?_getD,List.getElem?_eq_getElem h];rfl
theorem Aqv {xs:List Int} {y:Int} (h0:0≤y) (h:y<xs.length):idx xs y=some (Ga xs y):=by
 have hy:y.toNat<xs.length:=by omega
 have e:y=(y.toNat:Int):=by omega
 rw [e,Bc hy,Gh hy]
theorem Pc (f:Nat→Nat) (g:Nat→Int) (m:Nat) (init:List Int):Rh f g (m+1) init=(Rh f g m init).set (f m) (g m):=by simp [Rh,List.range_succ]
theorem Ri (f:Nat→Nat) (g:Nat→Int) (m:Nat) (init:List Int):(Rh f g m init).length=init.length:=by
 induction m with
 |zero=>rfl
 |succ m ih=>rw [Pc,List.length_set,ih]
theorem Afu (f:Nat→Nat) (g:Nat→Int) (init:List Int): ∀(m:Nat),(∀i j,i<m→j<m→f i=f j→i=j)→ ∀i,i<m→f i<init.length→(Rh f g m init)[f i]?=some (g i)
 |0,_,i,h,_=>absurd h (Nat.not_lt_zero _)
 |m+1,hf,i,hi,hl=>by
  rw [Pc]
  by_cases e:i=m
  ·subst e
   exact List.getElem?_set_self (by rw [Ri];exact hl)
  ·rw [List.getElem?_set_ne (fun h=>e (hf i m hi (by omega) h.symm))]
   exact Afu f g init m (fun a b ha hb=>hf a b (by omega) (by omega)) i (by omega) hl
structure Qa (p:List Int):Prop where
 pos:1≤p.length
 len:p.length≤20
 row:Hj p.length p
 nodup:p.Nodup
theorem Af2 {p:List Int} (h:Eg p=true):Qa p:=by
 obtain ⟨h1,h2,h3⟩:=En.1 h
 refine ⟨h1,h2,fun y hy=>?_,Yh fun j hj=>(h3 j hj hj).2.2⟩
 obtain ⟨j,hj,rfl⟩:=List.mem_iff_getElem.1 hy
 have:=h3 j hj hj
 omega
theorem Qa.inj {p:List Int} (h:Qa p) (i j:Nat) (hi:i<p.length) (hj:j<p.length) (e:(Ga p (i:Int)).toNat=(Ga p (j:Int)).toNat):i=j:=by
 rw [Gh hi,Gh hj] at e
 have h1:=h.row _ (List.getElem_mem hi)
 have h2:=h.row _ (List.getElem_mem hj)
 have e:p[i]=p[j]:=by omega
 refine Classical.byContradiction fun hne=>?_
 rcases Nat.lt_or_gt_of_ne hne with hl|hl
 ·exact List.pairwise_iff_getElem.1 h.nodup i j hi hj hl e
 ·exact List.pairwise_iff_getElem.1 h.nodup j i hj hi hl e.symm
theorem Qa.Azs {p:List Int} (h:Qa p) (k:Nat) (hk:k<p.length): ∃i,i<p.length∧(Ga p (i:Int)).toNat=k:=by
 have hm:=(Se (xs:=p) h.row).2 (Ajr h.nodup) k hk
 obtain ⟨i,hi,e⟩:=List.mem_iff_getElem.1 hm
 exact ⟨i,hi,by rw [Gh hi,e];exact Int.toNat_natCast k⟩
theorem Qa.lt {p:List Int} (h:Qa p) {i:Nat} (hi:i<p.length):(Ga p (i:Int)).toNat<p.length:=by
 rw [Gh hi]
 have:=h.row _ (List.getElem_mem hi)
 omega
theorem Ah7 (p:List Int):(Ah p).length=p.length:=by unfold Ah;rw [Ri,List.length_replicate]
theorem Azd {p:List Int} (h:Qa p) {i:Nat} (hi:i<p.length):(Ah p)[(Ga p (i:Int)).toNat]?=some (i:Int):=
 Afu (fun i=>(Ga p (i:Int)).toNat) (fun i=>(i:Int)) _ p.length (fun i j hi hj=>h.inj i j hi hj) i hi (by rw [List.length_replicate];exact h.lt hi)
theorem Bb8 {p:List Int} (h:Qa p):Hj p.length (Ah p):=by
 intro y hy
 obtain ⟨k,hk,rfl⟩:=List.mem_iff_getElem.1 hy
 have hk':k<p.length:=by rw [Ah7] at hk;exact hk
 obtain ⟨i,hi,rfl⟩:=h.Azs k hk'
 have:=Azd h hi
 rw [List.getElem?_eq_getElem hk] at this
 rw [Option.some.inj this]
 omega
theorem Rf (p q:List Int):(Aa p q).length=p.length:=by simp [Aa]
theorem Aqc {p q:List Int} {n:Nat} (hp:Hj q.length p) (hq:Hj n q):Hj n (Aa p q):=by
 intro y hy
 obtain ⟨x,hx,rfl⟩:=List.mem_map.1 hy
 have h1:=hp x hx
 rw [show x=(x.toNat:Int) by omega,Gh (by omega)]
 exact hq _ (List.getElem_mem _)
theorem Akd (p q:List Int) (h:p.length≤20∧Hj q.length p):fnW tab (look []) Pq Try.f131 (p,q,()) (fun (z:List Int)=>z=Aa p q):=by
 obtain ⟨h,hr⟩:=h
 refine Eq.mp (Al3 p q _) ?_
 refine ⟨⟨by omega,by show (p.length:Int)<(4294967296:Int)+1;omega⟩,rfl,rfl,rfl,?_⟩
 have hcl:=Rf p q
 refine Az p.length (fun v=>v.1) (fun j v=>v.2.1.length=(Aa p q).length∧v.2.1.take j=(Aa p q).take j) rfl ⟨by rw [hcl];simp,by simp⟩ ?_
 rintro j ⟨i,ys,⟨⟩⟩ K hj hi ⟨h1,h2⟩ hK
 dsimp only at hi h1 h2⊢
 subst hi
 refine Br.dec (fun hl=>?_) fun hl=>?_
 ·have hl:j<p.length:=by omega
  have hy:=hr _ (List.getElem_mem hl)
  refine ⟨_,Bc hl,_,Aqv hy.1 hy.2,⟨by omega,by omega⟩,by rw [Int.toNat_natCast];omega,rfl,by rw [List.length_set],?_⟩
  rw [At (by omega),Int.toNat_natCast,Nat.zero_add]
  have hl':j<(Aa p q).length:=by rw [hcl];exact hl
  have e:Ga q p[j]=(Aa p q)[j]:=by simp [Aa]
  rw [e]
  exact hK hl _ rfl ⟨by rw [List.length_set];exact h1,No hl' h1 h2⟩
 ·have:j=p.length:=by omega
  subst this
  rw [←hcl,List.take_length,←h1,List.take_length] at h2
  rw [List.drop_zero,List.take_length]
  exact h2
theorem Ly:Sound Try.prog 131 Pq:=
 Sound.mkS Bw Ax mixed Try.func131 (by kernel_rfl) (by kernel_rfl) fun x h=>Akd x.1 x.2.1 h
theorem Ake (p:List Int) (h:p.length≤20∧Hj p.length p):fnW tab (look []) Dk Try.f165 (p,()) (fun (z:List Int)=>z=Ah p):=by
 obtain ⟨h,hr⟩:=h
 refine Eq.mp (Al4 p _) ?_
 refine ⟨⟨by omega,by show (p.length:Int)<(4294967296:Int)+1;omega⟩,rfl,rfl,rfl,?_⟩
 refine Az p.length (fun v=>v.1) (fun j v=>v.2.1=Rh (fun i=>(Ga p (i:Int)).toNat) (fun i=>(i:Int)) j (List.replicate p.length 0)) rfl rfl ?_
 rintro j ⟨i,ys,⟨⟩⟩ K hj hi h1 hK
 dsimp only at hi h1⊢
 subst hi
 have hlen:ys.length=p.length:=by rw [h1,Ri,List.length_replicate]
 refine Br.dec (fun hl=>?_) fun hl=>?_
 ·have hl:j<p.length:=by omega
  have hy:=hr _ (List.getElem_mem hl)
  refine ⟨_,Bc hl,⟨by omega,by omega⟩,by omega,rfl,by rw [List.length_set],?_⟩
  rw [At (by omega),Nat.zero_add]
  refine hK hl _ rfl ?_
  rw [Pc,←h1,Gh hl]
 ·have:j=p.length:=by omega
  subst this
  rw [List.drop_zero,List.take_length]
  exact h1
theorem Lz:Sound Try.prog 165 Dk:=
 Sound.mkS Bw Ax mixed Try.func165 (by kernel_rfl) (by kernel_rfl) fun x h=>Ake x.1 h
theorem Axq (p:List Int) (h:p.length≤20∧Hj p.length p):fnW tab (look []) Dk Try.f175 (p,()) (fun (z:List Int)=>z=Ah p):=by
 obtain ⟨h,hr⟩:=h
 refine Eq.mp (Ayo p _) ?_
 refine ⟨⟨by omega,by show (p.length:Int)<(4294967296:Int)+1;omega⟩,rfl,rfl,rfl,?_⟩
 refine Az p.length (fun v=>v.1) (fun j v=>v.2.1=Rh (fun i=>(Ga p (i:Int)).toNat) (fun i=>(i:Int)) j (List.replicate p.length 0)) rfl rfl ?_
 rintro j ⟨i,ys,⟨⟩⟩ K hj hi h1 hK
 dsimp only at hi h1⊢
 subst hi
 have hlen:ys.length=p.length:=by rw [h1,Ri,List.length_replicate]
 refine Br.dec (fun hl=>?_) fun hl=>?_
 ·have hl:j<p.length:=by omega
  have hy:=hr _ (List.getElem_mem hl)
  refine ⟨_,Bc hl,⟨by omega,by omega⟩,by omega,rfl,by rw [List.length_set],?_⟩
  rw [At (by omega),Nat.zero_add]
  refine hK hl _ rfl ?_
  rw [Pc,←h1,Gh hl]
 ·have:j=p.length:=by omega
  subst this
  rw [List.drop_zero,List.take_length]
  exact h1
theorem Akx:Sound Try.prog 175 Dk:=
 Sound.mkS Bw Ax mixed Try.func175 (by kernel_rfl) (by kernel_rfl) fun x h=>Axq x.1 h
theorem Akh (p:List Int) (h:Eg p=true):fnW tab (look [(169,Dm),(175,Dk)]) Iq Try.f160 (p,()) (fun (z:List Int)=>z=Ah p):=by
 have hp:=Af2 h
 have hs:short p:=by have:=hp.len;unfold short;omega
 refine Eq.mp (Al7 p _) ⟨_,if_pos hs,⟨fun he=>?_,fun _=>⟨_,if_pos ⟨hp.len,hp.row⟩,rfl⟩⟩⟩
 exact absurd h (Dx he)
theorem Adx:Sound Try.prog 160 Iq:=
 Sound.mkS Bw (Ad Nb (Ad Akx Ax)) mixed Try.func160 (by kernel_rfl) (by kernel_rfl) fun x h=>Akh x.1 h
theorem Ua (j:Nat):upto (j+1)=upto j++ [(j:Int)]:=by simp [upto,List.range_succ]
theorem Aum (n:Int) (h:0≤n∧n≤20):fnW tab (look []) Bp Try.f106 (n,()) (fun (z:List Int)=>z=upto n.toNat):=by
 refine Eq.mp (Avp n _) ⟨rfl,rfl,?_⟩
 refine Az n.toNat (fun v=>v.1) (fun j v=>v.2.1=upto j) rfl rfl ?_
 rintro j ⟨i,ys,⟨⟩⟩ K hj hi h1 hK
 dsimp only at hi h1⊢
 subst hi h1
 refine Br.dec (fun hl=>?_) fun hl=>?_
 ·refine ⟨rfl,rfl,?_,rfl,rfl,?_⟩
  ·show (upto j).length+1≤4294967296
   rw [Ra];omega
  ·rw [At (by omega)]
   exact hK (by omega) _ rfl (Ua j).symm
 ·have:j=n.toNat:=by omega
  subst this
  rw [List.drop_zero,List.take_length]
theorem Ajf:Sound Try.prog 106 Bp:=
 Sound.mkS Bw Ax mixed Try.func106 (by kernel_rfl) (by kernel_rfl) fun x h=>Aum x.1 h
theorem Qp {g:List (List Int)} {k:Nat} (h:k<g.length):Af g ((k:Int)+1)=g[k]:=by
 unfold Af
 rw [if_pos (by omega),show ((k:Int)+1-1).toNat=k by omega,List.getD_eq_getElem?_getD,List.getElem?_eq_getElem h];rfl
theorem Qo {g:List (List Int)} {k:Nat} (h:k<g.length):Af g (-((k:Int)+1))=Ah g[k]:=by
 unfold Af
 rw [if_neg (by omega),show (-(-((k:Int)+1))-1).toNat=k by omega,List.getD_eq_getElem?_getD,List.getElem?_eq_getElem h];rfl
theorem Pf {n:Nat} {l:Int} (h:Fu n l): ∃k:Nat,k<n∧(l=(k:Int)+1∨l= -((k:Int)+1)):=by
 obtain ⟨h1,h2,h3⟩:=h
 by_cases h0:0<l
 ·exact ⟨(l-1).toNat,by omega, .inl (by omega)⟩
 ·exact ⟨(-l-1).toNat,by omega, .inr (by omega)⟩
theorem Aun (g:List (List Int)) (l:Int) (h:Fu (List.length g) l∧List.length g≤8∧ ∀p∈g,Eg p=true):fnW tab (look [(165,Dk)]) Mx Try.f155 (g,l,()) (fun (z:List Int)=>z=Af g l):=by
 obtain ⟨hl,h8,hp⟩:=h
 refine Eq.mp (Avq g l _) ?_
 obtain ⟨k,hk,rfl|rfl⟩:=Pf hl
 ·refine Br.dec (fun _=>?_) fun hn=>by omega
  rw [Cb (by omega) (by omega),show (k:Int)+1-1=(k:Int) by omega]
  exact ⟨_,Bc hk,(Qp hk).symm⟩
 ·refine Br.dec (fun hn=>by omega) fun _=>?_
  rw [Cb (n:=0- -((k:Int)+1)) (by omega) (by omega),Cb (by omega) (by omega),show (0:Int)- -((k:Int)+1)-1=(k:Int) by omega]
  have:=Af2 (hp _ (List.getElem_mem hk))
  exact ⟨_,Bc hk,_,if_pos ⟨this.len,this.row⟩,(Qo hk).symm⟩
theorem Ajg:Sound Try.prog 155 Mx:=
 Sound.mkS Bw (Ad Lz Ax) mixed Try.func155 (by kernel_rfl) (by kernel_rfl) fun x h=>Aun x.1 x.2.1 h
theorem Qr (j:Nat):Ba (j+1)=Ba j++ [(j:Int)+1,-((j:Int)+1)]:=by simp [Ba,List.range_succ,List.flatMap_append]
theorem Kh (j:Nat):(Ba j).length=2*j:=by
 induction j with
 |zero=>rfl
 |succ j ih=>rw [Qr,List.length_append,ih];simp only [List.length_cons,List.length_nil];omega
theorem Lb {n:Nat} {l:Int} (h:l∈Ba n):Fu n l:=by
 unfold Ba at h
 obtain ⟨k,hk,hl⟩:=List.mem_flatMap.1 h
 have hk:=List.mem_range.1 hk
 simp only [List.mem_cons,List.not_mem_nil,or_false] at hl
 unfold Fu
 omega
theorem Axo (n:Int) (h:0≤n∧n≤8):fnW tab (look []) Jl Try.f112 (n,()) (fun (z:List Int)=>z=Ba n.toNat):=by
 refine Eq.mp (Aym n _) ⟨rfl,rfl,?_⟩
 refine Az n.toNat (fun v=>v.1) (fun j v=>v.2.1=Ba j) rfl rfl ?_
 rintro j ⟨i,ys,⟨⟩⟩ K hj hi h1 hK
 dsimp only at hi h1⊢
 subst hi h1
 refine Br.dec (fun hl=>?_) fun hl=>?_
 ·refine ⟨rfl,rfl,?_,rfl,rfl,?_⟩
  ·show (Ba j).length+2≤4294967296
   rw [Kh];omega
  ·have e1:IntKind.i64.wrap ((j:Int)+1)=(j:Int)+1:=Cb (by omega) (by omega)
   have e2:IntKind.i64.wrap ((0:Int)-((j:Int)+1))= -((j:Int)+1):=by rw [Cb (by omega) (by omega)];omega
   rw [e1,e2]
   exact hK (by omega) _ rfl (Qr j).symm
 ·have:j=n.toNat:=by omega
  subst this
  rw [List.drop_zero,List.take_length]
theorem Aau:Sound Try.prog 112 Jl:=
 Sound.mkS Bw Ax mixed Try.func112 (by kernel_rfl) (by kernel_rfl) fun x h=>Axo x.1 h
structure Valid (p:PP):Prop where
 n:1≤p.1∧p.1≤20
 few:1≤p.2.2.1.length∧p.2.2.1.length≤8
 perm: ∀m∈p.2.2.1,Eg m=true
 len: ∀m∈p.2.2.1,(m.length:Int)=p.1
theorem valid {p:PP} (h:Bd p=true):Valid p:=by
 have h0:=Avm h
 obtain ⟨h1,_,_⟩:=En.1 h
 obtain ⟨_,_,h4⟩:=En.1 h1
 exact ⟨⟨h0.1,h0.2.1⟩,h0.2.2,fun m hm=>(En.1 (h4 m hm)).2,fun m hm=>(En.1 (h4 m hm)).1⟩
theorem Aer {p:PP} (h:Valid p) {l:Int} (hl:Fu (List.length p.2.2.1) l):((Af p.2.2.1 l).length:Int)=p.1∧Hj (Af p.2.2.1 l).length (Af p.2.2.1 l):=by
 obtain ⟨k,hk,rfl|rfl⟩:=Pf hl
 ·rw [Qp hk]
  exact ⟨h.len _ (List.getElem_mem hk),(Af2 (h.perm _ (List.getElem_mem hk))).row⟩
 ·rw [Qo hk,Ah7]
  exact ⟨h.len _ (List.getElem_mem hk),Bb8 (Af2 (h.perm _ (List.getElem_mem hk)))⟩
theorem Apx (s y:List Int) (P:List Int→Prop) (h1:s.length≤20) (h2:Hj y.length s) (h3:P (Aa s y)):
  Ch
   (fun (v5:Int×List Int×PUnit) (k6:Int×List Int×PUnit→Prop)=>
    Br (decide (v5.1<(↑s.length:Int)))
     (∃(y7:Int),
      idx s v5.1=some y7∧
       ∃(y8:Int),
        idx y y7=some y8∧
         (0:Nat)=(0:Nat)∧
          v5.2.1.length=v5.2.1.length∧
           v5.2.1.length+(List.take (1:Nat) (List.drop (0:Nat) [y8])).length≤As∧
            (0:Nat)=(0:Nat)∧
             (v5.2.1++List.take (1:Nat) (List.drop (0:Nat) [y8])).length=(v5.2.1++List.take (1:Nat) (List.drop (0:Nat) [y8])).length∧
              k6 (IntKind.i64.wrap (v5.1+(1:Int)),v5.2.1++List.take (1:Nat) (List.drop (0:Nat) [y8]),()))
     (P (List.take v5.2.1.length (List.drop (0:Nat) v5.2.1))))
   ((0:Int),([]:List Int),PUnit.unit):=by
 refine Az s.length (fun v=>v.1) (fun j v=>v.2.1=(s.take j).map (Ga y)) rfl (by simp) ?_
 rintro j ⟨i,ys,⟨⟩⟩ K hj hi hR hK
 dsimp only at hi hR⊢
 subst hi hR
 refine Br.dec (fun hl=>?_) fun hl=>?_
 ·have hl:j<s.length:=by omega
  have hy:=h2 _ (List.getElem_mem hl)
  refine ⟨_,Bc hl,_,Aqv hy.1 hy.2,rfl,rfl,?_,rfl,rfl,?_⟩
  ·show ((s.take j).map (Ga y)).length+1≤4294967296
   rw [List.length_map,List.length_take];omega
  ·rw [At (by omega)]
   refine hK hl _ rfl ?_
   dsimp only
   rw [List.take_succ_eq_append_getElem hl,List.map_append]
   rfl
 ·have:j=s.length:=by omega
  subst this
  rw [List.drop_zero,List.take_length,List.take_length]
  exact h3
theorem Azv (p:PP) (s:List Int) (l:Int) (h:Bd p=true∧List.length s≤20∧(∀y∈s,0≤y∧y<p.1)∧Fu (List.length p.2.2.1) l):fnW tab (look [(160,Iq)]) Tt Try.f129 (p,s,l,()) (fun (z:List Int)=>z=Aa s (Af p.2.2.1 l)):=by
 obtain ⟨hv,hs,hr,hl⟩:=h
 have hv:=valid hv
 have hf:=hv.few
 refine Eq.mp (Bar p s l _) ?_
 have hlo:=Aer hv hl
 have hrow:Hj (Af p.2.2.1 l).length s:=fun y hy=>by have:=hr y hy;omega
 obtain ⟨k,hk,rfl|rfl⟩:=Pf hl
 ·rw [if_pos rfl,Cb (n:=0-((k:Int)+1)) (by omega) (by omega),if_neg (by omega),Cb (by omega) (by omega),show (k:Int)+1-1=(k:Int) by omega]
  refine ⟨_,Bc hk,Br.dec (fun hn=>by omega) fun _=>⟨rfl,rfl,?_⟩⟩
  rw [Qp hk] at hrow⊢
  exact Apx s _ (fun z=>z=Aa s p.2.2.1[k]) hs hrow rfl
 ·rw [if_pos rfl,Cb (n:=0- -((k:Int)+1)) (by omega) (by omega),if_pos (by omega),Cb (by omega) (by omega),show (0:Int)- -((k:Int)+1)-1=(k:Int) by omega]
  refine ⟨_,Bc hk,Br.dec (fun _=>⟨_,if_pos (hv.perm _ (List.getElem_mem hk)),rfl,rfl,?_⟩) fun hn=>by omega⟩
  rw [Qo hk] at hrow⊢
  exact Apx s (Ah p.2.2.1[k]) (fun z=>z=Aa s (Ah p.2.2.1[k])) hs hrow rfl
theorem Aox:Sound Try.prog 129 Tt:=
 Sound.mkS Bw (Ad Adx Ax) mixed Try.func129 (by kernel_rfl) (by kernel_rfl) fun x h=>Azv x.1 x.2.1 x.2.2.1 h
end Go.Proofs.Ytebabhocakedaaa

namespace Go.Proofs.Ytebabhocakedaaa
open Go.RowKit
abbrev rL:CK:= .row tI 2
def Nm:List (List Int)→Nat
 | []=>0
 |r::rs=>r.length+Nm rs
def low (k:Int):Prop:=0≤k∧k≤1099511627776
theorem Cx {α:Type} (xs:List α):List.take xs.length (List.drop 0 xs)=xs:=by rw [List.drop_zero,List.take_length]
end Go.Proofs.Ytebabhocakedaaa

namespace Go.Proofs.Ytebabhocakedaaa
open Go.RowKit
theorem To (a:List Int):Gl a a=true:=by simp [Gl]
theorem Bag {n:Nat} {room:Int} (h: ¬Aet n room<0):Aet n room=room-n∧(n:Int)≤room:=by
 unfold Aet at*
 split at h
 ·exact absurd (show (-1:Int)<0 by decide) h
 ·rename_i h1;rw [if_neg h1];exact ⟨rfl,by omega⟩
theorem Asn: ∀(xs:List (List Int)) (room:Int),0≤room→ ¬Asm xs room<0→Asm xs room=room-Nm xs
 | [],room,_,_=>by simp [Asm,Nm]
 |r::xs,room,h0,h=>by
  simp only [Asm,Nm] at h⊢
  split at h
  ·exact absurd (show (-1:Int)<0 by decide) h
  ·rename_i h1
   rw [if_neg h1]
   have e1:=Bag (n:=r.length) h1
   have e1:Ade r room=room-r.length∧(r.length:Int)≤room:=e1
   rw [Asn xs _ (by rw [e1.1];omega) h,e1.1]
   omega
theorem Bae {xs:List (List Int)} {room:Int} (h: ¬Sk xs room<0):Sk xs room=room-xs.length-Nm xs:=by
 unfold Sk at*
 split at h
 ·exact absurd (show (-1:Int)<0 by decide) h
 ·rename_i h1
  rw [if_neg h1]
  have e1:=Bag h1
  rw [Asn xs _ (by rw [e1.1];omega) h,e1.1]
end Go.Proofs.Ytebabhocakedaaa

namespace Go.Proofs.Ytebabhocakedaaa
open Go.RowKit
theorem Awt {b:Bool} {P:Prop} (h:(!(b==b))=true):P:=by simp at h
end Go.Proofs.Ytebabhocakedaaa

namespace Go.Proofs.Ytebabhocakedaaa
open Go.RowKit
noncomputable abbrev Mv:Spec:=mkS (.pair tL .unit) tL false true (fun x=>short x.1) (fun x=>x.1)
theorem Avo (xs:List Int) (P:List Int→Prop):((0:Nat)=(0:Nat)∧(0:Nat)=([]:List Int).length∧(0:Nat)+xs.length≤As∧P (List.take ([]++xs).length (List.drop (0:Nat) ([]++xs))))=fnW tab (look []) Mv Try.f120 (xs,()) P:=by kernel_rfl
theorem Aul (xs:List Int) (h:short xs):fnW tab (look []) Mv Try.f120 (xs,()) (fun (z:List Int)=>z=xs):=by
 unfold short at h
 refine Eq.mp (Avo xs _) ⟨rfl,rfl,by show 0+xs.length≤4294967296;omega,?_⟩
 simp only [Cx,List.nil_append]
theorem Aje:Sound Try.prog 120 Mv:=
 Sound.mkS Bw Ax mixed Try.func120 (by kernel_rfl) (by kernel_rfl) fun x h=>Aul x.1 h
end Go.Proofs.Ytebabhocakedaaa

namespace Go.Proofs.Ytebabhocakedaaa
open Go.RowKit
def Jq (xs:List Int):ByteArray:=bytesOf (xs.map fun x=>IntKind.u8.wrap x)
noncomputable abbrev Df:Spec:=mkS (.pair tL .unit) .str false true (fun x=>short x.1) (fun x=>Jq x.1)
def Adk (ps:List (List Int)) (p:List Int):Int:=Dl (fun q=>decide (q=p)) ps 0
theorem Avt (xs:List Int) (P:ByteArray→Prop):(((0:Int)≤(↑xs.length:Int)∧(↑xs.length:Int)<(↑As:Int)+(1:Int))∧
 (↑xs.length:Int)=(↑xs.length:Int)∧
  (0:Nat)=(0:Nat)∧
   (List.replicate (↑xs.length:Int).toNat (Int.ofNat (nat_lit 0))).length=(List.replicate (↑xs.length:Int).toNat (Int.ofNat (nat_lit 0))).length∧
    Ch
     (fun (v2:Int×List Int×PUnit) (k3:Int×List Int×PUnit→Prop)=>
      Br (decide (v2.1<(↑xs.length:Int)))
       (∃(y4:Int),
        idx xs v2.1=some y4∧
         ((0:Int)≤v2.1∧v2.1<(↑v2.2.1.length:Int))∧
          (0:Nat)+v2.1.toNat<v2.2.1.length∧
           (0:Nat)=(0:Nat)∧
            v2.2.1.length=(v2.2.1.set ((0:Nat)+v2.1.toNat) (IntKind.u8.wrap y4)).length∧
             k3 (IntKind.i64.wrap (v2.1+(1:Int)),v2.2.1.set ((0:Nat)+v2.1.toNat) (IntKind.u8.wrap y4),()))
       (P (bytesOf (List.take v2.2.1.length (List.drop (0:Nat) v2.2.1)))))
     ((0:Int),List.replicate (↑xs.length:Int).toNat (Int.ofNat (nat_lit 0)),PUnit.unit))=fnW tab (look []) Df Try.f111 (xs,()) P:=by kernel_rfl
theorem Auq (xs:List Int) (h:short xs):fnW tab (look []) Df Try.f111 (xs,()) (fun (z:ByteArray)=>z=Jq xs):=by
 unfold short at h
 refine Eq.mp (Avt xs _) ?_
 refine ⟨⟨by omega,by show (xs.length:Int)<(4294967296:Int)+1;omega⟩,rfl,rfl,rfl,?_⟩
 have hcl:(xs.map fun x=>IntKind.u8.wrap x).length=xs.length:=by simp
 refine Az xs.length (fun v=>v.1) (fun j v=>v.2.1.length=(xs.map fun x=>IntKind.u8.wrap x).length∧v.2.1.take j=(xs.map fun x=>IntKind.u8.wrap x).take j) rfl ⟨by rw [hcl];simp,by simp⟩ ?_
 rintro j ⟨i,ys,⟨⟩⟩ K hj hi ⟨h1,h2⟩ hK
 dsimp only at hi h1 h2⊢
 subst hi
 refine Br.dec (fun hl=>?_) fun hl=>?_
 ·have hl:j<xs.length:=by omega
  refine ⟨_,Bc hl,⟨by omega,by omega⟩,by rw [Int.toNat_natCast];omega,rfl,by rw [List.length_set],?_⟩
  rw [At (by omega),Int.toNat_natCast,Nat.zero_add]
  have hl':j<(xs.map fun x=>IntKind.u8.wrap x).length:=by rw [hcl];exact hl
  have e:IntKind.u8.wrap xs[j]=(xs.map fun x=>IntKind.u8.wrap x)[j]:=by simp
  rw [e]
  exact hK hl _ rfl ⟨by rw [List.length_set];exact h1,No hl' h1 h2⟩
 ·have:j=xs.length:=by omega
  subst this
  rw [←hcl,List.take_length,←h1,List.take_length] at h2
  rw [List.drop_zero,List.take_length,h2];rfl
theorem Yx:Sound Try.prog 111 Df:=
 Sound.mkS Bw Ax mixed Try.func111 (by kernel_rfl) (by kernel_rfl) fun x h=>Auq x.1 h
theorem Wj {α:Type} (P:α→Bool) (y:α): ∀(l:List α) (i:Int),0≤i→Dl P (l++ [y]) i=if Dl P l i<0 then (if P y=true then i+l.length else-1) else Dl P l i
 | [],i,_=>by simp [Dl]
 |x::r,i,h=>by
  simp only [List.cons_append,Dl,List.length_cons]
  split
  ·rw [if_neg (by omega)]
  ·rw [Wj P y r (i+1) (by omega),show i+1+(r.length:Int)=i+((r.length+1:Nat):Int) by push_cast;omega]
theorem Aog (ps:List (List Int)) (q p:List Int):Adk (ps++ [q]) p=if Adk ps p<0 then (if q=p then (ps.length:Int) else-1) else Adk ps p:=by
 unfold Adk
 rw [Wj _ _ _ _ (Int.le_refl 0)]
 simp only [decide_eq_true_eq,Int.zero_add]
def Mc (p:List Int):Prop:= ∀x∈p,0≤x∧x<256
theorem Az1 {x y:Int} (hx:0≤x∧x<256) (hy:0≤y∧y<256) (h:UInt8.ofNat (IntKind.u8.wrap x).toNat=UInt8.ofNat (IntKind.u8.wrap y).toNat):x=y:=by
 have h:=congrArg UInt8.toNat h
 simp only [IntKind.wrap_u8,UInt8.toNat_ofNat'] at h
 omega
theorem bytes_inj: ∀(p q:List Int),Mc p→Mc q→(p.map fun x=>UInt8.ofNat (IntKind.u8.wrap x).toNat)=(q.map fun x=>UInt8.ofNat (IntKind.u8.wrap x).toNat)→p=q
 | [],[],_,_,_=>rfl
 | [],_::_,_,_,h=>by simp at h
 |_::_,[],_,_,h=>by simp at h
 |x::p,y::q,hp,hq,h=>by
  simp only [List.map_cons,List.cons.injEq] at h
  rw [Az1 (hp x (by simp)) (hq y (by simp)) h.1,bytes_inj p q (fun z hz=>hp z (by simp [hz])) (fun z hz=>hq z (by simp [hz])) h.2]
theorem key_inj {p q:List Int} (hp:Mc p) (hq:Mc q) (h:Jq p=Jq q):p=q:=by
 refine bytes_inj p q hp hq ?_
 simp only [Jq,bytesOf,ByteArray.mk.injEq,List.map_map] at h
 have h:=congrArg Array.toList h
 simpa [Function.comp_def] using h
def KM (m:ByteArray→Option Int) (ps:List (List Int)):Prop:= ∀p,Mc p→m (Jq p)=if Adk ps p<0 then none else some (Adk ps p)
theorem KM.nil:KM (fun _=>none) []:=fun p _=>by
 rw [if_pos (by unfold Adk;simp [Dl])]
theorem KM.add {m:ByteArray→Option Int} {ps:List (List Int)} {q:List Int} (h:KM m ps) (hq:Mc q) (hn:Adk ps q<0):KM (El m (Jq q) (ps.length:Int)) (ps++ [q]):=by
 intro p hp
 rw [Aog]
 unfold El
 by_cases e:p=q
 ·subst e
  rw [if_pos rfl,if_pos hn,if_pos rfl,if_neg (by omega)]
 ·rw [if_neg (fun hk=>e (key_inj hp hq hk)),h p hp]
  have e': ¬q=p:=fun h=>e h.symm
  rw [if_neg e']
  by_cases hpn:Adk ps p<0
  ·rw [if_pos hpn,if_pos hpn,if_pos (by decide)]
  ·rw [if_neg hpn,if_neg hpn,if_neg hpn]
end Go.Proofs.Ytebabhocakedaaa

namespace Go.Proofs.Ytebabhocakedaaa
open Go.RowKit
noncomputable abbrev Lh:Spec:=mkS (.pair Cu .unit) tL false true (fun x=>List.length x.1.2.2.1≤8) (fun x=>Ba (List.length x.1.2.2.1))
theorem Asz (p:Int×ByteArray×List (List Int)×Unit) (P:List Int→Prop):((0:Nat)=(0:Nat)∧
 (0:Nat)=([]:List Int).length∧
  Ch
   (fun (v2:Int×Int×ByteArray×List (List Int)×List Int×PUnit) (k3:Int×Int×ByteArray×List (List Int)×List Int×PUnit→Prop)=>
    Br (decide (v2.1≤(↑v2.2.2.2.1.length:Int)))
     ((0:Nat)=(0:Nat)∧
      v2.2.2.2.2.1.length=v2.2.2.2.2.1.length∧
       v2.2.2.2.2.1.length+(List.take (2:Nat) (List.drop (0:Nat) [v2.1,IntKind.i64.wrap ((0:Int)-v2.1)])).length≤As∧
        (0:Nat)=(0:Nat)∧
         (v2.2.2.2.2.1++List.take (2:Nat) (List.drop (0:Nat) [v2.1,IntKind.i64.wrap ((0:Int)-v2.1)])).length=
           (v2.2.2.2.2.1++List.take (2:Nat) (List.drop (0:Nat) [v2.1,IntKind.i64.wrap ((0:Int)-v2.1)])).length∧
          k3
           (IntKind.i64.wrap (v2.1+(1:Int)),v2.2.1,v2.2.2.1,v2.2.2.2.1,
            v2.2.2.2.2.1++List.take (2:Nat) (List.drop (0:Nat) [v2.1,IntKind.i64.wrap ((0:Int)-v2.1)]),()))
     (P (List.take v2.2.2.2.2.1.length (List.drop (0:Nat) v2.2.2.2.2.1))))
   ((1:Int),p.1,p.2.1,p.2.2.1,[],PUnit.unit))=fnW tab (look []) Lh Try.f142 (p,()) P:=by kernel_rfl
theorem Arz (p:PP) (h:List.length p.2.2.1≤8):fnW tab (look []) Lh Try.f142 (p,()) (fun (z:List Int)=>z=Ba (List.length p.2.2.1)):=by
 refine Eq.mp (Asz p _) ⟨rfl,rfl,?_⟩
 refine Ch.mk (fun v=> ∃j:Nat,j≤List.length p.2.2.1∧v=((j:Int)+1,p.1,p.2.1,p.2.2.1,Ba j,())) (fun v=>List.length p.2.2.1+1-v.1.toNat) ⟨0,Nat.zero_le _,rfl⟩ ?_
 rintro _ ⟨j,hj,rfl⟩
 dsimp only
 refine Br.dec (fun hl=>?_) fun hl=>?_
 ·refine ⟨rfl,rfl,?_,rfl,rfl,⟨j+1,by omega,?_⟩,?_⟩
  ·show (Ba j).length+2≤4294967296
   rw [Kh];omega
  ·rw [Qr,Cb (n:=(j:Int)+1+1) (by omega) (by omega),Cb (n:=0-((j:Int)+1)) (by omega) (by omega),Int.zero_sub]
   rfl
  ·rw [Cb (by omega) (by omega)];omega
 ·have:j=List.length p.2.2.1:=by omega
  subst this
  rw [Cx]
theorem Agv:Sound Try.prog 142 Lh:=
 Sound.mkS Bw Ax mixed Try.func142 (by kernel_rfl) (by kernel_rfl) fun x h=>Arz x.1 h
theorem Baf {p:PP} {room:Int} (hr:roomy room) (h: ¬Yg p room<0):(Nm p.2.2.1:Int)≤room-Yg p room∧roomy (Yg p room):=by
 unfold Yg at h⊢
 split at h
 ·exact absurd (show (-1:Int)<0 by decide) h
 ·rename_i h1
  rw [if_neg h1]
  split at h
  ·exact absurd (show (-1:Int)<0 by decide) h
  ·rename_i h2
   rw [if_neg h2]
   have e2:=Bae h2
   obtain ⟨r1,r2⟩:=hr
   unfold roomy
   omega
end Go.Proofs.Ytebabhocakedaaa

namespace Go.Proofs.Ytebabhocakedaaa
open Go.RowKit
def Anx (v:Int):List Int→Nat
 | []=>0
 |x::r=>if x>v then Anx v r+1 else 0
def Bb9 (v:Int) (t:List Int):Option (List Int):=if Anx v t=0 then none else some (Ga t ((Anx v t-1:Nat):Int)::(t.set (Anx v t-1) v).reverse)
def Yf:List Int→Option (List Int)
 | []=>none
 |v::t=>match Yf t with
  |some t'=>some (v::t')
  |none=>Bb9 v t
theorem Arm {s s':List Int} (h:Yf s=some s'): ∀pre:List Int,Yf (pre++s)=some (pre++s')
 | []=>h
 |v::p=>by rw [List.cons_append,Yf,Arm h p];rfl
theorem Bbl {α:Type} (pre:List α) (v a:α) (t:List α):(pre++v::t).set pre.length a=pre++a::t:=by
 rw [List.set_append,if_neg (by omega)];simp
inductive Run:List Int→List (List Int)→List Int→Prop where
 |one (a:List Int):Run a [a] a
 |more {a c b:List Int} {L:List (List Int)} :Yf a=some c→Run c L b→Run a (a::L) b
theorem Run.cons {a b:List Int} {L:List (List Int)} (h:Run a L b) (v:Int):Run (v::a) (L.map (v:: ·)) (v::b):=by
 induction h with
 |one a=>exact .one _
 |more h3 _ ih=>exact .more (Arm h3 [v]) ih
theorem Run.head {a b:List Int} {L:List (List Int)} (h:Run a L b): ∃M,L=a::M:=by
 cases h with
 |one=>exact ⟨_,rfl⟩
 |more _ _=>exact ⟨_,rfl⟩
theorem Run.at {a b:List Int} {L:List (List Int)} (h:Run a L b): ∀j (hj:j<L.length),(∀h2:j+1<L.length,Yf L[j]=some L[j+1])∧(j+1=L.length→L[j]=b):=by
 induction h with
 |one a=>
  intro j hj
  simp only [List.length_singleton] at hj
  have:j=0:=by omega
  subst this
  exact ⟨fun h2=>by simp at h2,fun _=>rfl⟩
 |more h3 h4 ih=>
  intro j hj
  rcases j with _|j
  ·obtain ⟨M,hM⟩:=h4.head
   refine ⟨fun h2=>?_,fun h2=>?_⟩
   ·simp only [List.getElem_cons_zero,List.getElem_cons_succ]
    subst hM
    exact h3
   ·subst hM;simp at h2
  ·have:=ih j (by simpa using hj)
   refine ⟨fun h2=>?_,fun h2=>?_⟩
   ·simp only [List.getElem_cons_succ]
    exact this.1 (by simpa using h2)
   ·simp only [List.getElem_cons_succ]
    exact this.2 (by simpa using h2)
theorem Run.distinct {a b:List Int} {L:List (List Int)} (h:Run a L b) (hb:Yf b=none): ∀k i j (hi:i<L.length) (hj:j<L.length),L.length-j=k→i<j→L[i]≠L[j]:=by
 intro k
 induction k with
 |zero=>intro i j hi hj hk;omega
 |succ k ih=>
  intro i j hi hj hk hij he
  by_cases e:j+1<L.length
  ·have h1:=(h.at i hi).1 (by omega)
   have h2:=(h.at j hj).1 e
   rw [he,h2] at h1
   exact ih (i+1) (j+1) (by omega) e (by omega) (by omega) (Option.some.inj h1).symm
  ·have h1:=(h.at i hi).1 (by omega)
   have h2:=(h.at j hj).2 (by omega)
   rw [he,h2,hb] at h1
   cases h1
theorem Run.idx {a b:List Int} {L:List (List Int)} (h:Run a L b) (hb:Yf b=none) {j:Nat} (hj:j<L.length):L.idxOf L[j]=j:=by
 have h1:L.idxOf L[j]<L.length:=List.idxOf_lt_length_of_mem (List.getElem_mem _)
 have h2:L[L.idxOf L[j]]=L[j]:=List.getElem_idxOf h1
 rcases Nat.lt_trichotomy (L.idxOf L[j]) j with h3|h3|h3
 ·exact absurd h2 (h.distinct hb _ _ _ h1 hj rfl h3)
 ·exact h3
 ·exact absurd h2.symm (h.distinct hb _ _ _ hj h1 rfl h3)
end Go.Proofs.Ytebabhocakedaaa

namespace Go.Proofs.Ytebabhocakedaaa
open Go.RowKit
def Bs:List Int→List Int→Int
 | [],[]=>0
 | [],_::_=> -1
 |_::_,[]=>1
 |x::a,y::b=>if x<y then-1 else if x>y then 1 else Bs a b
def Ux (a b:List Int):Bool:=decide (Bs a b<0)
noncomputable abbrev Mz:Spec:=mkS (.pair tL (.pair tL .unit)) .bool false true (fun x=>short x.1∧List.length x.1=List.length x.2.1) (fun x=>Ux x.1 x.2.1)
theorem Avr (a b:List Int) (P:Bool→Prop):(Ch
 (fun (v3:Int×PUnit) (k4:Int×PUnit→Prop)=>
  Br (decide (v3.1<(↑a.length:Int)))
   (∃(y5:Int),
    idx a v3.1=some y5∧
     ∃(y6:Int),
      idx b v3.1=some y6∧
       Br (y5 !=y6) (∃(y7:Int),idx a v3.1=some y7∧ ∃(y8:Int),idx b v3.1=some y8∧P (decide (y7<y8))) (k4 (IntKind.i64.wrap (v3.1+(1:Int)),())))
   (P false))
 ((0:Int),PUnit.unit))=fnW tab (look []) Mz Try.f135 (a,b,()) P:=by kernel_rfl
theorem Auo (a b:List Int) (h:short a∧a.length=b.length):fnW tab (look []) Mz Try.f135 (a,b,()) (fun (z:Bool)=>z=Ux a b):=by
 obtain ⟨ha,hb⟩:=h
 unfold short at ha
 refine Eq.mp (Avr a b _) ?_
 refine Az a.length (fun v=>v.1) (fun j _=>Bs (a.drop j) (b.drop j)=Bs a b) rfl (by simp) ?_
 rintro j ⟨i,⟨⟩⟩ K hj hi hR2 hK
 dsimp only at hi⊢
 subst hi
 refine Br.dec (fun hl=>?_) fun hl=>?_
 ·have hl:j<a.length:=by omega
  have hlb:j<b.length:=by omega
  rw [List.drop_eq_getElem_cons hl,List.drop_eq_getElem_cons hlb] at hR2
  simp only [Bs] at hR2
  refine ⟨_,Bc hl,_,Bc hlb,⟨fun hne=>?_,fun hne=>?_⟩⟩
  ·refine ⟨_,Bc hl,_,Bc hlb,?_⟩
   have hne:a[j]≠b[j]:=by simpa using hne
   unfold Ux
   rw [←hR2]
   by_cases h1:a[j]<b[j]
   ·rw [if_pos h1];simp [h1]
   ·rw [if_neg h1,if_pos (by omega)];simp [h1]
  ·have hne:a[j]=b[j]:=by simpa using hne
   rw [if_neg (by omega),if_neg (by omega)] at hR2
   rw [At (by omega)]
   exact hK hl _ rfl hR2
 ·have:j=a.length:=by omega
  subst this
  rw [List.drop_length,List.drop_eq_nil_of_le (by omega)] at hR2
  unfold Ux
  rw [←hR2]
  rfl
theorem Aji:Sound Try.prog 135 Mz:=
 Sound.mkS Bw Ax mixed Try.func135 (by kernel_rfl) (by kernel_rfl) fun x h=>Auo x.1 x.2.1 h
end Go.Proofs.Ytebabhocakedaaa

namespace Go.Proofs.Ytebabhocakedaaa
open Go.RowKit
abbrev SS:Type:=List (List Int)×List Int×List Int×Bool×Unit
abbrev rLS:CK:= .row tL 25
abbrev rN:CK:= .row tI 3
def Cg (L:List (List Int)) (srt:List Int) (s:List Int):Nat:=(srt.takeWhile fun i=>Ux (L.getD i.toNat []) s).length
structure Cm (m:Nat) (L:List (List Int)) (srt:List Int):Prop where
 few:L.length≤3000
 len: ∀x∈L,x.length=m
 short:m≤20
 perm:srt.Perm (upto L.length)
 sorted:srt.Pairwise fun i j=>Ux (L.getD i.toNat []) (L.getD j.toNat [])=true
def Aap (L:List (List Int)) (s:List Int):Int:=if s∈L then (L.idxOf s:Int) else-1
def Md (srt:List Int) (k:Nat) (x:Int):List Int:=srt.take k++x::srt.drop k
noncomputable abbrev Vp:Spec:=mkS (.pair Vu (.pair tL .unit)) tI false true (fun x=>Cm (List.length x.2.1) x.1.1 x.1.2.2.1) (fun x=>(Cg x.1.1 x.1.2.2.1 x.2.1:Int))
noncomputable abbrev Lw:Spec:=mkS (.pair Vu (.pair tL .unit)) tI false true (fun x=>Cm (List.length x.2.1) x.1.1 x.1.2.2.1) (fun x=>Aap x.1.1 x.2.1)
noncomputable abbrev Ac1:Bm:=mkM [some 4,none,none] [(false,rLS),(false,rL),(false,rN),(false, .dat .bool),(false, .dat tL),(false, .dat tI)] false [some 4] [rLS,rL,rN, .dat .bool]
 (fun x=>Cm (List.length x.2.2.2.2.1) x.1 x.2.2.1∧List.length x.2.1≤3000) (fun x=>((x.1++ [x.2.2.2.2.1],x.2.1++ [x.2.2.2.2.2.1],Md x.2.2.1 (Cg x.1 x.2.2.1 x.2.2.2.2.1) (List.length x.1),x.2.2.2.1,()),()))
def Qy (L:List (List Int)):List Int:=(List.range L.length).foldl (fun (S:List Int) (i:Nat)=>Md S (Cg (L.take i) S (L.getD i [])) (i:Int)) []
def Fm (g:List (List Int)) (x:List Int) (d:Int):List Int→List (List Int)→List Int→List (List Int)×List Int×Bool
 | [],L,D=>(L,D,true)
 |l::ls,L,D=>if Aa x (Af g l)∈L then Fm g x d ls L D else if L.length=3000 then (L,D,false) else Fm g x d ls (L++ [Aa x (Af g l)]) (D++ [d+1])
def Gy (g:List (List Int)) (ls:List Int):Nat→Nat→List (List Int)→List Int→List (List Int)×List Int×Bool
 |0,_,L,D=>(L,D,true)
 |f+1,k,L,D=>if k<L.length then (match Fm g (L.getD k []) (D.getD k 0) ls L D with
  |(L',D',true)=>Gy g ls f (k+1) L' D'
  |(L',D',false)=>(L',D',false)) else (L,D,true)
def Fc (g:List (List Int)) (s:List Int):List (List Int)×List Int×Bool:=Gy g (Ba g.length) 3001 0 [s] [0]
def Gp (g:List (List Int)) (s:List Int):SS:=((Fc g s).1,(Fc g s).2.1,Qy (Fc g s).1,(Fc g s).2.2,())
noncomputable abbrev Cp:Spec:=mkS (.pair Cu (.pair tL .unit)) Vu false false (fun x=>Bd x.1=true∧List.length x.2.1≤20∧ ∀y∈x.2.1,0≤y∧y<x.1.1) (fun x=>Gp x.1.2.2.1 x.2.1)
theorem Bda (f:List (List Int)×List Int×List Int×Bool×Unit) (s:List Int) (P:Int→Prop):(Ch
 (fun (v3:Int×Int×List (List Int)×List Int×List Int×Bool×PUnit) (k4:Int×Int×List (List Int)×List Int×List Int×Bool×PUnit→Prop)=>
  Br (decide (v3.1<v3.2.1))
   ((2:Int)≠(0:Int)∧
    ∃(y5:Int),
     idx v3.2.2.2.2.1 (IntKind.i64.wrap ((IntKind.i64.wrap (v3.1+v3.2.1)).tdiv (2:Int)))=some y5∧
      ∃(y6:List Int),
       idx v3.2.2.1 y5=some y6∧
        ∃(y7:Bool),
         Mz.fn (y6,s,())=some y7∧
          Br y7
           (k4
            (IntKind.i64.wrap (IntKind.i64.wrap ((IntKind.i64.wrap (v3.1+v3.2.1)).tdiv (2:Int))+(1:Int)),v3.2.1,v3.2.2.1,v3.2.2.2.1,v3.2.2.2.2.1,
             v3.2.2.2.2.2.1,()))
           (k4 (v3.1,IntKind.i64.wrap ((IntKind.i64.wrap (v3.1+v3.2.1)).tdiv (2:Int)),v3.2.2.1,v3.2.2.2.1,v3.2.2.2.2.1,v3.2.2.2.2.2.1,())))
   (P v3.1))
 ((0:Int),(↑f.2.2.1.length:Int),f.1,f.2.1,f.2.2.1,f.2.2.2.1,PUnit.unit))=fnW tab (look [(135,Mz)]) Vp Try.f119 (f,s,()) P:=by kernel_rfl
theorem Bau (f:List (List Int)×List Int×List Int×Bool×Unit) (s:List Int) (P:Int→Prop):(∃(y3:Int),
 Vp.fn ((f.1,f.2.1,f.2.2.1,f.2.2.2.1,()),s,())=some y3∧
  Br (decide (y3<(↑f.2.2.1.length:Int)))
   (∃(y4:Int),
    idx f.2.2.1 y3=some y4∧
     ∃(y5:List Int),idx f.1 y4=some y5∧ ∃(y6:Bool),Cr.fn (y5,s,())=some y6∧Br y6 (∃(y7:Int),idx f.2.2.1 y3=some y7∧P y7) (P (-1:Int)))
   (P (-1:Int)))=fnW tab (look [(119,Vp),(59,Cr)]) Lw Try.f69 (f,s,()) P:=by kernel_rfl
theorem Bd8 (L:List (List Int)) (D S:List Int) (b:Bool) (s:List Int) (d:Int) (P:((List (List Int)×List Int×List Int×Bool×Unit)×Unit)→Prop):(∃(y7:Int),
 Vp.fn ((List.take L.length (List.drop (0:Nat) L),List.take D.length (List.drop (0:Nat) D),List.take S.length (List.drop (0:Nat) S),b,()),s,())=some y7∧
  (0:Nat)=(0:Nat)∧
   S.length=S.length∧
    S.length+(List.take (1:Nat) (List.drop (0:Nat) [(0:Int)])).length≤As∧
     ((0:Int)≤IntKind.i64.wrap (y7+(1:Int))∧
       IntKind.i64.wrap (y7+(1:Int))≤(↑(S++List.take (1:Nat) (List.drop (0:Nat) [(0:Int)])).length:Int)∧
        (↑(S++List.take (1:Nat) (List.drop (0:Nat) [(0:Int)])).length:Int)≤(↑(S++List.take (1:Nat) (List.drop (0:Nat) [(0:Int)])).length:Int))∧
      ((0:Int)≤y7∧
        y7≤(↑(S++List.take (1:Nat) (List.drop (0:Nat) [(0:Int)])).length:Int)∧
         (↑(S++List.take (1:Nat) (List.drop (0:Nat) [(0:Int)])).length:Int)≤(↑(S++List.take (1:Nat) (List.drop (0:Nat) [(0:Int)])).length:Int))∧
       ((0:Int)≤y7∧y7<(↑(S++List.take (1:Nat) (List.drop (0:Nat) [(0:Int)])).length:Int))∧
        (0:Nat)+y7.toNat<
          (Bi (S++List.take (1:Nat) (List.drop (0:Nat) [(0:Int)])) ((0:Nat)+(IntKind.i64.wrap (y7+(1:Int))).toNat)
            (List.take ((↑(S++List.take (1:Nat) (List.drop (0:Nat) [(0:Int)])).length:Int).toNat-(IntKind.i64.wrap (y7+(1:Int))).toNat)
             (List.take ((↑(S++List.take (1:Nat) (List.drop (0:Nat) [(0:Int)])).length:Int).toNat-y7.toNat)
              (List.drop ((0:Nat)+y7.toNat) (S++List.take (1:Nat) (List.drop (0:Nat) [(0:Int)])))))).length∧
         (0:Nat)=(0:Nat)∧
          L.length=L.length∧
           L.length+(List.take (1:Nat) (List.drop (0:Nat) [s])).length≤As∧
            (0:Nat)=(0:Nat)∧
             D.length=D.length∧
              D.length+(List.take (1:Nat) (List.drop (0:Nat) [d])).length≤As∧
               P
                ((List.take (L++List.take (1:Nat) (List.drop (0:Nat) [s])).length (List.drop (0:Nat) (L++List.take (1:Nat) (List.drop (0:Nat) [s]))),
                  List.take (D++List.take (1:Nat) (List.drop (0:Nat) [d])).length (List.drop (0:Nat) (D++List.take (1:Nat) (List.drop (0:Nat) [d]))),
                  List.take (S++List.take (1:Nat) (List.drop (0:Nat) [(0:Int)])).length
                   (List.drop (0:Nat)
                    ((Bi (S++List.take (1:Nat) (List.drop (0:Nat) [(0:Int)])) ((0:Nat)+(IntKind.i64.wrap (y7+(1:Int))).toNat)
                       (List.take ((↑(S++List.take (1:Nat) (List.drop (0:Nat) [(0:Int)])).length:Int).toNat-(IntKind.i64.wrap (y7+(1:Int))).toNat)
                        (List.take ((↑(S++List.take (1:Nat) (List.drop (0:Nat) [(0:Int)])).length:Int).toNat-y7.toNat)
                         (List.drop ((0:Nat)+y7.toNat) (S++List.take (1:Nat) (List.drop (0:Nat) [(0:Int)])))))).set
                     ((0:Nat)+y7.toNat) (↑L.length:Int))),
                  b,()),
                 ()))=Aei Bbu (look [(119,Vp)]) Ac1 Try.f151 (L,D,S,b,s,d,()) P:=by kernel_rfl
theorem Bc1 (p:Int×ByteArray×List (List Int)×Unit) (s:List Int) (P:(List (List Int)×List Int×List Int×Bool×Unit)→Prop):(∃(y3:List Int),
 Mv.fn (s,())=some y3∧
  ∃(y4:(List (List Int)×List Int×List Int×Bool×PUnit)×PUnit),
   Ac1.fn ([],[],[],false,y3,(0:Int),())=some y4∧
    ∃(y5:List Int),
     Lh.fn ((p.1,p.2.1,p.2.2.1,()),())=some y5∧
      (0:Nat)=(0:Nat)∧
       (0:Nat)=([]:List Int).length∧
        (0:Nat)=(0:Nat)∧
         (0:Nat)=([]:List Int).length∧
          (0:Nat)=(0:Nat)∧
           (0:Nat)=([]:List Int).length∧
            (0:Nat)=(0:Nat)∧
             y4.1.1.length=y4.1.1.length∧
              (0:Nat)=(0:Nat)∧
               y4.1.2.1.length=y4.1.2.1.length∧
                (0:Nat)=(0:Nat)∧
                 y4.1.2.2.1.length=y4.1.2.2.1.length∧
                  Ch
                   (fun (v6:Int×Int×ByteArray×List (List Int)×Bool×Bool×List (List Int)×List Int×List Int×List (List Int)×List Int×List Int×PUnit)
                     (k7:Int×Int×ByteArray×List (List Int)×Bool×Bool×List (List Int)×List Int×List Int×List (List Int)×List Int×List Int×PUnit→Prop)=>
                    Br (decide (v6.1<(↑v6.2.2.2.2.2.2.2.2.2.1.length:Int)))
                     ((0:Nat)=(0:Nat)∧
                      v6.2.2.2.2.2.2.1.length=v6.2.2.2.2.2.2.1.length∧
                       (0:Nat)=(0:Nat)∧
                        v6.2.2.2.2.2.2.2.1.length=v6.2.2.2.2.2.2.2.1.length∧
                         (0:Nat)=(0:Nat)∧
                          v6.2.2.2.2.2.2.2.2.1.length=v6.2.2.2.2.2.2.2.2.1.length∧
                           (0:Nat)=(0:Nat)∧
                            v6.2.2.2.2.2.2.2.2.2.1.length=v6.2.2.2.2.2.2.2.2.2.1.length∧
                             (0:Nat)=(0:Nat)∧
                              v6.2.2.2.2.2.2.2.2.2.2.1.length=v6.2.2.2.2.2.2.2.2.2.2.1.length∧
                               (0:Nat)=(0:Nat)∧
                                v6.2.2.2.2.2.2.2.2.2.2.2.1.length=v6.2.2.2.2.2.2.2.2.2.2.2.1.length∧
                                 Ch
                                  (fun
                                    (v8:
                                     Int×
                                      Int×
                                       ByteArray×
                                        List (List Int)×Bool×Bool×List (List Int)×List Int×List Int×List (List Int)×List Int×List Int×PUnit)
                                    (k9:
                                     Int×
                                       Int×
                                        ByteArray×
                                         List (List Int)×
                                          Bool×Bool×List (List Int)×List Int×List Int×List (List Int)×List Int×List Int×PUnit→
                                      Prop)=>
                                   Br (decide (v8.1<(↑y5.length:Int)))
                                    (((0:Int)≤v6.1∧v6.1<(↑v8.2.2.2.2.2.2.2.2.2.1.length:Int))∧
                                     ∃(y10:List Int),
                                      v8.2.2.2.2.2.2.2.2.2.1[(0:Nat)+v6.1.toNat]?=some y10∧
                                       ∃(y11:Int),
                                        idx y5 v8.1=some y11∧
                                         ∃(y12:List Int),
                                          Tt.fn ((v8.2.1,v8.2.2.1,v8.2.2.2.1,()),y10,y11,())=some y12∧
                                           ∃(y13:Int),
                                            Lw.fn
                                               ((List.take v8.2.2.2.2.2.2.2.2.2.1.length
                                                  (List.drop ((0:Nat)) v8.2.2.2.2.2.2.2.2.2.1),
                                                 List.take v8.2.2.2.2.2.2.2.2.2.2.1.length
                                                  (List.drop ((0:Nat)) v8.2.2.2.2.2.2.2.2.2.2.1),
                                                 List.take v8.2.2.2.2.2.2.2.2.2.2.2.1.length
                                                  (List.drop ((0:Nat)) v8.2.2.2.2.2.2.2.2.2.2.2.1),
                                                 v8.2.2.2.2.2.1,()),
                                                y12,())=
                                              some y13∧
                                             Br (decide (y13≥(0:Int)))
                                              ((0:Nat)=(0:Nat)∧
                                               v8.2.2.2.2.2.2.1.length=v8.2.2.2.2.2.2.1.length∧
                                                (0:Nat)=(0:Nat)∧
                                                 v8.2.2.2.2.2.2.2.1.length=v8.2.2.2.2.2.2.2.1.length∧
                                                  (0:Nat)=(0:Nat)∧
                                                   v8.2.2.2.2.2.2.2.2.1.length=v8.2.2.2.2.2.2.2.2.1.length∧
                                                    (0:Nat)=(0:Nat)∧
                                                     v8.2.2.2.2.2.2.2.2.2.1.length=v8.2.2.2.2.2.2.2.2.2.1.length∧
                                                      (0:Nat)=(0:Nat)∧
                                                       v8.2.2.2.2.2.2.2.2.2.2.1.length=
                                                         v8.2.2.2.2.2.2.2.2.2.2.1.length∧
                                                        (0:Nat)=(0:Nat)∧
                                                         v8.2.2.2.2.2.2.2.2.2.2.2.1.length=
                                                           v8.2.2.2.2.2.2.2.2.2.2.2.1.length∧
                                                          k9
                                                           (IntKind.i64.wrap (v8.1+(1:Int)),v8.2.1,v8.2.2.1,v8.2.2.2.1,
                                                            v8.2.2.2.2.1,v8.2.2.2.2.2.1,v8.2.2.2.2.2.2.1,
                                                            v8.2.2.2.2.2.2.2.1,v8.2.2.2.2.2.2.2.2.1,
                                                            v8.2.2.2.2.2.2.2.2.2.1,v8.2.2.2.2.2.2.2.2.2.2.1,
                                                            v8.2.2.2.2.2.2.2.2.2.2.2.1,()))
                                              (Br ((↑v8.2.2.2.2.2.2.2.2.2.1.length:Int)==(3000:Int))
                                               (P
                                                (List.take v8.2.2.2.2.2.2.2.2.2.1.length
                                                  (List.drop ((0:Nat)) v8.2.2.2.2.2.2.2.2.2.1),
                                                 List.take v8.2.2.2.2.2.2.2.2.2.2.1.length
                                                  (List.drop ((0:Nat)) v8.2.2.2.2.2.2.2.2.2.2.1),
                                                 List.take v8.2.2.2.2.2.2.2.2.2.2.2.1.length
                                                  (List.drop ((0:Nat)) v8.2.2.2.2.2.2.2.2.2.2.2.1),
                                                 v8.2.2.2.2.2.1,()))
                                               (((0:Int)≤v6.1∧v6.1<(↑v8.2.2.2.2.2.2.2.2.2.2.1.length:Int))∧
                                                ∃(y14:Int),
                                                 v8.2.2.2.2.2.2.2.2.2.2.1[(0:Nat)+v6.1.toNat]?=some y14∧
                                                  (0:Nat)=(0:Nat)∧
                                                   v8.2.2.2.2.2.2.2.2.2.1.length=v8.2.2.2.2.2.2.2.2.2.1.length∧
                                                    (0:Nat)=(0:Nat)∧
                                                     v8.2.2.2.2.2.2.2.2.2.2.1.length=v8.2.2.2.2.2.2.2.2.2.2.1.length∧
                                                      (0:Nat)=(0:Nat)∧
                                                       v8.2.2.2.2.2.2.2.2.2.2.2.1.length=
                                                         v8.2.2.2.2.2.2.2.2.2.2.2.1.length∧
                                                        ∃(y15:(List (List Int)×List Int×List Int×Bool×PUnit)×PUnit),
                                                         Ac1.fn
                                                            (v8.2.2.2.2.2.2.2.2.2.1,v8.2.2.2.2.2.2.2.2.2.2.1,
                                                             v8.2.2.2.2.2.2.2.2.2.2.2.1,v8.2.2.2.2.2.1,y12,
                                                             IntKind.i64.wrap (y14+(1:Int)),())=
                                                           some y15∧
                                                          (0:Nat)=(0:Nat)∧
                                                           v8.2.2.2.2.2.2.1.length=v8.2.2.2.2.2.2.1.length∧
                                                            (0:Nat)=(0:Nat)∧
                                                             v8.2.2.2.2.2.2.2.1.length=v8.2.2.2.2.2.2.2.1.length∧
                                                              (0:Nat)=(0:Nat)∧
                                                               v8.2.2.2.2.2.2.2.2.1.length=
                                                                 v8.2.2.2.2.2.2.2.2.1.length∧
                                                                (0:Nat)=(0:Nat)∧
                                                                 y15.1.1.length=y15.1.1.length∧
                                                                  (0:Nat)=(0:Nat)∧
                                                                   y15.1.2.1.length=y15.1.2.1.length∧
                                                                    (0:Nat)=(0:Nat)∧
                                                                     y15.1.2.2.1.length=y15.1.2.2.1.length∧
                                                                      k9
                                                                       (IntKind.i64.wrap (v8.1+(1:Int)),v8.2.1,
                                                                        v8.2.2.1,v8.2.2.2.1,v8.2.2.2.2.1,
                                                                        y15.1.2.2.2.1,v8.2.2.2.2.2.2.1,
                                                                        v8.2.2.2.2.2.2.2.1,
                                                                        v8.2.2.2.2.2.2.2.2.1,y15.1.1,
                                                                        y15.1.2.1,y15.1.2.2.1,()))))
                                    ((0:Nat)=(0:Nat)∧
                                     v8.2.2.2.2.2.2.1.length=v8.2.2.2.2.2.2.1.length∧
                                      (0:Nat)=(0:Nat)∧
                                       v8.2.2.2.2.2.2.2.1.length=v8.2.2.2.2.2.2.2.1.length∧
                                        (0:Nat)=(0:Nat)∧
                                         v8.2.2.2.2.2.2.2.2.1.length=v8.2.2.2.2.2.2.2.2.1.length∧
                                          (0:Nat)=(0:Nat)∧
                                           v8.2.2.2.2.2.2.2.2.2.1.length=v8.2.2.2.2.2.2.2.2.2.1.length∧
                                            (0:Nat)=(0:Nat)∧
                                             v8.2.2.2.2.2.2.2.2.2.2.1.length=v8.2.2.2.2.2.2.2.2.2.2.1.length∧
                                              (0:Nat)=(0:Nat)∧
                                               v8.2.2.2.2.2.2.2.2.2.2.2.1.length=v8.2.2.2.2.2.2.2.2.2.2.2.1.length∧
                                                k7
                                                 (IntKind.i64.wrap (v6.1+(1:Int)),v8.2.1,v8.2.2.1,v8.2.2.2.1,v8.2.2.2.2.1,
                                                  v8.2.2.2.2.2.1,v8.2.2.2.2.2.2.1,v8.2.2.2.2.2.2.2.1,
                                                  v8.2.2.2.2.2.2.2.2.1,v8.2.2.2.2.2.2.2.2.2.1,
                                                  v8.2.2.2.2.2.2.2.2.2.2.1,v8.2.2.2.2.2.2.2.2.2.2.2.1,())))
                                  ((0:Int),v6.2.1,v6.2.2.1,v6.2.2.2.1,v6.2.2.2.2.1,v6.2.2.2.2.2.1,v6.2.2.2.2.2.2.1,
                                   v6.2.2.2.2.2.2.2.1,v6.2.2.2.2.2.2.2.2.1,v6.2.2.2.2.2.2.2.2.2.1,
                                   v6.2.2.2.2.2.2.2.2.2.2.1,v6.2.2.2.2.2.2.2.2.2.2.2.1,PUnit.unit))
                     (P
                      (List.take v6.2.2.2.2.2.2.2.2.2.1.length (List.drop ((0:Nat)) v6.2.2.2.2.2.2.2.2.2.1),
                       List.take v6.2.2.2.2.2.2.2.2.2.2.1.length (List.drop ((0:Nat)) v6.2.2.2.2.2.2.2.2.2.2.1),
                       List.take v6.2.2.2.2.2.2.2.2.2.2.2.1.length (List.drop ((0:Nat)) v6.2.2.2.2.2.2.2.2.2.2.2.1),true,())))
                   ((0:Int),p.1,p.2.1,p.2.2.1,false,y4.1.2.2.2.1,[],[],[],y4.1.1,y4.1.2.1,y4.1.2.2.1,PUnit.unit))=fnW Bd3 (look [(120,Mv),(151,Ac1),(142,Lh),(129,Tt),(69,Lw)]) Cp Try.f105 (p,s,()) P:=by kernel_rfl
theorem Aht: ∀ {a b:List Int},Bs a b=0↔a=b
 | [],[]=>by simp [Bs]
 | [],_::_=>by simp [Bs]
 |_::_,[]=>by simp [Bs]
 |x::a,y::b=>by
  simp only [Bs,List.cons.injEq]
  by_cases h1:x<y
  ·rw [if_pos h1]
   exact ⟨fun h=>by omega,fun h=>by omega⟩
  ·rw [if_neg h1]
   by_cases h2:x>y
   ·rw [if_pos h2]
    exact ⟨fun h=>by omega,fun h=>by omega⟩
   ·rw [if_neg h2,Aht]
    exact ⟨fun h=>⟨by omega,h⟩,fun h=>h.2⟩
theorem Aw2: ∀(a b:List Int),Bs b a= -Bs a b
 | [],[]=>by simp [Bs]
 | [],_::_=>by simp [Bs]
 |_::_,[]=>by simp [Bs]
 |x::a,y::b=>by
  simp only [Bs]
  rcases Int.lt_trichotomy x y with h1|h1|h1
  ·simp [h1,show ¬y<x by omega]
  ·subst h1
   simp [Aw2 a b]
  ·simp [h1,show ¬x<y by omega]
theorem Alg: ∀ {a b c:List Int},Bs a b<0→Bs b c<0→Bs a c<0
 | [],[],_,h,_=>by simp [Bs] at h
 |_::_,[],_,h,_=>by simp [Bs] at h
 |_,_::_,[],_,h=>by simp [Bs] at h
 | [],_::_,_::_,_,_=>by simp [Bs]
 |x::a,y::b,z::c,h1,h2=>by
  simp only [Bs] at h1 h2⊢
  by_cases e1:x<y
  ·by_cases e2:y<z
   ·rw [if_pos (by omega)];omega
   ·rw [if_neg e2] at h2
    by_cases e3:y>z
    ·rw [if_pos e3] at h2;omega
    ·rw [if_pos (by omega)];omega
  ·rw [if_neg e1] at h1
   by_cases e2:x>y
   ·rw [if_pos e2] at h1;omega
   ·rw [if_neg e2] at h1
    by_cases e3:y<z
    ·rw [if_pos (by omega)];omega
    ·rw [if_neg e3] at h2
     by_cases e4:y>z
     ·rw [if_pos e4] at h2;omega
     ·rw [if_neg e4] at h2
      rw [if_neg (by omega),if_neg (by omega)]
      exact Alg h1 h2
theorem lt_iff {a b:List Int} :Ux a b=true↔Bs a b<0:=decide_eq_true_iff
theorem Ax9 {a b c:List Int} (h1:Ux a b=true) (h2:Ux b c=true):Ux a c=true:=lt_iff.2 (Alg (lt_iff.1 h1) (lt_iff.1 h2))
theorem Abu (a:List Int):Ux a a=false:=by
 have:Bs a a=0:=Aht.2 rfl
 unfold Ux;rw [this];rfl
theorem Azm {a b:List Int} (h:Ux a b=false) (hne:a≠b):Ux b a=true:=by
 rw [lt_iff,Aw2 a b]
 have h1: ¬Bs a b<0:=fun h'=>by rw [lt_iff.2 h'] at h;cases h
 have h2:Bs a b≠0:=fun h'=>hne (Aht.1 h')
 omega
theorem Aaz {α:Type} (q:α→Bool): ∀(l:List α),l.Pairwise (fun i j=>q j=true→q i=true)→ ∀k (hk:k<l.length),k<(l.takeWhile q).length↔q l[k]=true
 | [],_,k,hk=>by simp at hk
 |a::l,h,k,hk=>by
  obtain ⟨h1,h2⟩:=List.pairwise_cons.1 h
  by_cases ha:q a=true
  ·rw [List.takeWhile_cons_of_pos ha]
   rcases k with _|k
   ·simpa using ha
   ·simp only [List.length_cons,List.getElem_cons_succ,Nat.add_lt_add_iff_right]
    exact Aaz q l h2 k (by simpa using hk)
  ·rw [List.takeWhile_cons_of_neg ha]
   simp only [List.length_nil,Nat.not_lt_zero,false_iff]
   rcases k with _|k
   ·exact ha
   ·simp only [List.getElem_cons_succ]
    exact fun hq=>ha (h1 _ (List.getElem_mem _) hq)
theorem Cm.Aig {m:Nat} {L:List (List Int)} {srt:List Int} (h:Cm m L srt):srt.length=L.length:=by rw [h.perm.length_eq,Ra]
theorem Cm.idx {m:Nat} {L:List (List Int)} {srt:List Int} (h:Cm m L srt) {k:Nat} (hk:k<srt.length):0≤srt[k]∧srt[k]<L.length:=Ih.1 (h.perm.mem_iff.1 (List.getElem_mem hk))
theorem Cm.Tw {m:Nat} {L:List (List Int)} {srt:List Int} (h:Cm m L srt) (s:List Int) {k:Nat} (hk:k<srt.length):k<Cg L srt s↔Ux (L.getD srt[k].toNat []) s=true:=
 Aaz _ srt (h.sorted.imp fun hij hj=>Ax9 hij hj) k hk
theorem Awj (L:List (List Int)) (srt s:List Int):Cg L srt s≤srt.length:=(List.takeWhile_sublist _).length_le
theorem Cm.inj {m:Nat} {L:List (List Int)} {srt:List Int} (h:Cm m L srt) {i j:Nat} (hi:i<L.length) (hj:j<L.length) (e:L[i]=L[j]):i=j:=by
 have mem: ∀i,i<L.length→(i:Int)∈srt:=fun i hi=>h.perm.mem_iff.2 (Ih.2 ⟨by omega,by omega⟩)
 obtain ⟨p,hp,ep⟩:=List.mem_iff_getElem.1 (mem i hi)
 obtain ⟨q,hq,eq⟩:=List.mem_iff_getElem.1 (mem j hj)
 have get: ∀i (hi:i<L.length),L.getD ((i:Int)).toNat []=L[i]:=fun i hi=>by rw [Int.toNat_natCast,List.getD_eq_getElem?_getD,List.getElem?_eq_getElem hi];rfl
 rcases Nat.lt_trichotomy p q with h1|h1|h1
 ·have:=List.pairwise_iff_getElem.1 h.sorted p q hp hq h1
  rw [ep,eq,get i hi,get j hj,e,Abu] at this
  cases this
 ·subst h1
  rw [ep] at eq
  omega
 ·have:=List.pairwise_iff_getElem.1 h.sorted q p hq hp h1
  rw [ep,eq,get i hi,get j hj,e,Abu] at this
  cases this
theorem Lm {L:List (List Int)} {k:Nat} (h:k<L.length):L.getD k []=L[k]:=by rw [List.getD_eq_getElem?_getD,List.getElem?_eq_getElem h];rfl
theorem Cm.An6 {m:Nat} {L:List (List Int)} {srt:List Int} (h:Cm m L srt) {s:List Int} :
  (∃hk:Cg L srt s<srt.length,L.getD srt[Cg L srt s].toNat []=s∧Aap L s=srt[Cg L srt s])∨(Aap L s= -1∧ ∀hk:Cg L srt s<srt.length,L.getD srt[Cg L srt s].toNat []≠s):=by
 by_cases hm:s∈L
 ·left
  obtain ⟨j,hj,rfl⟩:=List.mem_iff_getElem.1 hm
  obtain ⟨p,hp,ep⟩:=List.mem_iff_getElem.1 (h.perm.mem_iff.2 (Ih.2 ⟨by omega,by omega⟩):(j:Int)∈srt)
  have gj:L.getD srt[p].toNat []=L[j]:=by rw [ep,Int.toNat_natCast,Lm hj]
  have hs:Cg L srt L[j]=p:=by
   have h1: ¬p<Cg L srt L[j]:=fun h1=>by
    have:=(h.Tw L[j] hp).1 h1
    rw [gj,Abu] at this;cases this
   have h2: ¬Cg L srt L[j]<p:=fun h2=>by
    have h3:=(h.Tw L[j] (k:=Cg L srt L[j]) (by omega)).2 (by
     have:=List.pairwise_iff_getElem.1 h.sorted (Cg L srt L[j]) p (by omega) hp h2
     rw [gj] at this;exact this)
    omega
   omega
  have hx:L.idxOf L[j]=j:=by
   have h1:L.idxOf L[j]<L.length:=List.idxOf_lt_length_of_mem hm
   exact h.inj h1 hj (List.getElem_idxOf h1)
  refine ⟨by omega,?_,?_⟩
  ·simp only [hs];exact gj
  ·unfold Aap
   rw [if_pos hm,hx]
   simp only [hs];exact ep.symm
 ·right
  refine ⟨by unfold Aap;rw [if_neg hm],fun hk e=>hm ?_⟩
  have hi:=h.idx hk
  rw [Lm (by omega)] at e
  rw [←e]
  exact List.getElem_mem _
theorem Azc (srt:List Int) (k:Nat) (x:Int):(Md srt k x).Perm (x::srt):=by
 unfold Md
 refine List.perm_middle.trans (List.Perm.cons x ?_)
 rw [List.take_append_drop]
theorem Cm.add {m:Nat} {L:List (List Int)} {srt s:List Int} (h:Cm m L srt) (hn:s∉L) (hl:s.length=m) (hr:L.length<3000):Cm m (L++ [s]) (Md srt (Cg L srt s) L.length):=by
 have get1: ∀i∈srt,(L++ [s]).getD i.toNat []=L.getD i.toNat []:=fun i hi=>by
  have:=Ih.1 (h.perm.mem_iff.1 hi)
  rw [List.getD_eq_getElem?_getD,List.getD_eq_getElem?_getD,List.getElem?_append_left (by omega)]
 have get2:(L++ [s]).getD ((L.length:Int)).toNat []=s:=by
  rw [Int.toNat_natCast,List.getD_eq_getElem?_getD,List.getElem?_append_right (by omega),Nat.sub_self];rfl
 refine ⟨by rw [List.length_append,List.length_singleton];omega,fun x hx=>?_,h.short,?_,?_⟩
 ·rcases List.mem_append.1 hx with hx|hx
  ·exact h.len x hx
  ·rw [List.mem_singleton.1 hx];exact hl
 ·refine (Azc _ _ _).trans ?_
  rw [List.length_append,List.length_singleton,Ua]
  exact (List.Perm.cons _ h.perm).trans (List.perm_append_singleton _ _).symm
 ·unfold Md
  have hs:=h.sorted
  rw [←List.take_append_drop (Cg L srt s) srt] at hs
  obtain ⟨s1,s2,s3⟩:=List.pairwise_append.1 hs
  have mt: ∀i∈srt.take (Cg L srt s),i∈srt∧Ux (L.getD i.toNat []) s=true:=fun i hi=>by
   obtain ⟨k,hk,rfl⟩:=List.mem_iff_getElem.1 hi
   have hk2:k<Cg L srt s:=by rw [List.length_take] at hk;omega
   have hk3:k<srt.length:=by rw [List.length_take] at hk;omega
   rw [List.getElem_take]
   exact ⟨List.getElem_mem _,(h.Tw s hk3).1 hk2⟩
  have md: ∀i∈srt.drop (Cg L srt s),i∈srt∧Ux s (L.getD i.toNat [])=true:=fun i hi=>by
   obtain ⟨k,hk,rfl⟩:=List.mem_iff_getElem.1 hi
   rw [List.length_drop] at hk
   have hk3:Cg L srt s+k<srt.length:=by omega
   rw [List.getElem_drop]
   refine ⟨List.getElem_mem _,Azm ?_ fun e=>hn ?_⟩
   ·exact Bool.eq_false_iff.2 fun hh=>by
     have:=(h.Tw s hk3).2 hh
     omega
   ·have hi:=h.idx hk3
    rw [Lm (by omega)] at e
    rw [←e];exact List.getElem_mem _
  refine List.pairwise_append.2 ⟨s1.imp_of_mem fun {a b} ha hb hab=>?_,List.pairwise_cons.2 ⟨fun b hb=>?_,s2.imp_of_mem fun {a b} ha hb hab=>?_⟩,fun a ha b hb=>?_⟩
  ·rw [get1 a (mt a ha).1,get1 b (mt b hb).1];exact hab
  ·rw [get2,get1 b (md b hb).1];exact (md b hb).2
  ·rw [get1 a (md a ha).1,get1 b (md b hb).1];exact hab
  ·rcases List.mem_cons.1 hb with rfl|hb
   ·rw [get2,get1 a (mt a ha).1];exact (mt a ha).2
   ·rw [get1 a (mt a ha).1,get1 b (md b hb).1];exact s3 a ha b hb
theorem Vr (L:List (List Int)) (s:List Int):Qy (L++ [s])=Md (Qy L) (Cg L (Qy L) s) L.length:=by
 unfold Qy
 rw [List.length_append,List.length_singleton,List.range_succ,List.foldl_append]
 have e: ∀(is:List Nat) (S:List Int),(∀i∈is,i<L.length)→is.foldl (fun (S:List Int) (i:Nat)=>Md S (Cg ((L++ [s]).take i) S ((L++ [s]).getD i [])) (i:Int)) S=is.foldl (fun (S:List Int) (i:Nat)=>Md S (Cg (L.take i) S (L.getD i [])) (i:Int)) S:=by
  intro is
  induction is with
  |nil=>intro S _;rfl
  |cons i is ih=>
   intro S h
   have hi:=h i (by simp)
   rw [List.foldl_cons,List.foldl_cons,ih _ fun j hj=>h j (List.mem_cons_of_mem _ hj)]
   congr 2
   rw [List.take_append_of_le_length (by omega),List.getD_eq_getElem?_getD,List.getElem?_append_left hi,←List.getD_eq_getElem?_getD]
 rw [e _ _ fun i hi=>List.mem_range.1 hi]
 simp only [List.foldl_cons,List.foldl_nil]
 congr 2
 ·rw [List.take_append_of_le_length (Nat.le_refl _),List.take_length]
 ·rw [List.getD_eq_getElem?_getD,List.getElem?_append_right (by omega),Nat.sub_self];rfl
theorem Adq {m:Nat} (h:m≤20):Cm m [] []:=⟨by simp,fun x hx=>(by cases hx),h,by simp [upto],List.Pairwise.nil⟩
theorem Aza {α:Type} {xs:List α} {y:Int} (h0:0≤y) (h:y.toNat<xs.length):idx xs y=some xs[y.toNat]:=by
 unfold idx
 rw [if_pos h0,List.getElem?_eq_getElem h]
theorem Bcv (f:SS) (s:List Int) (h:Cm s.length f.1 f.2.2.1):fnW tab (look [(135,Mz)]) Vp Try.f119 (f,s,()) (fun (z:Int)=>z=(Cg f.1 f.2.2.1 s:Int)):=by
 obtain ⟨L,D,srt,b,⟨⟩⟩:=f
 dsimp only at h⊢
 have hle:=Awj L srt s
 have hl2:=h.Aig
 have hfew:=h.few
 refine Eq.mp (Bda (L,D,srt,b,()) s _) ?_
 refine Ch.mk (fun v=>v.2.2.1=L∧v.2.2.2.2.1=srt∧ ∃lo hi:Nat,v.1=lo∧v.2.1=hi∧lo≤hi∧hi≤srt.length∧lo≤Cg L srt s∧Cg L srt s≤hi) (fun v=>(v.2.1-v.1).toNat)
  ⟨rfl,rfl,0,srt.length,rfl,rfl,by omega,by omega,by omega,hle⟩ ?_
 rintro ⟨lo',hi',L',D',srt',b',⟨⟩⟩ ⟨h1,h2,lo,hi,h3,h4,h5,h6,h7,h8⟩
 dsimp only at h1 h2 h3 h4⊢
 subst h1 h2 h3 h4
 refine Br.dec (fun hl=>?_) fun hl=>?_
 ·have em:IntKind.i64.wrap ((IntKind.i64.wrap ((lo:Int)+(hi:Int))).tdiv 2)=(((lo+hi)/2:Nat):Int):=by
   rw [Cb (n:=(lo:Int)+(hi:Int)) (by omega) (by omega),Int.tdiv_eq_ediv_of_nonneg (by omega),Cb (by omega) (by omega)]
   omega
  rw [em]
  have hm1:(lo+hi)/2<srt'.length:=by omega
  have hi1:=h.idx hm1
  have hi2:srt'[(lo+hi)/2].toNat<L'.length:=by omega
  have hgd:=Lm hi2
  have hlen:=h.len _ (List.getElem_mem hi2)
  have hsh:short L'[srt'[(lo+hi)/2].toNat]:=by
   unfold short
   have:=h.short;omega
  refine ⟨by decide,_,Bc hm1,_,Aza hi1.1 hi2,_,if_pos ⟨hsh,hlen⟩,⟨fun hc=>?_,fun hc=>?_⟩⟩
  ·have hc:Ux L'[srt'[(lo+hi)/2].toNat] s=true:=hc
   have hs:=(h.Tw s hm1).2 (by rw [hgd];exact hc)
   rw [At (by omega)]
   exact ⟨⟨rfl,rfl,(lo+hi)/2+1,hi,rfl,rfl,by omega,h6,by omega,h8⟩,by omega⟩
  ·have hc:Ux L'[srt'[(lo+hi)/2].toNat] s=false:=hc
   have hs: ¬(lo+hi)/2<Cg L' srt' s:=fun hh=>by
    have:=(h.Tw s hm1).1 hh
    rw [hgd,hc] at this;cases this
   exact ⟨⟨rfl,rfl,lo,(lo+hi)/2,rfl,rfl,by omega,by omega,h7,by omega⟩,by omega⟩
 ·show (lo:Int)=_
  omega
theorem Ajj:Sound Try.prog 119 Vp:=
 Sound.mkS Bw (Ad Aji Ax) mixed Try.func119 (by kernel_rfl) (by kernel_rfl) fun x h=>Bcv x.1 x.2.1 h
theorem Azy (f:SS) (s:List Int) (h:Cm s.length f.1 f.2.2.1):fnW tab (look [(119,Vp),(59,Cr)]) Lw Try.f69 (f,s,()) (fun (z:Int)=>z=Aap f.1 s):=by
 obtain ⟨L,D,srt,b,⟨⟩⟩:=f
 dsimp only at h⊢
 refine Eq.mp (Bau (L,D,srt,b,()) s _) ⟨_,if_pos h,Br.dec (fun hl=>?_) fun hl=>?_⟩
 ·have hl:Cg L srt s<srt.length:=by
   have hl:((Cg L srt s:Nat):Int)<(srt.length:Int):=hl
   omega
  have hi1:=h.idx hl
  have hi2:srt[Cg L srt s].toNat<L.length:=by omega
  have hgd:=Lm hi2
  have hlen:=h.len _ (List.getElem_mem hi2)
  have hsh:short L[srt[Cg L srt s].toNat]:=by
   unfold short
   have:=h.short;omega
  refine ⟨_,Bc hl,_,Aza hi1.1 hi2,_,if_pos hsh,⟨fun hc=>⟨_,Bc hl,?_⟩,fun hc=>?_⟩⟩
  ·have hc:L[srt[Cg L srt s].toNat]=s:=of_decide_eq_true hc
   rcases h.An6 (s:=s) with ⟨hk,_,e⟩|⟨_,hne⟩
   ·exact e.symm
   ·exact absurd (by rw [hgd];exact hc) (hne hl)
  ·have hc: ¬L[srt[Cg L srt s].toNat]=s:=of_decide_eq_false hc
   rcases h.An6 (s:=s) with ⟨hk,e,_⟩|⟨e,_⟩
   ·rw [hgd] at e;exact absurd e hc
   ·exact e.symm
 ·have hl: ¬Cg L srt s<srt.length:=by
   have hl: ¬((Cg L srt s:Nat):Int)<(srt.length:Int):=hl
   omega
  rcases h.An6 (s:=s) with ⟨hk,e,_⟩|⟨e,_⟩
  ·exact absurd hk hl
  ·exact e.symm
theorem Adw:Sound Try.prog 69 Lw:=
 Sound.mkS Bw (Ad Ajj (Ad Ags Ax)) mixed Try.func69 (by kernel_rfl) (by kernel_rfl) fun x h=>Azy x.1 x.2.1 h
theorem Au0 {S:List Int} {k:Nat} (h:k≤S.length) (n:Int):
  (Bi (S++ [0]) (k+1) (List.take ((S++ [0]).length-(k+1)) (List.take ((S++ [0]).length-k) (List.drop k (S++ [0]))))).set k n=Md S k n:=by
 obtain ⟨A,B,rfl,hA⟩: ∃A B,S=A++B∧A.length=k:=⟨S.take k,S.drop k,(List.take_append_drop k S).symm,by rw [List.length_take];omega⟩
 subst hA
 have e1:List.drop A.length (A++B++ [0])=B++ [0]:=by rw [List.append_assoc,List.drop_left]
 have e2:List.take ((A++B++ [0]).length-A.length) (B++ [0])=B++ [0]:=List.take_of_length_le (by simp only [List.length_append,List.length_singleton];omega)
 have e3:List.take ((A++B++ [0]).length-(A.length+1)) (B++ [0])=B:=by
  have:(A++B++ [(0:Int)]).length-(A.length+1)=B.length:=by simp only [List.length_append,List.length_singleton];omega
  rw [this,List.take_left]
 rw [e1,e2,e3]
 unfold Bi Md
 have e4:List.drop (A.length+1+B.length) (A++B++ [0])= []:=List.drop_eq_nil_of_le (by simp only [List.length_append,List.length_singleton];omega)
 obtain ⟨c,hc⟩: ∃c,List.take (A.length+1) (A++B++ [0])=A++ [c]:=by
  rw [List.append_assoc,List.take_append,List.take_of_length_le (by omega)]
  cases B with
  |nil=>exact ⟨0,by simp⟩
  |cons b B=>exact ⟨b,by simp⟩
 rw [e4,hc,List.append_nil,List.append_assoc,List.singleton_append,Bbl,List.take_left,List.drop_left]
theorem Bct (L:List (List Int)) (D S:List Int) (b:Bool) (s:List Int) (d:Int) (h:Cm s.length L S∧D.length≤3000):
  Aei Bbu (look [(119,Vp)]) Ac1 Try.f151 (L,D,S,b,s,d,()) (fun (z:(List (List Int)×List Int×List Int×Bool×Unit)×Unit)=>z=((L++ [s],D++ [d],Md S (Cg L S s) L.length,b,()),())):=by
 obtain ⟨h,hD⟩:=h
 have hle:=Awj L S s
 have hl2:=h.Aig
 have hfew:=h.few
 refine Eq.mp (Bd8 L D S b s d _) ?_
 rw [Cx L,Cx D,Cx S]
 refine ⟨_,if_pos h,?_⟩
 dsimp only
 have es:List.take 1 (List.drop 0 [(0:Int)])= [0]:=rfl
 have el:(S++ [(0:Int)]).length=S.length+1:=by simp
 rw [es,At (by omega),Nat.zero_add,Nat.zero_add,Int.toNat_natCast,Int.toNat_natCast,Int.toNat_natCast]
 refine ⟨rfl,rfl,by show S.length+1≤4294967296;omega,⟨by omega,by omega,by omega⟩,⟨by omega,by omega,by omega⟩,⟨by omega,by omega⟩,?_,rfl,rfl,by show L.length+1≤4294967296;omega,rfl,rfl,by show D.length+1≤4294967296;omega,?_⟩
 ·unfold Bi
  simp only [List.length_append,List.length_take,List.length_drop,List.length_singleton]
  omega
 ·rw [Au0 hle,Cx,Cx]
  have e5:List.take (S++ [(0:Int)]).length (List.drop 0 (Md S (Cg L S s) (L.length:Int)))=Md S (Cg L S s) (L.length:Int):=by
   rw [List.drop_zero,List.take_of_length_le]
   unfold Md
   simp only [List.length_append,List.length_cons,List.length_take,List.length_drop,List.length_nil]
   omega
  rw [e5]
  rfl
theorem Avd:Dr Try.prog 151 Ac1:=
 Dr.mkM Bal (Ad Ajj Ax) mixed Try.func151 (by kernel_rfl) (by kernel_rfl) fun x h=>Bct x.1 x.2.1 x.2.2.1 x.2.2.2.1 x.2.2.2.2.1 x.2.2.2.2.2.1 h
structure Ol (p:PP) (m:Nat) (L:List (List Int)) (D:List Int):Prop where
 ok:Cm m L (Qy L)
 len:D.length=L.length
 row: ∀x∈L,∀y∈x,0≤y∧y<p.1
 dep: ∀j (h:j<D.length),0≤D[j]∧D[j]≤j
theorem Ao5 {p:PP} (hv:Valid p) {x:List Int} {l:Int} (hx: ∀y∈x,0≤y∧y<p.1) (hl:Fu (List.length p.2.2.1) l):
  (Aa x (Af p.2.2.1 l)).length=x.length∧ ∀y∈Aa x (Af p.2.2.1 l),0≤y∧y<p.1:=by
 obtain ⟨h1,h2⟩:=Aer hv hl
 refine ⟨Rf _ _,fun y hy=>?_⟩
 have:=Aqc (n:=(Af p.2.2.1 l).length) (fun z hz=>by have:=hx z hz;omega) h2 y hy
 omega
theorem Ol.add {p:PP} {m:Nat} {L:List (List Int)} {D:List Int} (h:Ol p m L D) {y:List Int} {d:Int} (hn:y∉L) (hl:y.length=m) (hr:L.length<3000) (hy: ∀z∈y,0≤z∧z<p.1) (hd:0≤d∧d≤L.length):Ol p m (L++ [y]) (D++ [d]):=by
 have hlen:=h.len
 refine ⟨by rw [Vr];exact h.ok.add hn hl hr,by simp [hlen],fun x hx=>?_,fun j hj=>?_⟩
 ·rcases List.mem_append.1 hx with hx|hx
  ·exact h.row x hx
  ·rw [List.mem_singleton.1 hx];exact hy
 ·by_cases e:j<D.length
  ·rw [List.getElem_append_left e];exact h.dep j e
  ·simp only [List.length_append,List.length_singleton] at hj
   have:j=D.length:=by omega
   subst this
   rw [List.getElem_append_right (by omega)]
   simp only [Nat.sub_self,List.getElem_cons_zero]
   omega
theorem Zn {p:PP} {s:List Int} (hs:s.length≤20) (hr: ∀y∈s,0≤y∧y<p.1):Ol p s.length [s] [0]:=by
 refine ⟨?_,rfl,fun x hx=>by rw [List.mem_singleton.1 hx];exact hr,fun j hj=>?_⟩
 ·have:=(Adq hs).add (s:=s) (by simp) rfl (by simp)
  have e:Qy [s]=Md [] (Cg [] [] s) 0:=Vr [] s
  rw [e];exact this
 ·simp only [List.length_singleton] at hj
  have:j=0:=by omega
  subst this
  simp
theorem Am2 {L:List (List Int)} {s:List Int} :Aap L s≥0↔s∈L:=by
 unfold Aap
 split
 ·rename_i h;exact ⟨fun _=>h,fun _=>by omega⟩
 ·rename_i h;exact ⟨fun hh=>by omega,fun hh=>absurd hh h⟩
theorem Bbi (p:PP) (s:List Int) (h:Bd p=true∧s.length≤20∧ ∀y∈s,0≤y∧y<p.1):fnW Bd3 (look [(120,Mv),(151,Ac1),(142,Lh),(129,Tt),(69,Lw)]) Cp Try.f105 (p,s,()) (fun (z:SS)=>z=Gp p.2.2.1 s):=by
 obtain ⟨hv,hs,hr⟩:=h
 have hV:=valid hv
 have hfew:=hV.few
 have hb0:=Zn hs hr
 have hsh:short s:=by unfold short;omega
 obtain ⟨ls,hls⟩: ∃ls,Ba (List.length p.2.2.1)=ls:=⟨_,rfl⟩
 refine Eq.mp (Bc1 p s _) ⟨_,if_pos hsh,_,if_pos ⟨Adq hs,by show 0≤3000;omega⟩,ls,(if_pos (by show List.length p.2.2.1≤8;exact hfew.2)).trans (congrArg some hls),rfl,rfl,rfl,rfl,rfl,rfl,rfl,rfl,rfl,rfl,rfl,rfl,?_⟩
 have e0:Md [] (Cg [] [] s) ((([]:List (List Int)).length:Nat):Int)=Qy [s]:=(Vr [] s).symm
 show Ch _ ((0:Int),p.1,p.2.1,p.2.2.1,false,false,[],[],[],[s],[(0:Int)],Md [] (Cg [] [] s) ((([]:List (List Int)).length:Nat):Int),PUnit.unit)
 rw [e0]
 have hll:ls.length≤16:=by rw [←hls,Kh];omega
 have hmem: ∀l∈ls,Fu (List.length p.2.2.1) l:=fun l hl=>Lb (hls▸hl)
 have hstart:Gy p.2.2.1 ls 3001 0 [s] [0]=Fc p.2.2.1 s:=by unfold Fc;rw [hls]
 refine Ch.mk (fun v=>v.2.1=p.1∧v.2.2.1=p.2.1∧v.2.2.2.1=p.2.2.1∧v.2.2.2.2.2.1=false∧ ∃k:Nat,v.1=k∧k≤v.2.2.2.2.2.2.2.2.2.1.length∧
   Ol p s.length v.2.2.2.2.2.2.2.2.2.1 v.2.2.2.2.2.2.2.2.2.2.1∧v.2.2.2.2.2.2.2.2.2.2.2.1=Qy v.2.2.2.2.2.2.2.2.2.1∧
   Gy p.2.2.1 ls (3001-k) k v.2.2.2.2.2.2.2.2.2.1 v.2.2.2.2.2.2.2.2.2.2.1=Fc p.2.2.1 s) (fun v=>3001-v.1.toNat)
  ⟨rfl,rfl,rfl,rfl,0,rfl,by simp,hb0,rfl,hstart⟩ ?_
 rintro ⟨k',n1,n2,n3,b0,wh,x1,x2,x3,L0,D0,S0,⟨⟩⟩ ⟨h1,h2,h3,h4,k,h5,h6,h7,h8,h9⟩
 dsimp only at h1 h2 h3 h4 h5 h6 h7 h8 h9
 subst h1 h2 h3 h4 h5 h8
 dsimp only
 have hL0:=h7.ok.few
 have hD0:=h7.len
 refine Br.dec (fun hl=>⟨rfl,rfl,rfl,rfl,rfl,rfl,rfl,rfl,rfl,rfl,rfl,rfl,?_⟩) fun hl=>?_
 ·have hk:k<L0.length:=by omega
  have hkD:k<D0.length:=by omega
  have hx: ∀y∈L0[k],0≤y∧y<p.1:=h7.row _ (List.getElem_mem hk)
  have hxl:L0[k].length=s.length:=h7.ok.len _ (List.getElem_mem hk)
  have hdk:=h7.dep k hkD
  obtain ⟨f,hf⟩: ∃f,3001-k=f+1:=⟨3000-k,by omega⟩
  have hgo: ∀L' D' ok,Fm p.2.2.1 L0[k] D0[k] ls L0 D0=(L',D',ok)→Fc p.2.2.1 s=if ok=true then Gy p.2.2.1 ls f (k+1) L' D' else (L',D',false):=by
   intro L' D' ok he
   rw [←h9,hf,Gy,if_pos hk,Lm hk,List.getD_eq_getElem?_getD,List.getElem?_eq_getElem hkD]
   simp only [Option.getD_some]
   rw [he]
   cases ok<;>rfl
  refine Ch.mk (fun v=>v.2.1=p.1∧v.2.2.1=p.2.1∧v.2.2.2.1=p.2.2.1∧v.2.2.2.2.2.1=false∧ ∃i:Nat,v.1=i∧i≤ls.length∧Ol p s.length v.2.2.2.2.2.2.2.2.2.1 v.2.2.2.2.2.2.2.2.2.2.1∧
    v.2.2.2.2.2.2.2.2.2.2.2.1=Qy v.2.2.2.2.2.2.2.2.2.1∧(∃A,v.2.2.2.2.2.2.2.2.2.1=L0++A)∧(∃A,v.2.2.2.2.2.2.2.2.2.2.1=D0++A)∧
    Fm p.2.2.1 L0[k] D0[k] (ls.drop i) v.2.2.2.2.2.2.2.2.2.1 v.2.2.2.2.2.2.2.2.2.2.1=Fm p.2.2.1 L0[k] D0[k] ls L0 D0) (fun v=>ls.length-v.1.toNat)
   ⟨rfl,rfl,rfl,rfl,0,rfl,Nat.zero_le _,h7,rfl,⟨[],by simp⟩,⟨[],by simp⟩,rfl⟩ ?_
  rintro ⟨i',m1,m2,m3,b1,wh1,y1,y2,y3,L,D,S,⟨⟩⟩ ⟨g1,g2,g3,g4,i,g5,g6,g7,g8,⟨A,g9⟩,⟨A',g10⟩,g11⟩
  dsimp only at g1 g2 g3 g4 g5 g6 g7 g8 g9 g10 g11
  subst g1 g2 g3 g4 g5 g8
  dsimp only
  have hLf:=g7.ok.few
  have hDl:=g7.len
  rw [Cx L,Cx D,Cx (Qy L)]
  refine Br.dec (fun hli=>?_) fun hli=>?_
  ·have hi:i<ls.length:=by omega
   have hkL:k<L.length:=by rw [g9,List.length_append];omega
   have hLk:L[k]=L0[k]:=by simp only [g9];exact List.getElem_append_left hk
   have hkD2:k<D.length:=by rw [hDl];exact hkL
   have hDk:D[k]=D0[k]:=by simp only [g10];exact List.getElem_append_left hkD
   have hlet:=hmem _ (List.getElem_mem hi)
   obtain ⟨nl,nr⟩:=Ao5 hV hx hlet
   rw [List.drop_eq_getElem_cons hi] at g11
   simp only [Fm] at g11
   refine ⟨⟨by omega,by omega⟩,L0[k],by rw [Int.toNat_natCast,Nat.zero_add,List.getElem?_eq_getElem hkL,hLk],_,Bc hi,_,if_pos ⟨hv,by show L0[k].length≤20;omega,hx,hlet⟩,?_⟩
   dsimp only
   have hyl:(Aa L0[k] (Af p.2.2.1 ls[i])).length=s.length:=by rw [nl,hxl]
   refine ⟨_,if_pos (by show Cm (Aa L0[k] (Af p.2.2.1 ls[i])).length L (Qy L);rw [hyl];exact g7.ok),Br.dec (fun hin=>?_) fun hin=>?_⟩
   ·have hin:Aa L0[k] (Af p.2.2.1 ls[i])∈L:=Am2.1 hin
    rw [if_pos hin] at g11
    rw [At (by omega)]
    exact ⟨rfl,rfl,rfl,rfl,rfl,rfl,rfl,rfl,rfl,rfl,rfl,rfl,⟨rfl,rfl,rfl,rfl,i+1,rfl,hi,g7,rfl,⟨A,g9⟩,⟨A',g10⟩,g11⟩,by omega⟩
   ·have hin:Aa L0[k] (Af p.2.2.1 ls[i])∉L:=fun hh=>hin (Am2.2 hh)
    rw [if_neg hin] at g11
    refine ⟨fun hfull=>?_,fun hfull=>⟨⟨by omega,by omega⟩,D0[k],by rw [Int.toNat_natCast,Nat.zero_add,List.getElem?_eq_getElem hkD2,hDk],rfl,rfl,rfl,rfl,rfl,rfl,?_⟩⟩
    ·have hfull:L.length=3000:=by
      have:(L.length:Int)=3000:=by simpa using hfull
      omega
     rw [if_pos hfull] at g11
     have:=hgo _ _ _ g11.symm
     rw [if_neg (by decide)] at this
     unfold Gp
     rw [this]
    ·have hfull:L.length≠3000:=by
      have:(L.length:Int)≠3000:=by simpa using hfull
      omega
     rw [if_neg hfull] at g11
     rw [Cb (n:=D0[k]+1) (by omega) (by omega)]
     refine ⟨_,if_pos ⟨by show Cm (Aa L0[k] (Af p.2.2.1 ls[i])).length L (Qy L);rw [hyl];exact g7.ok,by show D.length≤3000;omega⟩,?_⟩
     dsimp only
     rw [At (by omega),←Vr]
     refine ⟨rfl,rfl,rfl,rfl,rfl,rfl,rfl,rfl,rfl,rfl,rfl,rfl,⟨rfl,rfl,rfl,rfl,i+1,rfl,hi,g7.add hin hyl (by omega) nr ⟨by omega,by omega⟩,rfl,⟨A++ [Aa L0[k] (Af p.2.2.1 ls[i])],by rw [g9,List.append_assoc]⟩,⟨A'++ [D0[k]+1],by rw [g10,List.append_assoc]⟩,g11⟩,by omega⟩
  ·have:i=ls.length:=by omega
   subst this
   rw [List.drop_length,Fm] at g11
   have:=hgo _ _ _ g11.symm
   rw [if_pos rfl] at this
   rw [At (by omega)]
   refine ⟨rfl,rfl,rfl,rfl,rfl,rfl,rfl,rfl,rfl,rfl,rfl,rfl,⟨rfl,rfl,rfl,rfl,k+1,rfl,by rw [g9,List.length_append];omega,g7,rfl,?_⟩,by omega⟩
   rw [show 3001-(k+1)=f by omega]
   exact this.symm
 ·have hk:k=L0.length:=by omega
  rw [Cx L0,Cx D0,Cx (Qy L0)]
  obtain ⟨f,hf⟩: ∃f,3001-k=f+1:=⟨3000-k,by omega⟩
  rw [hf,Gy,if_neg (by omega)] at h9
  unfold Gp
  rw [←h9]
theorem Asi:Sound Try.prog 105 Cp:=
 Sound.mkS Bd4 (Ad Aje (Sz Avd (Ad Agv (Ad Aox (Ad Adw Ax))))) mixed Try.func105 (by kernel_rfl) (by kernel_rfl) fun x h=>Bbi x.1 x.2.1 h
end Go.Proofs.Ytebabhocakedaaa

namespace Go.Proofs.Ytebabhocakedaaa
open Go.RowKit
noncomputable def Hk (p:PP) (t:List Int):Bool:=Bd p&&Gm p.1 t
noncomputable abbrev Jo:Spec:=mkS (.pair Cu (.pair tL .unit)) .bool false true (fun x=>Dn x.1∧short x.2.1) (fun x=>Hk x.1 x.2.1)
theorem Ala (p:Int×ByteArray×List (List Int)×Unit) (t:List Int) (P:Bool→Prop):(∃(y3:Bool),Ei.fn ((p.1,p.2.1,p.2.2.1,()),())=some y3∧Br y3 (∃(y4:Bool),Ed.fn (p.1,t,())=some y4∧P y4) (P false))=fnW tab (look [(99,Ei),(100,Ed)]) Jo Try.f51 (p,t,()) P:=by kernel_rfl
theorem Acg {p:PP} (hV:Valid p) {m:Nat} {x:List Int} {d:Int} (hx: ∀y∈x,0≤y∧y<p.1) (hxl:x.length=m): ∀(ls:List Int) (L:List (List Int)) (D:List Int),(∀l∈ls,Fu (List.length p.2.2.1) l)→
  Ol p m L D→(0≤d∧d<L.length)→Ol p m (Fm p.2.2.1 x d ls L D).1 (Fm p.2.2.1 x d ls L D).2.1∧(∃A,(Fm p.2.2.1 x d ls L D).1=L++A)∧(∃A,(Fm p.2.2.1 x d ls L D).2.1=D++A)
 | [],L,D,_,h,_=>⟨h,⟨[],by simp [Fm]⟩,⟨[],by simp [Fm]⟩⟩
 |l::ls,L,D,hl,h,hd=>by
  obtain ⟨n1,n2⟩:=Ao5 hV hx (hl l (by simp))
  have hl': ∀l∈ls,Fu (List.length p.2.2.1) l:=fun l' h'=>hl l' (List.mem_cons_of_mem _ h')
  simp only [Fm]
  split
  ·exact Acg hV hx hxl ls L D hl' h hd
  ·rename_i hn
   split
   ·exact ⟨h,⟨[],by simp⟩,⟨[],by simp⟩⟩
   ·rename_i hf
    have hfew:=h.ok.few
    obtain ⟨k1,⟨A,k2⟩,⟨A',k3⟩⟩:=Acg hV hx hxl ls (L++ [Aa x (Af p.2.2.1 l)]) (D++ [d+1]) hl' (h.add hn (by rw [n1,hxl]) (by omega) n2 ⟨by omega,by omega⟩) ⟨hd.1,by rw [List.length_append];omega⟩
    exact ⟨k1,⟨_::A,by rw [k2,List.append_assoc];rfl⟩,⟨_::A',by rw [k3,List.append_assoc];rfl⟩⟩
theorem Aq2 {p:PP} (hV:Valid p) {m:Nat} {ls:List Int} (hl: ∀l∈ls,Fu (List.length p.2.2.1) l): ∀(f k:Nat) (L:List (List Int)) (D:List Int),Ol p m L D→
  Ol p m (Gy p.2.2.1 ls f k L D).1 (Gy p.2.2.1 ls f k L D).2.1∧(∃A,(Gy p.2.2.1 ls f k L D).1=L++A)
 |0,k,L,D,h=>⟨h,⟨[],by simp [Gy]⟩⟩
 |f+1,k,L,D,h=>by
  simp only [Gy]
  split
  ·rename_i hk
   have hkD:k<D.length:=by rw [h.len];exact hk
   have hd:=h.dep k hkD
   have e:D.getD k 0=D[k]:=by rw [List.getD_eq_getElem?_getD,List.getElem?_eq_getElem hkD];rfl
   rw [Lm hk,e]
   obtain ⟨k1,⟨A,k2⟩,_⟩:=Acg hV (h.row _ (List.getElem_mem hk)) (h.ok.len _ (List.getElem_mem hk)) (d:=D[k]) ls L D hl h ⟨by omega,by omega⟩
   split
   ·rename_i L' D' he
    rw [he] at k1 k2
    obtain ⟨g1,⟨B,g2⟩⟩:=Aq2 hV hl f (k+1) L' D' k1
    have k2:L'=L++A:=k2
    exact ⟨g1,⟨A++B,by rw [g2,k2,List.append_assoc]⟩⟩
   ·rename_i L' D' he
    rw [he] at k1 k2
    exact ⟨k1,⟨A,k2⟩⟩
  ·exact ⟨h,⟨[],by simp⟩⟩
theorem Bcd {p:PP} {s:List Int} (hv:Bd p=true) (hs:s.length≤20) (hr: ∀y∈s,0≤y∧y<p.1):Ol p s.length (Fc p.2.2.1 s).1 (Fc p.2.2.1 s).2.1∧ ∃A,(Fc p.2.2.1 s).1=s::A:=
 Aq2 (valid hv) (fun _ hl=>Lb hl) _ _ _ _ (Zn hs hr)
theorem Zd {p:PP} {t:List Int} :Hk p t=true↔Bd p=true∧Gm p.1 t=true:=by
 unfold Hk;rw [Bool.and_eq_true]
theorem Asr {p:PP} {t:List Int} (h:Hk p t=true):t.length≤20∧ ∀y∈t,0≤y∧y<p.1:=by
 obtain ⟨h1,h2⟩:=Zd.1 h
 have hn:=(valid h1).n
 obtain ⟨h3,h4⟩:=En.1 h2
 have hy: ∀y∈t,0≤y∧y<p.1:=fun y hy=>by
  obtain ⟨j,hj,rfl⟩:=List.mem_iff_getElem.1 hy
  have:=h4 j hj hj
  omega
 refine ⟨?_,hy⟩
 have h5:=Aur h4 (t.length-1) (by omega)
 have h6:=hy _ (List.getElem_mem (show t.length-1<t.length by omega))
 omega
theorem Akk (p:PP) (t:List Int) (h:Dn p∧short t):fnW tab (look [(99,Ei),(100,Ed)]) Jo Try.f51 (p,t,()) (fun (z:Bool)=>z=Hk p t):=by
 refine Eq.mp (Ala p t _) ⟨_,if_pos h.1,⟨fun hv=>?_,fun hv=>?_⟩⟩
 ·have hv:Bd p=true:=hv
  have hn:=(valid hv).n
  refine ⟨_,if_pos ⟨⟨by show 0≤p.1;omega,by show p.1≤4294967296;omega⟩,h.2⟩,?_⟩
  unfold Hk;rw [hv];rfl
 ·have hv:Bd p=false:=hv
  unfold Hk;rw [hv];rfl
theorem Ae0:Sound Try.prog 51 Jo:=
 Sound.mkS Bw (Ad Nc (Ad Adv Ax)) mixed Try.func51 (by kernel_rfl) (by kernel_rfl) fun x h=>Akk x.1 x.2.1 h
def Atb (m:ByteArray→Option Bool) (L:List (List Int)):Prop:= ∀q,Mc q→(m (Jq q)).getD false=decide (q∈L)
theorem Atb.add {m:ByteArray→Option Bool} {L:List (List Int)} {y:List Int} (h:Atb m L) (hy:Mc y):Atb (El m (Jq y) true) (L++ [y]):=by
 intro q hq
 unfold El
 by_cases e:q=y
 ·subst e
  rw [if_pos rfl];simp
 ·rw [if_neg fun hk=>e (key_inj hq hy hk),h q hq]
  simp [e]
end Go.Proofs.Ytebabhocakedaaa
