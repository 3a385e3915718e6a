/-
  Part 38 of the proof that the statement FnExactStateClassCount holds.
-/
import Derived.Test.YtebabhocakedaaaCStateClassCount36
import Derived.KernelRfl
namespace Go.Proofs.Ytebabhocakedaaa
open Go.RowKit
def Fy (x a b:Int):Bool:=decide (a≤x∧x≤b)
def Dx (a b:List Int):Bool:=decide (a=b)
def Jd (xs:List Int) (x:Int):Bool:=decide (x∈xs)
def short (xs:List Int):Prop:=xs.length≤4294967296
noncomputable abbrev Cc:Spec:=mkS (.pair tI (.pair tI (.pair tI .unit))) .bool false true (fun _=>True) (fun x=>Fy x.1 x.2.1 x.2.2.1)
noncomputable abbrev Bd:Spec:=mkS (.pair tL (.pair tL .unit)) .bool false true (fun x=>short x.1) (fun x=>Dx x.1 x.2.1)
noncomputable abbrev En:Spec:=mkS (.pair tL (.pair tI .unit)) .bool false true (fun x=>short x.1) (fun x=>Jd x.1 x.2.1)
theorem Baq (x a b:Int) (P:Bool→Prop):(Br (decide (x≥a)) (P (decide (x≤b))) (P false))=fnW tab (look []) Cc Try.f122 (x,a,b,()) P:=by kernel_rfl
theorem Bd5 (x a b:Int) (P:Bool→Prop):(Br (decide (x≥a)) (P (decide (x≤b))) (P false))=fnW tab (look []) Cc Try.f108 (x,a,b,()) P:=by kernel_rfl
theorem Auh (a b:List Int) (P:Bool→Prop):(Br ((↑a.length:Int) !=(↑b.length:Int)) (P false)
 (Bo
  (fun (v3:Int×PUnit) (k4:Int×PUnit→Prop)=>
   Br (decide (v3.1<(↑a.length:Int))) (∃(y5:Int),idx a v3.1=some y5∧ ∃(y6:Int),idx b v3.1=some y6∧Br (y5 !=y6) (P false) (k4 (IntKind.i64.wrap (v3.1+1),())))
    (P true))
  (0,PUnit.unit)))=fnW tab (look []) Bd Try.f59 (a,b,()) P:=by kernel_rfl
theorem Am8 (a b:List Int) (P:Bool→Prop):(Br ((↑a.length:Int) !=(↑b.length:Int)) (P false)
 (Bo
  (fun (v3:Int×PUnit) (k4:Int×PUnit→Prop)=>
   Br (decide (v3.1<(↑a.length:Int))) (∃(y5:Int),idx a v3.1=some y5∧ ∃(y6:Int),idx b v3.1=some y6∧Br (y5 !=y6) (P false) (k4 (IntKind.i64.wrap (v3.1+1),())))
    (P true))
  (0,PUnit.unit)))=fnW tab (look []) Bd Try.f63 (a,b,()) P:=by kernel_rfl
theorem Am4 (xs:List Int) (x:Int) (P:Bool→Prop):(Bo
 (fun (v3:Int×PUnit) (k4:Int×PUnit→Prop)=>
  Br (decide (v3.1<(↑xs.length:Int))) (∃(y5:Int),idx xs v3.1=some y5∧Br (y5==x) (P true) (k4 (IntKind.i64.wrap (v3.1+1),()))) (P false))
 (0,PUnit.unit))=fnW tab (look []) En Try.f152 (xs,x,()) P:=by kernel_rfl
theorem Azj (x a b:Int) (_:True):fnW tab (look []) Cc Try.f122 (x,a,b,()) (fun (z:Bool)=>z=Fy x a b):=by
 refine Eq.mp (Baq x a b _) ?_
 refine Br.dec (fun h=>?_) fun h=>?_
 ·have h:a≤x:=h
  simp [Fy,h]
 ·exact (decide_eq_false fun hh=>h hh.1).symm
theorem Abp:Sound Try.prog 122 Cc:=
 Sound.mkS Cb Ar mixed Try.func122 (by kernel_rfl) (by kernel_rfl) fun x h=>Azj x.1 x.2.1 x.2.2.1 h
theorem Bc6 (x a b:Int) (_:True):fnW tab (look []) Cc Try.f108 (x,a,b,()) (fun (z:Bool)=>z=Fy x a b):=by
 refine Eq.mp (Bd5 x a b _) ?_
 refine Br.dec (fun h=>?_) fun h=>?_
 ·have h:a≤x:=h
  simp [Fy,h]
 ·exact (decide_eq_false fun hh=>h hh.1).symm
theorem Qh:Sound Try.prog 108 Cc:=
 Sound.mkS Cb Ar mixed Try.func108 (by kernel_rfl) (by kernel_rfl) fun x h=>Bc6 x.1 x.2.1 x.2.2.1 h
theorem Alg (xs:List Int) (x:Int) (h:short xs):fnW tab (look []) En Try.f152 (xs,x,()) (fun (z:Bool)=>z=Jd xs x):=by
 refine Eq.mp (Am4 xs x _) ?_
 unfold short at h
 refine Ao xs.length (fun v=>v.1) (fun j _=>x∉xs.take j) rfl (by simp) ?_
 rintro j ⟨i,⟨⟩⟩ K hj hi hR hK
 dsimp only at hi⊢
 subst hi
 refine Br.dec (fun hl=>?_) fun hl=>?_
 ·have hl:j<xs.length:=by omega
  refine ⟨_,Bc hl,⟨fun he=>?_,fun he=>?_⟩⟩
  ·have hm:=List.getElem_mem hl
   simp only [beq_iff_eq] at he
   rw [he] at hm
   exact (decide_eq_true hm).symm
  ·rw [Ak (by omega)]
   refine hK hl _ rfl ?_
   simp only [beq_eq_false_iff_ne,ne_eq] at he
   rw [List.take_succ_eq_append_getElem hl]
   simp only [List.mem_append,List.mem_singleton,not_or]
   exact ⟨hR,fun hx=>he hx.symm⟩
 ·have:j=xs.length:=by omega
  subst this
  rw [List.take_length] at hR
  exact (decide_eq_false hR).symm
theorem Ss:Sound Try.prog 152 En:=
 Sound.mkS Cb Ar mixed Try.func152 (by kernel_rfl) (by kernel_rfl) fun x h=>Alg x.1 x.2.1 h
theorem Aob (a b:List Int) (hlen:a.length=b.length) (h:short a):
  Bo (fun (v3:Int×PUnit) (k4:Int×PUnit→Prop)=>
   Br (decide (v3.1<(↑a.length:Int))) (∃(y5:Int),idx a v3.1=some y5∧ ∃(y6:Int),idx b v3.1=some y6∧Br (y5 !=y6) (false=Dx a b) (k4 (IntKind.i64.wrap (v3.1+1),())))
    (true=Dx a b))
  (0,PUnit.unit):=by
 unfold short at h
 refine Ao a.length (fun v=>v.1) (fun j _=>a.take j=b.take j) rfl (by simp) ?_
 rintro j ⟨i,⟨⟩⟩ K hj hi hR hK
 dsimp only at hi⊢
 subst hi
 refine Br.dec (fun hl=>?_) fun hl=>?_
 ·have hl1:j<a.length:=by omega
  have hl2:j<b.length:=by omega
  refine ⟨_,Bc hl1,_,Bc hl2,⟨fun he=>?_,fun he=>?_⟩⟩
  ·simp only [bne_iff_ne,ne_eq] at he
   refine (decide_eq_false fun hab=>he ?_).symm
   subst hab
   rfl
  ·rw [Ak (by omega)]
   refine hK hl1 _ rfl ?_
   simp only [bne_eq_false_iff_eq] at he
   rw [List.take_succ_eq_append_getElem hl1,List.take_succ_eq_append_getElem hl2,hR,he]
 ·have hj':j=a.length:=by omega
  subst hj'
  rw [List.take_length,hlen,List.take_length] at hR
  exact (decide_eq_true hR).symm
theorem Atb (a b:List Int) (h:short a):fnW tab (look []) Bd Try.f59 (a,b,()) (fun (z:Bool)=>z=Dx a b):=by
 refine Eq.mp (Auh a b _) ⟨fun hl=>?_,fun hl=>?_⟩
 ·simp only [bne_iff_ne,ne_eq,Int.natCast_inj] at hl
  exact (decide_eq_false fun hab=>hl (by rw [hab])).symm
 ·simp only [bne_eq_false_iff_eq,Int.natCast_inj] at hl
  exact Aob a b hl h
theorem Pk:Sound Try.prog 59 Bd:=
 Sound.mkS Cb Ar mixed Try.func59 (by kernel_rfl) (by kernel_rfl) fun x h=>Atb x.1 x.2.1 h
theorem Alk (a b:List Int) (h:short a):fnW tab (look []) Bd Try.f63 (a,b,()) (fun (z:Bool)=>z=Dx a b):=by
 refine Eq.mp (Am8 a b _) ⟨fun hl=>?_,fun hl=>?_⟩
 ·simp only [bne_iff_ne,ne_eq,Int.natCast_inj] at hl
  exact (decide_eq_false fun hab=>hl (by rw [hab])).symm
 ·simp only [bne_eq_false_iff_eq,Int.natCast_inj] at hl
  exact Aob a b hl h
theorem Su:Sound Try.prog 63 Bd:=
 Sound.mkS Cb Ar mixed Try.func63 (by kernel_rfl) (by kernel_rfl) fun x h=>Alk x.1 x.2.1 h
end Go.Proofs.Ytebabhocakedaaa

namespace Go.Proofs.Ytebabhocakedaaa
open Go.RowKit
def Is (xs:List (List Int)):Prop:=xs.length≤4294967296∧ ∀r∈xs,short r
def roomy (room:Int):Prop:=0≤room∧room≤4294967296
def Afn (n:Nat) (room:Int):Int:=if room-n<0 then-1 else room-n
def Aeg (xs:List Int) (room:Int):Int:=Afn xs.length room
def Au4:List (List Int)→Int→Int
 | [],room=>room
 |r::rs,room=>if Aeg r room<0 then-1 else Au4 rs (Aeg r room)
def Tj (xs:List (List Int)) (room:Int):Int:=if Afn xs.length room<0 then-1 else Au4 xs (Afn xs.length room)
def Afm (a b:List (List Int)):Bool:=decide (a=b)
noncomputable abbrev Ann:Spec:=mkS (.pair tL (.pair tI .unit)) tI false true (fun x=>short x.1∧roomy x.2.1) (fun x=>Aeg x.1 x.2.1)
noncomputable abbrev Ag1:Spec:=mkS (.pair tLL (.pair tI .unit)) tI false true (fun x=>Is x.1∧roomy x.2.1) (fun x=>Tj x.1 x.2.1)
noncomputable abbrev Anp:Spec:=mkS (.pair tL .unit) tL false true (fun x=>short x.1) (fun x=>x.1)
noncomputable abbrev Ag2:Spec:=mkS (.pair tLL .unit) tLL false true (fun x=>Is x.1) (fun x=>x.1)
noncomputable abbrev Ag0:Spec:=mkS (.pair tLL (.pair tLL .unit)) .bool false true (fun x=>Is x.1) (fun x=>Afm x.1 x.2.1)
theorem Bge (xs:List Int) (room:Int) (P:Int→Prop):(Br (decide (IntKind.i64.wrap (room-(↑xs.length:Int))<0)) (P (-1)) (P (IntKind.i64.wrap (room-(↑xs.length:Int)))))=fnW tab (look []) Ann Try.f76 (xs,room,()) P:=by kernel_rfl
theorem Bfj (xs:List (List Int)) (room:Int) (P:Int→Prop):(Br (decide (IntKind.i64.wrap (room-(↑xs.length:Int))<0)) (P (-1))
 (Bo
  (fun (v3:Int×Int×PUnit) (k4:Int×Int×PUnit→Prop)=>
   Br (decide (v3.2.1<(↑xs.length:Int)))
    (∃(y5:List Int),idx xs v3.2.1=some y5∧ ∃(y6:Int),Ann.fn (y5,v3.1,())=some y6∧Br (decide (y6<0)) (P (-1)) (k4 (y6,IntKind.i64.wrap (v3.2.1+1),()))) (P v3.1))
  (IntKind.i64.wrap (room-(↑xs.length:Int)),0,PUnit.unit)))=fnW tab (look [(76,Ann)]) Ag1 Try.f33 (xs,room,()) P:=by kernel_rfl
theorem Bgg (xs:List Int) (P:List Int→Prop):((0≤(↑xs.length:Int)∧(↑xs.length:Int)<(↑Am:Int)+1)∧
 (↑xs.length:Int)=(↑xs.length:Int)∧
  0=0∧
   (List.replicate (↑xs.length:Int).toNat (Int.ofNat 0)).length=(List.replicate (↑xs.length:Int).toNat (Int.ofNat 0)).length∧
    Bo
     (fun (v2:Int×List Int×PUnit) (k3:Int×List Int×PUnit→Prop)=>
      Br (decide (v2.1<(↑xs.length:Int)))
       (∃(y4:Int),
        idx xs v2.1=some y4∧
         (0≤v2.1∧v2.1<(↑v2.2.1.length:Int))∧
          0+v2.1.toNat<v2.2.1.length∧
           0=0∧v2.2.1.length=(v2.2.1.set (0+v2.1.toNat) y4).length∧k3 (IntKind.i64.wrap (v2.1+1),v2.2.1.set (0+v2.1.toNat) y4,()))
       (P (List.take v2.2.1.length (List.drop 0 v2.2.1))))
     (0,List.replicate (↑xs.length:Int).toNat (Int.ofNat 0),PUnit.unit))=fnW tab (look []) Anp Try.f18 (xs,()) P:=by kernel_rfl
theorem Bfk (xs:List (List Int)) (P:List (List Int)→Prop):((0≤(↑xs.length:Int)∧(↑xs.length:Int)<(↑Am:Int)+1)∧
 (↑xs.length:Int)=(↑xs.length:Int)∧
  0=0∧
   (List.replicate (↑xs.length:Int).toNat ([]:List Int)).length=(List.replicate (↑xs.length:Int).toNat ([]:List Int)).length∧
    Bo
     (fun (v2:Int×List (List Int)×PUnit) (k3:Int×List (List Int)×PUnit→Prop)=>
      Br (decide (v2.1<(↑xs.length:Int)))
       (∃(y4:List Int),
        idx xs v2.1=some y4∧
         ∃(y5:List Int),
          Anp.fn (y4,())=some y5∧
           (0≤v2.1∧v2.1<(↑v2.2.1.length:Int))∧
            0+v2.1.toNat<v2.2.1.length∧
             0=0∧v2.2.1.length=(v2.2.1.set (0+v2.1.toNat) y5).length∧k3 (IntKind.i64.wrap (v2.1+1),v2.2.1.set (0+v2.1.toNat) y5,()))
       (P (List.take v2.2.1.length (List.drop 0 v2.2.1))))
     (0,List.replicate (↑xs.length:Int).toNat ([]:List Int),PUnit.unit))=fnW tab (look [(18,Anp)]) Ag2 Try.f35 (xs,()) P:=by kernel_rfl
theorem Bga (a b:List Int) (P:Bool→Prop):(Br ((↑a.length:Int) !=(↑b.length:Int)) (P false)
 (Bo
  (fun (v3:Int×PUnit) (k4:Int×PUnit→Prop)=>
   Br (decide (v3.1<(↑a.length:Int))) (∃(y5:Int),idx a v3.1=some y5∧ ∃(y6:Int),idx b v3.1=some y6∧Br (y5 !=y6) (P false) (k4 (IntKind.i64.wrap (v3.1+1),())))
    (P true))
  (0,PUnit.unit)))=fnW tab (look []) Bd Try.f21 (a,b,()) P:=by kernel_rfl
theorem Bfe (a b:List (List Int)) (P:Bool→Prop):(Br ((↑a.length:Int) !=(↑b.length:Int)) (P false)
 (Bo
  (fun (v3:Int×PUnit) (k4:Int×PUnit→Prop)=>
   Br (decide (v3.1<(↑a.length:Int)))
    (∃(y5:List Int),
     idx a v3.1=some y5∧ ∃(y6:List Int),idx b v3.1=some y6∧ ∃(y7:Bool),Bd.fn (y5,y6,())=some y7∧Br (!y7) (P false) (k4 (IntKind.i64.wrap (v3.1+1),())))
    (P true))
  (0,PUnit.unit)))=fnW tab (look [(21,Bd)]) Ag0 Try.f37 (a,b,()) P:=by kernel_rfl
theorem Az7 {n:Nat} {room:Int} (h:roomy room) (h2: ¬Afn n room<0):roomy (Afn n room):=by
 unfold Afn roomy at*
 split at h2<;>simp_all
 omega
theorem Bfz (xs:List Int) (room:Int) (h:short xs∧roomy room):fnW tab (look []) Ann Try.f76 (xs,room,()) (fun (z:Int)=>z=Aeg xs room):=by
 obtain ⟨h1,h2,h3⟩:=h
 unfold short at h1
 refine Eq.mp (Bge xs room _) ?_
 rw [Bp (by omega) (by omega)]
 refine Br.dec (fun h=>?_) fun h=>?_
 ·simp only [Aeg,Afn,if_pos h]
 ·simp only [Aeg,Afn,if_neg h]
theorem Ba8:Sound Try.prog 76 Ann:=
 Sound.mkS Cb Ar mixed Try.func76 (by kernel_rfl) (by kernel_rfl) fun x h=>Bfz x.1 x.2.1 h
theorem Bf1 (xs:List (List Int)) (room:Int) (h:Is xs∧roomy room):fnW tab (look [(76,Ann)]) Ag1 Try.f33 (xs,room,()) (fun (z:Int)=>z=Tj xs room):=by
 obtain ⟨⟨h1,h4⟩,h2,h3⟩:=h
 refine Eq.mp (Bfj xs room _) ?_
 rw [Bp (by omega) (by omega)]
 refine Br.dec (fun h=>?_) fun h=>?_
 ·simp only [Tj,Afn,if_pos h];rfl
 ·refine Ao xs.length (fun v=>v.2.1) (fun j v=>roomy v.1∧Au4 (xs.drop j) v.1=Tj xs room) rfl ?_ ?_
  ·refine ⟨by unfold roomy;omega,?_⟩
   simp only [Tj,Afn,if_neg h,List.drop_zero]
  ·rintro j ⟨r,i,⟨⟩⟩ K hj hi ⟨hr,hR⟩ hK
   dsimp only at hi hr hR⊢
   subst hi
   refine Br.dec (fun hl=>?_) fun hl=>?_
   ·have hl:j<xs.length:=by omega
    have hd:xs.drop j=xs[j]::xs.drop (j+1):=List.drop_eq_getElem_cons hl
    refine ⟨_,Bc hl,_,if_pos ⟨h4 _ (List.getElem_mem hl),hr⟩,?_⟩
    rw [hd] at hR
    simp only [Au4] at hR
    refine Br.dec (fun hn=>?_) fun hn=>?_
    ·have hn:Aeg xs[j] r<0:=hn
     rw [if_pos hn] at hR
     exact hR
    ·have hn: ¬Aeg xs[j] r<0:=hn
     rw [if_neg hn] at hR
     rw [Ak (by omega)]
     exact hK hl _ rfl ⟨Az7 hr hn,hR⟩
   ·have:j=xs.length:=by omega
    subst this
    rw [List.drop_length] at hR
    exact hR
theorem Ax0:Sound Try.prog 33 Ag1:=
 Sound.mkS Cb (Ae Ba8 Ar) mixed Try.func33 (by kernel_rfl) (by kernel_rfl) fun x h=>Bf1 x.1 x.2.1 h
theorem Oi {α:Type} {ys xs:List α} {j:Nat} (h:j<xs.length) (hl:ys.length=xs.length) (ht:ys.take j=xs.take j):(ys.set j xs[j]).take (j+1)=xs.take (j+1):=by
 have h1:j<(ys.set j xs[j]).length:=by rw [List.length_set];omega
 rw [List.take_succ_eq_append_getElem h1,List.take_succ_eq_append_getElem h,List.getElem_set_self,List.take_set_of_le (Nat.le_refl j),ht]
theorem Bg1 (xs:List Int) (h:short xs):fnW tab (look []) Anp Try.f18 (xs,()) (fun (z:List Int)=>z=xs):=by
 unfold short at h
 refine Eq.mp (Bgg xs _) ?_
 refine ⟨⟨by omega,by show (xs.length:Int)<(4294967296:Int)+1;omega⟩,rfl,rfl,rfl,?_⟩
 refine Ao xs.length (fun v=>v.1) (fun j v=>v.2.1.length=xs.length∧v.2.1.take j=xs.take j) rfl ⟨by simp,by simp⟩ ?_
 rintro j ⟨i,ys,⟨⟩⟩ K hj hi ⟨h1,h2⟩ hK
 dsimp only at hi h1 h2⊢
 subst hi
 refine Br.dec (fun hl=>?_) fun hl=>?_
 ·have hl:j<xs.length:=by omega
  refine ⟨_,Bc hl,⟨by omega,by omega⟩,by rw [Int.toNat_natCast];omega,rfl,by rw [List.length_set],?_⟩
  rw [Ak (by omega),Int.toNat_natCast,Nat.zero_add]
  exact hK hl _ rfl ⟨by rw [List.length_set];exact h1,Oi hl h1 h2⟩
 ·have:j=xs.length:=by omega
  subst this
  rw [List.take_length,←h1,List.take_length] at h2
  rw [List.drop_zero,List.take_length]
  exact h2
theorem Baa:Sound Try.prog 18 Anp:=
 Sound.mkS Cb Ar mixed Try.func18 (by kernel_rfl) (by kernel_rfl) fun x h=>Bg1 x.1 h
theorem Bf2 (xs:List (List Int)) (h:Is xs):fnW tab (look [(18,Anp)]) Ag2 Try.f35 (xs,()) (fun (z:List (List Int))=>z=xs):=by
 obtain ⟨h,h4⟩:=h
 refine Eq.mp (Bfk xs _) ?_
 refine ⟨⟨by omega,by show (xs.length:Int)<(4294967296:Int)+1;omega⟩,rfl,rfl,rfl,?_⟩
 refine Ao xs.length (fun v=>v.1) (fun j v=>v.2.1.length=xs.length∧v.2.1.take j=xs.take j) rfl ⟨by simp,by simp⟩ ?_
 rintro j ⟨i,ys,⟨⟩⟩ K hj hi ⟨h1,h2⟩ hK
 dsimp only at hi h1 h2⊢
 subst hi
 refine Br.dec (fun hl=>?_) fun hl=>?_
 ·have hl:j<xs.length:=by omega
  refine ⟨_,Bc hl,_,if_pos (h4 _ (List.getElem_mem hl)),⟨by omega,by omega⟩,by rw [Int.toNat_natCast];omega,rfl,by rw [List.length_set],?_⟩
  rw [Ak (by omega),Int.toNat_natCast,Nat.zero_add]
  exact hK hl _ rfl ⟨by rw [List.length_set];exact h1,Oi hl h1 h2⟩
 ·have:j=xs.length:=by omega
  subst this
  rw [List.take_length,←h1,List.take_length] at h2
  rw [List.drop_zero,List.take_length]
  exact h2
theorem Ax1:Sound Try.prog 35 Ag2:=
 Sound.mkS Cb (Ae Baa Ar) mixed Try.func35 (by kernel_rfl) (by kernel_rfl) fun x h=>Bf2 x.1 h
theorem Bfv (a b:List Int) (h:short a):fnW tab (look []) Bd Try.f21 (a,b,()) (fun (z:Bool)=>z=Dx a b):=by
 refine Eq.mp (Bga a b _) ⟨fun hl=>?_,fun hl=>?_⟩
 ·simp only [bne_iff_ne,ne_eq,Int.natCast_inj] at hl
  exact (decide_eq_false fun hab=>hl (by rw [hab])).symm
 ·simp only [bne_eq_false_iff_eq,Int.natCast_inj] at hl
  exact Aob a b hl h
theorem Ba3:Sound Try.prog 21 Bd:=
 Sound.mkS Cb Ar mixed Try.func21 (by kernel_rfl) (by kernel_rfl) fun x h=>Bfv x.1 x.2.1 h
theorem Bew (a b:List (List Int)) (h:Is a):fnW tab (look [(21,Bd)]) Ag0 Try.f37 (a,b,()) (fun (z:Bool)=>z=Afm a b):=by
 obtain ⟨h,h4⟩:=h
 refine Eq.mp (Bfe a b _) ⟨fun hl=>?_,fun hl=>?_⟩
 ·simp only [bne_iff_ne,ne_eq,Int.natCast_inj] at hl
  exact (decide_eq_false fun hab=>hl (by rw [hab])).symm
 ·simp only [bne_eq_false_iff_eq,Int.natCast_inj] at hl
  refine Ao a.length (fun v=>v.1) (fun j _=>a.take j=b.take j) rfl (by simp) ?_
  rintro j ⟨i,⟨⟩⟩ K hj hi hR hK
  dsimp only at hi⊢
  subst hi
  refine Br.dec (fun hlt=>?_) fun hlt=>?_
  ·have hl1:j<a.length:=by omega
   have hl2:j<b.length:=by omega
   refine ⟨_,Bc hl1,_,Bc hl2,_,if_pos (h4 _ (List.getElem_mem hl1)),⟨fun he=>?_,fun he=>?_⟩⟩
   ·refine (decide_eq_false fun hab=>?_).symm
    subst hab
    simp [Dx] at he
   ·rw [Ak (by omega)]
    refine hK hl1 _ rfl ?_
    simp only [Dx,Bool.not_eq_false',decide_eq_true_eq] at he
    rw [List.take_succ_eq_append_getElem hl1,List.take_succ_eq_append_getElem hl2,hR]
    exact congrArg (fun x=>List.take j b++ [x]) he
  ·have hj':j=a.length:=by omega
   subst hj'
   rw [List.take_length,hl,List.take_length] at hR
   exact (decide_eq_true hR).symm
theorem Awy:Sound Try.prog 37 Ag0:=
 Sound.mkS Cb (Ae Ba3 Ar) mixed Try.func37 (by kernel_rfl) (by kernel_rfl) fun x h=>Bew x.1 x.2.1 h
end Go.Proofs.Ytebabhocakedaaa

namespace Go.Proofs.Ytebabhocakedaaa
open Go.RowKit
def DL (n:Int) (xs:List Int) (k:Nat):Prop:= ∀j (h:j<xs.length),j<k→0≤xs[j]∧xs[j]≤n-1∧xs[j]∉xs.take j
noncomputable def dec (p:Prop):Bool:= @decide p (Classical.propDecidable p)
theorem Js {p:Prop} (h:p):true=dec p:=(@decide_eq_true p (Classical.propDecidable p) h).symm
theorem Bu {p:Prop} (h: ¬p):false=dec p:=(@decide_eq_false p (Classical.propDecidable p) h).symm
theorem Dg {p:Prop} :dec p=true↔p:= @decide_eq_true_iff p (Classical.propDecidable p)
theorem Bdd {p:Prop} :dec p=false↔ ¬p:= @decide_eq_false_iff_not p (Classical.propDecidable p)
noncomputable abbrev Aax:Spec:=mkS (.pair tLL .unit) tI false true (fun _=>True) (fun x=>(List.length x.1:Int))
theorem Be3 (xs:List (List Int)) (P:Int→Prop):(P (↑xs.length:Int))=fnW tab (look []) Aax Try.f67 (xs,()) P:=by kernel_rfl
theorem Bdn (xs:List (List Int)) (_:True):fnW tab (look []) Aax Try.f67 (xs,()) (fun (z:Int)=>z=(xs.length:Int)):=Eq.mp (Be3 xs _) rfl
theorem Atx:Sound Try.prog 67 Aax:=
 Sound.mkS Cb Ar mixed Try.func67 (by kernel_rfl) (by kernel_rfl) fun x h=>Bdn x.1 h
theorem Cv {x a b:Int} :Fy x a b=true↔a≤x∧x≤b:=decide_eq_true_iff
theorem Fv {b:Bool} (h:(!b)=true): ¬b=true:=by cases b<;>simp_all
theorem Hb {b:Bool} (h:(!b)=false):b=true:=by cases b<;>simp_all
theorem Bde {n:Int} {xs:List Int} {j:Nat} (hl:j<xs.length) (h:DL n xs j) (h1:0≤xs[j]) (h2:xs[j]≤n-1) (h3:xs[j]∉xs.take j):DL n xs (j+1):=by
 intro i hi hij
 by_cases e:i=j
 ·subst e;exact ⟨h1,h2,h3⟩
 ·exact h i hi (by omega)
theorem Awu {xs:List Int} (h:short xs) (j:Nat):short (xs.take j):=by
 unfold short at*
 rw [List.length_take]
 omega
end Go.Proofs.Ytebabhocakedaaa

namespace Go.Proofs.Ytebabhocakedaaa
open Go.RowKit
theorem Atm:roomy 1048576:=⟨by decide,by decide⟩
end Go.Proofs.Ytebabhocakedaaa

namespace Go.Proofs.Ytebabhocakedaaa
open Go.RowKit
abbrev PP:Type:=Int×ByteArray×List (List Int)×Unit
noncomputable def Ev (p:List Int):Bool:=dec (1≤p.length∧p.length≤20∧DL p.length p p.length)
noncomputable def Di (n:Int) (p:List Int):Bool:=dec ((p.length:Int)=n∧Ev p=true)
noncomputable def Ov (n:Int) (g:List (List Int)):Bool:=dec ((1≤n∧n≤20)∧g.length≤8∧ ∀p∈g,Di n p=true)
def Fk {α:Type} (P:α→Bool):List α→Int→Int
 | [],_=> -1
 |y::r,i=>if P y=true then i else Fk P r (i+1)
abbrev tG1:Ty:= .clo 174 (.pair (.ptr tI) .unit)
def Anv (s:ByteArray) (i:Nat):Prop:= ∃c:UInt8,s[i]?=some c∧65≤c.toNat∧c.toNat≤90∧ ∀k,k<i→s[k]?≠some c
noncomputable def Aed (s:ByteArray) (i:Int):Bool:=dec (Anv s i.toNat)
noncomputable def Up (s:ByteArray):Bool:=dec ((1≤s.size∧s.size≤8)∧ ∀j,j<s.size→Anv s j)
noncomputable def At (p:PP):Bool:=dec (Ov p.1 p.2.2.1=true∧Up p.2.1=true∧p.2.1.size=p.2.2.1.length)
def Ed (p:PP):Prop:=p.2.1.size≤4294967296∧Is p.2.2.1
noncomputable abbrev Ns:Spec:=mkS (.pair tL .unit) tI false true (fun _=>True) (fun x=>(List.length x.1:Int))
noncomputable abbrev Gf:Spec:=mkS (.pair tL .unit) .bool false true (fun x=>short x.1) (fun x=>Ev x.1)
noncomputable abbrev Iy:Spec:=mkS (.pair tI (.pair tLL .unit)) .bool false true (fun x=>Is x.2.1) (fun x=>Ov x.1 x.2.1)
noncomputable abbrev Aaw:Spec:=mkS (.pair tL (.pair (.ptr tI) .unit)) .bool false true (fun x=>short x.1) (fun x=>!Di x.2.1 x.1)
noncomputable abbrev Anm:Spec:=mkS (.pair tLL (.pair tG1 .unit)) tI false true (fun x=>Is x.1) (fun x=>Fk (fun p=>!Di x.2.1.1 p) x.1 0)
noncomputable abbrev Anj:Spec:=mkS (.pair tLL (.pair tG1 .unit)) .bool false true (fun x=>Is x.1) (fun x=>List.any x.1 (fun p=>!Di x.2.1.1 p))
noncomputable abbrev Uv:Spec:=mkS (.pair .str (.pair tI .unit)) .bool false true (fun x=>0≤x.2.1∧x.2.1<x.1.size∧x.1.size≤4294967296) (fun x=>Aed x.1 x.2.1)
noncomputable abbrev Qp:Spec:=mkS (.pair .str .unit) .bool false true (fun x=>x.1.size≤4294967296) (fun x=>Up x.1)
noncomputable abbrev Dp:Spec:=mkS (.pair Db .unit) .bool false true (fun x=>Ed x.1) (fun x=>At x.1)
def Zi (p:PP) (room:Int):Int:=if room-p.2.1.size<0 then-1 else if Tj p.2.2.1 (room-p.2.1.size)<0 then-1 else Tj p.2.2.1 (room-p.2.1.size)
def Agy (a b:PP):Bool:=decide (a.1=b.1)&&(decide (a.2.1=b.2.1)&&decide (a.2.2.1=b.2.2.1))
noncomputable abbrev Ano:Spec:=mkS (.pair Db (.pair tI .unit)) tI false true (fun x=>Ed x.1∧roomy x.2.1) (fun x=>Zi x.1 x.2.1)
noncomputable abbrev Aha:Spec:=mkS (.pair Db .unit) Db false true (fun x=>Ed x.1) (fun x=>x.1)
noncomputable abbrev Ank:Spec:=mkS (.pair Db (.pair Db .unit)) .bool false true (fun x=>Ed x.1) (fun x=>Agy x.1 x.2.1)
theorem Bfg (xs:List Int) (P:Int→Prop):(P (↑xs.length:Int))=fnW tab (look []) Ns Try.f127 (xs,()) P:=by kernel_rfl
theorem Aqv (p:List Int) (P:Bool→Prop):(∃(y2:Bool),
 Cc.fn ((↑p.length:Int),(1:Int),(20:Int),())=some y2∧
  Br (!y2) (P false)
   (Bo
    (fun (v3:Int×PUnit) (k4:Int×PUnit→Prop)=>
     Br (decide (v3.1<(↑p.length:Int)))
      (∃(y5:Int),
       idx p v3.1=some y5∧
        ∃(y6:Bool),
         Cc.fn (y5,(0:Int),IntKind.i64.wrap ((↑p.length:Int)-(1:Int)),())=some y6∧
          Br (!y6) (P false)
           (((0:Int)≤(0:Int)∧(0:Int)≤v3.1∧v3.1≤(↑p.length:Int))∧
            ∃(y7:Int),
             idx p v3.1=some y7∧
              ∃(y8:Bool),
               En.fn (List.drop (Int.toNat (0:Int)) (List.take v3.1.toNat p),y7,())=some y8∧Br y8 (P false) (k4 (IntKind.i64.wrap (v3.1+(1:Int)),()))))
      (P true))
    ((0:Int),PUnit.unit)))=fnW tab (look [(122,Cc),(152,En)]) Gf Try.f169 (p,()) P:=by kernel_rfl
theorem Aqp (p:List Int) (P:Bool→Prop):(∃(y2:Int),
 Ns.fn (p,())=some y2∧
  ∃(y3:Bool),
   Cc.fn (y2,(1:Int),(20:Int),())=some y3∧
    Br (!y3) (P false)
     (Bo
      (fun (v4:Int×Int×PUnit) (k5:Int×Int×PUnit→Prop)=>
       Br (decide (v4.2.1<(↑p.length:Int)))
        (∃(y6:Int),
         idx p v4.2.1=some y6∧
          ∃(y7:Int),
           Ns.fn (p,())=some y7∧
            ∃(y8:Bool),
             Cc.fn (y6,(0:Int),IntKind.i64.wrap (y7-(1:Int)),())=some y8∧
              Br (!y8) (P false)
               (¬y6<(0:Int)∧
                k5
                 (IntKind.i64.wrap
                   (↑(BitVec.ofInt IntKind.i64.bits v4.1|||BitVec.ofInt IntKind.i64.bits (IntKind.i64.wrap ((1:Int)*(2:Int)^min y6.toNat IntKind.i64.bits))).toNat:
                    Int),
                  IntKind.i64.wrap (v4.2.1+(1:Int)),())))
        (¬(↑p.length:Int)<(0:Int)∧P (v4.1==IntKind.i64.wrap (IntKind.i64.wrap ((1:Int)*(2:Int)^min (↑p.length:Int).toNat IntKind.i64.bits)-(1:Int)))))
      ((0:Int),(0:Int),PUnit.unit)))=fnW tab (look [(108,Cc),(127,Ns)]) Gf Try.f170 (p,()) P:=by kernel_rfl
theorem Aqu (n:Int) (g:List (List Int)) (P:Bool→Prop):(∃(y3:Bool),
 Cc.fn (n,(1:Int),(20:Int),())=some y3∧
  Br (!y3) (P false)
   (Br (decide ((↑g.length:Int)>(8:Int))) (P false)
    (Bo
     (fun (v4:Int×PUnit) (k5:Int×PUnit→Prop)=>
      Br (decide (v4.1<(↑g.length:Int)))
       (∃(y6:List Int),
        idx g v4.1=some y6∧
         Br ((↑y6.length:Int) !=n) (P false)
          (∃(y7:List Int),idx g v4.1=some y7∧ ∃(y8:Bool),Gf.fn (y7,())=some y8∧Br (!y8) (P false) (k5 (IntKind.i64.wrap (v4.1+(1:Int)),()))))
       (P true))
     ((0:Int),PUnit.unit))))=fnW tab (look [(122,Cc),(169,Gf)]) Iy Try.f148 (n,g,()) P:=by kernel_rfl
theorem Be1 (p:List Int) (n:Int) (P:Bool→Prop):(∃(y3:Int),Ns.fn (p,())=some y3∧Br (y3 !=n) (P true) (∃(y4:Bool),Gf.fn (p,())=some y4∧P !y4))=fnW tab (look [(127,Ns),(170,Gf)]) Aaw Try.f174 (p,n,()) P:=by kernel_rfl
theorem Bgd (g:List (List Int)) (n:Int×Unit) (P:Int→Prop):(Bo
 (fun (v3:Int×PUnit) (k4:Int×PUnit→Prop)=>
  Br (decide (v3.1<(↑g.length:Int)))
   (∃(y5:List Int),idx g v3.1=some y5∧ ∃(y6:Bool),Aaw.fn (y5,n.1,())=some y6∧Br y6 (P v3.1) (k4 (IntKind.i64.wrap (v3.1+(1:Int)),()))) (P (-1:Int)))
 ((0:Int),PUnit.unit))=fnW tab (look [(174,Aaw)]) Anm Try.f181 (g,n,()) P:=by kernel_rfl
theorem Bg9 (g:List (List Int)) (n:Int×Unit) (P:Bool→Prop):(∃(y3:Int),Anm.fn (g,n,())=some y3∧P (decide (y3≥(0:Int))))=fnW tab (look [(181,Anm)]) Anj Try.f173 (g,n,()) P:=by kernel_rfl
theorem Aqo (n:Int) (g:List (List Int)) (P:Bool→Prop):(∃(y3:Bool),
 Cc.fn (n,(1:Int),(20:Int),())=some y3∧Br y3 (Br (decide ((↑g.length:Int)≤(8:Int))) (∃(y4:Bool),Anj.fn (g,(n,()),())=some y4∧P !y4) (P false)) (P false))=fnW tab (look [(108,Cc),(173,Anj)]) Iy Try.f157 (n,g,()) P:=by kernel_rfl
theorem Bd3 (s:ByteArray) (i:Int) (P:Bool→Prop):((0:Int)≤i∧
 ∃(y3:UInt8),
  s[i.toNat]?=some y3∧
   Br (decide ((↑y3.toNat:Int)<(65:Int))) (P false)
    ((0:Int)≤i∧
     ∃(y4:UInt8),
      s[i.toNat]?=some y4∧
       Br (decide ((↑y4.toNat:Int)>(90:Int))) (P false)
        (Bo
         (fun (v5:Int×PUnit) (k6:Int×PUnit→Prop)=>
          Br (decide (v5.1<i))
           ((0:Int)≤v5.1∧
            ∃(y7:UInt8),
             s[v5.1.toNat]?=some y7∧
              (0:Int)≤i∧ ∃(y8:UInt8),s[i.toNat]?=some y8∧Br ((↑y7.toNat:Int)==(↑y8.toNat:Int)) (P false) (k6 (IntKind.i64.wrap (v5.1+(1:Int)),())))
           (P true))
         ((0:Int),PUnit.unit))))=fnW tab (look []) Uv Try.f149 (s,i,()) P:=by kernel_rfl
theorem Bar (s:ByteArray) (P:Bool→Prop):(Bo
 (fun (v2:Int×PUnit) (k3:Int×PUnit→Prop)=>
  Br (decide (v2.1<(↑s.size:Int)))
   ((0:Int)≤v2.1∧
    ∃(y4:UInt8),
     s[v2.1.toNat]?=some y4∧
      ∃(y5:Bool),
       Cc.fn (IntKind.i64.wrap (↑y4.toNat:Int),(65:Int),(90:Int),())=some y5∧
        Br (!y5) (P false)
         (Bo
          (fun (v6:Int×PUnit) (k7:Int×PUnit→Prop)=>
           Br (decide (v6.1<v2.1))
            ((0:Int)≤v6.1∧
             ∃(y8:UInt8),
              s[v6.1.toNat]?=some y8∧
               (0:Int)≤v2.1∧ ∃(y9:UInt8),s[v2.1.toNat]?=some y9∧Br ((↑y8.toNat:Int)==(↑y9.toNat:Int)) (P false) (k7 (IntKind.i64.wrap (v6.1+(1:Int)),())))
            (k3 (IntKind.i64.wrap (v2.1+(1:Int)),())))
          ((0:Int),PUnit.unit)))
   (∃(y4:Bool),Cc.fn ((↑s.size:Int),(1:Int),(8:Int),())=some y4∧P y4))
 ((0:Int),PUnit.unit))=fnW tab (look [(108,Cc)]) Qp Try.f158 (s,()) P:=by kernel_rfl
theorem Aqx (p:Int×ByteArray×List (List Int)×Unit) (P:Bool→Prop):(Br ((↑p.2.2.1.length:Int)==(0:Int)) (P false)
 (Br ((↑p.2.1.size:Int) !=(↑p.2.2.1.length:Int)) (P false)
  (∃(y2:Bool),
   Iy.fn (p.1,p.2.2.1,())=some y2∧
    Br (!y2) (P false)
     (Bo
      (fun (v3:Int×Int×ByteArray×List (List Int)×PUnit) (k4:Int×Int×ByteArray×List (List Int)×PUnit→Prop)=>
       Br (decide (v3.1<(↑v3.2.2.1.size:Int)))
        (∃(y5:Bool),Uv.fn (v3.2.2.1,v3.1,())=some y5∧Br (!y5) (P false) (k4 (IntKind.i64.wrap (v3.1+(1:Int)),v3.2.1,v3.2.2.1,v3.2.2.2.1,())))
        (P true))
      ((0:Int),p.1,p.2.1,p.2.2.1,PUnit.unit)))))=fnW tab (look [(148,Iy),(149,Uv)]) Dp Try.f99 (p,()) P:=by kernel_rfl
theorem Aqr (p:Int×ByteArray×List (List Int)×Unit) (P:Bool→Prop):(∃(y2:Bool),
 Iy.fn (p.1,p.2.2.1,())=some y2∧Br y2 (∃(y3:Bool),Qp.fn (p.2.1,())=some y3∧Br y3 (P ((↑p.2.1.size:Int)==(↑p.2.2.1.length:Int))) (P false)) (P false))=fnW tab (look [(157,Iy),(158,Qp)]) Dp Try.f124 (p,()) P:=by kernel_rfl
theorem Bgf (p:Int×ByteArray×List (List Int)×Unit) (room:Int) (P:Int→Prop):(Br (decide (IntKind.i64.wrap (room-(↑p.2.1.size:Int))<(0:Int))) (P (-1:Int))
 (∃(y3:Int),Ag1.fn (p.2.2.1,IntKind.i64.wrap (room-(↑p.2.1.size:Int)),())=some y3∧Br (decide (y3<(0:Int))) (P (-1:Int)) (P y3)))=fnW tab (look [(33,Ag1)]) Ano Try.f15 (p,room,()) P:=by kernel_rfl
theorem Bgh (p:Int×ByteArray×List (List Int)×Unit) (P:(Int×ByteArray×List (List Int)×Unit)→Prop):(∃(y2:List (List Int)),Ag2.fn (p.2.2.1,())=some y2∧P (p.1,p.2.1,y2,()))=fnW tab (look [(35,Ag2)]) Aha Try.f17 (p,()) P:=by kernel_rfl
theorem Bgb (a b:Int×ByteArray×List (List Int)×Unit) (P:Bool→Prop):(Br (a.1 !=b.1) (P false) (Br (!a.2.1.toList==b.2.1.toList) (P false) (∃(y3:Bool),Ag0.fn (a.2.2.1,b.2.2.1,())=some y3∧Br (!y3) (P false) (P true))))=fnW tab (look [(37,Ag0)]) Ank Try.f20 (a,b,()) P:=by kernel_rfl
theorem Bey (xs:List Int) (_:True):fnW tab (look []) Ns Try.f127 (xs,()) (fun (z:Int)=>z=(xs.length:Int)):=Eq.mp (Bfg xs _) rfl
theorem Ad5:Sound Try.prog 127 Ns:=
 Sound.mkS Cb Ar mixed Try.func127 (by kernel_rfl) (by kernel_rfl) fun x h=>Bey x.1 h
theorem Aqe {α:Type} [DecidableEq α]: ∀(l m:List α),l.Nodup→(∀x∈l,x∈m)→l.length≤m.length
 | [],m,_,_=>Nat.zero_le _
 |a::l,m,hn,hs=>by
  have ha:a∈m:=hs a (List.mem_cons_self ..)
  have hn:=List.nodup_cons.1 hn
  have:=Aqe l (m.erase a) hn.2 fun x hx=>(List.mem_erase_of_ne (fun (e:x=a)=>hn.1 (by rw [←e];exact hx))).2 (hs x (List.mem_cons_of_mem _ hx))
  rw [List.length_erase_of_mem ha] at this
  have:0<m.length:=List.length_pos_of_mem ha
  simp only [List.length_cons]
  omega
def upto (n:Nat):List Int:=(List.range n).map Int.ofNat
theorem Rw (n:Nat):(upto n).Nodup:=by
 unfold upto
 exact List.Pairwise.map _ (fun a b hab e=>hab (Int.ofNat.inj e)) List.nodup_range
theorem Hw {n:Nat} {x:Int} :x∈upto n↔0≤x∧x<n:=by
 unfold upto
 simp only [List.mem_map,List.mem_range]
 constructor
 ·rintro ⟨a,ha,rfl⟩;exact ⟨Int.natCast_nonneg _,Int.ofNat_lt.2 ha⟩
 ·rintro ⟨h1,h2⟩;exact ⟨x.toNat,by omega,by simp only [Int.ofNat_eq_natCast];omega⟩
theorem Ia (n:Nat):(upto n).length=n:=by simp [upto]
theorem Zj {xs:List Int} (h: ∀j (hj:j<xs.length),xs[j]∉xs.take j):xs.Nodup:=by
 refine List.pairwise_iff_getElem.2 fun i j hi hj hij e=>h j hj ?_
 rw [←e]
 exact List.mem_take_iff_getElem.2 ⟨i,by omega,rfl⟩
theorem Akx {xs:List Int} (h:xs.Nodup): ∀j (hj:j<xs.length),xs[j]∉xs.take j:=by
 intro j hj hm
 obtain ⟨i,hi,e⟩:=List.mem_take_iff_getElem.1 hm
 exact List.pairwise_iff_getElem.1 h i j (by omega) hj (by omega) e
theorem Td {xs:List Int} (h: ∀x∈xs,0≤x∧x<xs.length):(∀k:Nat,k<xs.length→(k:Int)∈xs)↔ ∀j (hj:j<xs.length),xs[j]∉xs.take j:=by
 constructor
 ·intro ha j hj hm
  have h1:=Aqe (upto xs.length) (xs.take j++xs.drop (j+1)) (Rw _) fun x hx=>by
   obtain ⟨h1,h2⟩:=Hw.1 hx
   have hx:=ha x.toNat (by omega)
   rw [show ((x.toNat:Nat):Int)=x by omega] at hx
   rw [←List.take_append_drop j xs,List.mem_append,List.drop_eq_getElem_cons hj,List.mem_cons] at hx
   rcases hx with hx|rfl|hx
   ·exact List.mem_append_left _ hx
   ·exact List.mem_append_left _ hm
   ·exact List.mem_append_right _ hx
  rw [Ia,List.length_append,List.length_take,List.length_drop] at h1
  omega
 ·intro hn k hk
  refine Classical.byContradiction fun hc=>?_
  have h1:=Aqe xs ((upto xs.length).erase (k:Int)) (Zj hn) fun x hx=>by
   refine (List.mem_erase_of_ne fun (e:x=(k:Int))=>hc (by rw [←e];exact hx)).2 (Hw.2 (h x hx))
  rw [List.length_erase_of_mem (Hw.2 ⟨by omega,by omega⟩),Ia] at h1
  omega
def mask (xs:List Int):Nat:=xs.foldl (fun m x=>m|||2^x.toNat) 0
theorem Az8 (xs:List Int) (x:Int):mask (xs++ [x])=mask xs|||2^x.toNat:=by simp [mask]
theorem Ap1 (xs:List Int) (k:Nat): ∀a:Nat,(xs.foldl (fun m x=>m|||2^x.toNat) a).testBit k=(a.testBit k||xs.any fun x=>decide (x.toNat=k)):=by
 induction xs with
 |nil=>simp
 |cons x xs ih=>
  intro a
  rw [List.foldl_cons,ih,Nat.testBit_or,Nat.testBit_two_pow,List.any_cons,Bool.or_assoc]
theorem Ajk (xs:List Int) (k:Nat):(mask xs).testBit k=xs.any fun x=>decide (x.toNat=k):=by
 unfold mask
 rw [Ap1,Nat.zero_testBit,Bool.false_or]
theorem Bdh {xs:List Int} {n:Nat} (h: ∀x∈xs,x.toNat<n):mask xs<2^n:=by
 refine Nat.lt_pow_two_of_testBit _ fun k hk=>?_
 rw [Ajk]
 refine Bool.eq_false_iff.2 fun ht=>?_
 obtain ⟨x,hx,he⟩:=List.any_eq_true.1 ht
 have:=h x hx
 have:=of_decide_eq_true he
 omega
theorem An2 {xs:List Int} (h: ∀x∈xs,0≤x∧x<xs.length):mask xs=2^xs.length-1↔ ∀k:Nat,k<xs.length→(k:Int)∈xs:=by
 constructor
 ·intro e k hk
  have h1:=Ajk xs k
  rw [e,Nat.testBit_two_pow_sub_one,decide_eq_true hk] at h1
  obtain ⟨x,hx,he⟩:=List.any_eq_true.1 h1.symm
  have:=(h x hx).1
  have:=of_decide_eq_true he
  have e:x=(k:Int):=by omega
  exact e▸hx
 ·intro ha
  refine Nat.eq_of_testBit_eq fun k=>?_
  rw [Ajk,Nat.testBit_two_pow_sub_one]
  by_cases hk:k<xs.length
  ·rw [decide_eq_true hk]
   exact List.any_eq_true.2 ⟨k,ha k hk,by simp⟩
  ·rw [decide_eq_false hk]
   refine Bool.eq_false_iff.2 fun ht=>?_
   obtain ⟨x,hx,he⟩:=List.any_eq_true.1 ht
   have:=h x hx
   have:=of_decide_eq_true he
   omega
theorem Bdj {m:Nat} {x:Int} (hm:m<2^20) (h0:0≤x) (h1:x<20):
  IntKind.i64.wrap (((BitVec.ofInt IntKind.i64.bits (m:Int)|||BitVec.ofInt IntKind.i64.bits (IntKind.i64.wrap ((1:Int)*(2:Int)^min x.toNat IntKind.i64.bits))).toNat:Nat):Int)=((m|||2^x.toNat:Nat):Int):=by
 have hx:(2:Nat)^x.toNat<2^20:=Nat.pow_lt_pow_right (by omega) (by omega)
 have e1:min x.toNat IntKind.i64.bits=x.toNat:=by show min x.toNat 64=_;omega
 have e2:(1:Int)*(2:Int)^x.toNat=((2^x.toNat:Nat):Int):=by rw [Int.one_mul];exact (Int.natCast_pow 2 _).symm
 rw [e1,e2,Bp (n:=((2^x.toNat:Nat):Int)) (by have:(0:Int)≤((2^x.toNat:Nat):Int):=Int.natCast_nonneg _;omega) (by omega)]
 show IntKind.i64.wrap (((BitVec.ofInt 64 (m:Int)|||BitVec.ofInt 64 ((2^x.toNat:Nat):Int)).toNat:Nat):Int)=_
 rw [BitVec.ofInt_natCast,BitVec.ofInt_natCast,BitVec.toNat_or,BitVec.toNat_ofNat,BitVec.toNat_ofNat,Nat.mod_eq_of_lt (by omega),Nat.mod_eq_of_lt (by omega)]
 have:=Nat.or_lt_two_pow hm hx
 exact Bp (by omega) (by omega)
theorem Apc (p:List Int) (h:short p):fnW tab (look [(122,Cc),(152,En)]) Gf Try.f169 (p,()) (fun (z:Bool)=>z=Ev p):=by
 have hs:=h
 unfold short at h
 refine Eq.mp (Aqv p _) ⟨_,if_pos trivial,⟨fun hp=>?_,fun hp=>?_⟩⟩
 ·have hp:=Fv hp
  rw [Cv] at hp
  dsimp only at hp
  exact Bu fun hh=>hp ⟨by omega,by omega⟩
 ·have hp:=Hb hp
  rw [Cv] at hp
  dsimp only at hp
  refine Ao p.length (fun v=>v.1) (fun j _=>DL p.length p j) rfl (fun j _ hj=>absurd hj (Nat.not_lt_zero _)) ?_
  rintro j ⟨i,⟨⟩⟩ K hj hi hR hK
  dsimp only at hi⊢
  subst hi
  refine Br.dec (fun hl=>?_) fun hl=>?_
  ·have hl:j<p.length:=by omega
   refine ⟨_,Bc hl,_,if_pos trivial,⟨fun hq=>?_,fun hq=>?_⟩⟩
   ·have hq:=Fv hq
    rw [Cv,Bp (by omega) (by omega)] at hq
    exact Bu fun hh=>hq ⟨(hh.2.2 j hl hl).1,(hh.2.2 j hl hl).2.1⟩
   ·have hq:=Hb hq
    rw [Cv,Bp (by omega) (by omega)] at hq
    refine ⟨⟨by omega,by omega,by omega⟩,_,Bc hl,?_⟩
    rw [show (Int.toNat 0)=0 from rfl,List.drop_zero,Int.toNat_natCast]
    refine ⟨_,if_pos (Awu hs j),⟨fun hc=>?_,fun hc=>?_⟩⟩
    ·have hc:decide (p[j]∈p.take j)=true:=hc
     rw [decide_eq_true_iff] at hc
     exact Bu fun hh=>(hh.2.2 j hl hl).2.2 hc
    ·have hc:decide (p[j]∈p.take j)=false:=hc
     rw [decide_eq_false_iff_not] at hc
     rw [Ak (by omega)]
     exact hK hl _ rfl (Bde hl hR hq.1 hq.2 hc)
  ·have:j=p.length:=by omega
   subst this
   exact Js ⟨by omega,by omega,hR⟩
theorem Va:Sound Try.prog 169 Gf:=
 Sound.mkS Cb (Ae Abp (Ae Ss Ar)) mixed Try.func169 (by kernel_rfl) (by kernel_rfl) fun x h=>Apc x.1 h
theorem Ap6 (p:List Int) (h:short p):fnW tab (look [(108,Cc),(127,Ns)]) Gf Try.f170 (p,()) (fun (z:Bool)=>z=Ev p):=by
 unfold short at h
 refine Eq.mp (Aqp p _) ⟨_,if_pos trivial,_,if_pos trivial,⟨fun hp=>?_,fun hp=>?_⟩⟩
 ·have hp:=Fv hp
  rw [Cv] at hp
  dsimp only at hp
  exact Bu fun hh=>hp ⟨by omega,by omega⟩
 ·have hp:=Hb hp
  rw [Cv] at hp
  dsimp only at hp
  refine Ao p.length (fun v=>v.2.1) (fun j v=>v.1=(mask (p.take j):Int)∧ ∀x∈p.take j,0≤x∧x<p.length) rfl ⟨rfl,by simp⟩ ?_
  rintro j ⟨m,i,⟨⟩⟩ K hj hi ⟨hm,hR⟩ hK
  dsimp only at hi hm⊢
  subst hi hm
  refine Br.dec (fun hl=>?_) fun hl=>?_
  ·have hl:j<p.length:=by omega
   refine ⟨_,Bc hl,_,if_pos trivial,_,if_pos trivial,⟨fun hq=>?_,fun hq=>?_⟩⟩
   ·have hq:=Fv hq
    rw [Cv] at hq
    dsimp only at hq
    rw [Bp (by omega) (by omega)] at hq
    exact Bu fun hh=>hq ⟨(hh.2.2 j hl hl).1,(hh.2.2 j hl hl).2.1⟩
   ·have hq:=Hb hq
    rw [Cv] at hq
    dsimp only at hq
    rw [Bp (by omega) (by omega)] at hq
    refine ⟨by omega,?_⟩
    rw [Ak (by omega)]
    have hb:mask (p.take j)<2^20:=Bdh fun x hx=>by have:=hR x hx;omega
    refine hK hl _ rfl ⟨?_,?_⟩
    ·dsimp only
     rw [Bdj hb hq.1 (by omega),List.take_succ_eq_append_getElem hl,Az8]
    ·rw [List.take_succ_eq_append_getElem hl]
     intro x hx
     rcases List.mem_append.1 hx with hx|hx
     ·exact hR x hx
     ·rw [List.mem_singleton.1 hx];omega
  ·have:j=p.length:=by omega
   subst this
   rw [List.take_length] at hR⊢
   refine ⟨by omega,?_⟩
   have hx:(2:Nat)^p.length≤2^20:=Nat.pow_le_pow_right (by omega) (by omega)
   have hpos:0<(2:Nat)^p.length:=Nat.two_pow_pos _
   have e1:min (p.length:Int).toNat IntKind.i64.bits=p.length:=by show min (p.length:Int).toNat 64=_;omega
   have e2:(1:Int)*(2:Int)^p.length=((2^p.length:Nat):Int):=by rw [Int.one_mul];exact (Int.natCast_pow 2 _).symm
   rw [e1,e2,Bp (n:=((2^p.length:Nat):Int)) (by omega) (by omega),Bp (by omega) (by omega)]
   have hE:((mask p:Int)==((2^p.length:Nat):Int)-1)=decide (mask p=2^p.length-1):=by
    rw [Bool.eq_iff_iff,beq_iff_eq,decide_eq_true_iff]
    omega
   show ((mask p:Int)==((2^p.length:Nat):Int)-1)=Ev p
   rw [hE]
   by_cases hf:mask p=2^p.length-1
   ·rw [decide_eq_true hf]
    have hn:=(Td hR).1 ((An2 hR).1 hf)
    refine Js ⟨by omega,by omega,fun j hj _=>?_⟩
    have:=hR _ (List.getElem_mem hj)
    exact ⟨this.1,by omega,hn j hj⟩
   ·rw [decide_eq_false hf]
    refine Bu fun hh=>hf ((An2 hR).2 ((Td hR).2 fun j hj=>(hh.2.2 j hj hj).2.2))
theorem Ag6:Sound Try.prog 170 Gf:=
 Sound.mkS Cb (Ae Qh (Ae Ad5 Ar)) mixed Try.func170 (by kernel_rfl) (by kernel_rfl) fun x h=>Ap6 x.1 h
theorem Apb (n:Int) (g:List (List Int)) (h:Is g):fnW tab (look [(122,Cc),(169,Gf)]) Iy Try.f148 (n,g,()) (fun (z:Bool)=>z=Ov n g):=by
 obtain ⟨h,h4⟩:=h
 refine Eq.mp (Aqu n g _) ⟨_,if_pos trivial,⟨fun hp=>?_,fun hp=>?_⟩⟩
 ·have hp:=Fv hp
  rw [Cv] at hp
  exact Bu fun hh=>hp hh.1
 ·have hp:=Hb hp
  rw [Cv] at hp
  refine Br.dec (fun hg=>?_) fun hg=>?_
  ·exact Bu fun hh=>by have:=hh.2.1;omega
  ·refine Ao g.length (fun v=>v.1) (fun j _=> ∀p∈g.take j,Di n p=true) rfl (by simp) ?_
   rintro j ⟨i,⟨⟩⟩ K hj hi hR hK
   dsimp only at hi⊢
   subst hi
   refine Br.dec (fun hl=>?_) fun hl=>?_
   ·have hl:j<g.length:=by omega
    have hm:g[j]∈g:=List.getElem_mem hl
    refine ⟨_,Bc hl,⟨fun he=>?_,fun he=>?_⟩⟩
    ·simp only [bne_iff_ne,ne_eq] at he
     exact Bu fun hh=>he (Dg.1 (hh.2.2 _ hm)).1
    ·simp only [bne_eq_false_iff_eq] at he
     refine ⟨_,Bc hl,_,if_pos (h4 _ hm),⟨fun hq=>?_,fun hq=>?_⟩⟩
     ·have hq:=Fv hq
      exact Bu fun hh=>hq (Dg.1 (hh.2.2 _ hm)).2
     ·have hq:=Hb hq
      rw [Ak (by omega)]
      refine hK hl _ rfl ?_
      rw [List.take_succ_eq_append_getElem hl]
      intro x hx
      rcases List.mem_append.1 hx with hx|hx
      ·exact hR x hx
      ·rw [List.mem_singleton.1 hx];exact Dg.2 ⟨he,hq⟩
   ·have:j=g.length:=by omega
    subst this
    rw [List.take_length] at hR
    exact Js ⟨hp,by omega,hR⟩
theorem Aga:Sound Try.prog 148 Iy:=
 Sound.mkS Cb (Ae Abp (Ae Va Ar)) mixed Try.func148 (by kernel_rfl) (by kernel_rfl) fun x h=>Apb x.1 x.2.1 h
theorem Bdl (p:List Int) (n:Int) (h:short p):fnW tab (look [(127,Ns),(170,Gf)]) Aaw Try.f174 (p,n,()) (fun (z:Bool)=>z=!Di n p):=by
 refine Eq.mp (Be1 p n _) ⟨_,if_pos trivial,⟨fun he=>?_,fun he=>⟨_,if_pos h,?_⟩⟩⟩
 ·simp only [bne_iff_ne,ne_eq] at he
  have:Di n p=false:=Bdd.2 fun hh=>he hh.1
  rw [this];rfl
 ·simp only [bne_eq_false_iff_eq] at he
  show (!Ev p)=_
  congr 1
  cases hp:Ev p with
  |true=>exact Js ⟨he,hp⟩
  |false=>exact Bu fun hh=>by rw [hh.2] at hp;cases hp
theorem Atv:Sound Try.prog 174 Aaw:=
 Sound.mkS Cb (Ae Ad5 (Ae Ag6 Ar)) mixed Try.func174 (by kernel_rfl) (by kernel_rfl) fun x h=>Bdl x.1 x.2.1 h
theorem Agz {α:Type} (P:α→Bool): ∀(l:List α) (i:Int),0≤i→(0≤Fk P l i↔l.any P=true)
 | [],i,_=>by simp [Fk]
 |y::r,i,h=>by
  simp only [Fk,List.any_cons,Bool.or_eq_true]
  split
  ·rename_i hy;simp [hy,h]
  ·rename_i hy;rw [Agz P r (i+1) (by omega)];simp [hy]
theorem Bfy (g:List (List Int)) (n:Int×Unit) (h:Is g):fnW tab (look [(174,Aaw)]) Anm Try.f181 (g,n,()) (fun (z:Int)=>z=Fk (fun p=>!Di n.1 p) g 0):=by
 obtain ⟨h,h4⟩:=h
 refine Eq.mp (Bgd g n _) ?_
 refine Ao g.length (fun v=>v.1) (fun j _=>Fk (fun p=>!Di n.1 p) (g.drop j) j=Fk (fun p=>!Di n.1 p) g 0) rfl (by simp) ?_
 rintro j ⟨i,⟨⟩⟩ K hj hi hR hK
 dsimp only at hi⊢
 subst hi
 refine Br.dec (fun hl=>?_) fun hl=>?_
 ·have hl:j<g.length:=by omega
  rw [List.drop_eq_getElem_cons hl] at hR
  simp only [Fk] at hR
  refine ⟨_,Bc hl,_,if_pos (h4 _ (List.getElem_mem hl)),⟨fun he=>?_,fun he=>?_⟩⟩
  ·have he:(!Di n.1 g[j])=true:=he
   rw [if_pos he] at hR
   exact hR
  ·have he:(!Di n.1 g[j])=false:=he
   rw [if_neg (by rw [he];decide)] at hR
   rw [Ak (by omega)]
   exact hK hl _ rfl (by push_cast;exact hR)
 ·have:j=g.length:=by omega
  subst this
  rw [List.drop_length] at hR
  exact hR
theorem Ba7:Sound Try.prog 181 Anm:=
 Sound.mkS Cb (Ae Atv Ar) mixed Try.func181 (by kernel_rfl) (by kernel_rfl) fun x h=>Bfy x.1 x.2.1 h
theorem Bfu (g:List (List Int)) (n:Int×Unit) (h:Is g):fnW tab (look [(181,Anm)]) Anj Try.f173 (g,n,()) (fun (z:Bool)=>z=List.any g (fun p=>!Di n.1 p)):=by
 refine Eq.mp (Bg9 g n _) ⟨_,if_pos h,?_⟩
 rw [Bool.eq_iff_iff,decide_eq_true_iff]
 exact Agz _ g 0 (Int.le_refl 0)
theorem Ba2:Sound Try.prog 173 Anj:=
 Sound.mkS Cb (Ae Ba7 Ar) mixed Try.func173 (by kernel_rfl) (by kernel_rfl) fun x h=>Bfu x.1 x.2.1 h
theorem Ap5 (n:Int) (g:List (List Int)) (h:Is g):fnW tab (look [(108,Cc),(173,Anj)]) Iy Try.f157 (n,g,()) (fun (z:Bool)=>z=Ov n g):=by
 refine Eq.mp (Aqo n g _) ⟨_,if_pos trivial,⟨fun hp=>?_,fun hp=>?_⟩⟩
 ·have hp:Fy n 1 20=true:=hp
  rw [Cv] at hp
  refine Br.dec (fun hl=>⟨_,if_pos h,?_⟩) fun hl=>?_
  ·show (!List.any g (fun p=>!Di n p))=Ov n g
   cases ha:List.any g (fun p=>!Di n p) with
   |true=>
    obtain ⟨p,hp1,hp2⟩:=List.any_eq_true.1 ha
    exact Bu fun hh=>by rw [hh.2.2 p hp1] at hp2;cases hp2
   |false=>
    refine Js ⟨hp,by omega,fun p hm=>?_⟩
    have:=List.any_eq_false.1 ha p hm
    simpa using this
  ·exact Bu fun hh=>by have:=hh.2.1;omega
 ·refine Bu fun hh=>?_
  have:Fy n 1 20=true:=Cv.2 hh.1
  have hp:Fy n 1 20=false:=hp
  rw [this] at hp;cases hp
theorem Ag5:Sound Try.prog 157 Iy:=
 Sound.mkS Cb (Ae Qh (Ae Ba2 Ar)) mixed Try.func157 (by kernel_rfl) (by kernel_rfl) fun x h=>Ap5 x.1 x.2.1 h
theorem Gg {s:ByteArray} {k:Nat} (h:k<s.size):s[k]?=some s[k]:=getElem?_pos s k h
theorem Bc4 (s:ByteArray) (i:Int) (h:0≤i∧i<s.size∧s.size≤4294967296):fnW tab (look []) Uv Try.f149 (s,i,()) (fun (z:Bool)=>z=Aed s i):=by
 obtain ⟨h1,h2,h3⟩:=h
 have hi:i.toNat<s.size:=by omega
 refine Eq.mp (Bd3 s i _) ⟨h1,_,Gg hi,Br.dec (fun hq=>?_) fun hq=>⟨h1,_,Gg hi,Br.dec (fun hr=>?_) fun hr=>?_⟩⟩
 ·refine Bu fun ⟨c,hc,hc1,_⟩=>?_
  rw [Gg hi] at hc;cases hc;omega
 ·refine Bu fun ⟨c,hc,_,hc1,_⟩=>?_
  rw [Gg hi] at hc;cases hc;omega
 ·refine Ao i.toNat (fun v=>v.1) (fun j _=> ∀k,k<j→s[k]?≠some s[i.toNat]) rfl (fun k hk=>absurd hk (Nat.not_lt_zero _)) ?_
  rintro j ⟨i',⟨⟩⟩ K hj hi' hR hK
  dsimp only at hi'⊢
  subst hi'
  refine Br.dec (fun hl=>?_) fun hl=>?_
  ·have hl:j<i.toNat:=by omega
   have hj:j<s.size:=by omega
   rw [Int.toNat_natCast]
   refine ⟨by omega,_,Gg hj,h1,_,Gg hi,⟨fun he=>?_,fun he=>?_⟩⟩
   ·simp only [beq_iff_eq,Int.natCast_inj] at he
    refine Bu fun ⟨c,hc,_,_,hc1⟩=>?_
    rw [Gg hi] at hc;cases hc
    exact hc1 j hl (by rw [Gg hj,UInt8.toNat_inj.1 he])
   ·simp only [beq_eq_false_iff_ne,ne_eq,Int.natCast_inj] at he
    rw [Ak (by omega)]
    refine hK hl _ rfl fun k hk=>?_
    by_cases e:k=j
    ·subst e
     rw [Gg hj]
     exact fun e=>he (by rw [Option.some.inj e])
    ·exact hR k (by omega)
  ·have:j=i.toNat:=by omega
   subst this
   exact Js ⟨_,Gg hi,by omega,by omega,hR⟩
theorem Aq5:Sound Try.prog 149 Uv:=
 Sound.mkS Cb Ar mixed Try.func149 (by kernel_rfl) (by kernel_rfl) fun x h=>Bc4 x.1 x.2.1 h
theorem Azk (s:ByteArray) (h:s.size≤4294967296):fnW tab (look [(108,Cc)]) Qp Try.f158 (s,()) (fun (z:Bool)=>z=Up s):=by
 refine Eq.mp (Bar s _) ?_
 refine Ao s.size (fun v=>v.1) (fun j _=> ∀k,k<j→Anv s k) rfl (fun k hk=>absurd hk (Nat.not_lt_zero _)) ?_
 rintro j ⟨i,⟨⟩⟩ K hj hi hR hK
 dsimp only at hi⊢
 subst hi
 refine Br.dec (fun hl=>?_) fun hl=>?_
 ·have hl:j<s.size:=by omega
  rw [Int.toNat_natCast]
  have hb:=(s[j]).toNat_lt
  refine ⟨by omega,_,Gg hl,_,if_pos trivial,⟨fun hq=>?_,fun hq=>?_⟩⟩
  ·have hq:=Fv hq
   rw [Cv] at hq
   dsimp only at hq
   rw [Bp (by omega) (by omega)] at hq
   refine Bu fun hh=>?_
   obtain ⟨c,hc,hc1,hc2,_⟩:=hh.2 j hl
   rw [Gg hl] at hc;cases hc
   exact hq ⟨by omega,by omega⟩
  ·have hq:=Hb hq
   rw [Cv] at hq
   dsimp only at hq
   rw [Bp (by omega) (by omega)] at hq
   refine Ao j (fun v=>v.1) (fun m _=> ∀k,k<m→s[k]?≠some s[j]) rfl (fun k hk=>absurd hk (Nat.not_lt_zero _)) ?_
   rintro m ⟨i',⟨⟩⟩ K' hm hi' hR' hK'
   dsimp only at hi'⊢
   subst hi'
   refine Br.dec (fun hl'=>?_) fun hl'=>?_
   ·have hl':m<j:=by omega
    have hm':m<s.size:=by omega
    rw [Int.toNat_natCast]
    refine ⟨by omega,_,Gg hm',by omega,_,Gg hl,⟨fun he=>?_,fun he=>?_⟩⟩
    ·simp only [beq_iff_eq,Int.natCast_inj] at he
     refine Bu fun hh=>?_
     obtain ⟨c,hc,_,_,hc1⟩:=hh.2 j hl
     rw [Gg hl] at hc;cases hc
     exact hc1 m hl' (by rw [Gg hm',UInt8.toNat_inj.1 he])
    ·simp only [beq_eq_false_iff_ne,ne_eq,Int.natCast_inj] at he
     rw [Ak (by omega)]
     refine hK' hl' _ rfl fun k hk=>?_
     by_cases e:k=m
     ·subst e
      rw [Gg hm']
      exact fun e=>he (by rw [Option.some.inj e])
     ·exact hR' k (by omega)
   ·have:m=j:=by omega
    subst this
    rw [Ak (by omega)]
    refine hK hl _ rfl fun k hk=>?_
    by_cases e:k=m
    ·subst e
     exact ⟨_,Gg hl,by omega,by omega,hR'⟩
    ·exact hR k (by omega)
 ·have:j=s.size:=by omega
  subst this
  refine ⟨_,if_pos trivial,?_⟩
  show Fy s.size 1 8=_
  cases hr:Fy s.size 1 8 with
  |true=>rw [Cv] at hr;exact Js ⟨by omega,hR⟩
  |false=>refine Bu fun hh=>?_;rw [Cv.2 ⟨by omega,by omega⟩] at hr;cases hr
theorem Alx:Sound Try.prog 158 Qp:=
 Sound.mkS Cb (Ae Qh Ar) mixed Try.func158 (by kernel_rfl) (by kernel_rfl) fun x h=>Azk x.1 h
theorem Ad7 {p:PP} (h:At p=true):1≤p.1∧p.1≤20∧1≤p.2.2.1.length∧p.2.2.1.length≤8:=by
 obtain ⟨h1,h2,h3⟩:=Dg.1 h
 obtain ⟨h4,h5,_⟩:=Dg.1 h1
 obtain ⟨h6,_⟩:=Dg.1 h2
 omega
theorem Ape (p:PP) (h:Ed p):fnW tab (look [(148,Iy),(149,Uv)]) Dp Try.f99 (p,()) (fun (z:Bool)=>z=At p):=by
 obtain ⟨hn,hg⟩:=h
 refine Eq.mp (Aqx p _) ⟨fun h0=>?_,fun h0=>⟨fun h1=>?_,fun h1=>⟨_,if_pos hg,⟨fun h2=>?_,fun h2=>?_⟩⟩⟩⟩
 ·simp only [beq_iff_eq] at h0
  exact Bu fun hh=>by obtain ⟨_,h2,h3⟩:=hh;have:=(Dg.1 h2).1;omega
 ·simp only [bne_iff_ne,ne_eq,Int.natCast_inj] at h1
  exact Bu fun hh=>h1 hh.2.2
 ·have h2:=Fv h2
  exact Bu fun hh=>h2 hh.1
 ·simp only [beq_eq_false_iff_ne,ne_eq] at h0
  simp only [bne_eq_false_iff_eq,Int.natCast_inj] at h1
  have h2:Ov p.1 p.2.2.1=true:=Hb h2
  refine Ao p.2.1.size (fun v=>v.1) (fun j v=>v.2=(p.1,p.2.1,p.2.2.1,())∧ ∀k,k<j→Anv p.2.1 k) rfl ⟨rfl,fun k hk=>absurd hk (Nat.not_lt_zero _)⟩ ?_
  rintro j ⟨i,v⟩ K hj hi ⟨hv,hR⟩ hK
  dsimp only at hi hv⊢
  subst hi hv
  dsimp only
  refine Br.dec (fun hl=>?_) fun hl=>?_
  ·have hl:j<p.2.1.size:=by omega
   refine ⟨_,if_pos ⟨Int.natCast_nonneg j,Int.ofNat_lt.2 hl,hn⟩,⟨fun hq=>?_,fun hq=>?_⟩⟩
   ·have hq: ¬Aed p.2.1 j=true:=Fv hq
    refine Bu fun hh=>hq (Dg.2 ?_)
    rw [Int.toNat_natCast]
    exact (Dg.1 hh.2.1).2 j hl
   ·have hq:Aed p.2.1 j=true:=Hb hq
    have hq:=Dg.1 hq
    rw [Int.toNat_natCast] at hq
    rw [Ak (by omega)]
    refine hK hl _ rfl ⟨rfl,fun k hk=>?_⟩
    by_cases e:k=j
    ·subst e;exact hq
    ·exact hR k (by omega)
  ·have:j=p.2.1.size:=by omega
   subst this
   have:=(Dg.1 h2).2.1
   exact Js ⟨h2,Dg.2 ⟨⟨by omega,by omega⟩,hR⟩,h1⟩
theorem Nw:Sound Try.prog 99 Dp:=
 Sound.mkS Cb (Ae Aga (Ae Aq5 Ar)) mixed Try.func99 (by kernel_rfl) (by kernel_rfl) fun x h=>Ape x.1 h
theorem Ap8 (p:PP) (h:Ed p):fnW tab (look [(157,Iy),(158,Qp)]) Dp Try.f124 (p,()) (fun (z:Bool)=>z=At p):=by
 obtain ⟨hn,hg⟩:=h
 refine Eq.mp (Aqr p _) ⟨_,if_pos hg,⟨fun h1=>⟨_,if_pos hn,⟨fun h2=>?_,fun h2=>?_⟩⟩,fun h1=>?_⟩⟩
 ·have h1:Ov p.1 p.2.2.1=true:=h1
  have h2:Up p.2.1=true:=h2
  by_cases e:p.2.1.size=p.2.2.1.length
  ·rw [e,beq_self_eq_true];exact Js ⟨h1,h2,e⟩
  ·rw [show ((p.2.1.size:Int)==(p.2.2.1.length:Int))=false from beq_eq_false_iff_ne.2 (by omega)];exact Bu fun hh=>e hh.2.2
 ·have h2:Up p.2.1=false:=h2
  exact Bu fun hh=>by rw [hh.2.1] at h2;cases h2
 ·have h1:Ov p.1 p.2.2.1=false:=h1
  exact Bu fun hh=>by rw [hh.1] at h1;cases h1
theorem Uz:Sound Try.prog 124 Dp:=
 Sound.mkS Cb (Ae Ag5 (Ae Alx Ar)) mixed Try.func124 (by kernel_rfl) (by kernel_rfl) fun x h=>Ap8 x.1 h
theorem Bg0 (p:PP) (room:Int) (h:Ed p∧roomy room):fnW tab (look [(33,Ag1)]) Ano Try.f15 (p,room,()) (fun (z:Int)=>z=Zi p room):=by
 obtain ⟨⟨h1,h2⟩,h3,h4⟩:=h
 refine Eq.mp (Bgf p room _) ?_
 rw [Bp (by omega) (by omega)]
 refine Br.dec (fun hn=>?_) fun hn=>⟨_,if_pos ⟨h2,by dsimp only;omega,by dsimp only;omega⟩,Br.dec (fun hm=>?_) fun hm=>?_⟩
 ·simp only [Zi,if_pos hn]
 ·exact ((if_neg hn).trans (if_pos hm)).symm
 ·exact ((if_neg hn).trans (if_neg hm)).symm
theorem Ba9:Sound Try.prog 15 Ano:=
 Sound.mkS Cb (Ae Ax0 Ar) mixed Try.func15 (by kernel_rfl) (by kernel_rfl) fun x h=>Bg0 x.1 x.2.1 h
theorem Bg2 (p:PP) (h:Ed p):fnW tab (look [(35,Ag2)]) Aha Try.f17 (p,()) (fun (z:PP)=>z=p):=Eq.mp (Bgh p _) ⟨_,if_pos h.2,rfl⟩
theorem Bab:Sound Try.prog 17 Aha:=
 Sound.mkS Cb (Ae Ax1 Ar) mixed Try.func17 (by kernel_rfl) (by kernel_rfl) fun x h=>Bg2 x.1 h
theorem Arh {a b:ByteArray} :(a.toList==b.toList)=decide (a=b):=by
 rw [Bool.eq_iff_iff,beq_iff_eq,decide_eq_true_iff,ByteArray.toList_eq,ByteArray.toList_eq]
 exact ⟨fun h=>ByteArray.ext (Array.toList_inj.1 h),fun h=>by rw [h]⟩
theorem Bfw (a b:PP) (h:Ed a):fnW tab (look [(37,Ag0)]) Ank Try.f20 (a,b,()) (fun (z:Bool)=>z=Agy a b):=by
 refine Eq.mp (Bgb a b _) ⟨fun h1=>?_,fun h1=>⟨fun h2=>?_,fun h2=>⟨_,if_pos h.2,⟨fun h3=>?_,fun h3=>?_⟩⟩⟩⟩
 ·simp only [bne_iff_ne,ne_eq] at h1
  unfold Agy
  rw [decide_eq_false h1];rfl
 ·rw [Arh] at h2
  unfold Agy
  cases hd:decide (a.2.1=b.2.1)<;>simp_all
 ·have h3:(!Afm a.2.2.1 b.2.2.1)=true:=h3
  simp only [Afm,Bool.not_eq_true'] at h3
  unfold Agy
  rw [h3];simp
 ·have h3:(!Afm a.2.2.1 b.2.2.1)=false:=h3
  rw [Arh] at h2
  simp only [Afm] at h3
  simp only [bne_eq_false_iff_eq] at h1
  unfold Agy
  simp_all
theorem Ba4:Sound Try.prog 20 Ank:=
 Sound.mkS Cb (Ae Awy Ar) mixed Try.func20 (by kernel_rfl) (by kernel_rfl) fun x h=>Bfw x.1 x.2.1 h
theorem Avv (p:PP):Agy p p=true:=by simp [Agy]
end Go.Proofs.Ytebabhocakedaaa

namespace Go.Proofs.Ytebabhocakedaaa
open Go.RowKit
def Hm (xs:List Int) (i:Int):Int:=xs.getD i.toNat 0
def Aa (p q:List Int):List Int:=p.map (Hm q)
def Oe (f:Nat→Nat) (g:Nat→Int) (m:Nat) (init:List Int):List Int:=(List.range m).foldl (fun (out:List Int) (i:Nat)=>out.set (f i) (g i)) init
def Af (p:List Int):List Int:=Oe (fun i=>(Hm p (i:Int)).toNat) (fun i=>(i:Int)) p.length (List.replicate p.length 0)
def Ec (q s:List Int):List Int:=Oe (fun i=>(Hm q (i:Int)).toNat) (fun i=>Hm q (Hm s (i:Int))) s.length (List.replicate s.length 0)
def Dn (p q:List Int):List Int:=Aa (Aa (Af q) p) q
def Et (n:Nat) (p:List Int):Prop:= ∀y∈p,0≤y∧y<n
noncomputable abbrev Jg:Spec:=mkS (.pair tL (.pair tL .unit)) tL false true (fun x=>List.length x.1≤20∧Et (List.length x.2.1) x.1) (fun x=>Aa x.1 x.2.1)
noncomputable abbrev Cu:Spec:=mkS (.pair tL .unit) tL false true (fun x=>List.length x.1≤20∧Et (List.length x.1) x.1) (fun x=>Af x.1)
noncomputable abbrev Fq:Spec:=mkS (.pair tL (.pair tL .unit)) tL false true (fun x=>List.length x.2.1≤20∧List.length x.1=List.length x.2.1∧Et (List.length x.1) x.1∧Et (List.length x.1) x.2.1) (fun x=>Ec x.1 x.2.1)
noncomputable abbrev Gy:Spec:=mkS (.pair tL (.pair tL .unit)) tL false true (fun x=>List.length x.1=List.length x.2.1∧Et (List.length x.1) x.1∧Ev x.2.1=true) (fun x=>Dn x.1 x.2.1)
noncomputable abbrev Bv:Spec:=mkS (.pair tI .unit) tL false true (fun x=>0≤x.1∧x.1≤20) (fun x=>upto x.1.toNat)
noncomputable abbrev Eo:Spec:=mkS (.pair tL .unit) tL false true (fun x=>Ev x.1=true) (fun x=>Af x.1)
def Ad (g:List (List Int)) (l:Int):List Int:=if l>0 then g.getD (l-1).toNat [] else Af (g.getD (-l-1).toNat [])
def Eu (n:Int) (l:Int):Prop:=l≠0∧ -n≤l∧l≤n
noncomputable abbrev Hi:Spec:=mkS (.pair tLL (.pair tI .unit)) tL false false (fun x=>Eu (List.length x.1) x.2.1∧List.length x.1≤8∧ ∀p∈x.1,Ev p=true) (fun x=>Ad x.1 x.2.1)
def Aq (n:Nat):List Int:=(List.range n).flatMap fun (k:Nat)=> [(k:Int)+1,-((k:Int)+1)]
noncomputable abbrev Gr:Spec:=mkS (.pair tI .unit) tL false true (fun x=>0≤x.1∧x.1≤8) (fun x=>Aq x.1.toNat)
def Rk (g:List (List Int)) (x:List Int):List Int→Int
 | []=>0
 |l::r=>if Ad g l=x then l else Rk g x r
def Az5 (x:List Int):List (List Int)→Int→Int
 | [],_=>0
 |m::r,k=>if m=x then k else if Af m=x then-k else Az5 x r (k+1)
def Fo (g:List (List Int)) (x:List Int):Int:=Az5 x g 1
noncomputable abbrev Kj:Spec:=mkS (.pair Db (.pair tL .unit)) tI false true (fun x=>At x.1=true∧short x.2.1) (fun x=>Fo x.1.2.2.1 x.2.1)
def Jx (p:PP) (q:List Int) (l:Int):Int:=Fo p.2.2.1 (Dn (Ad p.2.2.1 l) q)
noncomputable abbrev Uu:Spec:=mkS (.pair Db (.pair tL (.pair tI .unit))) tI false true (fun x=>At x.1=true∧Di x.1.1 x.2.1=true∧Eu (List.length x.1.2.2.1) x.2.2.1) (fun x=>Jx x.1 x.2.1 x.2.2.1)
noncomputable abbrev Ut:Spec:=mkS (.pair Db (.pair tL (.pair tI .unit))) tL false true (fun x=>At x.1=true∧List.length x.2.1≤20∧(∀y∈x.2.1,0≤y∧y<x.1.1)∧Eu (List.length x.1.2.2.1) x.2.2.1) (fun x=>Aa x.2.1 (Ad x.1.2.2.1 x.2.2.1))
noncomputable def Gw (p:PP) (q:List Int):Bool:=dec (∀k:Nat,k<p.2.2.1.length→Jx p q ((k:Int)+1)≠0)
noncomputable abbrev Iz:Spec:=mkS (.pair Db (.pair tL .unit)) .bool false true (fun x=>At x.1=true∧Di x.1.1 x.2.1=true) (fun x=>Gw x.1 x.2.1)
theorem Am6 (p q:List Int) (P:List Int→Prop):(((0:Int)≤(↑p.length:Int)∧(↑p.length:Int)<(↑Am:Int)+(1:Int))∧
 (↑p.length:Int)=(↑p.length:Int)∧
  (0:Nat)=(0:Nat)∧
   (List.replicate (↑p.length:Int).toNat (Int.ofNat (nat_lit 0))).length=(List.replicate (↑p.length:Int).toNat (Int.ofNat (nat_lit 0))).length∧
    Bo
     (fun (v3:Int×List Int×PUnit) (k4:Int×List Int×PUnit→Prop)=>
      Br (decide (v3.1<(↑p.length:Int)))
       (∃(y5:Int),
        idx p v3.1=some y5∧
         ∃(y6:Int),
          idx q y5=some y6∧
           ((0:Int)≤v3.1∧v3.1<(↑v3.2.1.length:Int))∧
            (0:Nat)+v3.1.toNat<v3.2.1.length∧
             (0:Nat)=(0:Nat)∧
              v3.2.1.length=(v3.2.1.set ((0:Nat)+v3.1.toNat) y6).length∧k4 (IntKind.i64.wrap (v3.1+(1:Int)),v3.2.1.set ((0:Nat)+v3.1.toNat) y6,()))
       (P (List.take v3.2.1.length (List.drop (0:Nat) v3.2.1))))
     ((0:Int),List.replicate (↑p.length:Int).toNat (Int.ofNat (nat_lit 0)),PUnit.unit))=fnW tab (look []) Jg Try.f131 (p,q,()) P:=by kernel_rfl
theorem Am7 (p:List Int) (P:List Int→Prop):(((0:Int)≤(↑p.length:Int)∧(↑p.length:Int)<(↑Am:Int)+(1:Int))∧
 (↑p.length:Int)=(↑p.length:Int)∧
  (0:Nat)=(0:Nat)∧
   (List.replicate (↑p.length:Int).toNat (Int.ofNat (nat_lit 0))).length=(List.replicate (↑p.length:Int).toNat (Int.ofNat (nat_lit 0))).length∧
    Bo
     (fun (v2:Int×List Int×PUnit) (k3:Int×List Int×PUnit→Prop)=>
      Br (decide (v2.1<(↑p.length:Int)))
       (∃(y4:Int),
        idx p v2.1=some y4∧
         ((0:Int)≤y4∧y4<(↑v2.2.1.length:Int))∧
          (0:Nat)+y4.toNat<v2.2.1.length∧
           (0:Nat)=(0:Nat)∧
            v2.2.1.length=(v2.2.1.set ((0:Nat)+y4.toNat) v2.1).length∧k3 (IntKind.i64.wrap (v2.1+(1:Int)),v2.2.1.set ((0:Nat)+y4.toNat) v2.1,()))
       (P (List.take v2.2.1.length (List.drop (0:Nat) v2.2.1))))
     ((0:Int),List.replicate (↑p.length:Int).toNat (Int.ofNat (nat_lit 0)),PUnit.unit))=fnW tab (look []) Cu Try.f165 (p,()) P:=by kernel_rfl
theorem Bav (p:List Int) (P:List Int→Prop):(((0:Int)≤(↑p.length:Int)∧(↑p.length:Int)<(↑Am:Int)+(1:Int))∧
 (↑p.length:Int)=(↑p.length:Int)∧
  (0:Nat)=(0:Nat)∧
   (List.replicate (↑p.length:Int).toNat (Int.ofNat (nat_lit 0))).length=(List.replicate (↑p.length:Int).toNat (Int.ofNat (nat_lit 0))).length∧
    Bo
     (fun (v2:Int×List Int×PUnit) (k3:Int×List Int×PUnit→Prop)=>
      Br (decide (v2.1<(↑p.length:Int)))
       (∃(y4:Int),
        idx p v2.1=some y4∧
         ((0:Int)≤y4∧y4<(↑v2.2.1.length:Int))∧
          (0:Nat)+y4.toNat<v2.2.1.length∧
           (0:Nat)=(0:Nat)∧
            v2.2.1.length=(v2.2.1.set ((0:Nat)+y4.toNat) v2.1).length∧k3 (IntKind.i64.wrap (v2.1+(1:Int)),v2.2.1.set ((0:Nat)+y4.toNat) v2.1,()))
       (P (List.take v2.2.1.length (List.drop (0:Nat) v2.2.1))))
     ((0:Int),List.replicate (↑p.length:Int).toNat (Int.ofNat (nat_lit 0)),PUnit.unit))=fnW tab (look []) Cu Try.f175 (p,()) P:=by kernel_rfl
theorem Am9 (p:List Int) (P:List Int→Prop):(∃(y2:Bool),Gf.fn (p,())=some y2∧Br (!y2) (P (List.take (0:Nat) (List.drop (0:Nat) []))) (∃(y3:List Int),Cu.fn (p,())=some y3∧P y3))=fnW tab (look [(169,Gf),(175,Cu)]) Eo Try.f160 (p,()) P:=by kernel_rfl
theorem Aqn (q s:List Int) (P:List Int→Prop):(((0:Int)≤(↑s.length:Int)∧(↑s.length:Int)<(↑Am:Int)+(1:Int))∧
 (↑s.length:Int)=(↑s.length:Int)∧
  (0:Nat)=(0:Nat)∧
   (List.replicate (↑s.length:Int).toNat (Int.ofNat (nat_lit 0))).length=(List.replicate (↑s.length:Int).toNat (Int.ofNat (nat_lit 0))).length∧
    Bo
     (fun (v3:Int×List Int×PUnit) (k4:Int×List Int×PUnit→Prop)=>
      Br (decide (v3.1<(↑s.length:Int)))
       (∃(y5:Int),
        idx q v3.1=some y5∧
         ∃(y6:Int),
          idx s v3.1=some y6∧
           ∃(y7:Int),
            idx q y6=some y7∧
             ((0:Int)≤y5∧y5<(↑v3.2.1.length:Int))∧
              (0:Nat)+y5.toNat<v3.2.1.length∧
               (0:Nat)=(0:Nat)∧
                v3.2.1.length=(v3.2.1.set ((0:Nat)+y5.toNat) y7).length∧k4 (IntKind.i64.wrap (v3.1+(1:Int)),v3.2.1.set ((0:Nat)+y5.toNat) y7,()))
       (P (List.take v3.2.1.length (List.drop (0:Nat) v3.2.1))))
     ((0:Int),List.replicate (↑s.length:Int).toNat (Int.ofNat (nat_lit 0)),PUnit.unit))=fnW tab (look []) Fq Try.f134 (q,s,()) P:=by kernel_rfl
theorem Auf (p q:List Int) (P:List Int→Prop):(∃(y3:List Int),Cu.fn (q,())=some y3∧ ∃(y4:List Int),Jg.fn (y3,p,())=some y4∧ ∃(y5:List Int),Jg.fn (y4,q,())=some y5∧P y5)=fnW tab (look [(165,Cu),(131,Jg)]) Gy Try.f138 (p,q,()) P:=by kernel_rfl
theorem Axb (n:Int) (P:List Int→Prop):((0:Nat)=(0:Nat)∧
 (0:Nat)=([]:List Int).length∧
  Bo
   (fun (v2:Int×List Int×PUnit) (k3:Int×List Int×PUnit→Prop)=>
    Br (decide (v2.1<n))
     ((0:Nat)=(0:Nat)∧
      v2.2.1.length=v2.2.1.length∧
       v2.2.1.length+(List.take (1:Nat) (List.drop (0:Nat) [v2.1])).length≤Am∧
        (0:Nat)=(0:Nat)∧
         (v2.2.1++List.take (1:Nat) (List.drop (0:Nat) [v2.1])).length=(v2.2.1++List.take (1:Nat) (List.drop (0:Nat) [v2.1])).length∧
          k3 (IntKind.i64.wrap (v2.1+(1:Int)),v2.2.1++List.take (1:Nat) (List.drop (0:Nat) [v2.1]),()))
     (P (List.take v2.2.1.length (List.drop (0:Nat) v2.2.1))))
   ((0:Int),[],PUnit.unit))=fnW tab (look []) Bv Try.f106 (n,()) P:=by kernel_rfl
theorem Axc (g:List (List Int)) (l:Int) (P:List Int→Prop):(Br (decide (l>(0:Int))) (∃(y3:List Int),idx g (IntKind.i64.wrap (l-(1:Int)))=some y3∧P y3)
 (∃(y3:List Int),idx g (IntKind.i64.wrap (IntKind.i64.wrap ((0:Int)-l)-(1:Int)))=some y3∧ ∃(y4:List Int),Cu.fn (y3,())=some y4∧P y4))=fnW tab (look [(165,Cu)]) Hi Try.f155 (g,l,()) P:=by kernel_rfl
theorem Bas (n:Int) (P:List Int→Prop):((0:Nat)=(0:Nat)∧
 (0:Nat)=([]:List Int).length∧
  Bo
   (fun (v2:Int×List Int×PUnit) (k3:Int×List Int×PUnit→Prop)=>
    Br (decide (v2.1<n))
     ((0:Nat)=(0:Nat)∧
      v2.2.1.length=v2.2.1.length∧
       v2.2.1.length+(List.take (2:Nat) (List.drop (0:Nat) [IntKind.i64.wrap (v2.1+(1:Int)),IntKind.i64.wrap ((0:Int)-IntKind.i64.wrap (v2.1+(1:Int)))])).length≤
         Am∧
        (0:Nat)=(0:Nat)∧
         (v2.2.1++List.take (2:Nat) (List.drop (0:Nat) [IntKind.i64.wrap (v2.1+(1:Int)),IntKind.i64.wrap ((0:Int)-IntKind.i64.wrap (v2.1+(1:Int)))])).length=
           (v2.2.1++List.take (2:Nat) (List.drop (0:Nat) [IntKind.i64.wrap (v2.1+(1:Int)),IntKind.i64.wrap ((0:Int)-IntKind.i64.wrap (v2.1+(1:Int)))])).length∧
          k3
           (IntKind.i64.wrap (v2.1+(1:Int)),
            v2.2.1++List.take (2:Nat) (List.drop (0:Nat) [IntKind.i64.wrap (v2.1+(1:Int)),IntKind.i64.wrap ((0:Int)-IntKind.i64.wrap (v2.1+(1:Int)))]),()))
     (P (List.take v2.2.1.length (List.drop (0:Nat) v2.2.1))))
   ((0:Int),[],PUnit.unit))=fnW tab (look []) Gr Try.f112 (n,()) P:=by kernel_rfl
theorem Bd2 (p:Int×ByteArray×List (List Int)×Unit) (q:List Int) (l:Int) (P:Int→Prop):(∃(y4:List Int),
 Hi.fn (p.2.2.1,l,())=some y4∧
  ∃(y5:List Int),
   Gy.fn (y4,q,())=some y5∧
    ∃(y6:List Int),
     Gr.fn ((↑p.2.2.1.length:Int),())=some y6∧
      Bo
       (fun (v7:Int×Int×ByteArray×List (List Int)×PUnit) (k8:Int×Int×ByteArray×List (List Int)×PUnit→Prop)=>
        Br (decide (v7.1<(↑y6.length:Int)))
         (∃(y9:Int),
          idx y6 v7.1=some y9∧
           ∃(y10:List Int),
            Hi.fn (v7.2.2.2.1,y9,())=some y10∧
             ∃(y11:Bool),Bd.fn (y10,y5,())=some y11∧Br y11 (P y9) (k8 (IntKind.i64.wrap (v7.1+(1:Int)),v7.2.1,v7.2.2.1,v7.2.2.2.1,())))
         (P (0:Int)))
       ((0:Int),p.1,p.2.1,p.2.2.1,PUnit.unit))=fnW tab (look [(138,Gy),(155,Hi),(112,Gr),(63,Bd)]) Uu Try.f163 (p,q,l,()) P:=by kernel_rfl
theorem Aqt (p:Int×ByteArray×List (List Int)×Unit) (x:List Int) (P:Int→Prop):(Bo
 (fun (v3:Int×Int×ByteArray×List (List Int)×PUnit) (k4:Int×Int×ByteArray×List (List Int)×PUnit→Prop)=>
  Br (decide (v3.1≤(↑v3.2.2.2.1.length:Int)))
   (∃(y5:List Int),
    idx v3.2.2.2.1 (IntKind.i64.wrap (v3.1-(1:Int)))=some y5∧
     ∃(y6:Bool),
      Bd.fn (y5,x,())=some y6∧
       Br y6 (P v3.1)
        (∃(y7:List Int),
         idx v3.2.2.2.1 (IntKind.i64.wrap (v3.1-(1:Int)))=some y7∧
          ∃(y8:List Int),
           Eo.fn (y7,())=some y8∧
            ∃(y9:Bool),
             Bd.fn (y8,x,())=some y9∧
              Br y9 (P (IntKind.i64.wrap ((0:Int)-v3.1))) (k4 (IntKind.i64.wrap (v3.1+(1:Int)),v3.2.1,v3.2.2.1,v3.2.2.2.1,()))))
   (P (0:Int)))
 ((1:Int),p.1,p.2.1,p.2.2.1,PUnit.unit))=fnW tab (look [(59,Bd),(160,Eo)]) Kj Try.f176 (p,x,()) P:=by kernel_rfl
theorem Bcz (p:Int×ByteArray×List (List Int)×Unit) (s:List Int) (l:Int) (P:List Int→Prop):(∃(y4:List Int),
 idx p.2.2.1
    (IntKind.i64.wrap
     ((if true=true then if IntKind.i64.wrap ((0:Int)-l)>l then IntKind.i64.wrap ((0:Int)-l) else l
      else if IntKind.i64.wrap ((0:Int)-l)<l then IntKind.i64.wrap ((0:Int)-l) else l)-
      (1:Int)))=
   some y4∧
  Br (decide (l<(0:Int)))
   (∃(y5:List Int),
    Eo.fn (y4,())=some y5∧
     (0:Nat)=(0:Nat)∧
      (0:Nat)=([]:List Int).length∧
       Bo
        (fun (v6:Int×List Int×PUnit) (k7:Int×List Int×PUnit→Prop)=>
         Br (decide (v6.1<(↑s.length:Int)))
          (∃(y8:Int),
           idx s v6.1=some y8∧
            ∃(y9:Int),
             idx y5 y8=some y9∧
              (0:Nat)=(0:Nat)∧
               v6.2.1.length=v6.2.1.length∧
                v6.2.1.length+(List.take (1:Nat) (List.drop (0:Nat) [y9])).length≤Am∧
                 (0:Nat)=(0:Nat)∧
                  (v6.2.1++List.take (1:Nat) (List.drop (0:Nat) [y9])).length=(v6.2.1++List.take (1:Nat) (List.drop (0:Nat) [y9])).length∧
                   k7 (IntKind.i64.wrap (v6.1+(1:Int)),v6.2.1++List.take (1:Nat) (List.drop (0:Nat) [y9]),()))
          (P (List.take v6.2.1.length (List.drop (0:Nat) v6.2.1))))
        ((0:Int),[],PUnit.unit))
   ((0:Nat)=(0:Nat)∧
    (0:Nat)=([]:List Int).length∧
     Bo
      (fun (v5:Int×List Int×PUnit) (k6:Int×List Int×PUnit→Prop)=>
       Br (decide (v5.1<(↑s.length:Int)))
        (∃(y7:Int),
         idx s v5.1=some y7∧
          ∃(y8:Int),
           idx y4 y7=some y8∧
            (0:Nat)=(0:Nat)∧
             v5.2.1.length=v5.2.1.length∧
              v5.2.1.length+(List.take (1:Nat) (List.drop (0:Nat) [y8])).length≤Am∧
               (0:Nat)=(0:Nat)∧
                (v5.2.1++List.take (1:Nat) (List.drop (0:Nat) [y8])).length=(v5.2.1++List.take (1:Nat) (List.drop (0:Nat) [y8])).length∧
                 k6 (IntKind.i64.wrap (v5.1+(1:Int)),v5.2.1++List.take (1:Nat) (List.drop (0:Nat) [y8]),()))
        (P (List.take v5.2.1.length (List.drop (0:Nat) v5.2.1))))
      ((0:Int),[],PUnit.unit)))=fnW tab (look [(160,Eo)]) Ut Try.f129 (p,s,l,()) P:=by kernel_rfl
theorem Aqw (p:Int×ByteArray×List (List Int)×Unit) (q:List Int) (P:Bool→Prop):(Bo
 (fun (v3:Int×Int×ByteArray×List (List Int)×PUnit) (k4:Int×Int×ByteArray×List (List Int)×PUnit→Prop)=>
  Br (decide (v3.1<(↑v3.2.2.2.1.length:Int)))
   (∃(y5:List Int),
    idx v3.2.2.2.1 v3.1=some y5∧
     ∃(y6:List Int),
      Fq.fn (q,y5,())=some y6∧
       ∃(y7:Int),
        Kj.fn ((v3.2.1,v3.2.2.1,v3.2.2.2.1,()),y6,())=some y7∧
         Br (y7==(0:Int)) (P false) (k4 (IntKind.i64.wrap (v3.1+(1:Int)),v3.2.1,v3.2.2.1,v3.2.2.2.1,())))
   (P true))
 ((0:Int),p.1,p.2.1,p.2.2.1,PUnit.unit))=fnW tab (look [(176,Kj),(134,Fq)]) Iz Try.f162 (p,q,()) P:=by kernel_rfl
theorem Aqq (p:Int×ByteArray×List (List Int)×Unit) (q:List Int) (P:Bool→Prop):(Bo
 (fun (v3:Int×Int×ByteArray×List (List Int)×PUnit) (k4:Int×Int×ByteArray×List (List Int)×PUnit→Prop)=>
  Br (decide (v3.1<(↑p.2.2.1.length:Int)))
   (∃(y5:Int),
    Uu.fn ((v3.2.1,v3.2.2.1,v3.2.2.2.1,()),q,IntKind.i64.wrap (v3.1+(1:Int)),())=some y5∧
     Br (y5==(0:Int)) (P false) (k4 (IntKind.i64.wrap (v3.1+(1:Int)),v3.2.1,v3.2.2.1,v3.2.2.2.1,())))
   (P true))
 ((0:Int),p.1,p.2.1,p.2.2.1,PUnit.unit))=fnW tab (look [(163,Uu)]) Iz Try.f136 (p,q,()) P:=by kernel_rfl
theorem Es {xs:List Int} {i:Nat} (h:i<xs.length):Hm xs (i:Int)=xs[i]:=by
 unfold Hm
 rw [Int.toNat_natCast,List.getD_eq_getElem?_getD,List.getElem?_eq_getElem h];rfl
theorem Aj7 {xs:List Int} {y:Int} (h0:0≤y) (h:y<xs.length):idx xs y=some (Hm xs y):=by
 have hy:y.toNat<xs.length:=by omega
 have e:y=(y.toNat:Int):=by omega
 rw [e,Bc hy,Es hy]
theorem Ml (f:Nat→Nat) (g:Nat→Int) (m:Nat) (init:List Int):Oe f g (m+1) init=(Oe f g m init).set (f m) (g m):=by simp [Oe,List.range_succ]
theorem Lx (f:Nat→Nat) (g:Nat→Int) (m:Nat) (init:List Int):(Oe f g m init).length=init.length:=by
 induction m with
 |zero=>rfl
 |succ m ih=>rw [Ml,List.length_set,ih]
theorem Yw (f:Nat→Nat) (g:Nat→Int) (init:List Int): ∀(m:Nat),(∀i j,i<m→j<m→f i=f j→i=j)→ ∀i,i<m→f i<init.length→(Oe f g m init)[f i]?=some (g i)
 |0,_,i,h,_=>absurd h (Nat.not_lt_zero _)
 |m+1,hf,i,hi,hl=>by
  rw [Ml]
  by_cases e:i=m
  ·subst e
   exact List.getElem?_set_self (by rw [Lx];exact hl)
  ·rw [List.getElem?_set_ne (fun h=>e (hf i m hi (by omega) h.symm))]
   exact Yw f g init m (fun a b ha hb=>hf a b (by omega) (by omega)) i (by omega) hl
structure Pd (p:List Int):Prop where
 pos:1≤p.length
 len:p.length≤20
 row:Et p.length p
 nodup:p.Nodup
theorem Rp {p:List Int} (h:Ev p=true):Pd p:=by
 obtain ⟨h1,h2,h3⟩:=Dg.1 h
 refine ⟨h1,h2,fun y hy=>?_,Zj fun j hj=>(h3 j hj hj).2.2⟩
 obtain ⟨j,hj,rfl⟩:=List.mem_iff_getElem.1 hy
 have:=h3 j hj hj
 omega
theorem Pd.inj {p:List Int} (h:Pd p) (i j:Nat) (hi:i<p.length) (hj:j<p.length) (e:(Hm p (i:Int)).toNat=(Hm p (j:Int)).toNat):i=j:=by
 rw [Es hi,Es hj] at e
 have h1:=h.row _ (List.getElem_mem hi)
 have h2:=h.row _ (List.getElem_mem hj)
 have e:p[i]=p[j]:=by omega
 refine Classical.byContradiction fun hne=>?_
 rcases Nat.lt_or_gt_of_ne hne with hl|hl
 ·exact List.pairwise_iff_getElem.1 h.nodup i j hi hj hl e
 ·exact List.pairwise_iff_getElem.1 h.nodup j i hj hi hl e.symm
theorem Pd.Azc {p:List Int} (h:Pd p) (k:Nat) (hk:k<p.length): ∃i,i<p.length∧(Hm p (i:Int)).toNat=k:=by
 have hm:=(Td (xs:=p) h.row).2 (Akx h.nodup) k hk
 obtain ⟨i,hi,e⟩:=List.mem_iff_getElem.1 hm
 exact ⟨i,hi,by rw [Es hi,e];exact Int.toNat_natCast k⟩
theorem Pd.lt {p:List Int} (h:Pd p) {i:Nat} (hi:i<p.length):(Hm p (i:Int)).toNat<p.length:=by
 rw [Es hi]
 have:=h.row _ (List.getElem_mem hi)
 omega
theorem Of (p:List Int):(Af p).length=p.length:=by unfold Af;rw [Lx,List.length_replicate]
theorem Avm {p:List Int} (h:Pd p) {i:Nat} (hi:i<p.length):(Af p)[(Hm p (i:Int)).toNat]?=some (i:Int):=
 Yw (fun i=>(Hm p (i:Int)).toNat) (fun i=>(i:Int)) _ p.length (fun i j hi hj=>h.inj i j hi hj) i hi (by rw [List.length_replicate];exact h.lt hi)
theorem Ai5 {p:List Int} (h:Pd p):Et p.length (Af p):=by
 intro y hy
 obtain ⟨k,hk,rfl⟩:=List.mem_iff_getElem.1 hy
 have hk':k<p.length:=by rw [Of] at hk;exact hk
 obtain ⟨i,hi,rfl⟩:=h.Azc k hk'
 have:=Avm h hi
 rw [List.getElem?_eq_getElem hk] at this
 rw [Option.some.inj this]
 omega
theorem Jr (p q:List Int):(Aa p q).length=p.length:=by simp [Aa]
theorem Sb {p q:List Int} {n:Nat} (hp:Et q.length p) (hq:Et n q):Et n (Aa p q):=by
 intro y hy
 obtain ⟨x,hx,rfl⟩:=List.mem_map.1 hy
 have h1:=hp x hx
 rw [show x=(x.toNat:Int) by omega,Es (by omega)]
 exact hq _ (List.getElem_mem _)
theorem Amp (q s:List Int):(Ec q s).length=s.length:=by unfold Ec;rw [Lx,List.length_replicate]
theorem Air {q s:List Int} (hq:Pd q) (hl:s.length=q.length):Dn s q=Ec q s:=by
 have hcl:(Dn s q).length=q.length:=by simp only [Dn,Jr,Of]
 refine List.ext_getElem (by rw [hcl,Amp,hl]) fun k h1 h2=>?_
 have hk:k<q.length:=by rw [hcl] at h1;exact h1
 obtain ⟨i,hi,e⟩:=hq.Azc k hk
 have e1:=Yw (fun i=>(Hm q (i:Int)).toNat) (fun i=>Hm q (Hm s (i:Int))) (List.replicate s.length 0) s.length (fun i j hi hj=>hq.inj i j (by omega) (by omega)) i (by omega) (by rw [List.length_replicate,hl];exact hq.lt hi)
 have e2:=Avm hq hi
 rw [e] at e2
 simp only [e] at e1
 have e1:(Ec q s)[k]?=some (Hm q (Hm s (i:Int))):=e1
 rw [List.getElem?_eq_getElem h2] at e1
 rw [Option.some.inj e1]
 rw [List.getElem?_eq_getElem (by rw [Of];exact hk)] at e2
 simp only [Dn,Aa,List.getElem_map]
 rw [Option.some.inj e2]
theorem Ali (p q:List Int) (h:p.length≤20∧Et q.length p):fnW tab (look []) Jg Try.f131 (p,q,()) (fun (z:List Int)=>z=Aa p q):=by
 obtain ⟨h,hr⟩:=h
 refine Eq.mp (Am6 p q _) ?_
 refine ⟨⟨by omega,by show (p.length:Int)<(4294967296:Int)+1;omega⟩,rfl,rfl,rfl,?_⟩
 have hcl:=Jr p q
 refine Ao p.length (fun v=>v.1) (fun j v=>v.2.1.length=(Aa p q).length∧v.2.1.take j=(Aa p q).take j) rfl ⟨by rw [hcl];simp,by simp⟩ ?_
 rintro j ⟨i,ys,⟨⟩⟩ K hj hi ⟨h1,h2⟩ hK
 dsimp only at hi h1 h2⊢
 subst hi
 refine Br.dec (fun hl=>?_) fun hl=>?_
 ·have hl:j<p.length:=by omega
  have hy:=hr _ (List.getElem_mem hl)
  refine ⟨_,Bc hl,_,Aj7 hy.1 hy.2,⟨by omega,by omega⟩,by rw [Int.toNat_natCast];omega,rfl,by rw [List.length_set],?_⟩
  rw [Ak (by omega),Int.toNat_natCast,Nat.zero_add]
  have hl':j<(Aa p q).length:=by rw [hcl];exact hl
  have e:Hm q p[j]=(Aa p q)[j]:=by simp [Aa]
  rw [e]
  exact hK hl _ rfl ⟨by rw [List.length_set];exact h1,Oi hl' h1 h2⟩
 ·have:j=p.length:=by omega
  subst this
  rw [←hcl,List.take_length,←h1,List.take_length] at h2
  rw [List.drop_zero,List.take_length]
  exact h2
theorem Jo:Sound Try.prog 131 Jg:=
 Sound.mkS Cb Ar mixed Try.func131 (by kernel_rfl) (by kernel_rfl) fun x h=>Ali x.1 x.2.1 h
theorem Alj (p:List Int) (h:p.length≤20∧Et p.length p):fnW tab (look []) Cu Try.f165 (p,()) (fun (z:List Int)=>z=Af p):=by
 obtain ⟨h,hr⟩:=h
 refine Eq.mp (Am7 p _) ?_
 refine ⟨⟨by omega,by show (p.length:Int)<(4294967296:Int)+1;omega⟩,rfl,rfl,rfl,?_⟩
 refine Ao p.length (fun v=>v.1) (fun j v=>v.2.1=Oe (fun i=>(Hm p (i:Int)).toNat) (fun i=>(i:Int)) j (List.replicate p.length 0)) rfl rfl ?_
 rintro j ⟨i,ys,⟨⟩⟩ K hj hi h1 hK
 dsimp only at hi h1⊢
 subst hi
 have hlen:ys.length=p.length:=by rw [h1,Lx,List.length_replicate]
 refine Br.dec (fun hl=>?_) fun hl=>?_
 ·have hl:j<p.length:=by omega
  have hy:=hr _ (List.getElem_mem hl)
  refine ⟨_,Bc hl,⟨by omega,by omega⟩,by omega,rfl,by rw [List.length_set],?_⟩
  rw [Ak (by omega),Nat.zero_add]
  refine hK hl _ rfl ?_
  rw [Ml,←h1,Es hl]
 ·have:j=p.length:=by omega
  subst this
  rw [List.drop_zero,List.take_length]
  exact h1
theorem Jp:Sound Try.prog 165 Cu:=
 Sound.mkS Cb Ar mixed Try.func165 (by kernel_rfl) (by kernel_rfl) fun x h=>Alj x.1 h
theorem Azo (p:List Int) (h:p.length≤20∧Et p.length p):fnW tab (look []) Cu Try.f175 (p,()) (fun (z:List Int)=>z=Af p):=by
 obtain ⟨h,hr⟩:=h
 refine Eq.mp (Bav p _) ?_
 refine ⟨⟨by omega,by show (p.length:Int)<(4294967296:Int)+1;omega⟩,rfl,rfl,rfl,?_⟩
 refine Ao p.length (fun v=>v.1) (fun j v=>v.2.1=Oe (fun i=>(Hm p (i:Int)).toNat) (fun i=>(i:Int)) j (List.replicate p.length 0)) rfl rfl ?_
 rintro j ⟨i,ys,⟨⟩⟩ K hj hi h1 hK
 dsimp only at hi h1⊢
 subst hi
 have hlen:ys.length=p.length:=by rw [h1,Lx,List.length_replicate]
 refine Br.dec (fun hl=>?_) fun hl=>?_
 ·have hl:j<p.length:=by omega
  have hy:=hr _ (List.getElem_mem hl)
  refine ⟨_,Bc hl,⟨by omega,by omega⟩,by omega,rfl,by rw [List.length_set],?_⟩
  rw [Ak (by omega),Nat.zero_add]
  refine hK hl _ rfl ?_
  rw [Ml,←h1,Es hl]
 ·have:j=p.length:=by omega
  subst this
  rw [List.drop_zero,List.take_length]
  exact h1
theorem Alz:Sound Try.prog 175 Cu:=
 Sound.mkS Cb Ar mixed Try.func175 (by kernel_rfl) (by kernel_rfl) fun x h=>Azo x.1 h
theorem Alm (p:List Int) (h:Ev p=true):fnW tab (look [(169,Gf),(175,Cu)]) Eo Try.f160 (p,()) (fun (z:List Int)=>z=Af p):=by
 have hp:=Rp h
 have hs:short p:=by have:=hp.len;unfold short;omega
 refine Eq.mp (Am9 p _) ⟨_,if_pos hs,⟨fun he=>?_,fun _=>⟨_,if_pos ⟨hp.len,hp.row⟩,rfl⟩⟩⟩
 exact absurd h (Fv he)
theorem Sv:Sound Try.prog 160 Eo:=
 Sound.mkS Cb (Ae Va (Ae Alz Ar)) mixed Try.func160 (by kernel_rfl) (by kernel_rfl) fun x h=>Alm x.1 h
theorem Ap4 (q s:List Int) (h:s.length≤20∧q.length=s.length∧Et q.length q∧Et q.length s):fnW tab (look []) Fq Try.f134 (q,s,()) (fun (z:List Int)=>z=Ec q s):=by
 obtain ⟨h,hq,hr,hr2⟩:=h
 refine Eq.mp (Aqn q s _) ?_
 refine ⟨⟨by omega,by show (s.length:Int)<(4294967296:Int)+1;omega⟩,rfl,rfl,rfl,?_⟩
 refine Ao s.length (fun v=>v.1) (fun j v=>v.2.1=Oe (fun i=>(Hm q (i:Int)).toNat) (fun i=>Hm q (Hm s (i:Int))) j (List.replicate s.length 0)) rfl rfl ?_
 rintro j ⟨i,ys,⟨⟩⟩ K hj hi h1 hK
 dsimp only at hi h1⊢
 subst hi
 have hlen:ys.length=s.length:=by rw [h1,Lx,List.length_replicate]
 refine Br.dec (fun hl=>?_) fun hl=>?_
 ·have hl:j<s.length:=by omega
  have hlq:j<q.length:=by omega
  have hy:=hr _ (List.getElem_mem hlq)
  have hy2:=hr2 _ (List.getElem_mem hl)
  refine ⟨_,Bc hlq,_,Bc hl,_,Aj7 hy2.1 hy2.2,⟨by omega,by omega⟩,by omega,rfl,by rw [List.length_set],?_⟩
  rw [Ak (by omega),Nat.zero_add]
  refine hK hl _ rfl ?_
  rw [Ml,←h1,Es hlq,Es hl]
 ·have:j=s.length:=by omega
  subst this
  rw [List.drop_zero,List.take_length]
  exact h1
theorem Uy:Sound Try.prog 134 Fq:=
 Sound.mkS Cb Ar mixed Try.func134 (by kernel_rfl) (by kernel_rfl) fun x h=>Ap4 x.1 x.2.1 h
theorem At9 (p q:List Int) (h:p.length=q.length∧Et p.length p∧Ev q=true):fnW tab (look [(165,Cu),(131,Jg)]) Gy Try.f138 (p,q,()) (fun (z:List Int)=>z=Dn p q):=by
 obtain ⟨hl,hr,hq⟩:=h
 have hq:=Rp hq
 have h20:=hq.len
 refine Eq.mp (Auf p q _) ⟨_,if_pos ⟨hq.len,hq.row⟩,_,if_pos ⟨by show (Af q).length≤20;rw [Of];exact h20,?_⟩,_,if_pos ⟨?_,?_⟩,rfl⟩
 ·show Et p.length (Af q)
  rw [hl];exact Ai5 hq
 ·show (Aa (Af q) p).length≤20
  rw [Jr,Of];exact h20
 ·show Et q.length (Aa (Af q) p)
  exact Sb (by rw [hl];exact Ai5 hq) (by rw [←hl];exact hr)
theorem Xq:Sound Try.prog 138 Gy:=
 Sound.mkS Cb (Ae Jp (Ae Jo Ar)) mixed Try.func138 (by kernel_rfl) (by kernel_rfl) fun x h=>At9 x.1 x.2.1 h
theorem Nx (j:Nat):upto (j+1)=upto j++ [(j:Int)]:=by simp [upto,List.range_succ]
theorem Aw7 (n:Int) (h:0≤n∧n≤20):fnW tab (look []) Bv Try.f106 (n,()) (fun (z:List Int)=>z=upto n.toNat):=by
 refine Eq.mp (Axb n _) ⟨rfl,rfl,?_⟩
 refine Ao n.toNat (fun v=>v.1) (fun j v=>v.2.1=upto j) rfl rfl ?_
 rintro j ⟨i,ys,⟨⟩⟩ K hj hi h1 hK
 dsimp only at hi h1⊢
 subst hi h1
 refine Br.dec (fun hl=>?_) fun hl=>?_
 ·refine ⟨rfl,rfl,?_,rfl,rfl,?_⟩
  ·show (upto j).length+1≤4294967296
   rw [Ia];omega
  ·rw [Ak (by omega)]
   exact hK (by omega) _ rfl (Nx j).symm
 ·have:j=n.toNat:=by omega
  subst this
  rw [List.drop_zero,List.take_length]
theorem Akh:Sound Try.prog 106 Bv:=
 Sound.mkS Cb Ar mixed Try.func106 (by kernel_rfl) (by kernel_rfl) fun x h=>Aw7 x.1 h
theorem Ln {g:List (List Int)} {k:Nat} (h:k<g.length):Ad g ((k:Int)+1)=g[k]:=by
 unfold Ad
 rw [if_pos (by omega),show ((k:Int)+1-1).toNat=k by omega,List.getD_eq_getElem?_getD,List.getElem?_eq_getElem h];rfl
theorem Nm {g:List (List Int)} {k:Nat} (h:k<g.length):Ad g (-((k:Int)+1))=Af g[k]:=by
 unfold Ad
 rw [if_neg (by omega),show (-(-((k:Int)+1))-1).toNat=k by omega,List.getD_eq_getElem?_getD,List.getElem?_eq_getElem h];rfl
theorem Qd {n:Nat} {l:Int} (h:Eu n l): ∃k:Nat,k<n∧(l=(k:Int)+1∨l= -((k:Int)+1)):=by
 obtain ⟨h1,h2,h3⟩:=h
 by_cases h0:0<l
 ·exact ⟨(l-1).toNat,by omega, .inl (by omega)⟩
 ·exact ⟨(-l-1).toNat,by omega, .inr (by omega)⟩
theorem Aw8 (g:List (List Int)) (l:Int) (h:Eu (List.length g) l∧List.length g≤8∧ ∀p∈g,Ev p=true):fnW tab (look [(165,Cu)]) Hi Try.f155 (g,l,()) (fun (z:List Int)=>z=Ad g l):=by
 obtain ⟨hl,h8,hp⟩:=h
 refine Eq.mp (Axc g l _) ?_
 obtain ⟨k,hk,rfl|rfl⟩:=Qd hl
 ·refine Br.dec (fun _=>?_) fun hn=>by omega
  rw [Bp (by omega) (by omega),show (k:Int)+1-1=(k:Int) by omega]
  exact ⟨_,Bc hk,(Ln hk).symm⟩
 ·refine Br.dec (fun hn=>by omega) fun _=>?_
  rw [Bp (n:=0- -((k:Int)+1)) (by omega) (by omega),Bp (by omega) (by omega),show (0:Int)- -((k:Int)+1)-1=(k:Int) by omega]
  have:=Rp (hp _ (List.getElem_mem hk))
  exact ⟨_,Bc hk,_,if_pos ⟨this.len,this.row⟩,(Nm hk).symm⟩
theorem Aa0:Sound Try.prog 155 Hi:=
 Sound.mkS Cb (Ae Jp Ar) mixed Try.func155 (by kernel_rfl) (by kernel_rfl) fun x h=>Aw8 x.1 x.2.1 h
theorem Rl (j:Nat):Aq (j+1)=Aq j++ [(j:Int)+1,-((j:Int)+1)]:=by simp [Aq,List.range_succ,List.flatMap_append]
theorem Je (j:Nat):(Aq j).length=2*j:=by
 induction j with
 |zero=>rfl
 |succ j ih=>rw [Rl,List.length_append,ih];simp only [List.length_cons,List.length_nil];omega
theorem Jy {n:Nat} {l:Int} (h:l∈Aq n):Eu n l:=by
 unfold Aq at h
 obtain ⟨k,hk,hl⟩:=List.mem_flatMap.1 h
 have hk:=List.mem_range.1 hk
 simp only [List.mem_cons,List.not_mem_nil,or_false] at hl
 unfold Eu
 omega
theorem Azl (n:Int) (h:0≤n∧n≤8):fnW tab (look []) Gr Try.f112 (n,()) (fun (z:List Int)=>z=Aq n.toNat):=by
 refine Eq.mp (Bas n _) ⟨rfl,rfl,?_⟩
 refine Ao n.toNat (fun v=>v.1) (fun j v=>v.2.1=Aq j) rfl rfl ?_
 rintro j ⟨i,ys,⟨⟩⟩ K hj hi h1 hK
 dsimp only at hi h1⊢
 subst hi h1
 refine Br.dec (fun hl=>?_) fun hl=>?_
 ·refine ⟨rfl,rfl,?_,rfl,rfl,?_⟩
  ·show (Aq j).length+2≤4294967296
   rw [Je];omega
  ·have e1:IntKind.i64.wrap ((j:Int)+1)=(j:Int)+1:=Bp (by omega) (by omega)
   have e2:IntKind.i64.wrap ((0:Int)-((j:Int)+1))= -((j:Int)+1):=by rw [Bp (by omega) (by omega)];omega
   rw [e1,e2]
   exact hK (by omega) _ rfl (Rl j).symm
 ·have:j=n.toNat:=by omega
  subst this
  rw [List.drop_zero,List.take_length]
theorem To:Sound Try.prog 112 Gr:=
 Sound.mkS Cb Ar mixed Try.func112 (by kernel_rfl) (by kernel_rfl) fun x h=>Azl x.1 h
theorem As0 (g:List (List Int)) (x:List Int): ∀(c k:Nat),k+c=g.length→Rk g x ((List.range' k c).flatMap fun (k:Nat)=> [(k:Int)+1,-((k:Int)+1)])=Az5 x (g.drop k) ((k:Int)+1)
 |0,k,h=>by
  have:k=g.length:=by omega
  subst this
  rw [List.drop_length];rfl
 |c+1,k,h=>by
  have hk:k<g.length:=by omega
  rw [List.range'_succ,List.flatMap_cons,List.drop_eq_getElem_cons hk]
  simp only [List.cons_append,List.nil_append,Rk,Az5]
  rw [Ln hk,Nm hk,As0 g x c (k+1) (by omega)]
  rfl
theorem Al6 (g:List (List Int)) (x:List Int):Rk g x (Aq g.length)=Fo g x:=by
 unfold Aq Fo
 rw [List.range_eq_range',As0 g x g.length 0 (by omega)]
 rfl
structure Valid (p:PP):Prop where
 n:1≤p.1∧p.1≤20
 few:1≤p.2.2.1.length∧p.2.2.1.length≤8
 perm: ∀m∈p.2.2.1,Ev m=true
 len: ∀m∈p.2.2.1,(m.length:Int)=p.1
theorem valid {p:PP} (h:At p=true):Valid p:=by
 have h0:=Ad7 h
 obtain ⟨h1,_,_⟩:=Dg.1 h
 obtain ⟨_,_,h4⟩:=Dg.1 h1
 exact ⟨⟨h0.1,h0.2.1⟩,h0.2.2,fun m hm=>(Dg.1 (h4 m hm)).2,fun m hm=>(Dg.1 (h4 m hm)).1⟩
theorem Uo {p:PP} (h:Valid p) {l:Int} (hl:Eu (List.length p.2.2.1) l):((Ad p.2.2.1 l).length:Int)=p.1∧Et (Ad p.2.2.1 l).length (Ad p.2.2.1 l):=by
 obtain ⟨k,hk,rfl|rfl⟩:=Qd hl
 ·rw [Ln hk]
  exact ⟨h.len _ (List.getElem_mem hk),(Rp (h.perm _ (List.getElem_mem hk))).row⟩
 ·rw [Nm hk,Of]
  exact ⟨h.len _ (List.getElem_mem hk),Ai5 (Rp (h.perm _ (List.getElem_mem hk)))⟩
theorem Bc3 (p:PP) (q:List Int) (l:Int) (h:At p=true∧Di p.1 q=true∧Eu (List.length p.2.2.1) l):fnW tab (look [(138,Gy),(155,Hi),(112,Gr),(63,Bd)]) Uu Try.f163 (p,q,l,()) (fun (z:Int)=>z=Jx p q l):=by
 obtain ⟨hv,hq,hl⟩:=h
 have hv:=valid hv
 obtain ⟨hq1,hq2⟩:=Dg.1 hq
 obtain ⟨hl1,hl2⟩:=Uo hv hl
 have hf:=hv.few
 have hn:=hv.n
 refine Eq.mp (Bd2 p q l _) ⟨_,if_pos ⟨hl,hf.2,hv.perm⟩,_,if_pos ⟨by show (Ad p.2.2.1 l).length=q.length;omega,hl2,hq2⟩,Aq p.2.2.1.length,if_pos ⟨Int.natCast_nonneg _,by show ((p.2.2.1.length:Nat):Int)≤8;omega⟩,?_⟩
 have hL:=Je p.2.2.1.length
 have hF:Rk p.2.2.1 (Dn (Ad p.2.2.1 l) q) (Aq p.2.2.1.length)=Jx p q l:=Al6 _ _
 refine Ao (Aq p.2.2.1.length).length (fun v=>v.1) (fun j v=>v.2=(p.1,p.2.1,p.2.2.1,())∧Rk p.2.2.1 (Dn (Ad p.2.2.1 l) q) ((Aq p.2.2.1.length).drop j)=Jx p q l) rfl ⟨rfl,by rw [List.drop_zero];exact hF⟩ ?_
 rintro j ⟨i,v⟩ K hj hi ⟨hv',hR⟩ hK
 dsimp only at hi hv'⊢
 subst hi hv'
 dsimp only
 refine Br.dec (fun hlt=>?_) fun hlt=>?_
 ·have hlt:j<(Aq p.2.2.1.length).length:=by omega
  have hlj:=Jy (List.getElem_mem hlt)
  have hs:=Uo hv hlj
  rw [List.drop_eq_getElem_cons hlt] at hR
  simp only [Rk] at hR
  refine ⟨_,Bc hlt,_,if_pos ⟨hlj,hf.2,hv.perm⟩,_,if_pos (by show short (Ad p.2.2.1 (Aq p.2.2.1.length)[j]);unfold short;have:=hs.1;omega),⟨fun he=>?_,fun he=>?_⟩⟩
  ·have he:decide (Ad p.2.2.1 (Aq p.2.2.1.length)[j]=Dn (Ad p.2.2.1 l) q)=true:=he
   rw [if_pos (of_decide_eq_true he)] at hR
   exact hR
  ·have he:decide (Ad p.2.2.1 (Aq p.2.2.1.length)[j]=Dn (Ad p.2.2.1 l) q)=false:=he
   rw [if_neg (of_decide_eq_false he)] at hR
   rw [Ak (by omega)]
   exact hK hlt _ rfl ⟨rfl,hR⟩
 ·have:j=(Aq p.2.2.1.length).length:=by omega
  subst this
  rw [List.drop_length] at hR
  exact hR
theorem Aq4:Sound Try.prog 163 Uu:=
 Sound.mkS Cb (Ae Xq (Ae Aa0 (Ae To (Ae Su Ar)))) mixed Try.func163 (by kernel_rfl) (by kernel_rfl) fun x h=>Bc3 x.1 x.2.1 x.2.2.1 h
theorem Apa (p:PP) (x:List Int) (h:At p=true∧short x):fnW tab (look [(59,Bd),(160,Eo)]) Kj Try.f176 (p,x,()) (fun (z:Int)=>z=Fo p.2.2.1 x):=by
 obtain ⟨hv,hx⟩:=h
 have hv:=valid hv
 have hf:=hv.few
 have hn:=hv.n
 refine Eq.mp (Aqt p x _) ?_
 refine Ao p.2.2.1.length (fun v=>v.1-1) (fun j v=>v.2=(p.1,p.2.1,p.2.2.1,())∧Az5 x (p.2.2.1.drop j) ((j:Int)+1)=Fo p.2.2.1 x) rfl ⟨rfl,rfl⟩ ?_
 rintro j ⟨i,v⟩ K hj hi ⟨hv',hR⟩ hK
 dsimp only at hi hv'⊢
 subst hv'
 obtain rfl:i=(j:Int)+1:=by omega
 dsimp only
 refine Br.dec (fun hl=>?_) fun hl=>?_
 ·have hl:j<p.2.2.1.length:=by omega
  have hm:=hv.perm _ (List.getElem_mem hl)
  have hlen:=hv.len _ (List.getElem_mem hl)
  rw [List.drop_eq_getElem_cons hl] at hR
  simp only [Az5] at hR
  rw [Bp (n:=(j:Int)+1-1) (by omega) (by omega),show (j:Int)+1-1=(j:Int) by omega]
  refine ⟨_,Bc hl,_,if_pos (by show short p.2.2.1[j];unfold short;omega),⟨fun he=>?_,fun he=>⟨_,Bc hl,_,if_pos hm,_,if_pos (by show short (Af p.2.2.1[j]);unfold short;rw [Of];omega),⟨fun he2=>?_,fun he2=>?_⟩⟩⟩⟩
  ·have he:decide (p.2.2.1[j]=x)=true:=he
   rw [if_pos (of_decide_eq_true he)] at hR
   exact hR
  ·have he:decide (p.2.2.1[j]=x)=false:=he
   have he2:decide (Af p.2.2.1[j]=x)=true:=he2
   rw [if_neg (of_decide_eq_false he),if_pos (of_decide_eq_true he2)] at hR
   rw [Bp (by omega) (by omega),←hR]
   omega
  ·have he:decide (p.2.2.1[j]=x)=false:=he
   have he2:decide (Af p.2.2.1[j]=x)=false:=he2
   rw [if_neg (of_decide_eq_false he),if_neg (of_decide_eq_false he2)] at hR
   rw [Bp (by omega) (by omega)]
   exact hK hl _ (by dsimp only;omega) ⟨rfl,by push_cast;exact hR⟩
 ·have:j=p.2.2.1.length:=by omega
  subst this
  rw [List.drop_length] at hR
  exact hR
theorem Ag9:Sound Try.prog 176 Kj:=
 Sound.mkS Cb (Ae Pk (Ae Sv Ar)) mixed Try.func176 (by kernel_rfl) (by kernel_rfl) fun x h=>Apa x.1 x.2.1 h
theorem Ap7 (p:PP) (q:List Int) (h:At p=true∧Di p.1 q=true):fnW tab (look [(163,Uu)]) Iz Try.f136 (p,q,()) (fun (z:Bool)=>z=Gw p q):=by
 have hv:=valid h.1
 have hf:=hv.few
 refine Eq.mp (Aqq p q _) ?_
 refine Ao p.2.2.1.length (fun v=>v.1) (fun j v=>v.2=(p.1,p.2.1,p.2.2.1,())∧ ∀k:Nat,k<j→Jx p q ((k:Int)+1)≠0) rfl ⟨rfl,fun k hk=>absurd hk (Nat.not_lt_zero _)⟩ ?_
 rintro j ⟨i,v⟩ K hj hi ⟨hv',hR⟩ hK
 dsimp only at hi hv'⊢
 subst hi hv'
 dsimp only
 refine Br.dec (fun hl=>?_) fun hl=>?_
 ·have hl:j<p.2.2.1.length:=by omega
  have e1:IntKind.i64.wrap ((j:Int)+1)=(j:Int)+1:=Bp (by omega) (by omega)
  rw [e1]
  refine ⟨_,if_pos ⟨h.1,h.2,by dsimp only;omega,by dsimp only;omega,by dsimp only;omega⟩,⟨fun he=>?_,fun he=>?_⟩⟩
  ·have he:(Jx p q ((j:Int)+1)==0)=true:=he
   exact Bu fun hh=>hh j hl (beq_iff_eq.1 he)
  ·have he:(Jx p q ((j:Int)+1)==0)=false:=he
   refine hK hl _ rfl ⟨rfl,fun k hk=>?_⟩
   by_cases e:k=j
   ·subst e;exact beq_eq_false_iff_ne.1 he
   ·exact hR k (by omega)
 ·have:j=p.2.2.1.length:=by omega
  subst this
  exact Js hR
theorem Ag7:Sound Try.prog 136 Iz:=
 Sound.mkS Cb (Ae Aq4 Ar) mixed Try.func136 (by kernel_rfl) (by kernel_rfl) fun x h=>Ap7 x.1 x.2.1 h
theorem Apd (p:PP) (q:List Int) (h:At p=true∧Di p.1 q=true):fnW tab (look [(176,Kj),(134,Fq)]) Iz Try.f162 (p,q,()) (fun (z:Bool)=>z=Gw p q):=by
 have hv:=valid h.1
 have hf:=hv.few
 have hn:=hv.n
 obtain ⟨hq1,hq2⟩:=Dg.1 h.2
 have hq:=Rp hq2
 refine Eq.mp (Aqw p q _) ?_
 refine Ao p.2.2.1.length (fun v=>v.1) (fun j v=>v.2=(p.1,p.2.1,p.2.2.1,())∧ ∀k:Nat,k<j→Jx p q ((k:Int)+1)≠0) rfl ⟨rfl,fun k hk=>absurd hk (Nat.not_lt_zero _)⟩ ?_
 rintro j ⟨i,v⟩ K hj hi ⟨hv',hR⟩ hK
 dsimp only at hi hv'⊢
 subst hi hv'
 dsimp only
 refine Br.dec (fun hl=>?_) fun hl=>?_
 ·have hl:j<p.2.2.1.length:=by omega
  have hm:=Rp (hv.perm _ (List.getElem_mem hl))
  have hlen:=hv.len _ (List.getElem_mem hl)
  have e:p.2.2.1[j].length=q.length:=by omega
  have hI:Fo p.2.2.1 (Ec q p.2.2.1[j])=Jx p q ((j:Int)+1):=by
   unfold Jx
   rw [Ln hl,Air hq e]
  refine ⟨_,Bc hl,_,if_pos ⟨hm.len,e.symm,hq.row,by rw [←e];exact hm.row⟩,_,if_pos ⟨h.1,by show short (Ec q p.2.2.1[j]);unfold short;rw [Amp];omega⟩,⟨fun he=>?_,fun he=>?_⟩⟩
  ·have he:(Fo p.2.2.1 (Ec q p.2.2.1[j])==0)=true:=he
   rw [hI] at he
   exact Bu fun hh=>hh j hl (beq_iff_eq.1 he)
  ·have he:(Fo p.2.2.1 (Ec q p.2.2.1[j])==0)=false:=he
   rw [hI] at he
   rw [Ak (by omega)]
   refine hK hl _ rfl ⟨rfl,fun k hk=>?_⟩
   by_cases e:k=j
   ·subst e;exact beq_eq_false_iff_ne.1 he
   ·exact hR k (by omega)
 ·have:j=p.2.2.1.length:=by omega
  subst this
  exact Js hR
theorem Agb:Sound Try.prog 162 Iz:=
 Sound.mkS Cb (Ae Ag9 (Ae Uy Ar)) mixed Try.func162 (by kernel_rfl) (by kernel_rfl) fun x h=>Apd x.1 x.2.1 h
theorem Ar7 (s y:List Int) (P:List Int→Prop) (h1:s.length≤20) (h2:Et y.length s) (h3:P (Aa s y)):
  Bo
   (fun (v5:Int×List Int×PUnit) (k6:Int×List Int×PUnit→Prop)=>
    Br (decide (v5.1<(↑s.length:Int)))
     (∃(y7:Int),
      idx s v5.1=some y7∧
       ∃(y8:Int),
        idx y y7=some y8∧
         (0:Nat)=(0:Nat)∧
          v5.2.1.length=v5.2.1.length∧
           v5.2.1.length+(List.take (1:Nat) (List.drop (0:Nat) [y8])).length≤Am∧
            (0:Nat)=(0:Nat)∧
             (v5.2.1++List.take (1:Nat) (List.drop (0:Nat) [y8])).length=(v5.2.1++List.take (1:Nat) (List.drop (0:Nat) [y8])).length∧
              k6 (IntKind.i64.wrap (v5.1+(1:Int)),v5.2.1++List.take (1:Nat) (List.drop (0:Nat) [y8]),()))
     (P (List.take v5.2.1.length (List.drop (0:Nat) v5.2.1))))
   ((0:Int),([]:List Int),PUnit.unit):=by
 refine Ao s.length (fun v=>v.1) (fun j v=>v.2.1=(s.take j).map (Hm y)) rfl (by simp) ?_
 rintro j ⟨i,ys,⟨⟩⟩ K hj hi hR hK
 dsimp only at hi hR⊢
 subst hi hR
 refine Br.dec (fun hl=>?_) fun hl=>?_
 ·have hl:j<s.length:=by omega
  have hy:=h2 _ (List.getElem_mem hl)
  refine ⟨_,Bc hl,_,Aj7 hy.1 hy.2,rfl,rfl,?_,rfl,rfl,?_⟩
  ·show ((s.take j).map (Hm y)).length+1≤4294967296
   rw [List.length_map,List.length_take];omega
  ·rw [Ak (by omega)]
   refine hK hl _ rfl ?_
   dsimp only
   rw [List.take_succ_eq_append_getElem hl,List.map_append]
   rfl
 ·have:j=s.length:=by omega
  subst this
  rw [List.drop_zero,List.take_length,List.take_length]
  exact h3
theorem Bc0 (p:PP) (s:List Int) (l:Int) (h:At p=true∧List.length s≤20∧(∀y∈s,0≤y∧y<p.1)∧Eu (List.length p.2.2.1) l):fnW tab (look [(160,Eo)]) Ut Try.f129 (p,s,l,()) (fun (z:List Int)=>z=Aa s (Ad p.2.2.1 l)):=by
 obtain ⟨hv,hs,hr,hl⟩:=h
 have hv:=valid hv
 have hf:=hv.few
 refine Eq.mp (Bcz p s l _) ?_
 have hlo:=Uo hv hl
 have hrow:Et (Ad p.2.2.1 l).length s:=fun y hy=>by have:=hr y hy;omega
 obtain ⟨k,hk,rfl|rfl⟩:=Qd hl
 ·rw [if_pos rfl,Bp (n:=0-((k:Int)+1)) (by omega) (by omega),if_neg (by omega),Bp (by omega) (by omega),show (k:Int)+1-1=(k:Int) by omega]
  refine ⟨_,Bc hk,Br.dec (fun hn=>by omega) fun _=>⟨rfl,rfl,?_⟩⟩
  rw [Ln hk] at hrow⊢
  exact Ar7 s _ (fun z=>z=Aa s p.2.2.1[k]) hs hrow rfl
 ·rw [if_pos rfl,Bp (n:=0- -((k:Int)+1)) (by omega) (by omega),if_pos (by omega),Bp (by omega) (by omega),show (0:Int)- -((k:Int)+1)-1=(k:Int) by omega]
  refine ⟨_,Bc hk,Br.dec (fun _=>⟨_,if_pos (hv.perm _ (List.getElem_mem hk)),rfl,rfl,?_⟩) fun hn=>by omega⟩
  rw [Nm hk] at hrow⊢
  exact Ar7 s (Af p.2.2.1[k]) (fun z=>z=Aa s (Af p.2.2.1[k])) hs hrow rfl
theorem Apz:Sound Try.prog 129 Ut:=
 Sound.mkS Cb (Ae Sv Ar) mixed Try.func129 (by kernel_rfl) (by kernel_rfl) fun x h=>Bc0 x.1 x.2.1 x.2.2.1 h
end Go.Proofs.Ytebabhocakedaaa

namespace Go.Proofs.Ytebabhocakedaaa
open Go.RowKit
abbrev rL:CK:= .row tI 2
abbrev xLL:CK:= .xrow tL 25
def Sl:List (List Int)→Nat
 | []=>0
 |r::rs=>r.length+Sl rs
def low (k:Int):Prop:=0≤k∧k≤1099511627776
theorem Bq {α:Type} (xs:List α):List.take xs.length (List.drop 0 xs)=xs:=by rw [List.drop_zero,List.take_length]
end Go.Proofs.Ytebabhocakedaaa

namespace Go.Proofs.Ytebabhocakedaaa
open Go.RowKit
theorem Bco {n:Nat} {room:Int} (h: ¬Afn n room<0):Afn n room=room-n∧(n:Int)≤room:=by
 unfold Afn at*
 split at h
 ·exact absurd (show (-1:Int)<0 by decide) h
 ·rename_i h1;rw [if_neg h1];exact ⟨rfl,by omega⟩
theorem Au5: ∀(xs:List (List Int)) (room:Int),0≤room→ ¬Au4 xs room<0→Au4 xs room=room-Sl xs
 | [],room,_,_=>by simp [Au4,Sl]
 |r::xs,room,h0,h=>by
  simp only [Au4,Sl] at h⊢
  split at h
  ·exact absurd (show (-1:Int)<0 by decide) h
  ·rename_i h1
   rw [if_neg h1]
   have e1:=Bco (n:=r.length) h1
   have e1:Aeg r room=room-r.length∧(r.length:Int)≤room:=e1
   rw [Au5 xs _ (by rw [e1.1];omega) h,e1.1]
   omega
theorem Bcm {xs:List (List Int)} {room:Int} (h: ¬Tj xs room<0):Tj xs room=room-xs.length-Sl xs:=by
 unfold Tj at*
 split at h
 ·exact absurd (show (-1:Int)<0 by decide) h
 ·rename_i h1
  rw [if_neg h1]
  have e1:=Bco h1
  rw [Au5 xs _ (by rw [e1.1];omega) h,e1.1]
end Go.Proofs.Ytebabhocakedaaa

namespace Go.Proofs.Ytebabhocakedaaa
open Go.RowKit
noncomputable abbrev Aka:Be:=mkM [none] [(false, .dat (.oslice tI))] false [none] [rL] (fun x=>short (x.1.getD [])) (fun x=>((x.1.getD [],()),()))
noncomputable abbrev Aer:Be:=mkM [none] [(false, .dat tL)] false [none] [rL] (fun x=>short x.1) (fun x=>((x.1,()),()))
noncomputable abbrev Iq:Spec:=mkS (.pair tL .unit) tL false true (fun x=>short x.1) (fun x=>x.1)
theorem Bd1 (xs:Option (List Int)) (P:((List Int×Unit)×Unit)→Prop):(Br xs.isNone (P ((List.take (0:Nat) (List.drop (0:Nat) []),()),()))
 ((0:Nat)=(0:Nat)∧(0:Nat)=([]:List Int).length∧(0:Nat)+(xs.getD []).length≤Am∧P ((List.take ([]++xs.getD []).length (List.drop (0:Nat) ([]++xs.getD [])),()),())))=Nj Aa6 (look []) Aka Try.f121 (xs,()) P:=by kernel_rfl
theorem Axa (xs:List Int) (P:List Int→Prop):((0:Nat)=(0:Nat)∧(0:Nat)=([]:List Int).length∧(0:Nat)+xs.length≤Am∧P (List.take ([]++xs).length (List.drop (0:Nat) ([]++xs))))=fnW tab (look []) Iq Try.f120 (xs,()) P:=by kernel_rfl
theorem Bc2 (xs:Option (List Int)) (h:short (xs.getD [])):Nj Aa6 (look []) Aka Try.f121 (xs,()) (fun (z:(List Int×Unit)×Unit)=>z=((xs.getD [],()),())):=by
 unfold short at h
 refine Eq.mp (Bd1 xs _) ⟨fun hn=>?_,fun _=>⟨rfl,rfl,by show 0+(xs.getD []).length≤4294967296;omega,?_⟩⟩
 ·cases xs with
  |none=>rfl
  |some y=>cases hn
 ·simp only [Bq,List.nil_append]
theorem Aq2:Bi Try.prog 121 Aka:=
 Bi.mkM Tr Ar mixed Try.func121 (by kernel_rfl) (by kernel_rfl) fun x h=>Bc2 x.1 h
theorem Aq1:Bi Try.prog 121 Aer:=Bi.ofO Aq2 fun _ _ h=>⟨h,rfl⟩
theorem Aw6 (xs:List Int) (h:short xs):fnW tab (look []) Iq Try.f120 (xs,()) (fun (z:List Int)=>z=xs):=by
 unfold short at h
 refine Eq.mp (Axa xs _) ⟨rfl,rfl,by show 0+xs.length≤4294967296;omega,?_⟩
 simp only [Bq,List.nil_append]
theorem Zz:Sound Try.prog 120 Iq:=
 Sound.mkS Cb Ar mixed Try.func120 (by kernel_rfl) (by kernel_rfl) fun x h=>Aw6 x.1 h
end Go.Proofs.Ytebabhocakedaaa

namespace Go.Proofs.Ytebabhocakedaaa
open Go.RowKit
def Lz (xs:List Int):ByteArray:=bytesOf (xs.map fun x=>IntKind.u8.wrap x)
noncomputable abbrev Ei:Spec:=mkS (.pair tL .unit) .str false true (fun x=>short x.1) (fun x=>Lz x.1)
def Aem (ps:List (List Int)) (p:List Int):Int:=Fk (fun q=>decide (q=p)) ps 0
theorem Axh (xs:List Int) (P:ByteArray→Prop):(((0:Int)≤(↑xs.length:Int)∧(↑xs.length:Int)<(↑Am:Int)+(1:Int))∧
 (↑xs.length:Int)=(↑xs.length:Int)∧
  (0:Nat)=(0:Nat)∧
   (List.replicate (↑xs.length:Int).toNat (Int.ofNat (nat_lit 0))).length=(List.replicate (↑xs.length:Int).toNat (Int.ofNat (nat_lit 0))).length∧
    Bo
     (fun (v2:Int×List Int×PUnit) (k3:Int×List Int×PUnit→Prop)=>
      Br (decide (v2.1<(↑xs.length:Int)))
       (∃(y4:Int),
        idx xs v2.1=some y4∧
         ((0:Int)≤v2.1∧v2.1<(↑v2.2.1.length:Int))∧
          (0:Nat)+v2.1.toNat<v2.2.1.length∧
           (0:Nat)=(0:Nat)∧
            v2.2.1.length=(v2.2.1.set ((0:Nat)+v2.1.toNat) (IntKind.u8.wrap y4)).length∧
             k3 (IntKind.i64.wrap (v2.1+(1:Int)),v2.2.1.set ((0:Nat)+v2.1.toNat) (IntKind.u8.wrap y4),()))
       (P (bytesOf (List.take v2.2.1.length (List.drop (0:Nat) v2.2.1)))))
     ((0:Int),List.replicate (↑xs.length:Int).toNat (Int.ofNat (nat_lit 0)),PUnit.unit))=fnW tab (look []) Ei Try.f111 (xs,()) P:=by kernel_rfl
theorem Awd (xs:List Int) (h:short xs):fnW tab (look []) Ei Try.f111 (xs,()) (fun (z:ByteArray)=>z=Lz xs):=by
 unfold short at h
 refine Eq.mp (Axh xs _) ?_
 refine ⟨⟨by omega,by show (xs.length:Int)<(4294967296:Int)+1;omega⟩,rfl,rfl,rfl,?_⟩
 have hcl:(xs.map fun x=>IntKind.u8.wrap x).length=xs.length:=by simp
 refine Ao xs.length (fun v=>v.1) (fun j v=>v.2.1.length=(xs.map fun x=>IntKind.u8.wrap x).length∧v.2.1.take j=(xs.map fun x=>IntKind.u8.wrap x).take j) rfl ⟨by rw [hcl];simp,by simp⟩ ?_
 rintro j ⟨i,ys,⟨⟩⟩ K hj hi ⟨h1,h2⟩ hK
 dsimp only at hi h1 h2⊢
 subst hi
 refine Br.dec (fun hl=>?_) fun hl=>?_
 ·have hl:j<xs.length:=by omega
  refine ⟨_,Bc hl,⟨by omega,by omega⟩,by rw [Int.toNat_natCast];omega,rfl,by rw [List.length_set],?_⟩
  rw [Ak (by omega),Int.toNat_natCast,Nat.zero_add]
  have hl':j<(xs.map fun x=>IntKind.u8.wrap x).length:=by rw [hcl];exact hl
  have e:IntKind.u8.wrap xs[j]=(xs.map fun x=>IntKind.u8.wrap x)[j]:=by simp
  rw [e]
  exact hK hl _ rfl ⟨by rw [List.length_set];exact h1,Oi hl' h1 h2⟩
 ·have:j=xs.length:=by omega
  subst this
  rw [←hcl,List.take_length,←h1,List.take_length] at h2
  rw [List.drop_zero,List.take_length,h2];rfl
theorem Akn:Sound Try.prog 111 Ei:=
 Sound.mkS Cb Ar mixed Try.func111 (by kernel_rfl) (by kernel_rfl) fun x h=>Awd x.1 h
theorem Xj {α:Type} (P:α→Bool) (y:α): ∀(l:List α) (i:Int),0≤i→Fk P (l++ [y]) i=if Fk P l i<0 then (if P y=true then i+l.length else-1) else Fk P l i
 | [],i,_=>by simp [Fk]
 |x::r,i,h=>by
  simp only [List.cons_append,Fk,List.length_cons]
  split
  ·rw [if_neg (by omega)]
  ·rw [Xj P y r (i+1) (by omega),show i+1+(r.length:Int)=i+((r.length+1:Nat):Int) by push_cast;omega]
theorem Apg (ps:List (List Int)) (q p:List Int):Aem (ps++ [q]) p=if Aem ps p<0 then (if q=p then (ps.length:Int) else-1) else Aem ps p:=by
 unfold Aem
 rw [Xj _ _ _ _ (Int.le_refl 0)]
 simp only [decide_eq_true_eq,Int.zero_add]
def Qy (p:List Int):Prop:= ∀x∈p,0≤x∧x<256
theorem Bb8 {x y:Int} (hx:0≤x∧x<256) (hy:0≤y∧y<256) (h:UInt8.ofNat (IntKind.u8.wrap x).toNat=UInt8.ofNat (IntKind.u8.wrap y).toNat):x=y:=by
 have h:=congrArg UInt8.toNat h
 simp only [IntKind.wrap_u8,UInt8.toNat_ofNat'] at h
 omega
theorem bytes_inj: ∀(p q:List Int),Qy p→Qy q→(p.map fun x=>UInt8.ofNat (IntKind.u8.wrap x).toNat)=(q.map fun x=>UInt8.ofNat (IntKind.u8.wrap x).toNat)→p=q
 | [],[],_,_,_=>rfl
 | [],_::_,_,_,h=>by simp at h
 |_::_,[],_,_,h=>by simp at h
 |x::p,y::q,hp,hq,h=>by
  simp only [List.map_cons,List.cons.injEq] at h
  rw [Bb8 (hp x (by simp)) (hq y (by simp)) h.1,bytes_inj p q (fun z hz=>hp z (by simp [hz])) (fun z hz=>hq z (by simp [hz])) h.2]
theorem key_inj {p q:List Int} (hp:Qy p) (hq:Qy q) (h:Lz p=Lz q):p=q:=by
 refine bytes_inj p q hp hq ?_
 simp only [Lz,bytesOf,ByteArray.mk.injEq,List.map_map] at h
 have h:=congrArg Array.toList h
 simpa [Function.comp_def] using h
def KM (m:ByteArray→Option Int) (ps:List (List Int)):Prop:= ∀p,Qy p→m (Lz p)=if Aem ps p<0 then none else some (Aem ps p)
theorem KM.nil:KM (fun _=>none) []:=fun p _=>by
 rw [if_pos (by unfold Aem;simp [Fk])]
theorem KM.add {m:ByteArray→Option Int} {ps:List (List Int)} {q:List Int} (h:KM m ps) (hq:Qy q) (hn:Aem ps q<0):KM (Ek m (Lz q) (ps.length:Int)) (ps++ [q]):=by
 intro p hp
 rw [Apg]
 unfold Ek
 by_cases e:p=q
 ·subst e
  rw [if_pos rfl,if_pos hn,if_pos rfl,if_neg (by omega)]
 ·rw [if_neg (fun hk=>e (key_inj hp hq hk)),h p hp]
  have e': ¬q=p:=fun h=>e h.symm
  rw [if_neg e']
  by_cases hpn:Aem ps p<0
  ·rw [if_pos hpn,if_pos hpn,if_pos (by decide)]
  ·rw [if_neg hpn,if_neg hpn,if_neg hpn]
end Go.Proofs.Ytebabhocakedaaa

namespace Go.Proofs.Ytebabhocakedaaa
open Go.RowKit
noncomputable abbrev Mh:Spec:=mkS (.pair Db .unit) tL false true (fun x=>List.length x.1.2.2.1≤8) (fun x=>Aq (List.length x.1.2.2.1))
theorem Aul (p:Int×ByteArray×List (List Int)×Unit) (P:List Int→Prop):((0:Nat)=(0:Nat)∧
 (0:Nat)=([]:List Int).length∧
  Bo
   (fun (v2:Int×Int×ByteArray×List (List Int)×List Int×PUnit) (k3:Int×Int×ByteArray×List (List Int)×List Int×PUnit→Prop)=>
    Br (decide (v2.1≤(↑v2.2.2.2.1.length:Int)))
     ((0:Nat)=(0:Nat)∧
      v2.2.2.2.2.1.length=v2.2.2.2.2.1.length∧
       v2.2.2.2.2.1.length+(List.take (2:Nat) (List.drop (0:Nat) [v2.1,IntKind.i64.wrap ((0:Int)-v2.1)])).length≤Am∧
        (0:Nat)=(0:Nat)∧
         (v2.2.2.2.2.1++List.take (2:Nat) (List.drop (0:Nat) [v2.1,IntKind.i64.wrap ((0:Int)-v2.1)])).length=
           (v2.2.2.2.2.1++List.take (2:Nat) (List.drop (0:Nat) [v2.1,IntKind.i64.wrap ((0:Int)-v2.1)])).length∧
          k3
           (IntKind.i64.wrap (v2.1+(1:Int)),v2.2.1,v2.2.2.1,v2.2.2.2.1,
            v2.2.2.2.2.1++List.take (2:Nat) (List.drop (0:Nat) [v2.1,IntKind.i64.wrap ((0:Int)-v2.1)]),()))
     (P (List.take v2.2.2.2.2.1.length (List.drop (0:Nat) v2.2.2.2.2.1))))
   ((1:Int),p.1,p.2.1,p.2.2.1,[],PUnit.unit))=fnW tab (look []) Mh Try.f142 (p,()) P:=by kernel_rfl
theorem Atf (p:PP) (h:List.length p.2.2.1≤8):fnW tab (look []) Mh Try.f142 (p,()) (fun (z:List Int)=>z=Aq (List.length p.2.2.1)):=by
 refine Eq.mp (Aul p _) ⟨rfl,rfl,?_⟩
 refine Bo.mk (fun v=> ∃j:Nat,j≤List.length p.2.2.1∧v=((j:Int)+1,p.1,p.2.1,p.2.2.1,Aq j,())) (fun v=>List.length p.2.2.1+1-v.1.toNat) ⟨0,Nat.zero_le _,rfl⟩ ?_
 rintro _ ⟨j,hj,rfl⟩
 dsimp only
 refine Br.dec (fun hl=>?_) fun hl=>?_
 ·refine ⟨rfl,rfl,?_,rfl,rfl,⟨j+1,by omega,?_⟩,?_⟩
  ·show (Aq j).length+2≤4294967296
   rw [Je];omega
  ·rw [Rl,Bp (n:=(j:Int)+1+1) (by omega) (by omega),Bp (n:=0-((j:Int)+1)) (by omega) (by omega),Int.zero_sub]
   rfl
  ·rw [Bp (by omega) (by omega)];omega
 ·have:j=List.length p.2.2.1:=by omega
  subst this
  rw [Bq]
theorem Ahu:Sound Try.prog 142 Mh:=
 Sound.mkS Cb Ar mixed Try.func142 (by kernel_rfl) (by kernel_rfl) fun x h=>Atf x.1 h
theorem Bbl {a:Int} {P:Prop} (h:(a !=a)=true):P:=by simp at h
theorem Bcn {p:PP} {room:Int} (hr:roomy room) (h: ¬Zi p room<0):(Sl p.2.2.1:Int)≤room-Zi p room∧roomy (Zi p room):=by
 unfold Zi at h⊢
 split at h
 ·exact absurd (show (-1:Int)<0 by decide) h
 ·rename_i h1
  rw [if_neg h1]
  split at h
  ·exact absurd (show (-1:Int)<0 by decide) h
  ·rename_i h2
   rw [if_neg h2]
   have e2:=Bcm h2
   obtain ⟨r1,r2⟩:=hr
   unfold roomy
   omega
end Go.Proofs.Ytebabhocakedaaa

namespace Go.Proofs.Ytebabhocakedaaa
open Go.RowKit
abbrev rLL:CK:= .row tL 25
def Ri (v:Int):List Int→Nat
 | []=>0
 |x::r=>if x>v then Ri v r+1 else 0
def Aee (v:Int) (t:List Int):Option (List Int):=if Ri v t=0 then none else some (Hm t ((Ri v t-1:Nat):Int)::(t.set (Ri v t-1) v).reverse)
def Ff:List Int→Option (List Int)
 | []=>none
 |v::t=>match Ff t with
  |some t'=>some (v::t')
  |none=>Aee v t
def Ah8 (xs:List Int) (o n i k:Nat):Option Int:=if o≤k∧k<o+n∧(k<o+i∨o+n≤k+i) then xs[o+n-1-(k-o)]? else xs[k]?
def Xk (xs:List Int) (o n:Nat):List Int:=List.take o xs++(List.take n (List.drop o xs)).reverse++List.drop (o+n) xs
noncomputable abbrev Nu:Be:=mkM [none] [(true, .part tI 2)] false [] [] (fun x=>short x.1.1∧x.1.2.1+x.1.2.2≤List.length x.1.1) (fun x=>((),(Xk x.1.1 x.1.2.1 x.1.2.2,())))
noncomputable abbrev Kb:Be:=mkM [none] [(true,rL)] false [none] [.dat .bool] (fun x=>1≤List.length x.1∧List.length x.1≤20∧List.Nodup (x.1:List Int)) (fun x=>(((Ff x.1).isSome,()),((Ff x.1).getD x.1,())))
noncomputable abbrev Mf:Be:=mkM [none] [(false, .dat tI)] false [none] [rL] (fun x=>0≤x.1∧x.1≤20) (fun x=>((upto x.1.toNat,()),()))
def lex:Nat→List Int→List (List Int)
 |0,_=> [[]]
 |k+1,R=>R.flatMap fun v=>(lex k (R.erase v)).map (v:: ·)
def Ad1 (n:Nat) (l:List Int):List Int:=(upto n).filter fun v=>!l.contains v
noncomputable def Fp (p:PP):List (List Int):=(lex p.1.toNat (upto p.1.toNat)).filter (Gw p)
def Kp (n:Nat) (l:List Int):List (List Int):=(lex (n-l.length) (Ad1 n l)).map (l++ ·)
noncomputable def Abk (p:PP) (l:List Int) (out:List (List Int)):List (List Int):=out++(Kp p.1.toNat l).filter (Gw p)
noncomputable abbrev Nv:Be:=mkM [some 3] [(false, .dat tI),(false, .dat .str),(false, .dat tLL)] false [none] [xLL] (fun x=>At (x.1,x.2.1,x.2.2.1,())=true∧x.1≤7) (fun x=>((Fp (x.1,x.2.1,x.2.2.1,()),()),()))
noncomputable abbrev Kt (m:Nat):Be:=mkM [some 3,none,none] [(false, .dat tI),(false, .dat .str),(false, .dat tLL),(false, .dat tL),(false,rLL)] false [none] [rLL]
 (fun x=>(At (x.1,x.2.1,x.2.2.1,())=true∧x.1≤7∧List.Nodup (x.2.2.2.1:List Int)∧Et x.1.toNat x.2.2.2.1∧List.length x.2.2.2.1≤x.1.toNat∧List.length x.2.2.2.2.1+(Kp x.1.toNat x.2.2.2.1).length≤6000)∧x.1.toNat-List.length x.2.2.2.1<m)
 (fun x=>((Abk (x.1,x.2.1,x.2.2.1,()) x.2.2.2.1 x.2.2.2.2.1,()),()))
noncomputable abbrev Ez:Be:=mkM [none] [(false, .dat tL)] false [none] [rL] (fun x=>short x.1) (fun x=>((x.1,()),()))
theorem Aug (xs:List Int) (P:((List Int×Unit)×Unit)→Prop):((0:Nat)=(0:Nat)∧(0:Nat)=([]:List Int).length∧(0:Nat)+xs.length≤Am∧P ((List.take ([]++xs).length (List.drop (0:Nat) ([]++xs)),()),()))=Nj Aa6 (look []) Ez Try.f120 (xs,()) P:=by kernel_rfl
theorem Bau (a:List Int×Nat×Nat) (P:(Unit×List Int×Unit)→Prop):(a.2.1=a.2.1∧
 a.2.2=a.2.2∧
  Bo
   (fun (v2:Int×Int×List Int×PUnit) (k3:Int×Int×List Int×PUnit→Prop)=>
    Br (decide (v2.1<v2.2.1))
     (((0:Int)≤v2.2.1∧v2.2.1<(↑a.2.2:Int))∧
      ∃(y4:Int),
       v2.2.2.1[a.2.1+v2.2.1.toNat]?=some y4∧
        ((0:Int)≤v2.1∧v2.1<(↑a.2.2:Int))∧
         ∃(y5:Int),
          v2.2.2.1[a.2.1+v2.1.toNat]?=some y5∧
           ((0:Int)≤v2.1∧v2.1<(↑a.2.2:Int))∧
            a.2.1+v2.1.toNat<v2.2.2.1.length∧
             ((0:Int)≤v2.2.1∧v2.2.1<(↑a.2.2:Int))∧
              a.2.1+v2.2.1.toNat<(v2.2.2.1.set (a.2.1+v2.1.toNat) y4).length∧
               a.2.1=a.2.1∧
                a.2.2=a.2.2∧
                 k3
                  (IntKind.i64.wrap (v2.1+(1:Int)),IntKind.i64.wrap (v2.2.1-(1:Int)),(v2.2.2.1.set (a.2.1+v2.1.toNat) y4).set (a.2.1+v2.2.1.toNat) y5,
                   ()))
     (P ((),v2.2.2.1,())))
   ((0:Int),IntKind.i64.wrap ((↑a.2.2:Int)-(1:Int)),a.1,PUnit.unit))=Nj Bfa (look []) Nu Try.f164 (a,()) P:=by kernel_rfl
theorem Axd (xs:List Int) (P:((Bool×Unit)×List Int×Unit)→Prop):((0:Nat)=(0:Nat)∧
 xs.length=xs.length∧
  Bo
   (fun (v2:Int×List Int×PUnit) (k3:Int×List Int×PUnit→Prop)=>
    Br (decide (v2.1≥(0:Int)))
     (((0:Int)≤v2.1∧v2.1<(↑v2.2.1.length:Int))∧
      ∃(y4:Int),
       v2.2.1[(0:Nat)+v2.1.toNat]?=some y4∧
        ((0:Int)≤IntKind.i64.wrap (v2.1+(1:Int))∧IntKind.i64.wrap (v2.1+(1:Int))<(↑v2.2.1.length:Int))∧
         ∃(y5:Int),
          v2.2.1[(0:Nat)+(IntKind.i64.wrap (v2.1+(1:Int))).toNat]?=some y5∧
           Br (decide (y4>y5)) ((0:Nat)=(0:Nat)∧v2.2.1.length=v2.2.1.length∧k3 (IntKind.i64.wrap (v2.1-(1:Int)),v2.2.1,()))
            (Br (decide (v2.1<(0:Int))) (P ((false,()),v2.2.1,()))
             ((0:Nat)=(0:Nat)∧
              v2.2.1.length=v2.2.1.length∧
               Bo
                (fun (v6:Int×List Int×PUnit) (k7:Int×List Int×PUnit→Prop)=>
                 ((0:Int)≤v6.1∧v6.1<(↑v6.2.1.length:Int))∧
                  ∃(y8:Int),
                   v6.2.1[(0:Nat)+v6.1.toNat]?=some y8∧
                    ((0:Int)≤v2.1∧v2.1<(↑v6.2.1.length:Int))∧
                     ∃(y9:Int),
                      v6.2.1[(0:Nat)+v2.1.toNat]?=some y9∧
                       Br (decide (y8<y9)) ((0:Nat)=(0:Nat)∧v6.2.1.length=v6.2.1.length∧k7 (IntKind.i64.wrap (v6.1-(1:Int)),v6.2.1,()))
                        (((0:Int)≤v6.1∧v6.1<(↑v6.2.1.length:Int))∧
                         ∃(y10:Int),
                          v6.2.1[(0:Nat)+v6.1.toNat]?=some y10∧
                           ((0:Int)≤v2.1∧v2.1<(↑v6.2.1.length:Int))∧
                            ∃(y11:Int),
                             v6.2.1[(0:Nat)+v2.1.toNat]?=some y11∧
                              ((0:Int)≤v2.1∧v2.1<(↑v6.2.1.length:Int))∧
                               (0:Nat)+v2.1.toNat<v6.2.1.length∧
                                ((0:Int)≤v6.1∧v6.1<(↑v6.2.1.length:Int))∧
                                 (0:Nat)+v6.1.toNat<(v6.2.1.set ((0:Nat)+v2.1.toNat) y10).length∧
                                  ((0:Int)≤IntKind.i64.wrap (v2.1+(1:Int))∧
                                    IntKind.i64.wrap (v2.1+(1:Int))≤(↑v6.2.1.length:Int)∧(↑v6.2.1.length:Int)≤(↑v6.2.1.length:Int))∧
                                   ∃(y12:PUnit×List Int×PUnit),
                                    Nu.fn
                                       (((v6.2.1.set ((0:Nat)+v2.1.toNat) y10).set ((0:Nat)+v6.1.toNat) y11,
                                         (0:Nat)+(IntKind.i64.wrap (v2.1+(1:Int))).toNat,
                                         (↑v6.2.1.length:Int).toNat-(IntKind.i64.wrap (v2.1+(1:Int))).toNat),
                                        ())=
                                      some y12∧
                                     y12.2.1.length=((v6.2.1.set ((0:Nat)+v2.1.toNat) y10).set ((0:Nat)+v6.1.toNat) y11).length∧
                                      P ((true,()),y12.2.1,())))
                (IntKind.i64.wrap ((↑v2.2.1.length:Int)-(1:Int)),v2.2.1,PUnit.unit))))
     (Br (decide (v2.1<(0:Int))) (P ((false,()),v2.2.1,()))
      ((0:Nat)=(0:Nat)∧
       v2.2.1.length=v2.2.1.length∧
        Bo
         (fun (v4:Int×List Int×PUnit) (k5:Int×List Int×PUnit→Prop)=>
          ((0:Int)≤v4.1∧v4.1<(↑v4.2.1.length:Int))∧
           ∃(y6:Int),
            v4.2.1[(0:Nat)+v4.1.toNat]?=some y6∧
             ((0:Int)≤v2.1∧v2.1<(↑v4.2.1.length:Int))∧
              ∃(y7:Int),
               v4.2.1[(0:Nat)+v2.1.toNat]?=some y7∧
                Br (decide (y6<y7)) ((0:Nat)=(0:Nat)∧v4.2.1.length=v4.2.1.length∧k5 (IntKind.i64.wrap (v4.1-(1:Int)),v4.2.1,()))
                 (((0:Int)≤v4.1∧v4.1<(↑v4.2.1.length:Int))∧
                  ∃(y8:Int),
                   v4.2.1[(0:Nat)+v4.1.toNat]?=some y8∧
                    ((0:Int)≤v2.1∧v2.1<(↑v4.2.1.length:Int))∧
                     ∃(y9:Int),
                      v4.2.1[(0:Nat)+v2.1.toNat]?=some y9∧
                       ((0:Int)≤v2.1∧v2.1<(↑v4.2.1.length:Int))∧
                        (0:Nat)+v2.1.toNat<v4.2.1.length∧
                         ((0:Int)≤v4.1∧v4.1<(↑v4.2.1.length:Int))∧
                          (0:Nat)+v4.1.toNat<(v4.2.1.set ((0:Nat)+v2.1.toNat) y8).length∧
                           ((0:Int)≤IntKind.i64.wrap (v2.1+(1:Int))∧
                             IntKind.i64.wrap (v2.1+(1:Int))≤(↑v4.2.1.length:Int)∧(↑v4.2.1.length:Int)≤(↑v4.2.1.length:Int))∧
                            ∃(y10:PUnit×List Int×PUnit),
                             Nu.fn
                                (((v4.2.1.set ((0:Nat)+v2.1.toNat) y8).set ((0:Nat)+v4.1.toNat) y9,
                                  (0:Nat)+(IntKind.i64.wrap (v2.1+(1:Int))).toNat,
                                  (↑v4.2.1.length:Int).toNat-(IntKind.i64.wrap (v2.1+(1:Int))).toNat),
                                 ())=
                               some y10∧
                              y10.2.1.length=((v4.2.1.set ((0:Nat)+v2.1.toNat) y8).set ((0:Nat)+v4.1.toNat) y9).length∧P ((true,()),y10.2.1,())))
         (IntKind.i64.wrap ((↑v2.2.1.length:Int)-(1:Int)),v2.2.1,PUnit.unit))))
   (IntKind.i64.wrap ((↑xs.length:Int)-(2:Int)),xs,PUnit.unit))=Nj Aa6 (look [(164,Nu)]) Kb Try.f137 (xs,()) P:=by kernel_rfl
theorem Aui (n:Int) (P:((List Int×Unit)×Unit)→Prop):(((0:Int)≤n∧n<(↑Am:Int)+(1:Int))∧
 n=n∧
  (0:Nat)=(0:Nat)∧
   (List.replicate n.toNat (Int.ofNat (nat_lit 0))).length=(List.replicate n.toNat (Int.ofNat (nat_lit 0))).length∧
    Bo
     (fun (v2:Int×List Int×PUnit) (k3:Int×List Int×PUnit→Prop)=>
      Br (decide (v2.1<(↑(List.replicate n.toNat (Int.ofNat (nat_lit 0))).length:Int)))
       (((0:Int)≤v2.1∧v2.1<(↑v2.2.1.length:Int))∧
        (0:Nat)+v2.1.toNat<v2.2.1.length∧
         (0:Nat)=(0:Nat)∧
          v2.2.1.length=(v2.2.1.set ((0:Nat)+v2.1.toNat) v2.1).length∧k3 (IntKind.i64.wrap (v2.1+(1:Int)),v2.2.1.set ((0:Nat)+v2.1.toNat) v2.1,()))
       (P ((List.take v2.2.1.length (List.drop ((0:Nat)) v2.2.1),()),())))
     ((0:Int),List.replicate n.toNat (Int.ofNat (nat_lit 0)),PUnit.unit))=Nj Aa6 (look []) Mf Try.f110 (n,()) P:=by kernel_rfl
theorem Axi (n:Int) (str:ByteArray) (g:List (List Int)) (P:((List (List Int)×Unit)×Unit)→Prop):(∃(y4:(List Int×PUnit)×PUnit),
 Mf.fn (n,())=some y4∧
  (0:Nat)=(0:Nat)∧
   (0:Nat)=([]:List Int).length∧
    (0:Nat)=(0:Nat)∧
     y4.1.1.length=y4.1.1.length∧
      Bo
       (fun (v5:Int×ByteArray×List (List Int)×List (List Int)×List Int×PUnit) (k6:Int×ByteArray×List (List Int)×List (List Int)×List Int×PUnit→Prop)=>
        ∃(y7:Bool),
         Iz.fn ((v5.1,v5.2.1,v5.2.2.1,()),List.take v5.2.2.2.2.1.length (List.drop ((0:Nat)) v5.2.2.2.2.1),())=some y7∧
          Br y7
           (∃(y8:(List Int×PUnit)×PUnit),
            Aer.fn (List.take v5.2.2.2.2.1.length (List.drop ((0:Nat)) v5.2.2.2.2.1),())=some y8∧
             (0:Nat)=(0:Nat)∧
              v5.2.2.2.1.length=v5.2.2.2.1.length∧
               v5.2.2.2.1.length+(List.take (1:Nat) (List.drop (0:Nat) [List.take y8.1.1.length (List.drop (0:Nat) y8.1.1)])).length≤Am∧
                (0:Nat)=(0:Nat)∧
                 v5.2.2.2.2.1.length=v5.2.2.2.2.1.length∧
                  ∃(y9:(Bool×PUnit)×List Int×PUnit),
                   Kb.fn (v5.2.2.2.2.1,())=some y9∧
                    (y9.2.1.length=v5.2.2.2.2.1.length∧v5.2.2.2.2.1.length=v5.2.2.2.2.1.length)∧
                     Br (!y9.1.1)
                      (P
                       ((List.take (v5.2.2.2.1++List.take (1:Nat) (List.drop (0:Nat) [List.take y8.1.1.length (List.drop (0:Nat) y8.1.1)])).length
                          (List.drop (0:Nat) (v5.2.2.2.1++List.take (1:Nat) (List.drop (0:Nat) [List.take y8.1.1.length (List.drop (0:Nat) y8.1.1)]))),
                         ()),
                        ()))
                      ((0:Nat)=(0:Nat)∧
                       (v5.2.2.2.1++List.take (1:Nat) (List.drop (0:Nat) [List.take y8.1.1.length (List.drop (0:Nat) y8.1.1)])).length=
                         (v5.2.2.2.1++List.take (1:Nat) (List.drop (0:Nat) [List.take y8.1.1.length (List.drop (0:Nat) y8.1.1)])).length∧
                        (0:Nat)=(0:Nat)∧
                         v5.2.2.2.2.1.length=y9.2.1.length∧
                          k6
                           (v5.1,v5.2.1,v5.2.2.1,
                            v5.2.2.2.1++List.take (1:Nat) (List.drop (0:Nat) [List.take y8.1.1.length (List.drop (0:Nat) y8.1.1)]),y9.2.1,())))
           ((0:Nat)=(0:Nat)∧
            v5.2.2.2.2.1.length=v5.2.2.2.2.1.length∧
             ∃(y8:(Bool×PUnit)×List Int×PUnit),
              Kb.fn (v5.2.2.2.2.1,())=some y8∧
               (y8.2.1.length=v5.2.2.2.2.1.length∧v5.2.2.2.2.1.length=v5.2.2.2.2.1.length)∧
                Br (!y8.1.1) (P ((List.take v5.2.2.2.1.length (List.drop ((0:Nat)) v5.2.2.2.1),()),()))
                 ((0:Nat)=(0:Nat)∧
                  v5.2.2.2.1.length=v5.2.2.2.1.length∧
                   (0:Nat)=(0:Nat)∧v5.2.2.2.2.1.length=y8.2.1.length∧k6 (v5.1,v5.2.1,v5.2.2.1,v5.2.2.2.1,y8.2.1,()))))
       (n,str,g,[],y4.1.1,PUnit.unit))=Nj Aa6 (look [(110,Mf),(136,Iz),(121,Aer),(137,Kb)]) Nv Try.f87 (n,str,g,()) P:=by kernel_rfl
theorem Bff {m:Nat} (n:Int) (str:ByteArray) (g:List (List Int)) (l:List Int) (out:List (List Int)) (P:((List (List Int)×Unit)×Unit)→Prop):(Br ((↑l.length:Int)==n)
 (∃(y7:Bool),
  Iz.fn ((n,str,g,()),l,())=some y7∧
   Br y7
    (∃(y8:(List Int×PUnit)×PUnit),
     Ez.fn (l,())=some y8∧
      (0:Nat)=(0:Nat)∧
       out.length=out.length∧
        out.length+(List.take (1:Nat) (List.drop (0:Nat) [List.take y8.1.1.length (List.drop (0:Nat) y8.1.1)])).length≤Am∧
         P
          ((List.take (out++List.take (1:Nat) (List.drop (0:Nat) [List.take y8.1.1.length (List.drop (0:Nat) y8.1.1)])).length
             (List.drop (0:Nat) (out++List.take (1:Nat) (List.drop (0:Nat) [List.take y8.1.1.length (List.drop (0:Nat) y8.1.1)]))),
            ()),
           ()))
    (P ((List.take out.length (List.drop (0:Nat) out),()),())))
 ((0:Nat)=(0:Nat)∧
  out.length=out.length∧
   Bo
    (fun (v7:Int×Int×ByteArray×List (List Int)×List (List Int)×PUnit) (k8:Int×Int×ByteArray×List (List Int)×List (List Int)×PUnit→Prop)=>
     Br (decide (v7.1<v7.2.1))
      (∃(y9:Bool),
       En.fn (l,v7.1,())=some y9∧
        Br (!y9)
         (((∃(y10:(List Int×PUnit)×PUnit),
            Ez.fn (l,())=some y10∧
             (0:Nat)=(0:Nat)∧
              y10.1.1.length=y10.1.1.length∧
               y10.1.1.length+(List.take (1:Nat) (List.drop (0:Nat) [v7.1])).length≤Am∧
                (0:Nat)=(0:Nat)∧
                 v7.2.2.2.2.1.length=v7.2.2.2.2.1.length∧
                  ∃(y11:(List (List Int)×PUnit)×PUnit),
                   (Kt m).fn
                      (v7.2.1,v7.2.2.1,v7.2.2.2.1,
                       List.take (y10.1.1++List.take (1:Nat) (List.drop (0:Nat) [v7.1])).length
                        (List.drop (0:Nat) (y10.1.1++List.take (1:Nat) (List.drop (0:Nat) [v7.1]))),
                       v7.2.2.2.2.1,())=
                     some y11∧
                    (0:Nat)=(0:Nat)∧
                     y11.1.1.length=y11.1.1.length∧k8 (IntKind.i64.wrap (v7.1+(1:Int)),v7.2.1,v7.2.2.1,v7.2.2.2.1,y11.1.1,()))∧
           ∃(y10:(List Int×PUnit)×PUnit),
            Ez.fn (l,())=some y10∧
             (0:Nat)=(0:Nat)∧
              y10.1.1.length=y10.1.1.length∧
               y10.1.1.length+(List.take (1:Nat) (List.drop (0:Nat) [v7.1])).length≤Am∧
                (0:Nat)=(0:Nat)∧
                 v7.2.2.2.2.1.length=v7.2.2.2.2.1.length∧
                  ∃(y11:(List (List Int)×PUnit)×PUnit),
                   (Kt m).fn
                      (v7.2.1,v7.2.2.1,v7.2.2.2.1,
                       List.take (y10.1.1++List.take (1:Nat) (List.drop (0:Nat) [v7.1])).length
                        (List.drop (0:Nat) (y10.1.1++List.take (1:Nat) (List.drop (0:Nat) [v7.1]))),
                       v7.2.2.2.2.1,())=
                     some y11∧
                    (0:Nat)=(0:Nat)∧
                     y11.1.1.length=y11.1.1.length∧k8 (IntKind.i64.wrap (v7.1+(1:Int)),v7.2.1,v7.2.2.1,v7.2.2.2.1,y11.1.1,()))∧
          (∃(y10:(List Int×PUnit)×PUnit),
            Ez.fn (l,())=some y10∧
             ((0:Nat)=(0:Nat)∧
               y10.1.1.length=y10.1.1.length∧
                y10.1.1.length+(List.take (1:Nat) (List.drop (0:Nat) [v7.1])).length≤Am∧
                 (0:Nat)=(0:Nat)∧
                  v7.2.2.2.2.1.length=v7.2.2.2.2.1.length∧
                   ∃(y11:(List (List Int)×PUnit)×PUnit),
                    (Kt m).fn
                       (v7.2.1,v7.2.2.1,v7.2.2.2.1,
                        List.take (y10.1.1++List.take (1:Nat) (List.drop (0:Nat) [v7.1])).length
                         (List.drop (0:Nat) (y10.1.1++List.take (1:Nat) (List.drop (0:Nat) [v7.1]))),
                        v7.2.2.2.2.1,())=
                      some y11∧
                     (0:Nat)=(0:Nat)∧
                      y11.1.1.length=y11.1.1.length∧k8 (IntKind.i64.wrap (v7.1+(1:Int)),v7.2.1,v7.2.2.1,v7.2.2.2.1,y11.1.1,()))∧
              ((0:Nat)=(0:Nat)∧
                y10.1.1.length=y10.1.1.length∧
                 y10.1.1.length+(List.take (1:Nat) (List.drop (0:Nat) [v7.1])).length≤Am∧
                  (0:Nat)=(0:Nat)∧
                   v7.2.2.2.2.1.length=v7.2.2.2.2.1.length∧
                    ∃(y11:(List (List Int)×PUnit)×PUnit),
                     (Kt m).fn
                        (v7.2.1,v7.2.2.1,v7.2.2.2.1,
                         List.take (y10.1.1++List.take (1:Nat) (List.drop (0:Nat) [v7.1])).length
                          (List.drop (0:Nat) (y10.1.1++List.take (1:Nat) (List.drop (0:Nat) [v7.1]))),
                         v7.2.2.2.2.1,())=
                       some y11∧
                      (0:Nat)=(0:Nat)∧
                       y11.1.1.length=y11.1.1.length∧k8 (IntKind.i64.wrap (v7.1+(1:Int)),v7.2.1,v7.2.2.1,v7.2.2.2.1,y11.1.1,()))∧
               (0:Nat)=(0:Nat)∧
                y10.1.1.length=y10.1.1.length∧
                 y10.1.1.length+(List.take (1:Nat) (List.drop (0:Nat) [v7.1])).length≤Am∧
                  (0:Nat)=(0:Nat)∧
                   v7.2.2.2.2.1.length=v7.2.2.2.2.1.length∧
                    ∃(y11:(List (List Int)×PUnit)×PUnit),
                     (Kt m).fn
                        (v7.2.1,v7.2.2.1,v7.2.2.2.1,
                         List.take (y10.1.1++List.take (1:Nat) (List.drop (0:Nat) [v7.1])).length
                          (List.drop (0:Nat) (y10.1.1++List.take (1:Nat) (List.drop (0:Nat) [v7.1]))),
                         v7.2.2.2.2.1,())=
                       some y11∧
                      (0:Nat)=(0:Nat)∧
                       y11.1.1.length=y11.1.1.length∧k8 (IntKind.i64.wrap (v7.1+(1:Int)),v7.2.1,v7.2.2.1,v7.2.2.2.1,y11.1.1,()))∧
           (∃(y10:(List Int×PUnit)×PUnit),
             Ez.fn (l,())=some y10∧
              (0:Nat)=(0:Nat)∧
               y10.1.1.length=y10.1.1.length∧
                y10.1.1.length+(List.take (1:Nat) (List.drop (0:Nat) [v7.1])).length≤Am∧
                 (0:Nat)=(0:Nat)∧
                  v7.2.2.2.2.1.length=v7.2.2.2.2.1.length∧
                   ∃(y11:(List (List Int)×PUnit)×PUnit),
                    (Kt m).fn
                       (v7.2.1,v7.2.2.1,v7.2.2.2.1,
                        List.take (y10.1.1++List.take (1:Nat) (List.drop (0:Nat) [v7.1])).length
                         (List.drop (0:Nat) (y10.1.1++List.take (1:Nat) (List.drop (0:Nat) [v7.1]))),
                        v7.2.2.2.2.1,())=
                      some y11∧
                     (0:Nat)=(0:Nat)∧
                      y11.1.1.length=y11.1.1.length∧k8 (IntKind.i64.wrap (v7.1+(1:Int)),v7.2.1,v7.2.2.1,v7.2.2.2.1,y11.1.1,()))∧
            ∃(y10:(List Int×PUnit)×PUnit),
             Ez.fn (l,())=some y10∧
              ((0:Nat)=(0:Nat)∧
                y10.1.1.length=y10.1.1.length∧
                 y10.1.1.length+(List.take (1:Nat) (List.drop (0:Nat) [v7.1])).length≤Am∧
                  (0:Nat)=(0:Nat)∧
                   v7.2.2.2.2.1.length=v7.2.2.2.2.1.length∧
                    ∃(y11:(List (List Int)×PUnit)×PUnit),
                     (Kt m).fn
                        (v7.2.1,v7.2.2.1,v7.2.2.2.1,
                         List.take (y10.1.1++List.take (1:Nat) (List.drop (0:Nat) [v7.1])).length
                          (List.drop (0:Nat) (y10.1.1++List.take (1:Nat) (List.drop (0:Nat) [v7.1]))),
                         v7.2.2.2.2.1,())=
                       some y11∧
                      (0:Nat)=(0:Nat)∧
                       y11.1.1.length=y11.1.1.length∧k8 (IntKind.i64.wrap (v7.1+(1:Int)),v7.2.1,v7.2.2.1,v7.2.2.2.1,y11.1.1,()))∧
               (0:Nat)=(0:Nat)∧
                y10.1.1.length=y10.1.1.length∧
                 y10.1.1.length+(List.take (1:Nat) (List.drop (0:Nat) [v7.1])).length≤Am∧
                  (0:Nat)=(0:Nat)∧
                   v7.2.2.2.2.1.length=v7.2.2.2.2.1.length∧
                    ∃(y11:(List (List Int)×PUnit)×PUnit),
                     (Kt m).fn
                        (v7.2.1,v7.2.2.1,v7.2.2.2.1,
                         List.take (y10.1.1++List.take (1:Nat) (List.drop (0:Nat) [v7.1])).length
                          (List.drop (0:Nat) (y10.1.1++List.take (1:Nat) (List.drop (0:Nat) [v7.1]))),
                         v7.2.2.2.2.1,())=
                       some y11∧
                      (0:Nat)=(0:Nat)∧
                       y11.1.1.length=y11.1.1.length∧k8 (IntKind.i64.wrap (v7.1+(1:Int)),v7.2.1,v7.2.2.1,v7.2.2.2.1,y11.1.1,()))
         ((0:Nat)=(0:Nat)∧
          v7.2.2.2.2.1.length=v7.2.2.2.2.1.length∧k8 (IntKind.i64.wrap (v7.1+(1:Int)),v7.2.1,v7.2.2.1,v7.2.2.2.1,v7.2.2.2.2.1,())))
      (P ((List.take v7.2.2.2.2.1.length (List.drop ((0:Nat)) v7.2.2.2.2.1),()),())))
    ((0:Int),n,str,g,out,PUnit.unit)))=Nj Aa6 (look [(162,Iz),(120,Ez),(152,En),(133,Xz.m (Kt m))]) (Kt (m+1)) Try.f133 (n,str,g,l,out,()) P:=by kernel_rfl
theorem Az6 {xs:List Int} {o n:Nat} (h:o+n≤xs.length) (k:Nat):(Xk xs o n)[k]?=if o≤k∧k<o+n then xs[o+n-1-(k-o)]? else xs[k]?:=by
 unfold Xk
 have l1:(List.take o xs).length=o:=by rw [List.length_take];omega
 have l2:(List.take n (List.drop o xs)).reverse.length=n:=by rw [List.length_reverse,List.length_take,List.length_drop];omega
 rw [List.append_assoc]
 by_cases h1:k<o
 ·rw [List.getElem?_append_left (by omega),if_neg (by omega),List.getElem?_take_of_lt h1]
 ·rw [List.getElem?_append_right (by omega),l1]
  by_cases h2:k<o+n
  ·rw [List.getElem?_append_left (by omega),if_pos ⟨by omega,h2⟩,List.getElem?_reverse (by rw [List.length_take,List.length_drop];omega)]
   rw [List.length_take,List.length_drop,List.getElem?_take_of_lt (by omega),List.getElem?_drop]
   congr 1
   omega
  ·rw [List.getElem?_append_right (by omega),l2,if_neg (by omega),List.getElem?_drop]
   congr 1
   omega
theorem Azn (a:List Int×Nat×Nat) (h:short a.1∧a.2.1+a.2.2≤a.1.length):Nj Bfa (look []) Nu Try.f164 (a,()) (fun (z:Unit×List Int×Unit)=>z=((),(Xk a.1 a.2.1 a.2.2,()))):=by
 obtain ⟨xs,o,n⟩:=a
 obtain ⟨hs,hn⟩:=h
 dsimp only at hs hn
 unfold short at hs
 refine Eq.mp (Bau (xs,o,n) _) ⟨rfl,rfl,?_⟩
 dsimp only
 refine Bo.mk (fun v=> ∃i:Nat,v.1=i∧v.2.1=(n:Int)-1-i∧2*i≤n∧v.2.2.1.length=xs.length∧ ∀k,v.2.2.1[k]?=Ah8 xs o n i k) (fun v=>n-v.1.toNat)
  ⟨0,rfl,by rw [Bp (by omega) (by omega)];simp,by omega,rfl,fun k=>by unfold Ah8;rw [if_neg (by omega)]⟩ ?_
 rintro ⟨i',j',ys,⟨⟩⟩ ⟨i,h1,h2,h3,h4,h5⟩
 dsimp only at h1 h2 h4 h5⊢
 subst h1 h2
 refine Br.dec (fun hl=>?_) fun hl=>?_
 ·have hij:i<n-1-i:=by omega
  have hj:((n:Int)-1-i).toNat=n-1-i:=by omega
  have g1:ys[o+(n-1-i)]?=xs[o+(n-1-i)]?:=by rw [h5];unfold Ah8;rw [if_neg (by omega)]
  have g2:ys[o+i]?=xs[o+i]?:=by rw [h5];unfold Ah8;rw [if_neg (by omega)]
  have k1:o+(n-1-i)<xs.length:=by omega
  have k2:o+i<xs.length:=by omega
  rw [hj,Int.toNat_natCast]
  refine ⟨⟨by omega,by omega⟩,_,g1.trans (List.getElem?_eq_getElem k1),⟨by omega,by omega⟩,_,g2.trans (List.getElem?_eq_getElem k2),⟨by omega,by omega⟩,by omega,⟨by omega,by omega⟩,by rw [List.length_set];omega,rfl,rfl,?_⟩
  rw [Bp (by omega) (by omega),Bp (by omega) (by omega)]
  refine ⟨⟨i+1,by push_cast;omega,by push_cast;omega,by omega,by rw [List.length_set,List.length_set];exact h4,fun k=>?_⟩,by omega⟩
  by_cases e1:k=o+(n-1-i)
  ·subst e1
   rw [List.getElem?_set_self (by rw [List.length_set];omega)]
   unfold Ah8
   rw [if_pos (by omega),←List.getElem?_eq_getElem k2]
   congr 1;omega
  ·rw [List.getElem?_set_ne (Ne.symm e1)]
   by_cases e2:k=o+i
   ·subst e2
    rw [List.getElem?_set_self (by omega)]
    unfold Ah8
    rw [if_pos (by omega),←List.getElem?_eq_getElem k1]
    congr 1;omega
   ·rw [List.getElem?_set_ne (Ne.symm e2),h5]
    unfold Ah8
    by_cases e3:o≤k∧k<o+n∧(k<o+i∨o+n≤k+i)
    ·rw [if_pos e3,if_pos (by omega)]
    ·rw [if_neg e3,if_neg (by omega)]
 ·have:ys=Xk xs o n:=by
   refine List.ext_getElem? fun k=>?_
   rw [h5,Az6 hn]
   unfold Ah8
   by_cases e:o≤k∧k<o+n
   ·rw [if_pos e]
    split
    ·rfl
    ·have:k=o+n-1-(k-o):=by omega
     rw [←this]
   ·rw [if_neg e,if_neg (by omega)]
  rw [this]
theorem Aly:Bi Try.prog 164 Nu:=
 Bi.mkM Bfb Ar mixed Try.func164 (by kernel_rfl) (by kernel_rfl) fun x h=>Azn x.1 h
abbrev Anu (l:List Int):Prop:=List.Pairwise (fun a b=>b<a) l
theorem Aas: ∀(t:List Int),Anu t→Ff t=none
 | [],_=>rfl
 | [v],_=>rfl
 |v::y::r,h=>by
  obtain ⟨h1,h2⟩:=List.pairwise_cons.1 h
  have hy:=h1 y (by simp)
  rw [Ff,Aas (y::r) h2]
  show Aee v (y::r)=none
  unfold Aee Ri
  rw [if_neg (show ¬y>v by omega),if_pos rfl]
theorem Ajq {s s':List Int} (h:Ff s=some s'): ∀pre:List Int,Ff (pre++s)=some (pre++s')
 | []=>h
 |v::p=>by rw [List.cons_append,Ff,Ajq h p];rfl
theorem Acr (v:Int): ∀(t:List Int),Anu t→ ∀k (hk:k<t.length),k<Ri v t↔v<t[k]
 | [],_,k,hk=>absurd hk (Nat.not_lt_zero _)
 |x::r,h,k,hk=>by
  obtain ⟨h1,h2⟩:=List.pairwise_cons.1 h
  unfold Ri
  by_cases hx:x>v
  ·rw [if_pos hx]
   rcases k with _|k
   ·simpa using hx
   ·have:=Acr v r h2 k (by simpa using hk)
    simp only [List.getElem_cons_succ]
    rw [←this];omega
  ·rw [if_neg hx]
   refine ⟨fun h=>absurd h (Nat.not_lt_zero _),fun h3=>?_⟩
   rcases k with _|k
   ·exact absurd h3 (by simpa using hx)
   ·simp only [List.getElem_cons_succ] at h3
    have:=h1 _ (List.getElem_mem (by simpa using hk:k<r.length))
    omega
theorem Amx (v:Int): ∀t:List Int,Ri v t≤t.length
 | []=>Nat.le_refl _
 |x::r=>by unfold Ri;split<;>simp [Amx v r]
theorem Ayy {v:Int} {t:List Int} (h:Anu t) {j:Nat} (hj:j<t.length) (h1:v<t[j]) (h2: ∀k (hk:k<t.length),j<k→t[k]<v):Ri v t=j+1:=by
 have h3:=(Acr v t h j hj).2 h1
 have h4:=Amx v t
 by_cases e:j+1<t.length
 ·have h5:=h2 (j+1) e (by omega)
  have h6:=Acr v t h (j+1) e
  have: ¬(j+1<Ri v t):=fun hh=>by have:=h6.1 hh;omega
  omega
 ·omega
theorem Ay5 {pre t:List Int} {v:Int} (h:Anu t) {j:Nat} (hj:j<t.length) (h1:v<t[j]) (h2: ∀k (hk:k<t.length),j<k→t[k]<v):
  Ff (pre++v::t)=some (pre++t[j]::(t.set j v).reverse):=by
 refine Ajq ?_ pre
 rw [Ff,Aas t h]
 show Aee v t=_
 unfold Aee
 rw [Ayy h hj h1 h2,if_neg (by omega),Nat.add_sub_cancel,Es hj]
theorem Bce {pre t:List Int} {y:Int} :Xk (pre++y::t) (pre.length+1) t.length=pre++y::t.reverse:=by
 unfold Xk
 have e1:List.take (pre.length+1) (pre++y::t)=pre++ [y]:=by
  rw [List.take_append,List.take_of_length_le (by omega)];simp
 have e2:List.drop (pre.length+1) (pre++y::t)=t:=by
  rw [List.drop_append,List.drop_eq_nil_of_le (by omega)];simp
 have e3:List.drop (pre.length+1+t.length) (pre++y::t)= []:=List.drop_eq_nil_of_le (by simp;omega)
 rw [e1,e2,e3,List.take_length]
 simp
theorem Apu {α:Type} (pre:List α) (v a:α) (t:List α):(pre++v::t).set pre.length a=pre++a::t:=by
 rw [List.set_append,if_neg (by omega)];simp
theorem Bch {α:Type} (pre:List α) (v a:α) (t:List α) (j:Nat):(pre++v::t).set (pre.length+1+j) a=pre++v::t.set j a:=by
 rw [List.set_append,if_neg (by omega),show pre.length+1+j-pre.length=j+1 by omega];rfl
theorem Bac {α:Type} {xs:List α} {i:Nat} (h:i<xs.length): ∃pre v t,xs=pre++v::t∧pre.length=i:=by
 refine ⟨xs.take i,xs[i],xs.drop (i+1),?_,by rw [List.length_take];omega⟩
 rw [←List.drop_eq_getElem_cons h,List.take_append_drop]
theorem Bbb {xs:List Int} (h:Anu xs):Ff xs=none:=Aas xs h
theorem Baf {pre t:List Int} {v:Int} (h:Anu t) {j:Nat} (hj:j<t.length) (h1:v<t[j]) (h2: ∀k (hk:k<t.length),j<k→t[k]<v):
  Xk (((pre++v::t).set pre.length t[j]).set (pre.length+1+j) v) (pre.length+1) t.length=(Ff (pre++v::t)).getD []∧(Ff (pre++v::t)).isSome=true:=by
 rw [Ay5 h hj h1 h2,Apu,Bch]
 have:= @Bce pre (t.set j v) t[j]
 rw [List.length_set] at this
 exact ⟨this,rfl⟩
theorem Aw9 (xs:List Int) (h:1≤xs.length∧xs.length≤20∧xs.Nodup):Nj Aa6 (look [(164,Nu)]) Kb Try.f137 (xs,()) (fun (z:(Bool×Unit)×List Int×Unit)=>z=(((Ff xs).isSome,()),((Ff xs).getD xs,()))):=by
 obtain ⟨hl1,hl2,hnd⟩:=h
 have hne: ∀i j (hi:i<xs.length) (hj:j<xs.length),i<j→xs[i]≠xs[j]:=fun i j hi hj hij=>List.pairwise_iff_getElem.1 hnd i j hi hj hij
 refine Eq.mp (Axd xs _) ⟨rfl,rfl,?_⟩
 refine Bo.mk (fun v=>v.2.1=xs∧ ∃i:Nat,i+1≤xs.length∧v.1=(i:Int)-1∧Anu (xs.drop i)) (fun v=>(v.1+1).toNat)
  ⟨rfl,xs.length-1,by omega,by rw [Bp (by omega) (by omega)];omega,?_⟩ ?_
 ·rw [List.drop_eq_getElem_cons (by omega),List.drop_eq_nil_of_le (by omega)]
  exact List.pairwise_singleton _ _
 ·rintro ⟨a,ys,⟨⟩⟩ ⟨h1,i,h2,h3,h4⟩
  dsimp only at h1 h3⊢
  subst h1 h3
  refine Br.dec (fun hp=>?_) fun hp=>?_
  ·obtain ⟨i,rfl⟩: ∃k,i=k+1:=⟨i-1,by omega⟩
   have e0:((i+1:Nat):Int)-1=(i:Int):=by omega
   rw [e0]
   have e1:IntKind.i64.wrap ((i:Int)+1)=((i+1:Nat):Int):=Ak (by omega)
   rw [e1]
   simp only [Int.toNat_natCast,Nat.zero_add]
   refine ⟨⟨by omega,by omega⟩,_,List.getElem?_eq_getElem (by omega),⟨by omega,by omega⟩,_,List.getElem?_eq_getElem (by omega),?_⟩
   have hsp:ys.drop i=ys[i]::ys.drop (i+1):=List.drop_eq_getElem_cons (by omega)
   refine Br.dec (fun hg=>⟨trivial,trivial,⟨⟨trivial,i,by omega,by rw [Bp (by omega) (by omega)],?_⟩,by rw [Bp (by omega) (by omega)];omega⟩⟩) fun hg=>?_
   ·rw [hsp]
    refine List.pairwise_cons.2 ⟨fun b hb=>?_,h4⟩
    have hsp2:ys.drop (i+1)=ys[i+1]::ys.drop (i+1+1):=List.drop_eq_getElem_cons (by omega)
    rw [hsp2] at hb h4
    rcases List.mem_cons.1 hb with rfl|hb
    ·exact hg
    ·exact Int.lt_trans ((List.pairwise_cons.1 h4).1 b hb) hg
   ·refine Br.dec (fun hn=>by omega) fun _=>⟨trivial,trivial,?_⟩
    have hlt:ys[i]<ys[i+1]:=by
     have:=hne i (i+1) (by omega) (by omega) (by omega)
     omega
    obtain ⟨pre,v,t,hx,hpl⟩:=Bac (show i<ys.length by omega)
    have hlen:ys.length=pre.length+1+t.length:=by rw [hx];simp;omega
    have hv:ys[i]=v:=by simp [hx,←hpl]
    have ht: ∀k (hk:k<t.length),ys[i+1+k]'(by omega)=t[k]:=fun k hk=>by
     subst hpl
     simp only [hx]
     rw [List.getElem_append_right (by omega)]
     simp only [show pre.length+1+k-pre.length=k+1 by omega,List.getElem_cons_succ]
    have hd:Anu t:=by
     have:ys.drop (i+1)=t:=by rw [hx,←hpl,List.drop_append,List.drop_eq_nil_of_le (by omega)];simp
     rw [←this];exact h4
    refine Bo.mk (fun w=>w.2.1=ys∧ ∃k:Nat,k<t.length∧w.1=((i+1+k:Nat):Int)∧ ∀k' (hk:k'<t.length),k<k'→t[k']<v) (fun w=>w.1.toNat)
     ⟨rfl,t.length-1,by omega,by rw [Bp (by omega) (by omega)];omega,fun k' hk hh=>by omega⟩ ?_
    rintro ⟨b,zs,⟨⟩⟩ ⟨g1,k,g2,g3,g4⟩
    dsimp only at g1 g3⊢
    subst g1 g3
    simp only [Int.toNat_natCast]
    refine ⟨⟨by omega,by omega⟩,_,List.getElem?_eq_getElem (by omega),⟨by omega,by omega⟩,_,List.getElem?_eq_getElem (by omega),?_⟩
    rw [ht k g2,hv]
    refine Br.dec (fun hg=>?_) fun hg=>?_
    ·have hk0:0<k:=by
      refine Nat.pos_of_ne_zero fun e=>?_
      subst e
      have:=ht 0 g2
      simp only [Nat.add_zero] at this
      omega
     refine ⟨trivial,trivial,⟨⟨trivial,k-1,by omega,by rw [Bp (by omega) (by omega)];omega,fun k' hk hh=>?_⟩,by rw [Bp (by omega) (by omega)];omega⟩⟩
     by_cases e:k'=k
     ·subst e;exact hg
     ·exact g4 k' hk (by omega)
    ·have hgt:v<t[k]:=by
      have:=hne i (i+1+k) (by omega) (by omega) (by omega)
      rw [hv,ht k g2] at this
      omega
     have hsw:= @Baf pre t v hd k g2 hgt g4
     have hrm:List.length (Xk ((zs.set i zs[i+1+k]).set (i+1+k) zs[i]) (i+1) (zs.length-(i+1)))=((zs.set i zs[i+1+k]).set (i+1+k) zs[i]).length:=by
      unfold Xk
      simp only [List.length_append,List.length_reverse,List.length_take,List.length_drop,List.length_set]
      omega
     have et:zs.length-(i+1)=t.length:=by omega
     refine ⟨⟨by omega,by omega⟩,_,List.getElem?_eq_getElem (by omega),⟨by omega,by omega⟩,_,List.getElem?_eq_getElem (by omega),⟨by omega,by omega⟩,by omega,⟨by omega,by omega⟩,by rw [List.length_set];omega,⟨by omega,by omega,by omega⟩,_,if_pos (And.intro (show short ((zs.set i zs[i+1+k]).set (i+1+k) zs[i]) by unfold short;rw [List.length_set,List.length_set];omega) (show i+1+(zs.length-(i+1))≤((zs.set i zs[i+1+k]).set (i+1+k) zs[i]).length by rw [List.length_set,List.length_set];omega)),hrm,?_⟩
     ·show ((true,()),Xk ((zs.set i zs[i+1+k]).set (i+1+k) zs[i]) (i+1) (zs.length-(i+1)),())=_
      rw [et,ht k g2,hv]
      have e3:Xk ((zs.set i t[k]).set (i+1+k) v) (i+1) t.length=(Ff zs).getD []∧(Ff zs).isSome=true:=by
       have:=hsw
       rw [←hx,hpl] at this
       exact this
      rw [e3.1,e3.2]
      cases hm:Ff zs with
      |none=>rw [hm] at e3;exact absurd e3.2 (by decide)
      |some y=>rfl
  ·have:i=0:=by omega
   subst this
   refine Br.dec (fun _=>?_) fun hn=>by omega
   rw [List.drop_zero] at h4
   rw [Bbb h4]
   rfl
theorem Akj:Bi Try.prog 137 Kb:=
 Bi.mkM Tr (Gs Aly Ar) mixed Try.func137 (by kernel_rfl) (by kernel_rfl) fun x h=>Aw9 x.1 h
theorem Atc (n:Int) (h:0≤n∧n≤20):Nj Aa6 (look []) Mf Try.f110 (n,()) (fun (z:(List Int×Unit)×Unit)=>z=((upto n.toNat,()),())):=by
 refine Eq.mp (Aui n _) ⟨⟨by omega,by show n<(4294967296:Int)+1;omega⟩,rfl,rfl,rfl,?_⟩
 refine Ao n.toNat (fun v=>v.1) (fun j v=>v.2.1.length=n.toNat∧v.2.1.take j=upto j) rfl ⟨by simp,by simp [upto]⟩ ?_
 rintro j ⟨i,ys,⟨⟩⟩ K hj hi ⟨h1,h2⟩ hK
 dsimp only at hi h1 h2⊢
 subst hi
 rw [List.length_replicate]
 simp only [Int.toNat_natCast,Nat.zero_add]
 refine Br.dec (fun hl=>⟨⟨by omega,by omega⟩,by omega,trivial,by rw [List.length_set],?_⟩) fun hl=>?_
 ·rw [Ak (by omega)]
  refine hK (by omega) _ rfl ⟨by rw [List.length_set];exact h1,?_⟩
  rw [List.take_add_one,List.take_set_of_le (by omega),h2,List.getElem?_set_self (by omega),Nx]
  rfl
 ·have:j=ys.length:=by omega
  subst this
  rw [List.take_length] at h2
  rw [List.drop_zero,List.take_length,h2,h1]
theorem Ahr:Bi Try.prog 110 Mf:=
 Bi.mkM Tr Ar mixed Try.func110 (by kernel_rfl) (by kernel_rfl) fun x h=>Atc x.1 h
theorem Ata (xs:List Int) (h:short xs):Nj Aa6 (look []) Ez Try.f120 (xs,()) (fun (z:(List Int×Unit)×Unit)=>z=((xs,()),())):=by
 unfold short at h
 refine Eq.mp (Aug xs _) ⟨rfl,rfl,by show 0+xs.length≤4294967296;omega,?_⟩
 simp only [Bq,List.nil_append]
theorem Ahq:Bi Try.prog 120 Ez:=
 Bi.mkM Tr Ar mixed Try.func120 (by kernel_rfl) (by kernel_rfl) fun x h=>Ata x.1 h
inductive Run:List Int→List (List Int)→List Int→Prop where
 |one (a:List Int):Run a [a] a
 |more {a c b:List Int} {L:List (List Int)} :Ff a=some c→Run c L b→Run a (a::L) b
theorem Run.glue {a b c d:List Int} {L M:List (List Int)} (h:Run a L b) (hn:Ff b=some c) (h2:Run c M d):Run a (L++M) d:=by
 induction h with
 |one a=>exact .more hn h2
 |more h3 _ ih=>exact .more h3 (ih hn)
theorem Run.cons {a b:List Int} {L:List (List Int)} (h:Run a L b) (v:Int):Run (v::a) (L.map (v:: ·)) (v::b):=by
 induction h with
 |one a=>exact .one _
 |more h3 _ ih=>exact .more (Ajq h3 [v]) ih
abbrev Inc (l:List Int):Prop:=List.Pairwise (fun a b=>a<b) l
theorem Aov: ∀(k:Nat) (R:List Int),Inc R→R.length=k→Run R (lex k R) R.reverse
 |0,R,_,hl=>by
  have:R= []:=List.length_eq_zero_iff.1 hl
  subst this
  exact .one []
 |k+1,R,hR,hl=>by
  have key: ∀(B A:List Int) (v:Int),R=A++v::B→Run (v::(A++B)) ((v::B).flatMap fun u=>(lex k (R.erase u)).map (u:: ·)) R.reverse:=by
   intro B
   induction B with
   |nil=>
    intro A v hA
    have he:R.erase v=A:=by
     rw [hA,List.erase_append_right _ (fun hm=>by
      have:=(List.pairwise_append.1 (hA▸hR)).2.2 v hm v (by simp)
      omega)]
     simp
    have h1:=Aov k A ((List.pairwise_append.1 (hA▸hR)).1) (by rw [hA] at hl;simp at hl;omega)
    simp only [List.flatMap_cons,List.flatMap_nil,List.append_nil]
    rw [he,hA]
    have h2:=h1.cons v
    simpa using h2
   |cons v' B ih=>
    intro A v hA
    have hp:=List.pairwise_append.1 (hA▸hR)
    have hp2:=List.pairwise_cons.1 hp.2.1
    have hp3:=List.pairwise_cons.1 hp2.2
    have he:R.erase v=A++v'::B:=by
     rw [hA,List.erase_append_right _ (fun hm=>by
      have:=hp.2.2 v hm v (by simp)
      omega)]
     simp
    have hinc:Inc (A++v'::B):=List.pairwise_append.2 ⟨hp.1,hp2.2,fun a ha b hb=>hp.2.2 a ha b (List.mem_cons_of_mem _ hb)⟩
    have h1:=(Aov k (A++v'::B) hinc (by rw [hA] at hl;simp at hl⊢;omega)).cons v
    have h2:=ih (A++ [v]) v' (by rw [hA];simp)
    rw [List.flatMap_cons,he]
    refine h1.glue ?_ h2
    have hrev:(A++v'::B).reverse=B.reverse++v'::A.reverse:=by simp
    have hdec:Anu (B.reverse++v'::A.reverse):=by
     rw [←hrev]
     exact List.pairwise_reverse.2 hinc
    rw [hrev]
    have hj:B.reverse.length<(B.reverse++v'::A.reverse).length:=by simp
    have hg:(B.reverse++v'::A.reverse)[B.reverse.length]=v':=by simp
    have:= @Ay5 [] (B.reverse++v'::A.reverse) v hdec B.reverse.length hj (by rw [hg];exact hp2.1 v' (by simp)) (fun q hq hlt=>by
     rw [List.getElem_append_right (by omega)]
     obtain ⟨q',hq'⟩: ∃q',q-B.reverse.length=q'+1:=⟨q-B.reverse.length-1,by omega⟩
     have hq2:q'<A.reverse.length:=by simp at hq hq'⊢;omega
     have hm:A.reverse[q']∈A:=List.mem_reverse.1 (List.getElem_mem _)
     have e:(v'::A.reverse)[q-B.reverse.length]'(by rw [hq'];simpa using hq2)=A.reverse[q']:=by simp only [hq',List.getElem_cons_succ]
     rw [e]
     exact hp.2.2 _ hm v (by simp))
    rw [List.nil_append] at this
    rw [this,hg,Apu]
    simp only [List.nil_append,List.reverse_append,List.reverse_cons,List.reverse_reverse,List.append_assoc,List.cons_append]
  cases R with
  |nil=>simp at hl
  |cons v B=>
   have:=key B [] v rfl
   rw [lex]
   exact this
theorem Ajh: ∀(k:Nat) (R x:List Int),R.length=k→x∈lex k R→x.Perm R
 |0,R,x,hl,hx=>by
  have:R= []:=List.length_eq_zero_iff.1 hl
  subst this
  rw [lex,List.mem_singleton] at hx
  subst hx
  exact .nil
 |k+1,R,x,hl,hx=>by
  rw [lex,List.mem_flatMap] at hx
  obtain ⟨v,hv,hx⟩:=hx
  obtain ⟨y,hy,rfl⟩:=List.mem_map.1 hx
  have h1:=Ajh k (R.erase v) y (by rw [List.length_erase_of_mem hv];omega) hy
  exact (h1.cons v).trans (List.perm_cons_erase hv).symm
def Axt:Nat→Nat
 |0=>1
 |k+1=>(k+1)*Axt k
theorem As1 {α β:Type} {n:Nat} (f:α→List β): ∀(l:List α),(∀a∈l,(f a).length=n)→(l.flatMap f).length=l.length*n
 | [],_=>by simp
 |a::r,h=>by
  rw [List.flatMap_cons,List.length_append,As1 f r (fun b hb=>h b (List.mem_cons_of_mem _ hb)),h a (by simp),List.length_cons,Nat.succ_mul]
  omega
theorem Ay3: ∀(k:Nat) (R:List Int),R.length=k→(lex k R).length=Axt k
 |0,_,_=>rfl
 |k+1,R,hl=>by
  rw [lex,As1 (n:=Axt k) _ _ (fun v hv=>by rw [List.length_map];exact Ay3 k _ (by rw [List.length_erase_of_mem hv];omega)),hl]
  rfl
theorem Bbc: ∀k,k≤7→Axt k≤5040:=by decide
theorem Aua (n:Nat):Inc (upto n):=by
 unfold upto
 refine List.pairwise_map.2 (List.Pairwise.imp ?_ List.pairwise_lt_range)
 intro a b h
 exact Int.ofNat_lt.2 h
theorem Ajg {n:Nat} (h:n≤7):(lex n (upto n)).length≤5040:=by rw [Ay3 n _ (Ia n)];exact Bbc n h
theorem Ajz {n:Int} {x:List Int} (h1:1≤n) (h2:n≤20) (h:x.Perm (upto n.toNat)):Di n x=true:=by
 have hl:x.length=n.toNat:=by rw [h.length_eq,Ia]
 refine Dg.2 ⟨by omega,Dg.2 ⟨by omega,by omega,fun j hj _=>?_⟩⟩
 have hm:=Hw.1 (h.mem_iff.1 (List.getElem_mem hj))
 refine ⟨hm.1,by omega,fun hc=>?_⟩
 have hnd:x.Nodup:=h.nodup_iff.2 (Rw _)
 rw [←List.take_append_drop j x,List.drop_eq_getElem_cons hj] at hnd
 exact (List.pairwise_append.1 hnd).2.2 _ hc _ (List.mem_cons_self ..) rfl
theorem Run.head {a b:List Int} {L:List (List Int)} (h:Run a L b): ∃M,L=a::M:=by
 cases h with
 |one=>exact ⟨_,rfl⟩
 |more _ _=>exact ⟨_,rfl⟩
theorem Run.at {a b:List Int} {L:List (List Int)} (h:Run a L b): ∀j (hj:j<L.length),(∀h2:j+1<L.length,Ff L[j]=some L[j+1])∧(j+1=L.length→L[j]=b):=by
 induction h with
 |one a=>
  intro j hj
  simp only [List.length_singleton] at hj
  have:j=0:=by omega
  subst this
  exact ⟨fun h2=>by simp at h2,fun _=>rfl⟩
 |more h3 h4 ih=>
  intro j hj
  rcases j with _|j
  ·obtain ⟨M,hM⟩:=h4.head
   refine ⟨fun h2=>?_,fun h2=>?_⟩
   ·simp only [List.getElem_cons_zero,List.getElem_cons_succ]
    subst hM
    exact h3
   ·subst hM;simp at h2
  ·have:=ih j (by simpa using hj)
   refine ⟨fun h2=>?_,fun h2=>?_⟩
   ·simp only [List.getElem_cons_succ]
    exact this.1 (by simpa using h2)
   ·simp only [List.getElem_cons_succ]
    exact this.2 (by simpa using h2)
theorem Run.distinct {a b:List Int} {L:List (List Int)} (h:Run a L b) (hb:Ff b=none): ∀k i j (hi:i<L.length) (hj:j<L.length),L.length-j=k→i<j→L[i]≠L[j]:=by
 intro k
 induction k with
 |zero=>intro i j hi hj hk;omega
 |succ k ih=>
  intro i j hi hj hk hij he
  by_cases e:j+1<L.length
  ·have h1:=(h.at i hi).1 (by omega)
   have h2:=(h.at j hj).1 e
   rw [he,h2] at h1
   exact ih (i+1) (j+1) (by omega) e (by omega) (by omega) (Option.some.inj h1).symm
  ·have h1:=(h.at i hi).1 (by omega)
   have h2:=(h.at j hj).2 (by omega)
   rw [he,h2,hb] at h1
   cases h1
theorem Run.idx {a b:List Int} {L:List (List Int)} (h:Run a L b) (hb:Ff b=none) {j:Nat} (hj:j<L.length):L.idxOf L[j]=j:=by
 have h1:L.idxOf L[j]<L.length:=List.idxOf_lt_length_of_mem (List.getElem_mem _)
 have h2:L[L.idxOf L[j]]=L[j]:=List.getElem_idxOf h1
 rcases Nat.lt_trichotomy (L.idxOf L[j]) j with h3|h3|h3
 ·exact absurd h2 (h.distinct hb _ _ _ h1 hj rfl h3)
 ·exact h3
 ·exact absurd h2.symm (h.distinct hb _ _ _ hj h1 rfl h3)
theorem Bcy (n:Nat):Run (upto n) (lex n (upto n)) (upto n).reverse:=Aov n _ (Aua n) (Ia n)
theorem Amy (n:Nat):Ff (upto n).reverse=none:=Aas _ (List.pairwise_reverse.2 (Aua n))
theorem Arz {α:Type} (f:α→Bool) (L:List α) {j:Nat} (h:j<L.length):(L.take (j+1)).filter f=(L.take j).filter f++if f L[j]=true then [L[j]] else []:=by
 rw [List.take_add_one,List.getElem?_eq_getElem h,List.filter_append]
 congr 1
 simp only [Option.toList]
 by_cases e:f L[j]=true
 ·rw [if_pos e,List.filter_cons_of_pos e];rfl
 ·rw [if_neg e,List.filter_cons_of_neg e];rfl
theorem Awe (n:Int) (str:ByteArray) (g:List (List Int)) (h:At (n,str,g,())=true∧n≤7):Nj Aa6 (look [(110,Mf),(136,Iz),(121,Aer),(137,Kb)]) Nv Try.f87 (n,str,g,()) (fun (z:(List (List Int)×Unit)×Unit)=>z=((Fp (n,str,g,()),()),())):=by
 obtain ⟨hv,h7⟩:=h
 have hvl:=Ad7 hv
 dsimp only at hvl
 refine Eq.mp (Axi n str g _) ⟨_,if_pos ⟨by show 0≤n;omega,by show n≤20;omega⟩,rfl,rfl,rfl,rfl,?_⟩
 show Bo _ (n,str,g,[],upto n.toNat,PUnit.unit)
 generalize hL:lex n.toNat (upto n.toNat)=L
 have hrun:=Bcy n.toNat
 have hperm: ∀x∈L,x.Perm (upto n.toNat):=fun x hx=>Ajh _ _ x (Ia _) (hL▸hx)
 have hlen:=Ajg (n:=n.toNat) (by omega)
 rw [hL] at hrun hlen
 have hat:=hrun.at
 have hfin: ∀j (hj:j<L.length) (o:Option (List Int)),Ff L[j]=o→(o=none∧j+1=L.length)∨(∃h2:j+1<L.length,o=some L[j+1]):=fun j hj o ho=>by
  by_cases e:j+1<L.length
  ·exact .inr ⟨e,by rw [←ho];exact (hat j hj).1 e⟩
  ·refine .inl ⟨?_,by omega⟩
   rw [←ho,(hat j hj).2 (by omega)]
   exact Amy _
 have hsy:Fp (n,str,g,())=L.filter (Gw (n,str,g,())):=by unfold Fp;rw [hL]
 have hix: ∀j (hj:j<L.length),L.idxOf L[j]=j:=fun j hj=>hrun.idx (Amy _) hj
 obtain ⟨M,hM⟩:=hrun.head
 have h0:0<L.length:=by rw [hM];simp
 have hgen: ∀j (hj:j<L.length),Di n L[j]=true:=fun j hj=>Ajz hvl.1 (by omega) (hperm _ (List.getElem_mem _))
 have hlen2: ∀j (hj:j<L.length),L[j].length=n.toNat:=fun j hj=>by rw [(hperm _ (List.getElem_mem _)).length_eq,Ia]
 have hnd: ∀j (hj:j<L.length),L[j].Nodup:=fun j hj=>(hperm _ (List.getElem_mem _)).nodup_iff.2 (Rw _)
 have hfl: ∀j,((L.take j).filter (Gw (n,str,g,()))).length≤5040:=fun j=>Nat.le_trans (List.length_filter_le _ _) (by rw [List.length_take];omega)
 refine Bo.mk (fun v=>v.1=n∧v.2.1=str∧v.2.2.1=g∧ ∃j,∃h:j<L.length,v.2.2.2.1=(L.take j).filter (Gw (n,str,g,()))∧v.2.2.2.2.1=L[j])
  (fun v=>L.length-L.idxOf v.2.2.2.2.1) ⟨rfl,rfl,rfl,0,h0,by simp,by simp [hM]⟩ ?_
 rintro ⟨n',str',g',out,q,⟨⟩⟩ ⟨h1,h2,h3,j,hj,h4,h5⟩
 dsimp only at h1 h2 h3 h4 h5
 subst h1 h2 h3 h4 h5
 dsimp only
 have hshort:short L[j]:=by unfold short;rw [hlen2];omega
 rw [Bq L[j]]
 have hft:=Arz (Gw (n',str',g',())) L hj
 have step: ∀out',out'=(L.take (j+1)).filter (Gw (n',str',g',()))→
   ∃(y9:(Bool×PUnit)×List Int×PUnit),Kb.fn (L[j],())=some y9∧(y9.2.1.length=L[j].length∧L[j].length=L[j].length)∧
    Br (!y9.1.1) (((List.take out'.length (List.drop 0 out'),()),())=((Fp (n',str',g',()),()),()))
     ((0:Nat)=(0:Nat)∧out'.length=out'.length∧(0:Nat)=(0:Nat)∧L[j].length=y9.2.1.length∧
      ((n'=n'∧str'=str'∧g'=g'∧ ∃j1,∃_:j1<L.length,out'=(L.take j1).filter (Gw (n',str',g',()))∧y9.2.1=L[j1])∧L.length-L.idxOf y9.2.1<L.length-L.idxOf L[j])):=by
  intro out' ho
  refine ⟨_,if_pos ⟨by show 1≤L[j].length;rw [hlen2];omega,by show L[j].length≤20;rw [hlen2];omega,hnd j hj⟩,?_⟩
  rw [Bq]
  rcases hfin j hj _ rfl with ⟨e1,e2⟩|⟨e1,e2⟩
  ·simp only [e1,Option.isSome,Option.getD,Bool.not_false]
   refine ⟨⟨trivial,trivial⟩,⟨fun _=>?_,fun he=>(by cases he)⟩⟩
   rw [ho,hsy,e2,List.take_length]
  ·simp only [e2,Option.isSome,Option.getD,Bool.not_true]
   have hll:L[j+1].length=L[j].length:=by rw [hlen2,hlen2]
   exact ⟨⟨hll,trivial⟩,⟨fun he=>(by cases he),fun _=>⟨trivial,trivial,trivial,hll.symm,⟨trivial,trivial,trivial,j+1,e1,ho,rfl⟩,by rw [hix,hix];omega⟩⟩⟩
 refine ⟨_,if_pos ⟨hv,hgen j hj⟩,⟨fun hs=>?_,fun hs=>?_⟩⟩
 ·have hs:Gw (n',str',g',()) L[j]=true:=hs
  rw [if_pos hs] at hft
  refine ⟨_,if_pos hshort,rfl,rfl,?_,rfl,rfl,?_⟩
  ·show _+1≤4294967296
   have:=hfl j
   omega
  ·exact step _ (show _++List.take 1 (List.drop 0 [List.take L[j].length (List.drop 0 L[j])])=_ by rw [Bq L[j]];exact hft.symm)
 ·have hs:Gw (n',str',g',()) L[j]=false:=hs
  rw [if_neg (by rw [hs];decide),List.append_nil] at hft
  exact ⟨rfl,rfl,step _ hft.symm⟩
theorem Ako:Bi Try.prog 87 Nv:=
 Bi.mkM Tr (Gs Ahr (Ae Ag7 (Gs Aq1 (Gs Akj Ar)))) mixed Try.func87 (by kernel_rfl) (by kernel_rfl) fun x h=>Awe x.1 x.2.1 x.2.2.1 h
theorem Azv {n:Int} {x:List Int} (h1:1≤n) (h2:n≤20) (hl:x.length=n.toNat) (hnd:x.Nodup) (hr:Et n.toNat x):Di n x=true:=by
 refine Dg.2 ⟨by omega,Dg.2 ⟨by omega,by omega,fun j hj _=>?_⟩⟩
 have hm:=hr _ (List.getElem_mem hj)
 refine ⟨hm.1,by omega,fun hc=>?_⟩
 rw [←List.take_append_drop j x,List.drop_eq_getElem_cons hj] at hnd
 exact (List.pairwise_append.1 hnd).2.2 _ hc _ (List.mem_cons_self ..) rfl
def Tg (n:Nat) (l:List Int) (j:Nat):List (List Int):=((upto j).filter fun v=>!l.contains v).flatMap fun v=>(lex (n-l.length-1) ((Ad1 n l).erase v)).map fun x=>l++v::x
theorem Arw {n:Nat} {l:List Int} (h:l.length<n):Kp n l=Tg n l n:=by
 unfold Kp Tg
 obtain ⟨k,hk⟩: ∃k,n-l.length=k+1:=⟨n-l.length-1,by omega⟩
 rw [hk,lex,List.map_flatMap,Nat.add_sub_cancel]
 simp only [List.map_map]
 rfl
theorem Azu {n:Nat} {l:List Int} {v:Int} :Ad1 n (l++ [v])=(Ad1 n l).erase v:=by
 unfold Ad1
 have hn:((upto n).filter fun u=>!l.contains u).Nodup:=(Rw n).sublist List.filter_sublist
 rw [hn.erase_eq_filter,List.filter_filter]
 refine List.filter_congr fun u _=>?_
 simp only [List.contains_append,List.contains_cons,List.contains_nil,Bool.or_false,Bool.not_or]
 rw [Bool.and_comm]
 rfl
theorem Ayp {n:Nat} {l:List Int} {v:Int} :Kp n (l++ [v])=(lex (n-l.length-1) ((Ad1 n l).erase v)).map fun x=>l++v::x:=by
 unfold Kp
 rw [Azu,List.length_append,List.length_singleton,←Nat.sub_sub]
 congr 1
 funext x
 simp
theorem Ago (n:Nat) (l:List Int) (j:Nat):Tg n l (j+1)=Tg n l j++if l.contains (j:Int)=true then [] else Kp n (l++ [(j:Int)]):=by
 unfold Tg
 rw [Nx,List.filter_append,List.flatMap_append]
 congr 1
 by_cases e:l.contains (j:Int)=true
 ·rw [if_pos e,List.filter_cons_of_neg (by rw [e];decide)];rfl
 ·rw [if_neg e,List.filter_cons_of_pos (by rw [Bool.eq_false_iff.2 e];rfl),Ayp];simp
theorem Ayo (n:Nat) (l:List Int) {j m:Nat} (h:j≤m):(Tg n l j).length≤(Tg n l m).length:=by
 induction m with
 |zero=>have:j=0:=by omega
        subst this;exact Nat.le_refl _
 |succ m ih=>
  rcases Nat.lt_or_ge j (m+1) with h1|h1
  ·have:=ih (by omega)
   rw [Ago,List.length_append];omega
  ·have:j=m+1:=by omega
   subst this;exact Nat.le_refl _
theorem Abj {xs:List Int} {x:Int} :Jd xs x=xs.contains x:=by
 rw [Bool.eq_iff_iff]
 simp [Jd]
theorem Bex {m:Nat} (n:Int) (str:ByteArray) (g:List (List Int)) (l:List Int) (out:List (List Int))
  (h:(At (n,str,g,())=true∧n≤7∧l.Nodup∧Et n.toNat l∧l.length≤n.toNat∧out.length+(Kp n.toNat l).length≤6000)∧n.toNat-l.length<m+1):
  Nj Aa6 (look [(162,Iz),(120,Ez),(152,En),(133,Xz.m (Kt m))]) (Kt (m+1)) Try.f133 (n,str,g,l,out,()) (fun (z:(List (List Int)×Unit)×Unit)=>z=((Abk (n,str,g,()) l out,()),())):=by
 obtain ⟨⟨hv,h7,hnd,hrow,hll,hroom⟩,hm⟩:=h
 have hvl:=Ad7 hv
 dsimp only at hvl
 refine Eq.mp (Bff n str g l out _) ?_
 have hsl:short l:=by unfold short;omega
 refine ⟨fun he=>?_,fun he=>?_⟩
 ·have he:(l.length:Int)=n:=by simpa using he
  have hex:Kp n.toNat l= [l]:=by
   unfold Kp
   rw [show n.toNat-l.length=0 by omega,lex]
   simp
  rw [hex] at hroom
  simp only [List.length_singleton] at hroom
  have hg:Di n l=true:=Azv hvl.1 (by omega) (by omega) hnd hrow
  refine ⟨_,if_pos ⟨hv,hg⟩,⟨fun hs=>?_,fun hs=>?_⟩⟩
  ·have hs:Gw (n,str,g,()) l=true:=hs
   refine ⟨_,if_pos hsl,rfl,rfl,?_,?_⟩
   ·show out.length+1≤4294967296
    omega
   ·rw [Bq]
    show ((out++List.take 1 (List.drop 0 [List.take l.length (List.drop 0 l)]),()),())=_
    rw [Bq]
    unfold Abk
    rw [hex,List.filter_cons_of_pos hs]
    rfl
  ·have hs:Gw (n,str,g,()) l=false:=hs
   rw [Bq]
   unfold Abk
   rw [hex,List.filter_cons_of_neg (by rw [hs];decide)]
   simp
 ·have he:(l.length:Int)≠n:=by simpa using he
  have hlt:l.length<n.toNat:=by omega
  rw [Arw hlt] at hroom
  refine ⟨rfl,rfl,?_⟩
  refine Ao n.toNat (fun v=>v.1) (fun j v=>v.2.1=n∧v.2.2.1=str∧v.2.2.2.1=g∧v.2.2.2.2.1=out++(Tg n.toNat l j).filter (Gw (n,str,g,()))) rfl ⟨rfl,rfl,rfl,by simp [Tg,upto]⟩ ?_
  rintro j ⟨i,n',str',g',out',⟨⟩⟩ K hj hi ⟨h1,h2,h3,h4⟩ hK
  dsimp only at hi h1 h2 h3 h4
  subst hi h1 h2 h3
  dsimp only
  refine Br.dec (fun hl=>?_) fun hl=>?_
  ·have hl:j<n'.toNat:=by omega
   have hsu:=Ago n'.toNat l j
   have hle:=Ayo n'.toNat l (show j+1≤n'.toNat by omega)
   have hfo:=List.length_filter_le (Gw (n',str',g',())) (Tg n'.toNat l j)
   refine ⟨_,if_pos hsl,⟨fun hc=>?_,fun hc=>?_⟩⟩
   ·simp only [and_self]
    have hc:l.contains (j:Int)=false:=by
     have hc:(!Jd l (j:Int))=true:=hc
     exact Abj▸(by simpa using hc)
    rw [if_neg (by rw [hc];decide)] at hsu
    have hnm:(j:Int)∉l:=fun hm'=>by rw [List.contains_iff_mem.2 hm'] at hc;cases hc
    rw [hsu,List.length_append] at hle
    refine ⟨_,if_pos hsl,trivial,trivial,by show l.length+1≤4294967296;omega,trivial,trivial,?_⟩
    dsimp only
    rw [Bq]
    have hpre:(At (n',str',g',())=true∧n'≤7∧(l++ [(j:Int)]).Nodup∧Et n'.toNat (l++ [(j:Int)])∧(l++ [(j:Int)]).length≤n'.toNat∧out'.length+(Kp n'.toNat (l++ [(j:Int)])).length≤6000)∧n'.toNat-(l++ [(j:Int)]).length<m:=by
     refine ⟨⟨hv,h7,?_,?_,?_,?_⟩,?_⟩
     ·show (l++ [(j:Int)]).Nodup
      exact List.nodup_append.2 ⟨hnd,by simp,fun a ha b hb=>by
       simp only [List.mem_singleton] at hb
       subst hb
       exact fun e=>hnm (e▸ha)⟩
     ·show Et n'.toNat (l++ [(j:Int)])
      intro y hy
      rcases List.mem_append.1 hy with hy|hy
      ·exact hrow y hy
      ·simp only [List.mem_singleton] at hy
       subst hy
       omega
     ·show (l++ [(j:Int)]).length≤n'.toNat
      rw [List.length_append,List.length_singleton];omega
     ·show out'.length+(Kp n'.toNat (l++ [(j:Int)])).length≤6000
      rw [h4,List.length_append]
      omega
     ·show n'.toNat-(l++ [(j:Int)]).length<m
      rw [List.length_append,List.length_singleton];omega
    refine ⟨_,if_pos hpre,trivial,trivial,?_⟩
    rw [Ak (by omega)]
    refine hK hl _ rfl ⟨rfl,rfl,rfl,?_⟩
    show Abk (n',str',g',()) (l++ [(j:Int)]) out'=_
    unfold Abk
    rw [h4,hsu,List.filter_append,List.append_assoc]
   ·have hc:l.contains (j:Int)=true:=by
     have hc:(!Jd l (j:Int))=false:=hc
     exact Abj▸(by simpa using hc)
    rw [if_pos hc,List.append_nil] at hsu
    refine ⟨rfl,rfl,?_⟩
    rw [Ak (by omega)]
    refine hK hl _ rfl ⟨rfl,rfl,rfl,?_⟩
    rw [hsu]
    exact h4
  ·have:j=n'.toNat:=by omega
   subst this
   rw [Bq,h4]
   unfold Abk
   rw [Arw hlt]
theorem Bae {m:Nat} (ih_extN:Bi Try.prog 133 (Kt m)):Bi Try.prog 133 (Kt (m+1)):=
 Bi.mkM Tr (Ae Agb (Gs Ahq (Ae Ss (Gs ih_extN Ar)))) mixed Try.func133 (by kernel_rfl) (by kernel_rfl) fun x h=>Bex x.1 x.2.1 x.2.2.1 x.2.2.2.1 x.2.2.2.2.1 h
noncomputable abbrev Ay9:Be:=mkM [some 3,none,none] [(false, .dat tI),(false, .dat .str),(false, .dat tLL),(false, .dat tL),(false,rLL)] false [none] [rLL]
 (fun x=>At (x.1,x.2.1,x.2.2.1,())=true∧x.1≤7∧List.Nodup (x.2.2.2.1:List Int)∧Et x.1.toNat x.2.2.2.1∧List.length x.2.2.2.1≤x.1.toNat∧List.length x.2.2.2.2.1+(Kp x.1.toNat x.2.2.2.1).length≤6000)
 (fun x=>((Abk (x.1,x.2.1,x.2.2.1,()) x.2.2.2.1 x.2.2.2.2.1,()),()))
theorem Atu:Bi Try.prog 133 (Kt 0):=
 Bi.mkM Tr Ar mixed Try.func133 (by kernel_rfl) (by kernel_rfl) fun _ h=>absurd h.2 (Nat.not_lt_zero _)
theorem Ahb: ∀m,Bi Try.prog 133 (Kt m)
 |0=>Atu
 |m+1=>Bae (Ahb m)
theorem Ba5:Bi Try.prog 133 Ay9:=Bi.Bfq (fun x=>x.1.toNat-List.length x.2.2.2.1) Ahb
end Go.Proofs.Ytebabhocakedaaa

namespace Go.Proofs.Ytebabhocakedaaa
open Go.RowKit
def Bf:List Int→List Int→Int
 | [],[]=>0
 | [],_::_=> -1
 |_::_,[]=>1
 |x::a,y::b=>if x<y then-1 else if x>y then 1 else Bf a b
def Nn (a b:List Int):Bool:=decide (Bf a b<0)
def Eb (list:List (List Int)) (s:List Int):List Int:=list.foldl (fun least q=>if Nn (Dn s q) least=true then Dn s q else least) s
def Vm (list:List (List Int)) (s:List Int):Prop:=list.length≤6000∧s.length≤20∧Et s.length s∧ ∀q∈list,s.length=q.length∧Ev q=true
noncomputable def Hq (p:PP):Bool:=At p&&decide (p.1≤7)
noncomputable def Aef (p:PP):List (List Int):=if Hq p=true then Fp p else []
noncomputable abbrev Afz:Spec:=mkS (.pair (.oslice tI) .unit) tL false true (fun x=>short (x.1.getD [])) (fun x=>x.1.getD [])
noncomputable abbrev Aes:Spec:=mkS (.pair tL .unit) tL false true (fun x=>short x.1) (fun x=>x.1)
noncomputable abbrev Wq:Spec:=mkS (.pair tI .unit) .bool false true (fun _=>True) (fun _=>false)
noncomputable abbrev Ani:Spec:=mkS (.pair tI (.pair tI .unit)) tI false true (fun _=>True) (fun x=>if x.1<x.2.1 then-1 else if x.1>x.2.1 then 1 else 0)
noncomputable abbrev Qo:Spec:=mkS (.pair tL (.pair tL .unit)) tI false true (fun x=>short x.1∧short x.2.1) (fun x=>Bf x.1 x.2.1)
noncomputable abbrev Ir:Spec:=mkS (.pair tL (.pair tL .unit)) .bool false true (fun x=>short x.1∧List.length x.1=List.length x.2.1) (fun x=>Nn x.1 x.2.1)
noncomputable abbrev Ix:Spec:=mkS (.pair tLL (.pair tL .unit)) tL false true (fun x=>Vm x.1 x.2.1) (fun x=>Eb x.1 x.2.1)
noncomputable abbrev Lh:Spec:=mkS (.pair Db .unit) .bool false true (fun x=>Ed x.1) (fun x=>Hq x.1)
noncomputable abbrev Ls:Spec:=mkS (.pair Db .unit) tLL false false (fun x=>Ed x.1) (fun x=>Aef x.1)
noncomputable abbrev Awr:Spec:=mkS (.pair Db .unit) .bool false true (fun x=>Ed x.1) (fun _=>true)
theorem Ban (xs:Option (List Int)) (P:List Int→Prop):(Br xs.isNone (P (List.take (0:Nat) (List.drop (0:Nat) [])))
 ((0:Nat)=(0:Nat)∧(0:Nat)=([]:List Int).length∧(0:Nat)+(xs.getD []).length≤Am∧P (List.take ([]++xs.getD []).length (List.drop (0:Nat) ([]++xs.getD [])))))=fnW tab (look []) Afz Try.f121 (xs,()) P:=by kernel_rfl
theorem Be2 (x:Int) (P:Bool→Prop):(P (x !=x))=fnW tab (look []) Wq Try.f177 (x,()) P:=by kernel_rfl
theorem Bg8 (x y:Int) (P:Int→Prop):(∃(y3:Bool),
 Wq.fn (x,())=some y3∧
  ∃(y4:Bool),
   Wq.fn (y,())=some y4∧Br y3 (Br y4 (P (0:Int)) (P (-1:Int))) (Br y4 (P (1:Int)) (Br (decide (x<y)) (P (-1:Int)) (Br (decide (x>y)) (P (1:Int)) (P (0:Int))))))=fnW tab (look [(177,Wq)]) Ani Try.f166 (x,y,()) P:=by kernel_rfl
theorem Bao (a b:List Int) (P:Int→Prop):(Bo
 (fun (v3:Int×PUnit) (k4:Int×PUnit→Prop)=>
  Br (decide (v3.1<(↑a.length:Int)))
   (∃(y5:Int),
    idx a v3.1=some y5∧
     Br (decide (v3.1≥(↑b.length:Int))) (P (1:Int))
      (∃(y6:Int),idx b v3.1=some y6∧ ∃(y7:Int),Ani.fn (y5,y6,())=some y7∧Br (y7 !=(0:Int)) (P y7) (k4 (IntKind.i64.wrap (v3.1+(1:Int)),()))))
   (Br (decide ((↑a.length:Int)<(↑b.length:Int))) (P (-1:Int)) (P (0:Int))))
 ((0:Int),PUnit.unit))=fnW tab (look [(166,Ani)]) Qo Try.f139 (a,b,()) P:=by kernel_rfl
theorem Axe (a b:List Int) (P:Bool→Prop):(Bo
 (fun (v3:Int×PUnit) (k4:Int×PUnit→Prop)=>
  Br (decide (v3.1<(↑a.length:Int)))
   (∃(y5:Int),
    idx a v3.1=some y5∧
     ∃(y6:Int),
      idx b v3.1=some y6∧
       Br (y5 !=y6) (∃(y7:Int),idx a v3.1=some y7∧ ∃(y8:Int),idx b v3.1=some y8∧P (decide (y7<y8))) (k4 (IntKind.i64.wrap (v3.1+(1:Int)),())))
   (P false))
 ((0:Int),PUnit.unit))=fnW tab (look []) Ir Try.f135 (a,b,()) P:=by kernel_rfl
theorem Bd0 (l:List (List Int)) (s:List Int) (P:List Int→Prop):(∃(y3:List Int),
 Aes.fn (s,())=some y3∧
  Bo
   (fun (v4:List Int×Int×PUnit) (k5:List Int×Int×PUnit→Prop)=>
    Br (decide (v4.2.1<(↑l.length:Int)))
     (∃(y6:List Int),
      idx l v4.2.1=some y6∧
       ∃(y7:List Int),
        Gy.fn (s,y6,())=some y7∧
         ∃(y8:Int),
          Qo.fn (y7,v4.1,())=some y8∧
           Br (decide (y8<(0:Int))) (k5 (y7,IntKind.i64.wrap (v4.2.1+(1:Int)),())) (k5 (v4.1,IntKind.i64.wrap (v4.2.1+(1:Int)),())))
     (P v4.1))
   (y3,(0:Int),PUnit.unit))=fnW tab (look [(121,Aes),(138,Gy),(139,Qo)]) Ix Try.f88 (l,s,()) P:=by kernel_rfl
theorem Aue (l:List (List Int)) (s:List Int) (P:List Int→Prop):(∃(y3:List Int),
 Iq.fn (s,())=some y3∧
  Bo
   (fun (v4:List Int×Int×PUnit) (k5:List Int×Int×PUnit→Prop)=>
    Br (decide (v4.2.1<(↑l.length:Int)))
     (∃(y6:List Int),
      idx l v4.2.1=some y6∧
       ∃(y7:List Int),
        Fq.fn (y6,s,())=some y7∧
         ∃(y8:Bool),Ir.fn (y7,v4.1,())=some y8∧Br y8 (k5 (y7,IntKind.i64.wrap (v4.2.1+(1:Int)),())) (k5 (v4.1,IntKind.i64.wrap (v4.2.1+(1:Int)),())))
     (P v4.1))
   (y3,(0:Int),PUnit.unit))=fnW tab (look [(120,Iq),(134,Fq),(135,Ir)]) Ix Try.f85 (l,s,()) P:=by kernel_rfl
theorem Auk (p:Int×ByteArray×List (List Int)×Unit) (P:Bool→Prop):(∃(y2:Bool),Dp.fn ((p.1,p.2.1,p.2.2.1,()),())=some y2∧Br y2 (P (decide (p.1≤(7:Int)))) (P false))=fnW tab (look [(124,Dp)]) Lh Try.f86 (p,()) P:=by kernel_rfl
theorem Aun (p:Int×ByteArray×List (List Int)×Unit) (P:Bool→Prop):(∃(y2:Bool),Dp.fn ((p.1,p.2.1,p.2.2.1,()),())=some y2∧Br y2 (P (decide (p.1≤(7:Int)))) (P false))=fnW tab (look [(99,Dp)]) Lh Try.f83 (p,()) P:=by kernel_rfl
theorem Axf (p:Int×ByteArray×List (List Int)×Unit) (P:List (List Int)→Prop):(∃(y2:Bool),
 Dp.fn ((p.1,p.2.1,p.2.2.1,()),())=some y2∧
  Br (!y2) (P (List.take (0:Nat) (List.drop (0:Nat) [])))
   (Br (decide (p.1>(7:Int))) (P (List.take (0:Nat) (List.drop (0:Nat) [])))
    ((0:Nat)=(0:Nat)∧
     (0:Nat)=([]:List Int).length∧
      ∃(y3:(List (List Int)×PUnit)×PUnit),
       Ay9.fn (p.1,p.2.1,p.2.2.1,List.take (0:Nat) (List.drop (0:Nat) []),[],())=some y3∧P (List.take y3.1.1.length (List.drop (0:Nat) y3.1.1)))))=fnW tab (look [(99,Dp),(133,Ay9)]) Ls Try.f84 (p,()) P:=by kernel_rfl
theorem Sound.ofO {P:Program} {f:FuncId} {e:Ty} {r res:Ty} {multi fresh:Bool} {pre:(Ty.pair (.oslice e) r).den→Prop} {val:(Ty.pair (.oslice e) r).den→res.den} {pre':(Ty.pair (.slice e) r).den→Prop} {val':(Ty.pair (.slice e) r).den→res.den}
  (h:Sound P f (Go.Proofs.Ytebabhocakedaaa.mkS (.pair (.oslice e) r) res multi fresh pre val))
  (hp: ∀(o:Option (List e.den)) (y:r.den),pre' (o.getD [],y)→pre (o,y)∧val (o,y)=val' (o.getD [],y)):Sound P f (Go.Proofs.Ytebabhocakedaaa.mkS (.pair (.slice e) r) res multi fresh pre' val'):=by
 refine ⟨h.enter,fun w S vs x y hS h2 h5=>?_⟩
 obtain ⟨xs,rest⟩:=x
 cases vs with
 |nil=>exact h2.elim
 |cons u us=>
  obtain ⟨h7,h8⟩:=h2
  obtain ⟨ox,h9,rfl⟩:=h7.told
  have hpre:pre' (ox.getD [],rest):=Classical.byContradiction fun hn=>by
   have:(Go.Proofs.Ytebabhocakedaaa.mkS (.pair (.slice e) r) res multi fresh pre' val').fn (ox.getD [],rest)=none:=if_neg hn
   rw [this] at h5;cases h5
  obtain ⟨k1,k2⟩:=hp ox rest hpre
  have hv:(Go.Proofs.Ytebabhocakedaaa.mkS (.pair (.slice e) r) res multi fresh pre' val').fn (ox.getD [],rest)=some (val' (ox.getD [],rest)):=if_pos hpre
  rw [hv] at h5
  have h5:=Option.some.inj h5
  exact h.calls w S (u::us) (ox,rest) y hS ⟨h9,h8⟩ ((if_pos k1).trans (by rw [k2];exact congrArg some h5))
theorem Azg (xs:Option (List Int)) (h:short (xs.getD [])):fnW tab (look []) Afz Try.f121 (xs,()) (fun (z:List Int)=>z=xs.getD []):=by
 unfold short at h
 refine Eq.mp (Ban xs _) ⟨fun hn=>?_,fun _=>⟨rfl,rfl,by show 0+(xs.getD []).length≤4294967296;omega,?_⟩⟩
 ·cases xs with
  |none=>rfl
  |some y=>cases hn
 ·simp only [Bq,List.nil_append]
theorem Alu:Sound Try.prog 121 Afz:=
 Sound.mkS Cb Ar mixed Try.func121 (by kernel_rfl) (by kernel_rfl) fun x h=>Azg x.1 h
theorem Aq3:Sound Try.prog 121 Aes:=Sound.ofO Alu fun _ _ h=>⟨h,rfl⟩
theorem Bdm (x:Int) (_:True):fnW tab (look []) Wq Try.f177 (x,()) (fun (z:Bool)=>z=false):=by
 refine Eq.mp (Be2 x _) ?_
 simp
theorem Atw:Sound Try.prog 177 Wq:=
 Sound.mkS Cb Ar mixed Try.func177 (by kernel_rfl) (by kernel_rfl) fun x h=>Bdm x.1 h
theorem Bft (x y:Int) (_:True):fnW tab (look [(177,Wq)]) Ani Try.f166 (x,y,()) (fun (z:Int)=>z=if x<y then-1 else if x>y then 1 else 0):=by
 refine Eq.mp (Bg8 x y _) ⟨_,if_pos trivial,_,if_pos trivial,⟨fun h=>(by cases h),fun _=>⟨fun h=>(by cases h),fun _=>Br.dec (fun h=>?_) fun h=>Br.dec (fun h2=>?_) fun h2=>?_⟩⟩⟩
 ·rw [if_pos h]
 ·rw [if_neg h,if_pos h2]
 ·rw [if_neg h,if_neg h2]
theorem Ba1:Sound Try.prog 166 Ani:=
 Sound.mkS Cb (Ae Atw Ar) mixed Try.func166 (by kernel_rfl) (by kernel_rfl) fun x h=>Bft x.1 x.2.1 h
theorem Azh (a b:List Int) (h:short a∧short b):fnW tab (look [(166,Ani)]) Qo Try.f139 (a,b,()) (fun (z:Int)=>z=Bf a b):=by
 obtain ⟨ha,hb⟩:=h
 unfold short at ha hb
 refine Eq.mp (Bao a b _) ?_
 refine Ao a.length (fun v=>v.1) (fun j _=>j≤b.length∧Bf (a.drop j) (b.drop j)=Bf a b) rfl ⟨Nat.zero_le _,by simp⟩ ?_
 rintro j ⟨i,⟨⟩⟩ K hj hi ⟨hR1,hR2⟩ hK
 dsimp only at hi⊢
 subst hi
 refine Br.dec (fun hl=>?_) fun hl=>?_
 ·have hl:j<a.length:=by omega
  rw [List.drop_eq_getElem_cons hl] at hR2
  refine ⟨_,Bc hl,Br.dec (fun hge=>?_) fun hge=>?_⟩
  ·have:j=b.length:=by omega
   rw [List.drop_eq_nil_of_le (by omega:b.length≤j)] at hR2
   rw [←hR2]
   rfl
  ·have hlb:j<b.length:=by omega
   rw [List.drop_eq_getElem_cons hlb] at hR2
   refine ⟨_,Bc hlb,_,if_pos trivial,?_⟩
   dsimp only
   simp only [Bf] at hR2
   by_cases h1:a[j]<b[j]
   ·rw [if_pos h1] at hR2⊢
    exact ⟨fun _=>hR2,fun h=>by cases h⟩
   ·rw [if_neg h1] at hR2⊢
    by_cases h2:a[j]>b[j]
    ·rw [if_pos h2] at hR2⊢
     exact ⟨fun _=>hR2,fun h=>by cases h⟩
    ·rw [if_neg h2] at hR2⊢
     refine ⟨fun h=>(by cases h),fun _=>?_⟩
     rw [Ak (by omega)]
     exact hK hl _ rfl ⟨hlb,hR2⟩
 ·have:j=a.length:=by omega
  subst this
  rw [List.drop_length] at hR2
  refine Br.dec (fun h=>?_) fun h=>?_
  ·rw [←hR2,List.drop_eq_getElem_cons (by omega)]
   rfl
  ·rw [←hR2,List.drop_eq_nil_of_le (by omega)]
   rfl
theorem Alv:Sound Try.prog 139 Qo:=
 Sound.mkS Cb (Ae Ba1 Ar) mixed Try.func139 (by kernel_rfl) (by kernel_rfl) fun x h=>Azh x.1 x.2.1 h
theorem Awa (a b:List Int) (h:short a∧a.length=b.length):fnW tab (look []) Ir Try.f135 (a,b,()) (fun (z:Bool)=>z=Nn a b):=by
 obtain ⟨ha,hb⟩:=h
 unfold short at ha
 refine Eq.mp (Axe a b _) ?_
 refine Ao a.length (fun v=>v.1) (fun j _=>Bf (a.drop j) (b.drop j)=Bf a b) rfl (by simp) ?_
 rintro j ⟨i,⟨⟩⟩ K hj hi hR2 hK
 dsimp only at hi⊢
 subst hi
 refine Br.dec (fun hl=>?_) fun hl=>?_
 ·have hl:j<a.length:=by omega
  have hlb:j<b.length:=by omega
  rw [List.drop_eq_getElem_cons hl,List.drop_eq_getElem_cons hlb] at hR2
  simp only [Bf] at hR2
  refine ⟨_,Bc hl,_,Bc hlb,⟨fun hne=>?_,fun hne=>?_⟩⟩
  ·refine ⟨_,Bc hl,_,Bc hlb,?_⟩
   have hne:a[j]≠b[j]:=by simpa using hne
   unfold Nn
   rw [←hR2]
   by_cases h1:a[j]<b[j]
   ·rw [if_pos h1];simp [h1]
   ·rw [if_neg h1,if_pos (by omega)];simp [h1]
  ·have hne:a[j]=b[j]:=by simpa using hne
   rw [if_neg (by omega),if_neg (by omega)] at hR2
   rw [Ak (by omega)]
   exact hK hl _ rfl hR2
 ·have:j=a.length:=by omega
  subst this
  rw [List.drop_length,List.drop_eq_nil_of_le (by omega)] at hR2
  unfold Nn
  rw [←hR2]
  rfl
theorem Aa1:Sound Try.prog 135 Ir:=
 Sound.mkS Cb Ar mixed Try.func135 (by kernel_rfl) (by kernel_rfl) fun x h=>Awa x.1 x.2.1 h
theorem Af7 {list:List (List Int)} {s:List Int} (h:Vm list s) {q:List Int} (hq:q∈list):(Dn s q).length=s.length∧Et s.length (Dn s q):=by
 obtain ⟨_,h2,h3,h4⟩:=h
 obtain ⟨e,hp⟩:=h4 q hq
 have hpk:=Rp hp
 refine ⟨by simp only [Dn,Jr,Of];exact e.symm,?_⟩
 unfold Dn
 refine Sb (n:=s.length) (Sb (n:=q.length) ?_ ?_) ?_
 ·rw [e];exact Ai5 hpk
 ·rw [←e];exact h3
 ·rw [e];exact hpk.row
theorem Bc1 (l:List (List Int)) (s:List Int) (h:Vm l s):fnW tab (look [(121,Aes),(138,Gy),(139,Qo)]) Ix Try.f88 (l,s,()) (fun (z:List Int)=>z=Eb l s):=by
 have hs:short s:=by unfold short;have:=h.2.1;omega
 have hll:=h.1
 refine Eq.mp (Bd0 l s _) ⟨_,if_pos hs,?_⟩
 refine Ao l.length (fun v=>v.2.1) (fun j v=>v.1.length=s.length∧Eb (l.take j) s=v.1) rfl ⟨rfl,by simp [Eb]⟩ ?_
 rintro j ⟨ys,i,⟨⟩⟩ K hj hi ⟨h1,h2⟩ hK
 dsimp only at hi h1 h2⊢
 subst hi
 refine Br.dec (fun hl=>?_) fun hl=>?_
 ·have hl:j<l.length:=by omega
  have hq:l[j]∈l:=List.getElem_mem hl
  obtain ⟨e,hp⟩:=h.2.2.2 _ hq
  obtain ⟨c1,c2⟩:=Af7 h hq
  have hstep:Eb (l.take (j+1)) s=if Nn (Dn s l[j]) ys=true then Dn s l[j] else ys:=by
   rw [←h2]
   unfold Eb
   rw [List.take_add_one,List.getElem?_eq_getElem hl,List.foldl_append]
   rfl
  refine ⟨_,Bc hl,_,if_pos ⟨e,h.2.2.1,hp⟩,_,if_pos ⟨by show short (Dn s l[j]);unfold short;have:=h.2.1;omega,by show short ys;unfold short;have:=h.2.1;omega⟩,Br.dec (fun hc=>?_) fun hc=>?_⟩
  ·have hc:Bf (Dn s l[j]) ys<0:=hc
   rw [Ak (by omega)]
   refine hK hl _ rfl ⟨c1,?_⟩
   rw [hstep,if_pos (show Nn (Dn s l[j]) ys=true from decide_eq_true hc)]
  ·have hc: ¬Bf (Dn s l[j]) ys<0:=hc
   rw [Ak (by omega)]
   refine hK hl _ rfl ⟨h1,?_⟩
   rw [hstep,if_neg (by unfold Nn;simpa using hc)]
 ·have:j=l.length:=by omega
  subst this
  rw [List.take_length] at h2
  exact h2.symm
theorem Aq0:Sound Try.prog 88 Ix:=
 Sound.mkS Cb (Ae Aq3 (Ae Xq (Ae Alv Ar))) mixed Try.func88 (by kernel_rfl) (by kernel_rfl) fun x h=>Bc1 x.1 x.2.1 h
theorem At8 (l:List (List Int)) (s:List Int) (h:Vm l s):fnW tab (look [(120,Iq),(134,Fq),(135,Ir)]) Ix Try.f85 (l,s,()) (fun (z:List Int)=>z=Eb l s):=by
 have hs:short s:=by unfold short;have:=h.2.1;omega
 have hll:=h.1
 refine Eq.mp (Aue l s _) ⟨_,if_pos hs,?_⟩
 refine Ao l.length (fun v=>v.2.1) (fun j v=>v.1.length=s.length∧Eb (l.take j) s=v.1) rfl ⟨rfl,by simp [Eb]⟩ ?_
 rintro j ⟨ys,i,⟨⟩⟩ K hj hi ⟨h1,h2⟩ hK
 dsimp only at hi h1 h2⊢
 subst hi
 refine Br.dec (fun hl=>?_) fun hl=>?_
 ·have hl:j<l.length:=by omega
  have hq:l[j]∈l:=List.getElem_mem hl
  obtain ⟨e,hp⟩:=h.2.2.2 _ hq
  obtain ⟨c1,c2⟩:=Af7 h hq
  have hstep:Eb (l.take (j+1)) s=if Nn (Dn s l[j]) ys=true then Dn s l[j] else ys:=by
   rw [←h2]
   unfold Eb
   rw [List.take_add_one,List.getElem?_eq_getElem hl,List.foldl_append]
   rfl
  have hpk:=Rp hp
  have him:Ec l[j] s=Dn s l[j]:=(Air hpk e).symm
  refine ⟨_,Bc hl,_,if_pos ⟨h.2.1,e.symm,hpk.row,by show Et l[j].length s;rw [←e];exact h.2.2.1⟩,?_⟩
  dsimp only
  rw [him]
  refine ⟨_,if_pos ⟨by show short (Dn s l[j]);unfold short;have:=h.2.1;omega,by show (Dn s l[j]).length=ys.length;omega⟩,⟨fun hc=>?_,fun hc=>?_⟩⟩
  ·have hc:Nn (Dn s l[j]) ys=true:=hc
   rw [Ak (by omega)]
   refine hK hl _ rfl ⟨c1,?_⟩
   rw [hstep,if_pos hc]
  ·have hc:Nn (Dn s l[j]) ys=false:=hc
   rw [Ak (by omega)]
   refine hK hl _ rfl ⟨h1,?_⟩
   rw [hstep,if_neg (by rw [hc];decide)]
 ·have:j=l.length:=by omega
  subst this
  rw [List.take_length] at h2
  exact h2.symm
theorem Ahp:Sound Try.prog 85 Ix:=
 Sound.mkS Cb (Ae Zz (Ae Uy (Ae Aa1 Ar))) mixed Try.func85 (by kernel_rfl) (by kernel_rfl) fun x h=>At8 x.1 x.2.1 h
theorem Ate (p:PP) (h:Ed p):fnW tab (look [(124,Dp)]) Lh Try.f86 (p,()) (fun (z:Bool)=>z=Hq p):=by
 refine Eq.mp (Auk p _) ⟨_,if_pos h,⟨fun hv=>?_,fun hv=>?_⟩⟩
 ·have hv:At p=true:=hv
  unfold Hq;rw [hv];rfl
 ·have hv:At p=false:=hv
  unfold Hq;rw [hv];rfl
theorem Aht:Sound Try.prog 86 Lh:=
 Sound.mkS Cb (Ae Uz Ar) mixed Try.func86 (by kernel_rfl) (by kernel_rfl) fun x h=>Ate x.1 h
theorem Ath (p:PP) (h:Ed p):fnW tab (look [(99,Dp)]) Lh Try.f83 (p,()) (fun (z:Bool)=>z=Hq p):=by
 refine Eq.mp (Aun p _) ⟨_,if_pos h,⟨fun hv=>?_,fun hv=>?_⟩⟩
 ·have hv:At p=true:=hv
  unfold Hq;rw [hv];rfl
 ·have hv:At p=false:=hv
  unfold Hq;rw [hv];rfl
theorem Ahw:Sound Try.prog 83 Lh:=
 Sound.mkS Cb (Ae Nw Ar) mixed Try.func83 (by kernel_rfl) (by kernel_rfl) fun x h=>Ath x.1 h
theorem Qr {p:PP} :Hq p=true↔At p=true∧p.1≤7:=by
 unfold Hq
 rw [Bool.and_eq_true,decide_eq_true_iff]
theorem Bag {p:PP} {q:List Int} (h:q∈Fp p):q.Perm (upto p.1.toNat):=Ajh _ _ q (Ia _) (List.mem_filter.1 h).1
theorem Bcl {p:PP} (h:p.1≤7):(Fp p).length≤5040:=Nat.le_trans (List.length_filter_le _ _) (Ajg (by omega))
theorem Ax6 {p:PP} {s:List Int} (h:Hq p=true) (hs:Di p.1 s=true):Vm (Fp p) s:=by
 obtain ⟨hv,h7⟩:=Qr.1 h
 have hn:=(valid hv).n
 obtain ⟨e,hp⟩:=Dg.1 hs
 have hpk:=Rp hp
 refine ⟨by have:=Bcl h7;omega,hpk.len,hpk.row,fun q hq=>?_⟩
 have hg:=Ajz hn.1 hn.2 (Bag hq)
 obtain ⟨e2,hp2⟩:=Dg.1 hg
 exact ⟨by omega,hp2⟩
theorem Arx (n:Nat):Kp n []=lex n (upto n):=by
 unfold Kp Ad1
 have:((upto n).filter fun v=>!([]:List Int).contains v)=upto n:=List.filter_eq_self.2 fun a _=>rfl
 rw [this]
 simp
theorem Awb (p:PP) (h:Ed p):fnW tab (look [(99,Dp),(133,Ay9)]) Ls Try.f84 (p,()) (fun (z:List (List Int))=>z=Aef p):=by
 refine Eq.mp (Axf p _) ⟨_,if_pos h,⟨fun hn=>?_,fun hn=>?_⟩⟩
 ·have hn:=Fv hn
  unfold Aef
  rw [if_neg fun hh=>hn (Qr.1 hh).1]
  rfl
 ·have hn:=Hb hn
  refine Br.dec (fun h7=>?_) fun h7=>⟨rfl,rfl,_,if_pos (And.intro hn (And.intro (show p.1≤7 from Int.not_lt.1 h7) (And.intro List.nodup_nil (And.intro (fun y hy=>by cases hy) (And.intro (Nat.zero_le _) ?_))))),?_⟩
  ·unfold Aef
   rw [if_neg fun hh=>by
    have h8:p.1>7:=h7
    have:=(Qr.1 hh).2
    omega]
   rfl
  ·show 0+(Kp p.1.toNat []).length≤6000
   rw [Arx]
   have h8: ¬p.1>7:=h7
   have:=Ajg (n:=p.1.toNat) (by omega)
   omega
  ·rw [Bq]
   unfold Aef
   rw [if_pos (Qr.2 ⟨hn,Int.not_lt.1 h7⟩)]
   show Abk p [] []=_
   unfold Abk Fp
   rw [Arx]
   rfl
theorem Akl:Sound Try.prog 84 Ls:=
 Sound.mkS Cb (Ae Nw (Gs Ba5 Ar)) mixed Try.func84 (by kernel_rfl) (by kernel_rfl) fun x h=>Awb x.1 h
theorem Agl {list:List (List Int)} {s:List Int} (h:Vm list s):(Eb list s).length=s.length:=by
 have: ∀(l:List (List Int)) (x:List Int),(∀q∈l,q∈list)→x.length=s.length→(l.foldl (fun least q=>if Nn (Dn s q) least=true then Dn s q else least) x).length=s.length:=by
  intro l
  induction l with
  |nil=>intro x _ hx;exact hx
  |cons q l ih=>
   intro x hm hx
   rw [List.foldl_cons]
   refine ih _ (fun q' hq'=>hm q' (List.mem_cons_of_mem _ hq')) ?_
   split
   ·exact (Af7 h (hm q (by simp))).1
   ·exact hx
 exact this list s (fun _ h=>h) rfl
end Go.Proofs.Ytebabhocakedaaa
