/-
  Part 38 of the proof that the statement FnExactIsMethodSolution holds.
-/
import Derived.Test.YtebabhocakedaaaCIsMethodSolution36
import Derived.KernelRfl
namespace Go.Proofs.Ytebabhocakedaaa
open Go.RowKit
def Fz (x a b:Int):Bool:=decide (a≤x∧x≤b)
def Aak (n x:Int):Bool:=decide (0≤x∧x≤IntKind.i64.wrap (n-1))
def Gz (a b:List Int):Bool:=decide (a=b)
def Bg (xs:List Int) (x:Int):Bool:=decide (x∈xs)
def short (xs:List Int):Prop:=xs.length≤4294967296
noncomputable abbrev As:Spec:=mkS (.pair tI (.pair tI (.pair tI .unit))) .bool false true (fun _=>True) (fun x=>Fz x.1 x.2.1 x.2.2.1)
noncomputable abbrev Qn:Spec:=mkS (.pair tI (.pair tI .unit)) .bool false true (fun _=>True) (fun x=>Aak x.1 x.2.1)
noncomputable abbrev Dj:Spec:=mkS (.pair tL (.pair tL .unit)) .bool false true (fun x=>short x.1) (fun x=>Gz x.1 x.2.1)
noncomputable abbrev Cj:Spec:=mkS (.pair tL (.pair tI .unit)) .bool false true (fun x=>short x.1) (fun x=>Bg x.1 x.2.1)
theorem Bai (x a b:Int) (P:Bool→Prop):(Br (decide (x≥a)) (P (decide (x≤b))) (P false))=fnW tab (look []) As Try.f122 (x,a,b,()) P:=by kernel_rfl
theorem Bcy (x a b:Int) (P:Bool→Prop):(Br (decide (x≥a)) (P (decide (x≤b))) (P false))=fnW tab (look []) As Try.f108 (x,a,b,()) P:=by kernel_rfl
theorem Bak (n x:Int) (P:Bool→Prop):(∃(y3:Bool),As.fn (x,0,IntKind.i64.wrap (n-1),())=some y3∧P y3)=fnW tab (look [(108,As)]) Qn Try.f102 (n,x,()) P:=by kernel_rfl
theorem Aui (a b:List Int) (P:Bool→Prop):(Br ((↑a.length:Int) !=(↑b.length:Int)) (P false)
 (Bv
  (fun (v3:Int×PUnit) (k4:Int×PUnit→Prop)=>
   Br (decide (v3.1<(↑a.length:Int))) (∃(y5:Int),idx a v3.1=some y5∧ ∃(y6:Int),idx b v3.1=some y6∧Br (y5 !=y6) (P false) (k4 (IntKind.i64.wrap (v3.1+1),())))
    (P true))
  (0,PUnit.unit)))=fnW tab (look []) Dj Try.f59 (a,b,()) P:=by kernel_rfl
theorem Ama (xs:List Int) (x:Int) (P:Bool→Prop):(Bv
 (fun (v3:Int×PUnit) (k4:Int×PUnit→Prop)=>
  Br (decide (v3.1<(↑xs.length:Int))) (∃(y5:Int),idx xs v3.1=some y5∧Br (y5==x) (P true) (k4 (IntKind.i64.wrap (v3.1+1),()))) (P false))
 (0,PUnit.unit))=fnW tab (look []) Cj Try.f152 (xs,x,()) P:=by kernel_rfl
theorem Azd (x a b:Int) (_:True):fnW tab (look []) As Try.f122 (x,a,b,()) (fun (z:Bool)=>z=Fz x a b):=by
 refine Eq.mp (Bai x a b _) ?_
 refine Br.dec (fun h=>?_) fun h=>?_
 ·have h:a≤x:=h
  simp [Fz,h]
 ·exact (decide_eq_false fun hh=>h hh.1).symm
theorem Kx:Sound Try.prog 122 As:=
 Sound.mkS Bi Ao mixed Try.func122 (by kernel_rfl) (by kernel_rfl) fun x h=>Azd x.1 x.2.1 x.2.2.1 h
theorem Bc0 (x a b:Int) (_:True):fnW tab (look []) As Try.f108 (x,a,b,()) (fun (z:Bool)=>z=Fz x a b):=by
 refine Eq.mp (Bcy x a b _) ?_
 refine Br.dec (fun h=>?_) fun h=>?_
 ·have h:a≤x:=h
  simp [Fz,h]
 ·exact (decide_eq_false fun hh=>h hh.1).symm
theorem Is:Sound Try.prog 108 As:=
 Sound.mkS Bi Ao mixed Try.func108 (by kernel_rfl) (by kernel_rfl) fun x h=>Bc0 x.1 x.2.1 x.2.2.1 h
theorem Azf (n x:Int) (_:True):fnW tab (look [(108,As)]) Qn Try.f102 (n,x,()) (fun (z:Bool)=>z=Aak n x):=
 Eq.mp (Bak n x _) ⟨_,if_pos trivial,rfl⟩
theorem Am3:Sound Try.prog 102 Qn:=
 Sound.mkS Bi (Ad Is Ao) mixed Try.func102 (by kernel_rfl) (by kernel_rfl) fun x h=>Azf x.1 x.2.1 h
theorem Ali (xs:List Int) (x:Int) (h:short xs):fnW tab (look []) Cj Try.f152 (xs,x,()) (fun (z:Bool)=>z=Bg xs x):=by
 refine Eq.mp (Ama xs x _) ?_
 unfold short at h
 refine Am xs.length (fun v=>v.1) (fun j _=>x∉xs.take j) rfl (by simp) ?_
 rintro j ⟨i,⟨⟩⟩ K hj hi hR hK
 dsimp only at hi⊢
 subst hi
 refine Br.dec (fun hl=>?_) fun hl=>?_
 ·have hl:j<xs.length:=by omega
  refine ⟨_,Aj hl,⟨fun he=>?_,fun he=>?_⟩⟩
  ·have hm:=List.getElem_mem hl
   simp only [beq_iff_eq] at he
   rw [he] at hm
   exact (decide_eq_true hm).symm
  ·rw [Al (by omega)]
   refine hK hl _ rfl ?_
   simp only [beq_eq_false_iff_ne,ne_eq] at he
   rw [List.take_succ_eq_append_getElem hl]
   simp only [List.mem_append,List.mem_singleton,not_or]
   exact ⟨hR,fun hx=>he hx.symm⟩
 ·have:j=xs.length:=by omega
  subst this
  rw [List.take_length] at hR
  exact (decide_eq_false hR).symm
theorem Sq:Sound Try.prog 152 Cj:=
 Sound.mkS Bi Ao mixed Try.func152 (by kernel_rfl) (by kernel_rfl) fun x h=>Ali x.1 x.2.1 h
theorem Axt (a b:List Int) (hlen:a.length=b.length) (h:short a):
  Bv (fun (v3:Int×PUnit) (k4:Int×PUnit→Prop)=>
   Br (decide (v3.1<(↑a.length:Int))) (∃(y5:Int),idx a v3.1=some y5∧ ∃(y6:Int),idx b v3.1=some y6∧Br (y5 !=y6) (false=Gz a b) (k4 (IntKind.i64.wrap (v3.1+1),())))
    (true=Gz a b))
  (0,PUnit.unit):=by
 unfold short at h
 refine Am a.length (fun v=>v.1) (fun j _=>a.take j=b.take j) rfl (by simp) ?_
 rintro j ⟨i,⟨⟩⟩ K hj hi hR hK
 dsimp only at hi⊢
 subst hi
 refine Br.dec (fun hl=>?_) fun hl=>?_
 ·have hl1:j<a.length:=by omega
  have hl2:j<b.length:=by omega
  refine ⟨_,Aj hl1,_,Aj hl2,⟨fun he=>?_,fun he=>?_⟩⟩
  ·simp only [bne_iff_ne,ne_eq] at he
   refine (decide_eq_false fun hab=>he ?_).symm
   subst hab
   rfl
  ·rw [Al (by omega)]
   refine hK hl1 _ rfl ?_
   simp only [bne_eq_false_iff_eq] at he
   rw [List.take_succ_eq_append_getElem hl1,List.take_succ_eq_append_getElem hl2,hR,he]
 ·have hj':j=a.length:=by omega
  subst hj'
  rw [List.take_length,hlen,List.take_length] at hR
  exact (decide_eq_true hR).symm
theorem Atf (a b:List Int) (h:short a):fnW tab (look []) Dj Try.f59 (a,b,()) (fun (z:Bool)=>z=Gz a b):=by
 refine Eq.mp (Aui a b _) ⟨fun hl=>?_,fun hl=>?_⟩
 ·simp only [bne_iff_ne,ne_eq,Int.natCast_inj] at hl
  exact (decide_eq_false fun hab=>hl (by rw [hab])).symm
 ·simp only [bne_eq_false_iff_eq,Int.natCast_inj] at hl
  exact Axt a b hl h
theorem Ahn:Sound Try.prog 59 Dj:=
 Sound.mkS Bi Ao mixed Try.func59 (by kernel_rfl) (by kernel_rfl) fun x h=>Atf x.1 x.2.1 h
end Go.Proofs.Ytebabhocakedaaa

namespace Go.Proofs.Ytebabhocakedaaa
open Go.RowKit
def Cx (xs:List (List Int)):Prop:=xs.length≤4294967296∧ ∀r∈xs,short r
def roomy (room:Int):Prop:=0≤room∧room≤4294967296
def Afl (n:Nat) (room:Int):Int:=if room-n<0 then-1 else room-n
def Ae8 (xs:List Int) (room:Int):Int:=Afl xs.length room
def Akt:List (List Int)→Int→Int
 | [],room=>room
 |r::rs,room=>if Ae8 r room<0 then-1 else Akt rs (Ae8 r room)
def Ej (xs:List (List Int)) (room:Int):Int:=if Afl xs.length room<0 then-1 else Akt xs (Afl xs.length room)
def Acl (a b:List (List Int)):Bool:=decide (a=b)
noncomputable abbrev Ao2:Spec:=mkS (.pair tL (.pair tI .unit)) tI false true (fun x=>short x.1∧roomy x.2.1) (fun x=>Ae8 x.1 x.2.1)
noncomputable abbrev Ti:Spec:=mkS (.pair tLL (.pair tI .unit)) tI false true (fun x=>Cx x.1∧roomy x.2.1) (fun x=>Ej x.1 x.2.1)
noncomputable abbrev Zq:Spec:=mkS (.pair tL .unit) tL false true (fun x=>short x.1) (fun x=>x.1)
noncomputable abbrev Mo:Spec:=mkS (.pair tLL .unit) tLL false true (fun x=>Cx x.1) (fun x=>x.1)
noncomputable abbrev Th:Spec:=mkS (.pair tLL (.pair tLL .unit)) .bool false true (fun x=>Cx x.1) (fun x=>Acl x.1 x.2.1)
theorem Bgr (xs:List Int) (room:Int) (P:Int→Prop):(Br (decide (IntKind.i64.wrap (room-(↑xs.length:Int))<0)) (P (-1)) (P (IntKind.i64.wrap (room-(↑xs.length:Int)))))=fnW tab (look []) Ao2 Try.f76 (xs,room,()) P:=by kernel_rfl
theorem Bfm (xs:List (List Int)) (room:Int) (P:Int→Prop):(Br (decide (IntKind.i64.wrap (room-(↑xs.length:Int))<0)) (P (-1))
 (Bv
  (fun (v3:Int×Int×PUnit) (k4:Int×Int×PUnit→Prop)=>
   Br (decide (v3.2.1<(↑xs.length:Int)))
    (∃(y5:List Int),idx xs v3.2.1=some y5∧ ∃(y6:Int),Ao2.fn (y5,v3.1,())=some y6∧Br (decide (y6<0)) (P (-1)) (k4 (y6,IntKind.i64.wrap (v3.2.1+1),()))) (P v3.1))
  (IntKind.i64.wrap (room-(↑xs.length:Int)),0,PUnit.unit)))=fnW tab (look [(76,Ao2)]) Ti Try.f33 (xs,room,()) P:=by kernel_rfl
theorem Bgt (xs:List Int) (P:List Int→Prop):((0≤(↑xs.length:Int)∧(↑xs.length:Int)<(↑Az:Int)+1)∧
 (↑xs.length:Int)=(↑xs.length:Int)∧
  0=0∧
   (List.replicate (↑xs.length:Int).toNat (Int.ofNat 0)).length=(List.replicate (↑xs.length:Int).toNat (Int.ofNat 0)).length∧
    Bv
     (fun (v2:Int×List Int×PUnit) (k3:Int×List Int×PUnit→Prop)=>
      Br (decide (v2.1<(↑xs.length:Int)))
       (∃(y4:Int),
        idx xs v2.1=some y4∧
         (0≤v2.1∧v2.1<(↑v2.2.1.length:Int))∧
          0+v2.1.toNat<v2.2.1.length∧
           0=0∧v2.2.1.length=(v2.2.1.set (0+v2.1.toNat) y4).length∧k3 (IntKind.i64.wrap (v2.1+1),v2.2.1.set (0+v2.1.toNat) y4,()))
       (P (List.take v2.2.1.length (List.drop 0 v2.2.1))))
     (0,List.replicate (↑xs.length:Int).toNat (Int.ofNat 0),PUnit.unit))=fnW tab (look []) Zq Try.f18 (xs,()) P:=by kernel_rfl
theorem Bfn (xs:List (List Int)) (P:List (List Int)→Prop):((0≤(↑xs.length:Int)∧(↑xs.length:Int)<(↑Az:Int)+1)∧
 (↑xs.length:Int)=(↑xs.length:Int)∧
  0=0∧
   (List.replicate (↑xs.length:Int).toNat ([]:List Int)).length=(List.replicate (↑xs.length:Int).toNat ([]:List Int)).length∧
    Bv
     (fun (v2:Int×List (List Int)×PUnit) (k3:Int×List (List Int)×PUnit→Prop)=>
      Br (decide (v2.1<(↑xs.length:Int)))
       (∃(y4:List Int),
        idx xs v2.1=some y4∧
         ∃(y5:List Int),
          Zq.fn (y4,())=some y5∧
           (0≤v2.1∧v2.1<(↑v2.2.1.length:Int))∧
            0+v2.1.toNat<v2.2.1.length∧
             0=0∧v2.2.1.length=(v2.2.1.set (0+v2.1.toNat) y5).length∧k3 (IntKind.i64.wrap (v2.1+1),v2.2.1.set (0+v2.1.toNat) y5,()))
       (P (List.take v2.2.1.length (List.drop 0 v2.2.1))))
     (0,List.replicate (↑xs.length:Int).toNat ([]:List Int),PUnit.unit))=fnW tab (look [(18,Zq)]) Mo Try.f35 (xs,()) P:=by kernel_rfl
theorem Bgk (a b:List Int) (P:Bool→Prop):(Br ((↑a.length:Int) !=(↑b.length:Int)) (P false)
 (Bv
  (fun (v3:Int×PUnit) (k4:Int×PUnit→Prop)=>
   Br (decide (v3.1<(↑a.length:Int))) (∃(y5:Int),idx a v3.1=some y5∧ ∃(y6:Int),idx b v3.1=some y6∧Br (y5 !=y6) (P false) (k4 (IntKind.i64.wrap (v3.1+1),())))
    (P true))
  (0,PUnit.unit)))=fnW tab (look []) Dj Try.f21 (a,b,()) P:=by kernel_rfl
theorem Bfg (a b:List (List Int)) (P:Bool→Prop):(Br ((↑a.length:Int) !=(↑b.length:Int)) (P false)
 (Bv
  (fun (v3:Int×PUnit) (k4:Int×PUnit→Prop)=>
   Br (decide (v3.1<(↑a.length:Int)))
    (∃(y5:List Int),
     idx a v3.1=some y5∧ ∃(y6:List Int),idx b v3.1=some y6∧ ∃(y7:Bool),Dj.fn (y5,y6,())=some y7∧Br (!y7) (P false) (k4 (IntKind.i64.wrap (v3.1+1),())))
    (P true))
  (0,PUnit.unit)))=fnW tab (look [(21,Dj)]) Th Try.f37 (a,b,()) P:=by kernel_rfl
theorem Afm {n:Nat} {room:Int} (h:roomy room) (h2: ¬Afl n room<0):roomy (Afl n room):=by
 unfold Afl roomy at*
 split at h2<;>simp_all
 omega
theorem Bg7 (xs:List Int) (room:Int) (h:short xs∧roomy room):fnW tab (look []) Ao2 Try.f76 (xs,room,()) (fun (z:Int)=>z=Ae8 xs room):=by
 obtain ⟨h1,h2,h3⟩:=h
 unfold short at h1
 refine Eq.mp (Bgr xs room _) ?_
 rw [Bq (by omega) (by omega)]
 refine Br.dec (fun h=>?_) fun h=>?_
 ·simp only [Ae8,Afl,if_pos h]
 ·simp only [Ae8,Afl,if_neg h]
theorem Ba5:Sound Try.prog 76 Ao2:=
 Sound.mkS Bi Ao mixed Try.func76 (by kernel_rfl) (by kernel_rfl) fun x h=>Bg7 x.1 x.2.1 h
theorem Bf7 (xs:List (List Int)) (room:Int) (h:Cx xs∧roomy room):fnW tab (look [(76,Ao2)]) Ti Try.f33 (xs,room,()) (fun (z:Int)=>z=Ej xs room):=by
 obtain ⟨⟨h1,h4⟩,h2,h3⟩:=h
 refine Eq.mp (Bfm xs room _) ?_
 rw [Bq (by omega) (by omega)]
 refine Br.dec (fun h=>?_) fun h=>?_
 ·simp only [Ej,Afl,if_pos h];rfl
 ·refine Am xs.length (fun v=>v.2.1) (fun j v=>roomy v.1∧Akt (xs.drop j) v.1=Ej xs room) rfl ?_ ?_
  ·refine ⟨by unfold roomy;omega,?_⟩
   simp only [Ej,Afl,if_neg h,List.drop_zero]
  ·rintro j ⟨r,i,⟨⟩⟩ K hj hi ⟨hr,hR⟩ hK
   dsimp only at hi hr hR⊢
   subst hi
   refine Br.dec (fun hl=>?_) fun hl=>?_
   ·have hl:j<xs.length:=by omega
    have hd:xs.drop j=xs[j]::xs.drop (j+1):=List.drop_eq_getElem_cons hl
    refine ⟨_,Aj hl,_,if_pos ⟨h4 _ (List.getElem_mem hl),hr⟩,?_⟩
    rw [hd] at hR
    simp only [Akt] at hR
    refine Br.dec (fun hn=>?_) fun hn=>?_
    ·have hn:Ae8 xs[j] r<0:=hn
     rw [if_pos hn] at hR
     exact hR
    ·have hn: ¬Ae8 xs[j] r<0:=hn
     rw [if_neg hn] at hR
     rw [Al (by omega)]
     exact hK hl _ rfl ⟨Afm hr hn,hR⟩
   ·have:j=xs.length:=by omega
    subst this
    rw [List.drop_length] at hR
    exact hR
theorem Akm:Sound Try.prog 33 Ti:=
 Sound.mkS Bi (Ad Ba5 Ao) mixed Try.func33 (by kernel_rfl) (by kernel_rfl) fun x h=>Bf7 x.1 x.2.1 h
theorem Ao8: ∀(xs:List (List Int)) (room:Int),roomy room→ ¬Akt xs room<0→roomy (Akt xs room)
 | [],room,h,_=>h
 |r::rs,room,h,h2=>by
  simp only [Akt] at h2⊢
  split
  ·rename_i hn;rw [if_pos hn] at h2;exact absurd (show (-1:Int)<0 by decide) h2
  ·rename_i hn;rw [if_neg hn] at h2;exact Ao8 rs _ (Afm h hn) h2
theorem Asw {xs:List (List Int)} {room:Int} (h:roomy room) (h2: ¬Ej xs room<0):roomy (Ej xs room):=by
 unfold Ej at*
 split
 ·rename_i hn;rw [if_pos hn] at h2;exact absurd (show (-1:Int)<0 by decide) h2
 ·rename_i hn;rw [if_neg hn] at h2;exact Ao8 _ _ (Afm h hn) h2
theorem Oe {α:Type} {ys xs:List α} {j:Nat} (h:j<xs.length) (hl:ys.length=xs.length) (ht:ys.take j=xs.take j):(ys.set j xs[j]).take (j+1)=xs.take (j+1):=by
 have h1:j<(ys.set j xs[j]).length:=by rw [List.length_set];omega
 rw [List.take_succ_eq_append_getElem h1,List.take_succ_eq_append_getElem h,List.getElem_set_self,List.take_set_of_le (Nat.le_refl j),ht]
theorem Bg9 (xs:List Int) (h:short xs):fnW tab (look []) Zq Try.f18 (xs,()) (fun (z:List Int)=>z=xs):=by
 unfold short at h
 refine Eq.mp (Bgt xs _) ?_
 refine ⟨⟨by omega,by show (xs.length:Int)<(4294967296:Int)+1;omega⟩,rfl,rfl,rfl,?_⟩
 refine Am xs.length (fun v=>v.1) (fun j v=>v.2.1.length=xs.length∧v.2.1.take j=xs.take j) rfl ⟨by simp,by simp⟩ ?_
 rintro j ⟨i,ys,⟨⟩⟩ K hj hi ⟨h1,h2⟩ hK
 dsimp only at hi h1 h2⊢
 subst hi
 refine Br.dec (fun hl=>?_) fun hl=>?_
 ·have hl:j<xs.length:=by omega
  refine ⟨_,Aj hl,⟨by omega,by omega⟩,by rw [Int.toNat_natCast];omega,rfl,by rw [List.length_set],?_⟩
  rw [Al (by omega),Int.toNat_natCast,Nat.zero_add]
  exact hK hl _ rfl ⟨by rw [List.length_set];exact h1,Oe hl h1 h2⟩
 ·have:j=xs.length:=by omega
  subst this
  rw [List.take_length,←h1,List.take_length] at h2
  rw [List.drop_zero,List.take_length]
  exact h2
theorem Ao7:Sound Try.prog 18 Zq:=
 Sound.mkS Bi Ao mixed Try.func18 (by kernel_rfl) (by kernel_rfl) fun x h=>Bg9 x.1 h
theorem Bf8 (xs:List (List Int)) (h:Cx xs):fnW tab (look [(18,Zq)]) Mo Try.f35 (xs,()) (fun (z:List (List Int))=>z=xs):=by
 obtain ⟨h,h4⟩:=h
 refine Eq.mp (Bfn xs _) ?_
 refine ⟨⟨by omega,by show (xs.length:Int)<(4294967296:Int)+1;omega⟩,rfl,rfl,rfl,?_⟩
 refine Am xs.length (fun v=>v.1) (fun j v=>v.2.1.length=xs.length∧v.2.1.take j=xs.take j) rfl ⟨by simp,by simp⟩ ?_
 rintro j ⟨i,ys,⟨⟩⟩ K hj hi ⟨h1,h2⟩ hK
 dsimp only at hi h1 h2⊢
 subst hi
 refine Br.dec (fun hl=>?_) fun hl=>?_
 ·have hl:j<xs.length:=by omega
  refine ⟨_,Aj hl,_,if_pos (h4 _ (List.getElem_mem hl)),⟨by omega,by omega⟩,by rw [Int.toNat_natCast];omega,rfl,by rw [List.length_set],?_⟩
  rw [Al (by omega),Int.toNat_natCast,Nat.zero_add]
  exact hK hl _ rfl ⟨by rw [List.length_set];exact h1,Oe hl h1 h2⟩
 ·have:j=xs.length:=by omega
  subst this
  rw [List.take_length,←h1,List.take_length] at h2
  rw [List.drop_zero,List.take_length]
  exact h2
theorem Akn:Sound Try.prog 35 Mo:=
 Sound.mkS Bi (Ad Ao7 Ao) mixed Try.func35 (by kernel_rfl) (by kernel_rfl) fun x h=>Bf8 x.1 h
theorem Bg0 (a b:List Int) (h:short a):fnW tab (look []) Dj Try.f21 (a,b,()) (fun (z:Bool)=>z=Gz a b):=by
 refine Eq.mp (Bgk a b _) ⟨fun hl=>?_,fun hl=>?_⟩
 ·simp only [bne_iff_ne,ne_eq,Int.natCast_inj] at hl
  exact (decide_eq_false fun hab=>hl (by rw [hab])).symm
 ·simp only [bne_eq_false_iff_eq,Int.natCast_inj] at hl
  exact Axt a b hl h
theorem Ao6:Sound Try.prog 21 Dj:=
 Sound.mkS Bi Ao mixed Try.func21 (by kernel_rfl) (by kernel_rfl) fun x h=>Bg0 x.1 x.2.1 h
theorem Bf1 (a b:List (List Int)) (h:Cx a):fnW tab (look [(21,Dj)]) Th Try.f37 (a,b,()) (fun (z:Bool)=>z=Acl a b):=by
 obtain ⟨h,h4⟩:=h
 refine Eq.mp (Bfg a b _) ⟨fun hl=>?_,fun hl=>?_⟩
 ·simp only [bne_iff_ne,ne_eq,Int.natCast_inj] at hl
  exact (decide_eq_false fun hab=>hl (by rw [hab])).symm
 ·simp only [bne_eq_false_iff_eq,Int.natCast_inj] at hl
  refine Am a.length (fun v=>v.1) (fun j _=>a.take j=b.take j) rfl (by simp) ?_
  rintro j ⟨i,⟨⟩⟩ K hj hi hR hK
  dsimp only at hi⊢
  subst hi
  refine Br.dec (fun hlt=>?_) fun hlt=>?_
  ·have hl1:j<a.length:=by omega
   have hl2:j<b.length:=by omega
   refine ⟨_,Aj hl1,_,Aj hl2,_,if_pos (h4 _ (List.getElem_mem hl1)),⟨fun he=>?_,fun he=>?_⟩⟩
   ·refine (decide_eq_false fun hab=>?_).symm
    subst hab
    simp [Gz] at he
   ·rw [Al (by omega)]
    refine hK hl1 _ rfl ?_
    simp only [Gz,Bool.not_eq_false',decide_eq_true_eq] at he
    rw [List.take_succ_eq_append_getElem hl1,List.take_succ_eq_append_getElem hl2,hR]
    exact congrArg (fun x=>List.take j b++ [x]) he
  ·have hj':j=a.length:=by omega
   subst hj'
   rw [List.take_length,hl,List.take_length] at hR
   exact (decide_eq_true hR).symm
theorem Ake:Sound Try.prog 37 Th:=
 Sound.mkS Bi (Ad Ao6 Ao) mixed Try.func37 (by kernel_rfl) (by kernel_rfl) fun x h=>Bf1 x.1 x.2.1 h
end Go.Proofs.Ytebabhocakedaaa

namespace Go.Proofs.Ytebabhocakedaaa
open Go.RowKit
def Oa:List Int→Int→Int→Int
 | [],_,_=> -1
 |y::r,x,i=>if y=x then i else Oa r x (i+1)
noncomputable abbrev Aaq:Spec:=mkS (.pair tL (.pair tI .unit)) tI false true (fun x=>short x.1) (fun x=>Oa x.1 x.2.1 0)
def PL (n:Int) (xs:List Int) (k:Nat):Prop:= ∀j (h:j<xs.length),j<k→0≤xs[j]∧xs[j]≤n-1∧(0<j→xs[j-1]<xs[j])
def DL (n:Int) (xs:List Int) (k:Nat):Prop:= ∀j (h:j<xs.length),j<k→0≤xs[j]∧xs[j]≤n-1∧xs[j]∉xs.take j
noncomputable def dec (p:Prop):Bool:= @decide p (Classical.propDecidable p)
theorem Gu {p:Prop} (h:p):true=dec p:=(@decide_eq_true p (Classical.propDecidable p) h).symm
theorem Ar {p:Prop} (h: ¬p):false=dec p:=(@decide_eq_false p (Classical.propDecidable p) h).symm
theorem Er {p:Prop} :dec p=true↔p:= @decide_eq_true_iff p (Classical.propDecidable p)
theorem Bd7 {p:Prop} :dec p=false↔ ¬p:= @decide_eq_false_iff_not p (Classical.propDecidable p)
def nOK (n:Int):Prop:=0≤n∧n≤4294967296
noncomputable def Em (n:Int) (xs:List Int):Bool:=dec (0<xs.length∧PL n xs xs.length)
noncomputable abbrev En:Spec:=mkS (.pair tI (.pair tL .unit)) .bool false true (fun x=>nOK x.1∧short x.2.1) (fun x=>Em x.1 x.2.1)
noncomputable abbrev Ld:Spec:=mkS (.pair tLL .unit) tI false true (fun _=>True) (fun x=>(List.length x.1:Int))
theorem Be7 (xs:List Int) (x:Int) (P:Int→Prop):(Bv
 (fun (v3:Int×PUnit) (k4:Int×PUnit→Prop)=>
  Br (decide (v3.1<(↑xs.length:Int))) (∃(y5:Int),idx xs v3.1=some y5∧Br (x==y5) (P v3.1) (k4 (IntKind.i64.wrap (v3.1+(1:Int)),()))) (P (-1:Int)))
 ((0:Int),PUnit.unit))=fnW tab (look []) Aaq Try.f159 (xs,x,()) P:=by kernel_rfl
theorem Axa (xs:List Int) (x:Int) (P:Bool→Prop):(∃(y3:Int),Aaq.fn (xs,x,())=some y3∧P (decide (y3≥(0:Int))))=fnW tab (look [(159,Aaq)]) Cj Try.f126 (xs,x,()) P:=by kernel_rfl
theorem Ame (n:Int) (xs:List Int) (P:Bool→Prop):(∃(y3:Bool),
 As.fn ((↑xs.length:Int),(1:Int),n,())=some y3∧
  Br (!y3) (P false)
   (Bv
    (fun (v4:Int×PUnit) (k5:Int×PUnit→Prop)=>
     Br (decide (v4.1<(↑xs.length:Int)))
      (∃(y6:Int),
       idx xs v4.1=some y6∧
        ∃(y7:Bool),
         As.fn (y6,(0:Int),IntKind.i64.wrap (n-(1:Int)),())=some y7∧
          Br (!y7) (P false)
           (Br (decide (v4.1>(0:Int)))
            (∃(y8:Int),
             idx xs v4.1=some y8∧
              ∃(y9:Int),idx xs (IntKind.i64.wrap (v4.1-(1:Int)))=some y9∧Br (decide (y8≤y9)) (P false) (k5 (IntKind.i64.wrap (v4.1+(1:Int)),())))
            (k5 (IntKind.i64.wrap (v4.1+(1:Int)),()))))
      (P true))
    ((0:Int),PUnit.unit)))=fnW tab (look [(122,As)]) En Try.f100 (n,xs,()) P:=by kernel_rfl
theorem Auk (n:Int) (xs:List Int) (P:Bool→Prop):(Bv
 (fun (v3:Int×PUnit) (k4:Int×PUnit→Prop)=>
  Br (decide (v3.1<(↑xs.length:Int)))
   (∃(y5:Int),
    idx xs v3.1=some y5∧
     ∃(y6:Bool),
      Qn.fn (n,y5,())=some y6∧
       Br (!y6) (P false)
        (Br (decide (v3.1>(0:Int)))
         (∃(y7:Int),idx xs (IntKind.i64.wrap (v3.1-(1:Int)))=some y7∧Br (decide (y7≥y5)) (P false) (k4 (IntKind.i64.wrap (v3.1+(1:Int)),())))
         (k4 (IntKind.i64.wrap (v3.1+(1:Int)),()))))
   (P (decide ((↑xs.length:Int)>(0:Int)))))
 ((0:Int),PUnit.unit))=fnW tab (look [(102,Qn)]) En Try.f55 (n,xs,()) P:=by kernel_rfl
theorem Be8 (xs:List (List Int)) (P:Int→Prop):(P (↑xs.length:Int))=fnW tab (look []) Ld Try.f67 (xs,()) P:=by kernel_rfl
theorem Agx: ∀(xs:List Int) (x i:Int),0≤i→(Oa xs x i<0↔x∉xs)
 | [],x,i,_=>by simp [Oa]
 |y::r,x,i,h=>by
  simp only [Oa]
  split
  ·rename_i hy;subst hy;simp;omega
  ·rename_i hy
   rw [Agx r x (i+1) (by omega)]
   simp only [List.mem_cons,not_or]
   exact ⟨fun h=>⟨fun e=>hy e.symm,h⟩,fun h=>h.2⟩
theorem Bdk (xs:List Int) (x:Int) (h:short xs):fnW tab (look []) Aaq Try.f159 (xs,x,()) (fun (z:Int)=>z=Oa xs x 0):=by
 unfold short at h
 refine Eq.mp (Be7 xs x _) ?_
 refine Am xs.length (fun v=>v.1) (fun j _=>Oa (xs.drop j) x j=Oa xs x 0) rfl (by simp) ?_
 rintro j ⟨i,⟨⟩⟩ K hj hi hR hK
 dsimp only at hi⊢
 subst hi
 refine Br.dec (fun hl=>?_) fun hl=>?_
 ·have hl:j<xs.length:=by omega
  rw [List.drop_eq_getElem_cons hl] at hR
  simp only [Oa] at hR
  refine ⟨_,Aj hl,⟨fun he=>?_,fun he=>?_⟩⟩
  ·simp only [beq_iff_eq] at he
   rw [if_pos he.symm] at hR
   exact hR
  ·simp only [beq_eq_false_iff_ne,ne_eq] at he
   rw [if_neg (fun e=>he e.symm)] at hR
   rw [Al (by omega)]
   exact hK hl _ rfl (by push_cast;exact hR)
 ·have:j=xs.length:=by omega
  subst this
  rw [List.drop_length] at hR
  exact hR
theorem Au0:Sound Try.prog 159 Aaq:=
 Sound.mkS Bi Ao mixed Try.func159 (by kernel_rfl) (by kernel_rfl) fun x h=>Bdk x.1 x.2.1 h
theorem Aw8 (xs:List Int) (x:Int) (h:short xs):fnW tab (look [(159,Aaq)]) Cj Try.f126 (xs,x,()) (fun (z:Bool)=>z=Bg xs x):=by
 refine Eq.mp (Axa xs x _) ⟨_,if_pos h,?_⟩
 have:=Agx xs x 0 (Int.le_refl 0)
 show decide (Oa xs x 0≥0)=decide (x∈xs)
 by_cases hx:x∈xs
 ·rw [decide_eq_true hx]
  exact decide_eq_true (by have:=mt this.1 (fun h=>h hx);omega)
 ·rw [decide_eq_false hx]
  exact decide_eq_false (by have:=this.2 hx;omega)
theorem Akd:Sound Try.prog 126 Cj:=
 Sound.mkS Bi (Ad Au0 Ao) mixed Try.func126 (by kernel_rfl) (by kernel_rfl) fun x h=>Aw8 x.1 x.2.1 h
theorem Bdl (xs:List (List Int)) (_:True):fnW tab (look []) Ld Try.f67 (xs,()) (fun (z:Int)=>z=(xs.length:Int)):=Eq.mp (Be8 xs _) rfl
theorem Zt:Sound Try.prog 67 Ld:=
 Sound.mkS Bi Ao mixed Try.func67 (by kernel_rfl) (by kernel_rfl) fun x h=>Bdl x.1 h
theorem Agy {n x:Int} (hn:nOK n):Aak n x=true↔0≤x∧x≤n-1:=by
 unfold Aak nOK at*
 rw [Bq (by omega) (by omega),decide_eq_true_iff]
theorem Bf {x a b:Int} :Fz x a b=true↔a≤x∧x≤b:=decide_eq_true_iff
theorem Cc {b:Bool} (h:(!b)=true): ¬b=true:=by cases b<;>simp_all
theorem Cg {b:Bool} (h:(!b)=false):b=true:=by cases b<;>simp_all
theorem Awh {n:Int} {xs:List Int} (h:PL n xs xs.length): ∀j (hj:j<xs.length),(j:Int)≤xs[j]
 |0,hj=>(h 0 hj hj).1
 |j+1,hj=>by
  have h1:=Awh h j (by omega)
  have h2:=(h (j+1) hj hj).2.2 (by omega)
  simp only [Nat.add_sub_cancel] at h2
  omega
theorem Ai3 {n:Int} {xs:List Int} {j:Nat} (hl:j<xs.length) (h:PL n xs j) (h1:0≤xs[j]) (h2:xs[j]≤n-1) (h3:0<j→xs[j-1]<xs[j]):PL n xs (j+1):=by
 intro i hi hij
 by_cases e:i=j
 ·subst e;exact ⟨h1,h2,h3⟩
 ·exact h i hi (by omega)
theorem Ath (n:Int) (xs:List Int) (h:nOK n∧short xs):fnW tab (look [(102,Qn)]) En Try.f55 (n,xs,()) (fun (z:Bool)=>z=Em n xs):=by
 obtain ⟨hn,h⟩:=h
 unfold short at h
 refine Eq.mp (Auk n xs _) ?_
 refine Am xs.length (fun v=>v.1) (fun j _=>PL n xs j) rfl (fun j _ hj=>absurd hj (Nat.not_lt_zero _)) ?_
 rintro j ⟨i,⟨⟩⟩ K hj hi hR hK
 dsimp only at hi⊢
 subst hi
 refine Br.dec (fun hl=>?_) fun hl=>?_
 ·have hl:j<xs.length:=by omega
  refine ⟨_,Aj hl,_,if_pos trivial,⟨fun hp=>?_,fun hp=>?_⟩⟩
  ·have hp:=Cc hp
   rw [Agy hn] at hp
   exact Ar fun hh=>hp ⟨(hh.2 j hl hl).1,(hh.2 j hl hl).2.1⟩
  ·have hp:=Cg hp
   rw [Agy hn] at hp
   refine Br.dec (fun h0=>?_) fun h0=>?_
   ·have h0:0<j:=by omega
    rw [Bq (by omega) (by omega),show (j:Int)-1=((j-1:Nat):Int) by omega]
    refine ⟨_,Aj (by omega),Br.dec (fun hg=>?_) fun hg=>?_⟩
    ·exact Ar fun hh=>by have:=(hh.2 j hl hl).2.2 h0;omega
    ·rw [Al (by omega)]
     exact hK hl _ rfl (Ai3 hl hR hp.1 hp.2 fun _=>by omega)
   ·have h0:j=0:=by omega
    rw [Al (by omega)]
    exact hK hl _ rfl (Ai3 hl hR hp.1 hp.2 fun h=>by omega)
 ·have:j=xs.length:=by omega
  subst this
  by_cases h0:0<xs.length
  ·rw [decide_eq_true (show (xs.length:Int)>0 by omega)];exact Gu ⟨h0,hR⟩
  ·rw [decide_eq_false (show ¬(xs.length:Int)>0 by omega)];exact Ar fun hh=>h0 hh.1
theorem Ahp:Sound Try.prog 55 En:=
 Sound.mkS Bi (Ad Am3 Ao) mixed Try.func55 (by kernel_rfl) (by kernel_rfl) fun x h=>Ath x.1 x.2.1 h
theorem Alm (n:Int) (xs:List Int) (h:nOK n∧short xs):fnW tab (look [(122,As)]) En Try.f100 (n,xs,()) (fun (z:Bool)=>z=Em n xs):=by
 obtain ⟨hn,h⟩:=h
 unfold short at h
 refine Eq.mp (Ame n xs _) ⟨_,if_pos trivial,⟨fun hp=>?_,fun hp=>?_⟩⟩
 ·have hp:=Cc hp
  rw [Bf] at hp
  dsimp only at hp
  refine Ar fun hh=>hp ⟨by omega,?_⟩
  have:=Awh hh.2 (xs.length-1) (by omega)
  have:=(hh.2 (xs.length-1) (by omega) (by omega)).2.1
  omega
 ·have hp:=Cg hp
  rw [Bf] at hp
  dsimp only at hp
  refine Am xs.length (fun v=>v.1) (fun j _=>PL n xs j) rfl (fun j _ hj=>absurd hj (Nat.not_lt_zero _)) ?_
  rintro j ⟨i,⟨⟩⟩ K hj hi hR hK
  dsimp only at hi⊢
  subst hi
  refine Br.dec (fun hl=>?_) fun hl=>?_
  ·have hl:j<xs.length:=by omega
   refine ⟨_,Aj hl,_,if_pos trivial,⟨fun hq=>?_,fun hq=>?_⟩⟩
   ·have hq:=Cc hq
    unfold nOK at hn
    rw [Bf,Bq (by omega) (by omega)] at hq
    exact Ar fun hh=>hq ⟨(hh.2 j hl hl).1,(hh.2 j hl hl).2.1⟩
   ·have hq:=Cg hq
    unfold nOK at hn
    rw [Bf,Bq (by omega) (by omega)] at hq
    refine Br.dec (fun h0=>?_) fun h0=>?_
    ·have h0:0<j:=by omega
     rw [Bq (by omega) (by omega),show (j:Int)-1=((j-1:Nat):Int) by omega]
     refine ⟨_,Aj hl,_,Aj (by omega),Br.dec (fun hg=>?_) fun hg=>?_⟩
     ·exact Ar fun hh=>by have:=(hh.2 j hl hl).2.2 h0;omega
     ·rw [Al (by omega)]
      exact hK hl _ rfl (Ai3 hl hR hq.1 hq.2 fun _=>by omega)
    ·rw [Al (by omega)]
     exact hK hl _ rfl (Ai3 hl hR hq.1 hq.2 fun h=>by omega)
  ·have:j=xs.length:=by omega
   subst this
   exact Gu ⟨by omega,hR⟩
theorem Aeo:Sound Try.prog 100 En:=
 Sound.mkS Bi (Ad Kx Ao) mixed Try.func100 (by kernel_rfl) (by kernel_rfl) fun x h=>Alm x.1 x.2.1 h
theorem Bd8 {n:Int} {xs:List Int} {j:Nat} (hl:j<xs.length) (h:DL n xs j) (h1:0≤xs[j]) (h2:xs[j]≤n-1) (h3:xs[j]∉xs.take j):DL n xs (j+1):=by
 intro i hi hij
 by_cases e:i=j
 ·subst e;exact ⟨h1,h2,h3⟩
 ·exact h i hi (by omega)
theorem Awx {xs:List Int} (h:short xs) (j:Nat):short (xs.take j):=by
 unfold short at*
 rw [List.length_take]
 omega
end Go.Proofs.Ytebabhocakedaaa

namespace Go.Proofs.Ytebabhocakedaaa
open Go.RowKit
theorem Atr:roomy 1048576:=⟨by decide,by decide⟩
end Go.Proofs.Ytebabhocakedaaa

namespace Go.Proofs.Ytebabhocakedaaa
open Go.RowKit
abbrev PP:Type:=Int×ByteArray×List (List Int)×Unit
noncomputable def Es (p:List Int):Bool:=dec (1≤p.length∧p.length≤20∧DL p.length p p.length)
noncomputable def Dr (n:Int) (p:List Int):Bool:=dec ((p.length:Int)=n∧Es p=true)
noncomputable def Oq (n:Int) (g:List (List Int)):Bool:=dec ((1≤n∧n≤20)∧g.length≤8∧ ∀p∈g,Dr n p=true)
def Cd {α:Type} (P:α→Bool):List α→Int→Int
 | [],_=> -1
 |y::r,i=>if P y=true then i else Cd P r (i+1)
abbrev tG1:Ty:= .clo 174 (.pair (.ptr tI) .unit)
def Aod (s:ByteArray) (i:Nat):Prop:= ∃c:UInt8,s[i]?=some c∧65≤c.toNat∧c.toNat≤90∧ ∀k,k<i→s[k]?≠some c
noncomputable def Ae7 (s:ByteArray) (i:Int):Bool:=dec (Aod s i.toNat)
noncomputable def Uj (s:ByteArray):Bool:=dec ((1≤s.size∧s.size≤8)∧ ∀j,j<s.size→Aod s j)
noncomputable def Ay (p:PP):Bool:=dec (Oq p.1 p.2.2.1=true∧Uj p.2.1=true∧p.2.1.size=p.2.2.1.length)
def Dk (p:PP):Prop:=p.2.1.size≤4294967296∧Cx p.2.2.1
noncomputable abbrev Iq:Spec:=mkS (.pair tL .unit) tI false true (fun _=>True) (fun x=>(List.length x.1:Int))
noncomputable abbrev Dv:Spec:=mkS (.pair tL .unit) .bool false true (fun x=>short x.1) (fun x=>Es x.1)
noncomputable abbrev Iz:Spec:=mkS (.pair tI (.pair tLL .unit)) .bool false true (fun x=>Cx x.2.1) (fun x=>Oq x.1 x.2.1)
noncomputable abbrev Aap:Spec:=mkS (.pair tL (.pair (.ptr tI) .unit)) .bool false true (fun x=>short x.1) (fun x=>!Dr x.2.1 x.1)
noncomputable abbrev Anx:Spec:=mkS (.pair tLL (.pair tG1 .unit)) tI false true (fun x=>Cx x.1) (fun x=>Cd (fun p=>!Dr x.2.1.1 p) x.1 0)
noncomputable abbrev Anr:Spec:=mkS (.pair tLL (.pair tG1 .unit)) .bool false true (fun x=>Cx x.1) (fun x=>List.any x.1 (fun p=>!Dr x.2.1.1 p))
noncomputable abbrev Uo:Spec:=mkS (.pair .str (.pair tI .unit)) .bool false true (fun x=>0≤x.2.1∧x.2.1<x.1.size∧x.1.size≤4294967296) (fun x=>Ae7 x.1 x.2.1)
noncomputable abbrev Qm:Spec:=mkS (.pair .str .unit) .bool false true (fun x=>x.1.size≤4294967296) (fun x=>Uj x.1)
noncomputable abbrev Dw:Spec:=mkS (.pair Ct .unit) .bool false true (fun x=>Dk x.1) (fun x=>Ay x.1)
def Ku (p:PP) (room:Int):Int:=if room-p.2.1.size<0 then-1 else if Ej p.2.2.1 (room-p.2.1.size)<0 then-1 else Ej p.2.2.1 (room-p.2.1.size)
def Agw (a b:PP):Bool:=decide (a.1=b.1)&&(decide (a.2.1=b.2.1)&&decide (a.2.2.1=b.2.2.1))
noncomputable abbrev Ao3:Spec:=mkS (.pair Ct (.pair tI .unit)) tI false true (fun x=>Dk x.1∧roomy x.2.1) (fun x=>Ku x.1 x.2.1)
noncomputable abbrev Ah8:Spec:=mkS (.pair Ct .unit) Ct false true (fun x=>Dk x.1) (fun x=>x.1)
noncomputable abbrev Anv:Spec:=mkS (.pair Ct (.pair Ct .unit)) .bool false true (fun x=>Dk x.1) (fun x=>Agw x.1 x.2.1)
theorem Bfi (xs:List Int) (P:Int→Prop):(P (↑xs.length:Int))=fnW tab (look []) Iq Try.f127 (xs,()) P:=by kernel_rfl
theorem Ar3 (p:List Int) (P:Bool→Prop):(∃(y2:Bool),
 As.fn ((↑p.length:Int),(1:Int),(20:Int),())=some y2∧
  Br (!y2) (P false)
   (Bv
    (fun (v3:Int×PUnit) (k4:Int×PUnit→Prop)=>
     Br (decide (v3.1<(↑p.length:Int)))
      (∃(y5:Int),
       idx p v3.1=some y5∧
        ∃(y6:Bool),
         As.fn (y5,(0:Int),IntKind.i64.wrap ((↑p.length:Int)-(1:Int)),())=some y6∧
          Br (!y6) (P false)
           (((0:Int)≤(0:Int)∧(0:Int)≤v3.1∧v3.1≤(↑p.length:Int))∧
            ∃(y7:Int),
             idx p v3.1=some y7∧
              ∃(y8:Bool),
               Cj.fn (List.drop (Int.toNat (0:Int)) (List.take v3.1.toNat p),y7,())=some y8∧Br y8 (P false) (k4 (IntKind.i64.wrap (v3.1+(1:Int)),()))))
      (P true))
    ((0:Int),PUnit.unit)))=fnW tab (look [(122,As),(152,Cj)]) Dv Try.f169 (p,()) P:=by kernel_rfl
theorem Aqx (p:List Int) (P:Bool→Prop):(∃(y2:Int),
 Iq.fn (p,())=some y2∧
  ∃(y3:Bool),
   As.fn (y2,(1:Int),(20:Int),())=some y3∧
    Br (!y3) (P false)
     (Bv
      (fun (v4:Int×Int×PUnit) (k5:Int×Int×PUnit→Prop)=>
       Br (decide (v4.2.1<(↑p.length:Int)))
        (∃(y6:Int),
         idx p v4.2.1=some y6∧
          ∃(y7:Int),
           Iq.fn (p,())=some y7∧
            ∃(y8:Bool),
             As.fn (y6,(0:Int),IntKind.i64.wrap (y7-(1:Int)),())=some y8∧
              Br (!y8) (P false)
               (¬y6<(0:Int)∧
                k5
                 (IntKind.i64.wrap
                   (↑(BitVec.ofInt IntKind.i64.bits v4.1|||BitVec.ofInt IntKind.i64.bits (IntKind.i64.wrap ((1:Int)*(2:Int)^min y6.toNat IntKind.i64.bits))).toNat:
                    Int),
                  IntKind.i64.wrap (v4.2.1+(1:Int)),())))
        (¬(↑p.length:Int)<(0:Int)∧P (v4.1==IntKind.i64.wrap (IntKind.i64.wrap ((1:Int)*(2:Int)^min (↑p.length:Int).toNat IntKind.i64.bits)-(1:Int)))))
      ((0:Int),(0:Int),PUnit.unit)))=fnW tab (look [(108,As),(127,Iq)]) Dv Try.f170 (p,()) P:=by kernel_rfl
theorem Ar2 (n:Int) (g:List (List Int)) (P:Bool→Prop):(∃(y3:Bool),
 As.fn (n,(1:Int),(20:Int),())=some y3∧
  Br (!y3) (P false)
   (Br (decide ((↑g.length:Int)>(8:Int))) (P false)
    (Bv
     (fun (v4:Int×PUnit) (k5:Int×PUnit→Prop)=>
      Br (decide (v4.1<(↑g.length:Int)))
       (∃(y6:List Int),
        idx g v4.1=some y6∧
         Br ((↑y6.length:Int) !=n) (P false)
          (∃(y7:List Int),idx g v4.1=some y7∧ ∃(y8:Bool),Dv.fn (y7,())=some y8∧Br (!y8) (P false) (k5 (IntKind.i64.wrap (v4.1+(1:Int)),()))))
       (P true))
     ((0:Int),PUnit.unit))))=fnW tab (look [(122,As),(169,Dv)]) Iz Try.f148 (n,g,()) P:=by kernel_rfl
theorem Be6 (p:List Int) (n:Int) (P:Bool→Prop):(∃(y3:Int),Iq.fn (p,())=some y3∧Br (y3 !=n) (P true) (∃(y4:Bool),Dv.fn (p,())=some y4∧P !y4))=fnW tab (look [(127,Iq),(170,Dv)]) Aap Try.f174 (p,n,()) P:=by kernel_rfl
theorem Bgn (g:List (List Int)) (n:Int×Unit) (P:Int→Prop):(Bv
 (fun (v3:Int×PUnit) (k4:Int×PUnit→Prop)=>
  Br (decide (v3.1<(↑g.length:Int)))
   (∃(y5:List Int),idx g v3.1=some y5∧ ∃(y6:Bool),Aap.fn (y5,n.1,())=some y6∧Br y6 (P v3.1) (k4 (IntKind.i64.wrap (v3.1+(1:Int)),()))) (P (-1:Int)))
 ((0:Int),PUnit.unit))=fnW tab (look [(174,Aap)]) Anx Try.f181 (g,n,()) P:=by kernel_rfl
theorem Bgg (g:List (List Int)) (n:Int×Unit) (P:Bool→Prop):(∃(y3:Int),Anx.fn (g,n,())=some y3∧P (decide (y3≥(0:Int))))=fnW tab (look [(181,Anx)]) Anr Try.f173 (g,n,()) P:=by kernel_rfl
theorem Aqw (n:Int) (g:List (List Int)) (P:Bool→Prop):(∃(y3:Bool),
 As.fn (n,(1:Int),(20:Int),())=some y3∧Br y3 (Br (decide ((↑g.length:Int)≤(8:Int))) (∃(y4:Bool),Anr.fn (g,(n,()),())=some y4∧P !y4) (P false)) (P false))=fnW tab (look [(108,As),(173,Anr)]) Iz Try.f157 (n,g,()) P:=by kernel_rfl
theorem Bcv (s:ByteArray) (i:Int) (P:Bool→Prop):((0:Int)≤i∧
 ∃(y3:UInt8),
  s[i.toNat]?=some y3∧
   Br (decide ((↑y3.toNat:Int)<(65:Int))) (P false)
    ((0:Int)≤i∧
     ∃(y4:UInt8),
      s[i.toNat]?=some y4∧
       Br (decide ((↑y4.toNat:Int)>(90:Int))) (P false)
        (Bv
         (fun (v5:Int×PUnit) (k6:Int×PUnit→Prop)=>
          Br (decide (v5.1<i))
           ((0:Int)≤v5.1∧
            ∃(y7:UInt8),
             s[v5.1.toNat]?=some y7∧
              (0:Int)≤i∧ ∃(y8:UInt8),s[i.toNat]?=some y8∧Br ((↑y7.toNat:Int)==(↑y8.toNat:Int)) (P false) (k6 (IntKind.i64.wrap (v5.1+(1:Int)),())))
           (P true))
         ((0:Int),PUnit.unit))))=fnW tab (look []) Uo Try.f149 (s,i,()) P:=by kernel_rfl
theorem Baj (s:ByteArray) (P:Bool→Prop):(Bv
 (fun (v2:Int×PUnit) (k3:Int×PUnit→Prop)=>
  Br (decide (v2.1<(↑s.size:Int)))
   ((0:Int)≤v2.1∧
    ∃(y4:UInt8),
     s[v2.1.toNat]?=some y4∧
      ∃(y5:Bool),
       As.fn (IntKind.i64.wrap (↑y4.toNat:Int),(65:Int),(90:Int),())=some y5∧
        Br (!y5) (P false)
         (Bv
          (fun (v6:Int×PUnit) (k7:Int×PUnit→Prop)=>
           Br (decide (v6.1<v2.1))
            ((0:Int)≤v6.1∧
             ∃(y8:UInt8),
              s[v6.1.toNat]?=some y8∧
               (0:Int)≤v2.1∧ ∃(y9:UInt8),s[v2.1.toNat]?=some y9∧Br ((↑y8.toNat:Int)==(↑y9.toNat:Int)) (P false) (k7 (IntKind.i64.wrap (v6.1+(1:Int)),())))
            (k3 (IntKind.i64.wrap (v2.1+(1:Int)),())))
          ((0:Int),PUnit.unit)))
   (∃(y4:Bool),As.fn ((↑s.size:Int),(1:Int),(8:Int),())=some y4∧P y4))
 ((0:Int),PUnit.unit))=fnW tab (look [(108,As)]) Qm Try.f158 (s,()) P:=by kernel_rfl
theorem Ar4 (p:Int×ByteArray×List (List Int)×Unit) (P:Bool→Prop):(Br ((↑p.2.2.1.length:Int)==(0:Int)) (P false)
 (Br ((↑p.2.1.size:Int) !=(↑p.2.2.1.length:Int)) (P false)
  (∃(y2:Bool),
   Iz.fn (p.1,p.2.2.1,())=some y2∧
    Br (!y2) (P false)
     (Bv
      (fun (v3:Int×Int×ByteArray×List (List Int)×PUnit) (k4:Int×Int×ByteArray×List (List Int)×PUnit→Prop)=>
       Br (decide (v3.1<(↑v3.2.2.1.size:Int)))
        (∃(y5:Bool),Uo.fn (v3.2.2.1,v3.1,())=some y5∧Br (!y5) (P false) (k4 (IntKind.i64.wrap (v3.1+(1:Int)),v3.2.1,v3.2.2.1,v3.2.2.2.1,())))
        (P true))
      ((0:Int),p.1,p.2.1,p.2.2.1,PUnit.unit)))))=fnW tab (look [(148,Iz),(149,Uo)]) Dw Try.f99 (p,()) P:=by kernel_rfl
theorem Aqy (p:Int×ByteArray×List (List Int)×Unit) (P:Bool→Prop):(∃(y2:Bool),
 Iz.fn (p.1,p.2.2.1,())=some y2∧Br y2 (∃(y3:Bool),Qm.fn (p.2.1,())=some y3∧Br y3 (P ((↑p.2.1.size:Int)==(↑p.2.2.1.length:Int))) (P false)) (P false))=fnW tab (look [(157,Iz),(158,Qm)]) Dw Try.f124 (p,()) P:=by kernel_rfl
theorem Bgs (p:Int×ByteArray×List (List Int)×Unit) (room:Int) (P:Int→Prop):(Br (decide (IntKind.i64.wrap (room-(↑p.2.1.size:Int))<(0:Int))) (P (-1:Int))
 (∃(y3:Int),Ti.fn (p.2.2.1,IntKind.i64.wrap (room-(↑p.2.1.size:Int)),())=some y3∧Br (decide (y3<(0:Int))) (P (-1:Int)) (P y3)))=fnW tab (look [(33,Ti)]) Ao3 Try.f15 (p,room,()) P:=by kernel_rfl
theorem Bgu (p:Int×ByteArray×List (List Int)×Unit) (P:(Int×ByteArray×List (List Int)×Unit)→Prop):(∃(y2:List (List Int)),Mo.fn (p.2.2.1,())=some y2∧P (p.1,p.2.1,y2,()))=fnW tab (look [(35,Mo)]) Ah8 Try.f17 (p,()) P:=by kernel_rfl
theorem Bgl (a b:Int×ByteArray×List (List Int)×Unit) (P:Bool→Prop):(Br (a.1 !=b.1) (P false) (Br (!a.2.1.toList==b.2.1.toList) (P false) (∃(y3:Bool),Th.fn (a.2.2.1,b.2.2.1,())=some y3∧Br (!y3) (P false) (P true))))=fnW tab (look [(37,Th)]) Anv Try.f20 (a,b,()) P:=by kernel_rfl
theorem Bf3 (xs:List Int) (_:True):fnW tab (look []) Iq Try.f127 (xs,()) (fun (z:Int)=>z=(xs.length:Int)):=Eq.mp (Bfi xs _) rfl
theorem Rq:Sound Try.prog 127 Iq:=
 Sound.mkS Bi Ao mixed Try.func127 (by kernel_rfl) (by kernel_rfl) fun x h=>Bf3 x.1 h
theorem Aqn {α:Type} [DecidableEq α]: ∀(l m:List α),l.Nodup→(∀x∈l,x∈m)→l.length≤m.length
 | [],m,_,_=>Nat.zero_le _
 |a::l,m,hn,hs=>by
  have ha:a∈m:=hs a (List.mem_cons_self ..)
  have hn:=List.nodup_cons.1 hn
  have:=Aqn l (m.erase a) hn.2 fun x hx=>(List.mem_erase_of_ne (fun (e:x=a)=>hn.1 (by rw [←e];exact hx))).2 (hs x (List.mem_cons_of_mem _ hx))
  rw [List.length_erase_of_mem ha] at this
  have:0<m.length:=List.length_pos_of_mem ha
  simp only [List.length_cons]
  omega
def upto (n:Nat):List Int:=(List.range n).map Int.ofNat
theorem Akx (n:Nat):(upto n).Nodup:=by
 unfold upto
 exact List.Pairwise.map _ (fun a b hab e=>hab (Int.ofNat.inj e)) List.nodup_range
theorem Ix {n:Nat} {x:Int} :x∈upto n↔0≤x∧x<n:=by
 unfold upto
 simp only [List.mem_map,List.mem_range]
 constructor
 ·rintro ⟨a,ha,rfl⟩;exact ⟨Int.natCast_nonneg _,Int.ofNat_lt.2 ha⟩
 ·rintro ⟨h1,h2⟩;exact ⟨x.toNat,by omega,by simp only [Int.ofNat_eq_natCast];omega⟩
theorem Ru (n:Nat):(upto n).length=n:=by simp [upto]
theorem Zb {xs:List Int} (h: ∀j (hj:j<xs.length),xs[j]∉xs.take j):xs.Nodup:=by
 refine List.pairwise_iff_getElem.2 fun i j hi hj hij e=>h j hj ?_
 rw [←e]
 exact List.mem_take_iff_getElem.2 ⟨i,by omega,rfl⟩
theorem Akv {xs:List Int} (h:xs.Nodup): ∀j (hj:j<xs.length),xs[j]∉xs.take j:=by
 intro j hj hm
 obtain ⟨i,hi,e⟩:=List.mem_take_iff_getElem.1 hm
 exact List.pairwise_iff_getElem.1 h i j (by omega) hj (by omega) e
theorem Sy {xs:List Int} (h: ∀x∈xs,0≤x∧x<xs.length):(∀k:Nat,k<xs.length→(k:Int)∈xs)↔ ∀j (hj:j<xs.length),xs[j]∉xs.take j:=by
 constructor
 ·intro ha j hj hm
  have h1:=Aqn (upto xs.length) (xs.take j++xs.drop (j+1)) (Akx _) fun x hx=>by
   obtain ⟨h1,h2⟩:=Ix.1 hx
   have hx:=ha x.toNat (by omega)
   rw [show ((x.toNat:Nat):Int)=x by omega] at hx
   rw [←List.take_append_drop j xs,List.mem_append,List.drop_eq_getElem_cons hj,List.mem_cons] at hx
   rcases hx with hx|rfl|hx
   ·exact List.mem_append_left _ hx
   ·exact List.mem_append_left _ hm
   ·exact List.mem_append_right _ hx
  rw [Ru,List.length_append,List.length_take,List.length_drop] at h1
  omega
 ·intro hn k hk
  refine Classical.byContradiction fun hc=>?_
  have h1:=Aqn xs ((upto xs.length).erase (k:Int)) (Zb hn) fun x hx=>by
   refine (List.mem_erase_of_ne fun (e:x=(k:Int))=>hc (by rw [←e];exact hx)).2 (Ix.2 (h x hx))
  rw [List.length_erase_of_mem (Ix.2 ⟨by omega,by omega⟩),Ru] at h1
  omega
def mask (xs:List Int):Nat:=xs.foldl (fun m x=>m|||2^x.toNat) 0
theorem Az2 (xs:List Int) (x:Int):mask (xs++ [x])=mask xs|||2^x.toNat:=by simp [mask]
theorem Aph (xs:List Int) (k:Nat): ∀a:Nat,(xs.foldl (fun m x=>m|||2^x.toNat) a).testBit k=(a.testBit k||xs.any fun x=>decide (x.toNat=k)):=by
 induction xs with
 |nil=>simp
 |cons x xs ih=>
  intro a
  rw [List.foldl_cons,ih,Nat.testBit_or,Nat.testBit_two_pow,List.any_cons,Bool.or_assoc]
theorem Ajf (xs:List Int) (k:Nat):(mask xs).testBit k=xs.any fun x=>decide (x.toNat=k):=by
 unfold mask
 rw [Aph,Nat.zero_testBit,Bool.false_or]
theorem Bde {xs:List Int} {n:Nat} (h: ∀x∈xs,x.toNat<n):mask xs<2^n:=by
 refine Nat.lt_pow_two_of_testBit _ fun k hk=>?_
 rw [Ajf]
 refine Bool.eq_false_iff.2 fun ht=>?_
 obtain ⟨x,hx,he⟩:=List.any_eq_true.1 ht
 have:=h x hx
 have:=of_decide_eq_true he
 omega
theorem Ana {xs:List Int} (h: ∀x∈xs,0≤x∧x<xs.length):mask xs=2^xs.length-1↔ ∀k:Nat,k<xs.length→(k:Int)∈xs:=by
 constructor
 ·intro e k hk
  have h1:=Ajf xs k
  rw [e,Nat.testBit_two_pow_sub_one,decide_eq_true hk] at h1
  obtain ⟨x,hx,he⟩:=List.any_eq_true.1 h1.symm
  have:=(h x hx).1
  have:=of_decide_eq_true he
  have e:x=(k:Int):=by omega
  exact e▸hx
 ·intro ha
  refine Nat.eq_of_testBit_eq fun k=>?_
  rw [Ajf,Nat.testBit_two_pow_sub_one]
  by_cases hk:k<xs.length
  ·rw [decide_eq_true hk]
   exact List.any_eq_true.2 ⟨k,ha k hk,by simp⟩
  ·rw [decide_eq_false hk]
   refine Bool.eq_false_iff.2 fun ht=>?_
   obtain ⟨x,hx,he⟩:=List.any_eq_true.1 ht
   have:=h x hx
   have:=of_decide_eq_true he
   omega
theorem Bdg {m:Nat} {x:Int} (hm:m<2^20) (h0:0≤x) (h1:x<20):
  IntKind.i64.wrap (((BitVec.ofInt IntKind.i64.bits (m:Int)|||BitVec.ofInt IntKind.i64.bits (IntKind.i64.wrap ((1:Int)*(2:Int)^min x.toNat IntKind.i64.bits))).toNat:Nat):Int)=((m|||2^x.toNat:Nat):Int):=by
 have hx:(2:Nat)^x.toNat<2^20:=Nat.pow_lt_pow_right (by omega) (by omega)
 have e1:min x.toNat IntKind.i64.bits=x.toNat:=by show min x.toNat 64=_;omega
 have e2:(1:Int)*(2:Int)^x.toNat=((2^x.toNat:Nat):Int):=by rw [Int.one_mul];exact (Int.natCast_pow 2 _).symm
 rw [e1,e2,Bq (n:=((2^x.toNat:Nat):Int)) (by have:(0:Int)≤((2^x.toNat:Nat):Int):=Int.natCast_nonneg _;omega) (by omega)]
 show IntKind.i64.wrap (((BitVec.ofInt 64 (m:Int)|||BitVec.ofInt 64 ((2^x.toNat:Nat):Int)).toNat:Nat):Int)=_
 rw [BitVec.ofInt_natCast,BitVec.ofInt_natCast,BitVec.toNat_or,BitVec.toNat_ofNat,BitVec.toNat_ofNat,Nat.mod_eq_of_lt (by omega),Nat.mod_eq_of_lt (by omega)]
 have:=Nat.or_lt_two_pow hm hx
 exact Bq (by omega) (by omega)
theorem Apt (p:List Int) (h:short p):fnW tab (look [(122,As),(152,Cj)]) Dv Try.f169 (p,()) (fun (z:Bool)=>z=Es p):=by
 have hs:=h
 unfold short at h
 refine Eq.mp (Ar3 p _) ⟨_,if_pos trivial,⟨fun hp=>?_,fun hp=>?_⟩⟩
 ·have hp:=Cc hp
  rw [Bf] at hp
  dsimp only at hp
  exact Ar fun hh=>hp ⟨by omega,by omega⟩
 ·have hp:=Cg hp
  rw [Bf] at hp
  dsimp only at hp
  refine Am p.length (fun v=>v.1) (fun j _=>DL p.length p j) rfl (fun j _ hj=>absurd hj (Nat.not_lt_zero _)) ?_
  rintro j ⟨i,⟨⟩⟩ K hj hi hR hK
  dsimp only at hi⊢
  subst hi
  refine Br.dec (fun hl=>?_) fun hl=>?_
  ·have hl:j<p.length:=by omega
   refine ⟨_,Aj hl,_,if_pos trivial,⟨fun hq=>?_,fun hq=>?_⟩⟩
   ·have hq:=Cc hq
    rw [Bf,Bq (by omega) (by omega)] at hq
    exact Ar fun hh=>hq ⟨(hh.2.2 j hl hl).1,(hh.2.2 j hl hl).2.1⟩
   ·have hq:=Cg hq
    rw [Bf,Bq (by omega) (by omega)] at hq
    refine ⟨⟨by omega,by omega,by omega⟩,_,Aj hl,?_⟩
    rw [show (Int.toNat 0)=0 from rfl,List.drop_zero,Int.toNat_natCast]
    refine ⟨_,if_pos (Awx hs j),⟨fun hc=>?_,fun hc=>?_⟩⟩
    ·have hc:decide (p[j]∈p.take j)=true:=hc
     rw [decide_eq_true_iff] at hc
     exact Ar fun hh=>(hh.2.2 j hl hl).2.2 hc
    ·have hc:decide (p[j]∈p.take j)=false:=hc
     rw [decide_eq_false_iff_not] at hc
     rw [Al (by omega)]
     exact hK hl _ rfl (Bd8 hl hR hq.1 hq.2 hc)
  ·have:j=p.length:=by omega
   subst this
   exact Gu ⟨by omega,by omega,hR⟩
theorem Ns:Sound Try.prog 169 Dv:=
 Sound.mkS Bi (Ad Kx (Ad Sq Ao)) mixed Try.func169 (by kernel_rfl) (by kernel_rfl) fun x h=>Apt x.1 h
theorem Apm (p:List Int) (h:short p):fnW tab (look [(108,As),(127,Iq)]) Dv Try.f170 (p,()) (fun (z:Bool)=>z=Es p):=by
 unfold short at h
 refine Eq.mp (Aqx p _) ⟨_,if_pos trivial,_,if_pos trivial,⟨fun hp=>?_,fun hp=>?_⟩⟩
 ·have hp:=Cc hp
  rw [Bf] at hp
  dsimp only at hp
  exact Ar fun hh=>hp ⟨by omega,by omega⟩
 ·have hp:=Cg hp
  rw [Bf] at hp
  dsimp only at hp
  refine Am p.length (fun v=>v.2.1) (fun j v=>v.1=(mask (p.take j):Int)∧ ∀x∈p.take j,0≤x∧x<p.length) rfl ⟨rfl,by simp⟩ ?_
  rintro j ⟨m,i,⟨⟩⟩ K hj hi ⟨hm,hR⟩ hK
  dsimp only at hi hm⊢
  subst hi hm
  refine Br.dec (fun hl=>?_) fun hl=>?_
  ·have hl:j<p.length:=by omega
   refine ⟨_,Aj hl,_,if_pos trivial,_,if_pos trivial,⟨fun hq=>?_,fun hq=>?_⟩⟩
   ·have hq:=Cc hq
    rw [Bf] at hq
    dsimp only at hq
    rw [Bq (by omega) (by omega)] at hq
    exact Ar fun hh=>hq ⟨(hh.2.2 j hl hl).1,(hh.2.2 j hl hl).2.1⟩
   ·have hq:=Cg hq
    rw [Bf] at hq
    dsimp only at hq
    rw [Bq (by omega) (by omega)] at hq
    refine ⟨by omega,?_⟩
    rw [Al (by omega)]
    have hb:mask (p.take j)<2^20:=Bde fun x hx=>by have:=hR x hx;omega
    refine hK hl _ rfl ⟨?_,?_⟩
    ·dsimp only
     rw [Bdg hb hq.1 (by omega),List.take_succ_eq_append_getElem hl,Az2]
    ·rw [List.take_succ_eq_append_getElem hl]
     intro x hx
     rcases List.mem_append.1 hx with hx|hx
     ·exact hR x hx
     ·rw [List.mem_singleton.1 hx];omega
  ·have:j=p.length:=by omega
   subst this
   rw [List.take_length] at hR⊢
   refine ⟨by omega,?_⟩
   have hx:(2:Nat)^p.length≤2^20:=Nat.pow_le_pow_right (by omega) (by omega)
   have hpos:0<(2:Nat)^p.length:=Nat.two_pow_pos _
   have e1:min (p.length:Int).toNat IntKind.i64.bits=p.length:=by show min (p.length:Int).toNat 64=_;omega
   have e2:(1:Int)*(2:Int)^p.length=((2^p.length:Nat):Int):=by rw [Int.one_mul];exact (Int.natCast_pow 2 _).symm
   rw [e1,e2,Bq (n:=((2^p.length:Nat):Int)) (by omega) (by omega),Bq (by omega) (by omega)]
   have hE:((mask p:Int)==((2^p.length:Nat):Int)-1)=decide (mask p=2^p.length-1):=by
    rw [Bool.eq_iff_iff,beq_iff_eq,decide_eq_true_iff]
    omega
   show ((mask p:Int)==((2^p.length:Nat):Int)-1)=Es p
   rw [hE]
   by_cases hf:mask p=2^p.length-1
   ·rw [decide_eq_true hf]
    have hn:=(Sy hR).1 ((Ana hR).1 hf)
    refine Gu ⟨by omega,by omega,fun j hj _=>?_⟩
    have:=hR _ (List.getElem_mem hj)
    exact ⟨this.1,by omega,hn j hj⟩
   ·rw [decide_eq_false hf]
    refine Ar fun hh=>hf ((Ana hR).2 ((Sy hR).2 fun j hj=>(hh.2.2 j hj hj).2.2))
theorem Ur:Sound Try.prog 170 Dv:=
 Sound.mkS Bi (Ad Is (Ad Rq Ao)) mixed Try.func170 (by kernel_rfl) (by kernel_rfl) fun x h=>Apm x.1 h
theorem Aps (n:Int) (g:List (List Int)) (h:Cx g):fnW tab (look [(122,As),(169,Dv)]) Iz Try.f148 (n,g,()) (fun (z:Bool)=>z=Oq n g):=by
 obtain ⟨h,h4⟩:=h
 refine Eq.mp (Ar2 n g _) ⟨_,if_pos trivial,⟨fun hp=>?_,fun hp=>?_⟩⟩
 ·have hp:=Cc hp
  rw [Bf] at hp
  exact Ar fun hh=>hp hh.1
 ·have hp:=Cg hp
  rw [Bf] at hp
  refine Br.dec (fun hg=>?_) fun hg=>?_
  ·exact Ar fun hh=>by have:=hh.2.1;omega
  ·refine Am g.length (fun v=>v.1) (fun j _=> ∀p∈g.take j,Dr n p=true) rfl (by simp) ?_
   rintro j ⟨i,⟨⟩⟩ K hj hi hR hK
   dsimp only at hi⊢
   subst hi
   refine Br.dec (fun hl=>?_) fun hl=>?_
   ·have hl:j<g.length:=by omega
    have hm:g[j]∈g:=List.getElem_mem hl
    refine ⟨_,Aj hl,⟨fun he=>?_,fun he=>?_⟩⟩
    ·simp only [bne_iff_ne,ne_eq] at he
     exact Ar fun hh=>he (Er.1 (hh.2.2 _ hm)).1
    ·simp only [bne_eq_false_iff_eq] at he
     refine ⟨_,Aj hl,_,if_pos (h4 _ hm),⟨fun hq=>?_,fun hq=>?_⟩⟩
     ·have hq:=Cc hq
      exact Ar fun hh=>hq (Er.1 (hh.2.2 _ hm)).2
     ·have hq:=Cg hq
      rw [Al (by omega)]
      refine hK hl _ rfl ?_
      rw [List.take_succ_eq_append_getElem hl]
      intro x hx
      rcases List.mem_append.1 hx with hx|hx
      ·exact hR x hx
      ·rw [List.mem_singleton.1 hx];exact Er.2 ⟨he,hq⟩
   ·have:j=g.length:=by omega
    subst this
    rw [List.take_length] at hR
    exact Gu ⟨hp,by omega,hR⟩
theorem Ag7:Sound Try.prog 148 Iz:=
 Sound.mkS Bi (Ad Kx (Ad Ns Ao)) mixed Try.func148 (by kernel_rfl) (by kernel_rfl) fun x h=>Aps x.1 x.2.1 h
theorem Bdj (p:List Int) (n:Int) (h:short p):fnW tab (look [(127,Iq),(170,Dv)]) Aap Try.f174 (p,n,()) (fun (z:Bool)=>z=!Dr n p):=by
 refine Eq.mp (Be6 p n _) ⟨_,if_pos trivial,⟨fun he=>?_,fun he=>⟨_,if_pos h,?_⟩⟩⟩
 ·simp only [bne_iff_ne,ne_eq] at he
  have:Dr n p=false:=Bd7.2 fun hh=>he hh.1
  rw [this];rfl
 ·simp only [bne_eq_false_iff_eq] at he
  show (!Es p)=_
  congr 1
  cases hp:Es p with
  |true=>exact Gu ⟨he,hp⟩
  |false=>exact Ar fun hh=>by rw [hh.2] at hp;cases hp
theorem Atz:Sound Try.prog 174 Aap:=
 Sound.mkS Bi (Ad Rq (Ad Ur Ao)) mixed Try.func174 (by kernel_rfl) (by kernel_rfl) fun x h=>Bdj x.1 x.2.1 h
theorem Oo {α:Type} (P:α→Bool): ∀(l:List α) (i:Int),0≤i→(0≤Cd P l i↔l.any P=true)
 | [],i,_=>by simp [Cd]
 |y::r,i,h=>by
  simp only [Cd,List.any_cons,Bool.or_eq_true]
  split
  ·rename_i hy;simp [hy,h]
  ·rename_i hy;rw [Oo P r (i+1) (by omega)];simp [hy]
theorem Bg3 (g:List (List Int)) (n:Int×Unit) (h:Cx g):fnW tab (look [(174,Aap)]) Anx Try.f181 (g,n,()) (fun (z:Int)=>z=Cd (fun p=>!Dr n.1 p) g 0):=by
 obtain ⟨h,h4⟩:=h
 refine Eq.mp (Bgn g n _) ?_
 refine Am g.length (fun v=>v.1) (fun j _=>Cd (fun p=>!Dr n.1 p) (g.drop j) j=Cd (fun p=>!Dr n.1 p) g 0) rfl (by simp) ?_
 rintro j ⟨i,⟨⟩⟩ K hj hi hR hK
 dsimp only at hi⊢
 subst hi
 refine Br.dec (fun hl=>?_) fun hl=>?_
 ·have hl:j<g.length:=by omega
  rw [List.drop_eq_getElem_cons hl] at hR
  simp only [Cd] at hR
  refine ⟨_,Aj hl,_,if_pos (h4 _ (List.getElem_mem hl)),⟨fun he=>?_,fun he=>?_⟩⟩
  ·have he:(!Dr n.1 g[j])=true:=he
   rw [if_pos he] at hR
   exact hR
  ·have he:(!Dr n.1 g[j])=false:=he
   rw [if_neg (by rw [he];decide)] at hR
   rw [Al (by omega)]
   exact hK hl _ rfl (by push_cast;exact hR)
 ·have:j=g.length:=by omega
  subst this
  rw [List.drop_length] at hR
  exact hR
theorem Ba1:Sound Try.prog 181 Anx:=
 Sound.mkS Bi (Ad Atz Ao) mixed Try.func181 (by kernel_rfl) (by kernel_rfl) fun x h=>Bg3 x.1 x.2.1 h
theorem Bfw (g:List (List Int)) (n:Int×Unit) (h:Cx g):fnW tab (look [(181,Anx)]) Anr Try.f173 (g,n,()) (fun (z:Bool)=>z=List.any g (fun p=>!Dr n.1 p)):=by
 refine Eq.mp (Bgg g n _) ⟨_,if_pos h,?_⟩
 rw [Bool.eq_iff_iff,decide_eq_true_iff]
 exact Oo _ g 0 (Int.le_refl 0)
theorem Azv:Sound Try.prog 173 Anr:=
 Sound.mkS Bi (Ad Ba1 Ao) mixed Try.func173 (by kernel_rfl) (by kernel_rfl) fun x h=>Bfw x.1 x.2.1 h
theorem Apl (n:Int) (g:List (List Int)) (h:Cx g):fnW tab (look [(108,As),(173,Anr)]) Iz Try.f157 (n,g,()) (fun (z:Bool)=>z=Oq n g):=by
 refine Eq.mp (Aqw n g _) ⟨_,if_pos trivial,⟨fun hp=>?_,fun hp=>?_⟩⟩
 ·have hp:Fz n 1 20=true:=hp
  rw [Bf] at hp
  refine Br.dec (fun hl=>⟨_,if_pos h,?_⟩) fun hl=>?_
  ·show (!List.any g (fun p=>!Dr n p))=Oq n g
   cases ha:List.any g (fun p=>!Dr n p) with
   |true=>
    obtain ⟨p,hp1,hp2⟩:=List.any_eq_true.1 ha
    exact Ar fun hh=>by rw [hh.2.2 p hp1] at hp2;cases hp2
   |false=>
    refine Gu ⟨hp,by omega,fun p hm=>?_⟩
    have:=List.any_eq_false.1 ha p hm
    simpa using this
  ·exact Ar fun hh=>by have:=hh.2.1;omega
 ·refine Ar fun hh=>?_
  have:Fz n 1 20=true:=Bf.2 hh.1
  have hp:Fz n 1 20=false:=hp
  rw [this] at hp;cases hp
theorem Ag3:Sound Try.prog 157 Iz:=
 Sound.mkS Bi (Ad Is (Ad Azv Ao)) mixed Try.func157 (by kernel_rfl) (by kernel_rfl) fun x h=>Apl x.1 x.2.1 h
theorem Gg {s:ByteArray} {k:Nat} (h:k<s.size):s[k]?=some s[k]:=getElem?_pos s k h
theorem Bbx (s:ByteArray) (i:Int) (h:0≤i∧i<s.size∧s.size≤4294967296):fnW tab (look []) Uo Try.f149 (s,i,()) (fun (z:Bool)=>z=Ae7 s i):=by
 obtain ⟨h1,h2,h3⟩:=h
 have hi:i.toNat<s.size:=by omega
 refine Eq.mp (Bcv s i _) ⟨h1,_,Gg hi,Br.dec (fun hq=>?_) fun hq=>⟨h1,_,Gg hi,Br.dec (fun hr=>?_) fun hr=>?_⟩⟩
 ·refine Ar fun ⟨c,hc,hc1,_⟩=>?_
  rw [Gg hi] at hc;cases hc;omega
 ·refine Ar fun ⟨c,hc,_,hc1,_⟩=>?_
  rw [Gg hi] at hc;cases hc;omega
 ·refine Am i.toNat (fun v=>v.1) (fun j _=> ∀k,k<j→s[k]?≠some s[i.toNat]) rfl (fun k hk=>absurd hk (Nat.not_lt_zero _)) ?_
  rintro j ⟨i',⟨⟩⟩ K hj hi' hR hK
  dsimp only at hi'⊢
  subst hi'
  refine Br.dec (fun hl=>?_) fun hl=>?_
  ·have hl:j<i.toNat:=by omega
   have hj:j<s.size:=by omega
   rw [Int.toNat_natCast]
   refine ⟨by omega,_,Gg hj,h1,_,Gg hi,⟨fun he=>?_,fun he=>?_⟩⟩
   ·simp only [beq_iff_eq,Int.natCast_inj] at he
    refine Ar fun ⟨c,hc,_,_,hc1⟩=>?_
    rw [Gg hi] at hc;cases hc
    exact hc1 j hl (by rw [Gg hj,UInt8.toNat_inj.1 he])
   ·simp only [beq_eq_false_iff_ne,ne_eq,Int.natCast_inj] at he
    rw [Al (by omega)]
    refine hK hl _ rfl fun k hk=>?_
    by_cases e:k=j
    ·subst e
     rw [Gg hj]
     exact fun e=>he (by rw [Option.some.inj e])
    ·exact hR k (by omega)
  ·have:j=i.toNat:=by omega
   subst this
   exact Gu ⟨_,Gg hi,by omega,by omega,hR⟩
theorem Aqf:Sound Try.prog 149 Uo:=
 Sound.mkS Bi Ao mixed Try.func149 (by kernel_rfl) (by kernel_rfl) fun x h=>Bbx x.1 x.2.1 h
theorem Aze (s:ByteArray) (h:s.size≤4294967296):fnW tab (look [(108,As)]) Qm Try.f158 (s,()) (fun (z:Bool)=>z=Uj s):=by
 refine Eq.mp (Baj s _) ?_
 refine Am s.size (fun v=>v.1) (fun j _=> ∀k,k<j→Aod s k) rfl (fun k hk=>absurd hk (Nat.not_lt_zero _)) ?_
 rintro j ⟨i,⟨⟩⟩ K hj hi hR hK
 dsimp only at hi⊢
 subst hi
 refine Br.dec (fun hl=>?_) fun hl=>?_
 ·have hl:j<s.size:=by omega
  rw [Int.toNat_natCast]
  have hb:=(s[j]).toNat_lt
  refine ⟨by omega,_,Gg hl,_,if_pos trivial,⟨fun hq=>?_,fun hq=>?_⟩⟩
  ·have hq:=Cc hq
   rw [Bf] at hq
   dsimp only at hq
   rw [Bq (by omega) (by omega)] at hq
   refine Ar fun hh=>?_
   obtain ⟨c,hc,hc1,hc2,_⟩:=hh.2 j hl
   rw [Gg hl] at hc;cases hc
   exact hq ⟨by omega,by omega⟩
  ·have hq:=Cg hq
   rw [Bf] at hq
   dsimp only at hq
   rw [Bq (by omega) (by omega)] at hq
   refine Am j (fun v=>v.1) (fun m _=> ∀k,k<m→s[k]?≠some s[j]) rfl (fun k hk=>absurd hk (Nat.not_lt_zero _)) ?_
   rintro m ⟨i',⟨⟩⟩ K' hm hi' hR' hK'
   dsimp only at hi'⊢
   subst hi'
   refine Br.dec (fun hl'=>?_) fun hl'=>?_
   ·have hl':m<j:=by omega
    have hm':m<s.size:=by omega
    rw [Int.toNat_natCast]
    refine ⟨by omega,_,Gg hm',by omega,_,Gg hl,⟨fun he=>?_,fun he=>?_⟩⟩
    ·simp only [beq_iff_eq,Int.natCast_inj] at he
     refine Ar fun hh=>?_
     obtain ⟨c,hc,_,_,hc1⟩:=hh.2 j hl
     rw [Gg hl] at hc;cases hc
     exact hc1 m hl' (by rw [Gg hm',UInt8.toNat_inj.1 he])
    ·simp only [beq_eq_false_iff_ne,ne_eq,Int.natCast_inj] at he
     rw [Al (by omega)]
     refine hK' hl' _ rfl fun k hk=>?_
     by_cases e:k=m
     ·subst e
      rw [Gg hm']
      exact fun e=>he (by rw [Option.some.inj e])
     ·exact hR' k (by omega)
   ·have:m=j:=by omega
    subst this
    rw [Al (by omega)]
    refine hK hl _ rfl fun k hk=>?_
    by_cases e:k=m
    ·subst e
     exact ⟨_,Gg hl,by omega,by omega,hR'⟩
    ·exact hR k (by omega)
 ·have:j=s.size:=by omega
  subst this
  refine ⟨_,if_pos trivial,?_⟩
  show Fz s.size 1 8=_
  cases hr:Fz s.size 1 8 with
  |true=>rw [Bf] at hr;exact Gu ⟨by omega,hR⟩
  |false=>refine Ar fun hh=>?_;rw [Bf.2 ⟨by omega,by omega⟩] at hr;cases hr
theorem Am2:Sound Try.prog 158 Qm:=
 Sound.mkS Bi (Ad Is Ao) mixed Try.func158 (by kernel_rfl) (by kernel_rfl) fun x h=>Aze x.1 h
theorem Ad1 {p:PP} (h:Ay p=true):1≤p.1∧p.1≤20∧1≤p.2.2.1.length∧p.2.2.1.length≤8:=by
 obtain ⟨h1,h2,h3⟩:=Er.1 h
 obtain ⟨h4,h5,_⟩:=Er.1 h1
 obtain ⟨h6,_⟩:=Er.1 h2
 omega
theorem Apu (p:PP) (h:Dk p):fnW tab (look [(148,Iz),(149,Uo)]) Dw Try.f99 (p,()) (fun (z:Bool)=>z=Ay p):=by
 obtain ⟨hn,hg⟩:=h
 refine Eq.mp (Ar4 p _) ⟨fun h0=>?_,fun h0=>⟨fun h1=>?_,fun h1=>⟨_,if_pos hg,⟨fun h2=>?_,fun h2=>?_⟩⟩⟩⟩
 ·simp only [beq_iff_eq] at h0
  exact Ar fun hh=>by obtain ⟨_,h2,h3⟩:=hh;have:=(Er.1 h2).1;omega
 ·simp only [bne_iff_ne,ne_eq,Int.natCast_inj] at h1
  exact Ar fun hh=>h1 hh.2.2
 ·have h2:=Cc h2
  exact Ar fun hh=>h2 hh.1
 ·simp only [beq_eq_false_iff_ne,ne_eq] at h0
  simp only [bne_eq_false_iff_eq,Int.natCast_inj] at h1
  have h2:Oq p.1 p.2.2.1=true:=Cg h2
  refine Am p.2.1.size (fun v=>v.1) (fun j v=>v.2=(p.1,p.2.1,p.2.2.1,())∧ ∀k,k<j→Aod p.2.1 k) rfl ⟨rfl,fun k hk=>absurd hk (Nat.not_lt_zero _)⟩ ?_
  rintro j ⟨i,v⟩ K hj hi ⟨hv,hR⟩ hK
  dsimp only at hi hv⊢
  subst hi hv
  dsimp only
  refine Br.dec (fun hl=>?_) fun hl=>?_
  ·have hl:j<p.2.1.size:=by omega
   refine ⟨_,if_pos ⟨Int.natCast_nonneg j,Int.ofNat_lt.2 hl,hn⟩,⟨fun hq=>?_,fun hq=>?_⟩⟩
   ·have hq: ¬Ae7 p.2.1 j=true:=Cc hq
    refine Ar fun hh=>hq (Er.2 ?_)
    rw [Int.toNat_natCast]
    exact (Er.1 hh.2.1).2 j hl
   ·have hq:Ae7 p.2.1 j=true:=Cg hq
    have hq:=Er.1 hq
    rw [Int.toNat_natCast] at hq
    rw [Al (by omega)]
    refine hK hl _ rfl ⟨rfl,fun k hk=>?_⟩
    by_cases e:k=j
    ·subst e;exact hq
    ·exact hR k (by omega)
  ·have:j=p.2.1.size:=by omega
   subst this
   have:=(Er.1 h2).2.1
   exact Gu ⟨h2,Er.2 ⟨⟨by omega,by omega⟩,hR⟩,h1⟩
theorem Nt:Sound Try.prog 99 Dw:=
 Sound.mkS Bi (Ad Ag7 (Ad Aqf Ao)) mixed Try.func99 (by kernel_rfl) (by kernel_rfl) fun x h=>Apu x.1 h
theorem Apn (p:PP) (h:Dk p):fnW tab (look [(157,Iz),(158,Qm)]) Dw Try.f124 (p,()) (fun (z:Bool)=>z=Ay p):=by
 obtain ⟨hn,hg⟩:=h
 refine Eq.mp (Aqy p _) ⟨_,if_pos hg,⟨fun h1=>⟨_,if_pos hn,⟨fun h2=>?_,fun h2=>?_⟩⟩,fun h1=>?_⟩⟩
 ·have h1:Oq p.1 p.2.2.1=true:=h1
  have h2:Uj p.2.1=true:=h2
  by_cases e:p.2.1.size=p.2.2.1.length
  ·rw [e,beq_self_eq_true];exact Gu ⟨h1,h2,e⟩
  ·rw [show ((p.2.1.size:Int)==(p.2.2.1.length:Int))=false from beq_eq_false_iff_ne.2 (by omega)];exact Ar fun hh=>e hh.2.2
 ·have h2:Uj p.2.1=false:=h2
  exact Ar fun hh=>by rw [hh.2.1] at h2;cases h2
 ·have h1:Oq p.1 p.2.2.1=false:=h1
  exact Ar fun hh=>by rw [hh.1] at h1;cases h1
theorem Us:Sound Try.prog 124 Dw:=
 Sound.mkS Bi (Ad Ag3 (Ad Am2 Ao)) mixed Try.func124 (by kernel_rfl) (by kernel_rfl) fun x h=>Apn x.1 h
theorem Bg8 (p:PP) (room:Int) (h:Dk p∧roomy room):fnW tab (look [(33,Ti)]) Ao3 Try.f15 (p,room,()) (fun (z:Int)=>z=Ku p room):=by
 obtain ⟨⟨h1,h2⟩,h3,h4⟩:=h
 refine Eq.mp (Bgs p room _) ?_
 rw [Bq (by omega) (by omega)]
 refine Br.dec (fun hn=>?_) fun hn=>⟨_,if_pos ⟨h2,by dsimp only;omega,by dsimp only;omega⟩,Br.dec (fun hm=>?_) fun hm=>?_⟩
 ·simp only [Ku,if_pos hn]
 ·exact ((if_neg hn).trans (if_pos hm)).symm
 ·exact ((if_neg hn).trans (if_neg hm)).symm
theorem Ba6:Sound Try.prog 15 Ao3:=
 Sound.mkS Bi (Ad Akm Ao) mixed Try.func15 (by kernel_rfl) (by kernel_rfl) fun x h=>Bg8 x.1 x.2.1 h
theorem Bga (p:PP) (h:Dk p):fnW tab (look [(35,Mo)]) Ah8 Try.f17 (p,()) (fun (z:PP)=>z=p):=Eq.mp (Bgu p _) ⟨_,if_pos h.2,rfl⟩
theorem Ba7:Sound Try.prog 17 Ah8:=
 Sound.mkS Bi (Ad Akn Ao) mixed Try.func17 (by kernel_rfl) (by kernel_rfl) fun x h=>Bga x.1 h
theorem Arp {a b:ByteArray} :(a.toList==b.toList)=decide (a=b):=by
 rw [Bool.eq_iff_iff,beq_iff_eq,decide_eq_true_iff,ByteArray.toList_eq,ByteArray.toList_eq]
 exact ⟨fun h=>ByteArray.ext (Array.toList_inj.1 h),fun h=>by rw [h]⟩
theorem Bg1 (a b:PP) (h:Dk a):fnW tab (look [(37,Th)]) Anv Try.f20 (a,b,()) (fun (z:Bool)=>z=Agw a b):=by
 refine Eq.mp (Bgl a b _) ⟨fun h1=>?_,fun h1=>⟨fun h2=>?_,fun h2=>⟨_,if_pos h.2,⟨fun h3=>?_,fun h3=>?_⟩⟩⟩⟩
 ·simp only [bne_iff_ne,ne_eq] at h1
  unfold Agw
  rw [decide_eq_false h1];rfl
 ·rw [Arp] at h2
  unfold Agw
  cases hd:decide (a.2.1=b.2.1)<;>simp_all
 ·have h3:(!Acl a.2.2.1 b.2.2.1)=true:=h3
  simp only [Acl,Bool.not_eq_true'] at h3
  unfold Agw
  rw [h3];simp
 ·have h3:(!Acl a.2.2.1 b.2.2.1)=false:=h3
  rw [Arp] at h2
  simp only [Acl] at h3
  simp only [bne_eq_false_iff_eq] at h1
  unfold Agw
  simp_all
theorem Azz:Sound Try.prog 20 Anv:=
 Sound.mkS Bi (Ad Ake Ao) mixed Try.func20 (by kernel_rfl) (by kernel_rfl) fun x h=>Bg1 x.1 x.2.1 h
theorem Avx (p:PP):Agw p p=true:=by simp [Agw]
end Go.Proofs.Ytebabhocakedaaa

namespace Go.Proofs.Ytebabhocakedaaa
open Go.RowKit
abbrev tM1:Ty:= .clo 125 (.pair (.ptr tL) .unit)
noncomputable abbrev Aar:Spec:=mkS (.pair tI (.pair (.ptr tL) .unit)) .bool false true (fun x=>short x.2.1) (fun x=>!Bg x.2.1 x.1)
noncomputable abbrev Anz:Spec:=mkS (.pair tL (.pair tM1 .unit)) tI false true (fun x=>short x.1∧short x.2.1.1) (fun x=>Cd (fun y=>!Bg x.2.1.1 y) x.1 0)
noncomputable abbrev Ans:Spec:=mkS (.pair tL (.pair tM1 .unit)) .bool false true (fun x=>short x.1∧short x.2.1.1) (fun x=>List.any x.1 (fun y=>!Bg x.2.1.1 y))
noncomputable abbrev Aao:Spec:=mkS (.pair tL (.pair tL .unit)) .bool false true (fun x=>short x.1∧short x.2.1) (fun x=>List.all x.2.1 (fun y=>Bg x.1 y))
def Aux (n:Int) (g:List (List Int)) (j:Nat):Prop:= ∀h:j<g.length,Em n g[j]=true∧(∀h1:0<j,g[j-1].length<g[j].length∧ ∀x∈g[j-1],x∈g[j])
noncomputable def Ik (p:PP) (g:List (List Int)):Bool:=dec (Ay p=true∧(1≤g.length∧g.length≤5)∧(∀j,j<g.length→Aux p.1 g j)∧ ∃x,g[g.length-1]?=some x∧(x.length:Int)=p.1)
noncomputable abbrev Fo:Spec:=mkS (.pair Ct (.pair tLL .unit)) .bool false true (fun x=>Dk x.1∧Cx x.2.1) (fun x=>Ik x.1 x.2.1)
noncomputable abbrev Up:Spec:=mkS (.pair tI (.pair tL .unit)) .bool false true (fun x=>short x.2.1) (fun x=>Dr x.1 x.2.1)
noncomputable abbrev No:Spec:=mkS (.pair Ct (.pair tL .unit)) .bool false true (fun x=>short x.2.1) (fun x=>Dr x.1.1 x.2.1)
noncomputable abbrev Qo:Spec:=mkS (.pair Ct (.pair tL .unit)) .bool false true (fun x=>Dk x.1∧short x.2.1) (fun x=>Ay x.1&&Dr x.1.1 x.2.1)
theorem Be9 (x:Int) (xs:List Int) (P:Bool→Prop):(∃(y3:Bool),Cj.fn (xs,x,())=some y3∧P !y3)=fnW tab (look [(126,Cj)]) Aar Try.f125 (x,xs,()) P:=by kernel_rfl
theorem Bgo (xs:List Int) (c:List Int×Unit) (P:Int→Prop):(Bv
 (fun (v3:Int×PUnit) (k4:Int×PUnit→Prop)=>
  Br (decide (v3.1<(↑xs.length:Int)))
   (∃(y5:Int),idx xs v3.1=some y5∧ ∃(y6:Bool),Aar.fn (y5,c.1,())=some y6∧Br y6 (P v3.1) (k4 (IntKind.i64.wrap (v3.1+(1:Int)),()))) (P (-1:Int)))
 ((0:Int),PUnit.unit))=fnW tab (look [(125,Aar)]) Anz Try.f144 (xs,c,()) P:=by kernel_rfl
theorem Bgh (xs:List Int) (c:List Int×Unit) (P:Bool→Prop):(∃(y3:Int),Anz.fn (xs,c,())=some y3∧P (decide (y3≥(0:Int))))=fnW tab (look [(144,Anz)]) Ans Try.f103 (xs,c,()) P:=by kernel_rfl
theorem Be5 (xs ys:List Int) (P:Bool→Prop):(Bv
 (fun (v3:Int×PUnit) (k4:Int×PUnit→Prop)=>
  Br (decide (v3.1<(↑ys.length:Int)))
   (∃(y5:Int),idx ys v3.1=some y5∧ ∃(y6:Bool),Cj.fn (xs,y5,())=some y6∧Br (!y6) (P false) (k4 (IntKind.i64.wrap (v3.1+(1:Int)),()))) (P true))
 ((0:Int),PUnit.unit))=fnW tab (look [(152,Cj)]) Aao Try.f123 (xs,ys,()) P:=by kernel_rfl
theorem Al1 (p:Int×ByteArray×List (List Int)×Unit) (g:List (List Int)) (P:Bool→Prop):(∃(y3:Bool),
 Dw.fn ((p.1,p.2.1,p.2.2.1,()),())=some y3∧
  Br (!y3) (P false)
   (∃(y4:Bool),
    As.fn ((↑g.length:Int),(1:Int),(5:Int),())=some y4∧
     Br (!y4) (P false)
      (Bv
       (fun (v5:Int×Int×ByteArray×List (List Int)×PUnit) (k6:Int×Int×ByteArray×List (List Int)×PUnit→Prop)=>
        Br (decide (v5.1<(↑g.length:Int)))
         (∃(y7:List Int),
          idx g v5.1=some y7∧
           ∃(y8:Bool),
            En.fn (v5.2.1,y7,())=some y8∧
             Br (!y8) (P false)
              (Br (decide (v5.1>(0:Int)))
               (∃(y9:List Int),
                idx g v5.1=some y9∧
                 ∃(y10:List Int),
                  idx g (IntKind.i64.wrap (v5.1-(1:Int)))=some y10∧
                   Br (decide ((↑y9.length:Int)≤(↑y10.length:Int))) (P false)
                    (∃(y11:List Int),
                     idx g v5.1=some y11∧
                      ∃(y12:List Int),
                       idx g (IntKind.i64.wrap (v5.1-(1:Int)))=some y12∧
                        ∃(y13:Bool),
                         Aao.fn (y11,y12,())=some y13∧Br (!y13) (P false) (k6 (IntKind.i64.wrap (v5.1+(1:Int)),v5.2.1,v5.2.2.1,v5.2.2.2.1,()))))
               (k6 (IntKind.i64.wrap (v5.1+(1:Int)),v5.2.1,v5.2.2.1,v5.2.2.2.1,()))))
         (∃(y7:List Int),idx g (IntKind.i64.wrap ((↑g.length:Int)-(1:Int)))=some y7∧P ((↑y7.length:Int)==v5.2.1)))
       ((0:Int),p.1,p.2.1,p.2.2.1,PUnit.unit))))=fnW tab (look [(99,Dw),(122,As),(100,En),(123,Aao)]) Fo Try.f77 (p,g,()) P:=by kernel_rfl
theorem Akz (p:Int×ByteArray×List (List Int)×Unit) (g:List (List Int)) (P:Bool→Prop):(∃(y3:Bool),
 Dw.fn ((p.1,p.2.1,p.2.2.1,()),())=some y3∧
  Br (!y3) (P false)
   (∃(y4:Int),
    Ld.fn (g,())=some y4∧
     ∃(y5:Bool),
      As.fn (y4,(1:Int),(5:Int),())=some y5∧
       Br (!y5) (P false)
        (Bv
         (fun (v6:Int×Int×ByteArray×List (List Int)×PUnit) (k7:Int×Int×ByteArray×List (List Int)×PUnit→Prop)=>
          Br (decide (v6.1<(↑g.length:Int)))
           (∃(y8:List Int),
            idx g v6.1=some y8∧
             ∃(y9:Bool),
              En.fn (v6.2.1,y8,())=some y9∧
               Br (!y9) (P false)
                (Br (decide (v6.1>(0:Int)))
                 (∃(y10:List Int),
                  idx g (IntKind.i64.wrap (v6.1-(1:Int)))=some y10∧
                   Br (decide ((↑y10.length:Int)≥(↑y8.length:Int))) (P false)
                    (∃(y11:List Int),
                     idx g (IntKind.i64.wrap (v6.1-(1:Int)))=some y11∧
                      ∃(y12:Bool),
                       Ans.fn (y11,(y8,()),())=some y12∧Br y12 (P false) (k7 (IntKind.i64.wrap (v6.1+(1:Int)),v6.2.1,v6.2.2.1,v6.2.2.2.1,()))))
                 (k7 (IntKind.i64.wrap (v6.1+(1:Int)),v6.2.1,v6.2.2.1,v6.2.2.2.1,()))))
           (∃(y8:List Int),idx g (IntKind.i64.wrap ((↑g.length:Int)-(1:Int)))=some y8∧ ∃(y9:Int),Iq.fn (y8,())=some y9∧P (y9==v6.2.1)))
         ((0:Int),p.1,p.2.1,p.2.2.1,PUnit.unit))))=fnW tab (look [(124,Dw),(108,As),(67,Ld),(55,En),(103,Ans),(127,Iq)]) Fo Try.f78 (p,g,()) P:=by kernel_rfl
theorem Bcw (n:Int) (s:List Int) (P:Bool→Prop):(Br ((↑s.length:Int)==n) (∃(y3:Bool),Dv.fn (s,())=some y3∧P y3) (P false))=fnW tab (look [(169,Dv)]) Up Try.f156 (n,s,()) P:=by kernel_rfl
theorem Al0 (p:Int×ByteArray×List (List Int)×Unit) (s:List Int) (P:Bool→Prop):(∃(y3:Int),Iq.fn (s,())=some y3∧Br (y3==p.1) (∃(y4:Bool),Dv.fn (s,())=some y4∧P y4) (P false))=fnW tab (look [(127,Iq),(170,Dv)]) No Try.f150 (p,s,()) P:=by kernel_rfl
theorem Amg (p:Int×ByteArray×List (List Int)×Unit) (s:List Int) (P:Bool→Prop):(∃(y3:Bool),Dw.fn ((p.1,p.2.1,p.2.2.1,()),())=some y3∧Br y3 (∃(y4:Bool),Up.fn (p.1,s,())=some y4∧P y4) (P false))=fnW tab (look [(99,Dw),(156,Up)]) Qo Try.f118 (p,s,()) P:=by kernel_rfl
theorem Bdm (x:Int) (xs:List Int) (h:short xs):fnW tab (look [(126,Cj)]) Aar Try.f125 (x,xs,()) (fun (z:Bool)=>z=!Bg xs x):=Eq.mp (Be9 x xs _) ⟨_,if_pos h,rfl⟩
theorem Au1:Sound Try.prog 125 Aar:=
 Sound.mkS Bi (Ad Akd Ao) mixed Try.func125 (by kernel_rfl) (by kernel_rfl) fun x h=>Bdm x.1 x.2.1 h
theorem Bg4 (xs:List Int) (c:List Int×Unit) (h:short xs∧short c.1):fnW tab (look [(125,Aar)]) Anz Try.f144 (xs,c,()) (fun (z:Int)=>z=Cd (fun y=>!Bg c.1 y) xs 0):=by
 obtain ⟨h,h4⟩:=h
 unfold short at h
 refine Eq.mp (Bgo xs c _) ?_
 refine Am xs.length (fun v=>v.1) (fun j _=>Cd (fun y=>!Bg c.1 y) (xs.drop j) j=Cd (fun y=>!Bg c.1 y) xs 0) rfl (by simp) ?_
 rintro j ⟨i,⟨⟩⟩ K hj hi hR hK
 dsimp only at hi⊢
 subst hi
 refine Br.dec (fun hl=>?_) fun hl=>?_
 ·have hl:j<xs.length:=by omega
  rw [List.drop_eq_getElem_cons hl] at hR
  simp only [Cd] at hR
  refine ⟨_,Aj hl,_,if_pos h4,⟨fun he=>?_,fun he=>?_⟩⟩
  ·have he:(!Bg c.1 xs[j])=true:=he
   rw [if_pos he] at hR
   exact hR
  ·have he:(!Bg c.1 xs[j])=false:=he
   rw [if_neg (by rw [he];decide)] at hR
   rw [Al (by omega)]
   exact hK hl _ rfl (by push_cast;exact hR)
 ·have:j=xs.length:=by omega
  subst this
  rw [List.drop_length] at hR
  exact hR
theorem Ba2:Sound Try.prog 144 Anz:=
 Sound.mkS Bi (Ad Au1 Ao) mixed Try.func144 (by kernel_rfl) (by kernel_rfl) fun x h=>Bg4 x.1 x.2.1 h
theorem Bfx (xs:List Int) (c:List Int×Unit) (h:short xs∧short c.1):fnW tab (look [(144,Anz)]) Ans Try.f103 (xs,c,()) (fun (z:Bool)=>z=List.any xs (fun y=>!Bg c.1 y)):=by
 refine Eq.mp (Bgh xs c _) ⟨_,if_pos h,?_⟩
 rw [Bool.eq_iff_iff,decide_eq_true_iff]
 exact Oo _ xs 0 (Int.le_refl 0)
theorem Azw:Sound Try.prog 103 Ans:=
 Sound.mkS Bi (Ad Ba2 Ao) mixed Try.func103 (by kernel_rfl) (by kernel_rfl) fun x h=>Bfx x.1 x.2.1 h
theorem Bdi (xs ys:List Int) (h:short xs∧short ys):fnW tab (look [(152,Cj)]) Aao Try.f123 (xs,ys,()) (fun (z:Bool)=>z=List.all ys (fun y=>Bg xs y)):=by
 obtain ⟨h4,h⟩:=h
 unfold short at h
 refine Eq.mp (Be5 xs ys _) ?_
 refine Am ys.length (fun v=>v.1) (fun j _=> ∀y∈ys.take j,Bg xs y=true) rfl (by simp) ?_
 rintro j ⟨i,⟨⟩⟩ K hj hi hR hK
 dsimp only at hi⊢
 subst hi
 refine Br.dec (fun hl=>?_) fun hl=>?_
 ·have hl:j<ys.length:=by omega
  refine ⟨_,Aj hl,_,if_pos h4,⟨fun he=>?_,fun he=>?_⟩⟩
  ·have he: ¬Bg xs ys[j]=true:=Cc he
   exact (List.all_eq_false.2 ⟨_,List.getElem_mem hl,he⟩).symm
  ·have he:Bg xs ys[j]=true:=Cg he
   rw [Al (by omega)]
   refine hK hl _ rfl ?_
   rw [List.take_succ_eq_append_getElem hl]
   intro x hx
   rcases List.mem_append.1 hx with hx|hx
   ·exact hR x hx
   ·rw [List.mem_singleton.1 hx];exact he
 ·have:j=ys.length:=by omega
  subst this
  rw [List.take_length] at hR
  exact (List.all_eq_true.2 hR).symm
theorem Aty:Sound Try.prog 123 Aao:=
 Sound.mkS Bi (Ad Sq Ao) mixed Try.func123 (by kernel_rfl) (by kernel_rfl) fun x h=>Bdi x.1 x.2.1 h
theorem Axp {a b:Int} {P:Prop} (h:P↔a=b):(a==b)=dec P:=by
 by_cases e:a=b
 ·rw [beq_iff_eq.2 e];exact Gu (h.2 e)
 ·rw [beq_eq_false_iff_ne.2 e];exact Ar fun hp=>e (h.1 hp)
theorem Aju (p:PP) (g:List (List Int)) (h:Dk p∧Cx g):fnW tab (look [(99,Dw),(122,As),(100,En),(123,Aao)]) Fo Try.f77 (p,g,()) (fun (z:Bool)=>z=Ik p g):=by
 obtain ⟨hp,hg,h4⟩:=h
 refine Eq.mp (Al1 p g _) ⟨_,if_pos hp,⟨fun h1=>?_,fun h1=>⟨_,if_pos trivial,⟨fun h2=>?_,fun h2=>?_⟩⟩⟩⟩
 ·have h1:=Cc h1
  exact Ar fun hh=>h1 hh.1
 ·have h2:=Cc h2
  rw [Bf] at h2
  dsimp only at h2
  exact Ar fun hh=>h2 (by have:=hh.2.1;omega)
 ·have h1:Ay p=true:=Cg h1
  have h2:=Cg h2
  rw [Bf] at h2
  dsimp only at h2
  have hv:=Ad1 h1
  refine Am g.length (fun v=>v.1) (fun j v=>v.2=(p.1,p.2.1,p.2.2.1,())∧ ∀k,k<j→Aux p.1 g k) rfl ⟨rfl,fun k hk=>absurd hk (Nat.not_lt_zero _)⟩ ?_
  rintro j ⟨i,v⟩ K hj hi ⟨hv',hR⟩ hK
  dsimp only at hi hv'⊢
  subst hi hv'
  dsimp only
  refine Br.dec (fun hl=>?_) fun hl=>?_
  ·have hl:j<g.length:=by omega
   have hm:=h4 _ (List.getElem_mem hl)
   refine ⟨_,Aj hl,_,if_pos ⟨⟨by dsimp only;omega,by dsimp only;omega⟩,hm⟩,⟨fun hq=>?_,fun hq=>?_⟩⟩
   ·have hq: ¬Em p.1 g[j]=true:=Cc hq
    exact Ar fun hh=>hq (hh.2.2.1 j hl hl).1
   ·have hq:Em p.1 g[j]=true:=Cg hq
    refine Br.dec (fun h0=>?_) fun h0=>?_
    ·have h0:0<j:=by omega
     rw [Bq (by omega) (by omega),show (j:Int)-1=((j-1:Nat):Int) by omega]
     have hm':=h4 _ (List.getElem_mem (show j-1<g.length by omega))
     refine ⟨_,Aj hl,_,Aj (by omega),Br.dec (fun hc=>?_) fun hc=>⟨_,Aj hl,_,Aj (by omega),_,if_pos ⟨hm,hm'⟩,⟨fun ha=>?_,fun ha=>?_⟩⟩⟩
     ·exact Ar fun hh=>by have:=((hh.2.2.1 j hl hl).2 h0).1;omega
     ·have ha: ¬List.all g[j-1] (fun y=>Bg g[j] y)=true:=Cc ha
      exact Ar fun hh=>ha (List.all_eq_true.2 fun y hy=>decide_eq_true (((hh.2.2.1 j hl hl).2 h0).2 y hy))
     ·have ha:List.all g[j-1] (fun y=>Bg g[j] y)=true:=Cg ha
      rw [Al (by omega)]
      refine hK hl _ rfl ⟨rfl,fun k hk=>?_⟩
      by_cases e:k=j
      ·subst e
       exact fun _=>⟨hq,fun _=>⟨by omega,fun y hy=>of_decide_eq_true (List.all_eq_true.1 ha y hy)⟩⟩
      ·exact hR k (by omega)
    ·rw [Al (by omega)]
     refine hK hl _ rfl ⟨rfl,fun k hk=>?_⟩
     by_cases e:k=j
     ·subst e
      exact fun _=>⟨hq,fun h=>by omega⟩
     ·exact hR k (by omega)
  ·have:j=g.length:=by omega
   subst this
   rw [Bq (by omega) (by omega),show (g.length:Int)-1=((g.length-1:Nat):Int) by omega]
   refine ⟨_,Aj (by omega),Axp ?_⟩
   constructor
   ·rintro ⟨_,_,_,x,hx,hn⟩
    rw [List.getElem?_eq_getElem (by omega)] at hx
    rw [Option.some.inj hx];exact hn
   ·intro hn
    exact ⟨h1,by omega,hR,_,List.getElem?_eq_getElem (by omega),hn⟩
theorem Acz:Sound Try.prog 77 Fo:=
 Sound.mkS Bi (Ad Nt (Ad Kx (Ad Aeo (Ad Aty Ao)))) mixed Try.func77 (by kernel_rfl) (by kernel_rfl) fun x h=>Aju x.1 x.2.1 h
theorem Ajs (p:PP) (g:List (List Int)) (h:Dk p∧Cx g):fnW tab (look [(124,Dw),(108,As),(67,Ld),(55,En),(103,Ans),(127,Iq)]) Fo Try.f78 (p,g,()) (fun (z:Bool)=>z=Ik p g):=by
 obtain ⟨hp,hg,h4⟩:=h
 refine Eq.mp (Akz p g _) ⟨_,if_pos hp,⟨fun h1=>?_,fun h1=>⟨_,if_pos trivial,_,if_pos trivial,⟨fun h2=>?_,fun h2=>?_⟩⟩⟩⟩
 ·have h1:=Cc h1
  exact Ar fun hh=>h1 hh.1
 ·have h2:=Cc h2
  rw [Bf] at h2
  dsimp only at h2
  exact Ar fun hh=>h2 (by have:=hh.2.1;omega)
 ·have h1:Ay p=true:=Cg h1
  have h2:=Cg h2
  rw [Bf] at h2
  dsimp only at h2
  have hv:=Ad1 h1
  refine Am g.length (fun v=>v.1) (fun j v=>v.2=(p.1,p.2.1,p.2.2.1,())∧ ∀k,k<j→Aux p.1 g k) rfl ⟨rfl,fun k hk=>absurd hk (Nat.not_lt_zero _)⟩ ?_
  rintro j ⟨i,v⟩ K hj hi ⟨hv',hR⟩ hK
  dsimp only at hi hv'⊢
  subst hi hv'
  dsimp only
  refine Br.dec (fun hl=>?_) fun hl=>?_
  ·have hl:j<g.length:=by omega
   have hm:=h4 _ (List.getElem_mem hl)
   refine ⟨_,Aj hl,_,if_pos ⟨⟨by dsimp only;omega,by dsimp only;omega⟩,hm⟩,⟨fun hq=>?_,fun hq=>?_⟩⟩
   ·have hq: ¬Em p.1 g[j]=true:=Cc hq
    exact Ar fun hh=>hq (hh.2.2.1 j hl hl).1
   ·have hq:Em p.1 g[j]=true:=Cg hq
    refine Br.dec (fun h0=>?_) fun h0=>?_
    ·have h0:0<j:=by omega
     rw [Bq (by omega) (by omega),show (j:Int)-1=((j-1:Nat):Int) by omega]
     have hm':=h4 _ (List.getElem_mem (show j-1<g.length by omega))
     refine ⟨_,Aj (by omega),Br.dec (fun hc=>?_) fun hc=>⟨_,Aj (by omega),_,if_pos ⟨hm',hm⟩,⟨fun ha=>?_,fun ha=>?_⟩⟩⟩
     ·exact Ar fun hh=>by have:=((hh.2.2.1 j hl hl).2 h0).1;omega
     ·have ha:List.any g[j-1] (fun y=>!Bg g[j] y)=true:=ha
      obtain ⟨y,hy,hn⟩:=List.any_eq_true.1 ha
      refine Ar fun hh=>?_
      have:=decide_eq_true (((hh.2.2.1 j hl hl).2 h0).2 y hy)
      have hn:(!decide (y∈g[j]))=true:=hn
      rw [this] at hn;cases hn
     ·have ha:List.any g[j-1] (fun y=>!Bg g[j] y)=false:=ha
      rw [Al (by omega)]
      refine hK hl _ rfl ⟨rfl,fun k hk=>?_⟩
      by_cases e:k=j
      ·subst e
       refine fun _=>⟨hq,fun _=>⟨by omega,fun y hy=>?_⟩⟩
       have hn:=List.any_eq_false.1 ha y hy
       have hn: ¬(!decide (y∈g[k]))=true:=hn
       simpa using hn
      ·exact hR k (by omega)
    ·rw [Al (by omega)]
     refine hK hl _ rfl ⟨rfl,fun k hk=>?_⟩
     by_cases e:k=j
     ·subst e
      exact fun _=>⟨hq,fun h=>by omega⟩
     ·exact hR k (by omega)
  ·have:j=g.length:=by omega
   subst this
   rw [Bq (by omega) (by omega),show (g.length:Int)-1=((g.length-1:Nat):Int) by omega]
   refine ⟨_,Aj (by omega),_,if_pos trivial,Axp ?_⟩
   constructor
   ·rintro ⟨_,_,_,x,hx,hn⟩
    rw [List.getElem?_eq_getElem (by omega)] at hx
    rw [Option.some.inj hx];exact hn
   ·intro hn
    exact ⟨h1,by omega,hR,_,List.getElem?_eq_getElem (by omega),hn⟩
theorem Acx:Sound Try.prog 78 Fo:=
 Sound.mkS Bi (Ad Us (Ad Is (Ad Zt (Ad Ahp (Ad Azw (Ad Rq Ao)))))) mixed Try.func78 (by kernel_rfl) (by kernel_rfl) fun x h=>Ajs x.1 x.2.1 h
theorem Bby (n:Int) (s:List Int) (h:short s):fnW tab (look [(169,Dv)]) Up Try.f156 (n,s,()) (fun (z:Bool)=>z=Dr n s):=by
 refine Eq.mp (Bcw n s _) ⟨fun he=>⟨_,if_pos h,?_⟩,fun he=>?_⟩
 ·simp only [beq_iff_eq] at he
  show Es s=_
  cases hp:Es s with
  |true=>exact Gu ⟨he,hp⟩
  |false=>exact Ar fun hh=>by rw [hh.2] at hp;cases hp
 ·simp only [beq_eq_false_iff_ne,ne_eq] at he
  exact Ar fun hh=>he hh.1
theorem Aqg:Sound Try.prog 156 Up:=
 Sound.mkS Bi (Ad Ns Ao) mixed Try.func156 (by kernel_rfl) (by kernel_rfl) fun x h=>Bby x.1 x.2.1 h
theorem Ajt (p:PP) (s:List Int) (h:short s):fnW tab (look [(127,Iq),(170,Dv)]) No Try.f150 (p,s,()) (fun (z:Bool)=>z=Dr p.1 s):=by
 refine Eq.mp (Al0 p s _) ⟨_,if_pos trivial,⟨fun he=>⟨_,if_pos h,?_⟩,fun he=>?_⟩⟩
 ·simp only [beq_iff_eq] at he
  show Es s=_
  cases hp:Es s with
  |true=>exact Gu ⟨he,hp⟩
  |false=>exact Ar fun hh=>by rw [hh.2] at hp;cases hp
 ·simp only [beq_eq_false_iff_ne,ne_eq] at he
  exact Ar fun hh=>he hh.1
theorem Acy:Sound Try.prog 150 No:=
 Sound.mkS Bi (Ad Rq (Ad Ur Ao)) mixed Try.func150 (by kernel_rfl) (by kernel_rfl) fun x h=>Ajt x.1 x.2.1 h
theorem Alo (p:PP) (s:List Int) (h:Dk p∧short s):fnW tab (look [(99,Dw),(156,Up)]) Qo Try.f118 (p,s,()) (fun (z:Bool)=>z=(Ay p&&Dr p.1 s)):=by
 refine Eq.mp (Amg p s _) ⟨_,if_pos h.1,⟨fun he=>⟨_,if_pos h.2,?_⟩,fun he=>?_⟩⟩
 ·have he:Ay p=true:=he
  rw [he];rfl
 ·have he:Ay p=false:=he
  rw [he];rfl
theorem Aer:Sound Try.prog 118 Qo:=
 Sound.mkS Bi (Ad Nt (Ad Aqg Ao)) mixed Try.func118 (by kernel_rfl) (by kernel_rfl) fun x h=>Alo x.1 x.2.1 h
end Go.Proofs.Ytebabhocakedaaa

namespace Go.Proofs.Ytebabhocakedaaa
open Go.RowKit
def Gk (xs:List Int) (i:Int):Int:=xs.getD i.toNat 0
def Aa (p q:List Int):List Int:=p.map (Gk q)
def Sb (f:Nat→Nat) (g:Nat→Int) (m:Nat) (init:List Int):List Int:=(List.range m).foldl (fun (out:List Int) (i:Nat)=>out.set (f i) (g i)) init
def Ah (p:List Int):List Int:=Sb (fun i=>(Gk p (i:Int)).toNat) (fun i=>(i:Int)) p.length (List.replicate p.length 0)
def Hp (n:Nat) (p:List Int):Prop:= ∀y∈p,0≤y∧y<n
noncomputable abbrev Gs:Spec:=mkS (.pair tL (.pair tL .unit)) tL false true (fun x=>List.length x.1≤20∧Hp (List.length x.2.1) x.1) (fun x=>Aa x.1 x.2.1)
noncomputable abbrev Du:Spec:=mkS (.pair tL .unit) tL false true (fun x=>List.length x.1≤20∧Hp (List.length x.1) x.1) (fun x=>Ah x.1)
noncomputable abbrev Bu:Spec:=mkS (.pair tI .unit) tL false true (fun x=>0≤x.1∧x.1≤20) (fun x=>upto x.1.toNat)
noncomputable abbrev Jf:Spec:=mkS (.pair tL .unit) tL false true (fun x=>Es x.1=true) (fun x=>Ah x.1)
def Ae (g:List (List Int)) (l:Int):List Int:=if l>0 then g.getD (l-1).toNat [] else Ah (g.getD (-l-1).toNat [])
def Ef (n:Int) (l:Int):Prop:=l≠0∧ -n≤l∧l≤n
noncomputable abbrev Ir:Spec:=mkS (.pair tLL (.pair tI .unit)) tL false false (fun x=>Ef (List.length x.1) x.2.1∧List.length x.1≤8∧ ∀p∈x.1,Es p=true) (fun x=>Ae x.1 x.2.1)
def Be (n:Nat):List Int:=(List.range n).flatMap fun (k:Nat)=> [(k:Int)+1,-((k:Int)+1)]
noncomputable abbrev Ka:Spec:=mkS (.pair tI .unit) tL false true (fun x=>0≤x.1∧x.1≤8) (fun x=>Be x.1.toNat)
noncomputable abbrev Mm:Spec:=mkS (.pair Ct (.pair tL (.pair tI .unit))) tL false true (fun x=>Ay x.1=true∧List.length x.2.1≤20∧(∀y∈x.2.1,0≤y∧y<x.1.1)∧Ef (List.length x.1.2.2.1) x.2.2.1) (fun x=>Aa x.2.1 (Ae x.1.2.2.1 x.2.2.1))
theorem Amb (p q:List Int) (P:List Int→Prop):(((0:Int)≤(↑p.length:Int)∧(↑p.length:Int)<(↑Az:Int)+(1:Int))∧
 (↑p.length:Int)=(↑p.length:Int)∧
  (0:Nat)=(0:Nat)∧
   (List.replicate (↑p.length:Int).toNat (Int.ofNat (nat_lit 0))).length=(List.replicate (↑p.length:Int).toNat (Int.ofNat (nat_lit 0))).length∧
    Bv
     (fun (v3:Int×List Int×PUnit) (k4:Int×List Int×PUnit→Prop)=>
      Br (decide (v3.1<(↑p.length:Int)))
       (∃(y5:Int),
        idx p v3.1=some y5∧
         ∃(y6:Int),
          idx q y5=some y6∧
           ((0:Int)≤v3.1∧v3.1<(↑v3.2.1.length:Int))∧
            (0:Nat)+v3.1.toNat<v3.2.1.length∧
             (0:Nat)=(0:Nat)∧
              v3.2.1.length=(v3.2.1.set ((0:Nat)+v3.1.toNat) y6).length∧k4 (IntKind.i64.wrap (v3.1+(1:Int)),v3.2.1.set ((0:Nat)+v3.1.toNat) y6,()))
       (P (List.take v3.2.1.length (List.drop (0:Nat) v3.2.1))))
     ((0:Int),List.replicate (↑p.length:Int).toNat (Int.ofNat (nat_lit 0)),PUnit.unit))=fnW tab (look []) Gs Try.f131 (p,q,()) P:=by kernel_rfl
theorem Amc (p:List Int) (P:List Int→Prop):(((0:Int)≤(↑p.length:Int)∧(↑p.length:Int)<(↑Az:Int)+(1:Int))∧
 (↑p.length:Int)=(↑p.length:Int)∧
  (0:Nat)=(0:Nat)∧
   (List.replicate (↑p.length:Int).toNat (Int.ofNat (nat_lit 0))).length=(List.replicate (↑p.length:Int).toNat (Int.ofNat (nat_lit 0))).length∧
    Bv
     (fun (v2:Int×List Int×PUnit) (k3:Int×List Int×PUnit→Prop)=>
      Br (decide (v2.1<(↑p.length:Int)))
       (∃(y4:Int),
        idx p v2.1=some y4∧
         ((0:Int)≤y4∧y4<(↑v2.2.1.length:Int))∧
          (0:Nat)+y4.toNat<v2.2.1.length∧
           (0:Nat)=(0:Nat)∧
            v2.2.1.length=(v2.2.1.set ((0:Nat)+y4.toNat) v2.1).length∧k3 (IntKind.i64.wrap (v2.1+(1:Int)),v2.2.1.set ((0:Nat)+y4.toNat) v2.1,()))
       (P (List.take v2.2.1.length (List.drop (0:Nat) v2.2.1))))
     ((0:Int),List.replicate (↑p.length:Int).toNat (Int.ofNat (nat_lit 0)),PUnit.unit))=fnW tab (look []) Du Try.f165 (p,()) P:=by kernel_rfl
theorem Bao (p:List Int) (P:List Int→Prop):(((0:Int)≤(↑p.length:Int)∧(↑p.length:Int)<(↑Az:Int)+(1:Int))∧
 (↑p.length:Int)=(↑p.length:Int)∧
  (0:Nat)=(0:Nat)∧
   (List.replicate (↑p.length:Int).toNat (Int.ofNat (nat_lit 0))).length=(List.replicate (↑p.length:Int).toNat (Int.ofNat (nat_lit 0))).length∧
    Bv
     (fun (v2:Int×List Int×PUnit) (k3:Int×List Int×PUnit→Prop)=>
      Br (decide (v2.1<(↑p.length:Int)))
       (∃(y4:Int),
        idx p v2.1=some y4∧
         ((0:Int)≤y4∧y4<(↑v2.2.1.length:Int))∧
          (0:Nat)+y4.toNat<v2.2.1.length∧
           (0:Nat)=(0:Nat)∧
            v2.2.1.length=(v2.2.1.set ((0:Nat)+y4.toNat) v2.1).length∧k3 (IntKind.i64.wrap (v2.1+(1:Int)),v2.2.1.set ((0:Nat)+y4.toNat) v2.1,()))
       (P (List.take v2.2.1.length (List.drop (0:Nat) v2.2.1))))
     ((0:Int),List.replicate (↑p.length:Int).toNat (Int.ofNat (nat_lit 0)),PUnit.unit))=fnW tab (look []) Du Try.f175 (p,()) P:=by kernel_rfl
theorem Amf (p:List Int) (P:List Int→Prop):(∃(y2:Bool),Dv.fn (p,())=some y2∧Br (!y2) (P (List.take (0:Nat) (List.drop (0:Nat) []))) (∃(y3:List Int),Du.fn (p,())=some y3∧P y3))=fnW tab (look [(169,Dv),(175,Du)]) Jf Try.f160 (p,()) P:=by kernel_rfl
theorem Axd (n:Int) (P:List Int→Prop):((0:Nat)=(0:Nat)∧
 (0:Nat)=([]:List Int).length∧
  Bv
   (fun (v2:Int×List Int×PUnit) (k3:Int×List Int×PUnit→Prop)=>
    Br (decide (v2.1<n))
     ((0:Nat)=(0:Nat)∧
      v2.2.1.length=v2.2.1.length∧
       v2.2.1.length+(List.take (1:Nat) (List.drop (0:Nat) [v2.1])).length≤Az∧
        (0:Nat)=(0:Nat)∧
         (v2.2.1++List.take (1:Nat) (List.drop (0:Nat) [v2.1])).length=(v2.2.1++List.take (1:Nat) (List.drop (0:Nat) [v2.1])).length∧
          k3 (IntKind.i64.wrap (v2.1+(1:Int)),v2.2.1++List.take (1:Nat) (List.drop (0:Nat) [v2.1]),()))
     (P (List.take v2.2.1.length (List.drop (0:Nat) v2.2.1))))
   ((0:Int),[],PUnit.unit))=fnW tab (look []) Bu Try.f106 (n,()) P:=by kernel_rfl
theorem Axf (g:List (List Int)) (l:Int) (P:List Int→Prop):(Br (decide (l>(0:Int))) (∃(y3:List Int),idx g (IntKind.i64.wrap (l-(1:Int)))=some y3∧P y3)
 (∃(y3:List Int),idx g (IntKind.i64.wrap (IntKind.i64.wrap ((0:Int)-l)-(1:Int)))=some y3∧ ∃(y4:List Int),Du.fn (y3,())=some y4∧P y4))=fnW tab (look [(165,Du)]) Ir Try.f155 (g,l,()) P:=by kernel_rfl
theorem Bam (n:Int) (P:List Int→Prop):((0:Nat)=(0:Nat)∧
 (0:Nat)=([]:List Int).length∧
  Bv
   (fun (v2:Int×List Int×PUnit) (k3:Int×List Int×PUnit→Prop)=>
    Br (decide (v2.1<n))
     ((0:Nat)=(0:Nat)∧
      v2.2.1.length=v2.2.1.length∧
       v2.2.1.length+(List.take (2:Nat) (List.drop (0:Nat) [IntKind.i64.wrap (v2.1+(1:Int)),IntKind.i64.wrap ((0:Int)-IntKind.i64.wrap (v2.1+(1:Int)))])).length≤
         Az∧
        (0:Nat)=(0:Nat)∧
         (v2.2.1++List.take (2:Nat) (List.drop (0:Nat) [IntKind.i64.wrap (v2.1+(1:Int)),IntKind.i64.wrap ((0:Int)-IntKind.i64.wrap (v2.1+(1:Int)))])).length=
           (v2.2.1++List.take (2:Nat) (List.drop (0:Nat) [IntKind.i64.wrap (v2.1+(1:Int)),IntKind.i64.wrap ((0:Int)-IntKind.i64.wrap (v2.1+(1:Int)))])).length∧
          k3
           (IntKind.i64.wrap (v2.1+(1:Int)),
            v2.2.1++List.take (2:Nat) (List.drop (0:Nat) [IntKind.i64.wrap (v2.1+(1:Int)),IntKind.i64.wrap ((0:Int)-IntKind.i64.wrap (v2.1+(1:Int)))]),()))
     (P (List.take v2.2.1.length (List.drop (0:Nat) v2.2.1))))
   ((0:Int),[],PUnit.unit))=fnW tab (look []) Ka Try.f112 (n,()) P:=by kernel_rfl
theorem Bct (p:Int×ByteArray×List (List Int)×Unit) (s:List Int) (l:Int) (P:List Int→Prop):(∃(y4:List Int),
 idx p.2.2.1
    (IntKind.i64.wrap
     ((if true=true then if IntKind.i64.wrap ((0:Int)-l)>l then IntKind.i64.wrap ((0:Int)-l) else l
      else if IntKind.i64.wrap ((0:Int)-l)<l then IntKind.i64.wrap ((0:Int)-l) else l)-
      (1:Int)))=
   some y4∧
  Br (decide (l<(0:Int)))
   (∃(y5:List Int),
    Jf.fn (y4,())=some y5∧
     (0:Nat)=(0:Nat)∧
      (0:Nat)=([]:List Int).length∧
       Bv
        (fun (v6:Int×List Int×PUnit) (k7:Int×List Int×PUnit→Prop)=>
         Br (decide (v6.1<(↑s.length:Int)))
          (∃(y8:Int),
           idx s v6.1=some y8∧
            ∃(y9:Int),
             idx y5 y8=some y9∧
              (0:Nat)=(0:Nat)∧
               v6.2.1.length=v6.2.1.length∧
                v6.2.1.length+(List.take (1:Nat) (List.drop (0:Nat) [y9])).length≤Az∧
                 (0:Nat)=(0:Nat)∧
                  (v6.2.1++List.take (1:Nat) (List.drop (0:Nat) [y9])).length=(v6.2.1++List.take (1:Nat) (List.drop (0:Nat) [y9])).length∧
                   k7 (IntKind.i64.wrap (v6.1+(1:Int)),v6.2.1++List.take (1:Nat) (List.drop (0:Nat) [y9]),()))
          (P (List.take v6.2.1.length (List.drop (0:Nat) v6.2.1))))
        ((0:Int),[],PUnit.unit))
   ((0:Nat)=(0:Nat)∧
    (0:Nat)=([]:List Int).length∧
     Bv
      (fun (v5:Int×List Int×PUnit) (k6:Int×List Int×PUnit→Prop)=>
       Br (decide (v5.1<(↑s.length:Int)))
        (∃(y7:Int),
         idx s v5.1=some y7∧
          ∃(y8:Int),
           idx y4 y7=some y8∧
            (0:Nat)=(0:Nat)∧
             v5.2.1.length=v5.2.1.length∧
              v5.2.1.length+(List.take (1:Nat) (List.drop (0:Nat) [y8])).length≤Az∧
               (0:Nat)=(0:Nat)∧
                (v5.2.1++List.take (1:Nat) (List.drop (0:Nat) [y8])).length=(v5.2.1++List.take (1:Nat) (List.drop (0:Nat) [y8])).length∧
                 k6 (IntKind.i64.wrap (v5.1+(1:Int)),v5.2.1++List.take (1:Nat) (List.drop (0:Nat) [y8]),()))
        (P (List.take v5.2.1.length (List.drop (0:Nat) v5.2.1))))
      ((0:Int),[],PUnit.unit)))=fnW tab (look [(160,Jf)]) Mm Try.f129 (p,s,l,()) P:=by kernel_rfl
theorem Gv {xs:List Int} {i:Nat} (h:i<xs.length):Gk xs (i:Int)=xs[i]:=by
 unfold Gk
 rw [Int.toNat_natCast,List.getD_eq_getElem?_getD,List.getElem?_eq_getElem h];rfl
theorem Asd {xs:List Int} {y:Int} (h0:0≤y) (h:y<xs.length):idx xs y=some (Gk xs y):=by
 have hy:y.toNat<xs.length:=by omega
 have e:y=(y.toNat:Int):=by omega
 rw [e,Aj hy,Gv hy]
theorem Py (f:Nat→Nat) (g:Nat→Int) (m:Nat) (init:List Int):Sb f g (m+1) init=(Sb f g m init).set (f m) (g m):=by simp [Sb,List.range_succ]
theorem Sd (f:Nat→Nat) (g:Nat→Int) (m:Nat) (init:List Int):(Sb f g m init).length=init.length:=by
 induction m with
 |zero=>rfl
 |succ m ih=>rw [Py,List.length_set,ih]
theorem Agl (f:Nat→Nat) (g:Nat→Int) (init:List Int): ∀(m:Nat),(∀i j,i<m→j<m→f i=f j→i=j)→ ∀i,i<m→f i<init.length→(Sb f g m init)[f i]?=some (g i)
 |0,_,i,h,_=>absurd h (Nat.not_lt_zero _)
 |m+1,hf,i,hi,hl=>by
  rw [Py]
  by_cases e:i=m
  ·subst e
   exact List.getElem?_set_self (by rw [Sd];exact hl)
  ·rw [List.getElem?_set_ne (fun h=>e (hf i m hi (by omega) h.symm))]
   exact Agl f g init m (fun a b ha hb=>hf a b (by omega) (by omega)) i (by omega) hl
structure Qt (p:List Int):Prop where
 pos:1≤p.length
 len:p.length≤20
 row:Hp p.length p
 nodup:p.Nodup
theorem Acq {p:List Int} (h:Es p=true):Qt p:=by
 obtain ⟨h1,h2,h3⟩:=Er.1 h
 refine ⟨h1,h2,fun y hy=>?_,Zb fun j hj=>(h3 j hj hj).2.2⟩
 obtain ⟨j,hj,rfl⟩:=List.mem_iff_getElem.1 hy
 have:=h3 j hj hj
 omega
theorem Qt.inj {p:List Int} (h:Qt p) (i j:Nat) (hi:i<p.length) (hj:j<p.length) (e:(Gk p (i:Int)).toNat=(Gk p (j:Int)).toNat):i=j:=by
 rw [Gv hi,Gv hj] at e
 have h1:=h.row _ (List.getElem_mem hi)
 have h2:=h.row _ (List.getElem_mem hj)
 have e:p[i]=p[j]:=by omega
 refine Classical.byContradiction fun hne=>?_
 rcases Nat.lt_or_gt_of_ne hne with hl|hl
 ·exact List.pairwise_iff_getElem.1 h.nodup i j hi hj hl e
 ·exact List.pairwise_iff_getElem.1 h.nodup j i hj hi hl e.symm
theorem Qt.Bbs {p:List Int} (h:Qt p) (k:Nat) (hk:k<p.length): ∃i,i<p.length∧(Gk p (i:Int)).toNat=k:=by
 have hm:=(Sy (xs:=p) h.row).2 (Akv h.nodup) k hk
 obtain ⟨i,hi,e⟩:=List.mem_iff_getElem.1 hm
 exact ⟨i,hi,by rw [Gv hi,e];exact Int.toNat_natCast k⟩
theorem Qt.lt {p:List Int} (h:Qt p) {i:Nat} (hi:i<p.length):(Gk p (i:Int)).toNat<p.length:=by
 rw [Gv hi]
 have:=h.row _ (List.getElem_mem hi)
 omega
theorem Ai2 (p:List Int):(Ah p).length=p.length:=by unfold Ah;rw [Sd,List.length_replicate]
theorem Bbd {p:List Int} (h:Qt p) {i:Nat} (hi:i<p.length):(Ah p)[(Gk p (i:Int)).toNat]?=some (i:Int):=
 Agl (fun i=>(Gk p (i:Int)).toNat) (fun i=>(i:Int)) _ p.length (fun i j hi hj=>h.inj i j hi hj) i hi (by rw [List.length_replicate];exact h.lt hi)
theorem Bdc {p:List Int} (h:Qt p):Hp p.length (Ah p):=by
 intro y hy
 obtain ⟨k,hk,rfl⟩:=List.mem_iff_getElem.1 hy
 have hk':k<p.length:=by rw [Ai2] at hk;exact hk
 obtain ⟨i,hi,rfl⟩:=h.Bbs k hk'
 have:=Bbd h hi
 rw [List.getElem?_eq_getElem hk] at this
 rw [Option.some.inj this]
 omega
theorem Rz (p q:List Int):(Aa p q).length=p.length:=by simp [Aa]
theorem Arv {p q:List Int} {n:Nat} (hp:Hp q.length p) (hq:Hp n q):Hp n (Aa p q):=by
 intro y hy
 obtain ⟨x,hx,rfl⟩:=List.mem_map.1 hy
 have h1:=hp x hx
 rw [show x=(x.toNat:Int) by omega,Gv (by omega)]
 exact hq _ (List.getElem_mem _)
theorem Alj (p q:List Int) (h:p.length≤20∧Hp q.length p):fnW tab (look []) Gs Try.f131 (p,q,()) (fun (z:List Int)=>z=Aa p q):=by
 obtain ⟨h,hr⟩:=h
 refine Eq.mp (Amb p q _) ?_
 refine ⟨⟨by omega,by show (p.length:Int)<(4294967296:Int)+1;omega⟩,rfl,rfl,rfl,?_⟩
 have hcl:=Rz p q
 refine Am p.length (fun v=>v.1) (fun j v=>v.2.1.length=(Aa p q).length∧v.2.1.take j=(Aa p q).take j) rfl ⟨by rw [hcl];simp,by simp⟩ ?_
 rintro j ⟨i,ys,⟨⟩⟩ K hj hi ⟨h1,h2⟩ hK
 dsimp only at hi h1 h2⊢
 subst hi
 refine Br.dec (fun hl=>?_) fun hl=>?_
 ·have hl:j<p.length:=by omega
  have hy:=hr _ (List.getElem_mem hl)
  refine ⟨_,Aj hl,_,Asd hy.1 hy.2,⟨by omega,by omega⟩,by rw [Int.toNat_natCast];omega,rfl,by rw [List.length_set],?_⟩
  rw [Al (by omega),Int.toNat_natCast,Nat.zero_add]
  have hl':j<(Aa p q).length:=by rw [hcl];exact hl
  have e:Gk q p[j]=(Aa p q)[j]:=by simp [Aa]
  rw [e]
  exact hK hl _ rfl ⟨by rw [List.length_set];exact h1,Oe hl' h1 h2⟩
 ·have:j=p.length:=by omega
  subst this
  rw [←hcl,List.take_length,←h1,List.take_length] at h2
  rw [List.drop_zero,List.take_length]
  exact h2
theorem Hd:Sound Try.prog 131 Gs:=
 Sound.mkS Bi Ao mixed Try.func131 (by kernel_rfl) (by kernel_rfl) fun x h=>Alj x.1 x.2.1 h
theorem Alk (p:List Int) (h:p.length≤20∧Hp p.length p):fnW tab (look []) Du Try.f165 (p,()) (fun (z:List Int)=>z=Ah p):=by
 obtain ⟨h,hr⟩:=h
 refine Eq.mp (Amc p _) ?_
 refine ⟨⟨by omega,by show (p.length:Int)<(4294967296:Int)+1;omega⟩,rfl,rfl,rfl,?_⟩
 refine Am p.length (fun v=>v.1) (fun j v=>v.2.1=Sb (fun i=>(Gk p (i:Int)).toNat) (fun i=>(i:Int)) j (List.replicate p.length 0)) rfl rfl ?_
 rintro j ⟨i,ys,⟨⟩⟩ K hj hi h1 hK
 dsimp only at hi h1⊢
 subst hi
 have hlen:ys.length=p.length:=by rw [h1,Sd,List.length_replicate]
 refine Br.dec (fun hl=>?_) fun hl=>?_
 ·have hl:j<p.length:=by omega
  have hy:=hr _ (List.getElem_mem hl)
  refine ⟨_,Aj hl,⟨by omega,by omega⟩,by omega,rfl,by rw [List.length_set],?_⟩
  rw [Al (by omega),Nat.zero_add]
  refine hK hl _ rfl ?_
  rw [Py,←h1,Gv hl]
 ·have:j=p.length:=by omega
  subst this
  rw [List.drop_zero,List.take_length]
  exact h1
theorem Mq:Sound Try.prog 165 Du:=
 Sound.mkS Bi Ao mixed Try.func165 (by kernel_rfl) (by kernel_rfl) fun x h=>Alk x.1 h
theorem Azj (p:List Int) (h:p.length≤20∧Hp p.length p):fnW tab (look []) Du Try.f175 (p,()) (fun (z:List Int)=>z=Ah p):=by
 obtain ⟨h,hr⟩:=h
 refine Eq.mp (Bao p _) ?_
 refine ⟨⟨by omega,by show (p.length:Int)<(4294967296:Int)+1;omega⟩,rfl,rfl,rfl,?_⟩
 refine Am p.length (fun v=>v.1) (fun j v=>v.2.1=Sb (fun i=>(Gk p (i:Int)).toNat) (fun i=>(i:Int)) j (List.replicate p.length 0)) rfl rfl ?_
 rintro j ⟨i,ys,⟨⟩⟩ K hj hi h1 hK
 dsimp only at hi h1⊢
 subst hi
 have hlen:ys.length=p.length:=by rw [h1,Sd,List.length_replicate]
 refine Br.dec (fun hl=>?_) fun hl=>?_
 ·have hl:j<p.length:=by omega
  have hy:=hr _ (List.getElem_mem hl)
  refine ⟨_,Aj hl,⟨by omega,by omega⟩,by omega,rfl,by rw [List.length_set],?_⟩
  rw [Al (by omega),Nat.zero_add]
  refine hK hl _ rfl ?_
  rw [Py,←h1,Gv hl]
 ·have:j=p.length:=by omega
  subst this
  rw [List.drop_zero,List.take_length]
  exact h1
theorem Am5:Sound Try.prog 175 Du:=
 Sound.mkS Bi Ao mixed Try.func175 (by kernel_rfl) (by kernel_rfl) fun x h=>Azj x.1 h
theorem Aln (p:List Int) (h:Es p=true):fnW tab (look [(169,Dv),(175,Du)]) Jf Try.f160 (p,()) (fun (z:List Int)=>z=Ah p):=by
 have hp:=Acq h
 have hs:short p:=by have:=hp.len;unfold short;omega
 refine Eq.mp (Amf p _) ⟨_,if_pos hs,⟨fun he=>?_,fun _=>⟨_,if_pos ⟨hp.len,hp.row⟩,rfl⟩⟩⟩
 exact absurd h (Cc he)
theorem Aeq:Sound Try.prog 160 Jf:=
 Sound.mkS Bi (Ad Ns (Ad Am5 Ao)) mixed Try.func160 (by kernel_rfl) (by kernel_rfl) fun x h=>Aln x.1 h
theorem Uu (j:Nat):upto (j+1)=upto j++ [(j:Int)]:=by simp [upto,List.range_succ]
theorem Awb (n:Int) (h:0≤n∧n≤20):fnW tab (look []) Bu Try.f106 (n,()) (fun (z:List Int)=>z=upto n.toNat):=by
 refine Eq.mp (Axd n _) ⟨rfl,rfl,?_⟩
 refine Am n.toNat (fun v=>v.1) (fun j v=>v.2.1=upto j) rfl rfl ?_
 rintro j ⟨i,ys,⟨⟩⟩ K hj hi h1 hK
 dsimp only at hi h1⊢
 subst hi h1
 refine Br.dec (fun hl=>?_) fun hl=>?_
 ·refine ⟨rfl,rfl,?_,rfl,rfl,?_⟩
  ·show (upto j).length+1≤4294967296
   rw [Ru];omega
  ·rw [Al (by omega)]
   exact hK (by omega) _ rfl (Uu j).symm
 ·have:j=n.toNat:=by omega
  subst this
  rw [List.drop_zero,List.take_length]
theorem Akg:Sound Try.prog 106 Bu:=
 Sound.mkS Bi Ao mixed Try.func106 (by kernel_rfl) (by kernel_rfl) fun x h=>Awb x.1 h
theorem Nh {g:List (List Int)} {k:Nat} (h:k<g.length):Ae g ((k:Int)+1)=g[k]:=by
 unfold Ae
 rw [if_pos (by omega),show ((k:Int)+1-1).toNat=k by omega,List.getD_eq_getElem?_getD,List.getElem?_eq_getElem h];rfl
theorem Ng {g:List (List Int)} {k:Nat} (h:k<g.length):Ae g (-((k:Int)+1))=Ah g[k]:=by
 unfold Ae
 rw [if_neg (by omega),show (-(-((k:Int)+1))-1).toNat=k by omega,List.getD_eq_getElem?_getD,List.getElem?_eq_getElem h];rfl
theorem Mf {n:Nat} {l:Int} (h:Ef n l): ∃k:Nat,k<n∧(l=(k:Int)+1∨l= -((k:Int)+1)):=by
 obtain ⟨h1,h2,h3⟩:=h
 by_cases h0:0<l
 ·exact ⟨(l-1).toNat,by omega, .inl (by omega)⟩
 ·exact ⟨(-l-1).toNat,by omega, .inr (by omega)⟩
theorem Awd (g:List (List Int)) (l:Int) (h:Ef (List.length g) l∧List.length g≤8∧ ∀p∈g,Es p=true):fnW tab (look [(165,Du)]) Ir Try.f155 (g,l,()) (fun (z:List Int)=>z=Ae g l):=by
 obtain ⟨hl,h8,hp⟩:=h
 refine Eq.mp (Axf g l _) ?_
 obtain ⟨k,hk,rfl|rfl⟩:=Mf hl
 ·refine Br.dec (fun _=>?_) fun hn=>by omega
  rw [Bq (by omega) (by omega),show (k:Int)+1-1=(k:Int) by omega]
  exact ⟨_,Aj hk,(Nh hk).symm⟩
 ·refine Br.dec (fun hn=>by omega) fun _=>?_
  rw [Bq (n:=0- -((k:Int)+1)) (by omega) (by omega),Bq (by omega) (by omega),show (0:Int)- -((k:Int)+1)-1=(k:Int) by omega]
  have:=Acq (hp _ (List.getElem_mem hk))
  exact ⟨_,Aj hk,_,if_pos ⟨this.len,this.row⟩,(Ng hk).symm⟩
theorem Zu:Sound Try.prog 155 Ir:=
 Sound.mkS Bi (Ad Mq Ao) mixed Try.func155 (by kernel_rfl) (by kernel_rfl) fun x h=>Awd x.1 x.2.1 h
theorem Ri (j:Nat):Be (j+1)=Be j++ [(j:Int)+1,-((j:Int)+1)]:=by simp [Be,List.range_succ,List.flatMap_append]
theorem Kt (j:Nat):(Be j).length=2*j:=by
 induction j with
 |zero=>rfl
 |succ j ih=>rw [Ri,List.length_append,ih];simp only [List.length_cons,List.length_nil];omega
theorem Ls {n:Nat} {l:Int} (h:l∈Be n):Ef n l:=by
 unfold Be at h
 obtain ⟨k,hk,hl⟩:=List.mem_flatMap.1 h
 have hk:=List.mem_range.1 hk
 simp only [List.mem_cons,List.not_mem_nil,or_false] at hl
 unfold Ef
 omega
theorem Azh (n:Int) (h:0≤n∧n≤8):fnW tab (look []) Ka Try.f112 (n,()) (fun (z:List Int)=>z=Be n.toNat):=by
 refine Eq.mp (Bam n _) ⟨rfl,rfl,?_⟩
 refine Am n.toNat (fun v=>v.1) (fun j v=>v.2.1=Be j) rfl rfl ?_
 rintro j ⟨i,ys,⟨⟩⟩ K hj hi h1 hK
 dsimp only at hi h1⊢
 subst hi h1
 refine Br.dec (fun hl=>?_) fun hl=>?_
 ·refine ⟨rfl,rfl,?_,rfl,rfl,?_⟩
  ·show (Be j).length+2≤4294967296
   rw [Kt];omega
  ·have e1:IntKind.i64.wrap ((j:Int)+1)=(j:Int)+1:=Bq (by omega) (by omega)
   have e2:IntKind.i64.wrap ((0:Int)-((j:Int)+1))= -((j:Int)+1):=by rw [Bq (by omega) (by omega)];omega
   rw [e1,e2]
   exact hK (by omega) _ rfl (Ri j).symm
 ·have:j=n.toNat:=by omega
  subst this
  rw [List.drop_zero,List.take_length]
theorem Abj:Sound Try.prog 112 Ka:=
 Sound.mkS Bi Ao mixed Try.func112 (by kernel_rfl) (by kernel_rfl) fun x h=>Azh x.1 h
structure Valid (p:PP):Prop where
 n:1≤p.1∧p.1≤20
 few:1≤p.2.2.1.length∧p.2.2.1.length≤8
 perm: ∀m∈p.2.2.1,Es m=true
 len: ∀m∈p.2.2.1,(m.length:Int)=p.1
theorem valid {p:PP} (h:Ay p=true):Valid p:=by
 have h0:=Ad1 h
 obtain ⟨h1,_,_⟩:=Er.1 h
 obtain ⟨_,_,h4⟩:=Er.1 h1
 exact ⟨⟨h0.1,h0.2.1⟩,h0.2.2,fun m hm=>(Er.1 (h4 m hm)).2,fun m hm=>(Er.1 (h4 m hm)).1⟩
theorem Afi {p:PP} (h:Valid p) {l:Int} (hl:Ef (List.length p.2.2.1) l):((Ae p.2.2.1 l).length:Int)=p.1∧Hp (Ae p.2.2.1 l).length (Ae p.2.2.1 l):=by
 obtain ⟨k,hk,rfl|rfl⟩:=Mf hl
 ·rw [Nh hk]
  exact ⟨h.len _ (List.getElem_mem hk),(Acq (h.perm _ (List.getElem_mem hk))).row⟩
 ·rw [Ng hk,Ai2]
  exact ⟨h.len _ (List.getElem_mem hk),Bdc (Acq (h.perm _ (List.getElem_mem hk)))⟩
theorem Arf (s y:List Int) (P:List Int→Prop) (h1:s.length≤20) (h2:Hp y.length s) (h3:P (Aa s y)):
  Bv
   (fun (v5:Int×List Int×PUnit) (k6:Int×List Int×PUnit→Prop)=>
    Br (decide (v5.1<(↑s.length:Int)))
     (∃(y7:Int),
      idx s v5.1=some y7∧
       ∃(y8:Int),
        idx y y7=some y8∧
         (0:Nat)=(0:Nat)∧
          v5.2.1.length=v5.2.1.length∧
           v5.2.1.length+(List.take (1:Nat) (List.drop (0:Nat) [y8])).length≤Az∧
            (0:Nat)=(0:Nat)∧
             (v5.2.1++List.take (1:Nat) (List.drop (0:Nat) [y8])).length=(v5.2.1++List.take (1:Nat) (List.drop (0:Nat) [y8])).length∧
              k6 (IntKind.i64.wrap (v5.1+(1:Int)),v5.2.1++List.take (1:Nat) (List.drop (0:Nat) [y8]),()))
     (P (List.take v5.2.1.length (List.drop (0:Nat) v5.2.1))))
   ((0:Int),([]:List Int),PUnit.unit):=by
 refine Am s.length (fun v=>v.1) (fun j v=>v.2.1=(s.take j).map (Gk y)) rfl (by simp) ?_
 rintro j ⟨i,ys,⟨⟩⟩ K hj hi hR hK
 dsimp only at hi hR⊢
 subst hi hR
 refine Br.dec (fun hl=>?_) fun hl=>?_
 ·have hl:j<s.length:=by omega
  have hy:=h2 _ (List.getElem_mem hl)
  refine ⟨_,Aj hl,_,Asd hy.1 hy.2,rfl,rfl,?_,rfl,rfl,?_⟩
  ·show ((s.take j).map (Gk y)).length+1≤4294967296
   rw [List.length_map,List.length_take];omega
  ·rw [Al (by omega)]
   refine hK hl _ rfl ?_
   dsimp only
   rw [List.take_succ_eq_append_getElem hl,List.map_append]
   rfl
 ·have:j=s.length:=by omega
  subst this
  rw [List.drop_zero,List.take_length,List.take_length]
  exact h3
theorem Bbv (p:PP) (s:List Int) (l:Int) (h:Ay p=true∧List.length s≤20∧(∀y∈s,0≤y∧y<p.1)∧Ef (List.length p.2.2.1) l):fnW tab (look [(160,Jf)]) Mm Try.f129 (p,s,l,()) (fun (z:List Int)=>z=Aa s (Ae p.2.2.1 l)):=by
 obtain ⟨hv,hs,hr,hl⟩:=h
 have hv:=valid hv
 have hf:=hv.few
 refine Eq.mp (Bct p s l _) ?_
 have hlo:=Afi hv hl
 have hrow:Hp (Ae p.2.2.1 l).length s:=fun y hy=>by have:=hr y hy;omega
 obtain ⟨k,hk,rfl|rfl⟩:=Mf hl
 ·rw [if_pos rfl,Bq (n:=0-((k:Int)+1)) (by omega) (by omega),if_neg (by omega),Bq (by omega) (by omega),show (k:Int)+1-1=(k:Int) by omega]
  refine ⟨_,Aj hk,Br.dec (fun hn=>by omega) fun _=>⟨rfl,rfl,?_⟩⟩
  rw [Nh hk] at hrow⊢
  exact Arf s _ (fun z=>z=Aa s p.2.2.1[k]) hs hrow rfl
 ·rw [if_pos rfl,Bq (n:=0- -((k:Int)+1)) (by omega) (by omega),if_pos (by omega),Bq (by omega) (by omega),show (0:Int)- -((k:Int)+1)-1=(k:Int) by omega]
  refine ⟨_,Aj hk,Br.dec (fun _=>⟨_,if_pos (hv.perm _ (List.getElem_mem hk)),rfl,rfl,?_⟩) fun hn=>by omega⟩
  rw [Ng hk] at hrow⊢
  exact Arf s (Ah p.2.2.1[k]) (fun z=>z=Aa s (Ah p.2.2.1[k])) hs hrow rfl
theorem Aem:Sound Try.prog 129 Mm:=
 Sound.mkS Bi (Ad Aeq Ao) mixed Try.func129 (by kernel_rfl) (by kernel_rfl) fun x h=>Bbv x.1 x.2.1 x.2.2.1 h
end Go.Proofs.Ytebabhocakedaaa

namespace Go.Proofs.Ytebabhocakedaaa
open Go.RowKit
abbrev rL:CK:= .row tI 2
def Gh:List (List Int)→Nat
 | []=>0
 |r::rs=>r.length+Gh rs
def low (k:Int):Prop:=0≤k∧k≤1099511627776
theorem Cz {α:Type} (xs:List α):List.take xs.length (List.drop 0 xs)=xs:=by rw [List.drop_zero,List.take_length]
end Go.Proofs.Ytebabhocakedaaa

namespace Go.Proofs.Ytebabhocakedaaa
open Go.RowKit
theorem Afk (a:List Int):Gz a a=true:=by simp [Gz]
theorem Bci {n:Nat} {room:Int} (h: ¬Afl n room<0):Afl n room=room-n∧(n:Int)≤room:=by
 unfold Afl at*
 split at h
 ·exact absurd (show (-1:Int)<0 by decide) h
 ·rename_i h1;rw [if_neg h1];exact ⟨rfl,by omega⟩
theorem Au8: ∀(xs:List (List Int)) (room:Int),0≤room→ ¬Akt xs room<0→Akt xs room=room-Gh xs
 | [],room,_,_=>by simp [Akt,Gh]
 |r::xs,room,h0,h=>by
  simp only [Akt,Gh] at h⊢
  split at h
  ·exact absurd (show (-1:Int)<0 by decide) h
  ·rename_i h1
   rw [if_neg h1]
   have e1:=Bci (n:=r.length) h1
   have e1:Ae8 r room=room-r.length∧(r.length:Int)≤room:=e1
   rw [Au8 xs _ (by rw [e1.1];omega) h,e1.1]
   omega
theorem Au9 {xs:List (List Int)} {room:Int} (h: ¬Ej xs room<0):Ej xs room=room-xs.length-Gh xs:=by
 unfold Ej at*
 split at h
 ·exact absurd (show (-1:Int)<0 by decide) h
 ·rename_i h1
  rw [if_neg h1]
  have e1:=Bci h1
  rw [Au8 xs _ (by rw [e1.1];omega) h,e1.1]
end Go.Proofs.Ytebabhocakedaaa

namespace Go.Proofs.Ytebabhocakedaaa
open Go.RowKit
theorem Ayl {b:Bool} {P:Prop} (h:(!(b==b))=true):P:=by simp at h
end Go.Proofs.Ytebabhocakedaaa

namespace Go.Proofs.Ytebabhocakedaaa
open Go.RowKit
noncomputable abbrev Ip:Spec:=mkS (.pair tL .unit) tL false true (fun x=>short x.1) (fun x=>x.1)
theorem Axb (xs:List Int) (P:List Int→Prop):((0:Nat)=(0:Nat)∧(0:Nat)=([]:List Int).length∧(0:Nat)+xs.length≤Az∧P (List.take ([]++xs).length (List.drop (0:Nat) ([]++xs))))=fnW tab (look []) Ip Try.f120 (xs,()) P:=by kernel_rfl
theorem Aw9 (xs:List Int) (h:short xs):fnW tab (look []) Ip Try.f120 (xs,()) (fun (z:List Int)=>z=xs):=by
 unfold short at h
 refine Eq.mp (Axb xs _) ⟨rfl,rfl,by show 0+xs.length≤4294967296;omega,?_⟩
 simp only [Cz,List.nil_append]
theorem Zs:Sound Try.prog 120 Ip:=
 Sound.mkS Bi Ao mixed Try.func120 (by kernel_rfl) (by kernel_rfl) fun x h=>Aw9 x.1 h
end Go.Proofs.Ytebabhocakedaaa

namespace Go.Proofs.Ytebabhocakedaaa
open Go.RowKit
def Ke (xs:List Int):ByteArray:=bytesOf (xs.map fun x=>IntKind.u8.wrap x)
noncomputable abbrev Dp:Spec:=mkS (.pair tL .unit) .str false true (fun x=>short x.1) (fun x=>Ke x.1)
def Aee (ps:List (List Int)) (p:List Int):Int:=Cd (fun q=>decide (q=p)) ps 0
theorem Axi (xs:List Int) (P:ByteArray→Prop):(((0:Int)≤(↑xs.length:Int)∧(↑xs.length:Int)<(↑Az:Int)+(1:Int))∧
 (↑xs.length:Int)=(↑xs.length:Int)∧
  (0:Nat)=(0:Nat)∧
   (List.replicate (↑xs.length:Int).toNat (Int.ofNat (nat_lit 0))).length=(List.replicate (↑xs.length:Int).toNat (Int.ofNat (nat_lit 0))).length∧
    Bv
     (fun (v2:Int×List Int×PUnit) (k3:Int×List Int×PUnit→Prop)=>
      Br (decide (v2.1<(↑xs.length:Int)))
       (∃(y4:Int),
        idx xs v2.1=some y4∧
         ((0:Int)≤v2.1∧v2.1<(↑v2.2.1.length:Int))∧
          (0:Nat)+v2.1.toNat<v2.2.1.length∧
           (0:Nat)=(0:Nat)∧
            v2.2.1.length=(v2.2.1.set ((0:Nat)+v2.1.toNat) (IntKind.u8.wrap y4)).length∧
             k3 (IntKind.i64.wrap (v2.1+(1:Int)),v2.2.1.set ((0:Nat)+v2.1.toNat) (IntKind.u8.wrap y4),()))
       (P (bytesOf (List.take v2.2.1.length (List.drop (0:Nat) v2.2.1)))))
     ((0:Int),List.replicate (↑xs.length:Int).toNat (Int.ofNat (nat_lit 0)),PUnit.unit))=fnW tab (look []) Dp Try.f111 (xs,()) P:=by kernel_rfl
theorem Awg (xs:List Int) (h:short xs):fnW tab (look []) Dp Try.f111 (xs,()) (fun (z:ByteArray)=>z=Ke xs):=by
 unfold short at h
 refine Eq.mp (Axi xs _) ?_
 refine ⟨⟨by omega,by show (xs.length:Int)<(4294967296:Int)+1;omega⟩,rfl,rfl,rfl,?_⟩
 have hcl:(xs.map fun x=>IntKind.u8.wrap x).length=xs.length:=by simp
 refine Am xs.length (fun v=>v.1) (fun j v=>v.2.1.length=(xs.map fun x=>IntKind.u8.wrap x).length∧v.2.1.take j=(xs.map fun x=>IntKind.u8.wrap x).take j) rfl ⟨by rw [hcl];simp,by simp⟩ ?_
 rintro j ⟨i,ys,⟨⟩⟩ K hj hi ⟨h1,h2⟩ hK
 dsimp only at hi h1 h2⊢
 subst hi
 refine Br.dec (fun hl=>?_) fun hl=>?_
 ·have hl:j<xs.length:=by omega
  refine ⟨_,Aj hl,⟨by omega,by omega⟩,by rw [Int.toNat_natCast];omega,rfl,by rw [List.length_set],?_⟩
  rw [Al (by omega),Int.toNat_natCast,Nat.zero_add]
  have hl':j<(xs.map fun x=>IntKind.u8.wrap x).length:=by rw [hcl];exact hl
  have e:IntKind.u8.wrap xs[j]=(xs.map fun x=>IntKind.u8.wrap x)[j]:=by simp
  rw [e]
  exact hK hl _ rfl ⟨by rw [List.length_set];exact h1,Oe hl' h1 h2⟩
 ·have:j=xs.length:=by omega
  subst this
  rw [←hcl,List.take_length,←h1,List.take_length] at h2
  rw [List.drop_zero,List.take_length,h2];rfl
theorem Zv:Sound Try.prog 111 Dp:=
 Sound.mkS Bi Ao mixed Try.func111 (by kernel_rfl) (by kernel_rfl) fun x h=>Awg x.1 h
theorem Xf {α:Type} (P:α→Bool) (y:α): ∀(l:List α) (i:Int),0≤i→Cd P (l++ [y]) i=if Cd P l i<0 then (if P y=true then i+l.length else-1) else Cd P l i
 | [],i,_=>by simp [Cd]
 |x::r,i,h=>by
  simp only [List.cons_append,Cd,List.length_cons]
  split
  ·rw [if_neg (by omega)]
  ·rw [Xf P y r (i+1) (by omega),show i+1+(r.length:Int)=i+((r.length+1:Nat):Int) by push_cast;omega]
theorem Apx (ps:List (List Int)) (q p:List Int):Aee (ps++ [q]) p=if Aee ps p<0 then (if q=p then (ps.length:Int) else-1) else Aee ps p:=by
 unfold Aee
 rw [Xf _ _ _ _ (Int.le_refl 0)]
 simp only [decide_eq_true_eq,Int.zero_add]
def Ms (p:List Int):Prop:= ∀x∈p,0≤x∧x<256
theorem Bb1 {x y:Int} (hx:0≤x∧x<256) (hy:0≤y∧y<256) (h:UInt8.ofNat (IntKind.u8.wrap x).toNat=UInt8.ofNat (IntKind.u8.wrap y).toNat):x=y:=by
 have h:=congrArg UInt8.toNat h
 simp only [IntKind.wrap_u8,UInt8.toNat_ofNat'] at h
 omega
theorem bytes_inj: ∀(p q:List Int),Ms p→Ms q→(p.map fun x=>UInt8.ofNat (IntKind.u8.wrap x).toNat)=(q.map fun x=>UInt8.ofNat (IntKind.u8.wrap x).toNat)→p=q
 | [],[],_,_,_=>rfl
 | [],_::_,_,_,h=>by simp at h
 |_::_,[],_,_,h=>by simp at h
 |x::p,y::q,hp,hq,h=>by
  simp only [List.map_cons,List.cons.injEq] at h
  rw [Bb1 (hp x (by simp)) (hq y (by simp)) h.1,bytes_inj p q (fun z hz=>hp z (by simp [hz])) (fun z hz=>hq z (by simp [hz])) h.2]
theorem key_inj {p q:List Int} (hp:Ms p) (hq:Ms q) (h:Ke p=Ke q):p=q:=by
 refine bytes_inj p q hp hq ?_
 simp only [Ke,bytesOf,ByteArray.mk.injEq,List.map_map] at h
 have h:=congrArg Array.toList h
 simpa [Function.comp_def] using h
def KM (m:ByteArray→Option Int) (ps:List (List Int)):Prop:= ∀p,Ms p→m (Ke p)=if Aee ps p<0 then none else some (Aee ps p)
theorem KM.nil:KM (fun _=>none) []:=fun p _=>by
 rw [if_pos (by unfold Aee;simp [Cd])]
theorem KM.add {m:ByteArray→Option Int} {ps:List (List Int)} {q:List Int} (h:KM m ps) (hq:Ms q) (hn:Aee ps q<0):KM (Ex m (Ke q) (ps.length:Int)) (ps++ [q]):=by
 intro p hp
 rw [Apx]
 unfold Ex
 by_cases e:p=q
 ·subst e
  rw [if_pos rfl,if_pos hn,if_pos rfl,if_neg (by omega)]
 ·rw [if_neg (fun hk=>e (key_inj hp hq hk)),h p hp]
  have e': ¬q=p:=fun h=>e h.symm
  rw [if_neg e']
  by_cases hpn:Aee ps p<0
  ·rw [if_pos hpn,if_pos hpn,if_pos (by decide)]
  ·rw [if_neg hpn,if_neg hpn,if_neg hpn]
end Go.Proofs.Ytebabhocakedaaa

namespace Go.Proofs.Ytebabhocakedaaa
open Go.RowKit
abbrev tW1:Ty:= .clo 161 (.pair (.ptr tI) .unit)
def okL (m l:Int):Bool:=decide (l≠0∧ -m≤l∧l≤m)
noncomputable abbrev Aau:Spec:=mkS (.pair tI (.pair (.ptr tI) .unit)) .bool false true (fun x=>0≤x.2.1∧x.2.1≤8) (fun x=>!okL x.2.1 x.1)
noncomputable abbrev Ao1:Spec:=mkS (.pair tL (.pair tW1 .unit)) tI false true (fun x=>short x.1∧0≤x.2.1.1∧x.2.1.1≤8) (fun x=>Cd (fun y=>!okL x.2.1.1 y) x.1 0)
noncomputable abbrev Anu:Spec:=mkS (.pair tL (.pair tW1 .unit)) .bool false true (fun x=>short x.1∧0≤x.2.1.1∧x.2.1.1≤8) (fun x=>List.any x.1 (fun y=>!okL x.2.1.1 y))
def Aax (n:Int):Int:=if 8<n then 8 else n
def Cu (n:Int) (w:List Int):Bool:=decide (w.length≤200)&&!(List.any w fun y=>!okL (Aax n) y)
noncomputable abbrev Eu:Spec:=mkS (.pair tI (.pair tL .unit)) .bool false true (fun x=>short x.2.1∧0≤x.1∧x.1≤4294967296) (fun x=>Cu x.1 x.2.1)
noncomputable abbrev Qp:Spec:=mkS (.pair Ct (.pair tL .unit)) .bool false true (fun x=>Dk x.1∧short x.2.1) (fun x=>Cu (List.length x.1.2.2.1:Nat) x.2.1)
theorem Bed (l m:Int) (P:Bool→Prop):(Br (l==(0:Int)) (P true) (∃(y3:Bool),As.fn (l,IntKind.i64.wrap ((0:Int)-m),m,())=some y3∧P !y3))=fnW tab (look [(108,As)]) Aau Try.f161 (l,m,()) P:=by kernel_rfl
theorem Bgq (xs:List Int) (c:Int×Unit) (P:Int→Prop):(Bv
 (fun (v3:Int×PUnit) (k4:Int×PUnit→Prop)=>
  Br (decide (v3.1<(↑xs.length:Int)))
   (∃(y5:Int),idx xs v3.1=some y5∧ ∃(y6:Bool),Aau.fn (y5,c.1,())=some y6∧Br y6 (P v3.1) (k4 (IntKind.i64.wrap (v3.1+(1:Int)),()))) (P (-1:Int)))
 ((0:Int),PUnit.unit))=fnW tab (look [(161,Aau)]) Ao1 Try.f144 (xs,c,()) P:=by kernel_rfl
theorem Bgj (xs:List Int) (c:Int×Unit) (P:Bool→Prop):(∃(y3:Int),Ao1.fn (xs,c,())=some y3∧P (decide (y3≥(0:Int))))=fnW tab (look [(144,Ao1)]) Anu Try.f103 (xs,c,()) P:=by kernel_rfl
theorem Aqz (n:Int) (w:List Int) (P:Bool→Prop):(Br (decide ((↑w.length:Int)≤(200:Int)))
 (∃(y3:Bool),Anu.fn (w,(if false=true then if (8:Int)>n then (8:Int) else n else if (8:Int)<n then (8:Int) else n,()),())=some y3∧P !y3) (P false))=fnW tab (look [(103,Anu)]) Eu Try.f130 (n,w,()) P:=by kernel_rfl
theorem Bal (p:Int×ByteArray×List (List Int)×Unit) (w:List Int) (P:Bool→Prop):(∃(y3:Int),Ld.fn (p.2.2.1,())=some y3∧ ∃(y4:Bool),Eu.fn (y3,w,())=some y4∧P y4)=fnW tab (look [(130,Eu),(67,Ld)]) Qp Try.f81 (p,w,()) P:=by kernel_rfl
theorem Axe (n:Int) (w:List Int) (P:Bool→Prop):(Br (decide ((↑w.length:Int)>(200:Int))) (P false)
 (Bv
  (fun (v3:Int×PUnit) (k4:Int×PUnit→Prop)=>
   Br (decide (v3.1<(↑w.length:Int)))
    (∃(y5:Int),
     idx w v3.1=some y5∧
      Br (y5==(0:Int)) (P false)
       (∃(y6:Int),
        idx w v3.1=some y6∧
         ∃(y7:Bool),
          As.fn (y6,(-8:Int),(8:Int),())=some y7∧
           Br (!y7) (P false)
            (∃(y8:Int),
             idx w v3.1=some y8∧
              Br (decide (y8>n)) (P false)
               (∃(y9:Int),idx w v3.1=some y9∧Br (decide (IntKind.i64.wrap ((0:Int)-y9)>n)) (P false) (k4 (IntKind.i64.wrap (v3.1+(1:Int)),()))))))
    (P true))
  ((0:Int),PUnit.unit)))=fnW tab (look [(122,As)]) Eu Try.f128 (n,w,()) P:=by kernel_rfl
theorem Ar5 (n:Int) (w:List Int) (P:Bool→Prop):(∃(y3:Bool),Eu.fn (n,w,())=some y3∧P y3)=fnW tab (look [(128,Eu)]) Eu Try.f79 (n,w,()) P:=by kernel_rfl
theorem Ay7 {m l:Int} :okL m l=true↔l≠0∧ -m≤l∧l≤m:=decide_eq_true_iff
theorem Bdq (l m:Int) (h:0≤m∧m≤8):fnW tab (look [(108,As)]) Aau Try.f161 (l,m,()) (fun (z:Bool)=>z=!okL m l):=by
 refine Eq.mp (Bed l m _) ⟨fun he=>?_,fun he=>⟨_,if_pos trivial,?_⟩⟩
 ·simp only [beq_iff_eq] at he
  simp [okL,he]
 ·simp only [beq_eq_false_iff_ne,ne_eq] at he
  congr 1
  rw [Bool.eq_iff_iff,Bf,Ay7,Bq (by omega) (by omega)]
  dsimp only
  omega
theorem Au5:Sound Try.prog 161 Aau:=
 Sound.mkS Bi (Ad Is Ao) mixed Try.func161 (by kernel_rfl) (by kernel_rfl) fun x h=>Bdq x.1 x.2.1 h
theorem Bg6 (xs:List Int) (c:Int×Unit) (h:short xs∧0≤c.1∧c.1≤8):fnW tab (look [(161,Aau)]) Ao1 Try.f144 (xs,c,()) (fun (z:Int)=>z=Cd (fun y=>!okL c.1 y) xs 0):=by
 obtain ⟨h,h4⟩:=h
 unfold short at h
 refine Eq.mp (Bgq xs c _) ?_
 refine Am xs.length (fun v=>v.1) (fun j _=>Cd (fun y=>!okL c.1 y) (xs.drop j) j=Cd (fun y=>!okL c.1 y) xs 0) rfl (by simp) ?_
 rintro j ⟨i,⟨⟩⟩ K hj hi hR hK
 dsimp only at hi⊢
 subst hi
 refine Br.dec (fun hl=>?_) fun hl=>?_
 ·have hl:j<xs.length:=by omega
  rw [List.drop_eq_getElem_cons hl] at hR
  simp only [Cd] at hR
  refine ⟨_,Aj hl,_,if_pos h4,⟨fun he=>?_,fun he=>?_⟩⟩
  ·have he:(!okL c.1 xs[j])=true:=he
   rw [if_pos he] at hR
   exact hR
  ·have he:(!okL c.1 xs[j])=false:=he
   rw [if_neg (by rw [he];decide)] at hR
   rw [Al (by omega)]
   exact hK hl _ rfl (by push_cast;exact hR)
 ·have:j=xs.length:=by omega
  subst this
  rw [List.drop_length] at hR
  exact hR
theorem Ba4:Sound Try.prog 144 Ao1:=
 Sound.mkS Bi (Ad Au5 Ao) mixed Try.func144 (by kernel_rfl) (by kernel_rfl) fun x h=>Bg6 x.1 x.2.1 h
theorem Bfz (xs:List Int) (c:Int×Unit) (h:short xs∧0≤c.1∧c.1≤8):fnW tab (look [(144,Ao1)]) Anu Try.f103 (xs,c,()) (fun (z:Bool)=>z=List.any xs (fun y=>!okL c.1 y)):=by
 refine Eq.mp (Bgj xs c _) ⟨_,if_pos h,?_⟩
 rw [Bool.eq_iff_iff,decide_eq_true_iff]
 exact Oo _ xs 0 (Int.le_refl 0)
theorem Azy:Sound Try.prog 103 Anu:=
 Sound.mkS Bi (Ad Ba4 Ao) mixed Try.func103 (by kernel_rfl) (by kernel_rfl) fun x h=>Bfz x.1 x.2.1 h
theorem Bd6 {n:Int} (h:0≤n):0≤Aax n∧Aax n≤8:=by unfold Aax;split<;>omega
theorem Apo (n:Int) (w:List Int) (h:short w∧0≤n∧n≤4294967296):fnW tab (look [(103,Anu)]) Eu Try.f130 (n,w,()) (fun (z:Bool)=>z=Cu n w):=by
 have hc:=Bd6 h.2.1
 have e1:(if false=true then if (8:Int)>n then (8:Int) else n else if (8:Int)<n then (8:Int) else n)=Aax n:=rfl
 refine Eq.mp (Aqz n w _) (Br.dec (fun hl=>⟨_,if_pos ⟨h.1,hc⟩,?_⟩) fun hl=>?_)
 ·show (!(List.any w fun y=>!okL (Aax n) y))=_
  unfold Cu
  rw [decide_eq_true (by omega),Bool.true_and]
 ·unfold Cu
  rw [decide_eq_false (by omega),Bool.false_and]
theorem Ag4:Sound Try.prog 130 Eu:=
 Sound.mkS Bi (Ad Azy Ao) mixed Try.func130 (by kernel_rfl) (by kernel_rfl) fun x h=>Apo x.1 x.2.1 h
theorem Azg (p:PP) (w:List Int) (h:Dk p∧short w):fnW tab (look [(130,Eu),(67,Ld)]) Qp Try.f81 (p,w,()) (fun (z:Bool)=>z=Cu (List.length p.2.2.1:Nat) w):=by
 have:=h.1.2.1
 exact Eq.mp (Bal p w _) ⟨_,if_pos trivial,_,if_pos ⟨h.2,by show (0:Int)≤(List.length p.2.2.1:Nat);omega,by show ((List.length p.2.2.1:Nat):Int)≤4294967296;omega⟩,rfl⟩
theorem Am4:Sound Try.prog 81 Qp:=
 Sound.mkS Bi (Ad Ag4 (Ad Zt Ao)) mixed Try.func81 (by kernel_rfl) (by kernel_rfl) fun x h=>Azg x.1 x.2.1 h
theorem Apj {n l:Int} (hn:0≤n):okL (Aax n) l=true↔l≠0∧(-8≤l∧l≤8)∧l≤n∧ -l≤n:=by
 rw [Ay7];unfold Aax;split<;>omega
theorem Awc (n:Int) (w:List Int) (h:short w∧0≤n∧n≤4294967296):fnW tab (look [(122,As)]) Eu Try.f128 (n,w,()) (fun (z:Bool)=>z=Cu n w):=by
 refine Eq.mp (Axe n w _) (Br.dec (fun hl=>?_) fun hl=>?_)
 ·unfold Cu
  rw [decide_eq_false (by omega),Bool.false_and]
 ·have e0:Cu n w=!(List.any w fun y=>!okL (Aax n) y):=by unfold Cu;rw [decide_eq_true (by omega),Bool.true_and]
  have bad: ∀(j:Nat) (hj:j<w.length),¬(w[j]≠0∧(-8≤w[j]∧w[j]≤8)∧w[j]≤n∧ -w[j]≤n)→false=Cu n w:=fun j hj hn=>by
   rw [e0]
   have:(List.any w fun y=>!okL (Aax n) y)=true:=List.any_eq_true.2 ⟨w[j],List.getElem_mem hj,by
    have:okL (Aax n) w[j]=false:=Bool.eq_false_iff.2 fun ht=>hn ((Apj h.2.1).1 ht)
    rw [this];rfl⟩
   rw [this];rfl
  refine Am w.length (fun v=>v.1) (fun j _=> ∀y∈w.take j,okL (Aax n) y=true) rfl (by simp) ?_
  rintro j ⟨i,⟨⟩⟩ K hj hi hR hK
  dsimp only at hi⊢
  subst hi
  refine Br.dec (fun hl=>?_) fun hl=>?_
  ·have hl:j<w.length:=by omega
   refine ⟨_,Aj hl,⟨fun hz=>?_,fun hz=>⟨_,Aj hl,_,if_pos trivial,⟨fun hq=>?_,fun hq=>⟨_,Aj hl,Br.dec (fun hg=>?_) fun hg=>⟨_,Aj hl,Br.dec (fun hm=>?_) fun hm=>?_⟩⟩⟩⟩⟩⟩
   ·simp only [beq_iff_eq] at hz
    exact bad j hl fun hh=>hh.1 hz
   ·have hq:=Cc hq
    rw [Bf] at hq
    exact bad j hl fun hh=>hq hh.2.1
   ·exact bad j hl fun hh=>absurd hh.2.2.1 (by omega)
   ·have hq:=Cg hq
    rw [Bf] at hq
    dsimp only at hq
    rw [Bq (by omega) (by omega)] at hm
    exact bad j hl fun hh=>absurd hh.2.2.2 (by omega)
   ·have hq:=Cg hq
    rw [Bf] at hq
    dsimp only at hq
    simp only [beq_eq_false_iff_ne,ne_eq] at hz
    rw [Bq (by omega) (by omega)] at hm
    rw [Al (by omega)]
    refine hK hl _ rfl ?_
    rw [List.take_succ_eq_append_getElem hl]
    intro y hy
    rcases List.mem_append.1 hy with hy|hy
    ·exact hR y hy
    ·rw [List.mem_singleton.1 hy]
     exact (Apj h.2.1).2 ⟨hz,hq,by omega,by omega⟩
  ·have:j=w.length:=by omega
   subst this
   rw [List.take_length] at hR
   rw [e0]
   have:(List.any w fun y=>!okL (Aax n) y)=false:=by
    refine Bool.eq_false_iff.2 fun ht=>?_
    obtain ⟨y,hy,h1⟩:=List.any_eq_true.1 ht
    rw [hR y hy] at h1
    cases h1
   rw [this];rfl
theorem Akh:Sound Try.prog 128 Eu:=
 Sound.mkS Bi (Ad Kx Ao) mixed Try.func128 (by kernel_rfl) (by kernel_rfl) fun x h=>Awc x.1 x.2.1 h
theorem Apv (n:Int) (w:List Int) (h:short w∧0≤n∧n≤4294967296):fnW tab (look [(128,Eu)]) Eu Try.f79 (n,w,()) (fun (z:Bool)=>z=Cu n w):=Eq.mp (Ar5 n w _) ⟨_,if_pos h,rfl⟩
theorem Ag8:Sound Try.prog 79 Eu:=
 Sound.mkS Bi (Ad Akh Ao) mixed Try.func79 (by kernel_rfl) (by kernel_rfl) fun x h=>Apv x.1 x.2.1 h
theorem Ky {n:Nat} {w:List Int} (h:Cu (n:Int) w=true):w.length≤200∧ ∀y∈w,Ef n y:=by
 unfold Cu at h
 simp only [Bool.and_eq_true,decide_eq_true_eq,Bool.not_eq_true'] at h
 refine ⟨h.1,fun y hy=>?_⟩
 have h1:okL (Aax n) y=true:=by
  cases ho:okL (Aax n) y with
  |true=>rfl
  |false=>
   have h2:(List.any w fun y=>!okL (Aax (n:Int)) y)=true:=List.any_eq_true.2 ⟨y,hy,by rw [ho];rfl⟩
   rw [h.2] at h2;cases h2
 have:=(Apj (by omega)).1 h1
 unfold Ef
 omega
end Go.Proofs.Ytebabhocakedaaa

namespace Go.Proofs.Ytebabhocakedaaa
open Go.RowKit
noncomputable abbrev Ly:Spec:=mkS (.pair Ct .unit) tL false true (fun x=>List.length x.1.2.2.1≤8) (fun x=>Be (List.length x.1.2.2.1))
theorem Aul (p:Int×ByteArray×List (List Int)×Unit) (P:List Int→Prop):((0:Nat)=(0:Nat)∧
 (0:Nat)=([]:List Int).length∧
  Bv
   (fun (v2:Int×Int×ByteArray×List (List Int)×List Int×PUnit) (k3:Int×Int×ByteArray×List (List Int)×List Int×PUnit→Prop)=>
    Br (decide (v2.1≤(↑v2.2.2.2.1.length:Int)))
     ((0:Nat)=(0:Nat)∧
      v2.2.2.2.2.1.length=v2.2.2.2.2.1.length∧
       v2.2.2.2.2.1.length+(List.take (2:Nat) (List.drop (0:Nat) [v2.1,IntKind.i64.wrap ((0:Int)-v2.1)])).length≤Az∧
        (0:Nat)=(0:Nat)∧
         (v2.2.2.2.2.1++List.take (2:Nat) (List.drop (0:Nat) [v2.1,IntKind.i64.wrap ((0:Int)-v2.1)])).length=
           (v2.2.2.2.2.1++List.take (2:Nat) (List.drop (0:Nat) [v2.1,IntKind.i64.wrap ((0:Int)-v2.1)])).length∧
          k3
           (IntKind.i64.wrap (v2.1+(1:Int)),v2.2.1,v2.2.2.1,v2.2.2.2.1,
            v2.2.2.2.2.1++List.take (2:Nat) (List.drop (0:Nat) [v2.1,IntKind.i64.wrap ((0:Int)-v2.1)]),()))
     (P (List.take v2.2.2.2.2.1.length (List.drop (0:Nat) v2.2.2.2.2.1))))
   ((1:Int),p.1,p.2.1,p.2.2.1,[],PUnit.unit))=fnW tab (look []) Ly Try.f142 (p,()) P:=by kernel_rfl
theorem Ati (p:PP) (h:List.length p.2.2.1≤8):fnW tab (look []) Ly Try.f142 (p,()) (fun (z:List Int)=>z=Be (List.length p.2.2.1)):=by
 refine Eq.mp (Aul p _) ⟨rfl,rfl,?_⟩
 refine Bv.mk (fun v=> ∃j:Nat,j≤List.length p.2.2.1∧v=((j:Int)+1,p.1,p.2.1,p.2.2.1,Be j,())) (fun v=>List.length p.2.2.1+1-v.1.toNat) ⟨0,Nat.zero_le _,rfl⟩ ?_
 rintro _ ⟨j,hj,rfl⟩
 dsimp only
 refine Br.dec (fun hl=>?_) fun hl=>?_
 ·refine ⟨rfl,rfl,?_,rfl,rfl,⟨j+1,by omega,?_⟩,?_⟩
  ·show (Be j).length+2≤4294967296
   rw [Kt];omega
  ·rw [Ri,Bq (n:=(j:Int)+1+1) (by omega) (by omega),Bq (n:=0-((j:Int)+1)) (by omega) (by omega),Int.zero_sub]
   rfl
  ·rw [Bq (by omega) (by omega)];omega
 ·have:j=List.length p.2.2.1:=by omega
  subst this
  rw [Cz]
theorem Ahq:Sound Try.prog 142 Ly:=
 Sound.mkS Bi Ao mixed Try.func142 (by kernel_rfl) (by kernel_rfl) fun x h=>Ati x.1 h
theorem Bch {p:PP} {room:Int} (hr:roomy room) (h: ¬Ku p room<0):(Gh p.2.2.1:Int)≤room-Ku p room∧roomy (Ku p room):=by
 unfold Ku at h⊢
 split at h
 ·exact absurd (show (-1:Int)<0 by decide) h
 ·rename_i h1
  rw [if_neg h1]
  split at h
  ·exact absurd (show (-1:Int)<0 by decide) h
  ·rename_i h2
   rw [if_neg h2]
   have e2:=Au9 h2
   obtain ⟨r1,r2⟩:=hr
   unfold roomy
   omega
end Go.Proofs.Ytebabhocakedaaa

namespace Go.Proofs.Ytebabhocakedaaa
open Go.RowKit
def Apb (v:Int):List Int→Nat
 | []=>0
 |x::r=>if x>v then Apb v r+1 else 0
def Bdd (v:Int) (t:List Int):Option (List Int):=if Apb v t=0 then none else some (Gk t ((Apb v t-1:Nat):Int)::(t.set (Apb v t-1) v).reverse)
def Za:List Int→Option (List Int)
 | []=>none
 |v::t=>match Za t with
  |some t'=>some (v::t')
  |none=>Bdd v t
theorem At5 {s s':List Int} (h:Za s=some s'): ∀pre:List Int,Za (pre++s)=some (pre++s')
 | []=>h
 |v::p=>by rw [List.cons_append,Za,At5 h p];rfl
theorem Bdt {α:Type} (pre:List α) (v a:α) (t:List α):(pre++v::t).set pre.length a=pre++a::t:=by
 rw [List.set_append,if_neg (by omega)];simp
inductive Run:List Int→List (List Int)→List Int→Prop where
 |one (a:List Int):Run a [a] a
 |more {a c b:List Int} {L:List (List Int)} :Za a=some c→Run c L b→Run a (a::L) b
theorem Run.cons {a b:List Int} {L:List (List Int)} (h:Run a L b) (v:Int):Run (v::a) (L.map (v:: ·)) (v::b):=by
 induction h with
 |one a=>exact .one _
 |more h3 _ ih=>exact .more (At5 h3 [v]) ih
theorem Run.head {a b:List Int} {L:List (List Int)} (h:Run a L b): ∃M,L=a::M:=by
 cases h with
 |one=>exact ⟨_,rfl⟩
 |more _ _=>exact ⟨_,rfl⟩
theorem Run.at {a b:List Int} {L:List (List Int)} (h:Run a L b): ∀j (hj:j<L.length),(∀h2:j+1<L.length,Za L[j]=some L[j+1])∧(j+1=L.length→L[j]=b):=by
 induction h with
 |one a=>
  intro j hj
  simp only [List.length_singleton] at hj
  have:j=0:=by omega
  subst this
  exact ⟨fun h2=>by simp at h2,fun _=>rfl⟩
 |more h3 h4 ih=>
  intro j hj
  rcases j with _|j
  ·obtain ⟨M,hM⟩:=h4.head
   refine ⟨fun h2=>?_,fun h2=>?_⟩
   ·simp only [List.getElem_cons_zero,List.getElem_cons_succ]
    subst hM
    exact h3
   ·subst hM;simp at h2
  ·have:=ih j (by simpa using hj)
   refine ⟨fun h2=>?_,fun h2=>?_⟩
   ·simp only [List.getElem_cons_succ]
    exact this.1 (by simpa using h2)
   ·simp only [List.getElem_cons_succ]
    exact this.2 (by simpa using h2)
theorem Run.distinct {a b:List Int} {L:List (List Int)} (h:Run a L b) (hb:Za b=none): ∀k i j (hi:i<L.length) (hj:j<L.length),L.length-j=k→i<j→L[i]≠L[j]:=by
 intro k
 induction k with
 |zero=>intro i j hi hj hk;omega
 |succ k ih=>
  intro i j hi hj hk hij he
  by_cases e:j+1<L.length
  ·have h1:=(h.at i hi).1 (by omega)
   have h2:=(h.at j hj).1 e
   rw [he,h2] at h1
   exact ih (i+1) (j+1) (by omega) e (by omega) (by omega) (Option.some.inj h1).symm
  ·have h1:=(h.at i hi).1 (by omega)
   have h2:=(h.at j hj).2 (by omega)
   rw [he,h2,hb] at h1
   cases h1
theorem Run.idx {a b:List Int} {L:List (List Int)} (h:Run a L b) (hb:Za b=none) {j:Nat} (hj:j<L.length):L.idxOf L[j]=j:=by
 have h1:L.idxOf L[j]<L.length:=List.idxOf_lt_length_of_mem (List.getElem_mem _)
 have h2:L[L.idxOf L[j]]=L[j]:=List.getElem_idxOf h1
 rcases Nat.lt_trichotomy (L.idxOf L[j]) j with h3|h3|h3
 ·exact absurd h2 (h.distinct hb _ _ _ h1 hj rfl h3)
 ·exact h3
 ·exact absurd h2.symm (h.distinct hb _ _ _ hj h1 rfl h3)
end Go.Proofs.Ytebabhocakedaaa

namespace Go.Proofs.Ytebabhocakedaaa
open Go.RowKit
def Bx:List Int→List Int→Int
 | [],[]=>0
 | [],_::_=> -1
 |_::_,[]=>1
 |x::a,y::b=>if x<y then-1 else if x>y then 1 else Bx a b
def Vs (a b:List Int):Bool:=decide (Bx a b<0)
noncomputable abbrev Nq:Spec:=mkS (.pair tL (.pair tL .unit)) .bool false true (fun x=>short x.1∧List.length x.1=List.length x.2.1) (fun x=>Vs x.1 x.2.1)
theorem Axg (a b:List Int) (P:Bool→Prop):(Bv
 (fun (v3:Int×PUnit) (k4:Int×PUnit→Prop)=>
  Br (decide (v3.1<(↑a.length:Int)))
   (∃(y5:Int),
    idx a v3.1=some y5∧
     ∃(y6:Int),
      idx b v3.1=some y6∧
       Br (y5 !=y6) (∃(y7:Int),idx a v3.1=some y7∧ ∃(y8:Int),idx b v3.1=some y8∧P (decide (y7<y8))) (k4 (IntKind.i64.wrap (v3.1+(1:Int)),())))
   (P false))
 ((0:Int),PUnit.unit))=fnW tab (look []) Nq Try.f135 (a,b,()) P:=by kernel_rfl
theorem Awe (a b:List Int) (h:short a∧a.length=b.length):fnW tab (look []) Nq Try.f135 (a,b,()) (fun (z:Bool)=>z=Vs a b):=by
 obtain ⟨ha,hb⟩:=h
 unfold short at ha
 refine Eq.mp (Axg a b _) ?_
 refine Am a.length (fun v=>v.1) (fun j _=>Bx (a.drop j) (b.drop j)=Bx a b) rfl (by simp) ?_
 rintro j ⟨i,⟨⟩⟩ K hj hi hR2 hK
 dsimp only at hi⊢
 subst hi
 refine Br.dec (fun hl=>?_) fun hl=>?_
 ·have hl:j<a.length:=by omega
  have hlb:j<b.length:=by omega
  rw [List.drop_eq_getElem_cons hl,List.drop_eq_getElem_cons hlb] at hR2
  simp only [Bx] at hR2
  refine ⟨_,Aj hl,_,Aj hlb,⟨fun hne=>?_,fun hne=>?_⟩⟩
  ·refine ⟨_,Aj hl,_,Aj hlb,?_⟩
   have hne:a[j]≠b[j]:=by simpa using hne
   unfold Vs
   rw [←hR2]
   by_cases h1:a[j]<b[j]
   ·rw [if_pos h1];simp [h1]
   ·rw [if_neg h1,if_pos (by omega)];simp [h1]
  ·have hne:a[j]=b[j]:=by simpa using hne
   rw [if_neg (by omega),if_neg (by omega)] at hR2
   rw [Al (by omega)]
   exact hK hl _ rfl hR2
 ·have:j=a.length:=by omega
  subst this
  rw [List.drop_length,List.drop_eq_nil_of_le (by omega)] at hR2
  unfold Vs
  rw [←hR2]
  rfl
theorem Akj:Sound Try.prog 135 Nq:=
 Sound.mkS Bi Ao mixed Try.func135 (by kernel_rfl) (by kernel_rfl) fun x h=>Awe x.1 x.2.1 h
theorem Agv (a:List (List Int)):Acl a a=true:=decide_eq_true rfl
end Go.Proofs.Ytebabhocakedaaa

namespace Go.Proofs.Ytebabhocakedaaa
open Go.RowKit
abbrev SS:Type:=List (List Int)×List Int×List Int×Bool×Unit
abbrev rLS:CK:= .row tL 25
abbrev rN:CK:= .row tI 3
def Cm (L:List (List Int)) (srt:List Int) (s:List Int):Nat:=(srt.takeWhile fun i=>Vs (L.getD i.toNat []) s).length
structure Cr (m:Nat) (L:List (List Int)) (srt:List Int):Prop where
 few:L.length≤3000
 len: ∀x∈L,x.length=m
 short:m≤20
 perm:srt.Perm (upto L.length)
 sorted:srt.Pairwise fun i j=>Vs (L.getD i.toNat []) (L.getD j.toNat [])=true
def Abe (L:List (List Int)) (s:List Int):Int:=if s∈L then (L.idxOf s:Int) else-1
def Mt (srt:List Int) (k:Nat) (x:Int):List Int:=srt.take k++x::srt.drop k
noncomputable abbrev Wm:Spec:=mkS (.pair Wq (.pair tL .unit)) tI false true (fun x=>Cr (List.length x.2.1) x.1.1 x.1.2.2.1) (fun x=>(Cm x.1.1 x.1.2.2.1 x.2.1:Int))
noncomputable abbrev Mn:Spec:=mkS (.pair Wq (.pair tL .unit)) tI false true (fun x=>Cr (List.length x.2.1) x.1.1 x.1.2.2.1) (fun x=>Abe x.1.1 x.2.1)
noncomputable abbrev Acu:Bp:=mkM [some 4,none,none] [(false,rLS),(false,rL),(false,rN),(false, .dat .bool),(false, .dat tL),(false, .dat tI)] false [some 4] [rLS,rL,rN, .dat .bool]
 (fun x=>Cr (List.length x.2.2.2.2.1) x.1 x.2.2.1∧List.length x.2.1≤3000) (fun x=>((x.1++ [x.2.2.2.2.1],x.2.1++ [x.2.2.2.2.2.1],Mt x.2.2.1 (Cm x.1 x.2.2.1 x.2.2.2.2.1) (List.length x.1),x.2.2.2.1,()),()))
def Rr (L:List (List Int)):List Int:=(List.range L.length).foldl (fun (S:List Int) (i:Nat)=>Mt S (Cm (L.take i) S (L.getD i [])) (i:Int)) []
def Ga (g:List (List Int)) (x:List Int) (d:Int):List Int→List (List Int)→List Int→List (List Int)×List Int×Bool
 | [],L,D=>(L,D,true)
 |l::ls,L,D=>if Aa x (Ae g l)∈L then Ga g x d ls L D else if L.length=3000 then (L,D,false) else Ga g x d ls (L++ [Aa x (Ae g l)]) (D++ [d+1])
def Hm (g:List (List Int)) (ls:List Int):Nat→Nat→List (List Int)→List Int→List (List Int)×List Int×Bool
 |0,_,L,D=>(L,D,true)
 |f+1,k,L,D=>if k<L.length then (match Ga g (L.getD k []) (D.getD k 0) ls L D with
  |(L',D',true)=>Hm g ls f (k+1) L' D'
  |(L',D',false)=>(L',D',false)) else (L,D,true)
def Fq (g:List (List Int)) (s:List Int):List (List Int)×List Int×Bool:=Hm g (Be g.length) 3001 0 [s] [0]
def Ha (g:List (List Int)) (s:List Int):SS:=((Fq g s).1,(Fq g s).2.1,Rr (Fq g s).1,(Fq g s).2.2,())
noncomputable abbrev Cw:Spec:=mkS (.pair Ct (.pair tL .unit)) Wq false false (fun x=>Ay x.1=true∧List.length x.2.1≤20∧ ∀y∈x.2.1,0≤y∧y<x.1.1) (fun x=>Ha x.1.2.2.1 x.2.1)
theorem Bfl (f:List (List Int)×List Int×List Int×Bool×Unit) (s:List Int) (P:Int→Prop):(Bv
 (fun (v3:Int×Int×List (List Int)×List Int×List Int×Bool×PUnit) (k4:Int×Int×List (List Int)×List Int×List Int×Bool×PUnit→Prop)=>
  Br (decide (v3.1<v3.2.1))
   ((2:Int)≠(0:Int)∧
    ∃(y5:Int),
     idx v3.2.2.2.2.1 (IntKind.i64.wrap ((IntKind.i64.wrap (v3.1+v3.2.1)).tdiv (2:Int)))=some y5∧
      ∃(y6:List Int),
       idx v3.2.2.1 y5=some y6∧
        ∃(y7:Bool),
         Nq.fn (y6,s,())=some y7∧
          Br y7
           (k4
            (IntKind.i64.wrap (IntKind.i64.wrap ((IntKind.i64.wrap (v3.1+v3.2.1)).tdiv (2:Int))+(1:Int)),v3.2.1,v3.2.2.1,v3.2.2.2.1,v3.2.2.2.2.1,
             v3.2.2.2.2.2.1,()))
           (k4 (v3.1,IntKind.i64.wrap ((IntKind.i64.wrap (v3.1+v3.2.1)).tdiv (2:Int)),v3.2.2.1,v3.2.2.2.1,v3.2.2.2.2.1,v3.2.2.2.2.2.1,())))
   (P v3.1))
 ((0:Int),(↑f.2.2.1.length:Int),f.1,f.2.1,f.2.2.1,f.2.2.2.1,PUnit.unit))=fnW tab (look [(135,Nq)]) Wm Try.f119 (f,s,()) P:=by kernel_rfl
theorem Bcx (f:List (List Int)×List Int×List Int×Bool×Unit) (s:List Int) (P:Int→Prop):(∃(y3:Int),
 Wm.fn ((f.1,f.2.1,f.2.2.1,f.2.2.2.1,()),s,())=some y3∧
  Br (decide (y3<(↑f.2.2.1.length:Int)))
   (∃(y4:Int),
    idx f.2.2.1 y3=some y4∧
     ∃(y5:List Int),idx f.1 y4=some y5∧ ∃(y6:Bool),Dj.fn (y5,s,())=some y6∧Br y6 (∃(y7:Int),idx f.2.2.1 y3=some y7∧P y7) (P (-1:Int)))
   (P (-1:Int)))=fnW tab (look [(119,Wm),(59,Dj)]) Mn Try.f69 (f,s,()) P:=by kernel_rfl
theorem Bfj (L:List (List Int)) (D S:List Int) (b:Bool) (s:List Int) (d:Int) (P:((List (List Int)×List Int×List Int×Bool×Unit)×Unit)→Prop):(∃(y7:Int),
 Wm.fn ((List.take L.length (List.drop (0:Nat) L),List.take D.length (List.drop (0:Nat) D),List.take S.length (List.drop (0:Nat) S),b,()),s,())=some y7∧
  (0:Nat)=(0:Nat)∧
   S.length=S.length∧
    S.length+(List.take (1:Nat) (List.drop (0:Nat) [(0:Int)])).length≤Az∧
     ((0:Int)≤IntKind.i64.wrap (y7+(1:Int))∧
       IntKind.i64.wrap (y7+(1:Int))≤(↑(S++List.take (1:Nat) (List.drop (0:Nat) [(0:Int)])).length:Int)∧
        (↑(S++List.take (1:Nat) (List.drop (0:Nat) [(0:Int)])).length:Int)≤(↑(S++List.take (1:Nat) (List.drop (0:Nat) [(0:Int)])).length:Int))∧
      ((0:Int)≤y7∧
        y7≤(↑(S++List.take (1:Nat) (List.drop (0:Nat) [(0:Int)])).length:Int)∧
         (↑(S++List.take (1:Nat) (List.drop (0:Nat) [(0:Int)])).length:Int)≤(↑(S++List.take (1:Nat) (List.drop (0:Nat) [(0:Int)])).length:Int))∧
       ((0:Int)≤y7∧y7<(↑(S++List.take (1:Nat) (List.drop (0:Nat) [(0:Int)])).length:Int))∧
        (0:Nat)+y7.toNat<
          (Bl (S++List.take (1:Nat) (List.drop (0:Nat) [(0:Int)])) ((0:Nat)+(IntKind.i64.wrap (y7+(1:Int))).toNat)
            (List.take ((↑(S++List.take (1:Nat) (List.drop (0:Nat) [(0:Int)])).length:Int).toNat-(IntKind.i64.wrap (y7+(1:Int))).toNat)
             (List.take ((↑(S++List.take (1:Nat) (List.drop (0:Nat) [(0:Int)])).length:Int).toNat-y7.toNat)
              (List.drop ((0:Nat)+y7.toNat) (S++List.take (1:Nat) (List.drop (0:Nat) [(0:Int)])))))).length∧
         (0:Nat)=(0:Nat)∧
          L.length=L.length∧
           L.length+(List.take (1:Nat) (List.drop (0:Nat) [s])).length≤Az∧
            (0:Nat)=(0:Nat)∧
             D.length=D.length∧
              D.length+(List.take (1:Nat) (List.drop (0:Nat) [d])).length≤Az∧
               P
                ((List.take (L++List.take (1:Nat) (List.drop (0:Nat) [s])).length (List.drop (0:Nat) (L++List.take (1:Nat) (List.drop (0:Nat) [s]))),
                  List.take (D++List.take (1:Nat) (List.drop (0:Nat) [d])).length (List.drop (0:Nat) (D++List.take (1:Nat) (List.drop (0:Nat) [d]))),
                  List.take (S++List.take (1:Nat) (List.drop (0:Nat) [(0:Int)])).length
                   (List.drop (0:Nat)
                    ((Bl (S++List.take (1:Nat) (List.drop (0:Nat) [(0:Int)])) ((0:Nat)+(IntKind.i64.wrap (y7+(1:Int))).toNat)
                       (List.take ((↑(S++List.take (1:Nat) (List.drop (0:Nat) [(0:Int)])).length:Int).toNat-(IntKind.i64.wrap (y7+(1:Int))).toNat)
                        (List.take ((↑(S++List.take (1:Nat) (List.drop (0:Nat) [(0:Int)])).length:Int).toNat-y7.toNat)
                         (List.drop ((0:Nat)+y7.toNat) (S++List.take (1:Nat) (List.drop (0:Nat) [(0:Int)])))))).set
                     ((0:Nat)+y7.toNat) (↑L.length:Int))),
                  b,()),
                 ()))=Afa Be2 (look [(119,Wm)]) Acu Try.f151 (L,D,S,b,s,d,()) P:=by kernel_rfl
theorem Bec (p:Int×ByteArray×List (List Int)×Unit) (s:List Int) (P:(List (List Int)×List Int×List Int×Bool×Unit)→Prop):(∃(y3:List Int),
 Ip.fn (s,())=some y3∧
  ∃(y4:(List (List Int)×List Int×List Int×Bool×PUnit)×PUnit),
   Acu.fn ([],[],[],false,y3,(0:Int),())=some y4∧
    ∃(y5:List Int),
     Ly.fn ((p.1,p.2.1,p.2.2.1,()),())=some y5∧
      (0:Nat)=(0:Nat)∧
       (0:Nat)=([]:List Int).length∧
        (0:Nat)=(0:Nat)∧
         (0:Nat)=([]:List Int).length∧
          (0:Nat)=(0:Nat)∧
           (0:Nat)=([]:List Int).length∧
            (0:Nat)=(0:Nat)∧
             y4.1.1.length=y4.1.1.length∧
              (0:Nat)=(0:Nat)∧
               y4.1.2.1.length=y4.1.2.1.length∧
                (0:Nat)=(0:Nat)∧
                 y4.1.2.2.1.length=y4.1.2.2.1.length∧
                  Bv
                   (fun (v6:Int×Int×ByteArray×List (List Int)×Bool×Bool×List (List Int)×List Int×List Int×List (List Int)×List Int×List Int×PUnit)
                     (k7:Int×Int×ByteArray×List (List Int)×Bool×Bool×List (List Int)×List Int×List Int×List (List Int)×List Int×List Int×PUnit→Prop)=>
                    Br (decide (v6.1<(↑v6.2.2.2.2.2.2.2.2.2.1.length:Int)))
                     ((0:Nat)=(0:Nat)∧
                      v6.2.2.2.2.2.2.1.length=v6.2.2.2.2.2.2.1.length∧
                       (0:Nat)=(0:Nat)∧
                        v6.2.2.2.2.2.2.2.1.length=v6.2.2.2.2.2.2.2.1.length∧
                         (0:Nat)=(0:Nat)∧
                          v6.2.2.2.2.2.2.2.2.1.length=v6.2.2.2.2.2.2.2.2.1.length∧
                           (0:Nat)=(0:Nat)∧
                            v6.2.2.2.2.2.2.2.2.2.1.length=v6.2.2.2.2.2.2.2.2.2.1.length∧
                             (0:Nat)=(0:Nat)∧
                              v6.2.2.2.2.2.2.2.2.2.2.1.length=v6.2.2.2.2.2.2.2.2.2.2.1.length∧
                               (0:Nat)=(0:Nat)∧
                                v6.2.2.2.2.2.2.2.2.2.2.2.1.length=v6.2.2.2.2.2.2.2.2.2.2.2.1.length∧
                                 Bv
                                  (fun
                                    (v8:
                                     Int×
                                      Int×
                                       ByteArray×
                                        List (List Int)×Bool×Bool×List (List Int)×List Int×List Int×List (List Int)×List Int×List Int×PUnit)
                                    (k9:
                                     Int×
                                       Int×
                                        ByteArray×
                                         List (List Int)×
                                          Bool×Bool×List (List Int)×List Int×List Int×List (List Int)×List Int×List Int×PUnit→
                                      Prop)=>
                                   Br (decide (v8.1<(↑y5.length:Int)))
                                    (((0:Int)≤v6.1∧v6.1<(↑v8.2.2.2.2.2.2.2.2.2.1.length:Int))∧
                                     ∃(y10:List Int),
                                      v8.2.2.2.2.2.2.2.2.2.1[(0:Nat)+v6.1.toNat]?=some y10∧
                                       ∃(y11:Int),
                                        idx y5 v8.1=some y11∧
                                         ∃(y12:List Int),
                                          Mm.fn ((v8.2.1,v8.2.2.1,v8.2.2.2.1,()),y10,y11,())=some y12∧
                                           ∃(y13:Int),
                                            Mn.fn
                                               ((List.take v8.2.2.2.2.2.2.2.2.2.1.length
                                                  (List.drop ((0:Nat)) v8.2.2.2.2.2.2.2.2.2.1),
                                                 List.take v8.2.2.2.2.2.2.2.2.2.2.1.length
                                                  (List.drop ((0:Nat)) v8.2.2.2.2.2.2.2.2.2.2.1),
                                                 List.take v8.2.2.2.2.2.2.2.2.2.2.2.1.length
                                                  (List.drop ((0:Nat)) v8.2.2.2.2.2.2.2.2.2.2.2.1),
                                                 v8.2.2.2.2.2.1,()),
                                                y12,())=
                                              some y13∧
                                             Br (decide (y13≥(0:Int)))
                                              ((0:Nat)=(0:Nat)∧
                                               v8.2.2.2.2.2.2.1.length=v8.2.2.2.2.2.2.1.length∧
                                                (0:Nat)=(0:Nat)∧
                                                 v8.2.2.2.2.2.2.2.1.length=v8.2.2.2.2.2.2.2.1.length∧
                                                  (0:Nat)=(0:Nat)∧
                                                   v8.2.2.2.2.2.2.2.2.1.length=v8.2.2.2.2.2.2.2.2.1.length∧
                                                    (0:Nat)=(0:Nat)∧
                                                     v8.2.2.2.2.2.2.2.2.2.1.length=v8.2.2.2.2.2.2.2.2.2.1.length∧
                                                      (0:Nat)=(0:Nat)∧
                                                       v8.2.2.2.2.2.2.2.2.2.2.1.length=
                                                         v8.2.2.2.2.2.2.2.2.2.2.1.length∧
                                                        (0:Nat)=(0:Nat)∧
                                                         v8.2.2.2.2.2.2.2.2.2.2.2.1.length=
                                                           v8.2.2.2.2.2.2.2.2.2.2.2.1.length∧
                                                          k9
                                                           (IntKind.i64.wrap (v8.1+(1:Int)),v8.2.1,v8.2.2.1,v8.2.2.2.1,
                                                            v8.2.2.2.2.1,v8.2.2.2.2.2.1,v8.2.2.2.2.2.2.1,
                                                            v8.2.2.2.2.2.2.2.1,v8.2.2.2.2.2.2.2.2.1,
                                                            v8.2.2.2.2.2.2.2.2.2.1,v8.2.2.2.2.2.2.2.2.2.2.1,
                                                            v8.2.2.2.2.2.2.2.2.2.2.2.1,()))
                                              (Br ((↑v8.2.2.2.2.2.2.2.2.2.1.length:Int)==(3000:Int))
                                               (P
                                                (List.take v8.2.2.2.2.2.2.2.2.2.1.length
                                                  (List.drop ((0:Nat)) v8.2.2.2.2.2.2.2.2.2.1),
                                                 List.take v8.2.2.2.2.2.2.2.2.2.2.1.length
                                                  (List.drop ((0:Nat)) v8.2.2.2.2.2.2.2.2.2.2.1),
                                                 List.take v8.2.2.2.2.2.2.2.2.2.2.2.1.length
                                                  (List.drop ((0:Nat)) v8.2.2.2.2.2.2.2.2.2.2.2.1),
                                                 v8.2.2.2.2.2.1,()))
                                               (((0:Int)≤v6.1∧v6.1<(↑v8.2.2.2.2.2.2.2.2.2.2.1.length:Int))∧
                                                ∃(y14:Int),
                                                 v8.2.2.2.2.2.2.2.2.2.2.1[(0:Nat)+v6.1.toNat]?=some y14∧
                                                  (0:Nat)=(0:Nat)∧
                                                   v8.2.2.2.2.2.2.2.2.2.1.length=v8.2.2.2.2.2.2.2.2.2.1.length∧
                                                    (0:Nat)=(0:Nat)∧
                                                     v8.2.2.2.2.2.2.2.2.2.2.1.length=v8.2.2.2.2.2.2.2.2.2.2.1.length∧
                                                      (0:Nat)=(0:Nat)∧
                                                       v8.2.2.2.2.2.2.2.2.2.2.2.1.length=
                                                         v8.2.2.2.2.2.2.2.2.2.2.2.1.length∧
                                                        ∃(y15:(List (List Int)×List Int×List Int×Bool×PUnit)×PUnit),
                                                         Acu.fn
                                                            (v8.2.2.2.2.2.2.2.2.2.1,v8.2.2.2.2.2.2.2.2.2.2.1,
                                                             v8.2.2.2.2.2.2.2.2.2.2.2.1,v8.2.2.2.2.2.1,y12,
                                                             IntKind.i64.wrap (y14+(1:Int)),())=
                                                           some y15∧
                                                          (0:Nat)=(0:Nat)∧
                                                           v8.2.2.2.2.2.2.1.length=v8.2.2.2.2.2.2.1.length∧
                                                            (0:Nat)=(0:Nat)∧
                                                             v8.2.2.2.2.2.2.2.1.length=v8.2.2.2.2.2.2.2.1.length∧
                                                              (0:Nat)=(0:Nat)∧
                                                               v8.2.2.2.2.2.2.2.2.1.length=
                                                                 v8.2.2.2.2.2.2.2.2.1.length∧
                                                                (0:Nat)=(0:Nat)∧
                                                                 y15.1.1.length=y15.1.1.length∧
                                                                  (0:Nat)=(0:Nat)∧
                                                                   y15.1.2.1.length=y15.1.2.1.length∧
                                                                    (0:Nat)=(0:Nat)∧
                                                                     y15.1.2.2.1.length=y15.1.2.2.1.length∧
                                                                      k9
                                                                       (IntKind.i64.wrap (v8.1+(1:Int)),v8.2.1,
                                                                        v8.2.2.1,v8.2.2.2.1,v8.2.2.2.2.1,
                                                                        y15.1.2.2.2.1,v8.2.2.2.2.2.2.1,
                                                                        v8.2.2.2.2.2.2.2.1,
                                                                        v8.2.2.2.2.2.2.2.2.1,y15.1.1,
                                                                        y15.1.2.1,y15.1.2.2.1,()))))
                                    ((0:Nat)=(0:Nat)∧
                                     v8.2.2.2.2.2.2.1.length=v8.2.2.2.2.2.2.1.length∧
                                      (0:Nat)=(0:Nat)∧
                                       v8.2.2.2.2.2.2.2.1.length=v8.2.2.2.2.2.2.2.1.length∧
                                        (0:Nat)=(0:Nat)∧
                                         v8.2.2.2.2.2.2.2.2.1.length=v8.2.2.2.2.2.2.2.2.1.length∧
                                          (0:Nat)=(0:Nat)∧
                                           v8.2.2.2.2.2.2.2.2.2.1.length=v8.2.2.2.2.2.2.2.2.2.1.length∧
                                            (0:Nat)=(0:Nat)∧
                                             v8.2.2.2.2.2.2.2.2.2.2.1.length=v8.2.2.2.2.2.2.2.2.2.2.1.length∧
                                              (0:Nat)=(0:Nat)∧
                                               v8.2.2.2.2.2.2.2.2.2.2.2.1.length=v8.2.2.2.2.2.2.2.2.2.2.2.1.length∧
                                                k7
                                                 (IntKind.i64.wrap (v6.1+(1:Int)),v8.2.1,v8.2.2.1,v8.2.2.2.1,v8.2.2.2.2.1,
                                                  v8.2.2.2.2.2.1,v8.2.2.2.2.2.2.1,v8.2.2.2.2.2.2.2.1,
                                                  v8.2.2.2.2.2.2.2.2.1,v8.2.2.2.2.2.2.2.2.2.1,
                                                  v8.2.2.2.2.2.2.2.2.2.2.1,v8.2.2.2.2.2.2.2.2.2.2.2.1,())))
                                  ((0:Int),v6.2.1,v6.2.2.1,v6.2.2.2.1,v6.2.2.2.2.1,v6.2.2.2.2.2.1,v6.2.2.2.2.2.2.1,
                                   v6.2.2.2.2.2.2.2.1,v6.2.2.2.2.2.2.2.2.1,v6.2.2.2.2.2.2.2.2.2.1,
                                   v6.2.2.2.2.2.2.2.2.2.2.1,v6.2.2.2.2.2.2.2.2.2.2.2.1,PUnit.unit))
                     (P
                      (List.take v6.2.2.2.2.2.2.2.2.2.1.length (List.drop ((0:Nat)) v6.2.2.2.2.2.2.2.2.2.1),
                       List.take v6.2.2.2.2.2.2.2.2.2.2.1.length (List.drop ((0:Nat)) v6.2.2.2.2.2.2.2.2.2.2.1),
                       List.take v6.2.2.2.2.2.2.2.2.2.2.2.1.length (List.drop ((0:Nat)) v6.2.2.2.2.2.2.2.2.2.2.2.1),true,())))
                   ((0:Int),p.1,p.2.1,p.2.2.1,false,y4.1.2.2.2.1,[],[],[],y4.1.1,y4.1.2.1,y4.1.2.2.1,PUnit.unit))=fnW Bfe (look [(120,Ip),(151,Acu),(142,Ly),(129,Mm),(69,Mn)]) Cw Try.f105 (p,s,()) P:=by kernel_rfl
theorem Aip: ∀ {a b:List Int},Bx a b=0↔a=b
 | [],[]=>by simp [Bx]
 | [],_::_=>by simp [Bx]
 |_::_,[]=>by simp [Bx]
 |x::a,y::b=>by
  simp only [Bx,List.cons.injEq]
  by_cases h1:x<y
  ·rw [if_pos h1]
   exact ⟨fun h=>by omega,fun h=>by omega⟩
  ·rw [if_neg h1]
   by_cases h2:x>y
   ·rw [if_pos h2]
    exact ⟨fun h=>by omega,fun h=>by omega⟩
   ·rw [if_neg h2,Aip]
    exact ⟨fun h=>⟨by omega,h⟩,fun h=>h.2⟩
theorem Axs: ∀(a b:List Int),Bx b a= -Bx a b
 | [],[]=>by simp [Bx]
 | [],_::_=>by simp [Bx]
 |_::_,[]=>by simp [Bx]
 |x::a,y::b=>by
  simp only [Bx]
  rcases Int.lt_trichotomy x y with h1|h1|h1
  ·simp [h1,show ¬y<x by omega]
  ·subst h1
   simp [Axs a b]
  ·simp [h1,show ¬x<y by omega]
theorem Amn: ∀ {a b c:List Int},Bx a b<0→Bx b c<0→Bx a c<0
 | [],[],_,h,_=>by simp [Bx] at h
 |_::_,[],_,h,_=>by simp [Bx] at h
 |_,_::_,[],_,h=>by simp [Bx] at h
 | [],_::_,_::_,_,_=>by simp [Bx]
 |x::a,y::b,z::c,h1,h2=>by
  simp only [Bx] at h1 h2⊢
  by_cases e1:x<y
  ·by_cases e2:y<z
   ·rw [if_pos (by omega)];omega
   ·rw [if_neg e2] at h2
    by_cases e3:y>z
    ·rw [if_pos e3] at h2;omega
    ·rw [if_pos (by omega)];omega
  ·rw [if_neg e1] at h1
   by_cases e2:x>y
   ·rw [if_pos e2] at h1;omega
   ·rw [if_neg e2] at h1
    by_cases e3:y<z
    ·rw [if_pos (by omega)];omega
    ·rw [if_neg e3] at h2
     by_cases e4:y>z
     ·rw [if_pos e4] at h2;omega
     ·rw [if_neg e4] at h2
      rw [if_neg (by omega),if_neg (by omega)]
      exact Amn h1 h2
theorem lt_iff {a b:List Int} :Vs a b=true↔Bx a b<0:=decide_eq_true_iff
theorem Az1 {a b c:List Int} (h1:Vs a b=true) (h2:Vs b c=true):Vs a c=true:=lt_iff.2 (Amn (lt_iff.1 h1) (lt_iff.1 h2))
theorem Ack (a:List Int):Vs a a=false:=by
 have:Bx a a=0:=Aip.2 rfl
 unfold Vs;rw [this];rfl
theorem Bbm {a b:List Int} (h:Vs a b=false) (hne:a≠b):Vs b a=true:=by
 rw [lt_iff,Axs a b]
 have h1: ¬Bx a b<0:=fun h'=>by rw [lt_iff.2 h'] at h;cases h
 have h2:Bx a b≠0:=fun h'=>hne (Aip.1 h')
 omega
theorem Abo {α:Type} (q:α→Bool): ∀(l:List α),l.Pairwise (fun i j=>q j=true→q i=true)→ ∀k (hk:k<l.length),k<(l.takeWhile q).length↔q l[k]=true
 | [],_,k,hk=>by simp at hk
 |a::l,h,k,hk=>by
  obtain ⟨h1,h2⟩:=List.pairwise_cons.1 h
  by_cases ha:q a=true
  ·rw [List.takeWhile_cons_of_pos ha]
   rcases k with _|k
   ·simpa using ha
   ·simp only [List.length_cons,List.getElem_cons_succ,Nat.add_lt_add_iff_right]
    exact Abo q l h2 k (by simpa using hk)
  ·rw [List.takeWhile_cons_of_neg ha]
   simp only [List.length_nil,Nat.not_lt_zero,false_iff]
   rcases k with _|k
   ·exact ha
   ·simp only [List.getElem_cons_succ]
    exact fun hq=>ha (h1 _ (List.getElem_mem _) hq)
theorem Cr.Ajc {m:Nat} {L:List (List Int)} {srt:List Int} (h:Cr m L srt):srt.length=L.length:=by rw [h.perm.length_eq,Ru]
theorem Cr.idx {m:Nat} {L:List (List Int)} {srt:List Int} (h:Cr m L srt) {k:Nat} (hk:k<srt.length):0≤srt[k]∧srt[k]<L.length:=Ix.1 (h.perm.mem_iff.1 (List.getElem_mem hk))
theorem Cr.Uq {m:Nat} {L:List (List Int)} {srt:List Int} (h:Cr m L srt) (s:List Int) {k:Nat} (hk:k<srt.length):k<Cm L srt s↔Vs (L.getD srt[k].toNat []) s=true:=
 Abo _ srt (h.sorted.imp fun hij hj=>Az1 hij hj) k hk
theorem Ayb (L:List (List Int)) (srt s:List Int):Cm L srt s≤srt.length:=(List.takeWhile_sublist _).length_le
theorem Cr.inj {m:Nat} {L:List (List Int)} {srt:List Int} (h:Cr m L srt) {i j:Nat} (hi:i<L.length) (hj:j<L.length) (e:L[i]=L[j]):i=j:=by
 have mem: ∀i,i<L.length→(i:Int)∈srt:=fun i hi=>h.perm.mem_iff.2 (Ix.2 ⟨by omega,by omega⟩)
 obtain ⟨p,hp,ep⟩:=List.mem_iff_getElem.1 (mem i hi)
 obtain ⟨q,hq,eq⟩:=List.mem_iff_getElem.1 (mem j hj)
 have get: ∀i (hi:i<L.length),L.getD ((i:Int)).toNat []=L[i]:=fun i hi=>by rw [Int.toNat_natCast,List.getD_eq_getElem?_getD,List.getElem?_eq_getElem hi];rfl
 rcases Nat.lt_trichotomy p q with h1|h1|h1
 ·have:=List.pairwise_iff_getElem.1 h.sorted p q hp hq h1
  rw [ep,eq,get i hi,get j hj,e,Ack] at this
  cases this
 ·subst h1
  rw [ep] at eq
  omega
 ·have:=List.pairwise_iff_getElem.1 h.sorted q p hq hp h1
  rw [ep,eq,get i hi,get j hj,e,Ack] at this
  cases this
theorem Mc {L:List (List Int)} {k:Nat} (h:k<L.length):L.getD k []=L[k]:=by rw [List.getD_eq_getElem?_getD,List.getElem?_eq_getElem h];rfl
theorem Cr.Aol {m:Nat} {L:List (List Int)} {srt:List Int} (h:Cr m L srt) {s:List Int} :
  (∃hk:Cm L srt s<srt.length,L.getD srt[Cm L srt s].toNat []=s∧Abe L s=srt[Cm L srt s])∨(Abe L s= -1∧ ∀hk:Cm L srt s<srt.length,L.getD srt[Cm L srt s].toNat []≠s):=by
 by_cases hm:s∈L
 ·left
  obtain ⟨j,hj,rfl⟩:=List.mem_iff_getElem.1 hm
  obtain ⟨p,hp,ep⟩:=List.mem_iff_getElem.1 (h.perm.mem_iff.2 (Ix.2 ⟨by omega,by omega⟩):(j:Int)∈srt)
  have gj:L.getD srt[p].toNat []=L[j]:=by rw [ep,Int.toNat_natCast,Mc hj]
  have hs:Cm L srt L[j]=p:=by
   have h1: ¬p<Cm L srt L[j]:=fun h1=>by
    have:=(h.Uq L[j] hp).1 h1
    rw [gj,Ack] at this;cases this
   have h2: ¬Cm L srt L[j]<p:=fun h2=>by
    have h3:=(h.Uq L[j] (k:=Cm L srt L[j]) (by omega)).2 (by
     have:=List.pairwise_iff_getElem.1 h.sorted (Cm L srt L[j]) p (by omega) hp h2
     rw [gj] at this;exact this)
    omega
   omega
  have hx:L.idxOf L[j]=j:=by
   have h1:L.idxOf L[j]<L.length:=List.idxOf_lt_length_of_mem hm
   exact h.inj h1 hj (List.getElem_idxOf h1)
  refine ⟨by omega,?_,?_⟩
  ·simp only [hs];exact gj
  ·unfold Abe
   rw [if_pos hm,hx]
   simp only [hs];exact ep.symm
 ·right
  refine ⟨by unfold Abe;rw [if_neg hm],fun hk e=>hm ?_⟩
  have hi:=h.idx hk
  rw [Mc (by omega)] at e
  rw [←e]
  exact List.getElem_mem _
theorem Bbc (srt:List Int) (k:Nat) (x:Int):(Mt srt k x).Perm (x::srt):=by
 unfold Mt
 refine List.perm_middle.trans (List.Perm.cons x ?_)
 rw [List.take_append_drop]
theorem Cr.add {m:Nat} {L:List (List Int)} {srt s:List Int} (h:Cr m L srt) (hn:s∉L) (hl:s.length=m) (hr:L.length<3000):Cr m (L++ [s]) (Mt srt (Cm L srt s) L.length):=by
 have get1: ∀i∈srt,(L++ [s]).getD i.toNat []=L.getD i.toNat []:=fun i hi=>by
  have:=Ix.1 (h.perm.mem_iff.1 hi)
  rw [List.getD_eq_getElem?_getD,List.getD_eq_getElem?_getD,List.getElem?_append_left (by omega)]
 have get2:(L++ [s]).getD ((L.length:Int)).toNat []=s:=by
  rw [Int.toNat_natCast,List.getD_eq_getElem?_getD,List.getElem?_append_right (by omega),Nat.sub_self];rfl
 refine ⟨by rw [List.length_append,List.length_singleton];omega,fun x hx=>?_,h.short,?_,?_⟩
 ·rcases List.mem_append.1 hx with hx|hx
  ·exact h.len x hx
  ·rw [List.mem_singleton.1 hx];exact hl
 ·refine (Bbc _ _ _).trans ?_
  rw [List.length_append,List.length_singleton,Uu]
  exact (List.Perm.cons _ h.perm).trans (List.perm_append_singleton _ _).symm
 ·unfold Mt
  have hs:=h.sorted
  rw [←List.take_append_drop (Cm L srt s) srt] at hs
  obtain ⟨s1,s2,s3⟩:=List.pairwise_append.1 hs
  have mt: ∀i∈srt.take (Cm L srt s),i∈srt∧Vs (L.getD i.toNat []) s=true:=fun i hi=>by
   obtain ⟨k,hk,rfl⟩:=List.mem_iff_getElem.1 hi
   have hk2:k<Cm L srt s:=by rw [List.length_take] at hk;omega
   have hk3:k<srt.length:=by rw [List.length_take] at hk;omega
   rw [List.getElem_take]
   exact ⟨List.getElem_mem _,(h.Uq s hk3).1 hk2⟩
  have md: ∀i∈srt.drop (Cm L srt s),i∈srt∧Vs s (L.getD i.toNat [])=true:=fun i hi=>by
   obtain ⟨k,hk,rfl⟩:=List.mem_iff_getElem.1 hi
   rw [List.length_drop] at hk
   have hk3:Cm L srt s+k<srt.length:=by omega
   rw [List.getElem_drop]
   refine ⟨List.getElem_mem _,Bbm ?_ fun e=>hn ?_⟩
   ·exact Bool.eq_false_iff.2 fun hh=>by
     have:=(h.Uq s hk3).2 hh
     omega
   ·have hi:=h.idx hk3
    rw [Mc (by omega)] at e
    rw [←e];exact List.getElem_mem _
  refine List.pairwise_append.2 ⟨s1.imp_of_mem fun {a b} ha hb hab=>?_,List.pairwise_cons.2 ⟨fun b hb=>?_,s2.imp_of_mem fun {a b} ha hb hab=>?_⟩,fun a ha b hb=>?_⟩
  ·rw [get1 a (mt a ha).1,get1 b (mt b hb).1];exact hab
  ·rw [get2,get1 b (md b hb).1];exact (md b hb).2
  ·rw [get1 a (md a ha).1,get1 b (md b hb).1];exact hab
  ·rcases List.mem_cons.1 hb with rfl|hb
   ·rw [get2,get1 a (mt a ha).1];exact (mt a ha).2
   ·rw [get1 a (mt a ha).1,get1 b (md b hb).1];exact s3 a ha b hb
theorem Wn (L:List (List Int)) (s:List Int):Rr (L++ [s])=Mt (Rr L) (Cm L (Rr L) s) L.length:=by
 unfold Rr
 rw [List.length_append,List.length_singleton,List.range_succ,List.foldl_append]
 have e: ∀(is:List Nat) (S:List Int),(∀i∈is,i<L.length)→is.foldl (fun (S:List Int) (i:Nat)=>Mt S (Cm ((L++ [s]).take i) S ((L++ [s]).getD i [])) (i:Int)) S=is.foldl (fun (S:List Int) (i:Nat)=>Mt S (Cm (L.take i) S (L.getD i [])) (i:Int)) S:=by
  intro is
  induction is with
  |nil=>intro S _;rfl
  |cons i is ih=>
   intro S h
   have hi:=h i (by simp)
   rw [List.foldl_cons,List.foldl_cons,ih _ fun j hj=>h j (List.mem_cons_of_mem _ hj)]
   congr 2
   rw [List.take_append_of_le_length (by omega),List.getD_eq_getElem?_getD,List.getElem?_append_left hi,←List.getD_eq_getElem?_getD]
 rw [e _ _ fun i hi=>List.mem_range.1 hi]
 simp only [List.foldl_cons,List.foldl_nil]
 congr 2
 ·rw [List.take_append_of_le_length (Nat.le_refl _),List.take_length]
 ·rw [List.getD_eq_getElem?_getD,List.getElem?_append_right (by omega),Nat.sub_self];rfl
theorem Aej {m:Nat} (h:m≤20):Cr m [] []:=⟨by simp,fun x hx=>(by cases hx),h,by simp [upto],List.Pairwise.nil⟩
theorem Bba {α:Type} {xs:List α} {y:Int} (h0:0≤y) (h:y.toNat<xs.length):idx xs y=some xs[y.toNat]:=by
 unfold idx
 rw [if_pos h0,List.getElem?_eq_getElem h]
theorem Bf6 (f:SS) (s:List Int) (h:Cr s.length f.1 f.2.2.1):fnW tab (look [(135,Nq)]) Wm Try.f119 (f,s,()) (fun (z:Int)=>z=(Cm f.1 f.2.2.1 s:Int)):=by
 obtain ⟨L,D,srt,b,⟨⟩⟩:=f
 dsimp only at h⊢
 have hle:=Ayb L srt s
 have hl2:=h.Ajc
 have hfew:=h.few
 refine Eq.mp (Bfl (L,D,srt,b,()) s _) ?_
 refine Bv.mk (fun v=>v.2.2.1=L∧v.2.2.2.2.1=srt∧ ∃lo hi:Nat,v.1=lo∧v.2.1=hi∧lo≤hi∧hi≤srt.length∧lo≤Cm L srt s∧Cm L srt s≤hi) (fun v=>(v.2.1-v.1).toNat)
  ⟨rfl,rfl,0,srt.length,rfl,rfl,by omega,by omega,by omega,hle⟩ ?_
 rintro ⟨lo',hi',L',D',srt',b',⟨⟩⟩ ⟨h1,h2,lo,hi,h3,h4,h5,h6,h7,h8⟩
 dsimp only at h1 h2 h3 h4⊢
 subst h1 h2 h3 h4
 refine Br.dec (fun hl=>?_) fun hl=>?_
 ·have em:IntKind.i64.wrap ((IntKind.i64.wrap ((lo:Int)+(hi:Int))).tdiv 2)=(((lo+hi)/2:Nat):Int):=by
   rw [Bq (n:=(lo:Int)+(hi:Int)) (by omega) (by omega),Int.tdiv_eq_ediv_of_nonneg (by omega),Bq (by omega) (by omega)]
   omega
  rw [em]
  have hm1:(lo+hi)/2<srt'.length:=by omega
  have hi1:=h.idx hm1
  have hi2:srt'[(lo+hi)/2].toNat<L'.length:=by omega
  have hgd:=Mc hi2
  have hlen:=h.len _ (List.getElem_mem hi2)
  have hsh:short L'[srt'[(lo+hi)/2].toNat]:=by
   unfold short
   have:=h.short;omega
  refine ⟨by decide,_,Aj hm1,_,Bba hi1.1 hi2,_,if_pos ⟨hsh,hlen⟩,⟨fun hc=>?_,fun hc=>?_⟩⟩
  ·have hc:Vs L'[srt'[(lo+hi)/2].toNat] s=true:=hc
   have hs:=(h.Uq s hm1).2 (by rw [hgd];exact hc)
   rw [Al (by omega)]
   exact ⟨⟨rfl,rfl,(lo+hi)/2+1,hi,rfl,rfl,by omega,h6,by omega,h8⟩,by omega⟩
  ·have hc:Vs L'[srt'[(lo+hi)/2].toNat] s=false:=hc
   have hs: ¬(lo+hi)/2<Cm L' srt' s:=fun hh=>by
    have:=(h.Uq s hm1).1 hh
    rw [hgd,hc] at this;cases this
   exact ⟨⟨rfl,rfl,lo,(lo+hi)/2,rfl,rfl,by omega,by omega,h7,by omega⟩,by omega⟩
 ·show (lo:Int)=_
  omega
theorem Akk:Sound Try.prog 119 Wm:=
 Sound.mkS Bi (Ad Akj Ao) mixed Try.func119 (by kernel_rfl) (by kernel_rfl) fun x h=>Bf6 x.1 x.2.1 h
theorem Bbz (f:SS) (s:List Int) (h:Cr s.length f.1 f.2.2.1):fnW tab (look [(119,Wm),(59,Dj)]) Mn Try.f69 (f,s,()) (fun (z:Int)=>z=Abe f.1 s):=by
 obtain ⟨L,D,srt,b,⟨⟩⟩:=f
 dsimp only at h⊢
 refine Eq.mp (Bcx (L,D,srt,b,()) s _) ⟨_,if_pos h,Br.dec (fun hl=>?_) fun hl=>?_⟩
 ·have hl:Cm L srt s<srt.length:=by
   have hl:((Cm L srt s:Nat):Int)<(srt.length:Int):=hl
   omega
  have hi1:=h.idx hl
  have hi2:srt[Cm L srt s].toNat<L.length:=by omega
  have hgd:=Mc hi2
  have hlen:=h.len _ (List.getElem_mem hi2)
  have hsh:short L[srt[Cm L srt s].toNat]:=by
   unfold short
   have:=h.short;omega
  refine ⟨_,Aj hl,_,Bba hi1.1 hi2,_,if_pos hsh,⟨fun hc=>⟨_,Aj hl,?_⟩,fun hc=>?_⟩⟩
  ·have hc:L[srt[Cm L srt s].toNat]=s:=of_decide_eq_true hc
   rcases h.Aol (s:=s) with ⟨hk,_,e⟩|⟨_,hne⟩
   ·exact e.symm
   ·exact absurd (by rw [hgd];exact hc) (hne hl)
  ·have hc: ¬L[srt[Cm L srt s].toNat]=s:=of_decide_eq_false hc
   rcases h.Aol (s:=s) with ⟨hk,e,_⟩|⟨e,_⟩
   ·rw [hgd] at e;exact absurd e hc
   ·exact e.symm
 ·have hl: ¬Cm L srt s<srt.length:=by
   have hl: ¬((Cm L srt s:Nat):Int)<(srt.length:Int):=hl
   omega
  rcases h.Aol (s:=s) with ⟨hk,e,_⟩|⟨e,_⟩
  ·exact absurd hk hl
  ·exact e.symm
theorem Aep:Sound Try.prog 69 Mn:=
 Sound.mkS Bi (Ad Akk (Ad Ahn Ao)) mixed Try.func69 (by kernel_rfl) (by kernel_rfl) fun x h=>Bbz x.1 x.2.1 h
theorem Avn {S:List Int} {k:Nat} (h:k≤S.length) (n:Int):
  (Bl (S++ [0]) (k+1) (List.take ((S++ [0]).length-(k+1)) (List.take ((S++ [0]).length-k) (List.drop k (S++ [0]))))).set k n=Mt S k n:=by
 obtain ⟨A,B,rfl,hA⟩: ∃A B,S=A++B∧A.length=k:=⟨S.take k,S.drop k,(List.take_append_drop k S).symm,by rw [List.length_take];omega⟩
 subst hA
 have e1:List.drop A.length (A++B++ [0])=B++ [0]:=by rw [List.append_assoc,List.drop_left]
 have e2:List.take ((A++B++ [0]).length-A.length) (B++ [0])=B++ [0]:=List.take_of_length_le (by simp only [List.length_append,List.length_singleton];omega)
 have e3:List.take ((A++B++ [0]).length-(A.length+1)) (B++ [0])=B:=by
  have:(A++B++ [(0:Int)]).length-(A.length+1)=B.length:=by simp only [List.length_append,List.length_singleton];omega
  rw [this,List.take_left]
 rw [e1,e2,e3]
 unfold Bl Mt
 have e4:List.drop (A.length+1+B.length) (A++B++ [0])= []:=List.drop_eq_nil_of_le (by simp only [List.length_append,List.length_singleton];omega)
 obtain ⟨c,hc⟩: ∃c,List.take (A.length+1) (A++B++ [0])=A++ [c]:=by
  rw [List.append_assoc,List.take_append,List.take_of_length_le (by omega)]
  cases B with
  |nil=>exact ⟨0,by simp⟩
  |cons b B=>exact ⟨b,by simp⟩
 rw [e4,hc,List.append_nil,List.append_assoc,List.singleton_append,Bdt,List.take_left,List.drop_left]
theorem Bf4 (L:List (List Int)) (D S:List Int) (b:Bool) (s:List Int) (d:Int) (h:Cr s.length L S∧D.length≤3000):
  Afa Be2 (look [(119,Wm)]) Acu Try.f151 (L,D,S,b,s,d,()) (fun (z:(List (List Int)×List Int×List Int×Bool×Unit)×Unit)=>z=((L++ [s],D++ [d],Mt S (Cm L S s) L.length,b,()),())):=by
 obtain ⟨h,hD⟩:=h
 have hle:=Ayb L S s
 have hl2:=h.Ajc
 have hfew:=h.few
 refine Eq.mp (Bfj L D S b s d _) ?_
 rw [Cz L,Cz D,Cz S]
 refine ⟨_,if_pos h,?_⟩
 dsimp only
 have es:List.take 1 (List.drop 0 [(0:Int)])= [0]:=rfl
 have el:(S++ [(0:Int)]).length=S.length+1:=by simp
 rw [es,Al (by omega),Nat.zero_add,Nat.zero_add,Int.toNat_natCast,Int.toNat_natCast,Int.toNat_natCast]
 refine ⟨rfl,rfl,by show S.length+1≤4294967296;omega,⟨by omega,by omega,by omega⟩,⟨by omega,by omega,by omega⟩,⟨by omega,by omega⟩,?_,rfl,rfl,by show L.length+1≤4294967296;omega,rfl,rfl,by show D.length+1≤4294967296;omega,?_⟩
 ·unfold Bl
  simp only [List.length_append,List.length_take,List.length_drop,List.length_singleton]
  omega
 ·rw [Avn hle,Cz,Cz]
  have e5:List.take (S++ [(0:Int)]).length (List.drop 0 (Mt S (Cm L S s) (L.length:Int)))=Mt S (Cm L S s) (L.length:Int):=by
   rw [List.drop_zero,List.take_of_length_le]
   unfold Mt
   simp only [List.length_append,List.length_cons,List.length_take,List.length_drop,List.length_nil]
   omega
  rw [e5]
  rfl
theorem Ax2:Dz Try.prog 151 Acu:=
 Dz.mkM Bcn (Ad Akk Ao) mixed Try.func151 (by kernel_rfl) (by kernel_rfl) fun x h=>Bf4 x.1 x.2.1 x.2.2.1 x.2.2.2.1 x.2.2.2.2.1 x.2.2.2.2.2.1 h
structure Pj (p:PP) (m:Nat) (L:List (List Int)) (D:List Int):Prop where
 ok:Cr m L (Rr L)
 len:D.length=L.length
 row: ∀x∈L,∀y∈x,0≤y∧y<p.1
 dep: ∀j (h:j<D.length),0≤D[j]∧D[j]≤j
theorem Api {p:PP} (hv:Valid p) {x:List Int} {l:Int} (hx: ∀y∈x,0≤y∧y<p.1) (hl:Ef (List.length p.2.2.1) l):
  (Aa x (Ae p.2.2.1 l)).length=x.length∧ ∀y∈Aa x (Ae p.2.2.1 l),0≤y∧y<p.1:=by
 obtain ⟨h1,h2⟩:=Afi hv hl
 refine ⟨Rz _ _,fun y hy=>?_⟩
 have:=Arv (n:=(Ae p.2.2.1 l).length) (fun z hz=>by have:=hx z hz;omega) h2 y hy
 omega
theorem Pj.add {p:PP} {m:Nat} {L:List (List Int)} {D:List Int} (h:Pj p m L D) {y:List Int} {d:Int} (hn:y∉L) (hl:y.length=m) (hr:L.length<3000) (hy: ∀z∈y,0≤z∧z<p.1) (hd:0≤d∧d≤L.length):Pj p m (L++ [y]) (D++ [d]):=by
 have hlen:=h.len
 refine ⟨by rw [Wn];exact h.ok.add hn hl hr,by simp [hlen],fun x hx=>?_,fun j hj=>?_⟩
 ·rcases List.mem_append.1 hx with hx|hx
  ·exact h.row x hx
  ·rw [List.mem_singleton.1 hx];exact hy
 ·by_cases e:j<D.length
  ·rw [List.getElem_append_left e];exact h.dep j e
  ·simp only [List.length_append,List.length_singleton] at hj
   have:j=D.length:=by omega
   subst this
   rw [List.getElem_append_right (by omega)]
   simp only [Nat.sub_self,List.getElem_cons_zero]
   omega
theorem Aaa {p:PP} {s:List Int} (hs:s.length≤20) (hr: ∀y∈s,0≤y∧y<p.1):Pj p s.length [s] [0]:=by
 refine ⟨?_,rfl,fun x hx=>by rw [List.mem_singleton.1 hx];exact hr,fun j hj=>?_⟩
 ·have:=(Aej hs).add (s:=s) (by simp) rfl (by simp)
  have e:Rr [s]=Mt [] (Cm [] [] s) 0:=Wn [] s
  rw [e];exact this
 ·simp only [List.length_singleton] at hj
  have:j=0:=by omega
  subst this
  simp
theorem An9 {L:List (List Int)} {s:List Int} :Abe L s≥0↔s∈L:=by
 unfold Abe
 split
 ·rename_i h;exact ⟨fun _=>h,fun _=>by omega⟩
 ·rename_i h;exact ⟨fun hh=>by omega,fun hh=>absurd hh h⟩
theorem Bdp (p:PP) (s:List Int) (h:Ay p=true∧s.length≤20∧ ∀y∈s,0≤y∧y<p.1):fnW Bfe (look [(120,Ip),(151,Acu),(142,Ly),(129,Mm),(69,Mn)]) Cw Try.f105 (p,s,()) (fun (z:SS)=>z=Ha p.2.2.1 s):=by
 obtain ⟨hv,hs,hr⟩:=h
 have hV:=valid hv
 have hfew:=hV.few
 have hb0:=Aaa hs hr
 have hsh:short s:=by unfold short;omega
 obtain ⟨ls,hls⟩: ∃ls,Be (List.length p.2.2.1)=ls:=⟨_,rfl⟩
 refine Eq.mp (Bec p s _) ⟨_,if_pos hsh,_,if_pos ⟨Aej hs,by show 0≤3000;omega⟩,ls,(if_pos (by show List.length p.2.2.1≤8;exact hfew.2)).trans (congrArg some hls),rfl,rfl,rfl,rfl,rfl,rfl,rfl,rfl,rfl,rfl,rfl,rfl,?_⟩
 have e0:Mt [] (Cm [] [] s) ((([]:List (List Int)).length:Nat):Int)=Rr [s]:=(Wn [] s).symm
 show Bv _ ((0:Int),p.1,p.2.1,p.2.2.1,false,false,[],[],[],[s],[(0:Int)],Mt [] (Cm [] [] s) ((([]:List (List Int)).length:Nat):Int),PUnit.unit)
 rw [e0]
 have hll:ls.length≤16:=by rw [←hls,Kt];omega
 have hmem: ∀l∈ls,Ef (List.length p.2.2.1) l:=fun l hl=>Ls (hls▸hl)
 have hstart:Hm p.2.2.1 ls 3001 0 [s] [0]=Fq p.2.2.1 s:=by unfold Fq;rw [hls]
 refine Bv.mk (fun v=>v.2.1=p.1∧v.2.2.1=p.2.1∧v.2.2.2.1=p.2.2.1∧v.2.2.2.2.2.1=false∧ ∃k:Nat,v.1=k∧k≤v.2.2.2.2.2.2.2.2.2.1.length∧
   Pj p s.length v.2.2.2.2.2.2.2.2.2.1 v.2.2.2.2.2.2.2.2.2.2.1∧v.2.2.2.2.2.2.2.2.2.2.2.1=Rr v.2.2.2.2.2.2.2.2.2.1∧
   Hm p.2.2.1 ls (3001-k) k v.2.2.2.2.2.2.2.2.2.1 v.2.2.2.2.2.2.2.2.2.2.1=Fq p.2.2.1 s) (fun v=>3001-v.1.toNat)
  ⟨rfl,rfl,rfl,rfl,0,rfl,by simp,hb0,rfl,hstart⟩ ?_
 rintro ⟨k',n1,n2,n3,b0,wh,x1,x2,x3,L0,D0,S0,⟨⟩⟩ ⟨h1,h2,h3,h4,k,h5,h6,h7,h8,h9⟩
 dsimp only at h1 h2 h3 h4 h5 h6 h7 h8 h9
 subst h1 h2 h3 h4 h5 h8
 dsimp only
 have hL0:=h7.ok.few
 have hD0:=h7.len
 refine Br.dec (fun hl=>⟨rfl,rfl,rfl,rfl,rfl,rfl,rfl,rfl,rfl,rfl,rfl,rfl,?_⟩) fun hl=>?_
 ·have hk:k<L0.length:=by omega
  have hkD:k<D0.length:=by omega
  have hx: ∀y∈L0[k],0≤y∧y<p.1:=h7.row _ (List.getElem_mem hk)
  have hxl:L0[k].length=s.length:=h7.ok.len _ (List.getElem_mem hk)
  have hdk:=h7.dep k hkD
  obtain ⟨f,hf⟩: ∃f,3001-k=f+1:=⟨3000-k,by omega⟩
  have hgo: ∀L' D' ok,Ga p.2.2.1 L0[k] D0[k] ls L0 D0=(L',D',ok)→Fq p.2.2.1 s=if ok=true then Hm p.2.2.1 ls f (k+1) L' D' else (L',D',false):=by
   intro L' D' ok he
   rw [←h9,hf,Hm,if_pos hk,Mc hk,List.getD_eq_getElem?_getD,List.getElem?_eq_getElem hkD]
   simp only [Option.getD_some]
   rw [he]
   cases ok<;>rfl
  refine Bv.mk (fun v=>v.2.1=p.1∧v.2.2.1=p.2.1∧v.2.2.2.1=p.2.2.1∧v.2.2.2.2.2.1=false∧ ∃i:Nat,v.1=i∧i≤ls.length∧Pj p s.length v.2.2.2.2.2.2.2.2.2.1 v.2.2.2.2.2.2.2.2.2.2.1∧
    v.2.2.2.2.2.2.2.2.2.2.2.1=Rr v.2.2.2.2.2.2.2.2.2.1∧(∃A,v.2.2.2.2.2.2.2.2.2.1=L0++A)∧(∃A,v.2.2.2.2.2.2.2.2.2.2.1=D0++A)∧
    Ga p.2.2.1 L0[k] D0[k] (ls.drop i) v.2.2.2.2.2.2.2.2.2.1 v.2.2.2.2.2.2.2.2.2.2.1=Ga p.2.2.1 L0[k] D0[k] ls L0 D0) (fun v=>ls.length-v.1.toNat)
   ⟨rfl,rfl,rfl,rfl,0,rfl,Nat.zero_le _,h7,rfl,⟨[],by simp⟩,⟨[],by simp⟩,rfl⟩ ?_
  rintro ⟨i',m1,m2,m3,b1,wh1,y1,y2,y3,L,D,S,⟨⟩⟩ ⟨g1,g2,g3,g4,i,g5,g6,g7,g8,⟨A,g9⟩,⟨A',g10⟩,g11⟩
  dsimp only at g1 g2 g3 g4 g5 g6 g7 g8 g9 g10 g11
  subst g1 g2 g3 g4 g5 g8
  dsimp only
  have hLf:=g7.ok.few
  have hDl:=g7.len
  rw [Cz L,Cz D,Cz (Rr L)]
  refine Br.dec (fun hli=>?_) fun hli=>?_
  ·have hi:i<ls.length:=by omega
   have hkL:k<L.length:=by rw [g9,List.length_append];omega
   have hLk:L[k]=L0[k]:=by simp only [g9];exact List.getElem_append_left hk
   have hkD2:k<D.length:=by rw [hDl];exact hkL
   have hDk:D[k]=D0[k]:=by simp only [g10];exact List.getElem_append_left hkD
   have hlet:=hmem _ (List.getElem_mem hi)
   obtain ⟨nl,nr⟩:=Api hV hx hlet
   rw [List.drop_eq_getElem_cons hi] at g11
   simp only [Ga] at g11
   refine ⟨⟨by omega,by omega⟩,L0[k],by rw [Int.toNat_natCast,Nat.zero_add,List.getElem?_eq_getElem hkL,hLk],_,Aj hi,_,if_pos ⟨hv,by show L0[k].length≤20;omega,hx,hlet⟩,?_⟩
   dsimp only
   have hyl:(Aa L0[k] (Ae p.2.2.1 ls[i])).length=s.length:=by rw [nl,hxl]
   refine ⟨_,if_pos (by show Cr (Aa L0[k] (Ae p.2.2.1 ls[i])).length L (Rr L);rw [hyl];exact g7.ok),Br.dec (fun hin=>?_) fun hin=>?_⟩
   ·have hin:Aa L0[k] (Ae p.2.2.1 ls[i])∈L:=An9.1 hin
    rw [if_pos hin] at g11
    rw [Al (by omega)]
    exact ⟨rfl,rfl,rfl,rfl,rfl,rfl,rfl,rfl,rfl,rfl,rfl,rfl,⟨rfl,rfl,rfl,rfl,i+1,rfl,hi,g7,rfl,⟨A,g9⟩,⟨A',g10⟩,g11⟩,by omega⟩
   ·have hin:Aa L0[k] (Ae p.2.2.1 ls[i])∉L:=fun hh=>hin (An9.2 hh)
    rw [if_neg hin] at g11
    refine ⟨fun hfull=>?_,fun hfull=>⟨⟨by omega,by omega⟩,D0[k],by rw [Int.toNat_natCast,Nat.zero_add,List.getElem?_eq_getElem hkD2,hDk],rfl,rfl,rfl,rfl,rfl,rfl,?_⟩⟩
    ·have hfull:L.length=3000:=by
      have:(L.length:Int)=3000:=by simpa using hfull
      omega
     rw [if_pos hfull] at g11
     have:=hgo _ _ _ g11.symm
     rw [if_neg (by decide)] at this
     unfold Ha
     rw [this]
    ·have hfull:L.length≠3000:=by
      have:(L.length:Int)≠3000:=by simpa using hfull
      omega
     rw [if_neg hfull] at g11
     rw [Bq (n:=D0[k]+1) (by omega) (by omega)]
     refine ⟨_,if_pos ⟨by show Cr (Aa L0[k] (Ae p.2.2.1 ls[i])).length L (Rr L);rw [hyl];exact g7.ok,by show D.length≤3000;omega⟩,?_⟩
     dsimp only
     rw [Al (by omega),←Wn]
     refine ⟨rfl,rfl,rfl,rfl,rfl,rfl,rfl,rfl,rfl,rfl,rfl,rfl,⟨rfl,rfl,rfl,rfl,i+1,rfl,hi,g7.add hin hyl (by omega) nr ⟨by omega,by omega⟩,rfl,⟨A++ [Aa L0[k] (Ae p.2.2.1 ls[i])],by rw [g9,List.append_assoc]⟩,⟨A'++ [D0[k]+1],by rw [g10,List.append_assoc]⟩,g11⟩,by omega⟩
  ·have:i=ls.length:=by omega
   subst this
   rw [List.drop_length,Ga] at g11
   have:=hgo _ _ _ g11.symm
   rw [if_pos rfl] at this
   rw [Al (by omega)]
   refine ⟨rfl,rfl,rfl,rfl,rfl,rfl,rfl,rfl,rfl,rfl,rfl,rfl,⟨rfl,rfl,rfl,rfl,k+1,rfl,by rw [g9,List.length_append];omega,g7,rfl,?_⟩,by omega⟩
   rw [show 3001-(k+1)=f by omega]
   exact this.symm
 ·have hk:k=L0.length:=by omega
  rw [Cz L0,Cz D0,Cz (Rr L0)]
  obtain ⟨f,hf⟩: ∃f,3001-k=f+1:=⟨3000-k,by omega⟩
  rw [hf,Hm,if_neg (by omega)] at h9
  unfold Ha
  rw [←h9]
theorem Au4:Sound Try.prog 105 Cw:=
 Sound.mkS Bff (Ad Zs (Tt Ax2 (Ad Ahq (Ad Aem (Ad Aep Ao))))) mixed Try.func105 (by kernel_rfl) (by kernel_rfl) fun x h=>Bdp x.1 x.2.1 h
end Go.Proofs.Ytebabhocakedaaa

namespace Go.Proofs.Ytebabhocakedaaa
open Go.RowKit
noncomputable def Afn (p:PP) (t:List Int):Bool:=Ay p&&Em p.1 t
theorem Adc {p:PP} (hV:Valid p) {m:Nat} {x:List Int} {d:Int} (hx: ∀y∈x,0≤y∧y<p.1) (hxl:x.length=m): ∀(ls:List Int) (L:List (List Int)) (D:List Int),(∀l∈ls,Ef (List.length p.2.2.1) l)→
  Pj p m L D→(0≤d∧d<L.length)→Pj p m (Ga p.2.2.1 x d ls L D).1 (Ga p.2.2.1 x d ls L D).2.1∧(∃A,(Ga p.2.2.1 x d ls L D).1=L++A)∧(∃A,(Ga p.2.2.1 x d ls L D).2.1=D++A)
 | [],L,D,_,h,_=>⟨h,⟨[],by simp [Ga]⟩,⟨[],by simp [Ga]⟩⟩
 |l::ls,L,D,hl,h,hd=>by
  obtain ⟨n1,n2⟩:=Api hV hx (hl l (by simp))
  have hl': ∀l∈ls,Ef (List.length p.2.2.1) l:=fun l' h'=>hl l' (List.mem_cons_of_mem _ h')
  simp only [Ga]
  split
  ·exact Adc hV hx hxl ls L D hl' h hd
  ·rename_i hn
   split
   ·exact ⟨h,⟨[],by simp⟩,⟨[],by simp⟩⟩
   ·rename_i hf
    have hfew:=h.ok.few
    obtain ⟨k1,⟨A,k2⟩,⟨A',k3⟩⟩:=Adc hV hx hxl ls (L++ [Aa x (Ae p.2.2.1 l)]) (D++ [d+1]) hl' (h.add hn (by rw [n1,hxl]) (by omega) n2 ⟨by omega,by omega⟩) ⟨hd.1,by rw [List.length_append];omega⟩
    exact ⟨k1,⟨_::A,by rw [k2,List.append_assoc];rfl⟩,⟨_::A',by rw [k3,List.append_assoc];rfl⟩⟩
theorem Arl {p:PP} (hV:Valid p) {m:Nat} {ls:List Int} (hl: ∀l∈ls,Ef (List.length p.2.2.1) l): ∀(f k:Nat) (L:List (List Int)) (D:List Int),Pj p m L D→
  Pj p m (Hm p.2.2.1 ls f k L D).1 (Hm p.2.2.1 ls f k L D).2.1∧(∃A,(Hm p.2.2.1 ls f k L D).1=L++A)
 |0,k,L,D,h=>⟨h,⟨[],by simp [Hm]⟩⟩
 |f+1,k,L,D,h=>by
  simp only [Hm]
  split
  ·rename_i hk
   have hkD:k<D.length:=by rw [h.len];exact hk
   have hd:=h.dep k hkD
   have e:D.getD k 0=D[k]:=by rw [List.getD_eq_getElem?_getD,List.getElem?_eq_getElem hkD];rfl
   rw [Mc hk,e]
   obtain ⟨k1,⟨A,k2⟩,_⟩:=Adc hV (h.row _ (List.getElem_mem hk)) (h.ok.len _ (List.getElem_mem hk)) (d:=D[k]) ls L D hl h ⟨by omega,by omega⟩
   split
   ·rename_i L' D' he
    rw [he] at k1 k2
    obtain ⟨g1,⟨B,g2⟩⟩:=Arl hV hl f (k+1) L' D' k1
    have k2:L'=L++A:=k2
    exact ⟨g1,⟨A++B,by rw [g2,k2,List.append_assoc]⟩⟩
   ·rename_i L' D' he
    rw [he] at k1 k2
    exact ⟨k1,⟨A,k2⟩⟩
  ·exact ⟨h,⟨[],by simp⟩⟩
theorem Beo {p:PP} {s:List Int} (hv:Ay p=true) (hs:s.length≤20) (hr: ∀y∈s,0≤y∧y<p.1):Pj p s.length (Fq p.2.2.1 s).1 (Fq p.2.2.1 s).2.1∧ ∃A,(Fq p.2.2.1 s).1=s::A:=
 Arl (valid hv) (fun _ hl=>Ls hl) _ _ _ _ (Aaa hs hr)
theorem Ahd {p:PP} {t:List Int} :Afn p t=true↔Ay p=true∧Em p.1 t=true:=by
 unfold Afn;rw [Bool.and_eq_true]
theorem Aud {p:PP} {t:List Int} (h:Afn p t=true):t.length≤20∧ ∀y∈t,0≤y∧y<p.1:=by
 obtain ⟨h1,h2⟩:=Ahd.1 h
 have hn:=(valid h1).n
 obtain ⟨h3,h4⟩:=Er.1 h2
 have hy: ∀y∈t,0≤y∧y<p.1:=fun y hy=>by
  obtain ⟨j,hj,rfl⟩:=List.mem_iff_getElem.1 hy
  have:=h4 j hj hj
  omega
 refine ⟨?_,hy⟩
 have h5:=Awh h4 (t.length-1) (by omega)
 have h6:=hy _ (List.getElem_mem (show t.length-1<t.length by omega))
 omega
def Auy (m:ByteArray→Option Bool) (L:List (List Int)):Prop:= ∀q,Ms q→(m (Ke q)).getD false=decide (q∈L)
theorem Auy.add {m:ByteArray→Option Bool} {L:List (List Int)} {y:List Int} (h:Auy m L) (hy:Ms y):Auy (Ex m (Ke y) true) (L++ [y]):=by
 intro q hq
 unfold Ex
 by_cases e:q=y
 ·subst e
  rw [if_pos rfl];simp
 ·rw [if_neg fun hk=>e (key_inj hq hy hk),h q hq]
  simp [e]
end Go.Proofs.Ytebabhocakedaaa
