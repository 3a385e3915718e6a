/-
  Part 38 of the proof that the statement FnExactSubsetPuzzle holds.
-/
import Derived.Test.YtebabhocakedaaaCSubsetPuzzle36
import Derived.KernelRfl
namespace Go.Proofs.Ytebabhocakedaaa
open Go.RowKit
def Fq (x a b:Int):Bool:=decide (a≤x∧x≤b)
def Aao (n x:Int):Bool:=decide (0≤x∧x≤IntKind.i64.wrap (n-1))
def Gp (a b:List Int):Bool:=decide (a=b)
def Abf (xs:List Int) (x:Int):Bool:=decide (x∈xs)
def short (xs:List Int):Prop:=xs.length≤4294967296
noncomputable abbrev Bi:Spec:=mkS (.pair tI (.pair tI (.pair tI .unit))) .bool false true (fun _=>True) (fun x=>Fq x.1 x.2.1 x.2.2.1)
noncomputable abbrev Qg:Spec:=mkS (.pair tI (.pair tI .unit)) .bool false true (fun _=>True) (fun x=>Aao x.1 x.2.1)
noncomputable abbrev Dh:Spec:=mkS (.pair tL (.pair tL .unit)) .bool false true (fun x=>short x.1) (fun x=>Gp x.1 x.2.1)
noncomputable abbrev Ix:Spec:=mkS (.pair tL (.pair tI .unit)) .bool false true (fun x=>short x.1) (fun x=>Abf x.1 x.2.1)
theorem Azu (x a b:Int) (P:Bool→Prop):(Br (decide (x≥a)) (P (decide (x≤b))) (P false))=fnW tab (look []) Bi Try.f122 (x,a,b,()) P:=by kernel_rfl
theorem Bc9 (x a b:Int) (P:Bool→Prop):(Br (decide (x≥a)) (P (decide (x≤b))) (P false))=fnW tab (look []) Bi Try.f108 (x,a,b,()) P:=by kernel_rfl
theorem Azw (n x:Int) (P:Bool→Prop):(∃(y3:Bool),Bi.fn (x,0,IntKind.i64.wrap (n-1),())=some y3∧P y3)=fnW tab (look [(108,Bi)]) Qg Try.f102 (n,x,()) P:=by kernel_rfl
theorem Au8 (a b:List Int) (P:Bool→Prop):(Br ((↑a.length:Int) !=(↑b.length:Int)) (P false)
 (Cc
  (fun (v3:Int×PUnit) (k4:Int×PUnit→Prop)=>
   Br (decide (v3.1<(↑a.length:Int))) (∃(y5:Int),idx a v3.1=some y5∧ ∃(y6:Int),idx b v3.1=some y6∧Br (y5 !=y6) (P false) (k4 (IntKind.i64.wrap (v3.1+1),())))
    (P true))
  (0,PUnit.unit)))=fnW tab (look []) Dh Try.f59 (a,b,()) P:=by kernel_rfl
theorem Am3 (xs:List Int) (x:Int) (P:Bool→Prop):(Cc
 (fun (v3:Int×PUnit) (k4:Int×PUnit→Prop)=>
  Br (decide (v3.1<(↑xs.length:Int))) (∃(y5:Int),idx xs v3.1=some y5∧Br (y5==x) (P true) (k4 (IntKind.i64.wrap (v3.1+1),()))) (P false))
 (0,PUnit.unit))=fnW tab (look []) Ix Try.f152 (xs,x,()) P:=by kernel_rfl
theorem Ayw (x a b:Int) (_:True):fnW tab (look []) Bi Try.f122 (x,a,b,()) (fun (z:Bool)=>z=Fq x a b):=by
 refine Eq.mp (Azu x a b _) ?_
 refine Br.dec (fun h=>?_) fun h=>?_
 ·have h:a≤x:=h
  simp [Fq,h]
 ·exact (decide_eq_false fun hh=>h hh.1).symm
theorem Th:Sound Try.prog 122 Bi:=
 Sound.mkS Ch Ar mixed Try.func122 (by kernel_rfl) (by kernel_rfl) fun x h=>Ayw x.1 x.2.1 x.2.2.1 h
theorem Bba (x a b:Int) (_:True):fnW tab (look []) Bi Try.f108 (x,a,b,()) (fun (z:Bool)=>z=Fq x a b):=by
 refine Eq.mp (Bc9 x a b _) ?_
 refine Br.dec (fun h=>?_) fun h=>?_
 ·have h:a≤x:=h
  simp [Fq,h]
 ·exact (decide_eq_false fun hh=>h hh.1).symm
theorem Mq:Sound Try.prog 108 Bi:=
 Sound.mkS Ch Ar mixed Try.func108 (by kernel_rfl) (by kernel_rfl) fun x h=>Bba x.1 x.2.1 x.2.2.1 h
theorem Ayy (n x:Int) (_:True):fnW tab (look [(108,Bi)]) Qg Try.f102 (n,x,()) (fun (z:Bool)=>z=Aao n x):=
 Eq.mp (Azw n x _) ⟨_,if_pos trivial,rfl⟩
theorem Alw:Sound Try.prog 102 Qg:=
 Sound.mkS Ch (Ag Mq Ar) mixed Try.func102 (by kernel_rfl) (by kernel_rfl) fun x h=>Ayy x.1 x.2.1 h
theorem Ale (xs:List Int) (x:Int) (h:short xs):fnW tab (look []) Ix Try.f152 (xs,x,()) (fun (z:Bool)=>z=Abf xs x):=by
 refine Eq.mp (Am3 xs x _) ?_
 unfold short at h
 refine Ao xs.length (fun v=>v.1) (fun j _=>x∉xs.take j) rfl (by simp) ?_
 rintro j ⟨i,⟨⟩⟩ K hj hi hR hK
 dsimp only at hi⊢
 subst hi
 refine Br.dec (fun hl=>?_) fun hl=>?_
 ·have hl:j<xs.length:=by omega
  refine ⟨_,Az hl,⟨fun he=>?_,fun he=>?_⟩⟩
  ·have hm:=List.getElem_mem hl
   simp only [beq_iff_eq] at he
   rw [he] at hm
   exact (decide_eq_true hm).symm
  ·rw [Ap (by omega)]
   refine hK hl _ rfl ?_
   simp only [beq_eq_false_iff_ne,ne_eq] at he
   rw [List.take_succ_eq_append_getElem hl]
   simp only [List.mem_append,List.mem_singleton,not_or]
   exact ⟨hR,fun hx=>he hx.symm⟩
 ·have:j=xs.length:=by omega
  subst this
  rw [List.take_length] at hR
  exact (decide_eq_false hR).symm
theorem Aem:Sound Try.prog 152 Ix:=
 Sound.mkS Ch Ar mixed Try.func152 (by kernel_rfl) (by kernel_rfl) fun x h=>Ale x.1 x.2.1 h
theorem Axg (a b:List Int) (hlen:a.length=b.length) (h:short a):
  Cc (fun (v3:Int×PUnit) (k4:Int×PUnit→Prop)=>
   Br (decide (v3.1<(↑a.length:Int))) (∃(y5:Int),idx a v3.1=some y5∧ ∃(y6:Int),idx b v3.1=some y6∧Br (y5 !=y6) (false=Gp a b) (k4 (IntKind.i64.wrap (v3.1+1),())))
    (true=Gp a b))
  (0,PUnit.unit):=by
 unfold short at h
 refine Ao a.length (fun v=>v.1) (fun j _=>a.take j=b.take j) rfl (by simp) ?_
 rintro j ⟨i,⟨⟩⟩ K hj hi hR hK
 dsimp only at hi⊢
 subst hi
 refine Br.dec (fun hl=>?_) fun hl=>?_
 ·have hl1:j<a.length:=by omega
  have hl2:j<b.length:=by omega
  refine ⟨_,Az hl1,_,Az hl2,⟨fun he=>?_,fun he=>?_⟩⟩
  ·simp only [bne_iff_ne,ne_eq] at he
   refine (decide_eq_false fun hab=>he ?_).symm
   subst hab
   rfl
  ·rw [Ap (by omega)]
   refine hK hl1 _ rfl ?_
   simp only [bne_eq_false_iff_eq] at he
   rw [List.take_succ_eq_append_getElem hl1,List.take_succ_eq_append_getElem hl2,hR,he]
 ·have hj':j=a.length:=by omega
  subst hj'
  rw [List.take_length,hlen,List.take_length] at hR
  exact (decide_eq_true hR).symm
theorem At7 (a b:List Int) (h:short a):fnW tab (look []) Dh Try.f59 (a,b,()) (fun (z:Bool)=>z=Gp a b):=by
 refine Eq.mp (Au8 a b _) ⟨fun hl=>?_,fun hl=>?_⟩
 ·simp only [bne_iff_ne,ne_eq,Int.natCast_inj] at hl
  exact (decide_eq_false fun hab=>hl (by rw [hab])).symm
 ·simp only [bne_eq_false_iff_eq,Int.natCast_inj] at hl
  exact Axg a b hl h
theorem Ahp:Sound Try.prog 59 Dh:=
 Sound.mkS Ch Ar mixed Try.func59 (by kernel_rfl) (by kernel_rfl) fun x h=>At7 x.1 x.2.1 h
end Go.Proofs.Ytebabhocakedaaa

namespace Go.Proofs.Ytebabhocakedaaa
open Go.RowKit
def Dv (xs:List (List Int)):Prop:=xs.length≤4294967296∧ ∀r∈xs,short r
def roomy (room:Int):Prop:=0≤room∧room≤4294967296
def Afg (n:Nat) (room:Int):Int:=if room-n<0 then-1 else room-n
def Ae6 (xs:List Int) (room:Int):Int:=Afg xs.length room
def Atz:List (List Int)→Int→Int
 | [],room=>room
 |r::rs,room=>if Ae6 r room<0 then-1 else Atz rs (Ae6 r room)
def Tb (xs:List (List Int)) (room:Int):Int:=if Afg xs.length room<0 then-1 else Atz xs (Afg xs.length room)
def Afe (a b:List (List Int)):Bool:=decide (a=b)
noncomputable abbrev Ani:Spec:=mkS (.pair tL (.pair tI .unit)) tI false true (fun x=>short x.1∧roomy x.2.1) (fun x=>Ae6 x.1 x.2.1)
noncomputable abbrev Afx:Spec:=mkS (.pair tLL (.pair tI .unit)) tI false true (fun x=>Dv x.1∧roomy x.2.1) (fun x=>Tb x.1 x.2.1)
noncomputable abbrev Ah8:Spec:=mkS (.pair tL .unit) tL false true (fun x=>short x.1) (fun x=>x.1)
noncomputable abbrev Afy:Spec:=mkS (.pair tLL .unit) tLL false true (fun x=>Dv x.1) (fun x=>x.1)
noncomputable abbrev Afv:Spec:=mkS (.pair tLL (.pair tLL .unit)) .bool false true (fun x=>Dv x.1) (fun x=>Afe x.1 x.2.1)
theorem Bfi (xs:List Int) (room:Int) (P:Int→Prop):(Br (decide (IntKind.i64.wrap (room-(↑xs.length:Int))<0)) (P (-1)) (P (IntKind.i64.wrap (room-(↑xs.length:Int)))))=fnW tab (look []) Ani Try.f76 (xs,room,()) P:=by kernel_rfl
theorem Beq (xs:List (List Int)) (room:Int) (P:Int→Prop):(Br (decide (IntKind.i64.wrap (room-(↑xs.length:Int))<0)) (P (-1))
 (Cc
  (fun (v3:Int×Int×PUnit) (k4:Int×Int×PUnit→Prop)=>
   Br (decide (v3.2.1<(↑xs.length:Int)))
    (∃(y5:List Int),idx xs v3.2.1=some y5∧ ∃(y6:Int),Ani.fn (y5,v3.1,())=some y6∧Br (decide (y6<0)) (P (-1)) (k4 (y6,IntKind.i64.wrap (v3.2.1+1),()))) (P v3.1))
  (IntKind.i64.wrap (room-(↑xs.length:Int)),0,PUnit.unit)))=fnW tab (look [(76,Ani)]) Afx Try.f33 (xs,room,()) P:=by kernel_rfl
theorem Bfk (xs:List Int) (P:List Int→Prop):((0≤(↑xs.length:Int)∧(↑xs.length:Int)<(↑Am:Int)+1)∧
 (↑xs.length:Int)=(↑xs.length:Int)∧
  0=0∧
   (List.replicate (↑xs.length:Int).toNat (Int.ofNat 0)).length=(List.replicate (↑xs.length:Int).toNat (Int.ofNat 0)).length∧
    Cc
     (fun (v2:Int×List Int×PUnit) (k3:Int×List Int×PUnit→Prop)=>
      Br (decide (v2.1<(↑xs.length:Int)))
       (∃(y4:Int),
        idx xs v2.1=some y4∧
         (0≤v2.1∧v2.1<(↑v2.2.1.length:Int))∧
          0+v2.1.toNat<v2.2.1.length∧
           0=0∧v2.2.1.length=(v2.2.1.set (0+v2.1.toNat) y4).length∧k3 (IntKind.i64.wrap (v2.1+1),v2.2.1.set (0+v2.1.toNat) y4,()))
       (P (List.take v2.2.1.length (List.drop 0 v2.2.1))))
     (0,List.replicate (↑xs.length:Int).toNat (Int.ofNat 0),PUnit.unit))=fnW tab (look []) Ah8 Try.f18 (xs,()) P:=by kernel_rfl
theorem Ber (xs:List (List Int)) (P:List (List Int)→Prop):((0≤(↑xs.length:Int)∧(↑xs.length:Int)<(↑Am:Int)+1)∧
 (↑xs.length:Int)=(↑xs.length:Int)∧
  0=0∧
   (List.replicate (↑xs.length:Int).toNat ([]:List Int)).length=(List.replicate (↑xs.length:Int).toNat ([]:List Int)).length∧
    Cc
     (fun (v2:Int×List (List Int)×PUnit) (k3:Int×List (List Int)×PUnit→Prop)=>
      Br (decide (v2.1<(↑xs.length:Int)))
       (∃(y4:List Int),
        idx xs v2.1=some y4∧
         ∃(y5:List Int),
          Ah8.fn (y4,())=some y5∧
           (0≤v2.1∧v2.1<(↑v2.2.1.length:Int))∧
            0+v2.1.toNat<v2.2.1.length∧
             0=0∧v2.2.1.length=(v2.2.1.set (0+v2.1.toNat) y5).length∧k3 (IntKind.i64.wrap (v2.1+1),v2.2.1.set (0+v2.1.toNat) y5,()))
       (P (List.take v2.2.1.length (List.drop 0 v2.2.1))))
     (0,List.replicate (↑xs.length:Int).toNat ([]:List Int),PUnit.unit))=fnW tab (look [(18,Ah8)]) Afy Try.f35 (xs,()) P:=by kernel_rfl
theorem Bfe (a b:List Int) (P:Bool→Prop):(Br ((↑a.length:Int) !=(↑b.length:Int)) (P false)
 (Cc
  (fun (v3:Int×PUnit) (k4:Int×PUnit→Prop)=>
   Br (decide (v3.1<(↑a.length:Int))) (∃(y5:Int),idx a v3.1=some y5∧ ∃(y6:Int),idx b v3.1=some y6∧Br (y5 !=y6) (P false) (k4 (IntKind.i64.wrap (v3.1+1),())))
    (P true))
  (0,PUnit.unit)))=fnW tab (look []) Dh Try.f21 (a,b,()) P:=by kernel_rfl
theorem Bem (a b:List (List Int)) (P:Bool→Prop):(Br ((↑a.length:Int) !=(↑b.length:Int)) (P false)
 (Cc
  (fun (v3:Int×PUnit) (k4:Int×PUnit→Prop)=>
   Br (decide (v3.1<(↑a.length:Int)))
    (∃(y5:List Int),
     idx a v3.1=some y5∧ ∃(y6:List Int),idx b v3.1=some y6∧ ∃(y7:Bool),Dh.fn (y5,y6,())=some y7∧Br (!y7) (P false) (k4 (IntKind.i64.wrap (v3.1+1),())))
    (P true))
  (0,PUnit.unit)))=fnW tab (look [(21,Dh)]) Afv Try.f37 (a,b,()) P:=by kernel_rfl
theorem Ayl {n:Nat} {room:Int} (h:roomy room) (h2: ¬Afg n room<0):roomy (Afg n room):=by
 unfold Afg roomy at*
 split at h2<;>simp_all
 omega
theorem Bf5 (xs:List Int) (room:Int) (h:short xs∧roomy room):fnW tab (look []) Ani Try.f76 (xs,room,()) (fun (z:Int)=>z=Ae6 xs room):=by
 obtain ⟨h1,h2,h3⟩:=h
 unfold short at h1
 refine Eq.mp (Bfi xs room _) ?_
 rw [Bu (by omega) (by omega)]
 refine Br.dec (fun h=>?_) fun h=>?_
 ·simp only [Ae6,Afg,if_pos h]
 ·simp only [Ae6,Afg,if_neg h]
theorem Azi:Sound Try.prog 76 Ani:=
 Sound.mkS Ch Ar mixed Try.func76 (by kernel_rfl) (by kernel_rfl) fun x h=>Bf5 x.1 x.2.1 h
theorem Beb (xs:List (List Int)) (room:Int) (h:Dv xs∧roomy room):fnW tab (look [(76,Ani)]) Afx Try.f33 (xs,room,()) (fun (z:Int)=>z=Tb xs room):=by
 obtain ⟨⟨h1,h4⟩,h2,h3⟩:=h
 refine Eq.mp (Beq xs room _) ?_
 rw [Bu (by omega) (by omega)]
 refine Br.dec (fun h=>?_) fun h=>?_
 ·simp only [Tb,Afg,if_pos h];rfl
 ·refine Ao xs.length (fun v=>v.2.1) (fun j v=>roomy v.1∧Atz (xs.drop j) v.1=Tb xs room) rfl ?_ ?_
  ·refine ⟨by unfold roomy;omega,?_⟩
   simp only [Tb,Afg,if_neg h,List.drop_zero]
  ·rintro j ⟨r,i,⟨⟩⟩ K hj hi ⟨hr,hR⟩ hK
   dsimp only at hi hr hR⊢
   subst hi
   refine Br.dec (fun hl=>?_) fun hl=>?_
   ·have hl:j<xs.length:=by omega
    have hd:xs.drop j=xs[j]::xs.drop (j+1):=List.drop_eq_getElem_cons hl
    refine ⟨_,Az hl,_,if_pos ⟨h4 _ (List.getElem_mem hl),hr⟩,?_⟩
    rw [hd] at hR
    simp only [Atz] at hR
    refine Br.dec (fun hn=>?_) fun hn=>?_
    ·have hn:Ae6 xs[j] r<0:=hn
     rw [if_pos hn] at hR
     exact hR
    ·have hn: ¬Ae6 xs[j] r<0:=hn
     rw [if_neg hn] at hR
     rw [Ap (by omega)]
     exact hK hl _ rfl ⟨Ayl hr hn,hR⟩
   ·have:j=xs.length:=by omega
    subst this
    rw [List.drop_length] at hR
    exact hR
theorem Awq:Sound Try.prog 33 Afx:=
 Sound.mkS Ch (Ag Azi Ar) mixed Try.func33 (by kernel_rfl) (by kernel_rfl) fun x h=>Beb x.1 x.2.1 h
theorem Jb {α:Type} {ys xs:List α} {j:Nat} (h:j<xs.length) (hl:ys.length=xs.length) (ht:ys.take j=xs.take j):(ys.set j xs[j]).take (j+1)=xs.take (j+1):=by
 have h1:j<(ys.set j xs[j]).length:=by rw [List.length_set];omega
 rw [List.take_succ_eq_append_getElem h1,List.take_succ_eq_append_getElem h,List.getElem_set_self,List.take_set_of_le (Nat.le_refl j),ht]
theorem Bf7 (xs:List Int) (h:short xs):fnW tab (look []) Ah8 Try.f18 (xs,()) (fun (z:List Int)=>z=xs):=by
 unfold short at h
 refine Eq.mp (Bfk xs _) ?_
 refine ⟨⟨by omega,by show (xs.length:Int)<(4294967296:Int)+1;omega⟩,rfl,rfl,rfl,?_⟩
 refine Ao xs.length (fun v=>v.1) (fun j v=>v.2.1.length=xs.length∧v.2.1.take j=xs.take j) rfl ⟨by simp,by simp⟩ ?_
 rintro j ⟨i,ys,⟨⟩⟩ K hj hi ⟨h1,h2⟩ hK
 dsimp only at hi h1 h2⊢
 subst hi
 refine Br.dec (fun hl=>?_) fun hl=>?_
 ·have hl:j<xs.length:=by omega
  refine ⟨_,Az hl,⟨by omega,by omega⟩,by rw [Int.toNat_natCast];omega,rfl,by rw [List.length_set],?_⟩
  rw [Ap (by omega),Int.toNat_natCast,Nat.zero_add]
  exact hK hl _ rfl ⟨by rw [List.length_set];exact h1,Jb hl h1 h2⟩
 ·have:j=xs.length:=by omega
  subst this
  rw [List.take_length,←h1,List.take_length] at h2
  rw [List.drop_zero,List.take_length]
  exact h2
theorem Ano:Sound Try.prog 18 Ah8:=
 Sound.mkS Ch Ar mixed Try.func18 (by kernel_rfl) (by kernel_rfl) fun x h=>Bf7 x.1 h
theorem Bec (xs:List (List Int)) (h:Dv xs):fnW tab (look [(18,Ah8)]) Afy Try.f35 (xs,()) (fun (z:List (List Int))=>z=xs):=by
 obtain ⟨h,h4⟩:=h
 refine Eq.mp (Ber xs _) ?_
 refine ⟨⟨by omega,by show (xs.length:Int)<(4294967296:Int)+1;omega⟩,rfl,rfl,rfl,?_⟩
 refine Ao xs.length (fun v=>v.1) (fun j v=>v.2.1.length=xs.length∧v.2.1.take j=xs.take j) rfl ⟨by simp,by simp⟩ ?_
 rintro j ⟨i,ys,⟨⟩⟩ K hj hi ⟨h1,h2⟩ hK
 dsimp only at hi h1 h2⊢
 subst hi
 refine Br.dec (fun hl=>?_) fun hl=>?_
 ·have hl:j<xs.length:=by omega
  refine ⟨_,Az hl,_,if_pos (h4 _ (List.getElem_mem hl)),⟨by omega,by omega⟩,by rw [Int.toNat_natCast];omega,rfl,by rw [List.length_set],?_⟩
  rw [Ap (by omega),Int.toNat_natCast,Nat.zero_add]
  exact hK hl _ rfl ⟨by rw [List.length_set];exact h1,Jb hl h1 h2⟩
 ·have:j=xs.length:=by omega
  subst this
  rw [List.take_length,←h1,List.take_length] at h2
  rw [List.drop_zero,List.take_length]
  exact h2
theorem Awr:Sound Try.prog 35 Afy:=
 Sound.mkS Ch (Ag Ano Ar) mixed Try.func35 (by kernel_rfl) (by kernel_rfl) fun x h=>Bec x.1 h
theorem Bf1 (a b:List Int) (h:short a):fnW tab (look []) Dh Try.f21 (a,b,()) (fun (z:Bool)=>z=Gp a b):=by
 refine Eq.mp (Bfe a b _) ⟨fun hl=>?_,fun hl=>?_⟩
 ·simp only [bne_iff_ne,ne_eq,Int.natCast_inj] at hl
  exact (decide_eq_false fun hab=>hl (by rw [hab])).symm
 ·simp only [bne_eq_false_iff_eq,Int.natCast_inj] at hl
  exact Axg a b hl h
theorem Ann:Sound Try.prog 21 Dh:=
 Sound.mkS Ch Ar mixed Try.func21 (by kernel_rfl) (by kernel_rfl) fun x h=>Bf1 x.1 x.2.1 h
theorem Be7 (a b:List (List Int)) (h:Dv a):fnW tab (look [(21,Dh)]) Afv Try.f37 (a,b,()) (fun (z:Bool)=>z=Afe a b):=by
 obtain ⟨h,h4⟩:=h
 refine Eq.mp (Bem a b _) ⟨fun hl=>?_,fun hl=>?_⟩
 ·simp only [bne_iff_ne,ne_eq,Int.natCast_inj] at hl
  exact (decide_eq_false fun hab=>hl (by rw [hab])).symm
 ·simp only [bne_eq_false_iff_eq,Int.natCast_inj] at hl
  refine Ao a.length (fun v=>v.1) (fun j _=>a.take j=b.take j) rfl (by simp) ?_
  rintro j ⟨i,⟨⟩⟩ K hj hi hR hK
  dsimp only at hi⊢
  subst hi
  refine Br.dec (fun hlt=>?_) fun hlt=>?_
  ·have hl1:j<a.length:=by omega
   have hl2:j<b.length:=by omega
   refine ⟨_,Az hl1,_,Az hl2,_,if_pos (h4 _ (List.getElem_mem hl1)),⟨fun he=>?_,fun he=>?_⟩⟩
   ·refine (decide_eq_false fun hab=>?_).symm
    subst hab
    simp [Gp] at he
   ·rw [Ap (by omega)]
    refine hK hl1 _ rfl ?_
    simp only [Gp,Bool.not_eq_false',decide_eq_true_eq] at he
    rw [List.take_succ_eq_append_getElem hl1,List.take_succ_eq_append_getElem hl2,hR]
    exact congrArg (fun x=>List.take j b++ [x]) he
  ·have hj':j=a.length:=by omega
   subst hj'
   rw [List.take_length,hl,List.take_length] at hR
   exact (decide_eq_true hR).symm
theorem Awo:Sound Try.prog 37 Afv:=
 Sound.mkS Ch (Ag Ann Ar) mixed Try.func37 (by kernel_rfl) (by kernel_rfl) fun x h=>Be7 x.1 x.2.1 h
end Go.Proofs.Ytebabhocakedaaa

namespace Go.Proofs.Ytebabhocakedaaa
open Go.RowKit
def PL (n:Int) (xs:List Int) (k:Nat):Prop:= ∀j (h:j<xs.length),j<k→0≤xs[j]∧xs[j]≤n-1∧(0<j→xs[j-1]<xs[j])
def DL (n:Int) (xs:List Int) (k:Nat):Prop:= ∀j (h:j<xs.length),j<k→0≤xs[j]∧xs[j]≤n-1∧xs[j]∉xs.take j
noncomputable def dec (p:Prop):Bool:= @decide p (Classical.propDecidable p)
theorem Ik {p:Prop} (h:p):true=dec p:=(@decide_eq_true p (Classical.propDecidable p) h).symm
theorem Bd {p:Prop} (h: ¬p):false=dec p:=(@decide_eq_false p (Classical.propDecidable p) h).symm
theorem Dl {p:Prop} :dec p=true↔p:= @decide_eq_true_iff p (Classical.propDecidable p)
theorem Bch {p:Prop} :dec p=false↔ ¬p:= @decide_eq_false_iff_not p (Classical.propDecidable p)
def nOK (n:Int):Prop:=0≤n∧n≤4294967296
noncomputable def Lr (n:Int) (xs:List Int):Bool:=dec (0<xs.length∧PL n xs xs.length)
noncomputable abbrev Eh:Spec:=mkS (.pair tI (.pair tL .unit)) .bool false true (fun x=>nOK x.1∧short x.2.1) (fun x=>Lr x.1 x.2.1)
noncomputable abbrev Px:Spec:=mkS (.pair tLL .unit) tI false true (fun _=>True) (fun x=>(List.length x.1:Int))
theorem Am6 (n:Int) (xs:List Int) (P:Bool→Prop):(∃(y3:Bool),
 Bi.fn ((↑xs.length:Int),(1:Int),n,())=some y3∧
  Br (!y3) (P false)
   (Cc
    (fun (v4:Int×PUnit) (k5:Int×PUnit→Prop)=>
     Br (decide (v4.1<(↑xs.length:Int)))
      (∃(y6:Int),
       idx xs v4.1=some y6∧
        ∃(y7:Bool),
         Bi.fn (y6,(0:Int),IntKind.i64.wrap (n-(1:Int)),())=some y7∧
          Br (!y7) (P false)
           (Br (decide (v4.1>(0:Int)))
            (∃(y8:Int),
             idx xs v4.1=some y8∧
              ∃(y9:Int),idx xs (IntKind.i64.wrap (v4.1-(1:Int)))=some y9∧Br (decide (y8≤y9)) (P false) (k5 (IntKind.i64.wrap (v4.1+(1:Int)),())))
            (k5 (IntKind.i64.wrap (v4.1+(1:Int)),()))))
      (P true))
    ((0:Int),PUnit.unit)))=fnW tab (look [(122,Bi)]) Eh Try.f100 (n,xs,()) P:=by kernel_rfl
theorem Aua (n:Int) (xs:List Int) (P:Bool→Prop):(Cc
 (fun (v3:Int×PUnit) (k4:Int×PUnit→Prop)=>
  Br (decide (v3.1<(↑xs.length:Int)))
   (∃(y5:Int),
    idx xs v3.1=some y5∧
     ∃(y6:Bool),
      Qg.fn (n,y5,())=some y6∧
       Br (!y6) (P false)
        (Br (decide (v3.1>(0:Int)))
         (∃(y7:Int),idx xs (IntKind.i64.wrap (v3.1-(1:Int)))=some y7∧Br (decide (y7≥y5)) (P false) (k4 (IntKind.i64.wrap (v3.1+(1:Int)),())))
         (k4 (IntKind.i64.wrap (v3.1+(1:Int)),()))))
   (P (decide ((↑xs.length:Int)>(0:Int)))))
 ((0:Int),PUnit.unit))=fnW tab (look [(102,Qg)]) Eh Try.f55 (n,xs,()) P:=by kernel_rfl
theorem Bdb (xs:List (List Int)) (P:Int→Prop):(P (↑xs.length:Int))=fnW tab (look []) Px Try.f67 (xs,()) P:=by kernel_rfl
theorem Bcs (xs:List (List Int)) (_:True):fnW tab (look []) Px Try.f67 (xs,()) (fun (z:Int)=>z=(xs.length:Int)):=Eq.mp (Bdb xs _) rfl
theorem Ah9:Sound Try.prog 67 Px:=
 Sound.mkS Ch Ar mixed Try.func67 (by kernel_rfl) (by kernel_rfl) fun x h=>Bcs x.1 h
theorem Agy {n x:Int} (hn:nOK n):Aao n x=true↔0≤x∧x≤n-1:=by
 unfold Aao nOK at*
 rw [Bu (by omega) (by omega),decide_eq_true_iff]
theorem Ce {x a b:Int} :Fq x a b=true↔a≤x∧x≤b:=decide_eq_true_iff
theorem Dc {b:Bool} (h:(!b)=true): ¬b=true:=by cases b<;>simp_all
theorem Fa {b:Bool} (h:(!b)=false):b=true:=by cases b<;>simp_all
theorem Aw3 {n:Int} {xs:List Int} (h:PL n xs xs.length): ∀j (hj:j<xs.length),(j:Int)≤xs[j]
 |0,hj=>(h 0 hj hj).1
 |j+1,hj=>by
  have h1:=Aw3 h j (by omega)
  have h2:=(h (j+1) hj hj).2.2 (by omega)
  simp only [Nat.add_sub_cancel] at h2
  omega
theorem Ai6 {n:Int} {xs:List Int} {j:Nat} (hl:j<xs.length) (h:PL n xs j) (h1:0≤xs[j]) (h2:xs[j]≤n-1) (h3:0<j→xs[j-1]<xs[j]):PL n xs (j+1):=by
 intro i hi hij
 by_cases e:i=j
 ·subst e;exact ⟨h1,h2,h3⟩
 ·exact h i hi (by omega)
theorem At9 (n:Int) (xs:List Int) (h:nOK n∧short xs):fnW tab (look [(102,Qg)]) Eh Try.f55 (n,xs,()) (fun (z:Bool)=>z=Lr n xs):=by
 obtain ⟨hn,h⟩:=h
 unfold short at h
 refine Eq.mp (Aua n xs _) ?_
 refine Ao xs.length (fun v=>v.1) (fun j _=>PL n xs j) rfl (fun j _ hj=>absurd hj (Nat.not_lt_zero _)) ?_
 rintro j ⟨i,⟨⟩⟩ K hj hi hR hK
 dsimp only at hi⊢
 subst hi
 refine Br.dec (fun hl=>?_) fun hl=>?_
 ·have hl:j<xs.length:=by omega
  refine ⟨_,Az hl,_,if_pos trivial,⟨fun hp=>?_,fun hp=>?_⟩⟩
  ·have hp:=Dc hp
   rw [Agy hn] at hp
   exact Bd fun hh=>hp ⟨(hh.2 j hl hl).1,(hh.2 j hl hl).2.1⟩
  ·have hp:=Fa hp
   rw [Agy hn] at hp
   refine Br.dec (fun h0=>?_) fun h0=>?_
   ·have h0:0<j:=by omega
    rw [Bu (by omega) (by omega),show (j:Int)-1=((j-1:Nat):Int) by omega]
    refine ⟨_,Az (by omega),Br.dec (fun hg=>?_) fun hg=>?_⟩
    ·exact Bd fun hh=>by have:=(hh.2 j hl hl).2.2 h0;omega
    ·rw [Ap (by omega)]
     exact hK hl _ rfl (Ai6 hl hR hp.1 hp.2 fun _=>by omega)
   ·have h0:j=0:=by omega
    rw [Ap (by omega)]
    exact hK hl _ rfl (Ai6 hl hR hp.1 hp.2 fun h=>by omega)
 ·have:j=xs.length:=by omega
  subst this
  by_cases h0:0<xs.length
  ·rw [decide_eq_true (show (xs.length:Int)>0 by omega)];exact Ik ⟨h0,hR⟩
  ·rw [decide_eq_false (show ¬(xs.length:Int)>0 by omega)];exact Bd fun hh=>h0 hh.1
theorem Ahr:Sound Try.prog 55 Eh:=
 Sound.mkS Ch (Ag Alw Ar) mixed Try.func55 (by kernel_rfl) (by kernel_rfl) fun x h=>At9 x.1 x.2.1 h
theorem Alh (n:Int) (xs:List Int) (h:nOK n∧short xs):fnW tab (look [(122,Bi)]) Eh Try.f100 (n,xs,()) (fun (z:Bool)=>z=Lr n xs):=by
 obtain ⟨hn,h⟩:=h
 unfold short at h
 refine Eq.mp (Am6 n xs _) ⟨_,if_pos trivial,⟨fun hp=>?_,fun hp=>?_⟩⟩
 ·have hp:=Dc hp
  rw [Ce] at hp
  dsimp only at hp
  refine Bd fun hh=>hp ⟨by omega,?_⟩
  have:=Aw3 hh.2 (xs.length-1) (by omega)
  have:=(hh.2 (xs.length-1) (by omega) (by omega)).2.1
  omega
 ·have hp:=Fa hp
  rw [Ce] at hp
  dsimp only at hp
  refine Ao xs.length (fun v=>v.1) (fun j _=>PL n xs j) rfl (fun j _ hj=>absurd hj (Nat.not_lt_zero _)) ?_
  rintro j ⟨i,⟨⟩⟩ K hj hi hR hK
  dsimp only at hi⊢
  subst hi
  refine Br.dec (fun hl=>?_) fun hl=>?_
  ·have hl:j<xs.length:=by omega
   refine ⟨_,Az hl,_,if_pos trivial,⟨fun hq=>?_,fun hq=>?_⟩⟩
   ·have hq:=Dc hq
    unfold nOK at hn
    rw [Ce,Bu (by omega) (by omega)] at hq
    exact Bd fun hh=>hq ⟨(hh.2 j hl hl).1,(hh.2 j hl hl).2.1⟩
   ·have hq:=Fa hq
    unfold nOK at hn
    rw [Ce,Bu (by omega) (by omega)] at hq
    refine Br.dec (fun h0=>?_) fun h0=>?_
    ·have h0:0<j:=by omega
     rw [Bu (by omega) (by omega),show (j:Int)-1=((j-1:Nat):Int) by omega]
     refine ⟨_,Az hl,_,Az (by omega),Br.dec (fun hg=>?_) fun hg=>?_⟩
     ·exact Bd fun hh=>by have:=(hh.2 j hl hl).2.2 h0;omega
     ·rw [Ap (by omega)]
      exact hK hl _ rfl (Ai6 hl hR hq.1 hq.2 fun _=>by omega)
    ·rw [Ap (by omega)]
     exact hK hl _ rfl (Ai6 hl hR hq.1 hq.2 fun h=>by omega)
  ·have:j=xs.length:=by omega
   subst this
   exact Ik ⟨by omega,hR⟩
theorem Aen:Sound Try.prog 100 Eh:=
 Sound.mkS Ch (Ag Th Ar) mixed Try.func100 (by kernel_rfl) (by kernel_rfl) fun x h=>Alh x.1 x.2.1 h
theorem Bci {n:Int} {xs:List Int} {j:Nat} (hl:j<xs.length) (h:DL n xs j) (h1:0≤xs[j]) (h2:xs[j]≤n-1) (h3:xs[j]∉xs.take j):DL n xs (j+1):=by
 intro i hi hij
 by_cases e:i=j
 ·subst e;exact ⟨h1,h2,h3⟩
 ·exact h i hi (by omega)
theorem Awj {xs:List Int} (h:short xs) (j:Nat):short (xs.take j):=by
 unfold short at*
 rw [List.length_take]
 omega
end Go.Proofs.Ytebabhocakedaaa

namespace Go.Proofs.Ytebabhocakedaaa
open Go.RowKit
theorem Atj:roomy 1048576:=⟨by decide,by decide⟩
end Go.Proofs.Ytebabhocakedaaa

namespace Go.Proofs.Ytebabhocakedaaa
open Go.RowKit
abbrev PP:Type:=Int×ByteArray×List (List Int)×Unit
noncomputable def Hk (p:List Int):Bool:=dec (1≤p.length∧p.length≤20∧DL p.length p p.length)
noncomputable def Hz (n:Int) (p:List Int):Bool:=dec ((p.length:Int)=n∧Hk p=true)
noncomputable def Og (n:Int) (g:List (List Int)):Bool:=dec ((1≤n∧n≤20)∧g.length≤8∧ ∀p∈g,Hz n p=true)
def Fg {α:Type} (P:α→Bool):List α→Int→Int
 | [],_=> -1
 |y::r,i=>if P y=true then i else Fg P r (i+1)
abbrev tG1:Ty:= .clo 174 (.pair (.ptr tI) .unit)
def Anu (s:ByteArray) (i:Nat):Prop:= ∃c:UInt8,s[i]?=some c∧65≤c.toNat∧c.toNat≤90∧ ∀k,k<i→s[k]?≠some c
noncomputable def Ae4 (s:ByteArray) (i:Int):Bool:=dec (Anu s i.toNat)
noncomputable def Uf (s:ByteArray):Bool:=dec ((1≤s.size∧s.size≤8)∧ ∀j,j<s.size→Anu s j)
noncomputable def Bq (p:PP):Bool:=dec (Og p.1 p.2.2.1=true∧Uf p.2.1=true∧p.2.1.size=p.2.2.1.length)
noncomputable def Bg (p:PP) (xs:List Int):Bool:=dec (Bq p=true∧Lr p.2.2.1.length xs=true)
def Cd (p:PP):Prop:=p.2.1.size≤4294967296∧Dv p.2.2.1
noncomputable abbrev Nl:Spec:=mkS (.pair tL .unit) tI false true (fun _=>True) (fun x=>(List.length x.1:Int))
noncomputable abbrev Gb:Spec:=mkS (.pair tL .unit) .bool false true (fun x=>short x.1) (fun x=>Hk x.1)
noncomputable abbrev Ir:Spec:=mkS (.pair tI (.pair tLL .unit)) .bool false true (fun x=>Dv x.2.1) (fun x=>Og x.1 x.2.1)
noncomputable abbrev Aas:Spec:=mkS (.pair tL (.pair (.ptr tI) .unit)) .bool false true (fun x=>short x.1) (fun x=>!Hz x.2.1 x.1)
noncomputable abbrev Anh:Spec:=mkS (.pair tLL (.pair tG1 .unit)) tI false true (fun x=>Dv x.1) (fun x=>Fg (fun p=>!Hz x.2.1.1 p) x.1 0)
noncomputable abbrev Anf:Spec:=mkS (.pair tLL (.pair tG1 .unit)) .bool false true (fun x=>Dv x.1) (fun x=>List.any x.1 (fun p=>!Hz x.2.1.1 p))
noncomputable abbrev Un:Spec:=mkS (.pair .str (.pair tI .unit)) .bool false true (fun x=>0≤x.2.1∧x.2.1<x.1.size∧x.1.size≤4294967296) (fun x=>Ae4 x.1 x.2.1)
noncomputable abbrev Qf:Spec:=mkS (.pair .str .unit) .bool false true (fun x=>x.1.size≤4294967296) (fun x=>Uf x.1)
noncomputable abbrev Ej:Spec:=mkS (.pair Cr .unit) .bool false true (fun x=>Cd x.1) (fun x=>Bq x.1)
noncomputable abbrev Du:Spec:=mkS (.pair Cr (.pair tL .unit)) .bool false true (fun x=>Cd x.1∧short x.2.1) (fun x=>Bg x.1 x.2.1)
def Za (p:PP) (room:Int):Int:=if room-p.2.1.size<0 then-1 else if Tb p.2.2.1 (room-p.2.1.size)<0 then-1 else Tb p.2.2.1 (room-p.2.1.size)
def Agw (a b:PP):Bool:=decide (a.1=b.1)&&(decide (a.2.1=b.2.1)&&decide (a.2.2.1=b.2.2.1))
noncomputable abbrev Anj:Spec:=mkS (.pair Cr (.pair tI .unit)) tI false true (fun x=>Cd x.1∧roomy x.2.1) (fun x=>Za x.1 x.2.1)
noncomputable abbrev Ank:Spec:=mkS (.pair Cr .unit) Cr false true (fun x=>Cd x.1) (fun x=>x.1)
noncomputable abbrev Aej:Spec:=mkS (.pair Cr (.pair Cr .unit)) .bool false true (fun x=>Cd x.1) (fun x=>Agw x.1 x.2.1)
theorem Ben (xs:List Int) (P:Int→Prop):(P (↑xs.length:Int))=fnW tab (look []) Nl Try.f127 (xs,()) P:=by kernel_rfl
theorem Aqt (p:List Int) (P:Bool→Prop):(∃(y2:Bool),
 Bi.fn ((↑p.length:Int),(1:Int),(20:Int),())=some y2∧
  Br (!y2) (P false)
   (Cc
    (fun (v3:Int×PUnit) (k4:Int×PUnit→Prop)=>
     Br (decide (v3.1<(↑p.length:Int)))
      (∃(y5:Int),
       idx p v3.1=some y5∧
        ∃(y6:Bool),
         Bi.fn (y5,(0:Int),IntKind.i64.wrap ((↑p.length:Int)-(1:Int)),())=some y6∧
          Br (!y6) (P false)
           (((0:Int)≤(0:Int)∧(0:Int)≤v3.1∧v3.1≤(↑p.length:Int))∧
            ∃(y7:Int),
             idx p v3.1=some y7∧
              ∃(y8:Bool),
               Ix.fn (List.drop (Int.toNat (0:Int)) (List.take v3.1.toNat p),y7,())=some y8∧Br y8 (P false) (k4 (IntKind.i64.wrap (v3.1+(1:Int)),()))))
      (P true))
    ((0:Int),PUnit.unit)))=fnW tab (look [(122,Bi),(152,Ix)]) Gb Try.f169 (p,()) P:=by kernel_rfl
theorem Aqp (p:List Int) (P:Bool→Prop):(∃(y2:Int),
 Nl.fn (p,())=some y2∧
  ∃(y3:Bool),
   Bi.fn (y2,(1:Int),(20:Int),())=some y3∧
    Br (!y3) (P false)
     (Cc
      (fun (v4:Int×Int×PUnit) (k5:Int×Int×PUnit→Prop)=>
       Br (decide (v4.2.1<(↑p.length:Int)))
        (∃(y6:Int),
         idx p v4.2.1=some y6∧
          ∃(y7:Int),
           Nl.fn (p,())=some y7∧
            ∃(y8:Bool),
             Bi.fn (y6,(0:Int),IntKind.i64.wrap (y7-(1:Int)),())=some y8∧
              Br (!y8) (P false)
               (¬y6<(0:Int)∧
                k5
                 (IntKind.i64.wrap
                   (↑(BitVec.ofInt IntKind.i64.bits v4.1|||BitVec.ofInt IntKind.i64.bits (IntKind.i64.wrap ((1:Int)*(2:Int)^min y6.toNat IntKind.i64.bits))).toNat:
                    Int),
                  IntKind.i64.wrap (v4.2.1+(1:Int)),())))
        (¬(↑p.length:Int)<(0:Int)∧P (v4.1==IntKind.i64.wrap (IntKind.i64.wrap ((1:Int)*(2:Int)^min (↑p.length:Int).toNat IntKind.i64.bits)-(1:Int)))))
      ((0:Int),(0:Int),PUnit.unit)))=fnW tab (look [(108,Bi),(127,Nl)]) Gb Try.f170 (p,()) P:=by kernel_rfl
theorem Aqs (n:Int) (g:List (List Int)) (P:Bool→Prop):(∃(y3:Bool),
 Bi.fn (n,(1:Int),(20:Int),())=some y3∧
  Br (!y3) (P false)
   (Br (decide ((↑g.length:Int)>(8:Int))) (P false)
    (Cc
     (fun (v4:Int×PUnit) (k5:Int×PUnit→Prop)=>
      Br (decide (v4.1<(↑g.length:Int)))
       (∃(y6:List Int),
        idx g v4.1=some y6∧
         Br ((↑y6.length:Int) !=n) (P false)
          (∃(y7:List Int),idx g v4.1=some y7∧ ∃(y8:Bool),Gb.fn (y7,())=some y8∧Br (!y8) (P false) (k5 (IntKind.i64.wrap (v4.1+(1:Int)),()))))
       (P true))
     ((0:Int),PUnit.unit))))=fnW tab (look [(122,Bi),(169,Gb)]) Ir Try.f148 (n,g,()) P:=by kernel_rfl
theorem Bd9 (p:List Int) (n:Int) (P:Bool→Prop):(∃(y3:Int),Nl.fn (p,())=some y3∧Br (y3 !=n) (P true) (∃(y4:Bool),Gb.fn (p,())=some y4∧P !y4))=fnW tab (look [(127,Nl),(170,Gb)]) Aas Try.f174 (p,n,()) P:=by kernel_rfl
theorem Bfh (g:List (List Int)) (n:Int×Unit) (P:Int→Prop):(Cc
 (fun (v3:Int×PUnit) (k4:Int×PUnit→Prop)=>
  Br (decide (v3.1<(↑g.length:Int)))
   (∃(y5:List Int),idx g v3.1=some y5∧ ∃(y6:Bool),Aas.fn (y5,n.1,())=some y6∧Br y6 (P v3.1) (k4 (IntKind.i64.wrap (v3.1+(1:Int)),()))) (P (-1:Int)))
 ((0:Int),PUnit.unit))=fnW tab (look [(174,Aas)]) Anh Try.f181 (g,n,()) P:=by kernel_rfl
theorem Bfd (g:List (List Int)) (n:Int×Unit) (P:Bool→Prop):(∃(y3:Int),Anh.fn (g,n,())=some y3∧P (decide (y3≥(0:Int))))=fnW tab (look [(181,Anh)]) Anf Try.f173 (g,n,()) P:=by kernel_rfl
theorem Aqo (n:Int) (g:List (List Int)) (P:Bool→Prop):(∃(y3:Bool),
 Bi.fn (n,(1:Int),(20:Int),())=some y3∧Br y3 (Br (decide ((↑g.length:Int)≤(8:Int))) (∃(y4:Bool),Anf.fn (g,(n,()),())=some y4∧P !y4) (P false)) (P false))=fnW tab (look [(108,Bi),(173,Anf)]) Ir Try.f157 (n,g,()) P:=by kernel_rfl
theorem Bc7 (s:ByteArray) (i:Int) (P:Bool→Prop):((0:Int)≤i∧
 ∃(y3:UInt8),
  s[i.toNat]?=some y3∧
   Br (decide ((↑y3.toNat:Int)<(65:Int))) (P false)
    ((0:Int)≤i∧
     ∃(y4:UInt8),
      s[i.toNat]?=some y4∧
       Br (decide ((↑y4.toNat:Int)>(90:Int))) (P false)
        (Cc
         (fun (v5:Int×PUnit) (k6:Int×PUnit→Prop)=>
          Br (decide (v5.1<i))
           ((0:Int)≤v5.1∧
            ∃(y7:UInt8),
             s[v5.1.toNat]?=some y7∧
              (0:Int)≤i∧ ∃(y8:UInt8),s[i.toNat]?=some y8∧Br ((↑y7.toNat:Int)==(↑y8.toNat:Int)) (P false) (k6 (IntKind.i64.wrap (v5.1+(1:Int)),())))
           (P true))
         ((0:Int),PUnit.unit))))=fnW tab (look []) Un Try.f149 (s,i,()) P:=by kernel_rfl
theorem Azv (s:ByteArray) (P:Bool→Prop):(Cc
 (fun (v2:Int×PUnit) (k3:Int×PUnit→Prop)=>
  Br (decide (v2.1<(↑s.size:Int)))
   ((0:Int)≤v2.1∧
    ∃(y4:UInt8),
     s[v2.1.toNat]?=some y4∧
      ∃(y5:Bool),
       Bi.fn (IntKind.i64.wrap (↑y4.toNat:Int),(65:Int),(90:Int),())=some y5∧
        Br (!y5) (P false)
         (Cc
          (fun (v6:Int×PUnit) (k7:Int×PUnit→Prop)=>
           Br (decide (v6.1<v2.1))
            ((0:Int)≤v6.1∧
             ∃(y8:UInt8),
              s[v6.1.toNat]?=some y8∧
               (0:Int)≤v2.1∧ ∃(y9:UInt8),s[v2.1.toNat]?=some y9∧Br ((↑y8.toNat:Int)==(↑y9.toNat:Int)) (P false) (k7 (IntKind.i64.wrap (v6.1+(1:Int)),())))
            (k3 (IntKind.i64.wrap (v2.1+(1:Int)),())))
          ((0:Int),PUnit.unit)))
   (∃(y4:Bool),Bi.fn ((↑s.size:Int),(1:Int),(8:Int),())=some y4∧P y4))
 ((0:Int),PUnit.unit))=fnW tab (look [(108,Bi)]) Qf Try.f158 (s,()) P:=by kernel_rfl
theorem Aqu (p:Int×ByteArray×List (List Int)×Unit) (P:Bool→Prop):(Br ((↑p.2.2.1.length:Int)==(0:Int)) (P false)
 (Br ((↑p.2.1.size:Int) !=(↑p.2.2.1.length:Int)) (P false)
  (∃(y2:Bool),
   Ir.fn (p.1,p.2.2.1,())=some y2∧
    Br (!y2) (P false)
     (Cc
      (fun (v3:Int×Int×ByteArray×List (List Int)×PUnit) (k4:Int×Int×ByteArray×List (List Int)×PUnit→Prop)=>
       Br (decide (v3.1<(↑v3.2.2.1.size:Int)))
        (∃(y5:Bool),Un.fn (v3.2.2.1,v3.1,())=some y5∧Br (!y5) (P false) (k4 (IntKind.i64.wrap (v3.1+(1:Int)),v3.2.1,v3.2.2.1,v3.2.2.2.1,())))
        (P true))
      ((0:Int),p.1,p.2.1,p.2.2.1,PUnit.unit)))))=fnW tab (look [(148,Ir),(149,Un)]) Ej Try.f99 (p,()) P:=by kernel_rfl
theorem Aqq (p:Int×ByteArray×List (List Int)×Unit) (P:Bool→Prop):(∃(y2:Bool),
 Ir.fn (p.1,p.2.2.1,())=some y2∧Br y2 (∃(y3:Bool),Qf.fn (p.2.1,())=some y3∧Br y3 (P ((↑p.2.1.size:Int)==(↑p.2.2.1.length:Int))) (P false)) (P false))=fnW tab (look [(157,Ir),(158,Qf)]) Ej Try.f124 (p,()) P:=by kernel_rfl
theorem Agd (p:Int×ByteArray×List (List Int)×Unit) (xs:List Int) (P:Bool→Prop):(∃(y3:Bool),Ej.fn ((p.1,p.2.1,p.2.2.1,()),())=some y3∧Br y3 (∃(y4:Bool),Eh.fn ((↑p.2.2.1.length:Int),xs,())=some y4∧P y4) (P false))=fnW tab (look [(99,Ej),(100,Eh)]) Du Try.f116 (p,xs,()) P:=by kernel_rfl
theorem Agc (p:Int×ByteArray×List (List Int)×Unit) (xs:List Int) (P:Bool→Prop):(∃(y3:Bool),
 Ej.fn ((p.1,p.2.1,p.2.2.1,()),())=some y3∧Br y3 (∃(y4:Int),Px.fn (p.2.2.1,())=some y4∧ ∃(y5:Bool),Eh.fn (y4,xs,())=some y5∧P y5) (P false))=fnW tab (look [(124,Ej),(55,Eh),(67,Px)]) Du Try.f117 (p,xs,()) P:=by kernel_rfl
theorem Bfj (p:Int×ByteArray×List (List Int)×Unit) (room:Int) (P:Int→Prop):(Br (decide (IntKind.i64.wrap (room-(↑p.2.1.size:Int))<(0:Int))) (P (-1:Int))
 (∃(y3:Int),Afx.fn (p.2.2.1,IntKind.i64.wrap (room-(↑p.2.1.size:Int)),())=some y3∧Br (decide (y3<(0:Int))) (P (-1:Int)) (P y3)))=fnW tab (look [(33,Afx)]) Anj Try.f15 (p,room,()) P:=by kernel_rfl
theorem Bfl (p:Int×ByteArray×List (List Int)×Unit) (P:(Int×ByteArray×List (List Int)×Unit)→Prop):(∃(y2:List (List Int)),Afy.fn (p.2.2.1,())=some y2∧P (p.1,p.2.1,y2,()))=fnW tab (look [(35,Afy)]) Ank Try.f17 (p,()) P:=by kernel_rfl
theorem Bff (a b:Int×ByteArray×List (List Int)×Unit) (P:Bool→Prop):(Br (a.1 !=b.1) (P false) (Br (!a.2.1.toList==b.2.1.toList) (P false) (∃(y3:Bool),Afv.fn (a.2.2.1,b.2.2.1,())=some y3∧Br (!y3) (P false) (P true))))=fnW tab (look [(37,Afv)]) Aej Try.f20 (a,b,()) P:=by kernel_rfl
theorem Be8 (xs:List Int) (_:True):fnW tab (look []) Nl Try.f127 (xs,()) (fun (z:Int)=>z=(xs.length:Int)):=Eq.mp (Ben xs _) rfl
theorem Acw:Sound Try.prog 127 Nl:=
 Sound.mkS Ch Ar mixed Try.func127 (by kernel_rfl) (by kernel_rfl) fun x h=>Be8 x.1 h
theorem Aqd {α:Type} [DecidableEq α]: ∀(l m:List α),l.Nodup→(∀x∈l,x∈m)→l.length≤m.length
 | [],m,_,_=>Nat.zero_le _
 |a::l,m,hn,hs=>by
  have ha:a∈m:=hs a (List.mem_cons_self ..)
  have hn:=List.nodup_cons.1 hn
  have:=Aqd l (m.erase a) hn.2 fun x hx=>(List.mem_erase_of_ne (fun (e:x=a)=>hn.1 (by rw [←e];exact hx))).2 (hs x (List.mem_cons_of_mem _ hx))
  rw [List.length_erase_of_mem ha] at this
  have:0<m.length:=List.length_pos_of_mem ha
  simp only [List.length_cons]
  omega
def upto (n:Nat):List Int:=(List.range n).map Int.ofNat
theorem Akv (n:Nat):(upto n).Nodup:=by
 unfold upto
 exact List.Pairwise.map _ (fun a b hab e=>hab (Int.ofNat.inj e)) List.nodup_range
theorem Iq {n:Nat} {x:Int} :x∈upto n↔0≤x∧x<n:=by
 unfold upto
 simp only [List.mem_map,List.mem_range]
 constructor
 ·rintro ⟨a,ha,rfl⟩;exact ⟨Int.natCast_nonneg _,Int.ofNat_lt.2 ha⟩
 ·rintro ⟨h1,h2⟩;exact ⟨x.toNat,by omega,by simp only [Int.ofNat_eq_natCast];omega⟩
theorem Rn (n:Nat):(upto n).length=n:=by simp [upto]
theorem Zd {xs:List Int} (h: ∀j (hj:j<xs.length),xs[j]∉xs.take j):xs.Nodup:=by
 refine List.pairwise_iff_getElem.2 fun i j hi hj hij e=>h j hj ?_
 rw [←e]
 exact List.mem_take_iff_getElem.2 ⟨i,by omega,rfl⟩
theorem Akt {xs:List Int} (h:xs.Nodup): ∀j (hj:j<xs.length),xs[j]∉xs.take j:=by
 intro j hj hm
 obtain ⟨i,hi,e⟩:=List.mem_take_iff_getElem.1 hm
 exact List.pairwise_iff_getElem.1 h i j (by omega) hj (by omega) e
theorem Sw {xs:List Int} (h: ∀x∈xs,0≤x∧x<xs.length):(∀k:Nat,k<xs.length→(k:Int)∈xs)↔ ∀j (hj:j<xs.length),xs[j]∉xs.take j:=by
 constructor
 ·intro ha j hj hm
  have h1:=Aqd (upto xs.length) (xs.take j++xs.drop (j+1)) (Akv _) fun x hx=>by
   obtain ⟨h1,h2⟩:=Iq.1 hx
   have hx:=ha x.toNat (by omega)
   rw [show ((x.toNat:Nat):Int)=x by omega] at hx
   rw [←List.take_append_drop j xs,List.mem_append,List.drop_eq_getElem_cons hj,List.mem_cons] at hx
   rcases hx with hx|rfl|hx
   ·exact List.mem_append_left _ hx
   ·exact List.mem_append_left _ hm
   ·exact List.mem_append_right _ hx
  rw [Rn,List.length_append,List.length_take,List.length_drop] at h1
  omega
 ·intro hn k hk
  refine Classical.byContradiction fun hc=>?_
  have h1:=Aqd xs ((upto xs.length).erase (k:Int)) (Zd hn) fun x hx=>by
   refine (List.mem_erase_of_ne fun (e:x=(k:Int))=>hc (by rw [←e];exact hx)).2 (Iq.2 (h x hx))
  rw [List.length_erase_of_mem (Iq.2 ⟨by omega,by omega⟩),Rn] at h1
  omega
def mask (xs:List Int):Nat:=xs.foldl (fun m x=>m|||2^x.toNat) 0
theorem Aym (xs:List Int) (x:Int):mask (xs++ [x])=mask xs|||2^x.toNat:=by simp [mask]
theorem Ap0 (xs:List Int) (k:Nat): ∀a:Nat,(xs.foldl (fun m x=>m|||2^x.toNat) a).testBit k=(a.testBit k||xs.any fun x=>decide (x.toNat=k)):=by
 induction xs with
 |nil=>simp
 |cons x xs ih=>
  intro a
  rw [List.foldl_cons,ih,Nat.testBit_or,Nat.testBit_two_pow,List.any_cons,Bool.or_assoc]
theorem Aji (xs:List Int) (k:Nat):(mask xs).testBit k=xs.any fun x=>decide (x.toNat=k):=by
 unfold mask
 rw [Ap0,Nat.zero_testBit,Bool.false_or]
theorem Bcm {xs:List Int} {n:Nat} (h: ∀x∈xs,x.toNat<n):mask xs<2^n:=by
 refine Nat.lt_pow_two_of_testBit _ fun k hk=>?_
 rw [Aji]
 refine Bool.eq_false_iff.2 fun ht=>?_
 obtain ⟨x,hx,he⟩:=List.any_eq_true.1 ht
 have:=h x hx
 have:=of_decide_eq_true he
 omega
theorem Amz {xs:List Int} (h: ∀x∈xs,0≤x∧x<xs.length):mask xs=2^xs.length-1↔ ∀k:Nat,k<xs.length→(k:Int)∈xs:=by
 constructor
 ·intro e k hk
  have h1:=Aji xs k
  rw [e,Nat.testBit_two_pow_sub_one,decide_eq_true hk] at h1
  obtain ⟨x,hx,he⟩:=List.any_eq_true.1 h1.symm
  have:=(h x hx).1
  have:=of_decide_eq_true he
  have e:x=(k:Int):=by omega
  exact e▸hx
 ·intro ha
  refine Nat.eq_of_testBit_eq fun k=>?_
  rw [Aji,Nat.testBit_two_pow_sub_one]
  by_cases hk:k<xs.length
  ·rw [decide_eq_true hk]
   exact List.any_eq_true.2 ⟨k,ha k hk,by simp⟩
  ·rw [decide_eq_false hk]
   refine Bool.eq_false_iff.2 fun ht=>?_
   obtain ⟨x,hx,he⟩:=List.any_eq_true.1 ht
   have:=h x hx
   have:=of_decide_eq_true he
   omega
theorem Bco {m:Nat} {x:Int} (hm:m<2^20) (h0:0≤x) (h1:x<20):
  IntKind.i64.wrap (((BitVec.ofInt IntKind.i64.bits (m:Int)|||BitVec.ofInt IntKind.i64.bits (IntKind.i64.wrap ((1:Int)*(2:Int)^min x.toNat IntKind.i64.bits))).toNat:Nat):Int)=((m|||2^x.toNat:Nat):Int):=by
 have hx:(2:Nat)^x.toNat<2^20:=Nat.pow_lt_pow_right (by omega) (by omega)
 have e1:min x.toNat IntKind.i64.bits=x.toNat:=by show min x.toNat 64=_;omega
 have e2:(1:Int)*(2:Int)^x.toNat=((2^x.toNat:Nat):Int):=by rw [Int.one_mul];exact (Int.natCast_pow 2 _).symm
 rw [e1,e2,Bu (n:=((2^x.toNat:Nat):Int)) (by have:(0:Int)≤((2^x.toNat:Nat):Int):=Int.natCast_nonneg _;omega) (by omega)]
 show IntKind.i64.wrap (((BitVec.ofInt 64 (m:Int)|||BitVec.ofInt 64 ((2^x.toNat:Nat):Int)).toNat:Nat):Int)=_
 rw [BitVec.ofInt_natCast,BitVec.ofInt_natCast,BitVec.toNat_or,BitVec.toNat_ofNat,BitVec.toNat_ofNat,Nat.mod_eq_of_lt (by omega),Nat.mod_eq_of_lt (by omega)]
 have:=Nat.or_lt_two_pow hm hx
 exact Bu (by omega) (by omega)
theorem Ap9 (p:List Int) (h:short p):fnW tab (look [(122,Bi),(152,Ix)]) Gb Try.f169 (p,()) (fun (z:Bool)=>z=Hk p):=by
 have hs:=h
 unfold short at h
 refine Eq.mp (Aqt p _) ⟨_,if_pos trivial,⟨fun hp=>?_,fun hp=>?_⟩⟩
 ·have hp:=Dc hp
  rw [Ce] at hp
  dsimp only at hp
  exact Bd fun hh=>hp ⟨by omega,by omega⟩
 ·have hp:=Fa hp
  rw [Ce] at hp
  dsimp only at hp
  refine Ao p.length (fun v=>v.1) (fun j _=>DL p.length p j) rfl (fun j _ hj=>absurd hj (Nat.not_lt_zero _)) ?_
  rintro j ⟨i,⟨⟩⟩ K hj hi hR hK
  dsimp only at hi⊢
  subst hi
  refine Br.dec (fun hl=>?_) fun hl=>?_
  ·have hl:j<p.length:=by omega
   refine ⟨_,Az hl,_,if_pos trivial,⟨fun hq=>?_,fun hq=>?_⟩⟩
   ·have hq:=Dc hq
    rw [Ce,Bu (by omega) (by omega)] at hq
    exact Bd fun hh=>hq ⟨(hh.2.2 j hl hl).1,(hh.2.2 j hl hl).2.1⟩
   ·have hq:=Fa hq
    rw [Ce,Bu (by omega) (by omega)] at hq
    refine ⟨⟨by omega,by omega,by omega⟩,_,Az hl,?_⟩
    rw [show (Int.toNat 0)=0 from rfl,List.drop_zero,Int.toNat_natCast]
    refine ⟨_,if_pos (Awj hs j),⟨fun hc=>?_,fun hc=>?_⟩⟩
    ·have hc:decide (p[j]∈p.take j)=true:=hc
     rw [decide_eq_true_iff] at hc
     exact Bd fun hh=>(hh.2.2 j hl hl).2.2 hc
    ·have hc:decide (p[j]∈p.take j)=false:=hc
     rw [decide_eq_false_iff_not] at hc
     rw [Ap (by omega)]
     exact hK hl _ rfl (Bci hl hR hq.1 hq.2 hc)
  ·have:j=p.length:=by omega
   subst this
   exact Ik ⟨by omega,by omega,hR⟩
theorem Us:Sound Try.prog 169 Gb:=
 Sound.mkS Ch (Ag Th (Ag Aem Ar)) mixed Try.func169 (by kernel_rfl) (by kernel_rfl) fun x h=>Ap9 x.1 h
theorem Ap5 (p:List Int) (h:short p):fnW tab (look [(108,Bi),(127,Nl)]) Gb Try.f170 (p,()) (fun (z:Bool)=>z=Hk p):=by
 unfold short at h
 refine Eq.mp (Aqp p _) ⟨_,if_pos trivial,_,if_pos trivial,⟨fun hp=>?_,fun hp=>?_⟩⟩
 ·have hp:=Dc hp
  rw [Ce] at hp
  dsimp only at hp
  exact Bd fun hh=>hp ⟨by omega,by omega⟩
 ·have hp:=Fa hp
  rw [Ce] at hp
  dsimp only at hp
  refine Ao p.length (fun v=>v.2.1) (fun j v=>v.1=(mask (p.take j):Int)∧ ∀x∈p.take j,0≤x∧x<p.length) rfl ⟨rfl,by simp⟩ ?_
  rintro j ⟨m,i,⟨⟩⟩ K hj hi ⟨hm,hR⟩ hK
  dsimp only at hi hm⊢
  subst hi hm
  refine Br.dec (fun hl=>?_) fun hl=>?_
  ·have hl:j<p.length:=by omega
   refine ⟨_,Az hl,_,if_pos trivial,_,if_pos trivial,⟨fun hq=>?_,fun hq=>?_⟩⟩
   ·have hq:=Dc hq
    rw [Ce] at hq
    dsimp only at hq
    rw [Bu (by omega) (by omega)] at hq
    exact Bd fun hh=>hq ⟨(hh.2.2 j hl hl).1,(hh.2.2 j hl hl).2.1⟩
   ·have hq:=Fa hq
    rw [Ce] at hq
    dsimp only at hq
    rw [Bu (by omega) (by omega)] at hq
    refine ⟨by omega,?_⟩
    rw [Ap (by omega)]
    have hb:mask (p.take j)<2^20:=Bcm fun x hx=>by have:=hR x hx;omega
    refine hK hl _ rfl ⟨?_,?_⟩
    ·dsimp only
     rw [Bco hb hq.1 (by omega),List.take_succ_eq_append_getElem hl,Aym]
    ·rw [List.take_succ_eq_append_getElem hl]
     intro x hx
     rcases List.mem_append.1 hx with hx|hx
     ·exact hR x hx
     ·rw [List.mem_singleton.1 hx];omega
  ·have:j=p.length:=by omega
   subst this
   rw [List.take_length] at hR⊢
   refine ⟨by omega,?_⟩
   have hx:(2:Nat)^p.length≤2^20:=Nat.pow_le_pow_right (by omega) (by omega)
   have hpos:0<(2:Nat)^p.length:=Nat.two_pow_pos _
   have e1:min (p.length:Int).toNat IntKind.i64.bits=p.length:=by show min (p.length:Int).toNat 64=_;omega
   have e2:(1:Int)*(2:Int)^p.length=((2^p.length:Nat):Int):=by rw [Int.one_mul];exact (Int.natCast_pow 2 _).symm
   rw [e1,e2,Bu (n:=((2^p.length:Nat):Int)) (by omega) (by omega),Bu (by omega) (by omega)]
   have hE:((mask p:Int)==((2^p.length:Nat):Int)-1)=decide (mask p=2^p.length-1):=by
    rw [Bool.eq_iff_iff,beq_iff_eq,decide_eq_true_iff]
    omega
   show ((mask p:Int)==((2^p.length:Nat):Int)-1)=Hk p
   rw [hE]
   by_cases hf:mask p=2^p.length-1
   ·rw [decide_eq_true hf]
    have hn:=(Sw hR).1 ((Amz hR).1 hf)
    refine Ik ⟨by omega,by omega,fun j hj _=>?_⟩
    have:=hR _ (List.getElem_mem hj)
    exact ⟨this.1,by omega,hn j hj⟩
   ·rw [decide_eq_false hf]
    refine Bd fun hh=>hf ((Amz hR).2 ((Sw hR).2 fun j hj=>(hh.2.2 j hj hj).2.2))
theorem Ag3:Sound Try.prog 170 Gb:=
 Sound.mkS Ch (Ag Mq (Ag Acw Ar)) mixed Try.func170 (by kernel_rfl) (by kernel_rfl) fun x h=>Ap5 x.1 h
theorem Ap8 (n:Int) (g:List (List Int)) (h:Dv g):fnW tab (look [(122,Bi),(169,Gb)]) Ir Try.f148 (n,g,()) (fun (z:Bool)=>z=Og n g):=by
 obtain ⟨h,h4⟩:=h
 refine Eq.mp (Aqs n g _) ⟨_,if_pos trivial,⟨fun hp=>?_,fun hp=>?_⟩⟩
 ·have hp:=Dc hp
  rw [Ce] at hp
  exact Bd fun hh=>hp hh.1
 ·have hp:=Fa hp
  rw [Ce] at hp
  refine Br.dec (fun hg=>?_) fun hg=>?_
  ·exact Bd fun hh=>by have:=hh.2.1;omega
  ·refine Ao g.length (fun v=>v.1) (fun j _=> ∀p∈g.take j,Hz n p=true) rfl (by simp) ?_
   rintro j ⟨i,⟨⟩⟩ K hj hi hR hK
   dsimp only at hi⊢
   subst hi
   refine Br.dec (fun hl=>?_) fun hl=>?_
   ·have hl:j<g.length:=by omega
    have hm:g[j]∈g:=List.getElem_mem hl
    refine ⟨_,Az hl,⟨fun he=>?_,fun he=>?_⟩⟩
    ·simp only [bne_iff_ne,ne_eq] at he
     exact Bd fun hh=>he (Dl.1 (hh.2.2 _ hm)).1
    ·simp only [bne_eq_false_iff_eq] at he
     refine ⟨_,Az hl,_,if_pos (h4 _ hm),⟨fun hq=>?_,fun hq=>?_⟩⟩
     ·have hq:=Dc hq
      exact Bd fun hh=>hq (Dl.1 (hh.2.2 _ hm)).2
     ·have hq:=Fa hq
      rw [Ap (by omega)]
      refine hK hl _ rfl ?_
      rw [List.take_succ_eq_append_getElem hl]
      intro x hx
      rcases List.mem_append.1 hx with hx|hx
      ·exact hR x hx
      ·rw [List.mem_singleton.1 hx];exact Dl.2 ⟨he,hq⟩
   ·have:j=g.length:=by omega
    subst this
    rw [List.take_length] at hR
    exact Ik ⟨hp,by omega,hR⟩
theorem Ag5:Sound Try.prog 148 Ir:=
 Sound.mkS Ch (Ag Th (Ag Us Ar)) mixed Try.func148 (by kernel_rfl) (by kernel_rfl) fun x h=>Ap8 x.1 x.2.1 h
theorem Bcq (p:List Int) (n:Int) (h:short p):fnW tab (look [(127,Nl),(170,Gb)]) Aas Try.f174 (p,n,()) (fun (z:Bool)=>z=!Hz n p):=by
 refine Eq.mp (Bd9 p n _) ⟨_,if_pos trivial,⟨fun he=>?_,fun he=>⟨_,if_pos h,?_⟩⟩⟩
 ·simp only [bne_iff_ne,ne_eq] at he
  have:Hz n p=false:=Bch.2 fun hh=>he hh.1
  rw [this];rfl
 ·simp only [bne_eq_false_iff_eq] at he
  show (!Hk p)=_
  congr 1
  cases hp:Hk p with
  |true=>exact Ik ⟨he,hp⟩
  |false=>exact Bd fun hh=>by rw [hh.2] at hp;cases hp
theorem Atq:Sound Try.prog 174 Aas:=
 Sound.mkS Ch (Ag Acw (Ag Ag3 Ar)) mixed Try.func174 (by kernel_rfl) (by kernel_rfl) fun x h=>Bcq x.1 x.2.1 h
theorem Agx {α:Type} (P:α→Bool): ∀(l:List α) (i:Int),0≤i→(0≤Fg P l i↔l.any P=true)
 | [],i,_=>by simp [Fg]
 |y::r,i,h=>by
  simp only [Fg,List.any_cons,Bool.or_eq_true]
  split
  ·rename_i hy;simp [hy,h]
  ·rename_i hy;rw [Agx P r (i+1) (by omega)];simp [hy]
theorem Bf4 (g:List (List Int)) (n:Int×Unit) (h:Dv g):fnW tab (look [(174,Aas)]) Anh Try.f181 (g,n,()) (fun (z:Int)=>z=Fg (fun p=>!Hz n.1 p) g 0):=by
 obtain ⟨h,h4⟩:=h
 refine Eq.mp (Bfh g n _) ?_
 refine Ao g.length (fun v=>v.1) (fun j _=>Fg (fun p=>!Hz n.1 p) (g.drop j) j=Fg (fun p=>!Hz n.1 p) g 0) rfl (by simp) ?_
 rintro j ⟨i,⟨⟩⟩ K hj hi hR hK
 dsimp only at hi⊢
 subst hi
 refine Br.dec (fun hl=>?_) fun hl=>?_
 ·have hl:j<g.length:=by omega
  rw [List.drop_eq_getElem_cons hl] at hR
  simp only [Fg] at hR
  refine ⟨_,Az hl,_,if_pos (h4 _ (List.getElem_mem hl)),⟨fun he=>?_,fun he=>?_⟩⟩
  ·have he:(!Hz n.1 g[j])=true:=he
   rw [if_pos he] at hR
   exact hR
  ·have he:(!Hz n.1 g[j])=false:=he
   rw [if_neg (by rw [he];decide)] at hR
   rw [Ap (by omega)]
   exact hK hl _ rfl (by push_cast;exact hR)
 ·have:j=g.length:=by omega
  subst this
  rw [List.drop_length] at hR
  exact hR
theorem Azh:Sound Try.prog 181 Anh:=
 Sound.mkS Ch (Ag Atq Ar) mixed Try.func181 (by kernel_rfl) (by kernel_rfl) fun x h=>Bf4 x.1 x.2.1 h
theorem Bf0 (g:List (List Int)) (n:Int×Unit) (h:Dv g):fnW tab (look [(181,Anh)]) Anf Try.f173 (g,n,()) (fun (z:Bool)=>z=List.any g (fun p=>!Hz n.1 p)):=by
 refine Eq.mp (Bfd g n _) ⟨_,if_pos h,?_⟩
 rw [Bool.eq_iff_iff,decide_eq_true_iff]
 exact Agx _ g 0 (Int.le_refl 0)
theorem Aze:Sound Try.prog 173 Anf:=
 Sound.mkS Ch (Ag Azh Ar) mixed Try.func173 (by kernel_rfl) (by kernel_rfl) fun x h=>Bf0 x.1 x.2.1 h
theorem Ap4 (n:Int) (g:List (List Int)) (h:Dv g):fnW tab (look [(108,Bi),(173,Anf)]) Ir Try.f157 (n,g,()) (fun (z:Bool)=>z=Og n g):=by
 refine Eq.mp (Aqo n g _) ⟨_,if_pos trivial,⟨fun hp=>?_,fun hp=>?_⟩⟩
 ·have hp:Fq n 1 20=true:=hp
  rw [Ce] at hp
  refine Br.dec (fun hl=>⟨_,if_pos h,?_⟩) fun hl=>?_
  ·show (!List.any g (fun p=>!Hz n p))=Og n g
   cases ha:List.any g (fun p=>!Hz n p) with
   |true=>
    obtain ⟨p,hp1,hp2⟩:=List.any_eq_true.1 ha
    exact Bd fun hh=>by rw [hh.2.2 p hp1] at hp2;cases hp2
   |false=>
    refine Ik ⟨hp,by omega,fun p hm=>?_⟩
    have:=List.any_eq_false.1 ha p hm
    simpa using this
  ·exact Bd fun hh=>by have:=hh.2.1;omega
 ·refine Bd fun hh=>?_
  have:Fq n 1 20=true:=Ce.2 hh.1
  have hp:Fq n 1 20=false:=hp
  rw [this] at hp;cases hp
theorem Ag2:Sound Try.prog 157 Ir:=
 Sound.mkS Ch (Ag Mq (Ag Aze Ar)) mixed Try.func157 (by kernel_rfl) (by kernel_rfl) fun x h=>Ap4 x.1 x.2.1 h
theorem Gc {s:ByteArray} {k:Nat} (h:k<s.size):s[k]?=some s[k]:=getElem?_pos s k h
theorem Bb8 (s:ByteArray) (i:Int) (h:0≤i∧i<s.size∧s.size≤4294967296):fnW tab (look []) Un Try.f149 (s,i,()) (fun (z:Bool)=>z=Ae4 s i):=by
 obtain ⟨h1,h2,h3⟩:=h
 have hi:i.toNat<s.size:=by omega
 refine Eq.mp (Bc7 s i _) ⟨h1,_,Gc hi,Br.dec (fun hq=>?_) fun hq=>⟨h1,_,Gc hi,Br.dec (fun hr=>?_) fun hr=>?_⟩⟩
 ·refine Bd fun ⟨c,hc,hc1,_⟩=>?_
  rw [Gc hi] at hc;cases hc;omega
 ·refine Bd fun ⟨c,hc,_,hc1,_⟩=>?_
  rw [Gc hi] at hc;cases hc;omega
 ·refine Ao i.toNat (fun v=>v.1) (fun j _=> ∀k,k<j→s[k]?≠some s[i.toNat]) rfl (fun k hk=>absurd hk (Nat.not_lt_zero _)) ?_
  rintro j ⟨i',⟨⟩⟩ K hj hi' hR hK
  dsimp only at hi'⊢
  subst hi'
  refine Br.dec (fun hl=>?_) fun hl=>?_
  ·have hl:j<i.toNat:=by omega
   have hj:j<s.size:=by omega
   rw [Int.toNat_natCast]
   refine ⟨by omega,_,Gc hj,h1,_,Gc hi,⟨fun he=>?_,fun he=>?_⟩⟩
   ·simp only [beq_iff_eq,Int.natCast_inj] at he
    refine Bd fun ⟨c,hc,_,_,hc1⟩=>?_
    rw [Gc hi] at hc;cases hc
    exact hc1 j hl (by rw [Gc hj,UInt8.toNat_inj.1 he])
   ·simp only [beq_eq_false_iff_ne,ne_eq,Int.natCast_inj] at he
    rw [Ap (by omega)]
    refine hK hl _ rfl fun k hk=>?_
    by_cases e:k=j
    ·subst e
     rw [Gc hj]
     exact fun e=>he (by rw [Option.some.inj e])
    ·exact hR k (by omega)
  ·have:j=i.toNat:=by omega
   subst this
   exact Ik ⟨_,Gc hi,by omega,by omega,hR⟩
theorem Aq4:Sound Try.prog 149 Un:=
 Sound.mkS Ch Ar mixed Try.func149 (by kernel_rfl) (by kernel_rfl) fun x h=>Bb8 x.1 x.2.1 h
theorem Ayx (s:ByteArray) (h:s.size≤4294967296):fnW tab (look [(108,Bi)]) Qf Try.f158 (s,()) (fun (z:Bool)=>z=Uf s):=by
 refine Eq.mp (Azv s _) ?_
 refine Ao s.size (fun v=>v.1) (fun j _=> ∀k,k<j→Anu s k) rfl (fun k hk=>absurd hk (Nat.not_lt_zero _)) ?_
 rintro j ⟨i,⟨⟩⟩ K hj hi hR hK
 dsimp only at hi⊢
 subst hi
 refine Br.dec (fun hl=>?_) fun hl=>?_
 ·have hl:j<s.size:=by omega
  rw [Int.toNat_natCast]
  have hb:=(s[j]).toNat_lt
  refine ⟨by omega,_,Gc hl,_,if_pos trivial,⟨fun hq=>?_,fun hq=>?_⟩⟩
  ·have hq:=Dc hq
   rw [Ce] at hq
   dsimp only at hq
   rw [Bu (by omega) (by omega)] at hq
   refine Bd fun hh=>?_
   obtain ⟨c,hc,hc1,hc2,_⟩:=hh.2 j hl
   rw [Gc hl] at hc;cases hc
   exact hq ⟨by omega,by omega⟩
  ·have hq:=Fa hq
   rw [Ce] at hq
   dsimp only at hq
   rw [Bu (by omega) (by omega)] at hq
   refine Ao j (fun v=>v.1) (fun m _=> ∀k,k<m→s[k]?≠some s[j]) rfl (fun k hk=>absurd hk (Nat.not_lt_zero _)) ?_
   rintro m ⟨i',⟨⟩⟩ K' hm hi' hR' hK'
   dsimp only at hi'⊢
   subst hi'
   refine Br.dec (fun hl'=>?_) fun hl'=>?_
   ·have hl':m<j:=by omega
    have hm':m<s.size:=by omega
    rw [Int.toNat_natCast]
    refine ⟨by omega,_,Gc hm',by omega,_,Gc hl,⟨fun he=>?_,fun he=>?_⟩⟩
    ·simp only [beq_iff_eq,Int.natCast_inj] at he
     refine Bd fun hh=>?_
     obtain ⟨c,hc,_,_,hc1⟩:=hh.2 j hl
     rw [Gc hl] at hc;cases hc
     exact hc1 m hl' (by rw [Gc hm',UInt8.toNat_inj.1 he])
    ·simp only [beq_eq_false_iff_ne,ne_eq,Int.natCast_inj] at he
     rw [Ap (by omega)]
     refine hK' hl' _ rfl fun k hk=>?_
     by_cases e:k=m
     ·subst e
      rw [Gc hm']
      exact fun e=>he (by rw [Option.some.inj e])
     ·exact hR' k (by omega)
   ·have:m=j:=by omega
    subst this
    rw [Ap (by omega)]
    refine hK hl _ rfl fun k hk=>?_
    by_cases e:k=m
    ·subst e
     exact ⟨_,Gc hl,by omega,by omega,hR'⟩
    ·exact hR k (by omega)
 ·have:j=s.size:=by omega
  subst this
  refine ⟨_,if_pos trivial,?_⟩
  show Fq s.size 1 8=_
  cases hr:Fq s.size 1 8 with
  |true=>rw [Ce] at hr;exact Ik ⟨by omega,hR⟩
  |false=>refine Bd fun hh=>?_;rw [Ce.2 ⟨by omega,by omega⟩] at hr;cases hr
theorem Alv:Sound Try.prog 158 Qf:=
 Sound.mkS Ch (Ag Mq Ar) mixed Try.func158 (by kernel_rfl) (by kernel_rfl) fun x h=>Ayx x.1 h
theorem Awy {p:PP} (h:Bq p=true):1≤p.1∧p.1≤20∧1≤p.2.2.1.length∧p.2.2.1.length≤8:=by
 obtain ⟨h1,h2,h3⟩:=Dl.1 h
 obtain ⟨h4,h5,_⟩:=Dl.1 h1
 obtain ⟨h6,_⟩:=Dl.1 h2
 omega
theorem Apa (p:PP) (h:Cd p):fnW tab (look [(148,Ir),(149,Un)]) Ej Try.f99 (p,()) (fun (z:Bool)=>z=Bq p):=by
 obtain ⟨hn,hg⟩:=h
 refine Eq.mp (Aqu p _) ⟨fun h0=>?_,fun h0=>⟨fun h1=>?_,fun h1=>⟨_,if_pos hg,⟨fun h2=>?_,fun h2=>?_⟩⟩⟩⟩
 ·simp only [beq_iff_eq] at h0
  exact Bd fun hh=>by obtain ⟨_,h2,h3⟩:=hh;have:=(Dl.1 h2).1;omega
 ·simp only [bne_iff_ne,ne_eq,Int.natCast_inj] at h1
  exact Bd fun hh=>h1 hh.2.2
 ·have h2:=Dc h2
  exact Bd fun hh=>h2 hh.1
 ·simp only [beq_eq_false_iff_ne,ne_eq] at h0
  simp only [bne_eq_false_iff_eq,Int.natCast_inj] at h1
  have h2:Og p.1 p.2.2.1=true:=Fa h2
  refine Ao p.2.1.size (fun v=>v.1) (fun j v=>v.2=(p.1,p.2.1,p.2.2.1,())∧ ∀k,k<j→Anu p.2.1 k) rfl ⟨rfl,fun k hk=>absurd hk (Nat.not_lt_zero _)⟩ ?_
  rintro j ⟨i,v⟩ K hj hi ⟨hv,hR⟩ hK
  dsimp only at hi hv⊢
  subst hi hv
  dsimp only
  refine Br.dec (fun hl=>?_) fun hl=>?_
  ·have hl:j<p.2.1.size:=by omega
   refine ⟨_,if_pos ⟨Int.natCast_nonneg j,Int.ofNat_lt.2 hl,hn⟩,⟨fun hq=>?_,fun hq=>?_⟩⟩
   ·have hq: ¬Ae4 p.2.1 j=true:=Dc hq
    refine Bd fun hh=>hq (Dl.2 ?_)
    rw [Int.toNat_natCast]
    exact (Dl.1 hh.2.1).2 j hl
   ·have hq:Ae4 p.2.1 j=true:=Fa hq
    have hq:=Dl.1 hq
    rw [Int.toNat_natCast] at hq
    rw [Ap (by omega)]
    refine hK hl _ rfl ⟨rfl,fun k hk=>?_⟩
    by_cases e:k=j
    ·subst e;exact hq
    ·exact hR k (by omega)
  ·have:j=p.2.1.size:=by omega
   subst this
   have:=(Dl.1 h2).2.1
   exact Ik ⟨h2,Dl.2 ⟨⟨by omega,by omega⟩,hR⟩,h1⟩
theorem Ut:Sound Try.prog 99 Ej:=
 Sound.mkS Ch (Ag Ag5 (Ag Aq4 Ar)) mixed Try.func99 (by kernel_rfl) (by kernel_rfl) fun x h=>Apa x.1 h
theorem Ap6 (p:PP) (h:Cd p):fnW tab (look [(157,Ir),(158,Qf)]) Ej Try.f124 (p,()) (fun (z:Bool)=>z=Bq p):=by
 obtain ⟨hn,hg⟩:=h
 refine Eq.mp (Aqq p _) ⟨_,if_pos hg,⟨fun h1=>⟨_,if_pos hn,⟨fun h2=>?_,fun h2=>?_⟩⟩,fun h1=>?_⟩⟩
 ·have h1:Og p.1 p.2.2.1=true:=h1
  have h2:Uf p.2.1=true:=h2
  by_cases e:p.2.1.size=p.2.2.1.length
  ·rw [e,beq_self_eq_true];exact Ik ⟨h1,h2,e⟩
  ·rw [show ((p.2.1.size:Int)==(p.2.2.1.length:Int))=false from beq_eq_false_iff_ne.2 (by omega)];exact Bd fun hh=>e hh.2.2
 ·have h2:Uf p.2.1=false:=h2
  exact Bd fun hh=>by rw [hh.2.1] at h2;cases h2
 ·have h1:Og p.1 p.2.2.1=false:=h1
  exact Bd fun hh=>by rw [hh.1] at h1;cases h1
theorem Ur:Sound Try.prog 124 Ej:=
 Sound.mkS Ch (Ag Ag2 (Ag Alv Ar)) mixed Try.func124 (by kernel_rfl) (by kernel_rfl) fun x h=>Ap6 x.1 h
theorem Ahy {a b:Bool} :(a&&b)=dec (a=true∧b=true):=by
 cases ha:a<;>cases hb:b
 ·exact Bd (by simp)
 ·exact Bd (by simp)
 ·exact Bd (by simp)
 ·exact Ik ⟨rfl,rfl⟩
theorem Afq (p:PP) (xs:List Int) (h:Cd p∧short xs):fnW tab (look [(99,Ej),(100,Eh)]) Du Try.f116 (p,xs,()) (fun (z:Bool)=>z=Bg p xs):=by
 refine Eq.mp (Agd p xs _) ⟨_,if_pos h.1,⟨fun h1=>⟨_,if_pos ⟨⟨by omega,by have:=h.1.2.1;dsimp only;omega⟩,h.2⟩,?_⟩,fun h1=>?_⟩⟩
 ·have h1:Bq p=true:=h1
  show Lr p.2.2.1.length xs=_
  rw [Bg,←Ahy,h1,Bool.true_and]
 ·have h1:Bq p=false:=h1
  rw [Bg,←Ahy,h1,Bool.false_and]
theorem Zx:Sound Try.prog 116 Du:=
 Sound.mkS Ch (Ag Ut (Ag Aen Ar)) mixed Try.func116 (by kernel_rfl) (by kernel_rfl) fun x h=>Afq x.1 x.2.1 h
theorem Afp (p:PP) (xs:List Int) (h:Cd p∧short xs):fnW tab (look [(124,Ej),(55,Eh),(67,Px)]) Du Try.f117 (p,xs,()) (fun (z:Bool)=>z=Bg p xs):=by
 refine Eq.mp (Agc p xs _) ⟨_,if_pos h.1,⟨fun h1=>⟨_,if_pos trivial,_,if_pos ⟨⟨by dsimp only;omega,by have:=h.1.2.1;dsimp only;omega⟩,h.2⟩,?_⟩,fun h1=>?_⟩⟩
 ·have h1:Bq p=true:=h1
  show Lr p.2.2.1.length xs=_
  rw [Bg,←Ahy,h1,Bool.true_and]
 ·have h1:Bq p=false:=h1
  rw [Bg,←Ahy,h1,Bool.false_and]
theorem Zv:Sound Try.prog 117 Du:=
 Sound.mkS Ch (Ag Ur (Ag Ahr (Ag Ah9 Ar))) mixed Try.func117 (by kernel_rfl) (by kernel_rfl) fun x h=>Afp x.1 x.2.1 h
theorem Bf6 (p:PP) (room:Int) (h:Cd p∧roomy room):fnW tab (look [(33,Afx)]) Anj Try.f15 (p,room,()) (fun (z:Int)=>z=Za p room):=by
 obtain ⟨⟨h1,h2⟩,h3,h4⟩:=h
 refine Eq.mp (Bfj p room _) ?_
 rw [Bu (by omega) (by omega)]
 refine Br.dec (fun hn=>?_) fun hn=>⟨_,if_pos ⟨h2,by dsimp only;omega,by dsimp only;omega⟩,Br.dec (fun hm=>?_) fun hm=>?_⟩
 ·simp only [Za,if_pos hn]
 ·exact ((if_neg hn).trans (if_pos hm)).symm
 ·exact ((if_neg hn).trans (if_neg hm)).symm
theorem Azj:Sound Try.prog 15 Anj:=
 Sound.mkS Ch (Ag Awq Ar) mixed Try.func15 (by kernel_rfl) (by kernel_rfl) fun x h=>Bf6 x.1 x.2.1 h
theorem Bf8 (p:PP) (h:Cd p):fnW tab (look [(35,Afy)]) Ank Try.f17 (p,()) (fun (z:PP)=>z=p):=Eq.mp (Bfl p _) ⟨_,if_pos h.2,rfl⟩
theorem Azk:Sound Try.prog 17 Ank:=
 Sound.mkS Ch (Ag Awr Ar) mixed Try.func17 (by kernel_rfl) (by kernel_rfl) fun x h=>Bf8 x.1 h
theorem Arf {a b:ByteArray} :(a.toList==b.toList)=decide (a=b):=by
 rw [Bool.eq_iff_iff,beq_iff_eq,decide_eq_true_iff,ByteArray.toList_eq,ByteArray.toList_eq]
 exact ⟨fun h=>ByteArray.ext (Array.toList_inj.1 h),fun h=>by rw [h]⟩
theorem Bf2 (a b:PP) (h:Cd a):fnW tab (look [(37,Afv)]) Aej Try.f20 (a,b,()) (fun (z:Bool)=>z=Agw a b):=by
 refine Eq.mp (Bff a b _) ⟨fun h1=>?_,fun h1=>⟨fun h2=>?_,fun h2=>⟨_,if_pos h.2,⟨fun h3=>?_,fun h3=>?_⟩⟩⟩⟩
 ·simp only [bne_iff_ne,ne_eq] at h1
  unfold Agw
  rw [decide_eq_false h1];rfl
 ·rw [Arf] at h2
  unfold Agw
  cases hd:decide (a.2.1=b.2.1)<;>simp_all
 ·have h3:(!Afe a.2.2.1 b.2.2.1)=true:=h3
  simp only [Afe,Bool.not_eq_true'] at h3
  unfold Agw
  rw [h3];simp
 ·have h3:(!Afe a.2.2.1 b.2.2.1)=false:=h3
  rw [Arf] at h2
  simp only [Afe] at h3
  simp only [bne_eq_false_iff_eq] at h1
  unfold Agw
  simp_all
theorem Azf:Sound Try.prog 20 Aej:=
 Sound.mkS Ch (Ag Awo Ar) mixed Try.func20 (by kernel_rfl) (by kernel_rfl) fun x h=>Bf2 x.1 x.2.1 h
theorem Vt (p:PP):Agw p p=true:=by simp [Agw]
end Go.Proofs.Ytebabhocakedaaa

namespace Go.Proofs.Ytebabhocakedaaa
open Go.RowKit
def Lg (xs:List Int) (i:Int):Int:=xs.getD i.toNat 0
def Aa (p q:List Int):List Int:=p.map (Lg q)
def Rx (f:Nat→Nat) (g:Nat→Int) (m:Nat) (init:List Int):List Int:=(List.range m).foldl (fun (out:List Int) (i:Nat)=>out.set (f i) (g i)) init
def Ah (p:List Int):List Int:=Rx (fun i=>(Lg p (i:Int)).toNat) (fun i=>(i:Int)) p.length (List.replicate p.length 0)
def Ms (n:Nat) (p:List Int):Prop:= ∀y∈p,0≤y∧y<n
noncomputable abbrev Qe:Spec:=mkS (.pair tL (.pair tL .unit)) tL false true (fun x=>List.length x.1≤20∧Ms (List.length x.2.1) x.1) (fun x=>Aa x.1 x.2.1)
noncomputable abbrev Dq:Spec:=mkS (.pair tL .unit) tL false true (fun x=>List.length x.1≤20∧Ms (List.length x.1) x.1) (fun x=>Ah x.1)
noncomputable abbrev Bv:Spec:=mkS (.pair tI .unit) tL false true (fun x=>0≤x.1∧x.1≤20) (fun x=>upto x.1.toNat)
noncomputable abbrev Ja:Spec:=mkS (.pair tL .unit) tL false true (fun x=>Hk x.1=true) (fun x=>Ah x.1)
def Af (g:List (List Int)) (l:Int):List Int:=if l>0 then g.getD (l-1).toNat [] else Ah (g.getD (-l-1).toNat [])
def Fz (n:Int) (l:Int):Prop:=l≠0∧ -n≤l∧l≤n
noncomputable abbrev Nm:Spec:=mkS (.pair tLL (.pair tI .unit)) tL false false (fun x=>Fz (List.length x.1) x.2.1∧List.length x.1≤8∧ ∀p∈x.1,Hk p=true) (fun x=>Af x.1 x.2.1)
def Bc (n:Nat):List Int:=(List.range n).flatMap fun (k:Nat)=> [(k:Int)+1,-((k:Int)+1)]
noncomputable abbrev Jx:Spec:=mkS (.pair tI .unit) tL false true (fun x=>0≤x.1∧x.1≤8) (fun x=>Bc x.1.toNat)
noncomputable abbrev Uk:Spec:=mkS (.pair Cr (.pair tL (.pair tI .unit))) tL false true (fun x=>Bq x.1=true∧List.length x.2.1≤20∧(∀y∈x.2.1,0≤y∧y<x.1.1)∧Fz (List.length x.1.2.2.1) x.2.2.1) (fun x=>Aa x.2.1 (Af x.1.2.2.1 x.2.2.1))
theorem Am4 (p q:List Int) (P:List Int→Prop):(((0:Int)≤(↑p.length:Int)∧(↑p.length:Int)<(↑Am:Int)+(1:Int))∧
 (↑p.length:Int)=(↑p.length:Int)∧
  (0:Nat)=(0:Nat)∧
   (List.replicate (↑p.length:Int).toNat (Int.ofNat (nat_lit 0))).length=(List.replicate (↑p.length:Int).toNat (Int.ofNat (nat_lit 0))).length∧
    Cc
     (fun (v3:Int×List Int×PUnit) (k4:Int×List Int×PUnit→Prop)=>
      Br (decide (v3.1<(↑p.length:Int)))
       (∃(y5:Int),
        idx p v3.1=some y5∧
         ∃(y6:Int),
          idx q y5=some y6∧
           ((0:Int)≤v3.1∧v3.1<(↑v3.2.1.length:Int))∧
            (0:Nat)+v3.1.toNat<v3.2.1.length∧
             (0:Nat)=(0:Nat)∧
              v3.2.1.length=(v3.2.1.set ((0:Nat)+v3.1.toNat) y6).length∧k4 (IntKind.i64.wrap (v3.1+(1:Int)),v3.2.1.set ((0:Nat)+v3.1.toNat) y6,()))
       (P (List.take v3.2.1.length (List.drop (0:Nat) v3.2.1))))
     ((0:Int),List.replicate (↑p.length:Int).toNat (Int.ofNat (nat_lit 0)),PUnit.unit))=fnW tab (look []) Qe Try.f131 (p,q,()) P:=by kernel_rfl
theorem Am5 (p:List Int) (P:List Int→Prop):(((0:Int)≤(↑p.length:Int)∧(↑p.length:Int)<(↑Am:Int)+(1:Int))∧
 (↑p.length:Int)=(↑p.length:Int)∧
  (0:Nat)=(0:Nat)∧
   (List.replicate (↑p.length:Int).toNat (Int.ofNat (nat_lit 0))).length=(List.replicate (↑p.length:Int).toNat (Int.ofNat (nat_lit 0))).length∧
    Cc
     (fun (v2:Int×List Int×PUnit) (k3:Int×List Int×PUnit→Prop)=>
      Br (decide (v2.1<(↑p.length:Int)))
       (∃(y4:Int),
        idx p v2.1=some y4∧
         ((0:Int)≤y4∧y4<(↑v2.2.1.length:Int))∧
          (0:Nat)+y4.toNat<v2.2.1.length∧
           (0:Nat)=(0:Nat)∧
            v2.2.1.length=(v2.2.1.set ((0:Nat)+y4.toNat) v2.1).length∧k3 (IntKind.i64.wrap (v2.1+(1:Int)),v2.2.1.set ((0:Nat)+y4.toNat) v2.1,()))
       (P (List.take v2.2.1.length (List.drop (0:Nat) v2.2.1))))
     ((0:Int),List.replicate (↑p.length:Int).toNat (Int.ofNat (nat_lit 0)),PUnit.unit))=fnW tab (look []) Dq Try.f165 (p,()) P:=by kernel_rfl
theorem Azz (p:List Int) (P:List Int→Prop):(((0:Int)≤(↑p.length:Int)∧(↑p.length:Int)<(↑Am:Int)+(1:Int))∧
 (↑p.length:Int)=(↑p.length:Int)∧
  (0:Nat)=(0:Nat)∧
   (List.replicate (↑p.length:Int).toNat (Int.ofNat (nat_lit 0))).length=(List.replicate (↑p.length:Int).toNat (Int.ofNat (nat_lit 0))).length∧
    Cc
     (fun (v2:Int×List Int×PUnit) (k3:Int×List Int×PUnit→Prop)=>
      Br (decide (v2.1<(↑p.length:Int)))
       (∃(y4:Int),
        idx p v2.1=some y4∧
         ((0:Int)≤y4∧y4<(↑v2.2.1.length:Int))∧
          (0:Nat)+y4.toNat<v2.2.1.length∧
           (0:Nat)=(0:Nat)∧
            v2.2.1.length=(v2.2.1.set ((0:Nat)+y4.toNat) v2.1).length∧k3 (IntKind.i64.wrap (v2.1+(1:Int)),v2.2.1.set ((0:Nat)+y4.toNat) v2.1,()))
       (P (List.take v2.2.1.length (List.drop (0:Nat) v2.2.1))))
     ((0:Int),List.replicate (↑p.length:Int).toNat (Int.ofNat (nat_lit 0)),PUnit.unit))=fnW tab (look []) Dq Try.f175 (p,()) P:=by kernel_rfl
theorem Am7 (p:List Int) (P:List Int→Prop):(∃(y2:Bool),Gb.fn (p,())=some y2∧Br (!y2) (P (List.take (0:Nat) (List.drop (0:Nat) []))) (∃(y3:List Int),Dq.fn (p,())=some y3∧P y3))=fnW tab (look [(169,Gb),(175,Dq)]) Ja Try.f160 (p,()) P:=by kernel_rfl
theorem Ax1 (n:Int) (P:List Int→Prop):((0:Nat)=(0:Nat)∧
 (0:Nat)=([]:List Int).length∧
  Cc
   (fun (v2:Int×List Int×PUnit) (k3:Int×List Int×PUnit→Prop)=>
    Br (decide (v2.1<n))
     ((0:Nat)=(0:Nat)∧
      v2.2.1.length=v2.2.1.length∧
       v2.2.1.length+(List.take (1:Nat) (List.drop (0:Nat) [v2.1])).length≤Am∧
        (0:Nat)=(0:Nat)∧
         (v2.2.1++List.take (1:Nat) (List.drop (0:Nat) [v2.1])).length=(v2.2.1++List.take (1:Nat) (List.drop (0:Nat) [v2.1])).length∧
          k3 (IntKind.i64.wrap (v2.1+(1:Int)),v2.2.1++List.take (1:Nat) (List.drop (0:Nat) [v2.1]),()))
     (P (List.take v2.2.1.length (List.drop (0:Nat) v2.2.1))))
   ((0:Int),[],PUnit.unit))=fnW tab (look []) Bv Try.f106 (n,()) P:=by kernel_rfl
theorem Ax2 (g:List (List Int)) (l:Int) (P:List Int→Prop):(Br (decide (l>(0:Int))) (∃(y3:List Int),idx g (IntKind.i64.wrap (l-(1:Int)))=some y3∧P y3)
 (∃(y3:List Int),idx g (IntKind.i64.wrap (IntKind.i64.wrap ((0:Int)-l)-(1:Int)))=some y3∧ ∃(y4:List Int),Dq.fn (y3,())=some y4∧P y4))=fnW tab (look [(165,Dq)]) Nm Try.f155 (g,l,()) P:=by kernel_rfl
theorem Azx (n:Int) (P:List Int→Prop):((0:Nat)=(0:Nat)∧
 (0:Nat)=([]:List Int).length∧
  Cc
   (fun (v2:Int×List Int×PUnit) (k3:Int×List Int×PUnit→Prop)=>
    Br (decide (v2.1<n))
     ((0:Nat)=(0:Nat)∧
      v2.2.1.length=v2.2.1.length∧
       v2.2.1.length+(List.take (2:Nat) (List.drop (0:Nat) [IntKind.i64.wrap (v2.1+(1:Int)),IntKind.i64.wrap ((0:Int)-IntKind.i64.wrap (v2.1+(1:Int)))])).length≤
         Am∧
        (0:Nat)=(0:Nat)∧
         (v2.2.1++List.take (2:Nat) (List.drop (0:Nat) [IntKind.i64.wrap (v2.1+(1:Int)),IntKind.i64.wrap ((0:Int)-IntKind.i64.wrap (v2.1+(1:Int)))])).length=
           (v2.2.1++List.take (2:Nat) (List.drop (0:Nat) [IntKind.i64.wrap (v2.1+(1:Int)),IntKind.i64.wrap ((0:Int)-IntKind.i64.wrap (v2.1+(1:Int)))])).length∧
          k3
           (IntKind.i64.wrap (v2.1+(1:Int)),
            v2.2.1++List.take (2:Nat) (List.drop (0:Nat) [IntKind.i64.wrap (v2.1+(1:Int)),IntKind.i64.wrap ((0:Int)-IntKind.i64.wrap (v2.1+(1:Int)))]),()))
     (P (List.take v2.2.1.length (List.drop (0:Nat) v2.2.1))))
   ((0:Int),[],PUnit.unit))=fnW tab (look []) Jx Try.f112 (n,()) P:=by kernel_rfl
theorem Bc2 (p:Int×ByteArray×List (List Int)×Unit) (s:List Int) (l:Int) (P:List Int→Prop):(∃(y4:List Int),
 idx p.2.2.1
    (IntKind.i64.wrap
     ((if true=true then if IntKind.i64.wrap ((0:Int)-l)>l then IntKind.i64.wrap ((0:Int)-l) else l
      else if IntKind.i64.wrap ((0:Int)-l)<l then IntKind.i64.wrap ((0:Int)-l) else l)-
      (1:Int)))=
   some y4∧
  Br (decide (l<(0:Int)))
   (∃(y5:List Int),
    Ja.fn (y4,())=some y5∧
     (0:Nat)=(0:Nat)∧
      (0:Nat)=([]:List Int).length∧
       Cc
        (fun (v6:Int×List Int×PUnit) (k7:Int×List Int×PUnit→Prop)=>
         Br (decide (v6.1<(↑s.length:Int)))
          (∃(y8:Int),
           idx s v6.1=some y8∧
            ∃(y9:Int),
             idx y5 y8=some y9∧
              (0:Nat)=(0:Nat)∧
               v6.2.1.length=v6.2.1.length∧
                v6.2.1.length+(List.take (1:Nat) (List.drop (0:Nat) [y9])).length≤Am∧
                 (0:Nat)=(0:Nat)∧
                  (v6.2.1++List.take (1:Nat) (List.drop (0:Nat) [y9])).length=(v6.2.1++List.take (1:Nat) (List.drop (0:Nat) [y9])).length∧
                   k7 (IntKind.i64.wrap (v6.1+(1:Int)),v6.2.1++List.take (1:Nat) (List.drop (0:Nat) [y9]),()))
          (P (List.take v6.2.1.length (List.drop (0:Nat) v6.2.1))))
        ((0:Int),[],PUnit.unit))
   ((0:Nat)=(0:Nat)∧
    (0:Nat)=([]:List Int).length∧
     Cc
      (fun (v5:Int×List Int×PUnit) (k6:Int×List Int×PUnit→Prop)=>
       Br (decide (v5.1<(↑s.length:Int)))
        (∃(y7:Int),
         idx s v5.1=some y7∧
          ∃(y8:Int),
           idx y4 y7=some y8∧
            (0:Nat)=(0:Nat)∧
             v5.2.1.length=v5.2.1.length∧
              v5.2.1.length+(List.take (1:Nat) (List.drop (0:Nat) [y8])).length≤Am∧
               (0:Nat)=(0:Nat)∧
                (v5.2.1++List.take (1:Nat) (List.drop (0:Nat) [y8])).length=(v5.2.1++List.take (1:Nat) (List.drop (0:Nat) [y8])).length∧
                 k6 (IntKind.i64.wrap (v5.1+(1:Int)),v5.2.1++List.take (1:Nat) (List.drop (0:Nat) [y8]),()))
        (P (List.take v5.2.1.length (List.drop (0:Nat) v5.2.1))))
      ((0:Int),[],PUnit.unit)))=fnW tab (look [(160,Ja)]) Uk Try.f129 (p,s,l,()) P:=by kernel_rfl
theorem Gj {xs:List Int} {i:Nat} (h:i<xs.length):Lg xs (i:Int)=xs[i]:=by
 unfold Lg
 rw [Int.toNat_natCast,List.getD_eq_getElem?_getD,List.getElem?_eq_getElem h];rfl
theorem As5 {xs:List Int} {y:Int} (h0:0≤y) (h:y<xs.length):idx xs y=some (Lg xs y):=by
 have hy:y.toNat<xs.length:=by omega
 have e:y=(y.toNat:Int):=by omega
 rw [e,Az hy,Gj hy]
theorem Pp (f:Nat→Nat) (g:Nat→Int) (m:Nat) (init:List Int):Rx f g (m+1) init=(Rx f g m init).set (f m) (g m):=by simp [Rx,List.range_succ]
theorem Ry (f:Nat→Nat) (g:Nat→Int) (m:Nat) (init:List Int):(Rx f g m init).length=init.length:=by
 induction m with
 |zero=>rfl
 |succ m ih=>rw [Pp,List.length_set,ih]
theorem Agm (f:Nat→Nat) (g:Nat→Int) (init:List Int): ∀(m:Nat),(∀i j,i<m→j<m→f i=f j→i=j)→ ∀i,i<m→f i<init.length→(Rx f g m init)[f i]?=some (g i)
 |0,_,i,h,_=>absurd h (Nat.not_lt_zero _)
 |m+1,hf,i,hi,hl=>by
  rw [Pp]
  by_cases e:i=m
  ·subst e
   exact List.getElem?_set_self (by rw [Ry];exact hl)
  ·rw [List.getElem?_set_ne (fun h=>e (hf i m hi (by omega) h.symm))]
   exact Agm f g init m (fun a b ha hb=>hf a b (by omega) (by omega)) i (by omega) hl
structure Sv (p:List Int):Prop where
 pos:1≤p.length
 len:p.length≤20
 row:Ms p.length p
 nodup:p.Nodup
theorem Ajw {p:List Int} (h:Hk p=true):Sv p:=by
 obtain ⟨h1,h2,h3⟩:=Dl.1 h
 refine ⟨h1,h2,fun y hy=>?_,Zd fun j hj=>(h3 j hj hj).2.2⟩
 obtain ⟨j,hj,rfl⟩:=List.mem_iff_getElem.1 hy
 have:=h3 j hj hj
 omega
theorem Sv.inj {p:List Int} (h:Sv p) (i j:Nat) (hi:i<p.length) (hj:j<p.length) (e:(Lg p (i:Int)).toNat=(Lg p (j:Int)).toNat):i=j:=by
 rw [Gj hi,Gj hj] at e
 have h1:=h.row _ (List.getElem_mem hi)
 have h2:=h.row _ (List.getElem_mem hj)
 have e:p[i]=p[j]:=by omega
 refine Classical.byContradiction fun hne=>?_
 rcases Nat.lt_or_gt_of_ne hne with hl|hl
 ·exact List.pairwise_iff_getElem.1 h.nodup i j hi hj hl e
 ·exact List.pairwise_iff_getElem.1 h.nodup j i hj hi hl e.symm
theorem Sv.Bb0 {p:List Int} (h:Sv p) (k:Nat) (hk:k<p.length): ∃i,i<p.length∧(Lg p (i:Int)).toNat=k:=by
 have hm:=(Sw (xs:=p) h.row).2 (Akt h.nodup) k hk
 obtain ⟨i,hi,e⟩:=List.mem_iff_getElem.1 hm
 exact ⟨i,hi,by rw [Gj hi,e];exact Int.toNat_natCast k⟩
theorem Sv.lt {p:List Int} (h:Sv p) {i:Nat} (hi:i<p.length):(Lg p (i:Int)).toNat<p.length:=by
 rw [Gj hi]
 have:=h.row _ (List.getElem_mem hi)
 omega
theorem Ai5 (p:List Int):(Ah p).length=p.length:=by unfold Ah;rw [Ry,List.length_replicate]
theorem Ban {p:List Int} (h:Sv p) {i:Nat} (hi:i<p.length):(Ah p)[(Lg p (i:Int)).toNat]?=some (i:Int):=
 Agm (fun i=>(Lg p (i:Int)).toNat) (fun i=>(i:Int)) _ p.length (fun i j hi hj=>h.inj i j hi hj) i hi (by rw [List.length_replicate];exact h.lt hi)
theorem Bck {p:List Int} (h:Sv p):Ms p.length (Ah p):=by
 intro y hy
 obtain ⟨k,hk,rfl⟩:=List.mem_iff_getElem.1 hy
 have hk':k<p.length:=by rw [Ai5] at hk;exact hk
 obtain ⟨i,hi,rfl⟩:=h.Bb0 k hk'
 have:=Ban h hi
 rw [List.getElem?_eq_getElem hk] at this
 rw [Option.some.inj this]
 omega
theorem Rv (p q:List Int):(Aa p q).length=p.length:=by simp [Aa]
theorem Arm {p q:List Int} {n:Nat} (hp:Ms q.length p) (hq:Ms n q):Ms n (Aa p q):=by
 intro y hy
 obtain ⟨x,hx,rfl⟩:=List.mem_map.1 hy
 have h1:=hp x hx
 rw [show x=(x.toNat:Int) by omega,Gj (by omega)]
 exact hq _ (List.getElem_mem _)
theorem Alf (p q:List Int) (h:p.length≤20∧Ms q.length p):fnW tab (look []) Qe Try.f131 (p,q,()) (fun (z:List Int)=>z=Aa p q):=by
 obtain ⟨h,hr⟩:=h
 refine Eq.mp (Am4 p q _) ?_
 refine ⟨⟨by omega,by show (p.length:Int)<(4294967296:Int)+1;omega⟩,rfl,rfl,rfl,?_⟩
 have hcl:=Rv p q
 refine Ao p.length (fun v=>v.1) (fun j v=>v.2.1.length=(Aa p q).length∧v.2.1.take j=(Aa p q).take j) rfl ⟨by rw [hcl];simp,by simp⟩ ?_
 rintro j ⟨i,ys,⟨⟩⟩ K hj hi ⟨h1,h2⟩ hK
 dsimp only at hi h1 h2⊢
 subst hi
 refine Br.dec (fun hl=>?_) fun hl=>?_
 ·have hl:j<p.length:=by omega
  have hy:=hr _ (List.getElem_mem hl)
  refine ⟨_,Az hl,_,As5 hy.1 hy.2,⟨by omega,by omega⟩,by rw [Int.toNat_natCast];omega,rfl,by rw [List.length_set],?_⟩
  rw [Ap (by omega),Int.toNat_natCast,Nat.zero_add]
  have hl':j<(Aa p q).length:=by rw [hcl];exact hl
  have e:Lg q p[j]=(Aa p q)[j]:=by simp [Aa]
  rw [e]
  exact hK hl _ rfl ⟨by rw [List.length_set];exact h1,Jb hl' h1 h2⟩
 ·have:j=p.length:=by omega
  subst this
  rw [←hcl,List.take_length,←h1,List.take_length] at h2
  rw [List.drop_zero,List.take_length]
  exact h2
theorem Mo:Sound Try.prog 131 Qe:=
 Sound.mkS Ch Ar mixed Try.func131 (by kernel_rfl) (by kernel_rfl) fun x h=>Alf x.1 x.2.1 h
theorem Alg (p:List Int) (h:p.length≤20∧Ms p.length p):fnW tab (look []) Dq Try.f165 (p,()) (fun (z:List Int)=>z=Ah p):=by
 obtain ⟨h,hr⟩:=h
 refine Eq.mp (Am5 p _) ?_
 refine ⟨⟨by omega,by show (p.length:Int)<(4294967296:Int)+1;omega⟩,rfl,rfl,rfl,?_⟩
 refine Ao p.length (fun v=>v.1) (fun j v=>v.2.1=Rx (fun i=>(Lg p (i:Int)).toNat) (fun i=>(i:Int)) j (List.replicate p.length 0)) rfl rfl ?_
 rintro j ⟨i,ys,⟨⟩⟩ K hj hi h1 hK
 dsimp only at hi h1⊢
 subst hi
 have hlen:ys.length=p.length:=by rw [h1,Ry,List.length_replicate]
 refine Br.dec (fun hl=>?_) fun hl=>?_
 ·have hl:j<p.length:=by omega
  have hy:=hr _ (List.getElem_mem hl)
  refine ⟨_,Az hl,⟨by omega,by omega⟩,by omega,rfl,by rw [List.length_set],?_⟩
  rw [Ap (by omega),Nat.zero_add]
  refine hK hl _ rfl ?_
  rw [Pp,←h1,Gj hl]
 ·have:j=p.length:=by omega
  subst this
  rw [List.drop_zero,List.take_length]
  exact h1
theorem Mp:Sound Try.prog 165 Dq:=
 Sound.mkS Ch Ar mixed Try.func165 (by kernel_rfl) (by kernel_rfl) fun x h=>Alg x.1 h
theorem Az1 (p:List Int) (h:p.length≤20∧Ms p.length p):fnW tab (look []) Dq Try.f175 (p,()) (fun (z:List Int)=>z=Ah p):=by
 obtain ⟨h,hr⟩:=h
 refine Eq.mp (Azz p _) ?_
 refine ⟨⟨by omega,by show (p.length:Int)<(4294967296:Int)+1;omega⟩,rfl,rfl,rfl,?_⟩
 refine Ao p.length (fun v=>v.1) (fun j v=>v.2.1=Rx (fun i=>(Lg p (i:Int)).toNat) (fun i=>(i:Int)) j (List.replicate p.length 0)) rfl rfl ?_
 rintro j ⟨i,ys,⟨⟩⟩ K hj hi h1 hK
 dsimp only at hi h1⊢
 subst hi
 have hlen:ys.length=p.length:=by rw [h1,Ry,List.length_replicate]
 refine Br.dec (fun hl=>?_) fun hl=>?_
 ·have hl:j<p.length:=by omega
  have hy:=hr _ (List.getElem_mem hl)
  refine ⟨_,Az hl,⟨by omega,by omega⟩,by omega,rfl,by rw [List.length_set],?_⟩
  rw [Ap (by omega),Nat.zero_add]
  refine hK hl _ rfl ?_
  rw [Pp,←h1,Gj hl]
 ·have:j=p.length:=by omega
  subst this
  rw [List.drop_zero,List.take_length]
  exact h1
theorem Alx:Sound Try.prog 175 Dq:=
 Sound.mkS Ch Ar mixed Try.func175 (by kernel_rfl) (by kernel_rfl) fun x h=>Az1 x.1 h
theorem Ali (p:List Int) (h:Hk p=true):fnW tab (look [(169,Gb),(175,Dq)]) Ja Try.f160 (p,()) (fun (z:List Int)=>z=Ah p):=by
 have hp:=Ajw h
 have hs:short p:=by have:=hp.len;unfold short;omega
 refine Eq.mp (Am7 p _) ⟨_,if_pos hs,⟨fun he=>?_,fun _=>⟨_,if_pos ⟨hp.len,hp.row⟩,rfl⟩⟩⟩
 exact absurd h (Dc he)
theorem Aeo:Sound Try.prog 160 Ja:=
 Sound.mkS Ch (Ag Us (Ag Alx Ar)) mixed Try.func160 (by kernel_rfl) (by kernel_rfl) fun x h=>Ali x.1 h
theorem Uw (j:Nat):upto (j+1)=upto j++ [(j:Int)]:=by simp [upto,List.range_succ]
theorem Avx (n:Int) (h:0≤n∧n≤20):fnW tab (look []) Bv Try.f106 (n,()) (fun (z:List Int)=>z=upto n.toNat):=by
 refine Eq.mp (Ax1 n _) ⟨rfl,rfl,?_⟩
 refine Ao n.toNat (fun v=>v.1) (fun j v=>v.2.1=upto j) rfl rfl ?_
 rintro j ⟨i,ys,⟨⟩⟩ K hj hi h1 hK
 dsimp only at hi h1⊢
 subst hi h1
 refine Br.dec (fun hl=>?_) fun hl=>?_
 ·refine ⟨rfl,rfl,?_,rfl,rfl,?_⟩
  ·show (upto j).length+1≤4294967296
   rw [Rn];omega
  ·rw [Ap (by omega)]
   exact hK (by omega) _ rfl (Uw j).symm
 ·have:j=n.toNat:=by omega
  subst this
  rw [List.drop_zero,List.take_length]
theorem Akc:Sound Try.prog 106 Bv:=
 Sound.mkS Ch Ar mixed Try.func106 (by kernel_rfl) (by kernel_rfl) fun x h=>Avx x.1 h
theorem Ra {g:List (List Int)} {k:Nat} (h:k<g.length):Af g ((k:Int)+1)=g[k]:=by
 unfold Af
 rw [if_pos (by omega),show ((k:Int)+1-1).toNat=k by omega,List.getD_eq_getElem?_getD,List.getElem?_eq_getElem h];rfl
theorem Qz {g:List (List Int)} {k:Nat} (h:k<g.length):Af g (-((k:Int)+1))=Ah g[k]:=by
 unfold Af
 rw [if_neg (by omega),show (-(-((k:Int)+1))-1).toNat=k by omega,List.getD_eq_getElem?_getD,List.getElem?_eq_getElem h];rfl
theorem Ps {n:Nat} {l:Int} (h:Fz n l): ∃k:Nat,k<n∧(l=(k:Int)+1∨l= -((k:Int)+1)):=by
 obtain ⟨h1,h2,h3⟩:=h
 by_cases h0:0<l
 ·exact ⟨(l-1).toNat,by omega, .inl (by omega)⟩
 ·exact ⟨(-l-1).toNat,by omega, .inr (by omega)⟩
theorem Avy (g:List (List Int)) (l:Int) (h:Fz (List.length g) l∧List.length g≤8∧ ∀p∈g,Hk p=true):fnW tab (look [(165,Dq)]) Nm Try.f155 (g,l,()) (fun (z:List Int)=>z=Af g l):=by
 obtain ⟨hl,h8,hp⟩:=h
 refine Eq.mp (Ax2 g l _) ?_
 obtain ⟨k,hk,rfl|rfl⟩:=Ps hl
 ·refine Br.dec (fun _=>?_) fun hn=>by omega
  rw [Bu (by omega) (by omega),show (k:Int)+1-1=(k:Int) by omega]
  exact ⟨_,Az hk,(Ra hk).symm⟩
 ·refine Br.dec (fun hn=>by omega) fun _=>?_
  rw [Bu (n:=0- -((k:Int)+1)) (by omega) (by omega),Bu (by omega) (by omega),show (0:Int)- -((k:Int)+1)-1=(k:Int) by omega]
  have:=Ajw (hp _ (List.getElem_mem hk))
  exact ⟨_,Az hk,_,if_pos ⟨this.len,this.row⟩,(Qz hk).symm⟩
theorem Akd:Sound Try.prog 155 Nm:=
 Sound.mkS Ch (Ag Mp Ar) mixed Try.func155 (by kernel_rfl) (by kernel_rfl) fun x h=>Avy x.1 x.2.1 h
theorem Rd (j:Nat):Bc (j+1)=Bc j++ [(j:Int)+1,-((j:Int)+1)]:=by simp [Bc,List.range_succ,List.flatMap_append]
theorem Kr (j:Nat):(Bc j).length=2*j:=by
 induction j with
 |zero=>rfl
 |succ j ih=>rw [Rd,List.length_append,ih];simp only [List.length_cons,List.length_nil];omega
theorem Lt {n:Nat} {l:Int} (h:l∈Bc n):Fz n l:=by
 unfold Bc at h
 obtain ⟨k,hk,hl⟩:=List.mem_flatMap.1 h
 have hk:=List.mem_range.1 hk
 simp only [List.mem_cons,List.not_mem_nil,or_false] at hl
 unfold Fz
 omega
theorem Ayz (n:Int) (h:0≤n∧n≤8):fnW tab (look []) Jx Try.f112 (n,()) (fun (z:List Int)=>z=Bc n.toNat):=by
 refine Eq.mp (Azx n _) ⟨rfl,rfl,?_⟩
 refine Ao n.toNat (fun v=>v.1) (fun j v=>v.2.1=Bc j) rfl rfl ?_
 rintro j ⟨i,ys,⟨⟩⟩ K hj hi h1 hK
 dsimp only at hi h1⊢
 subst hi h1
 refine Br.dec (fun hl=>?_) fun hl=>?_
 ·refine ⟨rfl,rfl,?_,rfl,rfl,?_⟩
  ·show (Bc j).length+2≤4294967296
   rw [Kr];omega
  ·have e1:IntKind.i64.wrap ((j:Int)+1)=(j:Int)+1:=Bu (by omega) (by omega)
   have e2:IntKind.i64.wrap ((0:Int)-((j:Int)+1))= -((j:Int)+1):=by rw [Bu (by omega) (by omega)];omega
   rw [e1,e2]
   exact hK (by omega) _ rfl (Rd j).symm
 ·have:j=n.toNat:=by omega
  subst this
  rw [List.drop_zero,List.take_length]
theorem Abk:Sound Try.prog 112 Jx:=
 Sound.mkS Ch Ar mixed Try.func112 (by kernel_rfl) (by kernel_rfl) fun x h=>Ayz x.1 h
structure Valid (p:PP):Prop where
 n:1≤p.1∧p.1≤20
 few:1≤p.2.2.1.length∧p.2.2.1.length≤8
 perm: ∀m∈p.2.2.1,Hk m=true
 len: ∀m∈p.2.2.1,(m.length:Int)=p.1
theorem valid {p:PP} (h:Bq p=true):Valid p:=by
 have h0:=Awy h
 obtain ⟨h1,_,_⟩:=Dl.1 h
 obtain ⟨_,_,h4⟩:=Dl.1 h1
 exact ⟨⟨h0.1,h0.2.1⟩,h0.2.2,fun m hm=>(Dl.1 (h4 m hm)).2,fun m hm=>(Dl.1 (h4 m hm)).1⟩
theorem Afd {p:PP} (h:Valid p) {l:Int} (hl:Fz (List.length p.2.2.1) l):((Af p.2.2.1 l).length:Int)=p.1∧Ms (Af p.2.2.1 l).length (Af p.2.2.1 l):=by
 obtain ⟨k,hk,rfl|rfl⟩:=Ps hl
 ·rw [Ra hk]
  exact ⟨h.len _ (List.getElem_mem hk),(Ajw (h.perm _ (List.getElem_mem hk))).row⟩
 ·rw [Qz hk,Ai5]
  exact ⟨h.len _ (List.getElem_mem hk),Bck (Ajw (h.perm _ (List.getElem_mem hk)))⟩
theorem Ar6 (s y:List Int) (P:List Int→Prop) (h1:s.length≤20) (h2:Ms y.length s) (h3:P (Aa s y)):
  Cc
   (fun (v5:Int×List Int×PUnit) (k6:Int×List Int×PUnit→Prop)=>
    Br (decide (v5.1<(↑s.length:Int)))
     (∃(y7:Int),
      idx s v5.1=some y7∧
       ∃(y8:Int),
        idx y y7=some y8∧
         (0:Nat)=(0:Nat)∧
          v5.2.1.length=v5.2.1.length∧
           v5.2.1.length+(List.take (1:Nat) (List.drop (0:Nat) [y8])).length≤Am∧
            (0:Nat)=(0:Nat)∧
             (v5.2.1++List.take (1:Nat) (List.drop (0:Nat) [y8])).length=(v5.2.1++List.take (1:Nat) (List.drop (0:Nat) [y8])).length∧
              k6 (IntKind.i64.wrap (v5.1+(1:Int)),v5.2.1++List.take (1:Nat) (List.drop (0:Nat) [y8]),()))
     (P (List.take v5.2.1.length (List.drop (0:Nat) v5.2.1))))
   ((0:Int),([]:List Int),PUnit.unit):=by
 refine Ao s.length (fun v=>v.1) (fun j v=>v.2.1=(s.take j).map (Lg y)) rfl (by simp) ?_
 rintro j ⟨i,ys,⟨⟩⟩ K hj hi hR hK
 dsimp only at hi hR⊢
 subst hi hR
 refine Br.dec (fun hl=>?_) fun hl=>?_
 ·have hl:j<s.length:=by omega
  have hy:=h2 _ (List.getElem_mem hl)
  refine ⟨_,Az hl,_,As5 hy.1 hy.2,rfl,rfl,?_,rfl,rfl,?_⟩
  ·show ((s.take j).map (Lg y)).length+1≤4294967296
   rw [List.length_map,List.length_take];omega
  ·rw [Ap (by omega)]
   refine hK hl _ rfl ?_
   dsimp only
   rw [List.take_succ_eq_append_getElem hl,List.map_append]
   rfl
 ·have:j=s.length:=by omega
  subst this
  rw [List.drop_zero,List.take_length,List.take_length]
  exact h3
theorem Bb3 (p:PP) (s:List Int) (l:Int) (h:Bq p=true∧List.length s≤20∧(∀y∈s,0≤y∧y<p.1)∧Fz (List.length p.2.2.1) l):fnW tab (look [(160,Ja)]) Uk Try.f129 (p,s,l,()) (fun (z:List Int)=>z=Aa s (Af p.2.2.1 l)):=by
 obtain ⟨hv,hs,hr,hl⟩:=h
 have hv:=valid hv
 have hf:=hv.few
 refine Eq.mp (Bc2 p s l _) ?_
 have hlo:=Afd hv hl
 have hrow:Ms (Af p.2.2.1 l).length s:=fun y hy=>by have:=hr y hy;omega
 obtain ⟨k,hk,rfl|rfl⟩:=Ps hl
 ·rw [if_pos rfl,Bu (n:=0-((k:Int)+1)) (by omega) (by omega),if_neg (by omega),Bu (by omega) (by omega),show (k:Int)+1-1=(k:Int) by omega]
  refine ⟨_,Az hk,Br.dec (fun hn=>by omega) fun _=>⟨rfl,rfl,?_⟩⟩
  rw [Ra hk] at hrow⊢
  exact Ar6 s _ (fun z=>z=Aa s p.2.2.1[k]) hs hrow rfl
 ·rw [if_pos rfl,Bu (n:=0- -((k:Int)+1)) (by omega) (by omega),if_pos (by omega),Bu (by omega) (by omega),show (0:Int)- -((k:Int)+1)-1=(k:Int) by omega]
  refine ⟨_,Az hk,Br.dec (fun _=>⟨_,if_pos (hv.perm _ (List.getElem_mem hk)),rfl,rfl,?_⟩) fun hn=>by omega⟩
  rw [Qz hk] at hrow⊢
  exact Ar6 s (Ah p.2.2.1[k]) (fun z=>z=Aa s (Ah p.2.2.1[k])) hs hrow rfl
theorem Apx:Sound Try.prog 129 Uk:=
 Sound.mkS Ch (Ag Aeo Ar) mixed Try.func129 (by kernel_rfl) (by kernel_rfl) fun x h=>Bb3 x.1 x.2.1 x.2.2.1 h
end Go.Proofs.Ytebabhocakedaaa

namespace Go.Proofs.Ytebabhocakedaaa
open Go.RowKit
abbrev rL:CK:= .row tI 2
abbrev xLL:CK:= .xrow tL 25
def He (k:Int) (n:Nat):List Int:=(List.range n).map fun i=>k+(i:Nat)
def Ck:Int→List (List Int)→List (List Int)
 |_,[]=> []
 |k,r::rs=>He k r.length::Ck (k+r.length) rs
def Ba:List (List Int)→Nat
 | []=>0
 |r::rs=>r.length+Ba rs
def low (k:Int):Prop:=0≤k∧k≤1099511627776
noncomputable abbrev Py:Be:=mkM [none,none] [(true,rL),(false, .dat tI)] false [none] [.dat tI] (fun x=>short x.1∧low x.2.1) (fun x=>((x.2.1+List.length x.1,()),(He x.2.1 (List.length x.1),())))
noncomputable abbrev Um:Be:=mkM [none,none] [(true,xLL),(false, .dat tI)] false [none] [.dat tI] (fun x=>Dv x.1∧low x.2.1∧low (x.2.1+Ba x.1)) (fun x=>((x.2.1+Ba x.1,()),(Ck x.2.1 x.1,())))
noncomputable abbrev Ih:Be:=mkM [some 3,none] [(false, .dat tI),(false, .dat .str),(true,xLL),(false, .dat tI)] false [none] [.dat tI]
 (fun x=>Dv x.2.2.1∧low x.2.2.2.1∧low (x.2.2.2.1+Ba x.2.2.1)) (fun x=>((x.2.2.2.1+Ba x.2.2.1,()),(Ck x.2.2.2.1 x.2.2.1,())))
def Ky (xs:List Int) (k:Int):Int:=if xs=He k xs.length then k+xs.length else-1
noncomputable abbrev Aat:Spec:=mkS (.pair tL (.pair tI .unit)) tI false true (fun x=>short x.1∧low x.2.1) (fun x=>Ky x.1 x.2.1)
def Ff:List (List Int)→Int→Int
 | [],k=>k
 |r::rs,k=>if Ky r k<0 then-1 else Ff rs (Ky r k)
noncomputable abbrev Ul:Spec:=mkS (.pair tLL (.pair tI .unit)) tI false true (fun x=>Dv x.1∧low x.2.1∧low (x.2.1+Ba x.1)) (fun x=>Ff x.1 x.2.1)
noncomputable abbrev Ox:Be:=mkM [none] [(false, .dat tL)] false [none] [rL] (fun x=>short x.1) (fun x=>((x.1,()),()))
noncomputable abbrev Aaw:Be:=mkM [none] [(false, .dat tLL)] false [none] [xLL] (fun x=>Dv x.1) (fun x=>((x.1,()),()))
noncomputable abbrev Hv:Be:=mkM [some 3] [(false, .dat tI),(false, .dat .str),(false, .dat tLL)] false [some 3] [.dat tI, .dat .str,xLL] (fun x=>Cd (x.1,x.2.1,x.2.2.1,())) (fun x=>((x.1,x.2.1,x.2.2.1,()),()))
theorem Bdc (xs:List Int) (k:Int) (P:((Int×Unit)×List Int×Unit)→Prop):((0:Nat)=(0:Nat)∧
 xs.length=xs.length∧
  Cc
   (fun (v3:Int×Int×List Int×PUnit) (k4:Int×Int×List Int×PUnit→Prop)=>
    Br (decide (v3.2.1<(↑v3.2.2.1.length:Int)))
     (((0:Int)≤v3.2.1∧v3.2.1<(↑v3.2.2.1.length:Int))∧
      (0:Nat)+v3.2.1.toNat<v3.2.2.1.length∧
       (0:Nat)=(0:Nat)∧
        v3.2.2.1.length=(v3.2.2.1.set ((0:Nat)+v3.2.1.toNat) v3.1).length∧
         k4 (IntKind.i64.wrap (v3.1+(1:Int)),IntKind.i64.wrap (v3.2.1+(1:Int)),v3.2.2.1.set ((0:Nat)+v3.2.1.toNat) v3.1,()))
     (P ((v3.1,()),v3.2.2.1,())))
   (k,(0:Int),xs,PUnit.unit))=Lf Rr (look []) Py Try.f31 (xs,k,()) P:=by kernel_rfl
theorem Bc6 (xs:List (List Int)) (k:Int) (P:((Int×Unit)×List (List Int)×Unit)→Prop):((0:Nat)=(0:Nat)∧
 xs.length=xs.length∧
  Cc
   (fun (v3:Int×Int×List (List Int)×PUnit) (k4:Int×Int×List (List Int)×PUnit→Prop)=>
    Br (decide (v3.2.1<(↑v3.2.2.1.length:Int)))
     (((0:Int)≤v3.2.1∧v3.2.1<(↑v3.2.2.1.length:Int))∧
      ∃(y5:List Int),
       v3.2.2.1[(0:Nat)+v3.2.1.toNat]?=some y5∧
        ∃(y6:List Int),
         v3.2.2.1[(0:Nat)+v3.2.1.toNat]?=some y6∧
          ∃(y7:(Int×PUnit)×List Int×PUnit),
           Py.fn (y6,v3.1,())=some y7∧
            ∃(y8:List Int),
             v3.2.2.1[(0:Nat)+v3.2.1.toNat]?=some y8∧
              y7.2.1.length=y8.length∧
               (0:Nat)=(0:Nat)∧
                v3.2.2.1.length=(v3.2.2.1.set ((0:Nat)+v3.2.1.toNat) y7.2.1).length∧
                 k4 (y7.1.1,IntKind.i64.wrap (v3.2.1+(1:Int)),v3.2.2.1.set ((0:Nat)+v3.2.1.toNat) y7.2.1,()))
     (P ((v3.1,()),v3.2.2.1,())))
   (k,(0:Int),xs,PUnit.unit))=Lf Rr (look [(31,Py)]) Um Try.f74 (xs,k,()) P:=by kernel_rfl
theorem Aqr (n:Int) (s:ByteArray) (b:List (List Int)) (k:Int) (P:((Int×Unit)×List (List Int)×Unit)→Prop):((0:Nat)=(0:Nat)∧
 b.length=b.length∧ ∃(y5:(Int×PUnit)×List (List Int)×PUnit),Um.fn (b,k,())=some y5∧(y5.2.1.length=b.length∧b.length=b.length)∧P ((y5.1.1,()),y5.2.1,()))=Lf Rr (look [(74,Um)]) Ih Try.f30 (n,s,b,k,()) P:=by kernel_rfl
theorem Bda (xs:List Int) (k:Int) (P:Int→Prop):(Cc
 (fun (v3:Int×Int×PUnit) (k4:Int×Int×PUnit→Prop)=>
  Br (decide (v3.2.1<(↑xs.length:Int)))
   (∃(y5:Int),idx xs v3.2.1=some y5∧Br (y5 !=v3.1) (P (-1:Int)) (k4 (IntKind.i64.wrap (v3.1+(1:Int)),IntKind.i64.wrap (v3.2.1+(1:Int)),()))) (P v3.1))
 (k,(0:Int),PUnit.unit))=fnW tab (look []) Aat Try.f44 (xs,k,()) P:=by kernel_rfl
theorem Bc4 (xs:List (List Int)) (k:Int) (P:Int→Prop):(Cc
 (fun (v3:Int×Int×PUnit) (k4:Int×Int×PUnit→Prop)=>
  Br (decide (v3.2.1<(↑xs.length:Int)))
   (∃(y5:List Int),
    idx xs v3.2.1=some y5∧ ∃(y6:Int),Aat.fn (y5,v3.1,())=some y6∧Br (decide (y6<(0:Int))) (P (-1:Int)) (k4 (y6,IntKind.i64.wrap (v3.2.1+(1:Int)),())))
   (P v3.1))
 (k,(0:Int),PUnit.unit))=fnW tab (look [(44,Aat)]) Ul Try.f75 (xs,k,()) P:=by kernel_rfl
theorem Bes (xs:List Int) (P:((List Int×Unit)×Unit)→Prop):(((0:Int)≤(↑xs.length:Int)∧(↑xs.length:Int)<(↑Am:Int)+(1:Int))∧
 (↑xs.length:Int)=(↑xs.length:Int)∧
  (0:Nat)=(0:Nat)∧
   (List.replicate (↑xs.length:Int).toNat (Int.ofNat (nat_lit 0))).length=(List.replicate (↑xs.length:Int).toNat (Int.ofNat (nat_lit 0))).length∧
    Cc
     (fun (v2:Int×List Int×PUnit) (k3:Int×List Int×PUnit→Prop)=>
      Br (decide (v2.1<(↑xs.length:Int)))
       (∃(y4:Int),
        idx xs v2.1=some y4∧
         ((0:Int)≤v2.1∧v2.1<(↑v2.2.1.length:Int))∧
          (0:Nat)+v2.1.toNat<v2.2.1.length∧
           (0:Nat)=(0:Nat)∧
            v2.2.1.length=(v2.2.1.set ((0:Nat)+v2.1.toNat) y4).length∧k3 (IntKind.i64.wrap (v2.1+(1:Int)),v2.2.1.set ((0:Nat)+v2.1.toNat) y4,()))
       (P ((List.take v2.2.1.length (List.drop (0:Nat) v2.2.1),()),())))
     ((0:Int),List.replicate (↑xs.length:Int).toNat (Int.ofNat (nat_lit 0)),PUnit.unit))=Lf Rr (look []) Ox Try.f18 (xs,()) P:=by kernel_rfl
theorem Bdg (xs:List (List Int)) (P:((List (List Int)×Unit)×Unit)→Prop):(((0:Int)≤(↑xs.length:Int)∧(↑xs.length:Int)<(↑Am:Int)+(1:Int))∧
 (↑xs.length:Int)=(↑xs.length:Int)∧
  (0:Nat)=(0:Nat)∧
   (List.replicate (↑xs.length:Int).toNat ([]:List Int)).length=(List.replicate (↑xs.length:Int).toNat ([]:List Int)).length∧
    Cc
     (fun (v2:Int×List (List Int)×PUnit) (k3:Int×List (List Int)×PUnit→Prop)=>
      Br (decide (v2.1<(↑xs.length:Int)))
       (∃(y4:List Int),
        idx xs v2.1=some y4∧
         ∃(y5:(List Int×PUnit)×PUnit),
          Ox.fn (y4,())=some y5∧
           ((0:Int)≤v2.1∧v2.1<(↑v2.2.1.length:Int))∧
            (0:Nat)+v2.1.toNat<v2.2.1.length∧
             (0:Nat)=(0:Nat)∧
              v2.2.1.length=(v2.2.1.set ((0:Nat)+v2.1.toNat) (List.take y5.1.1.length (List.drop (0:Nat) y5.1.1))).length∧
               k3 (IntKind.i64.wrap (v2.1+(1:Int)),v2.2.1.set ((0:Nat)+v2.1.toNat) (List.take y5.1.1.length (List.drop (0:Nat) y5.1.1)),()))
       (P ((List.take v2.2.1.length (List.drop (0:Nat) v2.2.1),()),())))
     ((0:Int),List.replicate (↑xs.length:Int).toNat ([]:List Int),PUnit.unit))=Lf Rr (look [(18,Ox)]) Aaw Try.f35 (xs,()) P:=by kernel_rfl
theorem Aud (n:Int) (s:ByteArray) (b:List (List Int)) (P:((Int×ByteArray×List (List Int)×Unit)×Unit)→Prop):(∃(y4:(List (List Int)×PUnit)×PUnit),Aaw.fn (b,())=some y4∧P ((n,s,List.take y4.1.1.length (List.drop (0:Nat) y4.1.1),()),()))=Lf Rr (look [(35,Aaw)]) Hv Try.f17 (n,s,b,()) P:=by kernel_rfl
theorem Bn {α:Type} (xs:List α):List.take xs.length (List.drop 0 xs)=xs:=by rw [List.drop_zero,List.take_length]
theorem Oh (k:Int) (n:Nat):(He k n).length=n:=by simp [He]
theorem Ae3 (k:Int) (n:Nat):He k (n+1)=He k n++ [k+(n:Nat)]:=by simp [He,List.range_succ]
theorem Zb (a b:List (List Int)):Ba (a++b)=Ba a+Ba b:=by
 induction a with
 |nil=>simp [Ba]
 |cons r a ih=>simp only [List.cons_append,Ba,ih];omega
theorem Ug: ∀(a b:List (List Int)) (k:Int),Ck k (a++b)=Ck k a++Ck (k+Ba a) b
 | [],b,k=>by simp [Ck,Ba]
 |r::a,b,k=>by
  simp only [List.cons_append,Ck,Ba,Ug a b]
  congr 3
  omega
theorem Iv: ∀(xs:List (List Int)) (k:Int),(Ck k xs).length=xs.length
 | [],_=>rfl
 |r::xs,k=>by simp [Ck,Iv xs]
theorem Tc: ∀(xs:List (List Int)) (k:Int),Ba (Ck k xs)=Ba xs
 | [],_=>rfl
 |r::xs,k=>by simp [Ck,Ba,Oh,Tc xs]
theorem Alq {xs:List (List Int)} (h:Dv xs) (k:Int):Dv (Ck k xs):=by
 refine ⟨by rw [Iv];exact h.1,?_⟩
 have: ∀(xs:List (List Int)) (k:Int),(∀r∈xs,short r)→ ∀r∈Ck k xs,short r:=by
  intro xs
  induction xs with
  |nil=>intro k _ r hr;cases hr
  |cons a xs ih=>
   intro k hx r hr
   simp only [Ck] at hr
   rcases List.mem_cons.1 hr with rfl|hr
   ·have:=hx a (by simp);unfold short at*;rw [Oh];exact this
   ·exact ih _ (fun r hr=>hx r (List.mem_cons_of_mem _ hr)) r hr
 exact this xs k h.2
theorem Ae7 {xs:List (List Int)} {j:Nat} (h:j<xs.length):Ba (xs.drop j)=xs[j].length+Ba (xs.drop (j+1)):=by
 rw [List.drop_eq_getElem_cons h];rfl
theorem Aoy {xs:List (List Int)} {j:Nat} (h:j<xs.length):Ba (xs.take (j+1))=Ba (xs.take j)+xs[j].length:=by
 rw [List.take_succ_eq_append_getElem h,Zb];simp [Ba]
theorem Al8 (xs:List (List Int)) (j:Nat):Ba (xs.take j)+Ba (xs.drop j)=Ba xs:=by
 rw [←Zb,List.take_append_drop]
theorem Bct (xs:List Int) (k:Int) (h:short xs∧low k):Lf Rr (look []) Py Try.f31 (xs,k,()) (fun (z:(Int×Unit)×List Int×Unit)=>z=((k+xs.length,()),(He k xs.length,()))):=by
 obtain ⟨h1,h2,h3⟩:=h
 unfold short at h1
 refine Eq.mp (Bdc xs k _) ⟨rfl,rfl,?_⟩
 refine Ao xs.length (fun v=>v.2.1) (fun j v=>v.1=k+(j:Nat)∧v.2.2.1.length=xs.length∧v.2.2.1.take j=He k j) rfl ⟨by simp,rfl,by simp [He]⟩ ?_
 rintro j ⟨k',i,ys,⟨⟩⟩ K hj hi ⟨g1,g2,g3⟩ hK
 dsimp only at hi g1 g2 g3⊢
 subst hi;subst g1
 refine Br.dec (fun hl=>?_) fun hl=>?_
 ·have hl:j<ys.length:=by omega
  refine ⟨⟨by omega,by omega⟩,by rw [Int.toNat_natCast];omega,rfl,by rw [List.length_set],?_⟩
  rw [Ap (by omega),Int.toNat_natCast,Nat.zero_add,Bu (by omega) (by omega)]
  refine hK (by omega) _ rfl ⟨by dsimp only;omega,by rw [List.length_set];exact g2,?_⟩
  rw [List.take_succ_eq_append_getElem (by rw [List.length_set];exact hl),List.take_set_of_le (Nat.le_refl j),g3,List.getElem_set_self,Ae3]
 ·have hj':j=xs.length:=by omega
  subst hj'
  rw [←g2,List.take_length,g2] at g3
  rw [g3]
theorem Aha:Bp Try.prog 31 Py:=
 Bp.mkM Rl Ar mixed Try.func31 (by kernel_rfl) (by kernel_rfl) fun x h=>Bct x.1 x.2.1 h
theorem Bb7 (xs:List (List Int)) (k:Int) (h:Dv xs∧low k∧low (k+Ba xs)):Lf Rr (look [(31,Py)]) Um Try.f74 (xs,k,()) (fun (z:(Int×Unit)×List (List Int)×Unit)=>z=((k+Ba xs,()),(Ck k xs,()))):=by
 obtain ⟨⟨h1,h4⟩,⟨h2,h3⟩,h5,h6⟩:=h
 refine Eq.mp (Bc6 xs k _) ⟨rfl,rfl,?_⟩
 refine Ao xs.length (fun v=>v.2.1) (fun j v=>v.1=k+(Ba (xs.take j):Nat)∧v.2.2.1.length=xs.length∧v.2.2.1.take j=Ck k (xs.take j)∧v.2.2.1.drop j=xs.drop j) rfl ⟨by simp [Ba],rfl,by simp [Ck],rfl⟩ ?_
 rintro j ⟨k',i,ys,⟨⟩⟩ K hj hi ⟨g1,g2,g3,g4⟩ hK
 dsimp only at hi g1 g2 g3 g4⊢
 subst hi;subst g1
 refine Br.dec (fun hl=>?_) fun hl=>?_
 ·have hl:j<ys.length:=by omega
  have hlx:j<xs.length:=by omega
  have hy:ys[j]?=some xs[j]:=by
   have:(ys.drop j)[0]?=(xs.drop j)[0]?:=by rw [g4]
   simpa [List.getElem?_drop,List.getElem?_eq_getElem hlx] using this
  have hsp:=Al8 xs j
  have htk:=Aoy hlx
  have hdr:=Ae7 hlx
  refine ⟨⟨by omega,by omega⟩,?_⟩
  simp only [Int.toNat_natCast,Nat.zero_add]
  have hlow:low (k+(Ba (xs.take j):Nat)):=⟨by omega,by omega⟩
  refine ⟨_,hy,_,hy,_,if_pos ⟨h4 _ (List.getElem_mem hlx),hlow⟩,_,hy,Oh _ _,trivial,by rw [List.length_set],?_⟩
  rw [Ap (by omega)]
  refine hK hlx _ rfl ⟨by dsimp only;omega,by rw [List.length_set];exact g2,?_,?_⟩
  ·rw [List.take_succ_eq_append_getElem (by rw [List.length_set];exact hl),List.take_set_of_le (Nat.le_refl j),g3,List.getElem_set_self,List.take_succ_eq_append_getElem hlx,Ug]
   rfl
  ·dsimp only
   rw [List.drop_set_of_lt (by omega)]
   have e1:ys.drop (j+1)=(ys.drop j).drop 1:=by rw [List.drop_drop]
   rw [e1,g4,List.drop_drop]
 ·have hj':j=xs.length:=by omega
  subst hj'
  rw [←g2,List.take_length,g2,List.take_length] at g3
  rw [g3,List.take_length]
theorem Aq3:Bp Try.prog 74 Um:=
 Bp.mkM Rl (Fu Aha Ar) mixed Try.func74 (by kernel_rfl) (by kernel_rfl) fun x h=>Bb7 x.1 x.2.1 h
theorem Ap7 (n:Int) (s:ByteArray) (b:List (List Int)) (k:Int) (h:Dv b∧low k∧low (k+Ba b)):Lf Rr (look [(74,Um)]) Ih Try.f30 (n,s,b,k,()) (fun (z:(Int×Unit)×List (List Int)×Unit)=>z=((k+Ba b,()),(Ck k b,()))):=by
 exact Eq.mp (Aqr n s b k _) ⟨rfl,rfl,_,if_pos h,⟨Iv _ _,rfl⟩,rfl⟩
theorem Ag4:Bp Try.prog 30 Ih:=
 Bp.mkM Rl (Fu Aq3 Ar) mixed Try.func30 (by kernel_rfl) (by kernel_rfl) fun x h=>Ap7 x.1 x.2.1 x.2.2.1 x.2.2.2.1 h
theorem Bcr (xs:List Int) (k:Int) (h:short xs∧low k):fnW tab (look []) Aat Try.f44 (xs,k,()) (fun (z:Int)=>z=Ky xs k):=by
 obtain ⟨h1,h2,h3⟩:=h
 unfold short at h1
 refine Eq.mp (Bda xs k _) ?_
 refine Ao xs.length (fun v=>v.2.1) (fun j v=>v.1=k+(j:Nat)∧xs.take j=He k j) rfl ⟨by simp,by simp [He]⟩ ?_
 rintro j ⟨k',i,⟨⟩⟩ K hj hi ⟨g1,g3⟩ hK
 dsimp only at hi g1 g3⊢
 subst hi;subst g1
 refine Br.dec (fun hl=>?_) fun hl=>?_
 ·have hl:j<xs.length:=by omega
  refine ⟨_,Az hl,fun hne=>?_,fun he=>?_⟩
  ·simp only [bne_iff_ne,ne_eq] at hne
   unfold Ky
   rw [if_neg]
   intro he
   refine hne ?_
   have e1:xs[j]?=(He k xs.length)[j]?:=by rw [←he]
   rw [List.getElem?_eq_getElem hl] at e1
   simpa [He,hl] using e1
  ·simp only [bne_eq_false_iff_eq] at he
   rw [Ap (by omega),Bu (by omega) (by omega)]
   refine hK hl _ rfl ⟨by dsimp only;omega,?_⟩
   rw [List.take_succ_eq_append_getElem hl,g3,he,Ae3]
 ·have hj':j=xs.length:=by omega
  subst hj'
  rw [List.take_length] at g3
  exact (if_pos g3).symm
theorem Atr:Sound Try.prog 44 Aat:=
 Sound.mkS Ch Ar mixed Try.func44 (by kernel_rfl) (by kernel_rfl) fun x h=>Bcr x.1 x.2.1 h
theorem Al7 (k:Int) (n:Nat):Ky (He k n) k=k+n:=by unfold Ky;rw [Oh,if_pos rfl]
theorem Aso {xs:List Int} {k:Int} (h: ¬Ky xs k<0):Ky xs k=k+xs.length:=by
 unfold Ky at*
 split at h
 ·rename_i h1;rw [if_pos h1]
 ·exact absurd (show (-1:Int)<0 by decide) h
theorem Rc: ∀(xs:List (List Int)) (k:Int),0≤k→Ff (Ck k xs) k=k+Ba xs
 | [],k,_=>by simp [Ck,Ff,Ba]
 |r::xs,k,h=>by
  simp only [Ck,Ff,Al7,Ba]
  rw [if_neg (by omega),Rc xs _ (by omega)]
  omega
theorem Bb5 (xs:List (List Int)) (k:Int) (h:Dv xs∧low k∧low (k+Ba xs)):fnW tab (look [(44,Aat)]) Ul Try.f75 (xs,k,()) (fun (z:Int)=>z=Ff xs k):=by
 obtain ⟨⟨h1,h4⟩,⟨h2,h3⟩,h5,h6⟩:=h
 refine Eq.mp (Bc4 xs k _) ?_
 refine Ao xs.length (fun v=>v.2.1) (fun j v=>0≤v.1∧v.1+(Ba (xs.drop j):Nat)≤k+(Ba xs:Nat)∧Ff (xs.drop j) v.1=Ff xs k) rfl ⟨h2,by simp,rfl⟩ ?_
 rintro j ⟨k',i,⟨⟩⟩ K hj hi ⟨g1,g2,g3⟩ hK
 dsimp only at hi g1 g2 g3⊢
 subst hi
 refine Br.dec (fun hl=>?_) fun hl=>?_
 ·have hl:j<xs.length:=by omega
  have hdr:=Ae7 hl
  have hlow:low k':=⟨g1,by omega⟩
  rw [List.drop_eq_getElem_cons hl] at g3
  simp only [Ff] at g3
  refine ⟨_,Az hl,_,if_pos ⟨h4 _ (List.getElem_mem hl),hlow⟩,Br.dec (fun hn=>?_) fun hn=>?_⟩
  ·have hn:Ky xs[j] k'<0:=hn
   rw [if_pos hn] at g3
   exact g3
  ·have hn: ¬Ky xs[j] k'<0:=hn
   rw [if_neg hn] at g3
   have e1:=Aso hn
   rw [Ap (by omega)]
   refine hK hl _ rfl ⟨by dsimp only;omega,by dsimp only;rw [e1];omega,g3⟩
 ·have hj':j=xs.length:=by omega
  subst hj'
  rw [List.drop_length] at g3
  exact g3
theorem Aq1:Sound Try.prog 75 Ul:=
 Sound.mkS Ch (Ag Atr Ar) mixed Try.func75 (by kernel_rfl) (by kernel_rfl) fun x h=>Bb5 x.1 x.2.1 h
theorem Bed (xs:List Int) (h:short xs):Lf Rr (look []) Ox Try.f18 (xs,()) (fun (z:(List Int×Unit)×Unit)=>z=((xs,()),())):=by
 unfold short at h
 refine Eq.mp (Bes xs _) ?_
 refine ⟨⟨by omega,by show (xs.length:Int)<(4294967296:Int)+1;omega⟩,rfl,rfl,rfl,?_⟩
 refine Ao xs.length (fun v=>v.1) (fun j v=>v.2.1.length=xs.length∧v.2.1.take j=xs.take j) rfl ⟨by simp,by simp⟩ ?_
 rintro j ⟨i,ys,⟨⟩⟩ K hj hi ⟨h1,h2⟩ hK
 dsimp only at hi h1 h2⊢
 subst hi
 refine Br.dec (fun hl=>?_) fun hl=>?_
 ·have hl:j<xs.length:=by omega
  refine ⟨_,Az hl,⟨by omega,by omega⟩,by rw [Int.toNat_natCast];omega,rfl,by rw [List.length_set],?_⟩
  rw [Ap (by omega),Int.toNat_natCast,Nat.zero_add]
  exact hK hl _ rfl ⟨by rw [List.length_set];exact h1,Jb hl h1 h2⟩
 ·have:j=xs.length:=by omega
  subst this
  rw [List.take_length,←h1,List.take_length] at h2
  rw [Bn,h2]
theorem Akj:Bp Try.prog 18 Ox:=
 Bp.mkM Rl Ar mixed Try.func18 (by kernel_rfl) (by kernel_rfl) fun x h=>Bed x.1 h
theorem Bcx (xs:List (List Int)) (h:Dv xs):Lf Rr (look [(18,Ox)]) Aaw Try.f35 (xs,()) (fun (z:(List (List Int)×Unit)×Unit)=>z=((xs,()),())):=by
 obtain ⟨h,h4⟩:=h
 refine Eq.mp (Bdg xs _) ?_
 refine ⟨⟨by omega,by show (xs.length:Int)<(4294967296:Int)+1;omega⟩,rfl,rfl,rfl,?_⟩
 refine Ao xs.length (fun v=>v.1) (fun j v=>v.2.1.length=xs.length∧v.2.1.take j=xs.take j) rfl ⟨by simp,by simp⟩ ?_
 rintro j ⟨i,ys,⟨⟩⟩ K hj hi ⟨h1,h2⟩ hK
 dsimp only at hi h1 h2⊢
 subst hi
 refine Br.dec (fun hl=>?_) fun hl=>?_
 ·have hl:j<xs.length:=by omega
  refine ⟨_,Az hl,_,if_pos (h4 _ (List.getElem_mem hl)),⟨by omega,by omega⟩,by rw [Int.toNat_natCast];omega,rfl,by rw [List.length_set],?_⟩
  rw [Ap (by omega),Int.toNat_natCast,Nat.zero_add]
  dsimp only
  rw [Bn]
  exact hK hl _ rfl ⟨by rw [List.length_set];exact h1,Jb hl h1 h2⟩
 ·have:j=xs.length:=by omega
  subst this
  rw [List.take_length,←h1,List.take_length] at h2
  rw [Bn,h2]
theorem Atv:Bp Try.prog 35 Aaw:=
 Bp.mkM Rl (Fu Akj Ar) mixed Try.func35 (by kernel_rfl) (by kernel_rfl) fun x h=>Bcx x.1 h
theorem Atd (n:Int) (s:ByteArray) (b:List (List Int)) (h:Cd (n,s,b,())):Lf Rr (look [(35,Aaw)]) Hv Try.f17 (n,s,b,()) (fun (z:(Int×ByteArray×List (List Int)×Unit)×Unit)=>z=((n,s,b,()),())):=by
 refine Eq.mp (Aud n s b _) ⟨_,if_pos h.2,?_⟩
 simp only [Bn]
theorem Ahv:Bp Try.prog 17 Hv:=
 Bp.mkM Rl (Fu Atv Ar) mixed Try.func17 (by kernel_rfl) (by kernel_rfl) fun x h=>Atd x.1 x.2.1 x.2.2.1 h
end Go.Proofs.Ytebabhocakedaaa

namespace Go.Proofs.Ytebabhocakedaaa
open Go.RowKit
theorem Aff (a:List Int):Gp a a=true:=by simp [Gp]
theorem Bbs {n:Nat} {room:Int} (h: ¬Afg n room<0):Afg n room=room-n∧(n:Int)≤room:=by
 unfold Afg at*
 split at h
 ·exact absurd (show (-1:Int)<0 by decide) h
 ·rename_i h1;rw [if_neg h1];exact ⟨rfl,by omega⟩
theorem Au0: ∀(xs:List (List Int)) (room:Int),0≤room→ ¬Atz xs room<0→Atz xs room=room-Ba xs
 | [],room,_,_=>by simp [Atz,Ba]
 |r::xs,room,h0,h=>by
  simp only [Atz,Ba] at h⊢
  split at h
  ·exact absurd (show (-1:Int)<0 by decide) h
  ·rename_i h1
   rw [if_neg h1]
   have e1:=Bbs (n:=r.length) h1
   have e1:Ae6 r room=room-r.length∧(r.length:Int)≤room:=e1
   rw [Au0 xs _ (by rw [e1.1];omega) h,e1.1]
   omega
theorem Bbq {xs:List (List Int)} {room:Int} (h: ¬Tb xs room<0):Tb xs room=room-xs.length-Ba xs:=by
 unfold Tb at*
 split at h
 ·exact absurd (show (-1:Int)<0 by decide) h
 ·rename_i h1
  rw [if_neg h1]
  have e1:=Bbs h1
  rw [Au0 xs _ (by rw [e1.1];omega) h,e1.1]
theorem Aan:low 1:=⟨by decide,by decide⟩
end Go.Proofs.Ytebabhocakedaaa

namespace Go.Proofs.Ytebabhocakedaaa
open Go.RowKit
theorem Aey {b:Bool} {P:Prop} (h:(!(b==b))=true):P:=by simp at h
end Go.Proofs.Ytebabhocakedaaa

namespace Go.Proofs.Ytebabhocakedaaa
open Go.RowKit
noncomputable abbrev Ak5:Be:=mkM [none] [(false, .dat (.oslice tI))] false [none] [rL] (fun x=>short (x.1.getD [])) (fun x=>((x.1.getD [],()),()))
noncomputable abbrev Ku:Be:=mkM [none] [(false, .dat tL)] false [none] [rL] (fun x=>short x.1) (fun x=>((x.1,()),()))
noncomputable abbrev Ie:Spec:=mkS (.pair tL .unit) tL false true (fun x=>short x.1) (fun x=>x.1)
theorem Bc3 (xs:Option (List Int)) (P:((List Int×Unit)×Unit)→Prop):(Br xs.isNone (P ((List.take (0:Nat) (List.drop (0:Nat) []),()),()))
 ((0:Nat)=(0:Nat)∧(0:Nat)=([]:List Int).length∧(0:Nat)+(xs.getD []).length≤Am∧P ((List.take ([]++xs.getD []).length (List.drop (0:Nat) ([]++xs.getD [])),()),())))=Lf Rr (look []) Ak5 Try.f121 (xs,()) P:=by kernel_rfl
theorem Ax0 (xs:List Int) (P:List Int→Prop):((0:Nat)=(0:Nat)∧(0:Nat)=([]:List Int).length∧(0:Nat)+xs.length≤Am∧P (List.take ([]++xs).length (List.drop (0:Nat) ([]++xs))))=fnW tab (look []) Ie Try.f120 (xs,()) P:=by kernel_rfl
theorem Bb4 (xs:Option (List Int)) (h:short (xs.getD [])):Lf Rr (look []) Ak5 Try.f121 (xs,()) (fun (z:(List Int×Unit)×Unit)=>z=((xs.getD [],()),())):=by
 unfold short at h
 refine Eq.mp (Bc3 xs _) ⟨fun hn=>?_,fun _=>⟨rfl,rfl,by show 0+(xs.getD []).length≤4294967296;omega,?_⟩⟩
 ·cases xs with
  |none=>rfl
  |some y=>cases hn
 ·simp only [Bn,List.nil_append]
theorem Apz:Bp Try.prog 121 Ak5:=
 Bp.mkM Rl Ar mixed Try.func121 (by kernel_rfl) (by kernel_rfl) fun x h=>Bb4 x.1 h
theorem Apy:Bp Try.prog 121 Ku:=Bp.ofO Apz fun _ _ h=>⟨h,rfl⟩
theorem Avw (xs:List Int) (h:short xs):fnW tab (look []) Ie Try.f120 (xs,()) (fun (z:List Int)=>z=xs):=by
 unfold short at h
 refine Eq.mp (Ax0 xs _) ⟨rfl,rfl,by show 0+xs.length≤4294967296;omega,?_⟩
 simp only [Bn,List.nil_append]
theorem Zu:Sound Try.prog 120 Ie:=
 Sound.mkS Ch Ar mixed Try.func120 (by kernel_rfl) (by kernel_rfl) fun x h=>Avw x.1 h
end Go.Proofs.Ytebabhocakedaaa

namespace Go.Proofs.Ytebabhocakedaaa
open Go.RowKit
def Lq (xs:List Int):ByteArray:=bytesOf (xs.map fun x=>IntKind.u8.wrap x)
noncomputable abbrev Em:Spec:=mkS (.pair tL .unit) .str false true (fun x=>short x.1) (fun x=>Lq x.1)
def Aec (ps:List (List Int)) (p:List Int):Int:=Fg (fun q=>decide (q=p)) ps 0
theorem Ax6 (xs:List Int) (P:ByteArray→Prop):(((0:Int)≤(↑xs.length:Int)∧(↑xs.length:Int)<(↑Am:Int)+(1:Int))∧
 (↑xs.length:Int)=(↑xs.length:Int)∧
  (0:Nat)=(0:Nat)∧
   (List.replicate (↑xs.length:Int).toNat (Int.ofNat (nat_lit 0))).length=(List.replicate (↑xs.length:Int).toNat (Int.ofNat (nat_lit 0))).length∧
    Cc
     (fun (v2:Int×List Int×PUnit) (k3:Int×List Int×PUnit→Prop)=>
      Br (decide (v2.1<(↑xs.length:Int)))
       (∃(y4:Int),
        idx xs v2.1=some y4∧
         ((0:Int)≤v2.1∧v2.1<(↑v2.2.1.length:Int))∧
          (0:Nat)+v2.1.toNat<v2.2.1.length∧
           (0:Nat)=(0:Nat)∧
            v2.2.1.length=(v2.2.1.set ((0:Nat)+v2.1.toNat) (IntKind.u8.wrap y4)).length∧
             k3 (IntKind.i64.wrap (v2.1+(1:Int)),v2.2.1.set ((0:Nat)+v2.1.toNat) (IntKind.u8.wrap y4),()))
       (P (bytesOf (List.take v2.2.1.length (List.drop (0:Nat) v2.2.1)))))
     ((0:Int),List.replicate (↑xs.length:Int).toNat (Int.ofNat (nat_lit 0)),PUnit.unit))=fnW tab (look []) Em Try.f111 (xs,()) P:=by kernel_rfl
theorem Aw2 (xs:List Int) (h:short xs):fnW tab (look []) Em Try.f111 (xs,()) (fun (z:ByteArray)=>z=Lq xs):=by
 unfold short at h
 refine Eq.mp (Ax6 xs _) ?_
 refine ⟨⟨by omega,by show (xs.length:Int)<(4294967296:Int)+1;omega⟩,rfl,rfl,rfl,?_⟩
 have hcl:(xs.map fun x=>IntKind.u8.wrap x).length=xs.length:=by simp
 refine Ao xs.length (fun v=>v.1) (fun j v=>v.2.1.length=(xs.map fun x=>IntKind.u8.wrap x).length∧v.2.1.take j=(xs.map fun x=>IntKind.u8.wrap x).take j) rfl ⟨by rw [hcl];simp,by simp⟩ ?_
 rintro j ⟨i,ys,⟨⟩⟩ K hj hi ⟨h1,h2⟩ hK
 dsimp only at hi h1 h2⊢
 subst hi
 refine Br.dec (fun hl=>?_) fun hl=>?_
 ·have hl:j<xs.length:=by omega
  refine ⟨_,Az hl,⟨by omega,by omega⟩,by rw [Int.toNat_natCast];omega,rfl,by rw [List.length_set],?_⟩
  rw [Ap (by omega),Int.toNat_natCast,Nat.zero_add]
  have hl':j<(xs.map fun x=>IntKind.u8.wrap x).length:=by rw [hcl];exact hl
  have e:IntKind.u8.wrap xs[j]=(xs.map fun x=>IntKind.u8.wrap x)[j]:=by simp
  rw [e]
  exact hK hl _ rfl ⟨by rw [List.length_set];exact h1,Jb hl' h1 h2⟩
 ·have:j=xs.length:=by omega
  subst this
  rw [←hcl,List.take_length,←h1,List.take_length] at h2
  rw [List.drop_zero,List.take_length,h2];rfl
theorem Aki:Sound Try.prog 111 Em:=
 Sound.mkS Ch Ar mixed Try.func111 (by kernel_rfl) (by kernel_rfl) fun x h=>Aw2 x.1 h
theorem Xd {α:Type} (P:α→Bool) (y:α): ∀(l:List α) (i:Int),0≤i→Fg P (l++ [y]) i=if Fg P l i<0 then (if P y=true then i+l.length else-1) else Fg P l i
 | [],i,_=>by simp [Fg]
 |x::r,i,h=>by
  simp only [List.cons_append,Fg,List.length_cons]
  split
  ·rw [if_neg (by omega)]
  ·rw [Xd P y r (i+1) (by omega),show i+1+(r.length:Int)=i+((r.length+1:Nat):Int) by push_cast;omega]
theorem Ape (ps:List (List Int)) (q p:List Int):Aec (ps++ [q]) p=if Aec ps p<0 then (if q=p then (ps.length:Int) else-1) else Aec ps p:=by
 unfold Aec
 rw [Xd _ _ _ _ (Int.le_refl 0)]
 simp only [decide_eq_true_eq,Int.zero_add]
def Qp (p:List Int):Prop:= ∀x∈p,0≤x∧x<256
theorem Bad {x y:Int} (hx:0≤x∧x<256) (hy:0≤y∧y<256) (h:UInt8.ofNat (IntKind.u8.wrap x).toNat=UInt8.ofNat (IntKind.u8.wrap y).toNat):x=y:=by
 have h:=congrArg UInt8.toNat h
 simp only [IntKind.wrap_u8,UInt8.toNat_ofNat'] at h
 omega
theorem bytes_inj: ∀(p q:List Int),Qp p→Qp q→(p.map fun x=>UInt8.ofNat (IntKind.u8.wrap x).toNat)=(q.map fun x=>UInt8.ofNat (IntKind.u8.wrap x).toNat)→p=q
 | [],[],_,_,_=>rfl
 | [],_::_,_,_,h=>by simp at h
 |_::_,[],_,_,h=>by simp at h
 |x::p,y::q,hp,hq,h=>by
  simp only [List.map_cons,List.cons.injEq] at h
  rw [Bad (hp x (by simp)) (hq y (by simp)) h.1,bytes_inj p q (fun z hz=>hp z (by simp [hz])) (fun z hz=>hq z (by simp [hz])) h.2]
theorem key_inj {p q:List Int} (hp:Qp p) (hq:Qp q) (h:Lq p=Lq q):p=q:=by
 refine bytes_inj p q hp hq ?_
 simp only [Lq,bytesOf,ByteArray.mk.injEq,List.map_map] at h
 have h:=congrArg Array.toList h
 simpa [Function.comp_def] using h
def KM (m:ByteArray→Option Int) (ps:List (List Int)):Prop:= ∀p,Qp p→m (Lq p)=if Aec ps p<0 then none else some (Aec ps p)
theorem KM.nil:KM (fun _=>none) []:=fun p _=>by
 rw [if_pos (by unfold Aec;simp [Fg])]
theorem KM.add {m:ByteArray→Option Int} {ps:List (List Int)} {q:List Int} (h:KM m ps) (hq:Qp q) (hn:Aec ps q<0):KM (Eo m (Lq q) (ps.length:Int)) (ps++ [q]):=by
 intro p hp
 rw [Ape]
 unfold Eo
 by_cases e:p=q
 ·subst e
  rw [if_pos rfl,if_pos hn,if_pos rfl,if_neg (by omega)]
 ·rw [if_neg (fun hk=>e (key_inj hp hq hk)),h p hp]
  have e': ¬q=p:=fun h=>e h.symm
  rw [if_neg e']
  by_cases hpn:Aec ps p<0
  ·rw [if_pos hpn,if_pos hpn,if_pos (by decide)]
  ·rw [if_neg hpn,if_neg hpn,if_neg hpn]
end Go.Proofs.Ytebabhocakedaaa

namespace Go.Proofs.Ytebabhocakedaaa
open Go.RowKit
noncomputable abbrev Lz:Spec:=mkS (.pair Cr .unit) tL false true (fun x=>List.length x.1.2.2.1≤8) (fun x=>Bc (List.length x.1.2.2.1))
theorem Aub (p:Int×ByteArray×List (List Int)×Unit) (P:List Int→Prop):((0:Nat)=(0:Nat)∧
 (0:Nat)=([]:List Int).length∧
  Cc
   (fun (v2:Int×Int×ByteArray×List (List Int)×List Int×PUnit) (k3:Int×Int×ByteArray×List (List Int)×List Int×PUnit→Prop)=>
    Br (decide (v2.1≤(↑v2.2.2.2.1.length:Int)))
     ((0:Nat)=(0:Nat)∧
      v2.2.2.2.2.1.length=v2.2.2.2.2.1.length∧
       v2.2.2.2.2.1.length+(List.take (2:Nat) (List.drop (0:Nat) [v2.1,IntKind.i64.wrap ((0:Int)-v2.1)])).length≤Am∧
        (0:Nat)=(0:Nat)∧
         (v2.2.2.2.2.1++List.take (2:Nat) (List.drop (0:Nat) [v2.1,IntKind.i64.wrap ((0:Int)-v2.1)])).length=
           (v2.2.2.2.2.1++List.take (2:Nat) (List.drop (0:Nat) [v2.1,IntKind.i64.wrap ((0:Int)-v2.1)])).length∧
          k3
           (IntKind.i64.wrap (v2.1+(1:Int)),v2.2.1,v2.2.2.1,v2.2.2.2.1,
            v2.2.2.2.2.1++List.take (2:Nat) (List.drop (0:Nat) [v2.1,IntKind.i64.wrap ((0:Int)-v2.1)]),()))
     (P (List.take v2.2.2.2.2.1.length (List.drop (0:Nat) v2.2.2.2.2.1))))
   ((1:Int),p.1,p.2.1,p.2.2.1,[],PUnit.unit))=fnW tab (look []) Lz Try.f142 (p,()) P:=by kernel_rfl
theorem Ata (p:PP) (h:List.length p.2.2.1≤8):fnW tab (look []) Lz Try.f142 (p,()) (fun (z:List Int)=>z=Bc (List.length p.2.2.1)):=by
 refine Eq.mp (Aub p _) ⟨rfl,rfl,?_⟩
 refine Cc.mk (fun v=> ∃j:Nat,j≤List.length p.2.2.1∧v=((j:Int)+1,p.1,p.2.1,p.2.2.1,Bc j,())) (fun v=>List.length p.2.2.1+1-v.1.toNat) ⟨0,Nat.zero_le _,rfl⟩ ?_
 rintro _ ⟨j,hj,rfl⟩
 dsimp only
 refine Br.dec (fun hl=>?_) fun hl=>?_
 ·refine ⟨rfl,rfl,?_,rfl,rfl,⟨j+1,by omega,?_⟩,?_⟩
  ·show (Bc j).length+2≤4294967296
   rw [Kr];omega
  ·rw [Rd,Bu (n:=(j:Int)+1+1) (by omega) (by omega),Bu (n:=0-((j:Int)+1)) (by omega) (by omega),Int.zero_sub]
   rfl
  ·rw [Bu (by omega) (by omega)];omega
 ·have:j=List.length p.2.2.1:=by omega
  subst this
  rw [Bn]
theorem Ahs:Sound Try.prog 142 Lz:=
 Sound.mkS Ch Ar mixed Try.func142 (by kernel_rfl) (by kernel_rfl) fun x h=>Ata x.1 h
theorem Bbr {p:PP} {room:Int} (hr:roomy room) (h: ¬Za p room<0):(Ba p.2.2.1:Int)≤room-Za p room∧roomy (Za p room):=by
 unfold Za at h⊢
 split at h
 ·exact absurd (show (-1:Int)<0 by decide) h
 ·rename_i h1
  rw [if_neg h1]
  split at h
  ·exact absurd (show (-1:Int)<0 by decide) h
  ·rename_i h2
   rw [if_neg h2]
   have e2:=Bbq h2
   obtain ⟨r1,r2⟩:=hr
   unfold roomy
   omega
end Go.Proofs.Ytebabhocakedaaa

namespace Go.Proofs.Ytebabhocakedaaa
open Go.RowKit
def Aot (v:Int):List Int→Nat
 | []=>0
 |x::r=>if x>v then Aot v r+1 else 0
def Bcl (v:Int) (t:List Int):Option (List Int):=if Aot v t=0 then none else some (Lg t ((Aot v t-1:Nat):Int)::(t.set (Aot v t-1) v).reverse)
def Yz:List Int→Option (List Int)
 | []=>none
 |v::t=>match Yz t with
  |some t'=>some (v::t')
  |none=>Bcl v t
theorem Asx {s s':List Int} (h:Yz s=some s'): ∀pre:List Int,Yz (pre++s)=some (pre++s')
 | []=>h
 |v::p=>by rw [List.cons_append,Yz,Asx h p];rfl
theorem Bcz {α:Type} (pre:List α) (v a:α) (t:List α):(pre++v::t).set pre.length a=pre++a::t:=by
 rw [List.set_append,if_neg (by omega)];simp
inductive Run:List Int→List (List Int)→List Int→Prop where
 |one (a:List Int):Run a [a] a
 |more {a c b:List Int} {L:List (List Int)} :Yz a=some c→Run c L b→Run a (a::L) b
theorem Run.cons {a b:List Int} {L:List (List Int)} (h:Run a L b) (v:Int):Run (v::a) (L.map (v:: ·)) (v::b):=by
 induction h with
 |one a=>exact .one _
 |more h3 _ ih=>exact .more (Asx h3 [v]) ih
theorem Run.head {a b:List Int} {L:List (List Int)} (h:Run a L b): ∃M,L=a::M:=by
 cases h with
 |one=>exact ⟨_,rfl⟩
 |more _ _=>exact ⟨_,rfl⟩
theorem Run.at {a b:List Int} {L:List (List Int)} (h:Run a L b): ∀j (hj:j<L.length),(∀h2:j+1<L.length,Yz L[j]=some L[j+1])∧(j+1=L.length→L[j]=b):=by
 induction h with
 |one a=>
  intro j hj
  simp only [List.length_singleton] at hj
  have:j=0:=by omega
  subst this
  exact ⟨fun h2=>by simp at h2,fun _=>rfl⟩
 |more h3 h4 ih=>
  intro j hj
  rcases j with _|j
  ·obtain ⟨M,hM⟩:=h4.head
   refine ⟨fun h2=>?_,fun h2=>?_⟩
   ·simp only [List.getElem_cons_zero,List.getElem_cons_succ]
    subst hM
    exact h3
   ·subst hM;simp at h2
  ·have:=ih j (by simpa using hj)
   refine ⟨fun h2=>?_,fun h2=>?_⟩
   ·simp only [List.getElem_cons_succ]
    exact this.1 (by simpa using h2)
   ·simp only [List.getElem_cons_succ]
    exact this.2 (by simpa using h2)
theorem Run.distinct {a b:List Int} {L:List (List Int)} (h:Run a L b) (hb:Yz b=none): ∀k i j (hi:i<L.length) (hj:j<L.length),L.length-j=k→i<j→L[i]≠L[j]:=by
 intro k
 induction k with
 |zero=>intro i j hi hj hk;omega
 |succ k ih=>
  intro i j hi hj hk hij he
  by_cases e:j+1<L.length
  ·have h1:=(h.at i hi).1 (by omega)
   have h2:=(h.at j hj).1 e
   rw [he,h2] at h1
   exact ih (i+1) (j+1) (by omega) e (by omega) (by omega) (Option.some.inj h1).symm
  ·have h1:=(h.at i hi).1 (by omega)
   have h2:=(h.at j hj).2 (by omega)
   rw [he,h2,hb] at h1
   cases h1
theorem Run.idx {a b:List Int} {L:List (List Int)} (h:Run a L b) (hb:Yz b=none) {j:Nat} (hj:j<L.length):L.idxOf L[j]=j:=by
 have h1:L.idxOf L[j]<L.length:=List.idxOf_lt_length_of_mem (List.getElem_mem _)
 have h2:L[L.idxOf L[j]]=L[j]:=List.getElem_idxOf h1
 rcases Nat.lt_trichotomy (L.idxOf L[j]) j with h3|h3|h3
 ·exact absurd h2 (h.distinct hb _ _ _ h1 hj rfl h3)
 ·exact h3
 ·exact absurd h2.symm (h.distinct hb _ _ _ hj h1 rfl h3)
end Go.Proofs.Ytebabhocakedaaa

namespace Go.Proofs.Ytebabhocakedaaa
open Go.RowKit
theorem Ajh {n:Nat} : ∀(xs:List (List Int)),(∀p∈xs,p.length≤n)→Ba xs≤xs.length*n
 | [],_=>by simp [Ba]
 |r::xs,h=>by
  have h1:=Ajh xs fun p hp=>h p (List.mem_cons_of_mem _ hp)
  have h2:=h r (List.mem_cons_self ..)
  simp only [Ba,List.length_cons]
  rw [Nat.add_mul,Nat.one_mul]
  omega
theorem Am8 (k:Int) (xs:List (List Int)):List.take xs.length (List.drop 0 (Ck k xs))=Ck k xs:=by rw [List.drop_zero,List.take_of_length_le (by rw [Iv];exact Nat.le_refl _)]
end Go.Proofs.Ytebabhocakedaaa

namespace Go.Proofs.Ytebabhocakedaaa
open Go.RowKit
def Bx:List Int→List Int→Int
 | [],[]=>0
 | [],_::_=> -1
 |_::_,[]=>1
 |x::a,y::b=>if x<y then-1 else if x>y then 1 else Bx a b
def Vu (a b:List Int):Bool:=decide (Bx a b<0)
noncomputable abbrev Afu:Spec:=mkS (.pair (.oslice tI) .unit) tL false true (fun x=>short (x.1.getD [])) (fun x=>x.1.getD [])
noncomputable abbrev Aei:Spec:=mkS (.pair tL .unit) tL false true (fun x=>short x.1) (fun x=>x.1)
noncomputable abbrev No:Spec:=mkS (.pair tL (.pair tL .unit)) .bool false true (fun x=>short x.1∧List.length x.1=List.length x.2.1) (fun x=>Vu x.1 x.2.1)
theorem Azs (xs:Option (List Int)) (P:List Int→Prop):(Br xs.isNone (P (List.take (0:Nat) (List.drop (0:Nat) [])))
 ((0:Nat)=(0:Nat)∧(0:Nat)=([]:List Int).length∧(0:Nat)+(xs.getD []).length≤Am∧P (List.take ([]++xs.getD []).length (List.drop (0:Nat) ([]++xs.getD [])))))=fnW tab (look []) Afu Try.f121 (xs,()) P:=by kernel_rfl
theorem Ax3 (a b:List Int) (P:Bool→Prop):(Cc
 (fun (v3:Int×PUnit) (k4:Int×PUnit→Prop)=>
  Br (decide (v3.1<(↑a.length:Int)))
   (∃(y5:Int),
    idx a v3.1=some y5∧
     ∃(y6:Int),
      idx b v3.1=some y6∧
       Br (y5 !=y6) (∃(y7:Int),idx a v3.1=some y7∧ ∃(y8:Int),idx b v3.1=some y8∧P (decide (y7<y8))) (k4 (IntKind.i64.wrap (v3.1+(1:Int)),())))
   (P false))
 ((0:Int),PUnit.unit))=fnW tab (look []) No Try.f135 (a,b,()) P:=by kernel_rfl
theorem Sound.ofO {P:Program} {f:FuncId} {e:Ty} {r res:Ty} {multi fresh:Bool} {pre:(Ty.pair (.oslice e) r).den→Prop} {val:(Ty.pair (.oslice e) r).den→res.den} {pre':(Ty.pair (.slice e) r).den→Prop} {val':(Ty.pair (.slice e) r).den→res.den}
  (h:Sound P f (Go.Proofs.Ytebabhocakedaaa.mkS (.pair (.oslice e) r) res multi fresh pre val))
  (hp: ∀(o:Option (List e.den)) (y:r.den),pre' (o.getD [],y)→pre (o,y)∧val (o,y)=val' (o.getD [],y)):Sound P f (Go.Proofs.Ytebabhocakedaaa.mkS (.pair (.slice e) r) res multi fresh pre' val'):=by
 refine ⟨h.enter,fun w S vs x y hS h2 h5=>?_⟩
 obtain ⟨xs,rest⟩:=x
 cases vs with
 |nil=>exact h2.elim
 |cons u us=>
  obtain ⟨h7,h8⟩:=h2
  obtain ⟨ox,h9,rfl⟩:=h7.told
  have hpre:pre' (ox.getD [],rest):=Classical.byContradiction fun hn=>by
   have:(Go.Proofs.Ytebabhocakedaaa.mkS (.pair (.slice e) r) res multi fresh pre' val').fn (ox.getD [],rest)=none:=if_neg hn
   rw [this] at h5;cases h5
  obtain ⟨k1,k2⟩:=hp ox rest hpre
  have hv:(Go.Proofs.Ytebabhocakedaaa.mkS (.pair (.slice e) r) res multi fresh pre' val').fn (ox.getD [],rest)=some (val' (ox.getD [],rest)):=if_pos hpre
  rw [hv] at h5
  have h5:=Option.some.inj h5
  exact h.calls w S (u::us) (ox,rest) y hS ⟨h9,h8⟩ ((if_pos k1).trans (by rw [k2];exact congrArg some h5))
theorem Ayt (xs:Option (List Int)) (h:short (xs.getD [])):fnW tab (look []) Afu Try.f121 (xs,()) (fun (z:List Int)=>z=xs.getD []):=by
 unfold short at h
 refine Eq.mp (Azs xs _) ⟨fun hn=>?_,fun _=>⟨rfl,rfl,by show 0+(xs.getD []).length≤4294967296;omega,?_⟩⟩
 ·cases xs with
  |none=>rfl
  |some y=>cases hn
 ·simp only [Bn,List.nil_append]
theorem Alr:Sound Try.prog 121 Afu:=
 Sound.mkS Ch Ar mixed Try.func121 (by kernel_rfl) (by kernel_rfl) fun x h=>Ayt x.1 h
theorem Aq0:Sound Try.prog 121 Aei:=Sound.ofO Alr fun _ _ h=>⟨h,rfl⟩
theorem Avz (a b:List Int) (h:short a∧a.length=b.length):fnW tab (look []) No Try.f135 (a,b,()) (fun (z:Bool)=>z=Vu a b):=by
 obtain ⟨ha,hb⟩:=h
 unfold short at ha
 refine Eq.mp (Ax3 a b _) ?_
 refine Ao a.length (fun v=>v.1) (fun j _=>Bx (a.drop j) (b.drop j)=Bx a b) rfl (by simp) ?_
 rintro j ⟨i,⟨⟩⟩ K hj hi hR2 hK
 dsimp only at hi⊢
 subst hi
 refine Br.dec (fun hl=>?_) fun hl=>?_
 ·have hl:j<a.length:=by omega
  have hlb:j<b.length:=by omega
  rw [List.drop_eq_getElem_cons hl,List.drop_eq_getElem_cons hlb] at hR2
  simp only [Bx] at hR2
  refine ⟨_,Az hl,_,Az hlb,⟨fun hne=>?_,fun hne=>?_⟩⟩
  ·refine ⟨_,Az hl,_,Az hlb,?_⟩
   have hne:a[j]≠b[j]:=by simpa using hne
   unfold Vu
   rw [←hR2]
   by_cases h1:a[j]<b[j]
   ·rw [if_pos h1];simp [h1]
   ·rw [if_neg h1,if_pos (by omega)];simp [h1]
  ·have hne:a[j]=b[j]:=by simpa using hne
   rw [if_neg (by omega),if_neg (by omega)] at hR2
   rw [Ap (by omega)]
   exact hK hl _ rfl hR2
 ·have:j=a.length:=by omega
  subst this
  rw [List.drop_length,List.drop_eq_nil_of_le (by omega)] at hR2
  unfold Vu
  rw [←hR2]
  rfl
theorem Akf:Sound Try.prog 135 No:=
 Sound.mkS Ch Ar mixed Try.func135 (by kernel_rfl) (by kernel_rfl) fun x h=>Avz x.1 x.2.1 h
end Go.Proofs.Ytebabhocakedaaa

namespace Go.Proofs.Ytebabhocakedaaa
open Go.RowKit
abbrev SS:Type:=List (List Int)×List Int×List Int×Bool×Unit
abbrev rLS:CK:= .row tL 25
abbrev rN:CK:= .row tI 3
def Cn (L:List (List Int)) (srt:List Int) (s:List Int):Nat:=(srt.takeWhile fun i=>Vu (L.getD i.toNat []) s).length
structure Cu (m:Nat) (L:List (List Int)) (srt:List Int):Prop where
 few:L.length≤3000
 len: ∀x∈L,x.length=m
 short:m≤20
 perm:srt.Perm (upto L.length)
 sorted:srt.Pairwise fun i j=>Vu (L.getD i.toNat []) (L.getD j.toNat [])=true
def Agz (L:List (List Int)) (s:List Int):Int:=if s∈L then (L.idxOf s:Int) else-1
def Mt (srt:List Int) (k:Nat) (x:Int):List Int:=srt.take k++x::srt.drop k
noncomputable abbrev Wl:Spec:=mkS (.pair Sn (.pair tL .unit)) tI false true (fun x=>Cu (List.length x.2.1) x.1.1 x.1.2.2.1) (fun x=>(Cn x.1.1 x.1.2.2.1 x.2.1:Int))
noncomputable abbrev Uo:Spec:=mkS (.pair Sn (.pair tL .unit)) tI false true (fun x=>Cu (List.length x.2.1) x.1.1 x.1.2.2.1) (fun x=>Agz x.1.1 x.2.1)
noncomputable abbrev Acu:Be:=mkM [some 4,none,none] [(false,rLS),(false,rL),(false,rN),(false, .dat .bool),(false, .dat tL),(false, .dat tI)] false [some 4] [rLS,rL,rN, .dat .bool]
 (fun x=>Cu (List.length x.2.2.2.2.1) x.1 x.2.2.1∧List.length x.2.1≤3000) (fun x=>((x.1++ [x.2.2.2.2.1],x.2.1++ [x.2.2.2.2.2.1],Mt x.2.2.1 (Cn x.1 x.2.2.1 x.2.2.2.2.1) (List.length x.1),x.2.2.2.1,()),()))
def Sm (L:List (List Int)):List Int:=(List.range L.length).foldl (fun (S:List Int) (i:Nat)=>Mt S (Cn (L.take i) S (L.getD i [])) (i:Int)) []
def Gz (g:List (List Int)) (x:List Int) (d:Int):List Int→List (List Int)→List Int→List (List Int)×List Int×Bool
 | [],L,D=>(L,D,true)
 |l::ls,L,D=>if Aa x (Af g l)∈L then Gz g x d ls L D else if L.length=3000 then (L,D,false) else Gz g x d ls (L++ [Aa x (Af g l)]) (D++ [d+1])
def Je (g:List (List Int)) (ls:List Int):Nat→Nat→List (List Int)→List Int→List (List Int)×List Int×Bool
 |0,_,L,D=>(L,D,true)
 |f+1,k,L,D=>if k<L.length then (match Gz g (L.getD k []) (D.getD k 0) ls L D with
  |(L',D',true)=>Je g ls f (k+1) L' D'
  |(L',D',false)=>(L',D',false)) else (L,D,true)
def Eu (g:List (List Int)) (s:List Int):List (List Int)×List Int×Bool:=Je g (Bc g.length) 3001 0 [s] [0]
def Dr (g:List (List Int)) (s:List Int):SS:=((Eu g s).1,(Eu g s).2.1,Sm (Eu g s).1,(Eu g s).2.2,())
noncomputable abbrev Cw:Spec:=mkS (.pair Cr (.pair tL .unit)) Sn false false (fun x=>Bq x.1=true∧List.length x.2.1≤20∧ ∀y∈x.2.1,0≤y∧y<x.1.1) (fun x=>Dr x.1.2.2.1 x.2.1)
theorem Bep (f:List (List Int)×List Int×List Int×Bool×Unit) (s:List Int) (P:Int→Prop):(Cc
 (fun (v3:Int×Int×List (List Int)×List Int×List Int×Bool×PUnit) (k4:Int×Int×List (List Int)×List Int×List Int×Bool×PUnit→Prop)=>
  Br (decide (v3.1<v3.2.1))
   ((2:Int)≠(0:Int)∧
    ∃(y5:Int),
     idx v3.2.2.2.2.1 (IntKind.i64.wrap ((IntKind.i64.wrap (v3.1+v3.2.1)).tdiv (2:Int)))=some y5∧
      ∃(y6:List Int),
       idx v3.2.2.1 y5=some y6∧
        ∃(y7:Bool),
         No.fn (y6,s,())=some y7∧
          Br y7
           (k4
            (IntKind.i64.wrap (IntKind.i64.wrap ((IntKind.i64.wrap (v3.1+v3.2.1)).tdiv (2:Int))+(1:Int)),v3.2.1,v3.2.2.1,v3.2.2.2.1,v3.2.2.2.2.1,
             v3.2.2.2.2.2.1,()))
           (k4 (v3.1,IntKind.i64.wrap ((IntKind.i64.wrap (v3.1+v3.2.1)).tdiv (2:Int)),v3.2.2.1,v3.2.2.2.1,v3.2.2.2.2.1,v3.2.2.2.2.2.1,())))
   (P v3.1))
 ((0:Int),(↑f.2.2.1.length:Int),f.1,f.2.1,f.2.2.1,f.2.2.2.1,PUnit.unit))=fnW tab (look [(135,No)]) Wl Try.f119 (f,s,()) P:=by kernel_rfl
theorem Bc8 (f:List (List Int)×List Int×List Int×Bool×Unit) (s:List Int) (P:Int→Prop):(∃(y3:Int),
 Wl.fn ((f.1,f.2.1,f.2.2.1,f.2.2.2.1,()),s,())=some y3∧
  Br (decide (y3<(↑f.2.2.1.length:Int)))
   (∃(y4:Int),
    idx f.2.2.1 y3=some y4∧
     ∃(y5:List Int),idx f.1 y4=some y5∧ ∃(y6:Bool),Dh.fn (y5,s,())=some y6∧Br y6 (∃(y7:Int),idx f.2.2.1 y3=some y7∧P y7) (P (-1:Int)))
   (P (-1:Int)))=fnW tab (look [(119,Wl),(59,Dh)]) Uo Try.f69 (f,s,()) P:=by kernel_rfl
theorem Beo (L:List (List Int)) (D S:List Int) (b:Bool) (s:List Int) (d:Int) (P:((List (List Int)×List Int×List Int×Bool×Unit)×Unit)→Prop):(∃(y7:Int),
 Wl.fn ((List.take L.length (List.drop (0:Nat) L),List.take D.length (List.drop (0:Nat) D),List.take S.length (List.drop (0:Nat) S),b,()),s,())=some y7∧
  (0:Nat)=(0:Nat)∧
   S.length=S.length∧
    S.length+(List.take (1:Nat) (List.drop (0:Nat) [(0:Int)])).length≤Am∧
     ((0:Int)≤IntKind.i64.wrap (y7+(1:Int))∧
       IntKind.i64.wrap (y7+(1:Int))≤(↑(S++List.take (1:Nat) (List.drop (0:Nat) [(0:Int)])).length:Int)∧
        (↑(S++List.take (1:Nat) (List.drop (0:Nat) [(0:Int)])).length:Int)≤(↑(S++List.take (1:Nat) (List.drop (0:Nat) [(0:Int)])).length:Int))∧
      ((0:Int)≤y7∧
        y7≤(↑(S++List.take (1:Nat) (List.drop (0:Nat) [(0:Int)])).length:Int)∧
         (↑(S++List.take (1:Nat) (List.drop (0:Nat) [(0:Int)])).length:Int)≤(↑(S++List.take (1:Nat) (List.drop (0:Nat) [(0:Int)])).length:Int))∧
       ((0:Int)≤y7∧y7<(↑(S++List.take (1:Nat) (List.drop (0:Nat) [(0:Int)])).length:Int))∧
        (0:Nat)+y7.toNat<
          (Bk (S++List.take (1:Nat) (List.drop (0:Nat) [(0:Int)])) ((0:Nat)+(IntKind.i64.wrap (y7+(1:Int))).toNat)
            (List.take ((↑(S++List.take (1:Nat) (List.drop (0:Nat) [(0:Int)])).length:Int).toNat-(IntKind.i64.wrap (y7+(1:Int))).toNat)
             (List.take ((↑(S++List.take (1:Nat) (List.drop (0:Nat) [(0:Int)])).length:Int).toNat-y7.toNat)
              (List.drop ((0:Nat)+y7.toNat) (S++List.take (1:Nat) (List.drop (0:Nat) [(0:Int)])))))).length∧
         (0:Nat)=(0:Nat)∧
          L.length=L.length∧
           L.length+(List.take (1:Nat) (List.drop (0:Nat) [s])).length≤Am∧
            (0:Nat)=(0:Nat)∧
             D.length=D.length∧
              D.length+(List.take (1:Nat) (List.drop (0:Nat) [d])).length≤Am∧
               P
                ((List.take (L++List.take (1:Nat) (List.drop (0:Nat) [s])).length (List.drop (0:Nat) (L++List.take (1:Nat) (List.drop (0:Nat) [s]))),
                  List.take (D++List.take (1:Nat) (List.drop (0:Nat) [d])).length (List.drop (0:Nat) (D++List.take (1:Nat) (List.drop (0:Nat) [d]))),
                  List.take (S++List.take (1:Nat) (List.drop (0:Nat) [(0:Int)])).length
                   (List.drop (0:Nat)
                    ((Bk (S++List.take (1:Nat) (List.drop (0:Nat) [(0:Int)])) ((0:Nat)+(IntKind.i64.wrap (y7+(1:Int))).toNat)
                       (List.take ((↑(S++List.take (1:Nat) (List.drop (0:Nat) [(0:Int)])).length:Int).toNat-(IntKind.i64.wrap (y7+(1:Int))).toNat)
                        (List.take ((↑(S++List.take (1:Nat) (List.drop (0:Nat) [(0:Int)])).length:Int).toNat-y7.toNat)
                         (List.drop ((0:Nat)+y7.toNat) (S++List.take (1:Nat) (List.drop (0:Nat) [(0:Int)])))))).set
                     ((0:Nat)+y7.toNat) (↑L.length:Int))),
                  b,()),
                 ()))=Lf Rr (look [(119,Wl)]) Acu Try.f151 (L,D,S,b,s,d,()) P:=by kernel_rfl
theorem Bdf (p:Int×ByteArray×List (List Int)×Unit) (s:List Int) (P:(List (List Int)×List Int×List Int×Bool×Unit)→Prop):(∃(y3:List Int),
 Ie.fn (s,())=some y3∧
  ∃(y4:(List (List Int)×List Int×List Int×Bool×PUnit)×PUnit),
   Acu.fn ([],[],[],false,y3,(0:Int),())=some y4∧
    ∃(y5:List Int),
     Lz.fn ((p.1,p.2.1,p.2.2.1,()),())=some y5∧
      (0:Nat)=(0:Nat)∧
       (0:Nat)=([]:List Int).length∧
        (0:Nat)=(0:Nat)∧
         (0:Nat)=([]:List Int).length∧
          (0:Nat)=(0:Nat)∧
           (0:Nat)=([]:List Int).length∧
            (0:Nat)=(0:Nat)∧
             y4.1.1.length=y4.1.1.length∧
              (0:Nat)=(0:Nat)∧
               y4.1.2.1.length=y4.1.2.1.length∧
                (0:Nat)=(0:Nat)∧
                 y4.1.2.2.1.length=y4.1.2.2.1.length∧
                  Cc
                   (fun (v6:Int×Int×ByteArray×List (List Int)×Bool×Bool×List (List Int)×List Int×List Int×List (List Int)×List Int×List Int×PUnit)
                     (k7:Int×Int×ByteArray×List (List Int)×Bool×Bool×List (List Int)×List Int×List Int×List (List Int)×List Int×List Int×PUnit→Prop)=>
                    Br (decide (v6.1<(↑v6.2.2.2.2.2.2.2.2.2.1.length:Int)))
                     ((0:Nat)=(0:Nat)∧
                      v6.2.2.2.2.2.2.1.length=v6.2.2.2.2.2.2.1.length∧
                       (0:Nat)=(0:Nat)∧
                        v6.2.2.2.2.2.2.2.1.length=v6.2.2.2.2.2.2.2.1.length∧
                         (0:Nat)=(0:Nat)∧
                          v6.2.2.2.2.2.2.2.2.1.length=v6.2.2.2.2.2.2.2.2.1.length∧
                           (0:Nat)=(0:Nat)∧
                            v6.2.2.2.2.2.2.2.2.2.1.length=v6.2.2.2.2.2.2.2.2.2.1.length∧
                             (0:Nat)=(0:Nat)∧
                              v6.2.2.2.2.2.2.2.2.2.2.1.length=v6.2.2.2.2.2.2.2.2.2.2.1.length∧
                               (0:Nat)=(0:Nat)∧
                                v6.2.2.2.2.2.2.2.2.2.2.2.1.length=v6.2.2.2.2.2.2.2.2.2.2.2.1.length∧
                                 Cc
                                  (fun
                                    (v8:
                                     Int×
                                      Int×
                                       ByteArray×
                                        List (List Int)×Bool×Bool×List (List Int)×List Int×List Int×List (List Int)×List Int×List Int×PUnit)
                                    (k9:
                                     Int×
                                       Int×
                                        ByteArray×
                                         List (List Int)×
                                          Bool×Bool×List (List Int)×List Int×List Int×List (List Int)×List Int×List Int×PUnit→
                                      Prop)=>
                                   Br (decide (v8.1<(↑y5.length:Int)))
                                    (((0:Int)≤v6.1∧v6.1<(↑v8.2.2.2.2.2.2.2.2.2.1.length:Int))∧
                                     ∃(y10:List Int),
                                      v8.2.2.2.2.2.2.2.2.2.1[(0:Nat)+v6.1.toNat]?=some y10∧
                                       ∃(y11:Int),
                                        idx y5 v8.1=some y11∧
                                         ∃(y12:List Int),
                                          Uk.fn ((v8.2.1,v8.2.2.1,v8.2.2.2.1,()),y10,y11,())=some y12∧
                                           ∃(y13:Int),
                                            Uo.fn
                                               ((List.take v8.2.2.2.2.2.2.2.2.2.1.length
                                                  (List.drop ((0:Nat)) v8.2.2.2.2.2.2.2.2.2.1),
                                                 List.take v8.2.2.2.2.2.2.2.2.2.2.1.length
                                                  (List.drop ((0:Nat)) v8.2.2.2.2.2.2.2.2.2.2.1),
                                                 List.take v8.2.2.2.2.2.2.2.2.2.2.2.1.length
                                                  (List.drop ((0:Nat)) v8.2.2.2.2.2.2.2.2.2.2.2.1),
                                                 v8.2.2.2.2.2.1,()),
                                                y12,())=
                                              some y13∧
                                             Br (decide (y13≥(0:Int)))
                                              ((0:Nat)=(0:Nat)∧
                                               v8.2.2.2.2.2.2.1.length=v8.2.2.2.2.2.2.1.length∧
                                                (0:Nat)=(0:Nat)∧
                                                 v8.2.2.2.2.2.2.2.1.length=v8.2.2.2.2.2.2.2.1.length∧
                                                  (0:Nat)=(0:Nat)∧
                                                   v8.2.2.2.2.2.2.2.2.1.length=v8.2.2.2.2.2.2.2.2.1.length∧
                                                    (0:Nat)=(0:Nat)∧
                                                     v8.2.2.2.2.2.2.2.2.2.1.length=v8.2.2.2.2.2.2.2.2.2.1.length∧
                                                      (0:Nat)=(0:Nat)∧
                                                       v8.2.2.2.2.2.2.2.2.2.2.1.length=
                                                         v8.2.2.2.2.2.2.2.2.2.2.1.length∧
                                                        (0:Nat)=(0:Nat)∧
                                                         v8.2.2.2.2.2.2.2.2.2.2.2.1.length=
                                                           v8.2.2.2.2.2.2.2.2.2.2.2.1.length∧
                                                          k9
                                                           (IntKind.i64.wrap (v8.1+(1:Int)),v8.2.1,v8.2.2.1,v8.2.2.2.1,
                                                            v8.2.2.2.2.1,v8.2.2.2.2.2.1,v8.2.2.2.2.2.2.1,
                                                            v8.2.2.2.2.2.2.2.1,v8.2.2.2.2.2.2.2.2.1,
                                                            v8.2.2.2.2.2.2.2.2.2.1,v8.2.2.2.2.2.2.2.2.2.2.1,
                                                            v8.2.2.2.2.2.2.2.2.2.2.2.1,()))
                                              (Br ((↑v8.2.2.2.2.2.2.2.2.2.1.length:Int)==(3000:Int))
                                               (P
                                                (List.take v8.2.2.2.2.2.2.2.2.2.1.length
                                                  (List.drop ((0:Nat)) v8.2.2.2.2.2.2.2.2.2.1),
                                                 List.take v8.2.2.2.2.2.2.2.2.2.2.1.length
                                                  (List.drop ((0:Nat)) v8.2.2.2.2.2.2.2.2.2.2.1),
                                                 List.take v8.2.2.2.2.2.2.2.2.2.2.2.1.length
                                                  (List.drop ((0:Nat)) v8.2.2.2.2.2.2.2.2.2.2.2.1),
                                                 v8.2.2.2.2.2.1,()))
                                               (((0:Int)≤v6.1∧v6.1<(↑v8.2.2.2.2.2.2.2.2.2.2.1.length:Int))∧
                                                ∃(y14:Int),
                                                 v8.2.2.2.2.2.2.2.2.2.2.1[(0:Nat)+v6.1.toNat]?=some y14∧
                                                  (0:Nat)=(0:Nat)∧
                                                   v8.2.2.2.2.2.2.2.2.2.1.length=v8.2.2.2.2.2.2.2.2.2.1.length∧
                                                    (0:Nat)=(0:Nat)∧
                                                     v8.2.2.2.2.2.2.2.2.2.2.1.length=v8.2.2.2.2.2.2.2.2.2.2.1.length∧
                                                      (0:Nat)=(0:Nat)∧
                                                       v8.2.2.2.2.2.2.2.2.2.2.2.1.length=
                                                         v8.2.2.2.2.2.2.2.2.2.2.2.1.length∧
                                                        ∃(y15:(List (List Int)×List Int×List Int×Bool×PUnit)×PUnit),
                                                         Acu.fn
                                                            (v8.2.2.2.2.2.2.2.2.2.1,v8.2.2.2.2.2.2.2.2.2.2.1,
                                                             v8.2.2.2.2.2.2.2.2.2.2.2.1,v8.2.2.2.2.2.1,y12,
                                                             IntKind.i64.wrap (y14+(1:Int)),())=
                                                           some y15∧
                                                          (0:Nat)=(0:Nat)∧
                                                           v8.2.2.2.2.2.2.1.length=v8.2.2.2.2.2.2.1.length∧
                                                            (0:Nat)=(0:Nat)∧
                                                             v8.2.2.2.2.2.2.2.1.length=v8.2.2.2.2.2.2.2.1.length∧
                                                              (0:Nat)=(0:Nat)∧
                                                               v8.2.2.2.2.2.2.2.2.1.length=
                                                                 v8.2.2.2.2.2.2.2.2.1.length∧
                                                                (0:Nat)=(0:Nat)∧
                                                                 y15.1.1.length=y15.1.1.length∧
                                                                  (0:Nat)=(0:Nat)∧
                                                                   y15.1.2.1.length=y15.1.2.1.length∧
                                                                    (0:Nat)=(0:Nat)∧
                                                                     y15.1.2.2.1.length=y15.1.2.2.1.length∧
                                                                      k9
                                                                       (IntKind.i64.wrap (v8.1+(1:Int)),v8.2.1,
                                                                        v8.2.2.1,v8.2.2.2.1,v8.2.2.2.2.1,
                                                                        y15.1.2.2.2.1,v8.2.2.2.2.2.2.1,
                                                                        v8.2.2.2.2.2.2.2.1,
                                                                        v8.2.2.2.2.2.2.2.2.1,y15.1.1,
                                                                        y15.1.2.1,y15.1.2.2.1,()))))
                                    ((0:Nat)=(0:Nat)∧
                                     v8.2.2.2.2.2.2.1.length=v8.2.2.2.2.2.2.1.length∧
                                      (0:Nat)=(0:Nat)∧
                                       v8.2.2.2.2.2.2.2.1.length=v8.2.2.2.2.2.2.2.1.length∧
                                        (0:Nat)=(0:Nat)∧
                                         v8.2.2.2.2.2.2.2.2.1.length=v8.2.2.2.2.2.2.2.2.1.length∧
                                          (0:Nat)=(0:Nat)∧
                                           v8.2.2.2.2.2.2.2.2.2.1.length=v8.2.2.2.2.2.2.2.2.2.1.length∧
                                            (0:Nat)=(0:Nat)∧
                                             v8.2.2.2.2.2.2.2.2.2.2.1.length=v8.2.2.2.2.2.2.2.2.2.2.1.length∧
                                              (0:Nat)=(0:Nat)∧
                                               v8.2.2.2.2.2.2.2.2.2.2.2.1.length=v8.2.2.2.2.2.2.2.2.2.2.2.1.length∧
                                                k7
                                                 (IntKind.i64.wrap (v6.1+(1:Int)),v8.2.1,v8.2.2.1,v8.2.2.2.1,v8.2.2.2.2.1,
                                                  v8.2.2.2.2.2.1,v8.2.2.2.2.2.2.1,v8.2.2.2.2.2.2.2.1,
                                                  v8.2.2.2.2.2.2.2.2.1,v8.2.2.2.2.2.2.2.2.2.1,
                                                  v8.2.2.2.2.2.2.2.2.2.2.1,v8.2.2.2.2.2.2.2.2.2.2.2.1,())))
                                  ((0:Int),v6.2.1,v6.2.2.1,v6.2.2.2.1,v6.2.2.2.2.1,v6.2.2.2.2.2.1,v6.2.2.2.2.2.2.1,
                                   v6.2.2.2.2.2.2.2.1,v6.2.2.2.2.2.2.2.2.1,v6.2.2.2.2.2.2.2.2.2.1,
                                   v6.2.2.2.2.2.2.2.2.2.2.1,v6.2.2.2.2.2.2.2.2.2.2.2.1,PUnit.unit))
                     (P
                      (List.take v6.2.2.2.2.2.2.2.2.2.1.length (List.drop ((0:Nat)) v6.2.2.2.2.2.2.2.2.2.1),
                       List.take v6.2.2.2.2.2.2.2.2.2.2.1.length (List.drop ((0:Nat)) v6.2.2.2.2.2.2.2.2.2.2.1),
                       List.take v6.2.2.2.2.2.2.2.2.2.2.2.1.length (List.drop ((0:Nat)) v6.2.2.2.2.2.2.2.2.2.2.2.1),true,())))
                   ((0:Int),p.1,p.2.1,p.2.2.1,false,y4.1.2.2.2.1,[],[],[],y4.1.1,y4.1.2.1,y4.1.2.2.1,PUnit.unit))=fnW Bej (look [(120,Ie),(151,Acu),(142,Lz),(129,Uk),(69,Uo)]) Cw Try.f105 (p,s,()) P:=by kernel_rfl
theorem Ais: ∀ {a b:List Int},Bx a b=0↔a=b
 | [],[]=>by simp [Bx]
 | [],_::_=>by simp [Bx]
 |_::_,[]=>by simp [Bx]
 |x::a,y::b=>by
  simp only [Bx,List.cons.injEq]
  by_cases h1:x<y
  ·rw [if_pos h1]
   exact ⟨fun h=>by omega,fun h=>by omega⟩
  ·rw [if_neg h1]
   by_cases h2:x>y
   ·rw [if_pos h2]
    exact ⟨fun h=>by omega,fun h=>by omega⟩
   ·rw [if_neg h2,Ais]
    exact ⟨fun h=>⟨by omega,h⟩,fun h=>h.2⟩
theorem Axf: ∀(a b:List Int),Bx b a= -Bx a b
 | [],[]=>by simp [Bx]
 | [],_::_=>by simp [Bx]
 |_::_,[]=>by simp [Bx]
 |x::a,y::b=>by
  simp only [Bx]
  rcases Int.lt_trichotomy x y with h1|h1|h1
  ·simp [h1,show ¬y<x by omega]
  ·subst h1
   simp [Axf a b]
  ·simp [h1,show ¬x<y by omega]
theorem Ame: ∀ {a b c:List Int},Bx a b<0→Bx b c<0→Bx a c<0
 | [],[],_,h,_=>by simp [Bx] at h
 |_::_,[],_,h,_=>by simp [Bx] at h
 |_,_::_,[],_,h=>by simp [Bx] at h
 | [],_::_,_::_,_,_=>by simp [Bx]
 |x::a,y::b,z::c,h1,h2=>by
  simp only [Bx] at h1 h2⊢
  by_cases e1:x<y
  ·by_cases e2:y<z
   ·rw [if_pos (by omega)];omega
   ·rw [if_neg e2] at h2
    by_cases e3:y>z
    ·rw [if_pos e3] at h2;omega
    ·rw [if_pos (by omega)];omega
  ·rw [if_neg e1] at h1
   by_cases e2:x>y
   ·rw [if_pos e2] at h1;omega
   ·rw [if_neg e2] at h1
    by_cases e3:y<z
    ·rw [if_pos (by omega)];omega
    ·rw [if_neg e3] at h2
     by_cases e4:y>z
     ·rw [if_pos e4] at h2;omega
     ·rw [if_neg e4] at h2
      rw [if_neg (by omega),if_neg (by omega)]
      exact Ame h1 h2
theorem lt_iff {a b:List Int} :Vu a b=true↔Bx a b<0:=decide_eq_true_iff
theorem Ayk {a b c:List Int} (h1:Vu a b=true) (h2:Vu b c=true):Vu a c=true:=lt_iff.2 (Ame (lt_iff.1 h1) (lt_iff.1 h2))
theorem Acm (a:List Int):Vu a a=false:=by
 have:Bx a a=0:=Ais.2 rfl
 unfold Vu;rw [this];rfl
theorem Bav {a b:List Int} (h:Vu a b=false) (hne:a≠b):Vu b a=true:=by
 rw [lt_iff,Axf a b]
 have h1: ¬Bx a b<0:=fun h'=>by rw [lt_iff.2 h'] at h;cases h
 have h2:Bx a b≠0:=fun h'=>hne (Ais.1 h')
 omega
theorem Abp {α:Type} (q:α→Bool): ∀(l:List α),l.Pairwise (fun i j=>q j=true→q i=true)→ ∀k (hk:k<l.length),k<(l.takeWhile q).length↔q l[k]=true
 | [],_,k,hk=>by simp at hk
 |a::l,h,k,hk=>by
  obtain ⟨h1,h2⟩:=List.pairwise_cons.1 h
  by_cases ha:q a=true
  ·rw [List.takeWhile_cons_of_pos ha]
   rcases k with _|k
   ·simpa using ha
   ·simp only [List.length_cons,List.getElem_cons_succ,Nat.add_lt_add_iff_right]
    exact Abp q l h2 k (by simpa using hk)
  ·rw [List.takeWhile_cons_of_neg ha]
   simp only [List.length_nil,Nat.not_lt_zero,false_iff]
   rcases k with _|k
   ·exact ha
   ·simp only [List.getElem_cons_succ]
    exact fun hq=>ha (h1 _ (List.getElem_mem _) hq)
theorem Cu.Aje {m:Nat} {L:List (List Int)} {srt:List Int} (h:Cu m L srt):srt.length=L.length:=by rw [h.perm.length_eq,Rn]
theorem Cu.idx {m:Nat} {L:List (List Int)} {srt:List Int} (h:Cu m L srt) {k:Nat} (hk:k<srt.length):0≤srt[k]∧srt[k]<L.length:=Iq.1 (h.perm.mem_iff.1 (List.getElem_mem hk))
theorem Cu.Up {m:Nat} {L:List (List Int)} {srt:List Int} (h:Cu m L srt) (s:List Int) {k:Nat} (hk:k<srt.length):k<Cn L srt s↔Vu (L.getD srt[k].toNat []) s=true:=
 Abp _ srt (h.sorted.imp fun hij hj=>Ayk hij hj) k hk
theorem Axv (L:List (List Int)) (srt s:List Int):Cn L srt s≤srt.length:=(List.takeWhile_sublist _).length_le
theorem Cu.inj {m:Nat} {L:List (List Int)} {srt:List Int} (h:Cu m L srt) {i j:Nat} (hi:i<L.length) (hj:j<L.length) (e:L[i]=L[j]):i=j:=by
 have mem: ∀i,i<L.length→(i:Int)∈srt:=fun i hi=>h.perm.mem_iff.2 (Iq.2 ⟨by omega,by omega⟩)
 obtain ⟨p,hp,ep⟩:=List.mem_iff_getElem.1 (mem i hi)
 obtain ⟨q,hq,eq⟩:=List.mem_iff_getElem.1 (mem j hj)
 have get: ∀i (hi:i<L.length),L.getD ((i:Int)).toNat []=L[i]:=fun i hi=>by rw [Int.toNat_natCast,List.getD_eq_getElem?_getD,List.getElem?_eq_getElem hi];rfl
 rcases Nat.lt_trichotomy p q with h1|h1|h1
 ·have:=List.pairwise_iff_getElem.1 h.sorted p q hp hq h1
  rw [ep,eq,get i hi,get j hj,e,Acm] at this
  cases this
 ·subst h1
  rw [ep] at eq
  omega
 ·have:=List.pairwise_iff_getElem.1 h.sorted q p hq hp h1
  rw [ep,eq,get i hi,get j hj,e,Acm] at this
  cases this
theorem Md {L:List (List Int)} {k:Nat} (h:k<L.length):L.getD k []=L[k]:=by rw [List.getD_eq_getElem?_getD,List.getElem?_eq_getElem h];rfl
theorem Cu.Ao3 {m:Nat} {L:List (List Int)} {srt:List Int} (h:Cu m L srt) {s:List Int} :
  (∃hk:Cn L srt s<srt.length,L.getD srt[Cn L srt s].toNat []=s∧Agz L s=srt[Cn L srt s])∨(Agz L s= -1∧ ∀hk:Cn L srt s<srt.length,L.getD srt[Cn L srt s].toNat []≠s):=by
 by_cases hm:s∈L
 ·left
  obtain ⟨j,hj,rfl⟩:=List.mem_iff_getElem.1 hm
  obtain ⟨p,hp,ep⟩:=List.mem_iff_getElem.1 (h.perm.mem_iff.2 (Iq.2 ⟨by omega,by omega⟩):(j:Int)∈srt)
  have gj:L.getD srt[p].toNat []=L[j]:=by rw [ep,Int.toNat_natCast,Md hj]
  have hs:Cn L srt L[j]=p:=by
   have h1: ¬p<Cn L srt L[j]:=fun h1=>by
    have:=(h.Up L[j] hp).1 h1
    rw [gj,Acm] at this;cases this
   have h2: ¬Cn L srt L[j]<p:=fun h2=>by
    have h3:=(h.Up L[j] (k:=Cn L srt L[j]) (by omega)).2 (by
     have:=List.pairwise_iff_getElem.1 h.sorted (Cn L srt L[j]) p (by omega) hp h2
     rw [gj] at this;exact this)
    omega
   omega
  have hx:L.idxOf L[j]=j:=by
   have h1:L.idxOf L[j]<L.length:=List.idxOf_lt_length_of_mem hm
   exact h.inj h1 hj (List.getElem_idxOf h1)
  refine ⟨by omega,?_,?_⟩
  ·simp only [hs];exact gj
  ·unfold Agz
   rw [if_pos hm,hx]
   simp only [hs];exact ep.symm
 ·right
  refine ⟨by unfold Agz;rw [if_neg hm],fun hk e=>hm ?_⟩
  have hi:=h.idx hk
  rw [Md (by omega)] at e
  rw [←e]
  exact List.getElem_mem _
theorem Bam (srt:List Int) (k:Nat) (x:Int):(Mt srt k x).Perm (x::srt):=by
 unfold Mt
 refine List.perm_middle.trans (List.Perm.cons x ?_)
 rw [List.take_append_drop]
theorem Cu.add {m:Nat} {L:List (List Int)} {srt s:List Int} (h:Cu m L srt) (hn:s∉L) (hl:s.length=m) (hr:L.length<3000):Cu m (L++ [s]) (Mt srt (Cn L srt s) L.length):=by
 have get1: ∀i∈srt,(L++ [s]).getD i.toNat []=L.getD i.toNat []:=fun i hi=>by
  have:=Iq.1 (h.perm.mem_iff.1 hi)
  rw [List.getD_eq_getElem?_getD,List.getD_eq_getElem?_getD,List.getElem?_append_left (by omega)]
 have get2:(L++ [s]).getD ((L.length:Int)).toNat []=s:=by
  rw [Int.toNat_natCast,List.getD_eq_getElem?_getD,List.getElem?_append_right (by omega),Nat.sub_self];rfl
 refine ⟨by rw [List.length_append,List.length_singleton];omega,fun x hx=>?_,h.short,?_,?_⟩
 ·rcases List.mem_append.1 hx with hx|hx
  ·exact h.len x hx
  ·rw [List.mem_singleton.1 hx];exact hl
 ·refine (Bam _ _ _).trans ?_
  rw [List.length_append,List.length_singleton,Uw]
  exact (List.Perm.cons _ h.perm).trans (List.perm_append_singleton _ _).symm
 ·unfold Mt
  have hs:=h.sorted
  rw [←List.take_append_drop (Cn L srt s) srt] at hs
  obtain ⟨s1,s2,s3⟩:=List.pairwise_append.1 hs
  have mt: ∀i∈srt.take (Cn L srt s),i∈srt∧Vu (L.getD i.toNat []) s=true:=fun i hi=>by
   obtain ⟨k,hk,rfl⟩:=List.mem_iff_getElem.1 hi
   have hk2:k<Cn L srt s:=by rw [List.length_take] at hk;omega
   have hk3:k<srt.length:=by rw [List.length_take] at hk;omega
   rw [List.getElem_take]
   exact ⟨List.getElem_mem _,(h.Up s hk3).1 hk2⟩
  have md: ∀i∈srt.drop (Cn L srt s),i∈srt∧Vu s (L.getD i.toNat [])=true:=fun i hi=>by
   obtain ⟨k,hk,rfl⟩:=List.mem_iff_getElem.1 hi
   rw [List.length_drop] at hk
   have hk3:Cn L srt s+k<srt.length:=by omega
   rw [List.getElem_drop]
   refine ⟨List.getElem_mem _,Bav ?_ fun e=>hn ?_⟩
   ·exact Bool.eq_false_iff.2 fun hh=>by
     have:=(h.Up s hk3).2 hh
     omega
   ·have hi:=h.idx hk3
    rw [Md (by omega)] at e
    rw [←e];exact List.getElem_mem _
  refine List.pairwise_append.2 ⟨s1.imp_of_mem fun {a b} ha hb hab=>?_,List.pairwise_cons.2 ⟨fun b hb=>?_,s2.imp_of_mem fun {a b} ha hb hab=>?_⟩,fun a ha b hb=>?_⟩
  ·rw [get1 a (mt a ha).1,get1 b (mt b hb).1];exact hab
  ·rw [get2,get1 b (md b hb).1];exact (md b hb).2
  ·rw [get1 a (md a ha).1,get1 b (md b hb).1];exact hab
  ·rcases List.mem_cons.1 hb with rfl|hb
   ·rw [get2,get1 a (mt a ha).1];exact (mt a ha).2
   ·rw [get1 a (mt a ha).1,get1 b (md b hb).1];exact s3 a ha b hb
theorem Wm (L:List (List Int)) (s:List Int):Sm (L++ [s])=Mt (Sm L) (Cn L (Sm L) s) L.length:=by
 unfold Sm
 rw [List.length_append,List.length_singleton,List.range_succ,List.foldl_append]
 have e: ∀(is:List Nat) (S:List Int),(∀i∈is,i<L.length)→is.foldl (fun (S:List Int) (i:Nat)=>Mt S (Cn ((L++ [s]).take i) S ((L++ [s]).getD i [])) (i:Int)) S=is.foldl (fun (S:List Int) (i:Nat)=>Mt S (Cn (L.take i) S (L.getD i [])) (i:Int)) S:=by
  intro is
  induction is with
  |nil=>intro S _;rfl
  |cons i is ih=>
   intro S h
   have hi:=h i (by simp)
   rw [List.foldl_cons,List.foldl_cons,ih _ fun j hj=>h j (List.mem_cons_of_mem _ hj)]
   congr 2
   rw [List.take_append_of_le_length (by omega),List.getD_eq_getElem?_getD,List.getElem?_append_left hi,←List.getD_eq_getElem?_getD]
 rw [e _ _ fun i hi=>List.mem_range.1 hi]
 simp only [List.foldl_cons,List.foldl_nil]
 congr 2
 ·rw [List.take_append_of_le_length (Nat.le_refl _),List.take_length]
 ·rw [List.getD_eq_getElem?_getD,List.getElem?_append_right (by omega),Nat.sub_self];rfl
theorem Aek {m:Nat} (h:m≤20):Cu m [] []:=⟨by simp,fun x hx=>(by cases hx),h,by simp [upto],List.Pairwise.nil⟩
theorem Bak {α:Type} {xs:List α} {y:Int} (h0:0≤y) (h:y.toNat<xs.length):idx xs y=some xs[y.toNat]:=by
 unfold idx
 rw [if_pos h0,List.getElem?_eq_getElem h]
theorem Bea (f:SS) (s:List Int) (h:Cu s.length f.1 f.2.2.1):fnW tab (look [(135,No)]) Wl Try.f119 (f,s,()) (fun (z:Int)=>z=(Cn f.1 f.2.2.1 s:Int)):=by
 obtain ⟨L,D,srt,b,⟨⟩⟩:=f
 dsimp only at h⊢
 have hle:=Axv L srt s
 have hl2:=h.Aje
 have hfew:=h.few
 refine Eq.mp (Bep (L,D,srt,b,()) s _) ?_
 refine Cc.mk (fun v=>v.2.2.1=L∧v.2.2.2.2.1=srt∧ ∃lo hi:Nat,v.1=lo∧v.2.1=hi∧lo≤hi∧hi≤srt.length∧lo≤Cn L srt s∧Cn L srt s≤hi) (fun v=>(v.2.1-v.1).toNat)
  ⟨rfl,rfl,0,srt.length,rfl,rfl,by omega,by omega,by omega,hle⟩ ?_
 rintro ⟨lo',hi',L',D',srt',b',⟨⟩⟩ ⟨h1,h2,lo,hi,h3,h4,h5,h6,h7,h8⟩
 dsimp only at h1 h2 h3 h4⊢
 subst h1 h2 h3 h4
 refine Br.dec (fun hl=>?_) fun hl=>?_
 ·have em:IntKind.i64.wrap ((IntKind.i64.wrap ((lo:Int)+(hi:Int))).tdiv 2)=(((lo+hi)/2:Nat):Int):=by
   rw [Bu (n:=(lo:Int)+(hi:Int)) (by omega) (by omega),Int.tdiv_eq_ediv_of_nonneg (by omega),Bu (by omega) (by omega)]
   omega
  rw [em]
  have hm1:(lo+hi)/2<srt'.length:=by omega
  have hi1:=h.idx hm1
  have hi2:srt'[(lo+hi)/2].toNat<L'.length:=by omega
  have hgd:=Md hi2
  have hlen:=h.len _ (List.getElem_mem hi2)
  have hsh:short L'[srt'[(lo+hi)/2].toNat]:=by
   unfold short
   have:=h.short;omega
  refine ⟨by decide,_,Az hm1,_,Bak hi1.1 hi2,_,if_pos ⟨hsh,hlen⟩,⟨fun hc=>?_,fun hc=>?_⟩⟩
  ·have hc:Vu L'[srt'[(lo+hi)/2].toNat] s=true:=hc
   have hs:=(h.Up s hm1).2 (by rw [hgd];exact hc)
   rw [Ap (by omega)]
   exact ⟨⟨rfl,rfl,(lo+hi)/2+1,hi,rfl,rfl,by omega,h6,by omega,h8⟩,by omega⟩
  ·have hc:Vu L'[srt'[(lo+hi)/2].toNat] s=false:=hc
   have hs: ¬(lo+hi)/2<Cn L' srt' s:=fun hh=>by
    have:=(h.Up s hm1).1 hh
    rw [hgd,hc] at this;cases this
   exact ⟨⟨rfl,rfl,lo,(lo+hi)/2,rfl,rfl,by omega,by omega,h7,by omega⟩,by omega⟩
 ·show (lo:Int)=_
  omega
theorem Akg:Sound Try.prog 119 Wl:=
 Sound.mkS Ch (Ag Akf Ar) mixed Try.func119 (by kernel_rfl) (by kernel_rfl) fun x h=>Bea x.1 x.2.1 h
theorem Bb9 (f:SS) (s:List Int) (h:Cu s.length f.1 f.2.2.1):fnW tab (look [(119,Wl),(59,Dh)]) Uo Try.f69 (f,s,()) (fun (z:Int)=>z=Agz f.1 s):=by
 obtain ⟨L,D,srt,b,⟨⟩⟩:=f
 dsimp only at h⊢
 refine Eq.mp (Bc8 (L,D,srt,b,()) s _) ⟨_,if_pos h,Br.dec (fun hl=>?_) fun hl=>?_⟩
 ·have hl:Cn L srt s<srt.length:=by
   have hl:((Cn L srt s:Nat):Int)<(srt.length:Int):=hl
   omega
  have hi1:=h.idx hl
  have hi2:srt[Cn L srt s].toNat<L.length:=by omega
  have hgd:=Md hi2
  have hlen:=h.len _ (List.getElem_mem hi2)
  have hsh:short L[srt[Cn L srt s].toNat]:=by
   unfold short
   have:=h.short;omega
  refine ⟨_,Az hl,_,Bak hi1.1 hi2,_,if_pos hsh,⟨fun hc=>⟨_,Az hl,?_⟩,fun hc=>?_⟩⟩
  ·have hc:L[srt[Cn L srt s].toNat]=s:=of_decide_eq_true hc
   rcases h.Ao3 (s:=s) with ⟨hk,_,e⟩|⟨_,hne⟩
   ·exact e.symm
   ·exact absurd (by rw [hgd];exact hc) (hne hl)
  ·have hc: ¬L[srt[Cn L srt s].toNat]=s:=of_decide_eq_false hc
   rcases h.Ao3 (s:=s) with ⟨hk,e,_⟩|⟨e,_⟩
   ·rw [hgd] at e;exact absurd e hc
   ·exact e.symm
 ·have hl: ¬Cn L srt s<srt.length:=by
   have hl: ¬((Cn L srt s:Nat):Int)<(srt.length:Int):=hl
   omega
  rcases h.Ao3 (s:=s) with ⟨hk,e,_⟩|⟨e,_⟩
  ·exact absurd hk hl
  ·exact e.symm
theorem Aq5:Sound Try.prog 69 Uo:=
 Sound.mkS Ch (Ag Akg (Ag Ahp Ar)) mixed Try.func69 (by kernel_rfl) (by kernel_rfl) fun x h=>Bb9 x.1 x.2.1 h
theorem Avc {S:List Int} {k:Nat} (h:k≤S.length) (n:Int):
  (Bk (S++ [0]) (k+1) (List.take ((S++ [0]).length-(k+1)) (List.take ((S++ [0]).length-k) (List.drop k (S++ [0]))))).set k n=Mt S k n:=by
 obtain ⟨A,B,rfl,hA⟩: ∃A B,S=A++B∧A.length=k:=⟨S.take k,S.drop k,(List.take_append_drop k S).symm,by rw [List.length_take];omega⟩
 subst hA
 have e1:List.drop A.length (A++B++ [0])=B++ [0]:=by rw [List.append_assoc,List.drop_left]
 have e2:List.take ((A++B++ [0]).length-A.length) (B++ [0])=B++ [0]:=List.take_of_length_le (by simp only [List.length_append,List.length_singleton];omega)
 have e3:List.take ((A++B++ [0]).length-(A.length+1)) (B++ [0])=B:=by
  have:(A++B++ [(0:Int)]).length-(A.length+1)=B.length:=by simp only [List.length_append,List.length_singleton];omega
  rw [this,List.take_left]
 rw [e1,e2,e3]
 unfold Bk Mt
 have e4:List.drop (A.length+1+B.length) (A++B++ [0])= []:=List.drop_eq_nil_of_le (by simp only [List.length_append,List.length_singleton];omega)
 obtain ⟨c,hc⟩: ∃c,List.take (A.length+1) (A++B++ [0])=A++ [c]:=by
  rw [List.append_assoc,List.take_append,List.take_of_length_le (by omega)]
  cases B with
  |nil=>exact ⟨0,by simp⟩
  |cons b B=>exact ⟨b,by simp⟩
 rw [e4,hc,List.append_nil,List.append_assoc,List.singleton_append,Bcz,List.take_left,List.drop_left]
theorem Be9 (L:List (List Int)) (D S:List Int) (b:Bool) (s:List Int) (d:Int) (h:Cu s.length L S∧D.length≤3000):
  Lf Rr (look [(119,Wl)]) Acu Try.f151 (L,D,S,b,s,d,()) (fun (z:(List (List Int)×List Int×List Int×Bool×Unit)×Unit)=>z=((L++ [s],D++ [d],Mt S (Cn L S s) L.length,b,()),())):=by
 obtain ⟨h,hD⟩:=h
 have hle:=Axv L S s
 have hl2:=h.Aje
 have hfew:=h.few
 refine Eq.mp (Beo L D S b s d _) ?_
 rw [Bn L,Bn D,Bn S]
 refine ⟨_,if_pos h,?_⟩
 dsimp only
 have es:List.take 1 (List.drop 0 [(0:Int)])= [0]:=rfl
 have el:(S++ [(0:Int)]).length=S.length+1:=by simp
 rw [es,Ap (by omega),Nat.zero_add,Nat.zero_add,Int.toNat_natCast,Int.toNat_natCast,Int.toNat_natCast]
 refine ⟨rfl,rfl,by show S.length+1≤4294967296;omega,⟨by omega,by omega,by omega⟩,⟨by omega,by omega,by omega⟩,⟨by omega,by omega⟩,?_,rfl,rfl,by show L.length+1≤4294967296;omega,rfl,rfl,by show D.length+1≤4294967296;omega,?_⟩
 ·unfold Bk
  simp only [List.length_append,List.length_take,List.length_drop,List.length_singleton]
  omega
 ·rw [Avc hle,Bn,Bn]
  have e5:List.take (S++ [(0:Int)]).length (List.drop 0 (Mt S (Cn L S s) (L.length:Int)))=Mt S (Cn L S s) (L.length:Int):=by
   rw [List.drop_zero,List.take_of_length_le]
   unfold Mt
   simp only [List.length_append,List.length_cons,List.length_take,List.length_drop,List.length_nil]
   omega
  rw [e5]
  rfl
theorem Awp:Bp Try.prog 151 Acu:=
 Bp.mkM Rl (Ag Akg Ar) mixed Try.func151 (by kernel_rfl) (by kernel_rfl) fun x h=>Be9 x.1 x.2.1 x.2.2.1 x.2.2.2.1 x.2.2.2.2.1 x.2.2.2.2.2.1 h
structure Oz (p:PP) (m:Nat) (L:List (List Int)) (D:List Int):Prop where
 ok:Cu m L (Sm L)
 len:D.length=L.length
 row: ∀x∈L,∀y∈x,0≤y∧y<p.1
 dep: ∀j (h:j<D.length),0≤D[j]∧D[j]≤j
theorem Ap1 {p:PP} (hv:Valid p) {x:List Int} {l:Int} (hx: ∀y∈x,0≤y∧y<p.1) (hl:Fz (List.length p.2.2.1) l):
  (Aa x (Af p.2.2.1 l)).length=x.length∧ ∀y∈Aa x (Af p.2.2.1 l),0≤y∧y<p.1:=by
 obtain ⟨h1,h2⟩:=Afd hv hl
 refine ⟨Rv _ _,fun y hy=>?_⟩
 have:=Arm (n:=(Af p.2.2.1 l).length) (fun z hz=>by have:=hx z hz;omega) h2 y hy
 omega
theorem Oz.add {p:PP} {m:Nat} {L:List (List Int)} {D:List Int} (h:Oz p m L D) {y:List Int} {d:Int} (hn:y∉L) (hl:y.length=m) (hr:L.length<3000) (hy: ∀z∈y,0≤z∧z<p.1) (hd:0≤d∧d≤L.length):Oz p m (L++ [y]) (D++ [d]):=by
 have hlen:=h.len
 refine ⟨by rw [Wm];exact h.ok.add hn hl hr,by simp [hlen],fun x hx=>?_,fun j hj=>?_⟩
 ·rcases List.mem_append.1 hx with hx|hx
  ·exact h.row x hx
  ·rw [List.mem_singleton.1 hx];exact hy
 ·by_cases e:j<D.length
  ·rw [List.getElem_append_left e];exact h.dep j e
  ·simp only [List.length_append,List.length_singleton] at hj
   have:j=D.length:=by omega
   subst this
   rw [List.getElem_append_right (by omega)]
   simp only [Nat.sub_self,List.getElem_cons_zero]
   omega
theorem Aac {p:PP} {s:List Int} (hs:s.length≤20) (hr: ∀y∈s,0≤y∧y<p.1):Oz p s.length [s] [0]:=by
 refine ⟨?_,rfl,fun x hx=>by rw [List.mem_singleton.1 hx];exact hr,fun j hj=>?_⟩
 ·have:=(Aek hs).add (s:=s) (by simp) rfl (by simp)
  have e:Sm [s]=Mt [] (Cn [] [] s) 0:=Wm [] s
  rw [e];exact this
 ·simp only [List.length_singleton] at hj
  have:j=0:=by omega
  subst this
  simp
theorem Amy {L:List (List Int)} {s:List Int} :Agz L s≥0↔s∈L:=by
 unfold Agz
 split
 ·rename_i h;exact ⟨fun _=>h,fun _=>by omega⟩
 ·rename_i h;exact ⟨fun hh=>by omega,fun hh=>absurd hh h⟩
theorem Bcw (p:PP) (s:List Int) (h:Bq p=true∧s.length≤20∧ ∀y∈s,0≤y∧y<p.1):fnW Bej (look [(120,Ie),(151,Acu),(142,Lz),(129,Uk),(69,Uo)]) Cw Try.f105 (p,s,()) (fun (z:SS)=>z=Dr p.2.2.1 s):=by
 obtain ⟨hv,hs,hr⟩:=h
 have hV:=valid hv
 have hfew:=hV.few
 have hb0:=Aac hs hr
 have hsh:short s:=by unfold short;omega
 obtain ⟨ls,hls⟩: ∃ls,Bc (List.length p.2.2.1)=ls:=⟨_,rfl⟩
 refine Eq.mp (Bdf p s _) ⟨_,if_pos hsh,_,if_pos ⟨Aek hs,by show 0≤3000;omega⟩,ls,(if_pos (by show List.length p.2.2.1≤8;exact hfew.2)).trans (congrArg some hls),rfl,rfl,rfl,rfl,rfl,rfl,rfl,rfl,rfl,rfl,rfl,rfl,?_⟩
 have e0:Mt [] (Cn [] [] s) ((([]:List (List Int)).length:Nat):Int)=Sm [s]:=(Wm [] s).symm
 show Cc _ ((0:Int),p.1,p.2.1,p.2.2.1,false,false,[],[],[],[s],[(0:Int)],Mt [] (Cn [] [] s) ((([]:List (List Int)).length:Nat):Int),PUnit.unit)
 rw [e0]
 have hll:ls.length≤16:=by rw [←hls,Kr];omega
 have hmem: ∀l∈ls,Fz (List.length p.2.2.1) l:=fun l hl=>Lt (hls▸hl)
 have hstart:Je p.2.2.1 ls 3001 0 [s] [0]=Eu p.2.2.1 s:=by unfold Eu;rw [hls]
 refine Cc.mk (fun v=>v.2.1=p.1∧v.2.2.1=p.2.1∧v.2.2.2.1=p.2.2.1∧v.2.2.2.2.2.1=false∧ ∃k:Nat,v.1=k∧k≤v.2.2.2.2.2.2.2.2.2.1.length∧
   Oz p s.length v.2.2.2.2.2.2.2.2.2.1 v.2.2.2.2.2.2.2.2.2.2.1∧v.2.2.2.2.2.2.2.2.2.2.2.1=Sm v.2.2.2.2.2.2.2.2.2.1∧
   Je p.2.2.1 ls (3001-k) k v.2.2.2.2.2.2.2.2.2.1 v.2.2.2.2.2.2.2.2.2.2.1=Eu p.2.2.1 s) (fun v=>3001-v.1.toNat)
  ⟨rfl,rfl,rfl,rfl,0,rfl,by simp,hb0,rfl,hstart⟩ ?_
 rintro ⟨k',n1,n2,n3,b0,wh,x1,x2,x3,L0,D0,S0,⟨⟩⟩ ⟨h1,h2,h3,h4,k,h5,h6,h7,h8,h9⟩
 dsimp only at h1 h2 h3 h4 h5 h6 h7 h8 h9
 subst h1 h2 h3 h4 h5 h8
 dsimp only
 have hL0:=h7.ok.few
 have hD0:=h7.len
 refine Br.dec (fun hl=>⟨rfl,rfl,rfl,rfl,rfl,rfl,rfl,rfl,rfl,rfl,rfl,rfl,?_⟩) fun hl=>?_
 ·have hk:k<L0.length:=by omega
  have hkD:k<D0.length:=by omega
  have hx: ∀y∈L0[k],0≤y∧y<p.1:=h7.row _ (List.getElem_mem hk)
  have hxl:L0[k].length=s.length:=h7.ok.len _ (List.getElem_mem hk)
  have hdk:=h7.dep k hkD
  obtain ⟨f,hf⟩: ∃f,3001-k=f+1:=⟨3000-k,by omega⟩
  have hgo: ∀L' D' ok,Gz p.2.2.1 L0[k] D0[k] ls L0 D0=(L',D',ok)→Eu p.2.2.1 s=if ok=true then Je p.2.2.1 ls f (k+1) L' D' else (L',D',false):=by
   intro L' D' ok he
   rw [←h9,hf,Je,if_pos hk,Md hk,List.getD_eq_getElem?_getD,List.getElem?_eq_getElem hkD]
   simp only [Option.getD_some]
   rw [he]
   cases ok<;>rfl
  refine Cc.mk (fun v=>v.2.1=p.1∧v.2.2.1=p.2.1∧v.2.2.2.1=p.2.2.1∧v.2.2.2.2.2.1=false∧ ∃i:Nat,v.1=i∧i≤ls.length∧Oz p s.length v.2.2.2.2.2.2.2.2.2.1 v.2.2.2.2.2.2.2.2.2.2.1∧
    v.2.2.2.2.2.2.2.2.2.2.2.1=Sm v.2.2.2.2.2.2.2.2.2.1∧(∃A,v.2.2.2.2.2.2.2.2.2.1=L0++A)∧(∃A,v.2.2.2.2.2.2.2.2.2.2.1=D0++A)∧
    Gz p.2.2.1 L0[k] D0[k] (ls.drop i) v.2.2.2.2.2.2.2.2.2.1 v.2.2.2.2.2.2.2.2.2.2.1=Gz p.2.2.1 L0[k] D0[k] ls L0 D0) (fun v=>ls.length-v.1.toNat)
   ⟨rfl,rfl,rfl,rfl,0,rfl,Nat.zero_le _,h7,rfl,⟨[],by simp⟩,⟨[],by simp⟩,rfl⟩ ?_
  rintro ⟨i',m1,m2,m3,b1,wh1,y1,y2,y3,L,D,S,⟨⟩⟩ ⟨g1,g2,g3,g4,i,g5,g6,g7,g8,⟨A,g9⟩,⟨A',g10⟩,g11⟩
  dsimp only at g1 g2 g3 g4 g5 g6 g7 g8 g9 g10 g11
  subst g1 g2 g3 g4 g5 g8
  dsimp only
  have hLf:=g7.ok.few
  have hDl:=g7.len
  rw [Bn L,Bn D,Bn (Sm L)]
  refine Br.dec (fun hli=>?_) fun hli=>?_
  ·have hi:i<ls.length:=by omega
   have hkL:k<L.length:=by rw [g9,List.length_append];omega
   have hLk:L[k]=L0[k]:=by simp only [g9];exact List.getElem_append_left hk
   have hkD2:k<D.length:=by rw [hDl];exact hkL
   have hDk:D[k]=D0[k]:=by simp only [g10];exact List.getElem_append_left hkD
   have hlet:=hmem _ (List.getElem_mem hi)
   obtain ⟨nl,nr⟩:=Ap1 hV hx hlet
   rw [List.drop_eq_getElem_cons hi] at g11
   simp only [Gz] at g11
   refine ⟨⟨by omega,by omega⟩,L0[k],by rw [Int.toNat_natCast,Nat.zero_add,List.getElem?_eq_getElem hkL,hLk],_,Az hi,_,if_pos ⟨hv,by show L0[k].length≤20;omega,hx,hlet⟩,?_⟩
   dsimp only
   have hyl:(Aa L0[k] (Af p.2.2.1 ls[i])).length=s.length:=by rw [nl,hxl]
   refine ⟨_,if_pos (by show Cu (Aa L0[k] (Af p.2.2.1 ls[i])).length L (Sm L);rw [hyl];exact g7.ok),Br.dec (fun hin=>?_) fun hin=>?_⟩
   ·have hin:Aa L0[k] (Af p.2.2.1 ls[i])∈L:=Amy.1 hin
    rw [if_pos hin] at g11
    rw [Ap (by omega)]
    exact ⟨rfl,rfl,rfl,rfl,rfl,rfl,rfl,rfl,rfl,rfl,rfl,rfl,⟨rfl,rfl,rfl,rfl,i+1,rfl,hi,g7,rfl,⟨A,g9⟩,⟨A',g10⟩,g11⟩,by omega⟩
   ·have hin:Aa L0[k] (Af p.2.2.1 ls[i])∉L:=fun hh=>hin (Amy.2 hh)
    rw [if_neg hin] at g11
    refine ⟨fun hfull=>?_,fun hfull=>⟨⟨by omega,by omega⟩,D0[k],by rw [Int.toNat_natCast,Nat.zero_add,List.getElem?_eq_getElem hkD2,hDk],rfl,rfl,rfl,rfl,rfl,rfl,?_⟩⟩
    ·have hfull:L.length=3000:=by
      have:(L.length:Int)=3000:=by simpa using hfull
      omega
     rw [if_pos hfull] at g11
     have:=hgo _ _ _ g11.symm
     rw [if_neg (by decide)] at this
     unfold Dr
     rw [this]
    ·have hfull:L.length≠3000:=by
      have:(L.length:Int)≠3000:=by simpa using hfull
      omega
     rw [if_neg hfull] at g11
     rw [Bu (n:=D0[k]+1) (by omega) (by omega)]
     refine ⟨_,if_pos ⟨by show Cu (Aa L0[k] (Af p.2.2.1 ls[i])).length L (Sm L);rw [hyl];exact g7.ok,by show D.length≤3000;omega⟩,?_⟩
     dsimp only
     rw [Ap (by omega),←Wm]
     refine ⟨rfl,rfl,rfl,rfl,rfl,rfl,rfl,rfl,rfl,rfl,rfl,rfl,⟨rfl,rfl,rfl,rfl,i+1,rfl,hi,g7.add hin hyl (by omega) nr ⟨by omega,by omega⟩,rfl,⟨A++ [Aa L0[k] (Af p.2.2.1 ls[i])],by rw [g9,List.append_assoc]⟩,⟨A'++ [D0[k]+1],by rw [g10,List.append_assoc]⟩,g11⟩,by omega⟩
  ·have:i=ls.length:=by omega
   subst this
   rw [List.drop_length,Gz] at g11
   have:=hgo _ _ _ g11.symm
   rw [if_pos rfl] at this
   rw [Ap (by omega)]
   refine ⟨rfl,rfl,rfl,rfl,rfl,rfl,rfl,rfl,rfl,rfl,rfl,rfl,⟨rfl,rfl,rfl,rfl,k+1,rfl,by rw [g9,List.length_append];omega,g7,rfl,?_⟩,by omega⟩
   rw [show 3001-(k+1)=f by omega]
   exact this.symm
 ·have hk:k=L0.length:=by omega
  rw [Bn L0,Bn D0,Bn (Sm L0)]
  obtain ⟨f,hf⟩: ∃f,3001-k=f+1:=⟨3000-k,by omega⟩
  rw [hf,Je,if_neg (by omega)] at h9
  unfold Dr
  rw [←h9]
theorem Atu:Sound Try.prog 105 Cw:=
 Sound.mkS Bek (Ag Zu (Fu Awp (Ag Ahs (Ag Apx (Ag Aq5 Ar))))) mixed Try.func105 (by kernel_rfl) (by kernel_rfl) fun x h=>Bcw x.1 x.2.1 h
end Go.Proofs.Ytebabhocakedaaa

namespace Go.Proofs.Ytebabhocakedaaa
open Go.RowKit
theorem Ad9 {p:PP} (hV:Valid p) {m:Nat} {x:List Int} {d:Int} (hx: ∀y∈x,0≤y∧y<p.1) (hxl:x.length=m): ∀(ls:List Int) (L:List (List Int)) (D:List Int),(∀l∈ls,Fz (List.length p.2.2.1) l)→
  Oz p m L D→(0≤d∧d<L.length)→Oz p m (Gz p.2.2.1 x d ls L D).1 (Gz p.2.2.1 x d ls L D).2.1∧(∃A,(Gz p.2.2.1 x d ls L D).1=L++A)∧(∃A,(Gz p.2.2.1 x d ls L D).2.1=D++A)
 | [],L,D,_,h,_=>⟨h,⟨[],by simp [Gz]⟩,⟨[],by simp [Gz]⟩⟩
 |l::ls,L,D,hl,h,hd=>by
  obtain ⟨n1,n2⟩:=Ap1 hV hx (hl l (by simp))
  have hl': ∀l∈ls,Fz (List.length p.2.2.1) l:=fun l' h'=>hl l' (List.mem_cons_of_mem _ h')
  simp only [Gz]
  split
  ·exact Ad9 hV hx hxl ls L D hl' h hd
  ·rename_i hn
   split
   ·exact ⟨h,⟨[],by simp⟩,⟨[],by simp⟩⟩
   ·rename_i hf
    have hfew:=h.ok.few
    obtain ⟨k1,⟨A,k2⟩,⟨A',k3⟩⟩:=Ad9 hV hx hxl ls (L++ [Aa x (Af p.2.2.1 l)]) (D++ [d+1]) hl' (h.add hn (by rw [n1,hxl]) (by omega) n2 ⟨by omega,by omega⟩) ⟨hd.1,by rw [List.length_append];omega⟩
    exact ⟨k1,⟨_::A,by rw [k2,List.append_assoc];rfl⟩,⟨_::A',by rw [k3,List.append_assoc];rfl⟩⟩
theorem Arb {p:PP} (hV:Valid p) {m:Nat} {ls:List Int} (hl: ∀l∈ls,Fz (List.length p.2.2.1) l): ∀(f k:Nat) (L:List (List Int)) (D:List Int),Oz p m L D→
  Oz p m (Je p.2.2.1 ls f k L D).1 (Je p.2.2.1 ls f k L D).2.1∧(∃A,(Je p.2.2.1 ls f k L D).1=L++A)
 |0,k,L,D,h=>⟨h,⟨[],by simp [Je]⟩⟩
 |f+1,k,L,D,h=>by
  simp only [Je]
  split
  ·rename_i hk
   have hkD:k<D.length:=by rw [h.len];exact hk
   have hd:=h.dep k hkD
   have e:D.getD k 0=D[k]:=by rw [List.getD_eq_getElem?_getD,List.getElem?_eq_getElem hkD];rfl
   rw [Md hk,e]
   obtain ⟨k1,⟨A,k2⟩,_⟩:=Ad9 hV (h.row _ (List.getElem_mem hk)) (h.ok.len _ (List.getElem_mem hk)) (d:=D[k]) ls L D hl h ⟨by omega,by omega⟩
   split
   ·rename_i L' D' he
    rw [he] at k1 k2
    obtain ⟨g1,⟨B,g2⟩⟩:=Arb hV hl f (k+1) L' D' k1
    have k2:L'=L++A:=k2
    exact ⟨g1,⟨A++B,by rw [g2,k2,List.append_assoc]⟩⟩
   ·rename_i L' D' he
    rw [he] at k1 k2
    exact ⟨k1,⟨A,k2⟩⟩
  ·exact ⟨h,⟨[],by simp⟩⟩
theorem Bdt {p:PP} {s:List Int} (hv:Bq p=true) (hs:s.length≤20) (hr: ∀y∈s,0≤y∧y<p.1):Oz p s.length (Eu p.2.2.1 s).1 (Eu p.2.2.1 s).2.1∧ ∃A,(Eu p.2.2.1 s).1=s::A:=
 Arb (valid hv) (fun _ hl=>Lt hl) _ _ _ _ (Aac hs hr)
def Aum (m:ByteArray→Option Bool) (L:List (List Int)):Prop:= ∀q,Qp q→(m (Lq q)).getD false=decide (q∈L)
theorem Aum.add {m:ByteArray→Option Bool} {L:List (List Int)} {y:List Int} (h:Aum m L) (hy:Qp y):Aum (Eo m (Lq y) true) (L++ [y]):=by
 intro q hq
 unfold Eo
 by_cases e:q=y
 ·subst e
  rw [if_pos rfl];simp
 ·rw [if_neg fun hk=>e (key_inj hq hy hk),h q hq]
  simp [e]
end Go.Proofs.Ytebabhocakedaaa
