/-
  Part 38 of the proof that the statement FnExactStatesWithPattern holds.
-/
import Derived.Test.YtebabhocakedaaaCStatesWithPattern36
import Derived.KernelRfl
namespace Go.Proofs.Ytebabhocakedaaa
open Go.RowKit
def Fk (x a b:Int):Bool:=decide (a≤x∧x≤b)
def Zy (n x:Int):Bool:=decide (0≤x∧x≤IntKind.i64.wrap (n-1))
def Dd (a b:List Int):Bool:=decide (a=b)
def Sm (xs:List Int) (x:Int):Bool:=decide (x∈xs)
def short (xs:List Int):Prop:=xs.length≤4294967296
noncomputable abbrev Bd:Spec:=mkS (.pair tI (.pair tI (.pair tI .unit))) .bool false true (fun _=>True) (fun x=>Fk x.1 x.2.1 x.2.2.1)
noncomputable abbrev Jk:Spec:=mkS (.pair tI (.pair tI .unit)) .bool false true (fun _=>True) (fun x=>Zy x.1 x.2.1)
noncomputable abbrev Bk:Spec:=mkS (.pair tL (.pair tL .unit)) .bool false true (fun x=>short x.1) (fun x=>Dd x.1 x.2.1)
noncomputable abbrev Cg:Spec:=mkS (.pair tL (.pair tI .unit)) .bool false true (fun x=>short x.1) (fun x=>Sm x.1 x.2.1)
theorem Ayk (x a b:Int) (P:Bool→Prop):(Br (decide (x≥a)) (P (decide (x≤b))) (P false))=fnW tab (look []) Bd Try.f122 (x,a,b,()) P:=by kernel_rfl
theorem Bas (x a b:Int) (P:Bool→Prop):(Br (decide (x≥a)) (P (decide (x≤b))) (P false))=fnW tab (look []) Bd Try.f108 (x,a,b,()) P:=by kernel_rfl
theorem Aym (n x:Int) (P:Bool→Prop):(∃(y3:Bool),Bd.fn (x,0,IntKind.i64.wrap (n-1),())=some y3∧P y3)=fnW tab (look [(108,Bd)]) Jk Try.f102 (n,x,()) P:=by kernel_rfl
theorem At3 (a b:List Int) (P:Bool→Prop):(Br ((↑a.length:Int) !=(↑b.length:Int)) (P false)
 (Cb
  (fun (v3:Int×PUnit) (k4:Int×PUnit→Prop)=>
   Br (decide (v3.1<(↑a.length:Int))) (∃(y5:Int),idx a v3.1=some y5∧ ∃(y6:Int),idx b v3.1=some y6∧Br (y5 !=y6) (P false) (k4 (IntKind.i64.wrap (v3.1+1),())))
    (P true))
  (0,PUnit.unit)))=fnW tab (look []) Bk Try.f59 (a,b,()) P:=by kernel_rfl
theorem Alg (a b:List Int) (P:Bool→Prop):(Br ((↑a.length:Int) !=(↑b.length:Int)) (P false)
 (Cb
  (fun (v3:Int×PUnit) (k4:Int×PUnit→Prop)=>
   Br (decide (v3.1<(↑a.length:Int))) (∃(y5:Int),idx a v3.1=some y5∧ ∃(y6:Int),idx b v3.1=some y6∧Br (y5 !=y6) (P false) (k4 (IntKind.i64.wrap (v3.1+1),())))
    (P true))
  (0,PUnit.unit)))=fnW tab (look []) Bk Try.f63 (a,b,()) P:=by kernel_rfl
theorem Alb (xs:List Int) (x:Int) (P:Bool→Prop):(Cb
 (fun (v3:Int×PUnit) (k4:Int×PUnit→Prop)=>
  Br (decide (v3.1<(↑xs.length:Int))) (∃(y5:Int),idx xs v3.1=some y5∧Br (y5==x) (P true) (k4 (IntKind.i64.wrap (v3.1+1),()))) (P false))
 (0,PUnit.unit))=fnW tab (look []) Cg Try.f152 (xs,x,()) P:=by kernel_rfl
theorem Axn (x a b:Int) (_:True):fnW tab (look []) Bd Try.f122 (x,a,b,()) (fun (z:Bool)=>z=Fk x a b):=by
 refine Eq.mp (Ayk x a b _) ?_
 refine Br.dec (fun h=>?_) fun h=>?_
 ·have h:a≤x:=h
  simp [Fk,h]
 ·exact (decide_eq_false fun hh=>h hh.1).symm
theorem Nh:Sound Try.prog 122 Bd:=
 Sound.mkS Ca Ba mixed Try.func122 (by kernel_rfl) (by kernel_rfl) fun x h=>Axn x.1 x.2.1 x.2.2.1 h
theorem Azz (x a b:Int) (_:True):fnW tab (look []) Bd Try.f108 (x,a,b,()) (fun (z:Bool)=>z=Fk x a b):=by
 refine Eq.mp (Bas x a b _) ?_
 refine Br.dec (fun h=>?_) fun h=>?_
 ·have h:a≤x:=h
  simp [Fk,h]
 ·exact (decide_eq_false fun hh=>h hh.1).symm
theorem Ly:Sound Try.prog 108 Bd:=
 Sound.mkS Ca Ba mixed Try.func108 (by kernel_rfl) (by kernel_rfl) fun x h=>Azz x.1 x.2.1 x.2.2.1 h
theorem Axp (n x:Int) (_:True):fnW tab (look [(108,Bd)]) Jk Try.f102 (n,x,()) (fun (z:Bool)=>z=Zy n x):=
 Eq.mp (Aym n x _) ⟨_,if_pos trivial,rfl⟩
theorem Aau:Sound Try.prog 102 Jk:=
 Sound.mkS Ca (Ad Ly Ba) mixed Try.func102 (by kernel_rfl) (by kernel_rfl) fun x h=>Axp x.1 x.2.1 h
theorem Akl (xs:List Int) (x:Int) (h:short xs):fnW tab (look []) Cg Try.f152 (xs,x,()) (fun (z:Bool)=>z=Sm xs x):=by
 refine Eq.mp (Alb xs x _) ?_
 unfold short at h
 refine Ao xs.length (fun v=>v.1) (fun j _=>x∉xs.take j) rfl (by simp) ?_
 rintro j ⟨i,⟨⟩⟩ K hj hi hR hK
 dsimp only at hi⊢
 subst hi
 refine Br.dec (fun hl=>?_) fun hl=>?_
 ·have hl:j<xs.length:=by omega
  refine ⟨_,Az hl,⟨fun he=>?_,fun he=>?_⟩⟩
  ·have hm:=List.getElem_mem hl
   simp only [beq_iff_eq] at he
   rw [he] at hm
   exact (decide_eq_true hm).symm
  ·rw [Am (by omega)]
   refine hK hl _ rfl ?_
   simp only [beq_eq_false_iff_ne,ne_eq] at he
   rw [List.take_succ_eq_append_getElem hl]
   simp only [List.mem_append,List.mem_singleton,not_or]
   exact ⟨hR,fun hx=>he hx.symm⟩
 ·have:j=xs.length:=by omega
  subst this
  rw [List.take_length] at hR
  exact (decide_eq_false hR).symm
theorem Rv:Sound Try.prog 152 Cg:=
 Sound.mkS Ca Ba mixed Try.func152 (by kernel_rfl) (by kernel_rfl) fun x h=>Akl x.1 x.2.1 h
theorem Anl (a b:List Int) (hlen:a.length=b.length) (h:short a):
  Cb (fun (v3:Int×PUnit) (k4:Int×PUnit→Prop)=>
   Br (decide (v3.1<(↑a.length:Int))) (∃(y5:Int),idx a v3.1=some y5∧ ∃(y6:Int),idx b v3.1=some y6∧Br (y5 !=y6) (false=Dd a b) (k4 (IntKind.i64.wrap (v3.1+1),())))
    (true=Dd a b))
  (0,PUnit.unit):=by
 unfold short at h
 refine Ao a.length (fun v=>v.1) (fun j _=>a.take j=b.take j) rfl (by simp) ?_
 rintro j ⟨i,⟨⟩⟩ K hj hi hR hK
 dsimp only at hi⊢
 subst hi
 refine Br.dec (fun hl=>?_) fun hl=>?_
 ·have hl1:j<a.length:=by omega
  have hl2:j<b.length:=by omega
  refine ⟨_,Az hl1,_,Az hl2,⟨fun he=>?_,fun he=>?_⟩⟩
  ·simp only [bne_iff_ne,ne_eq] at he
   refine (decide_eq_false fun hab=>he ?_).symm
   subst hab
   rfl
  ·rw [Am (by omega)]
   refine hK hl1 _ rfl ?_
   simp only [bne_eq_false_iff_eq] at he
   rw [List.take_succ_eq_append_getElem hl1,List.take_succ_eq_append_getElem hl2,hR,he]
 ·have hj':j=a.length:=by omega
  subst hj'
  rw [List.take_length,hlen,List.take_length] at hR
  exact (decide_eq_true hR).symm
theorem As0 (a b:List Int) (h:short a):fnW tab (look []) Bk Try.f59 (a,b,()) (fun (z:Bool)=>z=Dd a b):=by
 refine Eq.mp (At3 a b _) ⟨fun hl=>?_,fun hl=>?_⟩
 ·simp only [bne_iff_ne,ne_eq,Int.natCast_inj] at hl
  exact (decide_eq_false fun hab=>hl (by rw [hab])).symm
 ·simp only [bne_eq_false_iff_eq,Int.natCast_inj] at hl
  exact Anl a b hl h
theorem Ws:Sound Try.prog 59 Bk:=
 Sound.mkS Ca Ba mixed Try.func59 (by kernel_rfl) (by kernel_rfl) fun x h=>As0 x.1 x.2.1 h
theorem Akr (a b:List Int) (h:short a):fnW tab (look []) Bk Try.f63 (a,b,()) (fun (z:Bool)=>z=Dd a b):=by
 refine Eq.mp (Alg a b _) ⟨fun hl=>?_,fun hl=>?_⟩
 ·simp only [bne_iff_ne,ne_eq,Int.natCast_inj] at hl
  exact (decide_eq_false fun hab=>hl (by rw [hab])).symm
 ·simp only [bne_eq_false_iff_eq,Int.natCast_inj] at hl
  exact Anl a b hl h
theorem Ae3:Sound Try.prog 63 Bk:=
 Sound.mkS Ca Ba mixed Try.func63 (by kernel_rfl) (by kernel_rfl) fun x h=>Akr x.1 x.2.1 h
end Go.Proofs.Ytebabhocakedaaa

namespace Go.Proofs.Ytebabhocakedaaa
open Go.RowKit
def Hz (xs:List (List Int)):Prop:=xs.length≤4294967296∧ ∀r∈xs,short r
def roomy (room:Int):Prop:=0≤room∧room≤4294967296
def Aex (n:Nat) (room:Int):Int:=if room-n<0 then-1 else room-n
def Adk (xs:List Int) (room:Int):Int:=Aex xs.length room
def Ast:List (List Int)→Int→Int
 | [],room=>room
 |r::rs,room=>if Adk r room<0 then-1 else Ast rs (Adk r room)
def Sn (xs:List (List Int)) (room:Int):Int:=if Aex xs.length room<0 then-1 else Ast xs (Aex xs.length room)
def Aew (a b:List (List Int)):Bool:=decide (a=b)
noncomputable abbrev Amu:Spec:=mkS (.pair tL (.pair tI .unit)) tI false true (fun x=>short x.1∧roomy x.2.1) (fun x=>Adk x.1 x.2.1)
noncomputable abbrev Afc:Spec:=mkS (.pair tLL (.pair tI .unit)) tI false true (fun x=>Hz x.1∧roomy x.2.1) (fun x=>Sn x.1 x.2.1)
noncomputable abbrev Rr:Spec:=mkS (.pair tL .unit) tL false true (fun x=>short x.1) (fun x=>x.1)
noncomputable abbrev Afd:Spec:=mkS (.pair tLL .unit) tLL false true (fun x=>Hz x.1) (fun x=>x.1)
noncomputable abbrev Afa:Spec:=mkS (.pair tLL (.pair tLL .unit)) .bool false true (fun x=>Hz x.1) (fun x=>Aew x.1 x.2.1)
theorem Bdv (xs:List Int) (room:Int) (P:Int→Prop):(Br (decide (IntKind.i64.wrap (room-(↑xs.length:Int))<0)) (P (-1)) (P (IntKind.i64.wrap (room-(↑xs.length:Int)))))=fnW tab (look []) Amu Try.f76 (xs,room,()) P:=by kernel_rfl
theorem Bd3 (xs:List (List Int)) (room:Int) (P:Int→Prop):(Br (decide (IntKind.i64.wrap (room-(↑xs.length:Int))<0)) (P (-1))
 (Cb
  (fun (v3:Int×Int×PUnit) (k4:Int×Int×PUnit→Prop)=>
   Br (decide (v3.2.1<(↑xs.length:Int)))
    (∃(y5:List Int),idx xs v3.2.1=some y5∧ ∃(y6:Int),Amu.fn (y5,v3.1,())=some y6∧Br (decide (y6<0)) (P (-1)) (k4 (y6,IntKind.i64.wrap (v3.2.1+1),()))) (P v3.1))
  (IntKind.i64.wrap (room-(↑xs.length:Int)),0,PUnit.unit)))=fnW tab (look [(76,Amu)]) Afc Try.f33 (xs,room,()) P:=by kernel_rfl
theorem Bdx (xs:List Int) (P:List Int→Prop):((0≤(↑xs.length:Int)∧(↑xs.length:Int)<(↑As:Int)+1)∧
 (↑xs.length:Int)=(↑xs.length:Int)∧
  0=0∧
   (List.replicate (↑xs.length:Int).toNat (Int.ofNat 0)).length=(List.replicate (↑xs.length:Int).toNat (Int.ofNat 0)).length∧
    Cb
     (fun (v2:Int×List Int×PUnit) (k3:Int×List Int×PUnit→Prop)=>
      Br (decide (v2.1<(↑xs.length:Int)))
       (∃(y4:Int),
        idx xs v2.1=some y4∧
         (0≤v2.1∧v2.1<(↑v2.2.1.length:Int))∧
          0+v2.1.toNat<v2.2.1.length∧
           0=0∧v2.2.1.length=(v2.2.1.set (0+v2.1.toNat) y4).length∧k3 (IntKind.i64.wrap (v2.1+1),v2.2.1.set (0+v2.1.toNat) y4,()))
       (P (List.take v2.2.1.length (List.drop 0 v2.2.1))))
     (0,List.replicate (↑xs.length:Int).toNat (Int.ofNat 0),PUnit.unit))=fnW tab (look []) Rr Try.f18 (xs,()) P:=by kernel_rfl
theorem Bd4 (xs:List (List Int)) (P:List (List Int)→Prop):((0≤(↑xs.length:Int)∧(↑xs.length:Int)<(↑As:Int)+1)∧
 (↑xs.length:Int)=(↑xs.length:Int)∧
  0=0∧
   (List.replicate (↑xs.length:Int).toNat ([]:List Int)).length=(List.replicate (↑xs.length:Int).toNat ([]:List Int)).length∧
    Cb
     (fun (v2:Int×List (List Int)×PUnit) (k3:Int×List (List Int)×PUnit→Prop)=>
      Br (decide (v2.1<(↑xs.length:Int)))
       (∃(y4:List Int),
        idx xs v2.1=some y4∧
         ∃(y5:List Int),
          Rr.fn (y4,())=some y5∧
           (0≤v2.1∧v2.1<(↑v2.2.1.length:Int))∧
            0+v2.1.toNat<v2.2.1.length∧
             0=0∧v2.2.1.length=(v2.2.1.set (0+v2.1.toNat) y5).length∧k3 (IntKind.i64.wrap (v2.1+1),v2.2.1.set (0+v2.1.toNat) y5,()))
       (P (List.take v2.2.1.length (List.drop 0 v2.2.1))))
     (0,List.replicate (↑xs.length:Int).toNat ([]:List Int),PUnit.unit))=fnW tab (look [(18,Rr)]) Afd Try.f35 (xs,()) P:=by kernel_rfl
theorem Bdr (a b:List Int) (P:Bool→Prop):(Br ((↑a.length:Int) !=(↑b.length:Int)) (P false)
 (Cb
  (fun (v3:Int×PUnit) (k4:Int×PUnit→Prop)=>
   Br (decide (v3.1<(↑a.length:Int))) (∃(y5:Int),idx a v3.1=some y5∧ ∃(y6:Int),idx b v3.1=some y6∧Br (y5 !=y6) (P false) (k4 (IntKind.i64.wrap (v3.1+1),())))
    (P true))
  (0,PUnit.unit)))=fnW tab (look []) Bk Try.f21 (a,b,()) P:=by kernel_rfl
theorem Bcz (a b:List (List Int)) (P:Bool→Prop):(Br ((↑a.length:Int) !=(↑b.length:Int)) (P false)
 (Cb
  (fun (v3:Int×PUnit) (k4:Int×PUnit→Prop)=>
   Br (decide (v3.1<(↑a.length:Int)))
    (∃(y5:List Int),
     idx a v3.1=some y5∧ ∃(y6:List Int),idx b v3.1=some y6∧ ∃(y7:Bool),Bk.fn (y5,y6,())=some y7∧Br (!y7) (P false) (k4 (IntKind.i64.wrap (v3.1+1),())))
    (P true))
  (0,PUnit.unit)))=fnW tab (look [(21,Bk)]) Afa Try.f37 (a,b,()) P:=by kernel_rfl
theorem Axe {n:Nat} {room:Int} (h:roomy room) (h2: ¬Aex n room<0):roomy (Aex n room):=by
 unfold Aex roomy at*
 split at h2<;>simp_all
 omega
theorem Bdh (xs:List Int) (room:Int) (h:short xs∧roomy room):fnW tab (look []) Amu Try.f76 (xs,room,()) (fun (z:Int)=>z=Adk xs room):=by
 obtain ⟨h1,h2,h3⟩:=h
 unfold short at h1
 refine Eq.mp (Bdv xs room _) ?_
 rw [Bz (by omega) (by omega)]
 refine Br.dec (fun h=>?_) fun h=>?_
 ·simp only [Adk,Aex,if_pos h]
 ·simp only [Adk,Aex,if_neg h]
theorem Ay9:Sound Try.prog 76 Amu:=
 Sound.mkS Ca Ba mixed Try.func76 (by kernel_rfl) (by kernel_rfl) fun x h=>Bdh x.1 x.2.1 h
theorem Bcq (xs:List (List Int)) (room:Int) (h:Hz xs∧roomy room):fnW tab (look [(76,Amu)]) Afc Try.f33 (xs,room,()) (fun (z:Int)=>z=Sn xs room):=by
 obtain ⟨⟨h1,h4⟩,h2,h3⟩:=h
 refine Eq.mp (Bd3 xs room _) ?_
 rw [Bz (by omega) (by omega)]
 refine Br.dec (fun h=>?_) fun h=>?_
 ·simp only [Sn,Aex,if_pos h];rfl
 ·refine Ao xs.length (fun v=>v.2.1) (fun j v=>roomy v.1∧Ast (xs.drop j) v.1=Sn xs room) rfl ?_ ?_
  ·refine ⟨by unfold roomy;omega,?_⟩
   simp only [Sn,Aex,if_neg h,List.drop_zero]
  ·rintro j ⟨r,i,⟨⟩⟩ K hj hi ⟨hr,hR⟩ hK
   dsimp only at hi hr hR⊢
   subst hi
   refine Br.dec (fun hl=>?_) fun hl=>?_
   ·have hl:j<xs.length:=by omega
    have hd:xs.drop j=xs[j]::xs.drop (j+1):=List.drop_eq_getElem_cons hl
    refine ⟨_,Az hl,_,if_pos ⟨h4 _ (List.getElem_mem hl),hr⟩,?_⟩
    rw [hd] at hR
    simp only [Ast] at hR
    refine Br.dec (fun hn=>?_) fun hn=>?_
    ·have hn:Adk xs[j] r<0:=hn
     rw [if_pos hn] at hR
     exact hR
    ·have hn: ¬Adk xs[j] r<0:=hn
     rw [if_neg hn] at hR
     rw [Am (by omega)]
     exact hK hl _ rfl ⟨Axe hr hn,hR⟩
   ·have:j=xs.length:=by omega
    subst this
    rw [List.drop_length] at hR
    exact hR
theorem Avk:Sound Try.prog 33 Afc:=
 Sound.mkS Ca (Ad Ay9 Ba) mixed Try.func33 (by kernel_rfl) (by kernel_rfl) fun x h=>Bcq x.1 x.2.1 h
theorem Ni {α:Type} {ys xs:List α} {j:Nat} (h:j<xs.length) (hl:ys.length=xs.length) (ht:ys.take j=xs.take j):(ys.set j xs[j]).take (j+1)=xs.take (j+1):=by
 have h1:j<(ys.set j xs[j]).length:=by rw [List.length_set];omega
 rw [List.take_succ_eq_append_getElem h1,List.take_succ_eq_append_getElem h,List.getElem_set_self,List.take_set_of_le (Nat.le_refl j),ht]
theorem Bdj (xs:List Int) (h:short xs):fnW tab (look []) Rr Try.f18 (xs,()) (fun (z:List Int)=>z=xs):=by
 unfold short at h
 refine Eq.mp (Bdx xs _) ?_
 refine ⟨⟨by omega,by show (xs.length:Int)<(4294967296:Int)+1;omega⟩,rfl,rfl,rfl,?_⟩
 refine Ao xs.length (fun v=>v.1) (fun j v=>v.2.1.length=xs.length∧v.2.1.take j=xs.take j) rfl ⟨by simp,by simp⟩ ?_
 rintro j ⟨i,ys,⟨⟩⟩ K hj hi ⟨h1,h2⟩ hK
 dsimp only at hi h1 h2⊢
 subst hi
 refine Br.dec (fun hl=>?_) fun hl=>?_
 ·have hl:j<xs.length:=by omega
  refine ⟨_,Az hl,⟨by omega,by omega⟩,by rw [Int.toNat_natCast];omega,rfl,by rw [List.length_set],?_⟩
  rw [Am (by omega),Int.toNat_natCast,Nat.zero_add]
  exact hK hl _ rfl ⟨by rw [List.length_set];exact h1,Ni hl h1 h2⟩
 ·have:j=xs.length:=by omega
  subst this
  rw [List.take_length,←h1,List.take_length] at h2
  rw [List.drop_zero,List.take_length]
  exact h2
theorem An0:Sound Try.prog 18 Rr:=
 Sound.mkS Ca Ba mixed Try.func18 (by kernel_rfl) (by kernel_rfl) fun x h=>Bdj x.1 h
theorem Bcr (xs:List (List Int)) (h:Hz xs):fnW tab (look [(18,Rr)]) Afd Try.f35 (xs,()) (fun (z:List (List Int))=>z=xs):=by
 obtain ⟨h,h4⟩:=h
 refine Eq.mp (Bd4 xs _) ?_
 refine ⟨⟨by omega,by show (xs.length:Int)<(4294967296:Int)+1;omega⟩,rfl,rfl,rfl,?_⟩
 refine Ao xs.length (fun v=>v.1) (fun j v=>v.2.1.length=xs.length∧v.2.1.take j=xs.take j) rfl ⟨by simp,by simp⟩ ?_
 rintro j ⟨i,ys,⟨⟩⟩ K hj hi ⟨h1,h2⟩ hK
 dsimp only at hi h1 h2⊢
 subst hi
 refine Br.dec (fun hl=>?_) fun hl=>?_
 ·have hl:j<xs.length:=by omega
  refine ⟨_,Az hl,_,if_pos (h4 _ (List.getElem_mem hl)),⟨by omega,by omega⟩,by rw [Int.toNat_natCast];omega,rfl,by rw [List.length_set],?_⟩
  rw [Am (by omega),Int.toNat_natCast,Nat.zero_add]
  exact hK hl _ rfl ⟨by rw [List.length_set];exact h1,Ni hl h1 h2⟩
 ·have:j=xs.length:=by omega
  subst this
  rw [List.take_length,←h1,List.take_length] at h2
  rw [List.drop_zero,List.take_length]
  exact h2
theorem Avl:Sound Try.prog 35 Afd:=
 Sound.mkS Ca (Ad An0 Ba) mixed Try.func35 (by kernel_rfl) (by kernel_rfl) fun x h=>Bcr x.1 h
theorem Bdd (a b:List Int) (h:short a):fnW tab (look []) Bk Try.f21 (a,b,()) (fun (z:Bool)=>z=Dd a b):=by
 refine Eq.mp (Bdr a b _) ⟨fun hl=>?_,fun hl=>?_⟩
 ·simp only [bne_iff_ne,ne_eq,Int.natCast_inj] at hl
  exact (decide_eq_false fun hab=>hl (by rw [hab])).symm
 ·simp only [bne_eq_false_iff_eq,Int.natCast_inj] at hl
  exact Anl a b hl h
theorem Amz:Sound Try.prog 21 Bk:=
 Sound.mkS Ca Ba mixed Try.func21 (by kernel_rfl) (by kernel_rfl) fun x h=>Bdd x.1 x.2.1 h
theorem Bcm (a b:List (List Int)) (h:Hz a):fnW tab (look [(21,Bk)]) Afa Try.f37 (a,b,()) (fun (z:Bool)=>z=Aew a b):=by
 obtain ⟨h,h4⟩:=h
 refine Eq.mp (Bcz a b _) ⟨fun hl=>?_,fun hl=>?_⟩
 ·simp only [bne_iff_ne,ne_eq,Int.natCast_inj] at hl
  exact (decide_eq_false fun hab=>hl (by rw [hab])).symm
 ·simp only [bne_eq_false_iff_eq,Int.natCast_inj] at hl
  refine Ao a.length (fun v=>v.1) (fun j _=>a.take j=b.take j) rfl (by simp) ?_
  rintro j ⟨i,⟨⟩⟩ K hj hi hR hK
  dsimp only at hi⊢
  subst hi
  refine Br.dec (fun hlt=>?_) fun hlt=>?_
  ·have hl1:j<a.length:=by omega
   have hl2:j<b.length:=by omega
   refine ⟨_,Az hl1,_,Az hl2,_,if_pos (h4 _ (List.getElem_mem hl1)),⟨fun he=>?_,fun he=>?_⟩⟩
   ·refine (decide_eq_false fun hab=>?_).symm
    subst hab
    simp [Dd] at he
   ·rw [Am (by omega)]
    refine hK hl1 _ rfl ?_
    simp only [Dd,Bool.not_eq_false',decide_eq_true_eq] at he
    rw [List.take_succ_eq_append_getElem hl1,List.take_succ_eq_append_getElem hl2,hR]
    exact congrArg (fun x=>List.take j b++ [x]) he
  ·have hj':j=a.length:=by omega
   subst hj'
   rw [List.take_length,hl,List.take_length] at hR
   exact (decide_eq_true hR).symm
theorem Avi:Sound Try.prog 37 Afa:=
 Sound.mkS Ca (Ad Amz Ba) mixed Try.func37 (by kernel_rfl) (by kernel_rfl) fun x h=>Bcm x.1 x.2.1 h
end Go.Proofs.Ytebabhocakedaaa

namespace Go.Proofs.Ytebabhocakedaaa
open Go.RowKit
def Nc:List Int→Int→Int→Int
 | [],_,_=> -1
 |y::r,x,i=>if y=x then i else Nc r x (i+1)
noncomputable abbrev Aa3:Spec:=mkS (.pair tL (.pair tI .unit)) tI false true (fun x=>short x.1) (fun x=>Nc x.1 x.2.1 0)
def PL (n:Int) (xs:List Int) (k:Nat):Prop:= ∀j (h:j<xs.length),j<k→0≤xs[j]∧xs[j]≤n-1∧(0<j→xs[j-1]<xs[j])
def DL (n:Int) (xs:List Int) (k:Nat):Prop:= ∀j (h:j<xs.length),j<k→0≤xs[j]∧xs[j]≤n-1∧xs[j]∉xs.take j
noncomputable def dec (p:Prop):Bool:= @decide p (Classical.propDecidable p)
theorem Hd {p:Prop} (h:p):true=dec p:=(@decide_eq_true p (Classical.propDecidable p) h).symm
theorem Bb {p:Prop} (h: ¬p):false=dec p:=(@decide_eq_false p (Classical.propDecidable p) h).symm
theorem Fy {p:Prop} :dec p=true↔p:= @decide_eq_true_iff p (Classical.propDecidable p)
theorem Bb0 {p:Prop} :dec p=false↔ ¬p:= @decide_eq_false_iff_not p (Classical.propDecidable p)
def nOK (n:Int):Prop:=0≤n∧n≤4294967296
noncomputable def Nt (n:Int) (xs:List Int):Bool:=dec (0<xs.length∧PL n xs xs.length)
noncomputable def Qm (n:Int) (xs:List Int) (m:Int):Bool:=dec ((xs.length:Int)=m∧DL n xs xs.length)
noncomputable abbrev Eg:Spec:=mkS (.pair tI (.pair tL .unit)) .bool false true (fun x=>nOK x.1∧short x.2.1) (fun x=>Nt x.1 x.2.1)
noncomputable abbrev Mr:Spec:=mkS (.pair tI (.pair tL (.pair tI .unit))) .bool false true (fun x=>nOK x.1∧short x.2.1) (fun x=>Qm x.1 x.2.1 x.2.2.1)
noncomputable abbrev Lg:Spec:=mkS (.pair tI (.pair tI (.pair tL .unit))) .bool false true (fun x=>nOK x.1∧short x.2.2.1) (fun x=>Qm x.1 x.2.2.1 x.2.1)
noncomputable abbrev Aa4:Spec:=mkS (.pair tLL .unit) tI false true (fun _=>True) (fun x=>(List.length x.1:Int))
theorem Bbu (xs:List Int) (x:Int) (P:Int→Prop):(Cb
 (fun (v3:Int×PUnit) (k4:Int×PUnit→Prop)=>
  Br (decide (v3.1<(↑xs.length:Int))) (∃(y5:Int),idx xs v3.1=some y5∧Br (x==y5) (P v3.1) (k4 (IntKind.i64.wrap (v3.1+(1:Int)),()))) (P (-1:Int)))
 ((0:Int),PUnit.unit))=fnW tab (look []) Aa3 Try.f159 (xs,x,()) P:=by kernel_rfl
theorem Avt (xs:List Int) (x:Int) (P:Bool→Prop):(∃(y3:Int),Aa3.fn (xs,x,())=some y3∧P (decide (y3≥(0:Int))))=fnW tab (look [(159,Aa3)]) Cg Try.f126 (xs,x,()) P:=by kernel_rfl
theorem Alf (n:Int) (xs:List Int) (P:Bool→Prop):(∃(y3:Bool),
 Bd.fn ((↑xs.length:Int),(1:Int),n,())=some y3∧
  Br (!y3) (P false)
   (Cb
    (fun (v4:Int×PUnit) (k5:Int×PUnit→Prop)=>
     Br (decide (v4.1<(↑xs.length:Int)))
      (∃(y6:Int),
       idx xs v4.1=some y6∧
        ∃(y7:Bool),
         Bd.fn (y6,(0:Int),IntKind.i64.wrap (n-(1:Int)),())=some y7∧
          Br (!y7) (P false)
           (Br (decide (v4.1>(0:Int)))
            (∃(y8:Int),
             idx xs v4.1=some y8∧
              ∃(y9:Int),idx xs (IntKind.i64.wrap (v4.1-(1:Int)))=some y9∧Br (decide (y8≤y9)) (P false) (k5 (IntKind.i64.wrap (v4.1+(1:Int)),())))
            (k5 (IntKind.i64.wrap (v4.1+(1:Int)),()))))
      (P true))
    ((0:Int),PUnit.unit)))=fnW tab (look [(122,Bd)]) Eg Try.f100 (n,xs,()) P:=by kernel_rfl
theorem At7 (n:Int) (xs:List Int) (P:Bool→Prop):(Cb
 (fun (v3:Int×PUnit) (k4:Int×PUnit→Prop)=>
  Br (decide (v3.1<(↑xs.length:Int)))
   (∃(y5:Int),
    idx xs v3.1=some y5∧
     ∃(y6:Bool),
      Jk.fn (n,y5,())=some y6∧
       Br (!y6) (P false)
        (Br (decide (v3.1>(0:Int)))
         (∃(y7:Int),idx xs (IntKind.i64.wrap (v3.1-(1:Int)))=some y7∧Br (decide (y7≥y5)) (P false) (k4 (IntKind.i64.wrap (v3.1+(1:Int)),())))
         (k4 (IntKind.i64.wrap (v3.1+(1:Int)),()))))
   (P (decide ((↑xs.length:Int)>(0:Int)))))
 ((0:Int),PUnit.unit))=fnW tab (look [(102,Jk)]) Eg Try.f55 (n,xs,()) P:=by kernel_rfl
theorem Afn (n:Int) (xs:List Int) (m:Int) (P:Bool→Prop):(Br ((↑xs.length:Int) !=m) (P false)
 (Cb
  (fun (v4:Int×PUnit) (k5:Int×PUnit→Prop)=>
   Br (decide (v4.1<(↑xs.length:Int)))
    (∃(y6:Int),
     idx xs v4.1=some y6∧
      ∃(y7:Bool),
       Bd.fn (y6,(0:Int),IntKind.i64.wrap (n-(1:Int)),())=some y7∧
        Br (!y7) (P false)
         (((0:Int)≤(0:Int)∧(0:Int)≤v4.1∧v4.1≤(↑xs.length:Int))∧
          ∃(y8:Int),
           idx xs v4.1=some y8∧
            ∃(y9:Bool),
             Cg.fn (List.drop (Int.toNat (0:Int)) (List.take v4.1.toNat xs),y8,())=some y9∧Br y9 (P false) (k5 (IntKind.i64.wrap (v4.1+(1:Int)),()))))
    (P true))
  ((0:Int),PUnit.unit)))=fnW tab (look [(122,Bd),(152,Cg)]) Mr Try.f107 (n,xs,m,()) P:=by kernel_rfl
theorem At6 (n m:Int) (xs:List Int) (P:Bool→Prop):(Cb
 (fun (v4:Int×PUnit) (k5:Int×PUnit→Prop)=>
  Br (decide (v4.1<(↑xs.length:Int)))
   (∃(y6:Int),
    idx xs v4.1=some y6∧
     ∃(y7:Bool),
      Jk.fn (n,y6,())=some y7∧
       Br (!y7) (P false)
        (((0:Int)≤(0:Int)∧(0:Int)≤v4.1∧v4.1≤(↑xs.length:Int))∧
         ∃(y8:Bool),Cg.fn (List.drop (Int.toNat (0:Int)) (List.take v4.1.toNat xs),y6,())=some y8∧Br y8 (P false) (k5 (IntKind.i64.wrap (v4.1+(1:Int)),()))))
   (P ((↑xs.length:Int)==m)))
 ((0:Int),PUnit.unit))=fnW tab (look [(102,Jk),(126,Cg)]) Lg Try.f115 (n,m,xs,()) P:=by kernel_rfl
theorem Bbv (xs:List (List Int)) (P:Int→Prop):(P (↑xs.length:Int))=fnW tab (look []) Aa4 Try.f67 (xs,()) P:=by kernel_rfl
theorem Ag8: ∀(xs:List Int) (x i:Int),0≤i→(Nc xs x i<0↔x∉xs)
 | [],x,i,_=>by simp [Nc]
 |y::r,x,i,h=>by
  simp only [Nc]
  split
  ·rename_i hy;subst hy;simp;omega
  ·rename_i hy
   rw [Ag8 r x (i+1) (by omega)]
   simp only [List.mem_cons,not_or]
   exact ⟨fun h=>⟨fun e=>hy e.symm,h⟩,fun h=>h.2⟩
theorem Bbc (xs:List Int) (x:Int) (h:short xs):fnW tab (look []) Aa3 Try.f159 (xs,x,()) (fun (z:Int)=>z=Nc xs x 0):=by
 unfold short at h
 refine Eq.mp (Bbu xs x _) ?_
 refine Ao xs.length (fun v=>v.1) (fun j _=>Nc (xs.drop j) x j=Nc xs x 0) rfl (by simp) ?_
 rintro j ⟨i,⟨⟩⟩ K hj hi hR hK
 dsimp only at hi⊢
 subst hi
 refine Br.dec (fun hl=>?_) fun hl=>?_
 ·have hl:j<xs.length:=by omega
  rw [List.drop_eq_getElem_cons hl] at hR
  simp only [Nc] at hR
  refine ⟨_,Az hl,⟨fun he=>?_,fun he=>?_⟩⟩
  ·simp only [beq_iff_eq] at he
   rw [if_pos he.symm] at hR
   exact hR
  ·simp only [beq_eq_false_iff_ne,ne_eq] at he
   rw [if_neg (fun e=>he e.symm)] at hR
   rw [Am (by omega)]
   exact hK hl _ rfl (by push_cast;exact hR)
 ·have:j=xs.length:=by omega
  subst this
  rw [List.drop_length] at hR
  exact hR
theorem Asl:Sound Try.prog 159 Aa3:=
 Sound.mkS Ca Ba mixed Try.func159 (by kernel_rfl) (by kernel_rfl) fun x h=>Bbc x.1 x.2.1 h
theorem Aus (xs:List Int) (x:Int) (h:short xs):fnW tab (look [(159,Aa3)]) Cg Try.f126 (xs,x,()) (fun (z:Bool)=>z=Sm xs x):=by
 refine Eq.mp (Avt xs x _) ⟨_,if_pos h,?_⟩
 have:=Ag8 xs x 0 (Int.le_refl 0)
 show decide (Nc xs x 0≥0)=decide (x∈xs)
 by_cases hx:x∈xs
 ·rw [decide_eq_true hx]
  exact decide_eq_true (by have:=mt this.1 (fun h=>h hx);omega)
 ·rw [decide_eq_false hx]
  exact decide_eq_false (by have:=this.2 hx;omega)
theorem Ajk:Sound Try.prog 126 Cg:=
 Sound.mkS Ca (Ad Asl Ba) mixed Try.func126 (by kernel_rfl) (by kernel_rfl) fun x h=>Aus x.1 x.2.1 h
theorem Bbd (xs:List (List Int)) (_:True):fnW tab (look []) Aa4 Try.f67 (xs,()) (fun (z:Int)=>z=(xs.length:Int)):=Eq.mp (Bbv xs _) rfl
theorem Asm:Sound Try.prog 67 Aa4:=
 Sound.mkS Ca Ba mixed Try.func67 (by kernel_rfl) (by kernel_rfl) fun x h=>Bbd x.1 h
theorem Rl {n x:Int} (hn:nOK n):Zy n x=true↔0≤x∧x≤n-1:=by
 unfold Zy nOK at*
 rw [Bz (by omega) (by omega),decide_eq_true_iff]
theorem Bs {x a b:Int} :Fk x a b=true↔a≤x∧x≤b:=decide_eq_true_iff
theorem Cz {b:Bool} (h:(!b)=true): ¬b=true:=by cases b<;>simp_all
theorem Ed {b:Bool} (h:(!b)=false):b=true:=by cases b<;>simp_all
theorem Auz {n:Int} {xs:List Int} (h:PL n xs xs.length): ∀j (hj:j<xs.length),(j:Int)≤xs[j]
 |0,hj=>(h 0 hj hj).1
 |j+1,hj=>by
  have h1:=Auz h j (by omega)
  have h2:=(h (j+1) hj hj).2.2 (by omega)
  simp only [Nat.add_sub_cancel] at h2
  omega
theorem Ahd {n:Int} {xs:List Int} {j:Nat} (hl:j<xs.length) (h:PL n xs j) (h1:0≤xs[j]) (h2:xs[j]≤n-1) (h3:0<j→xs[j-1]<xs[j]):PL n xs (j+1):=by
 intro i hi hij
 by_cases e:i=j
 ·subst e;exact ⟨h1,h2,h3⟩
 ·exact h i hi (by omega)
theorem As4 (n:Int) (xs:List Int) (h:nOK n∧short xs):fnW tab (look [(102,Jk)]) Eg Try.f55 (n,xs,()) (fun (z:Bool)=>z=Nt n xs):=by
 obtain ⟨hn,h⟩:=h
 unfold short at h
 refine Eq.mp (At7 n xs _) ?_
 refine Ao xs.length (fun v=>v.1) (fun j _=>PL n xs j) rfl (fun j _ hj=>absurd hj (Nat.not_lt_zero _)) ?_
 rintro j ⟨i,⟨⟩⟩ K hj hi hR hK
 dsimp only at hi⊢
 subst hi
 refine Br.dec (fun hl=>?_) fun hl=>?_
 ·have hl:j<xs.length:=by omega
  refine ⟨_,Az hl,_,if_pos trivial,⟨fun hp=>?_,fun hp=>?_⟩⟩
  ·have hp:=Cz hp
   rw [Rl hn] at hp
   exact Bb fun hh=>hp ⟨(hh.2 j hl hl).1,(hh.2 j hl hl).2.1⟩
  ·have hp:=Ed hp
   rw [Rl hn] at hp
   refine Br.dec (fun h0=>?_) fun h0=>?_
   ·have h0:0<j:=by omega
    rw [Bz (by omega) (by omega),show (j:Int)-1=((j-1:Nat):Int) by omega]
    refine ⟨_,Az (by omega),Br.dec (fun hg=>?_) fun hg=>?_⟩
    ·exact Bb fun hh=>by have:=(hh.2 j hl hl).2.2 h0;omega
    ·rw [Am (by omega)]
     exact hK hl _ rfl (Ahd hl hR hp.1 hp.2 fun _=>by omega)
   ·have h0:j=0:=by omega
    rw [Am (by omega)]
    exact hK hl _ rfl (Ahd hl hR hp.1 hp.2 fun h=>by omega)
 ·have:j=xs.length:=by omega
  subst this
  by_cases h0:0<xs.length
  ·rw [decide_eq_true (show (xs.length:Int)>0 by omega)];exact Hd ⟨h0,hR⟩
  ·rw [decide_eq_false (show ¬(xs.length:Int)>0 by omega)];exact Bb fun hh=>h0 hh.1
theorem Ah0:Sound Try.prog 55 Eg:=
 Sound.mkS Ca (Ad Aau Ba) mixed Try.func55 (by kernel_rfl) (by kernel_rfl) fun x h=>As4 x.1 x.2.1 h
theorem Akq (n:Int) (xs:List Int) (h:nOK n∧short xs):fnW tab (look [(122,Bd)]) Eg Try.f100 (n,xs,()) (fun (z:Bool)=>z=Nt n xs):=by
 obtain ⟨hn,h⟩:=h
 unfold short at h
 refine Eq.mp (Alf n xs _) ⟨_,if_pos trivial,⟨fun hp=>?_,fun hp=>?_⟩⟩
 ·have hp:=Cz hp
  rw [Bs] at hp
  dsimp only at hp
  refine Bb fun hh=>hp ⟨by omega,?_⟩
  have:=Auz hh.2 (xs.length-1) (by omega)
  have:=(hh.2 (xs.length-1) (by omega) (by omega)).2.1
  omega
 ·have hp:=Ed hp
  rw [Bs] at hp
  dsimp only at hp
  refine Ao xs.length (fun v=>v.1) (fun j _=>PL n xs j) rfl (fun j _ hj=>absurd hj (Nat.not_lt_zero _)) ?_
  rintro j ⟨i,⟨⟩⟩ K hj hi hR hK
  dsimp only at hi⊢
  subst hi
  refine Br.dec (fun hl=>?_) fun hl=>?_
  ·have hl:j<xs.length:=by omega
   refine ⟨_,Az hl,_,if_pos trivial,⟨fun hq=>?_,fun hq=>?_⟩⟩
   ·have hq:=Cz hq
    unfold nOK at hn
    rw [Bs,Bz (by omega) (by omega)] at hq
    exact Bb fun hh=>hq ⟨(hh.2 j hl hl).1,(hh.2 j hl hl).2.1⟩
   ·have hq:=Ed hq
    unfold nOK at hn
    rw [Bs,Bz (by omega) (by omega)] at hq
    refine Br.dec (fun h0=>?_) fun h0=>?_
    ·have h0:0<j:=by omega
     rw [Bz (by omega) (by omega),show (j:Int)-1=((j-1:Nat):Int) by omega]
     refine ⟨_,Az hl,_,Az (by omega),Br.dec (fun hg=>?_) fun hg=>?_⟩
     ·exact Bb fun hh=>by have:=(hh.2 j hl hl).2.2 h0;omega
     ·rw [Am (by omega)]
      exact hK hl _ rfl (Ahd hl hR hq.1 hq.2 fun _=>by omega)
    ·rw [Am (by omega)]
     exact hK hl _ rfl (Ahd hl hR hq.1 hq.2 fun h=>by omega)
  ·have:j=xs.length:=by omega
   subst this
   exact Hd ⟨by omega,hR⟩
theorem Ae2:Sound Try.prog 100 Eg:=
 Sound.mkS Ca (Ad Nh Ba) mixed Try.func100 (by kernel_rfl) (by kernel_rfl) fun x h=>Akq x.1 x.2.1 h
theorem Ank {n:Int} {xs:List Int} {j:Nat} (hl:j<xs.length) (h:DL n xs j) (h1:0≤xs[j]) (h2:xs[j]≤n-1) (h3:xs[j]∉xs.take j):DL n xs (j+1):=by
 intro i hi hij
 by_cases e:i=j
 ·subst e;exact ⟨h1,h2,h3⟩
 ·exact h i hi (by omega)
theorem Ac7 {xs:List Int} (h:short xs) (j:Nat):short (xs.take j):=by
 unfold short at*
 rw [List.length_take]
 omega
theorem Af6 (n:Int) (xs:List Int) (m:Int) (h:nOK n∧short xs):fnW tab (look [(122,Bd),(152,Cg)]) Mr Try.f107 (n,xs,m,()) (fun (z:Bool)=>z=Qm n xs m):=by
 obtain ⟨hn,hs⟩:=h
 have h:=hs
 unfold short at h
 refine Eq.mp (Afn n xs m _) ⟨fun hp=>?_,fun hp=>?_⟩
 ·simp only [bne_iff_ne,ne_eq] at hp
  exact Bb fun hh=>hp hh.1
 ·simp only [bne_eq_false_iff_eq] at hp
  refine Ao xs.length (fun v=>v.1) (fun j _=>DL n xs j) rfl (fun j _ hj=>absurd hj (Nat.not_lt_zero _)) ?_
  rintro j ⟨i,⟨⟩⟩ K hj hi hR hK
  dsimp only at hi⊢
  subst hi
  refine Br.dec (fun hl=>?_) fun hl=>?_
  ·have hl:j<xs.length:=by omega
   refine ⟨_,Az hl,_,if_pos trivial,⟨fun hq=>?_,fun hq=>?_⟩⟩
   ·have hq:=Cz hq
    unfold nOK at hn
    rw [Bs,Bz (by omega) (by omega)] at hq
    exact Bb fun hh=>hq ⟨(hh.2 j hl hl).1,(hh.2 j hl hl).2.1⟩
   ·have hq:=Ed hq
    unfold nOK at hn
    rw [Bs,Bz (by omega) (by omega)] at hq
    refine ⟨⟨by omega,by omega,by omega⟩,_,Az hl,?_⟩
    rw [show (Int.toNat 0)=0 from rfl,List.drop_zero,Int.toNat_natCast]
    refine ⟨_,if_pos (Ac7 hs j),⟨fun hc=>?_,fun hc=>?_⟩⟩
    ·have hc:decide (xs[j]∈xs.take j)=true:=hc
     rw [decide_eq_true_iff] at hc
     exact Bb fun hh=>(hh.2 j hl hl).2.2 hc
    ·have hc:decide (xs[j]∈xs.take j)=false:=hc
     rw [decide_eq_false_iff_not] at hc
     rw [Am (by omega)]
     exact hK hl _ rfl (Ank hl hR hq.1 hq.2 hc)
  ·have:j=xs.length:=by omega
   subst this
   exact Hd ⟨hp,hR⟩
theorem Yz:Sound Try.prog 107 Mr:=
 Sound.mkS Ca (Ad Nh (Ad Rv Ba)) mixed Try.func107 (by kernel_rfl) (by kernel_rfl) fun x h=>Af6 x.1 x.2.1 x.2.2.1 h
theorem As3 (n m:Int) (xs:List Int) (h:nOK n∧short xs):fnW tab (look [(102,Jk),(126,Cg)]) Lg Try.f115 (n,m,xs,()) (fun (z:Bool)=>z=Qm n xs m):=by
 obtain ⟨hn,hs⟩:=h
 have h:=hs
 unfold short at h
 refine Eq.mp (At6 n m xs _) ?_
 refine Ao xs.length (fun v=>v.1) (fun j _=>DL n xs j) rfl (fun j _ hj=>absurd hj (Nat.not_lt_zero _)) ?_
 rintro j ⟨i,⟨⟩⟩ K hj hi hR hK
 dsimp only at hi⊢
 subst hi
 refine Br.dec (fun hl=>?_) fun hl=>?_
 ·have hl:j<xs.length:=by omega
  refine ⟨_,Az hl,_,if_pos trivial,⟨fun hq=>?_,fun hq=>?_⟩⟩
  ·have hq:=Cz hq
   rw [Rl hn] at hq
   exact Bb fun hh=>hq ⟨(hh.2 j hl hl).1,(hh.2 j hl hl).2.1⟩
  ·have hq:=Ed hq
   rw [Rl hn] at hq
   refine ⟨⟨by omega,by omega,by omega⟩,?_⟩
   rw [show (Int.toNat 0)=0 from rfl,List.drop_zero,Int.toNat_natCast]
   refine ⟨_,if_pos (Ac7 hs j),⟨fun hc=>?_,fun hc=>?_⟩⟩
   ·have hc:decide (xs[j]∈xs.take j)=true:=hc
    rw [decide_eq_true_iff] at hc
    exact Bb fun hh=>(hh.2 j hl hl).2.2 hc
   ·have hc:decide (xs[j]∈xs.take j)=false:=hc
    rw [decide_eq_false_iff_not] at hc
    rw [Am (by omega)]
    exact hK hl _ rfl (Ank hl hR hq.1 hq.2 hc)
 ·have:j=xs.length:=by omega
  subst this
  by_cases he:(xs.length:Int)=m
  ·rw [beq_iff_eq.2 he];exact Hd ⟨he,hR⟩
  ·rw [beq_eq_false_iff_ne.2 he];exact Bb fun hh=>he hh.1
theorem Agz:Sound Try.prog 115 Lg:=
 Sound.mkS Ca (Ad Aau (Ad Ajk Ba)) mixed Try.func115 (by kernel_rfl) (by kernel_rfl) fun x h=>As3 x.1 x.2.1 x.2.2.1 h
end Go.Proofs.Ytebabhocakedaaa

namespace Go.Proofs.Ytebabhocakedaaa
open Go.RowKit
theorem Asc:roomy 1048576:=⟨by decide,by decide⟩
end Go.Proofs.Ytebabhocakedaaa

namespace Go.Proofs.Ytebabhocakedaaa
open Go.RowKit
abbrev PP:Type:=Int×ByteArray×List (List Int)×Unit
noncomputable def Hf (p:List Int):Bool:=dec (1≤p.length∧p.length≤20∧DL p.length p p.length)
noncomputable def Hu (n:Int) (p:List Int):Bool:=dec ((p.length:Int)=n∧Hf p=true)
noncomputable def Ns (n:Int) (g:List (List Int)):Bool:=dec ((1≤n∧n≤20)∧g.length≤8∧ ∀p∈g,Hu n p=true)
def Fb {α:Type} (P:α→Bool):List α→Int→Int
 | [],_=> -1
 |y::r,i=>if P y=true then i else Fb P r (i+1)
abbrev tG1:Ty:= .clo 174 (.pair (.ptr tI) .unit)
def An4 (s:ByteArray) (i:Nat):Prop:= ∃c:UInt8,s[i]?=some c∧65≤c.toNat∧c.toNat≤90∧ ∀k,k<i→s[k]?≠some c
noncomputable def Adj (s:ByteArray) (i:Int):Bool:=dec (An4 s i.toNat)
noncomputable def Ts (s:ByteArray):Bool:=dec ((1≤s.size∧s.size≤8)∧ ∀j,j<s.size→An4 s j)
noncomputable def Bm (p:PP):Bool:=dec (Ns p.1 p.2.2.1=true∧Ts p.2.1=true∧p.2.1.size=p.2.2.1.length)
def Ec (p:PP):Prop:=p.2.1.size≤4294967296∧Hz p.2.2.1
noncomputable abbrev Ms:Spec:=mkS (.pair tL .unit) tI false true (fun _=>True) (fun x=>(List.length x.1:Int))
noncomputable abbrev Fv:Spec:=mkS (.pair tL .unit) .bool false true (fun x=>short x.1) (fun x=>Hf x.1)
noncomputable abbrev Ih:Spec:=mkS (.pair tI (.pair tLL .unit)) .bool false true (fun x=>Hz x.2.1) (fun x=>Ns x.1 x.2.1)
noncomputable abbrev Aa2:Spec:=mkS (.pair tL (.pair (.ptr tI) .unit)) .bool false true (fun x=>short x.1) (fun x=>!Hu x.2.1 x.1)
noncomputable abbrev Amt:Spec:=mkS (.pair tLL (.pair tG1 .unit)) tI false true (fun x=>Hz x.1) (fun x=>Fb (fun p=>!Hu x.2.1.1 p) x.1 0)
noncomputable abbrev Amq:Spec:=mkS (.pair tLL (.pair tG1 .unit)) .bool false true (fun x=>Hz x.1) (fun x=>List.any x.1 (fun p=>!Hu x.2.1.1 p))
noncomputable abbrev Tx:Spec:=mkS (.pair .str (.pair tI .unit)) .bool false true (fun x=>0≤x.2.1∧x.2.1<x.1.size∧x.1.size≤4294967296) (fun x=>Adj x.1 x.2.1)
noncomputable abbrev Po:Spec:=mkS (.pair .str .unit) .bool false true (fun x=>x.1.size≤4294967296) (fun x=>Ts x.1)
noncomputable abbrev Ei:Spec:=mkS (.pair Ds .unit) .bool false true (fun x=>Ec x.1) (fun x=>Bm x.1)
def Yi (p:PP) (room:Int):Int:=if room-p.2.1.size<0 then-1 else if Sn p.2.2.1 (room-p.2.1.size)<0 then-1 else Sn p.2.2.1 (room-p.2.1.size)
def Ag6 (a b:PP):Bool:=decide (a.1=b.1)&&(decide (a.2.1=b.2.1)&&decide (a.2.2.1=b.2.2.1))
noncomputable abbrev Amv:Spec:=mkS (.pair Ds (.pair tI .unit)) tI false true (fun x=>Ec x.1∧roomy x.2.1) (fun x=>Yi x.1 x.2.1)
noncomputable abbrev Agi:Spec:=mkS (.pair Ds .unit) Ds false true (fun x=>Ec x.1) (fun x=>x.1)
noncomputable abbrev Amr:Spec:=mkS (.pair Ds (.pair Ds .unit)) .bool false true (fun x=>Ec x.1) (fun x=>Ag6 x.1 x.2.1)
theorem Bd0 (xs:List Int) (P:Int→Prop):(P (↑xs.length:Int))=fnW tab (look []) Ms Try.f127 (xs,()) P:=by kernel_rfl
theorem Apt (p:List Int) (P:Bool→Prop):(∃(y2:Bool),
 Bd.fn ((↑p.length:Int),(1:Int),(20:Int),())=some y2∧
  Br (!y2) (P false)
   (Cb
    (fun (v3:Int×PUnit) (k4:Int×PUnit→Prop)=>
     Br (decide (v3.1<(↑p.length:Int)))
      (∃(y5:Int),
       idx p v3.1=some y5∧
        ∃(y6:Bool),
         Bd.fn (y5,(0:Int),IntKind.i64.wrap ((↑p.length:Int)-(1:Int)),())=some y6∧
          Br (!y6) (P false)
           (((0:Int)≤(0:Int)∧(0:Int)≤v3.1∧v3.1≤(↑p.length:Int))∧
            ∃(y7:Int),
             idx p v3.1=some y7∧
              ∃(y8:Bool),
               Cg.fn (List.drop (Int.toNat (0:Int)) (List.take v3.1.toNat p),y7,())=some y8∧Br y8 (P false) (k4 (IntKind.i64.wrap (v3.1+(1:Int)),()))))
      (P true))
    ((0:Int),PUnit.unit)))=fnW tab (look [(122,Bd),(152,Cg)]) Fv Try.f169 (p,()) P:=by kernel_rfl
theorem Apo (p:List Int) (P:Bool→Prop):(∃(y2:Int),
 Ms.fn (p,())=some y2∧
  ∃(y3:Bool),
   Bd.fn (y2,(1:Int),(20:Int),())=some y3∧
    Br (!y3) (P false)
     (Cb
      (fun (v4:Int×Int×PUnit) (k5:Int×Int×PUnit→Prop)=>
       Br (decide (v4.2.1<(↑p.length:Int)))
        (∃(y6:Int),
         idx p v4.2.1=some y6∧
          ∃(y7:Int),
           Ms.fn (p,())=some y7∧
            ∃(y8:Bool),
             Bd.fn (y6,(0:Int),IntKind.i64.wrap (y7-(1:Int)),())=some y8∧
              Br (!y8) (P false)
               (¬y6<(0:Int)∧
                k5
                 (IntKind.i64.wrap
                   (↑(BitVec.ofInt IntKind.i64.bits v4.1|||BitVec.ofInt IntKind.i64.bits (IntKind.i64.wrap ((1:Int)*(2:Int)^min y6.toNat IntKind.i64.bits))).toNat:
                    Int),
                  IntKind.i64.wrap (v4.2.1+(1:Int)),())))
        (¬(↑p.length:Int)<(0:Int)∧P (v4.1==IntKind.i64.wrap (IntKind.i64.wrap ((1:Int)*(2:Int)^min (↑p.length:Int).toNat IntKind.i64.bits)-(1:Int)))))
      ((0:Int),(0:Int),PUnit.unit)))=fnW tab (look [(108,Bd),(127,Ms)]) Fv Try.f170 (p,()) P:=by kernel_rfl
theorem Aps (n:Int) (g:List (List Int)) (P:Bool→Prop):(∃(y3:Bool),
 Bd.fn (n,(1:Int),(20:Int),())=some y3∧
  Br (!y3) (P false)
   (Br (decide ((↑g.length:Int)>(8:Int))) (P false)
    (Cb
     (fun (v4:Int×PUnit) (k5:Int×PUnit→Prop)=>
      Br (decide (v4.1<(↑g.length:Int)))
       (∃(y6:List Int),
        idx g v4.1=some y6∧
         Br ((↑y6.length:Int) !=n) (P false)
          (∃(y7:List Int),idx g v4.1=some y7∧ ∃(y8:Bool),Fv.fn (y7,())=some y8∧Br (!y8) (P false) (k5 (IntKind.i64.wrap (v4.1+(1:Int)),()))))
       (P true))
     ((0:Int),PUnit.unit))))=fnW tab (look [(122,Bd),(169,Fv)]) Ih Try.f148 (n,g,()) P:=by kernel_rfl
theorem Bbt (p:List Int) (n:Int) (P:Bool→Prop):(∃(y3:Int),Ms.fn (p,())=some y3∧Br (y3 !=n) (P true) (∃(y4:Bool),Fv.fn (p,())=some y4∧P !y4))=fnW tab (look [(127,Ms),(170,Fv)]) Aa2 Try.f174 (p,n,()) P:=by kernel_rfl
theorem Bdu (g:List (List Int)) (n:Int×Unit) (P:Int→Prop):(Cb
 (fun (v3:Int×PUnit) (k4:Int×PUnit→Prop)=>
  Br (decide (v3.1<(↑g.length:Int)))
   (∃(y5:List Int),idx g v3.1=some y5∧ ∃(y6:Bool),Aa2.fn (y5,n.1,())=some y6∧Br y6 (P v3.1) (k4 (IntKind.i64.wrap (v3.1+(1:Int)),()))) (P (-1:Int)))
 ((0:Int),PUnit.unit))=fnW tab (look [(174,Aa2)]) Amt Try.f181 (g,n,()) P:=by kernel_rfl
theorem Bdq (g:List (List Int)) (n:Int×Unit) (P:Bool→Prop):(∃(y3:Int),Amt.fn (g,n,())=some y3∧P (decide (y3≥(0:Int))))=fnW tab (look [(181,Amt)]) Amq Try.f173 (g,n,()) P:=by kernel_rfl
theorem Apn (n:Int) (g:List (List Int)) (P:Bool→Prop):(∃(y3:Bool),
 Bd.fn (n,(1:Int),(20:Int),())=some y3∧Br y3 (Br (decide ((↑g.length:Int)≤(8:Int))) (∃(y4:Bool),Amq.fn (g,(n,()),())=some y4∧P !y4) (P false)) (P false))=fnW tab (look [(108,Bd),(173,Amq)]) Ih Try.f157 (n,g,()) P:=by kernel_rfl
theorem Baq (s:ByteArray) (i:Int) (P:Bool→Prop):((0:Int)≤i∧
 ∃(y3:UInt8),
  s[i.toNat]?=some y3∧
   Br (decide ((↑y3.toNat:Int)<(65:Int))) (P false)
    ((0:Int)≤i∧
     ∃(y4:UInt8),
      s[i.toNat]?=some y4∧
       Br (decide ((↑y4.toNat:Int)>(90:Int))) (P false)
        (Cb
         (fun (v5:Int×PUnit) (k6:Int×PUnit→Prop)=>
          Br (decide (v5.1<i))
           ((0:Int)≤v5.1∧
            ∃(y7:UInt8),
             s[v5.1.toNat]?=some y7∧
              (0:Int)≤i∧ ∃(y8:UInt8),s[i.toNat]?=some y8∧Br ((↑y7.toNat:Int)==(↑y8.toNat:Int)) (P false) (k6 (IntKind.i64.wrap (v5.1+(1:Int)),())))
           (P true))
         ((0:Int),PUnit.unit))))=fnW tab (look []) Tx Try.f149 (s,i,()) P:=by kernel_rfl
theorem Ayl (s:ByteArray) (P:Bool→Prop):(Cb
 (fun (v2:Int×PUnit) (k3:Int×PUnit→Prop)=>
  Br (decide (v2.1<(↑s.size:Int)))
   ((0:Int)≤v2.1∧
    ∃(y4:UInt8),
     s[v2.1.toNat]?=some y4∧
      ∃(y5:Bool),
       Bd.fn (IntKind.i64.wrap (↑y4.toNat:Int),(65:Int),(90:Int),())=some y5∧
        Br (!y5) (P false)
         (Cb
          (fun (v6:Int×PUnit) (k7:Int×PUnit→Prop)=>
           Br (decide (v6.1<v2.1))
            ((0:Int)≤v6.1∧
             ∃(y8:UInt8),
              s[v6.1.toNat]?=some y8∧
               (0:Int)≤v2.1∧ ∃(y9:UInt8),s[v2.1.toNat]?=some y9∧Br ((↑y8.toNat:Int)==(↑y9.toNat:Int)) (P false) (k7 (IntKind.i64.wrap (v6.1+(1:Int)),())))
            (k3 (IntKind.i64.wrap (v2.1+(1:Int)),())))
          ((0:Int),PUnit.unit)))
   (∃(y4:Bool),Bd.fn ((↑s.size:Int),(1:Int),(8:Int),())=some y4∧P y4))
 ((0:Int),PUnit.unit))=fnW tab (look [(108,Bd)]) Po Try.f158 (s,()) P:=by kernel_rfl
theorem Apu (p:Int×ByteArray×List (List Int)×Unit) (P:Bool→Prop):(Br ((↑p.2.2.1.length:Int)==(0:Int)) (P false)
 (Br ((↑p.2.1.size:Int) !=(↑p.2.2.1.length:Int)) (P false)
  (∃(y2:Bool),
   Ih.fn (p.1,p.2.2.1,())=some y2∧
    Br (!y2) (P false)
     (Cb
      (fun (v3:Int×Int×ByteArray×List (List Int)×PUnit) (k4:Int×Int×ByteArray×List (List Int)×PUnit→Prop)=>
       Br (decide (v3.1<(↑v3.2.2.1.size:Int)))
        (∃(y5:Bool),Tx.fn (v3.2.2.1,v3.1,())=some y5∧Br (!y5) (P false) (k4 (IntKind.i64.wrap (v3.1+(1:Int)),v3.2.1,v3.2.2.1,v3.2.2.2.1,())))
        (P true))
      ((0:Int),p.1,p.2.1,p.2.2.1,PUnit.unit)))))=fnW tab (look [(148,Ih),(149,Tx)]) Ei Try.f99 (p,()) P:=by kernel_rfl
theorem Apq (p:Int×ByteArray×List (List Int)×Unit) (P:Bool→Prop):(∃(y2:Bool),
 Ih.fn (p.1,p.2.2.1,())=some y2∧Br y2 (∃(y3:Bool),Po.fn (p.2.1,())=some y3∧Br y3 (P ((↑p.2.1.size:Int)==(↑p.2.2.1.length:Int))) (P false)) (P false))=fnW tab (look [(157,Ih),(158,Po)]) Ei Try.f124 (p,()) P:=by kernel_rfl
theorem Bdw (p:Int×ByteArray×List (List Int)×Unit) (room:Int) (P:Int→Prop):(Br (decide (IntKind.i64.wrap (room-(↑p.2.1.size:Int))<(0:Int))) (P (-1:Int))
 (∃(y3:Int),Afc.fn (p.2.2.1,IntKind.i64.wrap (room-(↑p.2.1.size:Int)),())=some y3∧Br (decide (y3<(0:Int))) (P (-1:Int)) (P y3)))=fnW tab (look [(33,Afc)]) Amv Try.f15 (p,room,()) P:=by kernel_rfl
theorem Bdy (p:Int×ByteArray×List (List Int)×Unit) (P:(Int×ByteArray×List (List Int)×Unit)→Prop):(∃(y2:List (List Int)),Afd.fn (p.2.2.1,())=some y2∧P (p.1,p.2.1,y2,()))=fnW tab (look [(35,Afd)]) Agi Try.f17 (p,()) P:=by kernel_rfl
theorem Bds (a b:Int×ByteArray×List (List Int)×Unit) (P:Bool→Prop):(Br (a.1 !=b.1) (P false) (Br (!a.2.1.toList==b.2.1.toList) (P false) (∃(y3:Bool),Afa.fn (a.2.2.1,b.2.2.1,())=some y3∧Br (!y3) (P false) (P true))))=fnW tab (look [(37,Afa)]) Amr Try.f20 (a,b,()) P:=by kernel_rfl
theorem Bcn (xs:List Int) (_:True):fnW tab (look []) Ms Try.f127 (xs,()) (fun (z:Int)=>z=(xs.length:Int)):=Eq.mp (Bd0 xs _) rfl
theorem Ac9:Sound Try.prog 127 Ms:=
 Sound.mkS Ca Ba mixed Try.func127 (by kernel_rfl) (by kernel_rfl) fun x h=>Bcn x.1 h
theorem Ape {α:Type} [DecidableEq α]: ∀(l m:List α),l.Nodup→(∀x∈l,x∈m)→l.length≤m.length
 | [],m,_,_=>Nat.zero_le _
 |a::l,m,hn,hs=>by
  have ha:a∈m:=hs a (List.mem_cons_self ..)
  have hn:=List.nodup_cons.1 hn
  have:=Ape l (m.erase a) hn.2 fun x hx=>(List.mem_erase_of_ne (fun (e:x=a)=>hn.1 (by rw [←e];exact hx))).2 (hs x (List.mem_cons_of_mem _ hx))
  rw [List.length_erase_of_mem ha] at this
  have:0<m.length:=List.length_pos_of_mem ha
  simp only [List.length_cons]
  omega
def upto (n:Nat):List Int:=(List.range n).map Int.ofNat
theorem Ak3 (n:Nat):(upto n).Nodup:=by
 unfold upto
 exact List.Pairwise.map _ (fun a b hab e=>hab (Int.ofNat.inj e)) List.nodup_range
theorem Ig {n:Nat} {x:Int} :x∈upto n↔0≤x∧x<n:=by
 unfold upto
 simp only [List.mem_map,List.mem_range]
 constructor
 ·rintro ⟨a,ha,rfl⟩;exact ⟨Int.natCast_nonneg _,Int.ofNat_lt.2 ha⟩
 ·rintro ⟨h1,h2⟩;exact ⟨x.toNat,by omega,by simp only [Int.ofNat_eq_natCast];omega⟩
theorem Qv (n:Nat):(upto n).length=n:=by simp [upto]
theorem Yj {xs:List Int} (h: ∀j (hj:j<xs.length),xs[j]∉xs.take j):xs.Nodup:=by
 refine List.pairwise_iff_getElem.2 fun i j hi hj hij e=>h j hj ?_
 rw [←e]
 exact List.mem_take_iff_getElem.2 ⟨i,by omega,rfl⟩
theorem Ak1 {xs:List Int} (h:xs.Nodup): ∀j (hj:j<xs.length),xs[j]∉xs.take j:=by
 intro j hj hm
 obtain ⟨i,hi,e⟩:=List.mem_take_iff_getElem.1 hm
 exact List.pairwise_iff_getElem.1 h i j (by omega) hj (by omega) e
theorem Sh {xs:List Int} (h: ∀x∈xs,0≤x∧x<xs.length):(∀k:Nat,k<xs.length→(k:Int)∈xs)↔ ∀j (hj:j<xs.length),xs[j]∉xs.take j:=by
 constructor
 ·intro ha j hj hm
  have h1:=Ape (upto xs.length) (xs.take j++xs.drop (j+1)) (Ak3 _) fun x hx=>by
   obtain ⟨h1,h2⟩:=Ig.1 hx
   have hx:=ha x.toNat (by omega)
   rw [show ((x.toNat:Nat):Int)=x by omega] at hx
   rw [←List.take_append_drop j xs,List.mem_append,List.drop_eq_getElem_cons hj,List.mem_cons] at hx
   rcases hx with hx|rfl|hx
   ·exact List.mem_append_left _ hx
   ·exact List.mem_append_left _ hm
   ·exact List.mem_append_right _ hx
  rw [Qv,List.length_append,List.length_take,List.length_drop] at h1
  omega
 ·intro hn k hk
  refine Classical.byContradiction fun hc=>?_
  have h1:=Ape xs ((upto xs.length).erase (k:Int)) (Yj hn) fun x hx=>by
   refine (List.mem_erase_of_ne fun (e:x=(k:Int))=>hc (by rw [←e];exact hx)).2 (Ig.2 (h x hx))
  rw [List.length_erase_of_mem (Ig.2 ⟨by omega,by omega⟩),Qv] at h1
  omega
def mask (xs:List Int):Nat:=xs.foldl (fun m x=>m|||2^x.toNat) 0
theorem Axf (xs:List Int) (x:Int):mask (xs++ [x])=mask xs|||2^x.toNat:=by simp [mask]
theorem Aoc (xs:List Int) (k:Nat): ∀a:Nat,(xs.foldl (fun m x=>m|||2^x.toNat) a).testBit k=(a.testBit k||xs.any fun x=>decide (x.toNat=k)):=by
 induction xs with
 |nil=>simp
 |cons x xs ih=>
  intro a
  rw [List.foldl_cons,ih,Nat.testBit_or,Nat.testBit_two_pow,List.any_cons,Bool.or_assoc]
theorem Aip (xs:List Int) (k:Nat):(mask xs).testBit k=xs.any fun x=>decide (x.toNat=k):=by
 unfold mask
 rw [Aoc,Nat.zero_testBit,Bool.false_or]
theorem Bb6 {xs:List Int} {n:Nat} (h: ∀x∈xs,x.toNat<n):mask xs<2^n:=by
 refine Nat.lt_pow_two_of_testBit _ fun k hk=>?_
 rw [Aip]
 refine Bool.eq_false_iff.2 fun ht=>?_
 obtain ⟨x,hx,he⟩:=List.any_eq_true.1 ht
 have:=h x hx
 have:=of_decide_eq_true he
 omega
theorem Amb {xs:List Int} (h: ∀x∈xs,0≤x∧x<xs.length):mask xs=2^xs.length-1↔ ∀k:Nat,k<xs.length→(k:Int)∈xs:=by
 constructor
 ·intro e k hk
  have h1:=Aip xs k
  rw [e,Nat.testBit_two_pow_sub_one,decide_eq_true hk] at h1
  obtain ⟨x,hx,he⟩:=List.any_eq_true.1 h1.symm
  have:=(h x hx).1
  have:=of_decide_eq_true he
  have e:x=(k:Int):=by omega
  exact e▸hx
 ·intro ha
  refine Nat.eq_of_testBit_eq fun k=>?_
  rw [Aip,Nat.testBit_two_pow_sub_one]
  by_cases hk:k<xs.length
  ·rw [decide_eq_true hk]
   exact List.any_eq_true.2 ⟨k,ha k hk,by simp⟩
  ·rw [decide_eq_false hk]
   refine Bool.eq_false_iff.2 fun ht=>?_
   obtain ⟨x,hx,he⟩:=List.any_eq_true.1 ht
   have:=h x hx
   have:=of_decide_eq_true he
   omega
theorem Bb9 {m:Nat} {x:Int} (hm:m<2^20) (h0:0≤x) (h1:x<20):
  IntKind.i64.wrap (((BitVec.ofInt IntKind.i64.bits (m:Int)|||BitVec.ofInt IntKind.i64.bits (IntKind.i64.wrap ((1:Int)*(2:Int)^min x.toNat IntKind.i64.bits))).toNat:Nat):Int)=((m|||2^x.toNat:Nat):Int):=by
 have hx:(2:Nat)^x.toNat<2^20:=Nat.pow_lt_pow_right (by omega) (by omega)
 have e1:min x.toNat IntKind.i64.bits=x.toNat:=by show min x.toNat 64=_;omega
 have e2:(1:Int)*(2:Int)^x.toNat=((2^x.toNat:Nat):Int):=by rw [Int.one_mul];exact (Int.natCast_pow 2 _).symm
 rw [e1,e2,Bz (n:=((2^x.toNat:Nat):Int)) (by have:(0:Int)≤((2^x.toNat:Nat):Int):=Int.natCast_nonneg _;omega) (by omega)]
 show IntKind.i64.wrap (((BitVec.ofInt 64 (m:Int)|||BitVec.ofInt 64 ((2^x.toNat:Nat):Int)).toNat:Nat):Int)=_
 rw [BitVec.ofInt_natCast,BitVec.ofInt_natCast,BitVec.toNat_or,BitVec.toNat_ofNat,BitVec.toNat_ofNat,Nat.mod_eq_of_lt (by omega),Nat.mod_eq_of_lt (by omega)]
 have:=Nat.or_lt_two_pow hm hx
 exact Bz (by omega) (by omega)
theorem Aok (p:List Int) (h:short p):fnW tab (look [(122,Bd),(152,Cg)]) Fv Try.f169 (p,()) (fun (z:Bool)=>z=Hf p):=by
 have hs:=h
 unfold short at h
 refine Eq.mp (Apt p _) ⟨_,if_pos trivial,⟨fun hp=>?_,fun hp=>?_⟩⟩
 ·have hp:=Cz hp
  rw [Bs] at hp
  dsimp only at hp
  exact Bb fun hh=>hp ⟨by omega,by omega⟩
 ·have hp:=Ed hp
  rw [Bs] at hp
  dsimp only at hp
  refine Ao p.length (fun v=>v.1) (fun j _=>DL p.length p j) rfl (fun j _ hj=>absurd hj (Nat.not_lt_zero _)) ?_
  rintro j ⟨i,⟨⟩⟩ K hj hi hR hK
  dsimp only at hi⊢
  subst hi
  refine Br.dec (fun hl=>?_) fun hl=>?_
  ·have hl:j<p.length:=by omega
   refine ⟨_,Az hl,_,if_pos trivial,⟨fun hq=>?_,fun hq=>?_⟩⟩
   ·have hq:=Cz hq
    rw [Bs,Bz (by omega) (by omega)] at hq
    exact Bb fun hh=>hq ⟨(hh.2.2 j hl hl).1,(hh.2.2 j hl hl).2.1⟩
   ·have hq:=Ed hq
    rw [Bs,Bz (by omega) (by omega)] at hq
    refine ⟨⟨by omega,by omega,by omega⟩,_,Az hl,?_⟩
    rw [show (Int.toNat 0)=0 from rfl,List.drop_zero,Int.toNat_natCast]
    refine ⟨_,if_pos (Ac7 hs j),⟨fun hc=>?_,fun hc=>?_⟩⟩
    ·have hc:decide (p[j]∈p.take j)=true:=hc
     rw [decide_eq_true_iff] at hc
     exact Bb fun hh=>(hh.2.2 j hl hl).2.2 hc
    ·have hc:decide (p[j]∈p.take j)=false:=hc
     rw [decide_eq_false_iff_not] at hc
     rw [Am (by omega)]
     exact hK hl _ rfl (Ank hl hR hq.1 hq.2 hc)
  ·have:j=p.length:=by omega
   subst this
   exact Hd ⟨by omega,by omega,hR⟩
theorem Uc:Sound Try.prog 169 Fv:=
 Sound.mkS Ca (Ad Nh (Ad Rv Ba)) mixed Try.func169 (by kernel_rfl) (by kernel_rfl) fun x h=>Aok x.1 h
theorem Aog (p:List Int) (h:short p):fnW tab (look [(108,Bd),(127,Ms)]) Fv Try.f170 (p,()) (fun (z:Bool)=>z=Hf p):=by
 unfold short at h
 refine Eq.mp (Apo p _) ⟨_,if_pos trivial,_,if_pos trivial,⟨fun hp=>?_,fun hp=>?_⟩⟩
 ·have hp:=Cz hp
  rw [Bs] at hp
  dsimp only at hp
  exact Bb fun hh=>hp ⟨by omega,by omega⟩
 ·have hp:=Ed hp
  rw [Bs] at hp
  dsimp only at hp
  refine Ao p.length (fun v=>v.2.1) (fun j v=>v.1=(mask (p.take j):Int)∧ ∀x∈p.take j,0≤x∧x<p.length) rfl ⟨rfl,by simp⟩ ?_
  rintro j ⟨m,i,⟨⟩⟩ K hj hi ⟨hm,hR⟩ hK
  dsimp only at hi hm⊢
  subst hi hm
  refine Br.dec (fun hl=>?_) fun hl=>?_
  ·have hl:j<p.length:=by omega
   refine ⟨_,Az hl,_,if_pos trivial,_,if_pos trivial,⟨fun hq=>?_,fun hq=>?_⟩⟩
   ·have hq:=Cz hq
    rw [Bs] at hq
    dsimp only at hq
    rw [Bz (by omega) (by omega)] at hq
    exact Bb fun hh=>hq ⟨(hh.2.2 j hl hl).1,(hh.2.2 j hl hl).2.1⟩
   ·have hq:=Ed hq
    rw [Bs] at hq
    dsimp only at hq
    rw [Bz (by omega) (by omega)] at hq
    refine ⟨by omega,?_⟩
    rw [Am (by omega)]
    have hb:mask (p.take j)<2^20:=Bb6 fun x hx=>by have:=hR x hx;omega
    refine hK hl _ rfl ⟨?_,?_⟩
    ·dsimp only
     rw [Bb9 hb hq.1 (by omega),List.take_succ_eq_append_getElem hl,Axf]
    ·rw [List.take_succ_eq_append_getElem hl]
     intro x hx
     rcases List.mem_append.1 hx with hx|hx
     ·exact hR x hx
     ·rw [List.mem_singleton.1 hx];omega
  ·have:j=p.length:=by omega
   subst this
   rw [List.take_length] at hR⊢
   refine ⟨by omega,?_⟩
   have hx:(2:Nat)^p.length≤2^20:=Nat.pow_le_pow_right (by omega) (by omega)
   have hpos:0<(2:Nat)^p.length:=Nat.two_pow_pos _
   have e1:min (p.length:Int).toNat IntKind.i64.bits=p.length:=by show min (p.length:Int).toNat 64=_;omega
   have e2:(1:Int)*(2:Int)^p.length=((2^p.length:Nat):Int):=by rw [Int.one_mul];exact (Int.natCast_pow 2 _).symm
   rw [e1,e2,Bz (n:=((2^p.length:Nat):Int)) (by omega) (by omega),Bz (by omega) (by omega)]
   have hE:((mask p:Int)==((2^p.length:Nat):Int)-1)=decide (mask p=2^p.length-1):=by
    rw [Bool.eq_iff_iff,beq_iff_eq,decide_eq_true_iff]
    omega
   show ((mask p:Int)==((2^p.length:Nat):Int)-1)=Hf p
   rw [hE]
   by_cases hf:mask p=2^p.length-1
   ·rw [decide_eq_true hf]
    have hn:=(Sh hR).1 ((Amb hR).1 hf)
    refine Hd ⟨by omega,by omega,fun j hj _=>?_⟩
    have:=hR _ (List.getElem_mem hj)
    exact ⟨this.1,by omega,hn j hj⟩
   ·rw [decide_eq_false hf]
    refine Bb fun hh=>hf ((Amb hR).2 ((Sh hR).2 fun j hj=>(hh.2.2 j hj hj).2.2))
theorem Afh:Sound Try.prog 170 Fv:=
 Sound.mkS Ca (Ad Ly (Ad Ac9 Ba)) mixed Try.func170 (by kernel_rfl) (by kernel_rfl) fun x h=>Aog x.1 h
theorem Aoj (n:Int) (g:List (List Int)) (h:Hz g):fnW tab (look [(122,Bd),(169,Fv)]) Ih Try.f148 (n,g,()) (fun (z:Bool)=>z=Ns n g):=by
 obtain ⟨h,h4⟩:=h
 refine Eq.mp (Aps n g _) ⟨_,if_pos trivial,⟨fun hp=>?_,fun hp=>?_⟩⟩
 ·have hp:=Cz hp
  rw [Bs] at hp
  exact Bb fun hh=>hp hh.1
 ·have hp:=Ed hp
  rw [Bs] at hp
  refine Br.dec (fun hg=>?_) fun hg=>?_
  ·exact Bb fun hh=>by have:=hh.2.1;omega
  ·refine Ao g.length (fun v=>v.1) (fun j _=> ∀p∈g.take j,Hu n p=true) rfl (by simp) ?_
   rintro j ⟨i,⟨⟩⟩ K hj hi hR hK
   dsimp only at hi⊢
   subst hi
   refine Br.dec (fun hl=>?_) fun hl=>?_
   ·have hl:j<g.length:=by omega
    have hm:g[j]∈g:=List.getElem_mem hl
    refine ⟨_,Az hl,⟨fun he=>?_,fun he=>?_⟩⟩
    ·simp only [bne_iff_ne,ne_eq] at he
     exact Bb fun hh=>he (Fy.1 (hh.2.2 _ hm)).1
    ·simp only [bne_eq_false_iff_eq] at he
     refine ⟨_,Az hl,_,if_pos (h4 _ hm),⟨fun hq=>?_,fun hq=>?_⟩⟩
     ·have hq:=Cz hq
      exact Bb fun hh=>hq (Fy.1 (hh.2.2 _ hm)).2
     ·have hq:=Ed hq
      rw [Am (by omega)]
      refine hK hl _ rfl ?_
      rw [List.take_succ_eq_append_getElem hl]
      intro x hx
      rcases List.mem_append.1 hx with hx|hx
      ·exact hR x hx
      ·rw [List.mem_singleton.1 hx];exact Fy.2 ⟨he,hq⟩
   ·have:j=g.length:=by omega
    subst this
    rw [List.take_length] at hR
    exact Hd ⟨hp,by omega,hR⟩
theorem Afj:Sound Try.prog 148 Ih:=
 Sound.mkS Ca (Ad Nh (Ad Uc Ba)) mixed Try.func148 (by kernel_rfl) (by kernel_rfl) fun x h=>Aoj x.1 x.2.1 h
theorem Bbb (p:List Int) (n:Int) (h:short p):fnW tab (look [(127,Ms),(170,Fv)]) Aa2 Try.f174 (p,n,()) (fun (z:Bool)=>z=!Hu n p):=by
 refine Eq.mp (Bbt p n _) ⟨_,if_pos trivial,⟨fun he=>?_,fun he=>⟨_,if_pos h,?_⟩⟩⟩
 ·simp only [bne_iff_ne,ne_eq] at he
  have:Hu n p=false:=Bb0.2 fun hh=>he hh.1
  rw [this];rfl
 ·simp only [bne_eq_false_iff_eq] at he
  show (!Hf p)=_
  congr 1
  cases hp:Hf p with
  |true=>exact Hd ⟨he,hp⟩
  |false=>exact Bb fun hh=>by rw [hh.2] at hp;cases hp
theorem Asj:Sound Try.prog 174 Aa2:=
 Sound.mkS Ca (Ad Ac9 (Ad Afh Ba)) mixed Try.func174 (by kernel_rfl) (by kernel_rfl) fun x h=>Bbb x.1 x.2.1 h
theorem Ag7 {α:Type} (P:α→Bool): ∀(l:List α) (i:Int),0≤i→(0≤Fb P l i↔l.any P=true)
 | [],i,_=>by simp [Fb]
 |y::r,i,h=>by
  simp only [Fb,List.any_cons,Bool.or_eq_true]
  split
  ·rename_i hy;simp [hy,h]
  ·rename_i hy;rw [Ag7 P r (i+1) (by omega)];simp [hy]
theorem Bdg (g:List (List Int)) (n:Int×Unit) (h:Hz g):fnW tab (look [(174,Aa2)]) Amt Try.f181 (g,n,()) (fun (z:Int)=>z=Fb (fun p=>!Hu n.1 p) g 0):=by
 obtain ⟨h,h4⟩:=h
 refine Eq.mp (Bdu g n _) ?_
 refine Ao g.length (fun v=>v.1) (fun j _=>Fb (fun p=>!Hu n.1 p) (g.drop j) j=Fb (fun p=>!Hu n.1 p) g 0) rfl (by simp) ?_
 rintro j ⟨i,⟨⟩⟩ K hj hi hR hK
 dsimp only at hi⊢
 subst hi
 refine Br.dec (fun hl=>?_) fun hl=>?_
 ·have hl:j<g.length:=by omega
  rw [List.drop_eq_getElem_cons hl] at hR
  simp only [Fb] at hR
  refine ⟨_,Az hl,_,if_pos (h4 _ (List.getElem_mem hl)),⟨fun he=>?_,fun he=>?_⟩⟩
  ·have he:(!Hu n.1 g[j])=true:=he
   rw [if_pos he] at hR
   exact hR
  ·have he:(!Hu n.1 g[j])=false:=he
   rw [if_neg (by rw [he];decide)] at hR
   rw [Am (by omega)]
   exact hK hl _ rfl (by push_cast;exact hR)
 ·have:j=g.length:=by omega
  subst this
  rw [List.drop_length] at hR
  exact hR
theorem Ay8:Sound Try.prog 181 Amt:=
 Sound.mkS Ca (Ad Asj Ba) mixed Try.func181 (by kernel_rfl) (by kernel_rfl) fun x h=>Bdg x.1 x.2.1 h
theorem Bdc (g:List (List Int)) (n:Int×Unit) (h:Hz g):fnW tab (look [(181,Amt)]) Amq Try.f173 (g,n,()) (fun (z:Bool)=>z=List.any g (fun p=>!Hu n.1 p)):=by
 refine Eq.mp (Bdq g n _) ⟨_,if_pos h,?_⟩
 rw [Bool.eq_iff_iff,decide_eq_true_iff]
 exact Ag7 _ g 0 (Int.le_refl 0)
theorem Ay5:Sound Try.prog 173 Amq:=
 Sound.mkS Ca (Ad Ay8 Ba) mixed Try.func173 (by kernel_rfl) (by kernel_rfl) fun x h=>Bdc x.1 x.2.1 h
theorem Aof (n:Int) (g:List (List Int)) (h:Hz g):fnW tab (look [(108,Bd),(173,Amq)]) Ih Try.f157 (n,g,()) (fun (z:Bool)=>z=Ns n g):=by
 refine Eq.mp (Apn n g _) ⟨_,if_pos trivial,⟨fun hp=>?_,fun hp=>?_⟩⟩
 ·have hp:Fk n 1 20=true:=hp
  rw [Bs] at hp
  refine Br.dec (fun hl=>⟨_,if_pos h,?_⟩) fun hl=>?_
  ·show (!List.any g (fun p=>!Hu n p))=Ns n g
   cases ha:List.any g (fun p=>!Hu n p) with
   |true=>
    obtain ⟨p,hp1,hp2⟩:=List.any_eq_true.1 ha
    exact Bb fun hh=>by rw [hh.2.2 p hp1] at hp2;cases hp2
   |false=>
    refine Hd ⟨hp,by omega,fun p hm=>?_⟩
    have:=List.any_eq_false.1 ha p hm
    simpa using this
  ·exact Bb fun hh=>by have:=hh.2.1;omega
 ·refine Bb fun hh=>?_
  have:Fk n 1 20=true:=Bs.2 hh.1
  have hp:Fk n 1 20=false:=hp
  rw [this] at hp;cases hp
theorem Afg:Sound Try.prog 157 Ih:=
 Sound.mkS Ca (Ad Ly (Ad Ay5 Ba)) mixed Try.func157 (by kernel_rfl) (by kernel_rfl) fun x h=>Aof x.1 x.2.1 h
theorem Fw {s:ByteArray} {k:Nat} (h:k<s.size):s[k]?=some s[k]:=getElem?_pos s k h
theorem Azx (s:ByteArray) (i:Int) (h:0≤i∧i<s.size∧s.size≤4294967296):fnW tab (look []) Tx Try.f149 (s,i,()) (fun (z:Bool)=>z=Adj s i):=by
 obtain ⟨h1,h2,h3⟩:=h
 have hi:i.toNat<s.size:=by omega
 refine Eq.mp (Baq s i _) ⟨h1,_,Fw hi,Br.dec (fun hq=>?_) fun hq=>⟨h1,_,Fw hi,Br.dec (fun hr=>?_) fun hr=>?_⟩⟩
 ·refine Bb fun ⟨c,hc,hc1,_⟩=>?_
  rw [Fw hi] at hc;cases hc;omega
 ·refine Bb fun ⟨c,hc,_,hc1,_⟩=>?_
  rw [Fw hi] at hc;cases hc;omega
 ·refine Ao i.toNat (fun v=>v.1) (fun j _=> ∀k,k<j→s[k]?≠some s[i.toNat]) rfl (fun k hk=>absurd hk (Nat.not_lt_zero _)) ?_
  rintro j ⟨i',⟨⟩⟩ K hj hi' hR hK
  dsimp only at hi'⊢
  subst hi'
  refine Br.dec (fun hl=>?_) fun hl=>?_
  ·have hl:j<i.toNat:=by omega
   have hj:j<s.size:=by omega
   rw [Int.toNat_natCast]
   refine ⟨by omega,_,Fw hj,h1,_,Fw hi,⟨fun he=>?_,fun he=>?_⟩⟩
   ·simp only [beq_iff_eq,Int.natCast_inj] at he
    refine Bb fun ⟨c,hc,_,_,hc1⟩=>?_
    rw [Fw hi] at hc;cases hc
    exact hc1 j hl (by rw [Fw hj,UInt8.toNat_inj.1 he])
   ·simp only [beq_eq_false_iff_ne,ne_eq,Int.natCast_inj] at he
    rw [Am (by omega)]
    refine hK hl _ rfl fun k hk=>?_
    by_cases e:k=j
    ·subst e
     rw [Fw hj]
     exact fun e=>he (by rw [Option.some.inj e])
    ·exact hR k (by omega)
  ·have:j=i.toNat:=by omega
   subst this
   exact Hd ⟨_,Fw hi,by omega,by omega,hR⟩
theorem Ap5:Sound Try.prog 149 Tx:=
 Sound.mkS Ca Ba mixed Try.func149 (by kernel_rfl) (by kernel_rfl) fun x h=>Azx x.1 x.2.1 h
theorem Axo (s:ByteArray) (h:s.size≤4294967296):fnW tab (look [(108,Bd)]) Po Try.f158 (s,()) (fun (z:Bool)=>z=Ts s):=by
 refine Eq.mp (Ayl s _) ?_
 refine Ao s.size (fun v=>v.1) (fun j _=> ∀k,k<j→An4 s k) rfl (fun k hk=>absurd hk (Nat.not_lt_zero _)) ?_
 rintro j ⟨i,⟨⟩⟩ K hj hi hR hK
 dsimp only at hi⊢
 subst hi
 refine Br.dec (fun hl=>?_) fun hl=>?_
 ·have hl:j<s.size:=by omega
  rw [Int.toNat_natCast]
  have hb:=(s[j]).toNat_lt
  refine ⟨by omega,_,Fw hl,_,if_pos trivial,⟨fun hq=>?_,fun hq=>?_⟩⟩
  ·have hq:=Cz hq
   rw [Bs] at hq
   dsimp only at hq
   rw [Bz (by omega) (by omega)] at hq
   refine Bb fun hh=>?_
   obtain ⟨c,hc,hc1,hc2,_⟩:=hh.2 j hl
   rw [Fw hl] at hc;cases hc
   exact hq ⟨by omega,by omega⟩
  ·have hq:=Ed hq
   rw [Bs] at hq
   dsimp only at hq
   rw [Bz (by omega) (by omega)] at hq
   refine Ao j (fun v=>v.1) (fun m _=> ∀k,k<m→s[k]?≠some s[j]) rfl (fun k hk=>absurd hk (Nat.not_lt_zero _)) ?_
   rintro m ⟨i',⟨⟩⟩ K' hm hi' hR' hK'
   dsimp only at hi'⊢
   subst hi'
   refine Br.dec (fun hl'=>?_) fun hl'=>?_
   ·have hl':m<j:=by omega
    have hm':m<s.size:=by omega
    rw [Int.toNat_natCast]
    refine ⟨by omega,_,Fw hm',by omega,_,Fw hl,⟨fun he=>?_,fun he=>?_⟩⟩
    ·simp only [beq_iff_eq,Int.natCast_inj] at he
     refine Bb fun hh=>?_
     obtain ⟨c,hc,_,_,hc1⟩:=hh.2 j hl
     rw [Fw hl] at hc;cases hc
     exact hc1 m hl' (by rw [Fw hm',UInt8.toNat_inj.1 he])
    ·simp only [beq_eq_false_iff_ne,ne_eq,Int.natCast_inj] at he
     rw [Am (by omega)]
     refine hK' hl' _ rfl fun k hk=>?_
     by_cases e:k=m
     ·subst e
      rw [Fw hm']
      exact fun e=>he (by rw [Option.some.inj e])
     ·exact hR' k (by omega)
   ·have:m=j:=by omega
    subst this
    rw [Am (by omega)]
    refine hK hl _ rfl fun k hk=>?_
    by_cases e:k=m
    ·subst e
     exact ⟨_,Fw hl,by omega,by omega,hR'⟩
    ·exact hR k (by omega)
 ·have:j=s.size:=by omega
  subst this
  refine ⟨_,if_pos trivial,?_⟩
  show Fk s.size 1 8=_
  cases hr:Fk s.size 1 8 with
  |true=>rw [Bs] at hr;exact Hd ⟨by omega,hR⟩
  |false=>refine Bb fun hh=>?_;rw [Bs.2 ⟨by omega,by omega⟩] at hr;cases hr
theorem Al3:Sound Try.prog 158 Po:=
 Sound.mkS Ca (Ad Ly Ba) mixed Try.func158 (by kernel_rfl) (by kernel_rfl) fun x h=>Axo x.1 h
theorem Avr {p:PP} (h:Bm p=true):1≤p.1∧p.1≤20∧1≤p.2.2.1.length∧p.2.2.1.length≤8:=by
 obtain ⟨h1,h2,h3⟩:=Fy.1 h
 obtain ⟨h4,h5,_⟩:=Fy.1 h1
 obtain ⟨h6,_⟩:=Fy.1 h2
 omega
theorem Aol (p:PP) (h:Ec p):fnW tab (look [(148,Ih),(149,Tx)]) Ei Try.f99 (p,()) (fun (z:Bool)=>z=Bm p):=by
 obtain ⟨hn,hg⟩:=h
 refine Eq.mp (Apu p _) ⟨fun h0=>?_,fun h0=>⟨fun h1=>?_,fun h1=>⟨_,if_pos hg,⟨fun h2=>?_,fun h2=>?_⟩⟩⟩⟩
 ·simp only [beq_iff_eq] at h0
  exact Bb fun hh=>by obtain ⟨_,h2,h3⟩:=hh;have:=(Fy.1 h2).1;omega
 ·simp only [bne_iff_ne,ne_eq,Int.natCast_inj] at h1
  exact Bb fun hh=>h1 hh.2.2
 ·have h2:=Cz h2
  exact Bb fun hh=>h2 hh.1
 ·simp only [beq_eq_false_iff_ne,ne_eq] at h0
  simp only [bne_eq_false_iff_eq,Int.natCast_inj] at h1
  have h2:Ns p.1 p.2.2.1=true:=Ed h2
  refine Ao p.2.1.size (fun v=>v.1) (fun j v=>v.2=(p.1,p.2.1,p.2.2.1,())∧ ∀k,k<j→An4 p.2.1 k) rfl ⟨rfl,fun k hk=>absurd hk (Nat.not_lt_zero _)⟩ ?_
  rintro j ⟨i,v⟩ K hj hi ⟨hv,hR⟩ hK
  dsimp only at hi hv⊢
  subst hi hv
  dsimp only
  refine Br.dec (fun hl=>?_) fun hl=>?_
  ·have hl:j<p.2.1.size:=by omega
   refine ⟨_,if_pos ⟨Int.natCast_nonneg j,Int.ofNat_lt.2 hl,hn⟩,⟨fun hq=>?_,fun hq=>?_⟩⟩
   ·have hq: ¬Adj p.2.1 j=true:=Cz hq
    refine Bb fun hh=>hq (Fy.2 ?_)
    rw [Int.toNat_natCast]
    exact (Fy.1 hh.2.1).2 j hl
   ·have hq:Adj p.2.1 j=true:=Ed hq
    have hq:=Fy.1 hq
    rw [Int.toNat_natCast] at hq
    rw [Am (by omega)]
    refine hK hl _ rfl ⟨rfl,fun k hk=>?_⟩
    by_cases e:k=j
    ·subst e;exact hq
    ·exact hR k (by omega)
  ·have:j=p.2.1.size:=by omega
   subst this
   have:=(Fy.1 h2).2.1
   exact Hd ⟨h2,Fy.2 ⟨⟨by omega,by omega⟩,hR⟩,h1⟩
theorem Ud:Sound Try.prog 99 Ei:=
 Sound.mkS Ca (Ad Afj (Ad Ap5 Ba)) mixed Try.func99 (by kernel_rfl) (by kernel_rfl) fun x h=>Aol x.1 h
theorem Aoh (p:PP) (h:Ec p):fnW tab (look [(157,Ih),(158,Po)]) Ei Try.f124 (p,()) (fun (z:Bool)=>z=Bm p):=by
 obtain ⟨hn,hg⟩:=h
 refine Eq.mp (Apq p _) ⟨_,if_pos hg,⟨fun h1=>⟨_,if_pos hn,⟨fun h2=>?_,fun h2=>?_⟩⟩,fun h1=>?_⟩⟩
 ·have h1:Ns p.1 p.2.2.1=true:=h1
  have h2:Ts p.2.1=true:=h2
  by_cases e:p.2.1.size=p.2.2.1.length
  ·rw [e,beq_self_eq_true];exact Hd ⟨h1,h2,e⟩
  ·rw [show ((p.2.1.size:Int)==(p.2.2.1.length:Int))=false from beq_eq_false_iff_ne.2 (by omega)];exact Bb fun hh=>e hh.2.2
 ·have h2:Ts p.2.1=false:=h2
  exact Bb fun hh=>by rw [hh.2.1] at h2;cases h2
 ·have h1:Ns p.1 p.2.2.1=false:=h1
  exact Bb fun hh=>by rw [hh.1] at h1;cases h1
theorem Ub:Sound Try.prog 124 Ei:=
 Sound.mkS Ca (Ad Afg (Ad Al3 Ba)) mixed Try.func124 (by kernel_rfl) (by kernel_rfl) fun x h=>Aoh x.1 h
theorem Bdi (p:PP) (room:Int) (h:Ec p∧roomy room):fnW tab (look [(33,Afc)]) Amv Try.f15 (p,room,()) (fun (z:Int)=>z=Yi p room):=by
 obtain ⟨⟨h1,h2⟩,h3,h4⟩:=h
 refine Eq.mp (Bdw p room _) ?_
 rw [Bz (by omega) (by omega)]
 refine Br.dec (fun hn=>?_) fun hn=>⟨_,if_pos ⟨h2,by dsimp only;omega,by dsimp only;omega⟩,Br.dec (fun hm=>?_) fun hm=>?_⟩
 ·simp only [Yi,if_pos hn]
 ·exact ((if_neg hn).trans (if_pos hm)).symm
 ·exact ((if_neg hn).trans (if_neg hm)).symm
theorem Aya:Sound Try.prog 15 Amv:=
 Sound.mkS Ca (Ad Avk Ba) mixed Try.func15 (by kernel_rfl) (by kernel_rfl) fun x h=>Bdi x.1 x.2.1 h
theorem Bdk (p:PP) (h:Ec p):fnW tab (look [(35,Afd)]) Agi Try.f17 (p,()) (fun (z:PP)=>z=p):=Eq.mp (Bdy p _) ⟨_,if_pos h.2,rfl⟩
theorem Ayb:Sound Try.prog 17 Agi:=
 Sound.mkS Ca (Ad Avl Ba) mixed Try.func17 (by kernel_rfl) (by kernel_rfl) fun x h=>Bdk x.1 h
theorem Aqd {a b:ByteArray} :(a.toList==b.toList)=decide (a=b):=by
 rw [Bool.eq_iff_iff,beq_iff_eq,decide_eq_true_iff,ByteArray.toList_eq,ByteArray.toList_eq]
 exact ⟨fun h=>ByteArray.ext (Array.toList_inj.1 h),fun h=>by rw [h]⟩
theorem Bde (a b:PP) (h:Ec a):fnW tab (look [(37,Afa)]) Amr Try.f20 (a,b,()) (fun (z:Bool)=>z=Ag6 a b):=by
 refine Eq.mp (Bds a b _) ⟨fun h1=>?_,fun h1=>⟨fun h2=>?_,fun h2=>⟨_,if_pos h.2,⟨fun h3=>?_,fun h3=>?_⟩⟩⟩⟩
 ·simp only [bne_iff_ne,ne_eq] at h1
  unfold Ag6
  rw [decide_eq_false h1];rfl
 ·rw [Aqd] at h2
  unfold Ag6
  cases hd:decide (a.2.1=b.2.1)<;>simp_all
 ·have h3:(!Aew a.2.2.1 b.2.2.1)=true:=h3
  simp only [Aew,Bool.not_eq_true'] at h3
  unfold Ag6
  rw [h3];simp
 ·have h3:(!Aew a.2.2.1 b.2.2.1)=false:=h3
  rw [Aqd] at h2
  simp only [Aew] at h3
  simp only [bne_eq_false_iff_eq] at h1
  unfold Ag6
  simp_all
theorem Ay6:Sound Try.prog 20 Amr:=
 Sound.mkS Ca (Ad Avi Ba) mixed Try.func20 (by kernel_rfl) (by kernel_rfl) fun x h=>Bde x.1 x.2.1 h
theorem Auh (p:PP):Ag6 p p=true:=by simp [Ag6]
end Go.Proofs.Ytebabhocakedaaa

namespace Go.Proofs.Ytebabhocakedaaa
open Go.RowKit
def Jt (xs:List Int) (i:Int):Int:=xs.getD i.toNat 0
def Aa (p q:List Int):List Int:=p.map (Jt q)
def Re (f:Nat→Nat) (g:Nat→Int) (m:Nat) (init:List Int):List Int:=(List.range m).foldl (fun (out:List Int) (i:Nat)=>out.set (f i) (g i)) init
def Ah (p:List Int):List Int:=Re (fun i=>(Jt p (i:Int)).toNat) (fun i=>(i:Int)) p.length (List.replicate p.length 0)
def Ja (n:Nat) (p:List Int):Prop:= ∀y∈p,0≤y∧y<n
noncomputable abbrev Pn:Spec:=mkS (.pair tL (.pair tL .unit)) tL false true (fun x=>List.length x.1≤20∧Ja (List.length x.2.1) x.1) (fun x=>Aa x.1 x.2.1)
noncomputable abbrev Dn:Spec:=mkS (.pair tL .unit) tL false true (fun x=>List.length x.1≤20∧Ja (List.length x.1) x.1) (fun x=>Ah x.1)
noncomputable abbrev Bq:Spec:=mkS (.pair tI .unit) tL false true (fun x=>0≤x.1∧x.1≤20) (fun x=>upto x.1.toNat)
noncomputable abbrev Io:Spec:=mkS (.pair tL .unit) tL false true (fun x=>Hf x.1=true) (fun x=>Ah x.1)
def Af (g:List (List Int)) (l:Int):List Int:=if l>0 then g.getD (l-1).toNat [] else Ah (g.getD (-l-1).toNat [])
def Ft (n:Int) (l:Int):Prop:=l≠0∧ -n≤l∧l≤n
noncomputable abbrev Mt:Spec:=mkS (.pair tLL (.pair tI .unit)) tL false false (fun x=>Ft (List.length x.1) x.2.1∧List.length x.1≤8∧ ∀p∈x.1,Hf p=true) (fun x=>Af x.1 x.2.1)
def Bc (n:Nat):List Int:=(List.range n).flatMap fun (k:Nat)=> [(k:Int)+1,-((k:Int)+1)]
noncomputable abbrev Jl:Spec:=mkS (.pair tI .unit) tL false true (fun x=>0≤x.1∧x.1≤8) (fun x=>Bc x.1.toNat)
noncomputable abbrev Tw:Spec:=mkS (.pair Ds (.pair tL (.pair tI .unit))) tL false true (fun x=>Bm x.1=true∧List.length x.2.1≤20∧(∀y∈x.2.1,0≤y∧y<x.1.1)∧Ft (List.length x.1.2.2.1) x.2.2.1) (fun x=>Aa x.2.1 (Af x.1.2.2.1 x.2.2.1))
theorem Alc (p q:List Int) (P:List Int→Prop):(((0:Int)≤(↑p.length:Int)∧(↑p.length:Int)<(↑As:Int)+(1:Int))∧
 (↑p.length:Int)=(↑p.length:Int)∧
  (0:Nat)=(0:Nat)∧
   (List.replicate (↑p.length:Int).toNat (Int.ofNat (nat_lit 0))).length=(List.replicate (↑p.length:Int).toNat (Int.ofNat (nat_lit 0))).length∧
    Cb
     (fun (v3:Int×List Int×PUnit) (k4:Int×List Int×PUnit→Prop)=>
      Br (decide (v3.1<(↑p.length:Int)))
       (∃(y5:Int),
        idx p v3.1=some y5∧
         ∃(y6:Int),
          idx q y5=some y6∧
           ((0:Int)≤v3.1∧v3.1<(↑v3.2.1.length:Int))∧
            (0:Nat)+v3.1.toNat<v3.2.1.length∧
             (0:Nat)=(0:Nat)∧
              v3.2.1.length=(v3.2.1.set ((0:Nat)+v3.1.toNat) y6).length∧k4 (IntKind.i64.wrap (v3.1+(1:Int)),v3.2.1.set ((0:Nat)+v3.1.toNat) y6,()))
       (P (List.take v3.2.1.length (List.drop (0:Nat) v3.2.1))))
     ((0:Int),List.replicate (↑p.length:Int).toNat (Int.ofNat (nat_lit 0)),PUnit.unit))=fnW tab (look []) Pn Try.f131 (p,q,()) P:=by kernel_rfl
theorem Ald (p:List Int) (P:List Int→Prop):(((0:Int)≤(↑p.length:Int)∧(↑p.length:Int)<(↑As:Int)+(1:Int))∧
 (↑p.length:Int)=(↑p.length:Int)∧
  (0:Nat)=(0:Nat)∧
   (List.replicate (↑p.length:Int).toNat (Int.ofNat (nat_lit 0))).length=(List.replicate (↑p.length:Int).toNat (Int.ofNat (nat_lit 0))).length∧
    Cb
     (fun (v2:Int×List Int×PUnit) (k3:Int×List Int×PUnit→Prop)=>
      Br (decide (v2.1<(↑p.length:Int)))
       (∃(y4:Int),
        idx p v2.1=some y4∧
         ((0:Int)≤y4∧y4<(↑v2.2.1.length:Int))∧
          (0:Nat)+y4.toNat<v2.2.1.length∧
           (0:Nat)=(0:Nat)∧
            v2.2.1.length=(v2.2.1.set ((0:Nat)+y4.toNat) v2.1).length∧k3 (IntKind.i64.wrap (v2.1+(1:Int)),v2.2.1.set ((0:Nat)+y4.toNat) v2.1,()))
       (P (List.take v2.2.1.length (List.drop (0:Nat) v2.2.1))))
     ((0:Int),List.replicate (↑p.length:Int).toNat (Int.ofNat (nat_lit 0)),PUnit.unit))=fnW tab (look []) Dn Try.f165 (p,()) P:=by kernel_rfl
theorem Ayr (p:List Int) (P:List Int→Prop):(((0:Int)≤(↑p.length:Int)∧(↑p.length:Int)<(↑As:Int)+(1:Int))∧
 (↑p.length:Int)=(↑p.length:Int)∧
  (0:Nat)=(0:Nat)∧
   (List.replicate (↑p.length:Int).toNat (Int.ofNat (nat_lit 0))).length=(List.replicate (↑p.length:Int).toNat (Int.ofNat (nat_lit 0))).length∧
    Cb
     (fun (v2:Int×List Int×PUnit) (k3:Int×List Int×PUnit→Prop)=>
      Br (decide (v2.1<(↑p.length:Int)))
       (∃(y4:Int),
        idx p v2.1=some y4∧
         ((0:Int)≤y4∧y4<(↑v2.2.1.length:Int))∧
          (0:Nat)+y4.toNat<v2.2.1.length∧
           (0:Nat)=(0:Nat)∧
            v2.2.1.length=(v2.2.1.set ((0:Nat)+y4.toNat) v2.1).length∧k3 (IntKind.i64.wrap (v2.1+(1:Int)),v2.2.1.set ((0:Nat)+y4.toNat) v2.1,()))
       (P (List.take v2.2.1.length (List.drop (0:Nat) v2.2.1))))
     ((0:Int),List.replicate (↑p.length:Int).toNat (Int.ofNat (nat_lit 0)),PUnit.unit))=fnW tab (look []) Dn Try.f175 (p,()) P:=by kernel_rfl
theorem Alh (p:List Int) (P:List Int→Prop):(∃(y2:Bool),Fv.fn (p,())=some y2∧Br (!y2) (P (List.take (0:Nat) (List.drop (0:Nat) []))) (∃(y3:List Int),Dn.fn (p,())=some y3∧P y3))=fnW tab (look [(169,Fv),(175,Dn)]) Io Try.f160 (p,()) P:=by kernel_rfl
theorem Avv (n:Int) (P:List Int→Prop):((0:Nat)=(0:Nat)∧
 (0:Nat)=([]:List Int).length∧
  Cb
   (fun (v2:Int×List Int×PUnit) (k3:Int×List Int×PUnit→Prop)=>
    Br (decide (v2.1<n))
     ((0:Nat)=(0:Nat)∧
      v2.2.1.length=v2.2.1.length∧
       v2.2.1.length+(List.take (1:Nat) (List.drop (0:Nat) [v2.1])).length≤As∧
        (0:Nat)=(0:Nat)∧
         (v2.2.1++List.take (1:Nat) (List.drop (0:Nat) [v2.1])).length=(v2.2.1++List.take (1:Nat) (List.drop (0:Nat) [v2.1])).length∧
          k3 (IntKind.i64.wrap (v2.1+(1:Int)),v2.2.1++List.take (1:Nat) (List.drop (0:Nat) [v2.1]),()))
     (P (List.take v2.2.1.length (List.drop (0:Nat) v2.2.1))))
   ((0:Int),[],PUnit.unit))=fnW tab (look []) Bq Try.f106 (n,()) P:=by kernel_rfl
theorem Avw (g:List (List Int)) (l:Int) (P:List Int→Prop):(Br (decide (l>(0:Int))) (∃(y3:List Int),idx g (IntKind.i64.wrap (l-(1:Int)))=some y3∧P y3)
 (∃(y3:List Int),idx g (IntKind.i64.wrap (IntKind.i64.wrap ((0:Int)-l)-(1:Int)))=some y3∧ ∃(y4:List Int),Dn.fn (y3,())=some y4∧P y4))=fnW tab (look [(165,Dn)]) Mt Try.f155 (g,l,()) P:=by kernel_rfl
theorem Ayn (n:Int) (P:List Int→Prop):((0:Nat)=(0:Nat)∧
 (0:Nat)=([]:List Int).length∧
  Cb
   (fun (v2:Int×List Int×PUnit) (k3:Int×List Int×PUnit→Prop)=>
    Br (decide (v2.1<n))
     ((0:Nat)=(0:Nat)∧
      v2.2.1.length=v2.2.1.length∧
       v2.2.1.length+(List.take (2:Nat) (List.drop (0:Nat) [IntKind.i64.wrap (v2.1+(1:Int)),IntKind.i64.wrap ((0:Int)-IntKind.i64.wrap (v2.1+(1:Int)))])).length≤
         As∧
        (0:Nat)=(0:Nat)∧
         (v2.2.1++List.take (2:Nat) (List.drop (0:Nat) [IntKind.i64.wrap (v2.1+(1:Int)),IntKind.i64.wrap ((0:Int)-IntKind.i64.wrap (v2.1+(1:Int)))])).length=
           (v2.2.1++List.take (2:Nat) (List.drop (0:Nat) [IntKind.i64.wrap (v2.1+(1:Int)),IntKind.i64.wrap ((0:Int)-IntKind.i64.wrap (v2.1+(1:Int)))])).length∧
          k3
           (IntKind.i64.wrap (v2.1+(1:Int)),
            v2.2.1++List.take (2:Nat) (List.drop (0:Nat) [IntKind.i64.wrap (v2.1+(1:Int)),IntKind.i64.wrap ((0:Int)-IntKind.i64.wrap (v2.1+(1:Int)))]),()))
     (P (List.take v2.2.1.length (List.drop (0:Nat) v2.2.1))))
   ((0:Int),[],PUnit.unit))=fnW tab (look []) Jl Try.f112 (n,()) P:=by kernel_rfl
theorem Bap (p:Int×ByteArray×List (List Int)×Unit) (s:List Int) (l:Int) (P:List Int→Prop):(∃(y4:List Int),
 idx p.2.2.1
    (IntKind.i64.wrap
     ((if true=true then if IntKind.i64.wrap ((0:Int)-l)>l then IntKind.i64.wrap ((0:Int)-l) else l
      else if IntKind.i64.wrap ((0:Int)-l)<l then IntKind.i64.wrap ((0:Int)-l) else l)-
      (1:Int)))=
   some y4∧
  Br (decide (l<(0:Int)))
   (∃(y5:List Int),
    Io.fn (y4,())=some y5∧
     (0:Nat)=(0:Nat)∧
      (0:Nat)=([]:List Int).length∧
       Cb
        (fun (v6:Int×List Int×PUnit) (k7:Int×List Int×PUnit→Prop)=>
         Br (decide (v6.1<(↑s.length:Int)))
          (∃(y8:Int),
           idx s v6.1=some y8∧
            ∃(y9:Int),
             idx y5 y8=some y9∧
              (0:Nat)=(0:Nat)∧
               v6.2.1.length=v6.2.1.length∧
                v6.2.1.length+(List.take (1:Nat) (List.drop (0:Nat) [y9])).length≤As∧
                 (0:Nat)=(0:Nat)∧
                  (v6.2.1++List.take (1:Nat) (List.drop (0:Nat) [y9])).length=(v6.2.1++List.take (1:Nat) (List.drop (0:Nat) [y9])).length∧
                   k7 (IntKind.i64.wrap (v6.1+(1:Int)),v6.2.1++List.take (1:Nat) (List.drop (0:Nat) [y9]),()))
          (P (List.take v6.2.1.length (List.drop (0:Nat) v6.2.1))))
        ((0:Int),[],PUnit.unit))
   ((0:Nat)=(0:Nat)∧
    (0:Nat)=([]:List Int).length∧
     Cb
      (fun (v5:Int×List Int×PUnit) (k6:Int×List Int×PUnit→Prop)=>
       Br (decide (v5.1<(↑s.length:Int)))
        (∃(y7:Int),
         idx s v5.1=some y7∧
          ∃(y8:Int),
           idx y4 y7=some y8∧
            (0:Nat)=(0:Nat)∧
             v5.2.1.length=v5.2.1.length∧
              v5.2.1.length+(List.take (1:Nat) (List.drop (0:Nat) [y8])).length≤As∧
               (0:Nat)=(0:Nat)∧
                (v5.2.1++List.take (1:Nat) (List.drop (0:Nat) [y8])).length=(v5.2.1++List.take (1:Nat) (List.drop (0:Nat) [y8])).length∧
                 k6 (IntKind.i64.wrap (v5.1+(1:Int)),v5.2.1++List.take (1:Nat) (List.drop (0:Nat) [y8]),()))
        (P (List.take v5.2.1.length (List.drop (0:Nat) v5.2.1))))
      ((0:Int),[],PUnit.unit)))=fnW tab (look [(160,Io)]) Tw Try.f129 (p,s,l,()) P:=by kernel_rfl
theorem Gh {xs:List Int} {i:Nat} (h:i<xs.length):Jt xs (i:Int)=xs[i]:=by
 unfold Jt
 rw [Int.toNat_natCast,List.getD_eq_getElem?_getD,List.getElem?_eq_getElem h];rfl
theorem Aie {xs:List Int} {y:Int} (h0:0≤y) (h:y<xs.length):idx xs y=some (Jt xs y):=by
 have hy:y.toNat<xs.length:=by omega
 have e:y=(y.toNat:Int):=by omega
 rw [e,Az hy,Gh hy]
theorem Ow (f:Nat→Nat) (g:Nat→Int) (m:Nat) (init:List Int):Re f g (m+1) init=(Re f g m init).set (f m) (g m):=by simp [Re,List.range_succ]
theorem Rf (f:Nat→Nat) (g:Nat→Int) (m:Nat) (init:List Int):(Re f g m init).length=init.length:=by
 induction m with
 |zero=>rfl
 |succ m ih=>rw [Ow,List.length_set,ih]
theorem Afw (f:Nat→Nat) (g:Nat→Int) (init:List Int): ∀(m:Nat),(∀i j,i<m→j<m→f i=f j→i=j)→ ∀i,i<m→f i<init.length→(Re f g m init)[f i]?=some (g i)
 |0,_,i,h,_=>absurd h (Nat.not_lt_zero _)
 |m+1,hf,i,hi,hl=>by
  rw [Ow]
  by_cases e:i=m
  ·subst e
   exact List.getElem?_set_self (by rw [Rf];exact hl)
  ·rw [List.getElem?_set_ne (fun h=>e (hf i m hi (by omega) h.symm))]
   exact Afw f g init m (fun a b ha hb=>hf a b (by omega) (by omega)) i (by omega) hl
structure Sf (p:List Int):Prop where
 pos:1≤p.length
 len:p.length≤20
 row:Ja p.length p
 nodup:p.Nodup
theorem Aj3 {p:List Int} (h:Hf p=true):Sf p:=by
 obtain ⟨h1,h2,h3⟩:=Fy.1 h
 refine ⟨h1,h2,fun y hy=>?_,Yj fun j hj=>(h3 j hj hj).2.2⟩
 obtain ⟨j,hj,rfl⟩:=List.mem_iff_getElem.1 hy
 have:=h3 j hj hj
 omega
theorem Sf.inj {p:List Int} (h:Sf p) (i j:Nat) (hi:i<p.length) (hj:j<p.length) (e:(Jt p (i:Int)).toNat=(Jt p (j:Int)).toNat):i=j:=by
 rw [Gh hi,Gh hj] at e
 have h1:=h.row _ (List.getElem_mem hi)
 have h2:=h.row _ (List.getElem_mem hj)
 have e:p[i]=p[j]:=by omega
 refine Classical.byContradiction fun hne=>?_
 rcases Nat.lt_or_gt_of_ne hne with hl|hl
 ·exact List.pairwise_iff_getElem.1 h.nodup i j hi hj hl e
 ·exact List.pairwise_iff_getElem.1 h.nodup j i hj hi hl e.symm
theorem Sf.Azt {p:List Int} (h:Sf p) (k:Nat) (hk:k<p.length): ∃i,i<p.length∧(Jt p (i:Int)).toNat=k:=by
 have hm:=(Sh (xs:=p) h.row).2 (Ak1 h.nodup) k hk
 obtain ⟨i,hi,e⟩:=List.mem_iff_getElem.1 hm
 exact ⟨i,hi,by rw [Gh hi,e];exact Int.toNat_natCast k⟩
theorem Sf.lt {p:List Int} (h:Sf p) {i:Nat} (hi:i<p.length):(Jt p (i:Int)).toNat<p.length:=by
 rw [Gh hi]
 have:=h.row _ (List.getElem_mem hi)
 omega
theorem Ahc (p:List Int):(Ah p).length=p.length:=by unfold Ah;rw [Rf,List.length_replicate]
theorem Azg {p:List Int} (h:Sf p) {i:Nat} (hi:i<p.length):(Ah p)[(Jt p (i:Int)).toNat]?=some (i:Int):=
 Afw (fun i=>(Jt p (i:Int)).toNat) (fun i=>(i:Int)) _ p.length (fun i j hi hj=>h.inj i j hi hj) i hi (by rw [List.length_replicate];exact h.lt hi)
theorem Bb4 {p:List Int} (h:Sf p):Ja p.length (Ah p):=by
 intro y hy
 obtain ⟨k,hk,rfl⟩:=List.mem_iff_getElem.1 hy
 have hk':k<p.length:=by rw [Ahc] at hk;exact hk
 obtain ⟨i,hi,rfl⟩:=h.Azt k hk'
 have:=Azg h hi
 rw [List.getElem?_eq_getElem hk] at this
 rw [Option.some.inj this]
 omega
theorem Rb (p q:List Int):(Aa p q).length=p.length:=by simp [Aa]
theorem Aqj {p q:List Int} {n:Nat} (hp:Ja q.length p) (hq:Ja n q):Ja n (Aa p q):=by
 intro y hy
 obtain ⟨x,hx,rfl⟩:=List.mem_map.1 hy
 have h1:=hp x hx
 rw [show x=(x.toNat:Int) by omega,Gh (by omega)]
 exact hq _ (List.getElem_mem _)
theorem Akm (p q:List Int) (h:p.length≤20∧Ja q.length p):fnW tab (look []) Pn Try.f131 (p,q,()) (fun (z:List Int)=>z=Aa p q):=by
 obtain ⟨h,hr⟩:=h
 refine Eq.mp (Alc p q _) ?_
 refine ⟨⟨by omega,by show (p.length:Int)<(4294967296:Int)+1;omega⟩,rfl,rfl,rfl,?_⟩
 have hcl:=Rb p q
 refine Ao p.length (fun v=>v.1) (fun j v=>v.2.1.length=(Aa p q).length∧v.2.1.take j=(Aa p q).take j) rfl ⟨by rw [hcl];simp,by simp⟩ ?_
 rintro j ⟨i,ys,⟨⟩⟩ K hj hi ⟨h1,h2⟩ hK
 dsimp only at hi h1 h2⊢
 subst hi
 refine Br.dec (fun hl=>?_) fun hl=>?_
 ·have hl:j<p.length:=by omega
  have hy:=hr _ (List.getElem_mem hl)
  refine ⟨_,Az hl,_,Aie hy.1 hy.2,⟨by omega,by omega⟩,by rw [Int.toNat_natCast];omega,rfl,by rw [List.length_set],?_⟩
  rw [Am (by omega),Int.toNat_natCast,Nat.zero_add]
  have hl':j<(Aa p q).length:=by rw [hcl];exact hl
  have e:Jt q p[j]=(Aa p q)[j]:=by simp [Aa]
  rw [e]
  exact hK hl _ rfl ⟨by rw [List.length_set];exact h1,Ni hl' h1 h2⟩
 ·have:j=p.length:=by omega
  subst this
  rw [←hcl,List.take_length,←h1,List.take_length] at h2
  rw [List.drop_zero,List.take_length]
  exact h2
theorem Lw:Sound Try.prog 131 Pn:=
 Sound.mkS Ca Ba mixed Try.func131 (by kernel_rfl) (by kernel_rfl) fun x h=>Akm x.1 x.2.1 h
theorem Akn (p:List Int) (h:p.length≤20∧Ja p.length p):fnW tab (look []) Dn Try.f165 (p,()) (fun (z:List Int)=>z=Ah p):=by
 obtain ⟨h,hr⟩:=h
 refine Eq.mp (Ald p _) ?_
 refine ⟨⟨by omega,by show (p.length:Int)<(4294967296:Int)+1;omega⟩,rfl,rfl,rfl,?_⟩
 refine Ao p.length (fun v=>v.1) (fun j v=>v.2.1=Re (fun i=>(Jt p (i:Int)).toNat) (fun i=>(i:Int)) j (List.replicate p.length 0)) rfl rfl ?_
 rintro j ⟨i,ys,⟨⟩⟩ K hj hi h1 hK
 dsimp only at hi h1⊢
 subst hi
 have hlen:ys.length=p.length:=by rw [h1,Rf,List.length_replicate]
 refine Br.dec (fun hl=>?_) fun hl=>?_
 ·have hl:j<p.length:=by omega
  have hy:=hr _ (List.getElem_mem hl)
  refine ⟨_,Az hl,⟨by omega,by omega⟩,by omega,rfl,by rw [List.length_set],?_⟩
  rw [Am (by omega),Nat.zero_add]
  refine hK hl _ rfl ?_
  rw [Ow,←h1,Gh hl]
 ·have:j=p.length:=by omega
  subst this
  rw [List.drop_zero,List.take_length]
  exact h1
theorem Lx:Sound Try.prog 165 Dn:=
 Sound.mkS Ca Ba mixed Try.func165 (by kernel_rfl) (by kernel_rfl) fun x h=>Akn x.1 h
theorem Axu (p:List Int) (h:p.length≤20∧Ja p.length p):fnW tab (look []) Dn Try.f175 (p,()) (fun (z:List Int)=>z=Ah p):=by
 obtain ⟨h,hr⟩:=h
 refine Eq.mp (Ayr p _) ?_
 refine ⟨⟨by omega,by show (p.length:Int)<(4294967296:Int)+1;omega⟩,rfl,rfl,rfl,?_⟩
 refine Ao p.length (fun v=>v.1) (fun j v=>v.2.1=Re (fun i=>(Jt p (i:Int)).toNat) (fun i=>(i:Int)) j (List.replicate p.length 0)) rfl rfl ?_
 rintro j ⟨i,ys,⟨⟩⟩ K hj hi h1 hK
 dsimp only at hi h1⊢
 subst hi
 have hlen:ys.length=p.length:=by rw [h1,Rf,List.length_replicate]
 refine Br.dec (fun hl=>?_) fun hl=>?_
 ·have hl:j<p.length:=by omega
  have hy:=hr _ (List.getElem_mem hl)
  refine ⟨_,Az hl,⟨by omega,by omega⟩,by omega,rfl,by rw [List.length_set],?_⟩
  rw [Am (by omega),Nat.zero_add]
  refine hK hl _ rfl ?_
  rw [Ow,←h1,Gh hl]
 ·have:j=p.length:=by omega
  subst this
  rw [List.drop_zero,List.take_length]
  exact h1
theorem Al6:Sound Try.prog 175 Dn:=
 Sound.mkS Ca Ba mixed Try.func175 (by kernel_rfl) (by kernel_rfl) fun x h=>Axu x.1 h
theorem Aks (p:List Int) (h:Hf p=true):fnW tab (look [(169,Fv),(175,Dn)]) Io Try.f160 (p,()) (fun (z:List Int)=>z=Ah p):=by
 have hp:=Aj3 h
 have hs:short p:=by have:=hp.len;unfold short;omega
 refine Eq.mp (Alh p _) ⟨_,if_pos hs,⟨fun he=>?_,fun _=>⟨_,if_pos ⟨hp.len,hp.row⟩,rfl⟩⟩⟩
 exact absurd h (Cz he)
theorem Ae4:Sound Try.prog 160 Io:=
 Sound.mkS Ca (Ad Uc (Ad Al6 Ba)) mixed Try.func160 (by kernel_rfl) (by kernel_rfl) fun x h=>Aks x.1 h
theorem Uf (j:Nat):upto (j+1)=upto j++ [(j:Int)]:=by simp [upto,List.range_succ]
theorem Auu (n:Int) (h:0≤n∧n≤20):fnW tab (look []) Bq Try.f106 (n,()) (fun (z:List Int)=>z=upto n.toNat):=by
 refine Eq.mp (Avv n _) ⟨rfl,rfl,?_⟩
 refine Ao n.toNat (fun v=>v.1) (fun j v=>v.2.1=upto j) rfl rfl ?_
 rintro j ⟨i,ys,⟨⟩⟩ K hj hi h1 hK
 dsimp only at hi h1⊢
 subst hi h1
 refine Br.dec (fun hl=>?_) fun hl=>?_
 ·refine ⟨rfl,rfl,?_,rfl,rfl,?_⟩
  ·show (upto j).length+1≤4294967296
   rw [Qv];omega
  ·rw [Am (by omega)]
   exact hK (by omega) _ rfl (Uf j).symm
 ·have:j=n.toNat:=by omega
  subst this
  rw [List.drop_zero,List.take_length]
theorem Ajm:Sound Try.prog 106 Bq:=
 Sound.mkS Ca Ba mixed Try.func106 (by kernel_rfl) (by kernel_rfl) fun x h=>Auu x.1 h
theorem Qk {g:List (List Int)} {k:Nat} (h:k<g.length):Af g ((k:Int)+1)=g[k]:=by
 unfold Af
 rw [if_pos (by omega),show ((k:Int)+1-1).toNat=k by omega,List.getD_eq_getElem?_getD,List.getElem?_eq_getElem h];rfl
theorem Qj {g:List (List Int)} {k:Nat} (h:k<g.length):Af g (-((k:Int)+1))=Ah g[k]:=by
 unfold Af
 rw [if_neg (by omega),show (-(-((k:Int)+1))-1).toNat=k by omega,List.getD_eq_getElem?_getD,List.getElem?_eq_getElem h];rfl
theorem Oz {n:Nat} {l:Int} (h:Ft n l): ∃k:Nat,k<n∧(l=(k:Int)+1∨l= -((k:Int)+1)):=by
 obtain ⟨h1,h2,h3⟩:=h
 by_cases h0:0<l
 ·exact ⟨(l-1).toNat,by omega, .inl (by omega)⟩
 ·exact ⟨(-l-1).toNat,by omega, .inr (by omega)⟩
theorem Auv (g:List (List Int)) (l:Int) (h:Ft (List.length g) l∧List.length g≤8∧ ∀p∈g,Hf p=true):fnW tab (look [(165,Dn)]) Mt Try.f155 (g,l,()) (fun (z:List Int)=>z=Af g l):=by
 obtain ⟨hl,h8,hp⟩:=h
 refine Eq.mp (Avw g l _) ?_
 obtain ⟨k,hk,rfl|rfl⟩:=Oz hl
 ·refine Br.dec (fun _=>?_) fun hn=>by omega
  rw [Bz (by omega) (by omega),show (k:Int)+1-1=(k:Int) by omega]
  exact ⟨_,Az hk,(Qk hk).symm⟩
 ·refine Br.dec (fun hn=>by omega) fun _=>?_
  rw [Bz (n:=0- -((k:Int)+1)) (by omega) (by omega),Bz (by omega) (by omega),show (0:Int)- -((k:Int)+1)-1=(k:Int) by omega]
  have:=Aj3 (hp _ (List.getElem_mem hk))
  exact ⟨_,Az hk,_,if_pos ⟨this.len,this.row⟩,(Qj hk).symm⟩
theorem Ajn:Sound Try.prog 155 Mt:=
 Sound.mkS Ca (Ad Lx Ba) mixed Try.func155 (by kernel_rfl) (by kernel_rfl) fun x h=>Auv x.1 x.2.1 h
theorem Qn (j:Nat):Bc (j+1)=Bc j++ [(j:Int)+1,-((j:Int)+1)]:=by simp [Bc,List.range_succ,List.flatMap_append]
theorem Ke (j:Nat):(Bc j).length=2*j:=by
 induction j with
 |zero=>rfl
 |succ j ih=>rw [Qn,List.length_append,ih];simp only [List.length_cons,List.length_nil];omega
theorem La {n:Nat} {l:Int} (h:l∈Bc n):Ft n l:=by
 unfold Bc at h
 obtain ⟨k,hk,hl⟩:=List.mem_flatMap.1 h
 have hk:=List.mem_range.1 hk
 simp only [List.mem_cons,List.not_mem_nil,or_false] at hl
 unfold Ft
 omega
theorem Axq (n:Int) (h:0≤n∧n≤8):fnW tab (look []) Jl Try.f112 (n,()) (fun (z:List Int)=>z=Bc n.toNat):=by
 refine Eq.mp (Ayn n _) ⟨rfl,rfl,?_⟩
 refine Ao n.toNat (fun v=>v.1) (fun j v=>v.2.1=Bc j) rfl rfl ?_
 rintro j ⟨i,ys,⟨⟩⟩ K hj hi h1 hK
 dsimp only at hi h1⊢
 subst hi h1
 refine Br.dec (fun hl=>?_) fun hl=>?_
 ·refine ⟨rfl,rfl,?_,rfl,rfl,?_⟩
  ·show (Bc j).length+2≤4294967296
   rw [Ke];omega
  ·have e1:IntKind.i64.wrap ((j:Int)+1)=(j:Int)+1:=Bz (by omega) (by omega)
   have e2:IntKind.i64.wrap ((0:Int)-((j:Int)+1))= -((j:Int)+1):=by rw [Bz (by omega) (by omega)];omega
   rw [e1,e2]
   exact hK (by omega) _ rfl (Qn j).symm
 ·have:j=n.toNat:=by omega
  subst this
  rw [List.drop_zero,List.take_length]
theorem Aav:Sound Try.prog 112 Jl:=
 Sound.mkS Ca Ba mixed Try.func112 (by kernel_rfl) (by kernel_rfl) fun x h=>Axq x.1 h
structure Valid (p:PP):Prop where
 n:1≤p.1∧p.1≤20
 few:1≤p.2.2.1.length∧p.2.2.1.length≤8
 perm: ∀m∈p.2.2.1,Hf m=true
 len: ∀m∈p.2.2.1,(m.length:Int)=p.1
theorem valid {p:PP} (h:Bm p=true):Valid p:=by
 have h0:=Avr h
 obtain ⟨h1,_,_⟩:=Fy.1 h
 obtain ⟨_,_,h4⟩:=Fy.1 h1
 exact ⟨⟨h0.1,h0.2.1⟩,h0.2.2,fun m hm=>(Fy.1 (h4 m hm)).2,fun m hm=>(Fy.1 (h4 m hm)).1⟩
theorem Aev {p:PP} (h:Valid p) {l:Int} (hl:Ft (List.length p.2.2.1) l):((Af p.2.2.1 l).length:Int)=p.1∧Ja (Af p.2.2.1 l).length (Af p.2.2.1 l):=by
 obtain ⟨k,hk,rfl|rfl⟩:=Oz hl
 ·rw [Qk hk]
  exact ⟨h.len _ (List.getElem_mem hk),(Aj3 (h.perm _ (List.getElem_mem hk))).row⟩
 ·rw [Qj hk,Ahc]
  exact ⟨h.len _ (List.getElem_mem hk),Bb4 (Aj3 (h.perm _ (List.getElem_mem hk)))⟩
theorem Aq4 (s y:List Int) (P:List Int→Prop) (h1:s.length≤20) (h2:Ja y.length s) (h3:P (Aa s y)):
  Cb
   (fun (v5:Int×List Int×PUnit) (k6:Int×List Int×PUnit→Prop)=>
    Br (decide (v5.1<(↑s.length:Int)))
     (∃(y7:Int),
      idx s v5.1=some y7∧
       ∃(y8:Int),
        idx y y7=some y8∧
         (0:Nat)=(0:Nat)∧
          v5.2.1.length=v5.2.1.length∧
           v5.2.1.length+(List.take (1:Nat) (List.drop (0:Nat) [y8])).length≤As∧
            (0:Nat)=(0:Nat)∧
             (v5.2.1++List.take (1:Nat) (List.drop (0:Nat) [y8])).length=(v5.2.1++List.take (1:Nat) (List.drop (0:Nat) [y8])).length∧
              k6 (IntKind.i64.wrap (v5.1+(1:Int)),v5.2.1++List.take (1:Nat) (List.drop (0:Nat) [y8]),()))
     (P (List.take v5.2.1.length (List.drop (0:Nat) v5.2.1))))
   ((0:Int),([]:List Int),PUnit.unit):=by
 refine Ao s.length (fun v=>v.1) (fun j v=>v.2.1=(s.take j).map (Jt y)) rfl (by simp) ?_
 rintro j ⟨i,ys,⟨⟩⟩ K hj hi hR hK
 dsimp only at hi hR⊢
 subst hi hR
 refine Br.dec (fun hl=>?_) fun hl=>?_
 ·have hl:j<s.length:=by omega
  have hy:=h2 _ (List.getElem_mem hl)
  refine ⟨_,Az hl,_,Aie hy.1 hy.2,rfl,rfl,?_,rfl,rfl,?_⟩
  ·show ((s.take j).map (Jt y)).length+1≤4294967296
   rw [List.length_map,List.length_take];omega
  ·rw [Am (by omega)]
   refine hK hl _ rfl ?_
   dsimp only
   rw [List.take_succ_eq_append_getElem hl,List.map_append]
   rfl
 ·have:j=s.length:=by omega
  subst this
  rw [List.drop_zero,List.take_length,List.take_length]
  exact h3
theorem Azw (p:PP) (s:List Int) (l:Int) (h:Bm p=true∧List.length s≤20∧(∀y∈s,0≤y∧y<p.1)∧Ft (List.length p.2.2.1) l):fnW tab (look [(160,Io)]) Tw Try.f129 (p,s,l,()) (fun (z:List Int)=>z=Aa s (Af p.2.2.1 l)):=by
 obtain ⟨hv,hs,hr,hl⟩:=h
 have hv:=valid hv
 have hf:=hv.few
 refine Eq.mp (Bap p s l _) ?_
 have hlo:=Aev hv hl
 have hrow:Ja (Af p.2.2.1 l).length s:=fun y hy=>by have:=hr y hy;omega
 obtain ⟨k,hk,rfl|rfl⟩:=Oz hl
 ·rw [if_pos rfl,Bz (n:=0-((k:Int)+1)) (by omega) (by omega),if_neg (by omega),Bz (by omega) (by omega),show (k:Int)+1-1=(k:Int) by omega]
  refine ⟨_,Az hk,Br.dec (fun hn=>by omega) fun _=>⟨rfl,rfl,?_⟩⟩
  rw [Qk hk] at hrow⊢
  exact Aq4 s _ (fun z=>z=Aa s p.2.2.1[k]) hs hrow rfl
 ·rw [if_pos rfl,Bz (n:=0- -((k:Int)+1)) (by omega) (by omega),if_pos (by omega),Bz (by omega) (by omega),show (0:Int)- -((k:Int)+1)-1=(k:Int) by omega]
  refine ⟨_,Az hk,Br.dec (fun _=>⟨_,if_pos (hv.perm _ (List.getElem_mem hk)),rfl,rfl,?_⟩) fun hn=>by omega⟩
  rw [Qj hk] at hrow⊢
  exact Aq4 s (Ah p.2.2.1[k]) (fun z=>z=Aa s (Ah p.2.2.1[k])) hs hrow rfl
theorem Ap4:Sound Try.prog 129 Tw:=
 Sound.mkS Ca (Ad Ae4 Ba) mixed Try.func129 (by kernel_rfl) (by kernel_rfl) fun x h=>Azw x.1 x.2.1 x.2.2.1 h
end Go.Proofs.Ytebabhocakedaaa

namespace Go.Proofs.Ytebabhocakedaaa
open Go.RowKit
abbrev rL:CK:= .row tI 2
def Nf:List (List Int)→Nat
 | []=>0
 |r::rs=>r.length+Nf rs
def low (k:Int):Prop:=0≤k∧k≤1099511627776
theorem Cp {α:Type} (xs:List α):List.take xs.length (List.drop 0 xs)=xs:=by rw [List.drop_zero,List.take_length]
end Go.Proofs.Ytebabhocakedaaa

namespace Go.Proofs.Ytebabhocakedaaa
open Go.RowKit
theorem Tr (a:List Int):Dd a a=true:=by simp [Dd]
theorem Bae {n:Nat} {room:Int} (h: ¬Aex n room<0):Aex n room=room-n∧(n:Int)≤room:=by
 unfold Aex at*
 split at h
 ·exact absurd (show (-1:Int)<0 by decide) h
 ·rename_i h1;rw [if_neg h1];exact ⟨rfl,by omega⟩
theorem Asu: ∀(xs:List (List Int)) (room:Int),0≤room→ ¬Ast xs room<0→Ast xs room=room-Nf xs
 | [],room,_,_=>by simp [Ast,Nf]
 |r::xs,room,h0,h=>by
  simp only [Ast,Nf] at h⊢
  split at h
  ·exact absurd (show (-1:Int)<0 by decide) h
  ·rename_i h1
   rw [if_neg h1]
   have e1:=Bae (n:=r.length) h1
   have e1:Adk r room=room-r.length∧(r.length:Int)≤room:=e1
   rw [Asu xs _ (by rw [e1.1];omega) h,e1.1]
   omega
theorem Bac {xs:List (List Int)} {room:Int} (h: ¬Sn xs room<0):Sn xs room=room-xs.length-Nf xs:=by
 unfold Sn at*
 split at h
 ·exact absurd (show (-1:Int)<0 by decide) h
 ·rename_i h1
  rw [if_neg h1]
  have e1:=Bae h1
  rw [Asu xs _ (by rw [e1.1];omega) h,e1.1]
end Go.Proofs.Ytebabhocakedaaa

namespace Go.Proofs.Ytebabhocakedaaa
open Go.RowKit
noncomputable abbrev Mq:Spec:=mkS (.pair tL .unit) tL false true (fun x=>short x.1) (fun x=>x.1)
theorem Avu (xs:List Int) (P:List Int→Prop):((0:Nat)=(0:Nat)∧(0:Nat)=([]:List Int).length∧(0:Nat)+xs.length≤As∧P (List.take ([]++xs).length (List.drop (0:Nat) ([]++xs))))=fnW tab (look []) Mq Try.f120 (xs,()) P:=by kernel_rfl
theorem Aut (xs:List Int) (h:short xs):fnW tab (look []) Mq Try.f120 (xs,()) (fun (z:List Int)=>z=xs):=by
 unfold short at h
 refine Eq.mp (Avu xs _) ⟨rfl,rfl,by show 0+xs.length≤4294967296;omega,?_⟩
 simp only [Cp,List.nil_append]
theorem Ajl:Sound Try.prog 120 Mq:=
 Sound.mkS Ca Ba mixed Try.func120 (by kernel_rfl) (by kernel_rfl) fun x h=>Aut x.1 h
end Go.Proofs.Ytebabhocakedaaa

namespace Go.Proofs.Ytebabhocakedaaa
open Go.RowKit
def Co (xs is:List Int):List Int:=is.map (Jt xs)
noncomputable abbrev Pq:Spec:=mkS (.pair tL (.pair tL .unit)) tL false true (fun x=>short x.1∧Ja (List.length x.2.1) x.1) (fun x=>Co x.2.1 x.1)
def Ky (xs:List Int):ByteArray:=bytesOf (xs.map fun x=>IntKind.u8.wrap x)
noncomputable abbrev Ek:Spec:=mkS (.pair tL .unit) .str false true (fun x=>short x.1) (fun x=>Ky x.1)
def Adr (ps:List (List Int)) (p:List Int):Int:=Fb (fun q=>decide (q=p)) ps 0
theorem Ayq (is xs:List Int) (P:List Int→Prop):((0:Nat)=(0:Nat)∧
 (0:Nat)=([]:List Int).length∧
  Cb
   (fun (v3:Int×List Int×PUnit) (k4:Int×List Int×PUnit→Prop)=>
    Br (decide (v3.1<(↑is.length:Int)))
     (∃(y5:Int),
      idx is v3.1=some y5∧
       ∃(y6:Int),
        idx xs y5=some y6∧
         (0:Nat)=(0:Nat)∧
          v3.2.1.length=v3.2.1.length∧
           v3.2.1.length+(List.take (1:Nat) (List.drop (0:Nat) [y6])).length≤As∧
            (0:Nat)=(0:Nat)∧
             (v3.2.1++List.take (1:Nat) (List.drop (0:Nat) [y6])).length=(v3.2.1++List.take (1:Nat) (List.drop (0:Nat) [y6])).length∧
              k4 (IntKind.i64.wrap (v3.1+(1:Int)),v3.2.1++List.take (1:Nat) (List.drop (0:Nat) [y6]),()))
     (P (List.take v3.2.1.length (List.drop (0:Nat) v3.2.1))))
   ((0:Int),[],PUnit.unit))=fnW tab (look []) Pq Try.f60 (is,xs,()) P:=by kernel_rfl
theorem Avz (xs:List Int) (P:ByteArray→Prop):(((0:Int)≤(↑xs.length:Int)∧(↑xs.length:Int)<(↑As:Int)+(1:Int))∧
 (↑xs.length:Int)=(↑xs.length:Int)∧
  (0:Nat)=(0:Nat)∧
   (List.replicate (↑xs.length:Int).toNat (Int.ofNat (nat_lit 0))).length=(List.replicate (↑xs.length:Int).toNat (Int.ofNat (nat_lit 0))).length∧
    Cb
     (fun (v2:Int×List Int×PUnit) (k3:Int×List Int×PUnit→Prop)=>
      Br (decide (v2.1<(↑xs.length:Int)))
       (∃(y4:Int),
        idx xs v2.1=some y4∧
         ((0:Int)≤v2.1∧v2.1<(↑v2.2.1.length:Int))∧
          (0:Nat)+v2.1.toNat<v2.2.1.length∧
           (0:Nat)=(0:Nat)∧
            v2.2.1.length=(v2.2.1.set ((0:Nat)+v2.1.toNat) (IntKind.u8.wrap y4)).length∧
             k3 (IntKind.i64.wrap (v2.1+(1:Int)),v2.2.1.set ((0:Nat)+v2.1.toNat) (IntKind.u8.wrap y4),()))
       (P (bytesOf (List.take v2.2.1.length (List.drop (0:Nat) v2.2.1)))))
     ((0:Int),List.replicate (↑xs.length:Int).toNat (Int.ofNat (nat_lit 0)),PUnit.unit))=fnW tab (look []) Ek Try.f111 (xs,()) P:=by kernel_rfl
theorem Adq (xs is:List Int):(Co xs is).length=is.length:=by simp [Co]
theorem Bb8 {α:Type} (y:α):List.take 1 (List.drop 0 [y])= [y]:=rfl
theorem Axt (is xs:List Int) (h:short is∧Ja xs.length is):fnW tab (look []) Pq Try.f60 (is,xs,()) (fun (z:List Int)=>z=Co xs is):=by
 obtain ⟨h,hr⟩:=h
 unfold short at h
 refine Eq.mp (Ayq is xs _) ⟨rfl,rfl,?_⟩
 have hcl:=Adq xs is
 refine Ao is.length (fun v=>v.1) (fun j v=>v.2.1=(Co xs is).take j) rfl rfl ?_
 rintro j ⟨i,ys,⟨⟩⟩ K hj hi h1 hK
 dsimp only at hi h1⊢
 subst hi
 refine Br.dec (fun hl=>?_) fun hl=>?_
 ·have hl:j<is.length:=by omega
  have hy:=hr _ (List.getElem_mem hl)
  have hl':j<(Co xs is).length:=by rw [hcl];exact hl
  refine ⟨_,Az hl,_,Aie hy.1 hy.2,rfl,rfl,?_,rfl,rfl,?_⟩
  ·show ys.length+1≤4294967296
   rw [h1,List.length_take];omega
  ·rw [Am (by omega),Bb8]
   refine hK hl _ rfl ?_
   dsimp only
   rw [h1,List.take_succ_eq_append_getElem hl']
   simp [Co]
 ·have:j=is.length:=by omega
  subst this
  rw [Cp,h1,←hcl,List.take_length]
theorem Al5:Sound Try.prog 60 Pq:=
 Sound.mkS Ca Ba mixed Try.func60 (by kernel_rfl) (by kernel_rfl) fun x h=>Axt x.1 x.2.1 h
theorem Auy (xs:List Int) (h:short xs):fnW tab (look []) Ek Try.f111 (xs,()) (fun (z:ByteArray)=>z=Ky xs):=by
 unfold short at h
 refine Eq.mp (Avz xs _) ?_
 refine ⟨⟨by omega,by show (xs.length:Int)<(4294967296:Int)+1;omega⟩,rfl,rfl,rfl,?_⟩
 have hcl:(xs.map fun x=>IntKind.u8.wrap x).length=xs.length:=by simp
 refine Ao xs.length (fun v=>v.1) (fun j v=>v.2.1.length=(xs.map fun x=>IntKind.u8.wrap x).length∧v.2.1.take j=(xs.map fun x=>IntKind.u8.wrap x).take j) rfl ⟨by rw [hcl];simp,by simp⟩ ?_
 rintro j ⟨i,ys,⟨⟩⟩ K hj hi ⟨h1,h2⟩ hK
 dsimp only at hi h1 h2⊢
 subst hi
 refine Br.dec (fun hl=>?_) fun hl=>?_
 ·have hl:j<xs.length:=by omega
  refine ⟨_,Az hl,⟨by omega,by omega⟩,by rw [Int.toNat_natCast];omega,rfl,by rw [List.length_set],?_⟩
  rw [Am (by omega),Int.toNat_natCast,Nat.zero_add]
  have hl':j<(xs.map fun x=>IntKind.u8.wrap x).length:=by rw [hcl];exact hl
  have e:IntKind.u8.wrap xs[j]=(xs.map fun x=>IntKind.u8.wrap x)[j]:=by simp
  rw [e]
  exact hK hl _ rfl ⟨by rw [List.length_set];exact h1,Ni hl' h1 h2⟩
 ·have:j=xs.length:=by omega
  subst this
  rw [←hcl,List.take_length,←h1,List.take_length] at h2
  rw [List.drop_zero,List.take_length,h2];rfl
theorem Ajs:Sound Try.prog 111 Ek:=
 Sound.mkS Ca Ba mixed Try.func111 (by kernel_rfl) (by kernel_rfl) fun x h=>Auy x.1 h
theorem Wm {α:Type} (P:α→Bool) (y:α): ∀(l:List α) (i:Int),0≤i→Fb P (l++ [y]) i=if Fb P l i<0 then (if P y=true then i+l.length else-1) else Fb P l i
 | [],i,_=>by simp [Fb]
 |x::r,i,h=>by
  simp only [List.cons_append,Fb,List.length_cons]
  split
  ·rw [if_neg (by omega)]
  ·rw [Wm P y r (i+1) (by omega),show i+1+(r.length:Int)=i+((r.length+1:Nat):Int) by push_cast;omega]
theorem Aon (ps:List (List Int)) (q p:List Int):Adr (ps++ [q]) p=if Adr ps p<0 then (if q=p then (ps.length:Int) else-1) else Adr ps p:=by
 unfold Adr
 rw [Wm _ _ _ _ (Int.le_refl 0)]
 simp only [decide_eq_true_eq,Int.zero_add]
def Pz (p:List Int):Prop:= ∀x∈p,0≤x∧x<256
theorem Az4 {x y:Int} (hx:0≤x∧x<256) (hy:0≤y∧y<256) (h:UInt8.ofNat (IntKind.u8.wrap x).toNat=UInt8.ofNat (IntKind.u8.wrap y).toNat):x=y:=by
 have h:=congrArg UInt8.toNat h
 simp only [IntKind.wrap_u8,UInt8.toNat_ofNat'] at h
 omega
theorem bytes_inj: ∀(p q:List Int),Pz p→Pz q→(p.map fun x=>UInt8.ofNat (IntKind.u8.wrap x).toNat)=(q.map fun x=>UInt8.ofNat (IntKind.u8.wrap x).toNat)→p=q
 | [],[],_,_,_=>rfl
 | [],_::_,_,_,h=>by simp at h
 |_::_,[],_,_,h=>by simp at h
 |x::p,y::q,hp,hq,h=>by
  simp only [List.map_cons,List.cons.injEq] at h
  rw [Az4 (hp x (by simp)) (hq y (by simp)) h.1,bytes_inj p q (fun z hz=>hp z (by simp [hz])) (fun z hz=>hq z (by simp [hz])) h.2]
theorem key_inj {p q:List Int} (hp:Pz p) (hq:Pz q) (h:Ky p=Ky q):p=q:=by
 refine bytes_inj p q hp hq ?_
 simp only [Ky,bytesOf,ByteArray.mk.injEq,List.map_map] at h
 have h:=congrArg Array.toList h
 simpa [Function.comp_def] using h
def KM (m:ByteArray→Option Int) (ps:List (List Int)):Prop:= ∀p,Pz p→m (Ky p)=if Adr ps p<0 then none else some (Adr ps p)
theorem KM.nil:KM (fun _=>none) []:=fun p _=>by
 rw [if_pos (by unfold Adr;simp [Fb])]
theorem KM.add {m:ByteArray→Option Int} {ps:List (List Int)} {q:List Int} (h:KM m ps) (hq:Pz q) (hn:Adr ps q<0):KM (Em m (Ky q) (ps.length:Int)) (ps++ [q]):=by
 intro p hp
 rw [Aon]
 unfold Em
 by_cases e:p=q
 ·subst e
  rw [if_pos rfl,if_pos hn,if_pos rfl,if_neg (by omega)]
 ·rw [if_neg (fun hk=>e (key_inj hp hq hk)),h p hp]
  have e': ¬q=p:=fun h=>e h.symm
  rw [if_neg e']
  by_cases hpn:Adr ps p<0
  ·rw [if_pos hpn,if_pos hpn,if_pos (by decide)]
  ·rw [if_neg hpn,if_neg hpn,if_neg hpn]
end Go.Proofs.Ytebabhocakedaaa

namespace Go.Proofs.Ytebabhocakedaaa
open Go.RowKit
noncomputable abbrev Lh:Spec:=mkS (.pair Ds .unit) tL false true (fun x=>List.length x.1.2.2.1≤8) (fun x=>Bc (List.length x.1.2.2.1))
theorem At8 (p:Int×ByteArray×List (List Int)×Unit) (P:List Int→Prop):((0:Nat)=(0:Nat)∧
 (0:Nat)=([]:List Int).length∧
  Cb
   (fun (v2:Int×Int×ByteArray×List (List Int)×List Int×PUnit) (k3:Int×Int×ByteArray×List (List Int)×List Int×PUnit→Prop)=>
    Br (decide (v2.1≤(↑v2.2.2.2.1.length:Int)))
     ((0:Nat)=(0:Nat)∧
      v2.2.2.2.2.1.length=v2.2.2.2.2.1.length∧
       v2.2.2.2.2.1.length+(List.take (2:Nat) (List.drop (0:Nat) [v2.1,IntKind.i64.wrap ((0:Int)-v2.1)])).length≤As∧
        (0:Nat)=(0:Nat)∧
         (v2.2.2.2.2.1++List.take (2:Nat) (List.drop (0:Nat) [v2.1,IntKind.i64.wrap ((0:Int)-v2.1)])).length=
           (v2.2.2.2.2.1++List.take (2:Nat) (List.drop (0:Nat) [v2.1,IntKind.i64.wrap ((0:Int)-v2.1)])).length∧
          k3
           (IntKind.i64.wrap (v2.1+(1:Int)),v2.2.1,v2.2.2.1,v2.2.2.2.1,
            v2.2.2.2.2.1++List.take (2:Nat) (List.drop (0:Nat) [v2.1,IntKind.i64.wrap ((0:Int)-v2.1)]),()))
     (P (List.take v2.2.2.2.2.1.length (List.drop (0:Nat) v2.2.2.2.2.1))))
   ((1:Int),p.1,p.2.1,p.2.2.1,[],PUnit.unit))=fnW tab (look []) Lh Try.f142 (p,()) P:=by kernel_rfl
theorem As5 (p:PP) (h:List.length p.2.2.1≤8):fnW tab (look []) Lh Try.f142 (p,()) (fun (z:List Int)=>z=Bc (List.length p.2.2.1)):=by
 refine Eq.mp (At8 p _) ⟨rfl,rfl,?_⟩
 refine Cb.mk (fun v=> ∃j:Nat,j≤List.length p.2.2.1∧v=((j:Int)+1,p.1,p.2.1,p.2.2.1,Bc j,())) (fun v=>List.length p.2.2.1+1-v.1.toNat) ⟨0,Nat.zero_le _,rfl⟩ ?_
 rintro _ ⟨j,hj,rfl⟩
 dsimp only
 refine Br.dec (fun hl=>?_) fun hl=>?_
 ·refine ⟨rfl,rfl,?_,rfl,rfl,⟨j+1,by omega,?_⟩,?_⟩
  ·show (Bc j).length+2≤4294967296
   rw [Ke];omega
  ·rw [Qn,Bz (n:=(j:Int)+1+1) (by omega) (by omega),Bz (n:=0-((j:Int)+1)) (by omega) (by omega),Int.zero_sub]
   rfl
  ·rw [Bz (by omega) (by omega)];omega
 ·have:j=List.length p.2.2.1:=by omega
  subst this
  rw [Cp]
theorem Ah1:Sound Try.prog 142 Lh:=
 Sound.mkS Ca Ba mixed Try.func142 (by kernel_rfl) (by kernel_rfl) fun x h=>As5 x.1 h
theorem Azf {a:Int} {P:Prop} (h:(a !=a)=true):P:=by simp at h
theorem Bad {p:PP} {room:Int} (hr:roomy room) (h: ¬Yi p room<0):(Nf p.2.2.1:Int)≤room-Yi p room∧roomy (Yi p room):=by
 unfold Yi at h⊢
 split at h
 ·exact absurd (show (-1:Int)<0 by decide) h
 ·rename_i h1
  rw [if_neg h1]
  split at h
  ·exact absurd (show (-1:Int)<0 by decide) h
  ·rename_i h2
   rw [if_neg h2]
   have e2:=Bac h2
   obtain ⟨r1,r2⟩:=hr
   unfold roomy
   omega
end Go.Proofs.Ytebabhocakedaaa

namespace Go.Proofs.Ytebabhocakedaaa
open Go.RowKit
def Ao6 (v:Int):List Int→Nat
 | []=>0
 |x::r=>if x>v then Ao6 v r+1 else 0
def Bb5 (v:Int) (t:List Int):Option (List Int):=if Ao6 v t=0 then none else some (Jt t ((Ao6 v t-1:Nat):Int)::(t.set (Ao6 v t-1) v).reverse)
def Yh:List Int→Option (List Int)
 | []=>none
 |v::t=>match Yh t with
  |some t'=>some (v::t')
  |none=>Bb5 v t
theorem Arq {s s':List Int} (h:Yh s=some s'): ∀pre:List Int,Yh (pre++s)=some (pre++s')
 | []=>h
 |v::p=>by rw [List.cons_append,Yh,Arq h p];rfl
theorem Bbi {α:Type} (pre:List α) (v a:α) (t:List α):(pre++v::t).set pre.length a=pre++a::t:=by
 rw [List.set_append,if_neg (by omega)];simp
inductive Run:List Int→List (List Int)→List Int→Prop where
 |one (a:List Int):Run a [a] a
 |more {a c b:List Int} {L:List (List Int)} :Yh a=some c→Run c L b→Run a (a::L) b
theorem Run.cons {a b:List Int} {L:List (List Int)} (h:Run a L b) (v:Int):Run (v::a) (L.map (v:: ·)) (v::b):=by
 induction h with
 |one a=>exact .one _
 |more h3 _ ih=>exact .more (Arq h3 [v]) ih
theorem Run.head {a b:List Int} {L:List (List Int)} (h:Run a L b): ∃M,L=a::M:=by
 cases h with
 |one=>exact ⟨_,rfl⟩
 |more _ _=>exact ⟨_,rfl⟩
theorem Run.at {a b:List Int} {L:List (List Int)} (h:Run a L b): ∀j (hj:j<L.length),(∀h2:j+1<L.length,Yh L[j]=some L[j+1])∧(j+1=L.length→L[j]=b):=by
 induction h with
 |one a=>
  intro j hj
  simp only [List.length_singleton] at hj
  have:j=0:=by omega
  subst this
  exact ⟨fun h2=>by simp at h2,fun _=>rfl⟩
 |more h3 h4 ih=>
  intro j hj
  rcases j with _|j
  ·obtain ⟨M,hM⟩:=h4.head
   refine ⟨fun h2=>?_,fun h2=>?_⟩
   ·simp only [List.getElem_cons_zero,List.getElem_cons_succ]
    subst hM
    exact h3
   ·subst hM;simp at h2
  ·have:=ih j (by simpa using hj)
   refine ⟨fun h2=>?_,fun h2=>?_⟩
   ·simp only [List.getElem_cons_succ]
    exact this.1 (by simpa using h2)
   ·simp only [List.getElem_cons_succ]
    exact this.2 (by simpa using h2)
theorem Run.distinct {a b:List Int} {L:List (List Int)} (h:Run a L b) (hb:Yh b=none): ∀k i j (hi:i<L.length) (hj:j<L.length),L.length-j=k→i<j→L[i]≠L[j]:=by
 intro k
 induction k with
 |zero=>intro i j hi hj hk;omega
 |succ k ih=>
  intro i j hi hj hk hij he
  by_cases e:j+1<L.length
  ·have h1:=(h.at i hi).1 (by omega)
   have h2:=(h.at j hj).1 e
   rw [he,h2] at h1
   exact ih (i+1) (j+1) (by omega) e (by omega) (by omega) (Option.some.inj h1).symm
  ·have h1:=(h.at i hi).1 (by omega)
   have h2:=(h.at j hj).2 (by omega)
   rw [he,h2,hb] at h1
   cases h1
theorem Run.idx {a b:List Int} {L:List (List Int)} (h:Run a L b) (hb:Yh b=none) {j:Nat} (hj:j<L.length):L.idxOf L[j]=j:=by
 have h1:L.idxOf L[j]<L.length:=List.idxOf_lt_length_of_mem (List.getElem_mem _)
 have h2:L[L.idxOf L[j]]=L[j]:=List.getElem_idxOf h1
 rcases Nat.lt_trichotomy (L.idxOf L[j]) j with h3|h3|h3
 ·exact absurd h2 (h.distinct hb _ _ _ h1 hj rfl h3)
 ·exact h3
 ·exact absurd h2.symm (h.distinct hb _ _ _ hj h1 rfl h3)
end Go.Proofs.Ytebabhocakedaaa

namespace Go.Proofs.Ytebabhocakedaaa
open Go.RowKit
def Bu:List Int→List Int→Int
 | [],[]=>0
 | [],_::_=> -1
 |_::_,[]=>1
 |x::a,y::b=>if x<y then-1 else if x>y then 1 else Bu a b
def Vd (a b:List Int):Bool:=decide (Bu a b<0)
noncomputable abbrev Mv:Spec:=mkS (.pair tL (.pair tL .unit)) .bool false true (fun x=>short x.1∧List.length x.1=List.length x.2.1) (fun x=>Vd x.1 x.2.1)
theorem Avx (a b:List Int) (P:Bool→Prop):(Cb
 (fun (v3:Int×PUnit) (k4:Int×PUnit→Prop)=>
  Br (decide (v3.1<(↑a.length:Int)))
   (∃(y5:Int),
    idx a v3.1=some y5∧
     ∃(y6:Int),
      idx b v3.1=some y6∧
       Br (y5 !=y6) (∃(y7:Int),idx a v3.1=some y7∧ ∃(y8:Int),idx b v3.1=some y8∧P (decide (y7<y8))) (k4 (IntKind.i64.wrap (v3.1+(1:Int)),())))
   (P false))
 ((0:Int),PUnit.unit))=fnW tab (look []) Mv Try.f135 (a,b,()) P:=by kernel_rfl
theorem Auw (a b:List Int) (h:short a∧a.length=b.length):fnW tab (look []) Mv Try.f135 (a,b,()) (fun (z:Bool)=>z=Vd a b):=by
 obtain ⟨ha,hb⟩:=h
 unfold short at ha
 refine Eq.mp (Avx a b _) ?_
 refine Ao a.length (fun v=>v.1) (fun j _=>Bu (a.drop j) (b.drop j)=Bu a b) rfl (by simp) ?_
 rintro j ⟨i,⟨⟩⟩ K hj hi hR2 hK
 dsimp only at hi⊢
 subst hi
 refine Br.dec (fun hl=>?_) fun hl=>?_
 ·have hl:j<a.length:=by omega
  have hlb:j<b.length:=by omega
  rw [List.drop_eq_getElem_cons hl,List.drop_eq_getElem_cons hlb] at hR2
  simp only [Bu] at hR2
  refine ⟨_,Az hl,_,Az hlb,⟨fun hne=>?_,fun hne=>?_⟩⟩
  ·refine ⟨_,Az hl,_,Az hlb,?_⟩
   have hne:a[j]≠b[j]:=by simpa using hne
   unfold Vd
   rw [←hR2]
   by_cases h1:a[j]<b[j]
   ·rw [if_pos h1];simp [h1]
   ·rw [if_neg h1,if_pos (by omega)];simp [h1]
  ·have hne:a[j]=b[j]:=by simpa using hne
   rw [if_neg (by omega),if_neg (by omega)] at hR2
   rw [Am (by omega)]
   exact hK hl _ rfl hR2
 ·have:j=a.length:=by omega
  subst this
  rw [List.drop_length,List.drop_eq_nil_of_le (by omega)] at hR2
  unfold Vd
  rw [←hR2]
  rfl
theorem Ajp:Sound Try.prog 135 Mv:=
 Sound.mkS Ca Ba mixed Try.func135 (by kernel_rfl) (by kernel_rfl) fun x h=>Auw x.1 x.2.1 h
end Go.Proofs.Ytebabhocakedaaa

namespace Go.Proofs.Ytebabhocakedaaa
open Go.RowKit
abbrev SS:Type:=List (List Int)×List Int×List Int×Bool×Unit
abbrev rLS:CK:= .row tL 25
abbrev rN:CK:= .row tI 3
def Cj (L:List (List Int)) (srt:List Int) (s:List Int):Nat:=(srt.takeWhile fun i=>Vd (L.getD i.toNat []) s).length
structure Cr (m:Nat) (L:List (List Int)) (srt:List Int):Prop where
 few:L.length≤3000
 len: ∀x∈L,x.length=m
 short:m≤20
 perm:srt.Perm (upto L.length)
 sorted:srt.Pairwise fun i j=>Vd (L.getD i.toNat []) (L.getD j.toNat [])=true
def Ag9 (L:List (List Int)) (s:List Int):Int:=if s∈L then (L.idxOf s:Int) else-1
def Ma (srt:List Int) (k:Nat) (x:Int):List Int:=srt.take k++x::srt.drop k
noncomputable abbrev Vu:Spec:=mkS (.pair Aa7 (.pair tL .unit)) tI false true (fun x=>Cr (List.length x.2.1) x.1.1 x.1.2.2.1) (fun x=>(Cj x.1.1 x.1.2.2.1 x.2.1:Int))
noncomputable abbrev Tz:Spec:=mkS (.pair Aa7 (.pair tL .unit)) tI false true (fun x=>Cr (List.length x.2.1) x.1.1 x.1.2.2.1) (fun x=>Ag9 x.1.1 x.2.1)
noncomputable abbrev Ac6:Bn:=mkM [some 4,none,none] [(false,rLS),(false,rL),(false,rN),(false, .dat .bool),(false, .dat tL),(false, .dat tI)] false [some 4] [rLS,rL,rN, .dat .bool]
 (fun x=>Cr (List.length x.2.2.2.2.1) x.1 x.2.2.1∧List.length x.2.1≤3000) (fun x=>((x.1++ [x.2.2.2.2.1],x.2.1++ [x.2.2.2.2.2.1],Ma x.2.2.1 (Cj x.1 x.2.2.1 x.2.2.2.2.1) (List.length x.1),x.2.2.2.1,()),()))
def Rw (L:List (List Int)):List Int:=(List.range L.length).foldl (fun (S:List Int) (i:Nat)=>Ma S (Cj (L.take i) S (L.getD i [])) (i:Int)) []
def Fl (g:List (List Int)) (x:List Int) (d:Int):List Int→List (List Int)→List Int→List (List Int)×List Int×Bool
 | [],L,D=>(L,D,true)
 |l::ls,L,D=>if Aa x (Af g l)∈L then Fl g x d ls L D else if L.length=3000 then (L,D,false) else Fl g x d ls (L++ [Aa x (Af g l)]) (D++ [d+1])
def Gv (g:List (List Int)) (ls:List Int):Nat→Nat→List (List Int)→List Int→List (List Int)×List Int×Bool
 |0,_,L,D=>(L,D,true)
 |f+1,k,L,D=>if k<L.length then (match Fl g (L.getD k []) (D.getD k 0) ls L D with
  |(L',D',true)=>Gv g ls f (k+1) L' D'
  |(L',D',false)=>(L',D',false)) else (L,D,true)
def Fa (g:List (List Int)) (s:List Int):List (List Int)×List Int×Bool:=Gv g (Bc g.length) 3001 0 [s] [0]
def Hg (g:List (List Int)) (s:List Int):SS:=((Fa g s).1,(Fa g s).2.1,Rw (Fa g s).1,(Fa g s).2.2,())
noncomputable abbrev Ct:Spec:=mkS (.pair Ds (.pair tL .unit)) Aa7 false false (fun x=>Bm x.1=true∧List.length x.2.1≤20∧ ∀y∈x.2.1,0≤y∧y<x.1.1) (fun x=>Hg x.1.2.2.1 x.2.1)
theorem Bd2 (f:List (List Int)×List Int×List Int×Bool×Unit) (s:List Int) (P:Int→Prop):(Cb
 (fun (v3:Int×Int×List (List Int)×List Int×List Int×Bool×PUnit) (k4:Int×Int×List (List Int)×List Int×List Int×Bool×PUnit→Prop)=>
  Br (decide (v3.1<v3.2.1))
   ((2:Int)≠(0:Int)∧
    ∃(y5:Int),
     idx v3.2.2.2.2.1 (IntKind.i64.wrap ((IntKind.i64.wrap (v3.1+v3.2.1)).tdiv (2:Int)))=some y5∧
      ∃(y6:List Int),
       idx v3.2.2.1 y5=some y6∧
        ∃(y7:Bool),
         Mv.fn (y6,s,())=some y7∧
          Br y7
           (k4
            (IntKind.i64.wrap (IntKind.i64.wrap ((IntKind.i64.wrap (v3.1+v3.2.1)).tdiv (2:Int))+(1:Int)),v3.2.1,v3.2.2.1,v3.2.2.2.1,v3.2.2.2.2.1,
             v3.2.2.2.2.2.1,()))
           (k4 (v3.1,IntKind.i64.wrap ((IntKind.i64.wrap (v3.1+v3.2.1)).tdiv (2:Int)),v3.2.2.1,v3.2.2.2.1,v3.2.2.2.2.1,v3.2.2.2.2.2.1,())))
   (P v3.1))
 ((0:Int),(↑f.2.2.1.length:Int),f.1,f.2.1,f.2.2.1,f.2.2.2.1,PUnit.unit))=fnW tab (look [(135,Mv)]) Vu Try.f119 (f,s,()) P:=by kernel_rfl
theorem Bar (f:List (List Int)×List Int×List Int×Bool×Unit) (s:List Int) (P:Int→Prop):(∃(y3:Int),
 Vu.fn ((f.1,f.2.1,f.2.2.1,f.2.2.2.1,()),s,())=some y3∧
  Br (decide (y3<(↑f.2.2.1.length:Int)))
   (∃(y4:Int),
    idx f.2.2.1 y3=some y4∧
     ∃(y5:List Int),idx f.1 y4=some y5∧ ∃(y6:Bool),Bk.fn (y5,s,())=some y6∧Br y6 (∃(y7:Int),idx f.2.2.1 y3=some y7∧P y7) (P (-1:Int)))
   (P (-1:Int)))=fnW tab (look [(119,Vu),(59,Bk)]) Tz Try.f69 (f,s,()) P:=by kernel_rfl
theorem Bd1 (L:List (List Int)) (D S:List Int) (b:Bool) (s:List Int) (d:Int) (P:((List (List Int)×List Int×List Int×Bool×Unit)×Unit)→Prop):(∃(y7:Int),
 Vu.fn ((List.take L.length (List.drop (0:Nat) L),List.take D.length (List.drop (0:Nat) D),List.take S.length (List.drop (0:Nat) S),b,()),s,())=some y7∧
  (0:Nat)=(0:Nat)∧
   S.length=S.length∧
    S.length+(List.take (1:Nat) (List.drop (0:Nat) [(0:Int)])).length≤As∧
     ((0:Int)≤IntKind.i64.wrap (y7+(1:Int))∧
       IntKind.i64.wrap (y7+(1:Int))≤(↑(S++List.take (1:Nat) (List.drop (0:Nat) [(0:Int)])).length:Int)∧
        (↑(S++List.take (1:Nat) (List.drop (0:Nat) [(0:Int)])).length:Int)≤(↑(S++List.take (1:Nat) (List.drop (0:Nat) [(0:Int)])).length:Int))∧
      ((0:Int)≤y7∧
        y7≤(↑(S++List.take (1:Nat) (List.drop (0:Nat) [(0:Int)])).length:Int)∧
         (↑(S++List.take (1:Nat) (List.drop (0:Nat) [(0:Int)])).length:Int)≤(↑(S++List.take (1:Nat) (List.drop (0:Nat) [(0:Int)])).length:Int))∧
       ((0:Int)≤y7∧y7<(↑(S++List.take (1:Nat) (List.drop (0:Nat) [(0:Int)])).length:Int))∧
        (0:Nat)+y7.toNat<
          (Bh (S++List.take (1:Nat) (List.drop (0:Nat) [(0:Int)])) ((0:Nat)+(IntKind.i64.wrap (y7+(1:Int))).toNat)
            (List.take ((↑(S++List.take (1:Nat) (List.drop (0:Nat) [(0:Int)])).length:Int).toNat-(IntKind.i64.wrap (y7+(1:Int))).toNat)
             (List.take ((↑(S++List.take (1:Nat) (List.drop (0:Nat) [(0:Int)])).length:Int).toNat-y7.toNat)
              (List.drop ((0:Nat)+y7.toNat) (S++List.take (1:Nat) (List.drop (0:Nat) [(0:Int)])))))).length∧
         (0:Nat)=(0:Nat)∧
          L.length=L.length∧
           L.length+(List.take (1:Nat) (List.drop (0:Nat) [s])).length≤As∧
            (0:Nat)=(0:Nat)∧
             D.length=D.length∧
              D.length+(List.take (1:Nat) (List.drop (0:Nat) [d])).length≤As∧
               P
                ((List.take (L++List.take (1:Nat) (List.drop (0:Nat) [s])).length (List.drop (0:Nat) (L++List.take (1:Nat) (List.drop (0:Nat) [s]))),
                  List.take (D++List.take (1:Nat) (List.drop (0:Nat) [d])).length (List.drop (0:Nat) (D++List.take (1:Nat) (List.drop (0:Nat) [d]))),
                  List.take (S++List.take (1:Nat) (List.drop (0:Nat) [(0:Int)])).length
                   (List.drop (0:Nat)
                    ((Bh (S++List.take (1:Nat) (List.drop (0:Nat) [(0:Int)])) ((0:Nat)+(IntKind.i64.wrap (y7+(1:Int))).toNat)
                       (List.take ((↑(S++List.take (1:Nat) (List.drop (0:Nat) [(0:Int)])).length:Int).toNat-(IntKind.i64.wrap (y7+(1:Int))).toNat)
                        (List.take ((↑(S++List.take (1:Nat) (List.drop (0:Nat) [(0:Int)])).length:Int).toNat-y7.toNat)
                         (List.drop ((0:Nat)+y7.toNat) (S++List.take (1:Nat) (List.drop (0:Nat) [(0:Int)])))))).set
                     ((0:Nat)+y7.toNat) (↑L.length:Int))),
                  b,()),
                 ()))=Aen Bbq (look [(119,Vu)]) Ac6 Try.f151 (L,D,S,b,s,d,()) P:=by kernel_rfl
theorem Bby (p:Int×ByteArray×List (List Int)×Unit) (s:List Int) (P:(List (List Int)×List Int×List Int×Bool×Unit)→Prop):(∃(y3:List Int),
 Mq.fn (s,())=some y3∧
  ∃(y4:(List (List Int)×List Int×List Int×Bool×PUnit)×PUnit),
   Ac6.fn ([],[],[],false,y3,(0:Int),())=some y4∧
    ∃(y5:List Int),
     Lh.fn ((p.1,p.2.1,p.2.2.1,()),())=some y5∧
      (0:Nat)=(0:Nat)∧
       (0:Nat)=([]:List Int).length∧
        (0:Nat)=(0:Nat)∧
         (0:Nat)=([]:List Int).length∧
          (0:Nat)=(0:Nat)∧
           (0:Nat)=([]:List Int).length∧
            (0:Nat)=(0:Nat)∧
             y4.1.1.length=y4.1.1.length∧
              (0:Nat)=(0:Nat)∧
               y4.1.2.1.length=y4.1.2.1.length∧
                (0:Nat)=(0:Nat)∧
                 y4.1.2.2.1.length=y4.1.2.2.1.length∧
                  Cb
                   (fun (v6:Int×Int×ByteArray×List (List Int)×Bool×Bool×List (List Int)×List Int×List Int×List (List Int)×List Int×List Int×PUnit)
                     (k7:Int×Int×ByteArray×List (List Int)×Bool×Bool×List (List Int)×List Int×List Int×List (List Int)×List Int×List Int×PUnit→Prop)=>
                    Br (decide (v6.1<(↑v6.2.2.2.2.2.2.2.2.2.1.length:Int)))
                     ((0:Nat)=(0:Nat)∧
                      v6.2.2.2.2.2.2.1.length=v6.2.2.2.2.2.2.1.length∧
                       (0:Nat)=(0:Nat)∧
                        v6.2.2.2.2.2.2.2.1.length=v6.2.2.2.2.2.2.2.1.length∧
                         (0:Nat)=(0:Nat)∧
                          v6.2.2.2.2.2.2.2.2.1.length=v6.2.2.2.2.2.2.2.2.1.length∧
                           (0:Nat)=(0:Nat)∧
                            v6.2.2.2.2.2.2.2.2.2.1.length=v6.2.2.2.2.2.2.2.2.2.1.length∧
                             (0:Nat)=(0:Nat)∧
                              v6.2.2.2.2.2.2.2.2.2.2.1.length=v6.2.2.2.2.2.2.2.2.2.2.1.length∧
                               (0:Nat)=(0:Nat)∧
                                v6.2.2.2.2.2.2.2.2.2.2.2.1.length=v6.2.2.2.2.2.2.2.2.2.2.2.1.length∧
                                 Cb
                                  (fun
                                    (v8:
                                     Int×
                                      Int×
                                       ByteArray×
                                        List (List Int)×Bool×Bool×List (List Int)×List Int×List Int×List (List Int)×List Int×List Int×PUnit)
                                    (k9:
                                     Int×
                                       Int×
                                        ByteArray×
                                         List (List Int)×
                                          Bool×Bool×List (List Int)×List Int×List Int×List (List Int)×List Int×List Int×PUnit→
                                      Prop)=>
                                   Br (decide (v8.1<(↑y5.length:Int)))
                                    (((0:Int)≤v6.1∧v6.1<(↑v8.2.2.2.2.2.2.2.2.2.1.length:Int))∧
                                     ∃(y10:List Int),
                                      v8.2.2.2.2.2.2.2.2.2.1[(0:Nat)+v6.1.toNat]?=some y10∧
                                       ∃(y11:Int),
                                        idx y5 v8.1=some y11∧
                                         ∃(y12:List Int),
                                          Tw.fn ((v8.2.1,v8.2.2.1,v8.2.2.2.1,()),y10,y11,())=some y12∧
                                           ∃(y13:Int),
                                            Tz.fn
                                               ((List.take v8.2.2.2.2.2.2.2.2.2.1.length
                                                  (List.drop ((0:Nat)) v8.2.2.2.2.2.2.2.2.2.1),
                                                 List.take v8.2.2.2.2.2.2.2.2.2.2.1.length
                                                  (List.drop ((0:Nat)) v8.2.2.2.2.2.2.2.2.2.2.1),
                                                 List.take v8.2.2.2.2.2.2.2.2.2.2.2.1.length
                                                  (List.drop ((0:Nat)) v8.2.2.2.2.2.2.2.2.2.2.2.1),
                                                 v8.2.2.2.2.2.1,()),
                                                y12,())=
                                              some y13∧
                                             Br (decide (y13≥(0:Int)))
                                              ((0:Nat)=(0:Nat)∧
                                               v8.2.2.2.2.2.2.1.length=v8.2.2.2.2.2.2.1.length∧
                                                (0:Nat)=(0:Nat)∧
                                                 v8.2.2.2.2.2.2.2.1.length=v8.2.2.2.2.2.2.2.1.length∧
                                                  (0:Nat)=(0:Nat)∧
                                                   v8.2.2.2.2.2.2.2.2.1.length=v8.2.2.2.2.2.2.2.2.1.length∧
                                                    (0:Nat)=(0:Nat)∧
                                                     v8.2.2.2.2.2.2.2.2.2.1.length=v8.2.2.2.2.2.2.2.2.2.1.length∧
                                                      (0:Nat)=(0:Nat)∧
                                                       v8.2.2.2.2.2.2.2.2.2.2.1.length=
                                                         v8.2.2.2.2.2.2.2.2.2.2.1.length∧
                                                        (0:Nat)=(0:Nat)∧
                                                         v8.2.2.2.2.2.2.2.2.2.2.2.1.length=
                                                           v8.2.2.2.2.2.2.2.2.2.2.2.1.length∧
                                                          k9
                                                           (IntKind.i64.wrap (v8.1+(1:Int)),v8.2.1,v8.2.2.1,v8.2.2.2.1,
                                                            v8.2.2.2.2.1,v8.2.2.2.2.2.1,v8.2.2.2.2.2.2.1,
                                                            v8.2.2.2.2.2.2.2.1,v8.2.2.2.2.2.2.2.2.1,
                                                            v8.2.2.2.2.2.2.2.2.2.1,v8.2.2.2.2.2.2.2.2.2.2.1,
                                                            v8.2.2.2.2.2.2.2.2.2.2.2.1,()))
                                              (Br ((↑v8.2.2.2.2.2.2.2.2.2.1.length:Int)==(3000:Int))
                                               (P
                                                (List.take v8.2.2.2.2.2.2.2.2.2.1.length
                                                  (List.drop ((0:Nat)) v8.2.2.2.2.2.2.2.2.2.1),
                                                 List.take v8.2.2.2.2.2.2.2.2.2.2.1.length
                                                  (List.drop ((0:Nat)) v8.2.2.2.2.2.2.2.2.2.2.1),
                                                 List.take v8.2.2.2.2.2.2.2.2.2.2.2.1.length
                                                  (List.drop ((0:Nat)) v8.2.2.2.2.2.2.2.2.2.2.2.1),
                                                 v8.2.2.2.2.2.1,()))
                                               (((0:Int)≤v6.1∧v6.1<(↑v8.2.2.2.2.2.2.2.2.2.2.1.length:Int))∧
                                                ∃(y14:Int),
                                                 v8.2.2.2.2.2.2.2.2.2.2.1[(0:Nat)+v6.1.toNat]?=some y14∧
                                                  (0:Nat)=(0:Nat)∧
                                                   v8.2.2.2.2.2.2.2.2.2.1.length=v8.2.2.2.2.2.2.2.2.2.1.length∧
                                                    (0:Nat)=(0:Nat)∧
                                                     v8.2.2.2.2.2.2.2.2.2.2.1.length=v8.2.2.2.2.2.2.2.2.2.2.1.length∧
                                                      (0:Nat)=(0:Nat)∧
                                                       v8.2.2.2.2.2.2.2.2.2.2.2.1.length=
                                                         v8.2.2.2.2.2.2.2.2.2.2.2.1.length∧
                                                        ∃(y15:(List (List Int)×List Int×List Int×Bool×PUnit)×PUnit),
                                                         Ac6.fn
                                                            (v8.2.2.2.2.2.2.2.2.2.1,v8.2.2.2.2.2.2.2.2.2.2.1,
                                                             v8.2.2.2.2.2.2.2.2.2.2.2.1,v8.2.2.2.2.2.1,y12,
                                                             IntKind.i64.wrap (y14+(1:Int)),())=
                                                           some y15∧
                                                          (0:Nat)=(0:Nat)∧
                                                           v8.2.2.2.2.2.2.1.length=v8.2.2.2.2.2.2.1.length∧
                                                            (0:Nat)=(0:Nat)∧
                                                             v8.2.2.2.2.2.2.2.1.length=v8.2.2.2.2.2.2.2.1.length∧
                                                              (0:Nat)=(0:Nat)∧
                                                               v8.2.2.2.2.2.2.2.2.1.length=
                                                                 v8.2.2.2.2.2.2.2.2.1.length∧
                                                                (0:Nat)=(0:Nat)∧
                                                                 y15.1.1.length=y15.1.1.length∧
                                                                  (0:Nat)=(0:Nat)∧
                                                                   y15.1.2.1.length=y15.1.2.1.length∧
                                                                    (0:Nat)=(0:Nat)∧
                                                                     y15.1.2.2.1.length=y15.1.2.2.1.length∧
                                                                      k9
                                                                       (IntKind.i64.wrap (v8.1+(1:Int)),v8.2.1,
                                                                        v8.2.2.1,v8.2.2.2.1,v8.2.2.2.2.1,
                                                                        y15.1.2.2.2.1,v8.2.2.2.2.2.2.1,
                                                                        v8.2.2.2.2.2.2.2.1,
                                                                        v8.2.2.2.2.2.2.2.2.1,y15.1.1,
                                                                        y15.1.2.1,y15.1.2.2.1,()))))
                                    ((0:Nat)=(0:Nat)∧
                                     v8.2.2.2.2.2.2.1.length=v8.2.2.2.2.2.2.1.length∧
                                      (0:Nat)=(0:Nat)∧
                                       v8.2.2.2.2.2.2.2.1.length=v8.2.2.2.2.2.2.2.1.length∧
                                        (0:Nat)=(0:Nat)∧
                                         v8.2.2.2.2.2.2.2.2.1.length=v8.2.2.2.2.2.2.2.2.1.length∧
                                          (0:Nat)=(0:Nat)∧
                                           v8.2.2.2.2.2.2.2.2.2.1.length=v8.2.2.2.2.2.2.2.2.2.1.length∧
                                            (0:Nat)=(0:Nat)∧
                                             v8.2.2.2.2.2.2.2.2.2.2.1.length=v8.2.2.2.2.2.2.2.2.2.2.1.length∧
                                              (0:Nat)=(0:Nat)∧
                                               v8.2.2.2.2.2.2.2.2.2.2.2.1.length=v8.2.2.2.2.2.2.2.2.2.2.2.1.length∧
                                                k7
                                                 (IntKind.i64.wrap (v6.1+(1:Int)),v8.2.1,v8.2.2.1,v8.2.2.2.1,v8.2.2.2.2.1,
                                                  v8.2.2.2.2.2.1,v8.2.2.2.2.2.2.1,v8.2.2.2.2.2.2.2.1,
                                                  v8.2.2.2.2.2.2.2.2.1,v8.2.2.2.2.2.2.2.2.2.1,
                                                  v8.2.2.2.2.2.2.2.2.2.2.1,v8.2.2.2.2.2.2.2.2.2.2.2.1,())))
                                  ((0:Int),v6.2.1,v6.2.2.1,v6.2.2.2.1,v6.2.2.2.2.1,v6.2.2.2.2.2.1,v6.2.2.2.2.2.2.1,
                                   v6.2.2.2.2.2.2.2.1,v6.2.2.2.2.2.2.2.2.1,v6.2.2.2.2.2.2.2.2.2.1,
                                   v6.2.2.2.2.2.2.2.2.2.2.1,v6.2.2.2.2.2.2.2.2.2.2.2.1,PUnit.unit))
                     (P
                      (List.take v6.2.2.2.2.2.2.2.2.2.1.length (List.drop ((0:Nat)) v6.2.2.2.2.2.2.2.2.2.1),
                       List.take v6.2.2.2.2.2.2.2.2.2.2.1.length (List.drop ((0:Nat)) v6.2.2.2.2.2.2.2.2.2.2.1),
                       List.take v6.2.2.2.2.2.2.2.2.2.2.2.1.length (List.drop ((0:Nat)) v6.2.2.2.2.2.2.2.2.2.2.2.1),true,())))
                   ((0:Int),p.1,p.2.1,p.2.2.1,false,y4.1.2.2.2.1,[],[],[],y4.1.1,y4.1.2.1,y4.1.2.2.1,PUnit.unit))=fnW Bcx (look [(120,Mq),(151,Ac6),(142,Lh),(129,Tw),(69,Tz)]) Ct Try.f105 (p,s,()) P:=by kernel_rfl
theorem Ahy: ∀ {a b:List Int},Bu a b=0↔a=b
 | [],[]=>by simp [Bu]
 | [],_::_=>by simp [Bu]
 |_::_,[]=>by simp [Bu]
 |x::a,y::b=>by
  simp only [Bu,List.cons.injEq]
  by_cases h1:x<y
  ·rw [if_pos h1]
   exact ⟨fun h=>by omega,fun h=>by omega⟩
  ·rw [if_neg h1]
   by_cases h2:x>y
   ·rw [if_pos h2]
    exact ⟨fun h=>by omega,fun h=>by omega⟩
   ·rw [if_neg h2,Ahy]
    exact ⟨fun h=>⟨by omega,h⟩,fun h=>h.2⟩
theorem Aw8: ∀(a b:List Int),Bu b a= -Bu a b
 | [],[]=>by simp [Bu]
 | [],_::_=>by simp [Bu]
 |_::_,[]=>by simp [Bu]
 |x::a,y::b=>by
  simp only [Bu]
  rcases Int.lt_trichotomy x y with h1|h1|h1
  ·simp [h1,show ¬y<x by omega]
  ·subst h1
   simp [Aw8 a b]
  ·simp [h1,show ¬x<y by omega]
theorem Alo: ∀ {a b c:List Int},Bu a b<0→Bu b c<0→Bu a c<0
 | [],[],_,h,_=>by simp [Bu] at h
 |_::_,[],_,h,_=>by simp [Bu] at h
 |_,_::_,[],_,h=>by simp [Bu] at h
 | [],_::_,_::_,_,_=>by simp [Bu]
 |x::a,y::b,z::c,h1,h2=>by
  simp only [Bu] at h1 h2⊢
  by_cases e1:x<y
  ·by_cases e2:y<z
   ·rw [if_pos (by omega)];omega
   ·rw [if_neg e2] at h2
    by_cases e3:y>z
    ·rw [if_pos e3] at h2;omega
    ·rw [if_pos (by omega)];omega
  ·rw [if_neg e1] at h1
   by_cases e2:x>y
   ·rw [if_pos e2] at h1;omega
   ·rw [if_neg e2] at h1
    by_cases e3:y<z
    ·rw [if_pos (by omega)];omega
    ·rw [if_neg e3] at h2
     by_cases e4:y>z
     ·rw [if_pos e4] at h2;omega
     ·rw [if_neg e4] at h2
      rw [if_neg (by omega),if_neg (by omega)]
      exact Alo h1 h2
theorem lt_iff {a b:List Int} :Vd a b=true↔Bu a b<0:=decide_eq_true_iff
theorem Axd {a b c:List Int} (h1:Vd a b=true) (h2:Vd b c=true):Vd a c=true:=lt_iff.2 (Alo (lt_iff.1 h1) (lt_iff.1 h2))
theorem Abx (a:List Int):Vd a a=false:=by
 have:Bu a a=0:=Ahy.2 rfl
 unfold Vd;rw [this];rfl
theorem Azo {a b:List Int} (h:Vd a b=false) (hne:a≠b):Vd b a=true:=by
 rw [lt_iff,Aw8 a b]
 have h1: ¬Bu a b<0:=fun h'=>by rw [lt_iff.2 h'] at h;cases h
 have h2:Bu a b≠0:=fun h'=>hne (Ahy.1 h')
 omega
theorem Ab0 {α:Type} (q:α→Bool): ∀(l:List α),l.Pairwise (fun i j=>q j=true→q i=true)→ ∀k (hk:k<l.length),k<(l.takeWhile q).length↔q l[k]=true
 | [],_,k,hk=>by simp at hk
 |a::l,h,k,hk=>by
  obtain ⟨h1,h2⟩:=List.pairwise_cons.1 h
  by_cases ha:q a=true
  ·rw [List.takeWhile_cons_of_pos ha]
   rcases k with _|k
   ·simpa using ha
   ·simp only [List.length_cons,List.getElem_cons_succ,Nat.add_lt_add_iff_right]
    exact Ab0 q l h2 k (by simpa using hk)
  ·rw [List.takeWhile_cons_of_neg ha]
   simp only [List.length_nil,Nat.not_lt_zero,false_iff]
   rcases k with _|k
   ·exact ha
   ·simp only [List.getElem_cons_succ]
    exact fun hq=>ha (h1 _ (List.getElem_mem _) hq)
theorem Cr.Aim {m:Nat} {L:List (List Int)} {srt:List Int} (h:Cr m L srt):srt.length=L.length:=by rw [h.perm.length_eq,Qv]
theorem Cr.idx {m:Nat} {L:List (List Int)} {srt:List Int} (h:Cr m L srt) {k:Nat} (hk:k<srt.length):0≤srt[k]∧srt[k]<L.length:=Ig.1 (h.perm.mem_iff.1 (List.getElem_mem hk))
theorem Cr.Ua {m:Nat} {L:List (List Int)} {srt:List Int} (h:Cr m L srt) (s:List Int) {k:Nat} (hk:k<srt.length):k<Cj L srt s↔Vd (L.getD srt[k].toNat []) s=true:=
 Ab0 _ srt (h.sorted.imp fun hij hj=>Axd hij hj) k hk
theorem Awo (L:List (List Int)) (srt s:List Int):Cj L srt s≤srt.length:=(List.takeWhile_sublist _).length_le
theorem Cr.inj {m:Nat} {L:List (List Int)} {srt:List Int} (h:Cr m L srt) {i j:Nat} (hi:i<L.length) (hj:j<L.length) (e:L[i]=L[j]):i=j:=by
 have mem: ∀i,i<L.length→(i:Int)∈srt:=fun i hi=>h.perm.mem_iff.2 (Ig.2 ⟨by omega,by omega⟩)
 obtain ⟨p,hp,ep⟩:=List.mem_iff_getElem.1 (mem i hi)
 obtain ⟨q,hq,eq⟩:=List.mem_iff_getElem.1 (mem j hj)
 have get: ∀i (hi:i<L.length),L.getD ((i:Int)).toNat []=L[i]:=fun i hi=>by rw [Int.toNat_natCast,List.getD_eq_getElem?_getD,List.getElem?_eq_getElem hi];rfl
 rcases Nat.lt_trichotomy p q with h1|h1|h1
 ·have:=List.pairwise_iff_getElem.1 h.sorted p q hp hq h1
  rw [ep,eq,get i hi,get j hj,e,Abx] at this
  cases this
 ·subst h1
  rw [ep] at eq
  omega
 ·have:=List.pairwise_iff_getElem.1 h.sorted q p hq hp h1
  rw [ep,eq,get i hi,get j hj,e,Abx] at this
  cases this
theorem Ll {L:List (List Int)} {k:Nat} (h:k<L.length):L.getD k []=L[k]:=by rw [List.getD_eq_getElem?_getD,List.getElem?_eq_getElem h];rfl
theorem Cr.Anc {m:Nat} {L:List (List Int)} {srt:List Int} (h:Cr m L srt) {s:List Int} :
  (∃hk:Cj L srt s<srt.length,L.getD srt[Cj L srt s].toNat []=s∧Ag9 L s=srt[Cj L srt s])∨(Ag9 L s= -1∧ ∀hk:Cj L srt s<srt.length,L.getD srt[Cj L srt s].toNat []≠s):=by
 by_cases hm:s∈L
 ·left
  obtain ⟨j,hj,rfl⟩:=List.mem_iff_getElem.1 hm
  obtain ⟨p,hp,ep⟩:=List.mem_iff_getElem.1 (h.perm.mem_iff.2 (Ig.2 ⟨by omega,by omega⟩):(j:Int)∈srt)
  have gj:L.getD srt[p].toNat []=L[j]:=by rw [ep,Int.toNat_natCast,Ll hj]
  have hs:Cj L srt L[j]=p:=by
   have h1: ¬p<Cj L srt L[j]:=fun h1=>by
    have:=(h.Ua L[j] hp).1 h1
    rw [gj,Abx] at this;cases this
   have h2: ¬Cj L srt L[j]<p:=fun h2=>by
    have h3:=(h.Ua L[j] (k:=Cj L srt L[j]) (by omega)).2 (by
     have:=List.pairwise_iff_getElem.1 h.sorted (Cj L srt L[j]) p (by omega) hp h2
     rw [gj] at this;exact this)
    omega
   omega
  have hx:L.idxOf L[j]=j:=by
   have h1:L.idxOf L[j]<L.length:=List.idxOf_lt_length_of_mem hm
   exact h.inj h1 hj (List.getElem_idxOf h1)
  refine ⟨by omega,?_,?_⟩
  ·simp only [hs];exact gj
  ·unfold Ag9
   rw [if_pos hm,hx]
   simp only [hs];exact ep.symm
 ·right
  refine ⟨by unfold Ag9;rw [if_neg hm],fun hk e=>hm ?_⟩
  have hi:=h.idx hk
  rw [Ll (by omega)] at e
  rw [←e]
  exact List.getElem_mem _
theorem Aze (srt:List Int) (k:Nat) (x:Int):(Ma srt k x).Perm (x::srt):=by
 unfold Ma
 refine List.perm_middle.trans (List.Perm.cons x ?_)
 rw [List.take_append_drop]
theorem Cr.add {m:Nat} {L:List (List Int)} {srt s:List Int} (h:Cr m L srt) (hn:s∉L) (hl:s.length=m) (hr:L.length<3000):Cr m (L++ [s]) (Ma srt (Cj L srt s) L.length):=by
 have get1: ∀i∈srt,(L++ [s]).getD i.toNat []=L.getD i.toNat []:=fun i hi=>by
  have:=Ig.1 (h.perm.mem_iff.1 hi)
  rw [List.getD_eq_getElem?_getD,List.getD_eq_getElem?_getD,List.getElem?_append_left (by omega)]
 have get2:(L++ [s]).getD ((L.length:Int)).toNat []=s:=by
  rw [Int.toNat_natCast,List.getD_eq_getElem?_getD,List.getElem?_append_right (by omega),Nat.sub_self];rfl
 refine ⟨by rw [List.length_append,List.length_singleton];omega,fun x hx=>?_,h.short,?_,?_⟩
 ·rcases List.mem_append.1 hx with hx|hx
  ·exact h.len x hx
  ·rw [List.mem_singleton.1 hx];exact hl
 ·refine (Aze _ _ _).trans ?_
  rw [List.length_append,List.length_singleton,Uf]
  exact (List.Perm.cons _ h.perm).trans (List.perm_append_singleton _ _).symm
 ·unfold Ma
  have hs:=h.sorted
  rw [←List.take_append_drop (Cj L srt s) srt] at hs
  obtain ⟨s1,s2,s3⟩:=List.pairwise_append.1 hs
  have mt: ∀i∈srt.take (Cj L srt s),i∈srt∧Vd (L.getD i.toNat []) s=true:=fun i hi=>by
   obtain ⟨k,hk,rfl⟩:=List.mem_iff_getElem.1 hi
   have hk2:k<Cj L srt s:=by rw [List.length_take] at hk;omega
   have hk3:k<srt.length:=by rw [List.length_take] at hk;omega
   rw [List.getElem_take]
   exact ⟨List.getElem_mem _,(h.Ua s hk3).1 hk2⟩
  have md: ∀i∈srt.drop (Cj L srt s),i∈srt∧Vd s (L.getD i.toNat [])=true:=fun i hi=>by
   obtain ⟨k,hk,rfl⟩:=List.mem_iff_getElem.1 hi
   rw [List.length_drop] at hk
   have hk3:Cj L srt s+k<srt.length:=by omega
   rw [List.getElem_drop]
   refine ⟨List.getElem_mem _,Azo ?_ fun e=>hn ?_⟩
   ·exact Bool.eq_false_iff.2 fun hh=>by
     have:=(h.Ua s hk3).2 hh
     omega
   ·have hi:=h.idx hk3
    rw [Ll (by omega)] at e
    rw [←e];exact List.getElem_mem _
  refine List.pairwise_append.2 ⟨s1.imp_of_mem fun {a b} ha hb hab=>?_,List.pairwise_cons.2 ⟨fun b hb=>?_,s2.imp_of_mem fun {a b} ha hb hab=>?_⟩,fun a ha b hb=>?_⟩
  ·rw [get1 a (mt a ha).1,get1 b (mt b hb).1];exact hab
  ·rw [get2,get1 b (md b hb).1];exact (md b hb).2
  ·rw [get1 a (md a ha).1,get1 b (md b hb).1];exact hab
  ·rcases List.mem_cons.1 hb with rfl|hb
   ·rw [get2,get1 a (mt a ha).1];exact (mt a ha).2
   ·rw [get1 a (mt a ha).1,get1 b (md b hb).1];exact s3 a ha b hb
theorem Vv (L:List (List Int)) (s:List Int):Rw (L++ [s])=Ma (Rw L) (Cj L (Rw L) s) L.length:=by
 unfold Rw
 rw [List.length_append,List.length_singleton,List.range_succ,List.foldl_append]
 have e: ∀(is:List Nat) (S:List Int),(∀i∈is,i<L.length)→is.foldl (fun (S:List Int) (i:Nat)=>Ma S (Cj ((L++ [s]).take i) S ((L++ [s]).getD i [])) (i:Int)) S=is.foldl (fun (S:List Int) (i:Nat)=>Ma S (Cj (L.take i) S (L.getD i [])) (i:Int)) S:=by
  intro is
  induction is with
  |nil=>intro S _;rfl
  |cons i is ih=>
   intro S h
   have hi:=h i (by simp)
   rw [List.foldl_cons,List.foldl_cons,ih _ fun j hj=>h j (List.mem_cons_of_mem _ hj)]
   congr 2
   rw [List.take_append_of_le_length (by omega),List.getD_eq_getElem?_getD,List.getElem?_append_left hi,←List.getD_eq_getElem?_getD]
 rw [e _ _ fun i hi=>List.mem_range.1 hi]
 simp only [List.foldl_cons,List.foldl_nil]
 congr 2
 ·rw [List.take_append_of_le_length (Nat.le_refl _),List.take_length]
 ·rw [List.getD_eq_getElem?_getD,List.getElem?_append_right (by omega),Nat.sub_self];rfl
theorem Adx {m:Nat} (h:m≤20):Cr m [] []:=⟨by simp,fun x hx=>(by cases hx),h,by simp [upto],List.Pairwise.nil⟩
theorem Azc {α:Type} {xs:List α} {y:Int} (h0:0≤y) (h:y.toNat<xs.length):idx xs y=some xs[y.toNat]:=by
 unfold idx
 rw [if_pos h0,List.getElem?_eq_getElem h]
theorem Bcp (f:SS) (s:List Int) (h:Cr s.length f.1 f.2.2.1):fnW tab (look [(135,Mv)]) Vu Try.f119 (f,s,()) (fun (z:Int)=>z=(Cj f.1 f.2.2.1 s:Int)):=by
 obtain ⟨L,D,srt,b,⟨⟩⟩:=f
 dsimp only at h⊢
 have hle:=Awo L srt s
 have hl2:=h.Aim
 have hfew:=h.few
 refine Eq.mp (Bd2 (L,D,srt,b,()) s _) ?_
 refine Cb.mk (fun v=>v.2.2.1=L∧v.2.2.2.2.1=srt∧ ∃lo hi:Nat,v.1=lo∧v.2.1=hi∧lo≤hi∧hi≤srt.length∧lo≤Cj L srt s∧Cj L srt s≤hi) (fun v=>(v.2.1-v.1).toNat)
  ⟨rfl,rfl,0,srt.length,rfl,rfl,by omega,by omega,by omega,hle⟩ ?_
 rintro ⟨lo',hi',L',D',srt',b',⟨⟩⟩ ⟨h1,h2,lo,hi,h3,h4,h5,h6,h7,h8⟩
 dsimp only at h1 h2 h3 h4⊢
 subst h1 h2 h3 h4
 refine Br.dec (fun hl=>?_) fun hl=>?_
 ·have em:IntKind.i64.wrap ((IntKind.i64.wrap ((lo:Int)+(hi:Int))).tdiv 2)=(((lo+hi)/2:Nat):Int):=by
   rw [Bz (n:=(lo:Int)+(hi:Int)) (by omega) (by omega),Int.tdiv_eq_ediv_of_nonneg (by omega),Bz (by omega) (by omega)]
   omega
  rw [em]
  have hm1:(lo+hi)/2<srt'.length:=by omega
  have hi1:=h.idx hm1
  have hi2:srt'[(lo+hi)/2].toNat<L'.length:=by omega
  have hgd:=Ll hi2
  have hlen:=h.len _ (List.getElem_mem hi2)
  have hsh:short L'[srt'[(lo+hi)/2].toNat]:=by
   unfold short
   have:=h.short;omega
  refine ⟨by decide,_,Az hm1,_,Azc hi1.1 hi2,_,if_pos ⟨hsh,hlen⟩,⟨fun hc=>?_,fun hc=>?_⟩⟩
  ·have hc:Vd L'[srt'[(lo+hi)/2].toNat] s=true:=hc
   have hs:=(h.Ua s hm1).2 (by rw [hgd];exact hc)
   rw [Am (by omega)]
   exact ⟨⟨rfl,rfl,(lo+hi)/2+1,hi,rfl,rfl,by omega,h6,by omega,h8⟩,by omega⟩
  ·have hc:Vd L'[srt'[(lo+hi)/2].toNat] s=false:=hc
   have hs: ¬(lo+hi)/2<Cj L' srt' s:=fun hh=>by
    have:=(h.Ua s hm1).1 hh
    rw [hgd,hc] at this;cases this
   exact ⟨⟨rfl,rfl,lo,(lo+hi)/2,rfl,rfl,by omega,by omega,h7,by omega⟩,by omega⟩
 ·show (lo:Int)=_
  omega
theorem Ajq:Sound Try.prog 119 Vu:=
 Sound.mkS Ca (Ad Ajp Ba) mixed Try.func119 (by kernel_rfl) (by kernel_rfl) fun x h=>Bcp x.1 x.2.1 h
theorem Azy (f:SS) (s:List Int) (h:Cr s.length f.1 f.2.2.1):fnW tab (look [(119,Vu),(59,Bk)]) Tz Try.f69 (f,s,()) (fun (z:Int)=>z=Ag9 f.1 s):=by
 obtain ⟨L,D,srt,b,⟨⟩⟩:=f
 dsimp only at h⊢
 refine Eq.mp (Bar (L,D,srt,b,()) s _) ⟨_,if_pos h,Br.dec (fun hl=>?_) fun hl=>?_⟩
 ·have hl:Cj L srt s<srt.length:=by
   have hl:((Cj L srt s:Nat):Int)<(srt.length:Int):=hl
   omega
  have hi1:=h.idx hl
  have hi2:srt[Cj L srt s].toNat<L.length:=by omega
  have hgd:=Ll hi2
  have hlen:=h.len _ (List.getElem_mem hi2)
  have hsh:short L[srt[Cj L srt s].toNat]:=by
   unfold short
   have:=h.short;omega
  refine ⟨_,Az hl,_,Azc hi1.1 hi2,_,if_pos hsh,⟨fun hc=>⟨_,Az hl,?_⟩,fun hc=>?_⟩⟩
  ·have hc:L[srt[Cj L srt s].toNat]=s:=of_decide_eq_true hc
   rcases h.Anc (s:=s) with ⟨hk,_,e⟩|⟨_,hne⟩
   ·exact e.symm
   ·exact absurd (by rw [hgd];exact hc) (hne hl)
  ·have hc: ¬L[srt[Cj L srt s].toNat]=s:=of_decide_eq_false hc
   rcases h.Anc (s:=s) with ⟨hk,e,_⟩|⟨e,_⟩
   ·rw [hgd] at e;exact absurd e hc
   ·exact e.symm
 ·have hl: ¬Cj L srt s<srt.length:=by
   have hl: ¬((Cj L srt s:Nat):Int)<(srt.length:Int):=hl
   omega
  rcases h.Anc (s:=s) with ⟨hk,e,_⟩|⟨e,_⟩
  ·exact absurd hk hl
  ·exact e.symm
theorem Ap6:Sound Try.prog 69 Tz:=
 Sound.mkS Ca (Ad Ajq (Ad Ws Ba)) mixed Try.func69 (by kernel_rfl) (by kernel_rfl) fun x h=>Azy x.1 x.2.1 h
theorem Au7 {S:List Int} {k:Nat} (h:k≤S.length) (n:Int):
  (Bh (S++ [0]) (k+1) (List.take ((S++ [0]).length-(k+1)) (List.take ((S++ [0]).length-k) (List.drop k (S++ [0]))))).set k n=Ma S k n:=by
 obtain ⟨A,B,rfl,hA⟩: ∃A B,S=A++B∧A.length=k:=⟨S.take k,S.drop k,(List.take_append_drop k S).symm,by rw [List.length_take];omega⟩
 subst hA
 have e1:List.drop A.length (A++B++ [0])=B++ [0]:=by rw [List.append_assoc,List.drop_left]
 have e2:List.take ((A++B++ [0]).length-A.length) (B++ [0])=B++ [0]:=List.take_of_length_le (by simp only [List.length_append,List.length_singleton];omega)
 have e3:List.take ((A++B++ [0]).length-(A.length+1)) (B++ [0])=B:=by
  have:(A++B++ [(0:Int)]).length-(A.length+1)=B.length:=by simp only [List.length_append,List.length_singleton];omega
  rw [this,List.take_left]
 rw [e1,e2,e3]
 unfold Bh Ma
 have e4:List.drop (A.length+1+B.length) (A++B++ [0])= []:=List.drop_eq_nil_of_le (by simp only [List.length_append,List.length_singleton];omega)
 obtain ⟨c,hc⟩: ∃c,List.take (A.length+1) (A++B++ [0])=A++ [c]:=by
  rw [List.append_assoc,List.take_append,List.take_of_length_le (by omega)]
  cases B with
  |nil=>exact ⟨0,by simp⟩
  |cons b B=>exact ⟨b,by simp⟩
 rw [e4,hc,List.append_nil,List.append_assoc,List.singleton_append,Bbi,List.take_left,List.drop_left]
theorem Bco (L:List (List Int)) (D S:List Int) (b:Bool) (s:List Int) (d:Int) (h:Cr s.length L S∧D.length≤3000):
  Aen Bbq (look [(119,Vu)]) Ac6 Try.f151 (L,D,S,b,s,d,()) (fun (z:(List (List Int)×List Int×List Int×Bool×Unit)×Unit)=>z=((L++ [s],D++ [d],Ma S (Cj L S s) L.length,b,()),())):=by
 obtain ⟨h,hD⟩:=h
 have hle:=Awo L S s
 have hl2:=h.Aim
 have hfew:=h.few
 refine Eq.mp (Bd1 L D S b s d _) ?_
 rw [Cp L,Cp D,Cp S]
 refine ⟨_,if_pos h,?_⟩
 dsimp only
 have es:List.take 1 (List.drop 0 [(0:Int)])= [0]:=rfl
 have el:(S++ [(0:Int)]).length=S.length+1:=by simp
 rw [es,Am (by omega),Nat.zero_add,Nat.zero_add,Int.toNat_natCast,Int.toNat_natCast,Int.toNat_natCast]
 refine ⟨rfl,rfl,by show S.length+1≤4294967296;omega,⟨by omega,by omega,by omega⟩,⟨by omega,by omega,by omega⟩,⟨by omega,by omega⟩,?_,rfl,rfl,by show L.length+1≤4294967296;omega,rfl,rfl,by show D.length+1≤4294967296;omega,?_⟩
 ·unfold Bh
  simp only [List.length_append,List.length_take,List.length_drop,List.length_singleton]
  omega
 ·rw [Au7 hle,Cp,Cp]
  have e5:List.take (S++ [(0:Int)]).length (List.drop 0 (Ma S (Cj L S s) (L.length:Int)))=Ma S (Cj L S s) (L.length:Int):=by
   rw [List.drop_zero,List.take_of_length_le]
   unfold Ma
   simp only [List.length_append,List.length_cons,List.length_take,List.length_drop,List.length_nil]
   omega
  rw [e5]
  rfl
theorem Avj:Dt Try.prog 151 Ac6:=
 Dt.mkM Baj (Ad Ajq Ba) mixed Try.func151 (by kernel_rfl) (by kernel_rfl) fun x h=>Bco x.1 x.2.1 x.2.2.1 x.2.2.2.1 x.2.2.2.2.1 x.2.2.2.2.2.1 h
structure Og (p:PP) (m:Nat) (L:List (List Int)) (D:List Int):Prop where
 ok:Cr m L (Rw L)
 len:D.length=L.length
 row: ∀x∈L,∀y∈x,0≤y∧y<p.1
 dep: ∀j (h:j<D.length),0≤D[j]∧D[j]≤j
theorem Aod {p:PP} (hv:Valid p) {x:List Int} {l:Int} (hx: ∀y∈x,0≤y∧y<p.1) (hl:Ft (List.length p.2.2.1) l):
  (Aa x (Af p.2.2.1 l)).length=x.length∧ ∀y∈Aa x (Af p.2.2.1 l),0≤y∧y<p.1:=by
 obtain ⟨h1,h2⟩:=Aev hv hl
 refine ⟨Rb _ _,fun y hy=>?_⟩
 have:=Aqj (n:=(Af p.2.2.1 l).length) (fun z hz=>by have:=hx z hz;omega) h2 y hy
 omega
theorem Og.add {p:PP} {m:Nat} {L:List (List Int)} {D:List Int} (h:Og p m L D) {y:List Int} {d:Int} (hn:y∉L) (hl:y.length=m) (hr:L.length<3000) (hy: ∀z∈y,0≤z∧z<p.1) (hd:0≤d∧d≤L.length):Og p m (L++ [y]) (D++ [d]):=by
 have hlen:=h.len
 refine ⟨by rw [Vv];exact h.ok.add hn hl hr,by simp [hlen],fun x hx=>?_,fun j hj=>?_⟩
 ·rcases List.mem_append.1 hx with hx|hx
  ·exact h.row x hx
  ·rw [List.mem_singleton.1 hx];exact hy
 ·by_cases e:j<D.length
  ·rw [List.getElem_append_left e];exact h.dep j e
  ·simp only [List.length_append,List.length_singleton] at hj
   have:j=D.length:=by omega
   subst this
   rw [List.getElem_append_right (by omega)]
   simp only [Nat.sub_self,List.getElem_cons_zero]
   omega
theorem Zo {p:PP} {s:List Int} (hs:s.length≤20) (hr: ∀y∈s,0≤y∧y<p.1):Og p s.length [s] [0]:=by
 refine ⟨?_,rfl,fun x hx=>by rw [List.mem_singleton.1 hx];exact hr,fun j hj=>?_⟩
 ·have:=(Adx hs).add (s:=s) (by simp) rfl (by simp)
  have e:Rw [s]=Ma [] (Cj [] [] s) 0:=Vv [] s
  rw [e];exact this
 ·simp only [List.length_singleton] at hj
  have:j=0:=by omega
  subst this
  simp
theorem Ama {L:List (List Int)} {s:List Int} :Ag9 L s≥0↔s∈L:=by
 unfold Ag9
 split
 ·rename_i h;exact ⟨fun _=>h,fun _=>by omega⟩
 ·rename_i h;exact ⟨fun hh=>by omega,fun hh=>absurd hh h⟩
theorem Bbg (p:PP) (s:List Int) (h:Bm p=true∧s.length≤20∧ ∀y∈s,0≤y∧y<p.1):fnW Bcx (look [(120,Mq),(151,Ac6),(142,Lh),(129,Tw),(69,Tz)]) Ct Try.f105 (p,s,()) (fun (z:SS)=>z=Hg p.2.2.1 s):=by
 obtain ⟨hv,hs,hr⟩:=h
 have hV:=valid hv
 have hfew:=hV.few
 have hb0:=Zo hs hr
 have hsh:short s:=by unfold short;omega
 obtain ⟨ls,hls⟩: ∃ls,Bc (List.length p.2.2.1)=ls:=⟨_,rfl⟩
 refine Eq.mp (Bby p s _) ⟨_,if_pos hsh,_,if_pos ⟨Adx hs,by show 0≤3000;omega⟩,ls,(if_pos (by show List.length p.2.2.1≤8;exact hfew.2)).trans (congrArg some hls),rfl,rfl,rfl,rfl,rfl,rfl,rfl,rfl,rfl,rfl,rfl,rfl,?_⟩
 have e0:Ma [] (Cj [] [] s) ((([]:List (List Int)).length:Nat):Int)=Rw [s]:=(Vv [] s).symm
 show Cb _ ((0:Int),p.1,p.2.1,p.2.2.1,false,false,[],[],[],[s],[(0:Int)],Ma [] (Cj [] [] s) ((([]:List (List Int)).length:Nat):Int),PUnit.unit)
 rw [e0]
 have hll:ls.length≤16:=by rw [←hls,Ke];omega
 have hmem: ∀l∈ls,Ft (List.length p.2.2.1) l:=fun l hl=>La (hls▸hl)
 have hstart:Gv p.2.2.1 ls 3001 0 [s] [0]=Fa p.2.2.1 s:=by unfold Fa;rw [hls]
 refine Cb.mk (fun v=>v.2.1=p.1∧v.2.2.1=p.2.1∧v.2.2.2.1=p.2.2.1∧v.2.2.2.2.2.1=false∧ ∃k:Nat,v.1=k∧k≤v.2.2.2.2.2.2.2.2.2.1.length∧
   Og p s.length v.2.2.2.2.2.2.2.2.2.1 v.2.2.2.2.2.2.2.2.2.2.1∧v.2.2.2.2.2.2.2.2.2.2.2.1=Rw v.2.2.2.2.2.2.2.2.2.1∧
   Gv p.2.2.1 ls (3001-k) k v.2.2.2.2.2.2.2.2.2.1 v.2.2.2.2.2.2.2.2.2.2.1=Fa p.2.2.1 s) (fun v=>3001-v.1.toNat)
  ⟨rfl,rfl,rfl,rfl,0,rfl,by simp,hb0,rfl,hstart⟩ ?_
 rintro ⟨k',n1,n2,n3,b0,wh,x1,x2,x3,L0,D0,S0,⟨⟩⟩ ⟨h1,h2,h3,h4,k,h5,h6,h7,h8,h9⟩
 dsimp only at h1 h2 h3 h4 h5 h6 h7 h8 h9
 subst h1 h2 h3 h4 h5 h8
 dsimp only
 have hL0:=h7.ok.few
 have hD0:=h7.len
 refine Br.dec (fun hl=>⟨rfl,rfl,rfl,rfl,rfl,rfl,rfl,rfl,rfl,rfl,rfl,rfl,?_⟩) fun hl=>?_
 ·have hk:k<L0.length:=by omega
  have hkD:k<D0.length:=by omega
  have hx: ∀y∈L0[k],0≤y∧y<p.1:=h7.row _ (List.getElem_mem hk)
  have hxl:L0[k].length=s.length:=h7.ok.len _ (List.getElem_mem hk)
  have hdk:=h7.dep k hkD
  obtain ⟨f,hf⟩: ∃f,3001-k=f+1:=⟨3000-k,by omega⟩
  have hgo: ∀L' D' ok,Fl p.2.2.1 L0[k] D0[k] ls L0 D0=(L',D',ok)→Fa p.2.2.1 s=if ok=true then Gv p.2.2.1 ls f (k+1) L' D' else (L',D',false):=by
   intro L' D' ok he
   rw [←h9,hf,Gv,if_pos hk,Ll hk,List.getD_eq_getElem?_getD,List.getElem?_eq_getElem hkD]
   simp only [Option.getD_some]
   rw [he]
   cases ok<;>rfl
  refine Cb.mk (fun v=>v.2.1=p.1∧v.2.2.1=p.2.1∧v.2.2.2.1=p.2.2.1∧v.2.2.2.2.2.1=false∧ ∃i:Nat,v.1=i∧i≤ls.length∧Og p s.length v.2.2.2.2.2.2.2.2.2.1 v.2.2.2.2.2.2.2.2.2.2.1∧
    v.2.2.2.2.2.2.2.2.2.2.2.1=Rw v.2.2.2.2.2.2.2.2.2.1∧(∃A,v.2.2.2.2.2.2.2.2.2.1=L0++A)∧(∃A,v.2.2.2.2.2.2.2.2.2.2.1=D0++A)∧
    Fl p.2.2.1 L0[k] D0[k] (ls.drop i) v.2.2.2.2.2.2.2.2.2.1 v.2.2.2.2.2.2.2.2.2.2.1=Fl p.2.2.1 L0[k] D0[k] ls L0 D0) (fun v=>ls.length-v.1.toNat)
   ⟨rfl,rfl,rfl,rfl,0,rfl,Nat.zero_le _,h7,rfl,⟨[],by simp⟩,⟨[],by simp⟩,rfl⟩ ?_
  rintro ⟨i',m1,m2,m3,b1,wh1,y1,y2,y3,L,D,S,⟨⟩⟩ ⟨g1,g2,g3,g4,i,g5,g6,g7,g8,⟨A,g9⟩,⟨A',g10⟩,g11⟩
  dsimp only at g1 g2 g3 g4 g5 g6 g7 g8 g9 g10 g11
  subst g1 g2 g3 g4 g5 g8
  dsimp only
  have hLf:=g7.ok.few
  have hDl:=g7.len
  rw [Cp L,Cp D,Cp (Rw L)]
  refine Br.dec (fun hli=>?_) fun hli=>?_
  ·have hi:i<ls.length:=by omega
   have hkL:k<L.length:=by rw [g9,List.length_append];omega
   have hLk:L[k]=L0[k]:=by simp only [g9];exact List.getElem_append_left hk
   have hkD2:k<D.length:=by rw [hDl];exact hkL
   have hDk:D[k]=D0[k]:=by simp only [g10];exact List.getElem_append_left hkD
   have hlet:=hmem _ (List.getElem_mem hi)
   obtain ⟨nl,nr⟩:=Aod hV hx hlet
   rw [List.drop_eq_getElem_cons hi] at g11
   simp only [Fl] at g11
   refine ⟨⟨by omega,by omega⟩,L0[k],by rw [Int.toNat_natCast,Nat.zero_add,List.getElem?_eq_getElem hkL,hLk],_,Az hi,_,if_pos ⟨hv,by show L0[k].length≤20;omega,hx,hlet⟩,?_⟩
   dsimp only
   have hyl:(Aa L0[k] (Af p.2.2.1 ls[i])).length=s.length:=by rw [nl,hxl]
   refine ⟨_,if_pos (by show Cr (Aa L0[k] (Af p.2.2.1 ls[i])).length L (Rw L);rw [hyl];exact g7.ok),Br.dec (fun hin=>?_) fun hin=>?_⟩
   ·have hin:Aa L0[k] (Af p.2.2.1 ls[i])∈L:=Ama.1 hin
    rw [if_pos hin] at g11
    rw [Am (by omega)]
    exact ⟨rfl,rfl,rfl,rfl,rfl,rfl,rfl,rfl,rfl,rfl,rfl,rfl,⟨rfl,rfl,rfl,rfl,i+1,rfl,hi,g7,rfl,⟨A,g9⟩,⟨A',g10⟩,g11⟩,by omega⟩
   ·have hin:Aa L0[k] (Af p.2.2.1 ls[i])∉L:=fun hh=>hin (Ama.2 hh)
    rw [if_neg hin] at g11
    refine ⟨fun hfull=>?_,fun hfull=>⟨⟨by omega,by omega⟩,D0[k],by rw [Int.toNat_natCast,Nat.zero_add,List.getElem?_eq_getElem hkD2,hDk],rfl,rfl,rfl,rfl,rfl,rfl,?_⟩⟩
    ·have hfull:L.length=3000:=by
      have:(L.length:Int)=3000:=by simpa using hfull
      omega
     rw [if_pos hfull] at g11
     have:=hgo _ _ _ g11.symm
     rw [if_neg (by decide)] at this
     unfold Hg
     rw [this]
    ·have hfull:L.length≠3000:=by
      have:(L.length:Int)≠3000:=by simpa using hfull
      omega
     rw [if_neg hfull] at g11
     rw [Bz (n:=D0[k]+1) (by omega) (by omega)]
     refine ⟨_,if_pos ⟨by show Cr (Aa L0[k] (Af p.2.2.1 ls[i])).length L (Rw L);rw [hyl];exact g7.ok,by show D.length≤3000;omega⟩,?_⟩
     dsimp only
     rw [Am (by omega),←Vv]
     refine ⟨rfl,rfl,rfl,rfl,rfl,rfl,rfl,rfl,rfl,rfl,rfl,rfl,⟨rfl,rfl,rfl,rfl,i+1,rfl,hi,g7.add hin hyl (by omega) nr ⟨by omega,by omega⟩,rfl,⟨A++ [Aa L0[k] (Af p.2.2.1 ls[i])],by rw [g9,List.append_assoc]⟩,⟨A'++ [D0[k]+1],by rw [g10,List.append_assoc]⟩,g11⟩,by omega⟩
  ·have:i=ls.length:=by omega
   subst this
   rw [List.drop_length,Fl] at g11
   have:=hgo _ _ _ g11.symm
   rw [if_pos rfl] at this
   rw [Am (by omega)]
   refine ⟨rfl,rfl,rfl,rfl,rfl,rfl,rfl,rfl,rfl,rfl,rfl,rfl,⟨rfl,rfl,rfl,rfl,k+1,rfl,by rw [g9,List.length_append];omega,g7,rfl,?_⟩,by omega⟩
   rw [show 3001-(k+1)=f by omega]
   exact this.symm
 ·have hk:k=L0.length:=by omega
  rw [Cp L0,Cp D0,Cp (Rw L0)]
  obtain ⟨f,hf⟩: ∃f,3001-k=f+1:=⟨3000-k,by omega⟩
  rw [hf,Gv,if_neg (by omega)] at h9
  unfold Hg
  rw [←h9]
theorem Asp:Sound Try.prog 105 Ct:=
 Sound.mkS Bcy (Ad Ajl (Tb Avj (Ad Ah1 (Ad Ap4 (Ad Ap6 Ba))))) mixed Try.func105 (by kernel_rfl) (by kernel_rfl) fun x h=>Bbg x.1 x.2.1 h
end Go.Proofs.Ytebabhocakedaaa

namespace Go.Proofs.Ytebabhocakedaaa
open Go.RowKit
noncomputable def Dm (p:PP) (t:List Int):Bool:=Bm p&&Nt p.1 t
noncomputable abbrev Dr:Spec:=mkS (.pair Ds (.pair tL .unit)) .bool false true (fun x=>Ec x.1∧short x.2.1) (fun x=>Dm x.1 x.2.1)
theorem Ale (p:Int×ByteArray×List (List Int)×Unit) (t:List Int) (P:Bool→Prop):(∃(y3:Bool),Ei.fn ((p.1,p.2.1,p.2.2.1,()),())=some y3∧Br y3 (∃(y4:Bool),Eg.fn (p.1,t,())=some y4∧P y4) (P false))=fnW tab (look [(124,Ei),(55,Eg)]) Dr Try.f114 (p,t,()) P:=by kernel_rfl
theorem Ali (p:Int×ByteArray×List (List Int)×Unit) (t:List Int) (P:Bool→Prop):(∃(y3:Bool),Ei.fn ((p.1,p.2.1,p.2.2.1,()),())=some y3∧Br y3 (∃(y4:Bool),Eg.fn (p.1,t,())=some y4∧P y4) (P false))=fnW tab (look [(99,Ei),(100,Eg)]) Dr Try.f51 (p,t,()) P:=by kernel_rfl
theorem Acm {p:PP} (hV:Valid p) {m:Nat} {x:List Int} {d:Int} (hx: ∀y∈x,0≤y∧y<p.1) (hxl:x.length=m): ∀(ls:List Int) (L:List (List Int)) (D:List Int),(∀l∈ls,Ft (List.length p.2.2.1) l)→
  Og p m L D→(0≤d∧d<L.length)→Og p m (Fl p.2.2.1 x d ls L D).1 (Fl p.2.2.1 x d ls L D).2.1∧(∃A,(Fl p.2.2.1 x d ls L D).1=L++A)∧(∃A,(Fl p.2.2.1 x d ls L D).2.1=D++A)
 | [],L,D,_,h,_=>⟨h,⟨[],by simp [Fl]⟩,⟨[],by simp [Fl]⟩⟩
 |l::ls,L,D,hl,h,hd=>by
  obtain ⟨n1,n2⟩:=Aod hV hx (hl l (by simp))
  have hl': ∀l∈ls,Ft (List.length p.2.2.1) l:=fun l' h'=>hl l' (List.mem_cons_of_mem _ h')
  simp only [Fl]
  split
  ·exact Acm hV hx hxl ls L D hl' h hd
  ·rename_i hn
   split
   ·exact ⟨h,⟨[],by simp⟩,⟨[],by simp⟩⟩
   ·rename_i hf
    have hfew:=h.ok.few
    obtain ⟨k1,⟨A,k2⟩,⟨A',k3⟩⟩:=Acm hV hx hxl ls (L++ [Aa x (Af p.2.2.1 l)]) (D++ [d+1]) hl' (h.add hn (by rw [n1,hxl]) (by omega) n2 ⟨by omega,by omega⟩) ⟨hd.1,by rw [List.length_append];omega⟩
    exact ⟨k1,⟨_::A,by rw [k2,List.append_assoc];rfl⟩,⟨_::A',by rw [k3,List.append_assoc];rfl⟩⟩
theorem Aq9 {p:PP} (hV:Valid p) {m:Nat} {ls:List Int} (hl: ∀l∈ls,Ft (List.length p.2.2.1) l): ∀(f k:Nat) (L:List (List Int)) (D:List Int),Og p m L D→
  Og p m (Gv p.2.2.1 ls f k L D).1 (Gv p.2.2.1 ls f k L D).2.1∧(∃A,(Gv p.2.2.1 ls f k L D).1=L++A)
 |0,k,L,D,h=>⟨h,⟨[],by simp [Gv]⟩⟩
 |f+1,k,L,D,h=>by
  simp only [Gv]
  split
  ·rename_i hk
   have hkD:k<D.length:=by rw [h.len];exact hk
   have hd:=h.dep k hkD
   have e:D.getD k 0=D[k]:=by rw [List.getD_eq_getElem?_getD,List.getElem?_eq_getElem hkD];rfl
   rw [Ll hk,e]
   obtain ⟨k1,⟨A,k2⟩,_⟩:=Acm hV (h.row _ (List.getElem_mem hk)) (h.ok.len _ (List.getElem_mem hk)) (d:=D[k]) ls L D hl h ⟨by omega,by omega⟩
   split
   ·rename_i L' D' he
    rw [he] at k1 k2
    obtain ⟨g1,⟨B,g2⟩⟩:=Aq9 hV hl f (k+1) L' D' k1
    have k2:L'=L++A:=k2
    exact ⟨g1,⟨A++B,by rw [g2,k2,List.append_assoc]⟩⟩
   ·rename_i L' D' he
    rw [he] at k1 k2
    exact ⟨k1,⟨A,k2⟩⟩
  ·exact ⟨h,⟨[],by simp⟩⟩
theorem Bc9 {p:PP} {s:List Int} (hv:Bm p=true) (hs:s.length≤20) (hr: ∀y∈s,0≤y∧y<p.1):Og p s.length (Fa p.2.2.1 s).1 (Fa p.2.2.1 s).2.1∧ ∃A,(Fa p.2.2.1 s).1=s::A:=
 Aq9 (valid hv) (fun _ hl=>La hl) _ _ _ _ (Zo hs hr)
theorem Agn {p:PP} {t:List Int} :Dm p t=true↔Bm p=true∧Nt p.1 t=true:=by
 unfold Dm;rw [Bool.and_eq_true]
theorem Asy {p:PP} {t:List Int} (h:Dm p t=true):t.length≤20∧ ∀y∈t,0≤y∧y<p.1:=by
 obtain ⟨h1,h2⟩:=Agn.1 h
 have hn:=(valid h1).n
 obtain ⟨h3,h4⟩:=Fy.1 h2
 have hy: ∀y∈t,0≤y∧y<p.1:=fun y hy=>by
  obtain ⟨j,hj,rfl⟩:=List.mem_iff_getElem.1 hy
  have:=h4 j hj hj
  omega
 refine ⟨?_,hy⟩
 have h5:=Auz h4 (t.length-1) (by omega)
 have h6:=hy _ (List.getElem_mem (show t.length-1<t.length by omega))
 omega
theorem Ako (p:PP) (t:List Int) (h:Ec p∧short t):fnW tab (look [(124,Ei),(55,Eg)]) Dr Try.f114 (p,t,()) (fun (z:Bool)=>z=Dm p t):=by
 refine Eq.mp (Ale p t _) ⟨_,if_pos h.1,⟨fun hv=>?_,fun hv=>?_⟩⟩
 ·have hv:Bm p=true:=hv
  have hn:=(valid hv).n
  refine ⟨_,if_pos ⟨⟨by show 0≤p.1;omega,by show p.1≤4294967296;omega⟩,h.2⟩,?_⟩
  unfold Dm;rw [hv];rfl
 ·have hv:Bm p=false:=hv
  unfold Dm;rw [hv];rfl
theorem Ae0:Sound Try.prog 114 Dr:=
 Sound.mkS Ca (Ad Ub (Ad Ah0 Ba)) mixed Try.func114 (by kernel_rfl) (by kernel_rfl) fun x h=>Ako x.1 x.2.1 h
theorem Akt (p:PP) (t:List Int) (h:Ec p∧short t):fnW tab (look [(99,Ei),(100,Eg)]) Dr Try.f51 (p,t,()) (fun (z:Bool)=>z=Dm p t):=by
 refine Eq.mp (Ali p t _) ⟨_,if_pos h.1,⟨fun hv=>?_,fun hv=>?_⟩⟩
 ·have hv:Bm p=true:=hv
  have hn:=(valid hv).n
  refine ⟨_,if_pos ⟨⟨by show 0≤p.1;omega,by show p.1≤4294967296;omega⟩,h.2⟩,?_⟩
  unfold Dm;rw [hv];rfl
 ·have hv:Bm p=false:=hv
  unfold Dm;rw [hv];rfl
theorem Ae5:Sound Try.prog 51 Dr:=
 Sound.mkS Ca (Ad Ud (Ad Ae2 Ba)) mixed Try.func51 (by kernel_rfl) (by kernel_rfl) fun x h=>Akt x.1 x.2.1 h
def Atj (m:ByteArray→Option Bool) (L:List (List Int)):Prop:= ∀q,Pz q→(m (Ky q)).getD false=decide (q∈L)
theorem Atj.add {m:ByteArray→Option Bool} {L:List (List Int)} {y:List Int} (h:Atj m L) (hy:Pz y):Atj (Em m (Ky y) true) (L++ [y]):=by
 intro q hq
 unfold Em
 by_cases e:q=y
 ·subst e
  rw [if_pos rfl];simp
 ·rw [if_neg fun hk=>e (key_inj hq hy hk),h q hq]
  simp [e]
end Go.Proofs.Ytebabhocakedaaa
