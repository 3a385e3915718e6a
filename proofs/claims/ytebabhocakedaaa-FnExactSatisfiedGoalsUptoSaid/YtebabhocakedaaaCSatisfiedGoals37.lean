/-
  Part 38 of the proof that the statement FnExactSatisfiedGoals holds.
-/
import Derived.Test.YtebabhocakedaaaCSatisfiedGoals36
import Derived.KernelRfl
namespace Go.Proofs.Ytebabhocakedaaa
open Go.RowKit
def Fu (x a b:Int):Bool:=decide (a≤x∧x≤b)
def Aa6 (n x:Int):Bool:=decide (0≤x∧x≤IntKind.i64.wrap (n-1))
def Gt (a b:List Int):Bool:=decide (a=b)
def Bf (xs:List Int) (x:Int):Bool:=decide (x∈xs)
def short (xs:List Int):Prop:=xs.length≤4294967296
noncomputable abbrev Bc:Spec:=mkS (.pair tI (.pair tI (.pair tI .unit))) .bool false true (fun _=>True) (fun x=>Fu x.1 x.2.1 x.2.2.1)
noncomputable abbrev Qb:Spec:=mkS (.pair tI (.pair tI .unit)) .bool false true (fun _=>True) (fun x=>Aa6 x.1 x.2.1)
noncomputable abbrev Dg:Spec:=mkS (.pair tL (.pair tL .unit)) .bool false true (fun x=>short x.1) (fun x=>Gt x.1 x.2.1)
noncomputable abbrev Ch:Spec:=mkS (.pair tL (.pair tI .unit)) .bool false true (fun x=>short x.1) (fun x=>Bf x.1 x.2.1)
theorem Azb (x a b:Int) (P:Bool→Prop):(Br (decide (x≥a)) (P (decide (x≤b))) (P false))=fnW tab (look []) Bc Try.f122 (x,a,b,()) P:=by kernel_rfl
theorem Bbo (x a b:Int) (P:Bool→Prop):(Br (decide (x≥a)) (P (decide (x≤b))) (P false))=fnW tab (look []) Bc Try.f108 (x,a,b,()) P:=by kernel_rfl
theorem Azd (n x:Int) (P:Bool→Prop):(∃(y3:Bool),Bc.fn (x,0,IntKind.i64.wrap (n-1),())=some y3∧P y3)=fnW tab (look [(108,Bc)]) Qb Try.f102 (n,x,()) P:=by kernel_rfl
theorem Atm (a b:List Int) (P:Bool→Prop):(Br ((↑a.length:Int) !=(↑b.length:Int)) (P false)
 (Cc
  (fun (v3:Int×PUnit) (k4:Int×PUnit→Prop)=>
   Br (decide (v3.1<(↑a.length:Int))) (∃(y5:Int),idx a v3.1=some y5∧ ∃(y6:Int),idx b v3.1=some y6∧Br (y5 !=y6) (P false) (k4 (IntKind.i64.wrap (v3.1+1),())))
    (P true))
  (0,PUnit.unit)))=fnW tab (look []) Dg Try.f59 (a,b,()) P:=by kernel_rfl
theorem Alq (xs:List Int) (x:Int) (P:Bool→Prop):(Cc
 (fun (v3:Int×PUnit) (k4:Int×PUnit→Prop)=>
  Br (decide (v3.1<(↑xs.length:Int))) (∃(y5:Int),idx xs v3.1=some y5∧Br (y5==x) (P true) (k4 (IntKind.i64.wrap (v3.1+1),()))) (P false))
 (0,PUnit.unit))=fnW tab (look []) Ch Try.f152 (xs,x,()) P:=by kernel_rfl
theorem Ay9 (x a b:Int) (_:True):fnW tab (look []) Bc Try.f122 (x,a,b,()) (fun (z:Bool)=>z=Fu x a b):=by
 refine Eq.mp (Azb x a b _) ?_
 refine Br.dec (fun h=>?_) fun h=>?_
 ·have h:a≤x:=h
  simp [Fu,h]
 ·exact (decide_eq_false fun hh=>h hh.1).symm
theorem Nq:Sound Try.prog 122 Bc:=
 Sound.mkS Bp As mixed Try.func122 (by kernel_rfl) (by kernel_rfl) fun x h=>Ay9 x.1 x.2.1 x.2.2.1 h
theorem Bat (x a b:Int) (_:True):fnW tab (look []) Bc Try.f108 (x,a,b,()) (fun (z:Bool)=>z=Fu x a b):=by
 refine Eq.mp (Bbo x a b _) ?_
 refine Br.dec (fun h=>?_) fun h=>?_
 ·have h:a≤x:=h
  simp [Fu,h]
 ·exact (decide_eq_false fun hh=>h hh.1).symm
theorem Js:Sound Try.prog 108 Bc:=
 Sound.mkS Bp As mixed Try.func108 (by kernel_rfl) (by kernel_rfl) fun x h=>Bat x.1 x.2.1 x.2.2.1 h
theorem Ayb (n x:Int) (_:True):fnW tab (look [(108,Bc)]) Qb Try.f102 (n,x,()) (fun (z:Bool)=>z=Aa6 n x):=
 Eq.mp (Azd n x _) ⟨_,if_pos trivial,rfl⟩
theorem Alk:Sound Try.prog 102 Qb:=
 Sound.mkS Bp (Ad Js As) mixed Try.func102 (by kernel_rfl) (by kernel_rfl) fun x h=>Ayb x.1 x.2.1 h
theorem Al2 (xs:List Int) (x:Int) (h:short xs):fnW tab (look []) Ch Try.f152 (xs,x,()) (fun (z:Bool)=>z=Bf xs x):=by
 refine Eq.mp (Alq xs x _) ?_
 unfold short at h
 refine Ao xs.length (fun v=>v.1) (fun j _=>x∉xs.take j) rfl (by simp) ?_
 rintro j ⟨i,⟨⟩⟩ K hj hi hR hK
 dsimp only at hi⊢
 subst hi
 refine Br.dec (fun hl=>?_) fun hl=>?_
 ·have hl:j<xs.length:=by omega
  refine ⟨_,Aq hl,⟨fun he=>?_,fun he=>?_⟩⟩
  ·have hm:=List.getElem_mem hl
   simp only [beq_iff_eq] at he
   rw [he] at hm
   exact (decide_eq_true hm).symm
  ·rw [Ak (by omega)]
   refine hK hl _ rfl ?_
   simp only [beq_eq_false_iff_ne,ne_eq] at he
   rw [List.take_succ_eq_append_getElem hl]
   simp only [List.mem_append,List.mem_singleton,not_or]
   exact ⟨hR,fun hx=>he hx.symm⟩
 ·have:j=xs.length:=by omega
  subst this
  rw [List.take_length] at hR
  exact (decide_eq_false hR).symm
theorem Si:Sound Try.prog 152 Ch:=
 Sound.mkS Bp As mixed Try.func152 (by kernel_rfl) (by kernel_rfl) fun x h=>Al2 x.1 x.2.1 h
theorem Aws (a b:List Int) (hlen:a.length=b.length) (h:short a):
  Cc (fun (v3:Int×PUnit) (k4:Int×PUnit→Prop)=>
   Br (decide (v3.1<(↑a.length:Int))) (∃(y5:Int),idx a v3.1=some y5∧ ∃(y6:Int),idx b v3.1=some y6∧Br (y5 !=y6) (false=Gt a b) (k4 (IntKind.i64.wrap (v3.1+1),())))
    (true=Gt a b))
  (0,PUnit.unit):=by
 unfold short at h
 refine Ao a.length (fun v=>v.1) (fun j _=>a.take j=b.take j) rfl (by simp) ?_
 rintro j ⟨i,⟨⟩⟩ K hj hi hR hK
 dsimp only at hi⊢
 subst hi
 refine Br.dec (fun hl=>?_) fun hl=>?_
 ·have hl1:j<a.length:=by omega
  have hl2:j<b.length:=by omega
  refine ⟨_,Aq hl1,_,Aq hl2,⟨fun he=>?_,fun he=>?_⟩⟩
  ·simp only [bne_iff_ne,ne_eq] at he
   refine (decide_eq_false fun hab=>he ?_).symm
   subst hab
   rfl
  ·rw [Ak (by omega)]
   refine hK hl1 _ rfl ?_
   simp only [bne_eq_false_iff_eq] at he
   rw [List.take_succ_eq_append_getElem hl1,List.take_succ_eq_append_getElem hl2,hR,he]
 ·have hj':j=a.length:=by omega
  subst hj'
  rw [List.take_length,hlen,List.take_length] at hR
  exact (decide_eq_true hR).symm
theorem Asl (a b:List Int) (h:short a):fnW tab (look []) Dg Try.f59 (a,b,()) (fun (z:Bool)=>z=Gt a b):=by
 refine Eq.mp (Atm a b _) ⟨fun hl=>?_,fun hl=>?_⟩
 ·simp only [bne_iff_ne,ne_eq,Int.natCast_inj] at hl
  exact (decide_eq_false fun hab=>hl (by rw [hab])).symm
 ·simp only [bne_eq_false_iff_eq,Int.natCast_inj] at hl
  exact Aws a b hl h
theorem Ah4:Sound Try.prog 59 Dg:=
 Sound.mkS Bp As mixed Try.func59 (by kernel_rfl) (by kernel_rfl) fun x h=>Asl x.1 x.2.1 h
end Go.Proofs.Ytebabhocakedaaa

namespace Go.Proofs.Ytebabhocakedaaa
open Go.RowKit
def Ee (xs:List (List Int)):Prop:=xs.length≤4294967296∧ ∀r∈xs,short r
def roomy (room:Int):Prop:=0≤room∧room≤4294967296
def Af4 (n:Nat) (room:Int):Int:=if room-n<0 then-1 else room-n
def Adt (xs:List Int) (room:Int):Int:=Af4 xs.length room
def Akb:List (List Int)→Int→Int
 | [],room=>room
 |r::rs,room=>if Adt r room<0 then-1 else Akb rs (Adt r room)
def Hp (xs:List (List Int)) (room:Int):Int:=if Af4 xs.length room<0 then-1 else Akb xs (Af4 xs.length room)
def Ac4 (a b:List (List Int)):Bool:=decide (a=b)
noncomputable abbrev Anc:Spec:=mkS (.pair tL (.pair tI .unit)) tI false true (fun x=>short x.1∧roomy x.2.1) (fun x=>Adt x.1 x.2.1)
noncomputable abbrev Wb:Spec:=mkS (.pair tLL (.pair tI .unit)) tI false true (fun x=>Ee x.1∧roomy x.2.1) (fun x=>Hp x.1 x.2.1)
noncomputable abbrev Zf:Spec:=mkS (.pair tL .unit) tL false true (fun x=>short x.1) (fun x=>x.1)
noncomputable abbrev Rd:Spec:=mkS (.pair tLL .unit) tLL false true (fun x=>Ee x.1) (fun x=>x.1)
noncomputable abbrev Vz:Spec:=mkS (.pair tLL (.pair tLL .unit)) .bool false true (fun x=>Ee x.1) (fun x=>Ac4 x.1 x.2.1)
theorem Bfb (xs:List Int) (room:Int) (P:Int→Prop):(Br (decide (IntKind.i64.wrap (room-(↑xs.length:Int))<0)) (P (-1)) (P (IntKind.i64.wrap (room-(↑xs.length:Int)))))=fnW tab (look []) Anc Try.f76 (xs,room,()) P:=by kernel_rfl
theorem Bea (xs:List (List Int)) (room:Int) (P:Int→Prop):(Br (decide (IntKind.i64.wrap (room-(↑xs.length:Int))<0)) (P (-1))
 (Cc
  (fun (v3:Int×Int×PUnit) (k4:Int×Int×PUnit→Prop)=>
   Br (decide (v3.2.1<(↑xs.length:Int)))
    (∃(y5:List Int),idx xs v3.2.1=some y5∧ ∃(y6:Int),Anc.fn (y5,v3.1,())=some y6∧Br (decide (y6<0)) (P (-1)) (k4 (y6,IntKind.i64.wrap (v3.2.1+1),()))) (P v3.1))
  (IntKind.i64.wrap (room-(↑xs.length:Int)),0,PUnit.unit)))=fnW tab (look [(76,Anc)]) Wb Try.f33 (xs,room,()) P:=by kernel_rfl
theorem Bfd (xs:List Int) (P:List Int→Prop):((0≤(↑xs.length:Int)∧(↑xs.length:Int)<(↑Ax:Int)+1)∧
 (↑xs.length:Int)=(↑xs.length:Int)∧
  0=0∧
   (List.replicate (↑xs.length:Int).toNat (Int.ofNat 0)).length=(List.replicate (↑xs.length:Int).toNat (Int.ofNat 0)).length∧
    Cc
     (fun (v2:Int×List Int×PUnit) (k3:Int×List Int×PUnit→Prop)=>
      Br (decide (v2.1<(↑xs.length:Int)))
       (∃(y4:Int),
        idx xs v2.1=some y4∧
         (0≤v2.1∧v2.1<(↑v2.2.1.length:Int))∧
          0+v2.1.toNat<v2.2.1.length∧
           0=0∧v2.2.1.length=(v2.2.1.set (0+v2.1.toNat) y4).length∧k3 (IntKind.i64.wrap (v2.1+1),v2.2.1.set (0+v2.1.toNat) y4,()))
       (P (List.take v2.2.1.length (List.drop 0 v2.2.1))))
     (0,List.replicate (↑xs.length:Int).toNat (Int.ofNat 0),PUnit.unit))=fnW tab (look []) Zf Try.f18 (xs,()) P:=by kernel_rfl
theorem Beb (xs:List (List Int)) (P:List (List Int)→Prop):((0≤(↑xs.length:Int)∧(↑xs.length:Int)<(↑Ax:Int)+1)∧
 (↑xs.length:Int)=(↑xs.length:Int)∧
  0=0∧
   (List.replicate (↑xs.length:Int).toNat ([]:List Int)).length=(List.replicate (↑xs.length:Int).toNat ([]:List Int)).length∧
    Cc
     (fun (v2:Int×List (List Int)×PUnit) (k3:Int×List (List Int)×PUnit→Prop)=>
      Br (decide (v2.1<(↑xs.length:Int)))
       (∃(y4:List Int),
        idx xs v2.1=some y4∧
         ∃(y5:List Int),
          Zf.fn (y4,())=some y5∧
           (0≤v2.1∧v2.1<(↑v2.2.1.length:Int))∧
            0+v2.1.toNat<v2.2.1.length∧
             0=0∧v2.2.1.length=(v2.2.1.set (0+v2.1.toNat) y5).length∧k3 (IntKind.i64.wrap (v2.1+1),v2.2.1.set (0+v2.1.toNat) y5,()))
       (P (List.take v2.2.1.length (List.drop 0 v2.2.1))))
     (0,List.replicate (↑xs.length:Int).toNat ([]:List Int),PUnit.unit))=fnW tab (look [(18,Zf)]) Rd Try.f35 (xs,()) P:=by kernel_rfl
theorem Bf5 (a b:List Int) (P:Bool→Prop):(Br ((↑a.length:Int) !=(↑b.length:Int)) (P false)
 (Cc
  (fun (v3:Int×PUnit) (k4:Int×PUnit→Prop)=>
   Br (decide (v3.1<(↑a.length:Int))) (∃(y5:Int),idx a v3.1=some y5∧ ∃(y6:Int),idx b v3.1=some y6∧Br (y5 !=y6) (P false) (k4 (IntKind.i64.wrap (v3.1+1),())))
    (P true))
  (0,PUnit.unit)))=fnW tab (look []) Dg Try.f21 (a,b,()) P:=by kernel_rfl
theorem Be4 (a b:List (List Int)) (P:Bool→Prop):(Br ((↑a.length:Int) !=(↑b.length:Int)) (P false)
 (Cc
  (fun (v3:Int×PUnit) (k4:Int×PUnit→Prop)=>
   Br (decide (v3.1<(↑a.length:Int)))
    (∃(y5:List Int),
     idx a v3.1=some y5∧ ∃(y6:List Int),idx b v3.1=some y6∧ ∃(y7:Bool),Dg.fn (y5,y6,())=some y7∧Br (!y7) (P false) (k4 (IntKind.i64.wrap (v3.1+1),())))
    (P true))
  (0,PUnit.unit)))=fnW tab (look [(21,Dg)]) Vz Try.f37 (a,b,()) P:=by kernel_rfl
theorem Af5 {n:Nat} {room:Int} (h:roomy room) (h2: ¬Af4 n room<0):roomy (Af4 n room):=by
 unfold Af4 roomy at*
 split at h2<;>simp_all
 omega
theorem Bet (xs:List Int) (room:Int) (h:short xs∧roomy room):fnW tab (look []) Anc Try.f76 (xs,room,()) (fun (z:Int)=>z=Adt xs room):=by
 obtain ⟨h1,h2,h3⟩:=h
 unfold short at h1
 refine Eq.mp (Bfb xs room _) ?_
 rw [Bu (by omega) (by omega)]
 refine Br.dec (fun h=>?_) fun h=>?_
 ·simp only [Adt,Af4,if_pos h]
 ·simp only [Adt,Af4,if_neg h]
theorem Ayy:Sound Try.prog 76 Anc:=
 Sound.mkS Bp As mixed Try.func76 (by kernel_rfl) (by kernel_rfl) fun x h=>Bet x.1 x.2.1 h
theorem Bdv (xs:List (List Int)) (room:Int) (h:Ee xs∧roomy room):fnW tab (look [(76,Anc)]) Wb Try.f33 (xs,room,()) (fun (z:Int)=>z=Hp xs room):=by
 obtain ⟨⟨h1,h4⟩,h2,h3⟩:=h
 refine Eq.mp (Bea xs room _) ?_
 rw [Bu (by omega) (by omega)]
 refine Br.dec (fun h=>?_) fun h=>?_
 ·simp only [Hp,Af4,if_pos h];rfl
 ·refine Ao xs.length (fun v=>v.2.1) (fun j v=>roomy v.1∧Akb (xs.drop j) v.1=Hp xs room) rfl ?_ ?_
  ·refine ⟨by unfold roomy;omega,?_⟩
   simp only [Hp,Af4,if_neg h,List.drop_zero]
  ·rintro j ⟨r,i,⟨⟩⟩ K hj hi ⟨hr,hR⟩ hK
   dsimp only at hi hr hR⊢
   subst hi
   refine Br.dec (fun hl=>?_) fun hl=>?_
   ·have hl:j<xs.length:=by omega
    have hd:xs.drop j=xs[j]::xs.drop (j+1):=List.drop_eq_getElem_cons hl
    refine ⟨_,Aq hl,_,if_pos ⟨h4 _ (List.getElem_mem hl),hr⟩,?_⟩
    rw [hd] at hR
    simp only [Akb] at hR
    refine Br.dec (fun hn=>?_) fun hn=>?_
    ·have hn:Adt xs[j] r<0:=hn
     rw [if_pos hn] at hR
     exact hR
    ·have hn: ¬Adt xs[j] r<0:=hn
     rw [if_neg hn] at hR
     rw [Ak (by omega)]
     exact hK hl _ rfl ⟨Af5 hr hn,hR⟩
   ·have:j=xs.length:=by omega
    subst this
    rw [List.drop_length] at hR
    exact hR
theorem Ak4:Sound Try.prog 33 Wb:=
 Sound.mkS Bp (Ad Ayy As) mixed Try.func33 (by kernel_rfl) (by kernel_rfl) fun x h=>Bdv x.1 x.2.1 h
theorem Anj: ∀(xs:List (List Int)) (room:Int),roomy room→ ¬Akb xs room<0→roomy (Akb xs room)
 | [],room,h,_=>h
 |r::rs,room,h,h2=>by
  simp only [Akb] at h2⊢
  split
  ·rename_i hn;rw [if_pos hn] at h2;exact absurd (show (-1:Int)<0 by decide) h2
  ·rename_i hn;rw [if_neg hn] at h2;exact Anj rs _ (Af5 h hn) h2
theorem As1 {xs:List (List Int)} {room:Int} (h:roomy room) (h2: ¬Hp xs room<0):roomy (Hp xs room):=by
 unfold Hp at*
 split
 ·rename_i hn;rw [if_pos hn] at h2;exact absurd (show (-1:Int)<0 by decide) h2
 ·rename_i hn;rw [if_neg hn] at h2;exact Anj _ _ (Af5 h hn) h2
theorem Nr {α:Type} {ys xs:List α} {j:Nat} (h:j<xs.length) (hl:ys.length=xs.length) (ht:ys.take j=xs.take j):(ys.set j xs[j]).take (j+1)=xs.take (j+1):=by
 have h1:j<(ys.set j xs[j]).length:=by rw [List.length_set];omega
 rw [List.take_succ_eq_append_getElem h1,List.take_succ_eq_append_getElem h,List.getElem_set_self,List.take_set_of_le (Nat.le_refl j),ht]
theorem Bev (xs:List Int) (h:short xs):fnW tab (look []) Zf Try.f18 (xs,()) (fun (z:List Int)=>z=xs):=by
 unfold short at h
 refine Eq.mp (Bfd xs _) ?_
 refine ⟨⟨by omega,by show (xs.length:Int)<(4294967296:Int)+1;omega⟩,rfl,rfl,rfl,?_⟩
 refine Ao xs.length (fun v=>v.1) (fun j v=>v.2.1.length=xs.length∧v.2.1.take j=xs.take j) rfl ⟨by simp,by simp⟩ ?_
 rintro j ⟨i,ys,⟨⟩⟩ K hj hi ⟨h1,h2⟩ hK
 dsimp only at hi h1 h2⊢
 subst hi
 refine Br.dec (fun hl=>?_) fun hl=>?_
 ·have hl:j<xs.length:=by omega
  refine ⟨_,Aq hl,⟨by omega,by omega⟩,by rw [Int.toNat_natCast];omega,rfl,by rw [List.length_set],?_⟩
  rw [Ak (by omega),Int.toNat_natCast,Nat.zero_add]
  exact hK hl _ rfl ⟨by rw [List.length_set];exact h1,Nr hl h1 h2⟩
 ·have:j=xs.length:=by omega
  subst this
  rw [List.take_length,←h1,List.take_length] at h2
  rw [List.drop_zero,List.take_length]
  exact h2
theorem Ani:Sound Try.prog 18 Zf:=
 Sound.mkS Bp As mixed Try.func18 (by kernel_rfl) (by kernel_rfl) fun x h=>Bev x.1 h
theorem Bdw (xs:List (List Int)) (h:Ee xs):fnW tab (look [(18,Zf)]) Rd Try.f35 (xs,()) (fun (z:List (List Int))=>z=xs):=by
 obtain ⟨h,h4⟩:=h
 refine Eq.mp (Beb xs _) ?_
 refine ⟨⟨by omega,by show (xs.length:Int)<(4294967296:Int)+1;omega⟩,rfl,rfl,rfl,?_⟩
 refine Ao xs.length (fun v=>v.1) (fun j v=>v.2.1.length=xs.length∧v.2.1.take j=xs.take j) rfl ⟨by simp,by simp⟩ ?_
 rintro j ⟨i,ys,⟨⟩⟩ K hj hi ⟨h1,h2⟩ hK
 dsimp only at hi h1 h2⊢
 subst hi
 refine Br.dec (fun hl=>?_) fun hl=>?_
 ·have hl:j<xs.length:=by omega
  refine ⟨_,Aq hl,_,if_pos (h4 _ (List.getElem_mem hl)),⟨by omega,by omega⟩,by rw [Int.toNat_natCast];omega,rfl,by rw [List.length_set],?_⟩
  rw [Ak (by omega),Int.toNat_natCast,Nat.zero_add]
  exact hK hl _ rfl ⟨by rw [List.length_set];exact h1,Nr hl h1 h2⟩
 ·have:j=xs.length:=by omega
  subst this
  rw [List.take_length,←h1,List.take_length] at h2
  rw [List.drop_zero,List.take_length]
  exact h2
theorem Ak5:Sound Try.prog 35 Rd:=
 Sound.mkS Bp (Ad Ani As) mixed Try.func35 (by kernel_rfl) (by kernel_rfl) fun x h=>Bdw x.1 h
theorem Ben (a b:List Int) (h:short a):fnW tab (look []) Dg Try.f21 (a,b,()) (fun (z:Bool)=>z=Gt a b):=by
 refine Eq.mp (Bf5 a b _) ⟨fun hl=>?_,fun hl=>?_⟩
 ·simp only [bne_iff_ne,ne_eq,Int.natCast_inj] at hl
  exact (decide_eq_false fun hab=>hl (by rw [hab])).symm
 ·simp only [bne_eq_false_iff_eq,Int.natCast_inj] at hl
  exact Aws a b hl h
theorem Anh:Sound Try.prog 21 Dg:=
 Sound.mkS Bp As mixed Try.func21 (by kernel_rfl) (by kernel_rfl) fun x h=>Ben x.1 x.2.1 h
theorem Bdp (a b:List (List Int)) (h:Ee a):fnW tab (look [(21,Dg)]) Vz Try.f37 (a,b,()) (fun (z:Bool)=>z=Ac4 a b):=by
 obtain ⟨h,h4⟩:=h
 refine Eq.mp (Be4 a b _) ⟨fun hl=>?_,fun hl=>?_⟩
 ·simp only [bne_iff_ne,ne_eq,Int.natCast_inj] at hl
  exact (decide_eq_false fun hab=>hl (by rw [hab])).symm
 ·simp only [bne_eq_false_iff_eq,Int.natCast_inj] at hl
  refine Ao a.length (fun v=>v.1) (fun j _=>a.take j=b.take j) rfl (by simp) ?_
  rintro j ⟨i,⟨⟩⟩ K hj hi hR hK
  dsimp only at hi⊢
  subst hi
  refine Br.dec (fun hlt=>?_) fun hlt=>?_
  ·have hl1:j<a.length:=by omega
   have hl2:j<b.length:=by omega
   refine ⟨_,Aq hl1,_,Aq hl2,_,if_pos (h4 _ (List.getElem_mem hl1)),⟨fun he=>?_,fun he=>?_⟩⟩
   ·refine (decide_eq_false fun hab=>?_).symm
    subst hab
    simp [Gt] at he
   ·rw [Ak (by omega)]
    refine hK hl1 _ rfl ?_
    simp only [Gt,Bool.not_eq_false',decide_eq_true_eq] at he
    rw [List.take_succ_eq_append_getElem hl1,List.take_succ_eq_append_getElem hl2,hR]
    exact congrArg (fun x=>List.take j b++ [x]) he
  ·have hj':j=a.length:=by omega
   subst hj'
   rw [List.take_length,hl,List.take_length] at hR
   exact (decide_eq_true hR).symm
theorem Ajx:Sound Try.prog 37 Vz:=
 Sound.mkS Bp (Ad Anh As) mixed Try.func37 (by kernel_rfl) (by kernel_rfl) fun x h=>Bdp x.1 x.2.1 h
end Go.Proofs.Ytebabhocakedaaa

namespace Go.Proofs.Ytebabhocakedaaa
open Go.RowKit
def Nm:List Int→Int→Int→Int
 | [],_,_=> -1
 |y::r,x,i=>if y=x then i else Nm r x (i+1)
noncomputable abbrev Aac:Spec:=mkS (.pair tL (.pair tI .unit)) tI false true (fun x=>short x.1) (fun x=>Nm x.1 x.2.1 0)
def PL (n:Int) (xs:List Int) (k:Nat):Prop:= ∀j (h:j<xs.length),j<k→0≤xs[j]∧xs[j]≤n-1∧(0<j→xs[j-1]<xs[j])
def DL (n:Int) (xs:List Int) (k:Nat):Prop:= ∀j (h:j<xs.length),j<k→0≤xs[j]∧xs[j]≤n-1∧xs[j]∉xs.take j
noncomputable def dec (p:Prop):Bool:= @decide p (Classical.propDecidable p)
theorem Gm {p:Prop} (h:p):true=dec p:=(@decide_eq_true p (Classical.propDecidable p) h).symm
theorem Ap {p:Prop} (h: ¬p):false=dec p:=(@decide_eq_false p (Classical.propDecidable p) h).symm
theorem Em {p:Prop} :dec p=true↔p:= @decide_eq_true_iff p (Classical.propDecidable p)
theorem Bbw {p:Prop} :dec p=false↔ ¬p:= @decide_eq_false_iff_not p (Classical.propDecidable p)
def nOK (n:Int):Prop:=0≤n∧n≤4294967296
noncomputable def Ei (n:Int) (xs:List Int):Bool:=dec (0<xs.length∧PL n xs xs.length)
noncomputable abbrev Ej:Spec:=mkS (.pair tI (.pair tL .unit)) .bool false true (fun x=>nOK x.1∧short x.2.1) (fun x=>Ei x.1 x.2.1)
noncomputable abbrev Pp:Spec:=mkS (.pair tLL .unit) tI false true (fun _=>True) (fun x=>(List.length x.1:Int))
theorem Bcv (xs:List Int) (x:Int) (P:Int→Prop):(Cc
 (fun (v3:Int×PUnit) (k4:Int×PUnit→Prop)=>
  Br (decide (v3.1<(↑xs.length:Int))) (∃(y5:Int),idx xs v3.1=some y5∧Br (x==y5) (P v3.1) (k4 (IntKind.i64.wrap (v3.1+(1:Int)),()))) (P (-1:Int)))
 ((0:Int),PUnit.unit))=fnW tab (look []) Aac Try.f159 (xs,x,()) P:=by kernel_rfl
theorem Awb (xs:List Int) (x:Int) (P:Bool→Prop):(∃(y3:Int),Aac.fn (xs,x,())=some y3∧P (decide (y3≥(0:Int))))=fnW tab (look [(159,Aac)]) Ch Try.f126 (xs,x,()) P:=by kernel_rfl
theorem Alu (n:Int) (xs:List Int) (P:Bool→Prop):(∃(y3:Bool),
 Bc.fn ((↑xs.length:Int),(1:Int),n,())=some y3∧
  Br (!y3) (P false)
   (Cc
    (fun (v4:Int×PUnit) (k5:Int×PUnit→Prop)=>
     Br (decide (v4.1<(↑xs.length:Int)))
      (∃(y6:Int),
       idx xs v4.1=some y6∧
        ∃(y7:Bool),
         Bc.fn (y6,(0:Int),IntKind.i64.wrap (n-(1:Int)),())=some y7∧
          Br (!y7) (P false)
           (Br (decide (v4.1>(0:Int)))
            (∃(y8:Int),
             idx xs v4.1=some y8∧
              ∃(y9:Int),idx xs (IntKind.i64.wrap (v4.1-(1:Int)))=some y9∧Br (decide (y8≤y9)) (P false) (k5 (IntKind.i64.wrap (v4.1+(1:Int)),())))
            (k5 (IntKind.i64.wrap (v4.1+(1:Int)),()))))
      (P true))
    ((0:Int),PUnit.unit)))=fnW tab (look [(122,Bc)]) Ej Try.f100 (n,xs,()) P:=by kernel_rfl
theorem Ato (n:Int) (xs:List Int) (P:Bool→Prop):(Cc
 (fun (v3:Int×PUnit) (k4:Int×PUnit→Prop)=>
  Br (decide (v3.1<(↑xs.length:Int)))
   (∃(y5:Int),
    idx xs v3.1=some y5∧
     ∃(y6:Bool),
      Qb.fn (n,y5,())=some y6∧
       Br (!y6) (P false)
        (Br (decide (v3.1>(0:Int)))
         (∃(y7:Int),idx xs (IntKind.i64.wrap (v3.1-(1:Int)))=some y7∧Br (decide (y7≥y5)) (P false) (k4 (IntKind.i64.wrap (v3.1+(1:Int)),())))
         (k4 (IntKind.i64.wrap (v3.1+(1:Int)),()))))
   (P (decide ((↑xs.length:Int)>(0:Int)))))
 ((0:Int),PUnit.unit))=fnW tab (look [(102,Qb)]) Ej Try.f55 (n,xs,()) P:=by kernel_rfl
theorem Bcw (xs:List (List Int)) (P:Int→Prop):(P (↑xs.length:Int))=fnW tab (look []) Pp Try.f67 (xs,()) P:=by kernel_rfl
theorem Agd: ∀(xs:List Int) (x i:Int),0≤i→(Nm xs x i<0↔x∉xs)
 | [],x,i,_=>by simp [Nm]
 |y::r,x,i,h=>by
  simp only [Nm]
  split
  ·rename_i hy;subst hy;simp;omega
  ·rename_i hy
   rw [Agd r x (i+1) (by omega)]
   simp only [List.mem_cons,not_or]
   exact ⟨fun h=>⟨fun e=>hy e.symm,h⟩,fun h=>h.2⟩
theorem Bc9 (xs:List Int) (x:Int) (h:short xs):fnW tab (look []) Aac Try.f159 (xs,x,()) (fun (z:Int)=>z=Nm xs x 0):=by
 unfold short at h
 refine Eq.mp (Bcv xs x _) ?_
 refine Ao xs.length (fun v=>v.1) (fun j _=>Nm (xs.drop j) x j=Nm xs x 0) rfl (by simp) ?_
 rintro j ⟨i,⟨⟩⟩ K hj hi hR hK
 dsimp only at hi⊢
 subst hi
 refine Br.dec (fun hl=>?_) fun hl=>?_
 ·have hl:j<xs.length:=by omega
  rw [List.drop_eq_getElem_cons hl] at hR
  simp only [Nm] at hR
  refine ⟨_,Aq hl,⟨fun he=>?_,fun he=>?_⟩⟩
  ·simp only [beq_iff_eq] at he
   rw [if_pos he.symm] at hR
   exact hR
  ·simp only [beq_eq_false_iff_ne,ne_eq] at he
   rw [if_neg (fun e=>he e.symm)] at hR
   rw [Ak (by omega)]
   exact hK hl _ rfl (by push_cast;exact hR)
 ·have:j=xs.length:=by omega
  subst this
  rw [List.drop_length] at hR
  exact hR
theorem At5:Sound Try.prog 159 Aac:=
 Sound.mkS Bp As mixed Try.func159 (by kernel_rfl) (by kernel_rfl) fun x h=>Bc9 x.1 x.2.1 h
theorem Avc (xs:List Int) (x:Int) (h:short xs):fnW tab (look [(159,Aac)]) Ch Try.f126 (xs,x,()) (fun (z:Bool)=>z=Bf xs x):=by
 refine Eq.mp (Awb xs x _) ⟨_,if_pos h,?_⟩
 have:=Agd xs x 0 (Int.le_refl 0)
 show decide (Nm xs x 0≥0)=decide (x∈xs)
 by_cases hx:x∈xs
 ·rw [decide_eq_true hx]
  exact decide_eq_true (by have:=mt this.1 (fun h=>h hx);omega)
 ·rw [decide_eq_false hx]
  exact decide_eq_false (by have:=this.2 hx;omega)
theorem Ajv:Sound Try.prog 126 Ch:=
 Sound.mkS Bp (Ad At5 As) mixed Try.func126 (by kernel_rfl) (by kernel_rfl) fun x h=>Avc x.1 x.2.1 h
theorem Bca (xs:List (List Int)) (_:True):fnW tab (look []) Pp Try.f67 (xs,()) (fun (z:Int)=>z=(xs.length:Int)):=Eq.mp (Bcw xs _) rfl
theorem Agp:Sound Try.prog 67 Pp:=
 Sound.mkS Bp As mixed Try.func67 (by kernel_rfl) (by kernel_rfl) fun x h=>Bca x.1 h
theorem Age {n x:Int} (hn:nOK n):Aa6 n x=true↔0≤x∧x≤n-1:=by
 unfold Aa6 nOK at*
 rw [Bu (by omega) (by omega),decide_eq_true_iff]
theorem Bo {x a b:Int} :Fu x a b=true↔a≤x∧x≤b:=decide_eq_true_iff
theorem Cb {b:Bool} (h:(!b)=true): ¬b=true:=by cases b<;>simp_all
theorem Cl {b:Bool} (h:(!b)=false):b=true:=by cases b<;>simp_all
theorem Avj {n:Int} {xs:List Int} (h:PL n xs xs.length): ∀j (hj:j<xs.length),(j:Int)≤xs[j]
 |0,hj=>(h 0 hj hj).1
 |j+1,hj=>by
  have h1:=Avj h j (by omega)
  have h2:=(h (j+1) hj hj).2.2 (by omega)
  simp only [Nat.add_sub_cancel] at h2
  omega
theorem Ahk {n:Int} {xs:List Int} {j:Nat} (hl:j<xs.length) (h:PL n xs j) (h1:0≤xs[j]) (h2:xs[j]≤n-1) (h3:0<j→xs[j-1]<xs[j]):PL n xs (j+1):=by
 intro i hi hij
 by_cases e:i=j
 ·subst e;exact ⟨h1,h2,h3⟩
 ·exact h i hi (by omega)
theorem Asn (n:Int) (xs:List Int) (h:nOK n∧short xs):fnW tab (look [(102,Qb)]) Ej Try.f55 (n,xs,()) (fun (z:Bool)=>z=Ei n xs):=by
 obtain ⟨hn,h⟩:=h
 unfold short at h
 refine Eq.mp (Ato n xs _) ?_
 refine Ao xs.length (fun v=>v.1) (fun j _=>PL n xs j) rfl (fun j _ hj=>absurd hj (Nat.not_lt_zero _)) ?_
 rintro j ⟨i,⟨⟩⟩ K hj hi hR hK
 dsimp only at hi⊢
 subst hi
 refine Br.dec (fun hl=>?_) fun hl=>?_
 ·have hl:j<xs.length:=by omega
  refine ⟨_,Aq hl,_,if_pos trivial,⟨fun hp=>?_,fun hp=>?_⟩⟩
  ·have hp:=Cb hp
   rw [Age hn] at hp
   exact Ap fun hh=>hp ⟨(hh.2 j hl hl).1,(hh.2 j hl hl).2.1⟩
  ·have hp:=Cl hp
   rw [Age hn] at hp
   refine Br.dec (fun h0=>?_) fun h0=>?_
   ·have h0:0<j:=by omega
    rw [Bu (by omega) (by omega),show (j:Int)-1=((j-1:Nat):Int) by omega]
    refine ⟨_,Aq (by omega),Br.dec (fun hg=>?_) fun hg=>?_⟩
    ·exact Ap fun hh=>by have:=(hh.2 j hl hl).2.2 h0;omega
    ·rw [Ak (by omega)]
     exact hK hl _ rfl (Ahk hl hR hp.1 hp.2 fun _=>by omega)
   ·have h0:j=0:=by omega
    rw [Ak (by omega)]
    exact hK hl _ rfl (Ahk hl hR hp.1 hp.2 fun h=>by omega)
 ·have:j=xs.length:=by omega
  subst this
  by_cases h0:0<xs.length
  ·rw [decide_eq_true (show (xs.length:Int)>0 by omega)];exact Gm ⟨h0,hR⟩
  ·rw [decide_eq_false (show ¬(xs.length:Int)>0 by omega)];exact Ap fun hh=>h0 hh.1
theorem Ah6:Sound Try.prog 55 Ej:=
 Sound.mkS Bp (Ad Alk As) mixed Try.func55 (by kernel_rfl) (by kernel_rfl) fun x h=>Asn x.1 x.2.1 h
theorem Al5 (n:Int) (xs:List Int) (h:nOK n∧short xs):fnW tab (look [(122,Bc)]) Ej Try.f100 (n,xs,()) (fun (z:Bool)=>z=Ei n xs):=by
 obtain ⟨hn,h⟩:=h
 unfold short at h
 refine Eq.mp (Alu n xs _) ⟨_,if_pos trivial,⟨fun hp=>?_,fun hp=>?_⟩⟩
 ·have hp:=Cb hp
  rw [Bo] at hp
  dsimp only at hp
  refine Ap fun hh=>hp ⟨by omega,?_⟩
  have:=Avj hh.2 (xs.length-1) (by omega)
  have:=(hh.2 (xs.length-1) (by omega) (by omega)).2.1
  omega
 ·have hp:=Cl hp
  rw [Bo] at hp
  dsimp only at hp
  refine Ao xs.length (fun v=>v.1) (fun j _=>PL n xs j) rfl (fun j _ hj=>absurd hj (Nat.not_lt_zero _)) ?_
  rintro j ⟨i,⟨⟩⟩ K hj hi hR hK
  dsimp only at hi⊢
  subst hi
  refine Br.dec (fun hl=>?_) fun hl=>?_
  ·have hl:j<xs.length:=by omega
   refine ⟨_,Aq hl,_,if_pos trivial,⟨fun hq=>?_,fun hq=>?_⟩⟩
   ·have hq:=Cb hq
    unfold nOK at hn
    rw [Bo,Bu (by omega) (by omega)] at hq
    exact Ap fun hh=>hq ⟨(hh.2 j hl hl).1,(hh.2 j hl hl).2.1⟩
   ·have hq:=Cl hq
    unfold nOK at hn
    rw [Bo,Bu (by omega) (by omega)] at hq
    refine Br.dec (fun h0=>?_) fun h0=>?_
    ·have h0:0<j:=by omega
     rw [Bu (by omega) (by omega),show (j:Int)-1=((j-1:Nat):Int) by omega]
     refine ⟨_,Aq hl,_,Aq (by omega),Br.dec (fun hg=>?_) fun hg=>?_⟩
     ·exact Ap fun hh=>by have:=(hh.2 j hl hl).2.2 h0;omega
     ·rw [Ak (by omega)]
      exact hK hl _ rfl (Ahk hl hR hq.1 hq.2 fun _=>by omega)
    ·rw [Ak (by omega)]
     exact hK hl _ rfl (Ahk hl hR hq.1 hq.2 fun h=>by omega)
  ·have:j=xs.length:=by omega
   subst this
   exact Gm ⟨by omega,hR⟩
theorem Ae8:Sound Try.prog 100 Ej:=
 Sound.mkS Bp (Ad Nq As) mixed Try.func100 (by kernel_rfl) (by kernel_rfl) fun x h=>Al5 x.1 x.2.1 h
theorem Bbx {n:Int} {xs:List Int} {j:Nat} (hl:j<xs.length) (h:DL n xs j) (h1:0≤xs[j]) (h2:xs[j]≤n-1) (h3:xs[j]∉xs.take j):DL n xs (j+1):=by
 intro i hi hij
 by_cases e:i=j
 ·subst e;exact ⟨h1,h2,h3⟩
 ·exact h i hi (by omega)
theorem Avy {xs:List Int} (h:short xs) (j:Nat):short (xs.take j):=by
 unfold short at*
 rw [List.length_take]
 omega
end Go.Proofs.Ytebabhocakedaaa

namespace Go.Proofs.Ytebabhocakedaaa
open Go.RowKit
theorem Asw:roomy 1048576:=⟨by decide,by decide⟩
end Go.Proofs.Ytebabhocakedaaa

namespace Go.Proofs.Ytebabhocakedaaa
open Go.RowKit
abbrev PP:Type:=Int×ByteArray×List (List Int)×Unit
noncomputable def En (p:List Int):Bool:=dec (1≤p.length∧p.length≤20∧DL p.length p p.length)
noncomputable def Dn (n:Int) (p:List Int):Bool:=dec ((p.length:Int)=n∧En p=true)
noncomputable def Ob (n:Int) (g:List (List Int)):Bool:=dec ((1≤n∧n≤20)∧g.length≤8∧ ∀p∈g,Dn n p=true)
def Cr {α:Type} (P:α→Bool):List α→Int→Int
 | [],_=> -1
 |y::r,i=>if P y=true then i else Cr P r (i+1)
abbrev tG1:Ty:= .clo 174 (.pair (.ptr tI) .unit)
def Ann (s:ByteArray) (i:Nat):Prop:= ∃c:UInt8,s[i]?=some c∧65≤c.toNat∧c.toNat≤90∧ ∀k,k<i→s[k]?≠some c
noncomputable def Ads (s:ByteArray) (i:Int):Bool:=dec (Ann s i.toNat)
noncomputable def Tx (s:ByteArray):Bool:=dec ((1≤s.size∧s.size≤8)∧ ∀j,j<s.size→Ann s j)
noncomputable def Be (p:PP):Bool:=dec (Ob p.1 p.2.2.1=true∧Tx p.2.1=true∧p.2.1.size=p.2.2.1.length)
def Dl (p:PP):Prop:=p.2.1.size≤4294967296∧Ee p.2.2.1
noncomputable abbrev Ig:Spec:=mkS (.pair tL .unit) tI false true (fun _=>True) (fun x=>(List.length x.1:Int))
noncomputable abbrev Ds:Spec:=mkS (.pair tL .unit) .bool false true (fun x=>short x.1) (fun x=>En x.1)
noncomputable abbrev Im:Spec:=mkS (.pair tI (.pair tLL .unit)) .bool false true (fun x=>Ee x.2.1) (fun x=>Ob x.1 x.2.1)
noncomputable abbrev Aab:Spec:=mkS (.pair tL (.pair (.ptr tI) .unit)) .bool false true (fun x=>short x.1) (fun x=>!Dn x.2.1 x.1)
noncomputable abbrev An9:Spec:=mkS (.pair tLL (.pair tG1 .unit)) tI false true (fun x=>Ee x.1) (fun x=>Cr (fun p=>!Dn x.2.1.1 p) x.1 0)
noncomputable abbrev An4:Spec:=mkS (.pair tLL (.pair tG1 .unit)) .bool false true (fun x=>Ee x.1) (fun x=>List.any x.1 (fun p=>!Dn x.2.1.1 p))
noncomputable abbrev Ud:Spec:=mkS (.pair .str (.pair tI .unit)) .bool false true (fun x=>0≤x.2.1∧x.2.1<x.1.size∧x.1.size≤4294967296) (fun x=>Ads x.1 x.2.1)
noncomputable abbrev Qa:Spec:=mkS (.pair .str .unit) .bool false true (fun x=>x.1.size≤4294967296) (fun x=>Tx x.1)
noncomputable abbrev Dt:Spec:=mkS (.pair Cy .unit) .bool false true (fun x=>Dl x.1) (fun x=>Be x.1)
def Ox (p:PP) (room:Int):Int:=if room-p.2.1.size<0 then-1 else if Hp p.2.2.1 (room-p.2.1.size)<0 then-1 else Hp p.2.2.1 (room-p.2.1.size)
def Agc (a b:PP):Bool:=decide (a.1=b.1)&&(decide (a.2.1=b.2.1)&&decide (a.2.2.1=b.2.2.1))
noncomputable abbrev Ane:Spec:=mkS (.pair Cy (.pair tI .unit)) tI false true (fun x=>Dl x.1∧roomy x.2.1) (fun x=>Ox x.1 x.2.1)
noncomputable abbrev Ago:Spec:=mkS (.pair Cy .unit) Cy false true (fun x=>Dl x.1) (fun x=>x.1)
noncomputable abbrev An7:Spec:=mkS (.pair Cy (.pair Cy .unit)) .bool false true (fun x=>Dl x.1) (fun x=>Agc x.1 x.2.1)
theorem Be6 (xs:List Int) (P:Int→Prop):(P (↑xs.length:Int))=fnW tab (look []) Ig Try.f127 (xs,()) P:=by kernel_rfl
theorem Aq8 (p:List Int) (P:Bool→Prop):(∃(y2:Bool),
 Bc.fn ((↑p.length:Int),(1:Int),(20:Int),())=some y2∧
  Br (!y2) (P false)
   (Cc
    (fun (v3:Int×PUnit) (k4:Int×PUnit→Prop)=>
     Br (decide (v3.1<(↑p.length:Int)))
      (∃(y5:Int),
       idx p v3.1=some y5∧
        ∃(y6:Bool),
         Bc.fn (y5,(0:Int),IntKind.i64.wrap ((↑p.length:Int)-(1:Int)),())=some y6∧
          Br (!y6) (P false)
           (((0:Int)≤(0:Int)∧(0:Int)≤v3.1∧v3.1≤(↑p.length:Int))∧
            ∃(y7:Int),
             idx p v3.1=some y7∧
              ∃(y8:Bool),
               Ch.fn (List.drop (Int.toNat (0:Int)) (List.take v3.1.toNat p),y7,())=some y8∧Br y8 (P false) (k4 (IntKind.i64.wrap (v3.1+(1:Int)),()))))
      (P true))
    ((0:Int),PUnit.unit)))=fnW tab (look [(122,Bc),(152,Ch)]) Ds Try.f169 (p,()) P:=by kernel_rfl
theorem Aq4 (p:List Int) (P:Bool→Prop):(∃(y2:Int),
 Ig.fn (p,())=some y2∧
  ∃(y3:Bool),
   Bc.fn (y2,(1:Int),(20:Int),())=some y3∧
    Br (!y3) (P false)
     (Cc
      (fun (v4:Int×Int×PUnit) (k5:Int×Int×PUnit→Prop)=>
       Br (decide (v4.2.1<(↑p.length:Int)))
        (∃(y6:Int),
         idx p v4.2.1=some y6∧
          ∃(y7:Int),
           Ig.fn (p,())=some y7∧
            ∃(y8:Bool),
             Bc.fn (y6,(0:Int),IntKind.i64.wrap (y7-(1:Int)),())=some y8∧
              Br (!y8) (P false)
               (¬y6<(0:Int)∧
                k5
                 (IntKind.i64.wrap
                   (↑(BitVec.ofInt IntKind.i64.bits v4.1|||BitVec.ofInt IntKind.i64.bits (IntKind.i64.wrap ((1:Int)*(2:Int)^min y6.toNat IntKind.i64.bits))).toNat:
                    Int),
                  IntKind.i64.wrap (v4.2.1+(1:Int)),())))
        (¬(↑p.length:Int)<(0:Int)∧P (v4.1==IntKind.i64.wrap (IntKind.i64.wrap ((1:Int)*(2:Int)^min (↑p.length:Int).toNat IntKind.i64.bits)-(1:Int)))))
      ((0:Int),(0:Int),PUnit.unit)))=fnW tab (look [(108,Bc),(127,Ig)]) Ds Try.f170 (p,()) P:=by kernel_rfl
theorem Aq7 (n:Int) (g:List (List Int)) (P:Bool→Prop):(∃(y3:Bool),
 Bc.fn (n,(1:Int),(20:Int),())=some y3∧
  Br (!y3) (P false)
   (Br (decide ((↑g.length:Int)>(8:Int))) (P false)
    (Cc
     (fun (v4:Int×PUnit) (k5:Int×PUnit→Prop)=>
      Br (decide (v4.1<(↑g.length:Int)))
       (∃(y6:List Int),
        idx g v4.1=some y6∧
         Br ((↑y6.length:Int) !=n) (P false)
          (∃(y7:List Int),idx g v4.1=some y7∧ ∃(y8:Bool),Ds.fn (y7,())=some y8∧Br (!y8) (P false) (k5 (IntKind.i64.wrap (v4.1+(1:Int)),()))))
       (P true))
     ((0:Int),PUnit.unit))))=fnW tab (look [(122,Bc),(169,Ds)]) Im Try.f148 (n,g,()) P:=by kernel_rfl
theorem Bcu (p:List Int) (n:Int) (P:Bool→Prop):(∃(y3:Int),Ig.fn (p,())=some y3∧Br (y3 !=n) (P true) (∃(y4:Bool),Ds.fn (p,())=some y4∧P !y4))=fnW tab (look [(127,Ig),(170,Ds)]) Aab Try.f174 (p,n,()) P:=by kernel_rfl
theorem Bf8 (g:List (List Int)) (n:Int×Unit) (P:Int→Prop):(Cc
 (fun (v3:Int×PUnit) (k4:Int×PUnit→Prop)=>
  Br (decide (v3.1<(↑g.length:Int)))
   (∃(y5:List Int),idx g v3.1=some y5∧ ∃(y6:Bool),Aab.fn (y5,n.1,())=some y6∧Br y6 (P v3.1) (k4 (IntKind.i64.wrap (v3.1+(1:Int)),()))) (P (-1:Int)))
 ((0:Int),PUnit.unit))=fnW tab (look [(174,Aab)]) An9 Try.f181 (g,n,()) P:=by kernel_rfl
theorem Bf2 (g:List (List Int)) (n:Int×Unit) (P:Bool→Prop):(∃(y3:Int),An9.fn (g,n,())=some y3∧P (decide (y3≥(0:Int))))=fnW tab (look [(181,An9)]) An4 Try.f173 (g,n,()) P:=by kernel_rfl
theorem Aq3 (n:Int) (g:List (List Int)) (P:Bool→Prop):(∃(y3:Bool),
 Bc.fn (n,(1:Int),(20:Int),())=some y3∧Br y3 (Br (decide ((↑g.length:Int)≤(8:Int))) (∃(y4:Bool),An4.fn (g,(n,()),())=some y4∧P !y4) (P false)) (P false))=fnW tab (look [(108,Bc),(173,An4)]) Im Try.f157 (n,g,()) P:=by kernel_rfl
theorem Bbl (s:ByteArray) (i:Int) (P:Bool→Prop):((0:Int)≤i∧
 ∃(y3:UInt8),
  s[i.toNat]?=some y3∧
   Br (decide ((↑y3.toNat:Int)<(65:Int))) (P false)
    ((0:Int)≤i∧
     ∃(y4:UInt8),
      s[i.toNat]?=some y4∧
       Br (decide ((↑y4.toNat:Int)>(90:Int))) (P false)
        (Cc
         (fun (v5:Int×PUnit) (k6:Int×PUnit→Prop)=>
          Br (decide (v5.1<i))
           ((0:Int)≤v5.1∧
            ∃(y7:UInt8),
             s[v5.1.toNat]?=some y7∧
              (0:Int)≤i∧ ∃(y8:UInt8),s[i.toNat]?=some y8∧Br ((↑y7.toNat:Int)==(↑y8.toNat:Int)) (P false) (k6 (IntKind.i64.wrap (v5.1+(1:Int)),())))
           (P true))
         ((0:Int),PUnit.unit))))=fnW tab (look []) Ud Try.f149 (s,i,()) P:=by kernel_rfl
theorem Azc (s:ByteArray) (P:Bool→Prop):(Cc
 (fun (v2:Int×PUnit) (k3:Int×PUnit→Prop)=>
  Br (decide (v2.1<(↑s.size:Int)))
   ((0:Int)≤v2.1∧
    ∃(y4:UInt8),
     s[v2.1.toNat]?=some y4∧
      ∃(y5:Bool),
       Bc.fn (IntKind.i64.wrap (↑y4.toNat:Int),(65:Int),(90:Int),())=some y5∧
        Br (!y5) (P false)
         (Cc
          (fun (v6:Int×PUnit) (k7:Int×PUnit→Prop)=>
           Br (decide (v6.1<v2.1))
            ((0:Int)≤v6.1∧
             ∃(y8:UInt8),
              s[v6.1.toNat]?=some y8∧
               (0:Int)≤v2.1∧ ∃(y9:UInt8),s[v2.1.toNat]?=some y9∧Br ((↑y8.toNat:Int)==(↑y9.toNat:Int)) (P false) (k7 (IntKind.i64.wrap (v6.1+(1:Int)),())))
            (k3 (IntKind.i64.wrap (v2.1+(1:Int)),())))
          ((0:Int),PUnit.unit)))
   (∃(y4:Bool),Bc.fn ((↑s.size:Int),(1:Int),(8:Int),())=some y4∧P y4))
 ((0:Int),PUnit.unit))=fnW tab (look [(108,Bc)]) Qa Try.f158 (s,()) P:=by kernel_rfl
theorem Aq9 (p:Int×ByteArray×List (List Int)×Unit) (P:Bool→Prop):(Br ((↑p.2.2.1.length:Int)==(0:Int)) (P false)
 (Br ((↑p.2.1.size:Int) !=(↑p.2.2.1.length:Int)) (P false)
  (∃(y2:Bool),
   Im.fn (p.1,p.2.2.1,())=some y2∧
    Br (!y2) (P false)
     (Cc
      (fun (v3:Int×Int×ByteArray×List (List Int)×PUnit) (k4:Int×Int×ByteArray×List (List Int)×PUnit→Prop)=>
       Br (decide (v3.1<(↑v3.2.2.1.size:Int)))
        (∃(y5:Bool),Ud.fn (v3.2.2.1,v3.1,())=some y5∧Br (!y5) (P false) (k4 (IntKind.i64.wrap (v3.1+(1:Int)),v3.2.1,v3.2.2.1,v3.2.2.2.1,())))
        (P true))
      ((0:Int),p.1,p.2.1,p.2.2.1,PUnit.unit)))))=fnW tab (look [(148,Im),(149,Ud)]) Dt Try.f99 (p,()) P:=by kernel_rfl
theorem Aq5 (p:Int×ByteArray×List (List Int)×Unit) (P:Bool→Prop):(∃(y2:Bool),
 Im.fn (p.1,p.2.2.1,())=some y2∧Br y2 (∃(y3:Bool),Qa.fn (p.2.1,())=some y3∧Br y3 (P ((↑p.2.1.size:Int)==(↑p.2.2.1.length:Int))) (P false)) (P false))=fnW tab (look [(157,Im),(158,Qa)]) Dt Try.f124 (p,()) P:=by kernel_rfl
theorem Bfc (p:Int×ByteArray×List (List Int)×Unit) (room:Int) (P:Int→Prop):(Br (decide (IntKind.i64.wrap (room-(↑p.2.1.size:Int))<(0:Int))) (P (-1:Int))
 (∃(y3:Int),Wb.fn (p.2.2.1,IntKind.i64.wrap (room-(↑p.2.1.size:Int)),())=some y3∧Br (decide (y3<(0:Int))) (P (-1:Int)) (P y3)))=fnW tab (look [(33,Wb)]) Ane Try.f15 (p,room,()) P:=by kernel_rfl
theorem Bfe (p:Int×ByteArray×List (List Int)×Unit) (P:(Int×ByteArray×List (List Int)×Unit)→Prop):(∃(y2:List (List Int)),Rd.fn (p.2.2.1,())=some y2∧P (p.1,p.2.1,y2,()))=fnW tab (look [(35,Rd)]) Ago Try.f17 (p,()) P:=by kernel_rfl
theorem Bf6 (a b:Int×ByteArray×List (List Int)×Unit) (P:Bool→Prop):(Br (a.1 !=b.1) (P false) (Br (!a.2.1.toList==b.2.1.toList) (P false) (∃(y3:Bool),Vz.fn (a.2.2.1,b.2.2.1,())=some y3∧Br (!y3) (P false) (P true))))=fnW tab (look [(37,Vz)]) An7 Try.f20 (a,b,()) P:=by kernel_rfl
theorem Bdr (xs:List Int) (_:True):fnW tab (look []) Ig Try.f127 (xs,()) (fun (z:Int)=>z=(xs.length:Int)):=Eq.mp (Be6 xs _) rfl
theorem Rf:Sound Try.prog 127 Ig:=
 Sound.mkS Bp As mixed Try.func127 (by kernel_rfl) (by kernel_rfl) fun x h=>Bdr x.1 h
theorem Apu {α:Type} [DecidableEq α]: ∀(l m:List α),l.Nodup→(∀x∈l,x∈m)→l.length≤m.length
 | [],m,_,_=>Nat.zero_le _
 |a::l,m,hn,hs=>by
  have ha:a∈m:=hs a (List.mem_cons_self ..)
  have hn:=List.nodup_cons.1 hn
  have:=Apu l (m.erase a) hn.2 fun x hx=>(List.mem_erase_of_ne (fun (e:x=a)=>hn.1 (by rw [←e];exact hx))).2 (hs x (List.mem_cons_of_mem _ hx))
  rw [List.length_erase_of_mem ha] at this
  have:0<m.length:=List.length_pos_of_mem ha
  simp only [List.length_cons]
  omega
def upto (n:Nat):List Int:=(List.range n).map Int.ofNat
theorem Akf (n:Nat):(upto n).Nodup:=by
 unfold upto
 exact List.Pairwise.map _ (fun a b hab e=>hab (Int.ofNat.inj e)) List.nodup_range
theorem Il {n:Nat} {x:Int} :x∈upto n↔0≤x∧x<n:=by
 unfold upto
 simp only [List.mem_map,List.mem_range]
 constructor
 ·rintro ⟨a,ha,rfl⟩;exact ⟨Int.natCast_nonneg _,Int.ofNat_lt.2 ha⟩
 ·rintro ⟨h1,h2⟩;exact ⟨x.toNat,by omega,by simp only [Int.ofNat_eq_natCast];omega⟩
theorem Ri (n:Nat):(upto n).length=n:=by simp [upto]
theorem Yq {xs:List Int} (h: ∀j (hj:j<xs.length),xs[j]∉xs.take j):xs.Nodup:=by
 refine List.pairwise_iff_getElem.2 fun i j hi hj hij e=>h j hj ?_
 rw [←e]
 exact List.mem_take_iff_getElem.2 ⟨i,by omega,rfl⟩
theorem Akd {xs:List Int} (h:xs.Nodup): ∀j (hj:j<xs.length),xs[j]∉xs.take j:=by
 intro j hj hm
 obtain ⟨i,hi,e⟩:=List.mem_take_iff_getElem.1 hm
 exact List.pairwise_iff_getElem.1 h i j (by omega) hj (by omega) e
theorem Sq {xs:List Int} (h: ∀x∈xs,0≤x∧x<xs.length):(∀k:Nat,k<xs.length→(k:Int)∈xs)↔ ∀j (hj:j<xs.length),xs[j]∉xs.take j:=by
 constructor
 ·intro ha j hj hm
  have h1:=Apu (upto xs.length) (xs.take j++xs.drop (j+1)) (Akf _) fun x hx=>by
   obtain ⟨h1,h2⟩:=Il.1 hx
   have hx:=ha x.toNat (by omega)
   rw [show ((x.toNat:Nat):Int)=x by omega] at hx
   rw [←List.take_append_drop j xs,List.mem_append,List.drop_eq_getElem_cons hj,List.mem_cons] at hx
   rcases hx with hx|rfl|hx
   ·exact List.mem_append_left _ hx
   ·exact List.mem_append_left _ hm
   ·exact List.mem_append_right _ hx
  rw [Ri,List.length_append,List.length_take,List.length_drop] at h1
  omega
 ·intro hn k hk
  refine Classical.byContradiction fun hc=>?_
  have h1:=Apu xs ((upto xs.length).erase (k:Int)) (Yq hn) fun x hx=>by
   refine (List.mem_erase_of_ne fun (e:x=(k:Int))=>hc (by rw [←e];exact hx)).2 (Il.2 (h x hx))
  rw [List.length_erase_of_mem (Il.2 ⟨by omega,by omega⟩),Ri] at h1
  omega
def mask (xs:List Int):Nat:=xs.foldl (fun m x=>m|||2^x.toNat) 0
theorem Axz (xs:List Int) (x:Int):mask (xs++ [x])=mask xs|||2^x.toNat:=by simp [mask]
theorem Aos (xs:List Int) (k:Nat): ∀a:Nat,(xs.foldl (fun m x=>m|||2^x.toNat) a).testBit k=(a.testBit k||xs.any fun x=>decide (x.toNat=k)):=by
 induction xs with
 |nil=>simp
 |cons x xs ih=>
  intro a
  rw [List.foldl_cons,ih,Nat.testBit_or,Nat.testBit_two_pow,List.any_cons,Bool.or_assoc]
theorem Aiv (xs:List Int) (k:Nat):(mask xs).testBit k=xs.any fun x=>decide (x.toNat=k):=by
 unfold mask
 rw [Aos,Nat.zero_testBit,Bool.false_or]
theorem Bc3 {xs:List Int} {n:Nat} (h: ∀x∈xs,x.toNat<n):mask xs<2^n:=by
 refine Nat.lt_pow_two_of_testBit _ fun k hk=>?_
 rw [Aiv]
 refine Bool.eq_false_iff.2 fun ht=>?_
 obtain ⟨x,hx,he⟩:=List.any_eq_true.1 ht
 have:=h x hx
 have:=of_decide_eq_true he
 omega
theorem Amp {xs:List Int} (h: ∀x∈xs,0≤x∧x<xs.length):mask xs=2^xs.length-1↔ ∀k:Nat,k<xs.length→(k:Int)∈xs:=by
 constructor
 ·intro e k hk
  have h1:=Aiv xs k
  rw [e,Nat.testBit_two_pow_sub_one,decide_eq_true hk] at h1
  obtain ⟨x,hx,he⟩:=List.any_eq_true.1 h1.symm
  have:=(h x hx).1
  have:=of_decide_eq_true he
  have e:x=(k:Int):=by omega
  exact e▸hx
 ·intro ha
  refine Nat.eq_of_testBit_eq fun k=>?_
  rw [Aiv,Nat.testBit_two_pow_sub_one]
  by_cases hk:k<xs.length
  ·rw [decide_eq_true hk]
   exact List.any_eq_true.2 ⟨k,ha k hk,by simp⟩
  ·rw [decide_eq_false hk]
   refine Bool.eq_false_iff.2 fun ht=>?_
   obtain ⟨x,hx,he⟩:=List.any_eq_true.1 ht
   have:=h x hx
   have:=of_decide_eq_true he
   omega
theorem Bc5 {m:Nat} {x:Int} (hm:m<2^20) (h0:0≤x) (h1:x<20):
  IntKind.i64.wrap (((BitVec.ofInt IntKind.i64.bits (m:Int)|||BitVec.ofInt IntKind.i64.bits (IntKind.i64.wrap ((1:Int)*(2:Int)^min x.toNat IntKind.i64.bits))).toNat:Nat):Int)=((m|||2^x.toNat:Nat):Int):=by
 have hx:(2:Nat)^x.toNat<2^20:=Nat.pow_lt_pow_right (by omega) (by omega)
 have e1:min x.toNat IntKind.i64.bits=x.toNat:=by show min x.toNat 64=_;omega
 have e2:(1:Int)*(2:Int)^x.toNat=((2^x.toNat:Nat):Int):=by rw [Int.one_mul];exact (Int.natCast_pow 2 _).symm
 rw [e1,e2,Bu (n:=((2^x.toNat:Nat):Int)) (by have:(0:Int)≤((2^x.toNat:Nat):Int):=Int.natCast_nonneg _;omega) (by omega)]
 show IntKind.i64.wrap (((BitVec.ofInt 64 (m:Int)|||BitVec.ofInt 64 ((2^x.toNat:Nat):Int)).toNat:Nat):Int)=_
 rw [BitVec.ofInt_natCast,BitVec.ofInt_natCast,BitVec.toNat_or,BitVec.toNat_ofNat,BitVec.toNat_ofNat,Nat.mod_eq_of_lt (by omega),Nat.mod_eq_of_lt (by omega)]
 have:=Nat.or_lt_two_pow hm hx
 exact Bu (by omega) (by omega)
theorem Ap0 (p:List Int) (h:short p):fnW tab (look [(122,Bc),(152,Ch)]) Ds Try.f169 (p,()) (fun (z:Bool)=>z=En p):=by
 have hs:=h
 unfold short at h
 refine Eq.mp (Aq8 p _) ⟨_,if_pos trivial,⟨fun hp=>?_,fun hp=>?_⟩⟩
 ·have hp:=Cb hp
  rw [Bo] at hp
  dsimp only at hp
  exact Ap fun hh=>hp ⟨by omega,by omega⟩
 ·have hp:=Cl hp
  rw [Bo] at hp
  dsimp only at hp
  refine Ao p.length (fun v=>v.1) (fun j _=>DL p.length p j) rfl (fun j _ hj=>absurd hj (Nat.not_lt_zero _)) ?_
  rintro j ⟨i,⟨⟩⟩ K hj hi hR hK
  dsimp only at hi⊢
  subst hi
  refine Br.dec (fun hl=>?_) fun hl=>?_
  ·have hl:j<p.length:=by omega
   refine ⟨_,Aq hl,_,if_pos trivial,⟨fun hq=>?_,fun hq=>?_⟩⟩
   ·have hq:=Cb hq
    rw [Bo,Bu (by omega) (by omega)] at hq
    exact Ap fun hh=>hq ⟨(hh.2.2 j hl hl).1,(hh.2.2 j hl hl).2.1⟩
   ·have hq:=Cl hq
    rw [Bo,Bu (by omega) (by omega)] at hq
    refine ⟨⟨by omega,by omega,by omega⟩,_,Aq hl,?_⟩
    rw [show (Int.toNat 0)=0 from rfl,List.drop_zero,Int.toNat_natCast]
    refine ⟨_,if_pos (Avy hs j),⟨fun hc=>?_,fun hc=>?_⟩⟩
    ·have hc:decide (p[j]∈p.take j)=true:=hc
     rw [decide_eq_true_iff] at hc
     exact Ap fun hh=>(hh.2.2 j hl hl).2.2 hc
    ·have hc:decide (p[j]∈p.take j)=false:=hc
     rw [decide_eq_false_iff_not] at hc
     rw [Ak (by omega)]
     exact hK hl _ rfl (Bbx hl hR hq.1 hq.2 hc)
  ·have:j=p.length:=by omega
   subst this
   exact Gm ⟨by omega,by omega,hR⟩
theorem Nd:Sound Try.prog 169 Ds:=
 Sound.mkS Bp (Ad Nq (Ad Si As)) mixed Try.func169 (by kernel_rfl) (by kernel_rfl) fun x h=>Ap0 x.1 h
theorem Aow (p:List Int) (h:short p):fnW tab (look [(108,Bc),(127,Ig)]) Ds Try.f170 (p,()) (fun (z:Bool)=>z=En p):=by
 unfold short at h
 refine Eq.mp (Aq4 p _) ⟨_,if_pos trivial,_,if_pos trivial,⟨fun hp=>?_,fun hp=>?_⟩⟩
 ·have hp:=Cb hp
  rw [Bo] at hp
  dsimp only at hp
  exact Ap fun hh=>hp ⟨by omega,by omega⟩
 ·have hp:=Cl hp
  rw [Bo] at hp
  dsimp only at hp
  refine Ao p.length (fun v=>v.2.1) (fun j v=>v.1=(mask (p.take j):Int)∧ ∀x∈p.take j,0≤x∧x<p.length) rfl ⟨rfl,by simp⟩ ?_
  rintro j ⟨m,i,⟨⟩⟩ K hj hi ⟨hm,hR⟩ hK
  dsimp only at hi hm⊢
  subst hi hm
  refine Br.dec (fun hl=>?_) fun hl=>?_
  ·have hl:j<p.length:=by omega
   refine ⟨_,Aq hl,_,if_pos trivial,_,if_pos trivial,⟨fun hq=>?_,fun hq=>?_⟩⟩
   ·have hq:=Cb hq
    rw [Bo] at hq
    dsimp only at hq
    rw [Bu (by omega) (by omega)] at hq
    exact Ap fun hh=>hq ⟨(hh.2.2 j hl hl).1,(hh.2.2 j hl hl).2.1⟩
   ·have hq:=Cl hq
    rw [Bo] at hq
    dsimp only at hq
    rw [Bu (by omega) (by omega)] at hq
    refine ⟨by omega,?_⟩
    rw [Ak (by omega)]
    have hb:mask (p.take j)<2^20:=Bc3 fun x hx=>by have:=hR x hx;omega
    refine hK hl _ rfl ⟨?_,?_⟩
    ·dsimp only
     rw [Bc5 hb hq.1 (by omega),List.take_succ_eq_append_getElem hl,Axz]
    ·rw [List.take_succ_eq_append_getElem hl]
     intro x hx
     rcases List.mem_append.1 hx with hx|hx
     ·exact hR x hx
     ·rw [List.mem_singleton.1 hx];omega
  ·have:j=p.length:=by omega
   subst this
   rw [List.take_length] at hR⊢
   refine ⟨by omega,?_⟩
   have hx:(2:Nat)^p.length≤2^20:=Nat.pow_le_pow_right (by omega) (by omega)
   have hpos:0<(2:Nat)^p.length:=Nat.two_pow_pos _
   have e1:min (p.length:Int).toNat IntKind.i64.bits=p.length:=by show min (p.length:Int).toNat 64=_;omega
   have e2:(1:Int)*(2:Int)^p.length=((2^p.length:Nat):Int):=by rw [Int.one_mul];exact (Int.natCast_pow 2 _).symm
   rw [e1,e2,Bu (n:=((2^p.length:Nat):Int)) (by omega) (by omega),Bu (by omega) (by omega)]
   have hE:((mask p:Int)==((2^p.length:Nat):Int)-1)=decide (mask p=2^p.length-1):=by
    rw [Bool.eq_iff_iff,beq_iff_eq,decide_eq_true_iff]
    omega
   show ((mask p:Int)==((2^p.length:Nat):Int)-1)=En p
   rw [hE]
   by_cases hf:mask p=2^p.length-1
   ·rw [decide_eq_true hf]
    have hn:=(Sq hR).1 ((Amp hR).1 hf)
    refine Gm ⟨by omega,by omega,fun j hj _=>?_⟩
    have:=hR _ (List.getElem_mem hj)
    exact ⟨this.1,by omega,hn j hj⟩
   ·rw [decide_eq_false hf]
    refine Ap fun hh=>hf ((Amp hR).2 ((Sq hR).2 fun j hj=>(hh.2.2 j hj hj).2.2))
theorem Ug:Sound Try.prog 170 Ds:=
 Sound.mkS Bp (Ad Js (Ad Rf As)) mixed Try.func170 (by kernel_rfl) (by kernel_rfl) fun x h=>Aow x.1 h
theorem Aoz (n:Int) (g:List (List Int)) (h:Ee g):fnW tab (look [(122,Bc),(169,Ds)]) Im Try.f148 (n,g,()) (fun (z:Bool)=>z=Ob n g):=by
 obtain ⟨h,h4⟩:=h
 refine Eq.mp (Aq7 n g _) ⟨_,if_pos trivial,⟨fun hp=>?_,fun hp=>?_⟩⟩
 ·have hp:=Cb hp
  rw [Bo] at hp
  exact Ap fun hh=>hp hh.1
 ·have hp:=Cl hp
  rw [Bo] at hp
  refine Br.dec (fun hg=>?_) fun hg=>?_
  ·exact Ap fun hh=>by have:=hh.2.1;omega
  ·refine Ao g.length (fun v=>v.1) (fun j _=> ∀p∈g.take j,Dn n p=true) rfl (by simp) ?_
   rintro j ⟨i,⟨⟩⟩ K hj hi hR hK
   dsimp only at hi⊢
   subst hi
   refine Br.dec (fun hl=>?_) fun hl=>?_
   ·have hl:j<g.length:=by omega
    have hm:g[j]∈g:=List.getElem_mem hl
    refine ⟨_,Aq hl,⟨fun he=>?_,fun he=>?_⟩⟩
    ·simp only [bne_iff_ne,ne_eq] at he
     exact Ap fun hh=>he (Em.1 (hh.2.2 _ hm)).1
    ·simp only [bne_eq_false_iff_eq] at he
     refine ⟨_,Aq hl,_,if_pos (h4 _ hm),⟨fun hq=>?_,fun hq=>?_⟩⟩
     ·have hq:=Cb hq
      exact Ap fun hh=>hq (Em.1 (hh.2.2 _ hm)).2
     ·have hq:=Cl hq
      rw [Ak (by omega)]
      refine hK hl _ rfl ?_
      rw [List.take_succ_eq_append_getElem hl]
      intro x hx
      rcases List.mem_append.1 hx with hx|hx
      ·exact hR x hx
      ·rw [List.mem_singleton.1 hx];exact Em.2 ⟨he,hq⟩
   ·have:j=g.length:=by omega
    subst this
    rw [List.take_length] at hR
    exact Gm ⟨hp,by omega,hR⟩
theorem Afq:Sound Try.prog 148 Im:=
 Sound.mkS Bp (Ad Nq (Ad Nd As)) mixed Try.func148 (by kernel_rfl) (by kernel_rfl) fun x h=>Aoz x.1 x.2.1 h
theorem Bc8 (p:List Int) (n:Int) (h:short p):fnW tab (look [(127,Ig),(170,Ds)]) Aab Try.f174 (p,n,()) (fun (z:Bool)=>z=!Dn n p):=by
 refine Eq.mp (Bcu p n _) ⟨_,if_pos trivial,⟨fun he=>?_,fun he=>⟨_,if_pos h,?_⟩⟩⟩
 ·simp only [bne_iff_ne,ne_eq] at he
  have:Dn n p=false:=Bbw.2 fun hh=>he hh.1
  rw [this];rfl
 ·simp only [bne_eq_false_iff_eq] at he
  show (!En p)=_
  congr 1
  cases hp:En p with
  |true=>exact Gm ⟨he,hp⟩
  |false=>exact Ap fun hh=>by rw [hh.2] at hp;cases hp
theorem At4:Sound Try.prog 174 Aab:=
 Sound.mkS Bp (Ad Rf (Ad Ug As)) mixed Try.func174 (by kernel_rfl) (by kernel_rfl) fun x h=>Bc8 x.1 x.2.1 h
theorem Rz {α:Type} (P:α→Bool): ∀(l:List α) (i:Int),0≤i→(0≤Cr P l i↔l.any P=true)
 | [],i,_=>by simp [Cr]
 |y::r,i,h=>by
  simp only [Cr,List.any_cons,Bool.or_eq_true]
  split
  ·rename_i hy;simp [hy,h]
  ·rename_i hy;rw [Rz P r (i+1) (by omega)];simp [hy]
theorem Beq (g:List (List Int)) (n:Int×Unit) (h:Ee g):fnW tab (look [(174,Aab)]) An9 Try.f181 (g,n,()) (fun (z:Int)=>z=Cr (fun p=>!Dn n.1 p) g 0):=by
 obtain ⟨h,h4⟩:=h
 refine Eq.mp (Bf8 g n _) ?_
 refine Ao g.length (fun v=>v.1) (fun j _=>Cr (fun p=>!Dn n.1 p) (g.drop j) j=Cr (fun p=>!Dn n.1 p) g 0) rfl (by simp) ?_
 rintro j ⟨i,⟨⟩⟩ K hj hi hR hK
 dsimp only at hi⊢
 subst hi
 refine Br.dec (fun hl=>?_) fun hl=>?_
 ·have hl:j<g.length:=by omega
  rw [List.drop_eq_getElem_cons hl] at hR
  simp only [Cr] at hR
  refine ⟨_,Aq hl,_,if_pos (h4 _ (List.getElem_mem hl)),⟨fun he=>?_,fun he=>?_⟩⟩
  ·have he:(!Dn n.1 g[j])=true:=he
   rw [if_pos he] at hR
   exact hR
  ·have he:(!Dn n.1 g[j])=false:=he
   rw [if_neg (by rw [he];decide)] at hR
   rw [Ak (by omega)]
   exact hK hl _ rfl (by push_cast;exact hR)
 ·have:j=g.length:=by omega
  subst this
  rw [List.drop_length] at hR
  exact hR
theorem Ayv:Sound Try.prog 181 An9:=
 Sound.mkS Bp (Ad At4 As) mixed Try.func181 (by kernel_rfl) (by kernel_rfl) fun x h=>Beq x.1 x.2.1 h
theorem Bek (g:List (List Int)) (n:Int×Unit) (h:Ee g):fnW tab (look [(181,An9)]) An4 Try.f173 (g,n,()) (fun (z:Bool)=>z=List.any g (fun p=>!Dn n.1 p)):=by
 refine Eq.mp (Bf2 g n _) ⟨_,if_pos h,?_⟩
 rw [Bool.eq_iff_iff,decide_eq_true_iff]
 exact Rz _ g 0 (Int.le_refl 0)
theorem Ayq:Sound Try.prog 173 An4:=
 Sound.mkS Bp (Ad Ayv As) mixed Try.func173 (by kernel_rfl) (by kernel_rfl) fun x h=>Bek x.1 x.2.1 h
theorem Aov (n:Int) (g:List (List Int)) (h:Ee g):fnW tab (look [(108,Bc),(173,An4)]) Im Try.f157 (n,g,()) (fun (z:Bool)=>z=Ob n g):=by
 refine Eq.mp (Aq3 n g _) ⟨_,if_pos trivial,⟨fun hp=>?_,fun hp=>?_⟩⟩
 ·have hp:Fu n 1 20=true:=hp
  rw [Bo] at hp
  refine Br.dec (fun hl=>⟨_,if_pos h,?_⟩) fun hl=>?_
  ·show (!List.any g (fun p=>!Dn n p))=Ob n g
   cases ha:List.any g (fun p=>!Dn n p) with
   |true=>
    obtain ⟨p,hp1,hp2⟩:=List.any_eq_true.1 ha
    exact Ap fun hh=>by rw [hh.2.2 p hp1] at hp2;cases hp2
   |false=>
    refine Gm ⟨hp,by omega,fun p hm=>?_⟩
    have:=List.any_eq_false.1 ha p hm
    simpa using this
  ·exact Ap fun hh=>by have:=hh.2.1;omega
 ·refine Ap fun hh=>?_
  have:Fu n 1 20=true:=Bo.2 hh.1
  have hp:Fu n 1 20=false:=hp
  rw [this] at hp;cases hp
theorem Afo:Sound Try.prog 157 Im:=
 Sound.mkS Bp (Ad Js (Ad Ayq As)) mixed Try.func157 (by kernel_rfl) (by kernel_rfl) fun x h=>Aov x.1 x.2.1 h
theorem Gd {s:ByteArray} {k:Nat} (h:k<s.size):s[k]?=some s[k]:=getElem?_pos s k h
theorem Baq (s:ByteArray) (i:Int) (h:0≤i∧i<s.size∧s.size≤4294967296):fnW tab (look []) Ud Try.f149 (s,i,()) (fun (z:Bool)=>z=Ads s i):=by
 obtain ⟨h1,h2,h3⟩:=h
 have hi:i.toNat<s.size:=by omega
 refine Eq.mp (Bbl s i _) ⟨h1,_,Gd hi,Br.dec (fun hq=>?_) fun hq=>⟨h1,_,Gd hi,Br.dec (fun hr=>?_) fun hr=>?_⟩⟩
 ·refine Ap fun ⟨c,hc,hc1,_⟩=>?_
  rw [Gd hi] at hc;cases hc;omega
 ·refine Ap fun ⟨c,hc,_,hc1,_⟩=>?_
  rw [Gd hi] at hc;cases hc;omega
 ·refine Ao i.toNat (fun v=>v.1) (fun j _=> ∀k,k<j→s[k]?≠some s[i.toNat]) rfl (fun k hk=>absurd hk (Nat.not_lt_zero _)) ?_
  rintro j ⟨i',⟨⟩⟩ K hj hi' hR hK
  dsimp only at hi'⊢
  subst hi'
  refine Br.dec (fun hl=>?_) fun hl=>?_
  ·have hl:j<i.toNat:=by omega
   have hj:j<s.size:=by omega
   rw [Int.toNat_natCast]
   refine ⟨by omega,_,Gd hj,h1,_,Gd hi,⟨fun he=>?_,fun he=>?_⟩⟩
   ·simp only [beq_iff_eq,Int.natCast_inj] at he
    refine Ap fun ⟨c,hc,_,_,hc1⟩=>?_
    rw [Gd hi] at hc;cases hc
    exact hc1 j hl (by rw [Gd hj,UInt8.toNat_inj.1 he])
   ·simp only [beq_eq_false_iff_ne,ne_eq,Int.natCast_inj] at he
    rw [Ak (by omega)]
    refine hK hl _ rfl fun k hk=>?_
    by_cases e:k=j
    ·subst e
     rw [Gd hj]
     exact fun e=>he (by rw [Option.some.inj e])
    ·exact hR k (by omega)
  ·have:j=i.toNat:=by omega
   subst this
   exact Gm ⟨_,Gd hi,by omega,by omega,hR⟩
theorem Apl:Sound Try.prog 149 Ud:=
 Sound.mkS Bp As mixed Try.func149 (by kernel_rfl) (by kernel_rfl) fun x h=>Baq x.1 x.2.1 h
theorem Aya (s:ByteArray) (h:s.size≤4294967296):fnW tab (look [(108,Bc)]) Qa Try.f158 (s,()) (fun (z:Bool)=>z=Tx s):=by
 refine Eq.mp (Azc s _) ?_
 refine Ao s.size (fun v=>v.1) (fun j _=> ∀k,k<j→Ann s k) rfl (fun k hk=>absurd hk (Nat.not_lt_zero _)) ?_
 rintro j ⟨i,⟨⟩⟩ K hj hi hR hK
 dsimp only at hi⊢
 subst hi
 refine Br.dec (fun hl=>?_) fun hl=>?_
 ·have hl:j<s.size:=by omega
  rw [Int.toNat_natCast]
  have hb:=(s[j]).toNat_lt
  refine ⟨by omega,_,Gd hl,_,if_pos trivial,⟨fun hq=>?_,fun hq=>?_⟩⟩
  ·have hq:=Cb hq
   rw [Bo] at hq
   dsimp only at hq
   rw [Bu (by omega) (by omega)] at hq
   refine Ap fun hh=>?_
   obtain ⟨c,hc,hc1,hc2,_⟩:=hh.2 j hl
   rw [Gd hl] at hc;cases hc
   exact hq ⟨by omega,by omega⟩
  ·have hq:=Cl hq
   rw [Bo] at hq
   dsimp only at hq
   rw [Bu (by omega) (by omega)] at hq
   refine Ao j (fun v=>v.1) (fun m _=> ∀k,k<m→s[k]?≠some s[j]) rfl (fun k hk=>absurd hk (Nat.not_lt_zero _)) ?_
   rintro m ⟨i',⟨⟩⟩ K' hm hi' hR' hK'
   dsimp only at hi'⊢
   subst hi'
   refine Br.dec (fun hl'=>?_) fun hl'=>?_
   ·have hl':m<j:=by omega
    have hm':m<s.size:=by omega
    rw [Int.toNat_natCast]
    refine ⟨by omega,_,Gd hm',by omega,_,Gd hl,⟨fun he=>?_,fun he=>?_⟩⟩
    ·simp only [beq_iff_eq,Int.natCast_inj] at he
     refine Ap fun hh=>?_
     obtain ⟨c,hc,_,_,hc1⟩:=hh.2 j hl
     rw [Gd hl] at hc;cases hc
     exact hc1 m hl' (by rw [Gd hm',UInt8.toNat_inj.1 he])
    ·simp only [beq_eq_false_iff_ne,ne_eq,Int.natCast_inj] at he
     rw [Ak (by omega)]
     refine hK' hl' _ rfl fun k hk=>?_
     by_cases e:k=m
     ·subst e
      rw [Gd hm']
      exact fun e=>he (by rw [Option.some.inj e])
     ·exact hR' k (by omega)
   ·have:m=j:=by omega
    subst this
    rw [Ak (by omega)]
    refine hK hl _ rfl fun k hk=>?_
    by_cases e:k=m
    ·subst e
     exact ⟨_,Gd hl,by omega,by omega,hR'⟩
    ·exact hR k (by omega)
 ·have:j=s.size:=by omega
  subst this
  refine ⟨_,if_pos trivial,?_⟩
  show Fu s.size 1 8=_
  cases hr:Fu s.size 1 8 with
  |true=>rw [Bo] at hr;exact Gm ⟨by omega,hR⟩
  |false=>refine Ap fun hh=>?_;rw [Bo.2 ⟨by omega,by omega⟩] at hr;cases hr
theorem Alj:Sound Try.prog 158 Qa:=
 Sound.mkS Bp (Ad Js As) mixed Try.func158 (by kernel_rfl) (by kernel_rfl) fun x h=>Aya x.1 h
theorem Ack {p:PP} (h:Be p=true):1≤p.1∧p.1≤20∧1≤p.2.2.1.length∧p.2.2.1.length≤8:=by
 obtain ⟨h1,h2,h3⟩:=Em.1 h
 obtain ⟨h4,h5,_⟩:=Em.1 h1
 obtain ⟨h6,_⟩:=Em.1 h2
 omega
theorem Ap1 (p:PP) (h:Dl p):fnW tab (look [(148,Im),(149,Ud)]) Dt Try.f99 (p,()) (fun (z:Bool)=>z=Be p):=by
 obtain ⟨hn,hg⟩:=h
 refine Eq.mp (Aq9 p _) ⟨fun h0=>?_,fun h0=>⟨fun h1=>?_,fun h1=>⟨_,if_pos hg,⟨fun h2=>?_,fun h2=>?_⟩⟩⟩⟩
 ·simp only [beq_iff_eq] at h0
  exact Ap fun hh=>by obtain ⟨_,h2,h3⟩:=hh;have:=(Em.1 h2).1;omega
 ·simp only [bne_iff_ne,ne_eq,Int.natCast_inj] at h1
  exact Ap fun hh=>h1 hh.2.2
 ·have h2:=Cb h2
  exact Ap fun hh=>h2 hh.1
 ·simp only [beq_eq_false_iff_ne,ne_eq] at h0
  simp only [bne_eq_false_iff_eq,Int.natCast_inj] at h1
  have h2:Ob p.1 p.2.2.1=true:=Cl h2
  refine Ao p.2.1.size (fun v=>v.1) (fun j v=>v.2=(p.1,p.2.1,p.2.2.1,())∧ ∀k,k<j→Ann p.2.1 k) rfl ⟨rfl,fun k hk=>absurd hk (Nat.not_lt_zero _)⟩ ?_
  rintro j ⟨i,v⟩ K hj hi ⟨hv,hR⟩ hK
  dsimp only at hi hv⊢
  subst hi hv
  dsimp only
  refine Br.dec (fun hl=>?_) fun hl=>?_
  ·have hl:j<p.2.1.size:=by omega
   refine ⟨_,if_pos ⟨Int.natCast_nonneg j,Int.ofNat_lt.2 hl,hn⟩,⟨fun hq=>?_,fun hq=>?_⟩⟩
   ·have hq: ¬Ads p.2.1 j=true:=Cb hq
    refine Ap fun hh=>hq (Em.2 ?_)
    rw [Int.toNat_natCast]
    exact (Em.1 hh.2.1).2 j hl
   ·have hq:Ads p.2.1 j=true:=Cl hq
    have hq:=Em.1 hq
    rw [Int.toNat_natCast] at hq
    rw [Ak (by omega)]
    refine hK hl _ rfl ⟨rfl,fun k hk=>?_⟩
    by_cases e:k=j
    ·subst e;exact hq
    ·exact hR k (by omega)
  ·have:j=p.2.1.size:=by omega
   subst this
   have:=(Em.1 h2).2.1
   exact Gm ⟨h2,Em.2 ⟨⟨by omega,by omega⟩,hR⟩,h1⟩
theorem Nf:Sound Try.prog 99 Dt:=
 Sound.mkS Bp (Ad Afq (Ad Apl As)) mixed Try.func99 (by kernel_rfl) (by kernel_rfl) fun x h=>Ap1 x.1 h
theorem Aox (p:PP) (h:Dl p):fnW tab (look [(157,Im),(158,Qa)]) Dt Try.f124 (p,()) (fun (z:Bool)=>z=Be p):=by
 obtain ⟨hn,hg⟩:=h
 refine Eq.mp (Aq5 p _) ⟨_,if_pos hg,⟨fun h1=>⟨_,if_pos hn,⟨fun h2=>?_,fun h2=>?_⟩⟩,fun h1=>?_⟩⟩
 ·have h1:Ob p.1 p.2.2.1=true:=h1
  have h2:Tx p.2.1=true:=h2
  by_cases e:p.2.1.size=p.2.2.1.length
  ·rw [e,beq_self_eq_true];exact Gm ⟨h1,h2,e⟩
  ·rw [show ((p.2.1.size:Int)==(p.2.2.1.length:Int))=false from beq_eq_false_iff_ne.2 (by omega)];exact Ap fun hh=>e hh.2.2
 ·have h2:Tx p.2.1=false:=h2
  exact Ap fun hh=>by rw [hh.2.1] at h2;cases h2
 ·have h1:Ob p.1 p.2.2.1=false:=h1
  exact Ap fun hh=>by rw [hh.1] at h1;cases h1
theorem Uh:Sound Try.prog 124 Dt:=
 Sound.mkS Bp (Ad Afo (Ad Alj As)) mixed Try.func124 (by kernel_rfl) (by kernel_rfl) fun x h=>Aox x.1 h
theorem Beu (p:PP) (room:Int) (h:Dl p∧roomy room):fnW tab (look [(33,Wb)]) Ane Try.f15 (p,room,()) (fun (z:Int)=>z=Ox p room):=by
 obtain ⟨⟨h1,h2⟩,h3,h4⟩:=h
 refine Eq.mp (Bfc p room _) ?_
 rw [Bu (by omega) (by omega)]
 refine Br.dec (fun hn=>?_) fun hn=>⟨_,if_pos ⟨h2,by dsimp only;omega,by dsimp only;omega⟩,Br.dec (fun hm=>?_) fun hm=>?_⟩
 ·simp only [Ox,if_pos hn]
 ·exact ((if_neg hn).trans (if_pos hm)).symm
 ·exact ((if_neg hn).trans (if_neg hm)).symm
theorem Ayz:Sound Try.prog 15 Ane:=
 Sound.mkS Bp (Ad Ak4 As) mixed Try.func15 (by kernel_rfl) (by kernel_rfl) fun x h=>Beu x.1 x.2.1 h
theorem Bew (p:PP) (h:Dl p):fnW tab (look [(35,Rd)]) Ago Try.f17 (p,()) (fun (z:PP)=>z=p):=Eq.mp (Bfe p _) ⟨_,if_pos h.2,rfl⟩
theorem Az0:Sound Try.prog 17 Ago:=
 Sound.mkS Bp (Ad Ak5 As) mixed Try.func17 (by kernel_rfl) (by kernel_rfl) fun x h=>Bew x.1 h
theorem Aqs {a b:ByteArray} :(a.toList==b.toList)=decide (a=b):=by
 rw [Bool.eq_iff_iff,beq_iff_eq,decide_eq_true_iff,ByteArray.toList_eq,ByteArray.toList_eq]
 exact ⟨fun h=>ByteArray.ext (Array.toList_inj.1 h),fun h=>by rw [h]⟩
theorem Beo (a b:PP) (h:Dl a):fnW tab (look [(37,Vz)]) An7 Try.f20 (a,b,()) (fun (z:Bool)=>z=Agc a b):=by
 refine Eq.mp (Bf6 a b _) ⟨fun h1=>?_,fun h1=>⟨fun h2=>?_,fun h2=>⟨_,if_pos h.2,⟨fun h3=>?_,fun h3=>?_⟩⟩⟩⟩
 ·simp only [bne_iff_ne,ne_eq] at h1
  unfold Agc
  rw [decide_eq_false h1];rfl
 ·rw [Aqs] at h2
  unfold Agc
  cases hd:decide (a.2.1=b.2.1)<;>simp_all
 ·have h3:(!Ac4 a.2.2.1 b.2.2.1)=true:=h3
  simp only [Ac4,Bool.not_eq_true'] at h3
  unfold Agc
  rw [h3];simp
 ·have h3:(!Ac4 a.2.2.1 b.2.2.1)=false:=h3
  rw [Aqs] at h2
  simp only [Ac4] at h3
  simp only [bne_eq_false_iff_eq] at h1
  unfold Agc
  simp_all
theorem Ayt:Sound Try.prog 20 An7:=
 Sound.mkS Bp (Ad Ajx As) mixed Try.func20 (by kernel_rfl) (by kernel_rfl) fun x h=>Beo x.1 x.2.1 h
theorem Av1 (p:PP):Agc p p=true:=by simp [Agc]
end Go.Proofs.Ytebabhocakedaaa

namespace Go.Proofs.Ytebabhocakedaaa
open Go.RowKit
abbrev tM1:Ty:= .clo 125 (.pair (.ptr tL) .unit)
noncomputable abbrev Aad:Spec:=mkS (.pair tI (.pair (.ptr tL) .unit)) .bool false true (fun x=>short x.2.1) (fun x=>!Bf x.2.1 x.1)
noncomputable abbrev Ana:Spec:=mkS (.pair tL (.pair tM1 .unit)) tI false true (fun x=>short x.1∧short x.2.1.1) (fun x=>Cr (fun y=>!Bf x.2.1.1 y) x.1 0)
noncomputable abbrev An5:Spec:=mkS (.pair tL (.pair tM1 .unit)) .bool false true (fun x=>short x.1∧short x.2.1.1) (fun x=>List.any x.1 (fun y=>!Bf x.2.1.1 y))
noncomputable abbrev Aaa:Spec:=mkS (.pair tL (.pair tL .unit)) .bool false true (fun x=>short x.1∧short x.2.1) (fun x=>List.all x.2.1 (fun y=>Bf x.1 y))
def Au1 (n:Int) (g:List (List Int)) (j:Nat):Prop:= ∀h:j<g.length,Ei n g[j]=true∧(∀h1:0<j,g[j-1].length<g[j].length∧ ∀x∈g[j-1],x∈g[j])
noncomputable def Jg (p:PP) (g:List (List Int)):Bool:=dec (Be p=true∧(1≤g.length∧g.length≤5)∧(∀j,j<g.length→Au1 p.1 g j)∧ ∃x,g[g.length-1]?=some x∧(x.length:Int)=p.1)
noncomputable abbrev Fg:Spec:=mkS (.pair Cy (.pair tLL .unit)) .bool false true (fun x=>Dl x.1∧Ee x.2.1) (fun x=>Jg x.1 x.2.1)
noncomputable abbrev Ue:Spec:=mkS (.pair tI (.pair tL .unit)) .bool false true (fun x=>short x.2.1) (fun x=>Dn x.1 x.2.1)
noncomputable abbrev My:Spec:=mkS (.pair Cy (.pair tL .unit)) .bool false true (fun x=>short x.2.1) (fun x=>Dn x.1.1 x.2.1)
noncomputable abbrev Qc:Spec:=mkS (.pair Cy (.pair tL .unit)) .bool false true (fun x=>Dl x.1∧short x.2.1) (fun x=>Be x.1&&Dn x.1.1 x.2.1)
theorem Bcx (x:Int) (xs:List Int) (P:Bool→Prop):(∃(y3:Bool),Ch.fn (xs,x,())=some y3∧P !y3)=fnW tab (look [(126,Ch)]) Aad Try.f125 (x,xs,()) P:=by kernel_rfl
theorem Bf9 (xs:List Int) (c:List Int×Unit) (P:Int→Prop):(Cc
 (fun (v3:Int×PUnit) (k4:Int×PUnit→Prop)=>
  Br (decide (v3.1<(↑xs.length:Int)))
   (∃(y5:Int),idx xs v3.1=some y5∧ ∃(y6:Bool),Aad.fn (y5,c.1,())=some y6∧Br y6 (P v3.1) (k4 (IntKind.i64.wrap (v3.1+(1:Int)),()))) (P (-1:Int)))
 ((0:Int),PUnit.unit))=fnW tab (look [(125,Aad)]) Ana Try.f144 (xs,c,()) P:=by kernel_rfl
theorem Bf3 (xs:List Int) (c:List Int×Unit) (P:Bool→Prop):(∃(y3:Int),Ana.fn (xs,c,())=some y3∧P (decide (y3≥(0:Int))))=fnW tab (look [(144,Ana)]) An5 Try.f103 (xs,c,()) P:=by kernel_rfl
theorem Bct (xs ys:List Int) (P:Bool→Prop):(Cc
 (fun (v3:Int×PUnit) (k4:Int×PUnit→Prop)=>
  Br (decide (v3.1<(↑ys.length:Int)))
   (∃(y5:Int),idx ys v3.1=some y5∧ ∃(y6:Bool),Ch.fn (xs,y5,())=some y6∧Br (!y6) (P false) (k4 (IntKind.i64.wrap (v3.1+(1:Int)),()))) (P true))
 ((0:Int),PUnit.unit))=fnW tab (look [(152,Ch)]) Aaa Try.f123 (xs,ys,()) P:=by kernel_rfl
theorem Akk (p:Int×ByteArray×List (List Int)×Unit) (g:List (List Int)) (P:Bool→Prop):(∃(y3:Bool),
 Dt.fn ((p.1,p.2.1,p.2.2.1,()),())=some y3∧
  Br (!y3) (P false)
   (∃(y4:Bool),
    Bc.fn ((↑g.length:Int),(1:Int),(5:Int),())=some y4∧
     Br (!y4) (P false)
      (Cc
       (fun (v5:Int×Int×ByteArray×List (List Int)×PUnit) (k6:Int×Int×ByteArray×List (List Int)×PUnit→Prop)=>
        Br (decide (v5.1<(↑g.length:Int)))
         (∃(y7:List Int),
          idx g v5.1=some y7∧
           ∃(y8:Bool),
            Ej.fn (v5.2.1,y7,())=some y8∧
             Br (!y8) (P false)
              (Br (decide (v5.1>(0:Int)))
               (∃(y9:List Int),
                idx g v5.1=some y9∧
                 ∃(y10:List Int),
                  idx g (IntKind.i64.wrap (v5.1-(1:Int)))=some y10∧
                   Br (decide ((↑y9.length:Int)≤(↑y10.length:Int))) (P false)
                    (∃(y11:List Int),
                     idx g v5.1=some y11∧
                      ∃(y12:List Int),
                       idx g (IntKind.i64.wrap (v5.1-(1:Int)))=some y12∧
                        ∃(y13:Bool),
                         Aaa.fn (y11,y12,())=some y13∧Br (!y13) (P false) (k6 (IntKind.i64.wrap (v5.1+(1:Int)),v5.2.1,v5.2.2.1,v5.2.2.2.1,()))))
               (k6 (IntKind.i64.wrap (v5.1+(1:Int)),v5.2.1,v5.2.2.1,v5.2.2.2.1,()))))
         (∃(y7:List Int),idx g (IntKind.i64.wrap ((↑g.length:Int)-(1:Int)))=some y7∧P ((↑y7.length:Int)==v5.2.1)))
       ((0:Int),p.1,p.2.1,p.2.2.1,PUnit.unit))))=fnW tab (look [(99,Dt),(122,Bc),(100,Ej),(123,Aaa)]) Fg Try.f77 (p,g,()) P:=by kernel_rfl
theorem Akh (p:Int×ByteArray×List (List Int)×Unit) (g:List (List Int)) (P:Bool→Prop):(∃(y3:Bool),
 Dt.fn ((p.1,p.2.1,p.2.2.1,()),())=some y3∧
  Br (!y3) (P false)
   (∃(y4:Int),
    Pp.fn (g,())=some y4∧
     ∃(y5:Bool),
      Bc.fn (y4,(1:Int),(5:Int),())=some y5∧
       Br (!y5) (P false)
        (Cc
         (fun (v6:Int×Int×ByteArray×List (List Int)×PUnit) (k7:Int×Int×ByteArray×List (List Int)×PUnit→Prop)=>
          Br (decide (v6.1<(↑g.length:Int)))
           (∃(y8:List Int),
            idx g v6.1=some y8∧
             ∃(y9:Bool),
              Ej.fn (v6.2.1,y8,())=some y9∧
               Br (!y9) (P false)
                (Br (decide (v6.1>(0:Int)))
                 (∃(y10:List Int),
                  idx g (IntKind.i64.wrap (v6.1-(1:Int)))=some y10∧
                   Br (decide ((↑y10.length:Int)≥(↑y8.length:Int))) (P false)
                    (∃(y11:List Int),
                     idx g (IntKind.i64.wrap (v6.1-(1:Int)))=some y11∧
                      ∃(y12:Bool),
                       An5.fn (y11,(y8,()),())=some y12∧Br y12 (P false) (k7 (IntKind.i64.wrap (v6.1+(1:Int)),v6.2.1,v6.2.2.1,v6.2.2.2.1,()))))
                 (k7 (IntKind.i64.wrap (v6.1+(1:Int)),v6.2.1,v6.2.2.1,v6.2.2.2.1,()))))
           (∃(y8:List Int),idx g (IntKind.i64.wrap ((↑g.length:Int)-(1:Int)))=some y8∧ ∃(y9:Int),Ig.fn (y8,())=some y9∧P (y9==v6.2.1)))
         ((0:Int),p.1,p.2.1,p.2.2.1,PUnit.unit))))=fnW tab (look [(124,Dt),(108,Bc),(67,Pp),(55,Ej),(103,An5),(127,Ig)]) Fg Try.f78 (p,g,()) P:=by kernel_rfl
theorem Bbm (n:Int) (s:List Int) (P:Bool→Prop):(Br ((↑s.length:Int)==n) (∃(y3:Bool),Ds.fn (s,())=some y3∧P y3) (P false))=fnW tab (look [(169,Ds)]) Ue Try.f156 (n,s,()) P:=by kernel_rfl
theorem Aki (p:Int×ByteArray×List (List Int)×Unit) (s:List Int) (P:Bool→Prop):(∃(y3:Int),Ig.fn (s,())=some y3∧Br (y3==p.1) (∃(y4:Bool),Ds.fn (s,())=some y4∧P y4) (P false))=fnW tab (look [(127,Ig),(170,Ds)]) My Try.f150 (p,s,()) P:=by kernel_rfl
theorem Alx (p:Int×ByteArray×List (List Int)×Unit) (s:List Int) (P:Bool→Prop):(∃(y3:Bool),Dt.fn ((p.1,p.2.1,p.2.2.1,()),())=some y3∧Br y3 (∃(y4:Bool),Ue.fn (p.1,s,())=some y4∧P y4) (P false))=fnW tab (look [(99,Dt),(156,Ue)]) Qc Try.f118 (p,s,()) P:=by kernel_rfl
theorem Bcb (x:Int) (xs:List Int) (h:short xs):fnW tab (look [(126,Ch)]) Aad Try.f125 (x,xs,()) (fun (z:Bool)=>z=!Bf xs x):=Eq.mp (Bcx x xs _) ⟨_,if_pos h,rfl⟩
theorem At6:Sound Try.prog 125 Aad:=
 Sound.mkS Bp (Ad Ajv As) mixed Try.func125 (by kernel_rfl) (by kernel_rfl) fun x h=>Bcb x.1 x.2.1 h
theorem Ber (xs:List Int) (c:List Int×Unit) (h:short xs∧short c.1):fnW tab (look [(125,Aad)]) Ana Try.f144 (xs,c,()) (fun (z:Int)=>z=Cr (fun y=>!Bf c.1 y) xs 0):=by
 obtain ⟨h,h4⟩:=h
 unfold short at h
 refine Eq.mp (Bf9 xs c _) ?_
 refine Ao xs.length (fun v=>v.1) (fun j _=>Cr (fun y=>!Bf c.1 y) (xs.drop j) j=Cr (fun y=>!Bf c.1 y) xs 0) rfl (by simp) ?_
 rintro j ⟨i,⟨⟩⟩ K hj hi hR hK
 dsimp only at hi⊢
 subst hi
 refine Br.dec (fun hl=>?_) fun hl=>?_
 ·have hl:j<xs.length:=by omega
  rw [List.drop_eq_getElem_cons hl] at hR
  simp only [Cr] at hR
  refine ⟨_,Aq hl,_,if_pos h4,⟨fun he=>?_,fun he=>?_⟩⟩
  ·have he:(!Bf c.1 xs[j])=true:=he
   rw [if_pos he] at hR
   exact hR
  ·have he:(!Bf c.1 xs[j])=false:=he
   rw [if_neg (by rw [he];decide)] at hR
   rw [Ak (by omega)]
   exact hK hl _ rfl (by push_cast;exact hR)
 ·have:j=xs.length:=by omega
  subst this
  rw [List.drop_length] at hR
  exact hR
theorem Ayw:Sound Try.prog 144 Ana:=
 Sound.mkS Bp (Ad At6 As) mixed Try.func144 (by kernel_rfl) (by kernel_rfl) fun x h=>Ber x.1 x.2.1 h
theorem Bel (xs:List Int) (c:List Int×Unit) (h:short xs∧short c.1):fnW tab (look [(144,Ana)]) An5 Try.f103 (xs,c,()) (fun (z:Bool)=>z=List.any xs (fun y=>!Bf c.1 y)):=by
 refine Eq.mp (Bf3 xs c _) ⟨_,if_pos h,?_⟩
 rw [Bool.eq_iff_iff,decide_eq_true_iff]
 exact Rz _ xs 0 (Int.le_refl 0)
theorem Ayr:Sound Try.prog 103 An5:=
 Sound.mkS Bp (Ad Ayw As) mixed Try.func103 (by kernel_rfl) (by kernel_rfl) fun x h=>Bel x.1 x.2.1 h
theorem Bc7 (xs ys:List Int) (h:short xs∧short ys):fnW tab (look [(152,Ch)]) Aaa Try.f123 (xs,ys,()) (fun (z:Bool)=>z=List.all ys (fun y=>Bf xs y)):=by
 obtain ⟨h4,h⟩:=h
 unfold short at h
 refine Eq.mp (Bct xs ys _) ?_
 refine Ao ys.length (fun v=>v.1) (fun j _=> ∀y∈ys.take j,Bf xs y=true) rfl (by simp) ?_
 rintro j ⟨i,⟨⟩⟩ K hj hi hR hK
 dsimp only at hi⊢
 subst hi
 refine Br.dec (fun hl=>?_) fun hl=>?_
 ·have hl:j<ys.length:=by omega
  refine ⟨_,Aq hl,_,if_pos h4,⟨fun he=>?_,fun he=>?_⟩⟩
  ·have he: ¬Bf xs ys[j]=true:=Cb he
   exact (List.all_eq_false.2 ⟨_,List.getElem_mem hl,he⟩).symm
  ·have he:Bf xs ys[j]=true:=Cl he
   rw [Ak (by omega)]
   refine hK hl _ rfl ?_
   rw [List.take_succ_eq_append_getElem hl]
   intro x hx
   rcases List.mem_append.1 hx with hx|hx
   ·exact hR x hx
   ·rw [List.mem_singleton.1 hx];exact he
 ·have:j=ys.length:=by omega
  subst this
  rw [List.take_length] at hR
  exact (List.all_eq_true.2 hR).symm
theorem At3:Sound Try.prog 123 Aaa:=
 Sound.mkS Bp (Ad Si As) mixed Try.func123 (by kernel_rfl) (by kernel_rfl) fun x h=>Bc7 x.1 x.2.1 h
theorem Awo {a b:Int} {P:Prop} (h:P↔a=b):(a==b)=dec P:=by
 by_cases e:a=b
 ·rw [beq_iff_eq.2 e];exact Gm (h.2 e)
 ·rw [beq_eq_false_iff_ne.2 e];exact Ap fun hp=>e (h.1 hp)
theorem Ajb (p:PP) (g:List (List Int)) (h:Dl p∧Ee g):fnW tab (look [(99,Dt),(122,Bc),(100,Ej),(123,Aaa)]) Fg Try.f77 (p,g,()) (fun (z:Bool)=>z=Jg p g):=by
 obtain ⟨hp,hg,h4⟩:=h
 refine Eq.mp (Akk p g _) ⟨_,if_pos hp,⟨fun h1=>?_,fun h1=>⟨_,if_pos trivial,⟨fun h2=>?_,fun h2=>?_⟩⟩⟩⟩
 ·have h1:=Cb h1
  exact Ap fun hh=>h1 hh.1
 ·have h2:=Cb h2
  rw [Bo] at h2
  dsimp only at h2
  exact Ap fun hh=>h2 (by have:=hh.2.1;omega)
 ·have h1:Be p=true:=Cl h1
  have h2:=Cl h2
  rw [Bo] at h2
  dsimp only at h2
  have hv:=Ack h1
  refine Ao g.length (fun v=>v.1) (fun j v=>v.2=(p.1,p.2.1,p.2.2.1,())∧ ∀k,k<j→Au1 p.1 g k) rfl ⟨rfl,fun k hk=>absurd hk (Nat.not_lt_zero _)⟩ ?_
  rintro j ⟨i,v⟩ K hj hi ⟨hv',hR⟩ hK
  dsimp only at hi hv'⊢
  subst hi hv'
  dsimp only
  refine Br.dec (fun hl=>?_) fun hl=>?_
  ·have hl:j<g.length:=by omega
   have hm:=h4 _ (List.getElem_mem hl)
   refine ⟨_,Aq hl,_,if_pos ⟨⟨by dsimp only;omega,by dsimp only;omega⟩,hm⟩,⟨fun hq=>?_,fun hq=>?_⟩⟩
   ·have hq: ¬Ei p.1 g[j]=true:=Cb hq
    exact Ap fun hh=>hq (hh.2.2.1 j hl hl).1
   ·have hq:Ei p.1 g[j]=true:=Cl hq
    refine Br.dec (fun h0=>?_) fun h0=>?_
    ·have h0:0<j:=by omega
     rw [Bu (by omega) (by omega),show (j:Int)-1=((j-1:Nat):Int) by omega]
     have hm':=h4 _ (List.getElem_mem (show j-1<g.length by omega))
     refine ⟨_,Aq hl,_,Aq (by omega),Br.dec (fun hc=>?_) fun hc=>⟨_,Aq hl,_,Aq (by omega),_,if_pos ⟨hm,hm'⟩,⟨fun ha=>?_,fun ha=>?_⟩⟩⟩
     ·exact Ap fun hh=>by have:=((hh.2.2.1 j hl hl).2 h0).1;omega
     ·have ha: ¬List.all g[j-1] (fun y=>Bf g[j] y)=true:=Cb ha
      exact Ap fun hh=>ha (List.all_eq_true.2 fun y hy=>decide_eq_true (((hh.2.2.1 j hl hl).2 h0).2 y hy))
     ·have ha:List.all g[j-1] (fun y=>Bf g[j] y)=true:=Cl ha
      rw [Ak (by omega)]
      refine hK hl _ rfl ⟨rfl,fun k hk=>?_⟩
      by_cases e:k=j
      ·subst e
       exact fun _=>⟨hq,fun _=>⟨by omega,fun y hy=>of_decide_eq_true (List.all_eq_true.1 ha y hy)⟩⟩
      ·exact hR k (by omega)
    ·rw [Ak (by omega)]
     refine hK hl _ rfl ⟨rfl,fun k hk=>?_⟩
     by_cases e:k=j
     ·subst e
      exact fun _=>⟨hq,fun h=>by omega⟩
     ·exact hR k (by omega)
  ·have:j=g.length:=by omega
   subst this
   rw [Bu (by omega) (by omega),show (g.length:Int)-1=((g.length-1:Nat):Int) by omega]
   refine ⟨_,Aq (by omega),Awo ?_⟩
   constructor
   ·rintro ⟨_,_,_,x,hx,hn⟩
    rw [List.getElem?_eq_getElem (by omega)] at hx
    rw [Option.some.inj hx];exact hn
   ·intro hn
    exact ⟨h1,by omega,hR,_,List.getElem?_eq_getElem (by omega),hn⟩
theorem Ach:Sound Try.prog 77 Fg:=
 Sound.mkS Bp (Ad Nf (Ad Nq (Ad Ae8 (Ad At3 As)))) mixed Try.func77 (by kernel_rfl) (by kernel_rfl) fun x h=>Ajb x.1 x.2.1 h
theorem Aj8 (p:PP) (g:List (List Int)) (h:Dl p∧Ee g):fnW tab (look [(124,Dt),(108,Bc),(67,Pp),(55,Ej),(103,An5),(127,Ig)]) Fg Try.f78 (p,g,()) (fun (z:Bool)=>z=Jg p g):=by
 obtain ⟨hp,hg,h4⟩:=h
 refine Eq.mp (Akh p g _) ⟨_,if_pos hp,⟨fun h1=>?_,fun h1=>⟨_,if_pos trivial,_,if_pos trivial,⟨fun h2=>?_,fun h2=>?_⟩⟩⟩⟩
 ·have h1:=Cb h1
  exact Ap fun hh=>h1 hh.1
 ·have h2:=Cb h2
  rw [Bo] at h2
  dsimp only at h2
  exact Ap fun hh=>h2 (by have:=hh.2.1;omega)
 ·have h1:Be p=true:=Cl h1
  have h2:=Cl h2
  rw [Bo] at h2
  dsimp only at h2
  have hv:=Ack h1
  refine Ao g.length (fun v=>v.1) (fun j v=>v.2=(p.1,p.2.1,p.2.2.1,())∧ ∀k,k<j→Au1 p.1 g k) rfl ⟨rfl,fun k hk=>absurd hk (Nat.not_lt_zero _)⟩ ?_
  rintro j ⟨i,v⟩ K hj hi ⟨hv',hR⟩ hK
  dsimp only at hi hv'⊢
  subst hi hv'
  dsimp only
  refine Br.dec (fun hl=>?_) fun hl=>?_
  ·have hl:j<g.length:=by omega
   have hm:=h4 _ (List.getElem_mem hl)
   refine ⟨_,Aq hl,_,if_pos ⟨⟨by dsimp only;omega,by dsimp only;omega⟩,hm⟩,⟨fun hq=>?_,fun hq=>?_⟩⟩
   ·have hq: ¬Ei p.1 g[j]=true:=Cb hq
    exact Ap fun hh=>hq (hh.2.2.1 j hl hl).1
   ·have hq:Ei p.1 g[j]=true:=Cl hq
    refine Br.dec (fun h0=>?_) fun h0=>?_
    ·have h0:0<j:=by omega
     rw [Bu (by omega) (by omega),show (j:Int)-1=((j-1:Nat):Int) by omega]
     have hm':=h4 _ (List.getElem_mem (show j-1<g.length by omega))
     refine ⟨_,Aq (by omega),Br.dec (fun hc=>?_) fun hc=>⟨_,Aq (by omega),_,if_pos ⟨hm',hm⟩,⟨fun ha=>?_,fun ha=>?_⟩⟩⟩
     ·exact Ap fun hh=>by have:=((hh.2.2.1 j hl hl).2 h0).1;omega
     ·have ha:List.any g[j-1] (fun y=>!Bf g[j] y)=true:=ha
      obtain ⟨y,hy,hn⟩:=List.any_eq_true.1 ha
      refine Ap fun hh=>?_
      have:=decide_eq_true (((hh.2.2.1 j hl hl).2 h0).2 y hy)
      have hn:(!decide (y∈g[j]))=true:=hn
      rw [this] at hn;cases hn
     ·have ha:List.any g[j-1] (fun y=>!Bf g[j] y)=false:=ha
      rw [Ak (by omega)]
      refine hK hl _ rfl ⟨rfl,fun k hk=>?_⟩
      by_cases e:k=j
      ·subst e
       refine fun _=>⟨hq,fun _=>⟨by omega,fun y hy=>?_⟩⟩
       have hn:=List.any_eq_false.1 ha y hy
       have hn: ¬(!decide (y∈g[k]))=true:=hn
       simpa using hn
      ·exact hR k (by omega)
    ·rw [Ak (by omega)]
     refine hK hl _ rfl ⟨rfl,fun k hk=>?_⟩
     by_cases e:k=j
     ·subst e
      exact fun _=>⟨hq,fun h=>by omega⟩
     ·exact hR k (by omega)
  ·have:j=g.length:=by omega
   subst this
   rw [Bu (by omega) (by omega),show (g.length:Int)-1=((g.length-1:Nat):Int) by omega]
   refine ⟨_,Aq (by omega),_,if_pos trivial,Awo ?_⟩
   constructor
   ·rintro ⟨_,_,_,x,hx,hn⟩
    rw [List.getElem?_eq_getElem (by omega)] at hx
    rw [Option.some.inj hx];exact hn
   ·intro hn
    exact ⟨h1,by omega,hR,_,List.getElem?_eq_getElem (by omega),hn⟩
theorem Ace:Sound Try.prog 78 Fg:=
 Sound.mkS Bp (Ad Uh (Ad Js (Ad Agp (Ad Ah6 (Ad Ayr (Ad Rf As)))))) mixed Try.func78 (by kernel_rfl) (by kernel_rfl) fun x h=>Aj8 x.1 x.2.1 h
theorem Bar (n:Int) (s:List Int) (h:short s):fnW tab (look [(169,Ds)]) Ue Try.f156 (n,s,()) (fun (z:Bool)=>z=Dn n s):=by
 refine Eq.mp (Bbm n s _) ⟨fun he=>⟨_,if_pos h,?_⟩,fun he=>?_⟩
 ·simp only [beq_iff_eq] at he
  show En s=_
  cases hp:En s with
  |true=>exact Gm ⟨he,hp⟩
  |false=>exact Ap fun hh=>by rw [hh.2] at hp;cases hp
 ·simp only [beq_eq_false_iff_ne,ne_eq] at he
  exact Ap fun hh=>he hh.1
theorem Apm:Sound Try.prog 156 Ue:=
 Sound.mkS Bp (Ad Nd As) mixed Try.func156 (by kernel_rfl) (by kernel_rfl) fun x h=>Bar x.1 x.2.1 h
theorem Aj9 (p:PP) (s:List Int) (h:short s):fnW tab (look [(127,Ig),(170,Ds)]) My Try.f150 (p,s,()) (fun (z:Bool)=>z=Dn p.1 s):=by
 refine Eq.mp (Aki p s _) ⟨_,if_pos trivial,⟨fun he=>⟨_,if_pos h,?_⟩,fun he=>?_⟩⟩
 ·simp only [beq_iff_eq] at he
  show En s=_
  cases hp:En s with
  |true=>exact Gm ⟨he,hp⟩
  |false=>exact Ap fun hh=>by rw [hh.2] at hp;cases hp
 ·simp only [beq_eq_false_iff_ne,ne_eq] at he
  exact Ap fun hh=>he hh.1
theorem Acf:Sound Try.prog 150 My:=
 Sound.mkS Bp (Ad Rf (Ad Ug As)) mixed Try.func150 (by kernel_rfl) (by kernel_rfl) fun x h=>Aj9 x.1 x.2.1 h
theorem Al8 (p:PP) (s:List Int) (h:Dl p∧short s):fnW tab (look [(99,Dt),(156,Ue)]) Qc Try.f118 (p,s,()) (fun (z:Bool)=>z=(Be p&&Dn p.1 s)):=by
 refine Eq.mp (Alx p s _) ⟨_,if_pos h.1,⟨fun he=>⟨_,if_pos h.2,?_⟩,fun he=>?_⟩⟩
 ·have he:Be p=true:=he
  rw [he];rfl
 ·have he:Be p=false:=he
  rw [he];rfl
theorem Aec:Sound Try.prog 118 Qc:=
 Sound.mkS Bp (Ad Nf (Ad Apm As)) mixed Try.func118 (by kernel_rfl) (by kernel_rfl) fun x h=>Al8 x.1 x.2.1 h
end Go.Proofs.Ytebabhocakedaaa

namespace Go.Proofs.Ytebabhocakedaaa
open Go.RowKit
def Gg (xs:List Int) (i:Int):Int:=xs.getD i.toNat 0
def Aa (p q:List Int):List Int:=p.map (Gg q)
def Rr (f:Nat→Nat) (g:Nat→Int) (m:Nat) (init:List Int):List Int:=(List.range m).foldl (fun (out:List Int) (i:Nat)=>out.set (f i) (g i)) init
def Ah (p:List Int):List Int:=Rr (fun i=>(Gg p (i:Int)).toNat) (fun i=>(i:Int)) p.length (List.replicate p.length 0)
def Ho (n:Nat) (p:List Int):Prop:= ∀y∈p,0≤y∧y<n
noncomputable abbrev Px:Spec:=mkS (.pair tL (.pair tL .unit)) tL false true (fun x=>List.length x.1≤20∧Ho (List.length x.2.1) x.1) (fun x=>Aa x.1 x.2.1)
noncomputable abbrev Dr:Spec:=mkS (.pair tL .unit) tL false true (fun x=>List.length x.1≤20∧Ho (List.length x.1) x.1) (fun x=>Ah x.1)
noncomputable abbrev Bt:Spec:=mkS (.pair tI .unit) tL false true (fun x=>0≤x.1∧x.1≤20) (fun x=>upto x.1.toNat)
noncomputable abbrev It:Spec:=mkS (.pair tL .unit) tL false true (fun x=>En x.1=true) (fun x=>Ah x.1)
def Af (g:List (List Int)) (l:Int):List Int:=if l>0 then g.getD (l-1).toNat [] else Ah (g.getD (-l-1).toNat [])
def Gb (n:Int) (l:Int):Prop:=l≠0∧ -n≤l∧l≤n
noncomputable abbrev Mz:Spec:=mkS (.pair tLL (.pair tI .unit)) tL false false (fun x=>Gb (List.length x.1) x.2.1∧List.length x.1≤8∧ ∀p∈x.1,En p=true) (fun x=>Af x.1 x.2.1)
def Bd (n:Nat):List Int:=(List.range n).flatMap fun (k:Nat)=> [(k:Int)+1,-((k:Int)+1)]
noncomputable abbrev Jp:Spec:=mkS (.pair tI .unit) tL false true (fun x=>0≤x.1∧x.1≤8) (fun x=>Bd x.1.toNat)
noncomputable abbrev Uc:Spec:=mkS (.pair Cy (.pair tL (.pair tI .unit))) tL false true (fun x=>Be x.1=true∧List.length x.2.1≤20∧(∀y∈x.2.1,0≤y∧y<x.1.1)∧Gb (List.length x.1.2.2.1) x.2.2.1) (fun x=>Aa x.2.1 (Af x.1.2.2.1 x.2.2.1))
theorem Alr (p q:List Int) (P:List Int→Prop):(((0:Int)≤(↑p.length:Int)∧(↑p.length:Int)<(↑Ax:Int)+(1:Int))∧
 (↑p.length:Int)=(↑p.length:Int)∧
  (0:Nat)=(0:Nat)∧
   (List.replicate (↑p.length:Int).toNat (Int.ofNat (nat_lit 0))).length=(List.replicate (↑p.length:Int).toNat (Int.ofNat (nat_lit 0))).length∧
    Cc
     (fun (v3:Int×List Int×PUnit) (k4:Int×List Int×PUnit→Prop)=>
      Br (decide (v3.1<(↑p.length:Int)))
       (∃(y5:Int),
        idx p v3.1=some y5∧
         ∃(y6:Int),
          idx q y5=some y6∧
           ((0:Int)≤v3.1∧v3.1<(↑v3.2.1.length:Int))∧
            (0:Nat)+v3.1.toNat<v3.2.1.length∧
             (0:Nat)=(0:Nat)∧
              v3.2.1.length=(v3.2.1.set ((0:Nat)+v3.1.toNat) y6).length∧k4 (IntKind.i64.wrap (v3.1+(1:Int)),v3.2.1.set ((0:Nat)+v3.1.toNat) y6,()))
       (P (List.take v3.2.1.length (List.drop (0:Nat) v3.2.1))))
     ((0:Int),List.replicate (↑p.length:Int).toNat (Int.ofNat (nat_lit 0)),PUnit.unit))=fnW tab (look []) Px Try.f131 (p,q,()) P:=by kernel_rfl
theorem Als (p:List Int) (P:List Int→Prop):(((0:Int)≤(↑p.length:Int)∧(↑p.length:Int)<(↑Ax:Int)+(1:Int))∧
 (↑p.length:Int)=(↑p.length:Int)∧
  (0:Nat)=(0:Nat)∧
   (List.replicate (↑p.length:Int).toNat (Int.ofNat (nat_lit 0))).length=(List.replicate (↑p.length:Int).toNat (Int.ofNat (nat_lit 0))).length∧
    Cc
     (fun (v2:Int×List Int×PUnit) (k3:Int×List Int×PUnit→Prop)=>
      Br (decide (v2.1<(↑p.length:Int)))
       (∃(y4:Int),
        idx p v2.1=some y4∧
         ((0:Int)≤y4∧y4<(↑v2.2.1.length:Int))∧
          (0:Nat)+y4.toNat<v2.2.1.length∧
           (0:Nat)=(0:Nat)∧
            v2.2.1.length=(v2.2.1.set ((0:Nat)+y4.toNat) v2.1).length∧k3 (IntKind.i64.wrap (v2.1+(1:Int)),v2.2.1.set ((0:Nat)+y4.toNat) v2.1,()))
       (P (List.take v2.2.1.length (List.drop (0:Nat) v2.2.1))))
     ((0:Int),List.replicate (↑p.length:Int).toNat (Int.ofNat (nat_lit 0)),PUnit.unit))=fnW tab (look []) Dr Try.f165 (p,()) P:=by kernel_rfl
theorem Azg (p:List Int) (P:List Int→Prop):(((0:Int)≤(↑p.length:Int)∧(↑p.length:Int)<(↑Ax:Int)+(1:Int))∧
 (↑p.length:Int)=(↑p.length:Int)∧
  (0:Nat)=(0:Nat)∧
   (List.replicate (↑p.length:Int).toNat (Int.ofNat (nat_lit 0))).length=(List.replicate (↑p.length:Int).toNat (Int.ofNat (nat_lit 0))).length∧
    Cc
     (fun (v2:Int×List Int×PUnit) (k3:Int×List Int×PUnit→Prop)=>
      Br (decide (v2.1<(↑p.length:Int)))
       (∃(y4:Int),
        idx p v2.1=some y4∧
         ((0:Int)≤y4∧y4<(↑v2.2.1.length:Int))∧
          (0:Nat)+y4.toNat<v2.2.1.length∧
           (0:Nat)=(0:Nat)∧
            v2.2.1.length=(v2.2.1.set ((0:Nat)+y4.toNat) v2.1).length∧k3 (IntKind.i64.wrap (v2.1+(1:Int)),v2.2.1.set ((0:Nat)+y4.toNat) v2.1,()))
       (P (List.take v2.2.1.length (List.drop (0:Nat) v2.2.1))))
     ((0:Int),List.replicate (↑p.length:Int).toNat (Int.ofNat (nat_lit 0)),PUnit.unit))=fnW tab (look []) Dr Try.f175 (p,()) P:=by kernel_rfl
theorem Alw (p:List Int) (P:List Int→Prop):(∃(y2:Bool),Ds.fn (p,())=some y2∧Br (!y2) (P (List.take (0:Nat) (List.drop (0:Nat) []))) (∃(y3:List Int),Dr.fn (p,())=some y3∧P y3))=fnW tab (look [(169,Ds),(175,Dr)]) It Try.f160 (p,()) P:=by kernel_rfl
theorem Awd (n:Int) (P:List Int→Prop):((0:Nat)=(0:Nat)∧
 (0:Nat)=([]:List Int).length∧
  Cc
   (fun (v2:Int×List Int×PUnit) (k3:Int×List Int×PUnit→Prop)=>
    Br (decide (v2.1<n))
     ((0:Nat)=(0:Nat)∧
      v2.2.1.length=v2.2.1.length∧
       v2.2.1.length+(List.take (1:Nat) (List.drop (0:Nat) [v2.1])).length≤Ax∧
        (0:Nat)=(0:Nat)∧
         (v2.2.1++List.take (1:Nat) (List.drop (0:Nat) [v2.1])).length=(v2.2.1++List.take (1:Nat) (List.drop (0:Nat) [v2.1])).length∧
          k3 (IntKind.i64.wrap (v2.1+(1:Int)),v2.2.1++List.take (1:Nat) (List.drop (0:Nat) [v2.1]),()))
     (P (List.take v2.2.1.length (List.drop (0:Nat) v2.2.1))))
   ((0:Int),[],PUnit.unit))=fnW tab (look []) Bt Try.f106 (n,()) P:=by kernel_rfl
theorem Awe (g:List (List Int)) (l:Int) (P:List Int→Prop):(Br (decide (l>(0:Int))) (∃(y3:List Int),idx g (IntKind.i64.wrap (l-(1:Int)))=some y3∧P y3)
 (∃(y3:List Int),idx g (IntKind.i64.wrap (IntKind.i64.wrap ((0:Int)-l)-(1:Int)))=some y3∧ ∃(y4:List Int),Dr.fn (y3,())=some y4∧P y4))=fnW tab (look [(165,Dr)]) Mz Try.f155 (g,l,()) P:=by kernel_rfl
theorem Aze (n:Int) (P:List Int→Prop):((0:Nat)=(0:Nat)∧
 (0:Nat)=([]:List Int).length∧
  Cc
   (fun (v2:Int×List Int×PUnit) (k3:Int×List Int×PUnit→Prop)=>
    Br (decide (v2.1<n))
     ((0:Nat)=(0:Nat)∧
      v2.2.1.length=v2.2.1.length∧
       v2.2.1.length+(List.take (2:Nat) (List.drop (0:Nat) [IntKind.i64.wrap (v2.1+(1:Int)),IntKind.i64.wrap ((0:Int)-IntKind.i64.wrap (v2.1+(1:Int)))])).length≤
         Ax∧
        (0:Nat)=(0:Nat)∧
         (v2.2.1++List.take (2:Nat) (List.drop (0:Nat) [IntKind.i64.wrap (v2.1+(1:Int)),IntKind.i64.wrap ((0:Int)-IntKind.i64.wrap (v2.1+(1:Int)))])).length=
           (v2.2.1++List.take (2:Nat) (List.drop (0:Nat) [IntKind.i64.wrap (v2.1+(1:Int)),IntKind.i64.wrap ((0:Int)-IntKind.i64.wrap (v2.1+(1:Int)))])).length∧
          k3
           (IntKind.i64.wrap (v2.1+(1:Int)),
            v2.2.1++List.take (2:Nat) (List.drop (0:Nat) [IntKind.i64.wrap (v2.1+(1:Int)),IntKind.i64.wrap ((0:Int)-IntKind.i64.wrap (v2.1+(1:Int)))]),()))
     (P (List.take v2.2.1.length (List.drop (0:Nat) v2.2.1))))
   ((0:Int),[],PUnit.unit))=fnW tab (look []) Jp Try.f112 (n,()) P:=by kernel_rfl
theorem Bbk (p:Int×ByteArray×List (List Int)×Unit) (s:List Int) (l:Int) (P:List Int→Prop):(∃(y4:List Int),
 idx p.2.2.1
    (IntKind.i64.wrap
     ((if true=true then if IntKind.i64.wrap ((0:Int)-l)>l then IntKind.i64.wrap ((0:Int)-l) else l
      else if IntKind.i64.wrap ((0:Int)-l)<l then IntKind.i64.wrap ((0:Int)-l) else l)-
      (1:Int)))=
   some y4∧
  Br (decide (l<(0:Int)))
   (∃(y5:List Int),
    It.fn (y4,())=some y5∧
     (0:Nat)=(0:Nat)∧
      (0:Nat)=([]:List Int).length∧
       Cc
        (fun (v6:Int×List Int×PUnit) (k7:Int×List Int×PUnit→Prop)=>
         Br (decide (v6.1<(↑s.length:Int)))
          (∃(y8:Int),
           idx s v6.1=some y8∧
            ∃(y9:Int),
             idx y5 y8=some y9∧
              (0:Nat)=(0:Nat)∧
               v6.2.1.length=v6.2.1.length∧
                v6.2.1.length+(List.take (1:Nat) (List.drop (0:Nat) [y9])).length≤Ax∧
                 (0:Nat)=(0:Nat)∧
                  (v6.2.1++List.take (1:Nat) (List.drop (0:Nat) [y9])).length=(v6.2.1++List.take (1:Nat) (List.drop (0:Nat) [y9])).length∧
                   k7 (IntKind.i64.wrap (v6.1+(1:Int)),v6.2.1++List.take (1:Nat) (List.drop (0:Nat) [y9]),()))
          (P (List.take v6.2.1.length (List.drop (0:Nat) v6.2.1))))
        ((0:Int),[],PUnit.unit))
   ((0:Nat)=(0:Nat)∧
    (0:Nat)=([]:List Int).length∧
     Cc
      (fun (v5:Int×List Int×PUnit) (k6:Int×List Int×PUnit→Prop)=>
       Br (decide (v5.1<(↑s.length:Int)))
        (∃(y7:Int),
         idx s v5.1=some y7∧
          ∃(y8:Int),
           idx y4 y7=some y8∧
            (0:Nat)=(0:Nat)∧
             v5.2.1.length=v5.2.1.length∧
              v5.2.1.length+(List.take (1:Nat) (List.drop (0:Nat) [y8])).length≤Ax∧
               (0:Nat)=(0:Nat)∧
                (v5.2.1++List.take (1:Nat) (List.drop (0:Nat) [y8])).length=(v5.2.1++List.take (1:Nat) (List.drop (0:Nat) [y8])).length∧
                 k6 (IntKind.i64.wrap (v5.1+(1:Int)),v5.2.1++List.take (1:Nat) (List.drop (0:Nat) [y8]),()))
        (P (List.take v5.2.1.length (List.drop (0:Nat) v5.2.1))))
      ((0:Int),[],PUnit.unit)))=fnW tab (look [(160,It)]) Uc Try.f129 (p,s,l,()) P:=by kernel_rfl
theorem Gp {xs:List Int} {i:Nat} (h:i<xs.length):Gg xs (i:Int)=xs[i]:=by
 unfold Gg
 rw [Int.toNat_natCast,List.getD_eq_getElem?_getD,List.getElem?_eq_getElem h];rfl
theorem Ari {xs:List Int} {y:Int} (h0:0≤y) (h:y<xs.length):idx xs y=some (Gg xs y):=by
 have hy:y.toNat<xs.length:=by omega
 have e:y=(y.toNat:Int):=by omega
 rw [e,Aq hy,Gp hy]
theorem Ph (f:Nat→Nat) (g:Nat→Int) (m:Nat) (init:List Int):Rr f g (m+1) init=(Rr f g m init).set (f m) (g m):=by simp [Rr,List.range_succ]
theorem Rt (f:Nat→Nat) (g:Nat→Int) (m:Nat) (init:List Int):(Rr f g m init).length=init.length:=by
 induction m with
 |zero=>rfl
 |succ m ih=>rw [Ph,List.length_set,ih]
theorem Ag2 (f:Nat→Nat) (g:Nat→Int) (init:List Int): ∀(m:Nat),(∀i j,i<m→j<m→f i=f j→i=j)→ ∀i,i<m→f i<init.length→(Rr f g m init)[f i]?=some (g i)
 |0,_,i,h,_=>absurd h (Nat.not_lt_zero _)
 |m+1,hf,i,hi,hl=>by
  rw [Ph]
  by_cases e:i=m
  ·subst e
   exact List.getElem?_set_self (by rw [Rt];exact hl)
  ·rw [List.getElem?_set_ne (fun h=>e (hf i m hi (by omega) h.symm))]
   exact Ag2 f g init m (fun a b ha hb=>hf a b (by omega) (by omega)) i (by omega) hl
structure Qg (p:List Int):Prop where
 pos:1≤p.length
 len:p.length≤20
 row:Ho p.length p
 nodup:p.Nodup
theorem Aff {p:List Int} (h:En p=true):Qg p:=by
 obtain ⟨h1,h2,h3⟩:=Em.1 h
 refine ⟨h1,h2,fun y hy=>?_,Yq fun j hj=>(h3 j hj hj).2.2⟩
 obtain ⟨j,hj,rfl⟩:=List.mem_iff_getElem.1 hy
 have:=h3 j hj hj
 omega
theorem Qg.inj {p:List Int} (h:Qg p) (i j:Nat) (hi:i<p.length) (hj:j<p.length) (e:(Gg p (i:Int)).toNat=(Gg p (j:Int)).toNat):i=j:=by
 rw [Gp hi,Gp hj] at e
 have h1:=h.row _ (List.getElem_mem hi)
 have h2:=h.row _ (List.getElem_mem hj)
 have e:p[i]=p[j]:=by omega
 refine Classical.byContradiction fun hne=>?_
 rcases Nat.lt_or_gt_of_ne hne with hl|hl
 ·exact List.pairwise_iff_getElem.1 h.nodup i j hi hj hl e
 ·exact List.pairwise_iff_getElem.1 h.nodup j i hj hi hl e.symm
theorem Qg.Bam {p:List Int} (h:Qg p) (k:Nat) (hk:k<p.length): ∃i,i<p.length∧(Gg p (i:Int)).toNat=k:=by
 have hm:=(Sq (xs:=p) h.row).2 (Akd h.nodup) k hk
 obtain ⟨i,hi,e⟩:=List.mem_iff_getElem.1 hm
 exact ⟨i,hi,by rw [Gp hi,e];exact Int.toNat_natCast k⟩
theorem Qg.lt {p:List Int} (h:Qg p) {i:Nat} (hi:i<p.length):(Gg p (i:Int)).toNat<p.length:=by
 rw [Gp hi]
 have:=h.row _ (List.getElem_mem hi)
 omega
theorem Ahj (p:List Int):(Ah p).length=p.length:=by unfold Ah;rw [Rt,List.length_replicate]
theorem Ba7 {p:List Int} (h:Qg p) {i:Nat} (hi:i<p.length):(Ah p)[(Gg p (i:Int)).toNat]?=some (i:Int):=
 Ag2 (fun i=>(Gg p (i:Int)).toNat) (fun i=>(i:Int)) _ p.length (fun i j hi hj=>h.inj i j hi hj) i hi (by rw [List.length_replicate];exact h.lt hi)
theorem Bc1 {p:List Int} (h:Qg p):Ho p.length (Ah p):=by
 intro y hy
 obtain ⟨k,hk,rfl⟩:=List.mem_iff_getElem.1 hy
 have hk':k<p.length:=by rw [Ahj] at hk;exact hk
 obtain ⟨i,hi,rfl⟩:=h.Bam k hk'
 have:=Ba7 h hi
 rw [List.getElem?_eq_getElem hk] at this
 rw [Option.some.inj this]
 omega
theorem Ro (p q:List Int):(Aa p q).length=p.length:=by simp [Aa]
theorem Aqy {p q:List Int} {n:Nat} (hp:Ho q.length p) (hq:Ho n q):Ho n (Aa p q):=by
 intro y hy
 obtain ⟨x,hx,rfl⟩:=List.mem_map.1 hy
 have h1:=hp x hx
 rw [show x=(x.toNat:Int) by omega,Gp (by omega)]
 exact hq _ (List.getElem_mem _)
theorem Al3 (p q:List Int) (h:p.length≤20∧Ho q.length p):fnW tab (look []) Px Try.f131 (p,q,()) (fun (z:List Int)=>z=Aa p q):=by
 obtain ⟨h,hr⟩:=h
 refine Eq.mp (Alr p q _) ?_
 refine ⟨⟨by omega,by show (p.length:Int)<(4294967296:Int)+1;omega⟩,rfl,rfl,rfl,?_⟩
 have hcl:=Ro p q
 refine Ao p.length (fun v=>v.1) (fun j v=>v.2.1.length=(Aa p q).length∧v.2.1.take j=(Aa p q).take j) rfl ⟨by rw [hcl];simp,by simp⟩ ?_
 rintro j ⟨i,ys,⟨⟩⟩ K hj hi ⟨h1,h2⟩ hK
 dsimp only at hi h1 h2⊢
 subst hi
 refine Br.dec (fun hl=>?_) fun hl=>?_
 ·have hl:j<p.length:=by omega
  have hy:=hr _ (List.getElem_mem hl)
  refine ⟨_,Aq hl,_,Ari hy.1 hy.2,⟨by omega,by omega⟩,by rw [Int.toNat_natCast];omega,rfl,by rw [List.length_set],?_⟩
  rw [Ak (by omega),Int.toNat_natCast,Nat.zero_add]
  have hl':j<(Aa p q).length:=by rw [hcl];exact hl
  have e:Gg q p[j]=(Aa p q)[j]:=by simp [Aa]
  rw [e]
  exact hK hl _ rfl ⟨by rw [List.length_set];exact h1,Nr hl' h1 h2⟩
 ·have:j=p.length:=by omega
  subst this
  rw [←hcl,List.take_length,←h1,List.take_length] at h2
  rw [List.drop_zero,List.take_length]
  exact h2
theorem Mb:Sound Try.prog 131 Px:=
 Sound.mkS Bp As mixed Try.func131 (by kernel_rfl) (by kernel_rfl) fun x h=>Al3 x.1 x.2.1 h
theorem Al4 (p:List Int) (h:p.length≤20∧Ho p.length p):fnW tab (look []) Dr Try.f165 (p,()) (fun (z:List Int)=>z=Ah p):=by
 obtain ⟨h,hr⟩:=h
 refine Eq.mp (Als p _) ?_
 refine ⟨⟨by omega,by show (p.length:Int)<(4294967296:Int)+1;omega⟩,rfl,rfl,rfl,?_⟩
 refine Ao p.length (fun v=>v.1) (fun j v=>v.2.1=Rr (fun i=>(Gg p (i:Int)).toNat) (fun i=>(i:Int)) j (List.replicate p.length 0)) rfl rfl ?_
 rintro j ⟨i,ys,⟨⟩⟩ K hj hi h1 hK
 dsimp only at hi h1⊢
 subst hi
 have hlen:ys.length=p.length:=by rw [h1,Rt,List.length_replicate]
 refine Br.dec (fun hl=>?_) fun hl=>?_
 ·have hl:j<p.length:=by omega
  have hy:=hr _ (List.getElem_mem hl)
  refine ⟨_,Aq hl,⟨by omega,by omega⟩,by omega,rfl,by rw [List.length_set],?_⟩
  rw [Ak (by omega),Nat.zero_add]
  refine hK hl _ rfl ?_
  rw [Ph,←h1,Gp hl]
 ·have:j=p.length:=by omega
  subst this
  rw [List.drop_zero,List.take_length]
  exact h1
theorem Mc:Sound Try.prog 165 Dr:=
 Sound.mkS Bp As mixed Try.func165 (by kernel_rfl) (by kernel_rfl) fun x h=>Al4 x.1 h
theorem Aye (p:List Int) (h:p.length≤20∧Ho p.length p):fnW tab (look []) Dr Try.f175 (p,()) (fun (z:List Int)=>z=Ah p):=by
 obtain ⟨h,hr⟩:=h
 refine Eq.mp (Azg p _) ?_
 refine ⟨⟨by omega,by show (p.length:Int)<(4294967296:Int)+1;omega⟩,rfl,rfl,rfl,?_⟩
 refine Ao p.length (fun v=>v.1) (fun j v=>v.2.1=Rr (fun i=>(Gg p (i:Int)).toNat) (fun i=>(i:Int)) j (List.replicate p.length 0)) rfl rfl ?_
 rintro j ⟨i,ys,⟨⟩⟩ K hj hi h1 hK
 dsimp only at hi h1⊢
 subst hi
 have hlen:ys.length=p.length:=by rw [h1,Rt,List.length_replicate]
 refine Br.dec (fun hl=>?_) fun hl=>?_
 ·have hl:j<p.length:=by omega
  have hy:=hr _ (List.getElem_mem hl)
  refine ⟨_,Aq hl,⟨by omega,by omega⟩,by omega,rfl,by rw [List.length_set],?_⟩
  rw [Ak (by omega),Nat.zero_add]
  refine hK hl _ rfl ?_
  rw [Ph,←h1,Gp hl]
 ·have:j=p.length:=by omega
  subst this
  rw [List.drop_zero,List.take_length]
  exact h1
theorem All:Sound Try.prog 175 Dr:=
 Sound.mkS Bp As mixed Try.func175 (by kernel_rfl) (by kernel_rfl) fun x h=>Aye x.1 h
theorem Al7 (p:List Int) (h:En p=true):fnW tab (look [(169,Ds),(175,Dr)]) It Try.f160 (p,()) (fun (z:List Int)=>z=Ah p):=by
 have hp:=Aff h
 have hs:short p:=by have:=hp.len;unfold short;omega
 refine Eq.mp (Alw p _) ⟨_,if_pos hs,⟨fun he=>?_,fun _=>⟨_,if_pos ⟨hp.len,hp.row⟩,rfl⟩⟩⟩
 exact absurd h (Cb he)
theorem Aeb:Sound Try.prog 160 It:=
 Sound.mkS Bp (Ad Nd (Ad All As)) mixed Try.func160 (by kernel_rfl) (by kernel_rfl) fun x h=>Al7 x.1 h
theorem Uj (j:Nat):upto (j+1)=upto j++ [(j:Int)]:=by simp [upto,List.range_succ]
theorem Ave (n:Int) (h:0≤n∧n≤20):fnW tab (look []) Bt Try.f106 (n,()) (fun (z:List Int)=>z=upto n.toNat):=by
 refine Eq.mp (Awd n _) ⟨rfl,rfl,?_⟩
 refine Ao n.toNat (fun v=>v.1) (fun j v=>v.2.1=upto j) rfl rfl ?_
 rintro j ⟨i,ys,⟨⟩⟩ K hj hi h1 hK
 dsimp only at hi h1⊢
 subst hi h1
 refine Br.dec (fun hl=>?_) fun hl=>?_
 ·refine ⟨rfl,rfl,?_,rfl,rfl,?_⟩
  ·show (upto j).length+1≤4294967296
   rw [Ri];omega
  ·rw [Ak (by omega)]
   exact hK (by omega) _ rfl (Uj j).symm
 ·have:j=n.toNat:=by omega
  subst this
  rw [List.drop_zero,List.take_length]
theorem Ajy:Sound Try.prog 106 Bt:=
 Sound.mkS Bp As mixed Try.func106 (by kernel_rfl) (by kernel_rfl) fun x h=>Ave x.1 h
theorem Qv {g:List (List Int)} {k:Nat} (h:k<g.length):Af g ((k:Int)+1)=g[k]:=by
 unfold Af
 rw [if_pos (by omega),show ((k:Int)+1-1).toNat=k by omega,List.getD_eq_getElem?_getD,List.getElem?_eq_getElem h];rfl
theorem Qu {g:List (List Int)} {k:Nat} (h:k<g.length):Af g (-((k:Int)+1))=Ah g[k]:=by
 unfold Af
 rw [if_neg (by omega),show (-(-((k:Int)+1))-1).toNat=k by omega,List.getD_eq_getElem?_getD,List.getElem?_eq_getElem h];rfl
theorem Pl {n:Nat} {l:Int} (h:Gb n l): ∃k:Nat,k<n∧(l=(k:Int)+1∨l= -((k:Int)+1)):=by
 obtain ⟨h1,h2,h3⟩:=h
 by_cases h0:0<l
 ·exact ⟨(l-1).toNat,by omega, .inl (by omega)⟩
 ·exact ⟨(-l-1).toNat,by omega, .inr (by omega)⟩
theorem Avf (g:List (List Int)) (l:Int) (h:Gb (List.length g) l∧List.length g≤8∧ ∀p∈g,En p=true):fnW tab (look [(165,Dr)]) Mz Try.f155 (g,l,()) (fun (z:List Int)=>z=Af g l):=by
 obtain ⟨hl,h8,hp⟩:=h
 refine Eq.mp (Awe g l _) ?_
 obtain ⟨k,hk,rfl|rfl⟩:=Pl hl
 ·refine Br.dec (fun _=>?_) fun hn=>by omega
  rw [Bu (by omega) (by omega),show (k:Int)+1-1=(k:Int) by omega]
  exact ⟨_,Aq hk,(Qv hk).symm⟩
 ·refine Br.dec (fun hn=>by omega) fun _=>?_
  rw [Bu (n:=0- -((k:Int)+1)) (by omega) (by omega),Bu (by omega) (by omega),show (0:Int)- -((k:Int)+1)-1=(k:Int) by omega]
  have:=Aff (hp _ (List.getElem_mem hk))
  exact ⟨_,Aq hk,_,if_pos ⟨this.len,this.row⟩,(Qu hk).symm⟩
theorem Ajz:Sound Try.prog 155 Mz:=
 Sound.mkS Bp (Ad Mc As) mixed Try.func155 (by kernel_rfl) (by kernel_rfl) fun x h=>Avf x.1 x.2.1 h
theorem Qx (j:Nat):Bd (j+1)=Bd j++ [(j:Int)+1,-((j:Int)+1)]:=by simp [Bd,List.range_succ,List.flatMap_append]
theorem Kk (j:Nat):(Bd j).length=2*j:=by
 induction j with
 |zero=>rfl
 |succ j ih=>rw [Qx,List.length_append,ih];simp only [List.length_cons,List.length_nil];omega
theorem Lf {n:Nat} {l:Int} (h:l∈Bd n):Gb n l:=by
 unfold Bd at h
 obtain ⟨k,hk,hl⟩:=List.mem_flatMap.1 h
 have hk:=List.mem_range.1 hk
 simp only [List.mem_cons,List.not_mem_nil,or_false] at hl
 unfold Gb
 omega
theorem Ayc (n:Int) (h:0≤n∧n≤8):fnW tab (look []) Jp Try.f112 (n,()) (fun (z:List Int)=>z=Bd n.toNat):=by
 refine Eq.mp (Aze n _) ⟨rfl,rfl,?_⟩
 refine Ao n.toNat (fun v=>v.1) (fun j v=>v.2.1=Bd j) rfl rfl ?_
 rintro j ⟨i,ys,⟨⟩⟩ K hj hi h1 hK
 dsimp only at hi h1⊢
 subst hi h1
 refine Br.dec (fun hl=>?_) fun hl=>?_
 ·refine ⟨rfl,rfl,?_,rfl,rfl,?_⟩
  ·show (Bd j).length+2≤4294967296
   rw [Kk];omega
  ·have e1:IntKind.i64.wrap ((j:Int)+1)=(j:Int)+1:=Bu (by omega) (by omega)
   have e2:IntKind.i64.wrap ((0:Int)-((j:Int)+1))= -((j:Int)+1):=by rw [Bu (by omega) (by omega)];omega
   rw [e1,e2]
   exact hK (by omega) _ rfl (Qx j).symm
 ·have:j=n.toNat:=by omega
  subst this
  rw [List.drop_zero,List.take_length]
theorem Ab3:Sound Try.prog 112 Jp:=
 Sound.mkS Bp As mixed Try.func112 (by kernel_rfl) (by kernel_rfl) fun x h=>Ayc x.1 h
structure Valid (p:PP):Prop where
 n:1≤p.1∧p.1≤20
 few:1≤p.2.2.1.length∧p.2.2.1.length≤8
 perm: ∀m∈p.2.2.1,En m=true
 len: ∀m∈p.2.2.1,(m.length:Int)=p.1
theorem valid {p:PP} (h:Be p=true):Valid p:=by
 have h0:=Ack h
 obtain ⟨h1,_,_⟩:=Em.1 h
 obtain ⟨_,_,h4⟩:=Em.1 h1
 exact ⟨⟨h0.1,h0.2.1⟩,h0.2.2,fun m hm=>(Em.1 (h4 m hm)).2,fun m hm=>(Em.1 (h4 m hm)).1⟩
theorem Af2 {p:PP} (h:Valid p) {l:Int} (hl:Gb (List.length p.2.2.1) l):((Af p.2.2.1 l).length:Int)=p.1∧Ho (Af p.2.2.1 l).length (Af p.2.2.1 l):=by
 obtain ⟨k,hk,rfl|rfl⟩:=Pl hl
 ·rw [Qv hk]
  exact ⟨h.len _ (List.getElem_mem hk),(Aff (h.perm _ (List.getElem_mem hk))).row⟩
 ·rw [Qu hk,Ahj]
  exact ⟨h.len _ (List.getElem_mem hk),Bc1 (Aff (h.perm _ (List.getElem_mem hk)))⟩
theorem Aqj (s y:List Int) (P:List Int→Prop) (h1:s.length≤20) (h2:Ho y.length s) (h3:P (Aa s y)):
  Cc
   (fun (v5:Int×List Int×PUnit) (k6:Int×List Int×PUnit→Prop)=>
    Br (decide (v5.1<(↑s.length:Int)))
     (∃(y7:Int),
      idx s v5.1=some y7∧
       ∃(y8:Int),
        idx y y7=some y8∧
         (0:Nat)=(0:Nat)∧
          v5.2.1.length=v5.2.1.length∧
           v5.2.1.length+(List.take (1:Nat) (List.drop (0:Nat) [y8])).length≤Ax∧
            (0:Nat)=(0:Nat)∧
             (v5.2.1++List.take (1:Nat) (List.drop (0:Nat) [y8])).length=(v5.2.1++List.take (1:Nat) (List.drop (0:Nat) [y8])).length∧
              k6 (IntKind.i64.wrap (v5.1+(1:Int)),v5.2.1++List.take (1:Nat) (List.drop (0:Nat) [y8]),()))
     (P (List.take v5.2.1.length (List.drop (0:Nat) v5.2.1))))
   ((0:Int),([]:List Int),PUnit.unit):=by
 refine Ao s.length (fun v=>v.1) (fun j v=>v.2.1=(s.take j).map (Gg y)) rfl (by simp) ?_
 rintro j ⟨i,ys,⟨⟩⟩ K hj hi hR hK
 dsimp only at hi hR⊢
 subst hi hR
 refine Br.dec (fun hl=>?_) fun hl=>?_
 ·have hl:j<s.length:=by omega
  have hy:=h2 _ (List.getElem_mem hl)
  refine ⟨_,Aq hl,_,Ari hy.1 hy.2,rfl,rfl,?_,rfl,rfl,?_⟩
  ·show ((s.take j).map (Gg y)).length+1≤4294967296
   rw [List.length_map,List.length_take];omega
  ·rw [Ak (by omega)]
   refine hK hl _ rfl ?_
   dsimp only
   rw [List.take_succ_eq_append_getElem hl,List.map_append]
   rfl
 ·have:j=s.length:=by omega
  subst this
  rw [List.drop_zero,List.take_length,List.take_length]
  exact h3
theorem Bap (p:PP) (s:List Int) (l:Int) (h:Be p=true∧List.length s≤20∧(∀y∈s,0≤y∧y<p.1)∧Gb (List.length p.2.2.1) l):fnW tab (look [(160,It)]) Uc Try.f129 (p,s,l,()) (fun (z:List Int)=>z=Aa s (Af p.2.2.1 l)):=by
 obtain ⟨hv,hs,hr,hl⟩:=h
 have hv:=valid hv
 have hf:=hv.few
 refine Eq.mp (Bbk p s l _) ?_
 have hlo:=Af2 hv hl
 have hrow:Ho (Af p.2.2.1 l).length s:=fun y hy=>by have:=hr y hy;omega
 obtain ⟨k,hk,rfl|rfl⟩:=Pl hl
 ·rw [if_pos rfl,Bu (n:=0-((k:Int)+1)) (by omega) (by omega),if_neg (by omega),Bu (by omega) (by omega),show (k:Int)+1-1=(k:Int) by omega]
  refine ⟨_,Aq hk,Br.dec (fun hn=>by omega) fun _=>⟨rfl,rfl,?_⟩⟩
  rw [Qv hk] at hrow⊢
  exact Aqj s _ (fun z=>z=Aa s p.2.2.1[k]) hs hrow rfl
 ·rw [if_pos rfl,Bu (n:=0- -((k:Int)+1)) (by omega) (by omega),if_pos (by omega),Bu (by omega) (by omega),show (0:Int)- -((k:Int)+1)-1=(k:Int) by omega]
  refine ⟨_,Aq hk,Br.dec (fun _=>⟨_,if_pos (hv.perm _ (List.getElem_mem hk)),rfl,rfl,?_⟩) fun hn=>by omega⟩
  rw [Qu hk] at hrow⊢
  exact Aqj s (Ah p.2.2.1[k]) (fun z=>z=Aa s (Ah p.2.2.1[k])) hs hrow rfl
theorem Apk:Sound Try.prog 129 Uc:=
 Sound.mkS Bp (Ad Aeb As) mixed Try.func129 (by kernel_rfl) (by kernel_rfl) fun x h=>Bap x.1 x.2.1 x.2.2.1 h
end Go.Proofs.Ytebabhocakedaaa

namespace Go.Proofs.Ytebabhocakedaaa
open Go.RowKit
abbrev rL:CK:= .row tI 2
def Ja:List (List Int)→Nat
 | []=>0
 |r::rs=>r.length+Ja rs
def low (k:Int):Prop:=0≤k∧k≤1099511627776
theorem Db {α:Type} (xs:List α):List.take xs.length (List.drop 0 xs)=xs:=by rw [List.drop_zero,List.take_length]
end Go.Proofs.Ytebabhocakedaaa

namespace Go.Proofs.Ytebabhocakedaaa
open Go.RowKit
theorem Af3 (a:List Int):Gt a a=true:=by simp [Gt]
theorem Bb9 {n:Nat} {room:Int} (h: ¬Af4 n room<0):Af4 n room=room-n∧(n:Int)≤room:=by
 unfold Af4 at*
 split at h
 ·exact absurd (show (-1:Int)<0 by decide) h
 ·rename_i h1;rw [if_neg h1];exact ⟨rfl,by omega⟩
theorem Atc: ∀(xs:List (List Int)) (room:Int),0≤room→ ¬Akb xs room<0→Akb xs room=room-Ja xs
 | [],room,_,_=>by simp [Akb,Ja]
 |r::xs,room,h0,h=>by
  simp only [Akb,Ja] at h⊢
  split at h
  ·exact absurd (show (-1:Int)<0 by decide) h
  ·rename_i h1
   rw [if_neg h1]
   have e1:=Bb9 (n:=r.length) h1
   have e1:Adt r room=room-r.length∧(r.length:Int)≤room:=e1
   rw [Atc xs _ (by rw [e1.1];omega) h,e1.1]
   omega
theorem Atd {xs:List (List Int)} {room:Int} (h: ¬Hp xs room<0):Hp xs room=room-xs.length-Ja xs:=by
 unfold Hp at*
 split at h
 ·exact absurd (show (-1:Int)<0 by decide) h
 ·rename_i h1
  rw [if_neg h1]
  have e1:=Bb9 h1
  rw [Atc xs _ (by rw [e1.1];omega) h,e1.1]
end Go.Proofs.Ytebabhocakedaaa

namespace Go.Proofs.Ytebabhocakedaaa
open Go.RowKit
noncomputable abbrev Mx:Spec:=mkS (.pair tL .unit) tL false true (fun x=>short x.1) (fun x=>x.1)
theorem Awc (xs:List Int) (P:List Int→Prop):((0:Nat)=(0:Nat)∧(0:Nat)=([]:List Int).length∧(0:Nat)+xs.length≤Ax∧P (List.take ([]++xs).length (List.drop (0:Nat) ([]++xs))))=fnW tab (look []) Mx Try.f120 (xs,()) P:=by kernel_rfl
theorem Avd (xs:List Int) (h:short xs):fnW tab (look []) Mx Try.f120 (xs,()) (fun (z:List Int)=>z=xs):=by
 unfold short at h
 refine Eq.mp (Awc xs _) ⟨rfl,rfl,by show 0+xs.length≤4294967296;omega,?_⟩
 simp only [Db,List.nil_append]
theorem Ajw:Sound Try.prog 120 Mx:=
 Sound.mkS Bp As mixed Try.func120 (by kernel_rfl) (by kernel_rfl) fun x h=>Avd x.1 h
end Go.Proofs.Ytebabhocakedaaa

namespace Go.Proofs.Ytebabhocakedaaa
open Go.RowKit
def Ju (xs:List Int):ByteArray:=bytesOf (xs.map fun x=>IntKind.u8.wrap x)
noncomputable abbrev Dk:Spec:=mkS (.pair tL .unit) .str false true (fun x=>short x.1) (fun x=>Ju x.1)
def Adz (ps:List (List Int)) (p:List Int):Int:=Cr (fun q=>decide (q=p)) ps 0
theorem Awh (xs:List Int) (P:ByteArray→Prop):(((0:Int)≤(↑xs.length:Int)∧(↑xs.length:Int)<(↑Ax:Int)+(1:Int))∧
 (↑xs.length:Int)=(↑xs.length:Int)∧
  (0:Nat)=(0:Nat)∧
   (List.replicate (↑xs.length:Int).toNat (Int.ofNat (nat_lit 0))).length=(List.replicate (↑xs.length:Int).toNat (Int.ofNat (nat_lit 0))).length∧
    Cc
     (fun (v2:Int×List Int×PUnit) (k3:Int×List Int×PUnit→Prop)=>
      Br (decide (v2.1<(↑xs.length:Int)))
       (∃(y4:Int),
        idx xs v2.1=some y4∧
         ((0:Int)≤v2.1∧v2.1<(↑v2.2.1.length:Int))∧
          (0:Nat)+v2.1.toNat<v2.2.1.length∧
           (0:Nat)=(0:Nat)∧
            v2.2.1.length=(v2.2.1.set ((0:Nat)+v2.1.toNat) (IntKind.u8.wrap y4)).length∧
             k3 (IntKind.i64.wrap (v2.1+(1:Int)),v2.2.1.set ((0:Nat)+v2.1.toNat) (IntKind.u8.wrap y4),()))
       (P (bytesOf (List.take v2.2.1.length (List.drop (0:Nat) v2.2.1)))))
     ((0:Int),List.replicate (↑xs.length:Int).toNat (Int.ofNat (nat_lit 0)),PUnit.unit))=fnW tab (look []) Dk Try.f111 (xs,()) P:=by kernel_rfl
theorem Avi (xs:List Int) (h:short xs):fnW tab (look []) Dk Try.f111 (xs,()) (fun (z:ByteArray)=>z=Ju xs):=by
 unfold short at h
 refine Eq.mp (Awh xs _) ?_
 refine ⟨⟨by omega,by show (xs.length:Int)<(4294967296:Int)+1;omega⟩,rfl,rfl,rfl,?_⟩
 have hcl:(xs.map fun x=>IntKind.u8.wrap x).length=xs.length:=by simp
 refine Ao xs.length (fun v=>v.1) (fun j v=>v.2.1.length=(xs.map fun x=>IntKind.u8.wrap x).length∧v.2.1.take j=(xs.map fun x=>IntKind.u8.wrap x).take j) rfl ⟨by rw [hcl];simp,by simp⟩ ?_
 rintro j ⟨i,ys,⟨⟩⟩ K hj hi ⟨h1,h2⟩ hK
 dsimp only at hi h1 h2⊢
 subst hi
 refine Br.dec (fun hl=>?_) fun hl=>?_
 ·have hl:j<xs.length:=by omega
  refine ⟨_,Aq hl,⟨by omega,by omega⟩,by rw [Int.toNat_natCast];omega,rfl,by rw [List.length_set],?_⟩
  rw [Ak (by omega),Int.toNat_natCast,Nat.zero_add]
  have hl':j<(xs.map fun x=>IntKind.u8.wrap x).length:=by rw [hcl];exact hl
  have e:IntKind.u8.wrap xs[j]=(xs.map fun x=>IntKind.u8.wrap x)[j]:=by simp
  rw [e]
  exact hK hl _ rfl ⟨by rw [List.length_set];exact h1,Nr hl' h1 h2⟩
 ·have:j=xs.length:=by omega
  subst this
  rw [←hcl,List.take_length,←h1,List.take_length] at h2
  rw [List.drop_zero,List.take_length,h2];rfl
theorem Zh:Sound Try.prog 111 Dk:=
 Sound.mkS Bp As mixed Try.func111 (by kernel_rfl) (by kernel_rfl) fun x h=>Avi x.1 h
theorem Wu {α:Type} (P:α→Bool) (y:α): ∀(l:List α) (i:Int),0≤i→Cr P (l++ [y]) i=if Cr P l i<0 then (if P y=true then i+l.length else-1) else Cr P l i
 | [],i,_=>by simp [Cr]
 |x::r,i,h=>by
  simp only [List.cons_append,Cr,List.length_cons]
  split
  ·rw [if_neg (by omega)]
  ·rw [Wu P y r (i+1) (by omega),show i+1+(r.length:Int)=i+((r.length+1:Nat):Int) by push_cast;omega]
theorem Ap3 (ps:List (List Int)) (q p:List Int):Adz (ps++ [q]) p=if Adz ps p<0 then (if q=p then (ps.length:Int) else-1) else Adz ps p:=by
 unfold Adz
 rw [Wu _ _ _ _ (Int.le_refl 0)]
 simp only [decide_eq_true_eq,Int.zero_add]
def Me (p:List Int):Prop:= ∀x∈p,0≤x∧x<256
theorem Azu {x y:Int} (hx:0≤x∧x<256) (hy:0≤y∧y<256) (h:UInt8.ofNat (IntKind.u8.wrap x).toNat=UInt8.ofNat (IntKind.u8.wrap y).toNat):x=y:=by
 have h:=congrArg UInt8.toNat h
 simp only [IntKind.wrap_u8,UInt8.toNat_ofNat'] at h
 omega
theorem bytes_inj: ∀(p q:List Int),Me p→Me q→(p.map fun x=>UInt8.ofNat (IntKind.u8.wrap x).toNat)=(q.map fun x=>UInt8.ofNat (IntKind.u8.wrap x).toNat)→p=q
 | [],[],_,_,_=>rfl
 | [],_::_,_,_,h=>by simp at h
 |_::_,[],_,_,h=>by simp at h
 |x::p,y::q,hp,hq,h=>by
  simp only [List.map_cons,List.cons.injEq] at h
  rw [Azu (hp x (by simp)) (hq y (by simp)) h.1,bytes_inj p q (fun z hz=>hp z (by simp [hz])) (fun z hz=>hq z (by simp [hz])) h.2]
theorem key_inj {p q:List Int} (hp:Me p) (hq:Me q) (h:Ju p=Ju q):p=q:=by
 refine bytes_inj p q hp hq ?_
 simp only [Ju,bytesOf,ByteArray.mk.injEq,List.map_map] at h
 have h:=congrArg Array.toList h
 simpa [Function.comp_def] using h
def KM (m:ByteArray→Option Int) (ps:List (List Int)):Prop:= ∀p,Me p→m (Ju p)=if Adz ps p<0 then none else some (Adz ps p)
theorem KM.nil:KM (fun _=>none) []:=fun p _=>by
 rw [if_pos (by unfold Adz;simp [Cr])]
theorem KM.add {m:ByteArray→Option Int} {ps:List (List Int)} {q:List Int} (h:KM m ps) (hq:Me q) (hn:Adz ps q<0):KM (Es m (Ju q) (ps.length:Int)) (ps++ [q]):=by
 intro p hp
 rw [Ap3]
 unfold Es
 by_cases e:p=q
 ·subst e
  rw [if_pos rfl,if_pos hn,if_pos rfl,if_neg (by omega)]
 ·rw [if_neg (fun hk=>e (key_inj hp hq hk)),h p hp]
  have e': ¬q=p:=fun h=>e h.symm
  rw [if_neg e']
  by_cases hpn:Adz ps p<0
  ·rw [if_pos hpn,if_pos hpn,if_pos (by decide)]
  ·rw [if_neg hpn,if_neg hpn,if_neg hpn]
end Go.Proofs.Ytebabhocakedaaa

namespace Go.Proofs.Ytebabhocakedaaa
open Go.RowKit
noncomputable abbrev Ll:Spec:=mkS (.pair Cy .unit) tL false true (fun x=>List.length x.1.2.2.1≤8) (fun x=>Bd (List.length x.1.2.2.1))
theorem Atp (p:Int×ByteArray×List (List Int)×Unit) (P:List Int→Prop):((0:Nat)=(0:Nat)∧
 (0:Nat)=([]:List Int).length∧
  Cc
   (fun (v2:Int×Int×ByteArray×List (List Int)×List Int×PUnit) (k3:Int×Int×ByteArray×List (List Int)×List Int×PUnit→Prop)=>
    Br (decide (v2.1≤(↑v2.2.2.2.1.length:Int)))
     ((0:Nat)=(0:Nat)∧
      v2.2.2.2.2.1.length=v2.2.2.2.2.1.length∧
       v2.2.2.2.2.1.length+(List.take (2:Nat) (List.drop (0:Nat) [v2.1,IntKind.i64.wrap ((0:Int)-v2.1)])).length≤Ax∧
        (0:Nat)=(0:Nat)∧
         (v2.2.2.2.2.1++List.take (2:Nat) (List.drop (0:Nat) [v2.1,IntKind.i64.wrap ((0:Int)-v2.1)])).length=
           (v2.2.2.2.2.1++List.take (2:Nat) (List.drop (0:Nat) [v2.1,IntKind.i64.wrap ((0:Int)-v2.1)])).length∧
          k3
           (IntKind.i64.wrap (v2.1+(1:Int)),v2.2.1,v2.2.2.1,v2.2.2.2.1,
            v2.2.2.2.2.1++List.take (2:Nat) (List.drop (0:Nat) [v2.1,IntKind.i64.wrap ((0:Int)-v2.1)]),()))
     (P (List.take v2.2.2.2.2.1.length (List.drop (0:Nat) v2.2.2.2.2.1))))
   ((1:Int),p.1,p.2.1,p.2.2.1,[],PUnit.unit))=fnW tab (look []) Ll Try.f142 (p,()) P:=by kernel_rfl
theorem Aso (p:PP) (h:List.length p.2.2.1≤8):fnW tab (look []) Ll Try.f142 (p,()) (fun (z:List Int)=>z=Bd (List.length p.2.2.1)):=by
 refine Eq.mp (Atp p _) ⟨rfl,rfl,?_⟩
 refine Cc.mk (fun v=> ∃j:Nat,j≤List.length p.2.2.1∧v=((j:Int)+1,p.1,p.2.1,p.2.2.1,Bd j,())) (fun v=>List.length p.2.2.1+1-v.1.toNat) ⟨0,Nat.zero_le _,rfl⟩ ?_
 rintro _ ⟨j,hj,rfl⟩
 dsimp only
 refine Br.dec (fun hl=>?_) fun hl=>?_
 ·refine ⟨rfl,rfl,?_,rfl,rfl,⟨j+1,by omega,?_⟩,?_⟩
  ·show (Bd j).length+2≤4294967296
   rw [Kk];omega
  ·rw [Qx,Bu (n:=(j:Int)+1+1) (by omega) (by omega),Bu (n:=0-((j:Int)+1)) (by omega) (by omega),Int.zero_sub]
   rfl
  ·rw [Bu (by omega) (by omega)];omega
 ·have:j=List.length p.2.2.1:=by omega
  subst this
  rw [Db]
theorem Ah7:Sound Try.prog 142 Ll:=
 Sound.mkS Bp As mixed Try.func142 (by kernel_rfl) (by kernel_rfl) fun x h=>Aso x.1 h
theorem Ba6 {a:Int} {P:Prop} (h:(a !=a)=true):P:=by simp at h
theorem Bb8 {p:PP} {room:Int} (hr:roomy room) (h: ¬Ox p room<0):(Ja p.2.2.1:Int)≤room-Ox p room∧roomy (Ox p room):=by
 unfold Ox at h⊢
 split at h
 ·exact absurd (show (-1:Int)<0 by decide) h
 ·rename_i h1
  rw [if_neg h1]
  split at h
  ·exact absurd (show (-1:Int)<0 by decide) h
  ·rename_i h2
   rw [if_neg h2]
   have e2:=Atd h2
   obtain ⟨r1,r2⟩:=hr
   unfold roomy
   omega
end Go.Proofs.Ytebabhocakedaaa

namespace Go.Proofs.Ytebabhocakedaaa
open Go.RowKit
def Aom (v:Int):List Int→Nat
 | []=>0
 |x::r=>if x>v then Aom v r+1 else 0
def Bc2 (v:Int) (t:List Int):Option (List Int):=if Aom v t=0 then none else some (Gg t ((Aom v t-1:Nat):Int)::(t.set (Aom v t-1) v).reverse)
def Yp:List Int→Option (List Int)
 | []=>none
 |v::t=>match Yp t with
  |some t'=>some (v::t')
  |none=>Bc2 v t
theorem Asa {s s':List Int} (h:Yp s=some s'): ∀pre:List Int,Yp (pre++s)=some (pre++s')
 | []=>h
 |v::p=>by rw [List.cons_append,Yp,Asa h p];rfl
theorem Bch {α:Type} (pre:List α) (v a:α) (t:List α):(pre++v::t).set pre.length a=pre++a::t:=by
 rw [List.set_append,if_neg (by omega)];simp
inductive Run:List Int→List (List Int)→List Int→Prop where
 |one (a:List Int):Run a [a] a
 |more {a c b:List Int} {L:List (List Int)} :Yp a=some c→Run c L b→Run a (a::L) b
theorem Run.cons {a b:List Int} {L:List (List Int)} (h:Run a L b) (v:Int):Run (v::a) (L.map (v:: ·)) (v::b):=by
 induction h with
 |one a=>exact .one _
 |more h3 _ ih=>exact .more (Asa h3 [v]) ih
theorem Run.head {a b:List Int} {L:List (List Int)} (h:Run a L b): ∃M,L=a::M:=by
 cases h with
 |one=>exact ⟨_,rfl⟩
 |more _ _=>exact ⟨_,rfl⟩
theorem Run.at {a b:List Int} {L:List (List Int)} (h:Run a L b): ∀j (hj:j<L.length),(∀h2:j+1<L.length,Yp L[j]=some L[j+1])∧(j+1=L.length→L[j]=b):=by
 induction h with
 |one a=>
  intro j hj
  simp only [List.length_singleton] at hj
  have:j=0:=by omega
  subst this
  exact ⟨fun h2=>by simp at h2,fun _=>rfl⟩
 |more h3 h4 ih=>
  intro j hj
  rcases j with _|j
  ·obtain ⟨M,hM⟩:=h4.head
   refine ⟨fun h2=>?_,fun h2=>?_⟩
   ·simp only [List.getElem_cons_zero,List.getElem_cons_succ]
    subst hM
    exact h3
   ·subst hM;simp at h2
  ·have:=ih j (by simpa using hj)
   refine ⟨fun h2=>?_,fun h2=>?_⟩
   ·simp only [List.getElem_cons_succ]
    exact this.1 (by simpa using h2)
   ·simp only [List.getElem_cons_succ]
    exact this.2 (by simpa using h2)
theorem Run.distinct {a b:List Int} {L:List (List Int)} (h:Run a L b) (hb:Yp b=none): ∀k i j (hi:i<L.length) (hj:j<L.length),L.length-j=k→i<j→L[i]≠L[j]:=by
 intro k
 induction k with
 |zero=>intro i j hi hj hk;omega
 |succ k ih=>
  intro i j hi hj hk hij he
  by_cases e:j+1<L.length
  ·have h1:=(h.at i hi).1 (by omega)
   have h2:=(h.at j hj).1 e
   rw [he,h2] at h1
   exact ih (i+1) (j+1) (by omega) e (by omega) (by omega) (Option.some.inj h1).symm
  ·have h1:=(h.at i hi).1 (by omega)
   have h2:=(h.at j hj).2 (by omega)
   rw [he,h2,hb] at h1
   cases h1
theorem Run.idx {a b:List Int} {L:List (List Int)} (h:Run a L b) (hb:Yp b=none) {j:Nat} (hj:j<L.length):L.idxOf L[j]=j:=by
 have h1:L.idxOf L[j]<L.length:=List.idxOf_lt_length_of_mem (List.getElem_mem _)
 have h2:L[L.idxOf L[j]]=L[j]:=List.getElem_idxOf h1
 rcases Nat.lt_trichotomy (L.idxOf L[j]) j with h3|h3|h3
 ·exact absurd h2 (h.distinct hb _ _ _ h1 hj rfl h3)
 ·exact h3
 ·exact absurd h2.symm (h.distinct hb _ _ _ hj h1 rfl h3)
end Go.Proofs.Ytebabhocakedaaa

namespace Go.Proofs.Ytebabhocakedaaa
open Go.RowKit
def Bw:List Int→List Int→Int
 | [],[]=>0
 | [],_::_=> -1
 |_::_,[]=>1
 |x::a,y::b=>if x<y then-1 else if x>y then 1 else Bw a b
def Vh (a b:List Int):Bool:=decide (Bw a b<0)
noncomputable abbrev Nb:Spec:=mkS (.pair tL (.pair tL .unit)) .bool false true (fun x=>short x.1∧List.length x.1=List.length x.2.1) (fun x=>Vh x.1 x.2.1)
theorem Awf (a b:List Int) (P:Bool→Prop):(Cc
 (fun (v3:Int×PUnit) (k4:Int×PUnit→Prop)=>
  Br (decide (v3.1<(↑a.length:Int)))
   (∃(y5:Int),
    idx a v3.1=some y5∧
     ∃(y6:Int),
      idx b v3.1=some y6∧
       Br (y5 !=y6) (∃(y7:Int),idx a v3.1=some y7∧ ∃(y8:Int),idx b v3.1=some y8∧P (decide (y7<y8))) (k4 (IntKind.i64.wrap (v3.1+(1:Int)),())))
   (P false))
 ((0:Int),PUnit.unit))=fnW tab (look []) Nb Try.f135 (a,b,()) P:=by kernel_rfl
theorem Avg (a b:List Int) (h:short a∧a.length=b.length):fnW tab (look []) Nb Try.f135 (a,b,()) (fun (z:Bool)=>z=Vh a b):=by
 obtain ⟨ha,hb⟩:=h
 unfold short at ha
 refine Eq.mp (Awf a b _) ?_
 refine Ao a.length (fun v=>v.1) (fun j _=>Bw (a.drop j) (b.drop j)=Bw a b) rfl (by simp) ?_
 rintro j ⟨i,⟨⟩⟩ K hj hi hR2 hK
 dsimp only at hi⊢
 subst hi
 refine Br.dec (fun hl=>?_) fun hl=>?_
 ·have hl:j<a.length:=by omega
  have hlb:j<b.length:=by omega
  rw [List.drop_eq_getElem_cons hl,List.drop_eq_getElem_cons hlb] at hR2
  simp only [Bw] at hR2
  refine ⟨_,Aq hl,_,Aq hlb,⟨fun hne=>?_,fun hne=>?_⟩⟩
  ·refine ⟨_,Aq hl,_,Aq hlb,?_⟩
   have hne:a[j]≠b[j]:=by simpa using hne
   unfold Vh
   rw [←hR2]
   by_cases h1:a[j]<b[j]
   ·rw [if_pos h1];simp [h1]
   ·rw [if_neg h1,if_pos (by omega)];simp [h1]
  ·have hne:a[j]=b[j]:=by simpa using hne
   rw [if_neg (by omega),if_neg (by omega)] at hR2
   rw [Ak (by omega)]
   exact hK hl _ rfl hR2
 ·have:j=a.length:=by omega
  subst this
  rw [List.drop_length,List.drop_eq_nil_of_le (by omega)] at hR2
  unfold Vh
  rw [←hR2]
  rfl
theorem Ak1:Sound Try.prog 135 Nb:=
 Sound.mkS Bp As mixed Try.func135 (by kernel_rfl) (by kernel_rfl) fun x h=>Avg x.1 x.2.1 h
theorem Arz (a:List (List Int)):Ac4 a a=true:=decide_eq_true rfl
end Go.Proofs.Ytebabhocakedaaa

namespace Go.Proofs.Ytebabhocakedaaa
open Go.RowKit
abbrev SS:Type:=List (List Int)×List Int×List Int×Bool×Unit
abbrev rLS:CK:= .row tL 25
abbrev rN:CK:= .row tI 3
def Ck (L:List (List Int)) (srt:List Int) (s:List Int):Nat:=(srt.takeWhile fun i=>Vh (L.getD i.toNat []) s).length
structure Cq (m:Nat) (L:List (List Int)) (srt:List Int):Prop where
 few:L.length≤3000
 len: ∀x∈L,x.length=m
 short:m≤20
 perm:srt.Perm (upto L.length)
 sorted:srt.Pairwise fun i j=>Vh (L.getD i.toNat []) (L.getD j.toNat [])=true
def Aay (L:List (List Int)) (s:List Int):Int:=if s∈L then (L.idxOf s:Int) else-1
def Mf (srt:List Int) (k:Nat) (x:Int):List Int:=srt.take k++x::srt.drop k
noncomputable abbrev Wa:Spec:=mkS (.pair Wf (.pair tL .unit)) tI false true (fun x=>Cq (List.length x.2.1) x.1.1 x.1.2.2.1) (fun x=>(Ck x.1.1 x.1.2.2.1 x.2.1:Int))
noncomputable abbrev Lz:Spec:=mkS (.pair Wf (.pair tL .unit)) tI false true (fun x=>Cq (List.length x.2.1) x.1.1 x.1.2.2.1) (fun x=>Aay x.1.1 x.2.1)
noncomputable abbrev Acb:Bn:=mkM [some 4,none,none] [(false,rLS),(false,rL),(false,rN),(false, .dat .bool),(false, .dat tL),(false, .dat tI)] false [some 4] [rLS,rL,rN, .dat .bool]
 (fun x=>Cq (List.length x.2.2.2.2.1) x.1 x.2.2.1∧List.length x.2.1≤3000) (fun x=>((x.1++ [x.2.2.2.2.1],x.2.1++ [x.2.2.2.2.2.1],Mf x.2.2.1 (Ck x.1 x.2.2.1 x.2.2.2.2.1) (List.length x.1),x.2.2.2.1,()),()))
def Rg (L:List (List Int)):List Int:=(List.range L.length).foldl (fun (S:List Int) (i:Nat)=>Mf S (Ck (L.take i) S (L.getD i [])) (i:Int)) []
def Fv (g:List (List Int)) (x:List Int) (d:Int):List Int→List (List Int)→List Int→List (List Int)×List Int×Bool
 | [],L,D=>(L,D,true)
 |l::ls,L,D=>if Aa x (Af g l)∈L then Fv g x d ls L D else if L.length=3000 then (L,D,false) else Fv g x d ls (L++ [Aa x (Af g l)]) (D++ [d+1])
def Hd (g:List (List Int)) (ls:List Int):Nat→Nat→List (List Int)→List Int→List (List Int)×List Int×Bool
 |0,_,L,D=>(L,D,true)
 |f+1,k,L,D=>if k<L.length then (match Fv g (L.getD k []) (D.getD k 0) ls L D with
  |(L',D',true)=>Hd g ls f (k+1) L' D'
  |(L',D',false)=>(L',D',false)) else (L,D,true)
def Fl (g:List (List Int)) (s:List Int):List (List Int)×List Int×Bool:=Hd g (Bd g.length) 3001 0 [s] [0]
def Gu (g:List (List Int)) (s:List Int):SS:=((Fl g s).1,(Fl g s).2.1,Rg (Fl g s).1,(Fl g s).2.2,())
noncomputable abbrev Cu:Spec:=mkS (.pair Cy (.pair tL .unit)) Wf false false (fun x=>Be x.1=true∧List.length x.2.1≤20∧ ∀y∈x.2.1,0≤y∧y<x.1.1) (fun x=>Gu x.1.2.2.1 x.2.1)
theorem Be9 (f:List (List Int)×List Int×List Int×Bool×Unit) (s:List Int) (P:Int→Prop):(Cc
 (fun (v3:Int×Int×List (List Int)×List Int×List Int×Bool×PUnit) (k4:Int×Int×List (List Int)×List Int×List Int×Bool×PUnit→Prop)=>
  Br (decide (v3.1<v3.2.1))
   ((2:Int)≠(0:Int)∧
    ∃(y5:Int),
     idx v3.2.2.2.2.1 (IntKind.i64.wrap ((IntKind.i64.wrap (v3.1+v3.2.1)).tdiv (2:Int)))=some y5∧
      ∃(y6:List Int),
       idx v3.2.2.1 y5=some y6∧
        ∃(y7:Bool),
         Nb.fn (y6,s,())=some y7∧
          Br y7
           (k4
            (IntKind.i64.wrap (IntKind.i64.wrap ((IntKind.i64.wrap (v3.1+v3.2.1)).tdiv (2:Int))+(1:Int)),v3.2.1,v3.2.2.1,v3.2.2.2.1,v3.2.2.2.2.1,
             v3.2.2.2.2.2.1,()))
           (k4 (v3.1,IntKind.i64.wrap ((IntKind.i64.wrap (v3.1+v3.2.1)).tdiv (2:Int)),v3.2.2.1,v3.2.2.2.1,v3.2.2.2.2.1,v3.2.2.2.2.2.1,())))
   (P v3.1))
 ((0:Int),(↑f.2.2.1.length:Int),f.1,f.2.1,f.2.2.1,f.2.2.2.1,PUnit.unit))=fnW tab (look [(135,Nb)]) Wa Try.f119 (f,s,()) P:=by kernel_rfl
theorem Bbn (f:List (List Int)×List Int×List Int×Bool×Unit) (s:List Int) (P:Int→Prop):(∃(y3:Int),
 Wa.fn ((f.1,f.2.1,f.2.2.1,f.2.2.2.1,()),s,())=some y3∧
  Br (decide (y3<(↑f.2.2.1.length:Int)))
   (∃(y4:Int),
    idx f.2.2.1 y3=some y4∧
     ∃(y5:List Int),idx f.1 y4=some y5∧ ∃(y6:Bool),Dg.fn (y5,s,())=some y6∧Br y6 (∃(y7:Int),idx f.2.2.1 y3=some y7∧P y7) (P (-1:Int)))
   (P (-1:Int)))=fnW tab (look [(119,Wa),(59,Dg)]) Lz Try.f69 (f,s,()) P:=by kernel_rfl
theorem Be7 (L:List (List Int)) (D S:List Int) (b:Bool) (s:List Int) (d:Int) (P:((List (List Int)×List Int×List Int×Bool×Unit)×Unit)→Prop):(∃(y7:Int),
 Wa.fn ((List.take L.length (List.drop (0:Nat) L),List.take D.length (List.drop (0:Nat) D),List.take S.length (List.drop (0:Nat) S),b,()),s,())=some y7∧
  (0:Nat)=(0:Nat)∧
   S.length=S.length∧
    S.length+(List.take (1:Nat) (List.drop (0:Nat) [(0:Int)])).length≤Ax∧
     ((0:Int)≤IntKind.i64.wrap (y7+(1:Int))∧
       IntKind.i64.wrap (y7+(1:Int))≤(↑(S++List.take (1:Nat) (List.drop (0:Nat) [(0:Int)])).length:Int)∧
        (↑(S++List.take (1:Nat) (List.drop (0:Nat) [(0:Int)])).length:Int)≤(↑(S++List.take (1:Nat) (List.drop (0:Nat) [(0:Int)])).length:Int))∧
      ((0:Int)≤y7∧
        y7≤(↑(S++List.take (1:Nat) (List.drop (0:Nat) [(0:Int)])).length:Int)∧
         (↑(S++List.take (1:Nat) (List.drop (0:Nat) [(0:Int)])).length:Int)≤(↑(S++List.take (1:Nat) (List.drop (0:Nat) [(0:Int)])).length:Int))∧
       ((0:Int)≤y7∧y7<(↑(S++List.take (1:Nat) (List.drop (0:Nat) [(0:Int)])).length:Int))∧
        (0:Nat)+y7.toNat<
          (Bj (S++List.take (1:Nat) (List.drop (0:Nat) [(0:Int)])) ((0:Nat)+(IntKind.i64.wrap (y7+(1:Int))).toNat)
            (List.take ((↑(S++List.take (1:Nat) (List.drop (0:Nat) [(0:Int)])).length:Int).toNat-(IntKind.i64.wrap (y7+(1:Int))).toNat)
             (List.take ((↑(S++List.take (1:Nat) (List.drop (0:Nat) [(0:Int)])).length:Int).toNat-y7.toNat)
              (List.drop ((0:Nat)+y7.toNat) (S++List.take (1:Nat) (List.drop (0:Nat) [(0:Int)])))))).length∧
         (0:Nat)=(0:Nat)∧
          L.length=L.length∧
           L.length+(List.take (1:Nat) (List.drop (0:Nat) [s])).length≤Ax∧
            (0:Nat)=(0:Nat)∧
             D.length=D.length∧
              D.length+(List.take (1:Nat) (List.drop (0:Nat) [d])).length≤Ax∧
               P
                ((List.take (L++List.take (1:Nat) (List.drop (0:Nat) [s])).length (List.drop (0:Nat) (L++List.take (1:Nat) (List.drop (0:Nat) [s]))),
                  List.take (D++List.take (1:Nat) (List.drop (0:Nat) [d])).length (List.drop (0:Nat) (D++List.take (1:Nat) (List.drop (0:Nat) [d]))),
                  List.take (S++List.take (1:Nat) (List.drop (0:Nat) [(0:Int)])).length
                   (List.drop (0:Nat)
                    ((Bj (S++List.take (1:Nat) (List.drop (0:Nat) [(0:Int)])) ((0:Nat)+(IntKind.i64.wrap (y7+(1:Int))).toNat)
                       (List.take ((↑(S++List.take (1:Nat) (List.drop (0:Nat) [(0:Int)])).length:Int).toNat-(IntKind.i64.wrap (y7+(1:Int))).toNat)
                        (List.take ((↑(S++List.take (1:Nat) (List.drop (0:Nat) [(0:Int)])).length:Int).toNat-y7.toNat)
                         (List.drop ((0:Nat)+y7.toNat) (S++List.take (1:Nat) (List.drop (0:Nat) [(0:Int)])))))).set
                     ((0:Nat)+y7.toNat) (↑L.length:Int))),
                  b,()),
                 ()))=Aeu Bcq (look [(119,Wa)]) Acb Try.f151 (L,D,S,b,s,d,()) P:=by kernel_rfl
theorem Bd0 (p:Int×ByteArray×List (List Int)×Unit) (s:List Int) (P:(List (List Int)×List Int×List Int×Bool×Unit)→Prop):(∃(y3:List Int),
 Mx.fn (s,())=some y3∧
  ∃(y4:(List (List Int)×List Int×List Int×Bool×PUnit)×PUnit),
   Acb.fn ([],[],[],false,y3,(0:Int),())=some y4∧
    ∃(y5:List Int),
     Ll.fn ((p.1,p.2.1,p.2.2.1,()),())=some y5∧
      (0:Nat)=(0:Nat)∧
       (0:Nat)=([]:List Int).length∧
        (0:Nat)=(0:Nat)∧
         (0:Nat)=([]:List Int).length∧
          (0:Nat)=(0:Nat)∧
           (0:Nat)=([]:List Int).length∧
            (0:Nat)=(0:Nat)∧
             y4.1.1.length=y4.1.1.length∧
              (0:Nat)=(0:Nat)∧
               y4.1.2.1.length=y4.1.2.1.length∧
                (0:Nat)=(0:Nat)∧
                 y4.1.2.2.1.length=y4.1.2.2.1.length∧
                  Cc
                   (fun (v6:Int×Int×ByteArray×List (List Int)×Bool×Bool×List (List Int)×List Int×List Int×List (List Int)×List Int×List Int×PUnit)
                     (k7:Int×Int×ByteArray×List (List Int)×Bool×Bool×List (List Int)×List Int×List Int×List (List Int)×List Int×List Int×PUnit→Prop)=>
                    Br (decide (v6.1<(↑v6.2.2.2.2.2.2.2.2.2.1.length:Int)))
                     ((0:Nat)=(0:Nat)∧
                      v6.2.2.2.2.2.2.1.length=v6.2.2.2.2.2.2.1.length∧
                       (0:Nat)=(0:Nat)∧
                        v6.2.2.2.2.2.2.2.1.length=v6.2.2.2.2.2.2.2.1.length∧
                         (0:Nat)=(0:Nat)∧
                          v6.2.2.2.2.2.2.2.2.1.length=v6.2.2.2.2.2.2.2.2.1.length∧
                           (0:Nat)=(0:Nat)∧
                            v6.2.2.2.2.2.2.2.2.2.1.length=v6.2.2.2.2.2.2.2.2.2.1.length∧
                             (0:Nat)=(0:Nat)∧
                              v6.2.2.2.2.2.2.2.2.2.2.1.length=v6.2.2.2.2.2.2.2.2.2.2.1.length∧
                               (0:Nat)=(0:Nat)∧
                                v6.2.2.2.2.2.2.2.2.2.2.2.1.length=v6.2.2.2.2.2.2.2.2.2.2.2.1.length∧
                                 Cc
                                  (fun
                                    (v8:
                                     Int×
                                      Int×
                                       ByteArray×
                                        List (List Int)×Bool×Bool×List (List Int)×List Int×List Int×List (List Int)×List Int×List Int×PUnit)
                                    (k9:
                                     Int×
                                       Int×
                                        ByteArray×
                                         List (List Int)×
                                          Bool×Bool×List (List Int)×List Int×List Int×List (List Int)×List Int×List Int×PUnit→
                                      Prop)=>
                                   Br (decide (v8.1<(↑y5.length:Int)))
                                    (((0:Int)≤v6.1∧v6.1<(↑v8.2.2.2.2.2.2.2.2.2.1.length:Int))∧
                                     ∃(y10:List Int),
                                      v8.2.2.2.2.2.2.2.2.2.1[(0:Nat)+v6.1.toNat]?=some y10∧
                                       ∃(y11:Int),
                                        idx y5 v8.1=some y11∧
                                         ∃(y12:List Int),
                                          Uc.fn ((v8.2.1,v8.2.2.1,v8.2.2.2.1,()),y10,y11,())=some y12∧
                                           ∃(y13:Int),
                                            Lz.fn
                                               ((List.take v8.2.2.2.2.2.2.2.2.2.1.length
                                                  (List.drop ((0:Nat)) v8.2.2.2.2.2.2.2.2.2.1),
                                                 List.take v8.2.2.2.2.2.2.2.2.2.2.1.length
                                                  (List.drop ((0:Nat)) v8.2.2.2.2.2.2.2.2.2.2.1),
                                                 List.take v8.2.2.2.2.2.2.2.2.2.2.2.1.length
                                                  (List.drop ((0:Nat)) v8.2.2.2.2.2.2.2.2.2.2.2.1),
                                                 v8.2.2.2.2.2.1,()),
                                                y12,())=
                                              some y13∧
                                             Br (decide (y13≥(0:Int)))
                                              ((0:Nat)=(0:Nat)∧
                                               v8.2.2.2.2.2.2.1.length=v8.2.2.2.2.2.2.1.length∧
                                                (0:Nat)=(0:Nat)∧
                                                 v8.2.2.2.2.2.2.2.1.length=v8.2.2.2.2.2.2.2.1.length∧
                                                  (0:Nat)=(0:Nat)∧
                                                   v8.2.2.2.2.2.2.2.2.1.length=v8.2.2.2.2.2.2.2.2.1.length∧
                                                    (0:Nat)=(0:Nat)∧
                                                     v8.2.2.2.2.2.2.2.2.2.1.length=v8.2.2.2.2.2.2.2.2.2.1.length∧
                                                      (0:Nat)=(0:Nat)∧
                                                       v8.2.2.2.2.2.2.2.2.2.2.1.length=
                                                         v8.2.2.2.2.2.2.2.2.2.2.1.length∧
                                                        (0:Nat)=(0:Nat)∧
                                                         v8.2.2.2.2.2.2.2.2.2.2.2.1.length=
                                                           v8.2.2.2.2.2.2.2.2.2.2.2.1.length∧
                                                          k9
                                                           (IntKind.i64.wrap (v8.1+(1:Int)),v8.2.1,v8.2.2.1,v8.2.2.2.1,
                                                            v8.2.2.2.2.1,v8.2.2.2.2.2.1,v8.2.2.2.2.2.2.1,
                                                            v8.2.2.2.2.2.2.2.1,v8.2.2.2.2.2.2.2.2.1,
                                                            v8.2.2.2.2.2.2.2.2.2.1,v8.2.2.2.2.2.2.2.2.2.2.1,
                                                            v8.2.2.2.2.2.2.2.2.2.2.2.1,()))
                                              (Br ((↑v8.2.2.2.2.2.2.2.2.2.1.length:Int)==(3000:Int))
                                               (P
                                                (List.take v8.2.2.2.2.2.2.2.2.2.1.length
                                                  (List.drop ((0:Nat)) v8.2.2.2.2.2.2.2.2.2.1),
                                                 List.take v8.2.2.2.2.2.2.2.2.2.2.1.length
                                                  (List.drop ((0:Nat)) v8.2.2.2.2.2.2.2.2.2.2.1),
                                                 List.take v8.2.2.2.2.2.2.2.2.2.2.2.1.length
                                                  (List.drop ((0:Nat)) v8.2.2.2.2.2.2.2.2.2.2.2.1),
                                                 v8.2.2.2.2.2.1,()))
                                               (((0:Int)≤v6.1∧v6.1<(↑v8.2.2.2.2.2.2.2.2.2.2.1.length:Int))∧
                                                ∃(y14:Int),
                                                 v8.2.2.2.2.2.2.2.2.2.2.1[(0:Nat)+v6.1.toNat]?=some y14∧
                                                  (0:Nat)=(0:Nat)∧
                                                   v8.2.2.2.2.2.2.2.2.2.1.length=v8.2.2.2.2.2.2.2.2.2.1.length∧
                                                    (0:Nat)=(0:Nat)∧
                                                     v8.2.2.2.2.2.2.2.2.2.2.1.length=v8.2.2.2.2.2.2.2.2.2.2.1.length∧
                                                      (0:Nat)=(0:Nat)∧
                                                       v8.2.2.2.2.2.2.2.2.2.2.2.1.length=
                                                         v8.2.2.2.2.2.2.2.2.2.2.2.1.length∧
                                                        ∃(y15:(List (List Int)×List Int×List Int×Bool×PUnit)×PUnit),
                                                         Acb.fn
                                                            (v8.2.2.2.2.2.2.2.2.2.1,v8.2.2.2.2.2.2.2.2.2.2.1,
                                                             v8.2.2.2.2.2.2.2.2.2.2.2.1,v8.2.2.2.2.2.1,y12,
                                                             IntKind.i64.wrap (y14+(1:Int)),())=
                                                           some y15∧
                                                          (0:Nat)=(0:Nat)∧
                                                           v8.2.2.2.2.2.2.1.length=v8.2.2.2.2.2.2.1.length∧
                                                            (0:Nat)=(0:Nat)∧
                                                             v8.2.2.2.2.2.2.2.1.length=v8.2.2.2.2.2.2.2.1.length∧
                                                              (0:Nat)=(0:Nat)∧
                                                               v8.2.2.2.2.2.2.2.2.1.length=
                                                                 v8.2.2.2.2.2.2.2.2.1.length∧
                                                                (0:Nat)=(0:Nat)∧
                                                                 y15.1.1.length=y15.1.1.length∧
                                                                  (0:Nat)=(0:Nat)∧
                                                                   y15.1.2.1.length=y15.1.2.1.length∧
                                                                    (0:Nat)=(0:Nat)∧
                                                                     y15.1.2.2.1.length=y15.1.2.2.1.length∧
                                                                      k9
                                                                       (IntKind.i64.wrap (v8.1+(1:Int)),v8.2.1,
                                                                        v8.2.2.1,v8.2.2.2.1,v8.2.2.2.2.1,
                                                                        y15.1.2.2.2.1,v8.2.2.2.2.2.2.1,
                                                                        v8.2.2.2.2.2.2.2.1,
                                                                        v8.2.2.2.2.2.2.2.2.1,y15.1.1,
                                                                        y15.1.2.1,y15.1.2.2.1,()))))
                                    ((0:Nat)=(0:Nat)∧
                                     v8.2.2.2.2.2.2.1.length=v8.2.2.2.2.2.2.1.length∧
                                      (0:Nat)=(0:Nat)∧
                                       v8.2.2.2.2.2.2.2.1.length=v8.2.2.2.2.2.2.2.1.length∧
                                        (0:Nat)=(0:Nat)∧
                                         v8.2.2.2.2.2.2.2.2.1.length=v8.2.2.2.2.2.2.2.2.1.length∧
                                          (0:Nat)=(0:Nat)∧
                                           v8.2.2.2.2.2.2.2.2.2.1.length=v8.2.2.2.2.2.2.2.2.2.1.length∧
                                            (0:Nat)=(0:Nat)∧
                                             v8.2.2.2.2.2.2.2.2.2.2.1.length=v8.2.2.2.2.2.2.2.2.2.2.1.length∧
                                              (0:Nat)=(0:Nat)∧
                                               v8.2.2.2.2.2.2.2.2.2.2.2.1.length=v8.2.2.2.2.2.2.2.2.2.2.2.1.length∧
                                                k7
                                                 (IntKind.i64.wrap (v6.1+(1:Int)),v8.2.1,v8.2.2.1,v8.2.2.2.1,v8.2.2.2.2.1,
                                                  v8.2.2.2.2.2.1,v8.2.2.2.2.2.2.1,v8.2.2.2.2.2.2.2.1,
                                                  v8.2.2.2.2.2.2.2.2.1,v8.2.2.2.2.2.2.2.2.2.1,
                                                  v8.2.2.2.2.2.2.2.2.2.2.1,v8.2.2.2.2.2.2.2.2.2.2.2.1,())))
                                  ((0:Int),v6.2.1,v6.2.2.1,v6.2.2.2.1,v6.2.2.2.2.1,v6.2.2.2.2.2.1,v6.2.2.2.2.2.2.1,
                                   v6.2.2.2.2.2.2.2.1,v6.2.2.2.2.2.2.2.2.1,v6.2.2.2.2.2.2.2.2.2.1,
                                   v6.2.2.2.2.2.2.2.2.2.2.1,v6.2.2.2.2.2.2.2.2.2.2.2.1,PUnit.unit))
                     (P
                      (List.take v6.2.2.2.2.2.2.2.2.2.1.length (List.drop ((0:Nat)) v6.2.2.2.2.2.2.2.2.2.1),
                       List.take v6.2.2.2.2.2.2.2.2.2.2.1.length (List.drop ((0:Nat)) v6.2.2.2.2.2.2.2.2.2.2.1),
                       List.take v6.2.2.2.2.2.2.2.2.2.2.2.1.length (List.drop ((0:Nat)) v6.2.2.2.2.2.2.2.2.2.2.2.1),true,())))
                   ((0:Int),p.1,p.2.1,p.2.2.1,false,y4.1.2.2.2.1,[],[],[],y4.1.1,y4.1.2.1,y4.1.2.2.1,PUnit.unit))=fnW Be2 (look [(120,Mx),(151,Acb),(142,Ll),(129,Uc),(69,Lz)]) Cu Try.f105 (p,s,()) P:=by kernel_rfl
theorem Ai5: ∀ {a b:List Int},Bw a b=0↔a=b
 | [],[]=>by simp [Bw]
 | [],_::_=>by simp [Bw]
 |_::_,[]=>by simp [Bw]
 |x::a,y::b=>by
  simp only [Bw,List.cons.injEq]
  by_cases h1:x<y
  ·rw [if_pos h1]
   exact ⟨fun h=>by omega,fun h=>by omega⟩
  ·rw [if_neg h1]
   by_cases h2:x>y
   ·rw [if_pos h2]
    exact ⟨fun h=>by omega,fun h=>by omega⟩
   ·rw [if_neg h2,Ai5]
    exact ⟨fun h=>⟨by omega,h⟩,fun h=>h.2⟩
theorem Awr: ∀(a b:List Int),Bw b a= -Bw a b
 | [],[]=>by simp [Bw]
 | [],_::_=>by simp [Bw]
 |_::_,[]=>by simp [Bw]
 |x::a,y::b=>by
  simp only [Bw]
  rcases Int.lt_trichotomy x y with h1|h1|h1
  ·simp [h1,show ¬y<x by omega]
  ·subst h1
   simp [Awr a b]
  ·simp [h1,show ¬x<y by omega]
theorem Am3: ∀ {a b c:List Int},Bw a b<0→Bw b c<0→Bw a c<0
 | [],[],_,h,_=>by simp [Bw] at h
 |_::_,[],_,h,_=>by simp [Bw] at h
 |_,_::_,[],_,h=>by simp [Bw] at h
 | [],_::_,_::_,_,_=>by simp [Bw]
 |x::a,y::b,z::c,h1,h2=>by
  simp only [Bw] at h1 h2⊢
  by_cases e1:x<y
  ·by_cases e2:y<z
   ·rw [if_pos (by omega)];omega
   ·rw [if_neg e2] at h2
    by_cases e3:y>z
    ·rw [if_pos e3] at h2;omega
    ·rw [if_pos (by omega)];omega
  ·rw [if_neg e1] at h1
   by_cases e2:x>y
   ·rw [if_pos e2] at h1;omega
   ·rw [if_neg e2] at h1
    by_cases e3:y<z
    ·rw [if_pos (by omega)];omega
    ·rw [if_neg e3] at h2
     by_cases e4:y>z
     ·rw [if_pos e4] at h2;omega
     ·rw [if_neg e4] at h2
      rw [if_neg (by omega),if_neg (by omega)]
      exact Am3 h1 h2
theorem lt_iff {a b:List Int} :Vh a b=true↔Bw a b<0:=decide_eq_true_iff
theorem Axy {a b c:List Int} (h1:Vh a b=true) (h2:Vh b c=true):Vh a c=true:=lt_iff.2 (Am3 (lt_iff.1 h1) (lt_iff.1 h2))
theorem Ac3 (a:List Int):Vh a a=false:=by
 have:Bw a a=0:=Ai5.2 rfl
 unfold Vh;rw [this];rfl
theorem Bag {a b:List Int} (h:Vh a b=false) (hne:a≠b):Vh b a=true:=by
 rw [lt_iff,Awr a b]
 have h1: ¬Bw a b<0:=fun h'=>by rw [lt_iff.2 h'] at h;cases h
 have h2:Bw a b≠0:=fun h'=>hne (Ai5.1 h')
 omega
theorem Ab8 {α:Type} (q:α→Bool): ∀(l:List α),l.Pairwise (fun i j=>q j=true→q i=true)→ ∀k (hk:k<l.length),k<(l.takeWhile q).length↔q l[k]=true
 | [],_,k,hk=>by simp at hk
 |a::l,h,k,hk=>by
  obtain ⟨h1,h2⟩:=List.pairwise_cons.1 h
  by_cases ha:q a=true
  ·rw [List.takeWhile_cons_of_pos ha]
   rcases k with _|k
   ·simpa using ha
   ·simp only [List.length_cons,List.getElem_cons_succ,Nat.add_lt_add_iff_right]
    exact Ab8 q l h2 k (by simpa using hk)
  ·rw [List.takeWhile_cons_of_neg ha]
   simp only [List.length_nil,Nat.not_lt_zero,false_iff]
   rcases k with _|k
   ·exact ha
   ·simp only [List.getElem_cons_succ]
    exact fun hq=>ha (h1 _ (List.getElem_mem _) hq)
theorem Cq.Ais {m:Nat} {L:List (List Int)} {srt:List Int} (h:Cq m L srt):srt.length=L.length:=by rw [h.perm.length_eq,Ri]
theorem Cq.idx {m:Nat} {L:List (List Int)} {srt:List Int} (h:Cq m L srt) {k:Nat} (hk:k<srt.length):0≤srt[k]∧srt[k]<L.length:=Il.1 (h.perm.mem_iff.1 (List.getElem_mem hk))
theorem Cq.Uf {m:Nat} {L:List (List Int)} {srt:List Int} (h:Cq m L srt) (s:List Int) {k:Nat} (hk:k<srt.length):k<Ck L srt s↔Vh (L.getD srt[k].toNat []) s=true:=
 Ab8 _ srt (h.sorted.imp fun hij hj=>Axy hij hj) k hk
theorem Ax8 (L:List (List Int)) (srt s:List Int):Ck L srt s≤srt.length:=(List.takeWhile_sublist _).length_le
theorem Cq.inj {m:Nat} {L:List (List Int)} {srt:List Int} (h:Cq m L srt) {i j:Nat} (hi:i<L.length) (hj:j<L.length) (e:L[i]=L[j]):i=j:=by
 have mem: ∀i,i<L.length→(i:Int)∈srt:=fun i hi=>h.perm.mem_iff.2 (Il.2 ⟨by omega,by omega⟩)
 obtain ⟨p,hp,ep⟩:=List.mem_iff_getElem.1 (mem i hi)
 obtain ⟨q,hq,eq⟩:=List.mem_iff_getElem.1 (mem j hj)
 have get: ∀i (hi:i<L.length),L.getD ((i:Int)).toNat []=L[i]:=fun i hi=>by rw [Int.toNat_natCast,List.getD_eq_getElem?_getD,List.getElem?_eq_getElem hi];rfl
 rcases Nat.lt_trichotomy p q with h1|h1|h1
 ·have:=List.pairwise_iff_getElem.1 h.sorted p q hp hq h1
  rw [ep,eq,get i hi,get j hj,e,Ac3] at this
  cases this
 ·subst h1
  rw [ep] at eq
  omega
 ·have:=List.pairwise_iff_getElem.1 h.sorted q p hq hp h1
  rw [ep,eq,get i hi,get j hj,e,Ac3] at this
  cases this
theorem Lp {L:List (List Int)} {k:Nat} (h:k<L.length):L.getD k []=L[k]:=by rw [List.getD_eq_getElem?_getD,List.getElem?_eq_getElem h];rfl
theorem Cq.Anv {m:Nat} {L:List (List Int)} {srt:List Int} (h:Cq m L srt) {s:List Int} :
  (∃hk:Ck L srt s<srt.length,L.getD srt[Ck L srt s].toNat []=s∧Aay L s=srt[Ck L srt s])∨(Aay L s= -1∧ ∀hk:Ck L srt s<srt.length,L.getD srt[Ck L srt s].toNat []≠s):=by
 by_cases hm:s∈L
 ·left
  obtain ⟨j,hj,rfl⟩:=List.mem_iff_getElem.1 hm
  obtain ⟨p,hp,ep⟩:=List.mem_iff_getElem.1 (h.perm.mem_iff.2 (Il.2 ⟨by omega,by omega⟩):(j:Int)∈srt)
  have gj:L.getD srt[p].toNat []=L[j]:=by rw [ep,Int.toNat_natCast,Lp hj]
  have hs:Ck L srt L[j]=p:=by
   have h1: ¬p<Ck L srt L[j]:=fun h1=>by
    have:=(h.Uf L[j] hp).1 h1
    rw [gj,Ac3] at this;cases this
   have h2: ¬Ck L srt L[j]<p:=fun h2=>by
    have h3:=(h.Uf L[j] (k:=Ck L srt L[j]) (by omega)).2 (by
     have:=List.pairwise_iff_getElem.1 h.sorted (Ck L srt L[j]) p (by omega) hp h2
     rw [gj] at this;exact this)
    omega
   omega
  have hx:L.idxOf L[j]=j:=by
   have h1:L.idxOf L[j]<L.length:=List.idxOf_lt_length_of_mem hm
   exact h.inj h1 hj (List.getElem_idxOf h1)
  refine ⟨by omega,?_,?_⟩
  ·simp only [hs];exact gj
  ·unfold Aay
   rw [if_pos hm,hx]
   simp only [hs];exact ep.symm
 ·right
  refine ⟨by unfold Aay;rw [if_neg hm],fun hk e=>hm ?_⟩
  have hi:=h.idx hk
  rw [Lp (by omega)] at e
  rw [←e]
  exact List.getElem_mem _
theorem Ba5 (srt:List Int) (k:Nat) (x:Int):(Mf srt k x).Perm (x::srt):=by
 unfold Mf
 refine List.perm_middle.trans (List.Perm.cons x ?_)
 rw [List.take_append_drop]
theorem Cq.add {m:Nat} {L:List (List Int)} {srt s:List Int} (h:Cq m L srt) (hn:s∉L) (hl:s.length=m) (hr:L.length<3000):Cq m (L++ [s]) (Mf srt (Ck L srt s) L.length):=by
 have get1: ∀i∈srt,(L++ [s]).getD i.toNat []=L.getD i.toNat []:=fun i hi=>by
  have:=Il.1 (h.perm.mem_iff.1 hi)
  rw [List.getD_eq_getElem?_getD,List.getD_eq_getElem?_getD,List.getElem?_append_left (by omega)]
 have get2:(L++ [s]).getD ((L.length:Int)).toNat []=s:=by
  rw [Int.toNat_natCast,List.getD_eq_getElem?_getD,List.getElem?_append_right (by omega),Nat.sub_self];rfl
 refine ⟨by rw [List.length_append,List.length_singleton];omega,fun x hx=>?_,h.short,?_,?_⟩
 ·rcases List.mem_append.1 hx with hx|hx
  ·exact h.len x hx
  ·rw [List.mem_singleton.1 hx];exact hl
 ·refine (Ba5 _ _ _).trans ?_
  rw [List.length_append,List.length_singleton,Uj]
  exact (List.Perm.cons _ h.perm).trans (List.perm_append_singleton _ _).symm
 ·unfold Mf
  have hs:=h.sorted
  rw [←List.take_append_drop (Ck L srt s) srt] at hs
  obtain ⟨s1,s2,s3⟩:=List.pairwise_append.1 hs
  have mt: ∀i∈srt.take (Ck L srt s),i∈srt∧Vh (L.getD i.toNat []) s=true:=fun i hi=>by
   obtain ⟨k,hk,rfl⟩:=List.mem_iff_getElem.1 hi
   have hk2:k<Ck L srt s:=by rw [List.length_take] at hk;omega
   have hk3:k<srt.length:=by rw [List.length_take] at hk;omega
   rw [List.getElem_take]
   exact ⟨List.getElem_mem _,(h.Uf s hk3).1 hk2⟩
  have md: ∀i∈srt.drop (Ck L srt s),i∈srt∧Vh s (L.getD i.toNat [])=true:=fun i hi=>by
   obtain ⟨k,hk,rfl⟩:=List.mem_iff_getElem.1 hi
   rw [List.length_drop] at hk
   have hk3:Ck L srt s+k<srt.length:=by omega
   rw [List.getElem_drop]
   refine ⟨List.getElem_mem _,Bag ?_ fun e=>hn ?_⟩
   ·exact Bool.eq_false_iff.2 fun hh=>by
     have:=(h.Uf s hk3).2 hh
     omega
   ·have hi:=h.idx hk3
    rw [Lp (by omega)] at e
    rw [←e];exact List.getElem_mem _
  refine List.pairwise_append.2 ⟨s1.imp_of_mem fun {a b} ha hb hab=>?_,List.pairwise_cons.2 ⟨fun b hb=>?_,s2.imp_of_mem fun {a b} ha hb hab=>?_⟩,fun a ha b hb=>?_⟩
  ·rw [get1 a (mt a ha).1,get1 b (mt b hb).1];exact hab
  ·rw [get2,get1 b (md b hb).1];exact (md b hb).2
  ·rw [get1 a (md a ha).1,get1 b (md b hb).1];exact hab
  ·rcases List.mem_cons.1 hb with rfl|hb
   ·rw [get2,get1 a (mt a ha).1];exact (mt a ha).2
   ·rw [get1 a (mt a ha).1,get1 b (md b hb).1];exact s3 a ha b hb
theorem Wc (L:List (List Int)) (s:List Int):Rg (L++ [s])=Mf (Rg L) (Ck L (Rg L) s) L.length:=by
 unfold Rg
 rw [List.length_append,List.length_singleton,List.range_succ,List.foldl_append]
 have e: ∀(is:List Nat) (S:List Int),(∀i∈is,i<L.length)→is.foldl (fun (S:List Int) (i:Nat)=>Mf S (Ck ((L++ [s]).take i) S ((L++ [s]).getD i [])) (i:Int)) S=is.foldl (fun (S:List Int) (i:Nat)=>Mf S (Ck (L.take i) S (L.getD i [])) (i:Int)) S:=by
  intro is
  induction is with
  |nil=>intro S _;rfl
  |cons i is ih=>
   intro S h
   have hi:=h i (by simp)
   rw [List.foldl_cons,List.foldl_cons,ih _ fun j hj=>h j (List.mem_cons_of_mem _ hj)]
   congr 2
   rw [List.take_append_of_le_length (by omega),List.getD_eq_getElem?_getD,List.getElem?_append_left hi,←List.getD_eq_getElem?_getD]
 rw [e _ _ fun i hi=>List.mem_range.1 hi]
 simp only [List.foldl_cons,List.foldl_nil]
 congr 2
 ·rw [List.take_append_of_le_length (Nat.le_refl _),List.take_length]
 ·rw [List.getD_eq_getElem?_getD,List.getElem?_append_right (by omega),Nat.sub_self];rfl
theorem Ae5 {m:Nat} (h:m≤20):Cq m [] []:=⟨by simp,fun x hx=>(by cases hx),h,by simp [upto],List.Pairwise.nil⟩
theorem Ba3 {α:Type} {xs:List α} {y:Int} (h0:0≤y) (h:y.toNat<xs.length):idx xs y=some xs[y.toNat]:=by
 unfold idx
 rw [if_pos h0,List.getElem?_eq_getElem h]
theorem Bdu (f:SS) (s:List Int) (h:Cq s.length f.1 f.2.2.1):fnW tab (look [(135,Nb)]) Wa Try.f119 (f,s,()) (fun (z:Int)=>z=(Ck f.1 f.2.2.1 s:Int)):=by
 obtain ⟨L,D,srt,b,⟨⟩⟩:=f
 dsimp only at h⊢
 have hle:=Ax8 L srt s
 have hl2:=h.Ais
 have hfew:=h.few
 refine Eq.mp (Be9 (L,D,srt,b,()) s _) ?_
 refine Cc.mk (fun v=>v.2.2.1=L∧v.2.2.2.2.1=srt∧ ∃lo hi:Nat,v.1=lo∧v.2.1=hi∧lo≤hi∧hi≤srt.length∧lo≤Ck L srt s∧Ck L srt s≤hi) (fun v=>(v.2.1-v.1).toNat)
  ⟨rfl,rfl,0,srt.length,rfl,rfl,by omega,by omega,by omega,hle⟩ ?_
 rintro ⟨lo',hi',L',D',srt',b',⟨⟩⟩ ⟨h1,h2,lo,hi,h3,h4,h5,h6,h7,h8⟩
 dsimp only at h1 h2 h3 h4⊢
 subst h1 h2 h3 h4
 refine Br.dec (fun hl=>?_) fun hl=>?_
 ·have em:IntKind.i64.wrap ((IntKind.i64.wrap ((lo:Int)+(hi:Int))).tdiv 2)=(((lo+hi)/2:Nat):Int):=by
   rw [Bu (n:=(lo:Int)+(hi:Int)) (by omega) (by omega),Int.tdiv_eq_ediv_of_nonneg (by omega),Bu (by omega) (by omega)]
   omega
  rw [em]
  have hm1:(lo+hi)/2<srt'.length:=by omega
  have hi1:=h.idx hm1
  have hi2:srt'[(lo+hi)/2].toNat<L'.length:=by omega
  have hgd:=Lp hi2
  have hlen:=h.len _ (List.getElem_mem hi2)
  have hsh:short L'[srt'[(lo+hi)/2].toNat]:=by
   unfold short
   have:=h.short;omega
  refine ⟨by decide,_,Aq hm1,_,Ba3 hi1.1 hi2,_,if_pos ⟨hsh,hlen⟩,⟨fun hc=>?_,fun hc=>?_⟩⟩
  ·have hc:Vh L'[srt'[(lo+hi)/2].toNat] s=true:=hc
   have hs:=(h.Uf s hm1).2 (by rw [hgd];exact hc)
   rw [Ak (by omega)]
   exact ⟨⟨rfl,rfl,(lo+hi)/2+1,hi,rfl,rfl,by omega,h6,by omega,h8⟩,by omega⟩
  ·have hc:Vh L'[srt'[(lo+hi)/2].toNat] s=false:=hc
   have hs: ¬(lo+hi)/2<Ck L' srt' s:=fun hh=>by
    have:=(h.Uf s hm1).1 hh
    rw [hgd,hc] at this;cases this
   exact ⟨⟨rfl,rfl,lo,(lo+hi)/2,rfl,rfl,by omega,by omega,h7,by omega⟩,by omega⟩
 ·show (lo:Int)=_
  omega
theorem Ak2:Sound Try.prog 119 Wa:=
 Sound.mkS Bp (Ad Ak1 As) mixed Try.func119 (by kernel_rfl) (by kernel_rfl) fun x h=>Bdu x.1 x.2.1 h
theorem Bas (f:SS) (s:List Int) (h:Cq s.length f.1 f.2.2.1):fnW tab (look [(119,Wa),(59,Dg)]) Lz Try.f69 (f,s,()) (fun (z:Int)=>z=Aay f.1 s):=by
 obtain ⟨L,D,srt,b,⟨⟩⟩:=f
 dsimp only at h⊢
 refine Eq.mp (Bbn (L,D,srt,b,()) s _) ⟨_,if_pos h,Br.dec (fun hl=>?_) fun hl=>?_⟩
 ·have hl:Ck L srt s<srt.length:=by
   have hl:((Ck L srt s:Nat):Int)<(srt.length:Int):=hl
   omega
  have hi1:=h.idx hl
  have hi2:srt[Ck L srt s].toNat<L.length:=by omega
  have hgd:=Lp hi2
  have hlen:=h.len _ (List.getElem_mem hi2)
  have hsh:short L[srt[Ck L srt s].toNat]:=by
   unfold short
   have:=h.short;omega
  refine ⟨_,Aq hl,_,Ba3 hi1.1 hi2,_,if_pos hsh,⟨fun hc=>⟨_,Aq hl,?_⟩,fun hc=>?_⟩⟩
  ·have hc:L[srt[Ck L srt s].toNat]=s:=of_decide_eq_true hc
   rcases h.Anv (s:=s) with ⟨hk,_,e⟩|⟨_,hne⟩
   ·exact e.symm
   ·exact absurd (by rw [hgd];exact hc) (hne hl)
  ·have hc: ¬L[srt[Ck L srt s].toNat]=s:=of_decide_eq_false hc
   rcases h.Anv (s:=s) with ⟨hk,e,_⟩|⟨e,_⟩
   ·rw [hgd] at e;exact absurd e hc
   ·exact e.symm
 ·have hl: ¬Ck L srt s<srt.length:=by
   have hl: ¬((Ck L srt s:Nat):Int)<(srt.length:Int):=hl
   omega
  rcases h.Anv (s:=s) with ⟨hk,e,_⟩|⟨e,_⟩
  ·exact absurd hk hl
  ·exact e.symm
theorem Aea:Sound Try.prog 69 Lz:=
 Sound.mkS Bp (Ad Ak2 (Ad Ah4 As)) mixed Try.func69 (by kernel_rfl) (by kernel_rfl) fun x h=>Bas x.1 x.2.1 h
theorem Aur {S:List Int} {k:Nat} (h:k≤S.length) (n:Int):
  (Bj (S++ [0]) (k+1) (List.take ((S++ [0]).length-(k+1)) (List.take ((S++ [0]).length-k) (List.drop k (S++ [0]))))).set k n=Mf S k n:=by
 obtain ⟨A,B,rfl,hA⟩: ∃A B,S=A++B∧A.length=k:=⟨S.take k,S.drop k,(List.take_append_drop k S).symm,by rw [List.length_take];omega⟩
 subst hA
 have e1:List.drop A.length (A++B++ [0])=B++ [0]:=by rw [List.append_assoc,List.drop_left]
 have e2:List.take ((A++B++ [0]).length-A.length) (B++ [0])=B++ [0]:=List.take_of_length_le (by simp only [List.length_append,List.length_singleton];omega)
 have e3:List.take ((A++B++ [0]).length-(A.length+1)) (B++ [0])=B:=by
  have:(A++B++ [(0:Int)]).length-(A.length+1)=B.length:=by simp only [List.length_append,List.length_singleton];omega
  rw [this,List.take_left]
 rw [e1,e2,e3]
 unfold Bj Mf
 have e4:List.drop (A.length+1+B.length) (A++B++ [0])= []:=List.drop_eq_nil_of_le (by simp only [List.length_append,List.length_singleton];omega)
 obtain ⟨c,hc⟩: ∃c,List.take (A.length+1) (A++B++ [0])=A++ [c]:=by
  rw [List.append_assoc,List.take_append,List.take_of_length_le (by omega)]
  cases B with
  |nil=>exact ⟨0,by simp⟩
  |cons b B=>exact ⟨b,by simp⟩
 rw [e4,hc,List.append_nil,List.append_assoc,List.singleton_append,Bch,List.take_left,List.drop_left]
theorem Bds (L:List (List Int)) (D S:List Int) (b:Bool) (s:List Int) (d:Int) (h:Cq s.length L S∧D.length≤3000):
  Aeu Bcq (look [(119,Wa)]) Acb Try.f151 (L,D,S,b,s,d,()) (fun (z:(List (List Int)×List Int×List Int×Bool×Unit)×Unit)=>z=((L++ [s],D++ [d],Mf S (Ck L S s) L.length,b,()),())):=by
 obtain ⟨h,hD⟩:=h
 have hle:=Ax8 L S s
 have hl2:=h.Ais
 have hfew:=h.few
 refine Eq.mp (Be7 L D S b s d _) ?_
 rw [Db L,Db D,Db S]
 refine ⟨_,if_pos h,?_⟩
 dsimp only
 have es:List.take 1 (List.drop 0 [(0:Int)])= [0]:=rfl
 have el:(S++ [(0:Int)]).length=S.length+1:=by simp
 rw [es,Ak (by omega),Nat.zero_add,Nat.zero_add,Int.toNat_natCast,Int.toNat_natCast,Int.toNat_natCast]
 refine ⟨rfl,rfl,by show S.length+1≤4294967296;omega,⟨by omega,by omega,by omega⟩,⟨by omega,by omega,by omega⟩,⟨by omega,by omega⟩,?_,rfl,rfl,by show L.length+1≤4294967296;omega,rfl,rfl,by show D.length+1≤4294967296;omega,?_⟩
 ·unfold Bj
  simp only [List.length_append,List.length_take,List.length_drop,List.length_singleton]
  omega
 ·rw [Aur hle,Db,Db]
  have e5:List.take (S++ [(0:Int)]).length (List.drop 0 (Mf S (Ck L S s) (L.length:Int)))=Mf S (Ck L S s) (L.length:Int):=by
   rw [List.drop_zero,List.take_of_length_le]
   unfold Mf
   simp only [List.length_append,List.length_cons,List.length_take,List.length_drop,List.length_nil]
   omega
  rw [e5]
  rfl
theorem Aw3:Dw Try.prog 151 Acb:=
 Dw.mkM Bbe (Ad Ak2 As) mixed Try.func151 (by kernel_rfl) (by kernel_rfl) fun x h=>Bds x.1 x.2.1 x.2.2.1 x.2.2.2.1 x.2.2.2.2.1 x.2.2.2.2.2.1 h
structure Oo (p:PP) (m:Nat) (L:List (List Int)) (D:List Int):Prop where
 ok:Cq m L (Rg L)
 len:D.length=L.length
 row: ∀x∈L,∀y∈x,0≤y∧y<p.1
 dep: ∀j (h:j<D.length),0≤D[j]∧D[j]≤j
theorem Aot {p:PP} (hv:Valid p) {x:List Int} {l:Int} (hx: ∀y∈x,0≤y∧y<p.1) (hl:Gb (List.length p.2.2.1) l):
  (Aa x (Af p.2.2.1 l)).length=x.length∧ ∀y∈Aa x (Af p.2.2.1 l),0≤y∧y<p.1:=by
 obtain ⟨h1,h2⟩:=Af2 hv hl
 refine ⟨Ro _ _,fun y hy=>?_⟩
 have:=Aqy (n:=(Af p.2.2.1 l).length) (fun z hz=>by have:=hx z hz;omega) h2 y hy
 omega
theorem Oo.add {p:PP} {m:Nat} {L:List (List Int)} {D:List Int} (h:Oo p m L D) {y:List Int} {d:Int} (hn:y∉L) (hl:y.length=m) (hr:L.length<3000) (hy: ∀z∈y,0≤z∧z<p.1) (hd:0≤d∧d≤L.length):Oo p m (L++ [y]) (D++ [d]):=by
 have hlen:=h.len
 refine ⟨by rw [Wc];exact h.ok.add hn hl hr,by simp [hlen],fun x hx=>?_,fun j hj=>?_⟩
 ·rcases List.mem_append.1 hx with hx|hx
  ·exact h.row x hx
  ·rw [List.mem_singleton.1 hx];exact hy
 ·by_cases e:j<D.length
  ·rw [List.getElem_append_left e];exact h.dep j e
  ·simp only [List.length_append,List.length_singleton] at hj
   have:j=D.length:=by omega
   subst this
   rw [List.getElem_append_right (by omega)]
   simp only [Nat.sub_self,List.getElem_cons_zero]
   omega
theorem Zw {p:PP} {s:List Int} (hs:s.length≤20) (hr: ∀y∈s,0≤y∧y<p.1):Oo p s.length [s] [0]:=by
 refine ⟨?_,rfl,fun x hx=>by rw [List.mem_singleton.1 hx];exact hr,fun j hj=>?_⟩
 ·have:=(Ae5 hs).add (s:=s) (by simp) rfl (by simp)
  have e:Rg [s]=Mf [] (Ck [] [] s) 0:=Wc [] s
  rw [e];exact this
 ·simp only [List.length_singleton] at hj
  have:j=0:=by omega
  subst this
  simp
theorem Amo {L:List (List Int)} {s:List Int} :Aay L s≥0↔s∈L:=by
 unfold Aay
 split
 ·rename_i h;exact ⟨fun _=>h,fun _=>by omega⟩
 ·rename_i h;exact ⟨fun hh=>by omega,fun hh=>absurd hh h⟩
theorem Bce (p:PP) (s:List Int) (h:Be p=true∧s.length≤20∧ ∀y∈s,0≤y∧y<p.1):fnW Be2 (look [(120,Mx),(151,Acb),(142,Ll),(129,Uc),(69,Lz)]) Cu Try.f105 (p,s,()) (fun (z:SS)=>z=Gu p.2.2.1 s):=by
 obtain ⟨hv,hs,hr⟩:=h
 have hV:=valid hv
 have hfew:=hV.few
 have hb0:=Zw hs hr
 have hsh:short s:=by unfold short;omega
 obtain ⟨ls,hls⟩: ∃ls,Bd (List.length p.2.2.1)=ls:=⟨_,rfl⟩
 refine Eq.mp (Bd0 p s _) ⟨_,if_pos hsh,_,if_pos ⟨Ae5 hs,by show 0≤3000;omega⟩,ls,(if_pos (by show List.length p.2.2.1≤8;exact hfew.2)).trans (congrArg some hls),rfl,rfl,rfl,rfl,rfl,rfl,rfl,rfl,rfl,rfl,rfl,rfl,?_⟩
 have e0:Mf [] (Ck [] [] s) ((([]:List (List Int)).length:Nat):Int)=Rg [s]:=(Wc [] s).symm
 show Cc _ ((0:Int),p.1,p.2.1,p.2.2.1,false,false,[],[],[],[s],[(0:Int)],Mf [] (Ck [] [] s) ((([]:List (List Int)).length:Nat):Int),PUnit.unit)
 rw [e0]
 have hll:ls.length≤16:=by rw [←hls,Kk];omega
 have hmem: ∀l∈ls,Gb (List.length p.2.2.1) l:=fun l hl=>Lf (hls▸hl)
 have hstart:Hd p.2.2.1 ls 3001 0 [s] [0]=Fl p.2.2.1 s:=by unfold Fl;rw [hls]
 refine Cc.mk (fun v=>v.2.1=p.1∧v.2.2.1=p.2.1∧v.2.2.2.1=p.2.2.1∧v.2.2.2.2.2.1=false∧ ∃k:Nat,v.1=k∧k≤v.2.2.2.2.2.2.2.2.2.1.length∧
   Oo p s.length v.2.2.2.2.2.2.2.2.2.1 v.2.2.2.2.2.2.2.2.2.2.1∧v.2.2.2.2.2.2.2.2.2.2.2.1=Rg v.2.2.2.2.2.2.2.2.2.1∧
   Hd p.2.2.1 ls (3001-k) k v.2.2.2.2.2.2.2.2.2.1 v.2.2.2.2.2.2.2.2.2.2.1=Fl p.2.2.1 s) (fun v=>3001-v.1.toNat)
  ⟨rfl,rfl,rfl,rfl,0,rfl,by simp,hb0,rfl,hstart⟩ ?_
 rintro ⟨k',n1,n2,n3,b0,wh,x1,x2,x3,L0,D0,S0,⟨⟩⟩ ⟨h1,h2,h3,h4,k,h5,h6,h7,h8,h9⟩
 dsimp only at h1 h2 h3 h4 h5 h6 h7 h8 h9
 subst h1 h2 h3 h4 h5 h8
 dsimp only
 have hL0:=h7.ok.few
 have hD0:=h7.len
 refine Br.dec (fun hl=>⟨rfl,rfl,rfl,rfl,rfl,rfl,rfl,rfl,rfl,rfl,rfl,rfl,?_⟩) fun hl=>?_
 ·have hk:k<L0.length:=by omega
  have hkD:k<D0.length:=by omega
  have hx: ∀y∈L0[k],0≤y∧y<p.1:=h7.row _ (List.getElem_mem hk)
  have hxl:L0[k].length=s.length:=h7.ok.len _ (List.getElem_mem hk)
  have hdk:=h7.dep k hkD
  obtain ⟨f,hf⟩: ∃f,3001-k=f+1:=⟨3000-k,by omega⟩
  have hgo: ∀L' D' ok,Fv p.2.2.1 L0[k] D0[k] ls L0 D0=(L',D',ok)→Fl p.2.2.1 s=if ok=true then Hd p.2.2.1 ls f (k+1) L' D' else (L',D',false):=by
   intro L' D' ok he
   rw [←h9,hf,Hd,if_pos hk,Lp hk,List.getD_eq_getElem?_getD,List.getElem?_eq_getElem hkD]
   simp only [Option.getD_some]
   rw [he]
   cases ok<;>rfl
  refine Cc.mk (fun v=>v.2.1=p.1∧v.2.2.1=p.2.1∧v.2.2.2.1=p.2.2.1∧v.2.2.2.2.2.1=false∧ ∃i:Nat,v.1=i∧i≤ls.length∧Oo p s.length v.2.2.2.2.2.2.2.2.2.1 v.2.2.2.2.2.2.2.2.2.2.1∧
    v.2.2.2.2.2.2.2.2.2.2.2.1=Rg v.2.2.2.2.2.2.2.2.2.1∧(∃A,v.2.2.2.2.2.2.2.2.2.1=L0++A)∧(∃A,v.2.2.2.2.2.2.2.2.2.2.1=D0++A)∧
    Fv p.2.2.1 L0[k] D0[k] (ls.drop i) v.2.2.2.2.2.2.2.2.2.1 v.2.2.2.2.2.2.2.2.2.2.1=Fv p.2.2.1 L0[k] D0[k] ls L0 D0) (fun v=>ls.length-v.1.toNat)
   ⟨rfl,rfl,rfl,rfl,0,rfl,Nat.zero_le _,h7,rfl,⟨[],by simp⟩,⟨[],by simp⟩,rfl⟩ ?_
  rintro ⟨i',m1,m2,m3,b1,wh1,y1,y2,y3,L,D,S,⟨⟩⟩ ⟨g1,g2,g3,g4,i,g5,g6,g7,g8,⟨A,g9⟩,⟨A',g10⟩,g11⟩
  dsimp only at g1 g2 g3 g4 g5 g6 g7 g8 g9 g10 g11
  subst g1 g2 g3 g4 g5 g8
  dsimp only
  have hLf:=g7.ok.few
  have hDl:=g7.len
  rw [Db L,Db D,Db (Rg L)]
  refine Br.dec (fun hli=>?_) fun hli=>?_
  ·have hi:i<ls.length:=by omega
   have hkL:k<L.length:=by rw [g9,List.length_append];omega
   have hLk:L[k]=L0[k]:=by simp only [g9];exact List.getElem_append_left hk
   have hkD2:k<D.length:=by rw [hDl];exact hkL
   have hDk:D[k]=D0[k]:=by simp only [g10];exact List.getElem_append_left hkD
   have hlet:=hmem _ (List.getElem_mem hi)
   obtain ⟨nl,nr⟩:=Aot hV hx hlet
   rw [List.drop_eq_getElem_cons hi] at g11
   simp only [Fv] at g11
   refine ⟨⟨by omega,by omega⟩,L0[k],by rw [Int.toNat_natCast,Nat.zero_add,List.getElem?_eq_getElem hkL,hLk],_,Aq hi,_,if_pos ⟨hv,by show L0[k].length≤20;omega,hx,hlet⟩,?_⟩
   dsimp only
   have hyl:(Aa L0[k] (Af p.2.2.1 ls[i])).length=s.length:=by rw [nl,hxl]
   refine ⟨_,if_pos (by show Cq (Aa L0[k] (Af p.2.2.1 ls[i])).length L (Rg L);rw [hyl];exact g7.ok),Br.dec (fun hin=>?_) fun hin=>?_⟩
   ·have hin:Aa L0[k] (Af p.2.2.1 ls[i])∈L:=Amo.1 hin
    rw [if_pos hin] at g11
    rw [Ak (by omega)]
    exact ⟨rfl,rfl,rfl,rfl,rfl,rfl,rfl,rfl,rfl,rfl,rfl,rfl,⟨rfl,rfl,rfl,rfl,i+1,rfl,hi,g7,rfl,⟨A,g9⟩,⟨A',g10⟩,g11⟩,by omega⟩
   ·have hin:Aa L0[k] (Af p.2.2.1 ls[i])∉L:=fun hh=>hin (Amo.2 hh)
    rw [if_neg hin] at g11
    refine ⟨fun hfull=>?_,fun hfull=>⟨⟨by omega,by omega⟩,D0[k],by rw [Int.toNat_natCast,Nat.zero_add,List.getElem?_eq_getElem hkD2,hDk],rfl,rfl,rfl,rfl,rfl,rfl,?_⟩⟩
    ·have hfull:L.length=3000:=by
      have:(L.length:Int)=3000:=by simpa using hfull
      omega
     rw [if_pos hfull] at g11
     have:=hgo _ _ _ g11.symm
     rw [if_neg (by decide)] at this
     unfold Gu
     rw [this]
    ·have hfull:L.length≠3000:=by
      have:(L.length:Int)≠3000:=by simpa using hfull
      omega
     rw [if_neg hfull] at g11
     rw [Bu (n:=D0[k]+1) (by omega) (by omega)]
     refine ⟨_,if_pos ⟨by show Cq (Aa L0[k] (Af p.2.2.1 ls[i])).length L (Rg L);rw [hyl];exact g7.ok,by show D.length≤3000;omega⟩,?_⟩
     dsimp only
     rw [Ak (by omega),←Wc]
     refine ⟨rfl,rfl,rfl,rfl,rfl,rfl,rfl,rfl,rfl,rfl,rfl,rfl,⟨rfl,rfl,rfl,rfl,i+1,rfl,hi,g7.add hin hyl (by omega) nr ⟨by omega,by omega⟩,rfl,⟨A++ [Aa L0[k] (Af p.2.2.1 ls[i])],by rw [g9,List.append_assoc]⟩,⟨A'++ [D0[k]+1],by rw [g10,List.append_assoc]⟩,g11⟩,by omega⟩
  ·have:i=ls.length:=by omega
   subst this
   rw [List.drop_length,Fv] at g11
   have:=hgo _ _ _ g11.symm
   rw [if_pos rfl] at this
   rw [Ak (by omega)]
   refine ⟨rfl,rfl,rfl,rfl,rfl,rfl,rfl,rfl,rfl,rfl,rfl,rfl,⟨rfl,rfl,rfl,rfl,k+1,rfl,by rw [g9,List.length_append];omega,g7,rfl,?_⟩,by omega⟩
   rw [show 3001-(k+1)=f by omega]
   exact this.symm
 ·have hk:k=L0.length:=by omega
  rw [Db L0,Db D0,Db (Rg L0)]
  obtain ⟨f,hf⟩: ∃f,3001-k=f+1:=⟨3000-k,by omega⟩
  rw [hf,Hd,if_neg (by omega)] at h9
  unfold Gu
  rw [←h9]
theorem At9:Sound Try.prog 105 Cu:=
 Sound.mkS Be3 (Ad Ajw (Ti Aw3 (Ad Ah7 (Ad Apk (Ad Aea As))))) mixed Try.func105 (by kernel_rfl) (by kernel_rfl) fun x h=>Bce x.1 x.2.1 h
end Go.Proofs.Ytebabhocakedaaa

namespace Go.Proofs.Ytebabhocakedaaa
open Go.RowKit
noncomputable def Af6 (p:PP) (t:List Int):Bool:=Be p&&Ei p.1 t
theorem Acw {p:PP} (hV:Valid p) {m:Nat} {x:List Int} {d:Int} (hx: ∀y∈x,0≤y∧y<p.1) (hxl:x.length=m): ∀(ls:List Int) (L:List (List Int)) (D:List Int),(∀l∈ls,Gb (List.length p.2.2.1) l)→
  Oo p m L D→(0≤d∧d<L.length)→Oo p m (Fv p.2.2.1 x d ls L D).1 (Fv p.2.2.1 x d ls L D).2.1∧(∃A,(Fv p.2.2.1 x d ls L D).1=L++A)∧(∃A,(Fv p.2.2.1 x d ls L D).2.1=D++A)
 | [],L,D,_,h,_=>⟨h,⟨[],by simp [Fv]⟩,⟨[],by simp [Fv]⟩⟩
 |l::ls,L,D,hl,h,hd=>by
  obtain ⟨n1,n2⟩:=Aot hV hx (hl l (by simp))
  have hl': ∀l∈ls,Gb (List.length p.2.2.1) l:=fun l' h'=>hl l' (List.mem_cons_of_mem _ h')
  simp only [Fv]
  split
  ·exact Acw hV hx hxl ls L D hl' h hd
  ·rename_i hn
   split
   ·exact ⟨h,⟨[],by simp⟩,⟨[],by simp⟩⟩
   ·rename_i hf
    have hfew:=h.ok.few
    obtain ⟨k1,⟨A,k2⟩,⟨A',k3⟩⟩:=Acw hV hx hxl ls (L++ [Aa x (Af p.2.2.1 l)]) (D++ [d+1]) hl' (h.add hn (by rw [n1,hxl]) (by omega) n2 ⟨by omega,by omega⟩) ⟨hd.1,by rw [List.length_append];omega⟩
    exact ⟨k1,⟨_::A,by rw [k2,List.append_assoc];rfl⟩,⟨_::A',by rw [k3,List.append_assoc];rfl⟩⟩
theorem Aqo {p:PP} (hV:Valid p) {m:Nat} {ls:List Int} (hl: ∀l∈ls,Gb (List.length p.2.2.1) l): ∀(f k:Nat) (L:List (List Int)) (D:List Int),Oo p m L D→
  Oo p m (Hd p.2.2.1 ls f k L D).1 (Hd p.2.2.1 ls f k L D).2.1∧(∃A,(Hd p.2.2.1 ls f k L D).1=L++A)
 |0,k,L,D,h=>⟨h,⟨[],by simp [Hd]⟩⟩
 |f+1,k,L,D,h=>by
  simp only [Hd]
  split
  ·rename_i hk
   have hkD:k<D.length:=by rw [h.len];exact hk
   have hd:=h.dep k hkD
   have e:D.getD k 0=D[k]:=by rw [List.getD_eq_getElem?_getD,List.getElem?_eq_getElem hkD];rfl
   rw [Lp hk,e]
   obtain ⟨k1,⟨A,k2⟩,_⟩:=Acw hV (h.row _ (List.getElem_mem hk)) (h.ok.len _ (List.getElem_mem hk)) (d:=D[k]) ls L D hl h ⟨by omega,by omega⟩
   split
   ·rename_i L' D' he
    rw [he] at k1 k2
    obtain ⟨g1,⟨B,g2⟩⟩:=Aqo hV hl f (k+1) L' D' k1
    have k2:L'=L++A:=k2
    exact ⟨g1,⟨A++B,by rw [g2,k2,List.append_assoc]⟩⟩
   ·rename_i L' D' he
    rw [he] at k1 k2
    exact ⟨k1,⟨A,k2⟩⟩
  ·exact ⟨h,⟨[],by simp⟩⟩
theorem Bdc {p:PP} {s:List Int} (hv:Be p=true) (hs:s.length≤20) (hr: ∀y∈s,0≤y∧y<p.1):Oo p s.length (Fl p.2.2.1 s).1 (Fl p.2.2.1 s).2.1∧ ∃A,(Fl p.2.2.1 s).1=s::A:=
 Aqo (valid hv) (fun _ hl=>Lf hl) _ _ _ _ (Zw hs hr)
theorem Agu {p:PP} {t:List Int} :Af6 p t=true↔Be p=true∧Ei p.1 t=true:=by
 unfold Af6;rw [Bool.and_eq_true]
theorem Ath {p:PP} {t:List Int} (h:Af6 p t=true):t.length≤20∧ ∀y∈t,0≤y∧y<p.1:=by
 obtain ⟨h1,h2⟩:=Agu.1 h
 have hn:=(valid h1).n
 obtain ⟨h3,h4⟩:=Em.1 h2
 have hy: ∀y∈t,0≤y∧y<p.1:=fun y hy=>by
  obtain ⟨j,hj,rfl⟩:=List.mem_iff_getElem.1 hy
  have:=h4 j hj hj
  omega
 refine ⟨?_,hy⟩
 have h5:=Avj h4 (t.length-1) (by omega)
 have h6:=hy _ (List.getElem_mem (show t.length-1<t.length by omega))
 omega
def Au2 (m:ByteArray→Option Bool) (L:List (List Int)):Prop:= ∀q,Me q→(m (Ju q)).getD false=decide (q∈L)
theorem Au2.add {m:ByteArray→Option Bool} {L:List (List Int)} {y:List Int} (h:Au2 m L) (hy:Me y):Au2 (Es m (Ju y) true) (L++ [y]):=by
 intro q hq
 unfold Es
 by_cases e:q=y
 ·subst e
  rw [if_pos rfl];simp
 ·rw [if_neg fun hk=>e (key_inj hq hy hk),h q hq]
  simp [e]
end Go.Proofs.Ytebabhocakedaaa
