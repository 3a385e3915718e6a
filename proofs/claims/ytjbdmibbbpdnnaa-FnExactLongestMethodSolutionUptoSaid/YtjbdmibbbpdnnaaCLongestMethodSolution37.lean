/-
  Part 38 of the proof that the statement FnExactLongestMethodSolution holds.
-/
import Derived.Test.YtjbdmibbbpdnnaaCLongestMethodSolution36
import Derived.KernelRfl
namespace Go.Proofs.Ytjbdmibbbpdnnaa
open Go.RowKit
def Hi (x a b:Int):Bool:=decide (a<=x/\x<=b)
def dv (n x:Int):Bool:=decide (0<=x/\x<=IntKind.i64.wrap (n-1))
def Lj (a b:List Int):Bool:=decide (a=b)
def Bi (xs:List Int) (x:Int):Bool:=decide (x∈xs)
def short (xs:List Int):Prop:=xs.length<=4294967296
noncomputable abbrev Bf:Spec:=Dg (.pair tI (.pair tI (.pair tI .unit))) .bool false true (λ_=>True) (λx=>Hi x.1 x.2.1 x.2.2.1)
noncomputable abbrev Tr:Spec:=Dg (.pair tI (.pair tI .unit)) .bool false true (λ_=>True) (λx=>dv x.1 x.2.1)
noncomputable abbrev Fl:Spec:=Dg (.pair tL (.pair tL .unit)) .bool false true (λx=>short x.1) (λx=>Lj x.1 x.2.1)
noncomputable abbrev Cv:Spec:=Dg (.pair tL (.pair tI .unit)) .bool false true (λx=>short x.1) (λx=>Bi x.1 x.2.1)
theorem FL (x a b:Int) (P:Bool->Prop):(Br (decide (x>=a)) (P (decide (x<=b))) (P false))=fnW Cu (look []) Bf Try.f93 (x,a,b,()) P:=by kernel_rfl
theorem LR (x a b:Int) (P:Bool->Prop):(Br (decide (x>=a)) (P (decide (x<=b))) (P false))=fnW Cu (look []) Bf Try.f97 (x,a,b,()) P:=by kernel_rfl
theorem FN (n x:Int) (P:Bool->Prop):(∃(y3:Bool),Bf.fn (x,0,IntKind.i64.wrap (n-1),())=some y3/\P y3)=fnW Cu (look [(97,Bf)]) Tr Try.f116 (n,x,()) P:=by kernel_rfl
theorem wW (a b:List Int) (P:Bool->Prop):(Br ((↑a.length:Int) !=(↑b.length:Int)) (P false) (Bj (λ(v3:Int×PUnit) (k4:Int×PUnit->Prop)=>Br (decide (v3.1<(↑a.length:Int))) (∃(y5:Int),idx a v3.1=some y5/\ ∃(y6:Int),idx b v3.1=some y6/\Br (y5 !=y6) (P false) (k4 (IntKind.i64.wrap (v3.1+1),()))) (P true)) (0,PUnit.unit)))=fnW Cu (look []) Fl Try.f105 (a,b,()) P:=by kernel_rfl
theorem pz (xs:List Int) (x:Int) (P:Bool->Prop):(Bj (λ(v3:Int×PUnit) (k4:Int×PUnit->Prop)=>Br (decide (v3.1<(↑xs.length:Int))) (∃(y5:Int),idx xs v3.1=some y5/\Br (y5==x) (P true) (k4 (IntKind.i64.wrap (v3.1+1),()))) (P false)) (0,PUnit.unit))=fnW Cu (look []) Cv Try.f153 (xs,x,()) P:=by kernel_rfl
theorem DG (x a b:Int) (_:True):fnW Cu (look []) Bf Try.f93 (x,a,b,()) (λ(z:Bool)=>z=Hi x a b):=by
 refine Eq.mp (FL x a b _) ?_
 refine Br.dec (λh=>?_) λh=>?_
 ·have h:a<=x:=h
  simp [Hi,h]
 ·exact (decide_eq_false λhh=>h hh.1).symm
theorem Rc:Sound Try.prog 93 Bf:=
 Sound.Dg Bu At mixed Try.func93 (by kernel_rfl) (by kernel_rfl) λx h=>DG x.1 x.2.1 x.2.2.1 h
theorem JW (x a b:Int) (_:True):fnW Cu (look []) Bf Try.f97 (x,a,b,()) (λ(z:Bool)=>z=Hi x a b):=by
 refine Eq.mp (LR x a b _) ?_
 refine Br.dec (λh=>?_) λh=>?_
 ·have h:a<=x:=h
  simp [Hi,h]
 ·exact (decide_eq_false λhh=>h hh.1).symm
theorem Ma:Sound Try.prog 97 Bf:=
 Sound.Dg Bu At mixed Try.func97 (by kernel_rfl) (by kernel_rfl) λx h=>JW x.1 x.2.1 x.2.2.1 h
theorem DJ (n x:Int) (_:True):fnW Cu (look [(97,Bf)]) Tr Try.f116 (n,x,()) (λ(z:Bool)=>z=dv n x):=
 Eq.mp (FN n x _) ⟨_,if_pos trivial,rfl⟩
theorem ph:Sound Try.prog 116 Tr:=
 Sound.Dg Bu (Ah Ma At) mixed Try.func116 (by kernel_rfl) (by kernel_rfl) λx h=>DJ x.1 x.2.1 h
theorem oU (xs:List Int) (x:Int) (h:short xs):fnW Cu (look []) Cv Try.f153 (xs,x,()) (λ(z:Bool)=>z=Bi xs x):=by
 refine Eq.mp (pz xs x _) ?_
 unfold short at h
 refine Am xs.length (λv=>v.1) (λj _=>x∉xs.take j) rfl (by simp) ?_
 rintro j ⟨i,⟨⟩⟩ K hj hi hR hK
 dsimp only at hi⊢
 subst hi
 refine Br.dec (λhl=>?_) λhl=>?_
 ·have hl:j<xs.length:=by omega
  refine ⟨_,Ap hl,⟨λhe=>?_,λhe=>?_⟩⟩
  ·have hm:=List.getElem_mem hl
   simp only [beq_iff_eq] at he
   rw [he] at hm
   exact (decide_eq_true hm).symm
  ·rw [Ak (by omega)]
   refine hK hl _ rfl ?_
   simp only [beq_eq_false_iff_ne,ne_eq] at he
   rw [List.take_succ_eq_append_getElem hl]
   simp only [List.mem_append,List.mem_singleton,not_or]
   exact ⟨hR,λhx=>he hx.symm⟩
 ·have:j=xs.length:=by omega
  subst this
  rw [List.take_length] at hR
  exact (decide_eq_false hR).symm
theorem Wh:Sound Try.prog 153 Cv:=
 Sound.Dg Bu At mixed Try.func153 (by kernel_rfl) (by kernel_rfl) λx h=>oU x.1 x.2.1 h
theorem zM (a b:List Int) (hlen:a.length=b.length) (h:short a):
  Bj (λ(v3:Int×PUnit) (k4:Int×PUnit->Prop)=>
   Br (decide (v3.1<(↑a.length:Int))) (∃(y5:Int),idx a v3.1=some y5/\ ∃(y6:Int),idx b v3.1=some y6/\Br (y5 !=y6) (false=Lj a b) (k4 (IntKind.i64.wrap (v3.1+1),())))
    (true=Lj a b))
  (0,PUnit.unit):=by
 unfold short at h
 refine Am a.length (λv=>v.1) (λj _=>a.take j=b.take j) rfl (by simp) ?_
 rintro j ⟨i,⟨⟩⟩ K hj hi hR hK
 dsimp only at hi⊢
 subst hi
 refine Br.dec (λhl=>?_) λhl=>?_
 ·have jZ:j<a.length:=by omega
  have kU:j<b.length:=by omega
  refine ⟨_,Ap jZ,_,Ap kU,⟨λhe=>?_,λhe=>?_⟩⟩
  ·simp only [bne_iff_ne,ne_eq] at he
   refine (decide_eq_false λoC=>he ?_).symm
   subst oC
   rfl
  ·rw [Ak (by omega)]
   refine hK jZ _ rfl ?_
   simp only [bne_eq_false_iff_eq] at he
   rw [List.take_succ_eq_append_getElem jZ,List.take_succ_eq_append_getElem kU,hR,he]
 ·have BY:j=a.length:=by omega
  subst BY
  rw [List.take_length,hlen,List.take_length] at hR
  exact (decide_eq_true hR).symm
theorem w8 (a b:List Int) (h:short a):fnW Cu (look []) Fl Try.f105 (a,b,()) (λ(z:Bool)=>z=Lj a b):=by
 refine Eq.mp (wW a b _) ⟨λhl=>?_,λhl=>?_⟩
 ·simp only [bne_iff_ne,ne_eq,Int.natCast_inj] at hl
  exact (decide_eq_false λoC=>hl (by rw [oC])).symm
 ·simp only [bne_eq_false_iff_eq,Int.natCast_inj] at hl
  exact zM a b hl h
theorem l4:Sound Try.prog 105 Fl:=
 Sound.Dg Bu At mixed Try.func105 (by kernel_rfl) (by kernel_rfl) λx h=>w8 x.1 x.2.1 h
end Go.Proofs.Ytjbdmibbbpdnnaa

namespace Go.Proofs.Ytjbdmibbbpdnnaa
open Go.RowKit
def Du (xs:List (List Int)):Prop:=xs.length<=4294967296/\ ∀r∈xs,short r
def roomy (room:Int):Prop:=0<=room/\room<=4294967296
def jd (n:Nat) (room:Int):Int:=if room-n<0 then-1 else room-n
def gY (xs:List Int) (room:Int):Int:=jd xs.length room
def nW:List (List Int)->Int->Int
 | [],room=>room
 |r::rs,room=>if gY r room<0 then-1 else nW rs (gY r room)
def Jl (xs:List (List Int)) (room:Int):Int:=if jd xs.length room<0 then-1 else nW xs (jd xs.length room)
def fC (a b:List (List Int)):Bool:=decide (a=b)
noncomputable abbrev qL:Spec:=Dg (.pair tL (.pair tI .unit)) tI false true (λx=>short x.1/\roomy x.2.1) (λx=>gY x.1 x.2.1)
noncomputable abbrev ao:Spec:=Dg (.pair dP (.pair tI .unit)) tI false true (λx=>Du x.1/\roomy x.2.1) (λx=>Jl x.1 x.2.1)
noncomputable abbrev qN:Spec:=Dg (.pair tL .unit) tL false true (λx=>short x.1) (λx=>x.1)
noncomputable abbrev Vb:Spec:=Dg (.pair dP .unit) dP false true (λx=>Du x.1) (λx=>x.1)
noncomputable abbrev al:Spec:=Dg (.pair dP (.pair dP .unit)) .bool false true (λx=>Du x.1) (λx=>fC x.1 x.2.1)
theorem Abs (xs:List Int) (room:Int) (P:Int->Prop):(Br (decide (IntKind.i64.wrap (room-(↑xs.length:Int))<0)) (P (-1)) (P (IntKind.i64.wrap (room-(↑xs.length:Int)))))=fnW Cu (look []) qL Try.f74 (xs,room,()) P:=by kernel_rfl
theorem WJ (xs:List (List Int)) (room:Int) (P:Int->Prop):(Br (decide (IntKind.i64.wrap (room-(↑xs.length:Int))<0)) (P (-1)) (Bj (λ(v3:Int×Int×PUnit) (k4:Int×Int×PUnit->Prop)=>Br (decide (v3.2.1<(↑xs.length:Int))) (∃(y5:List Int),idx xs v3.2.1=some y5/\ ∃(y6:Int),qL.fn (y5,v3.1,())=some y6/\Br (decide (y6<0)) (P (-1)) (k4 (y6,IntKind.i64.wrap (v3.2.1+1),()))) (P v3.1)) (IntKind.i64.wrap (room-(↑xs.length:Int)),0,PUnit.unit)))=fnW Cu (look [(74,qL)]) ao Try.f34 (xs,room,()) P:=by kernel_rfl
theorem Abu (xs:List Int) (P:List Int->Prop):((0<=(↑xs.length:Int)/\(↑xs.length:Int)<(↑Bo:Int)+1)/\(↑xs.length:Int)=(↑xs.length:Int)/\0=0/\(List.replicate (↑xs.length:Int).toNat (Int.ofNat 0)).length=(List.replicate (↑xs.length:Int).toNat (Int.ofNat 0)).length/\Bj (λ(v2:Int×List Int×PUnit) (k3:Int×List Int×PUnit->Prop)=>Br (decide (v2.1<(↑xs.length:Int))) (∃(y4:Int),idx xs v2.1=some y4/\(0<=v2.1/\v2.1<(↑v2.2.1.length:Int))/\0+v2.1.toNat<v2.2.1.length/\0=0/\v2.2.1.length=(v2.2.1.set (0+v2.1.toNat) y4).length/\k3 (IntKind.i64.wrap (v2.1+1),v2.2.1.set (0+v2.1.toNat) y4,())) (P (List.take v2.2.1.length (List.drop 0 v2.2.1)))) (0,List.replicate (↑xs.length:Int).toNat (Int.ofNat 0),PUnit.unit))=fnW Cu (look []) qN Try.f17 (xs,()) P:=by kernel_rfl
theorem WK (xs:List (List Int)) (P:List (List Int)->Prop):((0<=(↑xs.length:Int)/\(↑xs.length:Int)<(↑Bo:Int)+1)/\(↑xs.length:Int)=(↑xs.length:Int)/\0=0/\(List.replicate (↑xs.length:Int).toNat ([]:List Int)).length=(List.replicate (↑xs.length:Int).toNat ([]:List Int)).length/\Bj (λ(v2:Int×List (List Int)×PUnit) (k3:Int×List (List Int)×PUnit->Prop)=>Br (decide (v2.1<(↑xs.length:Int))) (∃(y4:List Int),idx xs v2.1=some y4/\ ∃(y5:List Int),qN.fn (y4,())=some y5/\(0<=v2.1/\v2.1<(↑v2.2.1.length:Int))/\0+v2.1.toNat<v2.2.1.length/\0=0/\v2.2.1.length=(v2.2.1.set (0+v2.1.toNat) y5).length/\k3 (IntKind.i64.wrap (v2.1+1),v2.2.1.set (0+v2.1.toNat) y5,())) (P (List.take v2.2.1.length (List.drop 0 v2.2.1)))) (0,List.replicate (↑xs.length:Int).toNat ([]:List Int),PUnit.unit))=fnW Cu (look [(17,qN)]) Vb Try.f36 (xs,()) P:=by kernel_rfl
theorem Abk (a b:List Int) (P:Bool->Prop):(Br ((↑a.length:Int) !=(↑b.length:Int)) (P false) (Bj (λ(v3:Int×PUnit) (k4:Int×PUnit->Prop)=>Br (decide (v3.1<(↑a.length:Int))) (∃(y5:Int),idx a v3.1=some y5/\ ∃(y6:Int),idx b v3.1=some y6/\Br (y5 !=y6) (P false) (k4 (IntKind.i64.wrap (v3.1+1),()))) (P true)) (0,PUnit.unit)))=fnW Cu (look []) Fl Try.f20 (a,b,()) P:=by kernel_rfl
theorem WA (a b:List (List Int)) (P:Bool->Prop):(Br ((↑a.length:Int) !=(↑b.length:Int)) (P false) (Bj (λ(v3:Int×PUnit) (k4:Int×PUnit->Prop)=>Br (decide (v3.1<(↑a.length:Int))) (∃(y5:List Int),idx a v3.1=some y5/\ ∃(y6:List Int),idx b v3.1=some y6/\ ∃(y7:Bool),Fl.fn (y5,y6,())=some y7/\Br (!y7) (P false) (k4 (IntKind.i64.wrap (v3.1+1),()))) (P true)) (0,PUnit.unit)))=fnW Cu (look [(20,Fl)]) al Try.f38 (a,b,()) P:=by kernel_rfl
theorem je {n:Nat} {room:Int} (h:roomy room) (h2: ¬jd n room<0):roomy (jd n room):=by
 unfold jd roomy at*
 split at h2<;>simp_all
 omega
theorem Ab2 (xs:List Int) (room:Int) (h:short xs/\roomy room):fnW Cu (look []) qL Try.f74 (xs,room,()) (λ(z:Int)=>z=gY xs room):=by
 obtain ⟨h1,h2,h3⟩:=h
 unfold short at h1
 refine Eq.mp (Abs xs room _) ?_
 rw [Bs (by omega) (by omega)]
 refine Br.dec (λh=>?_) λh=>?_
 ·simp only [gY,jd,if_pos h]
 ·simp only [gY,jd,if_neg h]
theorem ER:Sound Try.prog 74 qL:=
 Sound.Dg Bu At mixed Try.func74 (by kernel_rfl) (by kernel_rfl) λx h=>Ab2 x.1 x.2.1 h
theorem VK (xs:List (List Int)) (room:Int) (h:Du xs/\roomy room):fnW Cu (look [(74,qL)]) ao Try.f34 (xs,room,()) (λ(z:Int)=>z=Jl xs room):=by
 obtain ⟨⟨h1,h4⟩,h2,h3⟩:=h
 refine Eq.mp (WJ xs room _) ?_
 rw [Bs (by omega) (by omega)]
 refine Br.dec (λh=>?_) λh=>?_
 ·simp only [Jl,jd,if_pos h];rfl
 ·refine Am xs.length (λv=>v.2.1) (λj v=>roomy v.1/\nW (xs.drop j) v.1=Jl xs room) rfl ?_ ?_
  ·refine ⟨by unfold roomy;omega,?_⟩
   simp only [Jl,jd,if_neg h,List.drop_zero]
  ·rintro j ⟨r,i,⟨⟩⟩ K hj hi ⟨hr,hR⟩ hK
   dsimp only at hi hr hR⊢
   subst hi
   refine Br.dec (λhl=>?_) λhl=>?_
   ·have hl:j<xs.length:=by omega
    have hd:xs.drop j=xs[j]::xs.drop (j+1):=List.drop_eq_getElem_cons hl
    refine ⟨_,Ap hl,_,if_pos ⟨h4 _ (List.getElem_mem hl),hr⟩,?_⟩
    rw [hd] at hR
    simp only [nW] at hR
    refine Br.dec (λhn=>?_) λhn=>?_
    ·have hn:gY xs[j] r<0:=hn
     rw [if_pos hn] at hR
     exact hR
    ·have hn: ¬gY xs[j] r<0:=hn
     rw [if_neg hn] at hR
     rw [Ak (by omega)]
     exact hK hl _ rfl ⟨je hr hn,hR⟩
   ·have:j=xs.length:=by omega
    subst this
    rw [List.drop_length] at hR
    exact hR
theorem nN:Sound Try.prog 34 ao:=
 Sound.Dg Bu (Ah ER At) mixed Try.func34 (by kernel_rfl) (by kernel_rfl) λx h=>VK x.1 x.2.1 h
theorem qQ: ∀(xs:List (List Int)) (room:Int),roomy room-> ¬nW xs room<0->roomy (nW xs room)
 | [],room,h,_=>h
 |r::rs,room,h,h2=>by
  simp only [nW] at h2⊢
  split
  ·rename_i hn;rw [if_pos hn] at h2;exact absurd (show (-1:Int)<0 by decide) h2
  ·rename_i hn;rw [if_neg hn] at h2;exact qQ rs _ (je h hn) h2
theorem vI {xs:List (List Int)} {room:Int} (h:roomy room) (h2: ¬Jl xs room<0):roomy (Jl xs room):=by
 unfold Jl at*
 split
 ·rename_i hn;rw [if_pos hn] at h2;exact absurd (show (-1:Int)<0 by decide) h2
 ·rename_i hn;rw [if_neg hn] at h2;exact qQ _ _ (je h hn) h2
theorem Rd {α:Type} {ys xs:List α} {j:Nat} (h:j<xs.length) (hl:ys.length=xs.length) (ht:ys.take j=xs.take j):(ys.set j xs[j]).take (j+1)=xs.take (j+1):=by
 have h1:j<(ys.set j xs[j]).length:=by rw [List.length_set];omega
 rw [List.take_succ_eq_append_getElem h1,List.take_succ_eq_append_getElem h,List.getElem_set_self,List.take_set_of_le (Nat.le_refl j),ht]
theorem Ab4 (xs:List Int) (h:short xs):fnW Cu (look []) qN Try.f17 (xs,()) (λ(z:List Int)=>z=xs):=by
 unfold short at h
 refine Eq.mp (Abu xs _) ?_
 refine ⟨⟨by omega,by show (xs.length:Int)<(4294967296:Int)+1;omega⟩,rfl,rfl,rfl,?_⟩
 refine Am xs.length (λv=>v.1) (λj v=>v.2.1.length=xs.length/\v.2.1.take j=xs.take j) rfl ⟨by simp,by simp⟩ ?_
 rintro j ⟨i,ys,⟨⟩⟩ K hj hi ⟨h1,h2⟩ hK
 dsimp only at hi h1 h2⊢
 subst hi
 refine Br.dec (λhl=>?_) λhl=>?_
 ·have hl:j<xs.length:=by omega
  refine ⟨_,Ap hl,⟨by omega,by omega⟩,by rw [Int.toNat_natCast];omega,rfl,by rw [List.length_set],?_⟩
  rw [Ak (by omega),Int.toNat_natCast,Nat.zero_add]
  exact hK hl _ rfl ⟨by rw [List.length_set];exact h1,Rd hl h1 h2⟩
 ·have:j=xs.length:=by omega
  subst this
  rw [List.take_length,<-h1,List.take_length] at h2
  rw [List.drop_zero,List.take_length]
  exact h2
theorem ET:Sound Try.prog 17 qN:=
 Sound.Dg Bu At mixed Try.func17 (by kernel_rfl) (by kernel_rfl) λx h=>Ab4 x.1 h
theorem VL (xs:List (List Int)) (h:Du xs):fnW Cu (look [(17,qN)]) Vb Try.f36 (xs,()) (λ(z:List (List Int))=>z=xs):=by
 obtain ⟨h,h4⟩:=h
 refine Eq.mp (WK xs _) ?_
 refine ⟨⟨by omega,by show (xs.length:Int)<(4294967296:Int)+1;omega⟩,rfl,rfl,rfl,?_⟩
 refine Am xs.length (λv=>v.1) (λj v=>v.2.1.length=xs.length/\v.2.1.take j=xs.take j) rfl ⟨by simp,by simp⟩ ?_
 rintro j ⟨i,ys,⟨⟩⟩ K hj hi ⟨h1,h2⟩ hK
 dsimp only at hi h1 h2⊢
 subst hi
 refine Br.dec (λhl=>?_) λhl=>?_
 ·have hl:j<xs.length:=by omega
  refine ⟨_,Ap hl,_,if_pos (h4 _ (List.getElem_mem hl)),⟨by omega,by omega⟩,by rw [Int.toNat_natCast];omega,rfl,by rw [List.length_set],?_⟩
  rw [Ak (by omega),Int.toNat_natCast,Nat.zero_add]
  exact hK hl _ rfl ⟨by rw [List.length_set];exact h1,Rd hl h1 h2⟩
 ·have:j=xs.length:=by omega
  subst this
  rw [List.take_length,<-h1,List.take_length] at h2
  rw [List.drop_zero,List.take_length]
  exact h2
theorem nO:Sound Try.prog 36 Vb:=
 Sound.Dg Bu (Ah ET At) mixed Try.func36 (by kernel_rfl) (by kernel_rfl) λx h=>VL x.1 h
theorem Aau (a b:List Int) (h:short a):fnW Cu (look []) Fl Try.f20 (a,b,()) (λ(z:Bool)=>z=Lj a b):=by
 refine Eq.mp (Abk a b _) ⟨λhl=>?_,λhl=>?_⟩
 ·simp only [bne_iff_ne,ne_eq,Int.natCast_inj] at hl
  exact (decide_eq_false λoC=>hl (by rw [oC])).symm
 ·simp only [bne_eq_false_iff_eq,Int.natCast_inj] at hl
  exact zM a b hl h
theorem EI:Sound Try.prog 20 Fl:=
 Sound.Dg Bu At mixed Try.func20 (by kernel_rfl) (by kernel_rfl) λx h=>Aau x.1 x.2.1 h
theorem VC (a b:List (List Int)) (h:Du a):fnW Cu (look [(20,Fl)]) al Try.f38 (a,b,()) (λ(z:Bool)=>z=fC a b):=by
 obtain ⟨h,h4⟩:=h
 refine Eq.mp (WA a b _) ⟨λhl=>?_,λhl=>?_⟩
 ·simp only [bne_iff_ne,ne_eq,Int.natCast_inj] at hl
  exact (decide_eq_false λoC=>hl (by rw [oC])).symm
 ·simp only [bne_eq_false_iff_eq,Int.natCast_inj] at hl
  refine Am a.length (λv=>v.1) (λj _=>a.take j=b.take j) rfl (by simp) ?_
  rintro j ⟨i,⟨⟩⟩ K hj hi hR hK
  dsimp only at hi⊢
  subst hi
  refine Br.dec (λHo=>?_) λHo=>?_
  ·have jZ:j<a.length:=by omega
   have kU:j<b.length:=by omega
   refine ⟨_,Ap jZ,_,Ap kU,_,if_pos (h4 _ (List.getElem_mem jZ)),⟨λhe=>?_,λhe=>?_⟩⟩
   ·refine (decide_eq_false λoC=>?_).symm
    subst oC
    simp [Lj] at he
   ·rw [Ak (by omega)]
    refine hK jZ _ rfl ?_
    simp only [Lj,Bool.not_eq_false',decide_eq_true_eq] at he
    rw [List.take_succ_eq_append_getElem jZ,List.take_succ_eq_append_getElem kU,hR]
    exact congrArg (λx=>List.take j b++ [x]) he
  ·have BY:j=a.length:=by omega
   subst BY
   rw [List.take_length,hl,List.take_length] at hR
   exact (decide_eq_true hR).symm
theorem nC:Sound Try.prog 38 al:=
 Sound.Dg Bu (Ah EI At) mixed Try.func38 (by kernel_rfl) (by kernel_rfl) λx h=>VC x.1 x.2.1 h
end Go.Proofs.Ytjbdmibbbpdnnaa

namespace Go.Proofs.Ytjbdmibbbpdnnaa
open Go.RowKit
def Qz:List Int->Int->Int->Int
 | [],_,_=> -1
 |y::r,x,i=>if y=x then i else Qz r x (i+1)
noncomputable abbrev dC:Spec:=Dg (.pair tL (.pair tI .unit)) tI false true (λx=>short x.1) (λx=>Qz x.1 x.2.1 0)
def PL (n:Int) (xs:List Int) (k:Nat):Prop:= ∀j (h:j<xs.length),j<k->0<=xs[j]/\xs[j]<=n-1/\(0<j->xs[j-1]<xs[j])
def DL (n:Int) (xs:List Int) (k:Nat):Prop:= ∀j (h:j<xs.length),j<k->0<=xs[j]/\xs[j]<=n-1/\xs[j]∉xs.take j
noncomputable def dec (p:Prop):Bool:= @decide p (Classical.propDecidable p)
theorem Kf {p:Prop} (h:p):true=dec p:=(@decide_eq_true p (Classical.propDecidable p) h).symm
theorem Aw {p:Prop} (h: ¬p):false=dec p:=(@decide_eq_false p (Classical.propDecidable p) h).symm
theorem Gm {p:Prop} :dec p=true↔p:= @decide_eq_true_iff p (Classical.propDecidable p)
theorem MQ {p:Prop} :dec p=false↔ ¬p:= @decide_eq_false_iff_not p (Classical.propDecidable p)
def UX (n:Int):Prop:=0<=n/\n<=4294967296
noncomputable def Fa (n:Int) (xs:List Int):Bool:=dec (0<xs.length/\PL n xs xs.length)
noncomputable abbrev Fm:Spec:=Dg (.pair tI (.pair tL .unit)) .bool false true (λx=>UX x.1/\short x.2.1) (λx=>Fa x.1 x.2.1)
noncomputable abbrev Mz:Spec:=Dg (.pair dP .unit) tI false true (λ_=>True) (λx=>(List.length x.1:Int))
theorem PW (xs:List Int) (x:Int) (P:Int->Prop):(Bj (λ(v3:Int×PUnit) (k4:Int×PUnit->Prop)=>Br (decide (v3.1<(↑xs.length:Int))) (∃(y5:Int),idx xs v3.1=some y5/\Br (x==y5) (P v3.1) (k4 (IntKind.i64.wrap (v3.1+(1:Int)),()))) (P (-1:Int))) ((0:Int),PUnit.unit))=fnW Cu (look []) dC Try.f160 (xs,x,()) P:=by kernel_rfl
theorem zl (xs:List Int) (x:Int) (P:Bool->Prop):(∃(y3:Int),dC.fn (xs,x,())=some y3/\P (decide (y3>=(0:Int))))=fnW Cu (look [(160,dC)]) Cv Try.f133 (xs,x,()) P:=by kernel_rfl
theorem pC (n:Int) (xs:List Int) (P:Bool->Prop):(∃(y3:Bool),Bf.fn ((↑xs.length:Int),(1:Int),n,())=some y3/\Br (!y3) (P false) (Bj (λ(v4:Int×PUnit) (k5:Int×PUnit->Prop)=>Br (decide (v4.1<(↑xs.length:Int))) (∃(y6:Int),idx xs v4.1=some y6/\ ∃(y7:Bool),Bf.fn (y6,(0:Int),IntKind.i64.wrap (n-(1:Int)),())=some y7/\Br (!y7) (P false) (Br (decide (v4.1>(0:Int))) (∃(y8:Int),idx xs v4.1=some y8/\ ∃(y9:Int),idx xs (IntKind.i64.wrap (v4.1-(1:Int)))=some y9/\Br (decide (y8<=y9)) (P false) (k5 (IntKind.i64.wrap (v4.1+(1:Int)),()))) (k5 (IntKind.i64.wrap (v4.1+(1:Int)),())))) (P true)) ((0:Int),PUnit.unit)))=fnW Cu (look [(93,Bf)]) Fm Try.f111 (n,xs,()) P:=by kernel_rfl
theorem wY (n:Int) (xs:List Int) (P:Bool->Prop):(Bj (λ(v3:Int×PUnit) (k4:Int×PUnit->Prop)=>Br (decide (v3.1<(↑xs.length:Int))) (∃(y5:Int),idx xs v3.1=some y5/\ ∃(y6:Bool),Tr.fn (n,y5,())=some y6/\Br (!y6) (P false) (Br (decide (v3.1>(0:Int))) (∃(y7:Int),idx xs (IntKind.i64.wrap (v3.1-(1:Int)))=some y7/\Br (decide (y7>=y5)) (P false) (k4 (IntKind.i64.wrap (v3.1+(1:Int)),()))) (k4 (IntKind.i64.wrap (v3.1+(1:Int)),())))) (P (decide ((↑xs.length:Int)>(0:Int))))) ((0:Int),PUnit.unit))=fnW Cu (look [(116,Tr)]) Fm Try.f66 (n,xs,()) P:=by kernel_rfl
theorem PX (xs:List (List Int)) (P:Int->Prop):(P (↑xs.length:Int))=fnW Cu (look []) Mz Try.f58 (xs,()) P:=by kernel_rfl
theorem km: ∀(xs:List Int) (x i:Int),0<=i->(Qz xs x i<0↔x∉xs)
 | [],x,i,_=>by simp [Qz]
 |y::r,x,i,h=>by
  simp only [Qz]
  split
  ·rename_i hy;subst hy;simp;omega
  ·rename_i hy
   rw [km r x (i+1) (by omega)]
   simp only [List.mem_cons,not_or]
   exact ⟨λh=>⟨λe=>hy e.symm,h⟩,λh=>h.2⟩
theorem OU (xs:List Int) (x:Int) (h:short xs):fnW Cu (look []) dC Try.f160 (xs,x,()) (λ(z:Int)=>z=Qz xs x 0):=by
 unfold short at h
 refine Eq.mp (PW xs x _) ?_
 refine Am xs.length (λv=>v.1) (λj _=>Qz (xs.drop j) x j=Qz xs x 0) rfl (by simp) ?_
 rintro j ⟨i,⟨⟩⟩ K hj hi hR hK
 dsimp only at hi⊢
 subst hi
 refine Br.dec (λhl=>?_) λhl=>?_
 ·have hl:j<xs.length:=by omega
  rw [List.drop_eq_getElem_cons hl] at hR
  simp only [Qz] at hR
  refine ⟨_,Ap hl,⟨λhe=>?_,λhe=>?_⟩⟩
  ·simp only [beq_iff_eq] at he
   rw [if_pos he.symm] at hR
   exact hR
  ·simp only [beq_eq_false_iff_ne,ne_eq] at he
   rw [if_neg (λe=>he e.symm)] at hR
   rw [Ak (by omega)]
   exact hK hl _ rfl (by push_cast;exact hR)
 ·have:j=xs.length:=by omega
  subst this
  rw [List.drop_length] at hR
  exact hR
theorem wD:Sound Try.prog 160 dC:=
 Sound.Dg Bu At mixed Try.func160 (by kernel_rfl) (by kernel_rfl) λx h=>OU x.1 x.2.1 h
theorem yA (xs:List Int) (x:Int) (h:short xs):fnW Cu (look [(160,dC)]) Cv Try.f133 (xs,x,()) (λ(z:Bool)=>z=Bi xs x):=by
 refine Eq.mp (zl xs x _) ⟨_,if_pos h,?_⟩
 have:=km xs x 0 (Int.le_refl 0)
 show decide (Qz xs x 0>=0)=decide (x∈xs)
 by_cases hx:x∈xs
 ·rw [decide_eq_true hx]
  exact decide_eq_true (by have:=mt this.1 (λh=>h hx);omega)
 ·rw [decide_eq_false hx]
  exact decide_eq_false (by have:=this.2 hx;omega)
theorem nB:Sound Try.prog 133 Cv:=
 Sound.Dg Bu (Ah wD At) mixed Try.func133 (by kernel_rfl) (by kernel_rfl) λx h=>yA x.1 x.2.1 h
theorem OV (xs:List (List Int)) (_:True):fnW Cu (look []) Mz Try.f58 (xs,()) (λ(z:Int)=>z=(xs.length:Int)):=Eq.mp (PX xs _) rfl
theorem cO:Sound Try.prog 58 Mz:=
 Sound.Dg Bu At mixed Try.func58 (by kernel_rfl) (by kernel_rfl) λx h=>OV x.1 h
theorem ko {n x:Int} (hn:UX n):dv n x=true↔0<=x/\x<=n-1:=by
 unfold dv UX at*
 rw [Bs (by omega) (by omega),decide_eq_true_iff]
theorem Ca {x a b:Int} :Hi x a b=true↔a<=x/\x<=b:=decide_eq_true_iff
theorem Cs {b:Bool} (h:(!b)=true): ¬b=true:=by cases b<;>simp_all
theorem Db {b:Bool} (h:(!b)=false):b=true:=by cases b<;>simp_all
theorem yK {n:Int} {xs:List Int} (h:PL n xs xs.length): ∀j (hj:j<xs.length),(j:Int)<=xs[j]
 |0,hj=>(h 0 hj hj).1
 |j+1,hj=>by
  have h1:=yK h j (by omega)
  have h2:=(h (j+1) hj hj).2.2 (by omega)
  simp only [Nat.add_sub_cancel] at h2
  omega
theorem ly {n:Int} {xs:List Int} {j:Nat} (hl:j<xs.length) (h:PL n xs j) (h1:0<=xs[j]) (h2:xs[j]<=n-1) (h3:0<j->xs[j-1]<xs[j]):PL n xs (j+1):=by
 intro i hi j4
 by_cases e:i=j
 ·subst e;exact ⟨h1,h2,h3⟩
 ·exact h i hi (by omega)
theorem wa (n:Int) (xs:List Int) (h:UX n/\short xs):fnW Cu (look [(116,Tr)]) Fm Try.f66 (n,xs,()) (λ(z:Bool)=>z=Fa n xs):=by
 obtain ⟨hn,h⟩:=h
 unfold short at h
 refine Eq.mp (wY n xs _) ?_
 refine Am xs.length (λv=>v.1) (λj _=>PL n xs j) rfl (λj _ hj=>absurd hj (Nat.not_lt_zero _)) ?_
 rintro j ⟨i,⟨⟩⟩ K hj hi hR hK
 dsimp only at hi⊢
 subst hi
 refine Br.dec (λhl=>?_) λhl=>?_
 ·have hl:j<xs.length:=by omega
  refine ⟨_,Ap hl,_,if_pos trivial,⟨λhp=>?_,λhp=>?_⟩⟩
  ·have hp:=Cs hp
   rw [ko hn] at hp
   exact Aw λhh=>hp ⟨(hh.2 j hl hl).1,(hh.2 j hl hl).2.1⟩
  ·have hp:=Db hp
   rw [ko hn] at hp
   refine Br.dec (λh0=>?_) λh0=>?_
   ·have h0:0<j:=by omega
    rw [Bs (by omega) (by omega),show (j:Int)-1=((j-1:Nat):Int) by omega]
    refine ⟨_,Ap (by omega),Br.dec (λhg=>?_) λhg=>?_⟩
    ·exact Aw λhh=>by have:=(hh.2 j hl hl).2.2 h0;omega
    ·rw [Ak (by omega)]
     exact hK hl _ rfl (ly hl hR hp.1 hp.2 λ_=>by omega)
   ·have h0:j=0:=by omega
    rw [Ak (by omega)]
    exact hK hl _ rfl (ly hl hR hp.1 hp.2 λh=>by omega)
 ·have:j=xs.length:=by omega
  subst this
  by_cases h0:0<xs.length
  ·rw [decide_eq_true (show (xs.length:Int)>0 by omega)];exact Kf ⟨h0,hR⟩
  ·rw [decide_eq_false (show ¬(xs.length:Int)>0 by omega)];exact Aw λhh=>h0 hh.1
theorem l6:Sound Try.prog 66 Fm:=
 Sound.Dg Bu (Ah ph At) mixed Try.func66 (by kernel_rfl) (by kernel_rfl) λx h=>wa x.1 x.2.1 h
theorem oX (n:Int) (xs:List Int) (h:UX n/\short xs):fnW Cu (look [(93,Bf)]) Fm Try.f111 (n,xs,()) (λ(z:Bool)=>z=Fa n xs):=by
 obtain ⟨hn,h⟩:=h
 unfold short at h
 refine Eq.mp (pC n xs _) ⟨_,if_pos trivial,⟨λhp=>?_,λhp=>?_⟩⟩
 ·have hp:=Cs hp
  rw [Ca] at hp
  dsimp only at hp
  refine Aw λhh=>hp ⟨by omega,?_⟩
  have:=yK hh.2 (xs.length-1) (by omega)
  have:=(hh.2 (xs.length-1) (by omega) (by omega)).2.1
  omega
 ·have hp:=Db hp
  rw [Ca] at hp
  dsimp only at hp
  refine Am xs.length (λv=>v.1) (λj _=>PL n xs j) rfl (λj _ hj=>absurd hj (Nat.not_lt_zero _)) ?_
  rintro j ⟨i,⟨⟩⟩ K hj hi hR hK
  dsimp only at hi⊢
  subst hi
  refine Br.dec (λhl=>?_) λhl=>?_
  ·have hl:j<xs.length:=by omega
   refine ⟨_,Ap hl,_,if_pos trivial,⟨λhq=>?_,λhq=>?_⟩⟩
   ·have hq:=Cs hq
    unfold UX at hn
    rw [Ca,Bs (by omega) (by omega)] at hq
    exact Aw λhh=>hq ⟨(hh.2 j hl hl).1,(hh.2 j hl hl).2.1⟩
   ·have hq:=Db hq
    unfold UX at hn
    rw [Ca,Bs (by omega) (by omega)] at hq
    refine Br.dec (λh0=>?_) λh0=>?_
    ·have h0:0<j:=by omega
     rw [Bs (by omega) (by omega),show (j:Int)-1=((j-1:Nat):Int) by omega]
     refine ⟨_,Ap hl,_,Ap (by omega),Br.dec (λhg=>?_) λhg=>?_⟩
     ·exact Aw λhh=>by have:=(hh.2 j hl hl).2.2 h0;omega
     ·rw [Ak (by omega)]
      exact hK hl _ rfl (ly hl hR hq.1 hq.2 λ_=>by omega)
    ·rw [Ak (by omega)]
     exact hK hl _ rfl (ly hl hR hq.1 hq.2 λh=>by omega)
  ·have:j=xs.length:=by omega
   subst this
   exact Kf ⟨by omega,hR⟩
theorem iq:Sound Try.prog 111 Fm:=
 Sound.Dg Bu (Ah Rc At) mixed Try.func111 (by kernel_rfl) (by kernel_rfl) λx h=>oX x.1 x.2.1 h
theorem MS {n:Int} {xs:List Int} {j:Nat} (hl:j<xs.length) (h:DL n xs j) (h1:0<=xs[j]) (h2:xs[j]<=n-1) (h3:xs[j]∉xs.take j):DL n xs (j+1):=by
 intro i hi j4
 by_cases e:i=j
 ·subst e;exact ⟨h1,h2,h3⟩
 ·exact h i hi (by omega)
theorem yZ {xs:List Int} (h:short xs) (j:Nat):short (xs.take j):=by
 unfold short at*
 rw [List.length_take]
 omega
end Go.Proofs.Ytjbdmibbbpdnnaa

namespace Go.Proofs.Ytjbdmibbbpdnnaa
open Go.RowKit
theorem wq:roomy 1048576:=⟨by decide,by decide⟩
end Go.Proofs.Ytjbdmibbbpdnnaa

namespace Go.Proofs.Ytjbdmibbbpdnnaa
open Go.RowKit
abbrev PP:Type:=Int×ByteArray×List (List Int)×Unit
noncomputable def Jk (p:List Int):Bool:=dec (1<=p.length/\p.length<=20/\DL p.length p p.length)
noncomputable def Jz (n:Int) (p:List Int):Bool:=dec ((p.length:Int)=n/\Jk p=true)
noncomputable def Rt (n:Int) (g:List (List Int)):Bool:=dec ((1<=n/\n<=20)/\g.length<=8/\ ∀p∈g,Jz n p=true)
def Bw {α:Type} (P:α->Bool):List α->Int->Int
 | [],_=> -1
 |y::r,i=>if P y=true then i else Bw P r (i+1)
abbrev tG1:Ty:= .clo 177 (.pair (.ptr tI) .unit)
def qU (s:ByteArray) (i:Nat):Prop:= ∃c:UInt8,s[i]?=some c/\65<=c.toNat/\c.toNat<=90/\ ∀k,k<i->s[k]?≠some c
noncomputable def gX (s:ByteArray) (i:Int):Bool:=dec (qU s i.toNat)
noncomputable def Ye (s:ByteArray):Bool:=dec ((1<=s.size/\s.size<=8)/\ ∀j,j<s.size->qU s j)
noncomputable def Bh (p:PP):Bool:=dec (Rt p.1 p.2.2.1=true/\Ye p.2.1=true/\p.2.1.size=p.2.2.1.length)
def Eu (p:PP):Prop:=p.2.1.size<=4294967296/\Du p.2.2.1
noncomputable abbrev Ke:Spec:=Dg (.pair tL .unit) tI false true (λ_=>True) (λx=>(List.length x.1:Int))
noncomputable abbrev Ht:Spec:=Dg (.pair tL .unit) .bool false true (λx=>short x.1) (λx=>Jk x.1)
noncomputable abbrev Kk:Spec:=Dg (.pair tI (.pair dP .unit)) .bool false true (λx=>Du x.2.1) (λx=>Rt x.1 x.2.1)
noncomputable abbrev dB:Spec:=Dg (.pair tL (.pair (.ptr tI) .unit)) .bool false true (λx=>short x.1) (λx=>!Jz x.2.1 x.1)
noncomputable abbrev qH:Spec:=Dg (.pair dP (.pair tG1 .unit)) tI false true (λx=>Du x.1) (λx=>Bw (λp=>!Jz x.2.1.1 p) x.1 0)
noncomputable abbrev qB:Spec:=Dg (.pair dP (.pair tG1 .unit)) .bool false true (λx=>Du x.1) (λx=>List.any x.1 (λp=>!Jz x.2.1.1 p))
noncomputable abbrev Yj:Spec:=Dg (.pair .str (.pair tI .unit)) .bool false true (λx=>0<=x.2.1/\x.2.1<x.1.size/\x.1.size<=4294967296) (λx=>gX x.1 x.2.1)
noncomputable abbrev Tq:Spec:=Dg (.pair .str .unit) .bool false true (λx=>x.1.size<=4294967296) (λx=>Ye x.1)
noncomputable abbrev Fu:Spec:=Dg (.pair Eh .unit) .bool false true (λx=>Eu x.1) (λx=>Bh x.1)
def Sn (p:PP) (room:Int):Int:=if room-p.2.1.size<0 then-1 else if Jl p.2.2.1 (room-p.2.1.size)<0 then-1 else Jl p.2.2.1 (room-p.2.1.size)
def kl (a b:PP):Bool:=decide (a.1=b.1)&&(decide (a.2.1=b.2.1)&&decide (a.2.2.1=b.2.2.1))
noncomputable abbrev qM:Spec:=Dg (.pair Eh (.pair tI .unit)) tI false true (λx=>Eu x.1/\roomy x.2.1) (λx=>Sn x.1 x.2.1)
noncomputable abbrev kB:Spec:=Dg (.pair Eh .unit) Eh false true (λx=>Eu x.1) (λx=>x.1)
noncomputable abbrev qF:Spec:=Dg (.pair Eh (.pair Eh .unit)) .bool false true (λx=>Eu x.1) (λx=>kl x.1 x.2.1)
theorem WD (xs:List Int) (P:Int->Prop):(P (↑xs.length:Int))=fnW Cu (look []) Ke Try.f82 (xs,()) P:=by kernel_rfl
theorem tJ (p:List Int) (P:Bool->Prop):(∃(y2:Bool),Bf.fn ((↑p.length:Int),(1:Int),(20:Int),())=some y2/\Br (!y2) (P false) (Bj (λ(v3:Int×PUnit) (k4:Int×PUnit->Prop)=>Br (decide (v3.1<(↑p.length:Int))) (∃(y5:Int),idx p v3.1=some y5/\ ∃(y6:Bool),Bf.fn (y5,(0:Int),IntKind.i64.wrap ((↑p.length:Int)-(1:Int)),())=some y6/\Br (!y6) (P false) (((0:Int)<=(0:Int)/\(0:Int)<=v3.1/\v3.1<=(↑p.length:Int))/\ ∃(y7:Int),idx p v3.1=some y7/\ ∃(y8:Bool),Cv.fn (List.drop (Int.toNat (0:Int)) (List.take v3.1.toNat p),y7,())=some y8/\Br y8 (P false) (k4 (IntKind.i64.wrap (v3.1+(1:Int)),())))) (P true)) ((0:Int),PUnit.unit)))=fnW Cu (look [(93,Bf),(153,Cv)]) Ht Try.f169 (p,()) P:=by kernel_rfl
theorem tF (p:List Int) (P:Bool->Prop):(∃(y2:Int),Ke.fn (p,())=some y2/\ ∃(y3:Bool),Bf.fn (y2,(1:Int),(20:Int),())=some y3/\Br (!y3) (P false) (Bj (λ(v4:Int×Int×PUnit) (k5:Int×Int×PUnit->Prop)=>Br (decide (v4.2.1<(↑p.length:Int))) (∃(y6:Int),idx p v4.2.1=some y6/\ ∃(y7:Int),Ke.fn (p,())=some y7/\ ∃(y8:Bool),Bf.fn (y6,(0:Int),IntKind.i64.wrap (y7-(1:Int)),())=some y8/\Br (!y8) (P false) (¬y6<(0:Int)/\k5 (IntKind.i64.wrap (↑(BitVec.ofInt IntKind.i64.bits v4.1|||BitVec.ofInt IntKind.i64.bits (IntKind.i64.wrap ((1:Int)*(2:Int)^min y6.toNat IntKind.i64.bits))).toNat:Int),IntKind.i64.wrap (v4.2.1+(1:Int)),()))) (¬(↑p.length:Int)<(0:Int)/\P (v4.1==IntKind.i64.wrap (IntKind.i64.wrap ((1:Int)*(2:Int)^min (↑p.length:Int).toNat IntKind.i64.bits)-(1:Int))))) ((0:Int),(0:Int),PUnit.unit)))=fnW Cu (look [(97,Bf),(82,Ke)]) Ht Try.f168 (p,()) P:=by kernel_rfl
theorem tH (n:Int) (g:List (List Int)) (P:Bool->Prop):(∃(y3:Bool),Bf.fn (n,(1:Int),(20:Int),())=some y3/\Br (!y3) (P false) (Br (decide ((↑g.length:Int)>(8:Int))) (P false) (Bj (λ(v4:Int×PUnit) (k5:Int×PUnit->Prop)=>Br (decide (v4.1<(↑g.length:Int))) (∃(y6:List Int),idx g v4.1=some y6/\Br ((↑y6.length:Int) !=n) (P false) (∃(y7:List Int),idx g v4.1=some y7/\ ∃(y8:Bool),Ht.fn (y7,())=some y8/\Br (!y8) (P false) (k5 (IntKind.i64.wrap (v4.1+(1:Int)),())))) (P true)) ((0:Int),PUnit.unit))))=fnW Cu (look [(93,Bf),(169,Ht)]) Kk Try.f147 (n,g,()) P:=by kernel_rfl
theorem PV (p:List Int) (n:Int) (P:Bool->Prop):(∃(y3:Int),Ke.fn (p,())=some y3/\Br (y3 !=n) (P true) (∃(y4:Bool),Ht.fn (p,())=some y4/\P !y4))=fnW Cu (look [(82,Ke),(168,Ht)]) dB Try.f177 (p,n,()) P:=by kernel_rfl
theorem Abo (g:List (List Int)) (n:Int×Unit) (P:Int->Prop):(Bj (λ(v3:Int×PUnit) (k4:Int×PUnit->Prop)=>Br (decide (v3.1<(↑g.length:Int))) (∃(y5:List Int),idx g v3.1=some y5/\ ∃(y6:Bool),dB.fn (y5,n.1,())=some y6/\Br y6 (P v3.1) (k4 (IntKind.i64.wrap (v3.1+(1:Int)),()))) (P (-1:Int))) ((0:Int),PUnit.unit))=fnW Cu (look [(177,dB)]) qH Try.f184 (g,n,()) P:=by kernel_rfl
theorem Abg (g:List (List Int)) (n:Int×Unit) (P:Bool->Prop):(∃(y3:Int),qH.fn (g,n,())=some y3/\P (decide (y3>=(0:Int))))=fnW Cu (look [(184,qH)]) qB Try.f176 (g,n,()) P:=by kernel_rfl
theorem tE (n:Int) (g:List (List Int)) (P:Bool->Prop):(∃(y3:Bool),Bf.fn (n,(1:Int),(20:Int),())=some y3/\Br y3 (Br (decide ((↑g.length:Int)<=(8:Int))) (∃(y4:Bool),qB.fn (g,(n,()),())=some y4/\P !y4) (P false)) (P false))=fnW Cu (look [(97,Bf),(176,qB)]) Kk Try.f158 (n,g,()) P:=by kernel_rfl
theorem LL (s:ByteArray) (i:Int) (P:Bool->Prop):((0:Int)<=i/\ ∃(y3:UInt8),s[i.toNat]?=some y3/\Br (decide ((↑y3.toNat:Int)<(65:Int))) (P false) ((0:Int)<=i/\ ∃(y4:UInt8),s[i.toNat]?=some y4/\Br (decide ((↑y4.toNat:Int)>(90:Int))) (P false) (Bj (λ(v5:Int×PUnit) (k6:Int×PUnit->Prop)=>Br (decide (v5.1<i)) ((0:Int)<=v5.1/\ ∃(y7:UInt8),s[v5.1.toNat]?=some y7/\(0:Int)<=i/\ ∃(y8:UInt8),s[i.toNat]?=some y8/\Br ((↑y7.toNat:Int)==(↑y8.toNat:Int)) (P false) (k6 (IntKind.i64.wrap (v5.1+(1:Int)),()))) (P true)) ((0:Int),PUnit.unit))))=fnW Cu (look []) Yj Try.f148 (s,i,()) P:=by kernel_rfl
theorem FM (s:ByteArray) (P:Bool->Prop):(Bj (λ(v2:Int×PUnit) (k3:Int×PUnit->Prop)=>Br (decide (v2.1<(↑s.size:Int))) ((0:Int)<=v2.1/\ ∃(y4:UInt8),s[v2.1.toNat]?=some y4/\ ∃(y5:Bool),Bf.fn (IntKind.i64.wrap (↑y4.toNat:Int),(65:Int),(90:Int),())=some y5/\Br (!y5) (P false) (Bj (λ(v6:Int×PUnit) (k7:Int×PUnit->Prop)=>Br (decide (v6.1<v2.1)) ((0:Int)<=v6.1/\ ∃(y8:UInt8),s[v6.1.toNat]?=some y8/\(0:Int)<=v2.1/\ ∃(y9:UInt8),s[v2.1.toNat]?=some y9/\Br ((↑y8.toNat:Int)==(↑y9.toNat:Int)) (P false) (k7 (IntKind.i64.wrap (v6.1+(1:Int)),()))) (k3 (IntKind.i64.wrap (v2.1+(1:Int)),()))) ((0:Int),PUnit.unit))) (∃(y4:Bool),Bf.fn ((↑s.size:Int),(1:Int),(8:Int),())=some y4/\P y4)) ((0:Int),PUnit.unit))=fnW Cu (look [(97,Bf)]) Tq Try.f159 (s,()) P:=by kernel_rfl
abbrev eE:Type:=Int×Int×ByteArray×List (List Int)×PUnit
theorem tK (p:Int×ByteArray×List (List Int)×Unit) (P:Bool->Prop):(Br ((↑p.2.2.1.length:Int)==(0:Int)) (P false) (Br ((↑p.2.1.size:Int) !=(↑p.2.2.1.length:Int)) (P false) (∃(y2:Bool),Kk.fn (p.1,p.2.2.1,())=some y2/\Br (!y2) (P false) (Bj (λ(v3:eE) (k4:eE->Prop)=>Br (decide (v3.1<(↑v3.2.2.1.size:Int))) (∃(y5:Bool),Yj.fn (v3.2.2.1,v3.1,())=some y5/\Br (!y5) (P false) (k4 (IntKind.i64.wrap (v3.1+(1:Int)),v3.2.1,v3.2.2.1,v3.2.2.2.1,()))) (P true)) ((0:Int),p.1,p.2.1,p.2.2.1,PUnit.unit)))))=fnW Cu (look [(147,Kk),(148,Yj)]) Fu Try.f110 (p,()) P:=by kernel_rfl
theorem tG (p:Int×ByteArray×List (List Int)×Unit) (P:Bool->Prop):(∃(y2:Bool),Kk.fn (p.1,p.2.2.1,())=some y2/\Br y2 (∃(y3:Bool),Tq.fn (p.2.1,())=some y3/\Br y3 (P ((↑p.2.1.size:Int)==(↑p.2.2.1.length:Int))) (P false)) (P false))=fnW Cu (look [(158,Kk),(159,Tq)]) Fu Try.f130 (p,()) P:=by kernel_rfl
theorem Abt (p:Int×ByteArray×List (List Int)×Unit) (room:Int) (P:Int->Prop):(Br (decide (IntKind.i64.wrap (room-(↑p.2.1.size:Int))<(0:Int))) (P (-1:Int)) (∃(y3:Int),ao.fn (p.2.2.1,IntKind.i64.wrap (room-(↑p.2.1.size:Int)),())=some y3/\Br (decide (y3<(0:Int))) (P (-1:Int)) (P y3)))=fnW Cu (look [(34,ao)]) qM Try.f14 (p,room,()) P:=by kernel_rfl
theorem Abv (p:Int×ByteArray×List (List Int)×Unit) (P:(Int×ByteArray×List (List Int)×Unit)->Prop):(∃(y2:List (List Int)),Vb.fn (p.2.2.1,())=some y2/\P (p.1,p.2.1,y2,()))=fnW Cu (look [(36,Vb)]) kB Try.f16 (p,()) P:=by kernel_rfl
theorem Abl (a b:Int×ByteArray×List (List Int)×Unit) (P:Bool->Prop):(Br (a.1 !=b.1) (P false) (Br (!a.2.1.toList==b.2.1.toList) (P false) (∃(y3:Bool),al.fn (a.2.2.1,b.2.2.1,())=some y3/\Br (!y3) (P false) (P true))))=fnW Cu (look [(38,al)]) qF Try.f19 (a,b,()) P:=by kernel_rfl
theorem VF (xs:List Int) (_:True):fnW Cu (look []) Ke Try.f82 (xs,()) (λ(z:Int)=>z=(xs.length:Int)):=Eq.mp (WD xs _) rfl
theorem Vd:Sound Try.prog 82 Ke:=
 Sound.Dg Bu At mixed Try.func82 (by kernel_rfl) (by kernel_rfl) λx h=>VF x.1 h
theorem tj {α:Type} [DecidableEq α]: ∀(l m:List α),l.Nodup->(∀x∈l,x∈m)->l.length<=m.length
 | [],m,_,_=>Nat.zero_le _
 |a::l,m,hn,hs=>by
  have ha:a∈m:=hs a (List.mem_cons_self ..)
  have hn:=List.nodup_cons.1 hn
  have:=tj l (m.erase a) hn.2 λx hx=>(List.mem_erase_of_ne (λ(e:x=a)=>hn.1 (by rw [<-e];exact hx))).2 (hs x (List.mem_cons_of_mem _ hx))
  rw [List.length_erase_of_mem ha] at this
  have:0<m.length:=List.length_pos_of_mem ha
  simp only [List.length_cons]
  omega
def upto (n:Nat):List Int:=(List.range n).map Int.ofNat
theorem o6 (n:Nat):(upto n).Nodup:=by
 unfold upto
 exact List.Pairwise.map _ (λa b oC e=>oC (Int.ofNat.inj e)) List.nodup_range
theorem Im {n:Nat} {x:Int} :x∈upto n↔0<=x/\x<n:=by
 unfold upto
 simp only [List.mem_map,List.mem_range]
 constructor
 ·rintro ⟨a,ha,rfl⟩;exact ⟨Int.natCast_nonneg _,Int.ofNat_lt.2 ha⟩
 ·rintro ⟨h1,h2⟩;exact ⟨x.toNat,by omega,by simp only [Int.ofNat_eq_natCast];omega⟩
theorem Pk (n:Nat):(upto n).length=n:=by simp [upto]
theorem ct {xs:List Int} (h: ∀j (hj:j<xs.length),xs[j]∉xs.take j):xs.Nodup:=by
 refine List.pairwise_iff_getElem.2 λi j hi hj j4 e=>h j hj ?_
 rw [<-e]
 exact List.mem_take_iff_getElem.2 ⟨i,by omega,rfl⟩
theorem o3 {xs:List Int} (h:xs.Nodup): ∀j (hj:j<xs.length),xs[j]∉xs.take j:=by
 intro j hj hm
 obtain ⟨i,hi,e⟩:=List.mem_take_iff_getElem.1 hm
 exact List.pairwise_iff_getElem.1 h i j (by omega) hj (by omega) e
theorem Wp {xs:List Int} (h: ∀x∈xs,0<=x/\x<xs.length):(∀k:Nat,k<xs.length->(k:Int)∈xs)↔ ∀j (hj:j<xs.length),xs[j]∉xs.take j:=by
 constructor
 ·intro ha j hj hm
  have h1:=tj (upto xs.length) (xs.take j++xs.drop (j+1)) (o6 _) λx hx=>by
   obtain ⟨h1,h2⟩:=Im.1 hx
   have hx:=ha x.toNat (by omega)
   rw [show ((x.toNat:Nat):Int)=x by omega] at hx
   rw [<-List.take_append_drop j xs,List.mem_append,List.drop_eq_getElem_cons hj,List.mem_cons] at hx
   rcases hx with hx|rfl|hx
   ·exact List.mem_append_left _ hx
   ·exact List.mem_append_left _ hm
   ·exact List.mem_append_right _ hx
  rw [Pk,List.length_append,List.length_take,List.length_drop] at h1
  omega
 ·intro hn k hk
  refine Classical.byContradiction λhc=>?_
  have h1:=tj xs ((upto xs.length).erase (k:Int)) (ct hn) λx hx=>by
   refine (List.mem_erase_of_ne λ(e:x=(k:Int))=>hc (by rw [<-e];exact hx)).2 (Im.2 (h x hx))
  rw [List.length_erase_of_mem (Im.2 ⟨by omega,by omega⟩),Pk] at h1
  omega
def mask (xs:List Int):Nat:=xs.foldl (λm x=>m|||2^x.toNat) 0
theorem CT (xs:List Int) (x:Int):mask (xs++ [x])=mask xs|||2^x.toNat:=by simp [mask]
theorem sn (xs:List Int) (k:Nat): ∀a:Nat,(xs.foldl (λm x=>m|||2^x.toNat) a).testBit k=(a.testBit k||xs.any λx=>decide (x.toNat=k)):=by
 induction xs with
 |nil=>simp
 |cons x xs ih=>
  intro a
  rw [List.foldl_cons,ih,Nat.testBit_or,Nat.testBit_two_pow,List.any_cons,Bool.or_assoc]
theorem mG (xs:List Int) (k:Nat):(mask xs).testBit k=xs.any λx=>decide (x.toNat=k):=by
 unfold mask
 rw [sn,Nat.zero_testBit,Bool.false_or]
theorem ON {xs:List Int} {n:Nat} (h: ∀x∈xs,x.toNat<n):mask xs<2^n:=by
 refine Nat.lt_pow_two_of_testBit _ λk hk=>?_
 rw [mG]
 refine Bool.eq_false_iff.2 λht=>?_
 obtain ⟨x,hx,he⟩:=List.any_eq_true.1 ht
 have:=h x hx
 have:=of_decide_eq_true he
 omega
theorem qg {xs:List Int} (h: ∀x∈xs,0<=x/\x<xs.length):mask xs=2^xs.length-1↔ ∀k:Nat,k<xs.length->(k:Int)∈xs:=by
 constructor
 ·intro e k hk
  have h1:=mG xs k
  rw [e,Nat.testBit_two_pow_sub_one,decide_eq_true hk] at h1
  obtain ⟨x,hx,he⟩:=List.any_eq_true.1 h1.symm
  have:=(h x hx).1
  have:=of_decide_eq_true he
  have e:x=(k:Int):=by omega
  exact e▸hx
 ·intro ha
  refine Nat.eq_of_testBit_eq λk=>?_
  rw [mG,Nat.testBit_two_pow_sub_one]
  by_cases hk:k<xs.length
  ·rw [decide_eq_true hk]
   exact List.any_eq_true.2 ⟨k,ha k hk,by simp⟩
  ·rw [decide_eq_false hk]
   refine Bool.eq_false_iff.2 λht=>?_
   obtain ⟨x,hx,he⟩:=List.any_eq_true.1 ht
   have:=h x hx
   have:=of_decide_eq_true he
   omega
theorem OQ {m:Nat} {x:Int} (hm:m<2^20) (h0:0<=x) (h1:x<20):
  IntKind.i64.wrap (((BitVec.ofInt IntKind.i64.bits (m:Int)|||BitVec.ofInt IntKind.i64.bits (IntKind.i64.wrap ((1:Int)*(2:Int)^min x.toNat IntKind.i64.bits))).toNat:Nat):Int)=((m|||2^x.toNat:Nat):Int):=by
 have hx:(2:Nat)^x.toNat<2^20:=Nat.pow_lt_pow_right (by omega) (by omega)
 have e1:min x.toNat IntKind.i64.bits=x.toNat:=by show min x.toNat 64=_;omega
 have e2:(1:Int)*(2:Int)^x.toNat=((2^x.toNat:Nat):Int):=by rw [Int.one_mul];exact (Int.natCast_pow 2 _).symm
 rw [e1,e2,Bs (n:=((2^x.toNat:Nat):Int)) (by have:(0:Int)<=((2^x.toNat:Nat):Int):=Int.natCast_nonneg _;omega) (by omega)]
 show IntKind.i64.wrap (((BitVec.ofInt 64 (m:Int)|||BitVec.ofInt 64 ((2^x.toNat:Nat):Int)).toNat:Nat):Int)=_
 rw [BitVec.ofInt_natCast,BitVec.ofInt_natCast,BitVec.toNat_or,BitVec.toNat_ofNat,BitVec.toNat_ofNat,Nat.mod_eq_of_lt (by omega),Nat.mod_eq_of_lt (by omega)]
 have:=Nat.or_lt_two_pow hm hx
 exact Bs (by omega) (by omega)
theorem sv (p:List Int) (h:short p):fnW Cu (look [(93,Bf),(153,Cv)]) Ht Try.f169 (p,()) (λ(z:Bool)=>z=Jk p):=by
 have hs:=h
 unfold short at h
 refine Eq.mp (tJ p _) ⟨_,if_pos trivial,⟨λhp=>?_,λhp=>?_⟩⟩
 ·have hp:=Cs hp
  rw [Ca] at hp
  dsimp only at hp
  exact Aw λhh=>hp ⟨by omega,by omega⟩
 ·have hp:=Db hp
  rw [Ca] at hp
  dsimp only at hp
  refine Am p.length (λv=>v.1) (λj _=>DL p.length p j) rfl (λj _ hj=>absurd hj (Nat.not_lt_zero _)) ?_
  rintro j ⟨i,⟨⟩⟩ K hj hi hR hK
  dsimp only at hi⊢
  subst hi
  refine Br.dec (λhl=>?_) λhl=>?_
  ·have hl:j<p.length:=by omega
   refine ⟨_,Ap hl,_,if_pos trivial,⟨λhq=>?_,λhq=>?_⟩⟩
   ·have hq:=Cs hq
    rw [Ca,Bs (by omega) (by omega)] at hq
    exact Aw λhh=>hq ⟨(hh.2.2 j hl hl).1,(hh.2.2 j hl hl).2.1⟩
   ·have hq:=Db hq
    rw [Ca,Bs (by omega) (by omega)] at hq
    refine ⟨⟨by omega,by omega,by omega⟩,_,Ap hl,?_⟩
    rw [show (Int.toNat 0)=0 from rfl,List.drop_zero,Int.toNat_natCast]
    refine ⟨_,if_pos (yZ hs j),⟨λhc=>?_,λhc=>?_⟩⟩
    ·have hc:decide (p[j]∈p.take j)=true:=hc
     rw [decide_eq_true_iff] at hc
     exact Aw λhh=>(hh.2.2 j hl hl).2.2 hc
    ·have hc:decide (p[j]∈p.take j)=false:=hc
     rw [decide_eq_false_iff_not] at hc
     rw [Ak (by omega)]
     exact hK hl _ rfl (MS hl hR hq.1 hq.2 hc)
  ·have:j=p.length:=by omega
   subst this
   exact Kf ⟨by omega,by omega,hR⟩
theorem Yp:Sound Try.prog 169 Ht:=
 Sound.Dg Bu (Ah Rc (Ah Wh At)) mixed Try.func169 (by kernel_rfl) (by kernel_rfl) λx h=>sv x.1 h
theorem sr (p:List Int) (h:short p):fnW Cu (look [(97,Bf),(82,Ke)]) Ht Try.f168 (p,()) (λ(z:Bool)=>z=Jk p):=by
 unfold short at h
 refine Eq.mp (tF p _) ⟨_,if_pos trivial,_,if_pos trivial,⟨λhp=>?_,λhp=>?_⟩⟩
 ·have hp:=Cs hp
  rw [Ca] at hp
  dsimp only at hp
  exact Aw λhh=>hp ⟨by omega,by omega⟩
 ·have hp:=Db hp
  rw [Ca] at hp
  dsimp only at hp
  refine Am p.length (λv=>v.2.1) (λj v=>v.1=(mask (p.take j):Int)/\ ∀x∈p.take j,0<=x/\x<p.length) rfl ⟨rfl,by simp⟩ ?_
  rintro j ⟨m,i,⟨⟩⟩ K hj hi ⟨hm,hR⟩ hK
  dsimp only at hi hm⊢
  subst hi hm
  refine Br.dec (λhl=>?_) λhl=>?_
  ·have hl:j<p.length:=by omega
   refine ⟨_,Ap hl,_,if_pos trivial,_,if_pos trivial,⟨λhq=>?_,λhq=>?_⟩⟩
   ·have hq:=Cs hq
    rw [Ca] at hq
    dsimp only at hq
    rw [Bs (by omega) (by omega)] at hq
    exact Aw λhh=>hq ⟨(hh.2.2 j hl hl).1,(hh.2.2 j hl hl).2.1⟩
   ·have hq:=Db hq
    rw [Ca] at hq
    dsimp only at hq
    rw [Bs (by omega) (by omega)] at hq
    refine ⟨by omega,?_⟩
    rw [Ak (by omega)]
    have hb:mask (p.take j)<2^20:=ON λx hx=>by have:=hR x hx;omega
    refine hK hl _ rfl ⟨?_,?_⟩
    ·dsimp only
     rw [OQ hb hq.1 (by omega),List.take_succ_eq_append_getElem hl,CT]
    ·rw [List.take_succ_eq_append_getElem hl]
     intro x hx
     rcases List.mem_append.1 hx with hx|hx
     ·exact hR x hx
     ·rw [List.mem_singleton.1 hx];omega
  ·have:j=p.length:=by omega
   subst this
   rw [List.take_length] at hR⊢
   refine ⟨by omega,?_⟩
   have hx:(2:Nat)^p.length<=2^20:=Nat.pow_le_pow_right (by omega) (by omega)
   have j6:0<(2:Nat)^p.length:=Nat.two_pow_pos _
   have e1:min (p.length:Int).toNat IntKind.i64.bits=p.length:=by show min (p.length:Int).toNat 64=_;omega
   have e2:(1:Int)*(2:Int)^p.length=((2^p.length:Nat):Int):=by rw [Int.one_mul];exact (Int.natCast_pow 2 _).symm
   rw [e1,e2,Bs (n:=((2^p.length:Nat):Int)) (by omega) (by omega),Bs (by omega) (by omega)]
   have hE:((mask p:Int)==((2^p.length:Nat):Int)-1)=decide (mask p=2^p.length-1):=by
    rw [Bool.eq_iff_iff,beq_iff_eq,decide_eq_true_iff]
    omega
   show ((mask p:Int)==((2^p.length:Nat):Int)-1)=Jk p
   rw [hE]
   by_cases hf:mask p=2^p.length-1
   ·rw [decide_eq_true hf]
    have hn:=(Wp hR).1 ((qg hR).1 hf)
    refine Kf ⟨by omega,by omega,λj hj _=>?_⟩
    have:=hR _ (List.getElem_mem hj)
    exact ⟨this.1,by omega,hn j hj⟩
   ·rw [decide_eq_false hf]
    refine Aw λhh=>hf ((qg hR).2 ((Wp hR).2 λj hj=>(hh.2.2 j hj hj).2.2))
theorem jA:Sound Try.prog 168 Ht:=
 Sound.Dg Bu (Ah Ma (Ah Vd At)) mixed Try.func168 (by kernel_rfl) (by kernel_rfl) λx h=>sr x.1 h
theorem su (n:Int) (g:List (List Int)) (h:Du g):fnW Cu (look [(93,Bf),(169,Ht)]) Kk Try.f147 (n,g,()) (λ(z:Bool)=>z=Rt n g):=by
 obtain ⟨h,h4⟩:=h
 refine Eq.mp (tH n g _) ⟨_,if_pos trivial,⟨λhp=>?_,λhp=>?_⟩⟩
 ·have hp:=Cs hp
  rw [Ca] at hp
  exact Aw λhh=>hp hh.1
 ·have hp:=Db hp
  rw [Ca] at hp
  refine Br.dec (λhg=>?_) λhg=>?_
  ·exact Aw λhh=>by have:=hh.2.1;omega
  ·refine Am g.length (λv=>v.1) (λj _=> ∀p∈g.take j,Jz n p=true) rfl (by simp) ?_
   rintro j ⟨i,⟨⟩⟩ K hj hi hR hK
   dsimp only at hi⊢
   subst hi
   refine Br.dec (λhl=>?_) λhl=>?_
   ·have hl:j<g.length:=by omega
    have hm:g[j]∈g:=List.getElem_mem hl
    refine ⟨_,Ap hl,⟨λhe=>?_,λhe=>?_⟩⟩
    ·simp only [bne_iff_ne,ne_eq] at he
     exact Aw λhh=>he (Gm.1 (hh.2.2 _ hm)).1
    ·simp only [bne_eq_false_iff_eq] at he
     refine ⟨_,Ap hl,_,if_pos (h4 _ hm),⟨λhq=>?_,λhq=>?_⟩⟩
     ·have hq:=Cs hq
      exact Aw λhh=>hq (Gm.1 (hh.2.2 _ hm)).2
     ·have hq:=Db hq
      rw [Ak (by omega)]
      refine hK hl _ rfl ?_
      rw [List.take_succ_eq_append_getElem hl]
      intro x hx
      rcases List.mem_append.1 hx with hx|hx
      ·exact hR x hx
      ·rw [List.mem_singleton.1 hx];exact Gm.2 ⟨he,hq⟩
   ·have:j=g.length:=by omega
    subst this
    rw [List.take_length] at hR
    exact Kf ⟨hp,by omega,hR⟩
theorem jB:Sound Try.prog 147 Kk:=
 Sound.Dg Bu (Ah Rc (Ah Yp At)) mixed Try.func147 (by kernel_rfl) (by kernel_rfl) λx h=>su x.1 x.2.1 h
theorem OT (p:List Int) (n:Int) (h:short p):fnW Cu (look [(82,Ke),(168,Ht)]) dB Try.f177 (p,n,()) (λ(z:Bool)=>z=!Jz n p):=by
 refine Eq.mp (PV p n _) ⟨_,if_pos trivial,⟨λhe=>?_,λhe=>⟨_,if_pos h,?_⟩⟩⟩
 ·simp only [bne_iff_ne,ne_eq] at he
  have:Jz n p=false:=MQ.2 λhh=>he hh.1
  rw [this];rfl
 ·simp only [bne_eq_false_iff_eq] at he
  show (!Jk p)=_
  congr 1
  cases hp:Jk p with
  |true=>exact Kf ⟨he,hp⟩
  |false=>exact Aw λhh=>by rw [hh.2] at hp;cases hp
theorem wC:Sound Try.prog 177 dB:=
 Sound.Dg Bu (Ah Vd (Ah jA At)) mixed Try.func177 (by kernel_rfl) (by kernel_rfl) λx h=>OT x.1 x.2.1 h
theorem Vz {α:Type} (P:α->Bool): ∀(l:List α) (i:Int),0<=i->(0<=Bw P l i↔l.any P=true)
 | [],i,_=>by simp [Bw]
 |y::r,i,h=>by
  simp only [Bw,List.any_cons,Bool.or_eq_true]
  split
  ·rename_i hy;simp [hy,h]
  ·rename_i hy;rw [Vz P r (i+1) (by omega)];simp [hy]
theorem Aay (g:List (List Int)) (n:Int×Unit) (h:Du g):fnW Cu (look [(177,dB)]) qH Try.f184 (g,n,()) (λ(z:Int)=>z=Bw (λp=>!Jz n.1 p) g 0):=by
 obtain ⟨h,h4⟩:=h
 refine Eq.mp (Abo g n _) ?_
 refine Am g.length (λv=>v.1) (λj _=>Bw (λp=>!Jz n.1 p) (g.drop j) j=Bw (λp=>!Jz n.1 p) g 0) rfl (by simp) ?_
 rintro j ⟨i,⟨⟩⟩ K hj hi hR hK
 dsimp only at hi⊢
 subst hi
 refine Br.dec (λhl=>?_) λhl=>?_
 ·have hl:j<g.length:=by omega
  rw [List.drop_eq_getElem_cons hl] at hR
  simp only [Bw] at hR
  refine ⟨_,Ap hl,_,if_pos (h4 _ (List.getElem_mem hl)),⟨λhe=>?_,λhe=>?_⟩⟩
  ·have he:(!Jz n.1 g[j])=true:=he
   rw [if_pos he] at hR
   exact hR
  ·have he:(!Jz n.1 g[j])=false:=he
   rw [if_neg (by rw [he];decide)] at hR
   rw [Ak (by omega)]
   exact hK hl _ rfl (by push_cast;exact hR)
 ·have:j=g.length:=by omega
  subst this
  rw [List.drop_length] at hR
  exact hR
theorem EM:Sound Try.prog 184 qH:=
 Sound.Dg Bu (Ah wC At) mixed Try.func184 (by kernel_rfl) (by kernel_rfl) λx h=>Aay x.1 x.2.1 h
theorem Aaq (g:List (List Int)) (n:Int×Unit) (h:Du g):fnW Cu (look [(184,qH)]) qB Try.f176 (g,n,()) (λ(z:Bool)=>z=List.any g (λp=>!Jz n.1 p)):=by
 refine Eq.mp (Abg g n _) ⟨_,if_pos h,?_⟩
 rw [Bool.eq_iff_iff,decide_eq_true_iff]
 exact Vz _ g 0 (Int.le_refl 0)
theorem EE:Sound Try.prog 176 qB:=
 Sound.Dg Bu (Ah EM At) mixed Try.func176 (by kernel_rfl) (by kernel_rfl) λx h=>Aaq x.1 x.2.1 h
theorem sq (n:Int) (g:List (List Int)) (h:Du g):fnW Cu (look [(97,Bf),(176,qB)]) Kk Try.f158 (n,g,()) (λ(z:Bool)=>z=Rt n g):=by
 refine Eq.mp (tE n g _) ⟨_,if_pos trivial,⟨λhp=>?_,λhp=>?_⟩⟩
 ·have hp:Hi n 1 20=true:=hp
  rw [Ca] at hp
  refine Br.dec (λhl=>⟨_,if_pos h,?_⟩) λhl=>?_
  ·show (!List.any g (λp=>!Jz n p))=Rt n g
   cases ha:List.any g (λp=>!Jz n p) with
   |true=>
    obtain ⟨p,tR,CB⟩:=List.any_eq_true.1 ha
    exact Aw λhh=>by rw [hh.2.2 p tR] at CB;cases CB
   |false=>
    refine Kf ⟨hp,by omega,λp hm=>?_⟩
    have:=List.any_eq_false.1 ha p hm
    simpa using this
  ·exact Aw λhh=>by have:=hh.2.1;omega
 ·refine Aw λhh=>?_
  have:Hi n 1 20=true:=Ca.2 hh.1
  have hp:Hi n 1 20=false:=hp
  rw [this] at hp;cases hp
theorem jz:Sound Try.prog 158 Kk:=
 Sound.Dg Bu (Ah Ma (Ah EE At)) mixed Try.func158 (by kernel_rfl) (by kernel_rfl) λx h=>sq x.1 x.2.1 h
theorem Hu {s:ByteArray} {k:Nat} (h:k<s.size):s[k]?=some s[k]:=getElem?_pos s k h
theorem JQ (s:ByteArray) (i:Int) (h:0<=i/\i<s.size/\s.size<=4294967296):fnW Cu (look []) Yj Try.f148 (s,i,()) (λ(z:Bool)=>z=gX s i):=by
 obtain ⟨h1,h2,h3⟩:=h
 have hi:i.toNat<s.size:=by omega
 refine Eq.mp (LL s i _) ⟨h1,_,Hu hi,Br.dec (λhq=>?_) λhq=>⟨h1,_,Hu hi,Br.dec (λhr=>?_) λhr=>?_⟩⟩
 ·refine Aw λ⟨c,hc,NK,_⟩=>?_
  rw [Hu hi] at hc;cases hc;omega
 ·refine Aw λ⟨c,hc,_,NK,_⟩=>?_
  rw [Hu hi] at hc;cases hc;omega
 ·refine Am i.toNat (λv=>v.1) (λj _=> ∀k,k<j->s[k]?≠some s[i.toNat]) rfl (λk hk=>absurd hk (Nat.not_lt_zero _)) ?_
  rintro j ⟨i',⟨⟩⟩ K hj gM hR hK
  dsimp only at gM⊢
  subst gM
  refine Br.dec (λhl=>?_) λhl=>?_
  ·have hl:j<i.toNat:=by omega
   have hj:j<s.size:=by omega
   rw [Int.toNat_natCast]
   refine ⟨by omega,_,Hu hj,h1,_,Hu hi,⟨λhe=>?_,λhe=>?_⟩⟩
   ·simp only [beq_iff_eq,Int.natCast_inj] at he
    refine Aw λ⟨c,hc,_,_,NK⟩=>?_
    rw [Hu hi] at hc;cases hc
    exact NK j hl (by rw [Hu hj,UInt8.toNat_inj.1 he])
   ·simp only [beq_eq_false_iff_ne,ne_eq,Int.natCast_inj] at he
    rw [Ak (by omega)]
    refine hK hl _ rfl λk hk=>?_
    by_cases e:k=j
    ·subst e
     rw [Hu hj]
     exact λe=>he (by rw [Option.some.inj e])
    ·exact hR k (by omega)
  ·have:j=i.toNat:=by omega
   subst this
   exact Kf ⟨_,Hu hi,by omega,by omega,hR⟩
theorem sS:Sound Try.prog 148 Yj:=
 Sound.Dg Bu At mixed Try.func148 (by kernel_rfl) (by kernel_rfl) λx h=>JQ x.1 x.2.1 h
theorem DH (s:ByteArray) (h:s.size<=4294967296):fnW Cu (look [(97,Bf)]) Tq Try.f159 (s,()) (λ(z:Bool)=>z=Ye s):=by
 refine Eq.mp (FM s _) ?_
 refine Am s.size (λv=>v.1) (λj _=> ∀k,k<j->qU s k) rfl (λk hk=>absurd hk (Nat.not_lt_zero _)) ?_
 rintro j ⟨i,⟨⟩⟩ K hj hi hR hK
 dsimp only at hi⊢
 subst hi
 refine Br.dec (λhl=>?_) λhl=>?_
 ·have hl:j<s.size:=by omega
  rw [Int.toNat_natCast]
  have hb:=(s[j]).toNat_lt
  refine ⟨by omega,_,Hu hl,_,if_pos trivial,⟨λhq=>?_,λhq=>?_⟩⟩
  ·have hq:=Cs hq
   rw [Ca] at hq
   dsimp only at hq
   rw [Bs (by omega) (by omega)] at hq
   refine Aw λhh=>?_
   obtain ⟨c,hc,NK,WT,_⟩:=hh.2 j hl
   rw [Hu hl] at hc;cases hc
   exact hq ⟨by omega,by omega⟩
  ·have hq:=Db hq
   rw [Ca] at hq
   dsimp only at hq
   rw [Bs (by omega) (by omega)] at hq
   refine Am j (λv=>v.1) (λm _=> ∀k,k<m->s[k]?≠some s[j]) rfl (λk hk=>absurd hk (Nat.not_lt_zero _)) ?_
   rintro m ⟨i',⟨⟩⟩ K' hm gM hR' YF
   dsimp only at gM⊢
   subst gM
   refine Br.dec (λHc=>?_) λHc=>?_
   ·have Hc:m<j:=by omega
    have TU:m<s.size:=by omega
    rw [Int.toNat_natCast]
    refine ⟨by omega,_,Hu TU,by omega,_,Hu hl,⟨λhe=>?_,λhe=>?_⟩⟩
    ·simp only [beq_iff_eq,Int.natCast_inj] at he
     refine Aw λhh=>?_
     obtain ⟨c,hc,_,_,NK⟩:=hh.2 j hl
     rw [Hu hl] at hc;cases hc
     exact NK m Hc (by rw [Hu TU,UInt8.toNat_inj.1 he])
    ·simp only [beq_eq_false_iff_ne,ne_eq,Int.natCast_inj] at he
     rw [Ak (by omega)]
     refine YF Hc _ rfl λk hk=>?_
     by_cases e:k=m
     ·subst e
      rw [Hu TU]
      exact λe=>he (by rw [Option.some.inj e])
     ·exact hR' k (by omega)
   ·have:m=j:=by omega
    subst this
    rw [Ak (by omega)]
    refine hK hl _ rfl λk hk=>?_
    by_cases e:k=m
    ·subst e
     exact ⟨_,Hu hl,by omega,by omega,hR'⟩
    ·exact hR k (by omega)
 ·have:j=s.size:=by omega
  subst this
  refine ⟨_,if_pos trivial,?_⟩
  show Hi s.size 1 8=_
  cases hr:Hi s.size 1 8 with
  |true=>rw [Ca] at hr;exact Kf ⟨by omega,hR⟩
  |false=>refine Aw λhh=>?_;rw [Ca.2 ⟨by omega,by omega⟩] at hr;cases hr
theorem pf:Sound Try.prog 159 Tq:=
 Sound.Dg Bu (Ah Ma At) mixed Try.func159 (by kernel_rfl) (by kernel_rfl) λx h=>DH x.1 h
theorem fY {p:PP} (h:Bh p=true):1<=p.1/\p.1<=20/\1<=p.2.2.1.length/\p.2.2.1.length<=8:=by
 obtain ⟨h1,h2,h3⟩:=Gm.1 h
 obtain ⟨h4,h5,_⟩:=Gm.1 h1
 obtain ⟨h6,_⟩:=Gm.1 h2
 omega
theorem sw (p:PP) (h:Eu p):fnW Cu (look [(147,Kk),(148,Yj)]) Fu Try.f110 (p,()) (λ(z:Bool)=>z=Bh p):=by
 obtain ⟨hn,hg⟩:=h
 refine Eq.mp (tK p _) ⟨λh0=>?_,λh0=>⟨λh1=>?_,λh1=>⟨_,if_pos hg,⟨λh2=>?_,λh2=>?_⟩⟩⟩⟩
 ·simp only [beq_iff_eq] at h0
  exact Aw λhh=>by obtain ⟨_,h2,h3⟩:=hh;have:=(Gm.1 h2).1;omega
 ·simp only [bne_iff_ne,ne_eq,Int.natCast_inj] at h1
  exact Aw λhh=>h1 hh.2.2
 ·have h2:=Cs h2
  exact Aw λhh=>h2 hh.1
 ·simp only [beq_eq_false_iff_ne,ne_eq] at h0
  simp only [bne_eq_false_iff_eq,Int.natCast_inj] at h1
  have h2:Rt p.1 p.2.2.1=true:=Db h2
  refine Am p.2.1.size (λv=>v.1) (λj v=>v.2=(p.1,p.2.1,p.2.2.1,())/\ ∀k,k<j->qU p.2.1 k) rfl ⟨rfl,λk hk=>absurd hk (Nat.not_lt_zero _)⟩ ?_
  rintro j ⟨i,v⟩ K hj hi ⟨hv,hR⟩ hK
  dsimp only at hi hv⊢
  subst hi hv
  dsimp only
  refine Br.dec (λhl=>?_) λhl=>?_
  ·have hl:j<p.2.1.size:=by omega
   refine ⟨_,if_pos ⟨Int.natCast_nonneg j,Int.ofNat_lt.2 hl,hn⟩,⟨λhq=>?_,λhq=>?_⟩⟩
   ·have hq: ¬gX p.2.1 j=true:=Cs hq
    refine Aw λhh=>hq (Gm.2 ?_)
    rw [Int.toNat_natCast]
    exact (Gm.1 hh.2.1).2 j hl
   ·have hq:gX p.2.1 j=true:=Db hq
    have hq:=Gm.1 hq
    rw [Int.toNat_natCast] at hq
    rw [Ak (by omega)]
    refine hK hl _ rfl ⟨rfl,λk hk=>?_⟩
    by_cases e:k=j
    ·subst e;exact hq
    ·exact hR k (by omega)
  ·have:j=p.2.1.size:=by omega
   subst this
   have:=(Gm.1 h2).2.1
   exact Kf ⟨h2,Gm.2 ⟨⟨by omega,by omega⟩,hR⟩,h1⟩
theorem Yq:Sound Try.prog 110 Fu:=
 Sound.Dg Bu (Ah jB (Ah sS At)) mixed Try.func110 (by kernel_rfl) (by kernel_rfl) λx h=>sw x.1 h
theorem ss (p:PP) (h:Eu p):fnW Cu (look [(158,Kk),(159,Tq)]) Fu Try.f130 (p,()) (λ(z:Bool)=>z=Bh p):=by
 obtain ⟨hn,hg⟩:=h
 refine Eq.mp (tG p _) ⟨_,if_pos hg,⟨λh1=>⟨_,if_pos hn,⟨λh2=>?_,λh2=>?_⟩⟩,λh1=>?_⟩⟩
 ·have h1:Rt p.1 p.2.2.1=true:=h1
  have h2:Ye p.2.1=true:=h2
  by_cases e:p.2.1.size=p.2.2.1.length
  ·rw [e,beq_self_eq_true];exact Kf ⟨h1,h2,e⟩
  ·rw [show ((p.2.1.size:Int)==(p.2.2.1.length:Int))=false from beq_eq_false_iff_ne.2 (by omega)];exact Aw λhh=>e hh.2.2
 ·have h2:Ye p.2.1=false:=h2
  exact Aw λhh=>by rw [hh.2.1] at h2;cases h2
 ·have h1:Rt p.1 p.2.2.1=false:=h1
  exact Aw λhh=>by rw [hh.1] at h1;cases h1
theorem Yo:Sound Try.prog 130 Fu:=
 Sound.Dg Bu (Ah jz (Ah pf At)) mixed Try.func130 (by kernel_rfl) (by kernel_rfl) λx h=>ss x.1 h
theorem Ab3 (p:PP) (room:Int) (h:Eu p/\roomy room):fnW Cu (look [(34,ao)]) qM Try.f14 (p,room,()) (λ(z:Int)=>z=Sn p room):=by
 obtain ⟨⟨h1,h2⟩,h3,h4⟩:=h
 refine Eq.mp (Abt p room _) ?_
 rw [Bs (by omega) (by omega)]
 refine Br.dec (λhn=>?_) λhn=>⟨_,if_pos ⟨h2,by dsimp only;omega,by dsimp only;omega⟩,Br.dec (λhm=>?_) λhm=>?_⟩
 ·simp only [Sn,if_pos hn]
 ·exact ((if_neg hn).trans (if_pos hm)).symm
 ·exact ((if_neg hn).trans (if_neg hm)).symm
theorem ES:Sound Try.prog 14 qM:=
 Sound.Dg Bu (Ah nN At) mixed Try.func14 (by kernel_rfl) (by kernel_rfl) λx h=>Ab3 x.1 x.2.1 h
theorem Ab5 (p:PP) (h:Eu p):fnW Cu (look [(36,Vb)]) kB Try.f16 (p,()) (λ(z:PP)=>z=p):=Eq.mp (Abv p _) ⟨_,if_pos h.2,rfl⟩
theorem EU:Sound Try.prog 16 kB:=
 Sound.Dg Bu (Ah nO At) mixed Try.func16 (by kernel_rfl) (by kernel_rfl) λx h=>Ab5 x.1 h
theorem uo {a b:ByteArray} :(a.toList==b.toList)=decide (a=b):=by
 rw [Bool.eq_iff_iff,beq_iff_eq,decide_eq_true_iff,ByteArray.toList_eq,ByteArray.toList_eq]
 exact ⟨λh=>ByteArray.ext (Array.toList_inj.1 h),λh=>by rw [h]⟩
theorem Aav (a b:PP) (h:Eu a):fnW Cu (look [(38,al)]) qF Try.f19 (a,b,()) (λ(z:Bool)=>z=kl a b):=by
 refine Eq.mp (Abl a b _) ⟨λh1=>?_,λh1=>⟨λh2=>?_,λh2=>⟨_,if_pos h.2,⟨λh3=>?_,λh3=>?_⟩⟩⟩⟩
 ·simp only [bne_iff_ne,ne_eq] at h1
  unfold kl
  rw [decide_eq_false h1];rfl
 ·rw [uo] at h2
  unfold kl
  cases hd:decide (a.2.1=b.2.1)<;>simp_all
 ·have h3:(!fC a.2.2.1 b.2.2.1)=true:=h3
  simp only [fC,Bool.not_eq_true'] at h3
  unfold kl
  rw [h3];simp
 ·have h3:(!fC a.2.2.1 b.2.2.1)=false:=h3
  rw [uo] at h2
  simp only [fC] at h3
  simp only [bne_eq_false_iff_eq] at h1
  unfold kl
  simp_all
theorem EJ:Sound Try.prog 19 qF:=
 Sound.Dg Bu (Ah nC At) mixed Try.func19 (by kernel_rfl) (by kernel_rfl) λx h=>Aav x.1 x.2.1 h
theorem yl (p:PP):kl p p=true:=by simp [kl]
end Go.Proofs.Ytjbdmibbbpdnnaa

namespace Go.Proofs.Ytjbdmibbbpdnnaa
open Go.RowKit
abbrev tM1:Ty:= .clo 132 (.pair (.ptr tL) .unit)
noncomputable abbrev dD:Spec:=Dg (.pair tI (.pair (.ptr tL) .unit)) .bool false true (λx=>short x.2.1) (λx=>!Bi x.2.1 x.1)
noncomputable abbrev qI:Spec:=Dg (.pair tL (.pair tM1 .unit)) tI false true (λx=>short x.1/\short x.2.1.1) (λx=>Bw (λy=>!Bi x.2.1.1 y) x.1 0)
noncomputable abbrev qC:Spec:=Dg (.pair tL (.pair tM1 .unit)) .bool false true (λx=>short x.1/\short x.2.1.1) (λx=>List.any x.1 (λy=>!Bi x.2.1.1 y))
noncomputable abbrev dA:Spec:=Dg (.pair tL (.pair tL .unit)) .bool false true (λx=>short x.1/\short x.2.1) (λx=>List.all x.2.1 (λy=>Bi x.1 y))
def xj (n:Int) (g:List (List Int)) (j:Nat):Prop:= ∀h:j<g.length,Fa n g[j]=true/\(∀h1:0<j,g[j-1].length<g[j].length/\ ∀x∈g[j-1],x∈g[j])
noncomputable def Lk (p:PP) (g:List (List Int)):Bool:=dec (Bh p=true/\(1<=g.length/\g.length<=5)/\(∀j,j<g.length->xj p.1 g j)/\ ∃x,g[g.length-1]?=some x/\(x.length:Int)=p.1)
noncomputable abbrev Gt:Spec:=Dg (.pair Eh (.pair dP .unit)) .bool false true (λx=>Eu x.1/\Du x.2.1) (λx=>Lk x.1 x.2.1)
noncomputable abbrev np:Spec:=Dg (.pair Eh (.pair dP .unit)) .bool false true (λx=>Eu x.1/\Du x.2.1) (λ_=>true)
theorem PY (x:Int) (xs:List Int) (P:Bool->Prop):(∃(y3:Bool),Cv.fn (xs,x,())=some y3/\P !y3)=fnW Cu (look [(133,Cv)]) dD Try.f132 (x,xs,()) P:=by kernel_rfl
theorem Abp (xs:List Int) (c:List Int×Unit) (P:Int->Prop):(Bj (λ(v3:Int×PUnit) (k4:Int×PUnit->Prop)=>Br (decide (v3.1<(↑xs.length:Int))) (∃(y5:Int),idx xs v3.1=some y5/\ ∃(y6:Bool),dD.fn (y5,c.1,())=some y6/\Br y6 (P v3.1) (k4 (IntKind.i64.wrap (v3.1+(1:Int)),()))) (P (-1:Int))) ((0:Int),PUnit.unit))=fnW Cu (look [(132,dD)]) qI Try.f118 (xs,c,()) P:=by kernel_rfl
theorem Abh (xs:List Int) (c:List Int×Unit) (P:Bool->Prop):(∃(y3:Int),qI.fn (xs,c,())=some y3/\P (decide (y3>=(0:Int))))=fnW Cu (look [(118,qI)]) qC Try.f131 (xs,c,()) P:=by kernel_rfl
theorem PU (xs ys:List Int) (P:Bool->Prop):(Bj (λ(v3:Int×PUnit) (k4:Int×PUnit->Prop)=>Br (decide (v3.1<(↑ys.length:Int))) (∃(y5:Int),idx ys v3.1=some y5/\ ∃(y6:Bool),Cv.fn (xs,y5,())=some y6/\Br (!y6) (P false) (k4 (IntKind.i64.wrap (v3.1+(1:Int)),()))) (P true)) ((0:Int),PUnit.unit))=fnW Cu (look [(153,Cv)]) dA Try.f125 (xs,ys,()) P:=by kernel_rfl
abbrev bb:Type:=Int×Int×ByteArray×List (List Int)×PUnit
theorem oa (p:Int×ByteArray×List (List Int)×Unit) (g:List (List Int)) (P:Bool->Prop):(∃(y3:Bool),Fu.fn ((p.1,p.2.1,p.2.2.1,()),())=some y3/\Br (!y3) (P false) (∃(y4:Bool),Bf.fn ((↑g.length:Int),(1:Int),(5:Int),())=some y4/\Br (!y4) (P false) (Bj (λ(v5:bb) (k6:bb->Prop)=>Br (decide (v5.1<(↑g.length:Int))) (∃(y7:List Int),idx g v5.1=some y7/\ ∃(y8:Bool),Fm.fn (v5.2.1,y7,())=some y8/\Br (!y8) (P false) (Br (decide (v5.1>(0:Int))) (∃(y9:List Int),idx g v5.1=some y9/\ ∃(jJ:List Int),idx g (IntKind.i64.wrap (v5.1-(1:Int)))=some jJ/\Br (decide ((↑y9.length:Int)<=(↑jJ.length:Int))) (P false) (∃(iD:List Int),idx g v5.1=some iD/\ ∃(lb:List Int),idx g (IntKind.i64.wrap (v5.1-(1:Int)))=some lb/\ ∃(eO:Bool),dA.fn (iD,lb,())=some eO/\Br (!eO) (P false) (k6 (IntKind.i64.wrap (v5.1+(1:Int)),v5.2.1,v5.2.2.1,v5.2.2.2.1,())))) (k6 (IntKind.i64.wrap (v5.1+(1:Int)),v5.2.1,v5.2.2.1,v5.2.2.2.1,())))) (∃(y7:List Int),idx g (IntKind.i64.wrap ((↑g.length:Int)-(1:Int)))=some y7/\P ((↑y7.length:Int)==v5.2.1))) ((0:Int),p.1,p.2.1,p.2.2.1,PUnit.unit))))=fnW Cu (look [(110,Fu),(93,Bf),(111,Fm),(125,dA)]) Gt Try.f76 (p,g,()) P:=by kernel_rfl
abbrev ba:Type:=Int×Int×ByteArray×List (List Int)×PUnit
theorem o9 (p:Int×ByteArray×List (List Int)×Unit) (g:List (List Int)) (P:Bool->Prop):(∃(y3:Bool),Fu.fn ((p.1,p.2.1,p.2.2.1,()),())=some y3/\Br (!y3) (P false) (∃(y4:Int),Mz.fn (g,())=some y4/\ ∃(y5:Bool),Bf.fn (y4,(1:Int),(5:Int),())=some y5/\Br (!y5) (P false) (Bj (λ(v6:ba) (k7:ba->Prop)=>Br (decide (v6.1<(↑g.length:Int))) (∃(y8:List Int),idx g v6.1=some y8/\ ∃(y9:Bool),Fm.fn (v6.2.1,y8,())=some y9/\Br (!y9) (P false) (Br (decide (v6.1>(0:Int))) (∃(jJ:List Int),idx g (IntKind.i64.wrap (v6.1-(1:Int)))=some jJ/\Br (decide ((↑jJ.length:Int)>=(↑y8.length:Int))) (P false) (∃(iD:List Int),idx g (IntKind.i64.wrap (v6.1-(1:Int)))=some iD/\ ∃(lb:Bool),qC.fn (iD,(y8,()),())=some lb/\Br lb (P false) (k7 (IntKind.i64.wrap (v6.1+(1:Int)),v6.2.1,v6.2.2.1,v6.2.2.2.1,())))) (k7 (IntKind.i64.wrap (v6.1+(1:Int)),v6.2.1,v6.2.2.1,v6.2.2.2.1,())))) (∃(y8:List Int),idx g (IntKind.i64.wrap ((↑g.length:Int)-(1:Int)))=some y8/\ ∃(y9:Int),Ke.fn (y8,())=some y9/\P (y9==v6.2.1))) ((0:Int),p.1,p.2.1,p.2.2.1,PUnit.unit))))=fnW Cu (look [(130,Fu),(97,Bf),(58,Mz),(66,Fm),(131,qC),(82,Ke)]) Gt Try.f81 (p,g,()) P:=by kernel_rfl
theorem OW (x:Int) (xs:List Int) (h:short xs):fnW Cu (look [(133,Cv)]) dD Try.f132 (x,xs,()) (λ(z:Bool)=>z=!Bi xs x):=Eq.mp (PY x xs _) ⟨_,if_pos h,rfl⟩
theorem wE:Sound Try.prog 132 dD:=
 Sound.Dg Bu (Ah nB At) mixed Try.func132 (by kernel_rfl) (by kernel_rfl) λx h=>OW x.1 x.2.1 h
theorem Aaz (xs:List Int) (c:List Int×Unit) (h:short xs/\short c.1):fnW Cu (look [(132,dD)]) qI Try.f118 (xs,c,()) (λ(z:Int)=>z=Bw (λy=>!Bi c.1 y) xs 0):=by
 obtain ⟨h,h4⟩:=h
 unfold short at h
 refine Eq.mp (Abp xs c _) ?_
 refine Am xs.length (λv=>v.1) (λj _=>Bw (λy=>!Bi c.1 y) (xs.drop j) j=Bw (λy=>!Bi c.1 y) xs 0) rfl (by simp) ?_
 rintro j ⟨i,⟨⟩⟩ K hj hi hR hK
 dsimp only at hi⊢
 subst hi
 refine Br.dec (λhl=>?_) λhl=>?_
 ·have hl:j<xs.length:=by omega
  rw [List.drop_eq_getElem_cons hl] at hR
  simp only [Bw] at hR
  refine ⟨_,Ap hl,_,if_pos h4,⟨λhe=>?_,λhe=>?_⟩⟩
  ·have he:(!Bi c.1 xs[j])=true:=he
   rw [if_pos he] at hR
   exact hR
  ·have he:(!Bi c.1 xs[j])=false:=he
   rw [if_neg (by rw [he];decide)] at hR
   rw [Ak (by omega)]
   exact hK hl _ rfl (by push_cast;exact hR)
 ·have:j=xs.length:=by omega
  subst this
  rw [List.drop_length] at hR
  exact hR
theorem EN:Sound Try.prog 118 qI:=
 Sound.Dg Bu (Ah wE At) mixed Try.func118 (by kernel_rfl) (by kernel_rfl) λx h=>Aaz x.1 x.2.1 h
theorem Aar (xs:List Int) (c:List Int×Unit) (h:short xs/\short c.1):fnW Cu (look [(118,qI)]) qC Try.f131 (xs,c,()) (λ(z:Bool)=>z=List.any xs (λy=>!Bi c.1 y)):=by
 refine Eq.mp (Abh xs c _) ⟨_,if_pos h,?_⟩
 rw [Bool.eq_iff_iff,decide_eq_true_iff]
 exact Vz _ xs 0 (Int.le_refl 0)
theorem EF:Sound Try.prog 131 qC:=
 Sound.Dg Bu (Ah EN At) mixed Try.func131 (by kernel_rfl) (by kernel_rfl) λx h=>Aar x.1 x.2.1 h
theorem OS (xs ys:List Int) (h:short xs/\short ys):fnW Cu (look [(153,Cv)]) dA Try.f125 (xs,ys,()) (λ(z:Bool)=>z=List.all ys (λy=>Bi xs y)):=by
 obtain ⟨h4,h⟩:=h
 unfold short at h
 refine Eq.mp (PU xs ys _) ?_
 refine Am ys.length (λv=>v.1) (λj _=> ∀y∈ys.take j,Bi xs y=true) rfl (by simp) ?_
 rintro j ⟨i,⟨⟩⟩ K hj hi hR hK
 dsimp only at hi⊢
 subst hi
 refine Br.dec (λhl=>?_) λhl=>?_
 ·have hl:j<ys.length:=by omega
  refine ⟨_,Ap hl,_,if_pos h4,⟨λhe=>?_,λhe=>?_⟩⟩
  ·have he: ¬Bi xs ys[j]=true:=Cs he
   exact (List.all_eq_false.2 ⟨_,List.getElem_mem hl,he⟩).symm
  ·have he:Bi xs ys[j]=true:=Db he
   rw [Ak (by omega)]
   refine hK hl _ rfl ?_
   rw [List.take_succ_eq_append_getElem hl]
   intro x hx
   rcases List.mem_append.1 hx with hx|hx
   ·exact hR x hx
   ·rw [List.mem_singleton.1 hx];exact he
 ·have:j=ys.length:=by omega
  subst this
  rw [List.take_length] at hR
  exact (List.all_eq_true.2 hR).symm
theorem wB:Sound Try.prog 125 dA:=
 Sound.Dg Bu (Ah Wh At) mixed Try.func125 (by kernel_rfl) (by kernel_rfl) λx h=>OS x.1 x.2.1 h
theorem zF {a b:Int} {P:Prop} (h:P↔a=b):(a==b)=dec P:=by
 by_cases e:a=b
 ·rw [beq_iff_eq.2 e];exact Kf (h.2 e)
 ·rw [beq_eq_false_iff_ne.2 e];exact Aw λhp=>e (h.1 hp)
theorem mV (p:PP) (g:List (List Int)) (h:Eu p/\Du g):fnW Cu (look [(110,Fu),(93,Bf),(111,Fm),(125,dA)]) Gt Try.f76 (p,g,()) (λ(z:Bool)=>z=Lk p g):=by
 obtain ⟨hp,hg,h4⟩:=h
 refine Eq.mp (oa p g _) ⟨_,if_pos hp,⟨λh1=>?_,λh1=>⟨_,if_pos trivial,⟨λh2=>?_,λh2=>?_⟩⟩⟩⟩
 ·have h1:=Cs h1
  exact Aw λhh=>h1 hh.1
 ·have h2:=Cs h2
  rw [Ca] at h2
  dsimp only at h2
  exact Aw λhh=>h2 (by have:=hh.2.1;omega)
 ·have h1:Bh p=true:=Db h1
  have h2:=Db h2
  rw [Ca] at h2
  dsimp only at h2
  have hv:=fY h1
  refine Am g.length (λv=>v.1) (λj v=>v.2=(p.1,p.2.1,p.2.2.1,())/\ ∀k,k<j->xj p.1 g k) rfl ⟨rfl,λk hk=>absurd hk (Nat.not_lt_zero _)⟩ ?_
  rintro j ⟨i,v⟩ K hj hi ⟨rS,hR⟩ hK
  dsimp only at hi rS⊢
  subst hi rS
  dsimp only
  refine Br.dec (λhl=>?_) λhl=>?_
  ·have hl:j<g.length:=by omega
   have hm:=h4 _ (List.getElem_mem hl)
   refine ⟨_,Ap hl,_,if_pos ⟨⟨by dsimp only;omega,by dsimp only;omega⟩,hm⟩,⟨λhq=>?_,λhq=>?_⟩⟩
   ·have hq: ¬Fa p.1 g[j]=true:=Cs hq
    exact Aw λhh=>hq (hh.2.2.1 j hl hl).1
   ·have hq:Fa p.1 g[j]=true:=Db hq
    refine Br.dec (λh0=>?_) λh0=>?_
    ·have h0:0<j:=by omega
     rw [Bs (by omega) (by omega),show (j:Int)-1=((j-1:Nat):Int) by omega]
     have TU:=h4 _ (List.getElem_mem (show j-1<g.length by omega))
     refine ⟨_,Ap hl,_,Ap (by omega),Br.dec (λhc=>?_) λhc=>⟨_,Ap hl,_,Ap (by omega),_,if_pos ⟨hm,TU⟩,⟨λha=>?_,λha=>?_⟩⟩⟩
     ·exact Aw λhh=>by have:=((hh.2.2.1 j hl hl).2 h0).1;omega
     ·have ha: ¬List.all g[j-1] (λy=>Bi g[j] y)=true:=Cs ha
      exact Aw λhh=>ha (List.all_eq_true.2 λy hy=>decide_eq_true (((hh.2.2.1 j hl hl).2 h0).2 y hy))
     ·have ha:List.all g[j-1] (λy=>Bi g[j] y)=true:=Db ha
      rw [Ak (by omega)]
      refine hK hl _ rfl ⟨rfl,λk hk=>?_⟩
      by_cases e:k=j
      ·subst e
       exact λ_=>⟨hq,λ_=>⟨by omega,λy hy=>of_decide_eq_true (List.all_eq_true.1 ha y hy)⟩⟩
      ·exact hR k (by omega)
    ·rw [Ak (by omega)]
     refine hK hl _ rfl ⟨rfl,λk hk=>?_⟩
     by_cases e:k=j
     ·subst e
      exact λ_=>⟨hq,λh=>by omega⟩
     ·exact hR k (by omega)
  ·have:j=g.length:=by omega
   subst this
   rw [Bs (by omega) (by omega),show (g.length:Int)-1=((g.length-1:Nat):Int) by omega]
   refine ⟨_,Ap (by omega),zF ?_⟩
   constructor
   ·rintro ⟨_,_,_,x,hx,hn⟩
    rw [List.getElem?_eq_getElem (by omega)] at hx
    rw [Option.some.inj hx];exact hn
   ·intro hn
    exact ⟨h1,by omega,hR,_,List.getElem?_eq_getElem (by omega),hn⟩
theorem fN:Sound Try.prog 76 Gt:=
 Sound.Dg Bu (Ah Yq (Ah Rc (Ah iq (Ah wB At)))) mixed Try.func76 (by kernel_rfl) (by kernel_rfl) λx h=>mV x.1 x.2.1 h
theorem mU (p:PP) (g:List (List Int)) (h:Eu p/\Du g):fnW Cu (look [(130,Fu),(97,Bf),(58,Mz),(66,Fm),(131,qC),(82,Ke)]) Gt Try.f81 (p,g,()) (λ(z:Bool)=>z=Lk p g):=by
 obtain ⟨hp,hg,h4⟩:=h
 refine Eq.mp (o9 p g _) ⟨_,if_pos hp,⟨λh1=>?_,λh1=>⟨_,if_pos trivial,_,if_pos trivial,⟨λh2=>?_,λh2=>?_⟩⟩⟩⟩
 ·have h1:=Cs h1
  exact Aw λhh=>h1 hh.1
 ·have h2:=Cs h2
  rw [Ca] at h2
  dsimp only at h2
  exact Aw λhh=>h2 (by have:=hh.2.1;omega)
 ·have h1:Bh p=true:=Db h1
  have h2:=Db h2
  rw [Ca] at h2
  dsimp only at h2
  have hv:=fY h1
  refine Am g.length (λv=>v.1) (λj v=>v.2=(p.1,p.2.1,p.2.2.1,())/\ ∀k,k<j->xj p.1 g k) rfl ⟨rfl,λk hk=>absurd hk (Nat.not_lt_zero _)⟩ ?_
  rintro j ⟨i,v⟩ K hj hi ⟨rS,hR⟩ hK
  dsimp only at hi rS⊢
  subst hi rS
  dsimp only
  refine Br.dec (λhl=>?_) λhl=>?_
  ·have hl:j<g.length:=by omega
   have hm:=h4 _ (List.getElem_mem hl)
   refine ⟨_,Ap hl,_,if_pos ⟨⟨by dsimp only;omega,by dsimp only;omega⟩,hm⟩,⟨λhq=>?_,λhq=>?_⟩⟩
   ·have hq: ¬Fa p.1 g[j]=true:=Cs hq
    exact Aw λhh=>hq (hh.2.2.1 j hl hl).1
   ·have hq:Fa p.1 g[j]=true:=Db hq
    refine Br.dec (λh0=>?_) λh0=>?_
    ·have h0:0<j:=by omega
     rw [Bs (by omega) (by omega),show (j:Int)-1=((j-1:Nat):Int) by omega]
     have TU:=h4 _ (List.getElem_mem (show j-1<g.length by omega))
     refine ⟨_,Ap (by omega),Br.dec (λhc=>?_) λhc=>⟨_,Ap (by omega),_,if_pos ⟨TU,hm⟩,⟨λha=>?_,λha=>?_⟩⟩⟩
     ·exact Aw λhh=>by have:=((hh.2.2.1 j hl hl).2 h0).1;omega
     ·have ha:List.any g[j-1] (λy=>!Bi g[j] y)=true:=ha
      obtain ⟨y,hy,hn⟩:=List.any_eq_true.1 ha
      refine Aw λhh=>?_
      have:=decide_eq_true (((hh.2.2.1 j hl hl).2 h0).2 y hy)
      have hn:(!decide (y∈g[j]))=true:=hn
      rw [this] at hn;cases hn
     ·have ha:List.any g[j-1] (λy=>!Bi g[j] y)=false:=ha
      rw [Ak (by omega)]
      refine hK hl _ rfl ⟨rfl,λk hk=>?_⟩
      by_cases e:k=j
      ·subst e
       refine λ_=>⟨hq,λ_=>⟨by omega,λy hy=>?_⟩⟩
       have hn:=List.any_eq_false.1 ha y hy
       have hn: ¬(!decide (y∈g[k]))=true:=hn
       simpa using hn
      ·exact hR k (by omega)
    ·rw [Ak (by omega)]
     refine hK hl _ rfl ⟨rfl,λk hk=>?_⟩
     by_cases e:k=j
     ·subst e
      exact λ_=>⟨hq,λh=>by omega⟩
     ·exact hR k (by omega)
  ·have:j=g.length:=by omega
   subst this
   rw [Bs (by omega) (by omega),show (g.length:Int)-1=((g.length-1:Nat):Int) by omega]
   refine ⟨_,Ap (by omega),_,if_pos trivial,zF ?_⟩
   constructor
   ·rintro ⟨_,_,_,x,hx,hn⟩
    rw [List.getElem?_eq_getElem (by omega)] at hx
    rw [Option.some.inj hx];exact hn
   ·intro hn
    exact ⟨h1,by omega,hR,_,List.getElem?_eq_getElem (by omega),hn⟩
theorem fM:Sound Try.prog 81 Gt:=
 Sound.Dg Bu (Ah Yo (Ah Ma (Ah cO (Ah l6 (Ah EF (Ah Vd At)))))) mixed Try.func81 (by kernel_rfl) (by kernel_rfl) λx h=>mU x.1 x.2.1 h
end Go.Proofs.Ytjbdmibbbpdnnaa

namespace Go.Proofs.Ytjbdmibbbpdnnaa
open Go.RowKit
def Cc (xs:List Int) (i:Int):Int:=xs.getD i.toNat 0
def Aa (p q:List Int):List Int:=p.map (Cc q)
def Vq (f:Nat->Nat) (g:Nat->Int) (m:Nat) (init:List Int):List Int:=(List.range m).foldl (λ(out:List Int) (i:Nat)=>out.set (f i) (g i)) init
def An (p:List Int):List Int:=Vq (λi=>(Cc p (i:Int)).toNat) (λi=>(i:Int)) p.length (List.replicate p.length 0)
def Gw (n:Nat) (p:List Int):Prop:= ∀y∈p,0<=y/\y<n
noncomputable abbrev Tp:Spec:=Dg (.pair tL (.pair tL .unit)) tL false true (λx=>List.length x.1<=20/\Gw (List.length x.2.1) x.1) (λx=>Aa x.1 x.2.1)
noncomputable abbrev El:Spec:=Dg (.pair tL .unit) tL false true (λx=>List.length x.1<=20/\Gw (List.length x.1) x.1) (λx=>An x.1)
noncomputable abbrev Cg:Spec:=Dg (.pair tI .unit) tL false true (λx=>0<=x.1/\x.1<=20) (λx=>upto x.1.toNat)
noncomputable abbrev Kr:Spec:=Dg (.pair tL .unit) tL false true (λx=>Jk x.1=true) (λx=>An x.1)
def Af (g:List (List Int)) (l:Int):List Int:=if l>0 then g.getD (l-1).toNat [] else An (g.getD (-l-1).toNat [])
def Em (n:Int) (l:Int):Prop:=l≠0/\ -n<=l/\l<=n
noncomputable abbrev Qo:Spec:=Dg (.pair dP (.pair tI .unit)) tL false false (λx=>Em (List.length x.1) x.2.1/\List.length x.1<=8/\ ∀p∈x.1,Jk p=true) (λx=>Af x.1 x.2.1)
def Ag (n:Nat):List Int:=(List.range n).flatMap λ(k:Nat)=> [(k:Int)+1,-((k:Int)+1)]
noncomputable abbrev Ie:Spec:=Dg (.pair tI .unit) tL false true (λx=>0<=x.1/\x.1<=8) (λx=>Ag x.1.toNat)
noncomputable abbrev Kj:Spec:=Dg (.pair Eh (.pair tL (.pair tI .unit))) tL false true (λx=>Bh x.1=true/\List.length x.2.1<=20/\(∀y∈x.2.1,0<=y/\y<x.1.1)/\Em (List.length x.1.2.2.1) x.2.2.1) (λx=>Aa x.2.1 (Af x.1.2.2.1 x.2.2.1))
theorem pA (p q:List Int) (P:List Int->Prop):(((0:Int)<=(↑p.length:Int)/\(↑p.length:Int)<(↑Bo:Int)+(1:Int))/\(↑p.length:Int)=(↑p.length:Int)/\0=0/\(List.replicate (↑p.length:Int).toNat (Int.ofNat (nat_lit 0))).length=(List.replicate (↑p.length:Int).toNat (Int.ofNat (nat_lit 0))).length/\Bj (λ(v3:Int×List Int×PUnit) (k4:Int×List Int×PUnit->Prop)=>Br (decide (v3.1<(↑p.length:Int))) (∃(y5:Int),idx p v3.1=some y5/\ ∃(y6:Int),idx q y5=some y6/\((0:Int)<=v3.1/\v3.1<(↑v3.2.1.length:Int))/\0+v3.1.toNat<v3.2.1.length/\0=0/\v3.2.1.length=(v3.2.1.set (0+v3.1.toNat) y6).length/\k4 (IntKind.i64.wrap (v3.1+(1:Int)),v3.2.1.set (0+v3.1.toNat) y6,())) (P (List.take v3.2.1.length (List.drop 0 v3.2.1)))) ((0:Int),List.replicate (↑p.length:Int).toNat (Int.ofNat (nat_lit 0)),PUnit.unit))=fnW Cu (look []) Tp Try.f156 (p,q,()) P:=by kernel_rfl
theorem pB (p:List Int) (P:List Int->Prop):(((0:Int)<=(↑p.length:Int)/\(↑p.length:Int)<(↑Bo:Int)+(1:Int))/\(↑p.length:Int)=(↑p.length:Int)/\0=0/\(List.replicate (↑p.length:Int).toNat (Int.ofNat (nat_lit 0))).length=(List.replicate (↑p.length:Int).toNat (Int.ofNat (nat_lit 0))).length/\Bj (λ(v2:Int×List Int×PUnit) (k3:Int×List Int×PUnit->Prop)=>Br (decide (v2.1<(↑p.length:Int))) (∃(y4:Int),idx p v2.1=some y4/\((0:Int)<=y4/\y4<(↑v2.2.1.length:Int))/\0+y4.toNat<v2.2.1.length/\0=0/\v2.2.1.length=(v2.2.1.set (0+y4.toNat) v2.1).length/\k3 (IntKind.i64.wrap (v2.1+(1:Int)),v2.2.1.set (0+y4.toNat) v2.1,())) (P (List.take v2.2.1.length (List.drop 0 v2.2.1)))) ((0:Int),List.replicate (↑p.length:Int).toNat (Int.ofNat (nat_lit 0)),PUnit.unit))=fnW Cu (look []) El Try.f175 (p,()) P:=by kernel_rfl
theorem FT (p:List Int) (P:List Int->Prop):(((0:Int)<=(↑p.length:Int)/\(↑p.length:Int)<(↑Bo:Int)+(1:Int))/\(↑p.length:Int)=(↑p.length:Int)/\0=0/\(List.replicate (↑p.length:Int).toNat (Int.ofNat (nat_lit 0))).length=(List.replicate (↑p.length:Int).toNat (Int.ofNat (nat_lit 0))).length/\Bj (λ(v2:Int×List Int×PUnit) (k3:Int×List Int×PUnit->Prop)=>Br (decide (v2.1<(↑p.length:Int))) (∃(y4:Int),idx p v2.1=some y4/\((0:Int)<=y4/\y4<(↑v2.2.1.length:Int))/\0+y4.toNat<v2.2.1.length/\0=0/\v2.2.1.length=(v2.2.1.set (0+y4.toNat) v2.1).length/\k3 (IntKind.i64.wrap (v2.1+(1:Int)),v2.2.1.set (0+y4.toNat) v2.1,())) (P (List.take v2.2.1.length (List.drop 0 v2.2.1)))) ((0:Int),List.replicate (↑p.length:Int).toNat (Int.ofNat (nat_lit 0)),PUnit.unit))=fnW Cu (look []) El Try.f170 (p,()) P:=by kernel_rfl
theorem pD (p:List Int) (P:List Int->Prop):(∃(y2:Bool),Ht.fn (p,())=some y2/\Br (!y2) (P (List.take 0 (List.drop 0 []))) (∃(y3:List Int),El.fn (p,())=some y3/\P y3))=fnW Cu (look [(169,Ht),(170,El)]) Kr Try.f150 (p,()) P:=by kernel_rfl
theorem zp (n:Int) (P:List Int->Prop):(0=0/\0=([]:List Int).length/\Bj (λ(v2:Int×List Int×PUnit) (k3:Int×List Int×PUnit->Prop)=>Br (decide (v2.1<n)) (0=0/\v2.2.1.length=v2.2.1.length/\v2.2.1.length+(List.take 1 (List.drop 0 [v2.1])).length<=Bo/\0=0/\(v2.2.1++List.take 1 (List.drop 0 [v2.1])).length=(v2.2.1++List.take 1 (List.drop 0 [v2.1])).length/\k3 (IntKind.i64.wrap (v2.1+(1:Int)),v2.2.1++List.take 1 (List.drop 0 [v2.1]),())) (P (List.take v2.2.1.length (List.drop 0 v2.2.1)))) ((0:Int),[],PUnit.unit))=fnW Cu (look []) Cg Try.f124 (n,()) P:=by kernel_rfl
theorem zr (g:List (List Int)) (l:Int) (P:List Int->Prop):(Br (decide (l>(0:Int))) (∃(y3:List Int),idx g (IntKind.i64.wrap (l-(1:Int)))=some y3/\P y3) (∃(y3:List Int),idx g (IntKind.i64.wrap (IntKind.i64.wrap ((0:Int)-l)-(1:Int)))=some y3/\ ∃(y4:List Int),El.fn (y3,())=some y4/\P y4))=fnW Cu (look [(175,El)]) Qo Try.f157 (g,l,()) P:=by kernel_rfl
theorem FP (n:Int) (P:List Int->Prop):(0=0/\0=([]:List Int).length/\Bj (λ(v2:Int×List Int×PUnit) (k3:Int×List Int×PUnit->Prop)=>Br (decide (v2.1<n)) (0=0/\v2.2.1.length=v2.2.1.length/\v2.2.1.length+(List.take 2 (List.drop 0 [IntKind.i64.wrap (v2.1+(1:Int)),IntKind.i64.wrap ((0:Int)-IntKind.i64.wrap (v2.1+(1:Int)))])).length<=Bo/\0=0/\(v2.2.1++List.take 2 (List.drop 0 [IntKind.i64.wrap (v2.1+(1:Int)),IntKind.i64.wrap ((0:Int)-IntKind.i64.wrap (v2.1+(1:Int)))])).length=(v2.2.1++List.take 2 (List.drop 0 [IntKind.i64.wrap (v2.1+(1:Int)),IntKind.i64.wrap ((0:Int)-IntKind.i64.wrap (v2.1+(1:Int)))])).length/\k3 (IntKind.i64.wrap (v2.1+(1:Int)),v2.2.1++List.take 2 (List.drop 0 [IntKind.i64.wrap (v2.1+(1:Int)),IntKind.i64.wrap ((0:Int)-IntKind.i64.wrap (v2.1+(1:Int)))]),())) (P (List.take v2.2.1.length (List.drop 0 v2.2.1)))) ((0:Int),[],PUnit.unit))=fnW Cu (look []) Ie Try.f117 (n,()) P:=by kernel_rfl
theorem LJ (p:Int×ByteArray×List (List Int)×Unit) (s:List Int) (l:Int) (P:List Int->Prop):(∃(y4:List Int),idx p.2.2.1 (IntKind.i64.wrap ((if true=true then if IntKind.i64.wrap ((0:Int)-l)>l then IntKind.i64.wrap ((0:Int)-l) else l else if IntKind.i64.wrap ((0:Int)-l)<l then IntKind.i64.wrap ((0:Int)-l) else l)-(1:Int)))=some y4/\Br (decide (l<(0:Int))) (∃(y5:List Int),Kr.fn (y4,())=some y5/\0=0/\0=([]:List Int).length/\Bj (λ(v6:Int×List Int×PUnit) (k7:Int×List Int×PUnit->Prop)=>Br (decide (v6.1<(↑s.length:Int))) (∃(y8:Int),idx s v6.1=some y8/\ ∃(y9:Int),idx y5 y8=some y9/\0=0/\v6.2.1.length=v6.2.1.length/\v6.2.1.length+(List.take 1 (List.drop 0 [y9])).length<=Bo/\0=0/\(v6.2.1++List.take 1 (List.drop 0 [y9])).length=(v6.2.1++List.take 1 (List.drop 0 [y9])).length/\k7 (IntKind.i64.wrap (v6.1+(1:Int)),v6.2.1++List.take 1 (List.drop 0 [y9]),())) (P (List.take v6.2.1.length (List.drop 0 v6.2.1)))) ((0:Int),[],PUnit.unit)) (0=0/\0=([]:List Int).length/\Bj (λ(v5:Int×List Int×PUnit) (k6:Int×List Int×PUnit->Prop)=>Br (decide (v5.1<(↑s.length:Int))) (∃(y7:Int),idx s v5.1=some y7/\ ∃(y8:Int),idx y4 y7=some y8/\0=0/\v5.2.1.length=v5.2.1.length/\v5.2.1.length+(List.take 1 (List.drop 0 [y8])).length<=Bo/\0=0/\(v5.2.1++List.take 1 (List.drop 0 [y8])).length=(v5.2.1++List.take 1 (List.drop 0 [y8])).length/\k6 (IntKind.i64.wrap (v5.1+(1:Int)),v5.2.1++List.take 1 (List.drop 0 [y8]),())) (P (List.take v5.2.1.length (List.drop 0 v5.2.1)))) ((0:Int),[],PUnit.unit)))=fnW Cu (look [(150,Kr)]) Kj Try.f115 (p,s,l,()) P:=by kernel_rfl
theorem Ih {xs:List Int} {i:Nat} (h:i<xs.length):Cc xs (i:Int)=xs[i]:=by
 unfold Cc
 rw [Int.toNat_natCast,List.getD_eq_getElem?_getD,List.getElem?_eq_getElem h];rfl
theorem Um {xs:List Int} {y:Int} (h0:0<=y) (h:y<xs.length):idx xs y=some (Cc xs y):=by
 have hy:y.toNat<xs.length:=by omega
 have e:y=(y.toNat:Int):=by omega
 rw [e,Ap hy,Ih hy]
theorem Ta (f:Nat->Nat) (g:Nat->Int) (m:Nat) (init:List Int):Vq f g (m+1) init=(Vq f g m init).set (f m) (g m):=by simp [Vq,List.range_succ]
theorem Vr (f:Nat->Nat) (g:Nat->Int) (m:Nat) (init:List Int):(Vq f g m init).length=init.length:=by
 induction m with
 |zero=>rfl
 |succ m ih=>rw [Ta,List.length_set,ih]
theorem jS (f:Nat->Nat) (g:Nat->Int) (init:List Int): ∀(m:Nat),(∀i j,i<m->j<m->f i=f j->i=j)-> ∀i,i<m->f i<init.length->(Vq f g m init)[f i]?=some (g i)
 |0,_,i,h,_=>absurd h (Nat.not_lt_zero _)
 |m+1,hf,i,hi,hl=>by
  rw [Ta]
  by_cases e:i=m
  ·subst e
   exact List.getElem?_set_self (by rw [Vr];exact hl)
  ·rw [List.getElem?_set_ne (λh=>e (hf i m hi (by omega) h.symm))]
   exact jS f g init m (λa b ha hb=>hf a b (by omega) (by omega)) i (by omega) hl
structure Wo (p:List Int):Prop where
 pos:1<=p.length
 len:p.length<=20
 row:Gw p.length p
 nodup:p.Nodup
theorem fI {p:List Int} (h:Jk p=true):Wo p:=by
 obtain ⟨h1,h2,h3⟩:=Gm.1 h
 refine ⟨h1,h2,λy hy=>?_,ct λj hj=>(h3 j hj hj).2.2⟩
 obtain ⟨j,hj,rfl⟩:=List.mem_iff_getElem.1 hy
 have:=h3 j hj hj
 omega
theorem Wo.inj {p:List Int} (h:Wo p) (i j:Nat) (hi:i<p.length) (hj:j<p.length) (e:(Cc p (i:Int)).toNat=(Cc p (j:Int)).toNat):i=j:=by
 rw [Ih hi,Ih hj] at e
 have h1:=h.row _ (List.getElem_mem hi)
 have h2:=h.row _ (List.getElem_mem hj)
 have e:p[i]=p[j]:=by omega
 refine Classical.byContradiction λEr=>?_
 rcases Nat.lt_or_gt_of_ne Er with hl|hl
 ·exact List.pairwise_iff_getElem.1 h.nodup i j hi hj hl e
 ·exact List.pairwise_iff_getElem.1 h.nodup j i hj hi hl e.symm
theorem Wo.JL {p:List Int} (h:Wo p) (k:Nat) (hk:k<p.length): ∃i,i<p.length/\(Cc p (i:Int)).toNat=k:=by
 have hm:=(Wp (xs:=p) h.row).2 (o3 h.nodup) k hk
 obtain ⟨i,hi,e⟩:=List.mem_iff_getElem.1 hm
 exact ⟨i,hi,by rw [Ih hi,e];exact Int.toNat_natCast k⟩
theorem Wo.lt {p:List Int} (h:Wo p) {i:Nat} (hi:i<p.length):(Cc p (i:Int)).toNat<p.length:=by
 rw [Ih hi]
 have:=h.row _ (List.getElem_mem hi)
 omega
theorem lv (p:List Int):(An p).length=p.length:=by unfold An;rw [Vr,List.length_replicate]
theorem IT {p:List Int} (h:Wo p) {i:Nat} (hi:i<p.length):(An p)[(Cc p (i:Int)).toNat]?=some (i:Int):=
 jS (λi=>(Cc p (i:Int)).toNat) (λi=>(i:Int)) _ p.length (λi j hi hj=>h.inj i j hi hj) i hi (by rw [List.length_replicate];exact h.lt hi)
theorem OL {p:List Int} (h:Wo p):Gw p.length (An p):=by
 intro y hy
 obtain ⟨k,hk,rfl⟩:=List.mem_iff_getElem.1 hy
 have mj:k<p.length:=by rw [lv] at hk;exact hk
 obtain ⟨i,hi,rfl⟩:=h.JL k mj
 have:=IT h hi
 rw [List.getElem?_eq_getElem hk] at this
 rw [Option.some.inj this]
 omega
theorem No (p q:List Int):(Aa p q).length=p.length:=by simp [Aa]
theorem uw {p q:List Int} {n:Nat} (hp:Gw q.length p) (hq:Gw n q):Gw n (Aa p q):=by
 intro y hy
 obtain ⟨x,hx,rfl⟩:=List.mem_map.1 hy
 have h1:=hp x hx
 rw [show x=(x.toNat:Int) by omega,Ih (by omega)]
 exact hq _ (List.getElem_mem _)
theorem oV (p q:List Int) (h:p.length<=20/\Gw q.length p):fnW Cu (look []) Tp Try.f156 (p,q,()) (λ(z:List Int)=>z=Aa p q):=by
 obtain ⟨h,hr⟩:=h
 refine Eq.mp (pA p q _) ?_
 refine ⟨⟨by omega,by show (p.length:Int)<(4294967296:Int)+1;omega⟩,rfl,rfl,rfl,?_⟩
 have Ns:=No p q
 refine Am p.length (λv=>v.1) (λj v=>v.2.1.length=(Aa p q).length/\v.2.1.take j=(Aa p q).take j) rfl ⟨by rw [Ns];simp,by simp⟩ ?_
 rintro j ⟨i,ys,⟨⟩⟩ K hj hi ⟨h1,h2⟩ hK
 dsimp only at hi h1 h2⊢
 subst hi
 refine Br.dec (λhl=>?_) λhl=>?_
 ·have hl:j<p.length:=by omega
  have hy:=hr _ (List.getElem_mem hl)
  refine ⟨_,Ap hl,_,Um hy.1 hy.2,⟨by omega,by omega⟩,by rw [Int.toNat_natCast];omega,rfl,by rw [List.length_set],?_⟩
  rw [Ak (by omega),Int.toNat_natCast,Nat.zero_add]
  have Hc:j<(Aa p q).length:=by rw [Ns];exact hl
  have e:Cc q p[j]=(Aa p q)[j]:=by simp [Aa]
  rw [e]
  exact hK hl _ rfl ⟨by rw [List.length_set];exact h1,Rd Hc h1 h2⟩
 ·have:j=p.length:=by omega
  subst this
  rw [<-Ns,List.take_length,<-h1,List.take_length] at h2
  rw [List.drop_zero,List.take_length]
  exact h2
theorem Pg:Sound Try.prog 156 Tp:=
 Sound.Dg Bu At mixed Try.func156 (by kernel_rfl) (by kernel_rfl) λx h=>oV x.1 x.2.1 h
theorem oW (p:List Int) (h:p.length<=20/\Gw p.length p):fnW Cu (look []) El Try.f175 (p,()) (λ(z:List Int)=>z=An p):=by
 obtain ⟨h,hr⟩:=h
 refine Eq.mp (pB p _) ?_
 refine ⟨⟨by omega,by show (p.length:Int)<(4294967296:Int)+1;omega⟩,rfl,rfl,rfl,?_⟩
 refine Am p.length (λv=>v.1) (λj v=>v.2.1=Vq (λi=>(Cc p (i:Int)).toNat) (λi=>(i:Int)) j (List.replicate p.length 0)) rfl rfl ?_
 rintro j ⟨i,ys,⟨⟩⟩ K hj hi h1 hK
 dsimp only at hi h1⊢
 subst hi
 have hlen:ys.length=p.length:=by rw [h1,Vr,List.length_replicate]
 refine Br.dec (λhl=>?_) λhl=>?_
 ·have hl:j<p.length:=by omega
  have hy:=hr _ (List.getElem_mem hl)
  refine ⟨_,Ap hl,⟨by omega,by omega⟩,by omega,rfl,by rw [List.length_set],?_⟩
  rw [Ak (by omega),Nat.zero_add]
  refine hK hl _ rfl ?_
  rw [Ta,<-h1,Ih hl]
 ·have:j=p.length:=by omega
  subst this
  rw [List.drop_zero,List.take_length]
  exact h1
theorem Ph:Sound Try.prog 175 El:=
 Sound.Dg Bu At mixed Try.func175 (by kernel_rfl) (by kernel_rfl) λx h=>oW x.1 h
theorem DP (p:List Int) (h:p.length<=20/\Gw p.length p):fnW Cu (look []) El Try.f170 (p,()) (λ(z:List Int)=>z=An p):=by
 obtain ⟨h,hr⟩:=h
 refine Eq.mp (FT p _) ?_
 refine ⟨⟨by omega,by show (p.length:Int)<(4294967296:Int)+1;omega⟩,rfl,rfl,rfl,?_⟩
 refine Am p.length (λv=>v.1) (λj v=>v.2.1=Vq (λi=>(Cc p (i:Int)).toNat) (λi=>(i:Int)) j (List.replicate p.length 0)) rfl rfl ?_
 rintro j ⟨i,ys,⟨⟩⟩ K hj hi h1 hK
 dsimp only at hi h1⊢
 subst hi
 have hlen:ys.length=p.length:=by rw [h1,Vr,List.length_replicate]
 refine Br.dec (λhl=>?_) λhl=>?_
 ·have hl:j<p.length:=by omega
  have hy:=hr _ (List.getElem_mem hl)
  refine ⟨_,Ap hl,⟨by omega,by omega⟩,by omega,rfl,by rw [List.length_set],?_⟩
  rw [Ak (by omega),Nat.zero_add]
  refine hK hl _ rfl ?_
  rw [Ta,<-h1,Ih hl]
 ·have:j=p.length:=by omega
  subst this
  rw [List.drop_zero,List.take_length]
  exact h1
theorem po:Sound Try.prog 170 El:=
 Sound.Dg Bu At mixed Try.func170 (by kernel_rfl) (by kernel_rfl) λx h=>DP x.1 h
theorem oY (p:List Int) (h:Jk p=true):fnW Cu (look [(169,Ht),(170,El)]) Kr Try.f150 (p,()) (λ(z:List Int)=>z=An p):=by
 have hp:=fI h
 have hs:short p:=by have:=hp.len;unfold short;omega
 refine Eq.mp (pD p _) ⟨_,if_pos hs,⟨λhe=>?_,λ_=>⟨_,if_pos ⟨hp.len,hp.row⟩,rfl⟩⟩⟩
 exact absurd h (Cs he)
theorem iu:Sound Try.prog 150 Kr:=
 Sound.Dg Bu (Ah Yp (Ah po At)) mixed Try.func150 (by kernel_rfl) (by kernel_rfl) λx h=>oY x.1 h
theorem Ys (j:Nat):upto (j+1)=upto j++ [(j:Int)]:=by simp [upto,List.range_succ]
theorem yD (n:Int) (h:0<=n/\n<=20):fnW Cu (look []) Cg Try.f124 (n,()) (λ(z:List Int)=>z=upto n.toNat):=by
 refine Eq.mp (zp n _) ⟨rfl,rfl,?_⟩
 refine Am n.toNat (λv=>v.1) (λj v=>v.2.1=upto j) rfl rfl ?_
 rintro j ⟨i,ys,⟨⟩⟩ K hj hi h1 hK
 dsimp only at hi h1⊢
 subst hi h1
 refine Br.dec (λhl=>?_) λhl=>?_
 ·refine ⟨rfl,rfl,?_,rfl,rfl,?_⟩
  ·show (upto j).length+1<=4294967296
   rw [Pk];omega
  ·rw [Ak (by omega)]
   exact hK (by omega) _ rfl (Ys j).symm
 ·have:j=n.toNat:=by omega
  subst this
  rw [List.drop_zero,List.take_length]
theorem nE:Sound Try.prog 124 Cg:=
 Sound.Dg Bu At mixed Try.func124 (by kernel_rfl) (by kernel_rfl) λx h=>yD x.1 h
theorem Li {g:List (List Int)} {k:Nat} (h:k<g.length):Af g ((k:Int)+1)=g[k]:=by
 unfold Af
 rw [if_pos (by omega),show ((k:Int)+1-1).toNat=k by omega,List.getD_eq_getElem?_getD,List.getElem?_eq_getElem h];rfl
theorem Lh {g:List (List Int)} {k:Nat} (h:k<g.length):Af g (-((k:Int)+1))=An g[k]:=by
 unfold Af
 rw [if_neg (by omega),show (-(-((k:Int)+1))-1).toNat=k by omega,List.getD_eq_getElem?_getD,List.getElem?_eq_getElem h];rfl
theorem Lw {n:Nat} {l:Int} (h:Em n l): ∃k:Nat,k<n/\(l=(k:Int)+1\/l= -((k:Int)+1)):=by
 obtain ⟨h1,h2,h3⟩:=h
 by_cases h0:0<l
 ·exact ⟨(l-1).toNat,by omega, .inl (by omega)⟩
 ·exact ⟨(-l-1).toNat,by omega, .inr (by omega)⟩
theorem yF (g:List (List Int)) (l:Int) (h:Em (List.length g) l/\List.length g<=8/\ ∀p∈g,Jk p=true):fnW Cu (look [(175,El)]) Qo Try.f157 (g,l,()) (λ(z:List Int)=>z=Af g l):=by
 obtain ⟨hl,h8,hp⟩:=h
 refine Eq.mp (zr g l _) ?_
 obtain ⟨k,hk,rfl|rfl⟩:=Lw hl
 ·refine Br.dec (λ_=>?_) λhn=>by omega
  rw [Bs (by omega) (by omega),show (k:Int)+1-1=(k:Int) by omega]
  exact ⟨_,Ap hk,(Li hk).symm⟩
 ·refine Br.dec (λhn=>by omega) λ_=>?_
  rw [Bs (n:=0- -((k:Int)+1)) (by omega) (by omega),Bs (by omega) (by omega),show (0:Int)- -((k:Int)+1)-1=(k:Int) by omega]
  have:=fI (hp _ (List.getElem_mem hk))
  exact ⟨_,Ap hk,_,if_pos ⟨this.len,this.row⟩,(Lh hk).symm⟩
theorem nG:Sound Try.prog 157 Qo:=
 Sound.Dg Bu (Ah Ph At) mixed Try.func157 (by kernel_rfl) (by kernel_rfl) λx h=>yF x.1 x.2.1 h
theorem Ut (j:Nat):Ag (j+1)=Ag j++ [(j:Int)+1,-((j:Int)+1)]:=by simp [Ag,List.range_succ,List.flatMap_append]
theorem Ko (j:Nat):(Ag j).length=2*j:=by
 induction j with
 |zero=>rfl
 |succ j ih=>rw [Ut,List.length_append,ih];simp only [List.length_cons,List.length_nil];omega
theorem Il {n:Nat} {l:Int} (h:l∈Ag n):Em n l:=by
 unfold Ag at h
 obtain ⟨k,hk,hl⟩:=List.mem_flatMap.1 h
 have hk:=List.mem_range.1 hk
 simp only [List.mem_cons,List.not_mem_nil,or_false] at hl
 unfold Em
 omega
theorem DM (n:Int) (h:0<=n/\n<=8):fnW Cu (look []) Ie Try.f117 (n,()) (λ(z:List Int)=>z=Ag n.toNat):=by
 refine Eq.mp (FP n _) ⟨rfl,rfl,?_⟩
 refine Am n.toNat (λv=>v.1) (λj v=>v.2.1=Ag j) rfl rfl ?_
 rintro j ⟨i,ys,⟨⟩⟩ K hj hi h1 hK
 dsimp only at hi h1⊢
 subst hi h1
 refine Br.dec (λhl=>?_) λhl=>?_
 ·refine ⟨rfl,rfl,?_,rfl,rfl,?_⟩
  ·show (Ag j).length+2<=4294967296
   rw [Ko];omega
  ·have e1:IntKind.i64.wrap ((j:Int)+1)=(j:Int)+1:=Bs (by omega) (by omega)
   have e2:IntKind.i64.wrap ((0:Int)-((j:Int)+1))= -((j:Int)+1):=by rw [Bs (by omega) (by omega)];omega
   rw [e1,e2]
   exact hK (by omega) _ rfl (Ut j).symm
 ·have:j=n.toNat:=by omega
  subst this
  rw [List.drop_zero,List.take_length]
theorem Xb:Sound Try.prog 117 Ie:=
 Sound.Dg Bu At mixed Try.func117 (by kernel_rfl) (by kernel_rfl) λx h=>DM x.1 h
structure Valid (p:PP):Prop where
 n:1<=p.1/\p.1<=20
 oe:1<=p.2.2.1.length/\p.2.2.1.length<=8
 perm: ∀m∈p.2.2.1,Jk m=true
 len: ∀m∈p.2.2.1,(m.length:Int)=p.1
theorem valid {p:PP} (h:Bh p=true):Valid p:=by
 have h0:=fY h
 obtain ⟨h1,_,_⟩:=Gm.1 h
 obtain ⟨_,_,h4⟩:=Gm.1 h1
 exact ⟨⟨h0.1,h0.2.1⟩,h0.2.2,λm hm=>(Gm.1 (h4 m hm)).2,λm hm=>(Gm.1 (h4 m hm)).1⟩
theorem jb {p:PP} (h:Valid p) {l:Int} (hl:Em (List.length p.2.2.1) l):((Af p.2.2.1 l).length:Int)=p.1/\Gw (Af p.2.2.1 l).length (Af p.2.2.1 l):=by
 obtain ⟨k,hk,rfl|rfl⟩:=Lw hl
 ·rw [Li hk]
  exact ⟨h.len _ (List.getElem_mem hk),(fI (h.perm _ (List.getElem_mem hk))).row⟩
 ·rw [Lh hk,lv]
  exact ⟨h.len _ (List.getElem_mem hk),OL (fI (h.perm _ (List.getElem_mem hk)))⟩
theorem ub (s y:List Int) (P:List Int->Prop) (h1:s.length<=20) (h2:Gw y.length s) (h3:P (Aa s y)):
  Bj
   (λ(v5:Int×List Int×PUnit) (k6:Int×List Int×PUnit->Prop)=>
    Br (decide (v5.1<(↑s.length:Int)))
     (∃(y7:Int),
      idx s v5.1=some y7/\
       ∃(y8:Int),
        idx y y7=some y8/\
         (0:Nat)=(0:Nat)/\
          v5.2.1.length=v5.2.1.length/\
           v5.2.1.length+(List.take (1:Nat) (List.drop (0:Nat) [y8])).length<=Bo/\
            (0:Nat)=(0:Nat)/\
             (v5.2.1++List.take (1:Nat) (List.drop (0:Nat) [y8])).length=(v5.2.1++List.take (1:Nat) (List.drop (0:Nat) [y8])).length/\
              k6 (IntKind.i64.wrap (v5.1+(1:Int)),v5.2.1++List.take (1:Nat) (List.drop (0:Nat) [y8]),()))
     (P (List.take v5.2.1.length (List.drop (0:Nat) v5.2.1))))
   ((0:Int),([]:List Int),PUnit.unit):=by
 refine Am s.length (λv=>v.1) (λj v=>v.2.1=(s.take j).map (Cc y)) rfl (by simp) ?_
 rintro j ⟨i,ys,⟨⟩⟩ K hj hi hR hK
 dsimp only at hi hR⊢
 subst hi hR
 refine Br.dec (λhl=>?_) λhl=>?_
 ·have hl:j<s.length:=by omega
  have hy:=h2 _ (List.getElem_mem hl)
  refine ⟨_,Ap hl,_,Um hy.1 hy.2,rfl,rfl,?_,rfl,rfl,?_⟩
  ·show ((s.take j).map (Cc y)).length+1<=4294967296
   rw [List.length_map,List.length_take];omega
  ·rw [Ak (by omega)]
   refine hK hl _ rfl ?_
   dsimp only
   rw [List.take_succ_eq_append_getElem hl,List.map_append]
   rfl
 ·have:j=s.length:=by omega
  subst this
  rw [List.drop_zero,List.take_length,List.take_length]
  exact h3
theorem JO (p:PP) (s:List Int) (l:Int) (h:Bh p=true/\List.length s<=20/\(∀y∈s,0<=y/\y<p.1)/\Em (List.length p.2.2.1) l):fnW Cu (look [(150,Kr)]) Kj Try.f115 (p,s,l,()) (λ(z:List Int)=>z=Aa s (Af p.2.2.1 l)):=by
 obtain ⟨hv,hs,hr,hl⟩:=h
 have hv:=valid hv
 have hf:=hv.oe
 refine Eq.mp (LJ p s l _) ?_
 have HX:=jb hv hl
 have Qc:Gw (Af p.2.2.1 l).length s:= λy hy=>by have:=hr y hy;omega
 obtain ⟨k,hk,rfl|rfl⟩:=Lw hl
 ·rw [if_pos rfl,Bs (n:=0-((k:Int)+1)) (by omega) (by omega),if_neg (by omega),Bs (by omega) (by omega),show (k:Int)+1-1=(k:Int) by omega]
  refine ⟨_,Ap hk,Br.dec (λhn=>by omega) λ_=>⟨rfl,rfl,?_⟩⟩
  rw [Li hk] at Qc⊢
  exact ub s _ (λz=>z=Aa s p.2.2.1[k]) hs Qc rfl
 ·rw [if_pos rfl,Bs (n:=0- -((k:Int)+1)) (by omega) (by omega),if_pos (by omega),Bs (by omega) (by omega),show (0:Int)- -((k:Int)+1)-1=(k:Int) by omega]
  refine ⟨_,Ap hk,Br.dec (λ_=>⟨_,if_pos (hv.perm _ (List.getElem_mem hk)),rfl,rfl,?_⟩) λhn=>by omega⟩
  rw [Lh hk] at Qc⊢
  exact ub s (An p.2.2.1[k]) (λz=>z=Aa s (An p.2.2.1[k])) hs Qc rfl
theorem aq:Sound Try.prog 115 Kj:=
 Sound.Dg Bu (Ah iu At) mixed Try.func115 (by kernel_rfl) (by kernel_rfl) λx h=>JO x.1 x.2.1 x.2.2.1 h
end Go.Proofs.Ytjbdmibbbpdnnaa

namespace Go.Proofs.Ytjbdmibbbpdnnaa
open Go.RowKit
abbrev rL:CK:= .row tI 2
def Mx:List (List Int)->Nat
 | []=>0
 |r::rs=>r.length+Mx rs
def low (k:Int):Prop:=0<=k/\k<=1099511627776
theorem Ck {α:Type} (xs:List α):List.take xs.length (List.drop 0 xs)=xs:=by rw [List.drop_zero,List.take_length]
end Go.Proofs.Ytjbdmibbbpdnnaa

namespace Go.Proofs.Ytjbdmibbbpdnnaa
open Go.RowKit
def mF (xs:List Int):Int:=xs.foldl max (xs.headD 0)
noncomputable abbrev qK:Spec:=Dg (.pair tL .unit) tI false true (λx=>1<=List.length x.1/\short x.1) (λx=>mF x.1)
theorem Abr (xs:List Int) (P:Int->Prop):(Br (decide ((↑xs.length:Int)<(1:Int))) False (∃(y2:Int),idx xs (0:Int)=some y2/\Bj (λ(v3:Int×Int×PUnit) (k4:Int×Int×PUnit->Prop)=>Br (decide (v3.2.1<(↑xs.length:Int))) (∃(y5:Int),idx xs v3.2.1=some y5/\k4 (if true=true then if y5>v3.1 then y5 else v3.1 else if y5<v3.1 then y5 else v3.1,IntKind.i64.wrap (v3.2.1+(1:Int)),())) (P v3.1)) (y2,(1:Int),PUnit.unit)))=fnW Cu (look []) qK Try.f83 (xs,()) P:=by kernel_rfl
theorem US (y v:Int):(if y>v then y else v)=max v y:=by split<;>omega
theorem Ab1 (xs:List Int) (h:1<=List.length xs/\short xs):fnW Cu (look []) qK Try.f83 (xs,()) (λ(z:Int)=>z=mF xs):=by
 obtain ⟨h1,h2⟩:=h
 unfold short at h2
 refine Eq.mp (Abr xs _) (Br.dec (λhn=>by omega) λ_=>?_)
 refine ⟨_,Ap (j:=0) (by omega),?_⟩
 refine ⟨λv=> ∃j:Nat,1<=j/\j<=xs.length/\v.2.1=j/\(xs.drop j).foldl max v.1=mF xs,λv=>xs.length-v.2.1.toNat,⟨1,Nat.le_refl _,h1,rfl,?_⟩,?_⟩
 ·cases xs with
  |nil=>simp at h1
  |cons y xs=>simp [mF]
 ·rintro ⟨m,i,⟨⟩⟩ ⟨j,g1,g2,g3,g4⟩
  dsimp only at g3 g4⊢
  subst g3
  refine Br.dec (λhl=>?_) λhl=>?_
  ·have hl:j<xs.length:=by omega
   refine ⟨_,Ap hl,?_⟩
   rw [Ak (by omega),if_pos rfl,US]
   refine ⟨⟨j+1,by omega,by omega,rfl,?_⟩,?_⟩
   ·rw [List.drop_eq_getElem_cons hl] at g4
    exact g4
   ·simp only [Int.toNat_natCast]
    omega
  ·have hj:j=xs.length:=by omega
   subst hj
   rw [List.drop_length] at g4
   exact g4
theorem EP:Sound Try.prog 83 qK:=
 Sound.Dg Bu At mixed Try.func83 (by kernel_rfl) (by kernel_rfl) λx h=>Ab1 x.1 h
theorem KQ {n:Nat} {room:Int} (h: ¬jd n room<0):jd n room=room-n/\(n:Int)<=room:=by
 unfold jd at*
 split at h
 ·exact absurd (show (-1:Int)<0 by decide) h
 ·rename_i h1;rw [if_neg h1];exact ⟨rfl,by omega⟩
theorem wM: ∀(xs:List (List Int)) (room:Int),0<=room-> ¬nW xs room<0->nW xs room=room-Mx xs
 | [],room,_,_=>by simp [nW,Mx]
 |r::xs,room,h0,h=>by
  simp only [nW,Mx] at h⊢
  split at h
  ·exact absurd (show (-1:Int)<0 by decide) h
  ·rename_i h1
   rw [if_neg h1]
   have e1:=KQ (n:=r.length) h1
   have e1:gY r room=room-r.length/\(r.length:Int)<=room:=e1
   rw [wM xs _ (by rw [e1.1];omega) h,e1.1]
   omega
theorem wN {xs:List (List Int)} {room:Int} (h: ¬Jl xs room<0):Jl xs room=room-xs.length-Mx xs:=by
 unfold Jl at*
 split at h
 ·exact absurd (show (-1:Int)<0 by decide) h
 ·rename_i h1
  rw [if_neg h1]
  have e1:=KQ h1
  rw [wM xs _ (by rw [e1.1];omega) h,e1.1]
end Go.Proofs.Ytjbdmibbbpdnnaa

namespace Go.Proofs.Ytjbdmibbbpdnnaa
open Go.RowKit
noncomputable abbrev Kd:Spec:=Dg (.pair tL .unit) tL false true (λx=>short x.1) (λx=>x.1)
theorem zm (xs:List Int) (P:List Int->Prop):(0=0/\0=([]:List Int).length/\0+xs.length<=Bo/\P (List.take ([]++xs).length (List.drop 0 ([]++xs))))=fnW Cu (look []) Kd Try.f123 (xs,()) P:=by kernel_rfl
theorem yB (xs:List Int) (h:short xs):fnW Cu (look []) Kd Try.f123 (xs,()) (λ(z:List Int)=>z=xs):=by
 unfold short at h
 refine Eq.mp (zm xs _) ⟨rfl,rfl,by show 0+xs.length<=4294967296;omega,?_⟩
 simp only [Ck,List.nil_append]
theorem cN:Sound Try.prog 123 Kd:=
 Sound.Dg Bu At mixed Try.func123 (by kernel_rfl) (by kernel_rfl) λx h=>yB x.1 h
end Go.Proofs.Ytjbdmibbbpdnnaa

namespace Go.Proofs.Ytjbdmibbbpdnnaa
open Go.RowKit
def Cf (xs is:List Int):List Int:=is.map (Cc xs)
noncomputable abbrev Ts:Spec:=Dg (.pair tL (.pair tL .unit)) tL false true (λx=>short x.1/\Gw (List.length x.2.1) x.1) (λx=>Cf x.2.1 x.1)
def Nu (xs:List Int):ByteArray:=bytesOf (xs.map λx=>IntKind.u8.wrap x)
noncomputable abbrev Fz:Spec:=Dg (.pair tL .unit) .str false true (λx=>short x.1) (λx=>Nu x.1)
def ic (ps:List (List Int)) (p:List Int):Int:=Bw (λq=>decide (q=p)) ps 0
theorem FR (is xs:List Int) (P:List Int->Prop):(0=0/\0=([]:List Int).length/\Bj (λ(v3:Int×List Int×PUnit) (k4:Int×List Int×PUnit->Prop)=>Br (decide (v3.1<(↑is.length:Int))) (∃(y5:Int),idx is v3.1=some y5/\ ∃(y6:Int),idx xs y5=some y6/\0=0/\v3.2.1.length=v3.2.1.length/\v3.2.1.length+(List.take 1 (List.drop 0 [y6])).length<=Bo/\0=0/\(v3.2.1++List.take 1 (List.drop 0 [y6])).length=(v3.2.1++List.take 1 (List.drop 0 [y6])).length/\k4 (IntKind.i64.wrap (v3.1+(1:Int)),v3.2.1++List.take 1 (List.drop 0 [y6]),())) (P (List.take v3.2.1.length (List.drop 0 v3.2.1)))) ((0:Int),[],PUnit.unit))=fnW Cu (look []) Ts Try.f113 (is,xs,()) P:=by kernel_rfl
theorem zv (xs:List Int) (P:ByteArray->Prop):(((0:Int)<=(↑xs.length:Int)/\(↑xs.length:Int)<(↑Bo:Int)+(1:Int))/\(↑xs.length:Int)=(↑xs.length:Int)/\0=0/\(List.replicate (↑xs.length:Int).toNat (Int.ofNat (nat_lit 0))).length=(List.replicate (↑xs.length:Int).toNat (Int.ofNat (nat_lit 0))).length/\Bj (λ(v2:Int×List Int×PUnit) (k3:Int×List Int×PUnit->Prop)=>Br (decide (v2.1<(↑xs.length:Int))) (∃(y4:Int),idx xs v2.1=some y4/\((0:Int)<=v2.1/\v2.1<(↑v2.2.1.length:Int))/\0+v2.1.toNat<v2.2.1.length/\0=0/\v2.2.1.length=(v2.2.1.set (0+v2.1.toNat) (IntKind.u8.wrap y4)).length/\k3 (IntKind.i64.wrap (v2.1+(1:Int)),v2.2.1.set (0+v2.1.toNat) (IntKind.u8.wrap y4),())) (P (bytesOf (List.take v2.2.1.length (List.drop 0 v2.2.1))))) ((0:Int),List.replicate (↑xs.length:Int).toNat (Int.ofNat (nat_lit 0)),PUnit.unit))=fnW Cu (look []) Fz Try.f128 (xs,()) P:=by kernel_rfl
theorem wi (xs is:List Int):(Cf xs is).length=is.length:=by simp [Cf]
theorem OP {α:Type} (y:α):List.take 1 (List.drop 0 [y])= [y]:=rfl
theorem DO (is xs:List Int) (h:short is/\Gw xs.length is):fnW Cu (look []) Ts Try.f113 (is,xs,()) (λ(z:List Int)=>z=Cf xs is):=by
 obtain ⟨h,hr⟩:=h
 unfold short at h
 refine Eq.mp (FR is xs _) ⟨rfl,rfl,?_⟩
 have Ns:=wi xs is
 refine Am is.length (λv=>v.1) (λj v=>v.2.1=(Cf xs is).take j) rfl rfl ?_
 rintro j ⟨i,ys,⟨⟩⟩ K hj hi h1 hK
 dsimp only at hi h1⊢
 subst hi
 refine Br.dec (λhl=>?_) λhl=>?_
 ·have hl:j<is.length:=by omega
  have hy:=hr _ (List.getElem_mem hl)
  have Hc:j<(Cf xs is).length:=by rw [Ns];exact hl
  refine ⟨_,Ap hl,_,Um hy.1 hy.2,rfl,rfl,?_,rfl,rfl,?_⟩
  ·show ys.length+1<=4294967296
   rw [h1,List.length_take];omega
  ·rw [Ak (by omega),OP]
   refine hK hl _ rfl ?_
   dsimp only
   rw [h1,List.take_succ_eq_append_getElem Hc]
   simp [Cf]
 ·have:j=is.length:=by omega
  subst this
  rw [Ck,h1,<-Ns,List.take_length]
theorem pk:Sound Try.prog 113 Ts:=
 Sound.Dg Bu At mixed Try.func113 (by kernel_rfl) (by kernel_rfl) λx h=>DO x.1 x.2.1 h
theorem yJ (xs:List Int) (h:short xs):fnW Cu (look []) Fz Try.f128 (xs,()) (λ(z:ByteArray)=>z=Nu xs):=by
 unfold short at h
 refine Eq.mp (zv xs _) ?_
 refine ⟨⟨by omega,by show (xs.length:Int)<(4294967296:Int)+1;omega⟩,rfl,rfl,rfl,?_⟩
 have Ns:(xs.map λx=>IntKind.u8.wrap x).length=xs.length:=by simp
 refine Am xs.length (λv=>v.1) (λj v=>v.2.1.length=(xs.map λx=>IntKind.u8.wrap x).length/\v.2.1.take j=(xs.map λx=>IntKind.u8.wrap x).take j) rfl ⟨by rw [Ns];simp,by simp⟩ ?_
 rintro j ⟨i,ys,⟨⟩⟩ K hj hi ⟨h1,h2⟩ hK
 dsimp only at hi h1 h2⊢
 subst hi
 refine Br.dec (λhl=>?_) λhl=>?_
 ·have hl:j<xs.length:=by omega
  refine ⟨_,Ap hl,⟨by omega,by omega⟩,by rw [Int.toNat_natCast];omega,rfl,by rw [List.length_set],?_⟩
  rw [Ak (by omega),Int.toNat_natCast,Nat.zero_add]
  have Hc:j<(xs.map λx=>IntKind.u8.wrap x).length:=by rw [Ns];exact hl
  have e:IntKind.u8.wrap xs[j]=(xs.map λx=>IntKind.u8.wrap x)[j]:=by simp
  rw [e]
  exact hK hl _ rfl ⟨by rw [List.length_set];exact h1,Rd Hc h1 h2⟩
 ·have:j=xs.length:=by omega
  subst this
  rw [<-Ns,List.take_length,<-h1,List.take_length] at h2
  rw [List.drop_zero,List.take_length,h2];rfl
theorem nM:Sound Try.prog 128 Fz:=
 Sound.Dg Bu At mixed Try.func128 (by kernel_rfl) (by kernel_rfl) λx h=>yJ x.1 h
theorem aQ {α:Type} (P:α->Bool) (y:α): ∀(l:List α) (i:Int),0<=i->Bw P (l++ [y]) i=if Bw P l i<0 then (if P y=true then i+l.length else-1) else Bw P l i
 | [],i,_=>by simp [Bw]
 |x::r,i,h=>by
  simp only [List.cons_append,Bw,List.length_cons]
  split
  ·rw [if_neg (by omega)]
  ·rw [aQ P y r (i+1) (by omega),show i+1+(r.length:Int)=i+((r.length+1:Nat):Int) by push_cast;omega]
theorem sA (ps:List (List Int)) (q p:List Int):ic (ps++ [q]) p=if ic ps p<0 then (if q=p then (ps.length:Int) else-1) else ic ps p:=by
 unfold ic
 rw [aQ _ _ _ _ (Int.le_refl 0)]
 simp only [decide_eq_true_eq,Int.zero_add]
def Ub (p:List Int):Prop:= ∀x∈p,0<=x/\x<256
theorem GW {x y:Int} (hx:0<=x/\x<256) (hy:0<=y/\y<256) (h:UInt8.ofNat (IntKind.u8.wrap x).toNat=UInt8.ofNat (IntKind.u8.wrap y).toNat):x=y:=by
 have h:=congrArg UInt8.toNat h
 simp only [IntKind.wrap_u8,UInt8.toNat_ofNat'] at h
 omega
theorem bytes_inj: ∀(p q:List Int),Ub p->Ub q->(p.map λx=>UInt8.ofNat (IntKind.u8.wrap x).toNat)=(q.map λx=>UInt8.ofNat (IntKind.u8.wrap x).toNat)->p=q
 | [],[],_,_,_=>rfl
 | [],_::_,_,_,h=>by simp at h
 |_::_,[],_,_,h=>by simp at h
 |x::p,y::q,hp,hq,h=>by
  simp only [List.map_cons,List.cons.injEq] at h
  rw [GW (hp x (by simp)) (hq y (by simp)) h.1,bytes_inj p q (λz hz=>hp z (by simp [hz])) (λz hz=>hq z (by simp [hz])) h.2]
theorem key_inj {p q:List Int} (hp:Ub p) (hq:Ub q) (h:Nu p=Nu q):p=q:=by
 refine bytes_inj p q hp hq ?_
 simp only [Nu,bytesOf,ByteArray.mk.injEq,List.map_map] at h
 have h:=congrArg Array.toList h
 simpa [Function.comp_def] using h
def KM (m:ByteArray->Option Int) (ps:List (List Int)):Prop:= ∀p,Ub p->m (Nu p)=if ic ps p<0 then none else some (ic ps p)
theorem KM.nil:KM (λ_=>none) []:= λp _=>by
 rw [if_pos (by unfold ic;simp [Bw])]
theorem KM.add {m:ByteArray->Option Int} {ps:List (List Int)} {q:List Int} (h:KM m ps) (hq:Ub q) (hn:ic ps q<0):KM (aB m (Nu q) (ps.length:Int)) (ps++ [q]):=by
 intro p hp
 rw [sA]
 unfold aB
 by_cases e:p=q
 ·subst e
  rw [if_pos rfl,if_pos hn,if_pos rfl,if_neg (by omega)]
 ·rw [if_neg (λhk=>e (key_inj hp hq hk)),h p hp]
  have e': ¬q=p:= λh=>e h.symm
  rw [if_neg e']
  by_cases CF:ic ps p<0
  ·rw [if_pos CF,if_pos CF,if_pos (by decide)]
  ·rw [if_neg CF,if_neg CF,if_neg CF]
theorem NA {α:Type} {xs:List α} {j:Nat} (h:j<xs.length) (d:α):xs.getD j d=xs[j]:=by
 rw [List.getD_eq_getElem?_getD,List.getElem?_eq_getElem h];rfl
end Go.Proofs.Ytjbdmibbbpdnnaa

namespace Go.Proofs.Ytjbdmibbbpdnnaa
open Go.RowKit
noncomputable abbrev Ip:Spec:=Dg (.pair Eh .unit) tL false true (λx=>List.length x.1.2.2.1<=8) (λx=>Ag (List.length x.1.2.2.1))
abbrev iy:Type:=Int×Int×ByteArray×List (List Int)×List Int×PUnit
theorem wZ (p:Int×ByteArray×List (List Int)×Unit) (P:List Int->Prop):(0=0/\0=([]:List Int).length/\Bj (λ(v2:iy) (k3:iy->Prop)=>Br (decide (v2.1<=(↑v2.2.2.2.1.length:Int))) (0=0/\v2.2.2.2.2.1.length=v2.2.2.2.2.1.length/\v2.2.2.2.2.1.length+(List.take 2 (List.drop 0 [v2.1,IntKind.i64.wrap ((0:Int)-v2.1)])).length<=Bo/\0=0/\(v2.2.2.2.2.1++List.take 2 (List.drop 0 [v2.1,IntKind.i64.wrap ((0:Int)-v2.1)])).length=(v2.2.2.2.2.1++List.take 2 (List.drop 0 [v2.1,IntKind.i64.wrap ((0:Int)-v2.1)])).length/\k3 (IntKind.i64.wrap (v2.1+(1:Int)),v2.2.1,v2.2.2.1,v2.2.2.2.1,v2.2.2.2.2.1++List.take 2 (List.drop 0 [v2.1,IntKind.i64.wrap ((0:Int)-v2.1)]),())) (P (List.take v2.2.2.2.2.1.length (List.drop 0 v2.2.2.2.2.1)))) ((1:Int),p.1,p.2.1,p.2.2.1,[],PUnit.unit))=fnW Cu (look []) Ip Try.f96 (p,()) P:=by kernel_rfl
theorem wb (p:PP) (h:List.length p.2.2.1<=8):fnW Cu (look []) Ip Try.f96 (p,()) (λ(z:List Int)=>z=Ag (List.length p.2.2.1)):=by
 refine Eq.mp (wZ p _) ⟨rfl,rfl,?_⟩
 refine Bj.mk (λv=> ∃j:Nat,j<=List.length p.2.2.1/\v=((j:Int)+1,p.1,p.2.1,p.2.2.1,Ag j,())) (λv=>List.length p.2.2.1+1-v.1.toNat) ⟨0,Nat.zero_le _,rfl⟩ ?_
 rintro _ ⟨j,hj,rfl⟩
 dsimp only
 refine Br.dec (λhl=>?_) λhl=>?_
 ·refine ⟨rfl,rfl,?_,rfl,rfl,⟨j+1,by omega,?_⟩,?_⟩
  ·show (Ag j).length+2<=4294967296
   rw [Ko];omega
  ·rw [Ut,Bs (n:=(j:Int)+1+1) (by omega) (by omega),Bs (n:=0-((j:Int)+1)) (by omega) (by omega),Int.zero_sub]
   rfl
  ·rw [Bs (by omega) (by omega)];omega
 ·have:j=List.length p.2.2.1:=by omega
  subst this
  rw [Ck]
theorem aX:Sound Try.prog 96 Ip:=
 Sound.Dg Bu At mixed Try.func96 (by kernel_rfl) (by kernel_rfl) λx h=>wb x.1 h
theorem IS {a:Int} {P:Prop} (h:(a !=a)=true):P:=by simp at h
theorem KP {p:PP} {room:Int} (hr:roomy room) (h: ¬Sn p room<0):(Mx p.2.2.1:Int)<=room-Sn p room/\roomy (Sn p room):=by
 unfold Sn at h⊢
 split at h
 ·exact absurd (show (-1:Int)<0 by decide) h
 ·rename_i h1
  rw [if_neg h1]
  split at h
  ·exact absurd (show (-1:Int)<0 by decide) h
  ·rename_i h2
   rw [if_neg h2]
   have e2:=wN h2
   obtain ⟨r1,r2⟩:=hr
   unfold roomy
   omega
end Go.Proofs.Ytjbdmibbbpdnnaa

namespace Go.Proofs.Ytjbdmibbbpdnnaa
open Go.RowKit
def sa (v:Int):List Int->Nat
 | []=>0
 |x::r=>if x>v then sa v r+1 else 0
def OM (v:Int) (t:List Int):Option (List Int):=if sa v t=0 then none else some (Cc t ((sa v t-1:Nat):Int)::(t.set (sa v t-1) v).reverse)
def cq:List Int->Option (List Int)
 | []=>none
 |v::t=>match cq t with
  |some t'=>some (v::t')
  |none=>OM v t
theorem vT {s s':List Int} (h:cq s=some s'): ∀pre:List Int,cq (pre++s)=some (pre++s')
 | []=>h
 |v::p=>by rw [List.cons_append,cq,vT h p];rfl
theorem PE {α:Type} (pre:List α) (v a:α) (t:List α):(pre++v::t).set pre.length a=pre++a::t:=by
 rw [List.set_append,if_neg (by omega)];simp
inductive zB:List Int->List (List Int)->List Int->Prop where
 |one (a:List Int):zB a [a] a
 |more {a c b:List Int} {L:List (List Int)} :cq a=some c->zB c L b->zB a (a::L) b
theorem zB.cons {a b:List Int} {L:List (List Int)} (h:zB a L b) (v:Int):zB (v::a) (L.map (v:: ·)) (v::b):=by
 induction h with
 |one a=>exact .one _
 |more h3 _ ih=>exact .more (vT h3 [v]) ih
theorem zB.head {a b:List Int} {L:List (List Int)} (h:zB a L b): ∃M,L=a::M:=by
 cases h with
 |one=>exact ⟨_,rfl⟩
 |more _ _=>exact ⟨_,rfl⟩
theorem zB.at {a b:List Int} {L:List (List Int)} (h:zB a L b): ∀j (hj:j<L.length),(∀h2:j+1<L.length,cq L[j]=some L[j+1])/\(j+1=L.length->L[j]=b):=by
 induction h with
 |one a=>
  intro j hj
  simp only [List.length_singleton] at hj
  have:j=0:=by omega
  subst this
  exact ⟨λh2=>by simp at h2,λ_=>rfl⟩
 |more h3 h4 ih=>
  intro j hj
  rcases j with _|j
  ·obtain ⟨M,hM⟩:=h4.head
   refine ⟨λh2=>?_,λh2=>?_⟩
   ·simp only [List.getElem_cons_zero,List.getElem_cons_succ]
    subst hM
    exact h3
   ·subst hM;simp at h2
  ·have:=ih j (by simpa using hj)
   refine ⟨λh2=>?_,λh2=>?_⟩
   ·simp only [List.getElem_cons_succ]
    exact this.1 (by simpa using h2)
   ·simp only [List.getElem_cons_succ]
    exact this.2 (by simpa using h2)
theorem zB.distinct {a b:List Int} {L:List (List Int)} (h:zB a L b) (hb:cq b=none): ∀k i j (hi:i<L.length) (hj:j<L.length),L.length-j=k->i<j->L[i]≠L[j]:=by
 intro k
 induction k with
 |zero=>intro i j hi hj hk;omega
 |succ k ih=>
  intro i j hi hj hk j4 he
  by_cases e:j+1<L.length
  ·have h1:=(h.at i hi).1 (by omega)
   have h2:=(h.at j hj).1 e
   rw [he,h2] at h1
   exact ih (i+1) (j+1) (by omega) e (by omega) (by omega) (Option.some.inj h1).symm
  ·have h1:=(h.at i hi).1 (by omega)
   have h2:=(h.at j hj).2 (by omega)
   rw [he,h2,hb] at h1
   cases h1
theorem zB.idx {a b:List Int} {L:List (List Int)} (h:zB a L b) (hb:cq b=none) {j:Nat} (hj:j<L.length):L.idxOf L[j]=j:=by
 have h1:L.idxOf L[j]<L.length:=List.idxOf_lt_length_of_mem (List.getElem_mem _)
 have h2:L[L.idxOf L[j]]=L[j]:=List.getElem_idxOf h1
 rcases Nat.lt_trichotomy (L.idxOf L[j]) j with h3|h3|h3
 ·exact absurd h2 (h.distinct hb _ _ _ h1 hj rfl h3)
 ·exact h3
 ·exact absurd h2.symm (h.distinct hb _ _ _ hj h1 rfl h3)
end Go.Proofs.Ytjbdmibbbpdnnaa

namespace Go.Proofs.Ytjbdmibbbpdnnaa
open Go.RowKit
def Cj:List Int->List Int->Int
 | [],[]=>0
 | [],_::_=> -1
 |_::_,[]=>1
 |x::a,y::b=>if x<y then-1 else if x>y then 1 else Cj a b
def Zu (a b:List Int):Bool:=decide (Cj a b<0)
noncomputable abbrev Qq:Spec:=Dg (.pair tL (.pair tL .unit)) .bool false true (λx=>short x.1/\List.length x.1=List.length x.2.1) (λx=>Zu x.1 x.2.1)
theorem zt (a b:List Int) (P:Bool->Prop):(Bj (λ(v3:Int×PUnit) (k4:Int×PUnit->Prop)=>Br (decide (v3.1<(↑a.length:Int))) (∃(y5:Int),idx a v3.1=some y5/\ ∃(y6:Int),idx b v3.1=some y6/\Br (y5 !=y6) (∃(y7:Int),idx a v3.1=some y7/\ ∃(y8:Int),idx b v3.1=some y8/\P (decide (y7<y8))) (k4 (IntKind.i64.wrap (v3.1+(1:Int)),()))) (P false)) ((0:Int),PUnit.unit))=fnW Cu (look []) Qq Try.f144 (a,b,()) P:=by kernel_rfl
theorem yG (a b:List Int) (h:short a/\a.length=b.length):fnW Cu (look []) Qq Try.f144 (a,b,()) (λ(z:Bool)=>z=Zu a b):=by
 obtain ⟨ha,hb⟩:=h
 unfold short at ha
 refine Eq.mp (zt a b _) ?_
 refine Am a.length (λv=>v.1) (λj _=>Cj (a.drop j) (b.drop j)=Cj a b) rfl (by simp) ?_
 rintro j ⟨i,⟨⟩⟩ K hj hi SV hK
 dsimp only at hi⊢
 subst hi
 refine Br.dec (λhl=>?_) λhl=>?_
 ·have hl:j<a.length:=by omega
  have hlb:j<b.length:=by omega
  rw [List.drop_eq_getElem_cons hl,List.drop_eq_getElem_cons hlb] at SV
  simp only [Cj] at SV
  refine ⟨_,Ap hl,_,Ap hlb,⟨λEr=>?_,λEr=>?_⟩⟩
  ·refine ⟨_,Ap hl,_,Ap hlb,?_⟩
   have Er:a[j]≠b[j]:=by simpa using Er
   unfold Zu
   rw [<-SV]
   by_cases h1:a[j]<b[j]
   ·rw [if_pos h1];simp [h1]
   ·rw [if_neg h1,if_pos (by omega)];simp [h1]
  ·have Er:a[j]=b[j]:=by simpa using Er
   rw [if_neg (by omega),if_neg (by omega)] at SV
   rw [Ak (by omega)]
   exact hK hl _ rfl SV
 ·have:j=a.length:=by omega
  subst this
  rw [List.drop_length,List.drop_eq_nil_of_le (by omega)] at SV
  unfold Zu
  rw [<-SV]
  rfl
theorem nI:Sound Try.prog 144 Qq:=
 Sound.Dg Bu At mixed Try.func144 (by kernel_rfl) (by kernel_rfl) λx h=>yG x.1 x.2.1 h
theorem vH (a:List (List Int)):fC a a=true:=decide_eq_true rfl
end Go.Proofs.Ytjbdmibbbpdnnaa

namespace Go.Proofs.Ytjbdmibbbpdnnaa
open Go.RowKit
abbrev SS:Type:=List (List Int)×List Int×List Int×Bool×Unit
abbrev rLS:CK:= .row tL 25
abbrev rN:CK:= .row tI 3
def Cy (L:List (List Int)) (Hw:List Int) (s:List Int):Nat:=(Hw.takeWhile λi=>Zu (L.getD i.toNat []) s).length
structure Cw (m:Nat) (L:List (List Int)) (Hw:List Int):Prop where
 oe:L.length<=3000
 len: ∀x∈L,x.length=m
 short:m<=20
 perm:Hw.Perm (upto L.length)
 sorted:Hw.Pairwise λi j=>Zu (L.getD i.toNat []) (L.getD j.toNat [])=true
def er (L:List (List Int)) (s:List Int):Int:=if s∈L then (L.idxOf s:Int) else-1
def Pp (Hw:List Int) (k:Nat) (x:Int):List Int:=Hw.take k++x::Hw.drop k
noncomputable abbrev an:Spec:=Dg (.pair ay (.pair tL .unit)) tI false true (λx=>Cw (List.length x.2.1) x.1.1 x.1.2.2.1) (λx=>(Cy x.1.1 x.1.2.2.1 x.2.1:Int))
noncomputable abbrev Pe:Spec:=Dg (.pair ay (.pair tL .unit)) tI false true (λx=>Cw (List.length x.2.1) x.1.1 x.1.2.2.1) (λx=>er x.1.1 x.2.1)
noncomputable abbrev fL:MSpec:=CU [some 4,none,none] [(false,rLS),(false,rL),(false,rN),(false, .Hf .bool),(false, .Hf tL),(false, .Hf tI)] false [some 4] [rLS,rL,rN, .Hf .bool]
 (λx=>Cw (List.length x.2.2.2.2.1) x.1 x.2.2.1/\List.length x.2.1<=3000) (λx=>((x.1++ [x.2.2.2.2.1],x.2.1++ [x.2.2.2.2.2.1],Pp x.2.2.1 (Cy x.1 x.2.2.1 x.2.2.2.2.1) (List.length x.1),x.2.2.2.1,()),()))
def Ve (L:List (List Int)):List Int:=(List.range L.length).foldl (λ(S:List Int) (i:Nat)=>Pp S (Cy (L.take i) S (L.getD i [])) (i:Int)) []
def Es (g:List (List Int)) (x:List Int) (d:Int):List Int->List (List Int)->List Int->List (List Int)×List Int×Bool
 | [],L,D=>(L,D,true)
 |l::ls,L,D=>if Aa x (Af g l)∈L then Es g x d ls L D else if L.length=3000 then (L,D,false) else Es g x d ls (L++ [Aa x (Af g l)]) (D++ [d+1])
def Gl (g:List (List Int)) (ls:List Int):Nat->Nat->List (List Int)->List Int->List (List Int)×List Int×Bool
 |0,_,L,D=>(L,D,true)
 |f+1,k,L,D=>if k<L.length then (match Es g (L.getD k []) (D.getD k 0) ls L D with
  |(L',D',true)=>Gl g ls f (k+1) L' D'
  |(L',D',false)=>(L',D',false)) else (L,D,true)
def Dm (g:List (List Int)) (s:List Int):List (List Int)×List Int×Bool:=Gl g (Ag g.length) 3001 0 [s] [0]
def Dj (g:List (List Int)) (s:List Int):SS:=((Dm g s).1,(Dm g s).2.1,Ve (Dm g s).1,(Dm g s).2.2,())
noncomputable abbrev Da:Spec:=Dg (.pair Eh (.pair tL .unit)) ay false false (λx=>Bh x.1=true/\List.length x.2.1<=20/\ ∀y∈x.2.1,0<=y/\y<x.1.1) (λx=>Dj x.1.2.2.1 x.2.1)
abbrev BC:Type:=Int×Int×List (List Int)×List Int×List Int×Bool×PUnit
theorem WI (f:List (List Int)×List Int×List Int×Bool×Unit) (s:List Int) (P:Int->Prop):(Bj (λ(v3:BC) (k4:BC->Prop)=>Br (decide (v3.1<v3.2.1)) ((2:Int)≠(0:Int)/\ ∃(y5:Int),idx v3.2.2.2.2.1 (IntKind.i64.wrap ((IntKind.i64.wrap (v3.1+v3.2.1)).tdiv (2:Int)))=some y5/\ ∃(y6:List Int),idx v3.2.2.1 y5=some y6/\ ∃(y7:Bool),Qq.fn (y6,s,())=some y7/\Br y7 (k4 (IntKind.i64.wrap (IntKind.i64.wrap ((IntKind.i64.wrap (v3.1+v3.2.1)).tdiv (2:Int))+(1:Int)),v3.2.1,v3.2.2.1,v3.2.2.2.1,v3.2.2.2.2.1,v3.2.2.2.2.2.1,())) (k4 (v3.1,IntKind.i64.wrap ((IntKind.i64.wrap (v3.1+v3.2.1)).tdiv (2:Int)),v3.2.2.1,v3.2.2.2.1,v3.2.2.2.2.1,v3.2.2.2.2.2.1,()))) (P v3.1)) ((0:Int),(↑f.2.2.1.length:Int),f.1,f.2.1,f.2.2.1,f.2.2.2.1,PUnit.unit))=fnW Cu (look [(144,Qq)]) an Try.f104 (f,s,()) P:=by kernel_rfl
theorem LN (f:List (List Int)×List Int×List Int×Bool×Unit) (s:List Int) (P:Int->Prop):(∃(y3:Int),an.fn ((f.1,f.2.1,f.2.2.1,f.2.2.2.1,()),s,())=some y3/\Br (decide (y3<(↑f.2.2.1.length:Int))) (∃(y4:Int),idx f.2.2.1 y3=some y4/\ ∃(y5:List Int),idx f.1 y4=some y5/\ ∃(y6:Bool),Fl.fn (y5,s,())=some y6/\Br y6 (∃(y7:Int),idx f.2.2.1 y3=some y7/\P y7) (P (-1:Int))) (P (-1:Int)))=fnW Cu (look [(104,an),(105,Fl)]) Pe Try.f54 (f,s,()) P:=by kernel_rfl
theorem WG (L:List (List Int)) (D S:List Int) (b:Bool) (s:List Int) (d:Int) (P:((List (List Int)×List Int×List Int×Bool×Unit)×Unit)->Prop):(∃(y7:Int),an.fn ((List.take L.length (List.drop 0 L),List.take D.length (List.drop 0 D),List.take S.length (List.drop 0 S),b,()),s,())=some y7/\0=0/\S.length=S.length/\S.length+(List.take 1 (List.drop 0 [(0:Int)])).length<=Bo/\((0:Int)<=IntKind.i64.wrap (y7+(1:Int))/\IntKind.i64.wrap (y7+(1:Int))<=(↑(S++List.take 1 (List.drop 0 [(0:Int)])).length:Int)/\(↑(S++List.take 1 (List.drop 0 [(0:Int)])).length:Int)<=(↑(S++List.take 1 (List.drop 0 [(0:Int)])).length:Int))/\((0:Int)<=y7/\y7<=(↑(S++List.take 1 (List.drop 0 [(0:Int)])).length:Int)/\(↑(S++List.take 1 (List.drop 0 [(0:Int)])).length:Int)<=(↑(S++List.take 1 (List.drop 0 [(0:Int)])).length:Int))/\((0:Int)<=y7/\y7<(↑(S++List.take 1 (List.drop 0 [(0:Int)])).length:Int))/\0+y7.toNat<(Bg (S++List.take 1 (List.drop 0 [(0:Int)])) (0+(IntKind.i64.wrap (y7+(1:Int))).toNat) (List.take ((↑(S++List.take 1 (List.drop 0 [(0:Int)])).length:Int).toNat-(IntKind.i64.wrap (y7+(1:Int))).toNat) (List.take ((↑(S++List.take 1 (List.drop 0 [(0:Int)])).length:Int).toNat-y7.toNat) (List.drop (0+y7.toNat) (S++List.take 1 (List.drop 0 [(0:Int)])))))).length/\0=0/\L.length=L.length/\L.length+(List.take 1 (List.drop 0 [s])).length<=Bo/\0=0/\D.length=D.length/\D.length+(List.take 1 (List.drop 0 [d])).length<=Bo/\P ((List.take (L++List.take 1 (List.drop 0 [s])).length (List.drop 0 (L++List.take 1 (List.drop 0 [s]))),List.take (D++List.take 1 (List.drop 0 [d])).length (List.drop 0 (D++List.take 1 (List.drop 0 [d]))),List.take (S++List.take 1 (List.drop 0 [(0:Int)])).length (List.drop 0 ((Bg (S++List.take 1 (List.drop 0 [(0:Int)])) (0+(IntKind.i64.wrap (y7+(1:Int))).toNat) (List.take ((↑(S++List.take 1 (List.drop 0 [(0:Int)])).length:Int).toNat-(IntKind.i64.wrap (y7+(1:Int))).toNat) (List.take ((↑(S++List.take 1 (List.drop 0 [(0:Int)])).length:Int).toNat-y7.toNat) (List.drop (0+y7.toNat) (S++List.take 1 (List.drop 0 [(0:Int)])))))).set (0+y7.toNat) (↑L.length:Int))),b,()),()))=fnMW zh (look [(104,an)]) fL Try.f149 (L,D,S,b,s,d,()) P:=by kernel_rfl
abbrev iz:Type:=Int×Int×ByteArray×List (List Int)×Bool×Bool×List (List Int)×List Int×List Int×List (List Int)×List Int×List Int×PUnit
abbrev wP:Type:=(List (List Int)×List Int×List Int×Bool×PUnit)×PUnit
theorem QC (p:Int×ByteArray×List (List Int)×Unit) (s:List Int) (P:(List (List Int)×List Int×List Int×Bool×Unit)->Prop):(∃(y3:List Int),Kd.fn (s,())=some y3/\ ∃(y4:wP),fL.fn ([],[],[],false,y3,(0:Int),())=some y4/\ ∃(y5:List Int),Ip.fn ((p.1,p.2.1,p.2.2.1,()),())=some y5/\0=0/\0=([]:List Int).length/\0=0/\0=([]:List Int).length/\0=0/\0=([]:List Int).length/\0=0/\y4.1.1.length=y4.1.1.length/\0=0/\y4.1.2.1.length=y4.1.2.1.length/\0=0/\y4.1.2.2.1.length=y4.1.2.2.1.length/\Bj (λ(v6:iz) (k7:iz->Prop)=>Br (decide (v6.1<(↑v6.2.2.2.2.2.2.2.2.2.1.length:Int))) (0=0/\v6.2.2.2.2.2.2.1.length=v6.2.2.2.2.2.2.1.length/\0=0/\v6.2.2.2.2.2.2.2.1.length=v6.2.2.2.2.2.2.2.1.length/\0=0/\v6.2.2.2.2.2.2.2.2.1.length=v6.2.2.2.2.2.2.2.2.1.length/\0=0/\v6.2.2.2.2.2.2.2.2.2.1.length=v6.2.2.2.2.2.2.2.2.2.1.length/\0=0/\v6.2.2.2.2.2.2.2.2.2.2.1.length=v6.2.2.2.2.2.2.2.2.2.2.1.length/\0=0/\v6.2.2.2.2.2.2.2.2.2.2.2.1.length=v6.2.2.2.2.2.2.2.2.2.2.2.1.length/\Bj (λ(v8:iz) (k9:iz->Prop)=>Br (decide (v8.1<(↑y5.length:Int))) (((0:Int)<=v6.1/\v6.1<(↑v8.2.2.2.2.2.2.2.2.2.1.length:Int))/\ ∃(jJ:List Int),v8.2.2.2.2.2.2.2.2.2.1[0+v6.1.toNat]?=some jJ/\ ∃(iD:Int),idx y5 v8.1=some iD/\ ∃(lb:List Int),Kj.fn ((v8.2.1,v8.2.2.1,v8.2.2.2.1,()),jJ,iD,())=some lb/\ ∃(eO:Int),Pe.fn ((List.take v8.2.2.2.2.2.2.2.2.2.1.length (List.drop 0 v8.2.2.2.2.2.2.2.2.2.1),List.take v8.2.2.2.2.2.2.2.2.2.2.1.length (List.drop 0 v8.2.2.2.2.2.2.2.2.2.2.1),List.take v8.2.2.2.2.2.2.2.2.2.2.2.1.length (List.drop 0 v8.2.2.2.2.2.2.2.2.2.2.2.1),v8.2.2.2.2.2.1,()),lb,())=some eO/\Br (decide (eO>=(0:Int))) (0=0/\v8.2.2.2.2.2.2.1.length=v8.2.2.2.2.2.2.1.length/\0=0/\v8.2.2.2.2.2.2.2.1.length=v8.2.2.2.2.2.2.2.1.length/\0=0/\v8.2.2.2.2.2.2.2.2.1.length=v8.2.2.2.2.2.2.2.2.1.length/\0=0/\v8.2.2.2.2.2.2.2.2.2.1.length=v8.2.2.2.2.2.2.2.2.2.1.length/\0=0/\v8.2.2.2.2.2.2.2.2.2.2.1.length=v8.2.2.2.2.2.2.2.2.2.2.1.length/\0=0/\v8.2.2.2.2.2.2.2.2.2.2.2.1.length=v8.2.2.2.2.2.2.2.2.2.2.2.1.length/\k9 (IntKind.i64.wrap (v8.1+(1:Int)),v8.2.1,v8.2.2.1,v8.2.2.2.1,v8.2.2.2.2.1,v8.2.2.2.2.2.1,v8.2.2.2.2.2.2.1,v8.2.2.2.2.2.2.2.1,v8.2.2.2.2.2.2.2.2.1,v8.2.2.2.2.2.2.2.2.2.1,v8.2.2.2.2.2.2.2.2.2.2.1,v8.2.2.2.2.2.2.2.2.2.2.2.1,())) (Br ((↑v8.2.2.2.2.2.2.2.2.2.1.length:Int)==(3000:Int)) (P (List.take v8.2.2.2.2.2.2.2.2.2.1.length (List.drop 0 v8.2.2.2.2.2.2.2.2.2.1),List.take v8.2.2.2.2.2.2.2.2.2.2.1.length (List.drop 0 v8.2.2.2.2.2.2.2.2.2.2.1),List.take v8.2.2.2.2.2.2.2.2.2.2.2.1.length (List.drop 0 v8.2.2.2.2.2.2.2.2.2.2.2.1),v8.2.2.2.2.2.1,())) (((0:Int)<=v6.1/\v6.1<(↑v8.2.2.2.2.2.2.2.2.2.2.1.length:Int))/\ ∃(Yu:Int),v8.2.2.2.2.2.2.2.2.2.2.1[0+v6.1.toNat]?=some Yu/\0=0/\v8.2.2.2.2.2.2.2.2.2.1.length=v8.2.2.2.2.2.2.2.2.2.1.length/\0=0/\v8.2.2.2.2.2.2.2.2.2.2.1.length=v8.2.2.2.2.2.2.2.2.2.2.1.length/\0=0/\v8.2.2.2.2.2.2.2.2.2.2.2.1.length=v8.2.2.2.2.2.2.2.2.2.2.2.1.length/\ ∃(dd:wP),fL.fn (v8.2.2.2.2.2.2.2.2.2.1,v8.2.2.2.2.2.2.2.2.2.2.1,v8.2.2.2.2.2.2.2.2.2.2.2.1,v8.2.2.2.2.2.1,lb,IntKind.i64.wrap (Yu+(1:Int)),())=some dd/\0=0/\v8.2.2.2.2.2.2.1.length=v8.2.2.2.2.2.2.1.length/\0=0/\v8.2.2.2.2.2.2.2.1.length=v8.2.2.2.2.2.2.2.1.length/\0=0/\v8.2.2.2.2.2.2.2.2.1.length=v8.2.2.2.2.2.2.2.2.1.length/\0=0/\dd.1.1.length=dd.1.1.length/\0=0/\dd.1.2.1.length=dd.1.2.1.length/\0=0/\dd.1.2.2.1.length=dd.1.2.2.1.length/\k9 (IntKind.i64.wrap (v8.1+(1:Int)),v8.2.1,v8.2.2.1,v8.2.2.2.1,v8.2.2.2.2.1,dd.1.2.2.2.1,v8.2.2.2.2.2.2.1,v8.2.2.2.2.2.2.2.1,v8.2.2.2.2.2.2.2.2.1,dd.1.1,dd.1.2.1,dd.1.2.2.1,())))) (0=0/\v8.2.2.2.2.2.2.1.length=v8.2.2.2.2.2.2.1.length/\0=0/\v8.2.2.2.2.2.2.2.1.length=v8.2.2.2.2.2.2.2.1.length/\0=0/\v8.2.2.2.2.2.2.2.2.1.length=v8.2.2.2.2.2.2.2.2.1.length/\0=0/\v8.2.2.2.2.2.2.2.2.2.1.length=v8.2.2.2.2.2.2.2.2.2.1.length/\0=0/\v8.2.2.2.2.2.2.2.2.2.2.1.length=v8.2.2.2.2.2.2.2.2.2.2.1.length/\0=0/\v8.2.2.2.2.2.2.2.2.2.2.2.1.length=v8.2.2.2.2.2.2.2.2.2.2.2.1.length/\k7 (IntKind.i64.wrap (v6.1+(1:Int)),v8.2.1,v8.2.2.1,v8.2.2.2.1,v8.2.2.2.2.1,v8.2.2.2.2.2.1,v8.2.2.2.2.2.2.1,v8.2.2.2.2.2.2.2.1,v8.2.2.2.2.2.2.2.2.1,v8.2.2.2.2.2.2.2.2.2.1,v8.2.2.2.2.2.2.2.2.2.2.1,v8.2.2.2.2.2.2.2.2.2.2.2.1,()))) ((0:Int),v6.2.1,v6.2.2.1,v6.2.2.2.1,v6.2.2.2.2.1,v6.2.2.2.2.2.1,v6.2.2.2.2.2.2.1,v6.2.2.2.2.2.2.2.1,v6.2.2.2.2.2.2.2.2.1,v6.2.2.2.2.2.2.2.2.2.1,v6.2.2.2.2.2.2.2.2.2.2.1,v6.2.2.2.2.2.2.2.2.2.2.2.1,PUnit.unit)) (P (List.take v6.2.2.2.2.2.2.2.2.2.1.length (List.drop 0 v6.2.2.2.2.2.2.2.2.2.1),List.take v6.2.2.2.2.2.2.2.2.2.2.1.length (List.drop 0 v6.2.2.2.2.2.2.2.2.2.2.1),List.take v6.2.2.2.2.2.2.2.2.2.2.2.1.length (List.drop 0 v6.2.2.2.2.2.2.2.2.2.2.2.1),true,()))) ((0:Int),p.1,p.2.1,p.2.2.1,false,y4.1.2.2.2.1,[],[],[],y4.1.1,y4.1.2.1,y4.1.2.2.1,PUnit.unit))=fnW VY (look [(123,Kd),(149,fL),(96,Ip),(115,Kj),(54,Pe)]) Da Try.f112 (p,s,()) P:=by kernel_rfl
theorem lU: ∀ {a b:List Int},Cj a b=0↔a=b
 | [],[]=>by simp [Cj]
 | [],_::_=>by simp [Cj]
 |_::_,[]=>by simp [Cj]
 |x::a,y::b=>by
  simp only [Cj,List.cons.injEq]
  by_cases h1:x<y
  ·rw [if_pos h1]
   exact ⟨λh=>by omega,λh=>by omega⟩
  ·rw [if_neg h1]
   by_cases h2:x>y
   ·rw [if_pos h2]
    exact ⟨λh=>by omega,λh=>by omega⟩
   ·rw [if_neg h2,lU]
    exact ⟨λh=>⟨by omega,h⟩,λh=>h.2⟩
theorem zJ: ∀(a b:List Int),Cj b a= -Cj a b
 | [],[]=>by simp [Cj]
 | [],_::_=>by simp [Cj]
 |_::_,[]=>by simp [Cj]
 |x::a,y::b=>by
  simp only [Cj]
  rcases Int.lt_trichotomy x y with h1|h1|h1
  ·simp [h1,show ¬y<x by omega]
  ·subst h1
   simp [zJ a b]
  ·simp [h1,show ¬x<y by omega]
theorem pJ: ∀ {a b c:List Int},Cj a b<0->Cj b c<0->Cj a c<0
 | [],[],_,h,_=>by simp [Cj] at h
 |_::_,[],_,h,_=>by simp [Cj] at h
 |_,_::_,[],_,h=>by simp [Cj] at h
 | [],_::_,_::_,_,_=>by simp [Cj]
 |x::a,y::b,z::c,h1,h2=>by
  simp only [Cj] at h1 h2⊢
  by_cases e1:x<y
  ·by_cases e2:y<z
   ·rw [if_pos (by omega)];omega
   ·rw [if_neg e2] at h2
    by_cases e3:y>z
    ·rw [if_pos e3] at h2;omega
    ·rw [if_pos (by omega)];omega
  ·rw [if_neg e1] at h1
   by_cases e2:x>y
   ·rw [if_pos e2] at h1;omega
   ·rw [if_neg e2] at h1
    by_cases e3:y<z
    ·rw [if_pos (by omega)];omega
    ·rw [if_neg e3] at h2
     by_cases e4:y>z
     ·rw [if_pos e4] at h2;omega
     ·rw [if_neg e4] at h2
      rw [if_neg (by omega),if_neg (by omega)]
      exact pJ h1 h2
theorem lt_iff {a b:List Int} :Zu a b=true↔Cj a b<0:=decide_eq_true_iff
theorem CS {a b c:List Int} (h1:Zu a b=true) (h2:Zu b c=true):Zu a c=true:=lt_iff.2 (pJ (lt_iff.1 h1) (lt_iff.1 h2))
theorem fz (a:List Int):Zu a a=false:=by
 have:Cj a a=0:=lU.2 rfl
 unfold Zu;rw [this];rfl
theorem JE {a b:List Int} (h:Zu a b=false) (Er:a≠b):Zu b a=true:=by
 rw [lt_iff,zJ a b]
 have h1: ¬Cj a b<0:= λh'=>by rw [lt_iff.2 h'] at h;cases h
 have h2:Cj a b≠0:= λh'=>Er (lU.1 h')
 omega
theorem eG {α:Type} (q:α->Bool): ∀(l:List α),l.Pairwise (λi j=>q j=true->q i=true)-> ∀k (hk:k<l.length),k<(l.takeWhile q).length↔q l[k]=true
 | [],_,k,hk=>by simp at hk
 |a::l,h,k,hk=>by
  obtain ⟨h1,h2⟩:=List.pairwise_cons.1 h
  by_cases ha:q a=true
  ·rw [List.takeWhile_cons_of_pos ha]
   rcases k with _|k
   ·simpa using ha
   ·simp only [List.length_cons,List.getElem_cons_succ,Nat.add_lt_add_iff_right]
    exact eG q l h2 k (by simpa using hk)
  ·rw [List.takeWhile_cons_of_neg ha]
   simp only [List.length_nil,Nat.not_lt_zero,false_iff]
   rcases k with _|k
   ·exact ha
   ·simp only [List.getElem_cons_succ]
    exact λhq=>ha (h1 _ (List.getElem_mem _) hq)
theorem Cw.mD {m:Nat} {L:List (List Int)} {Hw:List Int} (h:Cw m L Hw):Hw.length=L.length:=by rw [h.perm.length_eq,Pk]
theorem Cw.idx {m:Nat} {L:List (List Int)} {Hw:List Int} (h:Cw m L Hw) {k:Nat} (hk:k<Hw.length):0<=Hw[k]/\Hw[k]<L.length:=Im.1 (h.perm.mem_iff.1 (List.getElem_mem hk))
theorem Cw.Yn {m:Nat} {L:List (List Int)} {Hw:List Int} (h:Cw m L Hw) (s:List Int) {k:Nat} (hk:k<Hw.length):k<Cy L Hw s↔Zu (L.getD Hw[k].toNat []) s=true:=
 eG _ Hw (h.sorted.imp λj4 hj=>CS j4 hj) k hk
theorem AY (L:List (List Int)) (Hw s:List Int):Cy L Hw s<=Hw.length:=(List.takeWhile_sublist _).length_le
theorem Cw.inj {m:Nat} {L:List (List Int)} {Hw:List Int} (h:Cw m L Hw) {i j:Nat} (hi:i<L.length) (hj:j<L.length) (e:L[i]=L[j]):i=j:=by
 have mem: ∀i,i<L.length->(i:Int)∈Hw:= λi hi=>h.perm.mem_iff.2 (Im.2 ⟨by omega,by omega⟩)
 obtain ⟨p,hp,ep⟩:=List.mem_iff_getElem.1 (mem i hi)
 obtain ⟨q,hq,eq⟩:=List.mem_iff_getElem.1 (mem j hj)
 have get: ∀i (hi:i<L.length),L.getD ((i:Int)).toNat []=L[i]:= λi hi=>by rw [Int.toNat_natCast,List.getD_eq_getElem?_getD,List.getElem?_eq_getElem hi];rfl
 rcases Nat.lt_trichotomy p q with h1|h1|h1
 ·have:=List.pairwise_iff_getElem.1 h.sorted p q hp hq h1
  rw [ep,eq,get i hi,get j hj,e,fz] at this
  cases this
 ·subst h1
  rw [ep] at eq
  omega
 ·have:=List.pairwise_iff_getElem.1 h.sorted q p hq hp h1
  rw [ep,eq,get i hi,get j hj,e,fz] at this
  cases this
theorem Oq {L:List (List Int)} {k:Nat} (h:k<L.length):L.getD k []=L[k]:=by rw [List.getD_eq_getElem?_getD,List.getElem?_eq_getElem h];rfl
theorem Cw.r9 {m:Nat} {L:List (List Int)} {Hw:List Int} (h:Cw m L Hw) {s:List Int} :
  (∃hk:Cy L Hw s<Hw.length,L.getD Hw[Cy L Hw s].toNat []=s/\er L s=Hw[Cy L Hw s])\/(er L s= -1/\ ∀hk:Cy L Hw s<Hw.length,L.getD Hw[Cy L Hw s].toNat []≠s):=by
 by_cases hm:s∈L
 ·left
  obtain ⟨j,hj,rfl⟩:=List.mem_iff_getElem.1 hm
  obtain ⟨p,hp,ep⟩:=List.mem_iff_getElem.1 (h.perm.mem_iff.2 (Im.2 ⟨by omega,by omega⟩):(j:Int)∈Hw)
  have gj:L.getD Hw[p].toNat []=L[j]:=by rw [ep,Int.toNat_natCast,Oq hj]
  have hs:Cy L Hw L[j]=p:=by
   have h1: ¬p<Cy L Hw L[j]:= λh1=>by
    have:=(h.Yn L[j] hp).1 h1
    rw [gj,fz] at this;cases this
   have h2: ¬Cy L Hw L[j]<p:= λh2=>by
    have h3:=(h.Yn L[j] (k:=Cy L Hw L[j]) (by omega)).2 (by
     have:=List.pairwise_iff_getElem.1 h.sorted (Cy L Hw L[j]) p (by omega) hp h2
     rw [gj] at this;exact this)
    omega
   omega
  have hx:L.idxOf L[j]=j:=by
   have h1:L.idxOf L[j]<L.length:=List.idxOf_lt_length_of_mem hm
   exact h.inj h1 hj (List.getElem_idxOf h1)
  refine ⟨by omega,?_,?_⟩
  ·simp only [hs];exact gj
  ·unfold er
   rw [if_pos hm,hx]
   simp only [hs];exact ep.symm
 ·right
  refine ⟨by unfold er;rw [if_neg hm],λhk e=>hm ?_⟩
  have hi:=h.idx hk
  rw [Oq (by omega)] at e
  rw [<-e]
  exact List.getElem_mem _
theorem IQ (Hw:List Int) (k:Nat) (x:Int):(Pp Hw k x).Perm (x::Hw):=by
 unfold Pp
 refine List.perm_middle.trans (List.Perm.cons x ?_)
 rw [List.take_append_drop]
theorem Cw.add {m:Nat} {L:List (List Int)} {Hw s:List Int} (h:Cw m L Hw) (hn:s∉L) (hl:s.length=m) (hr:L.length<3000):Cw m (L++ [s]) (Pp Hw (Cy L Hw s) L.length):=by
 have uQ: ∀i∈Hw,(L++ [s]).getD i.toNat []=L.getD i.toNat []:= λi hi=>by
  have:=Im.1 (h.perm.mem_iff.1 hi)
  rw [List.getD_eq_getElem?_getD,List.getD_eq_getElem?_getD,List.getElem?_append_left (by omega)]
 have XY:(L++ [s]).getD ((L.length:Int)).toNat []=s:=by
  rw [Int.toNat_natCast,List.getD_eq_getElem?_getD,List.getElem?_append_right (by omega),Nat.sub_self];rfl
 refine ⟨by rw [List.length_append,List.length_singleton];omega,λx hx=>?_,h.short,?_,?_⟩
 ·rcases List.mem_append.1 hx with hx|hx
  ·exact h.len x hx
  ·rw [List.mem_singleton.1 hx];exact hl
 ·refine (IQ _ _ _).trans ?_
  rw [List.length_append,List.length_singleton,Ys]
  exact (List.Perm.cons _ h.perm).trans (List.perm_append_singleton _ _).symm
 ·unfold Pp
  have hs:=h.sorted
  rw [<-List.take_append_drop (Cy L Hw s) Hw] at hs
  obtain ⟨s1,s2,s3⟩:=List.pairwise_append.1 hs
  have mt: ∀i∈Hw.take (Cy L Hw s),i∈Hw/\Zu (L.getD i.toNat []) s=true:= λi hi=>by
   obtain ⟨k,hk,rfl⟩:=List.mem_iff_getElem.1 hi
   have hk2:k<Cy L Hw s:=by rw [List.length_take] at hk;omega
   have hk3:k<Hw.length:=by rw [List.length_take] at hk;omega
   rw [List.getElem_take]
   exact ⟨List.getElem_mem _,(h.Yn s hk3).1 hk2⟩
  have md: ∀i∈Hw.drop (Cy L Hw s),i∈Hw/\Zu s (L.getD i.toNat [])=true:= λi hi=>by
   obtain ⟨k,hk,rfl⟩:=List.mem_iff_getElem.1 hi
   rw [List.length_drop] at hk
   have hk3:Cy L Hw s+k<Hw.length:=by omega
   rw [List.getElem_drop]
   refine ⟨List.getElem_mem _,JE ?_ λe=>hn ?_⟩
   ·exact Bool.eq_false_iff.2 λhh=>by
     have:=(h.Yn s hk3).2 hh
     omega
   ·have hi:=h.idx hk3
    rw [Oq (by omega)] at e
    rw [<-e];exact List.getElem_mem _
  refine List.pairwise_append.2 ⟨s1.imp_of_mem λ {a b} ha hb oC=>?_,List.pairwise_cons.2 ⟨λb hb=>?_,s2.imp_of_mem λ {a b} ha hb oC=>?_⟩,λa ha b hb=>?_⟩
  ·rw [uQ a (mt a ha).1,uQ b (mt b hb).1];exact oC
  ·rw [XY,uQ b (md b hb).1];exact (md b hb).2
  ·rw [uQ a (md a ha).1,uQ b (md b hb).1];exact oC
  ·rcases List.mem_cons.1 hb with rfl|hb
   ·rw [XY,uQ a (mt a ha).1];exact (mt a ha).2
   ·rw [uQ a (mt a ha).1,uQ b (md b hb).1];exact s3 a ha b hb
theorem ar (L:List (List Int)) (s:List Int):Ve (L++ [s])=Pp (Ve L) (Cy L (Ve L) s) L.length:=by
 unfold Ve
 rw [List.length_append,List.length_singleton,List.range_succ,List.foldl_append]
 have e: ∀(is:List Nat) (S:List Int),(∀i∈is,i<L.length)->is.foldl (λ(S:List Int) (i:Nat)=>Pp S (Cy ((L++ [s]).take i) S ((L++ [s]).getD i [])) (i:Int)) S=is.foldl (λ(S:List Int) (i:Nat)=>Pp S (Cy (L.take i) S (L.getD i [])) (i:Int)) S:=by
  intro is
  induction is with
  |nil=>intro S _;rfl
  |cons i is ih=>
   intro S h
   have hi:=h i (by simp)
   rw [List.foldl_cons,List.foldl_cons,ih _ λj hj=>h j (List.mem_cons_of_mem _ hj)]
   congr 2
   rw [List.take_append_of_le_length (by omega),List.getD_eq_getElem?_getD,List.getElem?_append_left hi,<-List.getD_eq_getElem?_getD]
 rw [e _ _ λi hi=>List.mem_range.1 hi]
 simp only [List.foldl_cons,List.foldl_nil]
 congr 2
 ·rw [List.take_append_of_le_length (Nat.le_refl _),List.take_length]
 ·rw [List.getD_eq_getElem?_getD,List.getElem?_append_right (by omega),Nat.sub_self];rfl
theorem ik {m:Nat} (h:m<=20):Cw m [] []:=⟨by simp,λx hx=>(by cases hx),h,by simp [upto],List.Pairwise.nil⟩
theorem IN {α:Type} {xs:List α} {y:Int} (h0:0<=y) (h:y.toNat<xs.length):idx xs y=some xs[y.toNat]:=by
 unfold idx
 rw [if_pos h0,List.getElem?_eq_getElem h]
theorem VJ (f:SS) (s:List Int) (h:Cw s.length f.1 f.2.2.1):fnW Cu (look [(144,Qq)]) an Try.f104 (f,s,()) (λ(z:Int)=>z=(Cy f.1 f.2.2.1 s:Int)):=by
 obtain ⟨L,D,Hw,b,⟨⟩⟩:=f
 dsimp only at h⊢
 have hle:=AY L Hw s
 have kU:=h.mD
 have uX:=h.oe
 refine Eq.mp (WI (L,D,Hw,b,()) s _) ?_
 refine Bj.mk (λv=>v.2.2.1=L/\v.2.2.2.2.1=Hw/\ ∃lo hi:Nat,v.1=lo/\v.2.1=hi/\lo<=hi/\hi<=Hw.length/\lo<=Cy L Hw s/\Cy L Hw s<=hi) (λv=>(v.2.1-v.1).toNat)
  ⟨rfl,rfl,0,Hw.length,rfl,rfl,by omega,by omega,by omega,hle⟩ ?_
 rintro ⟨lo',gM,L',D',EV,b',⟨⟩⟩ ⟨h1,h2,lo,hi,h3,h4,h5,h6,h7,h8⟩
 dsimp only at h1 h2 h3 h4⊢
 subst h1 h2 h3 h4
 refine Br.dec (λhl=>?_) λhl=>?_
 ·have em:IntKind.i64.wrap ((IntKind.i64.wrap ((lo:Int)+(hi:Int))).tdiv 2)=(((lo+hi)/2:Nat):Int):=by
   rw [Bs (n:=(lo:Int)+(hi:Int)) (by omega) (by omega),Int.tdiv_eq_ediv_of_nonneg (by omega),Bs (by omega) (by omega)]
   omega
  rw [em]
  have RI:(lo+hi)/2<EV.length:=by omega
  have MB:=h.idx RI
  have NO:EV[(lo+hi)/2].toNat<L'.length:=by omega
  have MA:=Oq NO
  have hlen:=h.len _ (List.getElem_mem NO)
  have GD:short L'[EV[(lo+hi)/2].toNat]:=by
   unfold short
   have:=h.short;omega
  refine ⟨by decide,_,Ap RI,_,IN MB.1 NO,_,if_pos ⟨GD,hlen⟩,⟨λhc=>?_,λhc=>?_⟩⟩
  ·have hc:Zu L'[EV[(lo+hi)/2].toNat] s=true:=hc
   have hs:=(h.Yn s RI).2 (by rw [MA];exact hc)
   rw [Ak (by omega)]
   exact ⟨⟨rfl,rfl,(lo+hi)/2+1,hi,rfl,rfl,by omega,h6,by omega,h8⟩,by omega⟩
  ·have hc:Zu L'[EV[(lo+hi)/2].toNat] s=false:=hc
   have hs: ¬(lo+hi)/2<Cy L' EV s:= λhh=>by
    have:=(h.Yn s RI).1 hh
    rw [MA,hc] at this;cases this
   exact ⟨⟨rfl,rfl,lo,(lo+hi)/2,rfl,rfl,by omega,by omega,h7,by omega⟩,by omega⟩
 ·show (lo:Int)=_
  omega
theorem nJ:Sound Try.prog 104 an:=
 Sound.Dg Bu (Ah nI At) mixed Try.func104 (by kernel_rfl) (by kernel_rfl) λx h=>VJ x.1 x.2.1 h
theorem JS (f:SS) (s:List Int) (h:Cw s.length f.1 f.2.2.1):fnW Cu (look [(104,an),(105,Fl)]) Pe Try.f54 (f,s,()) (λ(z:Int)=>z=er f.1 s):=by
 obtain ⟨L,D,Hw,b,⟨⟩⟩:=f
 dsimp only at h⊢
 refine Eq.mp (LN (L,D,Hw,b,()) s _) ⟨_,if_pos h,Br.dec (λhl=>?_) λhl=>?_⟩
 ·have hl:Cy L Hw s<Hw.length:=by
   have hl:((Cy L Hw s:Nat):Int)<(Hw.length:Int):=hl
   omega
  have MB:=h.idx hl
  have NO:Hw[Cy L Hw s].toNat<L.length:=by omega
  have MA:=Oq NO
  have hlen:=h.len _ (List.getElem_mem NO)
  have GD:short L[Hw[Cy L Hw s].toNat]:=by
   unfold short
   have:=h.short;omega
  refine ⟨_,Ap hl,_,IN MB.1 NO,_,if_pos GD,⟨λhc=>⟨_,Ap hl,?_⟩,λhc=>?_⟩⟩
  ·have hc:L[Hw[Cy L Hw s].toNat]=s:=of_decide_eq_true hc
   rcases h.r9 (s:=s) with ⟨hk,_,e⟩|⟨_,Er⟩
   ·exact e.symm
   ·exact absurd (by rw [MA];exact hc) (Er hl)
  ·have hc: ¬L[Hw[Cy L Hw s].toNat]=s:=of_decide_eq_false hc
   rcases h.r9 (s:=s) with ⟨hk,e,_⟩|⟨e,_⟩
   ·rw [MA] at e;exact absurd e hc
   ·exact e.symm
 ·have hl: ¬Cy L Hw s<Hw.length:=by
   have hl: ¬((Cy L Hw s:Nat):Int)<(Hw.length:Int):=hl
   omega
  rcases h.r9 (s:=s) with ⟨hk,e,_⟩|⟨e,_⟩
  ·exact absurd hk hl
  ·exact e.symm
theorem ir:Sound Try.prog 54 Pe:=
 Sound.Dg Bu (Ah nJ (Ah l4 At)) mixed Try.func54 (by kernel_rfl) (by kernel_rfl) λx h=>JS x.1 x.2.1 h
theorem yb {S:List Int} {k:Nat} (h:k<=S.length) (n:Int):
  (Bg (S++ [0]) (k+1) (List.take ((S++ [0]).length-(k+1)) (List.take ((S++ [0]).length-k) (List.drop k (S++ [0]))))).set k n=Pp S k n:=by
 obtain ⟨A,B,rfl,hA⟩: ∃A B,S=A++B/\A.length=k:=⟨S.take k,S.drop k,(List.take_append_drop k S).symm,by rw [List.length_take];omega⟩
 subst hA
 have e1:List.drop A.length (A++B++ [0])=B++ [0]:=by rw [List.append_assoc,List.drop_left]
 have e2:List.take ((A++B++ [0]).length-A.length) (B++ [0])=B++ [0]:=List.take_of_length_le (by simp only [List.length_append,List.length_singleton];omega)
 have e3:List.take ((A++B++ [0]).length-(A.length+1)) (B++ [0])=B:=by
  have:(A++B++ [(0:Int)]).length-(A.length+1)=B.length:=by simp only [List.length_append,List.length_singleton];omega
  rw [this,List.take_left]
 rw [e1,e2,e3]
 unfold Bg Pp
 have e4:List.drop (A.length+1+B.length) (A++B++ [0])= []:=List.drop_eq_nil_of_le (by simp only [List.length_append,List.length_singleton];omega)
 obtain ⟨c,hc⟩: ∃c,List.take (A.length+1) (A++B++ [0])=A++ [c]:=by
  rw [List.append_assoc,List.take_append,List.take_of_length_le (by omega)]
  cases B with
  |nil=>exact ⟨0,by simp⟩
  |cons b B=>exact ⟨b,by simp⟩
 rw [e4,hc,List.append_nil,List.append_assoc,List.singleton_append,PE,List.take_left,List.drop_left]
theorem VH (L:List (List Int)) (D S:List Int) (b:Bool) (s:List Int) (d:Int) (h:Cw s.length L S/\D.length<=3000):
  fnMW zh (look [(104,an)]) fL Try.f149 (L,D,S,b,s,d,()) (λ(z:(List (List Int)×List Int×List Int×Bool×Unit)×Unit)=>z=((L++ [s],D++ [d],Pp S (Cy L S s) L.length,b,()),())):=by
 obtain ⟨h,hD⟩:=h
 have hle:=AY L S s
 have kU:=h.mD
 have uX:=h.oe
 refine Eq.mp (WG L D S b s d _) ?_
 rw [Ck L,Ck D,Ck S]
 refine ⟨_,if_pos h,?_⟩
 dsimp only
 have es:List.take 1 (List.drop 0 [(0:Int)])= [0]:=rfl
 have el:(S++ [(0:Int)]).length=S.length+1:=by simp
 rw [es,Ak (by omega),Nat.zero_add,Nat.zero_add,Int.toNat_natCast,Int.toNat_natCast,Int.toNat_natCast]
 refine ⟨rfl,rfl,by show S.length+1<=4294967296;omega,⟨by omega,by omega,by omega⟩,⟨by omega,by omega,by omega⟩,⟨by omega,by omega⟩,?_,rfl,rfl,by show L.length+1<=4294967296;omega,rfl,rfl,by show D.length+1<=4294967296;omega,?_⟩
 ·unfold Bg
  simp only [List.length_append,List.length_take,List.length_drop,List.length_singleton]
  omega
 ·rw [yb hle,Ck,Ck]
  have e5:List.take (S++ [(0:Int)]).length (List.drop 0 (Pp S (Cy L S s) (L.length:Int)))=Pp S (Cy L S s) (L.length:Int):=by
   rw [List.drop_zero,List.take_of_length_le]
   unfold Pp
   simp only [List.length_append,List.length_cons,List.length_take,List.length_drop,List.length_nil]
   omega
  rw [e5]
  rfl
theorem zb:Ea Try.prog 149 fL:=
 Ea.CU tt (Ah nJ At) mixed Try.func149 (by kernel_rfl) (by kernel_rfl) λx h=>VH x.1 x.2.1 x.2.2.1 x.2.2.2.1 x.2.2.2.2.1 x.2.2.2.2.2.1 h
structure Ol (p:PP) (m:Nat) (L:List (List Int)) (D:List Int):Prop where
 ok:Cw m L (Ve L)
 len:D.length=L.length
 row: ∀x∈L,∀y∈x,0<=y/\y<p.1
 dep: ∀j (h:j<D.length),0<=D[j]/\D[j]<=j
theorem lx {p:PP} (hv:Valid p) {x:List Int} {l:Int} (hx: ∀y∈x,0<=y/\y<p.1) (hl:Em (List.length p.2.2.1) l):
  (Aa x (Af p.2.2.1 l)).length=x.length/\ ∀y∈Aa x (Af p.2.2.1 l),0<=y/\y<p.1:=by
 obtain ⟨h1,h2⟩:=jb hv hl
 refine ⟨No _ _,λy hy=>?_⟩
 have:=uw (n:=(Af p.2.2.1 l).length) (λz hz=>by have:=hx z hz;omega) h2 y hy
 omega
theorem Ol.add {p:PP} {m:Nat} {L:List (List Int)} {D:List Int} (h:Ol p m L D) {y:List Int} {d:Int} (hn:y∉L) (hl:y.length=m) (hr:L.length<3000) (hy: ∀z∈y,0<=z/\z<p.1) (hd:0<=d/\d<=L.length):Ol p m (L++ [y]) (D++ [d]):=by
 have hlen:=h.len
 refine ⟨by rw [ar];exact h.ok.add hn hl hr,by simp [hlen],λx hx=>?_,λj hj=>?_⟩
 ·rcases List.mem_append.1 hx with hx|hx
  ·exact h.row x hx
  ·rw [List.mem_singleton.1 hx];exact hy
 ·by_cases e:j<D.length
  ·rw [List.getElem_append_left e];exact h.dep j e
  ·simp only [List.length_append,List.length_singleton] at hj
   have:j=D.length:=by omega
   subst this
   rw [List.getElem_append_right (by omega)]
   simp only [Nat.sub_self,List.getElem_cons_zero]
   omega
theorem dg {p:PP} {s:List Int} (hs:s.length<=20) (hr: ∀y∈s,0<=y/\y<p.1):Ol p s.length [s] [0]:=by
 refine ⟨?_,rfl,λx hx=>by rw [List.mem_singleton.1 hx];exact hr,λj hj=>?_⟩
 ·have:=(ik hs).add (s:=s) (by simp) rfl (by simp)
  have e:Ve [s]=Pp [] (Cy [] [] s) 0:=ar [] s
  rw [e];exact this
 ·simp only [List.length_singleton] at hj
  have:j=0:=by omega
  subst this
  simp
theorem qe {L:List (List Int)} {s:List Int} :er L s>=0↔s∈L:=by
 unfold er
 split
 ·rename_i h;exact ⟨λ_=>h,λ_=>by omega⟩
 ·rename_i h;exact ⟨λhh=>by omega,λhh=>absurd hh h⟩
theorem PA (p:PP) (s:List Int) (h:Bh p=true/\s.length<=20/\ ∀y∈s,0<=y/\y<p.1):fnW VY (look [(123,Kd),(149,fL),(96,Ip),(115,Kj),(54,Pe)]) Da Try.f112 (p,s,()) (λ(z:SS)=>z=Dj p.2.2.1 s):=by
 obtain ⟨hv,hs,hr⟩:=h
 have hV:=valid hv
 have uX:=hV.oe
 have SY:=dg hs hr
 have GD:short s:=by unfold short;omega
 obtain ⟨ls,ka⟩: ∃ls,Ag (List.length p.2.2.1)=ls:=⟨_,rfl⟩
 refine Eq.mp (QC p s _) ⟨_,if_pos GD,_,if_pos ⟨ik hs,by show 0<=3000;omega⟩,ls,(if_pos (by show List.length p.2.2.1<=8;exact uX.2)).trans (congrArg some ka),rfl,rfl,rfl,rfl,rfl,rfl,rfl,rfl,rfl,rfl,rfl,rfl,?_⟩
 have e0:Pp [] (Cy [] [] s) ((([]:List (List Int)).length:Nat):Int)=Ve [s]:=(ar [] s).symm
 show Bj _ ((0:Int),p.1,p.2.1,p.2.2.1,false,false,[],[],[],[s],[(0:Int)],Pp [] (Cy [] [] s) ((([]:List (List Int)).length:Nat):Int),PUnit.unit)
 rw [e0]
 have MF:ls.length<=16:=by rw [<-ka,Ko];omega
 have j5: ∀l∈ls,Em (List.length p.2.2.1) l:= λl hl=>Il (ka▸hl)
 have xY:Gl p.2.2.1 ls 3001 0 [s] [0]=Dm p.2.2.1 s:=by unfold Dm;rw [ka]
 refine Bj.mk (λv=>v.2.1=p.1/\v.2.2.1=p.2.1/\v.2.2.2.1=p.2.2.1/\v.2.2.2.2.2.1=false/\ ∃k:Nat,v.1=k/\k<=v.2.2.2.2.2.2.2.2.2.1.length/\
   Ol p s.length v.2.2.2.2.2.2.2.2.2.1 v.2.2.2.2.2.2.2.2.2.2.1/\v.2.2.2.2.2.2.2.2.2.2.2.1=Ve v.2.2.2.2.2.2.2.2.2.1/\
   Gl p.2.2.1 ls (3001-k) k v.2.2.2.2.2.2.2.2.2.1 v.2.2.2.2.2.2.2.2.2.2.1=Dm p.2.2.1 s) (λv=>3001-v.1.toNat)
  ⟨rfl,rfl,rfl,rfl,0,rfl,by simp,SY,rfl,xY⟩ ?_
 rintro ⟨k',n1,n2,n3,b0,wh,x1,x2,x3,L0,D0,S0,⟨⟩⟩ ⟨h1,h2,h3,h4,k,h5,h6,h7,h8,h9⟩
 dsimp only at h1 h2 h3 h4 h5 h6 h7 h8 h9
 subst h1 h2 h3 h4 h5 h8
 dsimp only
 have hL0:=h7.ok.oe
 have hD0:=h7.len
 refine Br.dec (λhl=>⟨rfl,rfl,rfl,rfl,rfl,rfl,rfl,rfl,rfl,rfl,rfl,rfl,?_⟩) λhl=>?_
 ·have hk:k<L0.length:=by omega
  have BZ:k<D0.length:=by omega
  have hx: ∀y∈L0[k],0<=y/\y<p.1:=h7.row _ (List.getElem_mem hk)
  have OH:L0[k].length=s.length:=h7.ok.len _ (List.getElem_mem hk)
  have hdk:=h7.dep k BZ
  obtain ⟨f,hf⟩: ∃f,3001-k=f+1:=⟨3000-k,by omega⟩
  have tP: ∀L' D' ok,Es p.2.2.1 L0[k] D0[k] ls L0 D0=(L',D',ok)->Dm p.2.2.1 s=if ok=true then Gl p.2.2.1 ls f (k+1) L' D' else (L',D',false):=by
   intro L' D' ok he
   rw [<-h9,hf,Gl,if_pos hk,Oq hk,List.getD_eq_getElem?_getD,List.getElem?_eq_getElem BZ]
   simp only [Option.getD_some]
   rw [he]
   cases ok<;>rfl
  refine Bj.mk (λv=>v.2.1=p.1/\v.2.2.1=p.2.1/\v.2.2.2.1=p.2.2.1/\v.2.2.2.2.2.1=false/\ ∃i:Nat,v.1=i/\i<=ls.length/\Ol p s.length v.2.2.2.2.2.2.2.2.2.1 v.2.2.2.2.2.2.2.2.2.2.1/\
    v.2.2.2.2.2.2.2.2.2.2.2.1=Ve v.2.2.2.2.2.2.2.2.2.1/\(∃A,v.2.2.2.2.2.2.2.2.2.1=L0++A)/\(∃A,v.2.2.2.2.2.2.2.2.2.2.1=D0++A)/\
    Es p.2.2.1 L0[k] D0[k] (ls.drop i) v.2.2.2.2.2.2.2.2.2.1 v.2.2.2.2.2.2.2.2.2.2.1=Es p.2.2.1 L0[k] D0[k] ls L0 D0) (λv=>ls.length-v.1.toNat)
   ⟨rfl,rfl,rfl,rfl,0,rfl,Nat.zero_le _,h7,rfl,⟨[],by simp⟩,⟨[],by simp⟩,rfl⟩ ?_
  rintro ⟨i',m1,m2,m3,b1,wh1,y1,y2,y3,L,D,S,⟨⟩⟩ ⟨g1,g2,g3,g4,i,g5,g6,g7,g8,⟨A,g9⟩,⟨A',g10⟩,GA⟩
  dsimp only at g1 g2 g3 g4 g5 g6 g7 g8 g9 g10 GA
  subst g1 g2 g3 g4 g5 g8
  dsimp only
  have hLf:=g7.ok.oe
  have QP:=g7.len
  rw [Ck L,Ck D,Ck (Ve L)]
  refine Br.dec (λhli=>?_) λhli=>?_
  ·have hi:i<ls.length:=by omega
   have RD:k<L.length:=by rw [g9,List.length_append];omega
   have hLk:L[k]=L0[k]:=by simp only [g9];exact List.getElem_append_left hk
   have TO:k<D.length:=by rw [QP];exact RD
   have hDk:D[k]=D0[k]:=by simp only [g10];exact List.getElem_append_left BZ
   have rM:=j5 _ (List.getElem_mem hi)
   obtain ⟨nl,nr⟩:=lx hV hx rM
   rw [List.drop_eq_getElem_cons hi] at GA
   simp only [Es] at GA
   refine ⟨⟨by omega,by omega⟩,L0[k],by rw [Int.toNat_natCast,Nat.zero_add,List.getElem?_eq_getElem RD,hLk],_,Ap hi,_,if_pos ⟨hv,by show L0[k].length<=20;omega,hx,rM⟩,?_⟩
   dsimp only
   have hyl:(Aa L0[k] (Af p.2.2.1 ls[i])).length=s.length:=by rw [nl,OH]
   refine ⟨_,if_pos (by show Cw (Aa L0[k] (Af p.2.2.1 ls[i])).length L (Ve L);rw [hyl];exact g7.ok),Br.dec (λOj=>?_) λOj=>?_⟩
   ·have Oj:Aa L0[k] (Af p.2.2.1 ls[i])∈L:=qe.1 Oj
    rw [if_pos Oj] at GA
    rw [Ak (by omega)]
    exact ⟨rfl,rfl,rfl,rfl,rfl,rfl,rfl,rfl,rfl,rfl,rfl,rfl,⟨rfl,rfl,rfl,rfl,i+1,rfl,hi,g7,rfl,⟨A,g9⟩,⟨A',g10⟩,GA⟩,by omega⟩
   ·have Oj:Aa L0[k] (Af p.2.2.1 ls[i])∉L:= λhh=>Oj (qe.2 hh)
    rw [if_neg Oj] at GA
    refine ⟨λef=>?_,λef=>⟨⟨by omega,by omega⟩,D0[k],by rw [Int.toNat_natCast,Nat.zero_add,List.getElem?_eq_getElem TO,hDk],rfl,rfl,rfl,rfl,rfl,rfl,?_⟩⟩
    ·have ef:L.length=3000:=by
      have:(L.length:Int)=3000:=by simpa using ef
      omega
     rw [if_pos ef] at GA
     have:=tP _ _ _ GA.symm
     rw [if_neg (by decide)] at this
     unfold Dj
     rw [this]
    ·have ef:L.length≠3000:=by
      have:(L.length:Int)≠3000:=by simpa using ef
      omega
     rw [if_neg ef] at GA
     rw [Bs (n:=D0[k]+1) (by omega) (by omega)]
     refine ⟨_,if_pos ⟨by show Cw (Aa L0[k] (Af p.2.2.1 ls[i])).length L (Ve L);rw [hyl];exact g7.ok,by show D.length<=3000;omega⟩,?_⟩
     dsimp only
     rw [Ak (by omega),<-ar]
     refine ⟨rfl,rfl,rfl,rfl,rfl,rfl,rfl,rfl,rfl,rfl,rfl,rfl,⟨rfl,rfl,rfl,rfl,i+1,rfl,hi,g7.add Oj hyl (by omega) nr ⟨by omega,by omega⟩,rfl,⟨A++ [Aa L0[k] (Af p.2.2.1 ls[i])],by rw [g9,List.append_assoc]⟩,⟨A'++ [D0[k]+1],by rw [g10,List.append_assoc]⟩,GA⟩,by omega⟩
  ·have:i=ls.length:=by omega
   subst this
   rw [List.drop_length,Es] at GA
   have:=tP _ _ _ GA.symm
   rw [if_pos rfl] at this
   rw [Ak (by omega)]
   refine ⟨rfl,rfl,rfl,rfl,rfl,rfl,rfl,rfl,rfl,rfl,rfl,rfl,⟨rfl,rfl,rfl,rfl,k+1,rfl,by rw [g9,List.length_append];omega,g7,rfl,?_⟩,by omega⟩
   rw [show 3001-(k+1)=f by omega]
   exact this.symm
 ·have hk:k=L0.length:=by omega
  rw [Ck L0,Ck D0,Ck (Ve L0)]
  obtain ⟨f,hf⟩: ∃f,3001-k=f+1:=⟨3000-k,by omega⟩
  rw [hf,Gl,if_neg (by omega)] at h9
  unfold Dj
  rw [<-h9]
theorem kD:Sound Try.prog 112 Da:=
 Sound.Dg VZ (Ah cN (Ri zb (Ah aX (Ah aq (Ah ir At))))) mixed Try.func112 (by kernel_rfl) (by kernel_rfl) λx h=>PA x.1 x.2.1 h
end Go.Proofs.Ytjbdmibbbpdnnaa

namespace Go.Proofs.Ytjbdmibbbpdnnaa
open Go.RowKit
noncomputable def Dd (p:PP) (t:List Int):Bool:=Bh p&&Fa p.1 t
theorem gn {p:PP} (hV:Valid p) {m:Nat} {x:List Int} {d:Int} (hx: ∀y∈x,0<=y/\y<p.1) (OH:x.length=m): ∀(ls:List Int) (L:List (List Int)) (D:List Int),(∀l∈ls,Em (List.length p.2.2.1) l)->
  Ol p m L D->(0<=d/\d<L.length)->Ol p m (Es p.2.2.1 x d ls L D).1 (Es p.2.2.1 x d ls L D).2.1/\(∃A,(Es p.2.2.1 x d ls L D).1=L++A)/\(∃A,(Es p.2.2.1 x d ls L D).2.1=D++A)
 | [],L,D,_,h,_=>⟨h,⟨[],by simp [Es]⟩,⟨[],by simp [Es]⟩⟩
 |l::ls,L,D,hl,h,hd=>by
  obtain ⟨n1,n2⟩:=lx hV hx (hl l (by simp))
  have Hc: ∀l∈ls,Em (List.length p.2.2.1) l:= λl' h'=>hl l' (List.mem_cons_of_mem _ h')
  simp only [Es]
  split
  ·exact gn hV hx OH ls L D Hc h hd
  ·rename_i hn
   split
   ·exact ⟨h,⟨[],by simp⟩,⟨[],by simp⟩⟩
   ·rename_i hf
    have uX:=h.ok.oe
    obtain ⟨k1,⟨A,k2⟩,⟨A',k3⟩⟩:=gn hV hx OH ls (L++ [Aa x (Af p.2.2.1 l)]) (D++ [d+1]) Hc (h.add hn (by rw [n1,OH]) (by omega) n2 ⟨by omega,by omega⟩) ⟨hd.1,by rw [List.length_append];omega⟩
    exact ⟨k1,⟨_::A,by rw [k2,List.append_assoc];rfl⟩,⟨_::A',by rw [k3,List.append_assoc];rfl⟩⟩
theorem ui {p:PP} (hV:Valid p) {m:Nat} {ls:List Int} (hl: ∀l∈ls,Em (List.length p.2.2.1) l): ∀(f k:Nat) (L:List (List Int)) (D:List Int),Ol p m L D->
  Ol p m (Gl p.2.2.1 ls f k L D).1 (Gl p.2.2.1 ls f k L D).2.1/\(∃A,(Gl p.2.2.1 ls f k L D).1=L++A)
 |0,k,L,D,h=>⟨h,⟨[],by simp [Gl]⟩⟩
 |f+1,k,L,D,h=>by
  simp only [Gl]
  split
  ·rename_i hk
   have BZ:k<D.length:=by rw [h.len];exact hk
   have hd:=h.dep k BZ
   have e:D.getD k 0=D[k]:=by rw [List.getD_eq_getElem?_getD,List.getElem?_eq_getElem BZ];rfl
   rw [Oq hk,e]
   obtain ⟨k1,⟨A,k2⟩,_⟩:=gn hV (h.row _ (List.getElem_mem hk)) (h.ok.len _ (List.getElem_mem hk)) (d:=D[k]) ls L D hl h ⟨by omega,by omega⟩
   split
   ·rename_i L' D' he
    rw [he] at k1 k2
    obtain ⟨g1,⟨B,g2⟩⟩:=ui hV hl f (k+1) L' D' k1
    have k2:L'=L++A:=k2
    exact ⟨g1,⟨A++B,by rw [g2,k2,List.append_assoc]⟩⟩
   ·rename_i L' D' he
    rw [he] at k1 k2
    exact ⟨k1,⟨A,k2⟩⟩
  ·exact ⟨h,⟨[],by simp⟩⟩
theorem rf {p:PP} {s:List Int} (hv:Bh p=true) (hs:s.length<=20) (hr: ∀y∈s,0<=y/\y<p.1):Ol p s.length (Dm p.2.2.1 s).1 (Dm p.2.2.1 s).2.1/\ ∃A,(Dm p.2.2.1 s).1=s::A:=
 ui (valid hv) (λ_ hl=>Il hl) _ _ _ _ (dg hs hr)
theorem Ju {p:PP} {t:List Int} :Dd p t=true↔Bh p=true/\Fa p.1 t=true:=by
 unfold Dd;rw [Bool.and_eq_true]
theorem Fo {p:PP} {t:List Int} (h:Dd p t=true):t.length<=20/\ ∀y∈t,0<=y/\y<p.1:=by
 obtain ⟨h1,h2⟩:=Ju.1 h
 have hn:=(valid h1).n
 obtain ⟨h3,h4⟩:=Gm.1 h2
 have hy: ∀y∈t,0<=y/\y<p.1:= λy hy=>by
  obtain ⟨j,hj,rfl⟩:=List.mem_iff_getElem.1 hy
  have:=h4 j hj hj
  omega
 refine ⟨?_,hy⟩
 have h5:=yK h4 (t.length-1) (by omega)
 have h6:=hy _ (List.getElem_mem (show t.length-1<t.length by omega))
 omega
theorem mX {p:PP} {t:List Int} (h:Dd p t=true):Ol p t.length (Dm p.2.2.1 t).1 (Dm p.2.2.1 t).2.1:=(rf (Ju.1 h).1 (Fo h).1 (Fo h).2).1
def xk (m:ByteArray->Option Bool) (L:List (List Int)):Prop:= ∀q,Ub q->(m (Nu q)).getD false=decide (q∈L)
theorem xk.add {m:ByteArray->Option Bool} {L:List (List Int)} {y:List Int} (h:xk m L) (hy:Ub y):xk (aB m (Nu y) true) (L++ [y]):=by
 intro q hq
 unfold aB
 by_cases e:q=y
 ·subst e
  rw [if_pos rfl];simp
 ·rw [if_neg λhk=>e (key_inj hq hy hk),h q hq]
  simp [e]
end Go.Proofs.Ytjbdmibbbpdnnaa
