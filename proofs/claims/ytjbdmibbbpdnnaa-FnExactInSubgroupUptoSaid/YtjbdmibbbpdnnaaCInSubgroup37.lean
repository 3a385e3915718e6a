/-
  Part 38 of the proof that the statement FnExactInSubgroup holds.
-/
import Derived.Test.YtjbdmibbbpdnnaaCInSubgroup36
import Derived.KernelRfl
namespace Go.Proofs.Ytjbdmibbbpdnnaa
open Go.RowKit
def Gm (x a b:Int):Bool:=decide (a<=x/\x<=b)
def ck (n x:Int):Bool:=decide (0<=x/\x<=IntKind.i64.wrap (n-1))
def Hp (a b:List Int):Bool:=decide (a=b)
def cX (xs:List Int) (x:Int):Bool:=decide (x∈xs)
def short (xs:List Int):Prop:=xs.length<=4294967296
noncomputable abbrev Bi:Spec:=Dl (.pair tI (.pair tI (.pair tI .unit))) .bool false true (λ_=>True) (λx=>Gm x.1 x.2.1 x.2.2.1)
noncomputable abbrev Sq:Spec:=Dl (.pair tI (.pair tI .unit)) .bool false true (λ_=>True) (λx=>ck x.1 x.2.1)
noncomputable abbrev Dc:Spec:=Dl (.pair tL (.pair tL .unit)) .bool false true (λx=>short x.1) (λx=>Hp x.1 x.2.1)
noncomputable abbrev Jr:Spec:=Dl (.pair tL (.pair tI .unit)) .bool false true (λx=>short x.1) (λx=>cX x.1 x.2.1)
theorem zE (x a b:Int) (P:Bool->Prop):(Br (decide (x>=a)) (P (decide (x<=b))) (P false))=fnW Cy (look []) Bi Try.f93 (x,a,b,()) P:=by kernel_rfl
theorem EL (x a b:Int) (P:Bool->Prop):(Br (decide (x>=a)) (P (decide (x<=b))) (P false))=fnW Cy (look []) Bi Try.f97 (x,a,b,()) P:=by kernel_rfl
theorem zG (n x:Int) (P:Bool->Prop):(∃(y3:Bool),Bi.fn (x,0,IntKind.i64.wrap (n-1),())=some y3/\P y3)=fnW Cy (look [(97,Bi)]) Sq Try.f116 (n,x,()) P:=by kernel_rfl
theorem uf (a b:List Int) (P:Bool->Prop):(Br ((↑a.length:Int) !=(↑b.length:Int)) (P false) (Co (λ(v3:Int×PUnit) (k4:Int×PUnit->Prop)=>Br (decide (v3.1<(↑a.length:Int))) (∃(y5:Int),idx a v3.1=some y5/\ ∃(y6:Int),idx b v3.1=some y6/\Br (y5 !=y6) (P false) (k4 (IntKind.i64.wrap (v3.1+1),()))) (P true)) (0,PUnit.unit)))=fnW Cy (look []) Dc Try.f105 (a,b,()) P:=by kernel_rfl
theorem nB (xs:List Int) (x:Int) (P:Bool->Prop):(Co (λ(v3:Int×PUnit) (k4:Int×PUnit->Prop)=>Br (decide (v3.1<(↑xs.length:Int))) (∃(y5:Int),idx xs v3.1=some y5/\Br (y5==x) (P true) (k4 (IntKind.i64.wrap (v3.1+1),()))) (P false)) (0,PUnit.unit))=fnW Cy (look []) Jr Try.f153 (xs,x,()) P:=by kernel_rfl
theorem yX (x a b:Int) (_:True):fnW Cy (look []) Bi Try.f93 (x,a,b,()) (λ(z:Bool)=>z=Gm x a b):=by
 refine Eq.mp (zE x a b _) ?_
 refine Br.dec (λh=>?_) λh=>?_
 ·have h:a<=x:=h
  simp [Gm,h]
 ·exact (decide_eq_false λhh=>h hh.1).symm
theorem Vn:Sound Try.prog 93 Bi:=
 Sound.Dl Bz Ax mixed Try.func93 (by kernel_rfl) (by kernel_rfl) λx h=>yX x.1 x.2.1 x.2.2.1 h
theorem CX (x a b:Int) (_:True):fnW Cy (look []) Bi Try.f97 (x,a,b,()) (λ(z:Bool)=>z=Gm x a b):=by
 refine Eq.mp (EL x a b _) ?_
 refine Br.dec (λh=>?_) λh=>?_
 ·have h:a<=x:=h
  simp [Gm,h]
 ·exact (decide_eq_false λhh=>h hh.1).symm
theorem Ob:Sound Try.prog 97 Bi:=
 Sound.Dl Bz Ax mixed Try.func97 (by kernel_rfl) (by kernel_rfl) λx h=>CX x.1 x.2.1 x.2.2.1 h
theorem yZ (n x:Int) (_:True):fnW Cy (look [(97,Bi)]) Sq Try.f116 (n,x,()) (λ(z:Bool)=>z=ck n x):=
 Eq.mp (zG n x _) ⟨_,if_pos trivial,rfl⟩
theorem nq:Sound Try.prog 116 Sq:=
 Sound.Dl Bz (Ae Ob Ax) mixed Try.func116 (by kernel_rfl) (by kernel_rfl) λx h=>yZ x.1 x.2.1 h
theorem mU (xs:List Int) (x:Int) (h:short xs):fnW Cy (look []) Jr Try.f153 (xs,x,()) (λ(z:Bool)=>z=cX xs x):=by
 refine Eq.mp (nB xs x _) ?_
 unfold short at h
 refine Ba xs.length (λv=>v.1) (λj _=>x∉xs.take j) rfl (by simp) ?_
 rintro j ⟨i,⟨⟩⟩ K hj hi hR hK
 dsimp only at hi⊢
 subst hi
 refine Br.dec (λhl=>?_) λhl=>?_
 ·have hl:j<xs.length:=by omega
  refine ⟨_,Bf hl,⟨λhe=>?_,λhe=>?_⟩⟩
  ·have hm:=List.getElem_mem hl
   simp only [beq_iff_eq] at he
   rw [he] at hm
   exact (decide_eq_true hm).symm
  ·rw [Au (by omega)]
   refine hK hl _ rfl ?_
   simp only [beq_eq_false_iff_ne,ne_eq] at he
   rw [List.take_succ_eq_append_getElem hl]
   simp only [List.mem_append,List.mem_singleton,not_or]
   exact ⟨hR,λhx=>he hx.symm⟩
 ·have:j=xs.length:=by omega
  subst this
  rw [List.take_length] at hR
  exact (decide_eq_false hR).symm
theorem fM:Sound Try.prog 153 Jr:=
 Sound.Dl Bz Ax mixed Try.func153 (by kernel_rfl) (by kernel_rfl) λx h=>mU x.1 x.2.1 h
theorem xh (a b:List Int) (hlen:a.length=b.length) (h:short a):
  Co (λ(v3:Int×PUnit) (k4:Int×PUnit->Prop)=>
   Br (decide (v3.1<(↑a.length:Int))) (∃(y5:Int),idx a v3.1=some y5/\ ∃(y6:Int),idx b v3.1=some y6/\Br (y5 !=y6) (false=Hp a b) (k4 (IntKind.i64.wrap (v3.1+1),())))
    (true=Hp a b))
  (0,PUnit.unit):=by
 unfold short at h
 refine Ba a.length (λv=>v.1) (λj _=>a.take j=b.take j) rfl (by simp) ?_
 rintro j ⟨i,⟨⟩⟩ K hj hi hR hK
 dsimp only at hi⊢
 subst hi
 refine Br.dec (λhl=>?_) λhl=>?_
 ·have sv:j<a.length:=by omega
  have GB:j<b.length:=by omega
  refine ⟨_,Bf sv,_,Bf GB,⟨λhe=>?_,λhe=>?_⟩⟩
  ·simp only [bne_iff_ne,ne_eq] at he
   refine (decide_eq_false λmC=>he ?_).symm
   subst mC
   rfl
  ·rw [Au (by omega)]
   refine hK sv _ rfl ?_
   simp only [bne_eq_false_iff_eq] at he
   rw [List.take_succ_eq_append_getElem sv,List.take_succ_eq_append_getElem GB,hR,he]
 ·have yq:j=a.length:=by omega
  subst yq
  rw [List.take_length,hlen,List.take_length] at hR
  exact (decide_eq_true hR).symm
theorem tq (a b:List Int) (h:short a):fnW Cy (look []) Dc Try.f105 (a,b,()) (λ(z:Bool)=>z=Hp a b):=by
 refine Eq.mp (uf a b _) ⟨λhl=>?_,λhl=>?_⟩
 ·simp only [bne_iff_ne,ne_eq,Int.natCast_inj] at hl
  exact (decide_eq_false λmC=>hl (by rw [mC])).symm
 ·simp only [bne_eq_false_iff_eq,Int.natCast_inj] at hl
  exact xh a b hl h
theorem ju:Sound Try.prog 105 Dc:=
 Sound.Dl Bz Ax mixed Try.func105 (by kernel_rfl) (by kernel_rfl) λx h=>tq x.1 x.2.1 h
end Go.Proofs.Ytjbdmibbbpdnnaa

namespace Go.Proofs.Ytjbdmibbbpdnnaa
open Go.RowKit
def Jg (xs:List (List Int)):Prop:=xs.length<=4294967296/\ ∀r∈xs,short r
def roomy (room:Int):Prop:=0<=room/\room<=4294967296
def gI (n:Nat) (room:Int):Int:=if room-n<0 then-1 else room-n
def fw (xs:List Int) (room:Int):Int:=gI xs.length room
def tY:List (List Int)->Int->Int
 | [],room=>room
 |r::rs,room=>if fw r room<0 then-1 else tY rs (fw r room)
def Vi (xs:List (List Int)) (room:Int):Int:=if gI xs.length room<0 then-1 else tY xs (gI xs.length room)
def gH (a b:List (List Int)):Bool:=decide (a=b)
noncomputable abbrev oK:Spec:=Dl (.pair tL (.pair tI .unit)) tI false true (λx=>short x.1/\roomy x.2.1) (λx=>fw x.1 x.2.1)
noncomputable abbrev hZ:Spec:=Dl (.pair jC (.pair tI .unit)) tI false true (λx=>Jg x.1/\roomy x.2.1) (λx=>Vi x.1 x.2.1)
noncomputable abbrev Uu:Spec:=Dl (.pair tL .unit) tL false true (λx=>short x.1) (λx=>x.1)
noncomputable abbrev ia:Spec:=Dl (.pair jC .unit) jC false true (λx=>Jg x.1) (λx=>x.1)
noncomputable abbrev gZ:Spec:=Dl (.pair jC (.pair jC .unit)) .bool false true (λx=>Jg x.1) (λx=>gH x.1 x.2.1)
theorem TQ (xs:List Int) (room:Int) (P:Int->Prop):(Br (decide (IntKind.i64.wrap (room-(↑xs.length:Int))<0)) (P (-1)) (P (IntKind.i64.wrap (room-(↑xs.length:Int)))))=fnW Cy (look []) oK Try.f74 (xs,room,()) P:=by kernel_rfl
theorem NU (xs:List (List Int)) (room:Int) (P:Int->Prop):(Br (decide (IntKind.i64.wrap (room-(↑xs.length:Int))<0)) (P (-1)) (Co (λ(v3:Int×Int×PUnit) (k4:Int×Int×PUnit->Prop)=>Br (decide (v3.2.1<(↑xs.length:Int))) (∃(y5:List Int),idx xs v3.2.1=some y5/\ ∃(y6:Int),oK.fn (y5,v3.1,())=some y6/\Br (decide (y6<0)) (P (-1)) (k4 (y6,IntKind.i64.wrap (v3.2.1+1),()))) (P v3.1)) (IntKind.i64.wrap (room-(↑xs.length:Int)),0,PUnit.unit)))=fnW Cy (look [(74,oK)]) hZ Try.f34 (xs,room,()) P:=by kernel_rfl
theorem TS (xs:List Int) (P:List Int->Prop):((0<=(↑xs.length:Int)/\(↑xs.length:Int)<(↑Bs:Int)+1)/\(↑xs.length:Int)=(↑xs.length:Int)/\0=0/\(List.replicate (↑xs.length:Int).toNat (Int.ofNat 0)).length=(List.replicate (↑xs.length:Int).toNat (Int.ofNat 0)).length/\Co (λ(v2:Int×List Int×PUnit) (k3:Int×List Int×PUnit->Prop)=>Br (decide (v2.1<(↑xs.length:Int))) (∃(y4:Int),idx xs v2.1=some y4/\(0<=v2.1/\v2.1<(↑v2.2.1.length:Int))/\0+v2.1.toNat<v2.2.1.length/\0=0/\v2.2.1.length=(v2.2.1.set (0+v2.1.toNat) y4).length/\k3 (IntKind.i64.wrap (v2.1+1),v2.2.1.set (0+v2.1.toNat) y4,())) (P (List.take v2.2.1.length (List.drop 0 v2.2.1)))) (0,List.replicate (↑xs.length:Int).toNat (Int.ofNat 0),PUnit.unit))=fnW Cy (look []) Uu Try.f17 (xs,()) P:=by kernel_rfl
theorem NV (xs:List (List Int)) (P:List (List Int)->Prop):((0<=(↑xs.length:Int)/\(↑xs.length:Int)<(↑Bs:Int)+1)/\(↑xs.length:Int)=(↑xs.length:Int)/\0=0/\(List.replicate (↑xs.length:Int).toNat ([]:List Int)).length=(List.replicate (↑xs.length:Int).toNat ([]:List Int)).length/\Co (λ(v2:Int×List (List Int)×PUnit) (k3:Int×List (List Int)×PUnit->Prop)=>Br (decide (v2.1<(↑xs.length:Int))) (∃(y4:List Int),idx xs v2.1=some y4/\ ∃(y5:List Int),Uu.fn (y4,())=some y5/\(0<=v2.1/\v2.1<(↑v2.2.1.length:Int))/\0+v2.1.toNat<v2.2.1.length/\0=0/\v2.2.1.length=(v2.2.1.set (0+v2.1.toNat) y5).length/\k3 (IntKind.i64.wrap (v2.1+1),v2.2.1.set (0+v2.1.toNat) y5,())) (P (List.take v2.2.1.length (List.drop 0 v2.2.1)))) (0,List.replicate (↑xs.length:Int).toNat ([]:List Int),PUnit.unit))=fnW Cy (look [(17,Uu)]) ia Try.f36 (xs,()) P:=by kernel_rfl
theorem TM (a b:List Int) (P:Bool->Prop):(Br ((↑a.length:Int) !=(↑b.length:Int)) (P false) (Co (λ(v3:Int×PUnit) (k4:Int×PUnit->Prop)=>Br (decide (v3.1<(↑a.length:Int))) (∃(y5:Int),idx a v3.1=some y5/\ ∃(y6:Int),idx b v3.1=some y6/\Br (y5 !=y6) (P false) (k4 (IntKind.i64.wrap (v3.1+1),()))) (P true)) (0,PUnit.unit)))=fnW Cy (look []) Dc Try.f20 (a,b,()) P:=by kernel_rfl
theorem NO (a b:List (List Int)) (P:Bool->Prop):(Br ((↑a.length:Int) !=(↑b.length:Int)) (P false) (Co (λ(v3:Int×PUnit) (k4:Int×PUnit->Prop)=>Br (decide (v3.1<(↑a.length:Int))) (∃(y5:List Int),idx a v3.1=some y5/\ ∃(y6:List Int),idx b v3.1=some y6/\ ∃(y7:Bool),Dc.fn (y5,y6,())=some y7/\Br (!y7) (P false) (k4 (IntKind.i64.wrap (v3.1+1),()))) (P true)) (0,PUnit.unit)))=fnW Cy (look [(20,Dc)]) gZ Try.f38 (a,b,()) P:=by kernel_rfl
theorem yL {n:Nat} {room:Int} (h:roomy room) (h2: ¬gI n room<0):roomy (gI n room):=by
 unfold gI roomy at*
 split at h2<;>simp_all
 omega
theorem SY (xs:List Int) (room:Int) (h:short xs/\roomy room):fnW Cy (look []) oK Try.f74 (xs,room,()) (λ(z:Int)=>z=fw xs room):=by
 obtain ⟨h1,h2,h3⟩:=h
 unfold short at h1
 refine Eq.mp (TQ xs room _) ?_
 rw [Ce (by omega) (by omega)]
 refine Br.dec (λh=>?_) λh=>?_
 ·simp only [fw,gI,if_pos h]
 ·simp only [fw,gI,if_neg h]
theorem zo:Sound Try.prog 74 oK:=
 Sound.Dl Bz Ax mixed Try.func74 (by kernel_rfl) (by kernel_rfl) λx h=>SY x.1 x.2.1 h
theorem MZ (xs:List (List Int)) (room:Int) (h:Jg xs/\roomy room):fnW Cy (look [(74,oK)]) hZ Try.f34 (xs,room,()) (λ(z:Int)=>z=Vi xs room):=by
 obtain ⟨⟨h1,h4⟩,h2,h3⟩:=h
 refine Eq.mp (NU xs room _) ?_
 rw [Ce (by omega) (by omega)]
 refine Br.dec (λh=>?_) λh=>?_
 ·simp only [Vi,gI,if_pos h];rfl
 ·refine Ba xs.length (λv=>v.2.1) (λj v=>roomy v.1/\tY (xs.drop j) v.1=Vi xs room) rfl ?_ ?_
  ·refine ⟨by unfold roomy;omega,?_⟩
   simp only [Vi,gI,if_neg h,List.drop_zero]
  ·rintro j ⟨r,i,⟨⟩⟩ K hj hi ⟨hr,hR⟩ hK
   dsimp only at hi hr hR⊢
   subst hi
   refine Br.dec (λhl=>?_) λhl=>?_
   ·have hl:j<xs.length:=by omega
    have hd:xs.drop j=xs[j]::xs.drop (j+1):=List.drop_eq_getElem_cons hl
    refine ⟨_,Bf hl,_,if_pos ⟨h4 _ (List.getElem_mem hl),hr⟩,?_⟩
    rw [hd] at hR
    simp only [tY] at hR
    refine Br.dec (λhn=>?_) λhn=>?_
    ·have hn:fw xs[j] r<0:=hn
     rw [if_pos hn] at hR
     exact hR
    ·have hn: ¬fw xs[j] r<0:=hn
     rw [if_neg hn] at hR
     rw [Au (by omega)]
     exact hK hl _ rfl ⟨yL hr hn,hR⟩
   ·have:j=xs.length:=by omega
    subst this
    rw [List.drop_length] at hR
    exact hR
theorem wK:Sound Try.prog 34 hZ:=
 Sound.Dl Bz (Ae zo Ax) mixed Try.func34 (by kernel_rfl) (by kernel_rfl) λx h=>MZ x.1 x.2.1 h
theorem Qf {α:Type} {ys xs:List α} {j:Nat} (h:j<xs.length) (hl:ys.length=xs.length) (ht:ys.take j=xs.take j):(ys.set j xs[j]).take (j+1)=xs.take (j+1):=by
 have h1:j<(ys.set j xs[j]).length:=by rw [List.length_set];omega
 rw [List.take_succ_eq_append_getElem h1,List.take_succ_eq_append_getElem h,List.getElem_set_self,List.take_set_of_le (Nat.le_refl j),ht]
theorem TA (xs:List Int) (h:short xs):fnW Cy (look []) Uu Try.f17 (xs,()) (λ(z:List Int)=>z=xs):=by
 unfold short at h
 refine Eq.mp (TS xs _) ?_
 refine ⟨⟨by omega,by show (xs.length:Int)<(4294967296:Int)+1;omega⟩,rfl,rfl,rfl,?_⟩
 refine Ba xs.length (λv=>v.1) (λj v=>v.2.1.length=xs.length/\v.2.1.take j=xs.take j) rfl ⟨by simp,by simp⟩ ?_
 rintro j ⟨i,ys,⟨⟩⟩ K hj hi ⟨h1,h2⟩ hK
 dsimp only at hi h1 h2⊢
 subst hi
 refine Br.dec (λhl=>?_) λhl=>?_
 ·have hl:j<xs.length:=by omega
  refine ⟨_,Bf hl,⟨by omega,by omega⟩,by rw [Int.toNat_natCast];omega,rfl,by rw [List.length_set],?_⟩
  rw [Au (by omega),Int.toNat_natCast,Nat.zero_add]
  exact hK hl _ rfl ⟨by rw [List.length_set];exact h1,Qf hl h1 h2⟩
 ·have:j=xs.length:=by omega
  subst this
  rw [List.take_length,<-h1,List.take_length] at h2
  rw [List.drop_zero,List.take_length]
  exact h2
theorem oQ:Sound Try.prog 17 Uu:=
 Sound.Dl Bz Ax mixed Try.func17 (by kernel_rfl) (by kernel_rfl) λx h=>TA x.1 h
theorem NA (xs:List (List Int)) (h:Jg xs):fnW Cy (look [(17,Uu)]) ia Try.f36 (xs,()) (λ(z:List (List Int))=>z=xs):=by
 obtain ⟨h,h4⟩:=h
 refine Eq.mp (NV xs _) ?_
 refine ⟨⟨by omega,by show (xs.length:Int)<(4294967296:Int)+1;omega⟩,rfl,rfl,rfl,?_⟩
 refine Ba xs.length (λv=>v.1) (λj v=>v.2.1.length=xs.length/\v.2.1.take j=xs.take j) rfl ⟨by simp,by simp⟩ ?_
 rintro j ⟨i,ys,⟨⟩⟩ K hj hi ⟨h1,h2⟩ hK
 dsimp only at hi h1 h2⊢
 subst hi
 refine Br.dec (λhl=>?_) λhl=>?_
 ·have hl:j<xs.length:=by omega
  refine ⟨_,Bf hl,_,if_pos (h4 _ (List.getElem_mem hl)),⟨by omega,by omega⟩,by rw [Int.toNat_natCast];omega,rfl,by rw [List.length_set],?_⟩
  rw [Au (by omega),Int.toNat_natCast,Nat.zero_add]
  exact hK hl _ rfl ⟨by rw [List.length_set];exact h1,Qf hl h1 h2⟩
 ·have:j=xs.length:=by omega
  subst this
  rw [List.take_length,<-h1,List.take_length] at h2
  rw [List.drop_zero,List.take_length]
  exact h2
theorem wL:Sound Try.prog 36 ia:=
 Sound.Dl Bz (Ae oQ Ax) mixed Try.func36 (by kernel_rfl) (by kernel_rfl) λx h=>NA x.1 h
theorem SU (a b:List Int) (h:short a):fnW Cy (look []) Dc Try.f20 (a,b,()) (λ(z:Bool)=>z=Hp a b):=by
 refine Eq.mp (TM a b _) ⟨λhl=>?_,λhl=>?_⟩
 ·simp only [bne_iff_ne,ne_eq,Int.natCast_inj] at hl
  exact (decide_eq_false λmC=>hl (by rw [mC])).symm
 ·simp only [bne_eq_false_iff_eq,Int.natCast_inj] at hl
  exact xh a b hl h
theorem oP:Sound Try.prog 20 Dc:=
 Sound.Dl Bz Ax mixed Try.func20 (by kernel_rfl) (by kernel_rfl) λx h=>SU x.1 x.2.1 h
theorem MT (a b:List (List Int)) (h:Jg a):fnW Cy (look [(20,Dc)]) gZ Try.f38 (a,b,()) (λ(z:Bool)=>z=gH a b):=by
 obtain ⟨h,h4⟩:=h
 refine Eq.mp (NO a b _) ⟨λhl=>?_,λhl=>?_⟩
 ·simp only [bne_iff_ne,ne_eq,Int.natCast_inj] at hl
  exact (decide_eq_false λmC=>hl (by rw [mC])).symm
 ·simp only [bne_eq_false_iff_eq,Int.natCast_inj] at hl
  refine Ba a.length (λv=>v.1) (λj _=>a.take j=b.take j) rfl (by simp) ?_
  rintro j ⟨i,⟨⟩⟩ K hj hi hR hK
  dsimp only at hi⊢
  subst hi
  refine Br.dec (λGu=>?_) λGu=>?_
  ·have sv:j<a.length:=by omega
   have GB:j<b.length:=by omega
   refine ⟨_,Bf sv,_,Bf GB,_,if_pos (h4 _ (List.getElem_mem sv)),⟨λhe=>?_,λhe=>?_⟩⟩
   ·refine (decide_eq_false λmC=>?_).symm
    subst mC
    simp [Hp] at he
   ·rw [Au (by omega)]
    refine hK sv _ rfl ?_
    simp only [Hp,Bool.not_eq_false',decide_eq_true_eq] at he
    rw [List.take_succ_eq_append_getElem sv,List.take_succ_eq_append_getElem GB,hR]
    exact congrArg (λx=>List.take j b++ [x]) he
  ·have yq:j=a.length:=by omega
   subst yq
   rw [List.take_length,hl,List.take_length] at hR
   exact (decide_eq_true hR).symm
theorem wH:Sound Try.prog 38 gZ:=
 Sound.Dl Bz (Ae oP Ax) mixed Try.func38 (by kernel_rfl) (by kernel_rfl) λx h=>MT x.1 x.2.1 h
end Go.Proofs.Ytjbdmibbbpdnnaa

namespace Go.Proofs.Ytjbdmibbbpdnnaa
open Go.RowKit
def PL (n:Int) (xs:List Int) (k:Nat):Prop:= ∀j (h:j<xs.length),j<k->0<=xs[j]/\xs[j]<=n-1/\(0<j->xs[j-1]<xs[j])
def DL (n:Int) (xs:List Int) (k:Nat):Prop:= ∀j (h:j<xs.length),j<k->0<=xs[j]/\xs[j]<=n-1/\xs[j]∉xs.take j
noncomputable def dec (p:Prop):Bool:= @decide p (Classical.propDecidable p)
theorem Hj {p:Prop} (h:p):true=dec p:=(@decide_eq_true p (Classical.propDecidable p) h).symm
theorem Bb {p:Prop} (h: ¬p):false=dec p:=(@decide_eq_false p (Classical.propDecidable p) h).symm
theorem Dg {p:Prop} :dec p=true↔p:= @decide_eq_true_iff p (Classical.propDecidable p)
theorem FJ {p:Prop} :dec p=false↔ ¬p:= @decide_eq_false_iff_not p (Classical.propDecidable p)
def MM (n:Int):Prop:=0<=n/\n<=4294967296
noncomputable def Mt (n:Int) (xs:List Int):Bool:=dec (0<xs.length/\PL n xs xs.length)
noncomputable abbrev Ex:Spec:=Dl (.pair tI (.pair tL .unit)) .bool false true (λx=>MM x.1/\short x.2.1) (λx=>Mt x.1 x.2.1)
noncomputable abbrev Sf:Spec:=Dl (.pair jC .unit) tI false true (λ_=>True) (λx=>(List.length x.1:Int))
theorem nE (n:Int) (xs:List Int) (P:Bool->Prop):(∃(y3:Bool),Bi.fn ((↑xs.length:Int),(1:Int),n,())=some y3/\Br (!y3) (P false) (Co (λ(v4:Int×PUnit) (k5:Int×PUnit->Prop)=>Br (decide (v4.1<(↑xs.length:Int))) (∃(y6:Int),idx xs v4.1=some y6/\ ∃(y7:Bool),Bi.fn (y6,(0:Int),IntKind.i64.wrap (n-(1:Int)),())=some y7/\Br (!y7) (P false) (Br (decide (v4.1>(0:Int))) (∃(y8:Int),idx xs v4.1=some y8/\ ∃(y9:Int),idx xs (IntKind.i64.wrap (v4.1-(1:Int)))=some y9/\Br (decide (y8<=y9)) (P false) (k5 (IntKind.i64.wrap (v4.1+(1:Int)),()))) (k5 (IntKind.i64.wrap (v4.1+(1:Int)),())))) (P true)) ((0:Int),PUnit.unit)))=fnW Cy (look [(93,Bi)]) Ex Try.f111 (n,xs,()) P:=by kernel_rfl
theorem uh (n:Int) (xs:List Int) (P:Bool->Prop):(Co (λ(v3:Int×PUnit) (k4:Int×PUnit->Prop)=>Br (decide (v3.1<(↑xs.length:Int))) (∃(y5:Int),idx xs v3.1=some y5/\ ∃(y6:Bool),Sq.fn (n,y5,())=some y6/\Br (!y6) (P false) (Br (decide (v3.1>(0:Int))) (∃(y7:Int),idx xs (IntKind.i64.wrap (v3.1-(1:Int)))=some y7/\Br (decide (y7>=y5)) (P false) (k4 (IntKind.i64.wrap (v3.1+(1:Int)),()))) (k4 (IntKind.i64.wrap (v3.1+(1:Int)),())))) (P (decide ((↑xs.length:Int)>(0:Int))))) ((0:Int),PUnit.unit))=fnW Cy (look [(116,Sq)]) Ex Try.f66 (n,xs,()) P:=by kernel_rfl
theorem HU (xs:List (List Int)) (P:Int->Prop):(P (↑xs.length:Int))=fnW Cy (look []) Sf Try.f58 (xs,()) P:=by kernel_rfl
theorem GX (xs:List (List Int)) (_:True):fnW Cy (look []) Sf Try.f58 (xs,()) (λ(z:Int)=>z=(xs.length:Int)):=Eq.mp (HU xs _) rfl
theorem j4:Sound Try.prog 58 Sf:=
 Sound.Dl Bz Ax mixed Try.func58 (by kernel_rfl) (by kernel_rfl) λx h=>GX x.1 h
theorem iR {n x:Int} (hn:MM n):ck n x=true↔0<=x/\x<=n-1:=by
 unfold ck MM at*
 rw [Ce (by omega) (by omega),decide_eq_true_iff]
theorem Cf {x a b:Int} :Gm x a b=true↔a<=x/\x<=b:=decide_eq_true_iff
theorem Dv {b:Bool} (h:(!b)=true): ¬b=true:=by cases b<;>simp_all
theorem Fy {b:Bool} (h:(!b)=false):b=true:=by cases b<;>simp_all
theorem we {n:Int} {xs:List Int} (h:PL n xs xs.length): ∀j (hj:j<xs.length),(j:Int)<=xs[j]
 |0,hj=>(h 0 hj hj).1
 |j+1,hj=>by
  have h1:=we h j (by omega)
  have h2:=(h (j+1) hj hj).2.2 (by omega)
  simp only [Nat.add_sub_cancel] at h2
  omega
theorem jP {n:Int} {xs:List Int} {j:Nat} (hl:j<xs.length) (h:PL n xs j) (h1:0<=xs[j]) (h2:xs[j]<=n-1) (h3:0<j->xs[j-1]<xs[j]):PL n xs (j+1):=by
 intro i hi dR
 by_cases e:i=j
 ·subst e;exact ⟨h1,h2,h3⟩
 ·exact h i hi (by omega)
theorem tv (n:Int) (xs:List Int) (h:MM n/\short xs):fnW Cy (look [(116,Sq)]) Ex Try.f66 (n,xs,()) (λ(z:Bool)=>z=Mt n xs):=by
 obtain ⟨hn,h⟩:=h
 unfold short at h
 refine Eq.mp (uh n xs _) ?_
 refine Ba xs.length (λv=>v.1) (λj _=>PL n xs j) rfl (λj _ hj=>absurd hj (Nat.not_lt_zero _)) ?_
 rintro j ⟨i,⟨⟩⟩ K hj hi hR hK
 dsimp only at hi⊢
 subst hi
 refine Br.dec (λhl=>?_) λhl=>?_
 ·have hl:j<xs.length:=by omega
  refine ⟨_,Bf hl,_,if_pos trivial,⟨λhp=>?_,λhp=>?_⟩⟩
  ·have hp:=Dv hp
   rw [iR hn] at hp
   exact Bb λhh=>hp ⟨(hh.2 j hl hl).1,(hh.2 j hl hl).2.1⟩
  ·have hp:=Fy hp
   rw [iR hn] at hp
   refine Br.dec (λh0=>?_) λh0=>?_
   ·have h0:0<j:=by omega
    rw [Ce (by omega) (by omega),show (j:Int)-1=((j-1:Nat):Int) by omega]
    refine ⟨_,Bf (by omega),Br.dec (λhg=>?_) λhg=>?_⟩
    ·exact Bb λhh=>by have:=(hh.2 j hl hl).2.2 h0;omega
    ·rw [Au (by omega)]
     exact hK hl _ rfl (jP hl hR hp.1 hp.2 λ_=>by omega)
   ·have h0:j=0:=by omega
    rw [Au (by omega)]
    exact hK hl _ rfl (jP hl hR hp.1 hp.2 λh=>by omega)
 ·have:j=xs.length:=by omega
  subst this
  by_cases h0:0<xs.length
  ·rw [decide_eq_true (show (xs.length:Int)>0 by omega)];exact Hj ⟨h0,hR⟩
  ·rw [decide_eq_false (show ¬(xs.length:Int)>0 by omega)];exact Bb λhh=>h0 hh.1
theorem jx:Sound Try.prog 66 Ex:=
 Sound.Dl Bz (Ae nq Ax) mixed Try.func66 (by kernel_rfl) (by kernel_rfl) λx h=>tv x.1 x.2.1 h
theorem mX (n:Int) (xs:List Int) (h:MM n/\short xs):fnW Cy (look [(93,Bi)]) Ex Try.f111 (n,xs,()) (λ(z:Bool)=>z=Mt n xs):=by
 obtain ⟨hn,h⟩:=h
 unfold short at h
 refine Eq.mp (nE n xs _) ⟨_,if_pos trivial,⟨λhp=>?_,λhp=>?_⟩⟩
 ·have hp:=Dv hp
  rw [Cf] at hp
  dsimp only at hp
  refine Bb λhh=>hp ⟨by omega,?_⟩
  have:=we hh.2 (xs.length-1) (by omega)
  have:=(hh.2 (xs.length-1) (by omega) (by omega)).2.1
  omega
 ·have hp:=Fy hp
  rw [Cf] at hp
  dsimp only at hp
  refine Ba xs.length (λv=>v.1) (λj _=>PL n xs j) rfl (λj _ hj=>absurd hj (Nat.not_lt_zero _)) ?_
  rintro j ⟨i,⟨⟩⟩ K hj hi hR hK
  dsimp only at hi⊢
  subst hi
  refine Br.dec (λhl=>?_) λhl=>?_
  ·have hl:j<xs.length:=by omega
   refine ⟨_,Bf hl,_,if_pos trivial,⟨λhq=>?_,λhq=>?_⟩⟩
   ·have hq:=Dv hq
    unfold MM at hn
    rw [Cf,Ce (by omega) (by omega)] at hq
    exact Bb λhh=>hq ⟨(hh.2 j hl hl).1,(hh.2 j hl hl).2.1⟩
   ·have hq:=Fy hq
    unfold MM at hn
    rw [Cf,Ce (by omega) (by omega)] at hq
    refine Br.dec (λh0=>?_) λh0=>?_
    ·have h0:0<j:=by omega
     rw [Ce (by omega) (by omega),show (j:Int)-1=((j-1:Nat):Int) by omega]
     refine ⟨_,Bf hl,_,Bf (by omega),Br.dec (λhg=>?_) λhg=>?_⟩
     ·exact Bb λhh=>by have:=(hh.2 j hl hl).2.2 h0;omega
     ·rw [Au (by omega)]
      exact hK hl _ rfl (jP hl hR hq.1 hq.2 λ_=>by omega)
    ·rw [Au (by omega)]
     exact hK hl _ rfl (jP hl hR hq.1 hq.2 λh=>by omega)
  ·have:j=xs.length:=by omega
   subst this
   exact Hj ⟨by omega,hR⟩
theorem fN:Sound Try.prog 111 Ex:=
 Sound.Dl Bz (Ae Vn Ax) mixed Try.func111 (by kernel_rfl) (by kernel_rfl) λx h=>mX x.1 x.2.1 h
theorem FK {n:Int} {xs:List Int} {j:Nat} (hl:j<xs.length) (h:DL n xs j) (h1:0<=xs[j]) (h2:xs[j]<=n-1) (h3:xs[j]∉xs.take j):DL n xs (j+1):=by
 intro i hi dR
 by_cases e:i=j
 ·subst e;exact ⟨h1,h2,h3⟩
 ·exact h i hi (by omega)
theorem wC {xs:List Int} (h:short xs) (j:Nat):short (xs.take j):=by
 unfold short at*
 rw [List.length_take]
 omega
end Go.Proofs.Ytjbdmibbbpdnnaa

namespace Go.Proofs.Ytjbdmibbbpdnnaa
open Go.RowKit
theorem tG:roomy 1048576:=⟨by decide,by decide⟩
end Go.Proofs.Ytjbdmibbbpdnnaa

namespace Go.Proofs.Ytjbdmibbbpdnnaa
open Go.RowKit
abbrev PP:Type:=Int×ByteArray×List (List Int)×Unit
noncomputable def Ez (p:List Int):Bool:=dec (1<=p.length/\p.length<=20/\DL p.length p p.length)
noncomputable def Dz (n:Int) (p:List Int):Bool:=dec ((p.length:Int)=n/\Ez p=true)
noncomputable def Qr (n:Int) (g:List (List Int)):Bool:=dec ((1<=n/\n<=20)/\g.length<=8/\ ∀p∈g,Dz n p=true)
def Gd {α:Type} (P:α->Bool):List α->Int->Int
 | [],_=> -1
 |y::r,i=>if P y=true then i else Gd P r (i+1)
abbrev tG1:Ty:= .clo 177 (.pair (.ptr tI) .unit)
def oV (s:ByteArray) (i:Nat):Prop:= ∃c:UInt8,s[i]?=some c/\65<=c.toNat/\c.toNat<=90/\ ∀k,k<i->s[k]?≠some c
noncomputable def fv (s:ByteArray) (i:Int):Bool:=dec (oV s i.toNat)
noncomputable def Wq (s:ByteArray):Bool:=dec ((1<=s.size/\s.size<=8)/\ ∀j,j<s.size->oV s j)
noncomputable def Bc (p:PP):Bool:=dec (Qr p.1 p.2.2.1=true/\Wq p.2.1=true/\p.2.1.size=p.2.2.1.length)
noncomputable def Bo (p:PP) (xs:List Int):Bool:=dec (Bc p=true/\Mt p.2.2.1.length xs=true)
def Cm (p:PP):Prop:=p.2.1.size<=4294967296/\Jg p.2.2.1
noncomputable abbrev Lk:Spec:=Dl (.pair tL .unit) tI false true (λ_=>True) (λx=>(List.length x.1:Int))
noncomputable abbrev Ee:Spec:=Dl (.pair tL .unit) .bool false true (λx=>short x.1) (λx=>Ez x.1)
noncomputable abbrev Jl:Spec:=Dl (.pair tI (.pair jC .unit)) .bool false true (λx=>Jg x.2.1) (λx=>Qr x.1 x.2.1)
noncomputable abbrev cq:Spec:=Dl (.pair tL (.pair (.ptr tI) .unit)) .bool false true (λx=>short x.1) (λx=>!Dz x.2.1 x.1)
noncomputable abbrev oJ:Spec:=Dl (.pair jC (.pair tG1 .unit)) tI false true (λx=>Jg x.1) (λx=>Gd (λp=>!Dz x.2.1.1 p) x.1 0)
noncomputable abbrev oG:Spec:=Dl (.pair jC (.pair tG1 .unit)) .bool false true (λx=>Jg x.1) (λx=>List.any x.1 (λp=>!Dz x.2.1.1 p))
noncomputable abbrev Ww:Spec:=Dl (.pair .str (.pair tI .unit)) .bool false true (λx=>0<=x.2.1/\x.2.1<x.1.size/\x.1.size<=4294967296) (λx=>fv x.1 x.2.1)
noncomputable abbrev Sp:Spec:=Dl (.pair .str .unit) .bool false true (λx=>x.1.size<=4294967296) (λx=>Wq x.1)
noncomputable abbrev Ef:Spec:=Dl (.pair Ck .unit) .bool false true (λx=>Cm x.1) (λx=>Bc x.1)
noncomputable abbrev Ei:Spec:=Dl (.pair Ck (.pair tL .unit)) .bool false true (λx=>Cm x.1/\short x.2.1) (λx=>Bo x.1 x.2.1)
def bf (p:PP) (room:Int):Int:=if room-p.2.1.size<0 then-1 else if Vi p.2.2.1 (room-p.2.1.size)<0 then-1 else Vi p.2.2.1 (room-p.2.1.size)
def iP (a b:PP):Bool:=decide (a.1=b.1)&&(decide (a.2.1=b.2.1)&&decide (a.2.2.1=b.2.2.1))
noncomputable abbrev oL:Spec:=Dl (.pair Ck (.pair tI .unit)) tI false true (λx=>Cm x.1/\roomy x.2.1) (λx=>bf x.1 x.2.1)
noncomputable abbrev j0:Spec:=Dl (.pair Ck .unit) Ck false true (λx=>Cm x.1) (λx=>x.1)
noncomputable abbrev oH:Spec:=Dl (.pair Ck (.pair Ck .unit)) .bool false true (λx=>Cm x.1) (λx=>iP x.1 x.2.1)
theorem NR (xs:List Int) (P:Int->Prop):(P (↑xs.length:Int))=fnW Cy (look []) Lk Try.f82 (xs,()) P:=by kernel_rfl
theorem r9 (p:List Int) (P:Bool->Prop):(∃(y2:Bool),Bi.fn ((↑p.length:Int),(1:Int),(20:Int),())=some y2/\Br (!y2) (P false) (Co (λ(v3:Int×PUnit) (k4:Int×PUnit->Prop)=>Br (decide (v3.1<(↑p.length:Int))) (∃(y5:Int),idx p v3.1=some y5/\ ∃(y6:Bool),Bi.fn (y5,(0:Int),IntKind.i64.wrap ((↑p.length:Int)-(1:Int)),())=some y6/\Br (!y6) (P false) (((0:Int)<=(0:Int)/\(0:Int)<=v3.1/\v3.1<=(↑p.length:Int))/\ ∃(y7:Int),idx p v3.1=some y7/\ ∃(y8:Bool),Jr.fn (List.drop (Int.toNat (0:Int)) (List.take v3.1.toNat p),y7,())=some y8/\Br y8 (P false) (k4 (IntKind.i64.wrap (v3.1+(1:Int)),())))) (P true)) ((0:Int),PUnit.unit)))=fnW Cy (look [(93,Bi),(153,Jr)]) Ee Try.f169 (p,()) P:=by kernel_rfl
theorem r6 (p:List Int) (P:Bool->Prop):(∃(y2:Int),Lk.fn (p,())=some y2/\ ∃(y3:Bool),Bi.fn (y2,(1:Int),(20:Int),())=some y3/\Br (!y3) (P false) (Co (λ(v4:Int×Int×PUnit) (k5:Int×Int×PUnit->Prop)=>Br (decide (v4.2.1<(↑p.length:Int))) (∃(y6:Int),idx p v4.2.1=some y6/\ ∃(y7:Int),Lk.fn (p,())=some y7/\ ∃(y8:Bool),Bi.fn (y6,(0:Int),IntKind.i64.wrap (y7-(1:Int)),())=some y8/\Br (!y8) (P false) (¬y6<(0:Int)/\k5 (IntKind.i64.wrap (↑(BitVec.ofInt IntKind.i64.bits v4.1|||BitVec.ofInt IntKind.i64.bits (IntKind.i64.wrap ((1:Int)*(2:Int)^min y6.toNat IntKind.i64.bits))).toNat:Int),IntKind.i64.wrap (v4.2.1+(1:Int)),()))) (¬(↑p.length:Int)<(0:Int)/\P (v4.1==IntKind.i64.wrap (IntKind.i64.wrap ((1:Int)*(2:Int)^min (↑p.length:Int).toNat IntKind.i64.bits)-(1:Int))))) ((0:Int),(0:Int),PUnit.unit)))=fnW Cy (look [(97,Bi),(82,Lk)]) Ee Try.f168 (p,()) P:=by kernel_rfl
theorem r8 (n:Int) (g:List (List Int)) (P:Bool->Prop):(∃(y3:Bool),Bi.fn (n,(1:Int),(20:Int),())=some y3/\Br (!y3) (P false) (Br (decide ((↑g.length:Int)>(8:Int))) (P false) (Co (λ(v4:Int×PUnit) (k5:Int×PUnit->Prop)=>Br (decide (v4.1<(↑g.length:Int))) (∃(y6:List Int),idx g v4.1=some y6/\Br ((↑y6.length:Int) !=n) (P false) (∃(y7:List Int),idx g v4.1=some y7/\ ∃(y8:Bool),Ee.fn (y7,())=some y8/\Br (!y8) (P false) (k5 (IntKind.i64.wrap (v4.1+(1:Int)),())))) (P true)) ((0:Int),PUnit.unit))))=fnW Cy (look [(93,Bi),(169,Ee)]) Jl Try.f147 (n,g,()) P:=by kernel_rfl
theorem HT (p:List Int) (n:Int) (P:Bool->Prop):(∃(y3:Int),Lk.fn (p,())=some y3/\Br (y3 !=n) (P true) (∃(y4:Bool),Ee.fn (p,())=some y4/\P !y4))=fnW Cy (look [(82,Lk),(168,Ee)]) cq Try.f177 (p,n,()) P:=by kernel_rfl
theorem TP (g:List (List Int)) (n:Int×Unit) (P:Int->Prop):(Co (λ(v3:Int×PUnit) (k4:Int×PUnit->Prop)=>Br (decide (v3.1<(↑g.length:Int))) (∃(y5:List Int),idx g v3.1=some y5/\ ∃(y6:Bool),cq.fn (y5,n.1,())=some y6/\Br y6 (P v3.1) (k4 (IntKind.i64.wrap (v3.1+(1:Int)),()))) (P (-1:Int))) ((0:Int),PUnit.unit))=fnW Cy (look [(177,cq)]) oJ Try.f184 (g,n,()) P:=by kernel_rfl
theorem TL (g:List (List Int)) (n:Int×Unit) (P:Bool->Prop):(∃(y3:Int),oJ.fn (g,n,())=some y3/\P (decide (y3>=(0:Int))))=fnW Cy (look [(184,oJ)]) oG Try.f176 (g,n,()) P:=by kernel_rfl
theorem qZ (n:Int) (g:List (List Int)) (P:Bool->Prop):(∃(y3:Bool),Bi.fn (n,(1:Int),(20:Int),())=some y3/\Br y3 (Br (decide ((↑g.length:Int)<=(8:Int))) (∃(y4:Bool),oG.fn (g,(n,()),())=some y4/\P !y4) (P false)) (P false))=fnW Cy (look [(97,Bi),(176,oG)]) Jl Try.f158 (n,g,()) P:=by kernel_rfl
theorem EI (s:ByteArray) (i:Int) (P:Bool->Prop):((0:Int)<=i/\ ∃(y3:UInt8),s[i.toNat]?=some y3/\Br (decide ((↑y3.toNat:Int)<(65:Int))) (P false) ((0:Int)<=i/\ ∃(y4:UInt8),s[i.toNat]?=some y4/\Br (decide ((↑y4.toNat:Int)>(90:Int))) (P false) (Co (λ(v5:Int×PUnit) (k6:Int×PUnit->Prop)=>Br (decide (v5.1<i)) ((0:Int)<=v5.1/\ ∃(y7:UInt8),s[v5.1.toNat]?=some y7/\(0:Int)<=i/\ ∃(y8:UInt8),s[i.toNat]?=some y8/\Br ((↑y7.toNat:Int)==(↑y8.toNat:Int)) (P false) (k6 (IntKind.i64.wrap (v5.1+(1:Int)),()))) (P true)) ((0:Int),PUnit.unit))))=fnW Cy (look []) Ww Try.f148 (s,i,()) P:=by kernel_rfl
theorem zF (s:ByteArray) (P:Bool->Prop):(Co (λ(v2:Int×PUnit) (k3:Int×PUnit->Prop)=>Br (decide (v2.1<(↑s.size:Int))) ((0:Int)<=v2.1/\ ∃(y4:UInt8),s[v2.1.toNat]?=some y4/\ ∃(y5:Bool),Bi.fn (IntKind.i64.wrap (↑y4.toNat:Int),(65:Int),(90:Int),())=some y5/\Br (!y5) (P false) (Co (λ(v6:Int×PUnit) (k7:Int×PUnit->Prop)=>Br (decide (v6.1<v2.1)) ((0:Int)<=v6.1/\ ∃(y8:UInt8),s[v6.1.toNat]?=some y8/\(0:Int)<=v2.1/\ ∃(y9:UInt8),s[v2.1.toNat]?=some y9/\Br ((↑y8.toNat:Int)==(↑y9.toNat:Int)) (P false) (k7 (IntKind.i64.wrap (v6.1+(1:Int)),()))) (k3 (IntKind.i64.wrap (v2.1+(1:Int)),()))) ((0:Int),PUnit.unit))) (∃(y4:Bool),Bi.fn ((↑s.size:Int),(1:Int),(8:Int),())=some y4/\P y4)) ((0:Int),PUnit.unit))=fnW Cy (look [(97,Bi)]) Sp Try.f159 (s,()) P:=by kernel_rfl
abbrev dg:Type:=Int×Int×ByteArray×List (List Int)×PUnit
theorem re (p:Int×ByteArray×List (List Int)×Unit) (P:Bool->Prop):(Br ((↑p.2.2.1.length:Int)==(0:Int)) (P false) (Br ((↑p.2.1.size:Int) !=(↑p.2.2.1.length:Int)) (P false) (∃(y2:Bool),Jl.fn (p.1,p.2.2.1,())=some y2/\Br (!y2) (P false) (Co (λ(v3:dg) (k4:dg->Prop)=>Br (decide (v3.1<(↑v3.2.2.1.size:Int))) (∃(y5:Bool),Ww.fn (v3.2.2.1,v3.1,())=some y5/\Br (!y5) (P false) (k4 (IntKind.i64.wrap (v3.1+(1:Int)),v3.2.1,v3.2.2.1,v3.2.2.2.1,()))) (P true)) ((0:Int),p.1,p.2.1,p.2.2.1,PUnit.unit)))))=fnW Cy (look [(147,Jl),(148,Ww)]) Ef Try.f110 (p,()) P:=by kernel_rfl
theorem r7 (p:Int×ByteArray×List (List Int)×Unit) (P:Bool->Prop):(∃(y2:Bool),Jl.fn (p.1,p.2.2.1,())=some y2/\Br y2 (∃(y3:Bool),Sp.fn (p.2.1,())=some y3/\Br y3 (P ((↑p.2.1.size:Int)==(↑p.2.2.1.length:Int))) (P false)) (P false))=fnW Cy (look [(158,Jl),(159,Sp)]) Ef Try.f130 (p,()) P:=by kernel_rfl
theorem iu (p:Int×ByteArray×List (List Int)×Unit) (xs:List Int) (P:Bool->Prop):(∃(y3:Bool),Ef.fn ((p.1,p.2.1,p.2.2.1,()),())=some y3/\Br y3 (∃(y4:Bool),Ex.fn ((↑p.2.2.1.length:Int),xs,())=some y4/\P y4) (P false))=fnW Cy (look [(110,Ef),(111,Ex)]) Ei Try.f101 (p,xs,()) P:=by kernel_rfl
theorem ir (p:Int×ByteArray×List (List Int)×Unit) (xs:List Int) (P:Bool->Prop):(∃(y3:Bool),Ef.fn ((p.1,p.2.1,p.2.2.1,()),())=some y3/\Br y3 (∃(y4:Int),Sf.fn (p.2.2.1,())=some y4/\ ∃(y5:Bool),Ex.fn (y4,xs,())=some y5/\P y5) (P false))=fnW Cy (look [(130,Ef),(66,Ex),(58,Sf)]) Ei Try.f106 (p,xs,()) P:=by kernel_rfl
theorem TR (p:Int×ByteArray×List (List Int)×Unit) (room:Int) (P:Int->Prop):(Br (decide (IntKind.i64.wrap (room-(↑p.2.1.size:Int))<(0:Int))) (P (-1:Int)) (∃(y3:Int),hZ.fn (p.2.2.1,IntKind.i64.wrap (room-(↑p.2.1.size:Int)),())=some y3/\Br (decide (y3<(0:Int))) (P (-1:Int)) (P y3)))=fnW Cy (look [(34,hZ)]) oL Try.f14 (p,room,()) P:=by kernel_rfl
theorem TT (p:Int×ByteArray×List (List Int)×Unit) (P:(Int×ByteArray×List (List Int)×Unit)->Prop):(∃(y2:List (List Int)),ia.fn (p.2.2.1,())=some y2/\P (p.1,p.2.1,y2,()))=fnW Cy (look [(36,ia)]) j0 Try.f16 (p,()) P:=by kernel_rfl
theorem TN (a b:Int×ByteArray×List (List Int)×Unit) (P:Bool->Prop):(Br (a.1 !=b.1) (P false) (Br (!a.2.1.toList==b.2.1.toList) (P false) (∃(y3:Bool),gZ.fn (a.2.2.1,b.2.2.1,())=some y3/\Br (!y3) (P false) (P true))))=fnW Cy (look [(38,gZ)]) oH Try.f19 (a,b,()) P:=by kernel_rfl
theorem MW (xs:List Int) (_:True):fnW Cy (look []) Lk Try.f82 (xs,()) (λ(z:Int)=>z=(xs.length:Int)):=Eq.mp (NR xs _) rfl
theorem Yy:Sound Try.prog 82 Lk:=
 Sound.Dl Bz Ax mixed Try.func82 (by kernel_rfl) (by kernel_rfl) λx h=>MW x.1 h
theorem qN {α:Type} [DecidableEq α]: ∀(l m:List α),l.Nodup->(∀x∈l,x∈m)->l.length<=m.length
 | [],m,_,_=>Nat.zero_le _
 |a::l,m,hn,hs=>by
  have ha:a∈m:=hs a (List.mem_cons_self ..)
  have hn:=List.nodup_cons.1 hn
  have:=qN l (m.erase a) hn.2 λx hx=>(List.mem_erase_of_ne (λ(e:x=a)=>hn.1 (by rw [<-e];exact hx))).2 (hs x (List.mem_cons_of_mem _ hx))
  rw [List.length_erase_of_mem ha] at this
  have:0<m.length:=List.length_pos_of_mem ha
  simp only [List.length_cons]
  omega
def upto (n:Nat):List Int:=(List.range n).map Int.ofNat
theorem ma (n:Nat):(upto n).Nodup:=by
 unfold upto
 exact List.Pairwise.map _ (λa b mC e=>mC (Int.ofNat.inj e)) List.nodup_range
theorem Jk {n:Nat} {x:Int} :x∈upto n↔0<=x/\x<n:=by
 unfold upto
 simp only [List.mem_map,List.mem_range]
 constructor
 ·rintro ⟨a,ha,rfl⟩;exact ⟨Int.natCast_nonneg _,Int.ofNat_lt.2 ha⟩
 ·rintro ⟨h1,h2⟩;exact ⟨x.toNat,by omega,by simp only [Int.ofNat_eq_natCast];omega⟩
theorem Tz (n:Nat):(upto n).length=n:=by simp [upto]
theorem bh {xs:List Int} (h: ∀j (hj:j<xs.length),xs[j]∉xs.take j):xs.Nodup:=by
 refine List.pairwise_iff_getElem.2 λi j hi hj dR e=>h j hj ?_
 rw [<-e]
 exact List.mem_take_iff_getElem.2 ⟨i,by omega,rfl⟩
theorem m8 {xs:List Int} (h:xs.Nodup): ∀j (hj:j<xs.length),xs[j]∉xs.take j:=by
 intro j hj hm
 obtain ⟨i,hi,e⟩:=List.mem_take_iff_getElem.1 hm
 exact List.pairwise_iff_getElem.1 h i j (by omega) hj (by omega) e
theorem Vd {xs:List Int} (h: ∀x∈xs,0<=x/\x<xs.length):(∀k:Nat,k<xs.length->(k:Int)∈xs)↔ ∀j (hj:j<xs.length),xs[j]∉xs.take j:=by
 constructor
 ·intro ha j hj hm
  have h1:=qN (upto xs.length) (xs.take j++xs.drop (j+1)) (ma _) λx hx=>by
   obtain ⟨h1,h2⟩:=Jk.1 hx
   have hx:=ha x.toNat (by omega)
   rw [show ((x.toNat:Nat):Int)=x by omega] at hx
   rw [<-List.take_append_drop j xs,List.mem_append,List.drop_eq_getElem_cons hj,List.mem_cons] at hx
   rcases hx with hx|rfl|hx
   ·exact List.mem_append_left _ hx
   ·exact List.mem_append_left _ hm
   ·exact List.mem_append_right _ hx
  rw [Tz,List.length_append,List.length_take,List.length_drop] at h1
  omega
 ·intro hn k hk
  refine Classical.byContradiction λhc=>?_
  have h1:=qN xs ((upto xs.length).erase (k:Int)) (bh hn) λx hx=>by
   refine (List.mem_erase_of_ne λ(e:x=(k:Int))=>hc (by rw [<-e];exact hx)).2 (Jk.2 (h x hx))
  rw [List.length_erase_of_mem (Jk.2 ⟨by omega,by omega⟩),Tz] at h1
  omega
def mask (xs:List Int):Nat:=xs.foldl (λm x=>m|||2^x.toNat) 0
theorem yM (xs:List Int) (x:Int):mask (xs++ [x])=mask xs|||2^x.toNat:=by simp [mask]
theorem pY (xs:List Int) (k:Nat): ∀a:Nat,(xs.foldl (λm x=>m|||2^x.toNat) a).testBit k=(a.testBit k||xs.any λx=>decide (x.toNat=k)):=by
 induction xs with
 |nil=>simp
 |cons x xs ih=>
  intro a
  rw [List.foldl_cons,ih,Nat.testBit_or,Nat.testBit_two_pow,List.any_cons,Bool.or_assoc]
theorem l4 (xs:List Int) (k:Nat):(mask xs).testBit k=xs.any λx=>decide (x.toNat=k):=by
 unfold mask
 rw [pY,Nat.zero_testBit,Bool.false_or]
theorem GR {xs:List Int} {n:Nat} (h: ∀x∈xs,x.toNat<n):mask xs<2^n:=by
 refine Nat.lt_pow_two_of_testBit _ λk hk=>?_
 rw [l4]
 refine Bool.eq_false_iff.2 λht=>?_
 obtain ⟨x,hx,he⟩:=List.any_eq_true.1 ht
 have:=h x hx
 have:=of_decide_eq_true he
 omega
theorem og {xs:List Int} (h: ∀x∈xs,0<=x/\x<xs.length):mask xs=2^xs.length-1↔ ∀k:Nat,k<xs.length->(k:Int)∈xs:=by
 constructor
 ·intro e k hk
  have h1:=l4 xs k
  rw [e,Nat.testBit_two_pow_sub_one,decide_eq_true hk] at h1
  obtain ⟨x,hx,he⟩:=List.any_eq_true.1 h1.symm
  have:=(h x hx).1
  have:=of_decide_eq_true he
  have e:x=(k:Int):=by omega
  exact e▸hx
 ·intro ha
  refine Nat.eq_of_testBit_eq λk=>?_
  rw [l4,Nat.testBit_two_pow_sub_one]
  by_cases hk:k<xs.length
  ·rw [decide_eq_true hk]
   exact List.any_eq_true.2 ⟨k,ha k hk,by simp⟩
  ·rw [decide_eq_false hk]
   refine Bool.eq_false_iff.2 λht=>?_
   obtain ⟨x,hx,he⟩:=List.any_eq_true.1 ht
   have:=h x hx
   have:=of_decide_eq_true he
   omega
theorem GU {m:Nat} {x:Int} (hm:m<2^20) (h0:0<=x) (h1:x<20):
  IntKind.i64.wrap (((BitVec.ofInt IntKind.i64.bits (m:Int)|||BitVec.ofInt IntKind.i64.bits (IntKind.i64.wrap ((1:Int)*(2:Int)^min x.toNat IntKind.i64.bits))).toNat:Nat):Int)=((m|||2^x.toNat:Nat):Int):=by
 have hx:(2:Nat)^x.toNat<2^20:=Nat.pow_lt_pow_right (by omega) (by omega)
 have e1:min x.toNat IntKind.i64.bits=x.toNat:=by show min x.toNat 64=_;omega
 have e2:(1:Int)*(2:Int)^x.toNat=((2^x.toNat:Nat):Int):=by rw [Int.one_mul];exact (Int.natCast_pow 2 _).symm
 rw [e1,e2,Ce (n:=((2^x.toNat:Nat):Int)) (by have:(0:Int)<=((2^x.toNat:Nat):Int):=Int.natCast_nonneg _;omega) (by omega)]
 show IntKind.i64.wrap (((BitVec.ofInt 64 (m:Int)|||BitVec.ofInt 64 ((2^x.toNat:Nat):Int)).toNat:Nat):Int)=_
 rw [BitVec.ofInt_natCast,BitVec.ofInt_natCast,BitVec.toNat_or,BitVec.toNat_ofNat,BitVec.toNat_ofNat,Nat.mod_eq_of_lt (by omega),Nat.mod_eq_of_lt (by omega)]
 have:=Nat.or_lt_two_pow hm hx
 exact Ce (by omega) (by omega)
theorem qb (p:List Int) (h:short p):fnW Cy (look [(93,Bi),(153,Jr)]) Ee Try.f169 (p,()) (λ(z:Bool)=>z=Ez p):=by
 have hs:=h
 unfold short at h
 refine Eq.mp (r9 p _) ⟨_,if_pos trivial,⟨λhp=>?_,λhp=>?_⟩⟩
 ·have hp:=Dv hp
  rw [Cf] at hp
  dsimp only at hp
  exact Bb λhh=>hp ⟨by omega,by omega⟩
 ·have hp:=Fy hp
  rw [Cf] at hp
  dsimp only at hp
  refine Ba p.length (λv=>v.1) (λj _=>DL p.length p j) rfl (λj _ hj=>absurd hj (Nat.not_lt_zero _)) ?_
  rintro j ⟨i,⟨⟩⟩ K hj hi hR hK
  dsimp only at hi⊢
  subst hi
  refine Br.dec (λhl=>?_) λhl=>?_
  ·have hl:j<p.length:=by omega
   refine ⟨_,Bf hl,_,if_pos trivial,⟨λhq=>?_,λhq=>?_⟩⟩
   ·have hq:=Dv hq
    rw [Cf,Ce (by omega) (by omega)] at hq
    exact Bb λhh=>hq ⟨(hh.2.2 j hl hl).1,(hh.2.2 j hl hl).2.1⟩
   ·have hq:=Fy hq
    rw [Cf,Ce (by omega) (by omega)] at hq
    refine ⟨⟨by omega,by omega,by omega⟩,_,Bf hl,?_⟩
    rw [show (Int.toNat 0)=0 from rfl,List.drop_zero,Int.toNat_natCast]
    refine ⟨_,if_pos (wC hs j),⟨λhc=>?_,λhc=>?_⟩⟩
    ·have hc:decide (p[j]∈p.take j)=true:=hc
     rw [decide_eq_true_iff] at hc
     exact Bb λhh=>(hh.2.2 j hl hl).2.2 hc
    ·have hc:decide (p[j]∈p.take j)=false:=hc
     rw [decide_eq_false_iff_not] at hc
     rw [Au (by omega)]
     exact hK hl _ rfl (FK hl hR hq.1 hq.2 hc)
  ·have:j=p.length:=by omega
   subst this
   exact Hj ⟨by omega,by omega,hR⟩
theorem Pr:Sound Try.prog 169 Ee:=
 Sound.Dl Bz (Ae Vn (Ae fM Ax)) mixed Try.func169 (by kernel_rfl) (by kernel_rfl) λx h=>qb x.1 h
theorem q8 (p:List Int) (h:short p):fnW Cy (look [(97,Bi),(82,Lk)]) Ee Try.f168 (p,()) (λ(z:Bool)=>z=Ez p):=by
 unfold short at h
 refine Eq.mp (r6 p _) ⟨_,if_pos trivial,_,if_pos trivial,⟨λhp=>?_,λhp=>?_⟩⟩
 ·have hp:=Dv hp
  rw [Cf] at hp
  dsimp only at hp
  exact Bb λhh=>hp ⟨by omega,by omega⟩
 ·have hp:=Fy hp
  rw [Cf] at hp
  dsimp only at hp
  refine Ba p.length (λv=>v.2.1) (λj v=>v.1=(mask (p.take j):Int)/\ ∀x∈p.take j,0<=x/\x<p.length) rfl ⟨rfl,by simp⟩ ?_
  rintro j ⟨m,i,⟨⟩⟩ K hj hi ⟨hm,hR⟩ hK
  dsimp only at hi hm⊢
  subst hi hm
  refine Br.dec (λhl=>?_) λhl=>?_
  ·have hl:j<p.length:=by omega
   refine ⟨_,Bf hl,_,if_pos trivial,_,if_pos trivial,⟨λhq=>?_,λhq=>?_⟩⟩
   ·have hq:=Dv hq
    rw [Cf] at hq
    dsimp only at hq
    rw [Ce (by omega) (by omega)] at hq
    exact Bb λhh=>hq ⟨(hh.2.2 j hl hl).1,(hh.2.2 j hl hl).2.1⟩
   ·have hq:=Fy hq
    rw [Cf] at hq
    dsimp only at hq
    rw [Ce (by omega) (by omega)] at hq
    refine ⟨by omega,?_⟩
    rw [Au (by omega)]
    have hb:mask (p.take j)<2^20:=GR λx hx=>by have:=hR x hx;omega
    refine hK hl _ rfl ⟨?_,?_⟩
    ·dsimp only
     rw [GU hb hq.1 (by omega),List.take_succ_eq_append_getElem hl,yM]
    ·rw [List.take_succ_eq_append_getElem hl]
     intro x hx
     rcases List.mem_append.1 hx with hx|hx
     ·exact hR x hx
     ·rw [List.mem_singleton.1 hx];omega
  ·have:j=p.length:=by omega
   subst this
   rw [List.take_length] at hR⊢
   refine ⟨by omega,?_⟩
   have hx:(2:Nat)^p.length<=2^20:=Nat.pow_le_pow_right (by omega) (by omega)
   have vz:0<(2:Nat)^p.length:=Nat.two_pow_pos _
   have e1:min (p.length:Int).toNat IntKind.i64.bits=p.length:=by show min (p.length:Int).toNat 64=_;omega
   have e2:(1:Int)*(2:Int)^p.length=((2^p.length:Nat):Int):=by rw [Int.one_mul];exact (Int.natCast_pow 2 _).symm
   rw [e1,e2,Ce (n:=((2^p.length:Nat):Int)) (by omega) (by omega),Ce (by omega) (by omega)]
   have hE:((mask p:Int)==((2^p.length:Nat):Int)-1)=decide (mask p=2^p.length-1):=by
    rw [Bool.eq_iff_iff,beq_iff_eq,decide_eq_true_iff]
    omega
   show ((mask p:Int)==((2^p.length:Nat):Int)-1)=Ez p
   rw [hE]
   by_cases hf:mask p=2^p.length-1
   ·rw [decide_eq_true hf]
    have hn:=(Vd hR).1 ((og hR).1 hf)
    refine Hj ⟨by omega,by omega,λj hj _=>?_⟩
    have:=hR _ (List.getElem_mem hj)
    exact ⟨this.1,by omega,hn j hj⟩
   ·rw [decide_eq_false hf]
    refine Bb λhh=>hf ((og hR).2 ((Vd hR).2 λj hj=>(hh.2.2 j hj hj).2.2))
theorem Xa:Sound Try.prog 168 Ee:=
 Sound.Dl Bz (Ae Ob (Ae Yy Ax)) mixed Try.func168 (by kernel_rfl) (by kernel_rfl) λx h=>q8 x.1 h
theorem qa (n:Int) (g:List (List Int)) (h:Jg g):fnW Cy (look [(93,Bi),(169,Ee)]) Jl Try.f147 (n,g,()) (λ(z:Bool)=>z=Qr n g):=by
 obtain ⟨h,h4⟩:=h
 refine Eq.mp (r8 n g _) ⟨_,if_pos trivial,⟨λhp=>?_,λhp=>?_⟩⟩
 ·have hp:=Dv hp
  rw [Cf] at hp
  exact Bb λhh=>hp hh.1
 ·have hp:=Fy hp
  rw [Cf] at hp
  refine Br.dec (λhg=>?_) λhg=>?_
  ·exact Bb λhh=>by have:=hh.2.1;omega
  ·refine Ba g.length (λv=>v.1) (λj _=> ∀p∈g.take j,Dz n p=true) rfl (by simp) ?_
   rintro j ⟨i,⟨⟩⟩ K hj hi hR hK
   dsimp only at hi⊢
   subst hi
   refine Br.dec (λhl=>?_) λhl=>?_
   ·have hl:j<g.length:=by omega
    have hm:g[j]∈g:=List.getElem_mem hl
    refine ⟨_,Bf hl,⟨λhe=>?_,λhe=>?_⟩⟩
    ·simp only [bne_iff_ne,ne_eq] at he
     exact Bb λhh=>he (Dg.1 (hh.2.2 _ hm)).1
    ·simp only [bne_eq_false_iff_eq] at he
     refine ⟨_,Bf hl,_,if_pos (h4 _ hm),⟨λhq=>?_,λhq=>?_⟩⟩
     ·have hq:=Dv hq
      exact Bb λhh=>hq (Dg.1 (hh.2.2 _ hm)).2
     ·have hq:=Fy hq
      rw [Au (by omega)]
      refine hK hl _ rfl ?_
      rw [List.take_succ_eq_append_getElem hl]
      intro x hx
      rcases List.mem_append.1 hx with hx|hx
      ·exact hR x hx
      ·rw [List.mem_singleton.1 hx];exact Dg.2 ⟨he,hq⟩
   ·have:j=g.length:=by omega
    subst this
    rw [List.take_length] at hR
    exact Hj ⟨hp,by omega,hR⟩
theorem ig:Sound Try.prog 147 Jl:=
 Sound.Dl Bz (Ae Vn (Ae Pr Ax)) mixed Try.func147 (by kernel_rfl) (by kernel_rfl) λx h=>qa x.1 x.2.1 h
theorem GW (p:List Int) (n:Int) (h:short p):fnW Cy (look [(82,Lk),(168,Ee)]) cq Try.f177 (p,n,()) (λ(z:Bool)=>z=!Dz n p):=by
 refine Eq.mp (HT p n _) ⟨_,if_pos trivial,⟨λhe=>?_,λhe=>⟨_,if_pos h,?_⟩⟩⟩
 ·simp only [bne_iff_ne,ne_eq] at he
  have:Dz n p=false:=FJ.2 λhh=>he hh.1
  rw [this];rfl
 ·simp only [bne_eq_false_iff_eq] at he
  show (!Ez p)=_
  congr 1
  cases hp:Ez p with
  |true=>exact Hj ⟨he,hp⟩
  |false=>exact Bb λhh=>by rw [hh.2] at hp;cases hp
theorem tR:Sound Try.prog 177 cq:=
 Sound.Dl Bz (Ae Yy (Ae Xa Ax)) mixed Try.func177 (by kernel_rfl) (by kernel_rfl) λx h=>GW x.1 x.2.1 h
theorem iQ {α:Type} (P:α->Bool): ∀(l:List α) (i:Int),0<=i->(0<=Gd P l i↔l.any P=true)
 | [],i,_=>by simp [Gd]
 |y::r,i,h=>by
  simp only [Gd,List.any_cons,Bool.or_eq_true]
  split
  ·rename_i hy;simp [hy,h]
  ·rename_i hy;rw [iQ P r (i+1) (by omega)];simp [hy]
theorem SX (g:List (List Int)) (n:Int×Unit) (h:Jg g):fnW Cy (look [(177,cq)]) oJ Try.f184 (g,n,()) (λ(z:Int)=>z=Gd (λp=>!Dz n.1 p) g 0):=by
 obtain ⟨h,h4⟩:=h
 refine Eq.mp (TP g n _) ?_
 refine Ba g.length (λv=>v.1) (λj _=>Gd (λp=>!Dz n.1 p) (g.drop j) j=Gd (λp=>!Dz n.1 p) g 0) rfl (by simp) ?_
 rintro j ⟨i,⟨⟩⟩ K hj hi hR hK
 dsimp only at hi⊢
 subst hi
 refine Br.dec (λhl=>?_) λhl=>?_
 ·have hl:j<g.length:=by omega
  rw [List.drop_eq_getElem_cons hl] at hR
  simp only [Gd] at hR
  refine ⟨_,Bf hl,_,if_pos (h4 _ (List.getElem_mem hl)),⟨λhe=>?_,λhe=>?_⟩⟩
  ·have he:(!Dz n.1 g[j])=true:=he
   rw [if_pos he] at hR
   exact hR
  ·have he:(!Dz n.1 g[j])=false:=he
   rw [if_neg (by rw [he];decide)] at hR
   rw [Au (by omega)]
   exact hK hl _ rfl (by push_cast;exact hR)
 ·have:j=g.length:=by omega
  subst this
  rw [List.drop_length] at hR
  exact hR
theorem zm:Sound Try.prog 184 oJ:=
 Sound.Dl Bz (Ae tR Ax) mixed Try.func184 (by kernel_rfl) (by kernel_rfl) λx h=>SX x.1 x.2.1 h
theorem SR (g:List (List Int)) (n:Int×Unit) (h:Jg g):fnW Cy (look [(184,oJ)]) oG Try.f176 (g,n,()) (λ(z:Bool)=>z=List.any g (λp=>!Dz n.1 p)):=by
 refine Eq.mp (TL g n _) ⟨_,if_pos h,?_⟩
 rw [Bool.eq_iff_iff,decide_eq_true_iff]
 exact iQ _ g 0 (Int.le_refl 0)
theorem zj:Sound Try.prog 176 oG:=
 Sound.Dl Bz (Ae zm Ax) mixed Try.func176 (by kernel_rfl) (by kernel_rfl) λx h=>SR x.1 x.2.1 h
theorem q7 (n:Int) (g:List (List Int)) (h:Jg g):fnW Cy (look [(97,Bi),(176,oG)]) Jl Try.f158 (n,g,()) (λ(z:Bool)=>z=Qr n g):=by
 refine Eq.mp (qZ n g _) ⟨_,if_pos trivial,⟨λhp=>?_,λhp=>?_⟩⟩
 ·have hp:Gm n 1 20=true:=hp
  rw [Cf] at hp
  refine Br.dec (λhl=>⟨_,if_pos h,?_⟩) λhl=>?_
  ·show (!List.any g (λp=>!Dz n p))=Qr n g
   cases ha:List.any g (λp=>!Dz n p) with
   |true=>
    obtain ⟨p,rk,yu⟩:=List.any_eq_true.1 ha
    exact Bb λhh=>by rw [hh.2.2 p rk] at yu;cases yu
   |false=>
    refine Hj ⟨hp,by omega,λp hm=>?_⟩
    have:=List.any_eq_false.1 ha p hm
    simpa using this
  ·exact Bb λhh=>by have:=hh.2.1;omega
 ·refine Bb λhh=>?_
  have:Gm n 1 20=true:=Cf.2 hh.1
  have hp:Gm n 1 20=false:=hp
  rw [this] at hp;cases hp
theorem ie:Sound Try.prog 158 Jl:=
 Sound.Dl Bz (Ae Ob (Ae zj Ax)) mixed Try.func158 (by kernel_rfl) (by kernel_rfl) λx h=>q7 x.1 x.2.1 h
theorem Gy {s:ByteArray} {k:Nat} (h:k<s.size):s[k]?=some s[k]:=getElem?_pos s k h
theorem CU (s:ByteArray) (i:Int) (h:0<=i/\i<s.size/\s.size<=4294967296):fnW Cy (look []) Ww Try.f148 (s,i,()) (λ(z:Bool)=>z=fv s i):=by
 obtain ⟨h1,h2,h3⟩:=h
 have hi:i.toNat<s.size:=by omega
 refine Eq.mp (EI s i _) ⟨h1,_,Gy hi,Br.dec (λhq=>?_) λhq=>⟨h1,_,Gy hi,Br.dec (λhr=>?_) λhr=>?_⟩⟩
 ·refine Bb λ⟨c,hc,FU,_⟩=>?_
  rw [Gy hi] at hc;cases hc;omega
 ·refine Bb λ⟨c,hc,_,FU,_⟩=>?_
  rw [Gy hi] at hc;cases hc;omega
 ·refine Ba i.toNat (λv=>v.1) (λj _=> ∀k,k<j->s[k]?≠some s[i.toNat]) rfl (λk hk=>absurd hk (Nat.not_lt_zero _)) ?_
  rintro j ⟨i',⟨⟩⟩ K hj ga hR hK
  dsimp only at ga⊢
  subst ga
  refine Br.dec (λhl=>?_) λhl=>?_
  ·have hl:j<i.toNat:=by omega
   have hj:j<s.size:=by omega
   rw [Int.toNat_natCast]
   refine ⟨by omega,_,Gy hj,h1,_,Gy hi,⟨λhe=>?_,λhe=>?_⟩⟩
   ·simp only [beq_iff_eq,Int.natCast_inj] at he
    refine Bb λ⟨c,hc,_,_,FU⟩=>?_
    rw [Gy hi] at hc;cases hc
    exact FU j hl (by rw [Gy hj,UInt8.toNat_inj.1 he])
   ·simp only [beq_eq_false_iff_ne,ne_eq,Int.natCast_inj] at he
    rw [Au (by omega)]
    refine hK hl _ rfl λk hk=>?_
    by_cases e:k=j
    ·subst e
     rw [Gy hj]
     exact λe=>he (by rw [Option.some.inj e])
    ·exact hR k (by omega)
  ·have:j=i.toNat:=by omega
   subst this
   exact Hj ⟨_,Gy hi,by omega,by omega,hR⟩
theorem qD:Sound Try.prog 148 Ww:=
 Sound.Dl Bz Ax mixed Try.func148 (by kernel_rfl) (by kernel_rfl) λx h=>CU x.1 x.2.1 h
theorem yY (s:ByteArray) (h:s.size<=4294967296):fnW Cy (look [(97,Bi)]) Sp Try.f159 (s,()) (λ(z:Bool)=>z=Wq s):=by
 refine Eq.mp (zF s _) ?_
 refine Ba s.size (λv=>v.1) (λj _=> ∀k,k<j->oV s k) rfl (λk hk=>absurd hk (Nat.not_lt_zero _)) ?_
 rintro j ⟨i,⟨⟩⟩ K hj hi hR hK
 dsimp only at hi⊢
 subst hi
 refine Br.dec (λhl=>?_) λhl=>?_
 ·have hl:j<s.size:=by omega
  rw [Int.toNat_natCast]
  have hb:=(s[j]).toNat_lt
  refine ⟨by omega,_,Gy hl,_,if_pos trivial,⟨λhq=>?_,λhq=>?_⟩⟩
  ·have hq:=Dv hq
   rw [Cf] at hq
   dsimp only at hq
   rw [Ce (by omega) (by omega)] at hq
   refine Bb λhh=>?_
   obtain ⟨c,hc,FU,OE,_⟩:=hh.2 j hl
   rw [Gy hl] at hc;cases hc
   exact hq ⟨by omega,by omega⟩
  ·have hq:=Fy hq
   rw [Cf] at hq
   dsimp only at hq
   rw [Ce (by omega) (by omega)] at hq
   refine Ba j (λv=>v.1) (λm _=> ∀k,k<m->s[k]?≠some s[j]) rfl (λk hk=>absurd hk (Nat.not_lt_zero _)) ?_
   rintro m ⟨i',⟨⟩⟩ K' hm ga hR' PR
   dsimp only at ga⊢
   subst ga
   refine Br.dec (λIc=>?_) λIc=>?_
   ·have Ic:m<j:=by omega
    have YH:m<s.size:=by omega
    rw [Int.toNat_natCast]
    refine ⟨by omega,_,Gy YH,by omega,_,Gy hl,⟨λhe=>?_,λhe=>?_⟩⟩
    ·simp only [beq_iff_eq,Int.natCast_inj] at he
     refine Bb λhh=>?_
     obtain ⟨c,hc,_,_,FU⟩:=hh.2 j hl
     rw [Gy hl] at hc;cases hc
     exact FU m Ic (by rw [Gy YH,UInt8.toNat_inj.1 he])
    ·simp only [beq_eq_false_iff_ne,ne_eq,Int.natCast_inj] at he
     rw [Au (by omega)]
     refine PR Ic _ rfl λk hk=>?_
     by_cases e:k=m
     ·subst e
      rw [Gy YH]
      exact λe=>he (by rw [Option.some.inj e])
     ·exact hR' k (by omega)
   ·have:m=j:=by omega
    subst this
    rw [Au (by omega)]
    refine hK hl _ rfl λk hk=>?_
    by_cases e:k=m
    ·subst e
     exact ⟨_,Gy hl,by omega,by omega,hR'⟩
    ·exact hR k (by omega)
 ·have:j=s.size:=by omega
  subst this
  refine ⟨_,if_pos trivial,?_⟩
  show Gm s.size 1 8=_
  cases hr:Gm s.size 1 8 with
  |true=>rw [Cf] at hr;exact Hj ⟨by omega,hR⟩
  |false=>refine Bb λhh=>?_;rw [Cf.2 ⟨by omega,by omega⟩] at hr;cases hr
theorem np:Sound Try.prog 159 Sp:=
 Sound.Dl Bz (Ae Ob Ax) mixed Try.func159 (by kernel_rfl) (by kernel_rfl) λx h=>yY x.1 h
theorem wR {p:PP} (h:Bc p=true):1<=p.1/\p.1<=20/\1<=p.2.2.1.length/\p.2.2.1.length<=8:=by
 obtain ⟨h1,h2,h3⟩:=Dg.1 h
 obtain ⟨h4,h5,_⟩:=Dg.1 h1
 obtain ⟨h6,_⟩:=Dg.1 h2
 omega
theorem qc (p:PP) (h:Cm p):fnW Cy (look [(147,Jl),(148,Ww)]) Ef Try.f110 (p,()) (λ(z:Bool)=>z=Bc p):=by
 obtain ⟨hn,hg⟩:=h
 refine Eq.mp (re p _) ⟨λh0=>?_,λh0=>⟨λh1=>?_,λh1=>⟨_,if_pos hg,⟨λh2=>?_,λh2=>?_⟩⟩⟩⟩
 ·simp only [beq_iff_eq] at h0
  exact Bb λhh=>by obtain ⟨_,h2,h3⟩:=hh;have:=(Dg.1 h2).1;omega
 ·simp only [bne_iff_ne,ne_eq,Int.natCast_inj] at h1
  exact Bb λhh=>h1 hh.2.2
 ·have h2:=Dv h2
  exact Bb λhh=>h2 hh.1
 ·simp only [beq_eq_false_iff_ne,ne_eq] at h0
  simp only [bne_eq_false_iff_eq,Int.natCast_inj] at h1
  have h2:Qr p.1 p.2.2.1=true:=Fy h2
  refine Ba p.2.1.size (λv=>v.1) (λj v=>v.2=(p.1,p.2.1,p.2.2.1,())/\ ∀k,k<j->oV p.2.1 k) rfl ⟨rfl,λk hk=>absurd hk (Nat.not_lt_zero _)⟩ ?_
  rintro j ⟨i,v⟩ K hj hi ⟨hv,hR⟩ hK
  dsimp only at hi hv⊢
  subst hi hv
  dsimp only
  refine Br.dec (λhl=>?_) λhl=>?_
  ·have hl:j<p.2.1.size:=by omega
   refine ⟨_,if_pos ⟨Int.natCast_nonneg j,Int.ofNat_lt.2 hl,hn⟩,⟨λhq=>?_,λhq=>?_⟩⟩
   ·have hq: ¬fv p.2.1 j=true:=Dv hq
    refine Bb λhh=>hq (Dg.2 ?_)
    rw [Int.toNat_natCast]
    exact (Dg.1 hh.2.1).2 j hl
   ·have hq:fv p.2.1 j=true:=Fy hq
    have hq:=Dg.1 hq
    rw [Int.toNat_natCast] at hq
    rw [Au (by omega)]
    refine hK hl _ rfl ⟨rfl,λk hk=>?_⟩
    by_cases e:k=j
    ·subst e;exact hq
    ·exact hR k (by omega)
  ·have:j=p.2.1.size:=by omega
   subst this
   have:=(Dg.1 h2).2.1
   exact Hj ⟨h2,Dg.2 ⟨⟨by omega,by omega⟩,hR⟩,h1⟩
theorem Ps:Sound Try.prog 110 Ef:=
 Sound.Dl Bz (Ae ig (Ae qD Ax)) mixed Try.func110 (by kernel_rfl) (by kernel_rfl) λx h=>qc x.1 h
theorem q9 (p:PP) (h:Cm p):fnW Cy (look [(158,Jl),(159,Sp)]) Ef Try.f130 (p,()) (λ(z:Bool)=>z=Bc p):=by
 obtain ⟨hn,hg⟩:=h
 refine Eq.mp (r7 p _) ⟨_,if_pos hg,⟨λh1=>⟨_,if_pos hn,⟨λh2=>?_,λh2=>?_⟩⟩,λh1=>?_⟩⟩
 ·have h1:Qr p.1 p.2.2.1=true:=h1
  have h2:Wq p.2.1=true:=h2
  by_cases e:p.2.1.size=p.2.2.1.length
  ·rw [e,beq_self_eq_true];exact Hj ⟨h1,h2,e⟩
  ·rw [show ((p.2.1.size:Int)==(p.2.2.1.length:Int))=false from beq_eq_false_iff_ne.2 (by omega)];exact Bb λhh=>e hh.2.2
 ·have h2:Wq p.2.1=false:=h2
  exact Bb λhh=>by rw [hh.2.1] at h2;cases h2
 ·have h1:Qr p.1 p.2.2.1=false:=h1
  exact Bb λhh=>by rw [hh.1] at h1;cases h1
theorem Xb:Sound Try.prog 130 Ef:=
 Sound.Dl Bz (Ae ie (Ae np Ax)) mixed Try.func130 (by kernel_rfl) (by kernel_rfl) λx h=>q9 x.1 h
theorem jF {a b:Bool} :(a&&b)=dec (a=true/\b=true):=by
 cases ha:a<;>cases hb:b
 ·exact Bb (by simp)
 ·exact Bb (by simp)
 ·exact Bb (by simp)
 ·exact Hj ⟨rfl,rfl⟩
theorem gS (p:PP) (xs:List Int) (h:Cm p/\short xs):fnW Cy (look [(110,Ef),(111,Ex)]) Ei Try.f101 (p,xs,()) (λ(z:Bool)=>z=Bo p xs):=by
 refine Eq.mp (iu p xs _) ⟨_,if_pos h.1,⟨λh1=>⟨_,if_pos ⟨⟨by omega,by have:=h.1.2.1;dsimp only;omega⟩,h.2⟩,?_⟩,λh1=>?_⟩⟩
 ·have h1:Bc p=true:=h1
  show Mt p.2.2.1.length xs=_
  rw [Bo,<-jF,h1,Bool.true_and]
 ·have h1:Bc p=false:=h1
  rw [Bo,<-jF,h1,Bool.false_and]
theorem bI:Sound Try.prog 101 Ei:=
 Sound.Dl Bz (Ae Ps (Ae fN Ax)) mixed Try.func101 (by kernel_rfl) (by kernel_rfl) λx h=>gS x.1 x.2.1 h
theorem gR (p:PP) (xs:List Int) (h:Cm p/\short xs):fnW Cy (look [(130,Ef),(66,Ex),(58,Sf)]) Ei Try.f106 (p,xs,()) (λ(z:Bool)=>z=Bo p xs):=by
 refine Eq.mp (ir p xs _) ⟨_,if_pos h.1,⟨λh1=>⟨_,if_pos trivial,_,if_pos ⟨⟨by dsimp only;omega,by have:=h.1.2.1;dsimp only;omega⟩,h.2⟩,?_⟩,λh1=>?_⟩⟩
 ·have h1:Bc p=true:=h1
  show Mt p.2.2.1.length xs=_
  rw [Bo,<-jF,h1,Bool.true_and]
 ·have h1:Bc p=false:=h1
  rw [Bo,<-jF,h1,Bool.false_and]
theorem bH:Sound Try.prog 106 Ei:=
 Sound.Dl Bz (Ae Xb (Ae jx (Ae j4 Ax))) mixed Try.func106 (by kernel_rfl) (by kernel_rfl) λx h=>gR x.1 x.2.1 h
theorem SZ (p:PP) (room:Int) (h:Cm p/\roomy room):fnW Cy (look [(34,hZ)]) oL Try.f14 (p,room,()) (λ(z:Int)=>z=bf p room):=by
 obtain ⟨⟨h1,h2⟩,h3,h4⟩:=h
 refine Eq.mp (TR p room _) ?_
 rw [Ce (by omega) (by omega)]
 refine Br.dec (λhn=>?_) λhn=>⟨_,if_pos ⟨h2,by dsimp only;omega,by dsimp only;omega⟩,Br.dec (λhm=>?_) λhm=>?_⟩
 ·simp only [bf,if_pos hn]
 ·exact ((if_neg hn).trans (if_pos hm)).symm
 ·exact ((if_neg hn).trans (if_neg hm)).symm
theorem zp:Sound Try.prog 14 oL:=
 Sound.Dl Bz (Ae wK Ax) mixed Try.func14 (by kernel_rfl) (by kernel_rfl) λx h=>SZ x.1 x.2.1 h
theorem TB (p:PP) (h:Cm p):fnW Cy (look [(36,ia)]) j0 Try.f16 (p,()) (λ(z:PP)=>z=p):=Eq.mp (TT p _) ⟨_,if_pos h.2,rfl⟩
theorem zq:Sound Try.prog 16 j0:=
 Sound.Dl Bz (Ae wL Ax) mixed Try.func16 (by kernel_rfl) (by kernel_rfl) λx h=>TB x.1 h
theorem rR {a b:ByteArray} :(a.toList==b.toList)=decide (a=b):=by
 rw [Bool.eq_iff_iff,beq_iff_eq,decide_eq_true_iff,ByteArray.toList_eq,ByteArray.toList_eq]
 exact ⟨λh=>ByteArray.ext (Array.toList_inj.1 h),λh=>by rw [h]⟩
theorem SV (a b:PP) (h:Cm a):fnW Cy (look [(38,gZ)]) oH Try.f19 (a,b,()) (λ(z:Bool)=>z=iP a b):=by
 refine Eq.mp (TN a b _) ⟨λh1=>?_,λh1=>⟨λh2=>?_,λh2=>⟨_,if_pos h.2,⟨λh3=>?_,λh3=>?_⟩⟩⟩⟩
 ·simp only [bne_iff_ne,ne_eq] at h1
  unfold iP
  rw [decide_eq_false h1];rfl
 ·rw [rR] at h2
  unfold iP
  cases hd:decide (a.2.1=b.2.1)<;>simp_all
 ·have h3:(!gH a.2.2.1 b.2.2.1)=true:=h3
  simp only [gH,Bool.not_eq_true'] at h3
  unfold iP
  rw [h3];simp
 ·have h3:(!gH a.2.2.1 b.2.2.1)=false:=h3
  rw [rR] at h2
  simp only [gH] at h3
  simp only [bne_eq_false_iff_eq] at h1
  unfold iP
  simp_all
theorem zk:Sound Try.prog 19 oH:=
 Sound.Dl Bz (Ae wH Ax) mixed Try.func19 (by kernel_rfl) (by kernel_rfl) λx h=>SV x.1 x.2.1 h
theorem vO (p:PP):iP p p=true:=by simp [iP]
end Go.Proofs.Ytjbdmibbbpdnnaa

namespace Go.Proofs.Ytjbdmibbbpdnnaa
open Go.RowKit
noncomputable abbrev Wx:Spec:=Dl (.pair tI (.pair tL .unit)) .bool false true (λx=>short x.2.1) (λx=>Dz x.1 x.2.1)
noncomputable abbrev Pl:Spec:=Dl (.pair Ck (.pair tL .unit)) .bool false true (λx=>short x.2.1) (λx=>Dz x.1.1 x.2.1)
noncomputable abbrev Sr:Spec:=Dl (.pair Ck (.pair tL .unit)) .bool false true (λx=>Cm x.1/\short x.2.1) (λx=>Bc x.1&&Dz x.1.1 x.2.1)
theorem EJ (n:Int) (s:List Int) (P:Bool->Prop):(Br ((↑s.length:Int)==n) (∃(y3:Bool),Ee.fn (s,())=some y3/\P y3) (P false))=fnW Cy (look [(169,Ee)]) Wx Try.f143 (n,s,()) P:=by kernel_rfl
theorem mf (p:Int×ByteArray×List (List Int)×Unit) (s:List Int) (P:Bool->Prop):(∃(y3:Int),Lk.fn (s,())=some y3/\Br (y3==p.1) (∃(y4:Bool),Ee.fn (s,())=some y4/\P y4) (P false))=fnW Cy (look [(82,Lk),(168,Ee)]) Pl Try.f141 (p,s,()) P:=by kernel_rfl
theorem nG (p:Int×ByteArray×List (List Int)×Unit) (s:List Int) (P:Bool->Prop):(∃(y3:Bool),Ef.fn ((p.1,p.2.1,p.2.2.1,()),())=some y3/\Br y3 (∃(y4:Bool),Wx.fn (p.1,s,())=some y4/\P y4) (P false))=fnW Cy (look [(110,Ef),(143,Wx)]) Sr Try.f103 (p,s,()) P:=by kernel_rfl
theorem CV (n:Int) (s:List Int) (h:short s):fnW Cy (look [(169,Ee)]) Wx Try.f143 (n,s,()) (λ(z:Bool)=>z=Dz n s):=by
 refine Eq.mp (EJ n s _) ⟨λhe=>⟨_,if_pos h,?_⟩,λhe=>?_⟩
 ·simp only [beq_iff_eq] at he
  show Ez s=_
  cases hp:Ez s with
  |true=>exact Hj ⟨he,hp⟩
  |false=>exact Bb λhh=>by rw [hh.2] at hp;cases hp
 ·simp only [beq_eq_false_iff_ne,ne_eq] at he
  exact Bb λhh=>he hh.1
theorem qE:Sound Try.prog 143 Wx:=
 Sound.Dl Bz (Ae Pr Ax) mixed Try.func143 (by kernel_rfl) (by kernel_rfl) λx h=>CV x.1 x.2.1 h
theorem ll (p:PP) (s:List Int) (h:short s):fnW Cy (look [(82,Lk),(168,Ee)]) Pl Try.f141 (p,s,()) (λ(z:Bool)=>z=Dz p.1 s):=by
 refine Eq.mp (mf p s _) ⟨_,if_pos trivial,⟨λhe=>⟨_,if_pos h,?_⟩,λhe=>?_⟩⟩
 ·simp only [beq_iff_eq] at he
  show Ez s=_
  cases hp:Ez s with
  |true=>exact Hj ⟨he,hp⟩
  |false=>exact Bb λhh=>by rw [hh.2] at hp;cases hp
 ·simp only [beq_eq_false_iff_ne,ne_eq] at he
  exact Bb λhh=>he hh.1
theorem eh:Sound Try.prog 141 Pl:=
 Sound.Dl Bz (Ae Yy (Ae Xa Ax)) mixed Try.func141 (by kernel_rfl) (by kernel_rfl) λx h=>ll x.1 x.2.1 h
theorem mZ (p:PP) (s:List Int) (h:Cm p/\short s):fnW Cy (look [(110,Ef),(143,Wx)]) Sr Try.f103 (p,s,()) (λ(z:Bool)=>z=(Bc p&&Dz p.1 s)):=by
 refine Eq.mp (nG p s _) ⟨_,if_pos h.1,⟨λhe=>⟨_,if_pos h.2,?_⟩,λhe=>?_⟩⟩
 ·have he:Bc p=true:=he
  rw [he];rfl
 ·have he:Bc p=false:=he
  rw [he];rfl
theorem fP:Sound Try.prog 103 Sr:=
 Sound.Dl Bz (Ae Ps (Ae qE Ax)) mixed Try.func103 (by kernel_rfl) (by kernel_rfl) λx h=>mZ x.1 x.2.1 h
end Go.Proofs.Ytjbdmibbbpdnnaa

namespace Go.Proofs.Ytjbdmibbbpdnnaa
open Go.RowKit
def Mi (xs:List Int) (i:Int):Int:=xs.getD i.toNat 0
def Ac (p q:List Int):List Int:=p.map (Mi q)
def Uj (f:Nat->Nat) (g:Nat->Int) (m:Nat) (init:List Int):List Int:=(List.range m).foldl (λ(out:List Int) (i:Nat)=>out.set (f i) (g i)) init
def Aj (p:List Int):List Int:=Uj (λi=>(Mi p (i:Int)).toNat) (λi=>(i:Int)) p.length (List.replicate p.length 0)
def Oj (n:Nat) (p:List Int):Prop:= ∀y∈p,0<=y/\y<n
noncomputable abbrev Sn:Spec:=Dl (.pair tL (.pair tL .unit)) tL false true (λx=>List.length x.1<=20/\Oj (List.length x.2.1) x.1) (λx=>Ac x.1 x.2.1)
noncomputable abbrev Ec:Spec:=Dl (.pair tL .unit) tL false true (λx=>List.length x.1<=20/\Oj (List.length x.1) x.1) (λx=>Aj x.1)
noncomputable abbrev Bv:Spec:=Dl (.pair tI .unit) tL false true (λx=>0<=x.1/\x.1<=20) (λx=>upto x.1.toNat)
noncomputable abbrev Ju:Spec:=Dl (.pair tL .unit) tL false true (λx=>Ez x.1=true) (λx=>Aj x.1)
def Ag (g:List (List Int)) (l:Int):List Int:=if l>0 then g.getD (l-1).toNat [] else Aj (g.getD (-l-1).toNat [])
def Gv (n:Int) (l:Int):Prop:=l≠0/\ -n<=l/\l<=n
noncomputable abbrev Pn:Spec:=Dl (.pair jC (.pair tI .unit)) tL false false (λx=>Gv (List.length x.1) x.2.1/\List.length x.1<=8/\ ∀p∈x.1,Ez p=true) (λx=>Ag x.1 x.2.1)
def Bd (n:Nat):List Int:=(List.range n).flatMap λ(k:Nat)=> [(k:Int)+1,-((k:Int)+1)]
noncomputable abbrev Kw:Spec:=Dl (.pair tI .unit) tL false true (λx=>0<=x.1/\x.1<=8) (λx=>Bd x.1.toNat)
noncomputable abbrev Wv:Spec:=Dl (.pair Ck (.pair tL (.pair tI .unit))) tL false true (λx=>Bc x.1=true/\List.length x.2.1<=20/\(∀y∈x.2.1,0<=y/\y<x.1.1)/\Gv (List.length x.1.2.2.1) x.2.2.1) (λx=>Ac x.2.1 (Ag x.1.2.2.1 x.2.2.1))
theorem nC (p q:List Int) (P:List Int->Prop):(((0:Int)<=(↑p.length:Int)/\(↑p.length:Int)<(↑Bs:Int)+(1:Int))/\(↑p.length:Int)=(↑p.length:Int)/\0=0/\(List.replicate (↑p.length:Int).toNat (Int.ofNat (nat_lit 0))).length=(List.replicate (↑p.length:Int).toNat (Int.ofNat (nat_lit 0))).length/\Co (λ(v3:Int×List Int×PUnit) (k4:Int×List Int×PUnit->Prop)=>Br (decide (v3.1<(↑p.length:Int))) (∃(y5:Int),idx p v3.1=some y5/\ ∃(y6:Int),idx q y5=some y6/\((0:Int)<=v3.1/\v3.1<(↑v3.2.1.length:Int))/\0+v3.1.toNat<v3.2.1.length/\0=0/\v3.2.1.length=(v3.2.1.set (0+v3.1.toNat) y6).length/\k4 (IntKind.i64.wrap (v3.1+(1:Int)),v3.2.1.set (0+v3.1.toNat) y6,())) (P (List.take v3.2.1.length (List.drop 0 v3.2.1)))) ((0:Int),List.replicate (↑p.length:Int).toNat (Int.ofNat (nat_lit 0)),PUnit.unit))=fnW Cy (look []) Sn Try.f156 (p,q,()) P:=by kernel_rfl
theorem nD (p:List Int) (P:List Int->Prop):(((0:Int)<=(↑p.length:Int)/\(↑p.length:Int)<(↑Bs:Int)+(1:Int))/\(↑p.length:Int)=(↑p.length:Int)/\0=0/\(List.replicate (↑p.length:Int).toNat (Int.ofNat (nat_lit 0))).length=(List.replicate (↑p.length:Int).toNat (Int.ofNat (nat_lit 0))).length/\Co (λ(v2:Int×List Int×PUnit) (k3:Int×List Int×PUnit->Prop)=>Br (decide (v2.1<(↑p.length:Int))) (∃(y4:Int),idx p v2.1=some y4/\((0:Int)<=y4/\y4<(↑v2.2.1.length:Int))/\0+y4.toNat<v2.2.1.length/\0=0/\v2.2.1.length=(v2.2.1.set (0+y4.toNat) v2.1).length/\k3 (IntKind.i64.wrap (v2.1+(1:Int)),v2.2.1.set (0+y4.toNat) v2.1,())) (P (List.take v2.2.1.length (List.drop 0 v2.2.1)))) ((0:Int),List.replicate (↑p.length:Int).toNat (Int.ofNat (nat_lit 0)),PUnit.unit))=fnW Cy (look []) Ec Try.f175 (p,()) P:=by kernel_rfl
theorem zJ (p:List Int) (P:List Int->Prop):(((0:Int)<=(↑p.length:Int)/\(↑p.length:Int)<(↑Bs:Int)+(1:Int))/\(↑p.length:Int)=(↑p.length:Int)/\0=0/\(List.replicate (↑p.length:Int).toNat (Int.ofNat (nat_lit 0))).length=(List.replicate (↑p.length:Int).toNat (Int.ofNat (nat_lit 0))).length/\Co (λ(v2:Int×List Int×PUnit) (k3:Int×List Int×PUnit->Prop)=>Br (decide (v2.1<(↑p.length:Int))) (∃(y4:Int),idx p v2.1=some y4/\((0:Int)<=y4/\y4<(↑v2.2.1.length:Int))/\0+y4.toNat<v2.2.1.length/\0=0/\v2.2.1.length=(v2.2.1.set (0+y4.toNat) v2.1).length/\k3 (IntKind.i64.wrap (v2.1+(1:Int)),v2.2.1.set (0+y4.toNat) v2.1,())) (P (List.take v2.2.1.length (List.drop 0 v2.2.1)))) ((0:Int),List.replicate (↑p.length:Int).toNat (Int.ofNat (nat_lit 0)),PUnit.unit))=fnW Cy (look []) Ec Try.f170 (p,()) P:=by kernel_rfl
theorem nF (p:List Int) (P:List Int->Prop):(∃(y2:Bool),Ee.fn (p,())=some y2/\Br (!y2) (P (List.take 0 (List.drop 0 []))) (∃(y3:List Int),Ec.fn (p,())=some y3/\P y3))=fnW Cy (look [(169,Ee),(170,Ec)]) Ju Try.f150 (p,()) P:=by kernel_rfl
theorem wU (n:Int) (P:List Int->Prop):(0=0/\0=([]:List Int).length/\Co (λ(v2:Int×List Int×PUnit) (k3:Int×List Int×PUnit->Prop)=>Br (decide (v2.1<n)) (0=0/\v2.2.1.length=v2.2.1.length/\v2.2.1.length+(List.take 1 (List.drop 0 [v2.1])).length<=Bs/\0=0/\(v2.2.1++List.take 1 (List.drop 0 [v2.1])).length=(v2.2.1++List.take 1 (List.drop 0 [v2.1])).length/\k3 (IntKind.i64.wrap (v2.1+(1:Int)),v2.2.1++List.take 1 (List.drop 0 [v2.1]),())) (P (List.take v2.2.1.length (List.drop 0 v2.2.1)))) ((0:Int),[],PUnit.unit))=fnW Cy (look []) Bv Try.f124 (n,()) P:=by kernel_rfl
theorem wW (g:List (List Int)) (l:Int) (P:List Int->Prop):(Br (decide (l>(0:Int))) (∃(y3:List Int),idx g (IntKind.i64.wrap (l-(1:Int)))=some y3/\P y3) (∃(y3:List Int),idx g (IntKind.i64.wrap (IntKind.i64.wrap ((0:Int)-l)-(1:Int)))=some y3/\ ∃(y4:List Int),Ec.fn (y3,())=some y4/\P y4))=fnW Cy (look [(175,Ec)]) Pn Try.f157 (g,l,()) P:=by kernel_rfl
theorem zH (n:Int) (P:List Int->Prop):(0=0/\0=([]:List Int).length/\Co (λ(v2:Int×List Int×PUnit) (k3:Int×List Int×PUnit->Prop)=>Br (decide (v2.1<n)) (0=0/\v2.2.1.length=v2.2.1.length/\v2.2.1.length+(List.take 2 (List.drop 0 [IntKind.i64.wrap (v2.1+(1:Int)),IntKind.i64.wrap ((0:Int)-IntKind.i64.wrap (v2.1+(1:Int)))])).length<=Bs/\0=0/\(v2.2.1++List.take 2 (List.drop 0 [IntKind.i64.wrap (v2.1+(1:Int)),IntKind.i64.wrap ((0:Int)-IntKind.i64.wrap (v2.1+(1:Int)))])).length=(v2.2.1++List.take 2 (List.drop 0 [IntKind.i64.wrap (v2.1+(1:Int)),IntKind.i64.wrap ((0:Int)-IntKind.i64.wrap (v2.1+(1:Int)))])).length/\k3 (IntKind.i64.wrap (v2.1+(1:Int)),v2.2.1++List.take 2 (List.drop 0 [IntKind.i64.wrap (v2.1+(1:Int)),IntKind.i64.wrap ((0:Int)-IntKind.i64.wrap (v2.1+(1:Int)))]),())) (P (List.take v2.2.1.length (List.drop 0 v2.2.1)))) ((0:Int),[],PUnit.unit))=fnW Cy (look []) Kw Try.f117 (n,()) P:=by kernel_rfl
theorem EH (p:Int×ByteArray×List (List Int)×Unit) (s:List Int) (l:Int) (P:List Int->Prop):(∃(y4:List Int),idx p.2.2.1 (IntKind.i64.wrap ((if true=true then if IntKind.i64.wrap ((0:Int)-l)>l then IntKind.i64.wrap ((0:Int)-l) else l else if IntKind.i64.wrap ((0:Int)-l)<l then IntKind.i64.wrap ((0:Int)-l) else l)-(1:Int)))=some y4/\Br (decide (l<(0:Int))) (∃(y5:List Int),Ju.fn (y4,())=some y5/\0=0/\0=([]:List Int).length/\Co (λ(v6:Int×List Int×PUnit) (k7:Int×List Int×PUnit->Prop)=>Br (decide (v6.1<(↑s.length:Int))) (∃(y8:Int),idx s v6.1=some y8/\ ∃(y9:Int),idx y5 y8=some y9/\0=0/\v6.2.1.length=v6.2.1.length/\v6.2.1.length+(List.take 1 (List.drop 0 [y9])).length<=Bs/\0=0/\(v6.2.1++List.take 1 (List.drop 0 [y9])).length=(v6.2.1++List.take 1 (List.drop 0 [y9])).length/\k7 (IntKind.i64.wrap (v6.1+(1:Int)),v6.2.1++List.take 1 (List.drop 0 [y9]),())) (P (List.take v6.2.1.length (List.drop 0 v6.2.1)))) ((0:Int),[],PUnit.unit)) (0=0/\0=([]:List Int).length/\Co (λ(v5:Int×List Int×PUnit) (k6:Int×List Int×PUnit->Prop)=>Br (decide (v5.1<(↑s.length:Int))) (∃(y7:Int),idx s v5.1=some y7/\ ∃(y8:Int),idx y4 y7=some y8/\0=0/\v5.2.1.length=v5.2.1.length/\v5.2.1.length+(List.take 1 (List.drop 0 [y8])).length<=Bs/\0=0/\(v5.2.1++List.take 1 (List.drop 0 [y8])).length=(v5.2.1++List.take 1 (List.drop 0 [y8])).length/\k6 (IntKind.i64.wrap (v5.1+(1:Int)),v5.2.1++List.take 1 (List.drop 0 [y8]),())) (P (List.take v5.2.1.length (List.drop 0 v5.2.1)))) ((0:Int),[],PUnit.unit)))=fnW Cy (look [(150,Ju)]) Wv Try.f115 (p,s,l,()) P:=by kernel_rfl
theorem Hk {xs:List Int} {i:Nat} (h:i<xs.length):Mi xs (i:Int)=xs[i]:=by
 unfold Mi
 rw [Int.toNat_natCast,List.getD_eq_getElem?_getD,List.getElem?_eq_getElem h];rfl
theorem sA {xs:List Int} {y:Int} (h0:0<=y) (h:y<xs.length):idx xs y=some (Mi xs y):=by
 have hy:y.toNat<xs.length:=by omega
 have e:y=(y.toNat:Int):=by omega
 rw [e,Bf hy,Hk hy]
theorem Ry (f:Nat->Nat) (g:Nat->Int) (m:Nat) (init:List Int):Uj f g (m+1) init=(Uj f g m init).set (f m) (g m):=by simp [Uj,List.range_succ]
theorem Uk (f:Nat->Nat) (g:Nat->Int) (m:Nat) (init:List Int):(Uj f g m init).length=init.length:=by
 induction m with
 |zero=>rfl
 |succ m ih=>rw [Ry,List.length_set,ih]
theorem iD (f:Nat->Nat) (g:Nat->Int) (init:List Int): ∀(m:Nat),(∀i j,i<m->j<m->f i=f j->i=j)-> ∀i,i<m->f i<init.length->(Uj f g m init)[f i]?=some (g i)
 |0,_,i,h,_=>absurd h (Nat.not_lt_zero _)
 |m+1,hf,i,hi,hl=>by
  rw [Ry]
  by_cases e:i=m
  ·subst e
   exact List.getElem?_set_self (by rw [Uk];exact hl)
  ·rw [List.getElem?_set_ne (λh=>e (hf i m hi (by omega) h.symm))]
   exact iD f g init m (λa b ha hb=>hf a b (by omega) (by omega)) i (by omega) hl
structure Sx (p:List Int):Prop where
 pos:1<=p.length
 len:p.length<=20
 row:Oj p.length p
 nodup:p.Nodup
theorem gT {p:List Int} (h:Ez p=true):Sx p:=by
 obtain ⟨h1,h2,h3⟩:=Dg.1 h
 refine ⟨h1,h2,λy hy=>?_,bh λj hj=>(h3 j hj hj).2.2⟩
 obtain ⟨j,hj,rfl⟩:=List.mem_iff_getElem.1 hy
 have:=h3 j hj hj
 omega
theorem Sx.inj {p:List Int} (h:Sx p) (i j:Nat) (hi:i<p.length) (hj:j<p.length) (e:(Mi p (i:Int)).toNat=(Mi p (j:Int)).toNat):i=j:=by
 rw [Hk hi,Hk hj] at e
 have h1:=h.row _ (List.getElem_mem hi)
 have h2:=h.row _ (List.getElem_mem hj)
 have e:p[i]=p[j]:=by omega
 refine Classical.byContradiction λEv=>?_
 rcases Nat.lt_or_gt_of_ne Ev with hl|hl
 ·exact List.pairwise_iff_getElem.1 h.nodup i j hi hj hl e
 ·exact List.pairwise_iff_getElem.1 h.nodup j i hj hi hl e.symm
theorem Sx.CQ {p:List Int} (h:Sx p) (k:Nat) (hk:k<p.length): ∃i,i<p.length/\(Mi p (i:Int)).toNat=k:=by
 have hm:=(Vd (xs:=p) h.row).2 (m8 h.nodup) k hk
 obtain ⟨i,hi,e⟩:=List.mem_iff_getElem.1 hm
 exact ⟨i,hi,by rw [Hk hi,e];exact Int.toNat_natCast k⟩
theorem Sx.lt {p:List Int} (h:Sx p) {i:Nat} (hi:i<p.length):(Mi p (i:Int)).toNat<p.length:=by
 rw [Hk hi]
 have:=h.row _ (List.getElem_mem hi)
 omega
theorem jO (p:List Int):(Aj p).length=p.length:=by unfold Aj;rw [Uk,List.length_replicate]
theorem BX {p:List Int} (h:Sx p) {i:Nat} (hi:i<p.length):(Aj p)[(Mi p (i:Int)).toNat]?=some (i:Int):=
 iD (λi=>(Mi p (i:Int)).toNat) (λi=>(i:Int)) _ p.length (λi j hi hj=>h.inj i j hi hj) i hi (by rw [List.length_replicate];exact h.lt hi)
theorem GP {p:List Int} (h:Sx p):Oj p.length (Aj p):=by
 intro y hy
 obtain ⟨k,hk,rfl⟩:=List.mem_iff_getElem.1 hy
 have ew:k<p.length:=by rw [jO] at hk;exact hk
 obtain ⟨i,hi,rfl⟩:=h.CQ k ew
 have:=BX h hi
 rw [List.getElem?_eq_getElem hk] at this
 rw [Option.some.inj this]
 omega
theorem Uh (p q:List Int):(Ac p q).length=p.length:=by simp [Ac]
theorem rW {p q:List Int} {n:Nat} (hp:Oj q.length p) (hq:Oj n q):Oj n (Ac p q):=by
 intro y hy
 obtain ⟨x,hx,rfl⟩:=List.mem_map.1 hy
 have h1:=hp x hx
 rw [show x=(x.toNat:Int) by omega,Hk (by omega)]
 exact hq _ (List.getElem_mem _)
theorem mV (p q:List Int) (h:p.length<=20/\Oj q.length p):fnW Cy (look []) Sn Try.f156 (p,q,()) (λ(z:List Int)=>z=Ac p q):=by
 obtain ⟨h,hr⟩:=h
 refine Eq.mp (nC p q _) ?_
 refine ⟨⟨by omega,by show (p.length:Int)<(4294967296:Int)+1;omega⟩,rfl,rfl,rfl,?_⟩
 have Of:=Uh p q
 refine Ba p.length (λv=>v.1) (λj v=>v.2.1.length=(Ac p q).length/\v.2.1.take j=(Ac p q).take j) rfl ⟨by rw [Of];simp,by simp⟩ ?_
 rintro j ⟨i,ys,⟨⟩⟩ K hj hi ⟨h1,h2⟩ hK
 dsimp only at hi h1 h2⊢
 subst hi
 refine Br.dec (λhl=>?_) λhl=>?_
 ·have hl:j<p.length:=by omega
  have hy:=hr _ (List.getElem_mem hl)
  refine ⟨_,Bf hl,_,sA hy.1 hy.2,⟨by omega,by omega⟩,by rw [Int.toNat_natCast];omega,rfl,by rw [List.length_set],?_⟩
  rw [Au (by omega),Int.toNat_natCast,Nat.zero_add]
  have Ic:j<(Ac p q).length:=by rw [Of];exact hl
  have e:Mi q p[j]=(Ac p q)[j]:=by simp [Ac]
  rw [e]
  exact hK hl _ rfl ⟨by rw [List.length_set];exact h1,Qf Ic h1 h2⟩
 ·have:j=p.length:=by omega
  subst this
  rw [<-Of,List.take_length,<-h1,List.take_length] at h2
  rw [List.drop_zero,List.take_length]
  exact h2
theorem Nz:Sound Try.prog 156 Sn:=
 Sound.Dl Bz Ax mixed Try.func156 (by kernel_rfl) (by kernel_rfl) λx h=>mV x.1 x.2.1 h
theorem mW (p:List Int) (h:p.length<=20/\Oj p.length p):fnW Cy (look []) Ec Try.f175 (p,()) (λ(z:List Int)=>z=Aj p):=by
 obtain ⟨h,hr⟩:=h
 refine Eq.mp (nD p _) ?_
 refine ⟨⟨by omega,by show (p.length:Int)<(4294967296:Int)+1;omega⟩,rfl,rfl,rfl,?_⟩
 refine Ba p.length (λv=>v.1) (λj v=>v.2.1=Uj (λi=>(Mi p (i:Int)).toNat) (λi=>(i:Int)) j (List.replicate p.length 0)) rfl rfl ?_
 rintro j ⟨i,ys,⟨⟩⟩ K hj hi h1 hK
 dsimp only at hi h1⊢
 subst hi
 have hlen:ys.length=p.length:=by rw [h1,Uk,List.length_replicate]
 refine Br.dec (λhl=>?_) λhl=>?_
 ·have hl:j<p.length:=by omega
  have hy:=hr _ (List.getElem_mem hl)
  refine ⟨_,Bf hl,⟨by omega,by omega⟩,by omega,rfl,by rw [List.length_set],?_⟩
  rw [Au (by omega),Nat.zero_add]
  refine hK hl _ rfl ?_
  rw [Ry,<-h1,Hk hl]
 ·have:j=p.length:=by omega
  subst this
  rw [List.drop_zero,List.take_length]
  exact h1
theorem Oa:Sound Try.prog 175 Ec:=
 Sound.Dl Bz Ax mixed Try.func175 (by kernel_rfl) (by kernel_rfl) λx h=>mW x.1 h
theorem z7 (p:List Int) (h:p.length<=20/\Oj p.length p):fnW Cy (look []) Ec Try.f170 (p,()) (λ(z:List Int)=>z=Aj p):=by
 obtain ⟨h,hr⟩:=h
 refine Eq.mp (zJ p _) ?_
 refine ⟨⟨by omega,by show (p.length:Int)<(4294967296:Int)+1;omega⟩,rfl,rfl,rfl,?_⟩
 refine Ba p.length (λv=>v.1) (λj v=>v.2.1=Uj (λi=>(Mi p (i:Int)).toNat) (λi=>(i:Int)) j (List.replicate p.length 0)) rfl rfl ?_
 rintro j ⟨i,ys,⟨⟩⟩ K hj hi h1 hK
 dsimp only at hi h1⊢
 subst hi
 have hlen:ys.length=p.length:=by rw [h1,Uk,List.length_replicate]
 refine Br.dec (λhl=>?_) λhl=>?_
 ·have hl:j<p.length:=by omega
  have hy:=hr _ (List.getElem_mem hl)
  refine ⟨_,Bf hl,⟨by omega,by omega⟩,by omega,rfl,by rw [List.length_set],?_⟩
  rw [Au (by omega),Nat.zero_add]
  refine hK hl _ rfl ?_
  rw [Ry,<-h1,Hk hl]
 ·have:j=p.length:=by omega
  subst this
  rw [List.drop_zero,List.take_length]
  exact h1
theorem nt:Sound Try.prog 170 Ec:=
 Sound.Dl Bz Ax mixed Try.func170 (by kernel_rfl) (by kernel_rfl) λx h=>z7 x.1 h
theorem mY (p:List Int) (h:Ez p=true):fnW Cy (look [(169,Ee),(170,Ec)]) Ju Try.f150 (p,()) (λ(z:List Int)=>z=Aj p):=by
 have hp:=gT h
 have hs:short p:=by have:=hp.len;unfold short;omega
 refine Eq.mp (nF p _) ⟨_,if_pos hs,⟨λhe=>?_,λ_=>⟨_,if_pos ⟨hp.len,hp.row⟩,rfl⟩⟩⟩
 exact absurd h (Dv he)
theorem fO:Sound Try.prog 150 Ju:=
 Sound.Dl Bz (Ae Pr (Ae nt Ax)) mixed Try.func150 (by kernel_rfl) (by kernel_rfl) λx h=>mY x.1 h
theorem Xd (j:Nat):upto (j+1)=upto j++ [(j:Int)]:=by simp [upto,List.range_succ]
theorem w5 (n:Int) (h:0<=n/\n<=20):fnW Cy (look []) Bv Try.f124 (n,()) (λ(z:List Int)=>z=upto n.toNat):=by
 refine Eq.mp (wU n _) ⟨rfl,rfl,?_⟩
 refine Ba n.toNat (λv=>v.1) (λj v=>v.2.1=upto j) rfl rfl ?_
 rintro j ⟨i,ys,⟨⟩⟩ K hj hi h1 hK
 dsimp only at hi h1⊢
 subst hi h1
 refine Br.dec (λhl=>?_) λhl=>?_
 ·refine ⟨rfl,rfl,?_,rfl,rfl,?_⟩
  ·show (upto j).length+1<=4294967296
   rw [Tz];omega
  ·rw [Au (by omega)]
   exact hK (by omega) _ rfl (Xd j).symm
 ·have:j=n.toNat:=by omega
  subst this
  rw [List.drop_zero,List.take_length]
theorem lJ:Sound Try.prog 124 Bv:=
 Sound.Dl Bz Ax mixed Try.func124 (by kernel_rfl) (by kernel_rfl) λx h=>w5 x.1 h
theorem To {g:List (List Int)} {k:Nat} (h:k<g.length):Ag g ((k:Int)+1)=g[k]:=by
 unfold Ag
 rw [if_pos (by omega),show ((k:Int)+1-1).toNat=k by omega,List.getD_eq_getElem?_getD,List.getElem?_eq_getElem h];rfl
theorem Tn {g:List (List Int)} {k:Nat} (h:k<g.length):Ag g (-((k:Int)+1))=Aj g[k]:=by
 unfold Ag
 rw [if_neg (by omega),show (-(-((k:Int)+1))-1).toNat=k by omega,List.getD_eq_getElem?_getD,List.getElem?_eq_getElem h];rfl
theorem Sd {n:Nat} {l:Int} (h:Gv n l): ∃k:Nat,k<n/\(l=(k:Int)+1\/l= -((k:Int)+1)):=by
 obtain ⟨h1,h2,h3⟩:=h
 by_cases h0:0<l
 ·exact ⟨(l-1).toNat,by omega, .inl (by omega)⟩
 ·exact ⟨(-l-1).toNat,by omega, .inr (by omega)⟩
theorem w7 (g:List (List Int)) (l:Int) (h:Gv (List.length g) l/\List.length g<=8/\ ∀p∈g,Ez p=true):fnW Cy (look [(175,Ec)]) Pn Try.f157 (g,l,()) (λ(z:List Int)=>z=Ag g l):=by
 obtain ⟨hl,h8,hp⟩:=h
 refine Eq.mp (wW g l _) ?_
 obtain ⟨k,hk,rfl|rfl⟩:=Sd hl
 ·refine Br.dec (λ_=>?_) λhn=>by omega
  rw [Ce (by omega) (by omega),show (k:Int)+1-1=(k:Int) by omega]
  exact ⟨_,Bf hk,(To hk).symm⟩
 ·refine Br.dec (λhn=>by omega) λ_=>?_
  rw [Ce (n:=0- -((k:Int)+1)) (by omega) (by omega),Ce (by omega) (by omega),show (0:Int)- -((k:Int)+1)-1=(k:Int) by omega]
  have:=gT (hp _ (List.getElem_mem hk))
  exact ⟨_,Bf hk,_,if_pos ⟨this.len,this.row⟩,(Tn hk).symm⟩
theorem lL:Sound Try.prog 157 Pn:=
 Sound.Dl Bz (Ae Oa Ax) mixed Try.func157 (by kernel_rfl) (by kernel_rfl) λx h=>w7 x.1 x.2.1 h
theorem Tq (j:Nat):Bd (j+1)=Bd j++ [(j:Int)+1,-((j:Int)+1)]:=by simp [Bd,List.range_succ,List.flatMap_append]
theorem Lw (j:Nat):(Bd j).length=2*j:=by
 induction j with
 |zero=>rfl
 |succ j ih=>rw [Tq,List.length_append,ih];simp only [List.length_cons,List.length_nil];omega
theorem Mv {n:Nat} {l:Int} (h:l∈Bd n):Gv n l:=by
 unfold Bd at h
 obtain ⟨k,hk,hl⟩:=List.mem_flatMap.1 h
 have hk:=List.mem_range.1 hk
 simp only [List.mem_cons,List.not_mem_nil,or_false] at hl
 unfold Gv
 omega
theorem z0 (n:Int) (h:0<=n/\n<=8):fnW Cy (look []) Kw Try.f117 (n,()) (λ(z:List Int)=>z=Bd n.toNat):=by
 refine Eq.mp (zH n _) ⟨rfl,rfl,?_⟩
 refine Ba n.toNat (λv=>v.1) (λj v=>v.2.1=Bd j) rfl rfl ?_
 rintro j ⟨i,ys,⟨⟩⟩ K hj hi h1 hK
 dsimp only at hi h1⊢
 subst hi h1
 refine Br.dec (λhl=>?_) λhl=>?_
 ·refine ⟨rfl,rfl,?_,rfl,rfl,?_⟩
  ·show (Bd j).length+2<=4294967296
   rw [Lw];omega
  ·have e1:IntKind.i64.wrap ((j:Int)+1)=(j:Int)+1:=Ce (by omega) (by omega)
   have e2:IntKind.i64.wrap ((0:Int)-((j:Int)+1))= -((j:Int)+1):=by rw [Ce (by omega) (by omega)];omega
   rw [e1,e2]
   exact hK (by omega) _ rfl (Tq j).symm
 ·have:j=n.toNat:=by omega
  subst this
  rw [List.drop_zero,List.take_length]
theorem dc:Sound Try.prog 117 Kw:=
 Sound.Dl Bz Ax mixed Try.func117 (by kernel_rfl) (by kernel_rfl) λx h=>z0 x.1 h
structure Valid (p:PP):Prop where
 n:1<=p.1/\p.1<=20
 kB:1<=p.2.2.1.length/\p.2.2.1.length<=8
 perm: ∀m∈p.2.2.1,Ez m=true
 len: ∀m∈p.2.2.1,(m.length:Int)=p.1
theorem valid {p:PP} (h:Bc p=true):Valid p:=by
 have h0:=wR h
 obtain ⟨h1,_,_⟩:=Dg.1 h
 obtain ⟨_,_,h4⟩:=Dg.1 h1
 exact ⟨⟨h0.1,h0.2.1⟩,h0.2.2,λm hm=>(Dg.1 (h4 m hm)).2,λm hm=>(Dg.1 (h4 m hm)).1⟩
theorem gF {p:PP} (h:Valid p) {l:Int} (hl:Gv (List.length p.2.2.1) l):((Ag p.2.2.1 l).length:Int)=p.1/\Oj (Ag p.2.2.1 l).length (Ag p.2.2.1 l):=by
 obtain ⟨k,hk,rfl|rfl⟩:=Sd hl
 ·rw [To hk]
  exact ⟨h.len _ (List.getElem_mem hk),(gT (h.perm _ (List.getElem_mem hk))).row⟩
 ·rw [Tn hk,jO]
  exact ⟨h.len _ (List.getElem_mem hk),GP (gT (h.perm _ (List.getElem_mem hk)))⟩
theorem rG (s y:List Int) (P:List Int->Prop) (h1:s.length<=20) (h2:Oj y.length s) (h3:P (Ac s y)):
  Co
   (λ(v5:Int×List Int×PUnit) (k6:Int×List Int×PUnit->Prop)=>
    Br (decide (v5.1<(↑s.length:Int)))
     (∃(y7:Int),
      idx s v5.1=some y7/\
       ∃(y8:Int),
        idx y y7=some y8/\
         (0:Nat)=(0:Nat)/\
          v5.2.1.length=v5.2.1.length/\
           v5.2.1.length+(List.take (1:Nat) (List.drop (0:Nat) [y8])).length<=Bs/\
            (0:Nat)=(0:Nat)/\
             (v5.2.1++List.take (1:Nat) (List.drop (0:Nat) [y8])).length=(v5.2.1++List.take (1:Nat) (List.drop (0:Nat) [y8])).length/\
              k6 (IntKind.i64.wrap (v5.1+(1:Int)),v5.2.1++List.take (1:Nat) (List.drop (0:Nat) [y8]),()))
     (P (List.take v5.2.1.length (List.drop (0:Nat) v5.2.1))))
   ((0:Int),([]:List Int),PUnit.unit):=by
 refine Ba s.length (λv=>v.1) (λj v=>v.2.1=(s.take j).map (Mi y)) rfl (by simp) ?_
 rintro j ⟨i,ys,⟨⟩⟩ K hj hi hR hK
 dsimp only at hi hR⊢
 subst hi hR
 refine Br.dec (λhl=>?_) λhl=>?_
 ·have hl:j<s.length:=by omega
  have hy:=h2 _ (List.getElem_mem hl)
  refine ⟨_,Bf hl,_,sA hy.1 hy.2,rfl,rfl,?_,rfl,rfl,?_⟩
  ·show ((s.take j).map (Mi y)).length+1<=4294967296
   rw [List.length_map,List.length_take];omega
  ·rw [Au (by omega)]
   refine hK hl _ rfl ?_
   dsimp only
   rw [List.take_succ_eq_append_getElem hl,List.map_append]
   rfl
 ·have:j=s.length:=by omega
  subst this
  rw [List.drop_zero,List.take_length,List.take_length]
  exact h3
theorem CT (p:PP) (s:List Int) (l:Int) (h:Bc p=true/\List.length s<=20/\(∀y∈s,0<=y/\y<p.1)/\Gv (List.length p.2.2.1) l):fnW Cy (look [(150,Ju)]) Wv Try.f115 (p,s,l,()) (λ(z:List Int)=>z=Ac s (Ag p.2.2.1 l)):=by
 obtain ⟨hv,hs,hr,hl⟩:=h
 have hv:=valid hv
 have hf:=hv.kB
 refine Eq.mp (EH p s l _) ?_
 have BG:=gF hv hl
 have Sa:Oj (Ag p.2.2.1 l).length s:= λy hy=>by have:=hr y hy;omega
 obtain ⟨k,hk,rfl|rfl⟩:=Sd hl
 ·rw [if_pos rfl,Ce (n:=0-((k:Int)+1)) (by omega) (by omega),if_neg (by omega),Ce (by omega) (by omega),show (k:Int)+1-1=(k:Int) by omega]
  refine ⟨_,Bf hk,Br.dec (λhn=>by omega) λ_=>⟨rfl,rfl,?_⟩⟩
  rw [To hk] at Sa⊢
  exact rG s _ (λz=>z=Ac s p.2.2.1[k]) hs Sa rfl
 ·rw [if_pos rfl,Ce (n:=0- -((k:Int)+1)) (by omega) (by omega),if_pos (by omega),Ce (by omega) (by omega),show (0:Int)- -((k:Int)+1)-1=(k:Int) by omega]
  refine ⟨_,Bf hk,Br.dec (λ_=>⟨_,if_pos (hv.perm _ (List.getElem_mem hk)),rfl,rfl,?_⟩) λhn=>by omega⟩
  rw [Tn hk] at Sa⊢
  exact rG s (Aj p.2.2.1[k]) (λz=>z=Ac s (Aj p.2.2.1[k])) hs Sa rfl
theorem qB:Sound Try.prog 115 Wv:=
 Sound.Dl Bz (Ae fO Ax) mixed Try.func115 (by kernel_rfl) (by kernel_rfl) λx h=>CT x.1 x.2.1 x.2.2.1 h
end Go.Proofs.Ytjbdmibbbpdnnaa

namespace Go.Proofs.Ytjbdmibbbpdnnaa
open Go.RowKit
abbrev rL:CK:= .row tI 2
def Qd:List (List Int)->Nat
 | []=>0
 |r::rs=>r.length+Qd rs
def low (k:Int):Prop:=0<=k/\k<=1099511627776
theorem Ed {α:Type} (xs:List α):List.take xs.length (List.drop 0 xs)=xs:=by rw [List.drop_zero,List.take_length]
end Go.Proofs.Ytjbdmibbbpdnnaa

namespace Go.Proofs.Ytjbdmibbbpdnnaa
open Go.RowKit
theorem Wp (a:List Int):Hp a a=true:=by simp [Hp]
theorem DS {n:Nat} {room:Int} (h: ¬gI n room<0):gI n room=room-n/\(n:Int)<=room:=by
 unfold gI at*
 split at h
 ·exact absurd (show (-1:Int)<0 by decide) h
 ·rename_i h1;rw [if_neg h1];exact ⟨rfl,by omega⟩
theorem tZ: ∀(xs:List (List Int)) (room:Int),0<=room-> ¬tY xs room<0->tY xs room=room-Qd xs
 | [],room,_,_=>by simp [tY,Qd]
 |r::xs,room,h0,h=>by
  simp only [tY,Qd] at h⊢
  split at h
  ·exact absurd (show (-1:Int)<0 by decide) h
  ·rename_i h1
   rw [if_neg h1]
   have e1:=DS (n:=r.length) h1
   have e1:fw r room=room-r.length/\(r.length:Int)<=room:=e1
   rw [tZ xs _ (by rw [e1.1];omega) h,e1.1]
   omega
theorem DQ {xs:List (List Int)} {room:Int} (h: ¬Vi xs room<0):Vi xs room=room-xs.length-Qd xs:=by
 unfold Vi at*
 split at h
 ·exact absurd (show (-1:Int)<0 by decide) h
 ·rename_i h1
  rw [if_neg h1]
  have e1:=DS h1
  rw [tZ xs _ (by rw [e1.1];omega) h,e1.1]
end Go.Proofs.Ytjbdmibbbpdnnaa

namespace Go.Proofs.Ytjbdmibbbpdnnaa
open Go.RowKit
theorem yd {b:Bool} {P:Prop} (h:(!(b==b))=true):P:=by simp at h
end Go.Proofs.Ytjbdmibbbpdnnaa

namespace Go.Proofs.Ytjbdmibbbpdnnaa
open Go.RowKit
noncomputable abbrev Je:Spec:=Dl (.pair tL .unit) tL false true (λx=>short x.1) (λx=>x.1)
theorem wT (xs:List Int) (P:List Int->Prop):(0=0/\0=([]:List Int).length/\0+xs.length<=Bs/\P (List.take ([]++xs).length (List.drop 0 ([]++xs))))=fnW Cy (look []) Je Try.f123 (xs,()) P:=by kernel_rfl
theorem vZ (xs:List Int) (h:short xs):fnW Cy (look []) Je Try.f123 (xs,()) (λ(z:List Int)=>z=xs):=by
 unfold short at h
 refine Eq.mp (wT xs _) ⟨rfl,rfl,by show 0+xs.length<=4294967296;omega,?_⟩
 simp only [Ed,List.nil_append]
theorem bG:Sound Try.prog 123 Je:=
 Sound.Dl Bz Ax mixed Try.func123 (by kernel_rfl) (by kernel_rfl) λx h=>vZ x.1 h
end Go.Proofs.Ytjbdmibbbpdnnaa

namespace Go.Proofs.Ytjbdmibbbpdnnaa
open Go.RowKit
def Lc (xs:List Int):ByteArray:=bytesOf (xs.map λx=>IntKind.u8.wrap x)
noncomputable abbrev Dy:Spec:=Dl (.pair tL .unit) .str false true (λx=>short x.1) (λx=>Lc x.1)
def fE (ps:List (List Int)) (p:List Int):Int:=Gd (λq=>decide (q=p)) ps 0
theorem x4 (xs:List Int) (P:ByteArray->Prop):(((0:Int)<=(↑xs.length:Int)/\(↑xs.length:Int)<(↑Bs:Int)+(1:Int))/\(↑xs.length:Int)=(↑xs.length:Int)/\0=0/\(List.replicate (↑xs.length:Int).toNat (Int.ofNat (nat_lit 0))).length=(List.replicate (↑xs.length:Int).toNat (Int.ofNat (nat_lit 0))).length/\Co (λ(v2:Int×List Int×PUnit) (k3:Int×List Int×PUnit->Prop)=>Br (decide (v2.1<(↑xs.length:Int))) (∃(y4:Int),idx xs v2.1=some y4/\((0:Int)<=v2.1/\v2.1<(↑v2.2.1.length:Int))/\0+v2.1.toNat<v2.2.1.length/\0=0/\v2.2.1.length=(v2.2.1.set (0+v2.1.toNat) (IntKind.u8.wrap y4)).length/\k3 (IntKind.i64.wrap (v2.1+(1:Int)),v2.2.1.set (0+v2.1.toNat) (IntKind.u8.wrap y4),())) (P (bytesOf (List.take v2.2.1.length (List.drop 0 v2.2.1))))) ((0:Int),List.replicate (↑xs.length:Int).toNat (Int.ofNat (nat_lit 0)),PUnit.unit))=fnW Cy (look []) Dy Try.f128 (xs,()) P:=by kernel_rfl
theorem wc (xs:List Int) (h:short xs):fnW Cy (look []) Dy Try.f128 (xs,()) (λ(z:ByteArray)=>z=Lc xs):=by
 unfold short at h
 refine Eq.mp (x4 xs _) ?_
 refine ⟨⟨by omega,by show (xs.length:Int)<(4294967296:Int)+1;omega⟩,rfl,rfl,rfl,?_⟩
 have Of:(xs.map λx=>IntKind.u8.wrap x).length=xs.length:=by simp
 refine Ba xs.length (λv=>v.1) (λj v=>v.2.1.length=(xs.map λx=>IntKind.u8.wrap x).length/\v.2.1.take j=(xs.map λx=>IntKind.u8.wrap x).take j) rfl ⟨by rw [Of];simp,by simp⟩ ?_
 rintro j ⟨i,ys,⟨⟩⟩ K hj hi ⟨h1,h2⟩ hK
 dsimp only at hi h1 h2⊢
 subst hi
 refine Br.dec (λhl=>?_) λhl=>?_
 ·have hl:j<xs.length:=by omega
  refine ⟨_,Bf hl,⟨by omega,by omega⟩,by rw [Int.toNat_natCast];omega,rfl,by rw [List.length_set],?_⟩
  rw [Au (by omega),Int.toNat_natCast,Nat.zero_add]
  have Ic:j<(xs.map λx=>IntKind.u8.wrap x).length:=by rw [Of];exact hl
  have e:IntKind.u8.wrap xs[j]=(xs.map λx=>IntKind.u8.wrap x)[j]:=by simp
  rw [e]
  exact hK hl _ rfl ⟨by rw [List.length_set];exact h1,Qf Ic h1 h2⟩
 ·have:j=xs.length:=by omega
  subst this
  rw [<-Of,List.take_length,<-h1,List.take_length] at h2
  rw [List.drop_zero,List.take_length,h2];rfl
theorem bJ:Sound Try.prog 128 Dy:=
 Sound.Dl Bz Ax mixed Try.func128 (by kernel_rfl) (by kernel_rfl) λx h=>wc x.1 h
theorem Zu {α:Type} (P:α->Bool) (y:α): ∀(l:List α) (i:Int),0<=i->Gd P (l++ [y]) i=if Gd P l i<0 then (if P y=true then i+l.length else-1) else Gd P l i
 | [],i,_=>by simp [Gd]
 |x::r,i,h=>by
  simp only [List.cons_append,Gd,List.length_cons]
  split
  ·rw [if_neg (by omega)]
  ·rw [Zu P y r (i+1) (by omega),show i+1+(r.length:Int)=i+((r.length+1:Nat):Int) by push_cast;omega]
theorem qf (ps:List (List Int)) (q p:List Int):fE (ps++ [q]) p=if fE ps p<0 then (if q=p then (ps.length:Int) else-1) else fE ps p:=by
 unfold fE
 rw [Zu _ _ _ _ (Int.le_refl 0)]
 simp only [decide_eq_true_eq,Int.zero_add]
def Oh (p:List Int):Prop:= ∀x∈p,0<=x/\x<256
theorem AN {x y:Int} (hx:0<=x/\x<256) (hy:0<=y/\y<256) (h:UInt8.ofNat (IntKind.u8.wrap x).toNat=UInt8.ofNat (IntKind.u8.wrap y).toNat):x=y:=by
 have h:=congrArg UInt8.toNat h
 simp only [IntKind.wrap_u8,UInt8.toNat_ofNat'] at h
 omega
theorem bytes_inj: ∀(p q:List Int),Oh p->Oh q->(p.map λx=>UInt8.ofNat (IntKind.u8.wrap x).toNat)=(q.map λx=>UInt8.ofNat (IntKind.u8.wrap x).toNat)->p=q
 | [],[],_,_,_=>rfl
 | [],_::_,_,_,h=>by simp at h
 |_::_,[],_,_,h=>by simp at h
 |x::p,y::q,hp,hq,h=>by
  simp only [List.map_cons,List.cons.injEq] at h
  rw [AN (hp x (by simp)) (hq y (by simp)) h.1,bytes_inj p q (λz hz=>hp z (by simp [hz])) (λz hz=>hq z (by simp [hz])) h.2]
theorem key_inj {p q:List Int} (hp:Oh p) (hq:Oh q) (h:Lc p=Lc q):p=q:=by
 refine bytes_inj p q hp hq ?_
 simp only [Lc,bytesOf,ByteArray.mk.injEq,List.map_map] at h
 have h:=congrArg Array.toList h
 simpa [Function.comp_def] using h
def KM (m:ByteArray->Option Int) (ps:List (List Int)):Prop:= ∀p,Oh p->m (Lc p)=if fE ps p<0 then none else some (fE ps p)
theorem KM.nil:KM (λ_=>none) []:= λp _=>by
 rw [if_pos (by unfold fE;simp [Gd])]
theorem KM.add {m:ByteArray->Option Int} {ps:List (List Int)} {q:List Int} (h:KM m ps) (hq:Oh q) (hn:fE ps q<0):KM (Zf m (Lc q) (ps.length:Int)) (ps++ [q]):=by
 intro p hp
 rw [qf]
 unfold Zf
 by_cases e:p=q
 ·subst e
  rw [if_pos rfl,if_pos hn,if_pos rfl,if_neg (by omega)]
 ·rw [if_neg (λhk=>e (key_inj hp hq hk)),h p hp]
  have e': ¬q=p:= λh=>e h.symm
  rw [if_neg e']
  by_cases yz:fE ps p<0
  ·rw [if_pos yz,if_pos yz,if_pos (by decide)]
  ·rw [if_neg yz,if_neg yz,if_neg yz]
end Go.Proofs.Ytjbdmibbbpdnnaa

namespace Go.Proofs.Ytjbdmibbbpdnnaa
open Go.RowKit
noncomputable abbrev Mz:Spec:=Dl (.pair Ck .unit) tL false true (λx=>List.length x.1.2.2.1<=8) (λx=>Bd (List.length x.1.2.2.1))
abbrev fR:Type:=Int×Int×ByteArray×List (List Int)×List Int×PUnit
theorem ui (p:Int×ByteArray×List (List Int)×Unit) (P:List Int->Prop):(0=0/\0=([]:List Int).length/\Co (λ(v2:fR) (k3:fR->Prop)=>Br (decide (v2.1<=(↑v2.2.2.2.1.length:Int))) (0=0/\v2.2.2.2.2.1.length=v2.2.2.2.2.1.length/\v2.2.2.2.2.1.length+(List.take 2 (List.drop 0 [v2.1,IntKind.i64.wrap ((0:Int)-v2.1)])).length<=Bs/\0=0/\(v2.2.2.2.2.1++List.take 2 (List.drop 0 [v2.1,IntKind.i64.wrap ((0:Int)-v2.1)])).length=(v2.2.2.2.2.1++List.take 2 (List.drop 0 [v2.1,IntKind.i64.wrap ((0:Int)-v2.1)])).length/\k3 (IntKind.i64.wrap (v2.1+(1:Int)),v2.2.1,v2.2.2.1,v2.2.2.2.1,v2.2.2.2.2.1++List.take 2 (List.drop 0 [v2.1,IntKind.i64.wrap ((0:Int)-v2.1)]),())) (P (List.take v2.2.2.2.2.1.length (List.drop 0 v2.2.2.2.2.1)))) ((1:Int),p.1,p.2.1,p.2.2.1,[],PUnit.unit))=fnW Cy (look []) Mz Try.f96 (p,()) P:=by kernel_rfl
theorem tw (p:PP) (h:List.length p.2.2.1<=8):fnW Cy (look []) Mz Try.f96 (p,()) (λ(z:List Int)=>z=Bd (List.length p.2.2.1)):=by
 refine Eq.mp (ui p _) ⟨rfl,rfl,?_⟩
 refine Co.mk (λv=> ∃j:Nat,j<=List.length p.2.2.1/\v=((j:Int)+1,p.1,p.2.1,p.2.2.1,Bd j,())) (λv=>List.length p.2.2.1+1-v.1.toNat) ⟨0,Nat.zero_le _,rfl⟩ ?_
 rintro _ ⟨j,hj,rfl⟩
 dsimp only
 refine Br.dec (λhl=>?_) λhl=>?_
 ·refine ⟨rfl,rfl,?_,rfl,rfl,⟨j+1,by omega,?_⟩,?_⟩
  ·show (Bd j).length+2<=4294967296
   rw [Lw];omega
  ·rw [Tq,Ce (n:=(j:Int)+1+1) (by omega) (by omega),Ce (n:=0-((j:Int)+1)) (by omega) (by omega),Int.zero_sub]
   rfl
  ·rw [Ce (by omega) (by omega)];omega
 ·have:j=List.length p.2.2.1:=by omega
  subst this
  rw [Ed]
theorem jy:Sound Try.prog 96 Mz:=
 Sound.Dl Bz Ax mixed Try.func96 (by kernel_rfl) (by kernel_rfl) λx h=>tw x.1 h
theorem DR {p:PP} {room:Int} (hr:roomy room) (h: ¬bf p room<0):(Qd p.2.2.1:Int)<=room-bf p room/\roomy (bf p room):=by
 unfold bf at h⊢
 split at h
 ·exact absurd (show (-1:Int)<0 by decide) h
 ·rename_i h1
  rw [if_neg h1]
  split at h
  ·exact absurd (show (-1:Int)<0 by decide) h
  ·rename_i h2
   rw [if_neg h2]
   have e2:=DQ h2
   obtain ⟨r1,r2⟩:=hr
   unfold roomy
   omega
end Go.Proofs.Ytjbdmibbbpdnnaa

namespace Go.Proofs.Ytjbdmibbbpdnnaa
open Go.RowKit
def pR (v:Int):List Int->Nat
 | []=>0
 |x::r=>if x>v then pR v r+1 else 0
def GQ (v:Int) (t:List Int):Option (List Int):=if pR v t=0 then none else some (Mi t ((pR v t-1:Nat):Int)::(t.set (pR v t-1) v).reverse)
def bd:List Int->Option (List Int)
 | []=>none
 |v::t=>match bd t with
  |some t'=>some (v::t')
  |none=>GQ v t
theorem ta {s s':List Int} (h:bd s=some s'): ∀pre:List Int,bd (pre++s)=some (pre++s')
 | []=>h
 |v::p=>by rw [List.cons_append,bd,ta h p];rfl
theorem HG {α:Type} (pre:List α) (v a:α) (t:List α):(pre++v::t).set pre.length a=pre++a::t:=by
 rw [List.set_append,if_neg (by omega)];simp
inductive xa:List Int->List (List Int)->List Int->Prop where
 |one (a:List Int):xa a [a] a
 |more {a c b:List Int} {L:List (List Int)} :bd a=some c->xa c L b->xa a (a::L) b
theorem xa.cons {a b:List Int} {L:List (List Int)} (h:xa a L b) (v:Int):xa (v::a) (L.map (v:: ·)) (v::b):=by
 induction h with
 |one a=>exact .one _
 |more h3 _ ih=>exact .more (ta h3 [v]) ih
theorem xa.head {a b:List Int} {L:List (List Int)} (h:xa a L b): ∃M,L=a::M:=by
 cases h with
 |one=>exact ⟨_,rfl⟩
 |more _ _=>exact ⟨_,rfl⟩
theorem xa.at {a b:List Int} {L:List (List Int)} (h:xa a L b): ∀j (hj:j<L.length),(∀h2:j+1<L.length,bd L[j]=some L[j+1])/\(j+1=L.length->L[j]=b):=by
 induction h with
 |one a=>
  intro j hj
  simp only [List.length_singleton] at hj
  have:j=0:=by omega
  subst this
  exact ⟨λh2=>by simp at h2,λ_=>rfl⟩
 |more h3 h4 ih=>
  intro j hj
  rcases j with _|j
  ·obtain ⟨M,hM⟩:=h4.head
   refine ⟨λh2=>?_,λh2=>?_⟩
   ·simp only [List.getElem_cons_zero,List.getElem_cons_succ]
    subst hM
    exact h3
   ·subst hM;simp at h2
  ·have:=ih j (by simpa using hj)
   refine ⟨λh2=>?_,λh2=>?_⟩
   ·simp only [List.getElem_cons_succ]
    exact this.1 (by simpa using h2)
   ·simp only [List.getElem_cons_succ]
    exact this.2 (by simpa using h2)
theorem xa.distinct {a b:List Int} {L:List (List Int)} (h:xa a L b) (hb:bd b=none): ∀k i j (hi:i<L.length) (hj:j<L.length),L.length-j=k->i<j->L[i]≠L[j]:=by
 intro k
 induction k with
 |zero=>intro i j hi hj hk;omega
 |succ k ih=>
  intro i j hi hj hk dR he
  by_cases e:j+1<L.length
  ·have h1:=(h.at i hi).1 (by omega)
   have h2:=(h.at j hj).1 e
   rw [he,h2] at h1
   exact ih (i+1) (j+1) (by omega) e (by omega) (by omega) (Option.some.inj h1).symm
  ·have h1:=(h.at i hi).1 (by omega)
   have h2:=(h.at j hj).2 (by omega)
   rw [he,h2,hb] at h1
   cases h1
theorem xa.idx {a b:List Int} {L:List (List Int)} (h:xa a L b) (hb:bd b=none) {j:Nat} (hj:j<L.length):L.idxOf L[j]=j:=by
 have h1:L.idxOf L[j]<L.length:=List.idxOf_lt_length_of_mem (List.getElem_mem _)
 have h2:L[L.idxOf L[j]]=L[j]:=List.getElem_idxOf h1
 rcases Nat.lt_trichotomy (L.idxOf L[j]) j with h3|h3|h3
 ·exact absurd h2 (h.distinct hb _ _ _ h1 hj rfl h3)
 ·exact h3
 ·exact absurd h2.symm (h.distinct hb _ _ _ hj h1 rfl h3)
end Go.Proofs.Ytjbdmibbbpdnnaa

namespace Go.Proofs.Ytjbdmibbbpdnnaa
open Go.RowKit
def Bx:List Int->List Int->Int
 | [],[]=>0
 | [],_::_=> -1
 |_::_,[]=>1
 |x::a,y::b=>if x<y then-1 else if x>y then 1 else Bx a b
def Yf (a b:List Int):Bool:=decide (Bx a b<0)
noncomputable abbrev gY:Spec:=Dl (.pair (.oslice tI) .unit) tL false true (λx=>short (x.1.getD [])) (λx=>x.1.getD [])
noncomputable abbrev fJ:Spec:=Dl (.pair tL .unit) tL false true (λx=>short x.1) (λx=>x.1)
noncomputable abbrev Pp:Spec:=Dl (.pair tL (.pair tL .unit)) .bool false true (λx=>short x.1/\List.length x.1=List.length x.2.1) (λx=>Yf x.1 x.2.1)
theorem zB (xs:Option (List Int)) (P:List Int->Prop):(Br xs.isNone (P (List.take 0 (List.drop 0 []))) (0=0/\0=([]:List Int).length/\0+(xs.getD []).length<=Bs/\P (List.take ([]++xs.getD []).length (List.drop 0 ([]++xs.getD [])))))=fnW Cy (look []) gY Try.f145 (xs,()) P:=by kernel_rfl
theorem wX (a b:List Int) (P:Bool->Prop):(Co (λ(v3:Int×PUnit) (k4:Int×PUnit->Prop)=>Br (decide (v3.1<(↑a.length:Int))) (∃(y5:Int),idx a v3.1=some y5/\ ∃(y6:Int),idx b v3.1=some y6/\Br (y5 !=y6) (∃(y7:Int),idx a v3.1=some y7/\ ∃(y8:Int),idx b v3.1=some y8/\P (decide (y7<y8))) (k4 (IntKind.i64.wrap (v3.1+(1:Int)),()))) (P false)) ((0:Int),PUnit.unit))=fnW Cy (look []) Pp Try.f144 (a,b,()) P:=by kernel_rfl
theorem Sound.ofO {P:Program} {f:FuncId} {e:Ty} {r res:Ty} {Dt fresh:Bool} {pre:(Ty.pair (.oslice e) r).den->Prop} {val:(Ty.pair (.oslice e) r).den->res.den} {bl:(Ty.pair (.slice e) r).den->Prop} {mb:(Ty.pair (.slice e) r).den->res.den}
  (h:Sound P f (Go.Proofs.Ytjbdmibbbpdnnaa.Dl (.pair (.oslice e) r) res Dt fresh pre val))
  (hp: ∀(o:Option (List e.den)) (y:r.den),bl (o.getD [],y)->pre (o,y)/\val (o,y)=mb (o.getD [],y)):Sound P f (Go.Proofs.Ytjbdmibbbpdnnaa.Dl (.pair (.slice e) r) res Dt fresh bl mb):=by
 refine ⟨h.enter,λw S vs x y hS h2 h5=>?_⟩
 obtain ⟨xs,rest⟩:=x
 cases vs with
 |nil=>exact h2.elim
 |cons u us=>
  obtain ⟨h7,h8⟩:=h2
  obtain ⟨ox,h9,rfl⟩:=h7.told
  have dS:bl (ox.getD [],rest):=Classical.byContradiction λhn=>by
   have:(Go.Proofs.Ytjbdmibbbpdnnaa.Dl (.pair (.slice e) r) res Dt fresh bl mb).fn (ox.getD [],rest)=none:=if_neg hn
   rw [this] at h5;cases h5
  obtain ⟨k1,k2⟩:=hp ox rest dS
  have hv:(Go.Proofs.Ytjbdmibbbpdnnaa.Dl (.pair (.slice e) r) res Dt fresh bl mb).fn (ox.getD [],rest)=some (mb (ox.getD [],rest)):=if_pos dS
  rw [hv] at h5
  have h5:=Option.some.inj h5
  exact h.calls w S (u::us) (ox,rest) y hS ⟨h9,h8⟩ ((if_pos k1).trans (by rw [k2];exact congrArg some h5))
theorem yU (xs:Option (List Int)) (h:short (xs.getD [])):fnW Cy (look []) gY Try.f145 (xs,()) (λ(z:List Int)=>z=xs.getD []):=by
 unfold short at h
 refine Eq.mp (zB xs _) ⟨λhn=>?_,λ_=>⟨rfl,rfl,by show 0+(xs.getD []).length<=4294967296;omega,?_⟩⟩
 ·cases xs with
  |none=>rfl
  |some y=>cases hn
 ·simp only [Ed,List.nil_append]
theorem nj:Sound Try.prog 145 gY:=
 Sound.Dl Bz Ax mixed Try.func145 (by kernel_rfl) (by kernel_rfl) λx h=>yU x.1 h
theorem qC:Sound Try.prog 145 fJ:=Sound.ofO nj λ_ _ h=>⟨h,rfl⟩
theorem w9 (a b:List Int) (h:short a/\a.length=b.length):fnW Cy (look []) Pp Try.f144 (a,b,()) (λ(z:Bool)=>z=Yf a b):=by
 obtain ⟨ha,hb⟩:=h
 unfold short at ha
 refine Eq.mp (wX a b _) ?_
 refine Ba a.length (λv=>v.1) (λj _=>Bx (a.drop j) (b.drop j)=Bx a b) rfl (by simp) ?_
 rintro j ⟨i,⟨⟩⟩ K hj hi KO hK
 dsimp only at hi⊢
 subst hi
 refine Br.dec (λhl=>?_) λhl=>?_
 ·have hl:j<a.length:=by omega
  have YD:j<b.length:=by omega
  rw [List.drop_eq_getElem_cons hl,List.drop_eq_getElem_cons YD] at KO
  simp only [Bx] at KO
  refine ⟨_,Bf hl,_,Bf YD,⟨λEv=>?_,λEv=>?_⟩⟩
  ·refine ⟨_,Bf hl,_,Bf YD,?_⟩
   have Ev:a[j]≠b[j]:=by simpa using Ev
   unfold Yf
   rw [<-KO]
   by_cases h1:a[j]<b[j]
   ·rw [if_pos h1];simp [h1]
   ·rw [if_neg h1,if_pos (by omega)];simp [h1]
  ·have Ev:a[j]=b[j]:=by simpa using Ev
   rw [if_neg (by omega),if_neg (by omega)] at KO
   rw [Au (by omega)]
   exact hK hl _ rfl KO
 ·have:j=a.length:=by omega
  subst this
  rw [List.drop_length,List.drop_eq_nil_of_le (by omega)] at KO
  unfold Yf
  rw [<-KO]
  rfl
theorem lO:Sound Try.prog 144 Pp:=
 Sound.Dl Bz Ax mixed Try.func144 (by kernel_rfl) (by kernel_rfl) λx h=>w9 x.1 x.2.1 h
end Go.Proofs.Ytjbdmibbbpdnnaa

namespace Go.Proofs.Ytjbdmibbbpdnnaa
open Go.RowKit
abbrev SS:Type:=List (List Int)×List Int×List Int×Bool×Unit
abbrev rLS:CK:= .row tL 25
abbrev rN:CK:= .row tI 3
def Cn (L:List (List Int)) (Ha:List Int) (s:List Int):Nat:=(Ha.takeWhile λi=>Yf (L.getD i.toNat []) s).length
structure Cq (m:Nat) (L:List (List Int)) (Ha:List Int):Prop where
 kB:L.length<=3000
 len: ∀x∈L,x.length=m
 short:m<=20
 perm:Ha.Perm (upto L.length)
 sorted:Ha.Pairwise λi j=>Yf (L.getD i.toNat []) (L.getD j.toNat [])=true
def Zv (L:List (List Int)) (s:List Int):Int:=if s∈L then (L.idxOf s:Int) else-1
def Ok (Ha:List Int) (k:Nat) (x:Int):List Int:=Ha.take k++x::Ha.drop k
noncomputable abbrev Yx:Spec:=Dl (.pair Si (.pair tL .unit)) tI false true (λx=>Cq (List.length x.2.1) x.1.1 x.1.2.2.1) (λx=>(Cn x.1.1 x.1.2.2.1 x.2.1:Int))
noncomputable abbrev Jm:Spec:=Dl (.pair Si (.pair tL .unit)) tI false true (λx=>Cq (List.length x.2.1) x.1.1 x.1.2.2.1) (λx=>Zv x.1.1 x.2.1)
noncomputable abbrev ef:MSpec:=yN [some 4,none,none] [(false,rLS),(false,rL),(false,rN),(false, .Gh .bool),(false, .Gh tL),(false, .Gh tI)] false [some 4] [rLS,rL,rN, .Gh .bool]
 (λx=>Cq (List.length x.2.2.2.2.1) x.1 x.2.2.1/\List.length x.2.1<=3000) (λx=>((x.1++ [x.2.2.2.2.1],x.2.1++ [x.2.2.2.2.2.1],Ok x.2.2.1 (Cn x.1 x.2.2.1 x.2.2.2.2.1) (List.length x.1),x.2.2.2.1,()),()))
def Ro (L:List (List Int)):List Int:=(List.range L.length).foldl (λ(S:List Int) (i:Nat)=>Ok S (Cn (L.take i) S (L.getD i [])) (i:Int)) []
def Gp (g:List (List Int)) (x:List Int) (d:Int):List Int->List (List Int)->List Int->List (List Int)×List Int×Bool
 | [],L,D=>(L,D,true)
 |l::ls,L,D=>if Ac x (Ag g l)∈L then Gp g x d ls L D else if L.length=3000 then (L,D,false) else Gp g x d ls (L++ [Ac x (Ag g l)]) (D++ [d+1])
def Ia (g:List (List Int)) (ls:List Int):Nat->Nat->List (List Int)->List Int->List (List Int)×List Int×Bool
 |0,_,L,D=>(L,D,true)
 |f+1,k,L,D=>if k<L.length then (match Gp g (L.getD k []) (D.getD k 0) ls L D with
  |(L',D',true)=>Ia g ls f (k+1) L' D'
  |(L',D',false)=>(L',D',false)) else (L,D,true)
def Fo (g:List (List Int)) (s:List Int):List (List Int)×List Int×Bool:=Ia g (Bd g.length) 3001 0 [s] [0]
def Dq (g:List (List Int)) (s:List Int):SS:=((Fo g s).1,(Fo g s).2.1,Ro (Fo g s).1,(Fo g s).2.2,())
noncomputable abbrev Da:Spec:=Dl (.pair Ck (.pair tL .unit)) Si false false (λx=>Bc x.1=true/\List.length x.2.1<=20/\ ∀y∈x.2.1,0<=y/\y<x.1.1) (λx=>Dq x.1.2.2.1 x.2.1)
abbrev xX:Type:=Int×Int×List (List Int)×List Int×List Int×Bool×PUnit
theorem NT (f:List (List Int)×List Int×List Int×Bool×Unit) (s:List Int) (P:Int->Prop):(Co (λ(v3:xX) (k4:xX->Prop)=>Br (decide (v3.1<v3.2.1)) ((2:Int)≠(0:Int)/\ ∃(y5:Int),idx v3.2.2.2.2.1 (IntKind.i64.wrap ((IntKind.i64.wrap (v3.1+v3.2.1)).tdiv (2:Int)))=some y5/\ ∃(y6:List Int),idx v3.2.2.1 y5=some y6/\ ∃(y7:Bool),Pp.fn (y6,s,())=some y7/\Br y7 (k4 (IntKind.i64.wrap (IntKind.i64.wrap ((IntKind.i64.wrap (v3.1+v3.2.1)).tdiv (2:Int))+(1:Int)),v3.2.1,v3.2.2.1,v3.2.2.2.1,v3.2.2.2.2.1,v3.2.2.2.2.2.1,())) (k4 (v3.1,IntKind.i64.wrap ((IntKind.i64.wrap (v3.1+v3.2.1)).tdiv (2:Int)),v3.2.2.1,v3.2.2.2.1,v3.2.2.2.2.1,v3.2.2.2.2.2.1,()))) (P v3.1)) ((0:Int),(↑f.2.2.1.length:Int),f.1,f.2.1,f.2.2.1,f.2.2.2.1,PUnit.unit))=fnW Cy (look [(144,Pp)]) Yx Try.f104 (f,s,()) P:=by kernel_rfl
theorem EK (f:List (List Int)×List Int×List Int×Bool×Unit) (s:List Int) (P:Int->Prop):(∃(y3:Int),Yx.fn ((f.1,f.2.1,f.2.2.1,f.2.2.2.1,()),s,())=some y3/\Br (decide (y3<(↑f.2.2.1.length:Int))) (∃(y4:Int),idx f.2.2.1 y3=some y4/\ ∃(y5:List Int),idx f.1 y4=some y5/\ ∃(y6:Bool),Dc.fn (y5,s,())=some y6/\Br y6 (∃(y7:Int),idx f.2.2.1 y3=some y7/\P y7) (P (-1:Int))) (P (-1:Int)))=fnW Cy (look [(104,Yx),(105,Dc)]) Jm Try.f54 (f,s,()) P:=by kernel_rfl
theorem NS (L:List (List Int)) (D S:List Int) (b:Bool) (s:List Int) (d:Int) (P:((List (List Int)×List Int×List Int×Bool×Unit)×Unit)->Prop):(∃(y7:Int),Yx.fn ((List.take L.length (List.drop 0 L),List.take D.length (List.drop 0 D),List.take S.length (List.drop 0 S),b,()),s,())=some y7/\0=0/\S.length=S.length/\S.length+(List.take 1 (List.drop 0 [(0:Int)])).length<=Bs/\((0:Int)<=IntKind.i64.wrap (y7+(1:Int))/\IntKind.i64.wrap (y7+(1:Int))<=(↑(S++List.take 1 (List.drop 0 [(0:Int)])).length:Int)/\(↑(S++List.take 1 (List.drop 0 [(0:Int)])).length:Int)<=(↑(S++List.take 1 (List.drop 0 [(0:Int)])).length:Int))/\((0:Int)<=y7/\y7<=(↑(S++List.take 1 (List.drop 0 [(0:Int)])).length:Int)/\(↑(S++List.take 1 (List.drop 0 [(0:Int)])).length:Int)<=(↑(S++List.take 1 (List.drop 0 [(0:Int)])).length:Int))/\((0:Int)<=y7/\y7<(↑(S++List.take 1 (List.drop 0 [(0:Int)])).length:Int))/\0+y7.toNat<(Bk (S++List.take 1 (List.drop 0 [(0:Int)])) (0+(IntKind.i64.wrap (y7+(1:Int))).toNat) (List.take ((↑(S++List.take 1 (List.drop 0 [(0:Int)])).length:Int).toNat-(IntKind.i64.wrap (y7+(1:Int))).toNat) (List.take ((↑(S++List.take 1 (List.drop 0 [(0:Int)])).length:Int).toNat-y7.toNat) (List.drop (0+y7.toNat) (S++List.take 1 (List.drop 0 [(0:Int)])))))).length/\0=0/\L.length=L.length/\L.length+(List.take 1 (List.drop 0 [s])).length<=Bs/\0=0/\D.length=D.length/\D.length+(List.take 1 (List.drop 0 [d])).length<=Bs/\P ((List.take (L++List.take 1 (List.drop 0 [s])).length (List.drop 0 (L++List.take 1 (List.drop 0 [s]))),List.take (D++List.take 1 (List.drop 0 [d])).length (List.drop 0 (D++List.take 1 (List.drop 0 [d]))),List.take (S++List.take 1 (List.drop 0 [(0:Int)])).length (List.drop 0 ((Bk (S++List.take 1 (List.drop 0 [(0:Int)])) (0+(IntKind.i64.wrap (y7+(1:Int))).toNat) (List.take ((↑(S++List.take 1 (List.drop 0 [(0:Int)])).length:Int).toNat-(IntKind.i64.wrap (y7+(1:Int))).toNat) (List.take ((↑(S++List.take 1 (List.drop 0 [(0:Int)])).length:Int).toNat-y7.toNat) (List.drop (0+y7.toNat) (S++List.take 1 (List.drop 0 [(0:Int)])))))).set (0+y7.toNat) (↑L.length:Int))),b,()),()))=fnMW HQ (look [(104,Yx)]) ef Try.f149 (L,D,S,b,s,d,()) P:=by kernel_rfl
abbrev fT:Type:=Int×Int×ByteArray×List (List Int)×Bool×Bool×List (List Int)×List Int×List Int×List (List Int)×List Int×List Int×PUnit
abbrev u6:Type:=(List (List Int)×List Int×List Int×Bool×PUnit)×PUnit
theorem HX (p:Int×ByteArray×List (List Int)×Unit) (s:List Int) (P:(List (List Int)×List Int×List Int×Bool×Unit)->Prop):(∃(y3:List Int),Je.fn (s,())=some y3/\ ∃(y4:u6),ef.fn ([],[],[],false,y3,(0:Int),())=some y4/\ ∃(y5:List Int),Mz.fn ((p.1,p.2.1,p.2.2.1,()),())=some y5/\0=0/\0=([]:List Int).length/\0=0/\0=([]:List Int).length/\0=0/\0=([]:List Int).length/\0=0/\y4.1.1.length=y4.1.1.length/\0=0/\y4.1.2.1.length=y4.1.2.1.length/\0=0/\y4.1.2.2.1.length=y4.1.2.2.1.length/\Co (λ(v6:fT) (k7:fT->Prop)=>Br (decide (v6.1<(↑v6.2.2.2.2.2.2.2.2.2.1.length:Int))) (0=0/\v6.2.2.2.2.2.2.1.length=v6.2.2.2.2.2.2.1.length/\0=0/\v6.2.2.2.2.2.2.2.1.length=v6.2.2.2.2.2.2.2.1.length/\0=0/\v6.2.2.2.2.2.2.2.2.1.length=v6.2.2.2.2.2.2.2.2.1.length/\0=0/\v6.2.2.2.2.2.2.2.2.2.1.length=v6.2.2.2.2.2.2.2.2.2.1.length/\0=0/\v6.2.2.2.2.2.2.2.2.2.2.1.length=v6.2.2.2.2.2.2.2.2.2.2.1.length/\0=0/\v6.2.2.2.2.2.2.2.2.2.2.2.1.length=v6.2.2.2.2.2.2.2.2.2.2.2.1.length/\Co (λ(v8:fT) (k9:fT->Prop)=>Br (decide (v8.1<(↑y5.length:Int))) (((0:Int)<=v6.1/\v6.1<(↑v8.2.2.2.2.2.2.2.2.2.1.length:Int))/\ ∃(zL:List Int),v8.2.2.2.2.2.2.2.2.2.1[0+v6.1.toNat]?=some zL/\ ∃(zW:Int),idx y5 v8.1=some zW/\ ∃(OY:List Int),Wv.fn ((v8.2.1,v8.2.2.1,v8.2.2.2.1,()),zL,zW,())=some OY/\ ∃(x5:Int),Jm.fn ((List.take v8.2.2.2.2.2.2.2.2.2.1.length (List.drop 0 v8.2.2.2.2.2.2.2.2.2.1),List.take v8.2.2.2.2.2.2.2.2.2.2.1.length (List.drop 0 v8.2.2.2.2.2.2.2.2.2.2.1),List.take v8.2.2.2.2.2.2.2.2.2.2.2.1.length (List.drop 0 v8.2.2.2.2.2.2.2.2.2.2.2.1),v8.2.2.2.2.2.1,()),OY,())=some x5/\Br (decide (x5>=(0:Int))) (0=0/\v8.2.2.2.2.2.2.1.length=v8.2.2.2.2.2.2.1.length/\0=0/\v8.2.2.2.2.2.2.2.1.length=v8.2.2.2.2.2.2.2.1.length/\0=0/\v8.2.2.2.2.2.2.2.2.1.length=v8.2.2.2.2.2.2.2.2.1.length/\0=0/\v8.2.2.2.2.2.2.2.2.2.1.length=v8.2.2.2.2.2.2.2.2.2.1.length/\0=0/\v8.2.2.2.2.2.2.2.2.2.2.1.length=v8.2.2.2.2.2.2.2.2.2.2.1.length/\0=0/\v8.2.2.2.2.2.2.2.2.2.2.2.1.length=v8.2.2.2.2.2.2.2.2.2.2.2.1.length/\k9 (IntKind.i64.wrap (v8.1+(1:Int)),v8.2.1,v8.2.2.1,v8.2.2.2.1,v8.2.2.2.2.1,v8.2.2.2.2.2.1,v8.2.2.2.2.2.2.1,v8.2.2.2.2.2.2.2.1,v8.2.2.2.2.2.2.2.2.1,v8.2.2.2.2.2.2.2.2.2.1,v8.2.2.2.2.2.2.2.2.2.2.1,v8.2.2.2.2.2.2.2.2.2.2.2.1,())) (Br ((↑v8.2.2.2.2.2.2.2.2.2.1.length:Int)==(3000:Int)) (P (List.take v8.2.2.2.2.2.2.2.2.2.1.length (List.drop 0 v8.2.2.2.2.2.2.2.2.2.1),List.take v8.2.2.2.2.2.2.2.2.2.2.1.length (List.drop 0 v8.2.2.2.2.2.2.2.2.2.2.1),List.take v8.2.2.2.2.2.2.2.2.2.2.2.1.length (List.drop 0 v8.2.2.2.2.2.2.2.2.2.2.2.1),v8.2.2.2.2.2.1,())) (((0:Int)<=v6.1/\v6.1<(↑v8.2.2.2.2.2.2.2.2.2.2.1.length:Int))/\ ∃(bY:Int),v8.2.2.2.2.2.2.2.2.2.2.1[0+v6.1.toNat]?=some bY/\0=0/\v8.2.2.2.2.2.2.2.2.2.1.length=v8.2.2.2.2.2.2.2.2.2.1.length/\0=0/\v8.2.2.2.2.2.2.2.2.2.2.1.length=v8.2.2.2.2.2.2.2.2.2.2.1.length/\0=0/\v8.2.2.2.2.2.2.2.2.2.2.2.1.length=v8.2.2.2.2.2.2.2.2.2.2.2.1.length/\ ∃(jg:u6),ef.fn (v8.2.2.2.2.2.2.2.2.2.1,v8.2.2.2.2.2.2.2.2.2.2.1,v8.2.2.2.2.2.2.2.2.2.2.2.1,v8.2.2.2.2.2.1,OY,IntKind.i64.wrap (bY+(1:Int)),())=some jg/\0=0/\v8.2.2.2.2.2.2.1.length=v8.2.2.2.2.2.2.1.length/\0=0/\v8.2.2.2.2.2.2.2.1.length=v8.2.2.2.2.2.2.2.1.length/\0=0/\v8.2.2.2.2.2.2.2.2.1.length=v8.2.2.2.2.2.2.2.2.1.length/\0=0/\jg.1.1.length=jg.1.1.length/\0=0/\jg.1.2.1.length=jg.1.2.1.length/\0=0/\jg.1.2.2.1.length=jg.1.2.2.1.length/\k9 (IntKind.i64.wrap (v8.1+(1:Int)),v8.2.1,v8.2.2.1,v8.2.2.2.1,v8.2.2.2.2.1,jg.1.2.2.2.1,v8.2.2.2.2.2.2.1,v8.2.2.2.2.2.2.2.1,v8.2.2.2.2.2.2.2.2.1,jg.1.1,jg.1.2.1,jg.1.2.2.1,())))) (0=0/\v8.2.2.2.2.2.2.1.length=v8.2.2.2.2.2.2.1.length/\0=0/\v8.2.2.2.2.2.2.2.1.length=v8.2.2.2.2.2.2.2.1.length/\0=0/\v8.2.2.2.2.2.2.2.2.1.length=v8.2.2.2.2.2.2.2.2.1.length/\0=0/\v8.2.2.2.2.2.2.2.2.2.1.length=v8.2.2.2.2.2.2.2.2.2.1.length/\0=0/\v8.2.2.2.2.2.2.2.2.2.2.1.length=v8.2.2.2.2.2.2.2.2.2.2.1.length/\0=0/\v8.2.2.2.2.2.2.2.2.2.2.2.1.length=v8.2.2.2.2.2.2.2.2.2.2.2.1.length/\k7 (IntKind.i64.wrap (v6.1+(1:Int)),v8.2.1,v8.2.2.1,v8.2.2.2.1,v8.2.2.2.2.1,v8.2.2.2.2.2.1,v8.2.2.2.2.2.2.1,v8.2.2.2.2.2.2.2.1,v8.2.2.2.2.2.2.2.2.1,v8.2.2.2.2.2.2.2.2.2.1,v8.2.2.2.2.2.2.2.2.2.2.1,v8.2.2.2.2.2.2.2.2.2.2.2.1,()))) ((0:Int),v6.2.1,v6.2.2.1,v6.2.2.2.1,v6.2.2.2.2.1,v6.2.2.2.2.2.1,v6.2.2.2.2.2.2.1,v6.2.2.2.2.2.2.2.1,v6.2.2.2.2.2.2.2.2.1,v6.2.2.2.2.2.2.2.2.2.1,v6.2.2.2.2.2.2.2.2.2.2.1,v6.2.2.2.2.2.2.2.2.2.2.2.1,PUnit.unit)) (P (List.take v6.2.2.2.2.2.2.2.2.2.1.length (List.drop 0 v6.2.2.2.2.2.2.2.2.2.1),List.take v6.2.2.2.2.2.2.2.2.2.2.1.length (List.drop 0 v6.2.2.2.2.2.2.2.2.2.2.1),List.take v6.2.2.2.2.2.2.2.2.2.2.2.1.length (List.drop 0 v6.2.2.2.2.2.2.2.2.2.2.2.1),true,()))) ((0:Int),p.1,p.2.1,p.2.2.1,false,y4.1.2.2.2.1,[],[],[],y4.1.1,y4.1.2.1,y4.1.2.2.1,PUnit.unit))=fnW NL (look [(123,Je),(149,ef),(96,Mz),(115,Wv),(54,Jm)]) Da Try.f112 (p,s,()) P:=by kernel_rfl
theorem ko: ∀ {a b:List Int},Bx a b=0↔a=b
 | [],[]=>by simp [Bx]
 | [],_::_=>by simp [Bx]
 |_::_,[]=>by simp [Bx]
 |x::a,y::b=>by
  simp only [Bx,List.cons.injEq]
  by_cases h1:x<y
  ·rw [if_pos h1]
   exact ⟨λh=>by omega,λh=>by omega⟩
  ·rw [if_neg h1]
   by_cases h2:x>y
   ·rw [if_pos h2]
    exact ⟨λh=>by omega,λh=>by omega⟩
   ·rw [if_neg h2,ko]
    exact ⟨λh=>⟨by omega,h⟩,λh=>h.2⟩
theorem xg: ∀(a b:List Int),Bx b a= -Bx a b
 | [],[]=>by simp [Bx]
 | [],_::_=>by simp [Bx]
 |_::_,[]=>by simp [Bx]
 |x::a,y::b=>by
  simp only [Bx]
  rcases Int.lt_trichotomy x y with h1|h1|h1
  ·simp [h1,show ¬y<x by omega]
  ·subst h1
   simp [xg a b]
  ·simp [h1,show ¬x<y by omega]
theorem nN: ∀ {a b c:List Int},Bx a b<0->Bx b c<0->Bx a c<0
 | [],[],_,h,_=>by simp [Bx] at h
 |_::_,[],_,h,_=>by simp [Bx] at h
 |_,_::_,[],_,h=>by simp [Bx] at h
 | [],_::_,_::_,_,_=>by simp [Bx]
 |x::a,y::b,z::c,h1,h2=>by
  simp only [Bx] at h1 h2⊢
  by_cases e1:x<y
  ·by_cases e2:y<z
   ·rw [if_pos (by omega)];omega
   ·rw [if_neg e2] at h2
    by_cases e3:y>z
    ·rw [if_pos e3] at h2;omega
    ·rw [if_pos (by omega)];omega
  ·rw [if_neg e1] at h1
   by_cases e2:x>y
   ·rw [if_pos e2] at h1;omega
   ·rw [if_neg e2] at h1
    by_cases e3:y<z
    ·rw [if_pos (by omega)];omega
    ·rw [if_neg e3] at h2
     by_cases e4:y>z
     ·rw [if_pos e4] at h2;omega
     ·rw [if_neg e4] at h2
      rw [if_neg (by omega),if_neg (by omega)]
      exact nN h1 h2
theorem lt_iff {a b:List Int} :Yf a b=true↔Bx a b<0:=decide_eq_true_iff
theorem yK {a b c:List Int} (h1:Yf a b=true) (h2:Yf b c=true):Yf a c=true:=lt_iff.2 (nN (lt_iff.1 h1) (lt_iff.1 h2))
theorem dY (a:List Int):Yf a a=false:=by
 have:Bx a a=0:=ko.2 rfl
 unfold Yf;rw [this];rfl
theorem CH {a b:List Int} (h:Yf a b=false) (Ev:a≠b):Yf b a=true:=by
 rw [lt_iff,xg a b]
 have h1: ¬Bx a b<0:= λh'=>by rw [lt_iff.2 h'] at h;cases h
 have h2:Bx a b≠0:= λh'=>Ev (ko.1 h')
 omega
theorem dj {α:Type} (q:α->Bool): ∀(l:List α),l.Pairwise (λi j=>q j=true->q i=true)-> ∀k (hk:k<l.length),k<(l.takeWhile q).length↔q l[k]=true
 | [],_,k,hk=>by simp at hk
 |a::l,h,k,hk=>by
  obtain ⟨h1,h2⟩:=List.pairwise_cons.1 h
  by_cases ha:q a=true
  ·rw [List.takeWhile_cons_of_pos ha]
   rcases k with _|k
   ·simpa using ha
   ·simp only [List.length_cons,List.getElem_cons_succ,Nat.add_lt_add_iff_right]
    exact dj q l h2 k (by simpa using hk)
  ·rw [List.takeWhile_cons_of_neg ha]
   simp only [List.length_nil,Nat.not_lt_zero,false_iff]
   rcases k with _|k
   ·exact ha
   ·simp only [List.getElem_cons_succ]
    exact λhq=>ha (h1 _ (List.getElem_mem _) hq)
theorem Cq.kY {m:Nat} {L:List (List Int)} {Ha:List Int} (h:Cq m L Ha):Ha.length=L.length:=by rw [h.perm.length_eq,Tz]
theorem Cq.idx {m:Nat} {L:List (List Int)} {Ha:List Int} (h:Cq m L Ha) {k:Nat} (hk:k<Ha.length):0<=Ha[k]/\Ha[k]<L.length:=Jk.1 (h.perm.mem_iff.1 (List.getElem_mem hk))
theorem Cq.Wy {m:Nat} {L:List (List Int)} {Ha:List Int} (h:Cq m L Ha) (s:List Int) {k:Nat} (hk:k<Ha.length):k<Cn L Ha s↔Yf (L.getD Ha[k].toNat []) s=true:=
 dj _ Ha (h.sorted.imp λdR hj=>yK dR hj) k hk
theorem xP (L:List (List Int)) (Ha s:List Int):Cn L Ha s<=Ha.length:=(List.takeWhile_sublist _).length_le
theorem Cq.inj {m:Nat} {L:List (List Int)} {Ha:List Int} (h:Cq m L Ha) {i j:Nat} (hi:i<L.length) (hj:j<L.length) (e:L[i]=L[j]):i=j:=by
 have mem: ∀i,i<L.length->(i:Int)∈Ha:= λi hi=>h.perm.mem_iff.2 (Jk.2 ⟨by omega,by omega⟩)
 obtain ⟨p,hp,ep⟩:=List.mem_iff_getElem.1 (mem i hi)
 obtain ⟨q,hq,eq⟩:=List.mem_iff_getElem.1 (mem j hj)
 have get: ∀i (hi:i<L.length),L.getD ((i:Int)).toNat []=L[i]:= λi hi=>by rw [Int.toNat_natCast,List.getD_eq_getElem?_getD,List.getElem?_eq_getElem hi];rfl
 rcases Nat.lt_trichotomy p q with h1|h1|h1
 ·have:=List.pairwise_iff_getElem.1 h.sorted p q hp hq h1
  rw [ep,eq,get i hi,get j hj,e,dY] at this
  cases this
 ·subst h1
  rw [ep] at eq
  omega
 ·have:=List.pairwise_iff_getElem.1 h.sorted q p hq hp h1
  rw [ep,eq,get i hi,get j hj,e,dY] at this
  cases this
theorem Nk {L:List (List Int)} {k:Nat} (h:k<L.length):L.getD k []=L[k]:=by rw [List.getD_eq_getElem?_getD,List.getElem?_eq_getElem h];rfl
theorem Cq.p9 {m:Nat} {L:List (List Int)} {Ha:List Int} (h:Cq m L Ha) {s:List Int} :
  (∃hk:Cn L Ha s<Ha.length,L.getD Ha[Cn L Ha s].toNat []=s/\Zv L s=Ha[Cn L Ha s])\/(Zv L s= -1/\ ∀hk:Cn L Ha s<Ha.length,L.getD Ha[Cn L Ha s].toNat []≠s):=by
 by_cases hm:s∈L
 ·left
  obtain ⟨j,hj,rfl⟩:=List.mem_iff_getElem.1 hm
  obtain ⟨p,hp,ep⟩:=List.mem_iff_getElem.1 (h.perm.mem_iff.2 (Jk.2 ⟨by omega,by omega⟩):(j:Int)∈Ha)
  have gj:L.getD Ha[p].toNat []=L[j]:=by rw [ep,Int.toNat_natCast,Nk hj]
  have hs:Cn L Ha L[j]=p:=by
   have h1: ¬p<Cn L Ha L[j]:= λh1=>by
    have:=(h.Wy L[j] hp).1 h1
    rw [gj,dY] at this;cases this
   have h2: ¬Cn L Ha L[j]<p:= λh2=>by
    have h3:=(h.Wy L[j] (k:=Cn L Ha L[j]) (by omega)).2 (by
     have:=List.pairwise_iff_getElem.1 h.sorted (Cn L Ha L[j]) p (by omega) hp h2
     rw [gj] at this;exact this)
    omega
   omega
  have hx:L.idxOf L[j]=j:=by
   have h1:L.idxOf L[j]<L.length:=List.idxOf_lt_length_of_mem hm
   exact h.inj h1 hj (List.getElem_idxOf h1)
  refine ⟨by omega,?_,?_⟩
  ·simp only [hs];exact gj
  ·unfold Zv
   rw [if_pos hm,hx]
   simp only [hs];exact ep.symm
 ·right
  refine ⟨by unfold Zv;rw [if_neg hm],λhk e=>hm ?_⟩
  have hi:=h.idx hk
  rw [Nk (by omega)] at e
  rw [<-e]
  exact List.getElem_mem _
theorem BW (Ha:List Int) (k:Nat) (x:Int):(Ok Ha k x).Perm (x::Ha):=by
 unfold Ok
 refine List.perm_middle.trans (List.Perm.cons x ?_)
 rw [List.take_append_drop]
theorem Cq.add {m:Nat} {L:List (List Int)} {Ha s:List Int} (h:Cq m L Ha) (hn:s∉L) (hl:s.length=m) (hr:L.length<3000):Cq m (L++ [s]) (Ok Ha (Cn L Ha s) L.length):=by
 have sl: ∀i∈Ha,(L++ [s]).getD i.toNat []=L.getD i.toNat []:= λi hi=>by
  have:=Jk.1 (h.perm.mem_iff.1 hi)
  rw [List.getD_eq_getElem?_getD,List.getD_eq_getElem?_getD,List.getElem?_append_left (by omega)]
 have PH:(L++ [s]).getD ((L.length:Int)).toNat []=s:=by
  rw [Int.toNat_natCast,List.getD_eq_getElem?_getD,List.getElem?_append_right (by omega),Nat.sub_self];rfl
 refine ⟨by rw [List.length_append,List.length_singleton];omega,λx hx=>?_,h.short,?_,?_⟩
 ·rcases List.mem_append.1 hx with hx|hx
  ·exact h.len x hx
  ·rw [List.mem_singleton.1 hx];exact hl
 ·refine (BW _ _ _).trans ?_
  rw [List.length_append,List.length_singleton,Xd]
  exact (List.Perm.cons _ h.perm).trans (List.perm_append_singleton _ _).symm
 ·unfold Ok
  have hs:=h.sorted
  rw [<-List.take_append_drop (Cn L Ha s) Ha] at hs
  obtain ⟨s1,s2,s3⟩:=List.pairwise_append.1 hs
  have mt: ∀i∈Ha.take (Cn L Ha s),i∈Ha/\Yf (L.getD i.toNat []) s=true:= λi hi=>by
   obtain ⟨k,hk,rfl⟩:=List.mem_iff_getElem.1 hi
   have QL:k<Cn L Ha s:=by rw [List.length_take] at hk;omega
   have UT:k<Ha.length:=by rw [List.length_take] at hk;omega
   rw [List.getElem_take]
   exact ⟨List.getElem_mem _,(h.Wy s UT).1 QL⟩
  have md: ∀i∈Ha.drop (Cn L Ha s),i∈Ha/\Yf s (L.getD i.toNat [])=true:= λi hi=>by
   obtain ⟨k,hk,rfl⟩:=List.mem_iff_getElem.1 hi
   rw [List.length_drop] at hk
   have UT:Cn L Ha s+k<Ha.length:=by omega
   rw [List.getElem_drop]
   refine ⟨List.getElem_mem _,CH ?_ λe=>hn ?_⟩
   ·exact Bool.eq_false_iff.2 λhh=>by
     have:=(h.Wy s UT).2 hh
     omega
   ·have hi:=h.idx UT
    rw [Nk (by omega)] at e
    rw [<-e];exact List.getElem_mem _
  refine List.pairwise_append.2 ⟨s1.imp_of_mem λ {a b} ha hb mC=>?_,List.pairwise_cons.2 ⟨λb hb=>?_,s2.imp_of_mem λ {a b} ha hb mC=>?_⟩,λa ha b hb=>?_⟩
  ·rw [sl a (mt a ha).1,sl b (mt b hb).1];exact mC
  ·rw [PH,sl b (md b hb).1];exact (md b hb).2
  ·rw [sl a (md a ha).1,sl b (md b hb).1];exact mC
  ·rcases List.mem_cons.1 hb with rfl|hb
   ·rw [PH,sl a (mt a ha).1];exact (mt a ha).2
   ·rw [sl a (mt a ha).1,sl b (md b hb).1];exact s3 a ha b hb
theorem Za (L:List (List Int)) (s:List Int):Ro (L++ [s])=Ok (Ro L) (Cn L (Ro L) s) L.length:=by
 unfold Ro
 rw [List.length_append,List.length_singleton,List.range_succ,List.foldl_append]
 have e: ∀(is:List Nat) (S:List Int),(∀i∈is,i<L.length)->is.foldl (λ(S:List Int) (i:Nat)=>Ok S (Cn ((L++ [s]).take i) S ((L++ [s]).getD i [])) (i:Int)) S=is.foldl (λ(S:List Int) (i:Nat)=>Ok S (Cn (L.take i) S (L.getD i [])) (i:Int)) S:=by
  intro is
  induction is with
  |nil=>intro S _;rfl
  |cons i is ih=>
   intro S h
   have hi:=h i (by simp)
   rw [List.foldl_cons,List.foldl_cons,ih _ λj hj=>h j (List.mem_cons_of_mem _ hj)]
   congr 2
   rw [List.take_append_of_le_length (by omega),List.getD_eq_getElem?_getD,List.getElem?_append_left hi,<-List.getD_eq_getElem?_getD]
 rw [e _ _ λi hi=>List.mem_range.1 hi]
 simp only [List.foldl_cons,List.foldl_nil]
 congr 2
 ·rw [List.take_append_of_le_length (Nat.le_refl _),List.take_length]
 ·rw [List.getD_eq_getElem?_getD,List.getElem?_append_right (by omega),Nat.sub_self];rfl
theorem fK {m:Nat} (h:m<=20):Cq m [] []:=⟨by simp,λx hx=>(by cases hx),h,by simp [upto],List.Pairwise.nil⟩
theorem BU {α:Type} {xs:List α} {y:Int} (h0:0<=y) (h:y.toNat<xs.length):idx xs y=some xs[y.toNat]:=by
 unfold idx
 rw [if_pos h0,List.getElem?_eq_getElem h]
theorem MY (f:SS) (s:List Int) (h:Cq s.length f.1 f.2.2.1):fnW Cy (look [(144,Pp)]) Yx Try.f104 (f,s,()) (λ(z:Int)=>z=(Cn f.1 f.2.2.1 s:Int)):=by
 obtain ⟨L,D,Ha,b,⟨⟩⟩:=f
 dsimp only at h⊢
 have hle:=xP L Ha s
 have GB:=h.kY
 have yo:=h.kB
 refine Eq.mp (NT (L,D,Ha,b,()) s _) ?_
 refine Co.mk (λv=>v.2.2.1=L/\v.2.2.2.2.1=Ha/\ ∃lo hi:Nat,v.1=lo/\v.2.1=hi/\lo<=hi/\hi<=Ha.length/\lo<=Cn L Ha s/\Cn L Ha s<=hi) (λv=>(v.2.1-v.1).toNat)
  ⟨rfl,rfl,0,Ha.length,rfl,rfl,by omega,by omega,by omega,hle⟩ ?_
 rintro ⟨lo',ga,L',D',zr,b',⟨⟩⟩ ⟨h1,h2,lo,hi,h3,h4,h5,h6,h7,h8⟩
 dsimp only at h1 h2 h3 h4⊢
 subst h1 h2 h3 h4
 refine Br.dec (λhl=>?_) λhl=>?_
 ·have em:IntKind.i64.wrap ((IntKind.i64.wrap ((lo:Int)+(hi:Int))).tdiv 2)=(((lo+hi)/2:Nat):Int):=by
   rw [Ce (n:=(lo:Int)+(hi:Int)) (by omega) (by omega),Int.tdiv_eq_ediv_of_nonneg (by omega),Ce (by omega) (by omega)]
   omega
  rw [em]
  have OL:(lo+hi)/2<zr.length:=by omega
  have FX:=h.idx OL
  have FY:zr[(lo+hi)/2].toNat<L'.length:=by omega
  have QH:=Nk FY
  have hlen:=h.len _ (List.getElem_mem FY)
  have zU:short L'[zr[(lo+hi)/2].toNat]:=by
   unfold short
   have:=h.short;omega
  refine ⟨by decide,_,Bf OL,_,BU FX.1 FY,_,if_pos ⟨zU,hlen⟩,⟨λhc=>?_,λhc=>?_⟩⟩
  ·have hc:Yf L'[zr[(lo+hi)/2].toNat] s=true:=hc
   have hs:=(h.Wy s OL).2 (by rw [QH];exact hc)
   rw [Au (by omega)]
   exact ⟨⟨rfl,rfl,(lo+hi)/2+1,hi,rfl,rfl,by omega,h6,by omega,h8⟩,by omega⟩
  ·have hc:Yf L'[zr[(lo+hi)/2].toNat] s=false:=hc
   have hs: ¬(lo+hi)/2<Cn L' zr s:= λhh=>by
    have:=(h.Wy s OL).1 hh
    rw [QH,hc] at this;cases this
   exact ⟨⟨rfl,rfl,lo,(lo+hi)/2,rfl,rfl,by omega,by omega,h7,by omega⟩,by omega⟩
 ·show (lo:Int)=_
  omega
theorem lQ:Sound Try.prog 104 Yx:=
 Sound.Dl Bz (Ae lO Ax) mixed Try.func104 (by kernel_rfl) (by kernel_rfl) λx h=>MY x.1 x.2.1 h
theorem CW (f:SS) (s:List Int) (h:Cq s.length f.1 f.2.2.1):fnW Cy (look [(104,Yx),(105,Dc)]) Jm Try.f54 (f,s,()) (λ(z:Int)=>z=Zv f.1 s):=by
 obtain ⟨L,D,Ha,b,⟨⟩⟩:=f
 dsimp only at h⊢
 refine Eq.mp (EK (L,D,Ha,b,()) s _) ⟨_,if_pos h,Br.dec (λhl=>?_) λhl=>?_⟩
 ·have hl:Cn L Ha s<Ha.length:=by
   have hl:((Cn L Ha s:Nat):Int)<(Ha.length:Int):=hl
   omega
  have FX:=h.idx hl
  have FY:Ha[Cn L Ha s].toNat<L.length:=by omega
  have QH:=Nk FY
  have hlen:=h.len _ (List.getElem_mem FY)
  have zU:short L[Ha[Cn L Ha s].toNat]:=by
   unfold short
   have:=h.short;omega
  refine ⟨_,Bf hl,_,BU FX.1 FY,_,if_pos zU,⟨λhc=>⟨_,Bf hl,?_⟩,λhc=>?_⟩⟩
  ·have hc:L[Ha[Cn L Ha s].toNat]=s:=of_decide_eq_true hc
   rcases h.p9 (s:=s) with ⟨hk,_,e⟩|⟨_,Ev⟩
   ·exact e.symm
   ·exact absurd (by rw [QH];exact hc) (Ev hl)
  ·have hc: ¬L[Ha[Cn L Ha s].toNat]=s:=of_decide_eq_false hc
   rcases h.p9 (s:=s) with ⟨hk,e,_⟩|⟨e,_⟩
   ·rw [QH] at e;exact absurd e hc
   ·exact e.symm
 ·have hl: ¬Cn L Ha s<Ha.length:=by
   have hl: ¬((Cn L Ha s:Nat):Int)<(Ha.length:Int):=hl
   omega
  rcases h.p9 (s:=s) with ⟨hk,e,_⟩|⟨e,_⟩
  ·exact absurd hk hl
  ·exact e.symm
theorem Yz:Sound Try.prog 54 Jm:=
 Sound.Dl Bz (Ae lQ (Ae ju Ax)) mixed Try.func54 (by kernel_rfl) (by kernel_rfl) λx h=>CW x.1 x.2.1 h
theorem vE {S:List Int} {k:Nat} (h:k<=S.length) (n:Int):
  (Bk (S++ [0]) (k+1) (List.take ((S++ [0]).length-(k+1)) (List.take ((S++ [0]).length-k) (List.drop k (S++ [0]))))).set k n=Ok S k n:=by
 obtain ⟨A,B,rfl,hA⟩: ∃A B,S=A++B/\A.length=k:=⟨S.take k,S.drop k,(List.take_append_drop k S).symm,by rw [List.length_take];omega⟩
 subst hA
 have e1:List.drop A.length (A++B++ [0])=B++ [0]:=by rw [List.append_assoc,List.drop_left]
 have e2:List.take ((A++B++ [0]).length-A.length) (B++ [0])=B++ [0]:=List.take_of_length_le (by simp only [List.length_append,List.length_singleton];omega)
 have e3:List.take ((A++B++ [0]).length-(A.length+1)) (B++ [0])=B:=by
  have:(A++B++ [(0:Int)]).length-(A.length+1)=B.length:=by simp only [List.length_append,List.length_singleton];omega
  rw [this,List.take_left]
 rw [e1,e2,e3]
 unfold Bk Ok
 have e4:List.drop (A.length+1+B.length) (A++B++ [0])= []:=List.drop_eq_nil_of_le (by simp only [List.length_append,List.length_singleton];omega)
 obtain ⟨c,hc⟩: ∃c,List.take (A.length+1) (A++B++ [0])=A++ [c]:=by
  rw [List.append_assoc,List.take_append,List.take_of_length_le (by omega)]
  cases B with
  |nil=>exact ⟨0,by simp⟩
  |cons b B=>exact ⟨b,by simp⟩
 rw [e4,hc,List.append_nil,List.append_assoc,List.singleton_append,HG,List.take_left,List.drop_left]
theorem MX (L:List (List Int)) (D S:List Int) (b:Bool) (s:List Int) (d:Int) (h:Cq s.length L S/\D.length<=3000):
  fnMW HQ (look [(104,Yx)]) ef Try.f149 (L,D,S,b,s,d,()) (λ(z:(List (List Int)×List Int×List Int×Bool×Unit)×Unit)=>z=((L++ [s],D++ [d],Ok S (Cn L S s) L.length,b,()),())):=by
 obtain ⟨h,hD⟩:=h
 have hle:=xP L S s
 have GB:=h.kY
 have yo:=h.kB
 refine Eq.mp (NS L D S b s d _) ?_
 rw [Ed L,Ed D,Ed S]
 refine ⟨_,if_pos h,?_⟩
 dsimp only
 have es:List.take 1 (List.drop 0 [(0:Int)])= [0]:=rfl
 have el:(S++ [(0:Int)]).length=S.length+1:=by simp
 rw [es,Au (by omega),Nat.zero_add,Nat.zero_add,Int.toNat_natCast,Int.toNat_natCast,Int.toNat_natCast]
 refine ⟨rfl,rfl,by show S.length+1<=4294967296;omega,⟨by omega,by omega,by omega⟩,⟨by omega,by omega,by omega⟩,⟨by omega,by omega⟩,?_,rfl,rfl,by show L.length+1<=4294967296;omega,rfl,rfl,by show D.length+1<=4294967296;omega,?_⟩
 ·unfold Bk
  simp only [List.length_append,List.length_take,List.length_drop,List.length_singleton]
  omega
 ·rw [vE hle,Ed,Ed]
  have e5:List.take (S++ [(0:Int)]).length (List.drop 0 (Ok S (Cn L S s) (L.length:Int)))=Ok S (Cn L S s) (L.length:Int):=by
   rw [List.drop_zero,List.take_of_length_le]
   unfold Ok
   simp only [List.length_append,List.length_cons,List.length_take,List.length_drop,List.length_nil]
   omega
  rw [e5]
  rfl
theorem wJ:Du Try.prog 149 ef:=
 Du.yN DZ (Ae lQ Ax) mixed Try.func149 (by kernel_rfl) (by kernel_rfl) λx h=>MX x.1 x.2.1 x.2.2.1 x.2.2.2.1 x.2.2.2.2.1 x.2.2.2.2.2.1 h
structure Rg (p:PP) (m:Nat) (L:List (List Int)) (D:List Int):Prop where
 ok:Cq m L (Ro L)
 len:D.length=L.length
 row: ∀x∈L,∀y∈x,0<=y/\y<p.1
 dep: ∀j (h:j<D.length),0<=D[j]/\D[j]<=j
theorem pZ {p:PP} (hv:Valid p) {x:List Int} {l:Int} (hx: ∀y∈x,0<=y/\y<p.1) (hl:Gv (List.length p.2.2.1) l):
  (Ac x (Ag p.2.2.1 l)).length=x.length/\ ∀y∈Ac x (Ag p.2.2.1 l),0<=y/\y<p.1:=by
 obtain ⟨h1,h2⟩:=gF hv hl
 refine ⟨Uh _ _,λy hy=>?_⟩
 have:=rW (n:=(Ag p.2.2.1 l).length) (λz hz=>by have:=hx z hz;omega) h2 y hy
 omega
theorem Rg.add {p:PP} {m:Nat} {L:List (List Int)} {D:List Int} (h:Rg p m L D) {y:List Int} {d:Int} (hn:y∉L) (hl:y.length=m) (hr:L.length<3000) (hy: ∀z∈y,0<=z/\z<p.1) (hd:0<=d/\d<=L.length):Rg p m (L++ [y]) (D++ [d]):=by
 have hlen:=h.len
 refine ⟨by rw [Za];exact h.ok.add hn hl hr,by simp [hlen],λx hx=>?_,λj hj=>?_⟩
 ·rcases List.mem_append.1 hx with hx|hx
  ·exact h.row x hx
  ·rw [List.mem_singleton.1 hx];exact hy
 ·by_cases e:j<D.length
  ·rw [List.getElem_append_left e];exact h.dep j e
  ·simp only [List.length_append,List.length_singleton] at hj
   have:j=D.length:=by omega
   subst this
   rw [List.getElem_append_right (by omega)]
   simp only [Nat.sub_self,List.getElem_cons_zero]
   omega
theorem c6 {p:PP} {s:List Int} (hs:s.length<=20) (hr: ∀y∈s,0<=y/\y<p.1):Rg p s.length [s] [0]:=by
 refine ⟨?_,rfl,λx hx=>by rw [List.mem_singleton.1 hx];exact hr,λj hj=>?_⟩
 ·have:=(fK hs).add (s:=s) (by simp) rfl (by simp)
  have e:Ro [s]=Ok [] (Cn [] [] s) 0:=Za [] s
  rw [e];exact this
 ·simp only [List.length_singleton] at hj
  have:j=0:=by omega
  subst this
  simp
theorem oe {L:List (List Int)} {s:List Int} :Zv L s>=0↔s∈L:=by
 unfold Zv
 split
 ·rename_i h;exact ⟨λ_=>h,λ_=>by omega⟩
 ·rename_i h;exact ⟨λhh=>by omega,λhh=>absurd hh h⟩
theorem HB (p:PP) (s:List Int) (h:Bc p=true/\s.length<=20/\ ∀y∈s,0<=y/\y<p.1):fnW NL (look [(123,Je),(149,ef),(96,Mz),(115,Wv),(54,Jm)]) Da Try.f112 (p,s,()) (λ(z:SS)=>z=Dq p.2.2.1 s):=by
 obtain ⟨hv,hs,hr⟩:=h
 have hV:=valid hv
 have yo:=hV.kB
 have KP:=c6 hs hr
 have zU:short s:=by unfold short;omega
 obtain ⟨ls,o0⟩: ∃ls,Bd (List.length p.2.2.1)=ls:=⟨_,rfl⟩
 refine Eq.mp (HX p s _) ⟨_,if_pos zU,_,if_pos ⟨fK hs,by show 0<=3000;omega⟩,ls,(if_pos (by show List.length p.2.2.1<=8;exact yo.2)).trans (congrArg some o0),rfl,rfl,rfl,rfl,rfl,rfl,rfl,rfl,rfl,rfl,rfl,rfl,?_⟩
 have e0:Ok [] (Cn [] [] s) ((([]:List (List Int)).length:Nat):Int)=Ro [s]:=(Za [] s).symm
 show Co _ ((0:Int),p.1,p.2.1,p.2.2.1,false,false,[],[],[],[s],[(0:Int)],Ok [] (Cn [] [] s) ((([]:List (List Int)).length:Nat):Int),PUnit.unit)
 rw [e0]
 have EW:ls.length<=16:=by rw [<-o0,Lw];omega
 have kP: ∀l∈ls,Gv (List.length p.2.2.1) l:= λl hl=>Mv (o0▸hl)
 have vB:Ia p.2.2.1 ls 3001 0 [s] [0]=Fo p.2.2.1 s:=by unfold Fo;rw [o0]
 refine Co.mk (λv=>v.2.1=p.1/\v.2.2.1=p.2.1/\v.2.2.2.1=p.2.2.1/\v.2.2.2.2.2.1=false/\ ∃k:Nat,v.1=k/\k<=v.2.2.2.2.2.2.2.2.2.1.length/\
   Rg p s.length v.2.2.2.2.2.2.2.2.2.1 v.2.2.2.2.2.2.2.2.2.2.1/\v.2.2.2.2.2.2.2.2.2.2.2.1=Ro v.2.2.2.2.2.2.2.2.2.1/\
   Ia p.2.2.1 ls (3001-k) k v.2.2.2.2.2.2.2.2.2.1 v.2.2.2.2.2.2.2.2.2.2.1=Fo p.2.2.1 s) (λv=>3001-v.1.toNat)
  ⟨rfl,rfl,rfl,rfl,0,rfl,by simp,KP,rfl,vB⟩ ?_
 rintro ⟨k',n1,n2,n3,b0,wh,x1,x2,x3,L0,D0,S0,⟨⟩⟩ ⟨h1,h2,h3,h4,k,h5,h6,h7,h8,h9⟩
 dsimp only at h1 h2 h3 h4 h5 h6 h7 h8 h9
 subst h1 h2 h3 h4 h5 h8
 dsimp only
 have hL0:=h7.ok.kB
 have hD0:=h7.len
 refine Br.dec (λhl=>⟨rfl,rfl,rfl,rfl,rfl,rfl,rfl,rfl,rfl,rfl,rfl,rfl,?_⟩) λhl=>?_
 ·have hk:k<L0.length:=by omega
  have yr:k<D0.length:=by omega
  have hx: ∀y∈L0[k],0<=y/\y<p.1:=h7.row _ (List.getElem_mem hk)
  have MD:L0[k].length=s.length:=h7.ok.len _ (List.getElem_mem hk)
  have hdk:=h7.dep k yr
  obtain ⟨f,hf⟩: ∃f,3001-k=f+1:=⟨3000-k,by omega⟩
  have QI: ∀L' D' ok,Gp p.2.2.1 L0[k] D0[k] ls L0 D0=(L',D',ok)->Fo p.2.2.1 s=if ok=true then Ia p.2.2.1 ls f (k+1) L' D' else (L',D',false):=by
   intro L' D' ok he
   rw [<-h9,hf,Ia,if_pos hk,Nk hk,List.getD_eq_getElem?_getD,List.getElem?_eq_getElem yr]
   simp only [Option.getD_some]
   rw [he]
   cases ok<;>rfl
  refine Co.mk (λv=>v.2.1=p.1/\v.2.2.1=p.2.1/\v.2.2.2.1=p.2.2.1/\v.2.2.2.2.2.1=false/\ ∃i:Nat,v.1=i/\i<=ls.length/\Rg p s.length v.2.2.2.2.2.2.2.2.2.1 v.2.2.2.2.2.2.2.2.2.2.1/\
    v.2.2.2.2.2.2.2.2.2.2.2.1=Ro v.2.2.2.2.2.2.2.2.2.1/\(∃A,v.2.2.2.2.2.2.2.2.2.1=L0++A)/\(∃A,v.2.2.2.2.2.2.2.2.2.2.1=D0++A)/\
    Gp p.2.2.1 L0[k] D0[k] (ls.drop i) v.2.2.2.2.2.2.2.2.2.1 v.2.2.2.2.2.2.2.2.2.2.1=Gp p.2.2.1 L0[k] D0[k] ls L0 D0) (λv=>ls.length-v.1.toNat)
   ⟨rfl,rfl,rfl,rfl,0,rfl,Nat.zero_le _,h7,rfl,⟨[],by simp⟩,⟨[],by simp⟩,rfl⟩ ?_
  rintro ⟨i',m1,m2,m3,b1,wh1,y1,y2,y3,L,D,S,⟨⟩⟩ ⟨g1,g2,g3,g4,i,g5,g6,g7,g8,⟨A,g9⟩,⟨A',UE⟩,zP⟩
  dsimp only at g1 g2 g3 g4 g5 g6 g7 g8 g9 UE zP
  subst g1 g2 g3 g4 g5 g8
  dsimp only
  have hLf:=g7.ok.kB
  have II:=g7.len
  rw [Ed L,Ed D,Ed (Ro L)]
  refine Br.dec (λYF=>?_) λYF=>?_
  ·have hi:i<ls.length:=by omega
   have OJ:k<L.length:=by rw [g9,List.length_append];omega
   have hLk:L[k]=L0[k]:=by simp only [g9];exact List.getElem_append_left hk
   have LH:k<D.length:=by rw [II];exact OJ
   have WD:D[k]=D0[k]:=by simp only [UE];exact List.getElem_append_left yr
   have GC:=kP _ (List.getElem_mem hi)
   obtain ⟨nl,nr⟩:=pZ hV hx GC
   rw [List.drop_eq_getElem_cons hi] at zP
   simp only [Gp] at zP
   refine ⟨⟨by omega,by omega⟩,L0[k],by rw [Int.toNat_natCast,Nat.zero_add,List.getElem?_eq_getElem OJ,hLk],_,Bf hi,_,if_pos ⟨hv,by show L0[k].length<=20;omega,hx,GC⟩,?_⟩
   dsimp only
   have ZL:(Ac L0[k] (Ag p.2.2.1 ls[i])).length=s.length:=by rw [nl,MD]
   refine ⟨_,if_pos (by show Cq (Ac L0[k] (Ag p.2.2.1 ls[i])).length L (Ro L);rw [ZL];exact g7.ok),Br.dec (λUd=>?_) λUd=>?_⟩
   ·have Ud:Ac L0[k] (Ag p.2.2.1 ls[i])∈L:=oe.1 Ud
    rw [if_pos Ud] at zP
    rw [Au (by omega)]
    exact ⟨rfl,rfl,rfl,rfl,rfl,rfl,rfl,rfl,rfl,rfl,rfl,rfl,⟨rfl,rfl,rfl,rfl,i+1,rfl,hi,g7,rfl,⟨A,g9⟩,⟨A',UE⟩,zP⟩,by omega⟩
   ·have Ud:Ac L0[k] (Ag p.2.2.1 ls[i])∉L:= λhh=>Ud (oe.2 hh)
    rw [if_neg Ud] at zP
    refine ⟨λcP=>?_,λcP=>⟨⟨by omega,by omega⟩,D0[k],by rw [Int.toNat_natCast,Nat.zero_add,List.getElem?_eq_getElem LH,WD],rfl,rfl,rfl,rfl,rfl,rfl,?_⟩⟩
    ·have cP:L.length=3000:=by
      have:(L.length:Int)=3000:=by simpa using cP
      omega
     rw [if_pos cP] at zP
     have:=QI _ _ _ zP.symm
     rw [if_neg (by decide)] at this
     unfold Dq
     rw [this]
    ·have cP:L.length≠3000:=by
      have:(L.length:Int)≠3000:=by simpa using cP
      omega
     rw [if_neg cP] at zP
     rw [Ce (n:=D0[k]+1) (by omega) (by omega)]
     refine ⟨_,if_pos ⟨by show Cq (Ac L0[k] (Ag p.2.2.1 ls[i])).length L (Ro L);rw [ZL];exact g7.ok,by show D.length<=3000;omega⟩,?_⟩
     dsimp only
     rw [Au (by omega),<-Za]
     refine ⟨rfl,rfl,rfl,rfl,rfl,rfl,rfl,rfl,rfl,rfl,rfl,rfl,⟨rfl,rfl,rfl,rfl,i+1,rfl,hi,g7.add Ud ZL (by omega) nr ⟨by omega,by omega⟩,rfl,⟨A++ [Ac L0[k] (Ag p.2.2.1 ls[i])],by rw [g9,List.append_assoc]⟩,⟨A'++ [D0[k]+1],by rw [UE,List.append_assoc]⟩,zP⟩,by omega⟩
  ·have:i=ls.length:=by omega
   subst this
   rw [List.drop_length,Gp] at zP
   have:=QI _ _ _ zP.symm
   rw [if_pos rfl] at this
   rw [Au (by omega)]
   refine ⟨rfl,rfl,rfl,rfl,rfl,rfl,rfl,rfl,rfl,rfl,rfl,rfl,⟨rfl,rfl,rfl,rfl,k+1,rfl,by rw [g9,List.length_append];omega,g7,rfl,?_⟩,by omega⟩
   rw [show 3001-(k+1)=f by omega]
   exact this.symm
 ·have hk:k=L0.length:=by omega
  rw [Ed L0,Ed D0,Ed (Ro L0)]
  obtain ⟨f,hf⟩: ∃f,3001-k=f+1:=⟨3000-k,by omega⟩
  rw [hf,Ia,if_neg (by omega)] at h9
  unfold Dq
  rw [<-h9]
theorem tU:Sound Try.prog 112 Da:=
 Sound.Dl NM (Ae bG (Vx wJ (Ae jy (Ae qB (Ae Yz Ax))))) mixed Try.func112 (by kernel_rfl) (by kernel_rfl) λx h=>HB x.1 x.2.1 h
end Go.Proofs.Ytjbdmibbbpdnnaa

namespace Go.Proofs.Ytjbdmibbbpdnnaa
open Go.RowKit
theorem eG {p:PP} (hV:Valid p) {m:Nat} {x:List Int} {d:Int} (hx: ∀y∈x,0<=y/\y<p.1) (MD:x.length=m): ∀(ls:List Int) (L:List (List Int)) (D:List Int),(∀l∈ls,Gv (List.length p.2.2.1) l)->
  Rg p m L D->(0<=d/\d<L.length)->Rg p m (Gp p.2.2.1 x d ls L D).1 (Gp p.2.2.1 x d ls L D).2.1/\(∃A,(Gp p.2.2.1 x d ls L D).1=L++A)/\(∃A,(Gp p.2.2.1 x d ls L D).2.1=D++A)
 | [],L,D,_,h,_=>⟨h,⟨[],by simp [Gp]⟩,⟨[],by simp [Gp]⟩⟩
 |l::ls,L,D,hl,h,hd=>by
  obtain ⟨n1,n2⟩:=pZ hV hx (hl l (by simp))
  have Ic: ∀l∈ls,Gv (List.length p.2.2.1) l:= λl' h'=>hl l' (List.mem_cons_of_mem _ h')
  simp only [Gp]
  split
  ·exact eG hV hx MD ls L D Ic h hd
  ·rename_i hn
   split
   ·exact ⟨h,⟨[],by simp⟩,⟨[],by simp⟩⟩
   ·rename_i hf
    have yo:=h.ok.kB
    obtain ⟨k1,⟨A,k2⟩,⟨A',k3⟩⟩:=eG hV hx MD ls (L++ [Ac x (Ag p.2.2.1 l)]) (D++ [d+1]) Ic (h.add hn (by rw [n1,MD]) (by omega) n2 ⟨by omega,by omega⟩) ⟨hd.1,by rw [List.length_append];omega⟩
    exact ⟨k1,⟨_::A,by rw [k2,List.append_assoc];rfl⟩,⟨_::A',by rw [k3,List.append_assoc];rfl⟩⟩
theorem rM {p:PP} (hV:Valid p) {m:Nat} {ls:List Int} (hl: ∀l∈ls,Gv (List.length p.2.2.1) l): ∀(f k:Nat) (L:List (List Int)) (D:List Int),Rg p m L D->
  Rg p m (Ia p.2.2.1 ls f k L D).1 (Ia p.2.2.1 ls f k L D).2.1/\(∃A,(Ia p.2.2.1 ls f k L D).1=L++A)
 |0,k,L,D,h=>⟨h,⟨[],by simp [Ia]⟩⟩
 |f+1,k,L,D,h=>by
  simp only [Ia]
  split
  ·rename_i hk
   have yr:k<D.length:=by rw [h.len];exact hk
   have hd:=h.dep k yr
   have e:D.getD k 0=D[k]:=by rw [List.getD_eq_getElem?_getD,List.getElem?_eq_getElem yr];rfl
   rw [Nk hk,e]
   obtain ⟨k1,⟨A,k2⟩,_⟩:=eG hV (h.row _ (List.getElem_mem hk)) (h.ok.len _ (List.getElem_mem hk)) (d:=D[k]) ls L D hl h ⟨by omega,by omega⟩
   split
   ·rename_i L' D' he
    rw [he] at k1 k2
    obtain ⟨g1,⟨B,g2⟩⟩:=rM hV hl f (k+1) L' D' k1
    have k2:L'=L++A:=k2
    exact ⟨g1,⟨A++B,by rw [g2,k2,List.append_assoc]⟩⟩
   ·rename_i L' D' he
    rw [he] at k1 k2
    exact ⟨k1,⟨A,k2⟩⟩
  ·exact ⟨h,⟨[],by simp⟩⟩
theorem KE {p:PP} {s:List Int} (hv:Bc p=true) (hs:s.length<=20) (hr: ∀y∈s,0<=y/\y<p.1):Rg p s.length (Fo p.2.2.1 s).1 (Fo p.2.2.1 s).2.1/\ ∃A,(Fo p.2.2.1 s).1=s::A:=
 rM (valid hv) (λ_ hl=>Mv hl) _ _ _ _ (c6 hs hr)
def uD (m:ByteArray->Option Bool) (L:List (List Int)):Prop:= ∀q,Oh q->(m (Lc q)).getD false=decide (q∈L)
theorem uD.add {m:ByteArray->Option Bool} {L:List (List Int)} {y:List Int} (h:uD m L) (hy:Oh y):uD (Zf m (Lc y) true) (L++ [y]):=by
 intro q hq
 unfold Zf
 by_cases e:q=y
 ·subst e
  rw [if_pos rfl];simp
 ·rw [if_neg λhk=>e (key_inj hq hy hk),h q hq]
  simp [e]
end Go.Proofs.Ytjbdmibbbpdnnaa
