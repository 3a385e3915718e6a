/-
  Part 38 of the proof that the statement FnExactSolveTwoPhase holds.
-/
import Derived.Test.YtjbdmibbbpdnnaaCSolveTwoPhase36
import Derived.KernelRfl
namespace Go.Proofs.Ytjbdmibbbpdnnaa
open Go.RowKit
def Hw (x a b:Int):Bool:=decide (a<=x/\x<=b)
def eH (n x:Int):Bool:=decide (0<=x/\x<=IntKind.i64.wrap (n-1))
def Jd (a b:List Int):Bool:=decide (a=b)
def fF (xs:List Int) (x:Int):Bool:=decide (x∈xs)
def short (xs:List Int):Prop:=xs.length<=4294967296
noncomputable abbrev Bw:Spec:=Dg (.pair tI (.pair tI (.pair tI .unit))) .bool false true (λ_=>True) (λx=>Hw x.1 x.2.1 x.2.2.1)
noncomputable abbrev Vj:Spec:=Dg (.pair tI (.pair tI .unit)) .bool false true (λ_=>True) (λx=>eH x.1 x.2.1)
noncomputable abbrev Ck:Spec:=Dg (.pair tL (.pair tL .unit)) .bool false true (λx=>short x.1) (λx=>Jd x.1 x.2.1)
noncomputable abbrev Lf:Spec:=Dg (.pair tL (.pair tI .unit)) .bool false true (λx=>short x.1) (λx=>fF x.1 x.2.1)
theorem JN (x a b:Int) (P:Bool->Prop):(Br (decide (x>=a)) (P (decide (x<=b))) (P false))=fnW Da (look []) Bw Try.f93 (x,a,b,()) P:=by kernel_rfl
theorem PZ (x a b:Int) (P:Bool->Prop):(Br (decide (x>=a)) (P (decide (x<=b))) (P false))=fnW Da (look []) Bw Try.f97 (x,a,b,()) P:=by kernel_rfl
theorem JP (n x:Int) (P:Bool->Prop):(∃(y3:Bool),Bw.fn (x,0,IntKind.i64.wrap (n-1),())=some y3/\P y3)=fnW Da (look [(97,Bw)]) Vj Try.f116 (n,x,()) P:=by kernel_rfl
theorem yG (a b:List Int) (P:Bool->Prop):(Br ((↑a.length:Int) !=(↑b.length:Int)) (P false) (Bo (λ(v3:Int×PUnit) (k4:Int×PUnit->Prop)=>Br (decide (v3.1<(↑a.length:Int))) (∃(y5:Int),idx a v3.1=some y5/\ ∃(y6:Int),idx b v3.1=some y6/\Br (y5 !=y6) (P false) (k4 (IntKind.i64.wrap (v3.1+1),()))) (P true)) (0,PUnit.unit)))=fnW Da (look []) Ck Try.f105 (a,b,()) P:=by kernel_rfl
theorem qS (xs:List Int) (x:Int) (P:Bool->Prop):(Bo (λ(v3:Int×PUnit) (k4:Int×PUnit->Prop)=>Br (decide (v3.1<(↑xs.length:Int))) (∃(y5:Int),idx xs v3.1=some y5/\Br (y5==x) (P true) (k4 (IntKind.i64.wrap (v3.1+1),()))) (P false)) (0,PUnit.unit))=fnW Da (look []) Lf Try.f153 (xs,x,()) P:=by kernel_rfl
theorem HV (x a b:Int) (_:True):fnW Da (look []) Bw Try.f93 (x,a,b,()) (λ(z:Bool)=>z=Hw x a b):=by
 refine Eq.mp (JN x a b _) ?_
 refine Br.dec (λh=>?_) λh=>?_
 ·have h:a<=x:=h
  simp [Hw,h]
 ·exact (decide_eq_false λhh=>h hh.1).symm
theorem Yt:Sound Try.prog 93 Bw:=
 Sound.Dg Cg As mixed Try.func93 (by kernel_rfl) (by kernel_rfl) λx h=>HV x.1 x.2.1 x.2.2.1 h
theorem NY (x a b:Int) (_:True):fnW Da (look []) Bw Try.f97 (x,a,b,()) (λ(z:Bool)=>z=Hw x a b):=by
 refine Eq.mp (PZ x a b _) ?_
 refine Br.dec (λh=>?_) λh=>?_
 ·have h:a<=x:=h
  simp [Hw,h]
 ·exact (decide_eq_false λhh=>h hh.1).symm
theorem Qq:Sound Try.prog 97 Bw:=
 Sound.Dg Cg As mixed Try.func97 (by kernel_rfl) (by kernel_rfl) λx h=>NY x.1 x.2.1 x.2.2.1 h
theorem HX (n x:Int) (_:True):fnW Da (look [(97,Bw)]) Vj Try.f116 (n,x,()) (λ(z:Bool)=>z=eH n x):=
 Eq.mp (JP n x _) ⟨_,if_pos trivial,rfl⟩
theorem qK:Sound Try.prog 116 Vj:=
 Sound.Dg Cg (Ah Qq As) mixed Try.func116 (by kernel_rfl) (by kernel_rfl) λx h=>HX x.1 x.2.1 h
theorem qn (xs:List Int) (x:Int) (h:short xs):fnW Da (look []) Lf Try.f153 (xs,x,()) (λ(z:Bool)=>z=fF xs x):=by
 refine Eq.mp (qS xs x _) ?_
 unfold short at h
 refine Ap xs.length (λv=>v.1) (λj _=>x∉xs.take j) rfl (by simp) ?_
 rintro j ⟨i,⟨⟩⟩ K hj hi hR hK
 dsimp only at hi⊢
 subst hi
 refine Br.dec (λhl=>?_) λhl=>?_
 ·have hl:j<xs.length:=by omega
  refine ⟨_,Au hl,⟨λhe=>?_,λhe=>?_⟩⟩
  ·have hm:=List.getElem_mem hl
   simp only [beq_iff_eq] at he
   rw [he] at hm
   exact (decide_eq_true hm).symm
  ·rw [Ak (by omega)]
   refine hK hl _ rfl ?_
   simp only [beq_eq_false_iff_ne,ne_eq] at he
   rw [List.take_succ_eq_append_getElem hl]
   simp only [List.mem_append,List.mem_singleton,not_or]
   exact ⟨hR,λhx=>he hx.symm⟩
 ·have:j=xs.length:=by omega
  subst this
  rw [List.take_length] at hR
  exact (decide_eq_false hR).symm
theorem js:Sound Try.prog 153 Lf:=
 Sound.Dg Cg As mixed Try.func153 (by kernel_rfl) (by kernel_rfl) λx h=>qn x.1 x.2.1 h
theorem DN (a b:List Int) (hlen:a.length=b.length) (h:short a):
  Bo (λ(v3:Int×PUnit) (k4:Int×PUnit->Prop)=>
   Br (decide (v3.1<(↑a.length:Int))) (∃(y5:Int),idx a v3.1=some y5/\ ∃(y6:Int),idx b v3.1=some y6/\Br (y5 !=y6) (false=Jd a b) (k4 (IntKind.i64.wrap (v3.1+1),())))
    (true=Jd a b))
  (0,PUnit.unit):=by
 unfold short at h
 refine Ap a.length (λv=>v.1) (λj _=>a.take j=b.take j) rfl (by simp) ?_
 rintro j ⟨i,⟨⟩⟩ K hj hi hR hK
 dsimp only at hi⊢
 subst hi
 refine Br.dec (λhl=>?_) λhl=>?_
 ·have wX:j<a.length:=by omega
  have yX:j<b.length:=by omega
  refine ⟨_,Au wX,_,Au yX,⟨λhe=>?_,λhe=>?_⟩⟩
  ·simp only [bne_iff_ne,ne_eq] at he
   refine (decide_eq_false λpX=>he ?_).symm
   subst pX
   rfl
  ·rw [Ak (by omega)]
   refine hK wX _ rfl ?_
   simp only [bne_eq_false_iff_eq] at he
   rw [List.take_succ_eq_append_getElem wX,List.take_succ_eq_append_getElem yX,hR,he]
 ·have tu:j=a.length:=by omega
  subst tu
  rw [List.take_length,hlen,List.take_length] at hR
  exact (decide_eq_true hR).symm
theorem xL (a b:List Int) (h:short a):fnW Da (look []) Ck Try.f105 (a,b,()) (λ(z:Bool)=>z=Jd a b):=by
 refine Eq.mp (yG a b _) ⟨λhl=>?_,λhl=>?_⟩
 ·simp only [bne_iff_ne,ne_eq,Int.natCast_inj] at hl
  exact (decide_eq_false λpX=>hl (by rw [pX])).symm
 ·simp only [bne_eq_false_iff_eq,Int.natCast_inj] at hl
  exact DN a b hl h
theorem mu:Sound Try.prog 105 Ck:=
 Sound.Dg Cg As mixed Try.func105 (by kernel_rfl) (by kernel_rfl) λx h=>xL x.1 x.2.1 h
end Go.Proofs.Ytjbdmibbbpdnnaa

namespace Go.Proofs.Ytjbdmibbbpdnnaa
open Go.RowKit
def Gp (xs:List (List Int)):Prop:=xs.length<=4294967296/\ ∀r∈xs,short r
def roomy (room:Int):Prop:=0<=room/\room<=4294967296
def kr (n:Nat) (room:Int):Int:=if room-n<0 then-1 else room-n
def jb (xs:List Int) (room:Int):Int:=kr xs.length room
def yt:List (List Int)->Int->Int
 | [],room=>room
 |r::rs,room=>if jb r room<0 then-1 else yt rs (jb r room)
def Yn (xs:List (List Int)) (room:Int):Int:=if kr xs.length room<0 then-1 else yt xs (kr xs.length room)
def kq (a b:List (List Int)):Bool:=decide (a=b)
noncomputable abbrev sm:Spec:=Dg (.pair tL (.pair tI .unit)) tI false true (λx=>short x.1/\roomy x.2.1) (λx=>jb x.1 x.2.1)
noncomputable abbrev kN:Spec:=Dg (.pair hY (.pair tI .unit)) tI false true (λx=>Gp x.1/\roomy x.2.1) (λx=>Yn x.1 x.2.1)
noncomputable abbrev lR:Spec:=Dg (.pair tL .unit) tL false true (λx=>short x.1) (λx=>x.1)
noncomputable abbrev kO:Spec:=Dg (.pair hY .unit) hY false true (λx=>Gp x.1) (λx=>x.1)
noncomputable abbrev kK:Spec:=Dg (.pair hY (.pair hY .unit)) .bool false true (λx=>Gp x.1) (λx=>kq x.1 x.2.1)
theorem Af1 (xs:List Int) (room:Int) (P:Int->Prop):(Br (decide (IntKind.i64.wrap (room-(↑xs.length:Int))<0)) (P (-1)) (P (IntKind.i64.wrap (room-(↑xs.length:Int)))))=fnW Da (look []) sm Try.f74 (xs,room,()) P:=by kernel_rfl
theorem Aas (xs:List (List Int)) (room:Int) (P:Int->Prop):(Br (decide (IntKind.i64.wrap (room-(↑xs.length:Int))<0)) (P (-1)) (Bo (λ(v3:Int×Int×PUnit) (k4:Int×Int×PUnit->Prop)=>Br (decide (v3.2.1<(↑xs.length:Int))) (∃(y5:List Int),idx xs v3.2.1=some y5/\ ∃(y6:Int),sm.fn (y5,v3.1,())=some y6/\Br (decide (y6<0)) (P (-1)) (k4 (y6,IntKind.i64.wrap (v3.2.1+1),()))) (P v3.1)) (IntKind.i64.wrap (room-(↑xs.length:Int)),0,PUnit.unit)))=fnW Da (look [(74,sm)]) kN Try.f34 (xs,room,()) P:=by kernel_rfl
theorem Af3 (xs:List Int) (P:List Int->Prop):((0<=(↑xs.length:Int)/\(↑xs.length:Int)<(↑Bm:Int)+1)/\(↑xs.length:Int)=(↑xs.length:Int)/\0=0/\(List.replicate (↑xs.length:Int).toNat (Int.ofNat 0)).length=(List.replicate (↑xs.length:Int).toNat (Int.ofNat 0)).length/\Bo (λ(v2:Int×List Int×PUnit) (k3:Int×List Int×PUnit->Prop)=>Br (decide (v2.1<(↑xs.length:Int))) (∃(y4:Int),idx xs v2.1=some y4/\(0<=v2.1/\v2.1<(↑v2.2.1.length:Int))/\0+v2.1.toNat<v2.2.1.length/\0=0/\v2.2.1.length=(v2.2.1.set (0+v2.1.toNat) y4).length/\k3 (IntKind.i64.wrap (v2.1+1),v2.2.1.set (0+v2.1.toNat) y4,())) (P (List.take v2.2.1.length (List.drop 0 v2.2.1)))) (0,List.replicate (↑xs.length:Int).toNat (Int.ofNat 0),PUnit.unit))=fnW Da (look []) lR Try.f17 (xs,()) P:=by kernel_rfl
theorem Aat (xs:List (List Int)) (P:List (List Int)->Prop):((0<=(↑xs.length:Int)/\(↑xs.length:Int)<(↑Bm:Int)+1)/\(↑xs.length:Int)=(↑xs.length:Int)/\0=0/\(List.replicate (↑xs.length:Int).toNat ([]:List Int)).length=(List.replicate (↑xs.length:Int).toNat ([]:List Int)).length/\Bo (λ(v2:Int×List (List Int)×PUnit) (k3:Int×List (List Int)×PUnit->Prop)=>Br (decide (v2.1<(↑xs.length:Int))) (∃(y4:List Int),idx xs v2.1=some y4/\ ∃(y5:List Int),lR.fn (y4,())=some y5/\(0<=v2.1/\v2.1<(↑v2.2.1.length:Int))/\0+v2.1.toNat<v2.2.1.length/\0=0/\v2.2.1.length=(v2.2.1.set (0+v2.1.toNat) y5).length/\k3 (IntKind.i64.wrap (v2.1+1),v2.2.1.set (0+v2.1.toNat) y5,())) (P (List.take v2.2.1.length (List.drop 0 v2.2.1)))) (0,List.replicate (↑xs.length:Int).toNat ([]:List Int),PUnit.unit))=fnW Da (look [(17,lR)]) kO Try.f36 (xs,()) P:=by kernel_rfl
theorem Aew (a b:List Int) (P:Bool->Prop):(Br ((↑a.length:Int) !=(↑b.length:Int)) (P false) (Bo (λ(v3:Int×PUnit) (k4:Int×PUnit->Prop)=>Br (decide (v3.1<(↑a.length:Int))) (∃(y5:Int),idx a v3.1=some y5/\ ∃(y6:Int),idx b v3.1=some y6/\Br (y5 !=y6) (P false) (k4 (IntKind.i64.wrap (v3.1+1),()))) (P true)) (0,PUnit.unit)))=fnW Da (look []) Ck Try.f20 (a,b,()) P:=by kernel_rfl
theorem Aah (a b:List (List Int)) (P:Bool->Prop):(Br ((↑a.length:Int) !=(↑b.length:Int)) (P false) (Bo (λ(v3:Int×PUnit) (k4:Int×PUnit->Prop)=>Br (decide (v3.1<(↑a.length:Int))) (∃(y5:List Int),idx a v3.1=some y5/\ ∃(y6:List Int),idx b v3.1=some y6/\ ∃(y7:Bool),Ck.fn (y5,y6,())=some y7/\Br (!y7) (P false) (k4 (IntKind.i64.wrap (v3.1+1),()))) (P true)) (0,PUnit.unit)))=fnW Da (look [(20,Ck)]) kK Try.f38 (a,b,()) P:=by kernel_rfl
theorem HE {n:Nat} {room:Int} (h:roomy room) (h2: ¬kr n room<0):roomy (kr n room):=by
 unfold kr roomy at*
 split at h2<;>simp_all
 omega
theorem Aeh (xs:List Int) (room:Int) (h:short xs/\roomy room):fnW Da (look []) sm Try.f74 (xs,room,()) (λ(z:Int)=>z=jb xs room):=by
 obtain ⟨h1,h2,h3⟩:=h
 unfold short at h1
 refine Eq.mp (Af1 xs room _) ?_
 rw [Bd (by omega) (by omega)]
 refine Br.dec (λh=>?_) λh=>?_
 ·simp only [jb,kr,if_pos h]
 ·simp only [jb,kr,if_neg h]
theorem IU:Sound Try.prog 74 sm:=
 Sound.Dg Cg As mixed Try.func74 (by kernel_rfl) (by kernel_rfl) λx h=>Aeh x.1 x.2.1 h
theorem ZX (xs:List (List Int)) (room:Int) (h:Gp xs/\roomy room):fnW Da (look [(74,sm)]) kN Try.f34 (xs,room,()) (λ(z:Int)=>z=Yn xs room):=by
 obtain ⟨⟨h1,h4⟩,h2,h3⟩:=h
 refine Eq.mp (Aas xs room _) ?_
 rw [Bd (by omega) (by omega)]
 refine Br.dec (λh=>?_) λh=>?_
 ·simp only [Yn,kr,if_pos h];rfl
 ·refine Ap xs.length (λv=>v.2.1) (λj v=>roomy v.1/\yt (xs.drop j) v.1=Yn xs room) rfl ?_ ?_
  ·refine ⟨by unfold roomy;omega,?_⟩
   simp only [Yn,kr,if_neg h,List.drop_zero]
  ·rintro j ⟨r,i,⟨⟩⟩ K hj hi ⟨hr,hR⟩ hK
   dsimp only at hi hr hR⊢
   subst hi
   refine Br.dec (λhl=>?_) λhl=>?_
   ·have hl:j<xs.length:=by omega
    have hd:xs.drop j=xs[j]::xs.drop (j+1):=List.drop_eq_getElem_cons hl
    refine ⟨_,Au hl,_,if_pos ⟨h4 _ (List.getElem_mem hl),hr⟩,?_⟩
    rw [hd] at hR
    simp only [yt] at hR
    refine Br.dec (λhn=>?_) λhn=>?_
    ·have hn:jb xs[j] r<0:=hn
     rw [if_pos hn] at hR
     exact hR
    ·have hn: ¬jb xs[j] r<0:=hn
     rw [if_neg hn] at hR
     rw [Ak (by omega)]
     exact hK hl _ rfl ⟨HE hr hn,hR⟩
   ·have:j=xs.length:=by omega
    subst this
    rw [List.drop_length] at hR
    exact hR
theorem CF:Sound Try.prog 34 kN:=
 Sound.Dg Cg (Ah IU As) mixed Try.func34 (by kernel_rfl) (by kernel_rfl) λx h=>ZX x.1 x.2.1 h
theorem Lk {α:Type} {ys xs:List α} {j:Nat} (h:j<xs.length) (hl:ys.length=xs.length) (ht:ys.take j=xs.take j):(ys.set j xs[j]).take (j+1)=xs.take (j+1):=by
 have h1:j<(ys.set j xs[j]).length:=by rw [List.length_set];omega
 rw [List.take_succ_eq_append_getElem h1,List.take_succ_eq_append_getElem h,List.getElem_set_self,List.take_set_of_le (Nat.le_refl j),ht]
theorem Aej (xs:List Int) (h:short xs):fnW Da (look []) lR Try.f17 (xs,()) (λ(z:List Int)=>z=xs):=by
 unfold short at h
 refine Eq.mp (Af3 xs _) ?_
 refine ⟨⟨by omega,by show (xs.length:Int)<(4294967296:Int)+1;omega⟩,rfl,rfl,rfl,?_⟩
 refine Ap xs.length (λv=>v.1) (λj v=>v.2.1.length=xs.length/\v.2.1.take j=xs.take j) rfl ⟨by simp,by simp⟩ ?_
 rintro j ⟨i,ys,⟨⟩⟩ K hj hi ⟨h1,h2⟩ hK
 dsimp only at hi h1 h2⊢
 subst hi
 refine Br.dec (λhl=>?_) λhl=>?_
 ·have hl:j<xs.length:=by omega
  refine ⟨_,Au hl,⟨by omega,by omega⟩,by rw [Int.toNat_natCast];omega,rfl,by rw [List.length_set],?_⟩
  rw [Ak (by omega),Int.toNat_natCast,Nat.zero_add]
  exact hK hl _ rfl ⟨by rw [List.length_set];exact h1,Lk hl h1 h2⟩
 ·have:j=xs.length:=by omega
  subst this
  rw [List.take_length,<-h1,List.take_length] at h2
  rw [List.drop_zero,List.take_length]
  exact h2
theorem sw:Sound Try.prog 17 lR:=
 Sound.Dg Cg As mixed Try.func17 (by kernel_rfl) (by kernel_rfl) λx h=>Aej x.1 h
theorem ZY (xs:List (List Int)) (h:Gp xs):fnW Da (look [(17,lR)]) kO Try.f36 (xs,()) (λ(z:List (List Int))=>z=xs):=by
 obtain ⟨h,h4⟩:=h
 refine Eq.mp (Aat xs _) ?_
 refine ⟨⟨by omega,by show (xs.length:Int)<(4294967296:Int)+1;omega⟩,rfl,rfl,rfl,?_⟩
 refine Ap xs.length (λv=>v.1) (λj v=>v.2.1.length=xs.length/\v.2.1.take j=xs.take j) rfl ⟨by simp,by simp⟩ ?_
 rintro j ⟨i,ys,⟨⟩⟩ K hj hi ⟨h1,h2⟩ hK
 dsimp only at hi h1 h2⊢
 subst hi
 refine Br.dec (λhl=>?_) λhl=>?_
 ·have hl:j<xs.length:=by omega
  refine ⟨_,Au hl,_,if_pos (h4 _ (List.getElem_mem hl)),⟨by omega,by omega⟩,by rw [Int.toNat_natCast];omega,rfl,by rw [List.length_set],?_⟩
  rw [Ak (by omega),Int.toNat_natCast,Nat.zero_add]
  exact hK hl _ rfl ⟨by rw [List.length_set];exact h1,Lk hl h1 h2⟩
 ·have:j=xs.length:=by omega
  subst this
  rw [List.take_length,<-h1,List.take_length] at h2
  rw [List.drop_zero,List.take_length]
  exact h2
theorem CG:Sound Try.prog 36 kO:=
 Sound.Dg Cg (Ah sw As) mixed Try.func36 (by kernel_rfl) (by kernel_rfl) λx h=>ZY x.1 h
theorem Aec (a b:List Int) (h:short a):fnW Da (look []) Ck Try.f20 (a,b,()) (λ(z:Bool)=>z=Jd a b):=by
 refine Eq.mp (Aew a b _) ⟨λhl=>?_,λhl=>?_⟩
 ·simp only [bne_iff_ne,ne_eq,Int.natCast_inj] at hl
  exact (decide_eq_false λpX=>hl (by rw [pX])).symm
 ·simp only [bne_eq_false_iff_eq,Int.natCast_inj] at hl
  exact DN a b hl h
theorem sv:Sound Try.prog 20 Ck:=
 Sound.Dg Cg As mixed Try.func20 (by kernel_rfl) (by kernel_rfl) λx h=>Aec x.1 x.2.1 h
theorem ZM (a b:List (List Int)) (h:Gp a):fnW Da (look [(20,Ck)]) kK Try.f38 (a,b,()) (λ(z:Bool)=>z=kq a b):=by
 obtain ⟨h,h4⟩:=h
 refine Eq.mp (Aah a b _) ⟨λhl=>?_,λhl=>?_⟩
 ·simp only [bne_iff_ne,ne_eq,Int.natCast_inj] at hl
  exact (decide_eq_false λpX=>hl (by rw [pX])).symm
 ·simp only [bne_eq_false_iff_eq,Int.natCast_inj] at hl
  refine Ap a.length (λv=>v.1) (λj _=>a.take j=b.take j) rfl (by simp) ?_
  rintro j ⟨i,⟨⟩⟩ K hj hi hR hK
  dsimp only at hi⊢
  subst hi
  refine Br.dec (λHm=>?_) λHm=>?_
  ·have wX:j<a.length:=by omega
   have yX:j<b.length:=by omega
   refine ⟨_,Au wX,_,Au yX,_,if_pos (h4 _ (List.getElem_mem wX)),⟨λhe=>?_,λhe=>?_⟩⟩
   ·refine (decide_eq_false λpX=>?_).symm
    subst pX
    simp [Jd] at he
   ·rw [Ak (by omega)]
    refine hK wX _ rfl ?_
    simp only [Jd,Bool.not_eq_false',decide_eq_true_eq] at he
    rw [List.take_succ_eq_append_getElem wX,List.take_succ_eq_append_getElem yX,hR]
    exact congrArg (λx=>List.take j b++ [x]) he
  ·have tu:j=a.length:=by omega
   subst tu
   rw [List.take_length,hl,List.take_length] at hR
   exact (decide_eq_true hR).symm
theorem BX:Sound Try.prog 38 kK:=
 Sound.Dg Cg (Ah sv As) mixed Try.func38 (by kernel_rfl) (by kernel_rfl) λx h=>ZM x.1 x.2.1 h
end Go.Proofs.Ytjbdmibbbpdnnaa

namespace Go.Proofs.Ytjbdmibbbpdnnaa
open Go.RowKit
def PL (n:Int) (xs:List Int) (k:Nat):Prop:= ∀j (h:j<xs.length),j<k->0<=xs[j]/\xs[j]<=n-1/\(0<j->xs[j-1]<xs[j])
def DL (n:Int) (xs:List Int) (k:Nat):Prop:= ∀j (h:j<xs.length),j<k->0<=xs[j]/\xs[j]<=n-1/\xs[j]∉xs.take j
noncomputable def dec (p:Prop):Bool:= @decide p (Classical.propDecidable p)
theorem Ix {p:Prop} (h:p):true=dec p:=(@decide_eq_true p (Classical.propDecidable p) h).symm
theorem Bn {p:Prop} (h: ¬p):false=dec p:=(@decide_eq_false p (Classical.propDecidable p) h).symm
theorem Dz {p:Prop} :dec p=true↔p:= @decide_eq_true_iff p (Classical.propDecidable p)
theorem RF {p:Prop} :dec p=false↔ ¬p:= @decide_eq_false_iff_not p (Classical.propDecidable p)
def ZF (n:Int):Prop:=0<=n/\n<=4294967296
noncomputable def Mf (n:Int) (xs:List Int):Bool:=dec (0<xs.length/\PL n xs xs.length)
noncomputable abbrev Gb:Spec:=Dg (.pair tI (.pair tL .unit)) .bool false true (λx=>ZF x.1/\short x.2.1) (λx=>Mf x.1 x.2.1)
noncomputable abbrev Oe:Spec:=Dg (.pair hY .unit) tI false true (λ_=>True) (λx=>(List.length x.1:Int))
theorem qV (n:Int) (xs:List Int) (P:Bool->Prop):(∃(y3:Bool),Bw.fn ((↑xs.length:Int),(1:Int),n,())=some y3/\Br (!y3) (P false) (Bo (λ(v4:Int×PUnit) (k5:Int×PUnit->Prop)=>Br (decide (v4.1<(↑xs.length:Int))) (∃(y6:Int),idx xs v4.1=some y6/\ ∃(y7:Bool),Bw.fn (y6,(0:Int),IntKind.i64.wrap (n-(1:Int)),())=some y7/\Br (!y7) (P false) (Br (decide (v4.1>(0:Int))) (∃(y8:Int),idx xs v4.1=some y8/\ ∃(y9:Int),idx xs (IntKind.i64.wrap (v4.1-(1:Int)))=some y9/\Br (decide (y8<=y9)) (P false) (k5 (IntKind.i64.wrap (v4.1+(1:Int)),()))) (k5 (IntKind.i64.wrap (v4.1+(1:Int)),())))) (P true)) ((0:Int),PUnit.unit)))=fnW Da (look [(93,Bw)]) Gb Try.f111 (n,xs,()) P:=by kernel_rfl
theorem yJ (n:Int) (xs:List Int) (P:Bool->Prop):(Bo (λ(v3:Int×PUnit) (k4:Int×PUnit->Prop)=>Br (decide (v3.1<(↑xs.length:Int))) (∃(y5:Int),idx xs v3.1=some y5/\ ∃(y6:Bool),Vj.fn (n,y5,())=some y6/\Br (!y6) (P false) (Br (decide (v3.1>(0:Int))) (∃(y7:Int),idx xs (IntKind.i64.wrap (v3.1-(1:Int)))=some y7/\Br (decide (y7>=y5)) (P false) (k4 (IntKind.i64.wrap (v3.1+(1:Int)),()))) (k4 (IntKind.i64.wrap (v3.1+(1:Int)),())))) (P (decide ((↑xs.length:Int)>(0:Int))))) ((0:Int),PUnit.unit))=fnW Da (look [(116,Vj)]) Gb Try.f66 (n,xs,()) P:=by kernel_rfl
theorem TY (xs:List (List Int)) (P:Int->Prop):(P (↑xs.length:Int))=fnW Da (look []) Oe Try.f58 (xs,()) P:=by kernel_rfl
theorem SZ (xs:List (List Int)) (_:True):fnW Da (look []) Oe Try.f58 (xs,()) (λ(z:Int)=>z=(xs.length:Int)):=Eq.mp (TY xs _) rfl
theorem dP:Sound Try.prog 58 Oe:=
 Sound.Dg Cg As mixed Try.func58 (by kernel_rfl) (by kernel_rfl) λx h=>SZ x.1 h
theorem lH {n x:Int} (hn:ZF n):eH n x=true↔0<=x/\x<=n-1:=by
 unfold eH ZF at*
 rw [Bd (by omega) (by omega),decide_eq_true_iff]
theorem Cu {x a b:Int} :Hw x a b=true↔a<=x/\x<=b:=decide_eq_true_iff
theorem Cs {b:Bool} (h:(!b)=true): ¬b=true:=by cases b<;>simp_all
theorem Hb {b:Bool} (h:(!b)=false):b=true:=by cases b<;>simp_all
theorem BA {n:Int} {xs:List Int} (h:PL n xs xs.length): ∀j (hj:j<xs.length),(j:Int)<=xs[j]
 |0,hj=>(h 0 hj hj).1
 |j+1,hj=>by
  have h1:=BA h j (by omega)
  have h2:=(h (j+1) hj hj).2.2 (by omega)
  simp only [Nat.add_sub_cancel] at h2
  omega
theorem mS {n:Int} {xs:List Int} {j:Nat} (hl:j<xs.length) (h:PL n xs j) (h1:0<=xs[j]) (h2:xs[j]<=n-1) (h3:0<j->xs[j-1]<xs[j]):PL n xs (j+1):=by
 intro i hi fv
 by_cases e:i=j
 ·subst e;exact ⟨h1,h2,h3⟩
 ·exact h i hi (by omega)
theorem xO (n:Int) (xs:List Int) (h:ZF n/\short xs):fnW Da (look [(116,Vj)]) Gb Try.f66 (n,xs,()) (λ(z:Bool)=>z=Mf n xs):=by
 obtain ⟨hn,h⟩:=h
 unfold short at h
 refine Eq.mp (yJ n xs _) ?_
 refine Ap xs.length (λv=>v.1) (λj _=>PL n xs j) rfl (λj _ hj=>absurd hj (Nat.not_lt_zero _)) ?_
 rintro j ⟨i,⟨⟩⟩ K hj hi hR hK
 dsimp only at hi⊢
 subst hi
 refine Br.dec (λhl=>?_) λhl=>?_
 ·have hl:j<xs.length:=by omega
  refine ⟨_,Au hl,_,if_pos trivial,⟨λhp=>?_,λhp=>?_⟩⟩
  ·have hp:=Cs hp
   rw [lH hn] at hp
   exact Bn λhh=>hp ⟨(hh.2 j hl hl).1,(hh.2 j hl hl).2.1⟩
  ·have hp:=Hb hp
   rw [lH hn] at hp
   refine Br.dec (λh0=>?_) λh0=>?_
   ·have h0:0<j:=by omega
    rw [Bd (by omega) (by omega),show (j:Int)-1=((j-1:Nat):Int) by omega]
    refine ⟨_,Au (by omega),Br.dec (λhg=>?_) λhg=>?_⟩
    ·exact Bn λhh=>by have:=(hh.2 j hl hl).2.2 h0;omega
    ·rw [Ak (by omega)]
     exact hK hl _ rfl (mS hl hR hp.1 hp.2 λ_=>by omega)
   ·have h0:j=0:=by omega
    rw [Ak (by omega)]
    exact hK hl _ rfl (mS hl hR hp.1 hp.2 λh=>by omega)
 ·have:j=xs.length:=by omega
  subst this
  by_cases h0:0<xs.length
  ·rw [decide_eq_true (show (xs.length:Int)>0 by omega)];exact Ix ⟨h0,hR⟩
  ·rw [decide_eq_false (show ¬(xs.length:Int)>0 by omega)];exact Bn λhh=>h0 hh.1
theorem mz:Sound Try.prog 66 Gb:=
 Sound.Dg Cg (Ah qK As) mixed Try.func66 (by kernel_rfl) (by kernel_rfl) λx h=>xO x.1 x.2.1 h
theorem qt (n:Int) (xs:List Int) (h:ZF n/\short xs):fnW Da (look [(93,Bw)]) Gb Try.f111 (n,xs,()) (λ(z:Bool)=>z=Mf n xs):=by
 obtain ⟨hn,h⟩:=h
 unfold short at h
 refine Eq.mp (qV n xs _) ⟨_,if_pos trivial,⟨λhp=>?_,λhp=>?_⟩⟩
 ·have hp:=Cs hp
  rw [Cu] at hp
  dsimp only at hp
  refine Bn λhh=>hp ⟨by omega,?_⟩
  have:=BA hh.2 (xs.length-1) (by omega)
  have:=(hh.2 (xs.length-1) (by omega) (by omega)).2.1
  omega
 ·have hp:=Hb hp
  rw [Cu] at hp
  dsimp only at hp
  refine Ap xs.length (λv=>v.1) (λj _=>PL n xs j) rfl (λj _ hj=>absurd hj (Nat.not_lt_zero _)) ?_
  rintro j ⟨i,⟨⟩⟩ K hj hi hR hK
  dsimp only at hi⊢
  subst hi
  refine Br.dec (λhl=>?_) λhl=>?_
  ·have hl:j<xs.length:=by omega
   refine ⟨_,Au hl,_,if_pos trivial,⟨λhq=>?_,λhq=>?_⟩⟩
   ·have hq:=Cs hq
    unfold ZF at hn
    rw [Cu,Bd (by omega) (by omega)] at hq
    exact Bn λhh=>hq ⟨(hh.2 j hl hl).1,(hh.2 j hl hl).2.1⟩
   ·have hq:=Hb hq
    unfold ZF at hn
    rw [Cu,Bd (by omega) (by omega)] at hq
    refine Br.dec (λh0=>?_) λh0=>?_
    ·have h0:0<j:=by omega
     rw [Bd (by omega) (by omega),show (j:Int)-1=((j-1:Nat):Int) by omega]
     refine ⟨_,Au hl,_,Au (by omega),Br.dec (λhg=>?_) λhg=>?_⟩
     ·exact Bn λhh=>by have:=(hh.2 j hl hl).2.2 h0;omega
     ·rw [Ak (by omega)]
      exact hK hl _ rfl (mS hl hR hq.1 hq.2 λ_=>by omega)
    ·rw [Ak (by omega)]
     exact hK hl _ rfl (mS hl hR hq.1 hq.2 λh=>by omega)
  ·have:j=xs.length:=by omega
   subst this
   exact Ix ⟨by omega,hR⟩
theorem jt:Sound Try.prog 111 Gb:=
 Sound.Dg Cg (Ah Yt As) mixed Try.func111 (by kernel_rfl) (by kernel_rfl) λx h=>qt x.1 x.2.1 h
theorem RG {n:Int} {xs:List Int} {j:Nat} (hl:j<xs.length) (h:DL n xs j) (h1:0<=xs[j]) (h2:xs[j]<=n-1) (h3:xs[j]∉xs.take j):DL n xs (j+1):=by
 intro i hi fv
 by_cases e:i=j
 ·subst e;exact ⟨h1,h2,h3⟩
 ·exact h i hi (by omega)
theorem BP {xs:List Int} (h:short xs) (j:Nat):short (xs.take j):=by
 unfold short at*
 rw [List.length_take]
 omega
end Go.Proofs.Ytjbdmibbbpdnnaa

namespace Go.Proofs.Ytjbdmibbbpdnnaa
open Go.RowKit
theorem y0:roomy 1048576:=⟨by decide,by decide⟩
end Go.Proofs.Ytjbdmibbbpdnnaa

namespace Go.Proofs.Ytjbdmibbbpdnnaa
open Go.RowKit
abbrev PP:Type:=Int×ByteArray×List (List Int)×Unit
noncomputable def Ge (p:List Int):Bool:=dec (1<=p.length/\p.length<=20/\DL p.length p p.length)
noncomputable def Eo (n:Int) (p:List Int):Bool:=dec ((p.length:Int)=n/\Ge p=true)
noncomputable def Tk (n:Int) (g:List (List Int)):Bool:=dec ((1<=n/\n<=20)/\g.length<=8/\ ∀p∈g,Eo n p=true)
def Db {α:Type} (P:α->Bool):List α->Int->Int
 | [],_=> -1
 |y::r,i=>if P y=true then i else Db P r (i+1)
abbrev tG1:Ty:= .clo 177 (.pair (.ptr tI) .unit)
def sD (s:ByteArray) (i:Nat):Prop:= ∃c:UInt8,s[i]?=some c/\65<=c.toNat/\c.toNat<=90/\ ∀k,k<i->s[k]?≠some c
noncomputable def ja (s:ByteArray) (i:Int):Bool:=dec (sD s i.toNat)
noncomputable def Zx (s:ByteArray):Bool:=dec ((1<=s.size/\s.size<=8)/\ ∀j,j<s.size->sD s j)
noncomputable def Ba (p:PP):Bool:=dec (Tk p.1 p.2.2.1=true/\Zx p.2.1=true/\p.2.1.size=p.2.2.1.length)
noncomputable def Bk (p:PP) (xs:List Int):Bool:=dec (Ba p=true/\Mf p.2.2.1.length xs=true)
def Cn (p:PP):Prop:=p.2.1.size<=4294967296/\Gp p.2.2.1
noncomputable abbrev Nl:Spec:=Dg (.pair tL .unit) tI false true (λ_=>True) (λx=>(List.length x.1:Int))
noncomputable abbrev Ew:Spec:=Dg (.pair tL .unit) .bool false true (λx=>short x.1) (λx=>Ge x.1)
noncomputable abbrev Kz:Spec:=Dg (.pair tI (.pair hY .unit)) .bool false true (λx=>Gp x.2.1) (λx=>Tk x.1 x.2.1)
noncomputable abbrev eM:Spec:=Dg (.pair tL (.pair (.ptr tI) .unit)) .bool false true (λx=>short x.1) (λx=>!Eo x.2.1 x.1)
noncomputable abbrev sl:Spec:=Dg (.pair hY (.pair tG1 .unit)) tI false true (λx=>Gp x.1) (λx=>Db (λp=>!Eo x.2.1.1 p) x.1 0)
noncomputable abbrev sf:Spec:=Dg (.pair hY (.pair tG1 .unit)) .bool false true (λx=>Gp x.1) (λx=>List.any x.1 (λp=>!Eo x.2.1.1 p))
noncomputable abbrev a8:Spec:=Dg (.pair .str (.pair tI .unit)) .bool false true (λx=>0<=x.2.1/\x.2.1<x.1.size/\x.1.size<=4294967296) (λx=>ja x.1 x.2.1)
noncomputable abbrev Vi:Spec:=Dg (.pair .str .unit) .bool false true (λx=>x.1.size<=4294967296) (λx=>Zx x.1)
noncomputable abbrev Ex:Spec:=Dg (.pair Co .unit) .bool false true (λx=>Cn x.1) (λx=>Ba x.1)
noncomputable abbrev Fa:Spec:=Dg (.pair Co (.pair tL .unit)) .bool false true (λx=>Cn x.1/\short x.2.1) (λx=>Bk x.1 x.2.1)
def dk (p:PP) (room:Int):Int:=if room-p.2.1.size<0 then-1 else if Yn p.2.2.1 (room-p.2.1.size)<0 then-1 else Yn p.2.2.1 (room-p.2.1.size)
def lF (a b:PP):Bool:=decide (a.1=b.1)&&(decide (a.2.1=b.2.1)&&decide (a.2.2.1=b.2.2.1))
noncomputable abbrev sn:Spec:=Dg (.pair Co (.pair tI .unit)) tI false true (λx=>Cn x.1/\roomy x.2.1) (λx=>dk x.1 x.2.1)
noncomputable abbrev so:Spec:=Dg (.pair Co .unit) Co false true (λx=>Cn x.1) (λx=>x.1)
noncomputable abbrev sj:Spec:=Dg (.pair Co (.pair Co .unit)) .bool false true (λx=>Cn x.1) (λx=>lF x.1 x.2.1)
theorem Aam (xs:List Int) (P:Int->Prop):(P (↑xs.length:Int))=fnW Da (look []) Nl Try.f82 (xs,()) P:=by kernel_rfl
theorem vG (p:List Int) (P:Bool->Prop):(∃(y2:Bool),Bw.fn ((↑p.length:Int),(1:Int),(20:Int),())=some y2/\Br (!y2) (P false) (Bo (λ(v3:Int×PUnit) (k4:Int×PUnit->Prop)=>Br (decide (v3.1<(↑p.length:Int))) (∃(y5:Int),idx p v3.1=some y5/\ ∃(y6:Bool),Bw.fn (y5,(0:Int),IntKind.i64.wrap ((↑p.length:Int)-(1:Int)),())=some y6/\Br (!y6) (P false) (((0:Int)<=(0:Int)/\(0:Int)<=v3.1/\v3.1<=(↑p.length:Int))/\ ∃(y7:Int),idx p v3.1=some y7/\ ∃(y8:Bool),Lf.fn (List.drop (Int.toNat (0:Int)) (List.take v3.1.toNat p),y7,())=some y8/\Br y8 (P false) (k4 (IntKind.i64.wrap (v3.1+(1:Int)),())))) (P true)) ((0:Int),PUnit.unit)))=fnW Da (look [(93,Bw),(153,Lf)]) Ew Try.f169 (p,()) P:=by kernel_rfl
theorem vC (p:List Int) (P:Bool->Prop):(∃(y2:Int),Nl.fn (p,())=some y2/\ ∃(y3:Bool),Bw.fn (y2,(1:Int),(20:Int),())=some y3/\Br (!y3) (P false) (Bo (λ(v4:Int×Int×PUnit) (k5:Int×Int×PUnit->Prop)=>Br (decide (v4.2.1<(↑p.length:Int))) (∃(y6:Int),idx p v4.2.1=some y6/\ ∃(y7:Int),Nl.fn (p,())=some y7/\ ∃(y8:Bool),Bw.fn (y6,(0:Int),IntKind.i64.wrap (y7-(1:Int)),())=some y8/\Br (!y8) (P false) (¬y6<(0:Int)/\k5 (IntKind.i64.wrap (↑(BitVec.ofInt IntKind.i64.bits v4.1|||BitVec.ofInt IntKind.i64.bits (IntKind.i64.wrap ((1:Int)*(2:Int)^min y6.toNat IntKind.i64.bits))).toNat:Int),IntKind.i64.wrap (v4.2.1+(1:Int)),()))) (¬(↑p.length:Int)<(0:Int)/\P (v4.1==IntKind.i64.wrap (IntKind.i64.wrap ((1:Int)*(2:Int)^min (↑p.length:Int).toNat IntKind.i64.bits)-(1:Int))))) ((0:Int),(0:Int),PUnit.unit)))=fnW Da (look [(97,Bw),(82,Nl)]) Ew Try.f168 (p,()) P:=by kernel_rfl
theorem vF (n:Int) (g:List (List Int)) (P:Bool->Prop):(∃(y3:Bool),Bw.fn (n,(1:Int),(20:Int),())=some y3/\Br (!y3) (P false) (Br (decide ((↑g.length:Int)>(8:Int))) (P false) (Bo (λ(v4:Int×PUnit) (k5:Int×PUnit->Prop)=>Br (decide (v4.1<(↑g.length:Int))) (∃(y6:List Int),idx g v4.1=some y6/\Br ((↑y6.length:Int) !=n) (P false) (∃(y7:List Int),idx g v4.1=some y7/\ ∃(y8:Bool),Ew.fn (y7,())=some y8/\Br (!y8) (P false) (k5 (IntKind.i64.wrap (v4.1+(1:Int)),())))) (P true)) ((0:Int),PUnit.unit))))=fnW Da (look [(93,Bw),(169,Ew)]) Kz Try.f147 (n,g,()) P:=by kernel_rfl
theorem TW (p:List Int) (n:Int) (P:Bool->Prop):(∃(y3:Int),Nl.fn (p,())=some y3/\Br (y3 !=n) (P true) (∃(y4:Bool),Ew.fn (p,())=some y4/\P !y4))=fnW Da (look [(82,Nl),(168,Ew)]) eM Try.f177 (p,n,()) P:=by kernel_rfl
theorem Aez (g:List (List Int)) (n:Int×Unit) (P:Int->Prop):(Bo (λ(v3:Int×PUnit) (k4:Int×PUnit->Prop)=>Br (decide (v3.1<(↑g.length:Int))) (∃(y5:List Int),idx g v3.1=some y5/\ ∃(y6:Bool),eM.fn (y5,n.1,())=some y6/\Br y6 (P v3.1) (k4 (IntKind.i64.wrap (v3.1+(1:Int)),()))) (P (-1:Int))) ((0:Int),PUnit.unit))=fnW Da (look [(177,eM)]) sl Try.f184 (g,n,()) P:=by kernel_rfl
theorem Aeu (g:List (List Int)) (n:Int×Unit) (P:Bool->Prop):(∃(y3:Int),sl.fn (g,n,())=some y3/\P (decide (y3>=(0:Int))))=fnW Da (look [(184,sl)]) sf Try.f176 (g,n,()) P:=by kernel_rfl
theorem vB (n:Int) (g:List (List Int)) (P:Bool->Prop):(∃(y3:Bool),Bw.fn (n,(1:Int),(20:Int),())=some y3/\Br y3 (Br (decide ((↑g.length:Int)<=(8:Int))) (∃(y4:Bool),sf.fn (g,(n,()),())=some y4/\P !y4) (P false)) (P false))=fnW Da (look [(97,Bw),(176,sf)]) Kz Try.f158 (n,g,()) P:=by kernel_rfl
theorem PU (s:ByteArray) (i:Int) (P:Bool->Prop):((0:Int)<=i/\ ∃(y3:UInt8),s[i.toNat]?=some y3/\Br (decide ((↑y3.toNat:Int)<(65:Int))) (P false) ((0:Int)<=i/\ ∃(y4:UInt8),s[i.toNat]?=some y4/\Br (decide ((↑y4.toNat:Int)>(90:Int))) (P false) (Bo (λ(v5:Int×PUnit) (k6:Int×PUnit->Prop)=>Br (decide (v5.1<i)) ((0:Int)<=v5.1/\ ∃(y7:UInt8),s[v5.1.toNat]?=some y7/\(0:Int)<=i/\ ∃(y8:UInt8),s[i.toNat]?=some y8/\Br ((↑y7.toNat:Int)==(↑y8.toNat:Int)) (P false) (k6 (IntKind.i64.wrap (v5.1+(1:Int)),()))) (P true)) ((0:Int),PUnit.unit))))=fnW Da (look []) a8 Try.f148 (s,i,()) P:=by kernel_rfl
theorem JO (s:ByteArray) (P:Bool->Prop):(Bo (λ(v2:Int×PUnit) (k3:Int×PUnit->Prop)=>Br (decide (v2.1<(↑s.size:Int))) ((0:Int)<=v2.1/\ ∃(y4:UInt8),s[v2.1.toNat]?=some y4/\ ∃(y5:Bool),Bw.fn (IntKind.i64.wrap (↑y4.toNat:Int),(65:Int),(90:Int),())=some y5/\Br (!y5) (P false) (Bo (λ(v6:Int×PUnit) (k7:Int×PUnit->Prop)=>Br (decide (v6.1<v2.1)) ((0:Int)<=v6.1/\ ∃(y8:UInt8),s[v6.1.toNat]?=some y8/\(0:Int)<=v2.1/\ ∃(y9:UInt8),s[v2.1.toNat]?=some y9/\Br ((↑y8.toNat:Int)==(↑y9.toNat:Int)) (P false) (k7 (IntKind.i64.wrap (v6.1+(1:Int)),()))) (k3 (IntKind.i64.wrap (v2.1+(1:Int)),()))) ((0:Int),PUnit.unit))) (∃(y4:Bool),Bw.fn ((↑s.size:Int),(1:Int),(8:Int),())=some y4/\P y4)) ((0:Int),PUnit.unit))=fnW Da (look [(97,Bw)]) Vi Try.f159 (s,()) P:=by kernel_rfl
abbrev fO:Type:=Int×Int×ByteArray×List (List Int)×PUnit
theorem vH (p:Int×ByteArray×List (List Int)×Unit) (P:Bool->Prop):(Br ((↑p.2.2.1.length:Int)==(0:Int)) (P false) (Br ((↑p.2.1.size:Int) !=(↑p.2.2.1.length:Int)) (P false) (∃(y2:Bool),Kz.fn (p.1,p.2.2.1,())=some y2/\Br (!y2) (P false) (Bo (λ(v3:fO) (k4:fO->Prop)=>Br (decide (v3.1<(↑v3.2.2.1.size:Int))) (∃(y5:Bool),a8.fn (v3.2.2.1,v3.1,())=some y5/\Br (!y5) (P false) (k4 (IntKind.i64.wrap (v3.1+(1:Int)),v3.2.1,v3.2.2.1,v3.2.2.2.1,()))) (P true)) ((0:Int),p.1,p.2.1,p.2.2.1,PUnit.unit)))))=fnW Da (look [(147,Kz),(148,a8)]) Ex Try.f110 (p,()) P:=by kernel_rfl
theorem vD (p:Int×ByteArray×List (List Int)×Unit) (P:Bool->Prop):(∃(y2:Bool),Kz.fn (p.1,p.2.2.1,())=some y2/\Br y2 (∃(y3:Bool),Vi.fn (p.2.1,())=some y3/\Br y3 (P ((↑p.2.1.size:Int)==(↑p.2.2.1.length:Int))) (P false)) (P false))=fnW Da (look [(158,Kz),(159,Vi)]) Ex Try.f130 (p,()) P:=by kernel_rfl
theorem l7 (p:Int×ByteArray×List (List Int)×Unit) (xs:List Int) (P:Bool->Prop):(∃(y3:Bool),Ex.fn ((p.1,p.2.1,p.2.2.1,()),())=some y3/\Br y3 (∃(y4:Bool),Gb.fn ((↑p.2.2.1.length:Int),xs,())=some y4/\P y4) (P false))=fnW Da (look [(110,Ex),(111,Gb)]) Fa Try.f101 (p,xs,()) P:=by kernel_rfl
theorem l6 (p:Int×ByteArray×List (List Int)×Unit) (xs:List Int) (P:Bool->Prop):(∃(y3:Bool),Ex.fn ((p.1,p.2.1,p.2.2.1,()),())=some y3/\Br y3 (∃(y4:Int),Oe.fn (p.2.2.1,())=some y4/\ ∃(y5:Bool),Gb.fn (y4,xs,())=some y5/\P y5) (P false))=fnW Da (look [(130,Ex),(66,Gb),(58,Oe)]) Fa Try.f106 (p,xs,()) P:=by kernel_rfl
theorem Af2 (p:Int×ByteArray×List (List Int)×Unit) (room:Int) (P:Int->Prop):(Br (decide (IntKind.i64.wrap (room-(↑p.2.1.size:Int))<(0:Int))) (P (-1:Int)) (∃(y3:Int),kN.fn (p.2.2.1,IntKind.i64.wrap (room-(↑p.2.1.size:Int)),())=some y3/\Br (decide (y3<(0:Int))) (P (-1:Int)) (P y3)))=fnW Da (look [(34,kN)]) sn Try.f14 (p,room,()) P:=by kernel_rfl
theorem Af4 (p:Int×ByteArray×List (List Int)×Unit) (P:(Int×ByteArray×List (List Int)×Unit)->Prop):(∃(y2:List (List Int)),kO.fn (p.2.2.1,())=some y2/\P (p.1,p.2.1,y2,()))=fnW Da (look [(36,kO)]) so Try.f16 (p,()) P:=by kernel_rfl
theorem Aex (a b:Int×ByteArray×List (List Int)×Unit) (P:Bool->Prop):(Br (a.1 !=b.1) (P false) (Br (!a.2.1.toList==b.2.1.toList) (P false) (∃(y3:Bool),kK.fn (a.2.2.1,b.2.2.1,())=some y3/\Br (!y3) (P false) (P true))))=fnW Da (look [(38,kK)]) sj Try.f19 (a,b,()) P:=by kernel_rfl
theorem ZR (xs:List Int) (_:True):fnW Da (look []) Nl Try.f82 (xs,()) (λ(z:Int)=>z=(xs.length:Int)):=Eq.mp (Aam xs _) rfl
theorem bp:Sound Try.prog 82 Nl:=
 Sound.Dg Cg As mixed Try.func82 (by kernel_rfl) (by kernel_rfl) λx h=>ZR x.1 h
theorem va {α:Type} [DecidableEq α]: ∀(l m:List α),l.Nodup->(∀x∈l,x∈m)->l.length<=m.length
 | [],m,_,_=>Nat.zero_le _
 |a::l,m,hn,hs=>by
  have ha:a∈m:=hs a (List.mem_cons_self ..)
  have hn:=List.nodup_cons.1 hn
  have:=va l (m.erase a) hn.2 λx hx=>(List.mem_erase_of_ne (λ(e:x=a)=>hn.1 (by rw [<-e];exact hx))).2 (hs x (List.mem_cons_of_mem _ hx))
  rw [List.length_erase_of_mem ha] at this
  have:0<m.length:=List.length_pos_of_mem ha
  simp only [List.length_cons]
  omega
def upto (n:Nat):List Int:=(List.range n).map Int.ofNat
theorem pE (n:Nat):(upto n).Nodup:=by
 unfold upto
 exact List.Pairwise.map _ (λa b pX e=>pX (Int.ofNat.inj e)) List.nodup_range
theorem Jf {n:Nat} {x:Int} :x∈upto n↔0<=x/\x<n:=by
 unfold upto
 simp only [List.mem_map,List.mem_range]
 constructor
 ·rintro ⟨a,ha,rfl⟩;exact ⟨Int.natCast_nonneg _,Int.ofNat_lt.2 ha⟩
 ·rintro ⟨h1,h2⟩;exact ⟨x.toNat,by omega,by simp only [Int.ofNat_eq_natCast];omega⟩
theorem Qs (n:Nat):(upto n).length=n:=by simp [upto]
theorem dq {xs:List Int} (h: ∀j (hj:j<xs.length),xs[j]∉xs.take j):xs.Nodup:=by
 refine List.pairwise_iff_getElem.2 λi j hi hj fv e=>h j hj ?_
 rw [<-e]
 exact List.mem_take_iff_getElem.2 ⟨i,by omega,rfl⟩
theorem pC {xs:List Int} (h:xs.Nodup): ∀j (hj:j<xs.length),xs[j]∉xs.take j:=by
 intro j hj hm
 obtain ⟨i,hi,e⟩:=List.mem_take_iff_getElem.1 hm
 exact List.pairwise_iff_getElem.1 h i j (by omega) hj (by omega) e
theorem Ye {xs:List Int} (h: ∀x∈xs,0<=x/\x<xs.length):(∀k:Nat,k<xs.length->(k:Int)∈xs)↔ ∀j (hj:j<xs.length),xs[j]∉xs.take j:=by
 constructor
 ·intro ha j hj hm
  have h1:=va (upto xs.length) (xs.take j++xs.drop (j+1)) (pE _) λx hx=>by
   obtain ⟨h1,h2⟩:=Jf.1 hx
   have hx:=ha x.toNat (by omega)
   rw [show ((x.toNat:Nat):Int)=x by omega] at hx
   rw [<-List.take_append_drop j xs,List.mem_append,List.drop_eq_getElem_cons hj,List.mem_cons] at hx
   rcases hx with hx|rfl|hx
   ·exact List.mem_append_left _ hx
   ·exact List.mem_append_left _ hm
   ·exact List.mem_append_right _ hx
  rw [Qs,List.length_append,List.length_take,List.length_drop] at h1
  omega
 ·intro hn k hk
  refine Classical.byContradiction λhc=>?_
  have h1:=va xs ((upto xs.length).erase (k:Int)) (dq hn) λx hx=>by
   refine (List.mem_erase_of_ne λ(e:x=(k:Int))=>hc (by rw [<-e];exact hx)).2 (Jf.2 (h x hx))
  rw [List.length_erase_of_mem (Jf.2 ⟨by omega,by omega⟩),Qs] at h1
  omega
def mask (xs:List Int):Nat:=xs.foldl (λm x=>m|||2^x.toNat) 0
theorem HG (xs:List Int) (x:Int):mask (xs++ [x])=mask xs|||2^x.toNat:=by simp [mask]
theorem u7 (xs:List Int) (k:Nat): ∀a:Nat,(xs.foldl (λm x=>m|||2^x.toNat) a).testBit k=(a.testBit k||xs.any λx=>decide (x.toNat=k)):=by
 induction xs with
 |nil=>simp
 |cons x xs ih=>
  intro a
  rw [List.foldl_cons,ih,Nat.testBit_or,Nat.testBit_two_pow,List.any_cons,Bool.or_assoc]
theorem oh (xs:List Int) (k:Nat):(mask xs).testBit k=xs.any λx=>decide (x.toNat=k):=by
 unfold mask
 rw [u7,Nat.zero_testBit,Bool.false_or]
theorem SR {xs:List Int} {n:Nat} (h: ∀x∈xs,x.toNat<n):mask xs<2^n:=by
 refine Nat.lt_pow_two_of_testBit _ λk hk=>?_
 rw [oh]
 refine Bool.eq_false_iff.2 λht=>?_
 obtain ⟨x,hx,he⟩:=List.any_eq_true.1 ht
 have:=h x hx
 have:=of_decide_eq_true he
 omega
theorem rS {xs:List Int} (h: ∀x∈xs,0<=x/\x<xs.length):mask xs=2^xs.length-1↔ ∀k:Nat,k<xs.length->(k:Int)∈xs:=by
 constructor
 ·intro e k hk
  have h1:=oh xs k
  rw [e,Nat.testBit_two_pow_sub_one,decide_eq_true hk] at h1
  obtain ⟨x,hx,he⟩:=List.any_eq_true.1 h1.symm
  have:=(h x hx).1
  have:=of_decide_eq_true he
  have e:x=(k:Int):=by omega
  exact e▸hx
 ·intro ha
  refine Nat.eq_of_testBit_eq λk=>?_
  rw [oh,Nat.testBit_two_pow_sub_one]
  by_cases hk:k<xs.length
  ·rw [decide_eq_true hk]
   exact List.any_eq_true.2 ⟨k,ha k hk,by simp⟩
  ·rw [decide_eq_false hk]
   refine Bool.eq_false_iff.2 λht=>?_
   obtain ⟨x,hx,he⟩:=List.any_eq_true.1 ht
   have:=h x hx
   have:=of_decide_eq_true he
   omega
theorem SV {m:Nat} {x:Int} (hm:m<2^20) (h0:0<=x) (h1:x<20):
  IntKind.i64.wrap (((BitVec.ofInt IntKind.i64.bits (m:Int)|||BitVec.ofInt IntKind.i64.bits (IntKind.i64.wrap ((1:Int)*(2:Int)^min x.toNat IntKind.i64.bits))).toNat:Nat):Int)=((m|||2^x.toNat:Nat):Int):=by
 have hx:(2:Nat)^x.toNat<2^20:=Nat.pow_lt_pow_right (by omega) (by omega)
 have e1:min x.toNat IntKind.i64.bits=x.toNat:=by show min x.toNat 64=_;omega
 have e2:(1:Int)*(2:Int)^x.toNat=((2^x.toNat:Nat):Int):=by rw [Int.one_mul];exact (Int.natCast_pow 2 _).symm
 rw [e1,e2,Bd (n:=((2^x.toNat:Nat):Int)) (by have:(0:Int)<=((2^x.toNat:Nat):Int):=Int.natCast_nonneg _;omega) (by omega)]
 show IntKind.i64.wrap (((BitVec.ofInt 64 (m:Int)|||BitVec.ofInt 64 ((2^x.toNat:Nat):Int)).toNat:Nat):Int)=_
 rw [BitVec.ofInt_natCast,BitVec.ofInt_natCast,BitVec.toNat_or,BitVec.toNat_ofNat,BitVec.toNat_ofNat,Nat.mod_eq_of_lt (by omega),Nat.mod_eq_of_lt (by omega)]
 have:=Nat.or_lt_two_pow hm hx
 exact Bd (by omega) (by omega)
theorem ug (p:List Int) (h:short p):fnW Da (look [(93,Bw),(153,Lf)]) Ew Try.f169 (p,()) (λ(z:Bool)=>z=Ge p):=by
 have hs:=h
 unfold short at h
 refine Eq.mp (vG p _) ⟨_,if_pos trivial,⟨λhp=>?_,λhp=>?_⟩⟩
 ·have hp:=Cs hp
  rw [Cu] at hp
  dsimp only at hp
  exact Bn λhh=>hp ⟨by omega,by omega⟩
 ·have hp:=Hb hp
  rw [Cu] at hp
  dsimp only at hp
  refine Ap p.length (λv=>v.1) (λj _=>DL p.length p j) rfl (λj _ hj=>absurd hj (Nat.not_lt_zero _)) ?_
  rintro j ⟨i,⟨⟩⟩ K hj hi hR hK
  dsimp only at hi⊢
  subst hi
  refine Br.dec (λhl=>?_) λhl=>?_
  ·have hl:j<p.length:=by omega
   refine ⟨_,Au hl,_,if_pos trivial,⟨λhq=>?_,λhq=>?_⟩⟩
   ·have hq:=Cs hq
    rw [Cu,Bd (by omega) (by omega)] at hq
    exact Bn λhh=>hq ⟨(hh.2.2 j hl hl).1,(hh.2.2 j hl hl).2.1⟩
   ·have hq:=Hb hq
    rw [Cu,Bd (by omega) (by omega)] at hq
    refine ⟨⟨by omega,by omega,by omega⟩,_,Au hl,?_⟩
    rw [show (Int.toNat 0)=0 from rfl,List.drop_zero,Int.toNat_natCast]
    refine ⟨_,if_pos (BP hs j),⟨λhc=>?_,λhc=>?_⟩⟩
    ·have hc:decide (p[j]∈p.take j)=true:=hc
     rw [decide_eq_true_iff] at hc
     exact Bn λhh=>(hh.2.2 j hl hl).2.2 hc
    ·have hc:decide (p[j]∈p.take j)=false:=hc
     rw [decide_eq_false_iff_not] at hc
     rw [Ak (by omega)]
     exact hK hl _ rfl (RG hl hR hq.1 hq.2 hc)
  ·have:j=p.length:=by omega
   subst this
   exact Ix ⟨by omega,by omega,hR⟩
theorem Sj:Sound Try.prog 169 Ew:=
 Sound.Dg Cg (Ah Yt (Ah js As)) mixed Try.func169 (by kernel_rfl) (by kernel_rfl) λx h=>ug x.1 h
theorem uc (p:List Int) (h:short p):fnW Da (look [(97,Bw),(82,Nl)]) Ew Try.f168 (p,()) (λ(z:Bool)=>z=Ge p):=by
 unfold short at h
 refine Eq.mp (vC p _) ⟨_,if_pos trivial,_,if_pos trivial,⟨λhp=>?_,λhp=>?_⟩⟩
 ·have hp:=Cs hp
  rw [Cu] at hp
  dsimp only at hp
  exact Bn λhh=>hp ⟨by omega,by omega⟩
 ·have hp:=Hb hp
  rw [Cu] at hp
  dsimp only at hp
  refine Ap p.length (λv=>v.2.1) (λj v=>v.1=(mask (p.take j):Int)/\ ∀x∈p.take j,0<=x/\x<p.length) rfl ⟨rfl,by simp⟩ ?_
  rintro j ⟨m,i,⟨⟩⟩ K hj hi ⟨hm,hR⟩ hK
  dsimp only at hi hm⊢
  subst hi hm
  refine Br.dec (λhl=>?_) λhl=>?_
  ·have hl:j<p.length:=by omega
   refine ⟨_,Au hl,_,if_pos trivial,_,if_pos trivial,⟨λhq=>?_,λhq=>?_⟩⟩
   ·have hq:=Cs hq
    rw [Cu] at hq
    dsimp only at hq
    rw [Bd (by omega) (by omega)] at hq
    exact Bn λhh=>hq ⟨(hh.2.2 j hl hl).1,(hh.2.2 j hl hl).2.1⟩
   ·have hq:=Hb hq
    rw [Cu] at hq
    dsimp only at hq
    rw [Bd (by omega) (by omega)] at hq
    refine ⟨by omega,?_⟩
    rw [Ak (by omega)]
    have hb:mask (p.take j)<2^20:=SR λx hx=>by have:=hR x hx;omega
    refine hK hl _ rfl ⟨?_,?_⟩
    ·dsimp only
     rw [SV hb hq.1 (by omega),List.take_succ_eq_append_getElem hl,HG]
    ·rw [List.take_succ_eq_append_getElem hl]
     intro x hx
     rcases List.mem_append.1 hx with hx|hx
     ·exact hR x hx
     ·rw [List.mem_singleton.1 hx];omega
  ·have:j=p.length:=by omega
   subst this
   rw [List.take_length] at hR⊢
   refine ⟨by omega,?_⟩
   have hx:(2:Nat)^p.length<=2^20:=Nat.pow_le_pow_right (by omega) (by omega)
   have kh:0<(2:Nat)^p.length:=Nat.two_pow_pos _
   have e1:min (p.length:Int).toNat IntKind.i64.bits=p.length:=by show min (p.length:Int).toNat 64=_;omega
   have e2:(1:Int)*(2:Int)^p.length=((2^p.length:Nat):Int):=by rw [Int.one_mul];exact (Int.natCast_pow 2 _).symm
   rw [e1,e2,Bd (n:=((2^p.length:Nat):Int)) (by omega) (by omega),Bd (by omega) (by omega)]
   have hE:((mask p:Int)==((2^p.length:Nat):Int)-1)=decide (mask p=2^p.length-1):=by
    rw [Bool.eq_iff_iff,beq_iff_eq,decide_eq_true_iff]
    omega
   show ((mask p:Int)==((2^p.length:Nat):Int)-1)=Ge p
   rw [hE]
   by_cases hf:mask p=2^p.length-1
   ·rw [decide_eq_true hf]
    have hn:=(Ye hR).1 ((rS hR).1 hf)
    refine Ix ⟨by omega,by omega,λj hj _=>?_⟩
    have:=hR _ (List.getElem_mem hj)
    exact ⟨this.1,by omega,hn j hj⟩
   ·rw [decide_eq_false hf]
    refine Bn λhh=>hf ((rS hR).2 ((Ye hR).2 λj hj=>(hh.2.2 j hj hj).2.2))
theorem ag:Sound Try.prog 168 Ew:=
 Sound.Dg Cg (Ah Qq (Ah bp As)) mixed Try.func168 (by kernel_rfl) (by kernel_rfl) λx h=>uc x.1 h
theorem uf (n:Int) (g:List (List Int)) (h:Gp g):fnW Da (look [(93,Bw),(169,Ew)]) Kz Try.f147 (n,g,()) (λ(z:Bool)=>z=Tk n g):=by
 obtain ⟨h,h4⟩:=h
 refine Eq.mp (vF n g _) ⟨_,if_pos trivial,⟨λhp=>?_,λhp=>?_⟩⟩
 ·have hp:=Cs hp
  rw [Cu] at hp
  exact Bn λhh=>hp hh.1
 ·have hp:=Hb hp
  rw [Cu] at hp
  refine Br.dec (λhg=>?_) λhg=>?_
  ·exact Bn λhh=>by have:=hh.2.1;omega
  ·refine Ap g.length (λv=>v.1) (λj _=> ∀p∈g.take j,Eo n p=true) rfl (by simp) ?_
   rintro j ⟨i,⟨⟩⟩ K hj hi hR hK
   dsimp only at hi⊢
   subst hi
   refine Br.dec (λhl=>?_) λhl=>?_
   ·have hl:j<g.length:=by omega
    have hm:g[j]∈g:=List.getElem_mem hl
    refine ⟨_,Au hl,⟨λhe=>?_,λhe=>?_⟩⟩
    ·simp only [bne_iff_ne,ne_eq] at he
     exact Bn λhh=>he (Dz.1 (hh.2.2 _ hm)).1
    ·simp only [bne_eq_false_iff_eq] at he
     refine ⟨_,Au hl,_,if_pos (h4 _ hm),⟨λhq=>?_,λhq=>?_⟩⟩
     ·have hq:=Cs hq
      exact Bn λhh=>hq (Dz.1 (hh.2.2 _ hm)).2
     ·have hq:=Hb hq
      rw [Ak (by omega)]
      refine hK hl _ rfl ?_
      rw [List.take_succ_eq_append_getElem hl]
      intro x hx
      rcases List.mem_append.1 hx with hx|hx
      ·exact hR x hx
      ·rw [List.mem_singleton.1 hx];exact Dz.2 ⟨he,hq⟩
   ·have:j=g.length:=by omega
    subst this
    rw [List.take_length] at hR
    exact Ix ⟨hp,by omega,hR⟩
theorem kU:Sound Try.prog 147 Kz:=
 Sound.Dg Cg (Ah Yt (Ah Sj As)) mixed Try.func147 (by kernel_rfl) (by kernel_rfl) λx h=>uf x.1 x.2.1 h
theorem SX (p:List Int) (n:Int) (h:short p):fnW Da (look [(82,Nl),(168,Ew)]) eM Try.f177 (p,n,()) (λ(z:Bool)=>z=!Eo n p):=by
 refine Eq.mp (TW p n _) ⟨_,if_pos trivial,⟨λhe=>?_,λhe=>⟨_,if_pos h,?_⟩⟩⟩
 ·simp only [bne_iff_ne,ne_eq] at he
  have:Eo n p=false:=RF.2 λhh=>he hh.1
  rw [this];rfl
 ·simp only [bne_eq_false_iff_eq] at he
  show (!Ge p)=_
  congr 1
  cases hp:Ge p with
  |true=>exact Ix ⟨he,hp⟩
  |false=>exact Bn λhh=>by rw [hh.2] at hp;cases hp
theorem yg:Sound Try.prog 177 eM:=
 Sound.Dg Cg (Ah bp (Ah ag As)) mixed Try.func177 (by kernel_rfl) (by kernel_rfl) λx h=>SX x.1 x.2.1 h
theorem lG {α:Type} (P:α->Bool): ∀(l:List α) (i:Int),0<=i->(0<=Db P l i↔l.any P=true)
 | [],i,_=>by simp [Db]
 |y::r,i,h=>by
  simp only [Db,List.any_cons,Bool.or_eq_true]
  split
  ·rename_i hy;simp [hy,h]
  ·rename_i hy;rw [lG P r (i+1) (by omega)];simp [hy]
theorem Aef (g:List (List Int)) (n:Int×Unit) (h:Gp g):fnW Da (look [(177,eM)]) sl Try.f184 (g,n,()) (λ(z:Int)=>z=Db (λp=>!Eo n.1 p) g 0):=by
 obtain ⟨h,h4⟩:=h
 refine Eq.mp (Aez g n _) ?_
 refine Ap g.length (λv=>v.1) (λj _=>Db (λp=>!Eo n.1 p) (g.drop j) j=Db (λp=>!Eo n.1 p) g 0) rfl (by simp) ?_
 rintro j ⟨i,⟨⟩⟩ K hj hi hR hK
 dsimp only at hi⊢
 subst hi
 refine Br.dec (λhl=>?_) λhl=>?_
 ·have hl:j<g.length:=by omega
  rw [List.drop_eq_getElem_cons hl] at hR
  simp only [Db] at hR
  refine ⟨_,Au hl,_,if_pos (h4 _ (List.getElem_mem hl)),⟨λhe=>?_,λhe=>?_⟩⟩
  ·have he:(!Eo n.1 g[j])=true:=he
   rw [if_pos he] at hR
   exact hR
  ·have he:(!Eo n.1 g[j])=false:=he
   rw [if_neg (by rw [he];decide)] at hR
   rw [Ak (by omega)]
   exact hK hl _ rfl (by push_cast;exact hR)
 ·have:j=g.length:=by omega
  subst this
  rw [List.drop_length] at hR
  exact hR
theorem IS:Sound Try.prog 184 sl:=
 Sound.Dg Cg (Ah yg As) mixed Try.func184 (by kernel_rfl) (by kernel_rfl) λx h=>Aef x.1 x.2.1 h
theorem Aea (g:List (List Int)) (n:Int×Unit) (h:Gp g):fnW Da (look [(184,sl)]) sf Try.f176 (g,n,()) (λ(z:Bool)=>z=List.any g (λp=>!Eo n.1 p)):=by
 refine Eq.mp (Aeu g n _) ⟨_,if_pos h,?_⟩
 rw [Bool.eq_iff_iff,decide_eq_true_iff]
 exact lG _ g 0 (Int.le_refl 0)
theorem IM:Sound Try.prog 176 sf:=
 Sound.Dg Cg (Ah IS As) mixed Try.func176 (by kernel_rfl) (by kernel_rfl) λx h=>Aea x.1 x.2.1 h
theorem ub (n:Int) (g:List (List Int)) (h:Gp g):fnW Da (look [(97,Bw),(176,sf)]) Kz Try.f158 (n,g,()) (λ(z:Bool)=>z=Tk n g):=by
 refine Eq.mp (vB n g _) ⟨_,if_pos trivial,⟨λhp=>?_,λhp=>?_⟩⟩
 ·have hp:Hw n 1 20=true:=hp
  rw [Cu] at hp
  refine Br.dec (λhl=>⟨_,if_pos h,?_⟩) λhl=>?_
  ·show (!List.any g (λp=>!Eo n p))=Tk n g
   cases ha:List.any g (λp=>!Eo n p) with
   |true=>
    obtain ⟨p,vN,GK⟩:=List.any_eq_true.1 ha
    exact Bn λhh=>by rw [hh.2.2 p vN] at GK;cases GK
   |false=>
    refine Ix ⟨hp,by omega,λp hm=>?_⟩
    have:=List.any_eq_false.1 ha p hm
    simpa using this
  ·exact Bn λhh=>by have:=hh.2.1;omega
 ·refine Bn λhh=>?_
  have:Hw n 1 20=true:=Cu.2 hh.1
  have hp:Hw n 1 20=false:=hp
  rw [this] at hp;cases hp
theorem kS:Sound Try.prog 158 Kz:=
 Sound.Dg Cg (Ah Qq (Ah IM As)) mixed Try.func158 (by kernel_rfl) (by kernel_rfl) λx h=>ub x.1 x.2.1 h
theorem Ij {s:ByteArray} {k:Nat} (h:k<s.size):s[k]?=some s[k]:=getElem?_pos s k h
theorem NT (s:ByteArray) (i:Int) (h:0<=i/\i<s.size/\s.size<=4294967296):fnW Da (look []) a8 Try.f148 (s,i,()) (λ(z:Bool)=>z=ja s i):=by
 obtain ⟨h1,h2,h3⟩:=h
 have hi:i.toNat<s.size:=by omega
 refine Eq.mp (PU s i _) ⟨h1,_,Ij hi,Br.dec (λhq=>?_) λhq=>⟨h1,_,Ij hi,Br.dec (λhr=>?_) λhr=>?_⟩⟩
 ·refine Bn λ⟨c,hc,JZ,_⟩=>?_
  rw [Ij hi] at hc;cases hc;omega
 ·refine Bn λ⟨c,hc,_,JZ,_⟩=>?_
  rw [Ij hi] at hc;cases hc;omega
 ·refine Ap i.toNat (λv=>v.1) (λj _=> ∀k,k<j->s[k]?≠some s[i.toNat]) rfl (λk hk=>absurd hk (Nat.not_lt_zero _)) ?_
  rintro j ⟨i',⟨⟩⟩ K hj cX hR hK
  dsimp only at cX⊢
  subst cX
  refine Br.dec (λhl=>?_) λhl=>?_
  ·have hl:j<i.toNat:=by omega
   have hj:j<s.size:=by omega
   rw [Int.toNat_natCast]
   refine ⟨by omega,_,Ij hj,h1,_,Ij hi,⟨λhe=>?_,λhe=>?_⟩⟩
   ·simp only [beq_iff_eq,Int.natCast_inj] at he
    refine Bn λ⟨c,hc,_,_,JZ⟩=>?_
    rw [Ij hi] at hc;cases hc
    exact JZ j hl (by rw [Ij hj,UInt8.toNat_inj.1 he])
   ·simp only [beq_eq_false_iff_ne,ne_eq,Int.natCast_inj] at he
    rw [Ak (by omega)]
    refine hK hl _ rfl λk hk=>?_
    by_cases e:k=j
    ·subst e
     rw [Ij hj]
     exact λe=>he (by rw [Option.some.inj e])
    ·exact hR k (by omega)
  ·have:j=i.toNat:=by omega
   subst this
   exact Ix ⟨_,Ij hi,by omega,by omega,hR⟩
theorem uN:Sound Try.prog 148 a8:=
 Sound.Dg Cg As mixed Try.func148 (by kernel_rfl) (by kernel_rfl) λx h=>NT x.1 x.2.1 h
theorem HW (s:ByteArray) (h:s.size<=4294967296):fnW Da (look [(97,Bw)]) Vi Try.f159 (s,()) (λ(z:Bool)=>z=Zx s):=by
 refine Eq.mp (JO s _) ?_
 refine Ap s.size (λv=>v.1) (λj _=> ∀k,k<j->sD s k) rfl (λk hk=>absurd hk (Nat.not_lt_zero _)) ?_
 rintro j ⟨i,⟨⟩⟩ K hj hi hR hK
 dsimp only at hi⊢
 subst hi
 refine Br.dec (λhl=>?_) λhl=>?_
 ·have hl:j<s.size:=by omega
  rw [Int.toNat_natCast]
  have hb:=(s[j]).toNat_lt
  refine ⟨by omega,_,Ij hl,_,if_pos trivial,⟨λhq=>?_,λhq=>?_⟩⟩
  ·have hq:=Cs hq
   rw [Cu] at hq
   dsimp only at hq
   rw [Bd (by omega) (by omega)] at hq
   refine Bn λhh=>?_
   obtain ⟨c,hc,JZ,QH,_⟩:=hh.2 j hl
   rw [Ij hl] at hc;cases hc
   exact hq ⟨by omega,by omega⟩
  ·have hq:=Hb hq
   rw [Cu] at hq
   dsimp only at hq
   rw [Bd (by omega) (by omega)] at hq
   refine Ap j (λv=>v.1) (λm _=> ∀k,k<m->s[k]?≠some s[j]) rfl (λk hk=>absurd hk (Nat.not_lt_zero _)) ?_
   rintro m ⟨i',⟨⟩⟩ K' hm cX hR' hK'
   dsimp only at cX⊢
   subst cX
   refine Br.dec (λHl=>?_) λHl=>?_
   ·have Hl:m<j:=by omega
    have hm':m<s.size:=by omega
    rw [Int.toNat_natCast]
    refine ⟨by omega,_,Ij hm',by omega,_,Ij hl,⟨λhe=>?_,λhe=>?_⟩⟩
    ·simp only [beq_iff_eq,Int.natCast_inj] at he
     refine Bn λhh=>?_
     obtain ⟨c,hc,_,_,JZ⟩:=hh.2 j hl
     rw [Ij hl] at hc;cases hc
     exact JZ m Hl (by rw [Ij hm',UInt8.toNat_inj.1 he])
    ·simp only [beq_eq_false_iff_ne,ne_eq,Int.natCast_inj] at he
     rw [Ak (by omega)]
     refine hK' Hl _ rfl λk hk=>?_
     by_cases e:k=m
     ·subst e
      rw [Ij hm']
      exact λe=>he (by rw [Option.some.inj e])
     ·exact hR' k (by omega)
   ·have:m=j:=by omega
    subst this
    rw [Ak (by omega)]
    refine hK hl _ rfl λk hk=>?_
    by_cases e:k=m
    ·subst e
     exact ⟨_,Ij hl,by omega,by omega,hR'⟩
    ·exact hR k (by omega)
 ·have:j=s.size:=by omega
  subst this
  refine ⟨_,if_pos trivial,?_⟩
  show Hw s.size 1 8=_
  cases hr:Hw s.size 1 8 with
  |true=>rw [Cu] at hr;exact Ix ⟨by omega,hR⟩
  |false=>refine Bn λhh=>?_;rw [Cu.2 ⟨by omega,by omega⟩] at hr;cases hr
theorem qJ:Sound Try.prog 159 Vi:=
 Sound.Dg Cg (Ah Qq As) mixed Try.func159 (by kernel_rfl) (by kernel_rfl) λx h=>HW x.1 h
theorem CO {p:PP} (h:Ba p=true):1<=p.1/\p.1<=20/\1<=p.2.2.1.length/\p.2.2.1.length<=8:=by
 obtain ⟨h1,h2,h3⟩:=Dz.1 h
 obtain ⟨h4,h5,_⟩:=Dz.1 h1
 obtain ⟨h6,_⟩:=Dz.1 h2
 omega
theorem uh (p:PP) (h:Cn p):fnW Da (look [(147,Kz),(148,a8)]) Ex Try.f110 (p,()) (λ(z:Bool)=>z=Ba p):=by
 obtain ⟨hn,hg⟩:=h
 refine Eq.mp (vH p _) ⟨λh0=>?_,λh0=>⟨λh1=>?_,λh1=>⟨_,if_pos hg,⟨λh2=>?_,λh2=>?_⟩⟩⟩⟩
 ·simp only [beq_iff_eq] at h0
  exact Bn λhh=>by obtain ⟨_,h2,h3⟩:=hh;have:=(Dz.1 h2).1;omega
 ·simp only [bne_iff_ne,ne_eq,Int.natCast_inj] at h1
  exact Bn λhh=>h1 hh.2.2
 ·have h2:=Cs h2
  exact Bn λhh=>h2 hh.1
 ·simp only [beq_eq_false_iff_ne,ne_eq] at h0
  simp only [bne_eq_false_iff_eq,Int.natCast_inj] at h1
  have h2:Tk p.1 p.2.2.1=true:=Hb h2
  refine Ap p.2.1.size (λv=>v.1) (λj v=>v.2=(p.1,p.2.1,p.2.2.1,())/\ ∀k,k<j->sD p.2.1 k) rfl ⟨rfl,λk hk=>absurd hk (Nat.not_lt_zero _)⟩ ?_
  rintro j ⟨i,v⟩ K hj hi ⟨hv,hR⟩ hK
  dsimp only at hi hv⊢
  subst hi hv
  dsimp only
  refine Br.dec (λhl=>?_) λhl=>?_
  ·have hl:j<p.2.1.size:=by omega
   refine ⟨_,if_pos ⟨Int.natCast_nonneg j,Int.ofNat_lt.2 hl,hn⟩,⟨λhq=>?_,λhq=>?_⟩⟩
   ·have hq: ¬ja p.2.1 j=true:=Cs hq
    refine Bn λhh=>hq (Dz.2 ?_)
    rw [Int.toNat_natCast]
    exact (Dz.1 hh.2.1).2 j hl
   ·have hq:ja p.2.1 j=true:=Hb hq
    have hq:=Dz.1 hq
    rw [Int.toNat_natCast] at hq
    rw [Ak (by omega)]
    refine hK hl _ rfl ⟨rfl,λk hk=>?_⟩
    by_cases e:k=j
    ·subst e;exact hq
    ·exact hR k (by omega)
  ·have:j=p.2.1.size:=by omega
   subst this
   have:=(Dz.1 h2).2.1
   exact Ix ⟨h2,Dz.2 ⟨⟨by omega,by omega⟩,hR⟩,h1⟩
theorem Sk:Sound Try.prog 110 Ex:=
 Sound.Dg Cg (Ah kU (Ah uN As)) mixed Try.func110 (by kernel_rfl) (by kernel_rfl) λx h=>uh x.1 h
theorem ud (p:PP) (h:Cn p):fnW Da (look [(158,Kz),(159,Vi)]) Ex Try.f130 (p,()) (λ(z:Bool)=>z=Ba p):=by
 obtain ⟨hn,hg⟩:=h
 refine Eq.mp (vD p _) ⟨_,if_pos hg,⟨λh1=>⟨_,if_pos hn,⟨λh2=>?_,λh2=>?_⟩⟩,λh1=>?_⟩⟩
 ·have h1:Tk p.1 p.2.2.1=true:=h1
  have h2:Zx p.2.1=true:=h2
  by_cases e:p.2.1.size=p.2.2.1.length
  ·rw [e,beq_self_eq_true];exact Ix ⟨h1,h2,e⟩
  ·rw [show ((p.2.1.size:Int)==(p.2.2.1.length:Int))=false from beq_eq_false_iff_ne.2 (by omega)];exact Bn λhh=>e hh.2.2
 ·have h2:Zx p.2.1=false:=h2
  exact Bn λhh=>by rw [hh.2.1] at h2;cases h2
 ·have h1:Tk p.1 p.2.2.1=false:=h1
  exact Bn λhh=>by rw [hh.1] at h1;cases h1
theorem ah:Sound Try.prog 130 Ex:=
 Sound.Dg Cg (Ah kS (Ah qJ As)) mixed Try.func130 (by kernel_rfl) (by kernel_rfl) λx h=>ud x.1 h
theorem mH {a b:Bool} :(a&&b)=dec (a=true/\b=true):=by
 cases ha:a<;>cases hb:b
 ·exact Bn (by simp)
 ·exact Bn (by simp)
 ·exact Bn (by simp)
 ·exact Ix ⟨rfl,rfl⟩
theorem kE (p:PP) (xs:List Int) (h:Cn p/\short xs):fnW Da (look [(110,Ex),(111,Gb)]) Fa Try.f101 (p,xs,()) (λ(z:Bool)=>z=Bk p xs):=by
 refine Eq.mp (l7 p xs _) ⟨_,if_pos h.1,⟨λh1=>⟨_,if_pos ⟨⟨by omega,by have:=h.1.2.1;dsimp only;omega⟩,h.2⟩,?_⟩,λh1=>?_⟩⟩
 ·have h1:Ba p=true:=h1
  show Mf p.2.2.1.length xs=_
  rw [Bk,<-mH,h1,Bool.true_and]
 ·have h1:Ba p=false:=h1
  rw [Bk,<-mH,h1,Bool.false_and]
theorem dQ:Sound Try.prog 101 Fa:=
 Sound.Dg Cg (Ah Sk (Ah jt As)) mixed Try.func101 (by kernel_rfl) (by kernel_rfl) λx h=>kE x.1 x.2.1 h
theorem kD (p:PP) (xs:List Int) (h:Cn p/\short xs):fnW Da (look [(130,Ex),(66,Gb),(58,Oe)]) Fa Try.f106 (p,xs,()) (λ(z:Bool)=>z=Bk p xs):=by
 refine Eq.mp (l6 p xs _) ⟨_,if_pos h.1,⟨λh1=>⟨_,if_pos trivial,_,if_pos ⟨⟨by dsimp only;omega,by have:=h.1.2.1;dsimp only;omega⟩,h.2⟩,?_⟩,λh1=>?_⟩⟩
 ·have h1:Ba p=true:=h1
  show Mf p.2.2.1.length xs=_
  rw [Bk,<-mH,h1,Bool.true_and]
 ·have h1:Ba p=false:=h1
  rw [Bk,<-mH,h1,Bool.false_and]
theorem dO:Sound Try.prog 106 Fa:=
 Sound.Dg Cg (Ah ah (Ah mz (Ah dP As))) mixed Try.func106 (by kernel_rfl) (by kernel_rfl) λx h=>kD x.1 x.2.1 h
theorem Aei (p:PP) (room:Int) (h:Cn p/\roomy room):fnW Da (look [(34,kN)]) sn Try.f14 (p,room,()) (λ(z:Int)=>z=dk p room):=by
 obtain ⟨⟨h1,h2⟩,h3,h4⟩:=h
 refine Eq.mp (Af2 p room _) ?_
 rw [Bd (by omega) (by omega)]
 refine Br.dec (λhn=>?_) λhn=>⟨_,if_pos ⟨h2,by dsimp only;omega,by dsimp only;omega⟩,Br.dec (λhm=>?_) λhm=>?_⟩
 ·simp only [dk,if_pos hn]
 ·exact ((if_neg hn).trans (if_pos hm)).symm
 ·exact ((if_neg hn).trans (if_neg hm)).symm
theorem IV:Sound Try.prog 14 sn:=
 Sound.Dg Cg (Ah CF As) mixed Try.func14 (by kernel_rfl) (by kernel_rfl) λx h=>Aei x.1 x.2.1 h
theorem Aek (p:PP) (h:Cn p):fnW Da (look [(36,kO)]) so Try.f16 (p,()) (λ(z:PP)=>z=p):=Eq.mp (Af4 p _) ⟨_,if_pos h.2,rfl⟩
theorem IW:Sound Try.prog 16 so:=
 Sound.Dg Cg (Ah CG As) mixed Try.func16 (by kernel_rfl) (by kernel_rfl) λx h=>Aek x.1 h
theorem wk {a b:ByteArray} :(a.toList==b.toList)=decide (a=b):=by
 rw [Bool.eq_iff_iff,beq_iff_eq,decide_eq_true_iff,ByteArray.toList_eq,ByteArray.toList_eq]
 exact ⟨λh=>ByteArray.ext (Array.toList_inj.1 h),λh=>by rw [h]⟩
theorem Aed (a b:PP) (h:Cn a):fnW Da (look [(38,kK)]) sj Try.f19 (a,b,()) (λ(z:Bool)=>z=lF a b):=by
 refine Eq.mp (Aex a b _) ⟨λh1=>?_,λh1=>⟨λh2=>?_,λh2=>⟨_,if_pos h.2,⟨λh3=>?_,λh3=>?_⟩⟩⟩⟩
 ·simp only [bne_iff_ne,ne_eq] at h1
  unfold lF
  rw [decide_eq_false h1];rfl
 ·rw [wk] at h2
  unfold lF
  cases hd:decide (a.2.1=b.2.1)<;>simp_all
 ·have h3:(!kq a.2.2.1 b.2.2.1)=true:=h3
  simp only [kq,Bool.not_eq_true'] at h3
  unfold lF
  rw [h3];simp
 ·have h3:(!kq a.2.2.1 b.2.2.1)=false:=h3
  rw [wk] at h2
  simp only [kq] at h3
  simp only [bne_eq_false_iff_eq] at h1
  unfold lF
  simp_all
theorem IP:Sound Try.prog 19 sj:=
 Sound.Dg Cg (Ah BX As) mixed Try.func19 (by kernel_rfl) (by kernel_rfl) λx h=>Aed x.1 x.2.1 h
theorem AE (p:PP):lF p p=true:=by simp [lF]
end Go.Proofs.Ytjbdmibbbpdnnaa

namespace Go.Proofs.Ytjbdmibbbpdnnaa
open Go.RowKit
noncomputable abbrev a9:Spec:=Dg (.pair tI (.pair tL .unit)) .bool false true (λx=>short x.2.1) (λx=>Eo x.1 x.2.1)
noncomputable abbrev Sb:Spec:=Dg (.pair Co (.pair tL .unit)) .bool false true (λx=>short x.2.1) (λx=>Eo x.1.1 x.2.1)
noncomputable abbrev Vk:Spec:=Dg (.pair Co (.pair tL .unit)) .bool false true (λx=>Cn x.1/\short x.2.1) (λx=>Ba x.1&&Eo x.1.1 x.2.1)
theorem PV (n:Int) (s:List Int) (P:Bool->Prop):(Br ((↑s.length:Int)==n) (∃(y3:Bool),Ew.fn (s,())=some y3/\P y3) (P false))=fnW Da (look [(169,Ew)]) a9 Try.f143 (n,s,()) P:=by kernel_rfl
theorem pI (p:Int×ByteArray×List (List Int)×Unit) (s:List Int) (P:Bool->Prop):(∃(y3:Int),Nl.fn (s,())=some y3/\Br (y3==p.1) (∃(y4:Bool),Ew.fn (s,())=some y4/\P y4) (P false))=fnW Da (look [(82,Nl),(168,Ew)]) Sb Try.f141 (p,s,()) P:=by kernel_rfl
theorem qY (p:Int×ByteArray×List (List Int)×Unit) (s:List Int) (P:Bool->Prop):(∃(y3:Bool),Ex.fn ((p.1,p.2.1,p.2.2.1,()),())=some y3/\Br y3 (∃(y4:Bool),a9.fn (p.1,s,())=some y4/\P y4) (P false))=fnW Da (look [(110,Ex),(143,a9)]) Vk Try.f103 (p,s,()) P:=by kernel_rfl
theorem NU (n:Int) (s:List Int) (h:short s):fnW Da (look [(169,Ew)]) a9 Try.f143 (n,s,()) (λ(z:Bool)=>z=Eo n s):=by
 refine Eq.mp (PV n s _) ⟨λhe=>⟨_,if_pos h,?_⟩,λhe=>?_⟩
 ·simp only [beq_iff_eq] at he
  show Ge s=_
  cases hp:Ge s with
  |true=>exact Ix ⟨he,hp⟩
  |false=>exact Bn λhh=>by rw [hh.2] at hp;cases hp
 ·simp only [beq_eq_false_iff_ne,ne_eq] at he
  exact Bn λhh=>he hh.1
theorem uO:Sound Try.prog 143 a9:=
 Sound.Dg Cg (Ah Sj As) mixed Try.func143 (by kernel_rfl) (by kernel_rfl) λx h=>NU x.1 x.2.1 h
theorem oG (p:PP) (s:List Int) (h:short s):fnW Da (look [(82,Nl),(168,Ew)]) Sb Try.f141 (p,s,()) (λ(z:Bool)=>z=Eo p.1 s):=by
 refine Eq.mp (pI p s _) ⟨_,if_pos trivial,⟨λhe=>⟨_,if_pos h,?_⟩,λhe=>?_⟩⟩
 ·simp only [beq_iff_eq] at he
  show Ge s=_
  cases hp:Ge s with
  |true=>exact Ix ⟨he,hp⟩
  |false=>exact Bn λhh=>by rw [hh.2] at hp;cases hp
 ·simp only [beq_eq_false_iff_ne,ne_eq] at he
  exact Bn λhh=>he hh.1
theorem gX:Sound Try.prog 141 Sb:=
 Sound.Dg Cg (Ah bp (Ah ag As)) mixed Try.func141 (by kernel_rfl) (by kernel_rfl) λx h=>oG x.1 x.2.1 h
theorem qw (p:PP) (s:List Int) (h:Cn p/\short s):fnW Da (look [(110,Ex),(143,a9)]) Vk Try.f103 (p,s,()) (λ(z:Bool)=>z=(Ba p&&Eo p.1 s)):=by
 refine Eq.mp (qY p s _) ⟨_,if_pos h.1,⟨λhe=>⟨_,if_pos h.2,?_⟩,λhe=>?_⟩⟩
 ·have he:Ba p=true:=he
  rw [he];rfl
 ·have he:Ba p=false:=he
  rw [he];rfl
theorem jv:Sound Try.prog 103 Vk:=
 Sound.Dg Cg (Ah Sk (Ah uO As)) mixed Try.func103 (by kernel_rfl) (by kernel_rfl) λx h=>qw x.1 x.2.1 h
end Go.Proofs.Ytjbdmibbbpdnnaa

namespace Go.Proofs.Ytjbdmibbbpdnnaa
open Go.RowKit
def Bj (xs:List Int) (i:Int):Int:=xs.getD i.toNat 0
def Ab (p q:List Int):List Int:=p.map (Bj q)
def Xi (f:Nat->Nat) (g:Nat->Int) (m:Nat) (init:List Int):List Int:=(List.range m).foldl (λ(out:List Int) (i:Nat)=>out.set (f i) (g i)) init
def Aq (p:List Int):List Int:=Xi (λi=>(Bj p (i:Int)).toNat) (λi=>(i:Int)) p.length (List.replicate p.length 0)
def Ny (n:Nat) (p:List Int):Prop:= ∀y∈p,0<=y/\y<n
noncomputable abbrev Vg:Spec:=Dg (.pair tL (.pair tL .unit)) tL false true (λx=>List.length x.1<=20/\Ny (List.length x.2.1) x.1) (λx=>Ab x.1 x.2.1)
noncomputable abbrev Eu:Spec:=Dg (.pair tL .unit) tL false true (λx=>List.length x.1<=20/\Ny (List.length x.1) x.1) (λx=>Aq x.1)
noncomputable abbrev Cj:Spec:=Dg (.pair tI .unit) tL false true (λx=>0<=x.1/\x.1<=20) (λx=>upto x.1.toNat)
noncomputable abbrev Li:Spec:=Dg (.pair tL .unit) tL false true (λx=>Ge x.1=true) (λx=>Aq x.1)
def Af (g:List (List Int)) (l:Int):List Int:=if l>0 then g.getD (l-1).toNat [] else Aq (g.getD (-l-1).toNat [])
def Dh (n:Int) (l:Int):Prop:=l≠0/\ -n<=l/\l<=n
noncomputable abbrev Se:Spec:=Dg (.pair hY (.pair tI .unit)) tL false false (λx=>Dh (List.length x.1) x.2.1/\List.length x.1<=8/\ ∀p∈x.1,Ge p=true) (λx=>Af x.1 x.2.1)
def Ae (n:Nat):List Int:=(List.range n).flatMap λ(k:Nat)=> [(k:Int)+1,-((k:Int)+1)]
noncomputable abbrev Gj:Spec:=Dg (.pair tI .unit) tL false true (λx=>0<=x.1/\x.1<=8) (λx=>Ae x.1.toNat)
noncomputable abbrev Ky:Spec:=Dg (.pair Co (.pair tL (.pair tI .unit))) tL false true (λx=>Ba x.1=true/\List.length x.2.1<=20/\(∀y∈x.2.1,0<=y/\y<x.1.1)/\Dh (List.length x.1.2.2.1) x.2.2.1) (λx=>Ab x.2.1 (Af x.1.2.2.1 x.2.2.1))
theorem qT (p q:List Int) (P:List Int->Prop):(((0:Int)<=(↑p.length:Int)/\(↑p.length:Int)<(↑Bm:Int)+(1:Int))/\(↑p.length:Int)=(↑p.length:Int)/\0=0/\(List.replicate (↑p.length:Int).toNat (Int.ofNat (nat_lit 0))).length=(List.replicate (↑p.length:Int).toNat (Int.ofNat (nat_lit 0))).length/\Bo (λ(v3:Int×List Int×PUnit) (k4:Int×List Int×PUnit->Prop)=>Br (decide (v3.1<(↑p.length:Int))) (∃(y5:Int),idx p v3.1=some y5/\ ∃(y6:Int),idx q y5=some y6/\((0:Int)<=v3.1/\v3.1<(↑v3.2.1.length:Int))/\0+v3.1.toNat<v3.2.1.length/\0=0/\v3.2.1.length=(v3.2.1.set (0+v3.1.toNat) y6).length/\k4 (IntKind.i64.wrap (v3.1+(1:Int)),v3.2.1.set (0+v3.1.toNat) y6,())) (P (List.take v3.2.1.length (List.drop 0 v3.2.1)))) ((0:Int),List.replicate (↑p.length:Int).toNat (Int.ofNat (nat_lit 0)),PUnit.unit))=fnW Da (look []) Vg Try.f156 (p,q,()) P:=by kernel_rfl
theorem qU (p:List Int) (P:List Int->Prop):(((0:Int)<=(↑p.length:Int)/\(↑p.length:Int)<(↑Bm:Int)+(1:Int))/\(↑p.length:Int)=(↑p.length:Int)/\0=0/\(List.replicate (↑p.length:Int).toNat (Int.ofNat (nat_lit 0))).length=(List.replicate (↑p.length:Int).toNat (Int.ofNat (nat_lit 0))).length/\Bo (λ(v2:Int×List Int×PUnit) (k3:Int×List Int×PUnit->Prop)=>Br (decide (v2.1<(↑p.length:Int))) (∃(y4:Int),idx p v2.1=some y4/\((0:Int)<=y4/\y4<(↑v2.2.1.length:Int))/\0+y4.toNat<v2.2.1.length/\0=0/\v2.2.1.length=(v2.2.1.set (0+y4.toNat) v2.1).length/\k3 (IntKind.i64.wrap (v2.1+(1:Int)),v2.2.1.set (0+y4.toNat) v2.1,())) (P (List.take v2.2.1.length (List.drop 0 v2.2.1)))) ((0:Int),List.replicate (↑p.length:Int).toNat (Int.ofNat (nat_lit 0)),PUnit.unit))=fnW Da (look []) Eu Try.f175 (p,()) P:=by kernel_rfl
theorem JS (p:List Int) (P:List Int->Prop):(((0:Int)<=(↑p.length:Int)/\(↑p.length:Int)<(↑Bm:Int)+(1:Int))/\(↑p.length:Int)=(↑p.length:Int)/\0=0/\(List.replicate (↑p.length:Int).toNat (Int.ofNat (nat_lit 0))).length=(List.replicate (↑p.length:Int).toNat (Int.ofNat (nat_lit 0))).length/\Bo (λ(v2:Int×List Int×PUnit) (k3:Int×List Int×PUnit->Prop)=>Br (decide (v2.1<(↑p.length:Int))) (∃(y4:Int),idx p v2.1=some y4/\((0:Int)<=y4/\y4<(↑v2.2.1.length:Int))/\0+y4.toNat<v2.2.1.length/\0=0/\v2.2.1.length=(v2.2.1.set (0+y4.toNat) v2.1).length/\k3 (IntKind.i64.wrap (v2.1+(1:Int)),v2.2.1.set (0+y4.toNat) v2.1,())) (P (List.take v2.2.1.length (List.drop 0 v2.2.1)))) ((0:Int),List.replicate (↑p.length:Int).toNat (Int.ofNat (nat_lit 0)),PUnit.unit))=fnW Da (look []) Eu Try.f170 (p,()) P:=by kernel_rfl
theorem qX (p:List Int) (P:List Int->Prop):(∃(y2:Bool),Ew.fn (p,())=some y2/\Br (!y2) (P (List.take 0 (List.drop 0 []))) (∃(y3:List Int),Eu.fn (p,())=some y3/\P y3))=fnW Da (look [(169,Ew),(170,Eu)]) Li Try.f150 (p,()) P:=by kernel_rfl
theorem CR (n:Int) (P:List Int->Prop):(0=0/\0=([]:List Int).length/\Bo (λ(v2:Int×List Int×PUnit) (k3:Int×List Int×PUnit->Prop)=>Br (decide (v2.1<n)) (0=0/\v2.2.1.length=v2.2.1.length/\v2.2.1.length+(List.take 1 (List.drop 0 [v2.1])).length<=Bm/\0=0/\(v2.2.1++List.take 1 (List.drop 0 [v2.1])).length=(v2.2.1++List.take 1 (List.drop 0 [v2.1])).length/\k3 (IntKind.i64.wrap (v2.1+(1:Int)),v2.2.1++List.take 1 (List.drop 0 [v2.1]),())) (P (List.take v2.2.1.length (List.drop 0 v2.2.1)))) ((0:Int),[],PUnit.unit))=fnW Da (look []) Cj Try.f124 (n,()) P:=by kernel_rfl
theorem CT (g:List (List Int)) (l:Int) (P:List Int->Prop):(Br (decide (l>(0:Int))) (∃(y3:List Int),idx g (IntKind.i64.wrap (l-(1:Int)))=some y3/\P y3) (∃(y3:List Int),idx g (IntKind.i64.wrap (IntKind.i64.wrap ((0:Int)-l)-(1:Int)))=some y3/\ ∃(y4:List Int),Eu.fn (y3,())=some y4/\P y4))=fnW Da (look [(175,Eu)]) Se Try.f157 (g,l,()) P:=by kernel_rfl
theorem JQ (n:Int) (P:List Int->Prop):(0=0/\0=([]:List Int).length/\Bo (λ(v2:Int×List Int×PUnit) (k3:Int×List Int×PUnit->Prop)=>Br (decide (v2.1<n)) (0=0/\v2.2.1.length=v2.2.1.length/\v2.2.1.length+(List.take 2 (List.drop 0 [IntKind.i64.wrap (v2.1+(1:Int)),IntKind.i64.wrap ((0:Int)-IntKind.i64.wrap (v2.1+(1:Int)))])).length<=Bm/\0=0/\(v2.2.1++List.take 2 (List.drop 0 [IntKind.i64.wrap (v2.1+(1:Int)),IntKind.i64.wrap ((0:Int)-IntKind.i64.wrap (v2.1+(1:Int)))])).length=(v2.2.1++List.take 2 (List.drop 0 [IntKind.i64.wrap (v2.1+(1:Int)),IntKind.i64.wrap ((0:Int)-IntKind.i64.wrap (v2.1+(1:Int)))])).length/\k3 (IntKind.i64.wrap (v2.1+(1:Int)),v2.2.1++List.take 2 (List.drop 0 [IntKind.i64.wrap (v2.1+(1:Int)),IntKind.i64.wrap ((0:Int)-IntKind.i64.wrap (v2.1+(1:Int)))]),())) (P (List.take v2.2.1.length (List.drop 0 v2.2.1)))) ((0:Int),[],PUnit.unit))=fnW Da (look []) Gj Try.f117 (n,()) P:=by kernel_rfl
theorem PQ (p:Int×ByteArray×List (List Int)×Unit) (s:List Int) (l:Int) (P:List Int->Prop):(∃(y4:List Int),idx p.2.2.1 (IntKind.i64.wrap ((if true=true then if IntKind.i64.wrap ((0:Int)-l)>l then IntKind.i64.wrap ((0:Int)-l) else l else if IntKind.i64.wrap ((0:Int)-l)<l then IntKind.i64.wrap ((0:Int)-l) else l)-(1:Int)))=some y4/\Br (decide (l<(0:Int))) (∃(y5:List Int),Li.fn (y4,())=some y5/\0=0/\0=([]:List Int).length/\Bo (λ(v6:Int×List Int×PUnit) (k7:Int×List Int×PUnit->Prop)=>Br (decide (v6.1<(↑s.length:Int))) (∃(y8:Int),idx s v6.1=some y8/\ ∃(y9:Int),idx y5 y8=some y9/\0=0/\v6.2.1.length=v6.2.1.length/\v6.2.1.length+(List.take 1 (List.drop 0 [y9])).length<=Bm/\0=0/\(v6.2.1++List.take 1 (List.drop 0 [y9])).length=(v6.2.1++List.take 1 (List.drop 0 [y9])).length/\k7 (IntKind.i64.wrap (v6.1+(1:Int)),v6.2.1++List.take 1 (List.drop 0 [y9]),())) (P (List.take v6.2.1.length (List.drop 0 v6.2.1)))) ((0:Int),[],PUnit.unit)) (0=0/\0=([]:List Int).length/\Bo (λ(v5:Int×List Int×PUnit) (k6:Int×List Int×PUnit->Prop)=>Br (decide (v5.1<(↑s.length:Int))) (∃(y7:Int),idx s v5.1=some y7/\ ∃(y8:Int),idx y4 y7=some y8/\0=0/\v5.2.1.length=v5.2.1.length/\v5.2.1.length+(List.take 1 (List.drop 0 [y8])).length<=Bm/\0=0/\(v5.2.1++List.take 1 (List.drop 0 [y8])).length=(v5.2.1++List.take 1 (List.drop 0 [y8])).length/\k6 (IntKind.i64.wrap (v5.1+(1:Int)),v5.2.1++List.take 1 (List.drop 0 [y8]),())) (P (List.take v5.2.1.length (List.drop 0 v5.2.1)))) ((0:Int),[],PUnit.unit)))=fnW Da (look [(150,Li)]) Ky Try.f115 (p,s,l,()) P:=by kernel_rfl
theorem Iy {xs:List Int} {i:Nat} (h:i<xs.length):Bj xs (i:Int)=xs[i]:=by
 unfold Bj
 rw [Int.toNat_natCast,List.getD_eq_getElem?_getD,List.getElem?_eq_getElem h];rfl
theorem Jc {xs:List Int} {y:Int} (h0:0<=y) (h:y<xs.length):idx xs y=some (Bj xs y):=by
 have hy:y.toNat<xs.length:=by omega
 have e:y=(y.toNat:Int):=by omega
 rw [e,Au hy,Iy hy]
theorem Us (f:Nat->Nat) (g:Nat->Int) (m:Nat) (init:List Int):Xi f g (m+1) init=(Xi f g m init).set (f m) (g m):=by simp [Xi,List.range_succ]
theorem Xj (f:Nat->Nat) (g:Nat->Int) (m:Nat) (init:List Int):(Xi f g m init).length=init.length:=by
 induction m with
 |zero=>rfl
 |succ m ih=>rw [Us,List.length_set,ih]
theorem lp (f:Nat->Nat) (g:Nat->Int) (init:List Int): ∀(m:Nat),(∀i j,i<m->j<m->f i=f j->i=j)-> ∀i,i<m->f i<init.length->(Xi f g m init)[f i]?=some (g i)
 |0,_,i,h,_=>absurd h (Nat.not_lt_zero _)
 |m+1,hf,i,hi,hl=>by
  rw [Us]
  by_cases e:i=m
  ·subst e
   exact List.getElem?_set_self (by rw [Xj];exact hl)
  ·rw [List.getElem?_set_ne (λh=>e (hf i m hi (by omega) h.symm))]
   exact lp f g init m (λa b ha hb=>hf a b (by omega) (by omega)) i (by omega) hl
structure Vo (p:List Int):Prop where
 pos:1<=p.length
 len:p.length<=20
 row:Ny p.length p
 nodup:p.Nodup
theorem du {p:List Int} (h:Ge p=true):Vo p:=by
 obtain ⟨h1,h2,h3⟩:=Dz.1 h
 refine ⟨h1,h2,λy hy=>?_,dq λj hj=>(h3 j hj hj).2.2⟩
 obtain ⟨j,hj,rfl⟩:=List.mem_iff_getElem.1 hy
 have:=h3 j hj hj
 omega
theorem Vo.inj {p:List Int} (h:Vo p) (i j:Nat) (hi:i<p.length) (hj:j<p.length) (e:(Bj p (i:Int)).toNat=(Bj p (j:Int)).toNat):i=j:=by
 rw [Iy hi,Iy hj] at e
 have h1:=h.row _ (List.getElem_mem hi)
 have h2:=h.row _ (List.getElem_mem hj)
 have e:p[i]=p[j]:=by omega
 refine Classical.byContradiction λEt=>?_
 rcases Nat.lt_or_gt_of_ne Et with hl|hl
 ·exact List.pairwise_iff_getElem.1 h.nodup i j hi hj hl e
 ·exact List.pairwise_iff_getElem.1 h.nodup j i hj hi hl e.symm
theorem Vo.NL {p:List Int} (h:Vo p) (k:Nat) (hk:k<p.length): ∃i,i<p.length/\(Bj p (i:Int)).toNat=k:=by
 have hm:=(Ye (xs:=p) h.row).2 (pC h.nodup) k hk
 obtain ⟨i,hi,e⟩:=List.mem_iff_getElem.1 hm
 exact ⟨i,hi,by rw [Iy hi,e];exact Int.toNat_natCast k⟩
theorem Vo.lt {p:List Int} (h:Vo p) {i:Nat} (hi:i<p.length):(Bj p (i:Int)).toNat<p.length:=by
 rw [Iy hi]
 have:=h.row _ (List.getElem_mem hi)
 omega
theorem mQ (p:List Int):(Aq p).length=p.length:=by unfold Aq;rw [Xj,List.length_replicate]
theorem MQ {p:List Int} (h:Vo p) {i:Nat} (hi:i<p.length):(Aq p)[(Bj p (i:Int)).toNat]?=some (i:Int):=
 lp (λi=>(Bj p (i:Int)).toNat) (λi=>(i:Int)) _ p.length (λi j hi hj=>h.inj i j hi hj) i hi (by rw [List.length_replicate];exact h.lt hi)
theorem SP {p:List Int} (h:Vo p):Ny p.length (Aq p):=by
 intro y hy
 obtain ⟨k,hk,rfl⟩:=List.mem_iff_getElem.1 hy
 have fw:k<p.length:=by rw [mQ] at hk;exact hk
 obtain ⟨i,hi,rfl⟩:=h.NL k fw
 have:=MQ h hi
 rw [List.getElem?_eq_getElem hk] at this
 rw [Option.some.inj this]
 omega
theorem Ow (p q:List Int):(Ab p q).length=p.length:=by simp [Ab]
theorem wv {p q:List Int} {n:Nat} (hp:Ny q.length p) (hq:Ny n q):Ny n (Ab p q):=by
 intro y hy
 obtain ⟨x,hx,rfl⟩:=List.mem_map.1 hy
 have h1:=hp x hx
 rw [show x=(x.toNat:Int) by omega,Iy (by omega)]
 exact hq _ (List.getElem_mem _)
theorem qo (p q:List Int) (h:p.length<=20/\Ny q.length p):fnW Da (look []) Vg Try.f156 (p,q,()) (λ(z:List Int)=>z=Ab p q):=by
 obtain ⟨h,hr⟩:=h
 refine Eq.mp (qT p q _) ?_
 refine ⟨⟨by omega,by show (p.length:Int)<(4294967296:Int)+1;omega⟩,rfl,rfl,rfl,?_⟩
 have Ob:=Ow p q
 refine Ap p.length (λv=>v.1) (λj v=>v.2.1.length=(Ab p q).length/\v.2.1.take j=(Ab p q).take j) rfl ⟨by rw [Ob];simp,by simp⟩ ?_
 rintro j ⟨i,ys,⟨⟩⟩ K hj hi ⟨h1,h2⟩ hK
 dsimp only at hi h1 h2⊢
 subst hi
 refine Br.dec (λhl=>?_) λhl=>?_
 ·have hl:j<p.length:=by omega
  have hy:=hr _ (List.getElem_mem hl)
  refine ⟨_,Au hl,_,Jc hy.1 hy.2,⟨by omega,by omega⟩,by rw [Int.toNat_natCast];omega,rfl,by rw [List.length_set],?_⟩
  rw [Ak (by omega),Int.toNat_natCast,Nat.zero_add]
  have Hl:j<(Ab p q).length:=by rw [Ob];exact hl
  have e:Bj q p[j]=(Ab p q)[j]:=by simp [Ab]
  rw [e]
  exact hK hl _ rfl ⟨by rw [List.length_set];exact h1,Lk Hl h1 h2⟩
 ·have:j=p.length:=by omega
  subst this
  rw [<-Ob,List.take_length,<-h1,List.take_length] at h2
  rw [List.drop_zero,List.take_length]
  exact h2
theorem Qn:Sound Try.prog 156 Vg:=
 Sound.Dg Cg As mixed Try.func156 (by kernel_rfl) (by kernel_rfl) λx h=>qo x.1 x.2.1 h
theorem qp (p:List Int) (h:p.length<=20/\Ny p.length p):fnW Da (look []) Eu Try.f175 (p,()) (λ(z:List Int)=>z=Aq p):=by
 obtain ⟨h,hr⟩:=h
 refine Eq.mp (qU p _) ?_
 refine ⟨⟨by omega,by show (p.length:Int)<(4294967296:Int)+1;omega⟩,rfl,rfl,rfl,?_⟩
 refine Ap p.length (λv=>v.1) (λj v=>v.2.1=Xi (λi=>(Bj p (i:Int)).toNat) (λi=>(i:Int)) j (List.replicate p.length 0)) rfl rfl ?_
 rintro j ⟨i,ys,⟨⟩⟩ K hj hi h1 hK
 dsimp only at hi h1⊢
 subst hi
 have hlen:ys.length=p.length:=by rw [h1,Xj,List.length_replicate]
 refine Br.dec (λhl=>?_) λhl=>?_
 ·have hl:j<p.length:=by omega
  have hy:=hr _ (List.getElem_mem hl)
  refine ⟨_,Au hl,⟨by omega,by omega⟩,by omega,rfl,by rw [List.length_set],?_⟩
  rw [Ak (by omega),Nat.zero_add]
  refine hK hl _ rfl ?_
  rw [Us,<-h1,Iy hl]
 ·have:j=p.length:=by omega
  subst this
  rw [List.drop_zero,List.take_length]
  exact h1
theorem Qo:Sound Try.prog 175 Eu:=
 Sound.Dg Cg As mixed Try.func175 (by kernel_rfl) (by kernel_rfl) λx h=>qp x.1 h
theorem IA (p:List Int) (h:p.length<=20/\Ny p.length p):fnW Da (look []) Eu Try.f170 (p,()) (λ(z:List Int)=>z=Aq p):=by
 obtain ⟨h,hr⟩:=h
 refine Eq.mp (JS p _) ?_
 refine ⟨⟨by omega,by show (p.length:Int)<(4294967296:Int)+1;omega⟩,rfl,rfl,rfl,?_⟩
 refine Ap p.length (λv=>v.1) (λj v=>v.2.1=Xi (λi=>(Bj p (i:Int)).toNat) (λi=>(i:Int)) j (List.replicate p.length 0)) rfl rfl ?_
 rintro j ⟨i,ys,⟨⟩⟩ K hj hi h1 hK
 dsimp only at hi h1⊢
 subst hi
 have hlen:ys.length=p.length:=by rw [h1,Xj,List.length_replicate]
 refine Br.dec (λhl=>?_) λhl=>?_
 ·have hl:j<p.length:=by omega
  have hy:=hr _ (List.getElem_mem hl)
  refine ⟨_,Au hl,⟨by omega,by omega⟩,by omega,rfl,by rw [List.length_set],?_⟩
  rw [Ak (by omega),Nat.zero_add]
  refine hK hl _ rfl ?_
  rw [Us,<-h1,Iy hl]
 ·have:j=p.length:=by omega
  subst this
  rw [List.drop_zero,List.take_length]
  exact h1
theorem qL:Sound Try.prog 170 Eu:=
 Sound.Dg Cg As mixed Try.func170 (by kernel_rfl) (by kernel_rfl) λx h=>IA x.1 h
theorem qv (p:List Int) (h:Ge p=true):fnW Da (look [(169,Ew),(170,Eu)]) Li Try.f150 (p,()) (λ(z:List Int)=>z=Aq p):=by
 have hp:=du h
 have hs:short p:=by have:=hp.len;unfold short;omega
 refine Eq.mp (qX p _) ⟨_,if_pos hs,⟨λhe=>?_,λ_=>⟨_,if_pos ⟨hp.len,hp.row⟩,rfl⟩⟩⟩
 exact absurd h (Cs he)
theorem ju:Sound Try.prog 150 Li:=
 Sound.Dg Cg (Ah Sj (Ah qL As)) mixed Try.func150 (by kernel_rfl) (by kernel_rfl) λx h=>qv x.1 h
theorem ak (j:Nat):upto (j+1)=upto j++ [(j:Int)]:=by simp [upto,List.range_succ]
theorem AR (n:Int) (h:0<=n/\n<=20):fnW Da (look []) Cj Try.f124 (n,()) (λ(z:List Int)=>z=upto n.toNat):=by
 refine Eq.mp (CR n _) ⟨rfl,rfl,?_⟩
 refine Ap n.toNat (λv=>v.1) (λj v=>v.2.1=upto j) rfl rfl ?_
 rintro j ⟨i,ys,⟨⟩⟩ K hj hi h1 hK
 dsimp only at hi h1⊢
 subst hi h1
 refine Br.dec (λhl=>?_) λhl=>?_
 ·refine ⟨rfl,rfl,?_,rfl,rfl,?_⟩
  ·show (upto j).length+1<=4294967296
   rw [Qs];omega
  ·rw [Ak (by omega)]
   exact hK (by omega) _ rfl (ak j).symm
 ·have:j=n.toNat:=by omega
  subst this
  rw [List.drop_zero,List.take_length]
theorem p6:Sound Try.prog 124 Cj:=
 Sound.Dg Cg As mixed Try.func124 (by kernel_rfl) (by kernel_rfl) λx h=>AR x.1 h
theorem Me {g:List (List Int)} {k:Nat} (h:k<g.length):Af g ((k:Int)+1)=g[k]:=by
 unfold Af
 rw [if_pos (by omega),show ((k:Int)+1-1).toNat=k by omega,List.getD_eq_getElem?_getD,List.getElem?_eq_getElem h];rfl
theorem Md {g:List (List Int)} {k:Nat} (h:k<g.length):Af g (-((k:Int)+1))=Aq g[k]:=by
 unfold Af
 rw [if_neg (by omega),show (-(-((k:Int)+1))-1).toNat=k by omega,List.getD_eq_getElem?_getD,List.getElem?_eq_getElem h];rfl
theorem Mr {n:Nat} {l:Int} (h:Dh n l): ∃k:Nat,k<n/\(l=(k:Int)+1\/l= -((k:Int)+1)):=by
 obtain ⟨h1,h2,h3⟩:=h
 by_cases h0:0<l
 ·exact ⟨(l-1).toNat,by omega, .inl (by omega)⟩
 ·exact ⟨(-l-1).toNat,by omega, .inr (by omega)⟩
theorem AT (g:List (List Int)) (l:Int) (h:Dh (List.length g) l/\List.length g<=8/\ ∀p∈g,Ge p=true):fnW Da (look [(175,Eu)]) Se Try.f157 (g,l,()) (λ(z:List Int)=>z=Af g l):=by
 obtain ⟨hl,h8,hp⟩:=h
 refine Eq.mp (CT g l _) ?_
 obtain ⟨k,hk,rfl|rfl⟩:=Mr hl
 ·refine Br.dec (λ_=>?_) λhn=>by omega
  rw [Bd (by omega) (by omega),show (k:Int)+1-1=(k:Int) by omega]
  exact ⟨_,Au hk,(Me hk).symm⟩
 ·refine Br.dec (λhn=>by omega) λ_=>?_
  rw [Bd (n:=0- -((k:Int)+1)) (by omega) (by omega),Bd (by omega) (by omega),show (0:Int)- -((k:Int)+1)-1=(k:Int) by omega]
  have:=du (hp _ (List.getElem_mem hk))
  exact ⟨_,Au hk,_,if_pos ⟨this.len,this.row⟩,(Md hk).symm⟩
theorem p8:Sound Try.prog 157 Se:=
 Sound.Dg Cg (Ah Qo As) mixed Try.func157 (by kernel_rfl) (by kernel_rfl) λx h=>AT x.1 x.2.1 h
theorem Wj (j:Nat):Ae (j+1)=Ae j++ [(j:Int)+1,-((j:Int)+1)]:=by simp [Ae,List.range_succ,List.flatMap_append]
theorem Ld (j:Nat):(Ae j).length=2*j:=by
 induction j with
 |zero=>rfl
 |succ j ih=>rw [Wj,List.length_append,ih];simp only [List.length_cons,List.length_nil];omega
theorem Fo {n:Nat} {l:Int} (h:l∈Ae n):Dh n l:=by
 unfold Ae at h
 obtain ⟨k,hk,hl⟩:=List.mem_flatMap.1 h
 have hk:=List.mem_range.1 hk
 simp only [List.mem_cons,List.not_mem_nil,or_false] at hl
 unfold Dh
 omega
theorem HY (n:Int) (h:0<=n/\n<=8):fnW Da (look []) Gj Try.f117 (n,()) (λ(z:List Int)=>z=Ae n.toNat):=by
 refine Eq.mp (JQ n _) ⟨rfl,rfl,?_⟩
 refine Ap n.toNat (λv=>v.1) (λj v=>v.2.1=Ae j) rfl rfl ?_
 rintro j ⟨i,ys,⟨⟩⟩ K hj hi h1 hK
 dsimp only at hi h1⊢
 subst hi h1
 refine Br.dec (λhl=>?_) λhl=>?_
 ·refine ⟨rfl,rfl,?_,rfl,rfl,?_⟩
  ·show (Ae j).length+2<=4294967296
   rw [Ld];omega
  ·have e1:IntKind.i64.wrap ((j:Int)+1)=(j:Int)+1:=Bd (by omega) (by omega)
   have e2:IntKind.i64.wrap ((0:Int)-((j:Int)+1))= -((j:Int)+1):=by rw [Bd (by omega) (by omega)];omega
   rw [e1,e2]
   exact hK (by omega) _ rfl (Wj j).symm
 ·have:j=n.toNat:=by omega
  subst this
  rw [List.drop_zero,List.take_length]
theorem Sy:Sound Try.prog 117 Gj:=
 Sound.Dg Cg As mixed Try.func117 (by kernel_rfl) (by kernel_rfl) λx h=>HY x.1 h
structure Valid (p:PP):Prop where
 n:1<=p.1/\p.1<=20
 cn:1<=p.2.2.1.length/\p.2.2.1.length<=8
 perm: ∀m∈p.2.2.1,Ge m=true
 len: ∀m∈p.2.2.1,(m.length:Int)=p.1
theorem valid {p:PP} (h:Ba p=true):Valid p:=by
 have h0:=CO h
 obtain ⟨h1,_,_⟩:=Dz.1 h
 obtain ⟨_,_,h4⟩:=Dz.1 h1
 exact ⟨⟨h0.1,h0.2.1⟩,h0.2.2,λm hm=>(Dz.1 (h4 m hm)).2,λm hm=>(Dz.1 (h4 m hm)).1⟩
theorem ko {p:PP} (h:Valid p) {l:Int} (hl:Dh (List.length p.2.2.1) l):((Af p.2.2.1 l).length:Int)=p.1/\Ny (Af p.2.2.1 l).length (Af p.2.2.1 l):=by
 obtain ⟨k,hk,rfl|rfl⟩:=Mr hl
 ·rw [Me hk]
  exact ⟨h.len _ (List.getElem_mem hk),(du (h.perm _ (List.getElem_mem hk))).row⟩
 ·rw [Md hk,mQ]
  exact ⟨h.len _ (List.getElem_mem hk),SP (du (h.perm _ (List.getElem_mem hk)))⟩
theorem w6 (s y:List Int) (P:List Int->Prop) (h1:s.length<=20) (h2:Ny y.length s) (h3:P (Ab s y)):
  Bo
   (λ(v5:Int×List Int×PUnit) (k6:Int×List Int×PUnit->Prop)=>
    Br (decide (v5.1<(↑s.length:Int)))
     (∃(y7:Int),
      idx s v5.1=some y7/\
       ∃(y8:Int),
        idx y y7=some y8/\
         (0:Nat)=(0:Nat)/\
          v5.2.1.length=v5.2.1.length/\
           v5.2.1.length+(List.take (1:Nat) (List.drop (0:Nat) [y8])).length<=Bm/\
            (0:Nat)=(0:Nat)/\
             (v5.2.1++List.take (1:Nat) (List.drop (0:Nat) [y8])).length=(v5.2.1++List.take (1:Nat) (List.drop (0:Nat) [y8])).length/\
              k6 (IntKind.i64.wrap (v5.1+(1:Int)),v5.2.1++List.take (1:Nat) (List.drop (0:Nat) [y8]),()))
     (P (List.take v5.2.1.length (List.drop (0:Nat) v5.2.1))))
   ((0:Int),([]:List Int),PUnit.unit):=by
 refine Ap s.length (λv=>v.1) (λj v=>v.2.1=(s.take j).map (Bj y)) rfl (by simp) ?_
 rintro j ⟨i,ys,⟨⟩⟩ K hj hi hR hK
 dsimp only at hi hR⊢
 subst hi hR
 refine Br.dec (λhl=>?_) λhl=>?_
 ·have hl:j<s.length:=by omega
  have hy:=h2 _ (List.getElem_mem hl)
  refine ⟨_,Au hl,_,Jc hy.1 hy.2,rfl,rfl,?_,rfl,rfl,?_⟩
  ·show ((s.take j).map (Bj y)).length+1<=4294967296
   rw [List.length_map,List.length_take];omega
  ·rw [Ak (by omega)]
   refine hK hl _ rfl ?_
   dsimp only
   rw [List.take_succ_eq_append_getElem hl,List.map_append]
   rfl
 ·have:j=s.length:=by omega
  subst this
  rw [List.drop_zero,List.take_length,List.take_length]
  exact h3
theorem NP (p:PP) (s:List Int) (l:Int) (h:Ba p=true/\List.length s<=20/\(∀y∈s,0<=y/\y<p.1)/\Dh (List.length p.2.2.1) l):fnW Da (look [(150,Li)]) Ky Try.f115 (p,s,l,()) (λ(z:List Int)=>z=Ab s (Af p.2.2.1 l)):=by
 obtain ⟨hv,hs,hr,hl⟩:=h
 have hv:=valid hv
 have hf:=hv.cn
 refine Eq.mp (PQ p s l _) ?_
 have LV:=ko hv hl
 have Rn:Ny (Af p.2.2.1 l).length s:= λy hy=>by have:=hr y hy;omega
 obtain ⟨k,hk,rfl|rfl⟩:=Mr hl
 ·rw [if_pos rfl,Bd (n:=0-((k:Int)+1)) (by omega) (by omega),if_neg (by omega),Bd (by omega) (by omega),show (k:Int)+1-1=(k:Int) by omega]
  refine ⟨_,Au hk,Br.dec (λhn=>by omega) λ_=>⟨rfl,rfl,?_⟩⟩
  rw [Me hk] at Rn⊢
  exact w6 s _ (λz=>z=Ab s p.2.2.1[k]) hs Rn rfl
 ·rw [if_pos rfl,Bd (n:=0- -((k:Int)+1)) (by omega) (by omega),if_pos (by omega),Bd (by omega) (by omega),show (0:Int)- -((k:Int)+1)-1=(k:Int) by omega]
  refine ⟨_,Au hk,Br.dec (λ_=>⟨_,if_pos (hv.perm _ (List.getElem_mem hk)),rfl,rfl,?_⟩) λhn=>by omega⟩
  rw [Md hk] at Rn⊢
  exact w6 s (Aq p.2.2.1[k]) (λz=>z=Ab s (Aq p.2.2.1[k])) hs Rn rfl
theorem Uy:Sound Try.prog 115 Ky:=
 Sound.Dg Cg (Ah ju As) mixed Try.func115 (by kernel_rfl) (by kernel_rfl) λx h=>NP x.1 x.2.1 x.2.2.1 h
end Go.Proofs.Ytjbdmibbbpdnnaa

namespace Go.Proofs.Ytjbdmibbbpdnnaa
open Go.RowKit
abbrev rL:CK:= .row tI 2
abbrev xLL:CK:= .Dx tL 25
def Gz (k:Int) (n:Nat):List Int:=(List.range n).map λi=>k+(i:Nat)
def Ha:Int->List (List Int)->List (List Int)
 |_,[]=> []
 |k,r::rs=>Gz k r.length::Ha (k+r.length) rs
def Ct:List (List Int)->Nat
 | []=>0
 |r::rs=>r.length+Ct rs
def low (k:Int):Prop:=0<=k/\k<=1099511627776
noncomputable abbrev Of:MSpec:=Yp [none,none] [(true,rL),(false, .Dy tI)] false [none] [.Dy tI] (λx=>short x.1/\low x.2.1) (λx=>((x.2.1+List.length x.1,()),(Gz x.2.1 (List.length x.1),())))
noncomputable abbrev a7:MSpec:=Yp [none,none] [(true,xLL),(false, .Dy tI)] false [none] [.Dy tI] (λx=>Gp x.1/\low x.2.1/\low (x.2.1+Ct x.1)) (λx=>((x.2.1+Ct x.1,()),(Ha x.2.1 x.1,())))
noncomputable abbrev Mv:MSpec:=Yp [some 3,none] [(false, .Dy tI),(false, .Dy .str),(true,xLL),(false, .Dy tI)] false [none] [.Dy tI]
 (λx=>Gp x.2.2.1/\low x.2.2.2.1/\low (x.2.2.2.1+Ct x.2.2.1)) (λx=>((x.2.2.2.1+Ct x.2.2.1,()),(Ha x.2.2.2.1 x.2.2.1,())))
def j8 (xs:List Int) (k:Int):Int:=if xs=Gz k xs.length then k+xs.length else-1
noncomputable abbrev Ux:Spec:=Dg (.pair tL (.pair tI .unit)) tI false true (λx=>short x.1/\low x.2.1) (λx=>j8 x.1 x.2.1)
noncomputable abbrev Nm:MSpec:=Yp [none] [(false, .Dy tL)] false [none] [rL] (λx=>short x.1) (λx=>((x.1,()),()))
noncomputable abbrev eP:MSpec:=Yp [none] [(false, .Dy hY)] false [none] [xLL] (λx=>Gp x.1) (λx=>((x.1,()),()))
noncomputable abbrev Kl:MSpec:=Yp [some 3] [(false, .Dy tI),(false, .Dy .str),(false, .Dy hY)] false [some 3] [.Dy tI, .Dy .str,xLL] (λx=>Cn (x.1,x.2.1,x.2.2.1,())) (λx=>((x.1,x.2.1,x.2.2.1,()),()))
theorem TZ (xs:List Int) (k:Int) (P:((Int×Unit)×List Int×Unit)->Prop):(0=0/\xs.length=xs.length/\Bo (λ(v3:Int×Int×List Int×PUnit) (k4:Int×Int×List Int×PUnit->Prop)=>Br (decide (v3.2.1<(↑v3.2.2.1.length:Int))) (((0:Int)<=v3.2.1/\v3.2.1<(↑v3.2.2.1.length:Int))/\0+v3.2.1.toNat<v3.2.2.1.length/\0=0/\v3.2.2.1.length=(v3.2.2.1.set (0+v3.2.1.toNat) v3.1).length/\k4 (IntKind.i64.wrap (v3.1+(1:Int)),IntKind.i64.wrap (v3.2.1+(1:Int)),v3.2.2.1.set (0+v3.2.1.toNat) v3.1,())) (P ((v3.1,()),v3.2.2.1,()))) (k,(0:Int),xs,PUnit.unit))=fnMW Nq (look []) Of Try.f26 (xs,k,()) P:=by kernel_rfl
theorem PT (xs:List (List Int)) (k:Int) (P:((Int×Unit)×List (List Int)×Unit)->Prop):(0=0/\xs.length=xs.length/\Bo (λ(v3:Int×Int×List (List Int)×PUnit) (k4:Int×Int×List (List Int)×PUnit->Prop)=>Br (decide (v3.2.1<(↑v3.2.2.1.length:Int))) (((0:Int)<=v3.2.1/\v3.2.1<(↑v3.2.2.1.length:Int))/\ ∃(y5:List Int),v3.2.2.1[0+v3.2.1.toNat]?=some y5/\ ∃(y6:List Int),v3.2.2.1[0+v3.2.1.toNat]?=some y6/\ ∃(y7:(Int×PUnit)×List Int×PUnit),Of.fn (y6,v3.1,())=some y7/\ ∃(y8:List Int),v3.2.2.1[0+v3.2.1.toNat]?=some y8/\y7.2.1.length=y8.length/\0=0/\v3.2.2.1.length=(v3.2.2.1.set (0+v3.2.1.toNat) y7.2.1).length/\k4 (y7.1.1,IntKind.i64.wrap (v3.2.1+(1:Int)),v3.2.2.1.set (0+v3.2.1.toNat) y7.2.1,())) (P ((v3.1,()),v3.2.2.1,()))) (k,(0:Int),xs,PUnit.unit))=fnMW Nq (look [(26,Of)]) a7 Try.f41 (xs,k,()) P:=by kernel_rfl
theorem vE (n:Int) (s:ByteArray) (b:List (List Int)) (k:Int) (P:((Int×Unit)×List (List Int)×Unit)->Prop):(0=0/\b.length=b.length/\ ∃(y5:(Int×PUnit)×List (List Int)×PUnit),a7.fn (b,k,())=some y5/\(y5.2.1.length=b.length/\b.length=b.length)/\P ((y5.1.1,()),y5.2.1,()))=fnMW Nq (look [(41,a7)]) Mv Try.f25 (n,s,b,k,()) P:=by kernel_rfl
theorem TX (xs:List Int) (k:Int) (P:Int->Prop):(Bo (λ(v3:Int×Int×PUnit) (k4:Int×Int×PUnit->Prop)=>Br (decide (v3.2.1<(↑xs.length:Int))) (∃(y5:Int),idx xs v3.2.1=some y5/\Br (y5 !=v3.1) (P (-1:Int)) (k4 (IntKind.i64.wrap (v3.1+(1:Int)),IntKind.i64.wrap (v3.2.1+(1:Int)),()))) (P v3.1)) (k,(0:Int),PUnit.unit))=fnW Da (look []) Ux Try.f27 (xs,k,()) P:=by kernel_rfl
theorem Aau (xs:List Int) (P:((List Int×Unit)×Unit)->Prop):(((0:Int)<=(↑xs.length:Int)/\(↑xs.length:Int)<(↑Bm:Int)+(1:Int))/\(↑xs.length:Int)=(↑xs.length:Int)/\0=0/\(List.replicate (↑xs.length:Int).toNat (Int.ofNat (nat_lit 0))).length=(List.replicate (↑xs.length:Int).toNat (Int.ofNat (nat_lit 0))).length/\Bo (λ(v2:Int×List Int×PUnit) (k3:Int×List Int×PUnit->Prop)=>Br (decide (v2.1<(↑xs.length:Int))) (∃(y4:Int),idx xs v2.1=some y4/\((0:Int)<=v2.1/\v2.1<(↑v2.2.1.length:Int))/\0+v2.1.toNat<v2.2.1.length/\0=0/\v2.2.1.length=(v2.2.1.set (0+v2.1.toNat) y4).length/\k3 (IntKind.i64.wrap (v2.1+(1:Int)),v2.2.1.set (0+v2.1.toNat) y4,())) (P ((List.take v2.2.1.length (List.drop 0 v2.2.1),()),()))) ((0:Int),List.replicate (↑xs.length:Int).toNat (Int.ofNat (nat_lit 0)),PUnit.unit))=fnMW Nq (look []) Nm Try.f17 (xs,()) P:=by kernel_rfl
theorem UF (xs:List (List Int)) (P:((List (List Int)×Unit)×Unit)->Prop):(((0:Int)<=(↑xs.length:Int)/\(↑xs.length:Int)<(↑Bm:Int)+(1:Int))/\(↑xs.length:Int)=(↑xs.length:Int)/\0=0/\(List.replicate (↑xs.length:Int).toNat ([]:List Int)).length=(List.replicate (↑xs.length:Int).toNat ([]:List Int)).length/\Bo (λ(v2:Int×List (List Int)×PUnit) (k3:Int×List (List Int)×PUnit->Prop)=>Br (decide (v2.1<(↑xs.length:Int))) (∃(y4:List Int),idx xs v2.1=some y4/\ ∃(y5:(List Int×PUnit)×PUnit),Nm.fn (y4,())=some y5/\((0:Int)<=v2.1/\v2.1<(↑v2.2.1.length:Int))/\0+v2.1.toNat<v2.2.1.length/\0=0/\v2.2.1.length=(v2.2.1.set (0+v2.1.toNat) (List.take y5.1.1.length (List.drop 0 y5.1.1))).length/\k3 (IntKind.i64.wrap (v2.1+(1:Int)),v2.2.1.set (0+v2.1.toNat) (List.take y5.1.1.length (List.drop 0 y5.1.1)),())) (P ((List.take v2.2.1.length (List.drop 0 v2.2.1),()),()))) ((0:Int),List.replicate (↑xs.length:Int).toNat ([]:List Int),PUnit.unit))=fnMW Nq (look [(17,Nm)]) eP Try.f36 (xs,()) P:=by kernel_rfl
theorem yN (n:Int) (s:ByteArray) (b:List (List Int)) (P:((Int×ByteArray×List (List Int)×Unit)×Unit)->Prop):(∃(y4:(List (List Int)×PUnit)×PUnit),eP.fn (b,())=some y4/\P ((n,s,List.take y4.1.1.length (List.drop 0 y4.1.1),()),()))=fnMW Nq (look [(36,eP)]) Kl Try.f16 (n,s,b,()) P:=by kernel_rfl
theorem Ax {α:Type} (xs:List α):List.take xs.length (List.drop 0 xs)=xs:=by rw [List.drop_zero,List.take_length]
theorem Je (k:Int) (n:Nat):(Gz k n).length=n:=by simp [Gz]
theorem j9 (k:Int) (n:Nat):Gz k (n+1)=Gz k n++ [k+(n:Nat)]:=by simp [Gz,List.range_succ]
theorem dm (a b:List (List Int)):Ct (a++b)=Ct a+Ct b:=by
 induction a with
 |nil=>simp [Ct]
 |cons r a ih=>simp only [List.cons_append,Ct,ih];omega
theorem Zy: ∀(a b:List (List Int)) (k:Int),Ha k (a++b)=Ha k a++Ha (k+Ct a) b
 | [],b,k=>by simp [Ha,Ct]
 |r::a,b,k=>by
  simp only [List.cons_append,Ha,Ct,Zy a b]
  congr 3
  omega
theorem Ym: ∀(xs:List (List Int)) (k:Int),(Ha k xs).length=xs.length
 | [],_=>rfl
 |r::xs,k=>by simp [Ha,Ym xs]
theorem tZ {xs:List (List Int)} {j:Nat} (h:j<xs.length):Ct (xs.drop j)=xs[j].length+Ct (xs.drop (j+1)):=by
 rw [List.drop_eq_getElem_cons h];rfl
theorem u5 {xs:List (List Int)} {j:Nat} (h:j<xs.length):Ct (xs.take (j+1))=Ct (xs.take j)+xs[j].length:=by
 rw [List.take_succ_eq_append_getElem h,dm];simp [Ct]
theorem qg (xs:List (List Int)) (j:Nat):Ct (xs.take j)+Ct (xs.drop j)=Ct xs:=by
 rw [<-dm,List.take_append_drop]
theorem TA (xs:List Int) (k:Int) (h:short xs/\low k):fnMW Nq (look []) Of Try.f26 (xs,k,()) (λ(z:(Int×Unit)×List Int×Unit)=>z=((k+xs.length,()),(Gz k xs.length,()))):=by
 obtain ⟨h1,h2,h3⟩:=h
 unfold short at h1
 refine Eq.mp (TZ xs k _) ⟨rfl,rfl,?_⟩
 refine Ap xs.length (λv=>v.2.1) (λj v=>v.1=k+(j:Nat)/\v.2.2.1.length=xs.length/\v.2.2.1.take j=Gz k j) rfl ⟨by simp,rfl,by simp [Gz]⟩ ?_
 rintro j ⟨k',i,ys,⟨⟩⟩ K hj hi ⟨g1,g2,g3⟩ hK
 dsimp only at hi g1 g2 g3⊢
 subst hi;subst g1
 refine Br.dec (λhl=>?_) λhl=>?_
 ·have hl:j<ys.length:=by omega
  refine ⟨⟨by omega,by omega⟩,by rw [Int.toNat_natCast];omega,rfl,by rw [List.length_set],?_⟩
  rw [Ak (by omega),Int.toNat_natCast,Nat.zero_add,Bd (by omega) (by omega)]
  refine hK (by omega) _ rfl ⟨by dsimp only;omega,by rw [List.length_set];exact g2,?_⟩
  rw [List.take_succ_eq_append_getElem (by rw [List.length_set];exact hl),List.take_set_of_le (Nat.le_refl j),g3,List.getElem_set_self,j9]
 ·have tu:j=xs.length:=by omega
  subst tu
  rw [<-g2,List.take_length,g2] at g3
  rw [g3]
theorem lU:Bq Try.prog 26 Of:=
 Bq.Yp Mk As mixed Try.func26 (by kernel_rfl) (by kernel_rfl) λx h=>TA x.1 x.2.1 h
theorem NS (xs:List (List Int)) (k:Int) (h:Gp xs/\low k/\low (k+Ct xs)):fnMW Nq (look [(26,Of)]) a7 Try.f41 (xs,k,()) (λ(z:(Int×Unit)×List (List Int)×Unit)=>z=((k+Ct xs,()),(Ha k xs,()))):=by
 obtain ⟨⟨h1,h4⟩,⟨h2,h3⟩,h5,h6⟩:=h
 refine Eq.mp (PT xs k _) ⟨rfl,rfl,?_⟩
 refine Ap xs.length (λv=>v.2.1) (λj v=>v.1=k+(Ct (xs.take j):Nat)/\v.2.2.1.length=xs.length/\v.2.2.1.take j=Ha k (xs.take j)/\v.2.2.1.drop j=xs.drop j) rfl ⟨by simp [Ct],rfl,by simp [Ha],rfl⟩ ?_
 rintro j ⟨k',i,ys,⟨⟩⟩ K hj hi ⟨g1,g2,g3,g4⟩ hK
 dsimp only at hi g1 g2 g3 g4⊢
 subst hi;subst g1
 refine Br.dec (λhl=>?_) λhl=>?_
 ·have hl:j<ys.length:=by omega
  have hlx:j<xs.length:=by omega
  have hy:ys[j]?=some xs[j]:=by
   have:(ys.drop j)[0]?=(xs.drop j)[0]?:=by rw [g4]
   simpa [List.getElem?_drop,List.getElem?_eq_getElem hlx] using this
  have KB:=qg xs j
  have htk:=u5 hlx
  have hdr:=tZ hlx
  refine ⟨⟨by omega,by omega⟩,?_⟩
  simp only [Int.toNat_natCast,Nat.zero_add]
  have Aii:low (k+(Ct (xs.take j):Nat)):=⟨by omega,by omega⟩
  refine ⟨_,hy,_,hy,_,if_pos ⟨h4 _ (List.getElem_mem hlx),Aii⟩,_,hy,Je _ _,trivial,by rw [List.length_set],?_⟩
  rw [Ak (by omega)]
  refine hK hlx _ rfl ⟨by dsimp only;omega,by rw [List.length_set];exact g2,?_,?_⟩
  ·rw [List.take_succ_eq_append_getElem (by rw [List.length_set];exact hl),List.take_set_of_le (Nat.le_refl j),g3,List.getElem_set_self,List.take_succ_eq_append_getElem hlx,Zy]
   rfl
  ·dsimp only
   rw [List.drop_set_of_lt (by omega)]
   have e1:ys.drop (j+1)=(ys.drop j).drop 1:=by rw [List.drop_drop]
   rw [e1,g4,List.drop_drop]
 ·have tu:j=xs.length:=by omega
  subst tu
  rw [<-g2,List.take_length,g2,List.take_length] at g3
  rw [g3,List.take_length]
theorem uM:Bq Try.prog 41 a7:=
 Bq.Yp Mk (Ev lU As) mixed Try.func41 (by kernel_rfl) (by kernel_rfl) λx h=>NS x.1 x.2.1 h
theorem ue (n:Int) (s:ByteArray) (b:List (List Int)) (k:Int) (h:Gp b/\low k/\low (k+Ct b)):fnMW Nq (look [(41,a7)]) Mv Try.f25 (n,s,b,k,()) (λ(z:(Int×Unit)×List (List Int)×Unit)=>z=((k+Ct b,()),(Ha k b,()))):=by
 exact Eq.mp (vE n s b k _) ⟨rfl,rfl,_,if_pos h,⟨Ym _ _,rfl⟩,rfl⟩
theorem kT:Bq Try.prog 25 Mv:=
 Bq.Yp Mk (Ev uM As) mixed Try.func25 (by kernel_rfl) (by kernel_rfl) λx h=>ue x.1 x.2.1 x.2.2.1 x.2.2.2.1 h
theorem SY (xs:List Int) (k:Int) (h:short xs/\low k):fnW Da (look []) Ux Try.f27 (xs,k,()) (λ(z:Int)=>z=j8 xs k):=by
 obtain ⟨h1,h2,h3⟩:=h
 unfold short at h1
 refine Eq.mp (TX xs k _) ?_
 refine Ap xs.length (λv=>v.2.1) (λj v=>v.1=k+(j:Nat)/\xs.take j=Gz k j) rfl ⟨by simp,by simp [Gz]⟩ ?_
 rintro j ⟨k',i,⟨⟩⟩ K hj hi ⟨g1,g3⟩ hK
 dsimp only at hi g1 g3⊢
 subst hi;subst g1
 refine Br.dec (λhl=>?_) λhl=>?_
 ·have hl:j<xs.length:=by omega
  refine ⟨_,Au hl,λEt=>?_,λhe=>?_⟩
  ·simp only [bne_iff_ne,ne_eq] at Et
   unfold j8
   rw [if_neg]
   intro he
   refine Et ?_
   have e1:xs[j]?=(Gz k xs.length)[j]?:=by rw [<-he]
   rw [List.getElem?_eq_getElem hl] at e1
   simpa [Gz,hl] using e1
  ·simp only [bne_eq_false_iff_eq] at he
   rw [Ak (by omega),Bd (by omega) (by omega)]
   refine hK hl _ rfl ⟨by dsimp only;omega,?_⟩
   rw [List.take_succ_eq_append_getElem hl,g3,he,j9]
 ·have tu:j=xs.length:=by omega
  subst tu
  rw [List.take_length] at g3
  exact (if_pos g3).symm
theorem yh:Sound Try.prog 27 Ux:=
 Sound.Dg Cg As mixed Try.func27 (by kernel_rfl) (by kernel_rfl) λx h=>SY x.1 x.2.1 h
theorem Su (k:Int) (n:Nat):j8 (Gz k n) k=k+n:=by unfold j8;rw [Je,if_pos rfl]
theorem ZZ (xs:List Int) (h:short xs):fnMW Nq (look []) Nm Try.f17 (xs,()) (λ(z:(List Int×Unit)×Unit)=>z=((xs,()),())):=by
 unfold short at h
 refine Eq.mp (Aau xs _) ?_
 refine ⟨⟨by omega,by show (xs.length:Int)<(4294967296:Int)+1;omega⟩,rfl,rfl,rfl,?_⟩
 refine Ap xs.length (λv=>v.1) (λj v=>v.2.1.length=xs.length/\v.2.1.take j=xs.take j) rfl ⟨by simp,by simp⟩ ?_
 rintro j ⟨i,ys,⟨⟩⟩ K hj hi ⟨h1,h2⟩ hK
 dsimp only at hi h1 h2⊢
 subst hi
 refine Br.dec (λhl=>?_) λhl=>?_
 ·have hl:j<xs.length:=by omega
  refine ⟨_,Au hl,⟨by omega,by omega⟩,by rw [Int.toNat_natCast];omega,rfl,by rw [List.length_set],?_⟩
  rw [Ak (by omega),Int.toNat_natCast,Nat.zero_add]
  exact hK hl _ rfl ⟨by rw [List.length_set];exact h1,Lk hl h1 h2⟩
 ·have:j=xs.length:=by omega
  subst this
  rw [List.take_length,<-h1,List.take_length] at h2
  rw [Ax,h2]
theorem ph:Bq Try.prog 17 Nm:=
 Bq.Yp Mk As mixed Try.func17 (by kernel_rfl) (by kernel_rfl) λx h=>ZZ x.1 h
theorem TG (xs:List (List Int)) (h:Gp xs):fnMW Nq (look [(17,Nm)]) eP Try.f36 (xs,()) (λ(z:(List (List Int)×Unit)×Unit)=>z=((xs,()),())):=by
 obtain ⟨h,h4⟩:=h
 refine Eq.mp (UF xs _) ?_
 refine ⟨⟨by omega,by show (xs.length:Int)<(4294967296:Int)+1;omega⟩,rfl,rfl,rfl,?_⟩
 refine Ap xs.length (λv=>v.1) (λj v=>v.2.1.length=xs.length/\v.2.1.take j=xs.take j) rfl ⟨by simp,by simp⟩ ?_
 rintro j ⟨i,ys,⟨⟩⟩ K hj hi ⟨h1,h2⟩ hK
 dsimp only at hi h1 h2⊢
 subst hi
 refine Br.dec (λhl=>?_) λhl=>?_
 ·have hl:j<xs.length:=by omega
  refine ⟨_,Au hl,_,if_pos (h4 _ (List.getElem_mem hl)),⟨by omega,by omega⟩,by rw [Int.toNat_natCast];omega,rfl,by rw [List.length_set],?_⟩
  rw [Ak (by omega),Int.toNat_natCast,Nat.zero_add]
  dsimp only
  rw [Ax]
  exact hK hl _ rfl ⟨by rw [List.length_set];exact h1,Lk hl h1 h2⟩
 ·have:j=xs.length:=by omega
  subst this
  rw [List.take_length,<-h1,List.take_length] at h2
  rw [Ax,h2]
theorem yo:Bq Try.prog 36 eP:=
 Bq.Yp Mk (Ev ph As) mixed Try.func36 (by kernel_rfl) (by kernel_rfl) λx h=>TG x.1 h
theorem xU (n:Int) (s:ByteArray) (b:List (List Int)) (h:Cn (n,s,b,())):fnMW Nq (look [(36,eP)]) Kl Try.f16 (n,s,b,()) (λ(z:(Int×ByteArray×List (List Int)×Unit)×Unit)=>z=((n,s,b,()),())):=by
 refine Eq.mp (yN n s b _) ⟨_,if_pos h.2,?_⟩
 simp only [Ax]
theorem mE:Bq Try.prog 16 Kl:=
 Bq.Yp Mk (Ev yo As) mixed Try.func16 (by kernel_rfl) (by kernel_rfl) λx h=>xU x.1 x.2.1 x.2.2.1 h
end Go.Proofs.Ytjbdmibbbpdnnaa

namespace Go.Proofs.Ytjbdmibbbpdnnaa
open Go.RowKit
theorem Fm (a:List Int):Jd a a=true:=by simp [Jd]
theorem OV {n:Nat} {room:Int} (h: ¬kr n room<0):kr n room=room-n/\(n:Int)<=room:=by
 unfold kr at*
 split at h
 ·exact absurd (show (-1:Int)<0 by decide) h
 ·rename_i h1;rw [if_neg h1];exact ⟨rfl,by omega⟩
theorem yu: ∀(xs:List (List Int)) (room:Int),0<=room-> ¬yt xs room<0->yt xs room=room-Ct xs
 | [],room,_,_=>by simp [yt,Ct]
 |r::xs,room,h0,h=>by
  simp only [yt,Ct] at h⊢
  split at h
  ·exact absurd (show (-1:Int)<0 by decide) h
  ·rename_i h1
   rw [if_neg h1]
   have e1:=OV (n:=r.length) h1
   have e1:jb r room=room-r.length/\(r.length:Int)<=room:=e1
   rw [yu xs _ (by rw [e1.1];omega) h,e1.1]
   omega
theorem OT {xs:List (List Int)} {room:Int} (h: ¬Yn xs room<0):Yn xs room=room-xs.length-Ct xs:=by
 unfold Yn at*
 split at h
 ·exact absurd (show (-1:Int)<0 by decide) h
 ·rename_i h1
  rw [if_neg h1]
  have e1:=OV h1
  rw [yu xs _ (by rw [e1.1];omega) h,e1.1]
theorem yT (k:Int) (n:Nat):List.take n (List.drop 0 (Gz k n))=Gz k n:=by rw [List.drop_zero,List.take_of_length_le (by rw [Je];exact Nat.le_refl _)]
theorem mR:low 1:=⟨by decide,by decide⟩
end Go.Proofs.Ytjbdmibbbpdnnaa

namespace Go.Proofs.Ytjbdmibbbpdnnaa
open Go.RowKit
theorem jQ {b:Bool} {P:Prop} (h:(!(b==b))=true):P:=by simp at h
end Go.Proofs.Ytjbdmibbbpdnnaa

namespace Go.Proofs.Ytjbdmibbbpdnnaa
open Go.RowKit
noncomputable abbrev Hf:Spec:=Dg (.pair tL .unit) tL false true (λx=>short x.1) (λx=>x.1)
theorem CQ (xs:List Int) (P:List Int->Prop):(0=0/\0=([]:List Int).length/\0+xs.length<=Bm/\P (List.take ([]++xs).length (List.drop 0 ([]++xs))))=fnW Da (look []) Hf Try.f123 (xs,()) P:=by kernel_rfl
theorem AQ (xs:List Int) (h:short xs):fnW Da (look []) Hf Try.f123 (xs,()) (λ(z:List Int)=>z=xs):=by
 unfold short at h
 refine Eq.mp (CQ xs _) ⟨rfl,rfl,by show 0+xs.length<=4294967296;omega,?_⟩
 simp only [Ax,List.nil_append]
theorem Ws:Sound Try.prog 123 Hf:=
 Sound.Dg Cg As mixed Try.func123 (by kernel_rfl) (by kernel_rfl) λx h=>AQ x.1 h
end Go.Proofs.Ytjbdmibbbpdnnaa

namespace Go.Proofs.Ytjbdmibbbpdnnaa
open Go.RowKit
def Nc (xs:List Int):ByteArray:=bytesOf (xs.map λx=>IntKind.u8.wrap x)
noncomputable abbrev En:Spec:=Dg (.pair tL .unit) .str false true (λx=>short x.1) (λx=>Nc x.1)
def ji (ps:List (List Int)) (p:List Int):Int:=Db (λq=>decide (q=p)) ps 0
theorem CX (xs:List Int) (P:ByteArray->Prop):(((0:Int)<=(↑xs.length:Int)/\(↑xs.length:Int)<(↑Bm:Int)+(1:Int))/\(↑xs.length:Int)=(↑xs.length:Int)/\0=0/\(List.replicate (↑xs.length:Int).toNat (Int.ofNat (nat_lit 0))).length=(List.replicate (↑xs.length:Int).toNat (Int.ofNat (nat_lit 0))).length/\Bo (λ(v2:Int×List Int×PUnit) (k3:Int×List Int×PUnit->Prop)=>Br (decide (v2.1<(↑xs.length:Int))) (∃(y4:Int),idx xs v2.1=some y4/\((0:Int)<=v2.1/\v2.1<(↑v2.2.1.length:Int))/\0+v2.1.toNat<v2.2.1.length/\0=0/\v2.2.1.length=(v2.2.1.set (0+v2.1.toNat) (IntKind.u8.wrap y4)).length/\k3 (IntKind.i64.wrap (v2.1+(1:Int)),v2.2.1.set (0+v2.1.toNat) (IntKind.u8.wrap y4),())) (P (bytesOf (List.take v2.2.1.length (List.drop 0 v2.2.1))))) ((0:Int),List.replicate (↑xs.length:Int).toNat (Int.ofNat (nat_lit 0)),PUnit.unit))=fnW Da (look []) En Try.f128 (xs,()) P:=by kernel_rfl
theorem AZ (xs:List Int) (h:short xs):fnW Da (look []) En Try.f128 (xs,()) (λ(z:ByteArray)=>z=Nc xs):=by
 unfold short at h
 refine Eq.mp (CX xs _) ?_
 refine ⟨⟨by omega,by show (xs.length:Int)<(4294967296:Int)+1;omega⟩,rfl,rfl,rfl,?_⟩
 have Ob:(xs.map λx=>IntKind.u8.wrap x).length=xs.length:=by simp
 refine Ap xs.length (λv=>v.1) (λj v=>v.2.1.length=(xs.map λx=>IntKind.u8.wrap x).length/\v.2.1.take j=(xs.map λx=>IntKind.u8.wrap x).take j) rfl ⟨by rw [Ob];simp,by simp⟩ ?_
 rintro j ⟨i,ys,⟨⟩⟩ K hj hi ⟨h1,h2⟩ hK
 dsimp only at hi h1 h2⊢
 subst hi
 refine Br.dec (λhl=>?_) λhl=>?_
 ·have hl:j<xs.length:=by omega
  refine ⟨_,Au hl,⟨by omega,by omega⟩,by rw [Int.toNat_natCast];omega,rfl,by rw [List.length_set],?_⟩
  rw [Ak (by omega),Int.toNat_natCast,Nat.zero_add]
  have Hl:j<(xs.map λx=>IntKind.u8.wrap x).length:=by rw [Ob];exact hl
  have e:IntKind.u8.wrap xs[j]=(xs.map λx=>IntKind.u8.wrap x)[j]:=by simp
  rw [e]
  exact hK hl _ rfl ⟨by rw [List.length_set];exact h1,Lk Hl h1 h2⟩
 ·have:j=xs.length:=by omega
  subst this
  rw [<-Ob,List.take_length,<-h1,List.take_length] at h2
  rw [List.drop_zero,List.take_length,h2];rfl
theorem dR:Sound Try.prog 128 En:=
 Sound.Dg Cg As mixed Try.func128 (by kernel_rfl) (by kernel_rfl) λx h=>AZ x.1 h
theorem bQ {α:Type} (P:α->Bool) (y:α): ∀(l:List α) (i:Int),0<=i->Db P (l++ [y]) i=if Db P l i<0 then (if P y=true then i+l.length else-1) else Db P l i
 | [],i,_=>by simp [Db]
 |x::r,i,h=>by
  simp only [List.cons_append,Db,List.length_cons]
  split
  ·rw [if_neg (by omega)]
  ·rw [bQ P y r (i+1) (by omega),show i+1+(r.length:Int)=i+((r.length+1:Nat):Int) by push_cast;omega]
theorem um (ps:List (List Int)) (q p:List Int):ji (ps++ [q]) p=if ji ps p<0 then (if q=p then (ps.length:Int) else-1) else ji ps p:=by
 unfold ji
 rw [bQ _ _ _ _ (Int.le_refl 0)]
 simp only [decide_eq_true_eq,Int.zero_add]
def Qz (p:List Int):Prop:= ∀x∈p,0<=x/\x<256
theorem KT {x y:Int} (hx:0<=x/\x<256) (hy:0<=y/\y<256) (h:UInt8.ofNat (IntKind.u8.wrap x).toNat=UInt8.ofNat (IntKind.u8.wrap y).toNat):x=y:=by
 have h:=congrArg UInt8.toNat h
 simp only [IntKind.wrap_u8,UInt8.toNat_ofNat'] at h
 omega
theorem bytes_inj: ∀(p q:List Int),Qz p->Qz q->(p.map λx=>UInt8.ofNat (IntKind.u8.wrap x).toNat)=(q.map λx=>UInt8.ofNat (IntKind.u8.wrap x).toNat)->p=q
 | [],[],_,_,_=>rfl
 | [],_::_,_,_,h=>by simp at h
 |_::_,[],_,_,h=>by simp at h
 |x::p,y::q,hp,hq,h=>by
  simp only [List.map_cons,List.cons.injEq] at h
  rw [KT (hp x (by simp)) (hq y (by simp)) h.1,bytes_inj p q (λz hz=>hp z (by simp [hz])) (λz hz=>hq z (by simp [hz])) h.2]
theorem key_inj {p q:List Int} (hp:Qz p) (hq:Qz q) (h:Nc p=Nc q):p=q:=by
 refine bytes_inj p q hp hq ?_
 simp only [Nc,bytesOf,ByteArray.mk.injEq,List.map_map] at h
 have h:=congrArg Array.toList h
 simpa [Function.comp_def] using h
def KM (m:ByteArray->Option Int) (ps:List (List Int)):Prop:= ∀p,Qz p->m (Nc p)=if ji ps p<0 then none else some (ji ps p)
theorem KM.nil:KM (λ_=>none) []:= λp _=>by
 rw [if_pos (by unfold ji;simp [Db])]
theorem KM.add {m:ByteArray->Option Int} {ps:List (List Int)} {q:List Int} (h:KM m ps) (hq:Qz q) (hn:ji ps q<0):KM (bB m (Nc q) (ps.length:Int)) (ps++ [q]):=by
 intro p hp
 rw [um]
 unfold bB
 by_cases e:p=q
 ·subst e
  rw [if_pos rfl,if_pos hn,if_pos rfl,if_neg (by omega)]
 ·rw [if_neg (λhk=>e (key_inj hp hq hk)),h p hp]
  have e': ¬q=p:= λh=>e h.symm
  rw [if_neg e']
  by_cases GO:ji ps p<0
  ·rw [if_pos GO,if_pos GO,if_pos (by decide)]
  ·rw [if_neg GO,if_neg GO,if_neg GO]
theorem RL {α:Type} {xs:List α} {j:Nat} (h:j<xs.length) (d:α):xs.getD j d=xs[j]:=by
 rw [List.getD_eq_getElem?_getD,List.getElem?_eq_getElem h];rfl
end Go.Proofs.Ytjbdmibbbpdnnaa

namespace Go.Proofs.Ytjbdmibbbpdnnaa
open Go.RowKit
noncomputable abbrev Eh:Spec:=Dg (.pair Co .unit) tL false true (λx=>List.length x.1.2.2.1<=8) (λx=>Ae (List.length x.1.2.2.1))
abbrev jy:Type:=Int×Int×ByteArray×List (List Int)×List Int×PUnit
theorem yK (p:Int×ByteArray×List (List Int)×Unit) (P:List Int->Prop):(0=0/\0=([]:List Int).length/\Bo (λ(v2:jy) (k3:jy->Prop)=>Br (decide (v2.1<=(↑v2.2.2.2.1.length:Int))) (0=0/\v2.2.2.2.2.1.length=v2.2.2.2.2.1.length/\v2.2.2.2.2.1.length+(List.take 2 (List.drop 0 [v2.1,IntKind.i64.wrap ((0:Int)-v2.1)])).length<=Bm/\0=0/\(v2.2.2.2.2.1++List.take 2 (List.drop 0 [v2.1,IntKind.i64.wrap ((0:Int)-v2.1)])).length=(v2.2.2.2.2.1++List.take 2 (List.drop 0 [v2.1,IntKind.i64.wrap ((0:Int)-v2.1)])).length/\k3 (IntKind.i64.wrap (v2.1+(1:Int)),v2.2.1,v2.2.2.1,v2.2.2.2.1,v2.2.2.2.2.1++List.take 2 (List.drop 0 [v2.1,IntKind.i64.wrap ((0:Int)-v2.1)]),())) (P (List.take v2.2.2.2.2.1.length (List.drop 0 v2.2.2.2.2.1)))) ((1:Int),p.1,p.2.1,p.2.2.1,[],PUnit.unit))=fnW Da (look []) Eh Try.f96 (p,()) P:=by kernel_rfl
theorem xP (p:PP) (h:List.length p.2.2.1<=8):fnW Da (look []) Eh Try.f96 (p,()) (λ(z:List Int)=>z=Ae (List.length p.2.2.1)):=by
 refine Eq.mp (yK p _) ⟨rfl,rfl,?_⟩
 refine Bo.mk (λv=> ∃j:Nat,j<=List.length p.2.2.1/\v=((j:Int)+1,p.1,p.2.1,p.2.2.1,Ae j,())) (λv=>List.length p.2.2.1+1-v.1.toNat) ⟨0,Nat.zero_le _,rfl⟩ ?_
 rintro _ ⟨j,hj,rfl⟩
 dsimp only
 refine Br.dec (λhl=>?_) λhl=>?_
 ·refine ⟨rfl,rfl,?_,rfl,rfl,⟨j+1,by omega,?_⟩,?_⟩
  ·show (Ae j).length+2<=4294967296
   rw [Ld];omega
  ·rw [Wj,Bd (n:=(j:Int)+1+1) (by omega) (by omega),Bd (n:=0-((j:Int)+1)) (by omega) (by omega),Int.zero_sub]
   rfl
  ·rw [Bd (by omega) (by omega)];omega
 ·have:j=List.length p.2.2.1:=by omega
  subst this
  rw [Ax]
theorem Oh:Sound Try.prog 96 Eh:=
 Sound.Dg Cg As mixed Try.func96 (by kernel_rfl) (by kernel_rfl) λx h=>xP x.1 h
theorem OU {p:PP} {room:Int} (hr:roomy room) (h: ¬dk p room<0):(Ct p.2.2.1:Int)<=room-dk p room/\roomy (dk p room):=by
 unfold dk at h⊢
 split at h
 ·exact absurd (show (-1:Int)<0 by decide) h
 ·rename_i h1
  rw [if_neg h1]
  split at h
  ·exact absurd (show (-1:Int)<0 by decide) h
  ·rename_i h2
   rw [if_neg h2]
   have e2:=OT h2
   obtain ⟨r1,r2⟩:=hr
   unfold roomy
   omega
end Go.Proofs.Ytjbdmibbbpdnnaa

namespace Go.Proofs.Ytjbdmibbbpdnnaa
open Go.RowKit
def tR (v:Int):List Int->Nat
 | []=>0
 |x::r=>if x>v then tR v r+1 else 0
def SQ (v:Int) (t:List Int):Option (List Int):=if tR v t=0 then none else some (Bj t ((tR v t-1:Nat):Int)::(t.set (tR v t-1) v).reverse)
def dj:List Int->Option (List Int)
 | []=>none
 |v::t=>match dj t with
  |some t'=>some (v::t')
  |none=>SQ v t
noncomputable abbrev Ga:MSpec:=Yp [none] [(false, .Dy tL)] false [none] [rL] (λx=>short x.1) (λx=>((x.1,()),()))
theorem yF (xs:List Int) (P:((List Int×Unit)×Unit)->Prop):(0=0/\0=([]:List Int).length/\0+xs.length<=Bm/\P ((List.take ([]++xs).length (List.drop 0 ([]++xs)),()),()))=fnMW Nq (look []) Ga Try.f123 (xs,()) P:=by kernel_rfl
theorem xA {s s':List Int} (h:dj s=some s'): ∀pre:List Int,dj (pre++s)=some (pre++s')
 | []=>h
 |v::p=>by rw [List.cons_append,dj,xA h p];rfl
theorem TL {α:Type} (pre:List α) (v a:α) (t:List α):(pre++v::t).set pre.length a=pre++a::t:=by
 rw [List.set_append,if_neg (by omega)];simp
theorem xK (xs:List Int) (h:short xs):fnMW Nq (look []) Ga Try.f123 (xs,()) (λ(z:(List Int×Unit)×Unit)=>z=((xs,()),())):=by
 unfold short at h
 refine Eq.mp (yF xs _) ⟨rfl,rfl,by show 0+xs.length<=4294967296;omega,?_⟩
 simp only [Ax,List.nil_append]
theorem mr:Bq Try.prog 123 Ga:=
 Bq.Yp Mk As mixed Try.func123 (by kernel_rfl) (by kernel_rfl) λx h=>xK x.1 h
inductive DC:List Int->List (List Int)->List Int->Prop where
 |one (a:List Int):DC a [a] a
 |more {a c b:List Int} {L:List (List Int)} :dj a=some c->DC c L b->DC a (a::L) b
theorem DC.cons {a b:List Int} {L:List (List Int)} (h:DC a L b) (v:Int):DC (v::a) (L.map (v:: ·)) (v::b):=by
 induction h with
 |one a=>exact .one _
 |more h3 _ ih=>exact .more (xA h3 [v]) ih
theorem DC.head {a b:List Int} {L:List (List Int)} (h:DC a L b): ∃M,L=a::M:=by
 cases h with
 |one=>exact ⟨_,rfl⟩
 |more _ _=>exact ⟨_,rfl⟩
theorem DC.at {a b:List Int} {L:List (List Int)} (h:DC a L b): ∀j (hj:j<L.length),(∀h2:j+1<L.length,dj L[j]=some L[j+1])/\(j+1=L.length->L[j]=b):=by
 induction h with
 |one a=>
  intro j hj
  simp only [List.length_singleton] at hj
  have:j=0:=by omega
  subst this
  exact ⟨λh2=>by simp at h2,λ_=>rfl⟩
 |more h3 h4 ih=>
  intro j hj
  rcases j with _|j
  ·obtain ⟨M,hM⟩:=h4.head
   refine ⟨λh2=>?_,λh2=>?_⟩
   ·simp only [List.getElem_cons_zero,List.getElem_cons_succ]
    subst hM
    exact h3
   ·subst hM;simp at h2
  ·have:=ih j (by simpa using hj)
   refine ⟨λh2=>?_,λh2=>?_⟩
   ·simp only [List.getElem_cons_succ]
    exact this.1 (by simpa using h2)
   ·simp only [List.getElem_cons_succ]
    exact this.2 (by simpa using h2)
theorem DC.distinct {a b:List Int} {L:List (List Int)} (h:DC a L b) (hb:dj b=none): ∀k i j (hi:i<L.length) (hj:j<L.length),L.length-j=k->i<j->L[i]≠L[j]:=by
 intro k
 induction k with
 |zero=>intro i j hi hj hk;omega
 |succ k ih=>
  intro i j hi hj hk fv he
  by_cases e:j+1<L.length
  ·have h1:=(h.at i hi).1 (by omega)
   have h2:=(h.at j hj).1 e
   rw [he,h2] at h1
   exact ih (i+1) (j+1) (by omega) e (by omega) (by omega) (Option.some.inj h1).symm
  ·have h1:=(h.at i hi).1 (by omega)
   have h2:=(h.at j hj).2 (by omega)
   rw [he,h2,hb] at h1
   cases h1
theorem DC.idx {a b:List Int} {L:List (List Int)} (h:DC a L b) (hb:dj b=none) {j:Nat} (hj:j<L.length):L.idxOf L[j]=j:=by
 have h1:L.idxOf L[j]<L.length:=List.idxOf_lt_length_of_mem (List.getElem_mem _)
 have h2:L[L.idxOf L[j]]=L[j]:=List.getElem_idxOf h1
 rcases Nat.lt_trichotomy (L.idxOf L[j]) j with h3|h3|h3
 ·exact absurd h2 (h.distinct hb _ _ _ h1 hj rfl h3)
 ·exact h3
 ·exact absurd h2.symm (h.distinct hb _ _ _ hj h1 rfl h3)
end Go.Proofs.Ytjbdmibbbpdnnaa

namespace Go.Proofs.Ytjbdmibbbpdnnaa
open Go.RowKit
def Cm:List Int->List Int->Int
 | [],[]=>0
 | [],_::_=> -1
 |_::_,[]=>1
 |x::a,y::b=>if x<y then-1 else if x>y then 1 else Cm a b
def aT (a b:List Int):Bool:=decide (Cm a b<0)
noncomputable abbrev kJ:Spec:=Dg (.pair (.oslice tI) .unit) tL false true (λx=>short (x.1.getD [])) (λx=>x.1.getD [])
noncomputable abbrev jo:Spec:=Dg (.pair tL .unit) tL false true (λx=>short x.1) (λx=>x.1)
noncomputable abbrev Sh:Spec:=Dg (.pair tL (.pair tL .unit)) .bool false true (λx=>short x.1/\List.length x.1=List.length x.2.1) (λx=>aT x.1 x.2.1)
theorem JI (xs:Option (List Int)) (P:List Int->Prop):(Br xs.isNone (P (List.take 0 (List.drop 0 []))) (0=0/\0=([]:List Int).length/\0+(xs.getD []).length<=Bm/\P (List.take ([]++xs.getD []).length (List.drop 0 ([]++xs.getD [])))))=fnW Da (look []) kJ Try.f145 (xs,()) P:=by kernel_rfl
theorem CU (a b:List Int) (P:Bool->Prop):(Bo (λ(v3:Int×PUnit) (k4:Int×PUnit->Prop)=>Br (decide (v3.1<(↑a.length:Int))) (∃(y5:Int),idx a v3.1=some y5/\ ∃(y6:Int),idx b v3.1=some y6/\Br (y5 !=y6) (∃(y7:Int),idx a v3.1=some y7/\ ∃(y8:Int),idx b v3.1=some y8/\P (decide (y7<y8))) (k4 (IntKind.i64.wrap (v3.1+(1:Int)),()))) (P false)) ((0:Int),PUnit.unit))=fnW Da (look []) Sh Try.f144 (a,b,()) P:=by kernel_rfl
theorem Sound.ofO {P:Program} {f:FuncId} {e:Ty} {r res:Ty} {Ej fresh:Bool} {pre:(Ty.pair (.oslice e) r).den->Prop} {val:(Ty.pair (.oslice e) r).den->res.den} {dw:(Ty.pair (.slice e) r).den->Prop} {pF:(Ty.pair (.slice e) r).den->res.den}
  (h:Sound P f (Go.Proofs.Ytjbdmibbbpdnnaa.Dg (.pair (.oslice e) r) res Ej fresh pre val))
  (hp: ∀(o:Option (List e.den)) (y:r.den),dw (o.getD [],y)->pre (o,y)/\val (o,y)=pF (o.getD [],y)):Sound P f (Go.Proofs.Ytjbdmibbbpdnnaa.Dg (.pair (.slice e) r) res Ej fresh dw pF):=by
 refine ⟨h.enter,λw S vs x y hS h2 h5=>?_⟩
 obtain ⟨xs,rest⟩:=x
 cases vs with
 |nil=>exact h2.elim
 |cons u us=>
  obtain ⟨h7,h8⟩:=h2
  obtain ⟨ox,h9,rfl⟩:=h7.told
  have gD:dw (ox.getD [],rest):=Classical.byContradiction λhn=>by
   have:(Go.Proofs.Ytjbdmibbbpdnnaa.Dg (.pair (.slice e) r) res Ej fresh dw pF).fn (ox.getD [],rest)=none:=if_neg hn
   rw [this] at h5;cases h5
  obtain ⟨k1,k2⟩:=hp ox rest gD
  have hv:(Go.Proofs.Ytjbdmibbbpdnnaa.Dg (.pair (.slice e) r) res Ej fresh dw pF).fn (ox.getD [],rest)=some (pF (ox.getD [],rest)):=if_pos gD
  rw [hv] at h5
  have h5:=Option.some.inj h5
  exact h.calls w S (u::us) (ox,rest) y hS ⟨h9,h8⟩ ((if_pos k1).trans (by rw [k2];exact congrArg some h5))
theorem HQ (xs:Option (List Int)) (h:short (xs.getD [])):fnW Da (look []) kJ Try.f145 (xs,()) (λ(z:List Int)=>z=xs.getD []):=by
 unfold short at h
 refine Eq.mp (JI xs _) ⟨λhn=>?_,λ_=>⟨rfl,rfl,by show 0+(xs.getD []).length<=4294967296;omega,?_⟩⟩
 ·cases xs with
  |none=>rfl
  |some y=>cases hn
 ·simp only [Ax,List.nil_append]
theorem qE:Sound Try.prog 145 kJ:=
 Sound.Dg Cg As mixed Try.func145 (by kernel_rfl) (by kernel_rfl) λx h=>HQ x.1 h
theorem uJ:Sound Try.prog 145 jo:=Sound.ofO qE λ_ _ h=>⟨h,rfl⟩
theorem AW (a b:List Int) (h:short a/\a.length=b.length):fnW Da (look []) Sh Try.f144 (a,b,()) (λ(z:Bool)=>z=aT a b):=by
 obtain ⟨ha,hb⟩:=h
 unfold short at ha
 refine Eq.mp (CU a b _) ?_
 refine Ap a.length (λv=>v.1) (λj _=>Cm (a.drop j) (b.drop j)=Cm a b) rfl (by simp) ?_
 rintro j ⟨i,⟨⟩⟩ K hj hi XE hK
 dsimp only at hi⊢
 subst hi
 refine Br.dec (λhl=>?_) λhl=>?_
 ·have hl:j<a.length:=by omega
  have hlb:j<b.length:=by omega
  rw [List.drop_eq_getElem_cons hl,List.drop_eq_getElem_cons hlb] at XE
  simp only [Cm] at XE
  refine ⟨_,Au hl,_,Au hlb,⟨λEt=>?_,λEt=>?_⟩⟩
  ·refine ⟨_,Au hl,_,Au hlb,?_⟩
   have Et:a[j]≠b[j]:=by simpa using Et
   unfold aT
   rw [<-XE]
   by_cases h1:a[j]<b[j]
   ·rw [if_pos h1];simp [h1]
   ·rw [if_neg h1,if_pos (by omega)];simp [h1]
  ·have Et:a[j]=b[j]:=by simpa using Et
   rw [if_neg (by omega),if_neg (by omega)] at XE
   rw [Ak (by omega)]
   exact hK hl _ rfl XE
 ·have:j=a.length:=by omega
  subst this
  rw [List.drop_length,List.drop_eq_nil_of_le (by omega)] at XE
  unfold aT
  rw [<-XE]
  rfl
theorem pb:Sound Try.prog 144 Sh:=
 Sound.Dg Cg As mixed Try.func144 (by kernel_rfl) (by kernel_rfl) λx h=>AW x.1 x.2.1 h
end Go.Proofs.Ytjbdmibbbpdnnaa

namespace Go.Proofs.Ytjbdmibbbpdnnaa
open Go.RowKit
abbrev SS:Type:=List (List Int)×List Int×List Int×Bool×Unit
abbrev rLS:CK:= .row tL 25
abbrev rN:CK:= .row tI 3
def De (L:List (List Int)) (Hg:List Int) (s:List Int):Nat:=(Hg.takeWhile λi=>aT (L.getD i.toNat []) s).length
structure Cx (m:Nat) (L:List (List Int)) (Hg:List Int):Prop where
 cn:L.length<=3000
 len: ∀x∈L,x.length=m
 short:m<=20
 perm:Hg.Perm (upto L.length)
 sorted:Hg.Pairwise λi j=>aT (L.getD i.toNat []) (L.getD j.toNat [])=true
def Qf (L:List (List Int)) (s:List Int):Int:=if s∈L then (L.idxOf s:Int) else-1
def Rb (Hg:List Int) (k:Nat) (x:Int):List Int:=Hg.take k++x::Hg.drop k
noncomputable abbrev bo:Spec:=Dg (.pair Lt (.pair tL .unit)) tI false true (λx=>Cx (List.length x.2.1) x.1.1 x.1.2.2.1) (λx=>(De x.1.1 x.1.2.2.1 x.2.1:Int))
noncomputable abbrev Em:Spec:=Dg (.pair Lt (.pair tL .unit)) tI false true (λx=>Cx (List.length x.2.1) x.1.1 x.1.2.2.1) (λx=>Qf x.1.1 x.2.1)
noncomputable abbrev gV:MSpec:=Yp [some 4,none,none] [(false,rLS),(false,rL),(false,rN),(false, .Dy .bool),(false, .Dy tL),(false, .Dy tI)] false [some 4] [rLS,rL,rN, .Dy .bool]
 (λx=>Cx (List.length x.2.2.2.2.1) x.1 x.2.2.1/\List.length x.2.1<=3000) (λx=>((x.1++ [x.2.2.2.2.1],x.2.1++ [x.2.2.2.2.2.1],Rb x.2.2.1 (De x.1 x.2.2.1 x.2.2.2.2.1) (List.length x.1),x.2.2.2.1,()),()))
def Ts (L:List (List Int)):List Int:=(List.range L.length).foldl (λ(S:List Int) (i:Nat)=>Rb S (De (L.take i) S (L.getD i [])) (i:Int)) []
def Fb (g:List (List Int)) (x:List Int) (d:Int):List Int->List (List Int)->List Int->List (List Int)×List Int×Bool
 | [],L,D=>(L,D,true)
 |l::ls,L,D=>if Ab x (Af g l)∈L then Fb g x d ls L D else if L.length=3000 then (L,D,false) else Fb g x d ls (L++ [Ab x (Af g l)]) (D++ [d+1])
def Gw (g:List (List Int)) (ls:List Int):Nat->Nat->List (List Int)->List Int->List (List Int)×List Int×Bool
 |0,_,L,D=>(L,D,true)
 |f+1,k,L,D=>if k<L.length then (match Fb g (L.getD k []) (D.getD k 0) ls L D with
  |(L',D',true)=>Gw g ls f (k+1) L' D'
  |(L',D',false)=>(L',D',false)) else (L,D,true)
def Fw (g:List (List Int)) (s:List Int):List (List Int)×List Int×Bool:=Gw g (Ae g.length) 3001 0 [s] [0]
def Ai (g:List (List Int)) (s:List Int):SS:=((Fw g s).1,(Fw g s).2.1,Ts (Fw g s).1,(Fw g s).2.2,())
noncomputable abbrev Ds:Spec:=Dg (.pair Co (.pair tL .unit)) Lt false false (λx=>Ba x.1=true/\List.length x.2.1<=20/\ ∀y∈x.2.1,0<=y/\y<x.1.1) (λx=>Ai x.1.2.2.1 x.2.1)
abbrev FM:Type:=Int×Int×List (List Int)×List Int×List Int×Bool×PUnit
theorem Aar (f:List (List Int)×List Int×List Int×Bool×Unit) (s:List Int) (P:Int->Prop):(Bo (λ(v3:FM) (k4:FM->Prop)=>Br (decide (v3.1<v3.2.1)) ((2:Int)≠(0:Int)/\ ∃(y5:Int),idx v3.2.2.2.2.1 (IntKind.i64.wrap ((IntKind.i64.wrap (v3.1+v3.2.1)).tdiv (2:Int)))=some y5/\ ∃(y6:List Int),idx v3.2.2.1 y5=some y6/\ ∃(y7:Bool),Sh.fn (y6,s,())=some y7/\Br y7 (k4 (IntKind.i64.wrap (IntKind.i64.wrap ((IntKind.i64.wrap (v3.1+v3.2.1)).tdiv (2:Int))+(1:Int)),v3.2.1,v3.2.2.1,v3.2.2.2.1,v3.2.2.2.2.1,v3.2.2.2.2.2.1,())) (k4 (v3.1,IntKind.i64.wrap ((IntKind.i64.wrap (v3.1+v3.2.1)).tdiv (2:Int)),v3.2.2.1,v3.2.2.2.1,v3.2.2.2.2.1,v3.2.2.2.2.2.1,()))) (P v3.1)) ((0:Int),(↑f.2.2.1.length:Int),f.1,f.2.1,f.2.2.1,f.2.2.2.1,PUnit.unit))=fnW Da (look [(144,Sh)]) bo Try.f104 (f,s,()) P:=by kernel_rfl
theorem PY (f:List (List Int)×List Int×List Int×Bool×Unit) (s:List Int) (P:Int->Prop):(∃(y3:Int),bo.fn ((f.1,f.2.1,f.2.2.1,f.2.2.2.1,()),s,())=some y3/\Br (decide (y3<(↑f.2.2.1.length:Int))) (∃(y4:Int),idx f.2.2.1 y3=some y4/\ ∃(y5:List Int),idx f.1 y4=some y5/\ ∃(y6:Bool),Ck.fn (y5,s,())=some y6/\Br y6 (∃(y7:Int),idx f.2.2.1 y3=some y7/\P y7) (P (-1:Int))) (P (-1:Int)))=fnW Da (look [(104,bo),(105,Ck)]) Em Try.f54 (f,s,()) P:=by kernel_rfl
theorem Aaq (L:List (List Int)) (D S:List Int) (b:Bool) (s:List Int) (d:Int) (P:((List (List Int)×List Int×List Int×Bool×Unit)×Unit)->Prop):(∃(y7:Int),bo.fn ((List.take L.length (List.drop 0 L),List.take D.length (List.drop 0 D),List.take S.length (List.drop 0 S),b,()),s,())=some y7/\0=0/\S.length=S.length/\S.length+(List.take 1 (List.drop 0 [(0:Int)])).length<=Bm/\((0:Int)<=IntKind.i64.wrap (y7+(1:Int))/\IntKind.i64.wrap (y7+(1:Int))<=(↑(S++List.take 1 (List.drop 0 [(0:Int)])).length:Int)/\(↑(S++List.take 1 (List.drop 0 [(0:Int)])).length:Int)<=(↑(S++List.take 1 (List.drop 0 [(0:Int)])).length:Int))/\((0:Int)<=y7/\y7<=(↑(S++List.take 1 (List.drop 0 [(0:Int)])).length:Int)/\(↑(S++List.take 1 (List.drop 0 [(0:Int)])).length:Int)<=(↑(S++List.take 1 (List.drop 0 [(0:Int)])).length:Int))/\((0:Int)<=y7/\y7<(↑(S++List.take 1 (List.drop 0 [(0:Int)])).length:Int))/\0+y7.toNat<(Bp (S++List.take 1 (List.drop 0 [(0:Int)])) (0+(IntKind.i64.wrap (y7+(1:Int))).toNat) (List.take ((↑(S++List.take 1 (List.drop 0 [(0:Int)])).length:Int).toNat-(IntKind.i64.wrap (y7+(1:Int))).toNat) (List.take ((↑(S++List.take 1 (List.drop 0 [(0:Int)])).length:Int).toNat-y7.toNat) (List.drop (0+y7.toNat) (S++List.take 1 (List.drop 0 [(0:Int)])))))).length/\0=0/\L.length=L.length/\L.length+(List.take 1 (List.drop 0 [s])).length<=Bm/\0=0/\D.length=D.length/\D.length+(List.take 1 (List.drop 0 [d])).length<=Bm/\P ((List.take (L++List.take 1 (List.drop 0 [s])).length (List.drop 0 (L++List.take 1 (List.drop 0 [s]))),List.take (D++List.take 1 (List.drop 0 [d])).length (List.drop 0 (D++List.take 1 (List.drop 0 [d]))),List.take (S++List.take 1 (List.drop 0 [(0:Int)])).length (List.drop 0 ((Bp (S++List.take 1 (List.drop 0 [(0:Int)])) (0+(IntKind.i64.wrap (y7+(1:Int))).toNat) (List.take ((↑(S++List.take 1 (List.drop 0 [(0:Int)])).length:Int).toNat-(IntKind.i64.wrap (y7+(1:Int))).toNat) (List.take ((↑(S++List.take 1 (List.drop 0 [(0:Int)])).length:Int).toNat-y7.toNat) (List.drop (0+y7.toNat) (S++List.take 1 (List.drop 0 [(0:Int)])))))).set (0+y7.toNat) (↑L.length:Int))),b,()),()))=fnMW Nq (look [(104,bo)]) gV Try.f149 (L,D,S,b,s,d,()) P:=by kernel_rfl
abbrev jA:Type:=Int×Int×ByteArray×List (List Int)×Bool×Bool×List (List Int)×List Int×List Int×List (List Int)×List Int×List Int×PUnit
abbrev yx:Type:=(List (List Int)×List Int×List Int×Bool×PUnit)×PUnit
theorem UE (p:Int×ByteArray×List (List Int)×Unit) (s:List Int) (P:(List (List Int)×List Int×List Int×Bool×Unit)->Prop):(∃(y3:List Int),Hf.fn (s,())=some y3/\ ∃(y4:yx),gV.fn ([],[],[],false,y3,(0:Int),())=some y4/\ ∃(y5:List Int),Eh.fn ((p.1,p.2.1,p.2.2.1,()),())=some y5/\0=0/\0=([]:List Int).length/\0=0/\0=([]:List Int).length/\0=0/\0=([]:List Int).length/\0=0/\y4.1.1.length=y4.1.1.length/\0=0/\y4.1.2.1.length=y4.1.2.1.length/\0=0/\y4.1.2.2.1.length=y4.1.2.2.1.length/\Bo (λ(v6:jA) (k7:jA->Prop)=>Br (decide (v6.1<(↑v6.2.2.2.2.2.2.2.2.2.1.length:Int))) (0=0/\v6.2.2.2.2.2.2.1.length=v6.2.2.2.2.2.2.1.length/\0=0/\v6.2.2.2.2.2.2.2.1.length=v6.2.2.2.2.2.2.2.1.length/\0=0/\v6.2.2.2.2.2.2.2.2.1.length=v6.2.2.2.2.2.2.2.2.1.length/\0=0/\v6.2.2.2.2.2.2.2.2.2.1.length=v6.2.2.2.2.2.2.2.2.2.1.length/\0=0/\v6.2.2.2.2.2.2.2.2.2.2.1.length=v6.2.2.2.2.2.2.2.2.2.2.1.length/\0=0/\v6.2.2.2.2.2.2.2.2.2.2.2.1.length=v6.2.2.2.2.2.2.2.2.2.2.2.1.length/\Bo (λ(v8:jA) (k9:jA->Prop)=>Br (decide (v8.1<(↑y5.length:Int))) (((0:Int)<=v6.1/\v6.1<(↑v8.2.2.2.2.2.2.2.2.2.1.length:Int))/\ ∃(Jv:List Int),v8.2.2.2.2.2.2.2.2.2.1[0+v6.1.toNat]?=some Jv/\ ∃(Im:Int),idx y5 v8.1=some Im/\ ∃(Tv:List Int),Ky.fn ((v8.2.1,v8.2.2.1,v8.2.2.2.1,()),Jv,Im,())=some Tv/\ ∃(an:Int),Em.fn ((List.take v8.2.2.2.2.2.2.2.2.2.1.length (List.drop 0 v8.2.2.2.2.2.2.2.2.2.1),List.take v8.2.2.2.2.2.2.2.2.2.2.1.length (List.drop 0 v8.2.2.2.2.2.2.2.2.2.2.1),List.take v8.2.2.2.2.2.2.2.2.2.2.2.1.length (List.drop 0 v8.2.2.2.2.2.2.2.2.2.2.2.1),v8.2.2.2.2.2.1,()),Tv,())=some an/\Br (decide (an>=(0:Int))) (0=0/\v8.2.2.2.2.2.2.1.length=v8.2.2.2.2.2.2.1.length/\0=0/\v8.2.2.2.2.2.2.2.1.length=v8.2.2.2.2.2.2.2.1.length/\0=0/\v8.2.2.2.2.2.2.2.2.1.length=v8.2.2.2.2.2.2.2.2.1.length/\0=0/\v8.2.2.2.2.2.2.2.2.2.1.length=v8.2.2.2.2.2.2.2.2.2.1.length/\0=0/\v8.2.2.2.2.2.2.2.2.2.2.1.length=v8.2.2.2.2.2.2.2.2.2.2.1.length/\0=0/\v8.2.2.2.2.2.2.2.2.2.2.2.1.length=v8.2.2.2.2.2.2.2.2.2.2.2.1.length/\k9 (IntKind.i64.wrap (v8.1+(1:Int)),v8.2.1,v8.2.2.1,v8.2.2.2.1,v8.2.2.2.2.1,v8.2.2.2.2.2.1,v8.2.2.2.2.2.2.1,v8.2.2.2.2.2.2.2.1,v8.2.2.2.2.2.2.2.2.1,v8.2.2.2.2.2.2.2.2.2.1,v8.2.2.2.2.2.2.2.2.2.2.1,v8.2.2.2.2.2.2.2.2.2.2.2.1,())) (Br ((↑v8.2.2.2.2.2.2.2.2.2.1.length:Int)==(3000:Int)) (P (List.take v8.2.2.2.2.2.2.2.2.2.1.length (List.drop 0 v8.2.2.2.2.2.2.2.2.2.1),List.take v8.2.2.2.2.2.2.2.2.2.2.1.length (List.drop 0 v8.2.2.2.2.2.2.2.2.2.2.1),List.take v8.2.2.2.2.2.2.2.2.2.2.2.1.length (List.drop 0 v8.2.2.2.2.2.2.2.2.2.2.2.1),v8.2.2.2.2.2.1,())) (((0:Int)<=v6.1/\v6.1<(↑v8.2.2.2.2.2.2.2.2.2.2.1.length:Int))/\ ∃(Pu:Int),v8.2.2.2.2.2.2.2.2.2.2.1[0+v6.1.toNat]?=some Pu/\0=0/\v8.2.2.2.2.2.2.2.2.2.1.length=v8.2.2.2.2.2.2.2.2.2.1.length/\0=0/\v8.2.2.2.2.2.2.2.2.2.2.1.length=v8.2.2.2.2.2.2.2.2.2.2.1.length/\0=0/\v8.2.2.2.2.2.2.2.2.2.2.2.1.length=v8.2.2.2.2.2.2.2.2.2.2.2.1.length/\ ∃(Vd:yx),gV.fn (v8.2.2.2.2.2.2.2.2.2.1,v8.2.2.2.2.2.2.2.2.2.2.1,v8.2.2.2.2.2.2.2.2.2.2.2.1,v8.2.2.2.2.2.1,Tv,IntKind.i64.wrap (Pu+(1:Int)),())=some Vd/\0=0/\v8.2.2.2.2.2.2.1.length=v8.2.2.2.2.2.2.1.length/\0=0/\v8.2.2.2.2.2.2.2.1.length=v8.2.2.2.2.2.2.2.1.length/\0=0/\v8.2.2.2.2.2.2.2.2.1.length=v8.2.2.2.2.2.2.2.2.1.length/\0=0/\Vd.1.1.length=Vd.1.1.length/\0=0/\Vd.1.2.1.length=Vd.1.2.1.length/\0=0/\Vd.1.2.2.1.length=Vd.1.2.2.1.length/\k9 (IntKind.i64.wrap (v8.1+(1:Int)),v8.2.1,v8.2.2.1,v8.2.2.2.1,v8.2.2.2.2.1,Vd.1.2.2.2.1,v8.2.2.2.2.2.2.1,v8.2.2.2.2.2.2.2.1,v8.2.2.2.2.2.2.2.2.1,Vd.1.1,Vd.1.2.1,Vd.1.2.2.1,())))) (0=0/\v8.2.2.2.2.2.2.1.length=v8.2.2.2.2.2.2.1.length/\0=0/\v8.2.2.2.2.2.2.2.1.length=v8.2.2.2.2.2.2.2.1.length/\0=0/\v8.2.2.2.2.2.2.2.2.1.length=v8.2.2.2.2.2.2.2.2.1.length/\0=0/\v8.2.2.2.2.2.2.2.2.2.1.length=v8.2.2.2.2.2.2.2.2.2.1.length/\0=0/\v8.2.2.2.2.2.2.2.2.2.2.1.length=v8.2.2.2.2.2.2.2.2.2.2.1.length/\0=0/\v8.2.2.2.2.2.2.2.2.2.2.2.1.length=v8.2.2.2.2.2.2.2.2.2.2.2.1.length/\k7 (IntKind.i64.wrap (v6.1+(1:Int)),v8.2.1,v8.2.2.1,v8.2.2.2.1,v8.2.2.2.2.1,v8.2.2.2.2.2.1,v8.2.2.2.2.2.2.1,v8.2.2.2.2.2.2.2.1,v8.2.2.2.2.2.2.2.2.1,v8.2.2.2.2.2.2.2.2.2.1,v8.2.2.2.2.2.2.2.2.2.2.1,v8.2.2.2.2.2.2.2.2.2.2.2.1,()))) ((0:Int),v6.2.1,v6.2.2.1,v6.2.2.2.1,v6.2.2.2.2.1,v6.2.2.2.2.2.1,v6.2.2.2.2.2.2.1,v6.2.2.2.2.2.2.2.1,v6.2.2.2.2.2.2.2.2.1,v6.2.2.2.2.2.2.2.2.2.1,v6.2.2.2.2.2.2.2.2.2.2.1,v6.2.2.2.2.2.2.2.2.2.2.2.1,PUnit.unit)) (P (List.take v6.2.2.2.2.2.2.2.2.2.1.length (List.drop 0 v6.2.2.2.2.2.2.2.2.2.1),List.take v6.2.2.2.2.2.2.2.2.2.2.1.length (List.drop 0 v6.2.2.2.2.2.2.2.2.2.2.1),List.take v6.2.2.2.2.2.2.2.2.2.2.2.1.length (List.drop 0 v6.2.2.2.2.2.2.2.2.2.2.2.1),true,()))) ((0:Int),p.1,p.2.1,p.2.2.1,false,y4.1.2.2.2.1,[],[],[],y4.1.1,y4.1.2.1,y4.1.2.2.1,PUnit.unit))=fnW Aac (look [(123,Hf),(149,gV),(96,Eh),(115,Ky),(54,Em)]) Ds Try.f112 (p,s,()) P:=by kernel_rfl
theorem nB: ∀ {a b:List Int},Cm a b=0↔a=b
 | [],[]=>by simp [Cm]
 | [],_::_=>by simp [Cm]
 |_::_,[]=>by simp [Cm]
 |x::a,y::b=>by
  simp only [Cm,List.cons.injEq]
  by_cases h1:x<y
  ·rw [if_pos h1]
   exact ⟨λh=>by omega,λh=>by omega⟩
  ·rw [if_neg h1]
   by_cases h2:x>y
   ·rw [if_pos h2]
    exact ⟨λh=>by omega,λh=>by omega⟩
   ·rw [if_neg h2,nB]
    exact ⟨λh=>⟨by omega,h⟩,λh=>h.2⟩
theorem DJ: ∀(a b:List Int),Cm b a= -Cm a b
 | [],[]=>by simp [Cm]
 | [],_::_=>by simp [Cm]
 |_::_,[]=>by simp [Cm]
 |x::a,y::b=>by
  simp only [Cm]
  rcases Int.lt_trichotomy x y with h1|h1|h1
  ·simp [h1,show ¬y<x by omega]
  ·subst h1
   simp [DJ a b]
  ·simp [h1,show ¬x<y by omega]
theorem rf: ∀ {a b c:List Int},Cm a b<0->Cm b c<0->Cm a c<0
 | [],[],_,h,_=>by simp [Cm] at h
 |_::_,[],_,h,_=>by simp [Cm] at h
 |_,_::_,[],_,h=>by simp [Cm] at h
 | [],_::_,_::_,_,_=>by simp [Cm]
 |x::a,y::b,z::c,h1,h2=>by
  simp only [Cm] at h1 h2⊢
  by_cases e1:x<y
  ·by_cases e2:y<z
   ·rw [if_pos (by omega)];omega
   ·rw [if_neg e2] at h2
    by_cases e3:y>z
    ·rw [if_pos e3] at h2;omega
    ·rw [if_pos (by omega)];omega
  ·rw [if_neg e1] at h1
   by_cases e2:x>y
   ·rw [if_pos e2] at h1;omega
   ·rw [if_neg e2] at h1
    by_cases e3:y<z
    ·rw [if_pos (by omega)];omega
    ·rw [if_neg e3] at h2
     by_cases e4:y>z
     ·rw [if_pos e4] at h2;omega
     ·rw [if_neg e4] at h2
      rw [if_neg (by omega),if_neg (by omega)]
      exact rf h1 h2
theorem lt_iff {a b:List Int} :aT a b=true↔Cm a b<0:=decide_eq_true_iff
theorem HD {a b c:List Int} (h1:aT a b=true) (h2:aT b c=true):aT a c=true:=lt_iff.2 (rf (lt_iff.1 h1) (lt_iff.1 h2))
theorem gK (a:List Int):aT a a=false:=by
 have:Cm a a=0:=nB.2 rfl
 unfold aT;rw [this];rfl
theorem NB {a b:List Int} (h:aT a b=false) (Et:a≠b):aT b a=true:=by
 rw [lt_iff,DJ a b]
 have h1: ¬Cm a b<0:= λh'=>by rw [lt_iff.2 h'] at h;cases h
 have h2:Cm a b≠0:= λh'=>Et (nB.1 h')
 omega
theorem fR {α:Type} (q:α->Bool): ∀(l:List α),l.Pairwise (λi j=>q j=true->q i=true)-> ∀k (hk:k<l.length),k<(l.takeWhile q).length↔q l[k]=true
 | [],_,k,hk=>by simp at hk
 |a::l,h,k,hk=>by
  obtain ⟨h1,h2⟩:=List.pairwise_cons.1 h
  by_cases ha:q a=true
  ·rw [List.takeWhile_cons_of_pos ha]
   rcases k with _|k
   ·simpa using ha
   ·simp only [List.length_cons,List.getElem_cons_succ,Nat.add_lt_add_iff_right]
    exact fR q l h2 k (by simpa using hk)
  ·rw [List.takeWhile_cons_of_neg ha]
   simp only [List.length_nil,Nat.not_lt_zero,false_iff]
   rcases k with _|k
   ·exact ha
   ·simp only [List.getElem_cons_succ]
    exact λhq=>ha (h1 _ (List.getElem_mem _) hq)
theorem Cx.od {m:Nat} {L:List (List Int)} {Hg:List Int} (h:Cx m L Hg):Hg.length=L.length:=by rw [h.perm.length_eq,Qs]
theorem Cx.idx {m:Nat} {L:List (List Int)} {Hg:List Int} (h:Cx m L Hg) {k:Nat} (hk:k<Hg.length):0<=Hg[k]/\Hg[k]<L.length:=Jf.1 (h.perm.mem_iff.1 (List.getElem_mem hk))
theorem Cx.ab {m:Nat} {L:List (List Int)} {Hg:List Int} (h:Cx m L Hg) (s:List Int) {k:Nat} (hk:k<Hg.length):k<De L Hg s↔aT (L.getD Hg[k].toNat []) s=true:=
 fR _ Hg (h.sorted.imp λfv hj=>HD fv hj) k hk
theorem FC (L:List (List Int)) (Hg s:List Int):De L Hg s<=Hg.length:=(List.takeWhile_sublist _).length_le
theorem Cx.inj {m:Nat} {L:List (List Int)} {Hg:List Int} (h:Cx m L Hg) {i j:Nat} (hi:i<L.length) (hj:j<L.length) (e:L[i]=L[j]):i=j:=by
 have mem: ∀i,i<L.length->(i:Int)∈Hg:= λi hi=>h.perm.mem_iff.2 (Jf.2 ⟨by omega,by omega⟩)
 obtain ⟨p,hp,ep⟩:=List.mem_iff_getElem.1 (mem i hi)
 obtain ⟨q,hq,eq⟩:=List.mem_iff_getElem.1 (mem j hj)
 have get: ∀i (hi:i<L.length),L.getD ((i:Int)).toNat []=L[i]:= λi hi=>by rw [Int.toNat_natCast,List.getD_eq_getElem?_getD,List.getElem?_eq_getElem hi];rfl
 rcases Nat.lt_trichotomy p q with h1|h1|h1
 ·have:=List.pairwise_iff_getElem.1 h.sorted p q hp hq h1
  rw [ep,eq,get i hi,get j hj,e,gK] at this
  cases this
 ·subst h1
  rw [ep] at eq
  omega
 ·have:=List.pairwise_iff_getElem.1 h.sorted q p hq hp h1
  rw [ep,eq,get i hi,get j hj,e,gK] at this
  cases this
theorem Pz {L:List (List Int)} {k:Nat} (h:k<L.length):L.getD k []=L[k]:=by rw [List.getD_eq_getElem?_getD,List.getElem?_eq_getElem h];rfl
theorem Cx.sL {m:Nat} {L:List (List Int)} {Hg:List Int} (h:Cx m L Hg) {s:List Int} :
  (∃hk:De L Hg s<Hg.length,L.getD Hg[De L Hg s].toNat []=s/\Qf L s=Hg[De L Hg s])\/(Qf L s= -1/\ ∀hk:De L Hg s<Hg.length,L.getD Hg[De L Hg s].toNat []≠s):=by
 by_cases hm:s∈L
 ·left
  obtain ⟨j,hj,rfl⟩:=List.mem_iff_getElem.1 hm
  obtain ⟨p,hp,ep⟩:=List.mem_iff_getElem.1 (h.perm.mem_iff.2 (Jf.2 ⟨by omega,by omega⟩):(j:Int)∈Hg)
  have gj:L.getD Hg[p].toNat []=L[j]:=by rw [ep,Int.toNat_natCast,Pz hj]
  have hs:De L Hg L[j]=p:=by
   have h1: ¬p<De L Hg L[j]:= λh1=>by
    have:=(h.ab L[j] hp).1 h1
    rw [gj,gK] at this;cases this
   have h2: ¬De L Hg L[j]<p:= λh2=>by
    have h3:=(h.ab L[j] (k:=De L Hg L[j]) (by omega)).2 (by
     have:=List.pairwise_iff_getElem.1 h.sorted (De L Hg L[j]) p (by omega) hp h2
     rw [gj] at this;exact this)
    omega
   omega
  have hx:L.idxOf L[j]=j:=by
   have h1:L.idxOf L[j]<L.length:=List.idxOf_lt_length_of_mem hm
   exact h.inj h1 hj (List.getElem_idxOf h1)
  refine ⟨by omega,?_,?_⟩
  ·simp only [hs];exact gj
  ·unfold Qf
   rw [if_pos hm,hx]
   simp only [hs];exact ep.symm
 ·right
  refine ⟨by unfold Qf;rw [if_neg hm],λhk e=>hm ?_⟩
  have hi:=h.idx hk
  rw [Pz (by omega)] at e
  rw [<-e]
  exact List.getElem_mem _
theorem MP (Hg:List Int) (k:Nat) (x:Int):(Rb Hg k x).Perm (x::Hg):=by
 unfold Rb
 refine List.perm_middle.trans (List.Perm.cons x ?_)
 rw [List.take_append_drop]
theorem Cx.add {m:Nat} {L:List (List Int)} {Hg s:List Int} (h:Cx m L Hg) (hn:s∉L) (hl:s.length=m) (hr:L.length<3000):Cx m (L++ [s]) (Rb Hg (De L Hg s) L.length):=by
 have wO: ∀i∈Hg,(L++ [s]).getD i.toNat []=L.getD i.toNat []:= λi hi=>by
  have:=Jf.1 (h.perm.mem_iff.1 hi)
  rw [List.getD_eq_getElem?_getD,List.getD_eq_getElem?_getD,List.getElem?_append_left (by omega)]
 have Aby:(L++ [s]).getD ((L.length:Int)).toNat []=s:=by
  rw [Int.toNat_natCast,List.getD_eq_getElem?_getD,List.getElem?_append_right (by omega),Nat.sub_self];rfl
 refine ⟨by rw [List.length_append,List.length_singleton];omega,λx hx=>?_,h.short,?_,?_⟩
 ·rcases List.mem_append.1 hx with hx|hx
  ·exact h.len x hx
  ·rw [List.mem_singleton.1 hx];exact hl
 ·refine (MP _ _ _).trans ?_
  rw [List.length_append,List.length_singleton,ak]
  exact (List.Perm.cons _ h.perm).trans (List.perm_append_singleton _ _).symm
 ·unfold Rb
  have hs:=h.sorted
  rw [<-List.take_append_drop (De L Hg s) Hg] at hs
  obtain ⟨s1,s2,s3⟩:=List.pairwise_append.1 hs
  have mt: ∀i∈Hg.take (De L Hg s),i∈Hg/\aT (L.getD i.toNat []) s=true:= λi hi=>by
   obtain ⟨k,hk,rfl⟩:=List.mem_iff_getElem.1 hi
   have QK:k<De L Hg s:=by rw [List.length_take] at hk;omega
   have hk3:k<Hg.length:=by rw [List.length_take] at hk;omega
   rw [List.getElem_take]
   exact ⟨List.getElem_mem _,(h.ab s hk3).1 QK⟩
  have md: ∀i∈Hg.drop (De L Hg s),i∈Hg/\aT s (L.getD i.toNat [])=true:= λi hi=>by
   obtain ⟨k,hk,rfl⟩:=List.mem_iff_getElem.1 hi
   rw [List.length_drop] at hk
   have hk3:De L Hg s+k<Hg.length:=by omega
   rw [List.getElem_drop]
   refine ⟨List.getElem_mem _,NB ?_ λe=>hn ?_⟩
   ·exact Bool.eq_false_iff.2 λhh=>by
     have:=(h.ab s hk3).2 hh
     omega
   ·have hi:=h.idx hk3
    rw [Pz (by omega)] at e
    rw [<-e];exact List.getElem_mem _
  refine List.pairwise_append.2 ⟨s1.imp_of_mem λ {a b} ha hb pX=>?_,List.pairwise_cons.2 ⟨λb hb=>?_,s2.imp_of_mem λ {a b} ha hb pX=>?_⟩,λa ha b hb=>?_⟩
  ·rw [wO a (mt a ha).1,wO b (mt b hb).1];exact pX
  ·rw [Aby,wO b (md b hb).1];exact (md b hb).2
  ·rw [wO a (md a ha).1,wO b (md b hb).1];exact pX
  ·rcases List.mem_cons.1 hb with rfl|hb
   ·rw [Aby,wO a (mt a ha).1];exact (mt a ha).2
   ·rw [wO a (mt a ha).1,wO b (md b hb).1];exact s3 a ha b hb
theorem bq (L:List (List Int)) (s:List Int):Ts (L++ [s])=Rb (Ts L) (De L (Ts L) s) L.length:=by
 unfold Ts
 rw [List.length_append,List.length_singleton,List.range_succ,List.foldl_append]
 have e: ∀(is:List Nat) (S:List Int),(∀i∈is,i<L.length)->is.foldl (λ(S:List Int) (i:Nat)=>Rb S (De ((L++ [s]).take i) S ((L++ [s]).getD i [])) (i:Int)) S=is.foldl (λ(S:List Int) (i:Nat)=>Rb S (De (L.take i) S (L.getD i [])) (i:Int)) S:=by
  intro is
  induction is with
  |nil=>intro S _;rfl
  |cons i is ih=>
   intro S h
   have hi:=h i (by simp)
   rw [List.foldl_cons,List.foldl_cons,ih _ λj hj=>h j (List.mem_cons_of_mem _ hj)]
   congr 2
   rw [List.take_append_of_le_length (by omega),List.getD_eq_getElem?_getD,List.getElem?_append_left hi,<-List.getD_eq_getElem?_getD]
 rw [e _ _ λi hi=>List.mem_range.1 hi]
 simp only [List.foldl_cons,List.foldl_nil]
 congr 2
 ·rw [List.take_append_of_le_length (Nat.le_refl _),List.take_length]
 ·rw [List.getD_eq_getElem?_getD,List.getElem?_append_right (by omega),Nat.sub_self];rfl
theorem jq {m:Nat} (h:m<=20):Cx m [] []:=⟨by simp,λx hx=>(by cases hx),h,by simp [upto],List.Pairwise.nil⟩
theorem MN {α:Type} {xs:List α} {y:Int} (h0:0<=y) (h:y.toNat<xs.length):idx xs y=some xs[y.toNat]:=by
 unfold idx
 rw [if_pos h0,List.getElem?_eq_getElem h]
theorem ZW (f:SS) (s:List Int) (h:Cx s.length f.1 f.2.2.1):fnW Da (look [(144,Sh)]) bo Try.f104 (f,s,()) (λ(z:Int)=>z=(De f.1 f.2.2.1 s:Int)):=by
 obtain ⟨L,D,Hg,b,⟨⟩⟩:=f
 dsimp only at h⊢
 have hle:=FC L Hg s
 have yX:=h.od
 have tq:=h.cn
 refine Eq.mp (Aar (L,D,Hg,b,()) s _) ?_
 refine Bo.mk (λv=>v.2.2.1=L/\v.2.2.2.2.1=Hg/\ ∃lo hi:Nat,v.1=lo/\v.2.1=hi/\lo<=hi/\hi<=Hg.length/\lo<=De L Hg s/\De L Hg s<=hi) (λv=>(v.2.1-v.1).toNat)
  ⟨rfl,rfl,0,Hg.length,rfl,rfl,by omega,by omega,by omega,hle⟩ ?_
 rintro ⟨lo',cX,L',D',IX,b',⟨⟩⟩ ⟨h1,h2,lo,hi,h3,h4,h5,h6,h7,h8⟩
 dsimp only at h1 h2 h3 h4⊢
 subst h1 h2 h3 h4
 refine Br.dec (λhl=>?_) λhl=>?_
 ·have em:IntKind.i64.wrap ((IntKind.i64.wrap ((lo:Int)+(hi:Int))).tdiv 2)=(((lo+hi)/2:Nat):Int):=by
   rw [Bd (n:=(lo:Int)+(hi:Int)) (by omega) (by omega),Int.tdiv_eq_ediv_of_nonneg (by omega),Bd (by omega) (by omega)]
   omega
  rw [em]
  have LY:(lo+hi)/2<IX.length:=by omega
  have RX:=h.idx LY
  have RY:IX[(lo+hi)/2].toNat<L'.length:=by omega
  have hgd:=Pz RY
  have hlen:=h.len _ (List.getElem_mem RY)
  have EM:short L'[IX[(lo+hi)/2].toNat]:=by
   unfold short
   have:=h.short;omega
  refine ⟨by decide,_,Au LY,_,MN RX.1 RY,_,if_pos ⟨EM,hlen⟩,⟨λhc=>?_,λhc=>?_⟩⟩
  ·have hc:aT L'[IX[(lo+hi)/2].toNat] s=true:=hc
   have hs:=(h.ab s LY).2 (by rw [hgd];exact hc)
   rw [Ak (by omega)]
   exact ⟨⟨rfl,rfl,(lo+hi)/2+1,hi,rfl,rfl,by omega,h6,by omega,h8⟩,by omega⟩
  ·have hc:aT L'[IX[(lo+hi)/2].toNat] s=false:=hc
   have hs: ¬(lo+hi)/2<De L' IX s:= λhh=>by
    have:=(h.ab s LY).1 hh
    rw [hgd,hc] at this;cases this
   exact ⟨⟨rfl,rfl,lo,(lo+hi)/2,rfl,rfl,by omega,by omega,h7,by omega⟩,by omega⟩
 ·show (lo:Int)=_
  omega
theorem pe:Sound Try.prog 104 bo:=
 Sound.Dg Cg (Ah pb As) mixed Try.func104 (by kernel_rfl) (by kernel_rfl) λx h=>ZW x.1 x.2.1 h
theorem NX (f:SS) (s:List Int) (h:Cx s.length f.1 f.2.2.1):fnW Da (look [(104,bo),(105,Ck)]) Em Try.f54 (f,s,()) (λ(z:Int)=>z=Qf f.1 s):=by
 obtain ⟨L,D,Hg,b,⟨⟩⟩:=f
 dsimp only at h⊢
 refine Eq.mp (PY (L,D,Hg,b,()) s _) ⟨_,if_pos h,Br.dec (λhl=>?_) λhl=>?_⟩
 ·have hl:De L Hg s<Hg.length:=by
   have hl:((De L Hg s:Nat):Int)<(Hg.length:Int):=hl
   omega
  have RX:=h.idx hl
  have RY:Hg[De L Hg s].toNat<L.length:=by omega
  have hgd:=Pz RY
  have hlen:=h.len _ (List.getElem_mem RY)
  have EM:short L[Hg[De L Hg s].toNat]:=by
   unfold short
   have:=h.short;omega
  refine ⟨_,Au hl,_,MN RX.1 RY,_,if_pos EM,⟨λhc=>⟨_,Au hl,?_⟩,λhc=>?_⟩⟩
  ·have hc:L[Hg[De L Hg s].toNat]=s:=of_decide_eq_true hc
   rcases h.sL (s:=s) with ⟨hk,_,e⟩|⟨_,Et⟩
   ·exact e.symm
   ·exact absurd (by rw [hgd];exact hc) (Et hl)
  ·have hc: ¬L[Hg[De L Hg s].toNat]=s:=of_decide_eq_false hc
   rcases h.sL (s:=s) with ⟨hk,e,_⟩|⟨e,_⟩
   ·rw [hgd] at e;exact absurd e hc
   ·exact e.symm
 ·have hl: ¬De L Hg s<Hg.length:=by
   have hl: ¬((De L Hg s:Nat):Int)<(Hg.length:Int):=hl
   omega
  rcases h.sL (s:=s) with ⟨hk,e,_⟩|⟨e,_⟩
  ·exact absurd hk hl
  ·exact e.symm
theorem Qp:Sound Try.prog 54 Em:=
 Sound.Dg Cg (Ah pe (Ah mu As)) mixed Try.func54 (by kernel_rfl) (by kernel_rfl) λx h=>NX x.1 x.2.1 h
theorem zT {S:List Int} {k:Nat} (h:k<=S.length) (n:Int):
  (Bp (S++ [0]) (k+1) (List.take ((S++ [0]).length-(k+1)) (List.take ((S++ [0]).length-k) (List.drop k (S++ [0]))))).set k n=Rb S k n:=by
 obtain ⟨A,B,rfl,hA⟩: ∃A B,S=A++B/\A.length=k:=⟨S.take k,S.drop k,(List.take_append_drop k S).symm,by rw [List.length_take];omega⟩
 subst hA
 have e1:List.drop A.length (A++B++ [0])=B++ [0]:=by rw [List.append_assoc,List.drop_left]
 have e2:List.take ((A++B++ [0]).length-A.length) (B++ [0])=B++ [0]:=List.take_of_length_le (by simp only [List.length_append,List.length_singleton];omega)
 have e3:List.take ((A++B++ [0]).length-(A.length+1)) (B++ [0])=B:=by
  have:(A++B++ [(0:Int)]).length-(A.length+1)=B.length:=by simp only [List.length_append,List.length_singleton];omega
  rw [this,List.take_left]
 rw [e1,e2,e3]
 unfold Bp Rb
 have e4:List.drop (A.length+1+B.length) (A++B++ [0])= []:=List.drop_eq_nil_of_le (by simp only [List.length_append,List.length_singleton];omega)
 obtain ⟨c,hc⟩: ∃c,List.take (A.length+1) (A++B++ [0])=A++ [c]:=by
  rw [List.append_assoc,List.take_append,List.take_of_length_le (by omega)]
  cases B with
  |nil=>exact ⟨0,by simp⟩
  |cons b B=>exact ⟨b,by simp⟩
 rw [e4,hc,List.append_nil,List.append_assoc,List.singleton_append,TL,List.take_left,List.drop_left]
theorem ZV (L:List (List Int)) (D S:List Int) (b:Bool) (s:List Int) (d:Int) (h:Cx s.length L S/\D.length<=3000):
  fnMW Nq (look [(104,bo)]) gV Try.f149 (L,D,S,b,s,d,()) (λ(z:(List (List Int)×List Int×List Int×Bool×Unit)×Unit)=>z=((L++ [s],D++ [d],Rb S (De L S s) L.length,b,()),())):=by
 obtain ⟨h,hD⟩:=h
 have hle:=FC L S s
 have yX:=h.od
 have tq:=h.cn
 refine Eq.mp (Aaq L D S b s d _) ?_
 rw [Ax L,Ax D,Ax S]
 refine ⟨_,if_pos h,?_⟩
 dsimp only
 have es:List.take 1 (List.drop 0 [(0:Int)])= [0]:=rfl
 have el:(S++ [(0:Int)]).length=S.length+1:=by simp
 rw [es,Ak (by omega),Nat.zero_add,Nat.zero_add,Int.toNat_natCast,Int.toNat_natCast,Int.toNat_natCast]
 refine ⟨rfl,rfl,by show S.length+1<=4294967296;omega,⟨by omega,by omega,by omega⟩,⟨by omega,by omega,by omega⟩,⟨by omega,by omega⟩,?_,rfl,rfl,by show L.length+1<=4294967296;omega,rfl,rfl,by show D.length+1<=4294967296;omega,?_⟩
 ·unfold Bp
  simp only [List.length_append,List.length_take,List.length_drop,List.length_singleton]
  omega
 ·rw [zT hle,Ax,Ax]
  have e5:List.take (S++ [(0:Int)]).length (List.drop 0 (Rb S (De L S s) (L.length:Int)))=Rb S (De L S s) (L.length:Int):=by
   rw [List.drop_zero,List.take_of_length_le]
   unfold Rb
   simp only [List.length_append,List.length_cons,List.length_take,List.length_drop,List.length_nil]
   omega
  rw [e5]
  rfl
theorem CE:Bq Try.prog 149 gV:=
 Bq.Yp Mk (Ah pe As) mixed Try.func149 (by kernel_rfl) (by kernel_rfl) λx h=>ZV x.1 x.2.1 x.2.2.1 x.2.2.2.1 x.2.2.2.2.1 x.2.2.2.2.2.1 h
structure Qy (p:PP) (m:Nat) (L:List (List Int)) (D:List Int):Prop where
 ok:Cx m L (Ts L)
 len:D.length=L.length
 row: ∀x∈L,∀y∈x,0<=y/\y<p.1
 dep: ∀j (h:j<D.length),0<=D[j]/\D[j]<=j
theorem jf {p:PP} (hv:Valid p) {x:List Int} {l:Int} (hx: ∀y∈x,0<=y/\y<p.1) (hl:Dh (List.length p.2.2.1) l):
  (Ab x (Af p.2.2.1 l)).length=x.length/\ ∀y∈Ab x (Af p.2.2.1 l),0<=y/\y<p.1:=by
 obtain ⟨h1,h2⟩:=ko hv hl
 refine ⟨Ow _ _,λy hy=>?_⟩
 have:=wv (n:=(Af p.2.2.1 l).length) (λz hz=>by have:=hx z hz;omega) h2 y hy
 omega
theorem Qy.add {p:PP} {m:Nat} {L:List (List Int)} {D:List Int} (h:Qy p m L D) {y:List Int} {d:Int} (hn:y∉L) (hl:y.length=m) (hr:L.length<3000) (hy: ∀z∈y,0<=z/\z<p.1) (hd:0<=d/\d<=L.length):Qy p m (L++ [y]) (D++ [d]):=by
 have hlen:=h.len
 refine ⟨by rw [bq];exact h.ok.add hn hl hr,by simp [hlen],λx hx=>?_,λj hj=>?_⟩
 ·rcases List.mem_append.1 hx with hx|hx
  ·exact h.row x hx
  ·rw [List.mem_singleton.1 hx];exact hy
 ·by_cases e:j<D.length
  ·rw [List.getElem_append_left e];exact h.dep j e
  ·simp only [List.length_append,List.length_singleton] at hj
   have:j=D.length:=by omega
   subst this
   rw [List.getElem_append_right (by omega)]
   simp only [Nat.sub_self,List.getElem_cons_zero]
   omega
theorem ek {p:PP} {s:List Int} (hs:s.length<=20) (hr: ∀y∈s,0<=y/\y<p.1):Qy p s.length [s] [0]:=by
 refine ⟨?_,rfl,λx hx=>by rw [List.mem_singleton.1 hx];exact hr,λj hj=>?_⟩
 ·have:=(jq hs).add (s:=s) (by simp) rfl (by simp)
  have e:Ts [s]=Rb [] (De [] [] s) 0:=bq [] s
  rw [e];exact this
 ·simp only [List.length_singleton] at hj
  have:j=0:=by omega
  subst this
  simp
theorem rR {L:List (List Int)} {s:List Int} :Qf L s>=0↔s∈L:=by
 unfold Qf
 split
 ·rename_i h;exact ⟨λ_=>h,λ_=>by omega⟩
 ·rename_i h;exact ⟨λhh=>by omega,λhh=>absurd hh h⟩
theorem TF (p:PP) (s:List Int) (h:Ba p=true/\s.length<=20/\ ∀y∈s,0<=y/\y<p.1):fnW Aac (look [(123,Hf),(149,gV),(96,Eh),(115,Ky),(54,Em)]) Ds Try.f112 (p,s,()) (λ(z:SS)=>z=Ai p.2.2.1 s):=by
 obtain ⟨hv,hs,hr⟩:=h
 have hV:=valid hv
 have tq:=hV.cn
 have XF:=ek hs hr
 have EM:short s:=by unfold short;omega
 obtain ⟨ls,Yj⟩: ∃ls,Ae (List.length p.2.2.1)=ls:=⟨_,rfl⟩
 refine Eq.mp (UE p s _) ⟨_,if_pos EM,_,if_pos ⟨jq hs,by show 0<=3000;omega⟩,ls,(if_pos (by show List.length p.2.2.1<=8;exact tq.2)).trans (congrArg some Yj),rfl,rfl,rfl,rfl,rfl,rfl,rfl,rfl,rfl,rfl,rfl,rfl,?_⟩
 have e0:Rb [] (De [] [] s) ((([]:List (List Int)).length:Nat):Int)=Ts [s]:=(bq [] s).symm
 show Bo _ ((0:Int),p.1,p.2.1,p.2.2.1,false,false,[],[],[],[s],[(0:Int)],Rb [] (De [] [] s) ((([]:List (List Int)).length:Nat):Int),PUnit.unit)
 rw [e0]
 have QN:ls.length<=16:=by rw [<-Yj,Ld];omega
 have cY: ∀l∈ls,Dh (List.length p.2.2.1) l:= λl hl=>Fo (Yj▸hl)
 have zP:Gw p.2.2.1 ls 3001 0 [s] [0]=Fw p.2.2.1 s:=by unfold Fw;rw [Yj]
 refine Bo.mk (λv=>v.2.1=p.1/\v.2.2.1=p.2.1/\v.2.2.2.1=p.2.2.1/\v.2.2.2.2.2.1=false/\ ∃k:Nat,v.1=k/\k<=v.2.2.2.2.2.2.2.2.2.1.length/\
   Qy p s.length v.2.2.2.2.2.2.2.2.2.1 v.2.2.2.2.2.2.2.2.2.2.1/\v.2.2.2.2.2.2.2.2.2.2.2.1=Ts v.2.2.2.2.2.2.2.2.2.1/\
   Gw p.2.2.1 ls (3001-k) k v.2.2.2.2.2.2.2.2.2.1 v.2.2.2.2.2.2.2.2.2.2.1=Fw p.2.2.1 s) (λv=>3001-v.1.toNat)
  ⟨rfl,rfl,rfl,rfl,0,rfl,by simp,XF,rfl,zP⟩ ?_
 rintro ⟨k',n1,n2,n3,b0,wh,x1,x2,x3,L0,D0,S0,⟨⟩⟩ ⟨h1,h2,h3,h4,k,h5,h6,h7,h8,h9⟩
 dsimp only at h1 h2 h3 h4 h5 h6 h7 h8 h9
 subst h1 h2 h3 h4 h5 h8
 dsimp only
 have hL0:=h7.ok.cn
 have hD0:=h7.len
 refine Br.dec (λhl=>⟨rfl,rfl,rfl,rfl,rfl,rfl,rfl,rfl,rfl,rfl,rfl,rfl,?_⟩) λhl=>?_
 ·have hk:k<L0.length:=by omega
  have GJ:k<D0.length:=by omega
  have hx: ∀y∈L0[k],0<=y/\y<p.1:=h7.row _ (List.getElem_mem hk)
  have QT:L0[k].length=s.length:=h7.ok.len _ (List.getElem_mem hk)
  have hdk:=h7.dep k GJ
  obtain ⟨f,hf⟩: ∃f,3001-k=f+1:=⟨3000-k,by omega⟩
  have hgo: ∀L' D' ok,Fb p.2.2.1 L0[k] D0[k] ls L0 D0=(L',D',ok)->Fw p.2.2.1 s=if ok=true then Gw p.2.2.1 ls f (k+1) L' D' else (L',D',false):=by
   intro L' D' ok he
   rw [<-h9,hf,Gw,if_pos hk,Pz hk,List.getD_eq_getElem?_getD,List.getElem?_eq_getElem GJ]
   simp only [Option.getD_some]
   rw [he]
   cases ok<;>rfl
  refine Bo.mk (λv=>v.2.1=p.1/\v.2.2.1=p.2.1/\v.2.2.2.1=p.2.2.1/\v.2.2.2.2.2.1=false/\ ∃i:Nat,v.1=i/\i<=ls.length/\Qy p s.length v.2.2.2.2.2.2.2.2.2.1 v.2.2.2.2.2.2.2.2.2.2.1/\
    v.2.2.2.2.2.2.2.2.2.2.2.1=Ts v.2.2.2.2.2.2.2.2.2.1/\(∃A,v.2.2.2.2.2.2.2.2.2.1=L0++A)/\(∃A,v.2.2.2.2.2.2.2.2.2.2.1=D0++A)/\
    Fb p.2.2.1 L0[k] D0[k] (ls.drop i) v.2.2.2.2.2.2.2.2.2.1 v.2.2.2.2.2.2.2.2.2.2.1=Fb p.2.2.1 L0[k] D0[k] ls L0 D0) (λv=>ls.length-v.1.toNat)
   ⟨rfl,rfl,rfl,rfl,0,rfl,Nat.zero_le _,h7,rfl,⟨[],by simp⟩,⟨[],by simp⟩,rfl⟩ ?_
  rintro ⟨i',m1,m2,m3,b1,wh1,y1,y2,y3,L,D,S,⟨⟩⟩ ⟨g1,g2,g3,g4,i,g5,g6,g7,g8,⟨A,g9⟩,⟨A',g10⟩,JY⟩
  dsimp only at g1 g2 g3 g4 g5 g6 g7 g8 g9 g10 JY
  subst g1 g2 g3 g4 g5 g8
  dsimp only
  have hLf:=g7.ok.cn
  have UR:=g7.len
  rw [Ax L,Ax D,Ax (Ts L)]
  refine Br.dec (λhli=>?_) λhli=>?_
  ·have hi:i<ls.length:=by omega
   have VG:k<L.length:=by rw [g9,List.length_append];omega
   have hLk:L[k]=L0[k]:=by simp only [g9];exact List.getElem_append_left hk
   have XV:k<D.length:=by rw [UR];exact VG
   have hDk:D[k]=D0[k]:=by simp only [g10];exact List.getElem_append_left GJ
   have iU:=cY _ (List.getElem_mem hi)
   obtain ⟨nl,nr⟩:=jf hV hx iU
   rw [List.drop_eq_getElem_cons hi] at JY
   simp only [Fb] at JY
   refine ⟨⟨by omega,by omega⟩,L0[k],by rw [Int.toNat_natCast,Nat.zero_add,List.getElem?_eq_getElem VG,hLk],_,Au hi,_,if_pos ⟨hv,by show L0[k].length<=20;omega,hx,iU⟩,?_⟩
   dsimp only
   have hyl:(Ab L0[k] (Af p.2.2.1 ls[i])).length=s.length:=by rw [nl,QT]
   refine ⟨_,if_pos (by show Cx (Ab L0[k] (Af p.2.2.1 ls[i])).length L (Ts L);rw [hyl];exact g7.ok),Br.dec (λIv=>?_) λIv=>?_⟩
   ·have Iv:Ab L0[k] (Af p.2.2.1 ls[i])∈L:=rR.1 Iv
    rw [if_pos Iv] at JY
    rw [Ak (by omega)]
    exact ⟨rfl,rfl,rfl,rfl,rfl,rfl,rfl,rfl,rfl,rfl,rfl,rfl,⟨rfl,rfl,rfl,rfl,i+1,rfl,hi,g7,rfl,⟨A,g9⟩,⟨A',g10⟩,JY⟩,by omega⟩
   ·have Iv:Ab L0[k] (Af p.2.2.1 ls[i])∉L:= λhh=>Iv (rR.2 hh)
    rw [if_neg Iv] at JY
    refine ⟨λfu=>?_,λfu=>⟨⟨by omega,by omega⟩,D0[k],by rw [Int.toNat_natCast,Nat.zero_add,List.getElem?_eq_getElem XV,hDk],rfl,rfl,rfl,rfl,rfl,rfl,?_⟩⟩
    ·have fu:L.length=3000:=by
      have:(L.length:Int)=3000:=by simpa using fu
      omega
     rw [if_pos fu] at JY
     have:=hgo _ _ _ JY.symm
     rw [if_neg (by decide)] at this
     unfold Ai
     rw [this]
    ·have fu:L.length≠3000:=by
      have:(L.length:Int)≠3000:=by simpa using fu
      omega
     rw [if_neg fu] at JY
     rw [Bd (n:=D0[k]+1) (by omega) (by omega)]
     refine ⟨_,if_pos ⟨by show Cx (Ab L0[k] (Af p.2.2.1 ls[i])).length L (Ts L);rw [hyl];exact g7.ok,by show D.length<=3000;omega⟩,?_⟩
     dsimp only
     rw [Ak (by omega),<-bq]
     refine ⟨rfl,rfl,rfl,rfl,rfl,rfl,rfl,rfl,rfl,rfl,rfl,rfl,⟨rfl,rfl,rfl,rfl,i+1,rfl,hi,g7.add Iv hyl (by omega) nr ⟨by omega,by omega⟩,rfl,⟨A++ [Ab L0[k] (Af p.2.2.1 ls[i])],by rw [g9,List.append_assoc]⟩,⟨A'++ [D0[k]+1],by rw [g10,List.append_assoc]⟩,JY⟩,by omega⟩
  ·have:i=ls.length:=by omega
   subst this
   rw [List.drop_length,Fb] at JY
   have:=hgo _ _ _ JY.symm
   rw [if_pos rfl] at this
   rw [Ak (by omega)]
   refine ⟨rfl,rfl,rfl,rfl,rfl,rfl,rfl,rfl,rfl,rfl,rfl,rfl,⟨rfl,rfl,rfl,rfl,k+1,rfl,by rw [g9,List.length_append];omega,g7,rfl,?_⟩,by omega⟩
   rw [show 3001-(k+1)=f by omega]
   exact this.symm
 ·have hk:k=L0.length:=by omega
  rw [Ax L0,Ax D0,Ax (Ts L0)]
  obtain ⟨f,hf⟩: ∃f,3001-k=f+1:=⟨3000-k,by omega⟩
  rw [hf,Gw,if_neg (by omega)] at h9
  unfold Ai
  rw [<-h9]
theorem ym:Sound Try.prog 112 Ds:=
 Sound.Dg Aad (Ah Ws (Ev CE (Ah Oh (Ah Uy (Ah Qp As))))) mixed Try.func112 (by kernel_rfl) (by kernel_rfl) λx h=>TF x.1 x.2.1 h
end Go.Proofs.Ytjbdmibbbpdnnaa

namespace Go.Proofs.Ytjbdmibbbpdnnaa
open Go.RowKit
noncomputable def HF (p:PP) (t:List Int):Bool:=Ba p&&Mf p.1 t
theorem iu {p:PP} (hV:Valid p) {m:Nat} {x:List Int} {d:Int} (hx: ∀y∈x,0<=y/\y<p.1) (QT:x.length=m): ∀(ls:List Int) (L:List (List Int)) (D:List Int),(∀l∈ls,Dh (List.length p.2.2.1) l)->
  Qy p m L D->(0<=d/\d<L.length)->Qy p m (Fb p.2.2.1 x d ls L D).1 (Fb p.2.2.1 x d ls L D).2.1/\(∃A,(Fb p.2.2.1 x d ls L D).1=L++A)/\(∃A,(Fb p.2.2.1 x d ls L D).2.1=D++A)
 | [],L,D,_,h,_=>⟨h,⟨[],by simp [Fb]⟩,⟨[],by simp [Fb]⟩⟩
 |l::ls,L,D,hl,h,hd=>by
  obtain ⟨n1,n2⟩:=jf hV hx (hl l (by simp))
  have Hl: ∀l∈ls,Dh (List.length p.2.2.1) l:= λl' h'=>hl l' (List.mem_cons_of_mem _ h')
  simp only [Fb]
  split
  ·exact iu hV hx QT ls L D Hl h hd
  ·rename_i hn
   split
   ·exact ⟨h,⟨[],by simp⟩,⟨[],by simp⟩⟩
   ·rename_i hf
    have tq:=h.ok.cn
    obtain ⟨k1,⟨A,k2⟩,⟨A',k3⟩⟩:=iu hV hx QT ls (L++ [Ab x (Af p.2.2.1 l)]) (D++ [d+1]) Hl (h.add hn (by rw [n1,QT]) (by omega) n2 ⟨by omega,by omega⟩) ⟨hd.1,by rw [List.length_append];omega⟩
    exact ⟨k1,⟨_::A,by rw [k2,List.append_assoc];rfl⟩,⟨_::A',by rw [k3,List.append_assoc];rfl⟩⟩
theorem we {p:PP} (hV:Valid p) {m:Nat} {ls:List Int} (hl: ∀l∈ls,Dh (List.length p.2.2.1) l): ∀(f k:Nat) (L:List (List Int)) (D:List Int),Qy p m L D->
  Qy p m (Gw p.2.2.1 ls f k L D).1 (Gw p.2.2.1 ls f k L D).2.1/\(∃A,(Gw p.2.2.1 ls f k L D).1=L++A)
 |0,k,L,D,h=>⟨h,⟨[],by simp [Gw]⟩⟩
 |f+1,k,L,D,h=>by
  simp only [Gw]
  split
  ·rename_i hk
   have GJ:k<D.length:=by rw [h.len];exact hk
   have hd:=h.dep k GJ
   have e:D.getD k 0=D[k]:=by rw [List.getD_eq_getElem?_getD,List.getElem?_eq_getElem GJ];rfl
   rw [Pz hk,e]
   obtain ⟨k1,⟨A,k2⟩,_⟩:=iu hV (h.row _ (List.getElem_mem hk)) (h.ok.len _ (List.getElem_mem hk)) (d:=D[k]) ls L D hl h ⟨by omega,by omega⟩
   split
   ·rename_i L' D' he
    rw [he] at k1 k2
    obtain ⟨g1,⟨B,g2⟩⟩:=we hV hl f (k+1) L' D' k1
    have k2:L'=L++A:=k2
    exact ⟨g1,⟨A++B,by rw [g2,k2,List.append_assoc]⟩⟩
   ·rename_i L' D' he
    rw [he] at k1 k2
    exact ⟨k1,⟨A,k2⟩⟩
  ·exact ⟨h,⟨[],by simp⟩⟩
theorem KR {p:PP} {s:List Int} (hv:Ba p=true) (hs:s.length<=20) (hr: ∀y∈s,0<=y/\y<p.1):Qy p s.length (Fw p.2.2.1 s).1 (Fw p.2.2.1 s).2.1/\ ∃A,(Fw p.2.2.1 s).1=s::A:=
 we (valid hv) (λ_ hl=>Fo hl) _ _ _ _ (ek hs hr)
def za (m:ByteArray->Option Bool) (L:List (List Int)):Prop:= ∀q,Qz q->(m (Nc q)).getD false=decide (q∈L)
theorem za.add {m:ByteArray->Option Bool} {L:List (List Int)} {y:List Int} (h:za m L) (hy:Qz y):za (bB m (Nc y) true) (L++ [y]):=by
 intro q hq
 unfold bB
 by_cases e:q=y
 ·subst e
  rw [if_pos rfl];simp
 ·rw [if_neg λhk=>e (key_inj hq hy hk),h q hq]
  simp [e]
end Go.Proofs.Ytjbdmibbbpdnnaa
