/-
  Part 38 of the proof that the statement FnExactLowerBoundWithInverse holds.
-/
import Derived.Test.YtfolipnappekaaaGreatCLowerBoundWithInverse36
import Derived.KernelRfl
namespace Go.Proofs.YtfolipnappekaaaGreat
open Go.RowKit
def Ji (x a b:Int):Bool:=decide (a<=x/\x<=b)
def dN (n x:Int):Bool:=decide (0<=x/\x<=IntKind.i64.wrap (n-1))
def At (a b:List Int):Bool:=decide (a=b)
def eS (xs:List Int) (x:Int):Bool:=decide (x∈xs)
def short (xs:List Int):Prop:=xs.length<=4294967296
noncomputable abbrev Bw:Spec:=Co (.pair tI (.pair tI (.pair tI .unit))) .bool false true (λ_=>True) (λx=>Ji x.1 x.2.1 x.2.2.1)
noncomputable abbrev Uf:Spec:=Co (.pair tI (.pair tI .unit)) .bool false true (λ_=>True) (λx=>dN x.1 x.2.1)
noncomputable abbrev Ao:Spec:=Co (.pair tL (.pair tL .unit)) .bool false true (λx=>short x.1) (λx=>At x.1 x.2.1)
noncomputable abbrev Kp:Spec:=Co (.pair tL (.pair tI .unit)) .bool false true (λx=>short x.1) (λx=>eS x.1 x.2.1)
theorem IB (x a b:Int) (P:Bool->Prop):(Br (decide (x>=a)) (P (decide (x<=b))) (P false))=fnW Cg (look []) Bw Tryz.f88 (x,a,b,()) P:=by kernel_rfl
theorem OL (x a b:Int) (P:Bool->Prop):(Br (decide (x>=a)) (P (decide (x<=b))) (P false))=fnW Cg (look []) Bw Tryz.f90 (x,a,b,()) P:=by kernel_rfl
theorem ID (n x:Int) (P:Bool->Prop):(∃(y3:Bool),Bw.fn (x,0,IntKind.i64.wrap (n-1),())=some y3/\P y3)=fnW Cg (look [(90,Bw)]) Uf Tryz.f161 (n,x,()) P:=by kernel_rfl
theorem yk (a b:List Int) (P:Bool->Prop):(Br ((↑a.length:Int) !=(↑b.length:Int)) (P false) (Bm (λ(v3:Int×PUnit) (k4:Int×PUnit->Prop)=>Br (decide (v3.1<(↑a.length:Int))) (∃(y5:Int),idx a v3.1=some y5/\ ∃(y6:Int),idx b v3.1=some y6/\Br (y5 !=y6) (P false) (k4 (IntKind.i64.wrap (v3.1+1),()))) (P true)) (0,PUnit.unit)))=fnW Cg (look []) Ao Tryz.f101 (a,b,()) P:=by kernel_rfl
theorem qN (a b:List Int) (P:Bool->Prop):(Br ((↑a.length:Int) !=(↑b.length:Int)) (P false) (Bm (λ(v3:Int×PUnit) (k4:Int×PUnit->Prop)=>Br (decide (v3.1<(↑a.length:Int))) (∃(y5:Int),idx a v3.1=some y5/\ ∃(y6:Int),idx b v3.1=some y6/\Br (y5 !=y6) (P false) (k4 (IntKind.i64.wrap (v3.1+1),()))) (P true)) (0,PUnit.unit)))=fnW Cg (look []) Ao Tryz.f139 (a,b,()) P:=by kernel_rfl
theorem qH (xs:List Int) (x:Int) (P:Bool->Prop):(Bm (λ(v3:Int×PUnit) (k4:Int×PUnit->Prop)=>Br (decide (v3.1<(↑xs.length:Int))) (∃(y5:Int),idx xs v3.1=some y5/\Br (y5==x) (P true) (k4 (IntKind.i64.wrap (v3.1+1),()))) (P false)) (0,PUnit.unit))=fnW Cg (look []) Kp Tryz.f100 (xs,x,()) P:=by kernel_rfl
theorem GD (x a b:Int) (_:True):fnW Cg (look []) Bw Tryz.f88 (x,a,b,()) (λ(z:Bool)=>z=Ji x a b):=by
 refine Eq.mp (IB x a b _) ?_
 refine Br.dec (λh=>?_) λh=>?_
 ·have h:a<=x:=h
  simp [Ji,h]
 ·exact (decide_eq_false λhh=>h hh.1).symm
theorem Xx:Sound Tryz.prog 88 Bw:=
 Sound.Co Bg Al mixed Tryz.func88 (by kernel_rfl) (by kernel_rfl) λx h=>GD x.1 x.2.1 x.2.2.1 h
theorem MN (x a b:Int) (_:True):fnW Cg (look []) Bw Tryz.f90 (x,a,b,()) (λ(z:Bool)=>z=Ji x a b):=by
 refine Eq.mp (OL x a b _) ?_
 refine Br.dec (λh=>?_) λh=>?_
 ·have h:a<=x:=h
  simp [Ji,h]
 ·exact (decide_eq_false λhh=>h hh.1).symm
theorem Tw:Sound Tryz.prog 90 Bw:=
 Sound.Co Bg Al mixed Tryz.func90 (by kernel_rfl) (by kernel_rfl) λx h=>MN x.1 x.2.1 x.2.2.1 h
theorem GG (n x:Int) (_:True):fnW Cg (look [(90,Bw)]) Uf Tryz.f161 (n,x,()) (λ(z:Bool)=>z=dN n x):=
 Eq.mp (ID n x _) ⟨_,if_pos trivial,rfl⟩
theorem qn:Sound Tryz.prog 161 Uf:=
 Sound.Co Bg (Ae Tw Al) mixed Tryz.func161 (by kernel_rfl) (by kernel_rfl) λx h=>GG x.1 x.2.1 h
theorem pW (xs:List Int) (x:Int) (h:short xs):fnW Cg (look []) Kp Tryz.f100 (xs,x,()) (λ(z:Bool)=>z=eS xs x):=by
 refine Eq.mp (qH xs x _) ?_
 unfold short at h
 refine Ai xs.length (λv=>v.1) (λj _=>x∉xs.take j) rfl (by simp) ?_
 rintro j ⟨i,⟨⟩⟩ K hj hi hR hK
 dsimp only at hi⊢
 subst hi
 refine Br.dec (λhl=>?_) λhl=>?_
 ·have hl:j<xs.length:=by omega
  refine ⟨_,Ap hl,⟨λhe=>?_,λhe=>?_⟩⟩
  ·have hm:=List.getElem_mem hl
   simp only [beq_iff_eq] at he
   rw [he] at hm
   exact (decide_eq_true hm).symm
  ·rw [Ag (by omega)]
   refine hK hl _ rfl ?_
   simp only [beq_eq_false_iff_ne,ne_eq] at he
   rw [List.take_succ_eq_append_getElem hl]
   simp only [List.mem_append,List.mem_singleton,not_or]
   exact ⟨hR,λhx=>he hx.symm⟩
 ·have:j=xs.length:=by omega
  subst this
  rw [List.take_length] at hR
  exact (decide_eq_false hR).symm
theorem iR:Sound Tryz.prog 100 Kp:=
 Sound.Co Bg Al mixed Tryz.func100 (by kernel_rfl) (by kernel_rfl) λx h=>pW x.1 x.2.1 h
theorem sP (a b:List Int) (hlen:a.length=b.length) (h:short a):
  Bm (λ(v3:Int×PUnit) (k4:Int×PUnit->Prop)=>
   Br (decide (v3.1<(↑a.length:Int))) (∃(y5:Int),idx a v3.1=some y5/\ ∃(y6:Int),idx b v3.1=some y6/\Br (y5 !=y6) (false=At a b) (k4 (IntKind.i64.wrap (v3.1+1),())))
    (true=At a b))
  (0,PUnit.unit):=by
 unfold short at h
 refine Ai a.length (λv=>v.1) (λj _=>a.take j=b.take j) rfl (by simp) ?_
 rintro j ⟨i,⟨⟩⟩ K hj hi hR hK
 dsimp only at hi⊢
 subst hi
 refine Br.dec (λhl=>?_) λhl=>?_
 ·have dJ:j<a.length:=by omega
  have po:j<b.length:=by omega
  refine ⟨_,Ap dJ,_,Ap po,⟨λhe=>?_,λhe=>?_⟩⟩
  ·simp only [bne_iff_ne,ne_eq] at he
   refine (decide_eq_false λfK=>he ?_).symm
   subst fK
   rfl
  ·rw [Ag (by omega)]
   refine hK dJ _ rfl ?_
   simp only [bne_eq_false_iff_eq] at he
   rw [List.take_succ_eq_append_getElem dJ,List.take_succ_eq_append_getElem po,hR,he]
 ·have tf:j=a.length:=by omega
  subst tf
  rw [List.take_length,hlen,List.take_length] at hR
  exact (decide_eq_true hR).symm
theorem xt (a b:List Int) (h:short a):fnW Cg (look []) Ao Tryz.f101 (a,b,()) (λ(z:Bool)=>z=At a b):=by
 refine Eq.mp (yk a b _) ⟨λhl=>?_,λhl=>?_⟩
 ·simp only [bne_iff_ne,ne_eq,Int.natCast_inj] at hl
  exact (decide_eq_false λfK=>hl (by rw [fK])).symm
 ·simp only [bne_eq_false_iff_eq,Int.natCast_inj] at hl
  exact sP a b hl h
theorem Sy:Sound Tryz.prog 101 Ao:=
 Sound.Co Bg Al mixed Tryz.func101 (by kernel_rfl) (by kernel_rfl) λx h=>xt x.1 x.2.1 h
theorem q9 (a b:List Int) (h:short a):fnW Cg (look []) Ao Tryz.f139 (a,b,()) (λ(z:Bool)=>z=At a b):=by
 refine Eq.mp (qN a b _) ⟨λhl=>?_,λhl=>?_⟩
 ·simp only [bne_iff_ne,ne_eq,Int.natCast_inj] at hl
  exact (decide_eq_false λfK=>hl (by rw [fK])).symm
 ·simp only [bne_eq_false_iff_eq,Int.natCast_inj] at hl
  exact sP a b hl h
theorem Xd:Sound Tryz.prog 139 Ao:=
 Sound.Co Bg Al mixed Tryz.func139 (by kernel_rfl) (by kernel_rfl) λx h=>q9 x.1 x.2.1 h
end Go.Proofs.YtfolipnappekaaaGreat

namespace Go.Proofs.YtfolipnappekaaaGreat
open Go.RowKit
abbrev TT:Type:=List Int×List (List Int)×List Int×Unit
def Ew (xs:List (List Int)):Prop:=xs.length<=4294967296/\ ∀r∈xs,short r
def Kg (t:TT):Prop:=short t.1/\Ew t.2.1/\short t.2.2.1
def roomy (room:Int):Prop:=0<=room/\room<=4294967296
def jI (n:Nat) (room:Int):Int:=if room-n<0 then-1 else room-n
def Vl (xs:List Int) (room:Int):Int:=jI xs.length room
def oY:List (List Int)->Int->Int
 | [],room=>room
 |r::rs,room=>if Vl r room<0 then-1 else oY rs (Vl r room)
def Mm (xs:List (List Int)) (room:Int):Int:=if jI xs.length room<0 then-1 else oY xs (jI xs.length room)
def Ma (t:TT) (room:Int):Int:=
 if Vl t.1 room<0 then-1 else if Mm t.2.1 (Vl t.1 room)<0 then-1 else
 if Vl t.2.2.1 (Mm t.2.1 (Vl t.1 room))<0 then-1 else Vl t.2.2.1 (Mm t.2.1 (Vl t.1 room))
def Lj (a b:List (List Int)):Bool:=decide (a=b)
def Js (a b:TT):Bool:=decide (a.1=b.1)&&(decide (a.2.1=b.2.1)&&decide (a.2.2.1=b.2.2.1))
noncomputable abbrev eW:Spec:=Co (.pair tL (.pair tI .unit)) tI false true (λx=>short x.1/\roomy x.2.1) (λx=>Vl x.1 x.2.1)
noncomputable abbrev aM:Spec:=Co (.pair dX (.pair tI .unit)) tI false true (λx=>Ew x.1/\roomy x.2.1) (λx=>Mm x.1 x.2.1)
noncomputable abbrev Uk:Spec:=Co (.pair Ha (.pair tI .unit)) tI false true (λx=>Kg x.1/\roomy x.2.1) (λx=>Ma x.1 x.2.1)
noncomputable abbrev Vr:Spec:=Co (.pair tL .unit) tL false true (λx=>short x.1) (λx=>x.1)
noncomputable abbrev aN:Spec:=Co (.pair dX .unit) dX false true (λx=>Ew x.1) (λx=>x.1)
noncomputable abbrev Ul:Spec:=Co (.pair Ha .unit) Ha false true (λx=>Kg x.1) (λx=>x.1)
noncomputable abbrev Np:Spec:=Co (.pair dX (.pair dX .unit)) .bool false true (λx=>Ew x.1) (λx=>Lj x.1 x.2.1)
noncomputable abbrev Ei:Spec:=Co (.pair Ha (.pair Ha .unit)) .bool false true (λx=>Kg x.1) (λx=>Js x.1 x.2.1)
theorem Acx (xs:List Int) (room:Int) (P:Int->Prop):(Br (decide (IntKind.i64.wrap (room-(↑xs.length:Int))<0)) (P (-1)) (P (IntKind.i64.wrap (room-(↑xs.length:Int)))))=fnW Cg (look []) eW Tryz.f71 (xs,room,()) P:=by kernel_rfl
theorem YU (xs:List (List Int)) (room:Int) (P:Int->Prop):(Br (decide (IntKind.i64.wrap (room-(↑xs.length:Int))<0)) (P (-1)) (Bm (λ(v3:Int×Int×PUnit) (k4:Int×Int×PUnit->Prop)=>Br (decide (v3.2.1<(↑xs.length:Int))) (∃(y5:List Int),idx xs v3.2.1=some y5/\ ∃(y6:Int),eW.fn (y5,v3.1,())=some y6/\Br (decide (y6<0)) (P (-1)) (k4 (y6,IntKind.i64.wrap (v3.2.1+1),()))) (P v3.1)) (IntKind.i64.wrap (room-(↑xs.length:Int)),0,PUnit.unit)))=fnW Cg (look [(71,eW)]) aM Tryz.f45 (xs,room,()) P:=by kernel_rfl
theorem IM (t:List Int×List (List Int)×List Int×Unit) (room:Int) (P:Int->Prop):(∃(y3:Int),eW.fn (t.1,room,())=some y3/\Br (decide (y3<0)) (P (-1)) (∃(y4:Int),aM.fn (t.2.1,y3,())=some y4/\Br (decide (y4<0)) (P (-1)) (∃(y5:Int),eW.fn (t.2.2.1,y4,())=some y5/\Br (decide (y5<0)) (P (-1)) (P y5))))=fnW Cg (look [(71,eW),(45,aM)]) Uk Tryz.f46 (t,room,()) P:=by kernel_rfl
theorem Acz (xs:List Int) (P:List Int->Prop):((0<=(↑xs.length:Int)/\(↑xs.length:Int)<(↑Bj:Int)+1)/\(↑xs.length:Int)=(↑xs.length:Int)/\0=0/\(List.replicate (↑xs.length:Int).toNat (Int.ofNat 0)).length=(List.replicate (↑xs.length:Int).toNat (Int.ofNat 0)).length/\Bm (λ(v2:Int×List Int×PUnit) (k3:Int×List Int×PUnit->Prop)=>Br (decide (v2.1<(↑xs.length:Int))) (∃(y4:Int),idx xs v2.1=some y4/\(0<=v2.1/\v2.1<(↑v2.2.1.length:Int))/\0+v2.1.toNat<v2.2.1.length/\0=0/\v2.2.1.length=(v2.2.1.set (0+v2.1.toNat) y4).length/\k3 (IntKind.i64.wrap (v2.1+1),v2.2.1.set (0+v2.1.toNat) y4,())) (P (List.take v2.2.1.length (List.drop 0 v2.2.1)))) (0,List.replicate (↑xs.length:Int).toNat (Int.ofNat 0),PUnit.unit))=fnW Cg (look []) Vr Tryz.f18 (xs,()) P:=by kernel_rfl
theorem YW (xs:List (List Int)) (P:List (List Int)->Prop):((0<=(↑xs.length:Int)/\(↑xs.length:Int)<(↑Bj:Int)+1)/\(↑xs.length:Int)=(↑xs.length:Int)/\0=0/\(List.replicate (↑xs.length:Int).toNat ([]:List Int)).length=(List.replicate (↑xs.length:Int).toNat ([]:List Int)).length/\Bm (λ(v2:Int×List (List Int)×PUnit) (k3:Int×List (List Int)×PUnit->Prop)=>Br (decide (v2.1<(↑xs.length:Int))) (∃(y4:List Int),idx xs v2.1=some y4/\ ∃(y5:List Int),Vr.fn (y4,())=some y5/\(0<=v2.1/\v2.1<(↑v2.2.1.length:Int))/\0+v2.1.toNat<v2.2.1.length/\0=0/\v2.2.1.length=(v2.2.1.set (0+v2.1.toNat) y5).length/\k3 (IntKind.i64.wrap (v2.1+1),v2.2.1.set (0+v2.1.toNat) y5,())) (P (List.take v2.2.1.length (List.drop 0 v2.2.1)))) (0,List.replicate (↑xs.length:Int).toNat ([]:List Int),PUnit.unit))=fnW Cg (look [(18,Vr)]) aN Tryz.f49 (xs,()) P:=by kernel_rfl
theorem IN (t:List Int×List (List Int)×List Int×Unit) (P:(List Int×List (List Int)×List Int×Unit)->Prop):(∃(y2:List Int),Vr.fn (t.1,())=some y2/\ ∃(y3:List (List Int)),aN.fn (t.2.1,())=some y3/\ ∃(y4:List Int),Vr.fn (t.2.2.1,())=some y4/\P (y2,y3,y4,()))=fnW Cg (look [(18,Vr),(49,aN)]) Ul Tryz.f50 (t,()) P:=by kernel_rfl
theorem Acr (a b:List Int) (P:Bool->Prop):(Br ((↑a.length:Int) !=(↑b.length:Int)) (P false) (Bm (λ(v3:Int×PUnit) (k4:Int×PUnit->Prop)=>Br (decide (v3.1<(↑a.length:Int))) (∃(y5:Int),idx a v3.1=some y5/\ ∃(y6:Int),idx b v3.1=some y6/\Br (y5 !=y6) (P false) (k4 (IntKind.i64.wrap (v3.1+1),()))) (P true)) (0,PUnit.unit)))=fnW Cg (look []) Ao Tryz.f22 (a,b,()) P:=by kernel_rfl
theorem YM (a b:List (List Int)) (P:Bool->Prop):(Br ((↑a.length:Int) !=(↑b.length:Int)) (P false) (Bm (λ(v3:Int×PUnit) (k4:Int×PUnit->Prop)=>Br (decide (v3.1<(↑a.length:Int))) (∃(y5:List Int),idx a v3.1=some y5/\ ∃(y6:List Int),idx b v3.1=some y6/\ ∃(y7:Bool),Ao.fn (y5,y6,())=some y7/\Br (!y7) (P false) (k4 (IntKind.i64.wrap (v3.1+1),()))) (P true)) (0,PUnit.unit)))=fnW Cg (look [(22,Ao)]) Np Tryz.f53 (a,b,()) P:=by kernel_rfl
theorem IA (a b:List Int×List (List Int)×List Int×Unit) (P:Bool->Prop):(∃(y3:Bool),Ao.fn (a.1,b.1,())=some y3/\Br (!y3) (P false) (∃(y4:Bool),Np.fn (a.2.1,b.2.1,())=some y4/\Br (!y4) (P false) (∃(y5:Bool),Ao.fn (a.2.2.1,b.2.2.1,())=some y5/\Br (!y5) (P false) (P true))))=fnW Cg (look [(22,Ao),(53,Np)]) Ei Tryz.f54 (a,b,()) P:=by kernel_rfl
theorem Ub {n:Nat} {room:Int} (h:roomy room) (h2: ¬jI n room<0):roomy (jI n room):=by
 unfold jI roomy at*
 split at h2<;>simp_all
 omega
theorem Ac7 (xs:List Int) (room:Int) (h:short xs/\roomy room):fnW Cg (look []) eW Tryz.f71 (xs,room,()) (λ(z:Int)=>z=Vl xs room):=by
 obtain ⟨h1,h2,h3⟩:=h
 unfold short at h1
 refine Eq.mp (Acx xs room _) ?_
 rw [Cp (by omega) (by omega)]
 refine Br.dec (λh=>?_) λh=>?_
 ·simp only [Vl,jI,if_pos h]
 ·simp only [Vl,jI,if_neg h]
theorem ss:Sound Tryz.prog 71 eW:=
 Sound.Co Bg Al mixed Tryz.func71 (by kernel_rfl) (by kernel_rfl) λx h=>Ac7 x.1 x.2.1 h
theorem XU (xs:List (List Int)) (room:Int) (h:Ew xs/\roomy room):fnW Cg (look [(71,eW)]) aM Tryz.f45 (xs,room,()) (λ(z:Int)=>z=Mm xs room):=by
 obtain ⟨⟨h1,h4⟩,h2,h3⟩:=h
 refine Eq.mp (YU xs room _) ?_
 rw [Cp (by omega) (by omega)]
 refine Br.dec (λh=>?_) λh=>?_
 ·simp only [Mm,jI,if_pos h];rfl
 ·refine Ai xs.length (λv=>v.2.1) (λj v=>roomy v.1/\oY (xs.drop j) v.1=Mm xs room) rfl ?_ ?_
  ·refine ⟨by unfold roomy;omega,?_⟩
   simp only [Mm,jI,if_neg h,List.drop_zero]
  ·rintro j ⟨r,i,⟨⟩⟩ K hj hi ⟨hr,hR⟩ hK
   dsimp only at hi hr hR⊢
   subst hi
   refine Br.dec (λhl=>?_) λhl=>?_
   ·have hl:j<xs.length:=by omega
    have hd:xs.drop j=xs[j]::xs.drop (j+1):=List.drop_eq_getElem_cons hl
    refine ⟨_,Ap hl,_,if_pos ⟨h4 _ (List.getElem_mem hl),hr⟩,?_⟩
    rw [hd] at hR
    simp only [oY] at hR
    refine Br.dec (λhn=>?_) λhn=>?_
    ·have hn:Vl xs[j] r<0:=hn
     rw [if_pos hn] at hR
     exact hR
    ·have hn: ¬Vl xs[j] r<0:=hn
     rw [if_neg hn] at hR
     rw [Ag (by omega)]
     exact hK hl _ rfl ⟨Ub hr hn,hR⟩
   ·have:j=xs.length:=by omega
    subst this
    rw [List.drop_length] at hR
    exact hR
theorem oQ:Sound Tryz.prog 45 aM:=
 Sound.Co Bg (Ae ss Al) mixed Tryz.func45 (by kernel_rfl) (by kernel_rfl) λx h=>XU x.1 x.2.1 h
theorem su: ∀(xs:List (List Int)) (room:Int),roomy room-> ¬oY xs room<0->roomy (oY xs room)
 | [],room,h,_=>h
 |r::rs,room,h,h2=>by
  simp only [oY] at h2⊢
  split
  ·rename_i hn;rw [if_pos hn] at h2;exact absurd (show (-1:Int)<0 by decide) h2
  ·rename_i hn;rw [if_neg hn] at h2;exact su rs _ (Ub h hn) h2
theorem kX {xs:List (List Int)} {room:Int} (h:roomy room) (h2: ¬Mm xs room<0):roomy (Mm xs room):=by
 unfold Mm at*
 split
 ·rename_i hn;rw [if_pos hn] at h2;exact absurd (show (-1:Int)<0 by decide) h2
 ·rename_i hn;rw [if_neg hn] at h2;exact su _ _ (Ub h hn) h2
theorem GO (t:TT) (room:Int) (h:Kg t/\roomy room):fnW Cg (look [(71,eW),(45,aM)]) Uk Tryz.f46 (t,room,()) (λ(z:Int)=>z=Ma t room):=by
 obtain ⟨⟨h1,h2,h3⟩,hr⟩:=h
 refine Eq.mp (IM t room _) ?_
 refine ⟨_,if_pos ⟨h1,hr⟩,Br.dec (λhn=>?_) λhn=>?_⟩
 ·exact (if_pos hn).symm
 ·have r1:=Ub hr hn
  refine ⟨_,if_pos ⟨h2,r1⟩,Br.dec (λhm=>?_) λhm=>?_⟩
  ·exact ((if_neg hn).trans (if_pos hm)).symm
  ·have r2:=kX r1 hm
   refine ⟨_,if_pos ⟨h3,r2⟩,Br.dec (λhk=>?_) λhk=>?_⟩
   ·exact ((if_neg hn).trans ((if_neg hm).trans (if_pos hk))).symm
   ·exact ((if_neg hn).trans ((if_neg hm).trans (if_neg hk))).symm
theorem qy:Sound Tryz.prog 46 Uk:=
 Sound.Co Bg (Ae ss (Ae oQ Al)) mixed Tryz.func46 (by kernel_rfl) (by kernel_rfl) λx h=>GO x.1 x.2.1 h
theorem Kq {α:Type} {ys xs:List α} {j:Nat} (h:j<xs.length) (hl:ys.length=xs.length) (ht:ys.take j=xs.take j):(ys.set j xs[j]).take (j+1)=xs.take (j+1):=by
 have h1:j<(ys.set j xs[j]).length:=by rw [List.length_set];omega
 rw [List.take_succ_eq_append_getElem h1,List.take_succ_eq_append_getElem h,List.getElem_set_self,List.take_set_of_le (Nat.le_refl j),ht]
theorem Ac9 (xs:List Int) (h:short xs):fnW Cg (look []) Vr Tryz.f18 (xs,()) (λ(z:List Int)=>z=xs):=by
 unfold short at h
 refine Eq.mp (Acz xs _) ?_
 refine ⟨⟨by omega,by show (xs.length:Int)<(4294967296:Int)+1;omega⟩,rfl,rfl,rfl,?_⟩
 refine Ai xs.length (λv=>v.1) (λj v=>v.2.1.length=xs.length/\v.2.1.take j=xs.take j) rfl ⟨by simp,by simp⟩ ?_
 rintro j ⟨i,ys,⟨⟩⟩ K hj hi ⟨h1,h2⟩ hK
 dsimp only at hi h1 h2⊢
 subst hi
 refine Br.dec (λhl=>?_) λhl=>?_
 ·have hl:j<xs.length:=by omega
  refine ⟨_,Ap hl,⟨by omega,by omega⟩,by rw [Int.toNat_natCast];omega,rfl,by rw [List.length_set],?_⟩
  rw [Ag (by omega),Int.toNat_natCast,Nat.zero_add]
  exact hK hl _ rfl ⟨by rw [List.length_set];exact h1,Kq hl h1 h2⟩
 ·have:j=xs.length:=by omega
  subst this
  rw [List.take_length,<-h1,List.take_length] at h2
  rw [List.drop_zero,List.take_length]
  exact h2
theorem kq:Sound Tryz.prog 18 Vr:=
 Sound.Co Bg Al mixed Tryz.func18 (by kernel_rfl) (by kernel_rfl) λx h=>Ac9 x.1 h
theorem XW (xs:List (List Int)) (h:Ew xs):fnW Cg (look [(18,Vr)]) aN Tryz.f49 (xs,()) (λ(z:List (List Int))=>z=xs):=by
 obtain ⟨h,h4⟩:=h
 refine Eq.mp (YW xs _) ?_
 refine ⟨⟨by omega,by show (xs.length:Int)<(4294967296:Int)+1;omega⟩,rfl,rfl,rfl,?_⟩
 refine Ai xs.length (λv=>v.1) (λj v=>v.2.1.length=xs.length/\v.2.1.take j=xs.take j) rfl ⟨by simp,by simp⟩ ?_
 rintro j ⟨i,ys,⟨⟩⟩ K hj hi ⟨h1,h2⟩ hK
 dsimp only at hi h1 h2⊢
 subst hi
 refine Br.dec (λhl=>?_) λhl=>?_
 ·have hl:j<xs.length:=by omega
  refine ⟨_,Ap hl,_,if_pos (h4 _ (List.getElem_mem hl)),⟨by omega,by omega⟩,by rw [Int.toNat_natCast];omega,rfl,by rw [List.length_set],?_⟩
  rw [Ag (by omega),Int.toNat_natCast,Nat.zero_add]
  exact hK hl _ rfl ⟨by rw [List.length_set];exact h1,Kq hl h1 h2⟩
 ·have:j=xs.length:=by omega
  subst this
  rw [List.take_length,<-h1,List.take_length] at h2
  rw [List.drop_zero,List.take_length]
  exact h2
theorem oS:Sound Tryz.prog 49 aN:=
 Sound.Co Bg (Ae kq Al) mixed Tryz.func49 (by kernel_rfl) (by kernel_rfl) λx h=>XW x.1 h
theorem GP (t:TT) (h:Kg t):fnW Cg (look [(18,Vr),(49,aN)]) Ul Tryz.f50 (t,()) (λ(z:TT)=>z=t):=by
 refine Eq.mp (IN t _) ?_
 exact ⟨_,if_pos h.1,_,if_pos h.2.1,_,if_pos h.2.2,rfl⟩
theorem qz:Sound Tryz.prog 50 Ul:=
 Sound.Co Bg (Ae kq (Ae oS Al)) mixed Tryz.func50 (by kernel_rfl) (by kernel_rfl) λx h=>GP x.1 h
theorem Ac2 (a b:List Int) (h:short a):fnW Cg (look []) Ao Tryz.f22 (a,b,()) (λ(z:Bool)=>z=At a b):=by
 refine Eq.mp (Acr a b _) ⟨λhl=>?_,λhl=>?_⟩
 ·simp only [bne_iff_ne,ne_eq,Int.natCast_inj] at hl
  exact (decide_eq_false λfK=>hl (by rw [fK])).symm
 ·simp only [bne_eq_false_iff_eq,Int.natCast_inj] at hl
  exact sP a b hl h
theorem ki:Sound Tryz.prog 22 Ao:=
 Sound.Co Bg Al mixed Tryz.func22 (by kernel_rfl) (by kernel_rfl) λx h=>Ac2 x.1 x.2.1 h
theorem XM (a b:List (List Int)) (h:Ew a):fnW Cg (look [(22,Ao)]) Np Tryz.f53 (a,b,()) (λ(z:Bool)=>z=Lj a b):=by
 obtain ⟨h,h4⟩:=h
 refine Eq.mp (YM a b _) ⟨λhl=>?_,λhl=>?_⟩
 ·simp only [bne_iff_ne,ne_eq,Int.natCast_inj] at hl
  exact (decide_eq_false λfK=>hl (by rw [fK])).symm
 ·simp only [bne_eq_false_iff_eq,Int.natCast_inj] at hl
  refine Ai a.length (λv=>v.1) (λj _=>a.take j=b.take j) rfl (by simp) ?_
  rintro j ⟨i,⟨⟩⟩ K hj hi hR hK
  dsimp only at hi⊢
  subst hi
  refine Br.dec (λFh=>?_) λFh=>?_
  ·have dJ:j<a.length:=by omega
   have po:j<b.length:=by omega
   refine ⟨_,Ap dJ,_,Ap po,_,if_pos (h4 _ (List.getElem_mem dJ)),⟨λhe=>?_,λhe=>?_⟩⟩
   ·refine (decide_eq_false λfK=>?_).symm
    subst fK
    simp [At] at he
   ·rw [Ag (by omega)]
    refine hK dJ _ rfl ?_
    simp only [At,Bool.not_eq_false',decide_eq_true_eq] at he
    rw [List.take_succ_eq_append_getElem dJ,List.take_succ_eq_append_getElem po,hR]
    exact congrArg (λx=>List.take j b++ [x]) he
  ·have tf:j=a.length:=by omega
   subst tf
   rw [List.take_length,hl,List.take_length] at hR
   exact (decide_eq_true hR).symm
theorem oF:Sound Tryz.prog 53 Np:=
 Sound.Co Bg (Ae ki Al) mixed Tryz.func53 (by kernel_rfl) (by kernel_rfl) λx h=>XM x.1 x.2.1 h
theorem GC (a b:TT) (h:Kg a):fnW Cg (look [(22,Ao),(53,Np)]) Ei Tryz.f54 (a,b,()) (λ(z:Bool)=>z=Js a b):=by
 refine Eq.mp (IA a b _) ?_
 refine ⟨_,if_pos h.1,⟨λh1=>?_,λh1=>?_⟩⟩
 ·have h1:(!At a.1 b.1)=true:=h1
  simp only [At] at h1
  unfold Js
  cases hd:decide (a.1=b.1)<;>simp_all
 ·have h1:(!At a.1 b.1)=false:=h1
  simp only [At] at h1
  refine ⟨_,if_pos h.2.1,⟨λh2=>?_,λh2=>?_⟩⟩
  ·have h2:(!Lj a.2.1 b.2.1)=true:=h2
   simp only [Lj] at h2
   unfold Js
   cases hd:decide (a.2.1=b.2.1)<;>simp_all
  ·have h2:(!Lj a.2.1 b.2.1)=false:=h2
   simp only [Lj] at h2
   refine ⟨_,if_pos h.2.2,⟨λh3=>?_,λh3=>?_⟩⟩
   ·have h3:(!At a.2.2.1 b.2.2.1)=true:=h3
    simp only [At] at h3
    unfold Js
    cases hd:decide (a.2.2.1=b.2.2.1)<;>simp_all
   ·have h3:(!At a.2.2.1 b.2.2.1)=false:=h3
    simp only [At] at h3
    unfold Js
    simp_all
theorem qk:Sound Tryz.prog 54 Ei:=
 Sound.Co Bg (Ae ki (Ae oF Al)) mixed Tryz.func54 (by kernel_rfl) (by kernel_rfl) λx h=>GC x.1 x.2.1 h
end Go.Proofs.YtfolipnappekaaaGreat

namespace Go.Proofs.YtfolipnappekaaaGreat
open Go.RowKit
def PL (n:Int) (xs:List Int) (k:Nat):Prop:= ∀j (h:j<xs.length),j<k->0<=xs[j]/\xs[j]<=n-1/\(0<j->xs[j-1]<xs[j])
def DL (n:Int) (xs:List Int) (k:Nat):Prop:= ∀j (h:j<xs.length),j<k->0<=xs[j]/\xs[j]<=n-1/\xs[j]∉xs.take j
noncomputable def dec (p:Prop):Bool:= @decide p (Classical.propDecidable p)
theorem Je {p:Prop} (h:p):true=dec p:=(@decide_eq_true p (Classical.propDecidable p) h).symm
theorem Bh {p:Prop} (h: ¬p):false=dec p:=(@decide_eq_false p (Classical.propDecidable p) h).symm
theorem Di {p:Prop} :dec p=true↔p:= @decide_eq_true_iff p (Classical.propDecidable p)
theorem PN {p:Prop} :dec p=false↔ ¬p:= @decide_eq_false_iff_not p (Classical.propDecidable p)
def XG (n:Int):Prop:=0<=n/\n<=4294967296
noncomputable def Sd (n:Int) (xs:List Int):Bool:=dec (0<xs.length/\PL n xs xs.length)
noncomputable abbrev Fo:Spec:=Co (.pair tI (.pair tL .unit)) .bool false true (λx=>XG x.1/\short x.2.1) (λx=>Sd x.1 x.2.1)
theorem qM (n:Int) (xs:List Int) (P:Bool->Prop):(∃(y3:Bool),Bw.fn ((↑xs.length:Int),(1:Int),n,())=some y3/\Br (!y3) (P false) (Bm (λ(v4:Int×PUnit) (k5:Int×PUnit->Prop)=>Br (decide (v4.1<(↑xs.length:Int))) (∃(y6:Int),idx xs v4.1=some y6/\ ∃(y7:Bool),Bw.fn (y6,(0:Int),IntKind.i64.wrap (n-(1:Int)),())=some y7/\Br (!y7) (P false) (Br (decide (v4.1>(0:Int))) (∃(y8:Int),idx xs v4.1=some y8/\ ∃(y9:Int),idx xs (IntKind.i64.wrap (v4.1-(1:Int)))=some y9/\Br (decide (y8<=y9)) (P false) (k5 (IntKind.i64.wrap (v4.1+(1:Int)),()))) (k5 (IntKind.i64.wrap (v4.1+(1:Int)),())))) (P true)) ((0:Int),PUnit.unit)))=fnW Cg (look [(88,Bw)]) Fo Tryz.f160 (n,xs,()) P:=by kernel_rfl
theorem yp (n:Int) (xs:List Int) (P:Bool->Prop):(Bm (λ(v3:Int×PUnit) (k4:Int×PUnit->Prop)=>Br (decide (v3.1<(↑xs.length:Int))) (∃(y5:Int),idx xs v3.1=some y5/\ ∃(y6:Bool),Uf.fn (n,y5,())=some y6/\Br (!y6) (P false) (Br (decide (v3.1>(0:Int))) (∃(y7:Int),idx xs (IntKind.i64.wrap (v3.1-(1:Int)))=some y7/\Br (decide (y7>=y5)) (P false) (k4 (IntKind.i64.wrap (v3.1+(1:Int)),()))) (k4 (IntKind.i64.wrap (v3.1+(1:Int)),())))) (P (decide ((↑xs.length:Int)>(0:Int))))) ((0:Int),PUnit.unit))=fnW Cg (look [(161,Uf)]) Fo Tryz.f159 (n,xs,()) P:=by kernel_rfl
theorem kV {n x:Int} (hn:XG n):dN n x=true↔0<=x/\x<=n-1:=by
 unfold dN XG at*
 rw [Cp (by omega) (by omega),decide_eq_true_iff]
theorem Cm {x a b:Int} :Ji x a b=true↔a<=x/\x<=b:=decide_eq_true_iff
theorem Dk {b:Bool} (h:(!b)=true): ¬b=true:=by cases b<;>simp_all
theorem De {b:Bool} (h:(!b)=false):b=true:=by cases b<;>simp_all
theorem AK {n:Int} {xs:List Int} (h:PL n xs xs.length): ∀j (hj:j<xs.length),(j:Int)<=xs[j]
 |0,hj=>(h 0 hj hj).1
 |j+1,hj=>by
  have h1:=AK h j (by omega)
  have h2:=(h (j+1) hj hj).2.2 (by omega)
  simp only [Nat.add_sub_cancel] at h2
  omega
theorem mf {n:Int} {xs:List Int} {j:Nat} (hl:j<xs.length) (h:PL n xs j) (h1:0<=xs[j]) (h2:xs[j]<=n-1) (h3:0<j->xs[j-1]<xs[j]):PL n xs (j+1):=by
 intro i hi jC
 by_cases e:i=j
 ·subst e;exact ⟨h1,h2,h3⟩
 ·exact h i hi (by omega)
theorem xy (n:Int) (xs:List Int) (h:XG n/\short xs):fnW Cg (look [(161,Uf)]) Fo Tryz.f159 (n,xs,()) (λ(z:Bool)=>z=Sd n xs):=by
 obtain ⟨hn,h⟩:=h
 unfold short at h
 refine Eq.mp (yp n xs _) ?_
 refine Ai xs.length (λv=>v.1) (λj _=>PL n xs j) rfl (λj _ hj=>absurd hj (Nat.not_lt_zero _)) ?_
 rintro j ⟨i,⟨⟩⟩ K hj hi hR hK
 dsimp only at hi⊢
 subst hi
 refine Br.dec (λhl=>?_) λhl=>?_
 ·have hl:j<xs.length:=by omega
  refine ⟨_,Ap hl,_,if_pos trivial,⟨λhp=>?_,λhp=>?_⟩⟩
  ·have hp:=Dk hp
   rw [kV hn] at hp
   exact Bh λhh=>hp ⟨(hh.2 j hl hl).1,(hh.2 j hl hl).2.1⟩
  ·have hp:=De hp
   rw [kV hn] at hp
   refine Br.dec (λh0=>?_) λh0=>?_
   ·have h0:0<j:=by omega
    rw [Cp (by omega) (by omega),show (j:Int)-1=((j-1:Nat):Int) by omega]
    refine ⟨_,Ap (by omega),Br.dec (λhg=>?_) λhg=>?_⟩
    ·exact Bh λhh=>by have:=(hh.2 j hl hl).2.2 h0;omega
    ·rw [Ag (by omega)]
     exact hK hl _ rfl (mf hl hR hp.1 hp.2 λ_=>by omega)
   ·have h0:j=0:=by omega
    rw [Ag (by omega)]
    exact hK hl _ rfl (mf hl hR hp.1 hp.2 λh=>by omega)
 ·have:j=xs.length:=by omega
  subst this
  by_cases h0:0<xs.length
  ·rw [decide_eq_true (show (xs.length:Int)>0 by omega)];exact Je ⟨h0,hR⟩
  ·rw [decide_eq_false (show ¬(xs.length:Int)>0 by omega)];exact Bh λhh=>h0 hh.1
theorem lP:Sound Tryz.prog 159 Fo:=
 Sound.Co Bg (Ae qn Al) mixed Tryz.func159 (by kernel_rfl) (by kernel_rfl) λx h=>xy x.1 x.2.1 h
theorem q8 (n:Int) (xs:List Int) (h:XG n/\short xs):fnW Cg (look [(88,Bw)]) Fo Tryz.f160 (n,xs,()) (λ(z:Bool)=>z=Sd n xs):=by
 obtain ⟨hn,h⟩:=h
 unfold short at h
 refine Eq.mp (qM n xs _) ⟨_,if_pos trivial,⟨λhp=>?_,λhp=>?_⟩⟩
 ·have hp:=Dk hp
  rw [Cm] at hp
  dsimp only at hp
  refine Bh λhh=>hp ⟨by omega,?_⟩
  have:=AK hh.2 (xs.length-1) (by omega)
  have:=(hh.2 (xs.length-1) (by omega) (by omega)).2.1
  omega
 ·have hp:=De hp
  rw [Cm] at hp
  dsimp only at hp
  refine Ai xs.length (λv=>v.1) (λj _=>PL n xs j) rfl (λj _ hj=>absurd hj (Nat.not_lt_zero _)) ?_
  rintro j ⟨i,⟨⟩⟩ K hj hi hR hK
  dsimp only at hi⊢
  subst hi
  refine Br.dec (λhl=>?_) λhl=>?_
  ·have hl:j<xs.length:=by omega
   refine ⟨_,Ap hl,_,if_pos trivial,⟨λhq=>?_,λhq=>?_⟩⟩
   ·have hq:=Dk hq
    unfold XG at hn
    rw [Cm,Cp (by omega) (by omega)] at hq
    exact Bh λhh=>hq ⟨(hh.2 j hl hl).1,(hh.2 j hl hl).2.1⟩
   ·have hq:=De hq
    unfold XG at hn
    rw [Cm,Cp (by omega) (by omega)] at hq
    refine Br.dec (λh0=>?_) λh0=>?_
    ·have h0:0<j:=by omega
     rw [Cp (by omega) (by omega),show (j:Int)-1=((j-1:Nat):Int) by omega]
     refine ⟨_,Ap hl,_,Ap (by omega),Br.dec (λhg=>?_) λhg=>?_⟩
     ·exact Bh λhh=>by have:=(hh.2 j hl hl).2.2 h0;omega
     ·rw [Ag (by omega)]
      exact hK hl _ rfl (mf hl hR hq.1 hq.2 λ_=>by omega)
    ·rw [Ag (by omega)]
     exact hK hl _ rfl (mf hl hR hq.1 hq.2 λh=>by omega)
  ·have:j=xs.length:=by omega
   subst this
   exact Je ⟨by omega,hR⟩
theorem iU:Sound Tryz.prog 160 Fo:=
 Sound.Co Bg (Ae Xx Al) mixed Tryz.func160 (by kernel_rfl) (by kernel_rfl) λx h=>q8 x.1 x.2.1 h
theorem PQ {n:Int} {xs:List Int} {j:Nat} (hl:j<xs.length) (h:DL n xs j) (h1:0<=xs[j]) (h2:xs[j]<=n-1) (h3:xs[j]∉xs.take j):DL n xs (j+1):=by
 intro i hi jC
 by_cases e:i=j
 ·subst e;exact ⟨h1,h2,h3⟩
 ·exact h i hi (by omega)
theorem AZ {xs:List Int} (h:short xs) (j:Nat):short (xs.take j):=by
 unfold short at*
 rw [List.length_take]
 omega
end Go.Proofs.YtfolipnappekaaaGreat

namespace Go.Proofs.YtfolipnappekaaaGreat
open Go.RowKit
noncomputable abbrev Qs:Spec:=Co (.pair dX (.pair dX (.pair (.clo 154 .unit) .unit))) .bool false true (λx=>Ew x.1) (λx=>Lj x.1 x.2.1)
theorem Acw (a b:List Int) (P:Bool->Prop):(∃(y3:Bool),Ao.fn (a,b,())=some y3/\P y3)=fnW Cg (look [(139,Ao)]) Ao Tryz.f154 (a,b,()) P:=by kernel_rfl
theorem BY (a b:List (List Int)) (c:Unit) (P:Bool->Prop):(Br ((↑a.length:Int) !=(↑b.length:Int)) (P false) (Bm (λ(v4:Int×PUnit) (k5:Int×PUnit->Prop)=>Br (decide (v4.1<(↑a.length:Int))) (∃(y6:List Int),idx a v4.1=some y6/\ ∃(y7:List Int),idx b v4.1=some y7/\ ∃(y8:Bool),Ao.fn (y6,y7,())=some y8/\Br (!y8) (P false) (k5 (IntKind.i64.wrap (v4.1+(1:Int)),()))) (P true)) ((0:Int),PUnit.unit)))=fnW Cg (look [(154,Ao)]) Qs Tryz.f153 (a,b,c,()) P:=by kernel_rfl
theorem lY (a b:List (List Int)) (P:Bool->Prop):(∃(y3:Bool),Qs.fn (a,b,(),())=some y3/\P y3)=fnW Cg (look [(153,Qs)]) Np Tryz.f140 (a,b,()) P:=by kernel_rfl
theorem lX (a b:List Int×List (List Int)×List Int×Unit) (P:Bool->Prop):(∃(y3:Bool),Ao.fn (a.1,b.1,())=some y3/\Br y3 (∃(y4:Bool),Np.fn (a.2.1,b.2.1,())=some y4/\Br y4 (∃(y5:Bool),Ao.fn (a.2.2.1,b.2.2.1,())=some y5/\P y5) (P false)) (P false))=fnW Cg (look [(139,Ao),(140,Np)]) Ei Tryz.f114 (a,b,()) P:=by kernel_rfl
abbrev Zn:Type:=Int×List Int×List (List Int)×List Int×List Int×List (List Int)×List Int×PUnit
theorem lZ (a b:List Int×List (List Int)×List Int×Unit) (P:Bool->Prop):(∃(y3:Bool),Ao.fn (a.1,b.1,())=some y3/\Br (!y3) (P false) (∃(y4:Bool),Ao.fn (a.2.2.1,b.2.2.1,())=some y4/\Br (!y4) (P false) (Br ((↑a.2.1.length:Int) !=(↑b.2.1.length:Int)) (P false) (Bm (λ(v5:Zn) (k6:Zn->Prop)=>Br (decide (v5.1<(↑v5.2.2.1.length:Int))) (∃(y7:List Int),idx v5.2.2.1 v5.1=some y7/\ ∃(y8:List Int),idx v5.2.2.2.2.2.1 v5.1=some y8/\ ∃(y9:Bool),Ao.fn (y7,y8,())=some y9/\Br (!y9) (P false) (k6 (IntKind.i64.wrap (v5.1+(1:Int)),v5.2.1,v5.2.2.1,v5.2.2.2.1,v5.2.2.2.2.1,v5.2.2.2.2.2.1,v5.2.2.2.2.2.2.1,()))) (P true)) ((0:Int),a.1,a.2.1,a.2.2.1,b.1,b.2.1,b.2.2.1,PUnit.unit)))))=fnW Cg (look [(101,Ao)]) Ei Tryz.f126 (a,b,()) P:=by kernel_rfl
theorem Ac6 (a b:List Int) (h:short a):fnW Cg (look [(139,Ao)]) Ao Tryz.f154 (a,b,()) (λ(z:Bool)=>z=At a b):=by
 refine Eq.mp (Acw a b _) ⟨_,if_pos h,rfl⟩
theorem HM:Sound Tryz.prog 154 Ao:=
 Sound.Co Bg (Ae Xd Al) mixed Tryz.func154 (by kernel_rfl) (by kernel_rfl) λx h=>Ac6 x.1 x.2.1 h
theorem zY (a b:List (List Int)) (c:Unit) (h:Ew a):fnW Cg (look [(154,Ao)]) Qs Tryz.f153 (a,b,c,()) (λ(z:Bool)=>z=Lj a b):=by
 obtain ⟨h,h4⟩:=h
 refine Eq.mp (BY a b c _) ⟨λhl=>?_,λhl=>?_⟩
 ·simp only [bne_iff_ne,ne_eq,Int.natCast_inj] at hl
  exact (decide_eq_false λfK=>hl (by rw [fK])).symm
 ·simp only [bne_eq_false_iff_eq,Int.natCast_inj] at hl
  refine Ai a.length (λv=>v.1) (λj _=>a.take j=b.take j) rfl (by simp) ?_
  rintro j ⟨i,⟨⟩⟩ K hj hi hR hK
  dsimp only at hi⊢
  subst hi
  refine Br.dec (λFh=>?_) λFh=>?_
  ·have dJ:j<a.length:=by omega
   have po:j<b.length:=by omega
   refine ⟨_,Ap dJ,_,Ap po,_,if_pos (h4 _ (List.getElem_mem dJ)),⟨λhe=>?_,λhe=>?_⟩⟩
   ·refine (decide_eq_false λfK=>?_).symm
    subst fK
    simp [At] at he
   ·rw [Ag (by omega)]
    refine hK dJ _ rfl ?_
    simp only [At,Bool.not_eq_false',decide_eq_true_eq] at he
    rw [List.take_succ_eq_append_getElem dJ,List.take_succ_eq_append_getElem po,hR]
    exact congrArg (λx=>List.take j b++ [x]) he
  ·have tf:j=a.length:=by omega
   subst tf
   rw [List.take_length,hl,List.take_length] at hR
   exact (decide_eq_true hR).symm
theorem oE:Sound Tryz.prog 153 Qs:=
 Sound.Co Bg (Ae HM Al) mixed Tryz.func153 (by kernel_rfl) (by kernel_rfl) λx h=>zY x.1 x.2.1 x.2.2.1 h
theorem lG (a b:List (List Int)) (h:Ew a):fnW Cg (look [(153,Qs)]) Np Tryz.f140 (a,b,()) (λ(z:Bool)=>z=Lj a b):=by
 refine Eq.mp (lY a b _) ⟨_,if_pos h,rfl⟩
theorem eo:Sound Tryz.prog 140 Np:=
 Sound.Co Bg (Ae oE Al) mixed Tryz.func140 (by kernel_rfl) (by kernel_rfl) λx h=>lG x.1 x.2.1 h
theorem lF (a b:TT) (h:Kg a):fnW Cg (look [(139,Ao),(140,Np)]) Ei Tryz.f114 (a,b,()) (λ(z:Bool)=>z=Js a b):=by
 refine Eq.mp (lX a b _) ⟨_,if_pos h.1,⟨λh1=>⟨_,if_pos h.2.1,⟨λh2=>⟨_,if_pos h.2.2,?_⟩,λh2=>?_⟩⟩,λh1=>?_⟩⟩
 ·have h1:At a.1 b.1=true:=h1
  have h2:Lj a.2.1 b.2.1=true:=h2
  simp only [At,Lj] at h1 h2
  show At a.2.2.1 b.2.2.1=_
  unfold Js At
  rw [h1,h2];rfl
 ·have h1:At a.1 b.1=true:=h1
  have h2:Lj a.2.1 b.2.1=false:=h2
  simp only [At,Lj] at h1 h2
  unfold Js
  rw [h1,h2];rfl
 ·have h1:At a.1 b.1=false:=h1
  simp only [At] at h1
  unfold Js
  rw [h1];rfl
theorem ek:Sound Tryz.prog 114 Ei:=
 Sound.Co Bg (Ae Xd (Ae eo Al)) mixed Tryz.func114 (by kernel_rfl) (by kernel_rfl) λx h=>lF x.1 x.2.1 h
theorem lH (a b:TT) (h:Kg a):fnW Cg (look [(101,Ao)]) Ei Tryz.f126 (a,b,()) (λ(z:Bool)=>z=Js a b):=by
 obtain ⟨gB,⟨pt,hs4⟩,hs3⟩:=h
 refine Eq.mp (lZ a b _) ⟨_,if_pos gB,⟨λh1=>?_,λh1=>⟨_,if_pos hs3,⟨λh2=>?_,λh2=>⟨λh3=>?_,λh3=>?_⟩⟩⟩⟩⟩
 ·have h1:(!At a.1 b.1)=true:=h1
  simp only [At,Bool.not_eq_true'] at h1
  show _=Js a b
  unfold Js
  rw [h1];rfl
 ·have h2:(!At a.2.2.1 b.2.2.1)=true:=h2
  simp only [At,Bool.not_eq_true'] at h2
  show _=Js a b
  unfold Js
  rw [h2];simp
 ·simp only [bne_iff_ne,ne_eq,Int.natCast_inj] at h3
  show _=Js a b
  unfold Js
  rw [decide_eq_false (show ¬a.2.1=b.2.1 from λfK=>h3 (by rw [fK]))];simp
 ·simp only [bne_eq_false_iff_eq,Int.natCast_inj] at h3
  have h1:(!At a.1 b.1)=false:=h1
  have h2:(!At a.2.2.1 b.2.2.1)=false:=h2
  simp only [At,Bool.not_eq_false',decide_eq_true_eq] at h1 h2
  have hE:Js a b=decide (a.2.1=b.2.1):=by
   unfold Js
   rw [decide_eq_true h1,decide_eq_true h2];simp
  refine Ai a.2.1.length (λv=>v.1) (λj v=>v.2=(a.1,a.2.1,a.2.2.1,b.1,b.2.1,b.2.2.1,())/\a.2.1.take j=b.2.1.take j) rfl ⟨rfl,by simp⟩ ?_
  rintro j ⟨i,v⟩ K hj hi ⟨hv,hR⟩ hK
  dsimp only at hi hv⊢
  subst hi hv
  dsimp only
  refine Br.dec (λFh=>?_) λFh=>?_
  ·have dJ:j<a.2.1.length:=by omega
   have po:j<b.2.1.length:=by omega
   refine ⟨_,Ap dJ,_,Ap po,_,if_pos (hs4 _ (List.getElem_mem dJ)),⟨λhe=>?_,λhe=>?_⟩⟩
   ·show _=Js a b
    rw [hE]
    refine (decide_eq_false λfK=>?_).symm
    simp [fK,At] at he
   ·rw [Ag (by omega)]
    refine hK dJ _ rfl ⟨rfl,?_⟩
    simp only [At,Bool.not_eq_false',decide_eq_true_eq] at he
    rw [List.take_succ_eq_append_getElem dJ,List.take_succ_eq_append_getElem po,hR]
    exact congrArg (λx=>List.take j b.2.1++ [x]) he
  ·have tf:j=a.2.1.length:=by omega
   subst tf
   rw [List.take_length,h3,List.take_length] at hR
   show _=Js a b
   rw [hE]
   exact (decide_eq_true hR).symm
theorem eu:Sound Tryz.prog 126 Ei:=
 Sound.Co Bg (Ae Sy Al) mixed Tryz.func126 (by kernel_rfl) (by kernel_rfl) λx h=>lH x.1 x.2.1 h
theorem nI {t:TT} {room:Int} (h:roomy room) (h2: ¬Ma t room<0):roomy (Ma t room):=by
 have hm: ¬((-1:Int)<0)->False:= λh=>h (by decide)
 unfold Ma at h2⊢
 split
 ·rename_i h3;rw [if_pos h3] at h2;exact (hm h2).elim
 ·rename_i h3;rw [if_neg h3] at h2
  split
  ·rename_i h4;rw [if_pos h4] at h2;exact (hm h2).elim
  ·rename_i h4;rw [if_neg h4] at h2
   split
   ·rename_i h5;rw [if_pos h5] at h2;exact (hm h2).elim
   ·rename_i h5
    exact Ub (kX (Ub h h3) h4) h5
theorem xI:roomy 1048576:=⟨by decide,by decide⟩
end Go.Proofs.YtfolipnappekaaaGreat

namespace Go.Proofs.YtfolipnappekaaaGreat
open Go.RowKit
abbrev PP:Type:=Int×ByteArray×List (List Int)×Unit
noncomputable def Ej (p:List Int):Bool:=dec (1<=p.length/\p.length<=20/\DL p.length p p.length)
noncomputable def Cw (n:Int) (p:List Int):Bool:=dec ((p.length:Int)=n/\Ej p=true)
noncomputable def Ll (n:Int) (g:List (List Int)):Bool:=dec ((1<=n/\n<=20)/\g.length<=8/\ ∀p∈g,Cw n p=true)
def Dt {α:Type} (P:α->Bool):List α->Int->Int
 | [],_=> -1
 |y::r,i=>if P y=true then i else Dt P r (i+1)
abbrev tG1:Ty:= .clo 136 (.pair (.ptr tI) .unit)
def sy (s:ByteArray) (i:Nat):Prop:= ∃c:UInt8,s[i]?=some c/\65<=c.toNat/\c.toNat<=90/\ ∀k,k<i->s[k]?≠some c
noncomputable def iA (s:ByteArray) (i:Int):Bool:=dec (sy s i.toNat)
noncomputable def Yy (s:ByteArray):Bool:=dec ((1<=s.size/\s.size<=8)/\ ∀j,j<s.size->sy s j)
noncomputable def Bt (p:PP):Bool:=dec (Ll p.1 p.2.2.1=true/\Yy p.2.1=true/\p.2.1.size=p.2.2.1.length)
def Cl (p:PP):Prop:=p.2.1.size<=4294967296/\Ew p.2.2.1
noncomputable abbrev Qv:Spec:=Co (.pair tL .unit) tI false true (λ_=>True) (λx=>(List.length x.1:Int))
noncomputable abbrev Du:Spec:=Co (.pair tL .unit) .bool false true (λx=>short x.1) (λx=>Ej x.1)
noncomputable abbrev Hu:Spec:=Co (.pair tI (.pair dX .unit)) .bool false true (λx=>Ew x.2.1) (λx=>Ll x.1 x.2.1)
noncomputable abbrev dT:Spec:=Co (.pair tL (.pair (.ptr tI) .unit)) .bool false true (λx=>short x.1) (λx=>!Cw x.2.1 x.1)
noncomputable abbrev sk:Spec:=Co (.pair dX (.pair tG1 .unit)) tI false true (λx=>Ew x.1) (λx=>Dt (λp=>!Cw x.2.1.1 p) x.1 0)
noncomputable abbrev si:Spec:=Co (.pair dX (.pair tG1 .unit)) .bool false true (λx=>Ew x.1) (λx=>List.any x.1 (λp=>!Cw x.2.1.1 p))
noncomputable abbrev Zh:Spec:=Co (.pair .str (.pair tI .unit)) .bool false true (λx=>0<=x.2.1/\x.2.1<x.1.size/\x.1.size<=4294967296) (λx=>iA x.1 x.2.1)
noncomputable abbrev Ue:Spec:=Co (.pair .str .unit) .bool false true (λx=>x.1.size<=4294967296) (λx=>Yy x.1)
noncomputable abbrev Dv:Spec:=Co (.pair Dc .unit) .bool false true (λx=>Cl x.1) (λx=>Bt x.1)
def nH (p:PP) (room:Int):Int:=if room-p.2.1.size<0 then-1 else if Mm p.2.2.1 (room-p.2.1.size)<0 then-1 else Mm p.2.2.1 (room-p.2.1.size)
def kT (a b:PP):Bool:=decide (a.1=b.1)&&(decide (a.2.1=b.2.1)&&decide (a.2.2.1=b.2.2.1))
noncomputable abbrev sl:Spec:=Co (.pair Dc (.pair tI .unit)) tI false true (λx=>Cl x.1/\roomy x.2.1) (λx=>nH x.1 x.2.1)
noncomputable abbrev lb:Spec:=Co (.pair Dc .unit) Dc false true (λx=>Cl x.1) (λx=>x.1)
noncomputable abbrev sj:Spec:=Co (.pair Dc (.pair Dc .unit)) .bool false true (λx=>Cl x.1) (λx=>kT x.1 x.2.1)
noncomputable abbrev Nq:Spec:=Co (.pair Ha (.pair tL .unit)) tI false true (λx=>Kg x.1/\short x.2.1) (λx=>Dt (λp=>decide (p=x.2.1)) x.1.2.1 0)
theorem YQ (xs:List Int) (P:Int->Prop):(P (↑xs.length:Int))=fnW Cg (look []) Qv Tryz.f119 (xs,()) P:=by kernel_rfl
theorem ve (p:List Int) (P:Bool->Prop):(∃(y2:Bool),Bw.fn ((↑p.length:Int),(1:Int),(20:Int),())=some y2/\Br (!y2) (P false) (Bm (λ(v3:Int×PUnit) (k4:Int×PUnit->Prop)=>Br (decide (v3.1<(↑p.length:Int))) (∃(y5:Int),idx p v3.1=some y5/\ ∃(y6:Bool),Bw.fn (y5,(0:Int),IntKind.i64.wrap ((↑p.length:Int)-(1:Int)),())=some y6/\Br (!y6) (P false) (((0:Int)<=(0:Int)/\(0:Int)<=v3.1/\v3.1<=(↑p.length:Int))/\ ∃(y7:Int),idx p v3.1=some y7/\ ∃(y8:Bool),Kp.fn (List.drop (Int.toNat (0:Int)) (List.take v3.1.toNat p),y7,())=some y8/\Br y8 (P false) (k4 (IntKind.i64.wrap (v3.1+(1:Int)),())))) (P true)) ((0:Int),PUnit.unit)))=fnW Cg (look [(88,Bw),(100,Kp)]) Du Tryz.f75 (p,()) P:=by kernel_rfl
theorem uY (p:List Int) (P:Bool->Prop):(∃(y2:Int),Qv.fn (p,())=some y2/\ ∃(y3:Bool),Bw.fn (y2,(1:Int),(20:Int),())=some y3/\Br (!y3) (P false) (Bm (λ(v4:Int×Int×PUnit) (k5:Int×Int×PUnit->Prop)=>Br (decide (v4.2.1<(↑p.length:Int))) (∃(y6:Int),idx p v4.2.1=some y6/\ ∃(y7:Int),Qv.fn (p,())=some y7/\ ∃(y8:Bool),Bw.fn (y6,(0:Int),IntKind.i64.wrap (y7-(1:Int)),())=some y8/\Br (!y8) (P false) (¬y6<(0:Int)/\k5 (IntKind.i64.wrap (↑(BitVec.ofInt IntKind.i64.bits v4.1|||BitVec.ofInt IntKind.i64.bits (IntKind.i64.wrap ((1:Int)*(2:Int)^min y6.toNat IntKind.i64.bits))).toNat:Int),IntKind.i64.wrap (v4.2.1+(1:Int)),()))) (¬(↑p.length:Int)<(0:Int)/\P (v4.1==IntKind.i64.wrap (IntKind.i64.wrap ((1:Int)*(2:Int)^min (↑p.length:Int).toNat IntKind.i64.bits)-(1:Int))))) ((0:Int),(0:Int),PUnit.unit)))=fnW Cg (look [(90,Bw),(119,Qv)]) Du Tryz.f134 (p,()) P:=by kernel_rfl
theorem vd (n:Int) (g:List (List Int)) (P:Bool->Prop):(∃(y3:Bool),Bw.fn (n,(1:Int),(20:Int),())=some y3/\Br (!y3) (P false) (Br (decide ((↑g.length:Int)>(8:Int))) (P false) (Bm (λ(v4:Int×PUnit) (k5:Int×PUnit->Prop)=>Br (decide (v4.1<(↑g.length:Int))) (∃(y6:List Int),idx g v4.1=some y6/\Br ((↑y6.length:Int) !=n) (P false) (∃(y7:List Int),idx g v4.1=some y7/\ ∃(y8:Bool),Du.fn (y7,())=some y8/\Br (!y8) (P false) (k5 (IntKind.i64.wrap (v4.1+(1:Int)),())))) (P true)) ((0:Int),PUnit.unit))))=fnW Cg (look [(88,Bw),(75,Du)]) Hu Tryz.f123 (n,g,()) P:=by kernel_rfl
theorem RR (p:List Int) (n:Int) (P:Bool->Prop):(∃(y3:Int),Qv.fn (p,())=some y3/\Br (y3 !=n) (P true) (∃(y4:Bool),Du.fn (p,())=some y4/\P !y4))=fnW Cg (look [(119,Qv),(134,Du)]) dT Tryz.f136 (p,n,()) P:=by kernel_rfl
theorem Acv (g:List (List Int)) (n:Int×Unit) (P:Int->Prop):(Bm (λ(v3:Int×PUnit) (k4:Int×PUnit->Prop)=>Br (decide (v3.1<(↑g.length:Int))) (∃(y5:List Int),idx g v3.1=some y5/\ ∃(y6:Bool),dT.fn (y5,n.1,())=some y6/\Br y6 (P v3.1) (k4 (IntKind.i64.wrap (v3.1+(1:Int)),()))) (P (-1:Int))) ((0:Int),PUnit.unit))=fnW Cg (look [(136,dT)]) sk Tryz.f150 (g,n,()) P:=by kernel_rfl
theorem Acq (g:List (List Int)) (n:Int×Unit) (P:Bool->Prop):(∃(y3:Int),sk.fn (g,n,())=some y3/\P (decide (y3>=(0:Int))))=fnW Cg (look [(150,sk)]) si Tryz.f135 (g,n,()) P:=by kernel_rfl
theorem uX (n:Int) (g:List (List Int)) (P:Bool->Prop):(∃(y3:Bool),Bw.fn (n,(1:Int),(20:Int),())=some y3/\Br y3 (Br (decide ((↑g.length:Int)<=(8:Int))) (∃(y4:Bool),si.fn (g,(n,()),())=some y4/\P !y4) (P false)) (P false))=fnW Cg (look [(90,Bw),(135,si)]) Hu Tryz.f110 (n,g,()) P:=by kernel_rfl
theorem OH (s:ByteArray) (i:Int) (P:Bool->Prop):((0:Int)<=i/\ ∃(y3:UInt8),s[i.toNat]?=some y3/\Br (decide ((↑y3.toNat:Int)<(65:Int))) (P false) ((0:Int)<=i/\ ∃(y4:UInt8),s[i.toNat]?=some y4/\Br (decide ((↑y4.toNat:Int)>(90:Int))) (P false) (Bm (λ(v5:Int×PUnit) (k6:Int×PUnit->Prop)=>Br (decide (v5.1<i)) ((0:Int)<=v5.1/\ ∃(y7:UInt8),s[v5.1.toNat]?=some y7/\(0:Int)<=i/\ ∃(y8:UInt8),s[i.toNat]?=some y8/\Br ((↑y7.toNat:Int)==(↑y8.toNat:Int)) (P false) (k6 (IntKind.i64.wrap (v5.1+(1:Int)),()))) (P true)) ((0:Int),PUnit.unit))))=fnW Cg (look []) Zh Tryz.f124 (s,i,()) P:=by kernel_rfl
theorem IC (s:ByteArray) (P:Bool->Prop):(Bm (λ(v2:Int×PUnit) (k3:Int×PUnit->Prop)=>Br (decide (v2.1<(↑s.size:Int))) ((0:Int)<=v2.1/\ ∃(y4:UInt8),s[v2.1.toNat]?=some y4/\ ∃(y5:Bool),Bw.fn (IntKind.i64.wrap (↑y4.toNat:Int),(65:Int),(90:Int),())=some y5/\Br (!y5) (P false) (Bm (λ(v6:Int×PUnit) (k7:Int×PUnit->Prop)=>Br (decide (v6.1<v2.1)) ((0:Int)<=v6.1/\ ∃(y8:UInt8),s[v6.1.toNat]?=some y8/\(0:Int)<=v2.1/\ ∃(y9:UInt8),s[v2.1.toNat]?=some y9/\Br ((↑y8.toNat:Int)==(↑y9.toNat:Int)) (P false) (k7 (IntKind.i64.wrap (v6.1+(1:Int)),()))) (k3 (IntKind.i64.wrap (v2.1+(1:Int)),()))) ((0:Int),PUnit.unit))) (∃(y4:Bool),Bw.fn ((↑s.size:Int),(1:Int),(8:Int),())=some y4/\P y4)) ((0:Int),PUnit.unit))=fnW Cg (look [(90,Bw)]) Ue Tryz.f111 (s,()) P:=by kernel_rfl
abbrev fb:Type:=Int×Int×ByteArray×List (List Int)×PUnit
theorem vf (p:Int×ByteArray×List (List Int)×Unit) (P:Bool->Prop):(Br ((↑p.2.2.1.length:Int)==(0:Int)) (P false) (Br ((↑p.2.1.size:Int) !=(↑p.2.2.1.length:Int)) (P false) (∃(y2:Bool),Hu.fn (p.1,p.2.2.1,())=some y2/\Br (!y2) (P false) (Bm (λ(v3:fb) (k4:fb->Prop)=>Br (decide (v3.1<(↑v3.2.2.1.size:Int))) (∃(y5:Bool),Zh.fn (v3.2.2.1,v3.1,())=some y5/\Br (!y5) (P false) (k4 (IntKind.i64.wrap (v3.1+(1:Int)),v3.2.1,v3.2.2.1,v3.2.2.2.1,()))) (P true)) ((0:Int),p.1,p.2.1,p.2.2.1,PUnit.unit)))))=fnW Cg (look [(123,Hu),(124,Zh)]) Dv Tryz.f93 (p,()) P:=by kernel_rfl
theorem uZ (p:Int×ByteArray×List (List Int)×Unit) (P:Bool->Prop):(∃(y2:Bool),Hu.fn (p.1,p.2.2.1,())=some y2/\Br y2 (∃(y3:Bool),Ue.fn (p.2.1,())=some y3/\Br y3 (P ((↑p.2.1.size:Int)==(↑p.2.2.1.length:Int))) (P false)) (P false))=fnW Cg (look [(110,Hu),(111,Ue)]) Dv Tryz.f84 (p,()) P:=by kernel_rfl
theorem Acy (p:Int×ByteArray×List (List Int)×Unit) (room:Int) (P:Int->Prop):(Br (decide (IntKind.i64.wrap (room-(↑p.2.1.size:Int))<(0:Int))) (P (-1:Int)) (∃(y3:Int),aM.fn (p.2.2.1,IntKind.i64.wrap (room-(↑p.2.1.size:Int)),())=some y3/\Br (decide (y3<(0:Int))) (P (-1:Int)) (P y3)))=fnW Cg (look [(45,aM)]) sl Tryz.f13 (p,room,()) P:=by kernel_rfl
theorem Ad0 (p:Int×ByteArray×List (List Int)×Unit) (P:(Int×ByteArray×List (List Int)×Unit)->Prop):(∃(y2:List (List Int)),aN.fn (p.2.2.1,())=some y2/\P (p.1,p.2.1,y2,()))=fnW Cg (look [(49,aN)]) lb Tryz.f16 (p,()) P:=by kernel_rfl
theorem Acs (a b:Int×ByteArray×List (List Int)×Unit) (P:Bool->Prop):(Br (a.1 !=b.1) (P false) (Br (!a.2.1.toList==b.2.1.toList) (P false) (∃(y3:Bool),Np.fn (a.2.2.1,b.2.2.1,())=some y3/\Br (!y3) (P false) (P true))))=fnW Cg (look [(53,Np)]) sj Tryz.f20 (a,b,()) P:=by kernel_rfl
abbrev lj:Type:=Int×List Int×List (List Int)×List Int×PUnit
theorem CI (t:List Int×List (List Int)×List Int×Unit) (xs:List Int) (P:Int->Prop):(Bm (λ(v3:lj) (k4:lj->Prop)=>Br (decide (v3.1<(↑v3.2.2.1.length:Int))) (∃(y5:List Int),idx v3.2.2.1 v3.1=some y5/\ ∃(y6:Bool),Ao.fn (y5,xs,())=some y6/\Br y6 (P v3.1) (k4 (IntKind.i64.wrap (v3.1+(1:Int)),v3.2.1,v3.2.2.1,v3.2.2.2.1,()))) (P (-1:Int))) ((0:Int),t.1,t.2.1,t.2.2.1,PUnit.unit))=fnW Cg (look [(101,Ao)]) Nq Tryz.f77 (t,xs,()) P:=by kernel_rfl
theorem XQ (xs:List Int) (_:True):fnW Cg (look []) Qv Tryz.f119 (xs,()) (λ(z:Int)=>z=(xs.length:Int)):=Eq.mp (YQ xs _) rfl
theorem gm:Sound Tryz.prog 119 Qv:=
 Sound.Co Bg Al mixed Tryz.func119 (by kernel_rfl) (by kernel_rfl) λx h=>XQ x.1 h
theorem uK {α:Type} [DecidableEq α]: ∀(l m:List α),l.Nodup->(∀x∈l,x∈m)->l.length<=m.length
 | [],m,_,_=>Nat.zero_le _
 |a::l,m,hn,hs=>by
  have ha:a∈m:=hs a (List.mem_cons_self ..)
  have hn:=List.nodup_cons.1 hn
  have:=uK l (m.erase a) hn.2 λx hx=>(List.mem_erase_of_ne (λ(e:x=a)=>hn.1 (by rw [<-e];exact hx))).2 (hs x (List.mem_cons_of_mem _ hx))
  rw [List.length_erase_of_mem ha] at this
  have:0<m.length:=List.length_pos_of_mem ha
  simp only [List.length_cons]
  omega
def upto (n:Nat):List Int:=(List.range n).map Int.ofNat
theorem BS (n:Nat):(upto n).Nodup:=by
 unfold upto
 exact List.Pairwise.map _ (λa b fK e=>fK (Int.ofNat.inj e)) List.nodup_range
theorem Se {n:Nat} {x:Int} :x∈upto n↔0<=x/\x<n:=by
 unfold upto
 simp only [List.mem_map,List.mem_range]
 constructor
 ·rintro ⟨a,ha,rfl⟩;exact ⟨Int.natCast_nonneg _,Int.ofNat_lt.2 ha⟩
 ·rintro ⟨h1,h2⟩;exact ⟨x.toNat,by omega,by simp only [Int.ofNat_eq_natCast];omega⟩
theorem j7 (n:Nat):(upto n).length=n:=by simp [upto]
theorem cH {xs:List Int} (h: ∀j (hj:j<xs.length),xs[j]∉xs.take j):xs.Nodup:=by
 refine List.pairwise_iff_getElem.2 λi j hi hj jC e=>h j hj ?_
 rw [<-e]
 exact List.mem_take_iff_getElem.2 ⟨i,by omega,rfl⟩
theorem p7 {xs:List Int} (h:xs.Nodup): ∀j (hj:j<xs.length),xs[j]∉xs.take j:=by
 intro j hj hm
 obtain ⟨i,hi,e⟩:=List.mem_take_iff_getElem.1 hm
 exact List.pairwise_iff_getElem.1 h i j (by omega) hj (by omega) e
theorem Xm {xs:List Int} (h: ∀x∈xs,0<=x/\x<xs.length):(∀k:Nat,k<xs.length->(k:Int)∈xs)↔ ∀j (hj:j<xs.length),xs[j]∉xs.take j:=by
 constructor
 ·intro ha j hj hm
  have h1:=uK (upto xs.length) (xs.take j++xs.drop (j+1)) (BS _) λx hx=>by
   obtain ⟨h1,h2⟩:=Se.1 hx
   have hx:=ha x.toNat (by omega)
   rw [show ((x.toNat:Nat):Int)=x by omega] at hx
   rw [<-List.take_append_drop j xs,List.mem_append,List.drop_eq_getElem_cons hj,List.mem_cons] at hx
   rcases hx with hx|rfl|hx
   ·exact List.mem_append_left _ hx
   ·exact List.mem_append_left _ hm
   ·exact List.mem_append_right _ hx
  rw [j7,List.length_append,List.length_take,List.length_drop] at h1
  omega
 ·intro hn k hk
  refine Classical.byContradiction λhc=>?_
  have h1:=uK xs ((upto xs.length).erase (k:Int)) (cH hn) λx hx=>by
   refine (List.mem_erase_of_ne λ(e:x=(k:Int))=>hc (by rw [<-e];exact hx)).2 (Se.2 (h x hx))
  rw [List.length_erase_of_mem (Se.2 ⟨by omega,by omega⟩),j7] at h1
  omega
def mask (xs:List Int):Nat:=xs.foldl (λm x=>m|||2^x.toNat) 0
theorem FX (xs:List Int) (x:Int):mask (xs++ [x])=mask xs|||2^x.toNat:=by simp [mask]
theorem tQ (xs:List Int) (k:Nat): ∀a:Nat,(xs.foldl (λm x=>m|||2^x.toNat) a).testBit k=(a.testBit k||xs.any λx=>decide (x.toNat=k)):=by
 induction xs with
 |nil=>simp
 |cons x xs ih=>
  intro a
  rw [List.foldl_cons,ih,Nat.testBit_or,Nat.testBit_two_pow,List.any_cons,Bool.or_assoc]
theorem nJ (xs:List Int) (k:Nat):(mask xs).testBit k=xs.any λx=>decide (x.toNat=k):=by
 unfold mask
 rw [tQ,Nat.zero_testBit,Bool.false_or]
theorem QS {xs:List Int} {n:Nat} (h: ∀x∈xs,x.toNat<n):mask xs<2^n:=by
 refine Nat.lt_pow_two_of_testBit _ λk hk=>?_
 rw [nJ]
 refine Bool.eq_false_iff.2 λht=>?_
 obtain ⟨x,hx,he⟩:=List.any_eq_true.1 ht
 have:=h x hx
 have:=of_decide_eq_true he
 omega
theorem rS {xs:List Int} (h: ∀x∈xs,0<=x/\x<xs.length):mask xs=2^xs.length-1↔ ∀k:Nat,k<xs.length->(k:Int)∈xs:=by
 constructor
 ·intro e k hk
  have h1:=nJ xs k
  rw [e,Nat.testBit_two_pow_sub_one,decide_eq_true hk] at h1
  obtain ⟨x,hx,he⟩:=List.any_eq_true.1 h1.symm
  have:=(h x hx).1
  have:=of_decide_eq_true he
  have e:x=(k:Int):=by omega
  exact e▸hx
 ·intro ha
  refine Nat.eq_of_testBit_eq λk=>?_
  rw [nJ,Nat.testBit_two_pow_sub_one]
  by_cases hk:k<xs.length
  ·rw [decide_eq_true hk]
   exact List.any_eq_true.2 ⟨k,ha k hk,by simp⟩
  ·rw [decide_eq_false hk]
   refine Bool.eq_false_iff.2 λht=>?_
   obtain ⟨x,hx,he⟩:=List.any_eq_true.1 ht
   have:=h x hx
   have:=of_decide_eq_true he
   omega
theorem QW {m:Nat} {x:Int} (hm:m<2^20) (h0:0<=x) (h1:x<20):
  IntKind.i64.wrap (((BitVec.ofInt IntKind.i64.bits (m:Int)|||BitVec.ofInt IntKind.i64.bits (IntKind.i64.wrap ((1:Int)*(2:Int)^min x.toNat IntKind.i64.bits))).toNat:Nat):Int)=((m|||2^x.toNat:Nat):Int):=by
 have hx:(2:Nat)^x.toNat<2^20:=Nat.pow_lt_pow_right (by omega) (by omega)
 have e1:min x.toNat IntKind.i64.bits=x.toNat:=by show min x.toNat 64=_;omega
 have e2:(1:Int)*(2:Int)^x.toNat=((2^x.toNat:Nat):Int):=by rw [Int.one_mul];exact (Int.natCast_pow 2 _).symm
 rw [e1,e2,Cp (n:=((2^x.toNat:Nat):Int)) (by have:(0:Int)<=((2^x.toNat:Nat):Int):=Int.natCast_nonneg _;omega) (by omega)]
 show IntKind.i64.wrap (((BitVec.ofInt 64 (m:Int)|||BitVec.ofInt 64 ((2^x.toNat:Nat):Int)).toNat:Nat):Int)=_
 rw [BitVec.ofInt_natCast,BitVec.ofInt_natCast,BitVec.toNat_or,BitVec.toNat_ofNat,BitVec.toNat_ofNat,Nat.mod_eq_of_lt (by omega),Nat.mod_eq_of_lt (by omega)]
 have:=Nat.or_lt_two_pow hm hx
 exact Cp (by omega) (by omega)
theorem u5 (p:List Int) (h:short p):fnW Cg (look [(88,Bw),(100,Kp)]) Du Tryz.f75 (p,()) (λ(z:Bool)=>z=Ej p):=by
 have hs:=h
 unfold short at h
 refine Eq.mp (ve p _) ⟨_,if_pos trivial,⟨λhp=>?_,λhp=>?_⟩⟩
 ·have hp:=Dk hp
  rw [Cm] at hp
  dsimp only at hp
  exact Bh λhh=>hp ⟨by omega,by omega⟩
 ·have hp:=De hp
  rw [Cm] at hp
  dsimp only at hp
  refine Ai p.length (λv=>v.1) (λj _=>DL p.length p j) rfl (λj _ hj=>absurd hj (Nat.not_lt_zero _)) ?_
  rintro j ⟨i,⟨⟩⟩ K hj hi hR hK
  dsimp only at hi⊢
  subst hi
  refine Br.dec (λhl=>?_) λhl=>?_
  ·have hl:j<p.length:=by omega
   refine ⟨_,Ap hl,_,if_pos trivial,⟨λhq=>?_,λhq=>?_⟩⟩
   ·have hq:=Dk hq
    rw [Cm,Cp (by omega) (by omega)] at hq
    exact Bh λhh=>hq ⟨(hh.2.2 j hl hl).1,(hh.2.2 j hl hl).2.1⟩
   ·have hq:=De hq
    rw [Cm,Cp (by omega) (by omega)] at hq
    refine ⟨⟨by omega,by omega,by omega⟩,_,Ap hl,?_⟩
    rw [show (Int.toNat 0)=0 from rfl,List.drop_zero,Int.toNat_natCast]
    refine ⟨_,if_pos (AZ hs j),⟨λhc=>?_,λhc=>?_⟩⟩
    ·have hc:decide (p[j]∈p.take j)=true:=hc
     rw [decide_eq_true_iff] at hc
     exact Bh λhh=>(hh.2.2 j hl hl).2.2 hc
    ·have hc:decide (p[j]∈p.take j)=false:=hc
     rw [decide_eq_false_iff_not] at hc
     rw [Ag (by omega)]
     exact hK hl _ rfl (PQ hl hR hq.1 hq.2 hc)
  ·have:j=p.length:=by omega
   subst this
   exact Je ⟨by omega,by omega,hR⟩
theorem Md:Sound Tryz.prog 75 Du:=
 Sound.Co Bg (Ae Xx (Ae iR Al)) mixed Tryz.func75 (by kernel_rfl) (by kernel_rfl) λx h=>u5 x.1 h
theorem tW (p:List Int) (h:short p):fnW Cg (look [(90,Bw),(119,Qv)]) Du Tryz.f134 (p,()) (λ(z:Bool)=>z=Ej p):=by
 unfold short at h
 refine Eq.mp (uY p _) ⟨_,if_pos trivial,_,if_pos trivial,⟨λhp=>?_,λhp=>?_⟩⟩
 ·have hp:=Dk hp
  rw [Cm] at hp
  dsimp only at hp
  exact Bh λhh=>hp ⟨by omega,by omega⟩
 ·have hp:=De hp
  rw [Cm] at hp
  dsimp only at hp
  refine Ai p.length (λv=>v.2.1) (λj v=>v.1=(mask (p.take j):Int)/\ ∀x∈p.take j,0<=x/\x<p.length) rfl ⟨rfl,by simp⟩ ?_
  rintro j ⟨m,i,⟨⟩⟩ K hj hi ⟨hm,hR⟩ hK
  dsimp only at hi hm⊢
  subst hi hm
  refine Br.dec (λhl=>?_) λhl=>?_
  ·have hl:j<p.length:=by omega
   refine ⟨_,Ap hl,_,if_pos trivial,_,if_pos trivial,⟨λhq=>?_,λhq=>?_⟩⟩
   ·have hq:=Dk hq
    rw [Cm] at hq
    dsimp only at hq
    rw [Cp (by omega) (by omega)] at hq
    exact Bh λhh=>hq ⟨(hh.2.2 j hl hl).1,(hh.2.2 j hl hl).2.1⟩
   ·have hq:=De hq
    rw [Cm] at hq
    dsimp only at hq
    rw [Cp (by omega) (by omega)] at hq
    refine ⟨by omega,?_⟩
    rw [Ag (by omega)]
    have hb:mask (p.take j)<2^20:=QS λx hx=>by have:=hR x hx;omega
    refine hK hl _ rfl ⟨?_,?_⟩
    ·dsimp only
     rw [QW hb hq.1 (by omega),List.take_succ_eq_append_getElem hl,FX]
    ·rw [List.take_succ_eq_append_getElem hl]
     intro x hx
     rcases List.mem_append.1 hx with hx|hx
     ·exact hR x hx
     ·rw [List.mem_singleton.1 hx];omega
  ·have:j=p.length:=by omega
   subst this
   rw [List.take_length] at hR⊢
   refine ⟨by omega,?_⟩
   have hx:(2:Nat)^p.length<=2^20:=Nat.pow_le_pow_right (by omega) (by omega)
   have FJ:0<(2:Nat)^p.length:=Nat.two_pow_pos _
   have e1:min (p.length:Int).toNat IntKind.i64.bits=p.length:=by show min (p.length:Int).toNat 64=_;omega
   have e2:(1:Int)*(2:Int)^p.length=((2^p.length:Nat):Int):=by rw [Int.one_mul];exact (Int.natCast_pow 2 _).symm
   rw [e1,e2,Cp (n:=((2^p.length:Nat):Int)) (by omega) (by omega),Cp (by omega) (by omega)]
   have hE:((mask p:Int)==((2^p.length:Nat):Int)-1)=decide (mask p=2^p.length-1):=by
    rw [Bool.eq_iff_iff,beq_iff_eq,decide_eq_true_iff]
    omega
   show ((mask p:Int)==((2^p.length:Nat):Int)-1)=Ej p
   rw [hE]
   by_cases hf:mask p=2^p.length-1
   ·rw [decide_eq_true hf]
    have hn:=(Xm hR).1 ((rS hR).1 hf)
    refine Je ⟨by omega,by omega,λj hj _=>?_⟩
    have:=hR _ (List.getElem_mem hj)
    exact ⟨this.1,by omega,hn j hj⟩
   ·rw [decide_eq_false hf]
    refine Bh λhh=>hf ((rS hR).2 ((Xm hR).2 λj hj=>(hh.2.2 j hj hj).2.2))
theorem Zl:Sound Tryz.prog 134 Du:=
 Sound.Co Bg (Ae Tw (Ae gm Al)) mixed Tryz.func134 (by kernel_rfl) (by kernel_rfl) λx h=>tW x.1 h
theorem tZ (n:Int) (g:List (List Int)) (h:Ew g):fnW Cg (look [(88,Bw),(75,Du)]) Hu Tryz.f123 (n,g,()) (λ(z:Bool)=>z=Ll n g):=by
 obtain ⟨h,h4⟩:=h
 refine Eq.mp (vd n g _) ⟨_,if_pos trivial,⟨λhp=>?_,λhp=>?_⟩⟩
 ·have hp:=Dk hp
  rw [Cm] at hp
  exact Bh λhh=>hp hh.1
 ·have hp:=De hp
  rw [Cm] at hp
  refine Br.dec (λhg=>?_) λhg=>?_
  ·exact Bh λhh=>by have:=hh.2.1;omega
  ·refine Ai g.length (λv=>v.1) (λj _=> ∀p∈g.take j,Cw n p=true) rfl (by simp) ?_
   rintro j ⟨i,⟨⟩⟩ K hj hi hR hK
   dsimp only at hi⊢
   subst hi
   refine Br.dec (λhl=>?_) λhl=>?_
   ·have hl:j<g.length:=by omega
    have hm:g[j]∈g:=List.getElem_mem hl
    refine ⟨_,Ap hl,⟨λhe=>?_,λhe=>?_⟩⟩
    ·simp only [bne_iff_ne,ne_eq] at he
     exact Bh λhh=>he (Di.1 (hh.2.2 _ hm)).1
    ·simp only [bne_eq_false_iff_eq] at he
     refine ⟨_,Ap hl,_,if_pos (h4 _ hm),⟨λhq=>?_,λhq=>?_⟩⟩
     ·have hq:=Dk hq
      exact Bh λhh=>hq (Di.1 (hh.2.2 _ hm)).2
     ·have hq:=De hq
      rw [Ag (by omega)]
      refine hK hl _ rfl ?_
      rw [List.take_succ_eq_append_getElem hl]
      intro x hx
      rcases List.mem_append.1 hx with hx|hx
      ·exact hR x hx
      ·rw [List.mem_singleton.1 hx];exact Di.2 ⟨he,hq⟩
   ·have:j=g.length:=by omega
    subst this
    rw [List.take_length] at hR
    exact Je ⟨hp,by omega,hR⟩
theorem Zm:Sound Tryz.prog 123 Hu:=
 Sound.Co Bg (Ae Xx (Ae Md Al)) mixed Tryz.func123 (by kernel_rfl) (by kernel_rfl) λx h=>tZ x.1 x.2.1 h
theorem QX (p:List Int) (n:Int) (h:short p):fnW Cg (look [(119,Qv),(134,Du)]) dT Tryz.f136 (p,n,()) (λ(z:Bool)=>z=!Cw n p):=by
 refine Eq.mp (RR p n _) ⟨_,if_pos trivial,⟨λhe=>?_,λhe=>⟨_,if_pos h,?_⟩⟩⟩
 ·simp only [bne_iff_ne,ne_eq] at he
  have:Cw n p=false:=PN.2 λhh=>he hh.1
  rw [this];rfl
 ·simp only [bne_eq_false_iff_eq] at he
  show (!Ej p)=_
  congr 1
  cases hp:Ej p with
  |true=>exact Je ⟨he,hp⟩
  |false=>exact Bh λhh=>by rw [hh.2] at hp;cases hp
theorem xR:Sound Tryz.prog 136 dT:=
 Sound.Co Bg (Ae gm (Ae Zl Al)) mixed Tryz.func136 (by kernel_rfl) (by kernel_rfl) λx h=>QX x.1 x.2.1 h
theorem kU {α:Type} (P:α->Bool): ∀(l:List α) (i:Int),0<=i->(0<=Dt P l i↔l.any P=true)
 | [],i,_=>by simp [Dt]
 |y::r,i,h=>by
  simp only [Dt,List.any_cons,Bool.or_eq_true]
  split
  ·rename_i hy;simp [hy,h]
  ·rename_i hy;rw [kU P r (i+1) (by omega)];simp [hy]
theorem Ac5 (g:List (List Int)) (n:Int×Unit) (h:Ew g):fnW Cg (look [(136,dT)]) sk Tryz.f150 (g,n,()) (λ(z:Int)=>z=Dt (λp=>!Cw n.1 p) g 0):=by
 obtain ⟨h,h4⟩:=h
 refine Eq.mp (Acv g n _) ?_
 refine Ai g.length (λv=>v.1) (λj _=>Dt (λp=>!Cw n.1 p) (g.drop j) j=Dt (λp=>!Cw n.1 p) g 0) rfl (by simp) ?_
 rintro j ⟨i,⟨⟩⟩ K hj hi hR hK
 dsimp only at hi⊢
 subst hi
 refine Br.dec (λhl=>?_) λhl=>?_
 ·have hl:j<g.length:=by omega
  rw [List.drop_eq_getElem_cons hl] at hR
  simp only [Dt] at hR
  refine ⟨_,Ap hl,_,if_pos (h4 _ (List.getElem_mem hl)),⟨λhe=>?_,λhe=>?_⟩⟩
  ·have he:(!Cw n.1 g[j])=true:=he
   rw [if_pos he] at hR
   exact hR
  ·have he:(!Cw n.1 g[j])=false:=he
   rw [if_neg (by rw [he];decide)] at hR
   rw [Ag (by omega)]
   exact hK hl _ rfl (by push_cast;exact hR)
 ·have:j=g.length:=by omega
  subst this
  rw [List.drop_length] at hR
  exact hR
theorem HL:Sound Tryz.prog 150 sk:=
 Sound.Co Bg (Ae xR Al) mixed Tryz.func150 (by kernel_rfl) (by kernel_rfl) λx h=>Ac5 x.1 x.2.1 h
theorem Ac1 (g:List (List Int)) (n:Int×Unit) (h:Ew g):fnW Cg (look [(150,sk)]) si Tryz.f135 (g,n,()) (λ(z:Bool)=>z=List.any g (λp=>!Cw n.1 p)):=by
 refine Eq.mp (Acq g n _) ⟨_,if_pos h,?_⟩
 rw [Bool.eq_iff_iff,decide_eq_true_iff]
 exact kU _ g 0 (Int.le_refl 0)
theorem HJ:Sound Tryz.prog 135 si:=
 Sound.Co Bg (Ae HL Al) mixed Tryz.func135 (by kernel_rfl) (by kernel_rfl) λx h=>Ac1 x.1 x.2.1 h
theorem tV (n:Int) (g:List (List Int)) (h:Ew g):fnW Cg (look [(90,Bw),(135,si)]) Hu Tryz.f110 (n,g,()) (λ(z:Bool)=>z=Ll n g):=by
 refine Eq.mp (uX n g _) ⟨_,if_pos trivial,⟨λhp=>?_,λhp=>?_⟩⟩
 ·have hp:Ji n 1 20=true:=hp
  rw [Cm] at hp
  refine Br.dec (λhl=>⟨_,if_pos h,?_⟩) λhl=>?_
  ·show (!List.any g (λp=>!Cw n p))=Ll n g
   cases ha:List.any g (λp=>!Cw n p) with
   |true=>
    obtain ⟨p,vu,FE⟩:=List.any_eq_true.1 ha
    exact Bh λhh=>by rw [hh.2.2 p vu] at FE;cases FE
   |false=>
    refine Je ⟨hp,by omega,λp hm=>?_⟩
    have:=List.any_eq_false.1 ha p hm
    simpa using this
  ·exact Bh λhh=>by have:=hh.2.1;omega
 ·refine Bh λhh=>?_
  have:Ji n 1 20=true:=Cm.2 hh.1
  have hp:Ji n 1 20=false:=hp
  rw [this] at hp;cases hp
theorem kl:Sound Tryz.prog 110 Hu:=
 Sound.Co Bg (Ae Tw (Ae HJ Al)) mixed Tryz.func110 (by kernel_rfl) (by kernel_rfl) λx h=>tV x.1 x.2.1 h
theorem Hw {s:ByteArray} {k:Nat} (h:k<s.size):s[k]?=some s[k]:=getElem?_pos s k h
theorem MK (s:ByteArray) (i:Int) (h:0<=i/\i<s.size/\s.size<=4294967296):fnW Cg (look []) Zh Tryz.f124 (s,i,()) (λ(z:Bool)=>z=iA s i):=by
 obtain ⟨h1,h2,h3⟩:=h
 have hi:i.toNat<s.size:=by omega
 refine Eq.mp (OH s i _) ⟨h1,_,Hw hi,Br.dec (λhq=>?_) λhq=>⟨h1,_,Hw hi,Br.dec (λhr=>?_) λhr=>?_⟩⟩
 ·refine Bh λ⟨c,hc,PZ,_⟩=>?_
  rw [Hw hi] at hc;cases hc;omega
 ·refine Bh λ⟨c,hc,_,PZ,_⟩=>?_
  rw [Hw hi] at hc;cases hc;omega
 ·refine Ai i.toNat (λv=>v.1) (λj _=> ∀k,k<j->s[k]?≠some s[i.toNat]) rfl (λk hk=>absurd hk (Nat.not_lt_zero _)) ?_
  rintro j ⟨i',⟨⟩⟩ K hj kN hR hK
  dsimp only at kN⊢
  subst kN
  refine Br.dec (λhl=>?_) λhl=>?_
  ·have hl:j<i.toNat:=by omega
   have hj:j<s.size:=by omega
   rw [Int.toNat_natCast]
   refine ⟨by omega,_,Hw hj,h1,_,Hw hi,⟨λhe=>?_,λhe=>?_⟩⟩
   ·simp only [beq_iff_eq,Int.natCast_inj] at he
    refine Bh λ⟨c,hc,_,_,PZ⟩=>?_
    rw [Hw hi] at hc;cases hc
    exact PZ j hl (by rw [Hw hj,UInt8.toNat_inj.1 he])
   ·simp only [beq_eq_false_iff_ne,ne_eq,Int.natCast_inj] at he
    rw [Ag (by omega)]
    refine hK hl _ rfl λk hk=>?_
    by_cases e:k=j
    ·subst e
     rw [Hw hj]
     exact λe=>he (by rw [Option.some.inj e])
    ·exact hR k (by omega)
  ·have:j=i.toNat:=by omega
   subst this
   exact Je ⟨_,Hw hi,by omega,by omega,hR⟩
theorem uz:Sound Tryz.prog 124 Zh:=
 Sound.Co Bg Al mixed Tryz.func124 (by kernel_rfl) (by kernel_rfl) λx h=>MK x.1 x.2.1 h
theorem GF (s:ByteArray) (h:s.size<=4294967296):fnW Cg (look [(90,Bw)]) Ue Tryz.f111 (s,()) (λ(z:Bool)=>z=Yy s):=by
 refine Eq.mp (IC s _) ?_
 refine Ai s.size (λv=>v.1) (λj _=> ∀k,k<j->sy s k) rfl (λk hk=>absurd hk (Nat.not_lt_zero _)) ?_
 rintro j ⟨i,⟨⟩⟩ K hj hi hR hK
 dsimp only at hi⊢
 subst hi
 refine Br.dec (λhl=>?_) λhl=>?_
 ·have hl:j<s.size:=by omega
  rw [Int.toNat_natCast]
  have hb:=(s[j]).toNat_lt
  refine ⟨by omega,_,Hw hl,_,if_pos trivial,⟨λhq=>?_,λhq=>?_⟩⟩
  ·have hq:=Dk hq
   rw [Cm] at hq
   dsimp only at hq
   rw [Cp (by omega) (by omega)] at hq
   refine Bh λhh=>?_
   obtain ⟨c,hc,PZ,ZE,_⟩:=hh.2 j hl
   rw [Hw hl] at hc;cases hc
   exact hq ⟨by omega,by omega⟩
  ·have hq:=De hq
   rw [Cm] at hq
   dsimp only at hq
   rw [Cp (by omega) (by omega)] at hq
   refine Ai j (λv=>v.1) (λm _=> ∀k,k<m->s[k]?≠some s[j]) rfl (λk hk=>absurd hk (Nat.not_lt_zero _)) ?_
   rintro m ⟨i',⟨⟩⟩ K' hm kN hR' PV
   dsimp only at kN⊢
   subst kN
   refine Br.dec (λGm=>?_) λGm=>?_
   ·have Gm:m<j:=by omega
    have wG:m<s.size:=by omega
    rw [Int.toNat_natCast]
    refine ⟨by omega,_,Hw wG,by omega,_,Hw hl,⟨λhe=>?_,λhe=>?_⟩⟩
    ·simp only [beq_iff_eq,Int.natCast_inj] at he
     refine Bh λhh=>?_
     obtain ⟨c,hc,_,_,PZ⟩:=hh.2 j hl
     rw [Hw hl] at hc;cases hc
     exact PZ m Gm (by rw [Hw wG,UInt8.toNat_inj.1 he])
    ·simp only [beq_eq_false_iff_ne,ne_eq,Int.natCast_inj] at he
     rw [Ag (by omega)]
     refine PV Gm _ rfl λk hk=>?_
     by_cases e:k=m
     ·subst e
      rw [Hw wG]
      exact λe=>he (by rw [Option.some.inj e])
     ·exact hR' k (by omega)
   ·have:m=j:=by omega
    subst this
    rw [Ag (by omega)]
    refine hK hl _ rfl λk hk=>?_
    by_cases e:k=m
    ·subst e
     exact ⟨_,Hw hl,by omega,by omega,hR'⟩
    ·exact hR k (by omega)
 ·have:j=s.size:=by omega
  subst this
  refine ⟨_,if_pos trivial,?_⟩
  show Ji s.size 1 8=_
  cases hr:Ji s.size 1 8 with
  |true=>rw [Cm] at hr;exact Je ⟨by omega,hR⟩
  |false=>refine Bh λhh=>?_;rw [Cm.2 ⟨by omega,by omega⟩] at hr;cases hr
theorem ql:Sound Tryz.prog 111 Ue:=
 Sound.Co Bg (Ae Tw Al) mixed Tryz.func111 (by kernel_rfl) (by kernel_rfl) λx h=>GF x.1 h
theorem BT {p:PP} (h:Bt p=true):1<=p.1/\p.1<=20/\1<=p.2.2.1.length/\p.2.2.1.length<=8:=by
 obtain ⟨h1,h2,h3⟩:=Di.1 h
 obtain ⟨h4,h5,_⟩:=Di.1 h1
 obtain ⟨h6,_⟩:=Di.1 h2
 omega
theorem u6 (p:PP) (h:Cl p):fnW Cg (look [(123,Hu),(124,Zh)]) Dv Tryz.f93 (p,()) (λ(z:Bool)=>z=Bt p):=by
 obtain ⟨hn,hg⟩:=h
 refine Eq.mp (vf p _) ⟨λh0=>?_,λh0=>⟨λh1=>?_,λh1=>⟨_,if_pos hg,⟨λh2=>?_,λh2=>?_⟩⟩⟩⟩
 ·simp only [beq_iff_eq] at h0
  exact Bh λhh=>by obtain ⟨_,h2,h3⟩:=hh;have:=(Di.1 h2).1;omega
 ·simp only [bne_iff_ne,ne_eq,Int.natCast_inj] at h1
  exact Bh λhh=>h1 hh.2.2
 ·have h2:=Dk h2
  exact Bh λhh=>h2 hh.1
 ·simp only [beq_eq_false_iff_ne,ne_eq] at h0
  simp only [bne_eq_false_iff_eq,Int.natCast_inj] at h1
  have h2:Ll p.1 p.2.2.1=true:=De h2
  refine Ai p.2.1.size (λv=>v.1) (λj v=>v.2=(p.1,p.2.1,p.2.2.1,())/\ ∀k,k<j->sy p.2.1 k) rfl ⟨rfl,λk hk=>absurd hk (Nat.not_lt_zero _)⟩ ?_
  rintro j ⟨i,v⟩ K hj hi ⟨hv,hR⟩ hK
  dsimp only at hi hv⊢
  subst hi hv
  dsimp only
  refine Br.dec (λhl=>?_) λhl=>?_
  ·have hl:j<p.2.1.size:=by omega
   refine ⟨_,if_pos ⟨Int.natCast_nonneg j,Int.ofNat_lt.2 hl,hn⟩,⟨λhq=>?_,λhq=>?_⟩⟩
   ·have hq: ¬iA p.2.1 j=true:=Dk hq
    refine Bh λhh=>hq (Di.2 ?_)
    rw [Int.toNat_natCast]
    exact (Di.1 hh.2.1).2 j hl
   ·have hq:iA p.2.1 j=true:=De hq
    have hq:=Di.1 hq
    rw [Int.toNat_natCast] at hq
    rw [Ag (by omega)]
    refine hK hl _ rfl ⟨rfl,λk hk=>?_⟩
    by_cases e:k=j
    ·subst e;exact hq
    ·exact hR k (by omega)
  ·have:j=p.2.1.size:=by omega
   subst this
   have:=(Di.1 h2).2.1
   exact Je ⟨h2,Di.2 ⟨⟨by omega,by omega⟩,hR⟩,h1⟩
theorem Rd:Sound Tryz.prog 93 Dv:=
 Sound.Co Bg (Ae Zm (Ae uz Al)) mixed Tryz.func93 (by kernel_rfl) (by kernel_rfl) λx h=>u6 x.1 h
theorem tX (p:PP) (h:Cl p):fnW Cg (look [(110,Hu),(111,Ue)]) Dv Tryz.f84 (p,()) (λ(z:Bool)=>z=Bt p):=by
 obtain ⟨hn,hg⟩:=h
 refine Eq.mp (uZ p _) ⟨_,if_pos hg,⟨λh1=>⟨_,if_pos hn,⟨λh2=>?_,λh2=>?_⟩⟩,λh1=>?_⟩⟩
 ·have h1:Ll p.1 p.2.2.1=true:=h1
  have h2:Yy p.2.1=true:=h2
  by_cases e:p.2.1.size=p.2.2.1.length
  ·rw [e,beq_self_eq_true];exact Je ⟨h1,h2,e⟩
  ·rw [show ((p.2.1.size:Int)==(p.2.2.1.length:Int))=false from beq_eq_false_iff_ne.2 (by omega)];exact Bh λhh=>e hh.2.2
 ·have h2:Yy p.2.1=false:=h2
  exact Bh λhh=>by rw [hh.2.1] at h2;cases h2
 ·have h1:Ll p.1 p.2.2.1=false:=h1
  exact Bh λhh=>by rw [hh.1] at h1;cases h1
theorem Rc:Sound Tryz.prog 84 Dv:=
 Sound.Co Bg (Ae kl (Ae ql Al)) mixed Tryz.func84 (by kernel_rfl) (by kernel_rfl) λx h=>tX x.1 h
theorem Ac8 (p:PP) (room:Int) (h:Cl p/\roomy room):fnW Cg (look [(45,aM)]) sl Tryz.f13 (p,room,()) (λ(z:Int)=>z=nH p room):=by
 obtain ⟨⟨h1,h2⟩,h3,h4⟩:=h
 refine Eq.mp (Acy p room _) ?_
 rw [Cp (by omega) (by omega)]
 refine Br.dec (λhn=>?_) λhn=>⟨_,if_pos ⟨h2,by dsimp only;omega,by dsimp only;omega⟩,Br.dec (λhm=>?_) λhm=>?_⟩
 ·simp only [nH,if_pos hn]
 ·exact ((if_neg hn).trans (if_pos hm)).symm
 ·exact ((if_neg hn).trans (if_neg hm)).symm
theorem HN:Sound Tryz.prog 13 sl:=
 Sound.Co Bg (Ae oQ Al) mixed Tryz.func13 (by kernel_rfl) (by kernel_rfl) λx h=>Ac8 x.1 x.2.1 h
theorem Aca (p:PP) (h:Cl p):fnW Cg (look [(49,aN)]) lb Tryz.f16 (p,()) (λ(z:PP)=>z=p):=Eq.mp (Ad0 p _) ⟨_,if_pos h.2,rfl⟩
theorem HO:Sound Tryz.prog 16 lb:=
 Sound.Co Bg (Ae oS Al) mixed Tryz.func16 (by kernel_rfl) (by kernel_rfl) λx h=>Aca x.1 h
theorem vX {a b:ByteArray} :(a.toList==b.toList)=decide (a=b):=by
 rw [Bool.eq_iff_iff,beq_iff_eq,decide_eq_true_iff,ByteArray.toList_eq,ByteArray.toList_eq]
 exact ⟨λh=>ByteArray.ext (Array.toList_inj.1 h),λh=>by rw [h]⟩
theorem Ac3 (a b:PP) (h:Cl a):fnW Cg (look [(53,Np)]) sj Tryz.f20 (a,b,()) (λ(z:Bool)=>z=kT a b):=by
 refine Eq.mp (Acs a b _) ⟨λh1=>?_,λh1=>⟨λh2=>?_,λh2=>⟨_,if_pos h.2,⟨λh3=>?_,λh3=>?_⟩⟩⟩⟩
 ·simp only [bne_iff_ne,ne_eq] at h1
  unfold kT
  rw [decide_eq_false h1];rfl
 ·rw [vX] at h2
  unfold kT
  cases hd:decide (a.2.1=b.2.1)<;>simp_all
 ·have h3:(!Lj a.2.2.1 b.2.2.1)=true:=h3
  simp only [Lj,Bool.not_eq_true'] at h3
  unfold kT
  rw [h3];simp
 ·have h3:(!Lj a.2.2.1 b.2.2.1)=false:=h3
  rw [vX] at h2
  simp only [Lj] at h3
  simp only [bne_eq_false_iff_eq] at h1
  unfold kT
  simp_all
theorem HK:Sound Tryz.prog 20 sj:=
 Sound.Co Bg (Ae oF Al) mixed Tryz.func20 (by kernel_rfl) (by kernel_rfl) λx h=>Ac3 x.1 x.2.1 h
theorem zG (p:PP):kT p p=true:=by simp [kT]
theorem nO {b:Bool} {P:Prop} (h1:b=true) (h:(!b)=true):P:=by rw [h1] at h;cases h
theorem AJ (t:TT) (xs:List Int) (h:Kg t/\short xs):fnW Cg (look [(101,Ao)]) Nq Tryz.f77 (t,xs,()) (λ(z:Int)=>z=Dt (λp=>decide (p=xs)) t.2.1 0):=by
 obtain ⟨⟨_,⟨h,h4⟩,_⟩,_⟩:=h
 refine Eq.mp (CI t xs _) ?_
 refine Ai t.2.1.length (λv=>v.1) (λj v=>v.2=(t.1,t.2.1,t.2.2.1,())/\Dt (λp=>decide (p=xs)) (t.2.1.drop j) j=Dt (λp=>decide (p=xs)) t.2.1 0) rfl ⟨rfl,by simp⟩ ?_
 rintro j ⟨i,v⟩ K hj hi ⟨hv,hR⟩ hK
 dsimp only at hi hv⊢
 subst hi hv
 dsimp only
 refine Br.dec (λhl=>?_) λhl=>?_
 ·have hl:j<t.2.1.length:=by omega
  rw [List.drop_eq_getElem_cons hl] at hR
  simp only [Dt] at hR
  refine ⟨_,Ap hl,_,if_pos (h4 _ (List.getElem_mem hl)),⟨λhe=>?_,λhe=>?_⟩⟩
  ·have he:decide (t.2.1[j]=xs)=true:=he
   rw [if_pos he] at hR
   exact hR
  ·have he:decide (t.2.1[j]=xs)=false:=he
   rw [if_neg (by rw [he];decide)] at hR
   rw [Ag (by omega)]
   exact hK hl _ rfl ⟨rfl,by push_cast;exact hR⟩
 ·have:j=t.2.1.length:=by omega
  subst this
  rw [List.drop_length] at hR
  exact hR
theorem oR:Sound Tryz.prog 77 Nq:=
 Sound.Co Bg (Ae Sy Al) mixed Tryz.func77 (by kernel_rfl) (by kernel_rfl) λx h=>AJ x.1 x.2.1 h
end Go.Proofs.YtfolipnappekaaaGreat

namespace Go.Proofs.YtfolipnappekaaaGreat
open Go.RowKit
noncomputable abbrev Zi:Spec:=Co (.pair tI (.pair tL .unit)) .bool false true (λx=>short x.2.1) (λx=>Cw x.1 x.2.1)
noncomputable abbrev Qu:Spec:=Co (.pair Dc (.pair tL .unit)) .bool false true (λx=>short x.2.1) (λx=>Cw x.1.1 x.2.1)
noncomputable abbrev Ih:Spec:=Co (.pair Dc (.pair tL .unit)) .bool false true (λx=>Cl x.1/\short x.2.1) (λx=>Bt x.1&&Cw x.1.1 x.2.1)
theorem OI (n:Int) (s:List Int) (P:Bool->Prop):(Br ((↑s.length:Int)==n) (∃(y3:Bool),Du.fn (s,())=some y3/\P y3) (P false))=fnW Cg (look [(75,Du)]) Zi Tryz.f127 (n,s,()) P:=by kernel_rfl
theorem pe (p:Int×ByteArray×List (List Int)×Unit) (s:List Int) (P:Bool->Prop):(∃(y3:Int),Qv.fn (s,())=some y3/\Br (y3==p.1) (∃(y4:Bool),Du.fn (s,())=some y4/\P y4) (P false))=fnW Cg (look [(119,Qv),(134,Du)]) Qu Tryz.f109 (p,s,()) P:=by kernel_rfl
theorem qQ (p:Int×ByteArray×List (List Int)×Unit) (s:List Int) (P:Bool->Prop):(∃(y3:Bool),Dv.fn ((p.1,p.2.1,p.2.2.1,()),())=some y3/\Br y3 (∃(y4:Bool),Zi.fn (p.1,s,())=some y4/\P y4) (P false))=fnW Cg (look [(93,Dv),(127,Zi)]) Ih Tryz.f95 (p,s,()) P:=by kernel_rfl
theorem qK (p:Int×ByteArray×List (List Int)×Unit) (s:List Int) (P:Bool->Prop):(∃(y3:Bool),Dv.fn ((p.1,p.2.1,p.2.2.1,()),())=some y3/\Br y3 (∃(y4:Bool),Qu.fn ((p.1,p.2.1,p.2.2.1,()),s,())=some y4/\P y4) (P false))=fnW Cg (look [(84,Dv),(109,Qu)]) Ih Tryz.f97 (p,s,()) P:=by kernel_rfl
theorem ML (n:Int) (s:List Int) (h:short s):fnW Cg (look [(75,Du)]) Zi Tryz.f127 (n,s,()) (λ(z:Bool)=>z=Cw n s):=by
 refine Eq.mp (OI n s _) ⟨λhe=>⟨_,if_pos h,?_⟩,λhe=>?_⟩
 ·simp only [beq_iff_eq] at he
  show Ej s=_
  cases hp:Ej s with
  |true=>exact Je ⟨he,hp⟩
  |false=>exact Bh λhh=>by rw [hh.2] at hp;cases hp
 ·simp only [beq_eq_false_iff_ne,ne_eq] at he
  exact Bh λhh=>he hh.1
theorem uC:Sound Tryz.prog 127 Zi:=
 Sound.Co Bg (Ae Md Al) mixed Tryz.func127 (by kernel_rfl) (by kernel_rfl) λx h=>ML x.1 x.2.1 h
theorem nV (p:PP) (s:List Int) (h:short s):fnW Cg (look [(119,Qv),(134,Du)]) Qu Tryz.f109 (p,s,()) (λ(z:Bool)=>z=Cw p.1 s):=by
 refine Eq.mp (pe p s _) ⟨_,if_pos trivial,⟨λhe=>⟨_,if_pos h,?_⟩,λhe=>?_⟩⟩
 ·simp only [beq_iff_eq] at he
  show Ej s=_
  cases hp:Ej s with
  |true=>exact Je ⟨he,hp⟩
  |false=>exact Bh λhh=>by rw [hh.2] at hp;cases hp
 ·simp only [beq_eq_false_iff_ne,ne_eq] at he
  exact Bh λhh=>he hh.1
theorem gi:Sound Tryz.prog 109 Qu:=
 Sound.Co Bg (Ae gm (Ae Zl Al)) mixed Tryz.func109 (by kernel_rfl) (by kernel_rfl) λx h=>nV x.1 x.2.1 h
theorem qc (p:PP) (s:List Int) (h:Cl p/\short s):fnW Cg (look [(93,Dv),(127,Zi)]) Ih Tryz.f95 (p,s,()) (λ(z:Bool)=>z=(Bt p&&Cw p.1 s)):=by
 refine Eq.mp (qQ p s _) ⟨_,if_pos h.1,⟨λhe=>⟨_,if_pos h.2,?_⟩,λhe=>?_⟩⟩
 ·have he:Bt p=true:=he
  rw [he];rfl
 ·have he:Bt p=false:=he
  rw [he];rfl
theorem iV:Sound Tryz.prog 95 Ih:=
 Sound.Co Bg (Ae Rd (Ae uC Al)) mixed Tryz.func95 (by kernel_rfl) (by kernel_rfl) λx h=>qc x.1 x.2.1 h
theorem pZ (p:PP) (s:List Int) (h:Cl p/\short s):fnW Cg (look [(84,Dv),(109,Qu)]) Ih Tryz.f97 (p,s,()) (λ(z:Bool)=>z=(Bt p&&Cw p.1 s)):=by
 refine Eq.mp (qK p s _) ⟨_,if_pos h.1,⟨λhe=>⟨_,if_pos h.2,?_⟩,λhe=>?_⟩⟩
 ·have he:Bt p=true:=he
  rw [he];rfl
 ·have he:Bt p=false:=he
  rw [he];rfl
theorem iS:Sound Tryz.prog 97 Ih:=
 Sound.Co Bg (Ae Rc (Ae gi Al)) mixed Tryz.func97 (by kernel_rfl) (by kernel_rfl) λx h=>pZ x.1 x.2.1 h
end Go.Proofs.YtfolipnappekaaaGreat

namespace Go.Proofs.YtfolipnappekaaaGreat
open Go.RowKit
def Ii (xs:List Int) (i:Int):Int:=xs.getD i.toNat 0
def Aa (p q:List Int):List Int:=p.map (Ii q)
def Wk (f:Nat->Nat) (g:Nat->Int) (m:Nat) (init:List Int):List Int:=(List.range m).foldl (λ(out:List Int) (i:Nat)=>out.set (f i) (g i)) init
def Af (p:List Int):List Int:=Wk (λi=>(Ii p (i:Int)).toNat) (λi=>(i:Int)) p.length (List.replicate p.length 0)
def Hq (n:Nat) (p:List Int):Prop:= ∀y∈p,0<=y/\y<n
noncomputable abbrev Ud:Spec:=Co (.pair tL (.pair tL .unit)) tL false true (λx=>List.length x.1<=20/\Hq (List.length x.2.1) x.1) (λx=>Aa x.1 x.2.1)
noncomputable abbrev Ca:Spec:=Co (.pair tL .unit) tL false true (λx=>List.length x.1<=20/\Hq (List.length x.1) x.1) (λx=>Af x.1)
noncomputable abbrev gg:Spec:=Co (.pair tI .unit) tL false true (λx=>0<=x.1/\x.1<=20) (λx=>upto x.1.toNat)
noncomputable abbrev Gb:Spec:=Co (.pair tL .unit) tL false true (λx=>Ej x.1=true) (λx=>Af x.1)
def An (g:List (List Int)) (l:Int):List Int:=if l>0 then g.getD (l-1).toNat [] else Af (g.getD (-l-1).toNat [])
def Im (n:Int) (l:Int):Prop:=l≠0/\ -n<=l/\l<=n
noncomputable abbrev Qw:Spec:=Co (.pair dX (.pair tI .unit)) tL false false (λx=>Im (List.length x.1) x.2.1/\List.length x.1<=8/\ ∀p∈x.1,Ej p=true) (λx=>An x.1 x.2.1)
def Ck (n:Nat):List Int:=(List.range n).flatMap λ(k:Nat)=> [(k:Int)+1,-((k:Int)+1)]
noncomputable abbrev Ug:Spec:=Co (.pair tI .unit) tL false true (λx=>0<=x.1/\x.1<=8) (λx=>Ck x.1.toNat)
noncomputable abbrev Zf:Spec:=Co (.pair Dc (.pair tL (.pair tI .unit))) tL false true (λx=>Bt x.1=true/\List.length x.2.1<=20/\(∀y∈x.2.1,0<=y/\y<x.1.1)/\Im (List.length x.1.2.2.1) x.2.2.1) (λx=>Aa x.2.1 (An x.1.2.2.1 x.2.2.1))
theorem qI (p q:List Int) (P:List Int->Prop):(((0:Int)<=(↑p.length:Int)/\(↑p.length:Int)<(↑Bj:Int)+(1:Int))/\(↑p.length:Int)=(↑p.length:Int)/\0=0/\(List.replicate (↑p.length:Int).toNat (Int.ofNat (nat_lit 0))).length=(List.replicate (↑p.length:Int).toNat (Int.ofNat (nat_lit 0))).length/\Bm (λ(v3:Int×List Int×PUnit) (k4:Int×List Int×PUnit->Prop)=>Br (decide (v3.1<(↑p.length:Int))) (∃(y5:Int),idx p v3.1=some y5/\ ∃(y6:Int),idx q y5=some y6/\((0:Int)<=v3.1/\v3.1<(↑v3.2.1.length:Int))/\0+v3.1.toNat<v3.2.1.length/\0=0/\v3.2.1.length=(v3.2.1.set (0+v3.1.toNat) y6).length/\k4 (IntKind.i64.wrap (v3.1+(1:Int)),v3.2.1.set (0+v3.1.toNat) y6,())) (P (List.take v3.2.1.length (List.drop 0 v3.2.1)))) ((0:Int),List.replicate (↑p.length:Int).toNat (Int.ofNat (nat_lit 0)),PUnit.unit))=fnW Cg (look []) Ud Tryz.f121 (p,q,()) P:=by kernel_rfl
theorem qJ (p:List Int) (P:List Int->Prop):(((0:Int)<=(↑p.length:Int)/\(↑p.length:Int)<(↑Bj:Int)+(1:Int))/\(↑p.length:Int)=(↑p.length:Int)/\0=0/\(List.replicate (↑p.length:Int).toNat (Int.ofNat (nat_lit 0))).length=(List.replicate (↑p.length:Int).toNat (Int.ofNat (nat_lit 0))).length/\Bm (λ(v2:Int×List Int×PUnit) (k3:Int×List Int×PUnit->Prop)=>Br (decide (v2.1<(↑p.length:Int))) (∃(y4:Int),idx p v2.1=some y4/\((0:Int)<=y4/\y4<(↑v2.2.1.length:Int))/\0+y4.toNat<v2.2.1.length/\0=0/\v2.2.1.length=(v2.2.1.set (0+y4.toNat) v2.1).length/\k3 (IntKind.i64.wrap (v2.1+(1:Int)),v2.2.1.set (0+y4.toNat) v2.1,())) (P (List.take v2.2.1.length (List.drop 0 v2.2.1)))) ((0:Int),List.replicate (↑p.length:Int).toNat (Int.ofNat (nat_lit 0)),PUnit.unit))=fnW Cg (look []) Ca Tryz.f56 (p,()) P:=by kernel_rfl
theorem IL (p:List Int) (P:List Int->Prop):(((0:Int)<=(↑p.length:Int)/\(↑p.length:Int)<(↑Bj:Int)+(1:Int))/\(↑p.length:Int)=(↑p.length:Int)/\0=0/\(List.replicate (↑p.length:Int).toNat (Int.ofNat (nat_lit 0))).length=(List.replicate (↑p.length:Int).toNat (Int.ofNat (nat_lit 0))).length/\Bm (λ(v2:Int×List Int×PUnit) (k3:Int×List Int×PUnit->Prop)=>Br (decide (v2.1<(↑p.length:Int))) (∃(y4:Int),idx p v2.1=some y4/\((0:Int)<=y4/\y4<(↑v2.2.1.length:Int))/\0+y4.toNat<v2.2.1.length/\0=0/\v2.2.1.length=(v2.2.1.set (0+y4.toNat) v2.1).length/\k3 (IntKind.i64.wrap (v2.1+(1:Int)),v2.2.1.set (0+y4.toNat) v2.1,())) (P (List.take v2.2.1.length (List.drop 0 v2.2.1)))) ((0:Int),List.replicate (↑p.length:Int).toNat (Int.ofNat (nat_lit 0)),PUnit.unit))=fnW Cg (look []) Ca Tryz.f76 (p,()) P:=by kernel_rfl
theorem qP (p:List Int) (P:List Int->Prop):(∃(y2:Bool),Du.fn (p,())=some y2/\Br (!y2) (P (List.take 0 (List.drop 0 []))) (∃(y3:List Int),Ca.fn (p,())=some y3/\P y3))=fnW Cg (look [(75,Du),(76,Ca)]) Gb Tryz.f55 (p,()) P:=by kernel_rfl
theorem BZ (n:Int) (P:List Int->Prop):(0=0/\0=([]:List Int).length/\Bm (λ(v2:Int×List Int×PUnit) (k3:Int×List Int×PUnit->Prop)=>Br (decide (v2.1<n)) (0=0/\v2.2.1.length=v2.2.1.length/\v2.2.1.length+(List.take 1 (List.drop 0 [v2.1])).length<=Bj/\0=0/\(v2.2.1++List.take 1 (List.drop 0 [v2.1])).length=(v2.2.1++List.take 1 (List.drop 0 [v2.1])).length/\k3 (IntKind.i64.wrap (v2.1+(1:Int)),v2.2.1++List.take 1 (List.drop 0 [v2.1]),())) (P (List.take v2.2.1.length (List.drop 0 v2.2.1)))) ((0:Int),[],PUnit.unit))=fnW Cg (look []) gg Tryz.f115 (n,()) P:=by kernel_rfl
theorem CC (g:List (List Int)) (l:Int) (P:List Int->Prop):(Br (decide (l>(0:Int))) (∃(y3:List Int),idx g (IntKind.i64.wrap (l-(1:Int)))=some y3/\P y3) (∃(y3:List Int),idx g (IntKind.i64.wrap (IntKind.i64.wrap ((0:Int)-l)-(1:Int)))=some y3/\ ∃(y4:List Int),Ca.fn (y3,())=some y4/\P y4))=fnW Cg (look [(56,Ca)]) Qw Tryz.f122 (g,l,()) P:=by kernel_rfl
theorem IF (n:Int) (P:List Int->Prop):(0=0/\0=([]:List Int).length/\Bm (λ(v2:Int×List Int×PUnit) (k3:Int×List Int×PUnit->Prop)=>Br (decide (v2.1<n)) (0=0/\v2.2.1.length=v2.2.1.length/\v2.2.1.length+(List.take 2 (List.drop 0 [IntKind.i64.wrap (v2.1+(1:Int)),IntKind.i64.wrap ((0:Int)-IntKind.i64.wrap (v2.1+(1:Int)))])).length<=Bj/\0=0/\(v2.2.1++List.take 2 (List.drop 0 [IntKind.i64.wrap (v2.1+(1:Int)),IntKind.i64.wrap ((0:Int)-IntKind.i64.wrap (v2.1+(1:Int)))])).length=(v2.2.1++List.take 2 (List.drop 0 [IntKind.i64.wrap (v2.1+(1:Int)),IntKind.i64.wrap ((0:Int)-IntKind.i64.wrap (v2.1+(1:Int)))])).length/\k3 (IntKind.i64.wrap (v2.1+(1:Int)),v2.2.1++List.take 2 (List.drop 0 [IntKind.i64.wrap (v2.1+(1:Int)),IntKind.i64.wrap ((0:Int)-IntKind.i64.wrap (v2.1+(1:Int)))]),())) (P (List.take v2.2.1.length (List.drop 0 v2.2.1)))) ((0:Int),[],PUnit.unit))=fnW Cg (look []) Ug Tryz.f106 (n,()) P:=by kernel_rfl
theorem OE (p:Int×ByteArray×List (List Int)×Unit) (s:List Int) (l:Int) (P:List Int->Prop):(∃(y4:List Int),idx p.2.2.1 (IntKind.i64.wrap ((if true=true then if IntKind.i64.wrap ((0:Int)-l)>l then IntKind.i64.wrap ((0:Int)-l) else l else if IntKind.i64.wrap ((0:Int)-l)<l then IntKind.i64.wrap ((0:Int)-l) else l)-(1:Int)))=some y4/\Br (decide (l<(0:Int))) (∃(y5:List Int),Gb.fn (y4,())=some y5/\0=0/\0=([]:List Int).length/\Bm (λ(v6:Int×List Int×PUnit) (k7:Int×List Int×PUnit->Prop)=>Br (decide (v6.1<(↑s.length:Int))) (∃(y8:Int),idx s v6.1=some y8/\ ∃(y9:Int),idx y5 y8=some y9/\0=0/\v6.2.1.length=v6.2.1.length/\v6.2.1.length+(List.take 1 (List.drop 0 [y9])).length<=Bj/\0=0/\(v6.2.1++List.take 1 (List.drop 0 [y9])).length=(v6.2.1++List.take 1 (List.drop 0 [y9])).length/\k7 (IntKind.i64.wrap (v6.1+(1:Int)),v6.2.1++List.take 1 (List.drop 0 [y9]),())) (P (List.take v6.2.1.length (List.drop 0 v6.2.1)))) ((0:Int),[],PUnit.unit)) (0=0/\0=([]:List Int).length/\Bm (λ(v5:Int×List Int×PUnit) (k6:Int×List Int×PUnit->Prop)=>Br (decide (v5.1<(↑s.length:Int))) (∃(y7:Int),idx s v5.1=some y7/\ ∃(y8:Int),idx y4 y7=some y8/\0=0/\v5.2.1.length=v5.2.1.length/\v5.2.1.length+(List.take 1 (List.drop 0 [y8])).length<=Bj/\0=0/\(v5.2.1++List.take 1 (List.drop 0 [y8])).length=(v5.2.1++List.take 1 (List.drop 0 [y8])).length/\k6 (IntKind.i64.wrap (v5.1+(1:Int)),v5.2.1++List.take 1 (List.drop 0 [y8]),())) (P (List.take v5.2.1.length (List.drop 0 v5.2.1)))) ((0:Int),[],PUnit.unit)))=fnW Cg (look [(55,Gb)]) Zf Tryz.f118 (p,s,l,()) P:=by kernel_rfl
theorem Ho {xs:List Int} {i:Nat} (h:i<xs.length):Ii xs (i:Int)=xs[i]:=by
 unfold Ii
 rw [Int.toNat_natCast,List.getD_eq_getElem?_getD,List.getElem?_eq_getElem h];rfl
theorem cA {xs:List Int} {y:Int} (h0:0<=y) (h:y<xs.length):idx xs y=some (Ii xs y):=by
 have hy:y.toNat<xs.length:=by omega
 have e:y=(y.toNat:Int):=by omega
 rw [e,Ap hy,Ho hy]
theorem To (f:Nat->Nat) (g:Nat->Int) (m:Nat) (init:List Int):Wk f g (m+1) init=(Wk f g m init).set (f m) (g m):=by simp [Wk,List.range_succ]
theorem Wl (f:Nat->Nat) (g:Nat->Int) (m:Nat) (init:List Int):(Wk f g m init).length=init.length:=by
 induction m with
 |zero=>rfl
 |succ m ih=>rw [To,List.length_set,ih]
theorem kH (f:Nat->Nat) (g:Nat->Int) (init:List Int): ∀(m:Nat),(∀i j,i<m->j<m->f i=f j->i=j)-> ∀i,i<m->f i<init.length->(Wk f g m init)[f i]?=some (g i)
 |0,_,i,h,_=>absurd h (Nat.not_lt_zero _)
 |m+1,hf,i,hi,hl=>by
  rw [To]
  by_cases e:i=m
  ·subst e
   exact List.getElem?_set_self (by rw [Wl];exact hl)
  ·rw [List.getElem?_set_ne (λh=>e (hf i m hi (by omega) h.symm))]
   exact kH f g init m (λa b ha hb=>hf a b (by omega) (by omega)) i (by omega) hl
structure Uq (p:List Int):Prop where
 pos:1<=p.length
 len:p.length<=20
 row:Hq p.length p
 nodup:p.Nodup
theorem az {p:List Int} (h:Ej p=true):Uq p:=by
 obtain ⟨h1,h2,h3⟩:=Di.1 h
 refine ⟨h1,h2,λy hy=>?_,cH λj hj=>(h3 j hj hj).2.2⟩
 obtain ⟨j,hj,rfl⟩:=List.mem_iff_getElem.1 hy
 have:=h3 j hj hj
 omega
theorem Uq.inj {p:List Int} (h:Uq p) (i j:Nat) (hi:i<p.length) (hj:j<p.length) (e:(Ii p (i:Int)).toNat=(Ii p (j:Int)).toNat):i=j:=by
 rw [Ho hi,Ho hj] at e
 have h1:=h.row _ (List.getElem_mem hi)
 have h2:=h.row _ (List.getElem_mem hj)
 have e:p[i]=p[j]:=by omega
 refine Classical.byContradiction λEy=>?_
 rcases Nat.lt_or_gt_of_ne Ey with hl|hl
 ·exact List.pairwise_iff_getElem.1 h.nodup i j hi hj hl e
 ·exact List.pairwise_iff_getElem.1 h.nodup j i hj hi hl e.symm
theorem Uq.MF {p:List Int} (h:Uq p) (k:Nat) (hk:k<p.length): ∃i,i<p.length/\(Ii p (i:Int)).toNat=k:=by
 have hm:=(Xm (xs:=p) h.row).2 (p7 h.nodup) k hk
 obtain ⟨i,hi,e⟩:=List.mem_iff_getElem.1 hm
 exact ⟨i,hi,by rw [Ho hi,e];exact Int.toNat_natCast k⟩
theorem Uq.lt {p:List Int} (h:Uq p) {i:Nat} (hi:i<p.length):(Ii p (i:Int)).toNat<p.length:=by
 rw [Ho hi]
 have:=h.row _ (List.getElem_mem hi)
 omega
theorem il (p:List Int):(Af p).length=p.length:=by unfold Af;rw [Wl,List.length_replicate]
theorem LH {p:List Int} (h:Uq p) {i:Nat} (hi:i<p.length):(Af p)[(Ii p (i:Int)).toNat]?=some (i:Int):=
 kH (λi=>(Ii p (i:Int)).toNat) (λi=>(i:Int)) _ p.length (λi j hi hj=>h.inj i j hi hj) i hi (by rw [List.length_replicate];exact h.lt hi)
theorem QQ {p:List Int} (h:Uq p):Hq p.length (Af p):=by
 intro y hy
 obtain ⟨k,hk,rfl⟩:=List.mem_iff_getElem.1 hy
 have nj:k<p.length:=by rw [il] at hk;exact hk
 obtain ⟨i,hi,rfl⟩:=h.MF k nj
 have:=LH h hi
 rw [List.getElem?_eq_getElem hk] at this
 rw [Option.some.inj this]
 omega
theorem Jp (p q:List Int):(Aa p q).length=p.length:=by simp [Aa]
theorem w6 {p q:List Int} {n:Nat} (hp:Hq q.length p) (hq:Hq n q):Hq n (Aa p q):=by
 intro y hy
 obtain ⟨x,hx,rfl⟩:=List.mem_map.1 hy
 have h1:=hp x hx
 rw [show x=(x.toNat:Int) by omega,Ho (by omega)]
 exact hq _ (List.getElem_mem _)
theorem pX (p q:List Int) (h:p.length<=20/\Hq q.length p):fnW Cg (look []) Ud Tryz.f121 (p,q,()) (λ(z:List Int)=>z=Aa p q):=by
 obtain ⟨h,hr⟩:=h
 refine Eq.mp (qI p q _) ?_
 refine ⟨⟨by omega,by show (p.length:Int)<(4294967296:Int)+1;omega⟩,rfl,rfl,rfl,?_⟩
 have Ly:=Jp p q
 refine Ai p.length (λv=>v.1) (λj v=>v.2.1.length=(Aa p q).length/\v.2.1.take j=(Aa p q).take j) rfl ⟨by rw [Ly];simp,by simp⟩ ?_
 rintro j ⟨i,ys,⟨⟩⟩ K hj hi ⟨h1,h2⟩ hK
 dsimp only at hi h1 h2⊢
 subst hi
 refine Br.dec (λhl=>?_) λhl=>?_
 ·have hl:j<p.length:=by omega
  have hy:=hr _ (List.getElem_mem hl)
  refine ⟨_,Ap hl,_,cA hy.1 hy.2,⟨by omega,by omega⟩,by rw [Int.toNat_natCast];omega,rfl,by rw [List.length_set],?_⟩
  rw [Ag (by omega),Int.toNat_natCast,Nat.zero_add]
  have Gm:j<(Aa p q).length:=by rw [Ly];exact hl
  have e:Ii q p[j]=(Aa p q)[j]:=by simp [Aa]
  rw [e]
  exact hK hl _ rfl ⟨by rw [List.length_set];exact h1,Kq Gm h1 h2⟩
 ·have:j=p.length:=by omega
  subst this
  rw [<-Ly,List.take_length,<-h1,List.take_length] at h2
  rw [List.drop_zero,List.take_length]
  exact h2
theorem Xc:Sound Tryz.prog 121 Ud:=
 Sound.Co Bg Al mixed Tryz.func121 (by kernel_rfl) (by kernel_rfl) λx h=>pX x.1 x.2.1 h
theorem pY (p:List Int) (h:p.length<=20/\Hq p.length p):fnW Cg (look []) Ca Tryz.f56 (p,()) (λ(z:List Int)=>z=Af p):=by
 obtain ⟨h,hr⟩:=h
 refine Eq.mp (qJ p _) ?_
 refine ⟨⟨by omega,by show (p.length:Int)<(4294967296:Int)+1;omega⟩,rfl,rfl,rfl,?_⟩
 refine Ai p.length (λv=>v.1) (λj v=>v.2.1=Wk (λi=>(Ii p (i:Int)).toNat) (λi=>(i:Int)) j (List.replicate p.length 0)) rfl rfl ?_
 rintro j ⟨i,ys,⟨⟩⟩ K hj hi h1 hK
 dsimp only at hi h1⊢
 subst hi
 have hlen:ys.length=p.length:=by rw [h1,Wl,List.length_replicate]
 refine Br.dec (λhl=>?_) λhl=>?_
 ·have hl:j<p.length:=by omega
  have hy:=hr _ (List.getElem_mem hl)
  refine ⟨_,Ap hl,⟨by omega,by omega⟩,by omega,rfl,by rw [List.length_set],?_⟩
  rw [Ag (by omega),Nat.zero_add]
  refine hK hl _ rfl ?_
  rw [To,<-h1,Ho hl]
 ·have:j=p.length:=by omega
  subst this
  rw [List.drop_zero,List.take_length]
  exact h1
theorem Kz:Sound Tryz.prog 56 Ca:=
 Sound.Co Bg Al mixed Tryz.func56 (by kernel_rfl) (by kernel_rfl) λx h=>pY x.1 h
theorem GN (p:List Int) (h:p.length<=20/\Hq p.length p):fnW Cg (look []) Ca Tryz.f76 (p,()) (λ(z:List Int)=>z=Af p):=by
 obtain ⟨h,hr⟩:=h
 refine Eq.mp (IL p _) ?_
 refine ⟨⟨by omega,by show (p.length:Int)<(4294967296:Int)+1;omega⟩,rfl,rfl,rfl,?_⟩
 refine Ai p.length (λv=>v.1) (λj v=>v.2.1=Wk (λi=>(Ii p (i:Int)).toNat) (λi=>(i:Int)) j (List.replicate p.length 0)) rfl rfl ?_
 rintro j ⟨i,ys,⟨⟩⟩ K hj hi h1 hK
 dsimp only at hi h1⊢
 subst hi
 have hlen:ys.length=p.length:=by rw [h1,Wl,List.length_replicate]
 refine Br.dec (λhl=>?_) λhl=>?_
 ·have hl:j<p.length:=by omega
  have hy:=hr _ (List.getElem_mem hl)
  refine ⟨_,Ap hl,⟨by omega,by omega⟩,by omega,rfl,by rw [List.length_set],?_⟩
  rw [Ag (by omega),Nat.zero_add]
  refine hK hl _ rfl ?_
  rw [To,<-h1,Ho hl]
 ·have:j=p.length:=by omega
  subst this
  rw [List.drop_zero,List.take_length]
  exact h1
theorem Rp:Sound Tryz.prog 76 Ca:=
 Sound.Co Bg Al mixed Tryz.func76 (by kernel_rfl) (by kernel_rfl) λx h=>GN x.1 h
theorem qb (p:List Int) (h:Ej p=true):fnW Cg (look [(75,Du),(76,Ca)]) Gb Tryz.f55 (p,()) (λ(z:List Int)=>z=Af p):=by
 have hp:=az h
 have hs:short p:=by have:=hp.len;unfold short;omega
 refine Eq.mp (qP p _) ⟨_,if_pos hs,⟨λhe=>?_,λ_=>⟨_,if_pos ⟨hp.len,hp.row⟩,rfl⟩⟩⟩
 exact absurd h (Dk he)
theorem Xf:Sound Tryz.prog 55 Gb:=
 Sound.Co Bg (Ae Md (Ae Rp Al)) mixed Tryz.func55 (by kernel_rfl) (by kernel_rfl) λx h=>qb x.1 h
theorem e8 (j:Nat):upto (j+1)=upto j++ [(j:Int)]:=by simp [upto,List.range_succ]
theorem zZ (n:Int) (h:0<=n/\n<=20):fnW Cg (look []) gg Tryz.f115 (n,()) (λ(z:List Int)=>z=upto n.toNat):=by
 refine Eq.mp (BZ n _) ⟨rfl,rfl,?_⟩
 refine Ai n.toNat (λv=>v.1) (λj v=>v.2.1=upto j) rfl rfl ?_
 rintro j ⟨i,ys,⟨⟩⟩ K hj hi h1 hK
 dsimp only at hi h1⊢
 subst hi h1
 refine Br.dec (λhl=>?_) λhl=>?_
 ·refine ⟨rfl,rfl,?_,rfl,rfl,?_⟩
  ·show (upto j).length+1<=4294967296
   rw [j7];omega
  ·rw [Ag (by omega)]
   exact hK (by omega) _ rfl (e8 j).symm
 ·have:j=n.toNat:=by omega
  subst this
  rw [List.drop_zero,List.take_length]
theorem oG:Sound Tryz.prog 115 gg:=
 Sound.Co Bg Al mixed Tryz.func115 (by kernel_rfl) (by kernel_rfl) λx h=>zZ x.1 h
theorem Qm {g:List (List Int)} {k:Nat} (h:k<g.length):An g ((k:Int)+1)=g[k]:=by
 unfold An
 rw [if_pos (by omega),show ((k:Int)+1-1).toNat=k by omega,List.getD_eq_getElem?_getD,List.getElem?_eq_getElem h];rfl
theorem Ql {g:List (List Int)} {k:Nat} (h:k<g.length):An g (-((k:Int)+1))=Af g[k]:=by
 unfold An
 rw [if_neg (by omega),show (-(-((k:Int)+1))-1).toNat=k by omega,List.getD_eq_getElem?_getD,List.getElem?_eq_getElem h];rfl
theorem Ts {n:Nat} {l:Int} (h:Im n l): ∃k:Nat,k<n/\(l=(k:Int)+1\/l= -((k:Int)+1)):=by
 obtain ⟨h1,h2,h3⟩:=h
 by_cases h0:0<l
 ·exact ⟨(l-1).toNat,by omega, .inl (by omega)⟩
 ·exact ⟨(-l-1).toNat,by omega, .inr (by omega)⟩
theorem AD (g:List (List Int)) (l:Int) (h:Im (List.length g) l/\List.length g<=8/\ ∀p∈g,Ej p=true):fnW Cg (look [(56,Ca)]) Qw Tryz.f122 (g,l,()) (λ(z:List Int)=>z=An g l):=by
 obtain ⟨hl,h8,hp⟩:=h
 refine Eq.mp (CC g l _) ?_
 obtain ⟨k,hk,rfl|rfl⟩:=Ts hl
 ·refine Br.dec (λ_=>?_) λhn=>by omega
  rw [Cp (by omega) (by omega),show (k:Int)+1-1=(k:Int) by omega]
  exact ⟨_,Ap hk,(Qm hk).symm⟩
 ·refine Br.dec (λhn=>by omega) λ_=>?_
  rw [Cp (n:=0- -((k:Int)+1)) (by omega) (by omega),Cp (by omega) (by omega),show (0:Int)- -((k:Int)+1)-1=(k:Int) by omega]
  have:=az (hp _ (List.getElem_mem hk))
  exact ⟨_,Ap hk,_,if_pos ⟨this.len,this.row⟩,(Ql hk).symm⟩
theorem oJ:Sound Tryz.prog 122 Qw:=
 Sound.Co Bg (Ae Kz Al) mixed Tryz.func122 (by kernel_rfl) (by kernel_rfl) λx h=>AD x.1 x.2.1 h
theorem Vk (j:Nat):Ck (j+1)=Ck j++ [(j:Int)+1,-((j:Int)+1)]:=by simp [Ck,List.range_succ,List.flatMap_append]
theorem Rl (j:Nat):(Ck j).length=2*j:=by
 induction j with
 |zero=>rfl
 |succ j ih=>rw [Vk,List.length_append,ih];simp only [List.length_cons,List.length_nil];omega
theorem Wv {n:Nat} {l:Int} (h:l∈Ck n):Im n l:=by
 unfold Ck at h
 obtain ⟨k,hk,hl⟩:=List.mem_flatMap.1 h
 have hk:=List.mem_range.1 hk
 simp only [List.mem_cons,List.not_mem_nil,or_false] at hl
 unfold Im
 omega
theorem GI (n:Int) (h:0<=n/\n<=8):fnW Cg (look []) Ug Tryz.f106 (n,()) (λ(z:List Int)=>z=Ck n.toNat):=by
 refine Eq.mp (IF n _) ⟨rfl,rfl,?_⟩
 refine Ai n.toNat (λv=>v.1) (λj v=>v.2.1=Ck j) rfl rfl ?_
 rintro j ⟨i,ys,⟨⟩⟩ K hj hi h1 hK
 dsimp only at hi h1⊢
 subst hi h1
 refine Br.dec (λhl=>?_) λhl=>?_
 ·refine ⟨rfl,rfl,?_,rfl,rfl,?_⟩
  ·show (Ck j).length+2<=4294967296
   rw [Rl];omega
  ·have e1:IntKind.i64.wrap ((j:Int)+1)=(j:Int)+1:=Cp (by omega) (by omega)
   have e2:IntKind.i64.wrap ((0:Int)-((j:Int)+1))= -((j:Int)+1):=by rw [Cp (by omega) (by omega)];omega
   rw [e1,e2]
   exact hK (by omega) _ rfl (Vk j).symm
 ·have:j=n.toNat:=by omega
  subst this
  rw [List.drop_zero,List.take_length]
theorem qp:Sound Tryz.prog 106 Ug:=
 Sound.Co Bg Al mixed Tryz.func106 (by kernel_rfl) (by kernel_rfl) λx h=>GI x.1 h
structure Valid (p:PP):Prop where
 n:1<=p.1/\p.1<=20
 sW:1<=p.2.2.1.length/\p.2.2.1.length<=8
 perm: ∀m∈p.2.2.1,Ej m=true
 len: ∀m∈p.2.2.1,(m.length:Int)=p.1
theorem valid {p:PP} (h:Bt p=true):Valid p:=by
 have h0:=BT h
 obtain ⟨h1,_,_⟩:=Di.1 h
 obtain ⟨_,_,h4⟩:=Di.1 h1
 exact ⟨⟨h0.1,h0.2.1⟩,h0.2.2,λm hm=>(Di.1 (h4 m hm)).2,λm hm=>(Di.1 (h4 m hm)).1⟩
theorem jF {p:PP} (h:Valid p) {l:Int} (hl:Im (List.length p.2.2.1) l):((An p.2.2.1 l).length:Int)=p.1/\Hq (An p.2.2.1 l).length (An p.2.2.1 l):=by
 obtain ⟨k,hk,rfl|rfl⟩:=Ts hl
 ·rw [Qm hk]
  exact ⟨h.len _ (List.getElem_mem hk),(az (h.perm _ (List.getElem_mem hk))).row⟩
 ·rw [Ql hk,il]
  exact ⟨h.len _ (List.getElem_mem hk),QQ (az (h.perm _ (List.getElem_mem hk)))⟩
theorem vN (s y:List Int) (P:List Int->Prop) (h1:s.length<=20) (h2:Hq y.length s) (h3:P (Aa s y)):
  Bm
   (λ(v5:Int×List Int×PUnit) (k6:Int×List Int×PUnit->Prop)=>
    Br (decide (v5.1<(↑s.length:Int)))
     (∃(y7:Int),
      idx s v5.1=some y7/\
       ∃(y8:Int),
        idx y y7=some y8/\
         (0:Nat)=(0:Nat)/\
          v5.2.1.length=v5.2.1.length/\
           v5.2.1.length+(List.take (1:Nat) (List.drop (0:Nat) [y8])).length<=Bj/\
            (0:Nat)=(0:Nat)/\
             (v5.2.1++List.take (1:Nat) (List.drop (0:Nat) [y8])).length=(v5.2.1++List.take (1:Nat) (List.drop (0:Nat) [y8])).length/\
              k6 (IntKind.i64.wrap (v5.1+(1:Int)),v5.2.1++List.take (1:Nat) (List.drop (0:Nat) [y8]),()))
     (P (List.take v5.2.1.length (List.drop (0:Nat) v5.2.1))))
   ((0:Int),([]:List Int),PUnit.unit):=by
 refine Ai s.length (λv=>v.1) (λj v=>v.2.1=(s.take j).map (Ii y)) rfl (by simp) ?_
 rintro j ⟨i,ys,⟨⟩⟩ K hj hi hR hK
 dsimp only at hi hR⊢
 subst hi hR
 refine Br.dec (λhl=>?_) λhl=>?_
 ·have hl:j<s.length:=by omega
  have hy:=h2 _ (List.getElem_mem hl)
  refine ⟨_,Ap hl,_,cA hy.1 hy.2,rfl,rfl,?_,rfl,rfl,?_⟩
  ·show ((s.take j).map (Ii y)).length+1<=4294967296
   rw [List.length_map,List.length_take];omega
  ·rw [Ag (by omega)]
   refine hK hl _ rfl ?_
   dsimp only
   rw [List.take_succ_eq_append_getElem hl,List.map_append]
   rfl
 ·have:j=s.length:=by omega
  subst this
  rw [List.drop_zero,List.take_length,List.take_length]
  exact h3
theorem MH (p:PP) (s:List Int) (l:Int) (h:Bt p=true/\List.length s<=20/\(∀y∈s,0<=y/\y<p.1)/\Im (List.length p.2.2.1) l):fnW Cg (look [(55,Gb)]) Zf Tryz.f118 (p,s,l,()) (λ(z:List Int)=>z=Aa s (An p.2.2.1 l)):=by
 obtain ⟨hv,hs,hr,hl⟩:=h
 have hv:=valid hv
 have hf:=hv.sW
 refine Eq.mp (OE p s l _) ?_
 have FC:=jF hv hl
 have Gf:Hq (An p.2.2.1 l).length s:= λy hy=>by have:=hr y hy;omega
 obtain ⟨k,hk,rfl|rfl⟩:=Ts hl
 ·rw [if_pos rfl,Cp (n:=0-((k:Int)+1)) (by omega) (by omega),if_neg (by omega),Cp (by omega) (by omega),show (k:Int)+1-1=(k:Int) by omega]
  refine ⟨_,Ap hk,Br.dec (λhn=>by omega) λ_=>⟨rfl,rfl,?_⟩⟩
  rw [Qm hk] at Gf⊢
  exact vN s _ (λz=>z=Aa s p.2.2.1[k]) hs Gf rfl
 ·rw [if_pos rfl,Cp (n:=0- -((k:Int)+1)) (by omega) (by omega),if_pos (by omega),Cp (by omega) (by omega),show (0:Int)- -((k:Int)+1)-1=(k:Int) by omega]
  refine ⟨_,Ap hk,Br.dec (λ_=>⟨_,if_pos (hv.perm _ (List.getElem_mem hk)),rfl,rfl,?_⟩) λhn=>by omega⟩
  rw [Ql hk] at Gf⊢
  exact vN s (Af p.2.2.1[k]) (λz=>z=Aa s (Af p.2.2.1[k])) hs Gf rfl
theorem uw:Sound Tryz.prog 118 Zf:=
 Sound.Co Bg (Ae Xf Al) mixed Tryz.func118 (by kernel_rfl) (by kernel_rfl) λx h=>MH x.1 x.2.1 x.2.2.1 h
end Go.Proofs.YtfolipnappekaaaGreat

namespace Go.Proofs.YtfolipnappekaaaGreat
open Go.RowKit
abbrev rL:CK:= .row tI 2
abbrev xLL:CK:= .Dq tL 26
def dO:List (List Int)->Nat
 | []=>0
 |r::rs=>r.length+dO rs
def low (k:Int):Prop:=0<=k/\k<=1099511627776
theorem Bi {α:Type} (xs:List α):List.take xs.length (List.drop 0 xs)=xs:=by rw [List.drop_zero,List.take_length]
end Go.Proofs.YtfolipnappekaaaGreat

namespace Go.Proofs.YtfolipnappekaaaGreat
open Go.RowKit
theorem jH (a:List Int):At a a=true:=by simp [At]
theorem NH {n:Nat} {room:Int} (h: ¬jI n room<0):jI n room=room-n/\(n:Int)<=room:=by
 unfold jI at*
 split at h
 ·exact absurd (show (-1:Int)<0 by decide) h
 ·rename_i h1;rw [if_neg h1];exact ⟨rfl,by omega⟩
theorem xY: ∀(xs:List (List Int)) (room:Int),0<=room-> ¬oY xs room<0->oY xs room=room-dO xs
 | [],room,_,_=>by simp [oY,dO]
 |r::xs,room,h0,h=>by
  simp only [oY,dO] at h⊢
  split at h
  ·exact absurd (show (-1:Int)<0 by decide) h
  ·rename_i h1
   rw [if_neg h1]
   have e1:=NH (n:=r.length) h1
   have e1:Vl r room=room-r.length/\(r.length:Int)<=room:=e1
   rw [xY xs _ (by rw [e1.1];omega) h,e1.1]
   omega
theorem NF {xs:List (List Int)} {room:Int} (h: ¬Mm xs room<0):Mm xs room=room-xs.length-dO xs:=by
 unfold Mm at*
 split at h
 ·exact absurd (show (-1:Int)<0 by decide) h
 ·rename_i h1
  rw [if_neg h1]
  have e1:=NH h1
  rw [xY xs _ (by rw [e1.1];omega) h,e1.1]
end Go.Proofs.YtfolipnappekaaaGreat

namespace Go.Proofs.YtfolipnappekaaaGreat
open Go.RowKit
noncomputable abbrev oh:MSpec:=me [none] [(false, .Ee (.oslice tI))] false [none] [rL] (λx=>short (x.1.getD [])) (λx=>((x.1.getD [],()),()))
noncomputable abbrev Vq:MSpec:=me [none] [(false, .Ee tL)] false [none] [rL] (λx=>short x.1) (λx=>((x.1,()),()))
noncomputable abbrev Fb:Spec:=Co (.pair tL .unit) tL false true (λx=>short x.1) (λx=>x.1)
theorem OF (xs:Option (List Int)) (P:((List Int×Unit)×Unit)->Prop):(Br xs.isNone (P ((List.take 0 (List.drop 0 []),()),())) (0=0/\0=([]:List Int).length/\0+(xs.getD []).length<=Bj/\P ((List.take ([]++xs.getD []).length (List.drop 0 ([]++xs.getD [])),()),())))=fnMW kx (look []) oh Tryz.f138 (xs,()) P:=by kernel_rfl
theorem BX (xs:List Int) (P:List Int->Prop):(0=0/\0=([]:List Int).length/\0+xs.length<=Bj/\P (List.take ([]++xs).length (List.drop 0 ([]++xs))))=fnW Cg (look []) Fb Tryz.f116 (xs,()) P:=by kernel_rfl
theorem MI (xs:Option (List Int)) (h:short (xs.getD [])):fnMW kx (look []) oh Tryz.f138 (xs,()) (λ(z:(List Int×Unit)×Unit)=>z=((xs.getD [],()),())):=by
 unfold short at h
 refine Eq.mp (OF xs _) ⟨λhn=>?_,λ_=>⟨rfl,rfl,by show 0+(xs.getD []).length<=4294967296;omega,?_⟩⟩
 ·cases xs with
  |none=>rfl
  |some y=>cases hn
 ·simp only [Bi,List.nil_append]
theorem ux:Bf Tryz.prog 138 oh:=
 Bf.me gx Al mixed Tryz.func138 (by kernel_rfl) (by kernel_rfl) λx h=>MI x.1 h
theorem iQ:Bf Tryz.prog 138 Vq:=Bf.ofO ux λ_ _ h=>⟨h,rfl⟩
theorem zX (xs:List Int) (h:short xs):fnW Cg (look []) Fb Tryz.f116 (xs,()) (λ(z:List Int)=>z=xs):=by
 unfold short at h
 refine Eq.mp (BX xs _) ⟨rfl,rfl,by show 0+xs.length<=4294967296;omega,?_⟩
 simp only [Bi,List.nil_append]
theorem Pk:Sound Tryz.prog 116 Fb:=
 Sound.Co Bg Al mixed Tryz.func116 (by kernel_rfl) (by kernel_rfl) λx h=>zX x.1 h
end Go.Proofs.YtfolipnappekaaaGreat

namespace Go.Proofs.YtfolipnappekaaaGreat
open Go.RowKit
def Bx (xs is:List Int):List Int:=is.map (Ii xs)
noncomputable abbrev Uh:MSpec:=me [none,none] [(false, .Ee tL),(false, .Ee tL)] false [none] [rL] (λx=>short x.2.1/\Hq (List.length x.1) x.2.1) (λx=>((Bx x.1 x.2.1,()),()))
noncomputable abbrev Uj:Spec:=Co (.pair tL (.pair tL .unit)) tL false true (λx=>short x.1/\Hq (List.length x.2.1) x.1) (λx=>Bx x.2.1 x.1)
def Pv (xs:List Int):ByteArray:=bytesOf (xs.map λx=>IntKind.u8.wrap x)
noncomputable abbrev Fy:Spec:=Co (.pair tL .unit) .str false true (λx=>short x.1) (λx=>Pv x.1)
def iF (ps:List (List Int)) (p:List Int):Int:=Dt (λq=>decide (q=p)) ps 0
theorem II (xs is:List Int) (P:((List Int×Unit)×Unit)->Prop):(((0:Int)<=(↑is.length:Int)/\(↑is.length:Int)<(↑Bj:Int)+(1:Int))/\(↑is.length:Int)=(↑is.length:Int)/\0=0/\(List.replicate (↑is.length:Int).toNat (Int.ofNat (nat_lit 0))).length=(List.replicate (↑is.length:Int).toNat (Int.ofNat (nat_lit 0))).length/\Bm (λ(v3:Int×List Int×PUnit) (k4:Int×List Int×PUnit->Prop)=>Br (decide (v3.1<(↑is.length:Int))) (∃(y5:Int),idx is v3.1=some y5/\ ∃(y6:Int),idx xs y5=some y6/\((0:Int)<=v3.1/\v3.1<(↑v3.2.1.length:Int))/\0+v3.1.toNat<v3.2.1.length/\0=0/\v3.2.1.length=(v3.2.1.set (0+v3.1.toNat) y6).length/\k4 (IntKind.i64.wrap (v3.1+(1:Int)),v3.2.1.set (0+v3.1.toNat) y6,())) (P ((List.take v3.2.1.length (List.drop 0 v3.2.1),()),()))) ((0:Int),List.replicate (↑is.length:Int).toNat (Int.ofNat (nat_lit 0)),PUnit.unit))=fnMW kx (look []) Uh Tryz.f80 (xs,is,()) P:=by kernel_rfl
theorem IK (is xs:List Int) (P:List Int->Prop):(0=0/\0=([]:List Int).length/\Bm (λ(v3:Int×List Int×PUnit) (k4:Int×List Int×PUnit->Prop)=>Br (decide (v3.1<(↑is.length:Int))) (∃(y5:Int),idx is v3.1=some y5/\ ∃(y6:Int),idx xs y5=some y6/\0=0/\v3.2.1.length=v3.2.1.length/\v3.2.1.length+(List.take 1 (List.drop 0 [y6])).length<=Bj/\0=0/\(v3.2.1++List.take 1 (List.drop 0 [y6])).length=(v3.2.1++List.take 1 (List.drop 0 [y6])).length/\k4 (IntKind.i64.wrap (v3.1+(1:Int)),v3.2.1++List.take 1 (List.drop 0 [y6]),())) (P (List.take v3.2.1.length (List.drop 0 v3.2.1)))) ((0:Int),[],PUnit.unit))=fnW Cg (look []) Uj Tryz.f78 (is,xs,()) P:=by kernel_rfl
theorem CH (xs:List Int) (P:ByteArray->Prop):(((0:Int)<=(↑xs.length:Int)/\(↑xs.length:Int)<(↑Bj:Int)+(1:Int))/\(↑xs.length:Int)=(↑xs.length:Int)/\0=0/\(List.replicate (↑xs.length:Int).toNat (Int.ofNat (nat_lit 0))).length=(List.replicate (↑xs.length:Int).toNat (Int.ofNat (nat_lit 0))).length/\Bm (λ(v2:Int×List Int×PUnit) (k3:Int×List Int×PUnit->Prop)=>Br (decide (v2.1<(↑xs.length:Int))) (∃(y4:Int),idx xs v2.1=some y4/\((0:Int)<=v2.1/\v2.1<(↑v2.2.1.length:Int))/\0+v2.1.toNat<v2.2.1.length/\0=0/\v2.2.1.length=(v2.2.1.set (0+v2.1.toNat) (IntKind.u8.wrap y4)).length/\k3 (IntKind.i64.wrap (v2.1+(1:Int)),v2.2.1.set (0+v2.1.toNat) (IntKind.u8.wrap y4),())) (P (bytesOf (List.take v2.2.1.length (List.drop 0 v2.2.1))))) ((0:Int),List.replicate (↑xs.length:Int).toNat (Int.ofNat (nat_lit 0)),PUnit.unit))=fnW Cg (look []) Fy Tryz.f79 (xs,()) P:=by kernel_rfl
theorem nZ (xs is:List Int):(Bx xs is).length=is.length:=by simp [Bx]
theorem QV {α:Type} (y:α):List.take 1 (List.drop 0 [y])= [y]:=rfl
theorem GK (xs is:List Int) (h:short is/\Hq xs.length is):fnMW kx (look []) Uh Tryz.f80 (xs,is,()) (λ(z:(List Int×Unit)×Unit)=>z=((Bx xs is,()),())):=by
 obtain ⟨h,hr⟩:=h
 unfold short at h
 refine Eq.mp (II xs is _) ?_
 refine ⟨⟨by omega,by show (is.length:Int)<(4294967296:Int)+1;omega⟩,rfl,rfl,rfl,?_⟩
 have Ly:=nZ xs is
 refine Ai is.length (λv=>v.1) (λj v=>v.2.1.length=(Bx xs is).length/\v.2.1.take j=(Bx xs is).take j) rfl ⟨by rw [Ly];simp,by simp⟩ ?_
 rintro j ⟨i,ys,⟨⟩⟩ K hj hi ⟨h1,h2⟩ hK
 dsimp only at hi h1 h2⊢
 subst hi
 refine Br.dec (λhl=>?_) λhl=>?_
 ·have hl:j<is.length:=by omega
  have hy:=hr _ (List.getElem_mem hl)
  refine ⟨_,Ap hl,_,cA hy.1 hy.2,⟨by omega,by omega⟩,by rw [Int.toNat_natCast];omega,rfl,by rw [List.length_set],?_⟩
  rw [Ag (by omega),Int.toNat_natCast,Nat.zero_add]
  have Gm:j<(Bx xs is).length:=by rw [Ly];exact hl
  have e:Ii xs is[j]=(Bx xs is)[j]:=by simp [Bx]
  rw [e]
  exact hK hl _ rfl ⟨by rw [List.length_set];exact h1,Kq Gm h1 h2⟩
 ·have:j=is.length:=by omega
  subst this
  rw [<-Ly,List.take_length,<-h1,List.take_length] at h2
  rw [List.drop_zero,List.take_length,h2]
theorem qv:Bf Tryz.prog 80 Uh:=
 Bf.me gx Al mixed Tryz.func80 (by kernel_rfl) (by kernel_rfl) λx h=>GK x.1 x.2.1 h
theorem GM (is xs:List Int) (h:short is/\Hq xs.length is):fnW Cg (look []) Uj Tryz.f78 (is,xs,()) (λ(z:List Int)=>z=Bx xs is):=by
 obtain ⟨h,hr⟩:=h
 unfold short at h
 refine Eq.mp (IK is xs _) ⟨rfl,rfl,?_⟩
 have Ly:=nZ xs is
 refine Ai is.length (λv=>v.1) (λj v=>v.2.1=(Bx xs is).take j) rfl rfl ?_
 rintro j ⟨i,ys,⟨⟩⟩ K hj hi h1 hK
 dsimp only at hi h1⊢
 subst hi
 refine Br.dec (λhl=>?_) λhl=>?_
 ·have hl:j<is.length:=by omega
  have hy:=hr _ (List.getElem_mem hl)
  have Gm:j<(Bx xs is).length:=by rw [Ly];exact hl
  refine ⟨_,Ap hl,_,cA hy.1 hy.2,rfl,rfl,?_,rfl,rfl,?_⟩
  ·show ys.length+1<=4294967296
   rw [h1,List.length_take];omega
  ·rw [Ag (by omega),QV]
   refine hK hl _ rfl ?_
   dsimp only
   rw [h1,List.take_succ_eq_append_getElem Gm]
   simp [Bx]
 ·have:j=is.length:=by omega
  subst this
  rw [Bi,h1,<-Ly,List.take_length]
theorem qx:Sound Tryz.prog 78 Uj:=
 Sound.Co Bg Al mixed Tryz.func78 (by kernel_rfl) (by kernel_rfl) λx h=>GM x.1 x.2.1 h
theorem AI (xs:List Int) (h:short xs):fnW Cg (look []) Fy Tryz.f79 (xs,()) (λ(z:ByteArray)=>z=Pv xs):=by
 unfold short at h
 refine Eq.mp (CH xs _) ?_
 refine ⟨⟨by omega,by show (xs.length:Int)<(4294967296:Int)+1;omega⟩,rfl,rfl,rfl,?_⟩
 have Ly:(xs.map λx=>IntKind.u8.wrap x).length=xs.length:=by simp
 refine Ai xs.length (λv=>v.1) (λj v=>v.2.1.length=(xs.map λx=>IntKind.u8.wrap x).length/\v.2.1.take j=(xs.map λx=>IntKind.u8.wrap x).take j) rfl ⟨by rw [Ly];simp,by simp⟩ ?_
 rintro j ⟨i,ys,⟨⟩⟩ K hj hi ⟨h1,h2⟩ hK
 dsimp only at hi h1 h2⊢
 subst hi
 refine Br.dec (λhl=>?_) λhl=>?_
 ·have hl:j<xs.length:=by omega
  refine ⟨_,Ap hl,⟨by omega,by omega⟩,by rw [Int.toNat_natCast];omega,rfl,by rw [List.length_set],?_⟩
  rw [Ag (by omega),Int.toNat_natCast,Nat.zero_add]
  have Gm:j<(xs.map λx=>IntKind.u8.wrap x).length:=by rw [Ly];exact hl
  have e:IntKind.u8.wrap xs[j]=(xs.map λx=>IntKind.u8.wrap x)[j]:=by simp
  rw [e]
  exact hK hl _ rfl ⟨by rw [List.length_set];exact h1,Kq Gm h1 h2⟩
 ·have:j=xs.length:=by omega
  subst this
  rw [<-Ly,List.take_length,<-h1,List.take_length] at h2
  rw [List.drop_zero,List.take_length,h2];rfl
theorem Vv:Sound Tryz.prog 79 Fy:=
 Sound.Co Bg Al mixed Tryz.func79 (by kernel_rfl) (by kernel_rfl) λx h=>AI x.1 h
theorem bo {α:Type} (P:α->Bool) (y:α): ∀(l:List α) (i:Int),0<=i->Dt P (l++ [y]) i=if Dt P l i<0 then (if P y=true then i+l.length else-1) else Dt P l i
 | [],i,_=>by simp [Dt]
 |x::r,i,h=>by
  simp only [List.cons_append,Dt,List.length_cons]
  split
  ·rw [if_neg (by omega)]
  ·rw [bo P y r (i+1) (by omega),show i+1+(r.length:Int)=i+((r.length+1:Nat):Int) by push_cast;omega]
theorem ua (ps:List (List Int)) (q p:List Int):iF (ps++ [q]) p=if iF ps p<0 then (if q=p then (ps.length:Int) else-1) else iF ps p:=by
 unfold iF
 rw [bo _ _ _ _ (Int.le_refl 0)]
 simp only [decide_eq_true_eq,Int.zero_add]
def bd (p:List Int):Prop:= ∀x∈p,0<=x/\x<256
theorem JP {x y:Int} (hx:0<=x/\x<256) (hy:0<=y/\y<256) (h:UInt8.ofNat (IntKind.u8.wrap x).toNat=UInt8.ofNat (IntKind.u8.wrap y).toNat):x=y:=by
 have h:=congrArg UInt8.toNat h
 simp only [IntKind.wrap_u8,UInt8.toNat_ofNat'] at h
 omega
theorem bytes_inj: ∀(p q:List Int),bd p->bd q->(p.map λx=>UInt8.ofNat (IntKind.u8.wrap x).toNat)=(q.map λx=>UInt8.ofNat (IntKind.u8.wrap x).toNat)->p=q
 | [],[],_,_,_=>rfl
 | [],_::_,_,_,h=>by simp at h
 |_::_,[],_,_,h=>by simp at h
 |x::p,y::q,hp,hq,h=>by
  simp only [List.map_cons,List.cons.injEq] at h
  rw [JP (hp x (by simp)) (hq y (by simp)) h.1,bytes_inj p q (λz hz=>hp z (by simp [hz])) (λz hz=>hq z (by simp [hz])) h.2]
theorem key_inj {p q:List Int} (hp:bd p) (hq:bd q) (h:Pv p=Pv q):p=q:=by
 refine bytes_inj p q hp hq ?_
 simp only [Pv,bytesOf,ByteArray.mk.injEq,List.map_map] at h
 have h:=congrArg Array.toList h
 simpa [Function.comp_def] using h
def KM (m:ByteArray->Option Int) (ps:List (List Int)):Prop:= ∀p,bd p->m (Pv p)=if iF ps p<0 then none else some (iF ps p)
theorem KM.nil:KM (λ_=>none) []:= λp _=>by
 rw [if_pos (by unfold iF;simp [Dt])]
theorem KM.add {m:ByteArray->Option Int} {ps:List (List Int)} {q:List Int} (h:KM m ps) (hq:bd q) (hn:iF ps q<0):KM (dp m (Pv q) (ps.length:Int)) (ps++ [q]):=by
 intro p hp
 rw [ua]
 unfold dp
 by_cases e:p=q
 ·subst e
  rw [if_pos rfl,if_pos hn,if_pos rfl,if_neg (by omega)]
 ·rw [if_neg (λhk=>e (key_inj hp hq hk)),h p hp]
  have e': ¬q=p:= λh=>e h.symm
  rw [if_neg e']
  by_cases FI:iF ps p<0
  ·rw [if_pos FI,if_pos FI,if_pos (by decide)]
  ·rw [if_neg FI,if_neg FI,if_neg FI]
end Go.Proofs.YtfolipnappekaaaGreat

namespace Go.Proofs.YtfolipnappekaaaGreat
open Go.RowKit
noncomputable abbrev Od:Spec:=Co (.pair Dc .unit) tL false true (λx=>List.length x.1.2.2.1<=8) (λx=>Ck (List.length x.1.2.2.1))
abbrev iY:Type:=Int×Int×ByteArray×List (List Int)×List Int×PUnit
theorem yq (p:Int×ByteArray×List (List Int)×Unit) (P:List Int->Prop):(0=0/\0=([]:List Int).length/\Bm (λ(v2:iY) (k3:iY->Prop)=>Br (decide (v2.1<=(↑v2.2.2.2.1.length:Int))) (0=0/\v2.2.2.2.2.1.length=v2.2.2.2.2.1.length/\v2.2.2.2.2.1.length+(List.take 2 (List.drop 0 [v2.1,IntKind.i64.wrap ((0:Int)-v2.1)])).length<=Bj/\0=0/\(v2.2.2.2.2.1++List.take 2 (List.drop 0 [v2.1,IntKind.i64.wrap ((0:Int)-v2.1)])).length=(v2.2.2.2.2.1++List.take 2 (List.drop 0 [v2.1,IntKind.i64.wrap ((0:Int)-v2.1)])).length/\k3 (IntKind.i64.wrap (v2.1+(1:Int)),v2.2.1,v2.2.2.1,v2.2.2.2.1,v2.2.2.2.2.1++List.take 2 (List.drop 0 [v2.1,IntKind.i64.wrap ((0:Int)-v2.1)]),())) (P (List.take v2.2.2.2.2.1.length (List.drop 0 v2.2.2.2.2.1)))) ((1:Int),p.1,p.2.1,p.2.2.1,[],PUnit.unit))=fnW Cg (look []) Od Tryz.f141 (p,()) P:=by kernel_rfl
theorem xz (p:PP) (h:List.length p.2.2.1<=8):fnW Cg (look []) Od Tryz.f141 (p,()) (λ(z:List Int)=>z=Ck (List.length p.2.2.1)):=by
 refine Eq.mp (yq p _) ⟨rfl,rfl,?_⟩
 refine Bm.mk (λv=> ∃j:Nat,j<=List.length p.2.2.1/\v=((j:Int)+1,p.1,p.2.1,p.2.2.1,Ck j,())) (λv=>List.length p.2.2.1+1-v.1.toNat) ⟨0,Nat.zero_le _,rfl⟩ ?_
 rintro _ ⟨j,hj,rfl⟩
 dsimp only
 refine Br.dec (λhl=>?_) λhl=>?_
 ·refine ⟨rfl,rfl,?_,rfl,rfl,⟨j+1,by omega,?_⟩,?_⟩
  ·show (Ck j).length+2<=4294967296
   rw [Rl];omega
  ·rw [Vk,Cp (n:=(j:Int)+1+1) (by omega) (by omega),Cp (n:=0-((j:Int)+1)) (by omega) (by omega),Int.zero_sub]
   rfl
  ·rw [Cp (by omega) (by omega)];omega
 ·have:j=List.length p.2.2.1:=by omega
  subst this
  rw [Bi]
theorem lQ:Sound Tryz.prog 141 Od:=
 Sound.Co Bg Al mixed Tryz.func141 (by kernel_rfl) (by kernel_rfl) λx h=>xz x.1 h
theorem LG {a:Int} {P:Prop} (h:(a !=a)=true):P:=by simp at h
theorem NG {p:PP} {room:Int} (hr:roomy room) (h: ¬nH p room<0):(dO p.2.2.1:Int)<=room-nH p room/\roomy (nH p room):=by
 unfold nH at h⊢
 split at h
 ·exact absurd (show (-1:Int)<0 by decide) h
 ·rename_i h1
  rw [if_neg h1]
  split at h
  ·exact absurd (show (-1:Int)<0 by decide) h
  ·rename_i h2
   rw [if_neg h2]
   have e2:=NF h2
   obtain ⟨r1,r2⟩:=hr
   unfold roomy
   omega
end Go.Proofs.YtfolipnappekaaaGreat

namespace Go.Proofs.YtfolipnappekaaaGreat
open Go.RowKit
def tH (v:Int):List Int->Nat
 | []=>0
 |x::r=>if x>v then tH v r+1 else 0
def QR (v:Int) (t:List Int):Option (List Int):=if tH v t=0 then none else some (Ii t ((tH v t-1:Nat):Int)::(t.set (tH v t-1) v).reverse)
def cG:List Int->Option (List Int)
 | []=>none
 |v::t=>match cG t with
  |some t'=>some (v::t')
  |none=>QR v t
theorem xh {s s':List Int} (h:cG s=some s'): ∀pre:List Int,cG (pre++s)=some (pre++s')
 | []=>h
 |v::p=>by rw [List.cons_append,cG,xh h p];rfl
theorem RG {α:Type} (pre:List α) (v a:α) (t:List α):(pre++v::t).set pre.length a=pre++a::t:=by
 rw [List.set_append,if_neg (by omega)];simp
inductive CN:List Int->List (List Int)->List Int->Prop where
 |one (a:List Int):CN a [a] a
 |more {a c b:List Int} {L:List (List Int)} :cG a=some c->CN c L b->CN a (a::L) b
theorem CN.cons {a b:List Int} {L:List (List Int)} (h:CN a L b) (v:Int):CN (v::a) (L.map (v:: ·)) (v::b):=by
 induction h with
 |one a=>exact .one _
 |more h3 _ ih=>exact .more (xh h3 [v]) ih
theorem CN.head {a b:List Int} {L:List (List Int)} (h:CN a L b): ∃M,L=a::M:=by
 cases h with
 |one=>exact ⟨_,rfl⟩
 |more _ _=>exact ⟨_,rfl⟩
theorem CN.at {a b:List Int} {L:List (List Int)} (h:CN a L b): ∀j (hj:j<L.length),(∀h2:j+1<L.length,cG L[j]=some L[j+1])/\(j+1=L.length->L[j]=b):=by
 induction h with
 |one a=>
  intro j hj
  simp only [List.length_singleton] at hj
  have:j=0:=by omega
  subst this
  exact ⟨λh2=>by simp at h2,λ_=>rfl⟩
 |more h3 h4 ih=>
  intro j hj
  rcases j with _|j
  ·obtain ⟨M,hM⟩:=h4.head
   refine ⟨λh2=>?_,λh2=>?_⟩
   ·simp only [List.getElem_cons_zero,List.getElem_cons_succ]
    subst hM
    exact h3
   ·subst hM;simp at h2
  ·have:=ih j (by simpa using hj)
   refine ⟨λh2=>?_,λh2=>?_⟩
   ·simp only [List.getElem_cons_succ]
    exact this.1 (by simpa using h2)
   ·simp only [List.getElem_cons_succ]
    exact this.2 (by simpa using h2)
theorem CN.distinct {a b:List Int} {L:List (List Int)} (h:CN a L b) (hb:cG b=none): ∀k i j (hi:i<L.length) (hj:j<L.length),L.length-j=k->i<j->L[i]≠L[j]:=by
 intro k
 induction k with
 |zero=>intro i j hi hj hk;omega
 |succ k ih=>
  intro i j hi hj hk jC he
  by_cases e:j+1<L.length
  ·have h1:=(h.at i hi).1 (by omega)
   have h2:=(h.at j hj).1 e
   rw [he,h2] at h1
   exact ih (i+1) (j+1) (by omega) e (by omega) (by omega) (Option.some.inj h1).symm
  ·have h1:=(h.at i hi).1 (by omega)
   have h2:=(h.at j hj).2 (by omega)
   rw [he,h2,hb] at h1
   cases h1
theorem CN.idx {a b:List Int} {L:List (List Int)} (h:CN a L b) (hb:cG b=none) {j:Nat} (hj:j<L.length):L.idxOf L[j]=j:=by
 have h1:L.idxOf L[j]<L.length:=List.idxOf_lt_length_of_mem (List.getElem_mem _)
 have h2:L[L.idxOf L[j]]=L[j]:=List.getElem_idxOf h1
 rcases Nat.lt_trichotomy (L.idxOf L[j]) j with h3|h3|h3
 ·exact absurd h2 (h.distinct hb _ _ _ h1 hj rfl h3)
 ·exact h3
 ·exact absurd h2.symm (h.distinct hb _ _ _ hj h1 rfl h3)
end Go.Proofs.YtfolipnappekaaaGreat

namespace Go.Proofs.YtfolipnappekaaaGreat
open Go.RowKit
def Cf:List Int->List Int->Int
 | [],[]=>0
 | [],_::_=> -1
 |_::_,[]=>1
 |x::a,y::b=>if x<y then-1 else if x>y then 1 else Cf a b
def an (a b:List Int):Bool:=decide (Cf a b<0)
noncomputable abbrev Ra:Spec:=Co (.pair tL (.pair tL .unit)) .bool false true (λx=>short x.1/\List.length x.1=List.length x.2.1) (λx=>an x.1 x.2.1)
theorem CE (a b:List Int) (P:Bool->Prop):(Bm (λ(v3:Int×PUnit) (k4:Int×PUnit->Prop)=>Br (decide (v3.1<(↑a.length:Int))) (∃(y5:Int),idx a v3.1=some y5/\ ∃(y6:Int),idx b v3.1=some y6/\Br (y5 !=y6) (∃(y7:Int),idx a v3.1=some y7/\ ∃(y8:Int),idx b v3.1=some y8/\P (decide (y7<y8))) (k4 (IntKind.i64.wrap (v3.1+(1:Int)),()))) (P false)) ((0:Int),PUnit.unit))=fnW Cg (look []) Ra Tryz.f158 (a,b,()) P:=by kernel_rfl
theorem Sound.ofO {P:Program} {f:FuncId} {e:Ty} {r res:Ty} {Dh fresh:Bool} {pre:(Ty.pair (.oslice e) r).den->Prop} {val:(Ty.pair (.oslice e) r).den->res.den} {cM:(Ty.pair (.slice e) r).den->Prop} {pb:(Ty.pair (.slice e) r).den->res.den}
  (h:Sound P f (Go.Proofs.YtfolipnappekaaaGreat.Co (.pair (.oslice e) r) res Dh fresh pre val))
  (hp: ∀(o:Option (List e.den)) (y:r.den),cM (o.getD [],y)->pre (o,y)/\val (o,y)=pb (o.getD [],y)):Sound P f (Go.Proofs.YtfolipnappekaaaGreat.Co (.pair (.slice e) r) res Dh fresh cM pb):=by
 refine ⟨h.enter,λw S vs x y hS h2 h5=>?_⟩
 obtain ⟨xs,rest⟩:=x
 cases vs with
 |nil=>exact h2.elim
 |cons u us=>
  obtain ⟨h7,h8⟩:=h2
  obtain ⟨ox,h9,rfl⟩:=h7.told
  have Xq:cM (ox.getD [],rest):=Classical.byContradiction λhn=>by
   have:(Go.Proofs.YtfolipnappekaaaGreat.Co (.pair (.slice e) r) res Dh fresh cM pb).fn (ox.getD [],rest)=none:=if_neg hn
   rw [this] at h5;cases h5
  obtain ⟨k1,k2⟩:=hp ox rest Xq
  have hv:(Go.Proofs.YtfolipnappekaaaGreat.Co (.pair (.slice e) r) res Dh fresh cM pb).fn (ox.getD [],rest)=some (pb (ox.getD [],rest)):=if_pos Xq
  rw [hv] at h5
  have h5:=Option.some.inj h5
  exact h.calls w S (u::us) (ox,rest) y hS ⟨h9,h8⟩ ((if_pos k1).trans (by rw [k2];exact congrArg some h5))
theorem AF (a b:List Int) (h:short a/\a.length=b.length):fnW Cg (look []) Ra Tryz.f158 (a,b,()) (λ(z:Bool)=>z=an a b):=by
 obtain ⟨ha,hb⟩:=h
 unfold short at ha
 refine Eq.mp (CE a b _) ?_
 refine Ai a.length (λv=>v.1) (λj _=>Cf (a.drop j) (b.drop j)=Cf a b) rfl (by simp) ?_
 rintro j ⟨i,⟨⟩⟩ K hj hi VA hK
 dsimp only at hi⊢
 subst hi
 refine Br.dec (λhl=>?_) λhl=>?_
 ·have hl:j<a.length:=by omega
  have ZL:j<b.length:=by omega
  rw [List.drop_eq_getElem_cons hl,List.drop_eq_getElem_cons ZL] at VA
  simp only [Cf] at VA
  refine ⟨_,Ap hl,_,Ap ZL,⟨λEy=>?_,λEy=>?_⟩⟩
  ·refine ⟨_,Ap hl,_,Ap ZL,?_⟩
   have Ey:a[j]≠b[j]:=by simpa using Ey
   unfold an
   rw [<-VA]
   by_cases h1:a[j]<b[j]
   ·rw [if_pos h1];simp [h1]
   ·rw [if_neg h1,if_pos (by omega)];simp [h1]
  ·have Ey:a[j]=b[j]:=by simpa using Ey
   rw [if_neg (by omega),if_neg (by omega)] at VA
   rw [Ag (by omega)]
   exact hK hl _ rfl VA
 ·have:j=a.length:=by omega
  subst this
  rw [List.drop_length,List.drop_eq_nil_of_le (by omega)] at VA
  unfold an
  rw [<-VA]
  rfl
theorem oM:Sound Tryz.prog 158 Ra:=
 Sound.Co Bg Al mixed Tryz.func158 (by kernel_rfl) (by kernel_rfl) λx h=>AF x.1 x.2.1 h
end Go.Proofs.YtfolipnappekaaaGreat

namespace Go.Proofs.YtfolipnappekaaaGreat
open Go.RowKit
abbrev SS:Type:=List (List Int)×List Int×List Int×Bool×Unit
abbrev rLS:CK:= .row tL 26
abbrev rN:CK:= .row tI 3
def Cv (L:List (List Int)) (Hy:List Int) (s:List Int):Nat:=(Hy.takeWhile λi=>an (L.getD i.toNat []) s).length
structure Dg (m:Nat) (L:List (List Int)) (Hy:List Int):Prop where
 sW:L.length<=3000
 len: ∀x∈L,x.length=m
 short:m<=20
 perm:Hy.Perm (upto L.length)
 sorted:Hy.Pairwise λi j=>an (L.getD i.toNat []) (L.getD j.toNat [])=true
def kW (L:List (List Int)) (s:List Int):Int:=if s∈L then (L.idxOf s:Int) else-1
def Pu (Hy:List Int) (k:Nat) (x:Int):List Int:=Hy.take k++x::Hy.drop k
noncomputable abbrev aL:Spec:=Co (.pair dY (.pair tL .unit)) tI false true (λx=>Dg (List.length x.2.1) x.1.1 x.1.2.2.1) (λx=>(Cv x.1.1 x.1.2.2.1 x.2.1:Int))
noncomputable abbrev Zj:Spec:=Co (.pair dY (.pair tL .unit)) tI false true (λx=>Dg (List.length x.2.1) x.1.1 x.1.2.2.1) (λx=>kW x.1.1 x.2.1)
noncomputable abbrev gh:MSpec:=me [some 4,none,none] [(false,rLS),(false,rL),(false,rN),(false, .Ee .bool),(false, .Ee tL),(false, .Ee tI)] false [some 4] [rLS,rL,rN, .Ee .bool]
 (λx=>Dg (List.length x.2.2.2.2.1) x.1 x.2.2.1/\List.length x.2.1<=3000) (λx=>((x.1++ [x.2.2.2.2.1],x.2.1++ [x.2.2.2.2.2.1],Pu x.2.2.1 (Cv x.1 x.2.2.1 x.2.2.2.2.1) (List.length x.1),x.2.2.2.1,()),()))
def Xg (L:List (List Int)):List Int:=(List.range L.length).foldl (λ(S:List Int) (i:Nat)=>Pu S (Cv (L.take i) S (L.getD i [])) (i:Int)) []
def Hj (g:List (List Int)) (x:List Int) (d:Int):List Int->List (List Int)->List Int->List (List Int)×List Int×Bool
 | [],L,D=>(L,D,true)
 |l::ls,L,D=>if Aa x (An g l)∈L then Hj g x d ls L D else if L.length=3000 then (L,D,false) else Hj g x d ls (L++ [Aa x (An g l)]) (D++ [d+1])
def Lc (g:List (List Int)) (ls:List Int):Nat->Nat->List (List Int)->List Int->List (List Int)×List Int×Bool
 |0,_,L,D=>(L,D,true)
 |f+1,k,L,D=>if k<L.length then (match Hj g (L.getD k []) (D.getD k 0) ls L D with
  |(L',D',true)=>Lc g ls f (k+1) L' D'
  |(L',D',false)=>(L',D',false)) else (L,D,true)
def Gg (g:List (List Int)) (s:List Int):List (List Int)×List Int×Bool:=Lc g (Ck g.length) 3001 0 [s] [0]
def Lm (g:List (List Int)) (s:List Int):SS:=((Gg g s).1,(Gg g s).2.1,Xg (Gg g s).1,(Gg g s).2.2,())
noncomputable abbrev dU:Spec:=Co (.pair Dc (.pair tL .unit)) dY false false (λx=>Bt x.1=true/\List.length x.2.1<=20/\ ∀y∈x.2.1,0<=y/\y<x.1.1) (λx=>Lm x.1.2.2.1 x.2.1)
abbrev EG:Type:=Int×Int×List (List Int)×List Int×List Int×Bool×PUnit
theorem YT (f:List (List Int)×List Int×List Int×Bool×Unit) (s:List Int) (P:Int->Prop):(Bm (λ(v3:EG) (k4:EG->Prop)=>Br (decide (v3.1<v3.2.1)) ((2:Int)≠(0:Int)/\ ∃(y5:Int),idx v3.2.2.2.2.1 (IntKind.i64.wrap ((IntKind.i64.wrap (v3.1+v3.2.1)).tdiv (2:Int)))=some y5/\ ∃(y6:List Int),idx v3.2.2.1 y5=some y6/\ ∃(y7:Bool),Ra.fn (y6,s,())=some y7/\Br y7 (k4 (IntKind.i64.wrap (IntKind.i64.wrap ((IntKind.i64.wrap (v3.1+v3.2.1)).tdiv (2:Int))+(1:Int)),v3.2.1,v3.2.2.1,v3.2.2.2.1,v3.2.2.2.2.1,v3.2.2.2.2.2.1,())) (k4 (v3.1,IntKind.i64.wrap ((IntKind.i64.wrap (v3.1+v3.2.1)).tdiv (2:Int)),v3.2.2.1,v3.2.2.2.1,v3.2.2.2.2.1,v3.2.2.2.2.2.1,()))) (P v3.1)) ((0:Int),(↑f.2.2.1.length:Int),f.1,f.2.1,f.2.2.1,f.2.2.2.1,PUnit.unit))=fnW Cg (look [(158,Ra)]) aL Tryz.f149 (f,s,()) P:=by kernel_rfl
theorem OJ (f:List (List Int)×List Int×List Int×Bool×Unit) (s:List Int) (P:Int->Prop):(∃(y3:Int),aL.fn ((f.1,f.2.1,f.2.2.1,f.2.2.2.1,()),s,())=some y3/\Br (decide (y3<(↑f.2.2.1.length:Int))) (∃(y4:Int),idx f.2.2.1 y3=some y4/\ ∃(y5:List Int),idx f.1 y4=some y5/\ ∃(y6:Bool),Ao.fn (y5,s,())=some y6/\Br y6 (∃(y7:Int),idx f.2.2.1 y3=some y7/\P y7) (P (-1:Int))) (P (-1:Int)))=fnW Cg (look [(149,aL),(101,Ao)]) Zj Tryz.f132 (f,s,()) P:=by kernel_rfl
theorem YR (L:List (List Int)) (D S:List Int) (b:Bool) (s:List Int) (d:Int) (P:((List (List Int)×List Int×List Int×Bool×Unit)×Unit)->Prop):(∃(y7:Int),aL.fn ((List.take L.length (List.drop 0 L),List.take D.length (List.drop 0 D),List.take S.length (List.drop 0 S),b,()),s,())=some y7/\0=0/\S.length=S.length/\S.length+(List.take 1 (List.drop 0 [(0:Int)])).length<=Bj/\((0:Int)<=IntKind.i64.wrap (y7+(1:Int))/\IntKind.i64.wrap (y7+(1:Int))<=(↑(S++List.take 1 (List.drop 0 [(0:Int)])).length:Int)/\(↑(S++List.take 1 (List.drop 0 [(0:Int)])).length:Int)<=(↑(S++List.take 1 (List.drop 0 [(0:Int)])).length:Int))/\((0:Int)<=y7/\y7<=(↑(S++List.take 1 (List.drop 0 [(0:Int)])).length:Int)/\(↑(S++List.take 1 (List.drop 0 [(0:Int)])).length:Int)<=(↑(S++List.take 1 (List.drop 0 [(0:Int)])).length:Int))/\((0:Int)<=y7/\y7<(↑(S++List.take 1 (List.drop 0 [(0:Int)])).length:Int))/\0+y7.toNat<(Bo (S++List.take 1 (List.drop 0 [(0:Int)])) (0+(IntKind.i64.wrap (y7+(1:Int))).toNat) (List.take ((↑(S++List.take 1 (List.drop 0 [(0:Int)])).length:Int).toNat-(IntKind.i64.wrap (y7+(1:Int))).toNat) (List.take ((↑(S++List.take 1 (List.drop 0 [(0:Int)])).length:Int).toNat-y7.toNat) (List.drop (0+y7.toNat) (S++List.take 1 (List.drop 0 [(0:Int)])))))).length/\0=0/\L.length=L.length/\L.length+(List.take 1 (List.drop 0 [s])).length<=Bj/\0=0/\D.length=D.length/\D.length+(List.take 1 (List.drop 0 [d])).length<=Bj/\P ((List.take (L++List.take 1 (List.drop 0 [s])).length (List.drop 0 (L++List.take 1 (List.drop 0 [s]))),List.take (D++List.take 1 (List.drop 0 [d])).length (List.drop 0 (D++List.take 1 (List.drop 0 [d]))),List.take (S++List.take 1 (List.drop 0 [(0:Int)])).length (List.drop 0 ((Bo (S++List.take 1 (List.drop 0 [(0:Int)])) (0+(IntKind.i64.wrap (y7+(1:Int))).toNat) (List.take ((↑(S++List.take 1 (List.drop 0 [(0:Int)])).length:Int).toNat-(IntKind.i64.wrap (y7+(1:Int))).toNat) (List.take ((↑(S++List.take 1 (List.drop 0 [(0:Int)])).length:Int).toNat-y7.toNat) (List.drop (0+y7.toNat) (S++List.take 1 (List.drop 0 [(0:Int)])))))).set (0+y7.toNat) (↑L.length:Int))),b,()),()))=fnMW kx (look [(149,aL)]) gh Tryz.f148 (L,D,S,b,s,d,()) P:=by kernel_rfl
abbrev j0:Type:=Int×Int×ByteArray×List (List Int)×Bool×Bool×List (List Int)×List Int×List Int×List (List Int)×List Int×List Int×PUnit
abbrev y0:Type:=(List (List Int)×List Int×List Int×Bool×PUnit)×PUnit
theorem RU (p:Int×ByteArray×List (List Int)×Unit) (s:List Int) (P:(List (List Int)×List Int×List Int×Bool×Unit)->Prop):(∃(y3:List Int),Fb.fn (s,())=some y3/\ ∃(y4:y0),gh.fn ([],[],[],false,y3,(0:Int),())=some y4/\ ∃(y5:List Int),Od.fn ((p.1,p.2.1,p.2.2.1,()),())=some y5/\0=0/\0=([]:List Int).length/\0=0/\0=([]:List Int).length/\0=0/\0=([]:List Int).length/\0=0/\y4.1.1.length=y4.1.1.length/\0=0/\y4.1.2.1.length=y4.1.2.1.length/\0=0/\y4.1.2.2.1.length=y4.1.2.2.1.length/\Bm (λ(v6:j0) (k7:j0->Prop)=>Br (decide (v6.1<(↑v6.2.2.2.2.2.2.2.2.2.1.length:Int))) (0=0/\v6.2.2.2.2.2.2.1.length=v6.2.2.2.2.2.2.1.length/\0=0/\v6.2.2.2.2.2.2.2.1.length=v6.2.2.2.2.2.2.2.1.length/\0=0/\v6.2.2.2.2.2.2.2.2.1.length=v6.2.2.2.2.2.2.2.2.1.length/\0=0/\v6.2.2.2.2.2.2.2.2.2.1.length=v6.2.2.2.2.2.2.2.2.2.1.length/\0=0/\v6.2.2.2.2.2.2.2.2.2.2.1.length=v6.2.2.2.2.2.2.2.2.2.2.1.length/\0=0/\v6.2.2.2.2.2.2.2.2.2.2.2.1.length=v6.2.2.2.2.2.2.2.2.2.2.2.1.length/\Bm (λ(v8:j0) (k9:j0->Prop)=>Br (decide (v8.1<(↑y5.length:Int))) (((0:Int)<=v6.1/\v6.1<(↑v8.2.2.2.2.2.2.2.2.2.1.length:Int))/\ ∃(Ya:List Int),v8.2.2.2.2.2.2.2.2.2.1[0+v6.1.toNat]?=some Ya/\ ∃(qS:Int),idx y5 v8.1=some qS/\ ∃(vn:List Int),Zf.fn ((v8.2.1,v8.2.2.1,v8.2.2.2.1,()),Ya,qS,())=some vn/\ ∃(OO:Int),Zj.fn ((List.take v8.2.2.2.2.2.2.2.2.2.1.length (List.drop 0 v8.2.2.2.2.2.2.2.2.2.1),List.take v8.2.2.2.2.2.2.2.2.2.2.1.length (List.drop 0 v8.2.2.2.2.2.2.2.2.2.2.1),List.take v8.2.2.2.2.2.2.2.2.2.2.2.1.length (List.drop 0 v8.2.2.2.2.2.2.2.2.2.2.2.1),v8.2.2.2.2.2.1,()),vn,())=some OO/\Br (decide (OO>=(0:Int))) (0=0/\v8.2.2.2.2.2.2.1.length=v8.2.2.2.2.2.2.1.length/\0=0/\v8.2.2.2.2.2.2.2.1.length=v8.2.2.2.2.2.2.2.1.length/\0=0/\v8.2.2.2.2.2.2.2.2.1.length=v8.2.2.2.2.2.2.2.2.1.length/\0=0/\v8.2.2.2.2.2.2.2.2.2.1.length=v8.2.2.2.2.2.2.2.2.2.1.length/\0=0/\v8.2.2.2.2.2.2.2.2.2.2.1.length=v8.2.2.2.2.2.2.2.2.2.2.1.length/\0=0/\v8.2.2.2.2.2.2.2.2.2.2.2.1.length=v8.2.2.2.2.2.2.2.2.2.2.2.1.length/\k9 (IntKind.i64.wrap (v8.1+(1:Int)),v8.2.1,v8.2.2.1,v8.2.2.2.1,v8.2.2.2.2.1,v8.2.2.2.2.2.1,v8.2.2.2.2.2.2.1,v8.2.2.2.2.2.2.2.1,v8.2.2.2.2.2.2.2.2.1,v8.2.2.2.2.2.2.2.2.2.1,v8.2.2.2.2.2.2.2.2.2.2.1,v8.2.2.2.2.2.2.2.2.2.2.2.1,())) (Br ((↑v8.2.2.2.2.2.2.2.2.2.1.length:Int)==(3000:Int)) (P (List.take v8.2.2.2.2.2.2.2.2.2.1.length (List.drop 0 v8.2.2.2.2.2.2.2.2.2.1),List.take v8.2.2.2.2.2.2.2.2.2.2.1.length (List.drop 0 v8.2.2.2.2.2.2.2.2.2.2.1),List.take v8.2.2.2.2.2.2.2.2.2.2.2.1.length (List.drop 0 v8.2.2.2.2.2.2.2.2.2.2.2.1),v8.2.2.2.2.2.1,())) (((0:Int)<=v6.1/\v6.1<(↑v8.2.2.2.2.2.2.2.2.2.2.1.length:Int))/\ ∃(aW:Int),v8.2.2.2.2.2.2.2.2.2.2.1[0+v6.1.toNat]?=some aW/\0=0/\v8.2.2.2.2.2.2.2.2.2.1.length=v8.2.2.2.2.2.2.2.2.2.1.length/\0=0/\v8.2.2.2.2.2.2.2.2.2.2.1.length=v8.2.2.2.2.2.2.2.2.2.2.1.length/\0=0/\v8.2.2.2.2.2.2.2.2.2.2.2.1.length=v8.2.2.2.2.2.2.2.2.2.2.2.1.length/\ ∃(px:y0),gh.fn (v8.2.2.2.2.2.2.2.2.2.1,v8.2.2.2.2.2.2.2.2.2.2.1,v8.2.2.2.2.2.2.2.2.2.2.2.1,v8.2.2.2.2.2.1,vn,IntKind.i64.wrap (aW+(1:Int)),())=some px/\0=0/\v8.2.2.2.2.2.2.1.length=v8.2.2.2.2.2.2.1.length/\0=0/\v8.2.2.2.2.2.2.2.1.length=v8.2.2.2.2.2.2.2.1.length/\0=0/\v8.2.2.2.2.2.2.2.2.1.length=v8.2.2.2.2.2.2.2.2.1.length/\0=0/\px.1.1.length=px.1.1.length/\0=0/\px.1.2.1.length=px.1.2.1.length/\0=0/\px.1.2.2.1.length=px.1.2.2.1.length/\k9 (IntKind.i64.wrap (v8.1+(1:Int)),v8.2.1,v8.2.2.1,v8.2.2.2.1,v8.2.2.2.2.1,px.1.2.2.2.1,v8.2.2.2.2.2.2.1,v8.2.2.2.2.2.2.2.1,v8.2.2.2.2.2.2.2.2.1,px.1.1,px.1.2.1,px.1.2.2.1,())))) (0=0/\v8.2.2.2.2.2.2.1.length=v8.2.2.2.2.2.2.1.length/\0=0/\v8.2.2.2.2.2.2.2.1.length=v8.2.2.2.2.2.2.2.1.length/\0=0/\v8.2.2.2.2.2.2.2.2.1.length=v8.2.2.2.2.2.2.2.2.1.length/\0=0/\v8.2.2.2.2.2.2.2.2.2.1.length=v8.2.2.2.2.2.2.2.2.2.1.length/\0=0/\v8.2.2.2.2.2.2.2.2.2.2.1.length=v8.2.2.2.2.2.2.2.2.2.2.1.length/\0=0/\v8.2.2.2.2.2.2.2.2.2.2.2.1.length=v8.2.2.2.2.2.2.2.2.2.2.2.1.length/\k7 (IntKind.i64.wrap (v6.1+(1:Int)),v8.2.1,v8.2.2.1,v8.2.2.2.1,v8.2.2.2.2.1,v8.2.2.2.2.2.1,v8.2.2.2.2.2.2.1,v8.2.2.2.2.2.2.2.1,v8.2.2.2.2.2.2.2.2.1,v8.2.2.2.2.2.2.2.2.2.1,v8.2.2.2.2.2.2.2.2.2.2.1,v8.2.2.2.2.2.2.2.2.2.2.2.1,()))) ((0:Int),v6.2.1,v6.2.2.1,v6.2.2.2.1,v6.2.2.2.2.1,v6.2.2.2.2.2.1,v6.2.2.2.2.2.2.1,v6.2.2.2.2.2.2.2.1,v6.2.2.2.2.2.2.2.2.1,v6.2.2.2.2.2.2.2.2.2.1,v6.2.2.2.2.2.2.2.2.2.2.1,v6.2.2.2.2.2.2.2.2.2.2.2.1,PUnit.unit)) (P (List.take v6.2.2.2.2.2.2.2.2.2.1.length (List.drop 0 v6.2.2.2.2.2.2.2.2.2.1),List.take v6.2.2.2.2.2.2.2.2.2.2.1.length (List.drop 0 v6.2.2.2.2.2.2.2.2.2.2.1),List.take v6.2.2.2.2.2.2.2.2.2.2.2.1.length (List.drop 0 v6.2.2.2.2.2.2.2.2.2.2.2.1),true,()))) ((0:Int),p.1,p.2.1,p.2.2.1,false,y4.1.2.2.2.1,[],[],[],y4.1.1,y4.1.2.1,y4.1.2.2.1,PUnit.unit))=fnW YI (look [(116,Fb),(148,gh),(141,Od),(118,Zf),(132,Zj)]) dU Tryz.f131 (p,s,()) P:=by kernel_rfl
theorem mM: ∀ {a b:List Int},Cf a b=0↔a=b
 | [],[]=>by simp [Cf]
 | [],_::_=>by simp [Cf]
 |_::_,[]=>by simp [Cf]
 |x::a,y::b=>by
  simp only [Cf,List.cons.injEq]
  by_cases h1:x<y
  ·rw [if_pos h1]
   exact ⟨λh=>by omega,λh=>by omega⟩
  ·rw [if_neg h1]
   by_cases h2:x>y
   ·rw [if_pos h2]
    exact ⟨λh=>by omega,λh=>by omega⟩
   ·rw [if_neg h2,mM]
    exact ⟨λh=>⟨by omega,h⟩,λh=>h.2⟩
theorem CX: ∀(a b:List Int),Cf b a= -Cf a b
 | [],[]=>by simp [Cf]
 | [],_::_=>by simp [Cf]
 |_::_,[]=>by simp [Cf]
 |x::a,y::b=>by
  simp only [Cf]
  rcases Int.lt_trichotomy x y with h1|h1|h1
  ·simp [h1,show ¬y<x by omega]
  ·subst h1
   simp [CX a b]
  ·simp [h1,show ¬x<y by omega]
theorem r7: ∀ {a b c:List Int},Cf a b<0->Cf b c<0->Cf a c<0
 | [],[],_,h,_=>by simp [Cf] at h
 |_::_,[],_,h,_=>by simp [Cf] at h
 |_,_::_,[],_,h=>by simp [Cf] at h
 | [],_::_,_::_,_,_=>by simp [Cf]
 |x::a,y::b,z::c,h1,h2=>by
  simp only [Cf] at h1 h2⊢
  by_cases e1:x<y
  ·by_cases e2:y<z
   ·rw [if_pos (by omega)];omega
   ·rw [if_neg e2] at h2
    by_cases e3:y>z
    ·rw [if_pos e3] at h2;omega
    ·rw [if_pos (by omega)];omega
  ·rw [if_neg e1] at h1
   by_cases e2:x>y
   ·rw [if_pos e2] at h1;omega
   ·rw [if_neg e2] at h1
    by_cases e3:y<z
    ·rw [if_pos (by omega)];omega
    ·rw [if_neg e3] at h2
     by_cases e4:y>z
     ·rw [if_pos e4] at h2;omega
     ·rw [if_neg e4] at h2
      rw [if_neg (by omega),if_neg (by omega)]
      exact r7 h1 h2
theorem lt_iff {a b:List Int} :an a b=true↔Cf a b<0:=decide_eq_true_iff
theorem FW {a b c:List Int} (h1:an a b=true) (h2:an b c=true):an a c=true:=lt_iff.2 (r7 (lt_iff.1 h1) (lt_iff.1 h2))
theorem fU (a:List Int):an a a=false:=by
 have:Cf a a=0:=mM.2 rfl
 unfold an;rw [this];rfl
theorem LU {a b:List Int} (h:an a b=false) (Ey:a≠b):an b a=true:=by
 rw [lt_iff,CX a b]
 have h1: ¬Cf a b<0:= λh'=>by rw [lt_iff.2 h'] at h;cases h
 have h2:Cf a b≠0:= λh'=>Ey (mM.1 h')
 omega
theorem fe {α:Type} (q:α->Bool): ∀(l:List α),l.Pairwise (λi j=>q j=true->q i=true)-> ∀k (hk:k<l.length),k<(l.takeWhile q).length↔q l[k]=true
 | [],_,k,hk=>by simp at hk
 |a::l,h,k,hk=>by
  obtain ⟨h1,h2⟩:=List.pairwise_cons.1 h
  by_cases ha:q a=true
  ·rw [List.takeWhile_cons_of_pos ha]
   rcases k with _|k
   ·simpa using ha
   ·simp only [List.length_cons,List.getElem_cons_succ,Nat.add_lt_add_iff_right]
    exact fe q l h2 k (by simpa using hk)
  ·rw [List.takeWhile_cons_of_neg ha]
   simp only [List.length_nil,Nat.not_lt_zero,false_iff]
   rcases k with _|k
   ·exact ha
   ·simp only [List.getElem_cons_succ]
    exact λhq=>ha (h1 _ (List.getElem_mem _) hq)
theorem Dg.nE {m:Nat} {L:List (List Int)} {Hy:List Int} (h:Dg m L Hy):Hy.length=L.length:=by rw [h.perm.length_eq,j7]
theorem Dg.idx {m:Nat} {L:List (List Int)} {Hy:List Int} (h:Dg m L Hy) {k:Nat} (hk:k<Hy.length):0<=Hy[k]/\Hy[k]<L.length:=Se.1 (h.perm.mem_iff.1 (List.getElem_mem hk))
theorem Dg.Zk {m:Nat} {L:List (List Int)} {Hy:List Int} (h:Dg m L Hy) (s:List Int) {k:Nat} (hk:k<Hy.length):k<Cv L Hy s↔an (L.getD Hy[k].toNat []) s=true:=
 fe _ Hy (h.sorted.imp λjC hj=>FW jC hj) k hk
theorem EC (L:List (List Int)) (Hy s:List Int):Cv L Hy s<=Hy.length:=(List.takeWhile_sublist _).length_le
theorem Dg.inj {m:Nat} {L:List (List Int)} {Hy:List Int} (h:Dg m L Hy) {i j:Nat} (hi:i<L.length) (hj:j<L.length) (e:L[i]=L[j]):i=j:=by
 have mem: ∀i,i<L.length->(i:Int)∈Hy:= λi hi=>h.perm.mem_iff.2 (Se.2 ⟨by omega,by omega⟩)
 obtain ⟨p,hp,ep⟩:=List.mem_iff_getElem.1 (mem i hi)
 obtain ⟨q,hq,eq⟩:=List.mem_iff_getElem.1 (mem j hj)
 have get: ∀i (hi:i<L.length),L.getD ((i:Int)).toNat []=L[i]:= λi hi=>by rw [Int.toNat_natCast,List.getD_eq_getElem?_getD,List.getElem?_eq_getElem hi];rfl
 rcases Nat.lt_trichotomy p q with h1|h1|h1
 ·have:=List.pairwise_iff_getElem.1 h.sorted p q hp hq h1
  rw [ep,eq,get i hi,get j hj,e,fU] at this
  cases this
 ·subst h1
  rw [ep] at eq
  omega
 ·have:=List.pairwise_iff_getElem.1 h.sorted q p hq hp h1
  rw [ep,eq,get i hi,get j hj,e,fU] at this
  cases this
theorem Rw {L:List (List Int)} {k:Nat} (h:k<L.length):L.getD k []=L[k]:=by rw [List.getD_eq_getElem?_getD,List.getElem?_eq_getElem h];rfl
theorem Dg.sI {m:Nat} {L:List (List Int)} {Hy:List Int} (h:Dg m L Hy) {s:List Int} :
  (∃hk:Cv L Hy s<Hy.length,L.getD Hy[Cv L Hy s].toNat []=s/\kW L s=Hy[Cv L Hy s])\/(kW L s= -1/\ ∀hk:Cv L Hy s<Hy.length,L.getD Hy[Cv L Hy s].toNat []≠s):=by
 by_cases hm:s∈L
 ·left
  obtain ⟨j,hj,rfl⟩:=List.mem_iff_getElem.1 hm
  obtain ⟨p,hp,ep⟩:=List.mem_iff_getElem.1 (h.perm.mem_iff.2 (Se.2 ⟨by omega,by omega⟩):(j:Int)∈Hy)
  have gj:L.getD Hy[p].toNat []=L[j]:=by rw [ep,Int.toNat_natCast,Rw hj]
  have hs:Cv L Hy L[j]=p:=by
   have h1: ¬p<Cv L Hy L[j]:= λh1=>by
    have:=(h.Zk L[j] hp).1 h1
    rw [gj,fU] at this;cases this
   have h2: ¬Cv L Hy L[j]<p:= λh2=>by
    have h3:=(h.Zk L[j] (k:=Cv L Hy L[j]) (by omega)).2 (by
     have:=List.pairwise_iff_getElem.1 h.sorted (Cv L Hy L[j]) p (by omega) hp h2
     rw [gj] at this;exact this)
    omega
   omega
  have hx:L.idxOf L[j]=j:=by
   have h1:L.idxOf L[j]<L.length:=List.idxOf_lt_length_of_mem hm
   exact h.inj h1 hj (List.getElem_idxOf h1)
  refine ⟨by omega,?_,?_⟩
  ·simp only [hs];exact gj
  ·unfold kW
   rw [if_pos hm,hx]
   simp only [hs];exact ep.symm
 ·right
  refine ⟨by unfold kW;rw [if_neg hm],λhk e=>hm ?_⟩
  have hi:=h.idx hk
  rw [Rw (by omega)] at e
  rw [<-e]
  exact List.getElem_mem _
theorem LF (Hy:List Int) (k:Nat) (x:Int):(Pu Hy k x).Perm (x::Hy):=by
 unfold Pu
 refine List.perm_middle.trans (List.Perm.cons x ?_)
 rw [List.take_append_drop]
theorem Dg.add {m:Nat} {L:List (List Int)} {Hy s:List Int} (h:Dg m L Hy) (hn:s∉L) (hl:s.length=m) (hr:L.length<3000):Dg m (L++ [s]) (Pu Hy (Cv L Hy s) L.length):=by
 have wq: ∀i∈Hy,(L++ [s]).getD i.toNat []=L.getD i.toNat []:= λi hi=>by
  have:=Se.1 (h.perm.mem_iff.1 hi)
  rw [List.getD_eq_getElem?_getD,List.getD_eq_getElem?_getD,List.getElem?_append_left (by omega)]
 have ZY:(L++ [s]).getD ((L.length:Int)).toNat []=s:=by
  rw [Int.toNat_natCast,List.getD_eq_getElem?_getD,List.getElem?_append_right (by omega),Nat.sub_self];rfl
 refine ⟨by rw [List.length_append,List.length_singleton];omega,λx hx=>?_,h.short,?_,?_⟩
 ·rcases List.mem_append.1 hx with hx|hx
  ·exact h.len x hx
  ·rw [List.mem_singleton.1 hx];exact hl
 ·refine (LF _ _ _).trans ?_
  rw [List.length_append,List.length_singleton,e8]
  exact (List.Perm.cons _ h.perm).trans (List.perm_append_singleton _ _).symm
 ·unfold Pu
  have hs:=h.sorted
  rw [<-List.take_append_drop (Cv L Hy s) Hy] at hs
  obtain ⟨s1,s2,s3⟩:=List.pairwise_append.1 hs
  have mt: ∀i∈Hy.take (Cv L Hy s),i∈Hy/\an (L.getD i.toNat []) s=true:= λi hi=>by
   obtain ⟨k,hk,rfl⟩:=List.mem_iff_getElem.1 hi
   have KI:k<Cv L Hy s:=by rw [List.length_take] at hk;omega
   have hk3:k<Hy.length:=by rw [List.length_take] at hk;omega
   rw [List.getElem_take]
   exact ⟨List.getElem_mem _,(h.Zk s hk3).1 KI⟩
  have md: ∀i∈Hy.drop (Cv L Hy s),i∈Hy/\an s (L.getD i.toNat [])=true:= λi hi=>by
   obtain ⟨k,hk,rfl⟩:=List.mem_iff_getElem.1 hi
   rw [List.length_drop] at hk
   have hk3:Cv L Hy s+k<Hy.length:=by omega
   rw [List.getElem_drop]
   refine ⟨List.getElem_mem _,LU ?_ λe=>hn ?_⟩
   ·exact Bool.eq_false_iff.2 λhh=>by
     have:=(h.Zk s hk3).2 hh
     omega
   ·have hi:=h.idx hk3
    rw [Rw (by omega)] at e
    rw [<-e];exact List.getElem_mem _
  refine List.pairwise_append.2 ⟨s1.imp_of_mem λ {a b} ha hb fK=>?_,List.pairwise_cons.2 ⟨λb hb=>?_,s2.imp_of_mem λ {a b} ha hb fK=>?_⟩,λa ha b hb=>?_⟩
  ·rw [wq a (mt a ha).1,wq b (mt b hb).1];exact fK
  ·rw [ZY,wq b (md b hb).1];exact (md b hb).2
  ·rw [wq a (md a ha).1,wq b (md b hb).1];exact fK
  ·rcases List.mem_cons.1 hb with rfl|hb
   ·rw [ZY,wq a (mt a ha).1];exact (mt a ha).2
   ·rw [wq a (mt a ha).1,wq b (md b hb).1];exact s3 a ha b hb
theorem aO (L:List (List Int)) (s:List Int):Xg (L++ [s])=Pu (Xg L) (Cv L (Xg L) s) L.length:=by
 unfold Xg
 rw [List.length_append,List.length_singleton,List.range_succ,List.foldl_append]
 have e: ∀(is:List Nat) (S:List Int),(∀i∈is,i<L.length)->is.foldl (λ(S:List Int) (i:Nat)=>Pu S (Cv ((L++ [s]).take i) S ((L++ [s]).getD i [])) (i:Int)) S=is.foldl (λ(S:List Int) (i:Nat)=>Pu S (Cv (L.take i) S (L.getD i [])) (i:Int)) S:=by
  intro is
  induction is with
  |nil=>intro S _;rfl
  |cons i is ih=>
   intro S h
   have hi:=h i (by simp)
   rw [List.foldl_cons,List.foldl_cons,ih _ λj hj=>h j (List.mem_cons_of_mem _ hj)]
   congr 2
   rw [List.take_append_of_le_length (by omega),List.getD_eq_getElem?_getD,List.getElem?_append_left hi,<-List.getD_eq_getElem?_getD]
 rw [e _ _ λi hi=>List.mem_range.1 hi]
 simp only [List.foldl_cons,List.foldl_nil]
 congr 2
 ·rw [List.take_append_of_le_length (Nat.le_refl _),List.take_length]
 ·rw [List.getD_eq_getElem?_getD,List.getElem?_append_right (by omega),Nat.sub_self];rfl
theorem iN {m:Nat} (h:m<=20):Dg m [] []:=⟨by simp,λx hx=>(by cases hx),h,by simp [upto],List.Pairwise.nil⟩
theorem LC {α:Type} {xs:List α} {y:Int} (h0:0<=y) (h:y.toNat<xs.length):idx xs y=some xs[y.toNat]:=by
 unfold idx
 rw [if_pos h0,List.getElem?_eq_getElem h]
theorem XT (f:SS) (s:List Int) (h:Dg s.length f.1 f.2.2.1):fnW Cg (look [(158,Ra)]) aL Tryz.f149 (f,s,()) (λ(z:Int)=>z=(Cv f.1 f.2.2.1 s:Int)):=by
 obtain ⟨L,D,Hy,b,⟨⟩⟩:=f
 dsimp only at h⊢
 have hle:=EC L Hy s
 have po:=h.nE
 have pG:=h.sW
 refine Eq.mp (YT (L,D,Hy,b,()) s _) ?_
 refine Bm.mk (λv=>v.2.2.1=L/\v.2.2.2.2.1=Hy/\ ∃lo hi:Nat,v.1=lo/\v.2.1=hi/\lo<=hi/\hi<=Hy.length/\lo<=Cv L Hy s/\Cv L Hy s<=hi) (λv=>(v.2.1-v.1).toNat)
  ⟨rfl,rfl,0,Hy.length,rfl,rfl,by omega,by omega,by omega,hle⟩ ?_
 rintro ⟨lo',kN,L',D',HQ,b',⟨⟩⟩ ⟨h1,h2,lo,hi,h3,h4,h5,h6,h7,h8⟩
 dsimp only at h1 h2 h3 h4⊢
 subst h1 h2 h3 h4
 refine Br.dec (λhl=>?_) λhl=>?_
 ·have em:IntKind.i64.wrap ((IntKind.i64.wrap ((lo:Int)+(hi:Int))).tdiv 2)=(((lo+hi)/2:Nat):Int):=by
   rw [Cp (n:=(lo:Int)+(hi:Int)) (by omega) (by omega),Int.tdiv_eq_ediv_of_nonneg (by omega),Cp (by omega) (by omega)]
   omega
  rw [em]
  have ZM:(lo+hi)/2<HQ.length:=by omega
  have QB:=h.idx ZM
  have QC:HQ[(lo+hi)/2].toNat<L'.length:=by omega
  have hgd:=Rw QC
  have hlen:=h.len _ (List.getElem_mem QC)
  have yH:short L'[HQ[(lo+hi)/2].toNat]:=by
   unfold short
   have:=h.short;omega
  refine ⟨by decide,_,Ap ZM,_,LC QB.1 QC,_,if_pos ⟨yH,hlen⟩,⟨λhc=>?_,λhc=>?_⟩⟩
  ·have hc:an L'[HQ[(lo+hi)/2].toNat] s=true:=hc
   have hs:=(h.Zk s ZM).2 (by rw [hgd];exact hc)
   rw [Ag (by omega)]
   exact ⟨⟨rfl,rfl,(lo+hi)/2+1,hi,rfl,rfl,by omega,h6,by omega,h8⟩,by omega⟩
  ·have hc:an L'[HQ[(lo+hi)/2].toNat] s=false:=hc
   have hs: ¬(lo+hi)/2<Cv L' HQ s:= λhh=>by
    have:=(h.Zk s ZM).1 hh
    rw [hgd,hc] at this;cases this
   exact ⟨⟨rfl,rfl,lo,(lo+hi)/2,rfl,rfl,by omega,by omega,h7,by omega⟩,by omega⟩
 ·show (lo:Int)=_
  omega
theorem oO:Sound Tryz.prog 149 aL:=
 Sound.Co Bg (Ae oM Al) mixed Tryz.func149 (by kernel_rfl) (by kernel_rfl) λx h=>XT x.1 x.2.1 h
theorem MM (f:SS) (s:List Int) (h:Dg s.length f.1 f.2.2.1):fnW Cg (look [(149,aL),(101,Ao)]) Zj Tryz.f132 (f,s,()) (λ(z:Int)=>z=kW f.1 s):=by
 obtain ⟨L,D,Hy,b,⟨⟩⟩:=f
 dsimp only at h⊢
 refine Eq.mp (OJ (L,D,Hy,b,()) s _) ⟨_,if_pos h,Br.dec (λhl=>?_) λhl=>?_⟩
 ·have hl:Cv L Hy s<Hy.length:=by
   have hl:((Cv L Hy s:Nat):Int)<(Hy.length:Int):=hl
   omega
  have QB:=h.idx hl
  have QC:Hy[Cv L Hy s].toNat<L.length:=by omega
  have hgd:=Rw QC
  have hlen:=h.len _ (List.getElem_mem QC)
  have yH:short L[Hy[Cv L Hy s].toNat]:=by
   unfold short
   have:=h.short;omega
  refine ⟨_,Ap hl,_,LC QB.1 QC,_,if_pos yH,⟨λhc=>⟨_,Ap hl,?_⟩,λhc=>?_⟩⟩
  ·have hc:L[Hy[Cv L Hy s].toNat]=s:=of_decide_eq_true hc
   rcases h.sI (s:=s) with ⟨hk,_,e⟩|⟨_,Ey⟩
   ·exact e.symm
   ·exact absurd (by rw [hgd];exact hc) (Ey hl)
  ·have hc: ¬L[Hy[Cv L Hy s].toNat]=s:=of_decide_eq_false hc
   rcases h.sI (s:=s) with ⟨hk,e,_⟩|⟨e,_⟩
   ·rw [hgd] at e;exact absurd e hc
   ·exact e.symm
 ·have hl: ¬Cv L Hy s<Hy.length:=by
   have hl: ¬((Cv L Hy s:Nat):Int)<(Hy.length:Int):=hl
   omega
  rcases h.sI (s:=s) with ⟨hk,e,_⟩|⟨e,_⟩
  ·exact absurd hk hl
  ·exact e.symm
theorem uD:Sound Tryz.prog 132 Zj:=
 Sound.Co Bg (Ae oO (Ae Sy Al)) mixed Tryz.func132 (by kernel_rfl) (by kernel_rfl) λx h=>MM x.1 x.2.1 h
theorem zw {S:List Int} {k:Nat} (h:k<=S.length) (n:Int):
  (Bo (S++ [0]) (k+1) (List.take ((S++ [0]).length-(k+1)) (List.take ((S++ [0]).length-k) (List.drop k (S++ [0]))))).set k n=Pu S k n:=by
 obtain ⟨A,B,rfl,hA⟩: ∃A B,S=A++B/\A.length=k:=⟨S.take k,S.drop k,(List.take_append_drop k S).symm,by rw [List.length_take];omega⟩
 subst hA
 have e1:List.drop A.length (A++B++ [0])=B++ [0]:=by rw [List.append_assoc,List.drop_left]
 have e2:List.take ((A++B++ [0]).length-A.length) (B++ [0])=B++ [0]:=List.take_of_length_le (by simp only [List.length_append,List.length_singleton];omega)
 have e3:List.take ((A++B++ [0]).length-(A.length+1)) (B++ [0])=B:=by
  have:(A++B++ [(0:Int)]).length-(A.length+1)=B.length:=by simp only [List.length_append,List.length_singleton];omega
  rw [this,List.take_left]
 rw [e1,e2,e3]
 unfold Bo Pu
 have e4:List.drop (A.length+1+B.length) (A++B++ [0])= []:=List.drop_eq_nil_of_le (by simp only [List.length_append,List.length_singleton];omega)
 obtain ⟨c,hc⟩: ∃c,List.take (A.length+1) (A++B++ [0])=A++ [c]:=by
  rw [List.append_assoc,List.take_append,List.take_of_length_le (by omega)]
  cases B with
  |nil=>exact ⟨0,by simp⟩
  |cons b B=>exact ⟨b,by simp⟩
 rw [e4,hc,List.append_nil,List.append_assoc,List.singleton_append,RG,List.take_left,List.drop_left]
theorem XR (L:List (List Int)) (D S:List Int) (b:Bool) (s:List Int) (d:Int) (h:Dg s.length L S/\D.length<=3000):
  fnMW kx (look [(149,aL)]) gh Tryz.f148 (L,D,S,b,s,d,()) (λ(z:(List (List Int)×List Int×List Int×Bool×Unit)×Unit)=>z=((L++ [s],D++ [d],Pu S (Cv L S s) L.length,b,()),())):=by
 obtain ⟨h,hD⟩:=h
 have hle:=EC L S s
 have po:=h.nE
 have pG:=h.sW
 refine Eq.mp (YR L D S b s d _) ?_
 rw [Bi L,Bi D,Bi S]
 refine ⟨_,if_pos h,?_⟩
 dsimp only
 have es:List.take 1 (List.drop 0 [(0:Int)])= [0]:=rfl
 have el:(S++ [(0:Int)]).length=S.length+1:=by simp
 rw [es,Ag (by omega),Nat.zero_add,Nat.zero_add,Int.toNat_natCast,Int.toNat_natCast,Int.toNat_natCast]
 refine ⟨rfl,rfl,by show S.length+1<=4294967296;omega,⟨by omega,by omega,by omega⟩,⟨by omega,by omega,by omega⟩,⟨by omega,by omega⟩,?_,rfl,rfl,by show L.length+1<=4294967296;omega,rfl,rfl,by show D.length+1<=4294967296;omega,?_⟩
 ·unfold Bo
  simp only [List.length_append,List.length_take,List.length_drop,List.length_singleton]
  omega
 ·rw [zw hle,Bi,Bi]
  have e5:List.take (S++ [(0:Int)]).length (List.drop 0 (Pu S (Cv L S s) (L.length:Int)))=Pu S (Cv L S s) (L.length:Int):=by
   rw [List.drop_zero,List.take_of_length_le]
   unfold Pu
   simp only [List.length_append,List.length_cons,List.length_take,List.length_drop,List.length_nil]
   omega
  rw [e5]
  rfl
theorem BJ:Bf Tryz.prog 148 gh:=
 Bf.me gx (Ae oO Al) mixed Tryz.func148 (by kernel_rfl) (by kernel_rfl) λx h=>XR x.1 x.2.1 x.2.2.1 x.2.2.2.1 x.2.2.2.2.1 x.2.2.2.2.2.1 h
structure Sz (p:PP) (m:Nat) (L:List (List Int)) (D:List Int):Prop where
 ok:Dg m L (Xg L)
 len:D.length=L.length
 row: ∀x∈L,∀y∈x,0<=y/\y<p.1
 dep: ∀j (h:j<D.length),0<=D[j]/\D[j]<=j
theorem tS {p:PP} (hv:Valid p) {x:List Int} {l:Int} (hx: ∀y∈x,0<=y/\y<p.1) (hl:Im (List.length p.2.2.1) l):
  (Aa x (An p.2.2.1 l)).length=x.length/\ ∀y∈Aa x (An p.2.2.1 l),0<=y/\y<p.1:=by
 obtain ⟨h1,h2⟩:=jF hv hl
 refine ⟨Jp _ _,λy hy=>?_⟩
 have:=w6 (n:=(An p.2.2.1 l).length) (λz hz=>by have:=hx z hz;omega) h2 y hy
 omega
theorem Sz.add {p:PP} {m:Nat} {L:List (List Int)} {D:List Int} (h:Sz p m L D) {y:List Int} {d:Int} (hn:y∉L) (hl:y.length=m) (hr:L.length<3000) (hy: ∀z∈y,0<=z/\z<p.1) (hd:0<=d/\d<=L.length):Sz p m (L++ [y]) (D++ [d]):=by
 have hlen:=h.len
 refine ⟨by rw [aO];exact h.ok.add hn hl hr,by simp [hlen],λx hx=>?_,λj hj=>?_⟩
 ·rcases List.mem_append.1 hx with hx|hx
  ·exact h.row x hx
  ·rw [List.mem_singleton.1 hx];exact hy
 ·by_cases e:j<D.length
  ·rw [List.getElem_append_left e];exact h.dep j e
  ·simp only [List.length_append,List.length_singleton] at hj
   have:j=D.length:=by omega
   subst this
   rw [List.getElem_append_right (by omega)]
   simp only [Nat.sub_self,List.getElem_cons_zero]
   omega
theorem jk {p:PP} {s:List Int} (hs:s.length<=20) (hr: ∀y∈s,0<=y/\y<p.1):Sz p s.length [s] [0]:=by
 refine ⟨?_,rfl,λx hx=>by rw [List.mem_singleton.1 hx];exact hr,λj hj=>?_⟩
 ·have:=(iN hs).add (s:=s) (by simp) rfl (by simp)
  have e:Xg [s]=Pu [] (Cv [] [] s) 0:=aO [] s
  rw [e];exact this
 ·simp only [List.length_singleton] at hj
  have:j=0:=by omega
  subst this
  simp
theorem rR {L:List (List Int)} {s:List Int} :kW L s>=0↔s∈L:=by
 unfold kW
 split
 ·rename_i h;exact ⟨λ_=>h,λ_=>by omega⟩
 ·rename_i h;exact ⟨λhh=>by omega,λhh=>absurd hh h⟩
theorem RC (p:PP) (s:List Int) (h:Bt p=true/\s.length<=20/\ ∀y∈s,0<=y/\y<p.1):fnW YI (look [(116,Fb),(148,gh),(141,Od),(118,Zf),(132,Zj)]) dU Tryz.f131 (p,s,()) (λ(z:SS)=>z=Lm p.2.2.1 s):=by
 obtain ⟨hv,hs,hr⟩:=h
 have hV:=valid hv
 have pG:=hV.sW
 have VC:=jk hs hr
 have yH:short s:=by unfold short;omega
 obtain ⟨ls,vr⟩: ∃ls,Ck (List.length p.2.2.1)=ls:=⟨_,rfl⟩
 refine Eq.mp (RU p s _) ⟨_,if_pos yH,_,if_pos ⟨iN hs,by show 0<=3000;omega⟩,ls,(if_pos (by show List.length p.2.2.1<=8;exact pG.2)).trans (congrArg some vr),rfl,rfl,rfl,rfl,rfl,rfl,rfl,rfl,rfl,rfl,rfl,rfl,?_⟩
 have e0:Pu [] (Cv [] [] s) ((([]:List (List Int)).length:Nat):Int)=Xg [s]:=(aO [] s).symm
 show Bm _ ((0:Int),p.1,p.2.1,p.2.2.1,false,false,[],[],[],[s],[(0:Int)],Pu [] (Cv [] [] s) ((([]:List (List Int)).length:Nat):Int),PUnit.unit)
 rw [e0]
 have OX:ls.length<=16:=by rw [<-vr,Rl];omega
 have lC: ∀l∈ls,Im (List.length p.2.2.1) l:= λl hl=>Wv (vr▸hl)
 have zp:Lc p.2.2.1 ls 3001 0 [s] [0]=Gg p.2.2.1 s:=by unfold Gg;rw [vr]
 refine Bm.mk (λv=>v.2.1=p.1/\v.2.2.1=p.2.1/\v.2.2.2.1=p.2.2.1/\v.2.2.2.2.2.1=false/\ ∃k:Nat,v.1=k/\k<=v.2.2.2.2.2.2.2.2.2.1.length/\
   Sz p s.length v.2.2.2.2.2.2.2.2.2.1 v.2.2.2.2.2.2.2.2.2.2.1/\v.2.2.2.2.2.2.2.2.2.2.2.1=Xg v.2.2.2.2.2.2.2.2.2.1/\
   Lc p.2.2.1 ls (3001-k) k v.2.2.2.2.2.2.2.2.2.1 v.2.2.2.2.2.2.2.2.2.2.1=Gg p.2.2.1 s) (λv=>3001-v.1.toNat)
  ⟨rfl,rfl,rfl,rfl,0,rfl,by simp,VC,rfl,zp⟩ ?_
 rintro ⟨k',n1,n2,n3,b0,wh,x1,x2,x3,L0,D0,S0,⟨⟩⟩ ⟨h1,h2,h3,h4,k,h5,h6,h7,h8,h9⟩
 dsimp only at h1 h2 h3 h4 h5 h6 h7 h8 h9
 subst h1 h2 h3 h4 h5 h8
 dsimp only
 have hL0:=h7.ok.sW
 have hD0:=h7.len
 refine Br.dec (λhl=>⟨rfl,rfl,rfl,rfl,rfl,rfl,rfl,rfl,rfl,rfl,rfl,rfl,?_⟩) λhl=>?_
 ·have hk:k<L0.length:=by omega
  have OT:k<D0.length:=by omega
  have hx: ∀y∈L0[k],0<=y/\y<p.1:=h7.row _ (List.getElem_mem hk)
  have QO:L0[k].length=s.length:=h7.ok.len _ (List.getElem_mem hk)
  have hdk:=h7.dep k OT
  obtain ⟨f,hf⟩: ∃f,3001-k=f+1:=⟨3000-k,by omega⟩
  have SY: ∀L' D' ok,Hj p.2.2.1 L0[k] D0[k] ls L0 D0=(L',D',ok)->Gg p.2.2.1 s=if ok=true then Lc p.2.2.1 ls f (k+1) L' D' else (L',D',false):=by
   intro L' D' ok he
   rw [<-h9,hf,Lc,if_pos hk,Rw hk,List.getD_eq_getElem?_getD,List.getElem?_eq_getElem OT]
   simp only [Option.getD_some]
   rw [he]
   cases ok<;>rfl
  refine Bm.mk (λv=>v.2.1=p.1/\v.2.2.1=p.2.1/\v.2.2.2.1=p.2.2.1/\v.2.2.2.2.2.1=false/\ ∃i:Nat,v.1=i/\i<=ls.length/\Sz p s.length v.2.2.2.2.2.2.2.2.2.1 v.2.2.2.2.2.2.2.2.2.2.1/\
    v.2.2.2.2.2.2.2.2.2.2.2.1=Xg v.2.2.2.2.2.2.2.2.2.1/\(∃A,v.2.2.2.2.2.2.2.2.2.1=L0++A)/\(∃A,v.2.2.2.2.2.2.2.2.2.2.1=D0++A)/\
    Hj p.2.2.1 L0[k] D0[k] (ls.drop i) v.2.2.2.2.2.2.2.2.2.1 v.2.2.2.2.2.2.2.2.2.2.1=Hj p.2.2.1 L0[k] D0[k] ls L0 D0) (λv=>ls.length-v.1.toNat)
   ⟨rfl,rfl,rfl,rfl,0,rfl,Nat.zero_le _,h7,rfl,⟨[],by simp⟩,⟨[],by simp⟩,rfl⟩ ?_
  rintro ⟨i',m1,m2,m3,b1,wh1,y1,y2,y3,L,D,S,⟨⟩⟩ ⟨g1,g2,g3,g4,i,g5,g6,g7,g8,⟨A,g9⟩,⟨A',PR⟩,lA⟩
  dsimp only at g1 g2 g3 g4 g5 g6 g7 g8 g9 PR lA
  subst g1 g2 g3 g4 g5 g8
  dsimp only
  have hLf:=g7.ok.sW
  have SI:=g7.len
  rw [Bi L,Bi D,Bi (Xg L)]
  refine Br.dec (λhli=>?_) λhli=>?_
  ·have hi:i<ls.length:=by omega
   have VP:k<L.length:=by rw [g9,List.length_append];omega
   have hLk:L[k]=L0[k]:=by simp only [g9];exact List.getElem_append_left hk
   have VO:k<D.length:=by rw [SI];exact VP
   have hDk:D[k]=D0[k]:=by simp only [PR];exact List.getElem_append_left OT
   have zj:=lC _ (List.getElem_mem hi)
   obtain ⟨nl,nr⟩:=tS hV hx zj
   rw [List.drop_eq_getElem_cons hi] at lA
   simp only [Hj] at lA
   refine ⟨⟨by omega,by omega⟩,L0[k],by rw [Int.toNat_natCast,Nat.zero_add,List.getElem?_eq_getElem VP,hLk],_,Ap hi,_,if_pos ⟨hv,by show L0[k].length<=20;omega,hx,zj⟩,?_⟩
   dsimp only
   have hyl:(Aa L0[k] (An p.2.2.1 ls[i])).length=s.length:=by rw [nl,QO]
   refine ⟨_,if_pos (by show Dg (Aa L0[k] (An p.2.2.1 ls[i])).length L (Xg L);rw [hyl];exact g7.ok),Br.dec (λcv=>?_) λcv=>?_⟩
   ·have cv:Aa L0[k] (An p.2.2.1 ls[i])∈L:=rR.1 cv
    rw [if_pos cv] at lA
    rw [Ag (by omega)]
    exact ⟨rfl,rfl,rfl,rfl,rfl,rfl,rfl,rfl,rfl,rfl,rfl,rfl,⟨rfl,rfl,rfl,rfl,i+1,rfl,hi,g7,rfl,⟨A,g9⟩,⟨A',PR⟩,lA⟩,by omega⟩
   ·have cv:Aa L0[k] (An p.2.2.1 ls[i])∉L:= λhh=>cv (rR.2 hh)
    rw [if_neg cv] at lA
    refine ⟨λVd=>?_,λVd=>⟨⟨by omega,by omega⟩,D0[k],by rw [Int.toNat_natCast,Nat.zero_add,List.getElem?_eq_getElem VO,hDk],rfl,rfl,rfl,rfl,rfl,rfl,?_⟩⟩
    ·have Vd:L.length=3000:=by
      have:(L.length:Int)=3000:=by simpa using Vd
      omega
     rw [if_pos Vd] at lA
     have:=SY _ _ _ lA.symm
     rw [if_neg (by decide)] at this
     unfold Lm
     rw [this]
    ·have Vd:L.length≠3000:=by
      have:(L.length:Int)≠3000:=by simpa using Vd
      omega
     rw [if_neg Vd] at lA
     rw [Cp (n:=D0[k]+1) (by omega) (by omega)]
     refine ⟨_,if_pos ⟨by show Dg (Aa L0[k] (An p.2.2.1 ls[i])).length L (Xg L);rw [hyl];exact g7.ok,by show D.length<=3000;omega⟩,?_⟩
     dsimp only
     rw [Ag (by omega),<-aO]
     refine ⟨rfl,rfl,rfl,rfl,rfl,rfl,rfl,rfl,rfl,rfl,rfl,rfl,⟨rfl,rfl,rfl,rfl,i+1,rfl,hi,g7.add cv hyl (by omega) nr ⟨by omega,by omega⟩,rfl,⟨A++ [Aa L0[k] (An p.2.2.1 ls[i])],by rw [g9,List.append_assoc]⟩,⟨A'++ [D0[k]+1],by rw [PR,List.append_assoc]⟩,lA⟩,by omega⟩
  ·have:i=ls.length:=by omega
   subst this
   rw [List.drop_length,Hj] at lA
   have:=SY _ _ _ lA.symm
   rw [if_pos rfl] at this
   rw [Ag (by omega)]
   refine ⟨rfl,rfl,rfl,rfl,rfl,rfl,rfl,rfl,rfl,rfl,rfl,rfl,⟨rfl,rfl,rfl,rfl,k+1,rfl,by rw [g9,List.length_append];omega,g7,rfl,?_⟩,by omega⟩
   rw [show 3001-(k+1)=f by omega]
   exact this.symm
 ·have hk:k=L0.length:=by omega
  rw [Bi L0,Bi D0,Bi (Xg L0)]
  obtain ⟨f,hf⟩: ∃f,3001-k=f+1:=⟨3000-k,by omega⟩
  rw [hf,Lc,if_neg (by omega)] at h9
  unfold Lm
  rw [<-h9]
theorem xU:Sound Tryz.prog 131 dU:=
 Sound.Co YJ (Ae Pk (Ft BJ (Ae lQ (Ae uw (Ae uD Al))))) mixed Tryz.func131 (by kernel_rfl) (by kernel_rfl) λx h=>RC x.1 x.2.1 h
end Go.Proofs.YtfolipnappekaaaGreat

namespace Go.Proofs.YtfolipnappekaaaGreat
open Go.RowKit
noncomputable def Ct (p:PP) (t:List Int):Bool:=Bt p&&Sd p.1 t
noncomputable def Db (p:PP) (t:List Int):Bool:=Ct p t&&(Gg p.2.2.1 t).2.2
noncomputable abbrev En:Spec:=Co (.pair Dc (.pair tL .unit)) .bool false true (λx=>Cl x.1/\short x.2.1) (λx=>Ct x.1 x.2.1)
noncomputable def Jt (p:PP) (t:List Int):SS:=if Ct p t=true then Lm p.2.2.1 t else ([],[],[],false,())
noncomputable abbrev Of:Spec:=Co (.pair Dc (.pair tL .unit)) (.pair dY (.pair .bool .unit)) true false (λx=>Cl x.1/\short x.2.1) (λx=>(Jt x.1 x.2.1,Db x.1 x.2.1,()))
noncomputable abbrev Lp:Spec:=Co (.pair dX .unit) dX false true (λx=>Ew x.1) (λx=>x.1)
noncomputable def Ds (p:PP) (t:List Int):TT:=if Db p t=true then (t,(Gg p.2.2.1 t).1,(Gg p.2.2.1 t).2.1,()) else ([],[],[],())
noncomputable abbrev Og:Spec:=Co (.pair Dc (.pair tL .unit)) (.pair Ha (.pair .bool .unit)) true true (λx=>Cl x.1/\short x.2.1) (λx=>(Ds x.1 x.2.1,Db x.1 x.2.1,()))
noncomputable abbrev Qz:MSpec:=me [some 3,none] [(false, .Ee tI),(false, .Ee .str),(false, .Ee dX),(false, .Ee tL)] true [none,none,none] [xLL,rL, .Ee .bool]
 (λx=>Ct (x.1,x.2.1,x.2.2.1,()) x.2.2.2.1=true) (λx=>(((Ds (x.1,x.2.1,x.2.2.1,()) x.2.2.2.1).2.1,(Ds (x.1,x.2.1,x.2.2.1,()) x.2.2.2.1).2.2.1,Db (x.1,x.2.1,x.2.2.1,()) x.2.2.2.1,()),()))
noncomputable abbrev Rb:MSpec:=me [some 3,none] [(false, .Ee tI),(false, .Ee .str),(false, .Ee dX),(false, .Ee tL)] true [none,none,none] [xLL,rL, .Ee .bool]
 (λx=>Cl (x.1,x.2.1,x.2.2.1,())/\short x.2.2.2.1) (λx=>(((Ds (x.1,x.2.1,x.2.2.1,()) x.2.2.2.1).2.1,(Ds (x.1,x.2.1,x.2.2.1,()) x.2.2.2.1).2.2.1,Db (x.1,x.2.1,x.2.2.1,()) x.2.2.2.1,()),()))
noncomputable abbrev Oc:MSpec:=me [some 3,none] [(false, .Ee tI),(false, .Ee .str),(false, .Ee dX),(false, .Ee tL)] true [some 3,none] [rL,xLL,rL, .Ee .bool]
 (λx=>Cl (x.1,x.2.1,x.2.2.1,())/\short x.2.2.2.1) (λx=>(((Ds (x.1,x.2.1,x.2.2.1,()) x.2.2.2.1).1,(Ds (x.1,x.2.1,x.2.2.1,()) x.2.2.2.1).2.1,(Ds (x.1,x.2.1,x.2.2.1,()) x.2.2.2.1).2.2.1,Db (x.1,x.2.1,x.2.2.1,()) x.2.2.2.1,()),()))
noncomputable def Dd (p:PP) (t:TT):Bool:=Db p t.1&&Js (Ds p t.1) t
noncomputable abbrev Kk:Spec:=Co (.pair Dc (.pair Ha .unit)) .bool false true (λx=>Cl x.1/\Kg x.2.1) (λx=>Dd x.1 x.2.1)
abbrev ya:Ty:= .slice Ha
def Fe (ts:List TT):Prop:=ts.length<=4294967296/\ ∀t∈ts,Kg t
noncomputable def Cy (p:PP) (ts:List TT):Bool:=Bt p&&decide (ts.length<=4)&&List.all ts (Dd p)
noncomputable abbrev Gs:Spec:=Co (.pair Dc (.pair ya .unit)) .bool false true (λx=>Cl x.1/\Fe x.2.1) (λx=>Cy x.1 x.2.1)
abbrev Ack:Ty:= .clo 86 (.pair (.ptr Dc) .unit)
noncomputable abbrev sm:Spec:=Co (.pair Ha (.pair (.ptr Dc) .unit)) .bool false true (λx=>Kg x.1/\Cl x.2.1) (λx=>!Dd x.2.1 x.1)
def Lk (q:TT->Bool):List TT->Int->Int
 | [],_=> -1
 |t::ts,k=>if q t=true then k else Lk q ts (k+1)
noncomputable abbrev jZ:Spec:=Co (.pair ya (.pair Ack .unit)) tI false true (λx=>Fe x.1/\Cl x.2.1.1) (λx=>Lk (λt=>!Dd x.2.1.1 t) x.1 0)
noncomputable abbrev jW:Spec:=Co (.pair ya (.pair Ack .unit)) .bool false true (λx=>Fe x.1/\Cl x.2.1.1) (λx=>List.any x.1 (λt=>!Dd x.2.1.1 t))
def ku:List TT->Int->Int
 | [],room=>room
 |t::ts,room=>if Ma t room<0 then-1 else ku ts (Ma t room)
def zI (ts:List TT) (room:Int):Int:=if room-ts.length<0 then-1 else ku ts (room-ts.length)
noncomputable abbrev kb:Spec:=Co (.pair ya (.pair tI .unit)) tI false true (λx=>Fe x.1/\roomy x.2.1) (λx=>zI x.1 x.2.1)
noncomputable abbrev dc:Spec:=Co (.pair ya .unit) ya false true (λx=>Fe x.1) (λx=>x.1)
noncomputable abbrev jX:Spec:=Co (.pair ya (.pair ya .unit)) .bool false true (λx=>Fe x.1) (λx=>decide (x.1=x.2.1))
theorem qL (p:Int×ByteArray×List (List Int)×Unit) (t:List Int) (P:Bool->Prop):(∃(y3:Bool),Dv.fn ((p.1,p.2.1,p.2.2.1,()),())=some y3/\Br y3 (∃(y4:Bool),Fo.fn (p.1,t,())=some y4/\P y4) (P false))=fnW Cg (look [(84,Dv),(159,Fo)]) En Tryz.f151 (p,t,()) P:=by kernel_rfl
theorem qR (p:Int×ByteArray×List (List Int)×Unit) (t:List Int) (P:Bool->Prop):(∃(y3:Bool),Dv.fn ((p.1,p.2.1,p.2.2.1,()),())=some y3/\Br y3 (∃(y4:Bool),Fo.fn (p.1,t,())=some y4/\P y4) (P false))=fnW Cg (look [(93,Dv),(160,Fo)]) En Tryz.f155 (p,t,()) P:=by kernel_rfl
theorem yu (p:Int×ByteArray×List (List Int)×Unit) (t:List Int) (P:((List (List Int)×List Int×List Int×Bool×Unit)×Bool×Unit)->Prop):(∃(y3:Bool),En.fn ((p.1,p.2.1,p.2.2.1,()),t,())=some y3/\Br (!y3) (P ((List.take 0 (List.drop 0 []),List.take 0 (List.drop 0 []),List.take 0 (List.drop 0 []),false,()),false,())) (∃(y4:List (List Int)×List Int×List Int×Bool×PUnit),dU.fn ((p.1,p.2.1,p.2.2.1,()),t,())=some y4/\((P ((y4.1,y4.2.1,y4.2.2.1,y4.2.2.2.1,()),y4.2.2.2.1,())/\P ((y4.1,y4.2.1,y4.2.2.1,y4.2.2.2.1,()),y4.2.2.2.1,()))/\P ((y4.1,y4.2.1,y4.2.2.1,y4.2.2.2.1,()),y4.2.2.2.1,()))/\(P ((y4.1,y4.2.1,y4.2.2.1,y4.2.2.2.1,()),y4.2.2.2.1,())/\P ((y4.1,y4.2.1,y4.2.2.1,y4.2.2.2.1,()),y4.2.2.2.1,()))/\P ((y4.1,y4.2.1,y4.2.2.1,y4.2.2.2.1,()),y4.2.2.2.1,())))=fnW Cg (look [(155,En),(131,dU)]) Of Tryz.f142 (p,t,()) P:=by kernel_rfl
theorem yj (l:List (List Int)) (P:List (List Int)->Prop):(0=0/\0=([]:List Int).length/\Bm (λ(v2:Int×List (List Int)×PUnit) (k3:Int×List (List Int)×PUnit->Prop)=>Br (decide (v2.1<(↑l.length:Int))) (∃(y4:List Int),idx l v2.1=some y4/\ ∃(y5:List Int),Fb.fn (y4,())=some y5/\0=0/\v2.2.1.length=v2.2.1.length/\v2.2.1.length+(List.take 1 (List.drop 0 [y5])).length<=Bj/\0=0/\(v2.2.1++List.take 1 (List.drop 0 [y5])).length=(v2.2.1++List.take 1 (List.drop 0 [y5])).length/\k3 (IntKind.i64.wrap (v2.1+(1:Int)),v2.2.1++List.take 1 (List.drop 0 [y5]),())) (P (List.take v2.2.1.length (List.drop 0 v2.2.1)))) ((0:Int),[],PUnit.unit))=fnW Cg (look [(116,Fb)]) Lp Tryz.f143 (l,()) P:=by kernel_rfl
theorem yw (p:Int×ByteArray×List (List Int)×Unit) (t:List Int) (P:((List Int×List (List Int)×List Int×Unit)×Bool×Unit)->Prop):(∃(y3:(List (List Int)×List Int×List Int×Bool×PUnit)×Bool×PUnit),Of.fn ((p.1,p.2.1,p.2.2.1,()),t,())=some y3/\Br (!y3.2.1) (P ((List.take 0 (List.drop 0 []),List.take 0 (List.drop 0 []),List.take 0 (List.drop 0 []),()),false,())) (∃(y4:List Int),Fb.fn (t,())=some y4/\ ∃(y5:List (List Int)),Lp.fn (y3.1.1,())=some y5/\ ∃(y6:List Int),Fb.fn (y3.1.2.1,())=some y6/\P ((y4,y5,y6,()),true,())))=fnW Cg (look [(142,Of),(116,Fb),(143,Lp)]) Og Tryz.f125 (p,t,()) P:=by kernel_rfl
abbrev Xh:Type:=Int×List (List Int)×List (List Int)×List Int×(ByteArray->Option Bool)×PUnit
abbrev lk:Type:=Int×Int×ByteArray×List (List Int)×List (List Int)×List (List Int)×List Int×(ByteArray->Option Bool)×PUnit
theorem CD (n:Int) (str:ByteArray) (g:List (List Int)) (t:List Int) (P:((List (List Int)×List Int×Bool×Unit)×Unit)->Prop):(∃(y5:(List Int×PUnit)×PUnit),Vq.fn (t,())=some y5/\ ∃(y6:ByteArray),Fy.fn (t,())=some y6/\ ∃(y7:List Int),Ug.fn ((↑g.length:Int),())=some y7/\0=0/\1= [List.take y5.1.1.length (List.drop 0 y5.1.1)].length/\0=0/\1= [(0:Int)].length/\0=0/\0=([]:List Int).length/\Bm (λ(v8:lk) (k9:lk->Prop)=>Br (decide (v8.1<(↑y7.length:Int))) (∃(Ya:Int),idx y7 v8.1=some Ya/\ ∃(qS:List Int),Qw.fn (v8.2.2.2.1,Ya,())=some qS/\0=0/\v8.2.2.2.2.1.length=v8.2.2.2.2.1.length/\v8.2.2.2.2.1.length+(List.take 1 (List.drop 0 [qS])).length<=Bj/\0=0/\v8.2.2.2.2.2.1.length=v8.2.2.2.2.2.1.length/\0=0/\v8.2.2.2.2.2.2.1.length=v8.2.2.2.2.2.2.1.length/\0=0/\(v8.2.2.2.2.1++List.take 1 (List.drop 0 [qS])).length=(v8.2.2.2.2.1++List.take 1 (List.drop 0 [qS])).length/\k9 (IntKind.i64.wrap (v8.1+(1:Int)),v8.2.1,v8.2.2.1,v8.2.2.2.1,v8.2.2.2.2.1++List.take 1 (List.drop 0 [qS]),v8.2.2.2.2.2.1,v8.2.2.2.2.2.2.1,v8.2.2.2.2.2.2.2.1,())) (0=0/\v8.2.2.2.2.2.1.length=v8.2.2.2.2.2.1.length/\0=0/\v8.2.2.2.2.2.2.1.length=v8.2.2.2.2.2.2.1.length/\0=0/\v8.2.2.2.2.1.length=v8.2.2.2.2.1.length/\Bm (λ(v10:Xh) (k11:Xh->Prop)=>Br (decide (v10.1<(↑v10.2.2.1.length:Int))) (0=0/\v10.2.2.1.length=v10.2.2.1.length/\0=0/\v10.2.2.2.1.length=v10.2.2.2.1.length/\0=0/\v10.2.1.length=v10.2.1.length/\0=0/\v10.2.1.length=v10.2.1.length/\Bm (λ(Iv:Xh) (k13:Xh->Prop)=>Br (decide (Iv.1<(↑v10.2.1.length:Int))) (((0:Int)<=Iv.1/\Iv.1<(↑Iv.2.1.length:Int))/\ ∃(aW:List Int),Iv.2.1[0+Iv.1.toNat]?=some aW/\((0:Int)<=v10.1/\v10.1<(↑Iv.2.2.1.length:Int))/\ ∃(px:List Int),Iv.2.2.1[0+v10.1.toNat]?=some px/\ ∃(vA:(List Int×PUnit)×PUnit),Uh.fn (aW,px,())=some vA/\ ∃(RW:ByteArray),Fy.fn (List.take vA.1.1.length (List.drop 0 vA.1.1),())=some RW/\Br (!(Iv.2.2.2.2.1 RW).getD false) (Br ((↑Iv.2.2.1.length:Int)==(3000:Int)) (P ((List.take 0 (List.drop 0 []),List.take 0 (List.drop 0 []),false,()),())) (0=0/\Iv.2.2.1.length=Iv.2.2.1.length/\Iv.2.2.1.length+(List.take 1 (List.drop 0 [List.take vA.1.1.length (List.drop 0 vA.1.1)])).length<=Bj/\((0:Int)<=v10.1/\v10.1<(↑Iv.2.2.2.1.length:Int))/\ ∃(IQ:Int),Iv.2.2.2.1[0+v10.1.toNat]?=some IQ/\0=0/\Iv.2.2.2.1.length=Iv.2.2.2.1.length/\Iv.2.2.2.1.length+(List.take 1 (List.drop 0 [IntKind.i64.wrap (IQ+(1:Int))])).length<=Bj/\0=0/\(Iv.2.2.1++List.take 1 (List.drop 0 [List.take vA.1.1.length (List.drop 0 vA.1.1)])).length=(Iv.2.2.1++List.take 1 (List.drop 0 [List.take vA.1.1.length (List.drop 0 vA.1.1)])).length/\0=0/\(Iv.2.2.2.1++List.take 1 (List.drop 0 [IntKind.i64.wrap (IQ+(1:Int))])).length=(Iv.2.2.2.1++List.take 1 (List.drop 0 [IntKind.i64.wrap (IQ+(1:Int))])).length/\0=0/\Iv.2.1.length=Iv.2.1.length/\0=0/\Iv.2.1.length=Iv.2.1.length/\k13 (IntKind.i64.wrap (Iv.1+(1:Int)),Iv.2.1,Iv.2.2.1++List.take 1 (List.drop 0 [List.take vA.1.1.length (List.drop 0 vA.1.1)]),Iv.2.2.2.1++List.take 1 (List.drop 0 [IntKind.i64.wrap (IQ+(1:Int))]),dp Iv.2.2.2.2.1 RW true,()))) (0=0/\Iv.2.2.1.length=Iv.2.2.1.length/\0=0/\Iv.2.2.2.1.length=Iv.2.2.2.1.length/\0=0/\Iv.2.1.length=Iv.2.1.length/\0=0/\Iv.2.1.length=Iv.2.1.length/\k13 (IntKind.i64.wrap (Iv.1+(1:Int)),Iv.2.1,Iv.2.2.1,Iv.2.2.2.1,Iv.2.2.2.2.1,()))) (0=0/\Iv.2.2.1.length=Iv.2.2.1.length/\0=0/\Iv.2.2.2.1.length=Iv.2.2.2.1.length/\0=0/\Iv.2.1.length=Iv.2.1.length/\k11 (IntKind.i64.wrap (v10.1+(1:Int)),Iv.2.1,Iv.2.2.1,Iv.2.2.2.1,Iv.2.2.2.2.1,()))) ((0:Int),v10.2.1,v10.2.2.1,v10.2.2.2.1,v10.2.2.2.2.1,PUnit.unit)) (P ((List.take v10.2.2.1.length (List.drop 0 v10.2.2.1),List.take v10.2.2.2.1.length (List.drop 0 v10.2.2.2.1),true,()),()))) ((0:Int),v8.2.2.2.2.1,v8.2.2.2.2.2.1,v8.2.2.2.2.2.2.1,v8.2.2.2.2.2.2.2.1,PUnit.unit))) ((0:Int),n,str,g,[],[List.take y5.1.1.length (List.drop 0 y5.1.1)],[(0:Int)],dp (λ(_:ByteArray)=>none) y6 true,PUnit.unit))=fnMW (NO [Sm+10]) (look [(138,Vq),(79,Fy),(106,Ug),(122,Qw),(80,Uh)]) Qz Tryz.f152 (n,str,g,t,()) P:=by kernel_rfl
theorem CF (n:Int) (str:ByteArray) (g:List (List Int)) (t:List Int) (P:((List (List Int)×List Int×Bool×Unit)×Unit)->Prop):(∃(y5:Bool),En.fn ((n,str,g,()),t,())=some y5/\Br (!y5) (P ((List.take 0 (List.drop 0 []),List.take 0 (List.drop 0 []),false,()),())) (∃(y6:(List (List Int)×List Int×Bool×PUnit)×PUnit),Qz.fn (n,str,g,t,())=some y6/\P ((List.take y6.1.1.length (List.drop 0 y6.1.1),List.take y6.1.2.1.length (List.drop 0 y6.1.2.1),y6.1.2.2.1,()),())))=fnMW kx (look [(151,En),(152,Qz)]) Rb Tryz.f137 (n,str,g,t,()) P:=by kernel_rfl
theorem ym (n:Int) (str:ByteArray) (g:List (List Int)) (t:List Int) (P:((List Int×List (List Int)×List Int×Bool×Unit)×Unit)->Prop):(∃(y5:(List (List Int)×List Int×Bool×PUnit)×PUnit),Rb.fn (n,str,g,t,())=some y5/\Br (!y5.1.2.2.1) (P ((List.take 0 (List.drop 0 []),List.take 0 (List.drop 0 []),List.take 0 (List.drop 0 []),false,()),())) (∃(y6:(List Int×PUnit)×PUnit),Vq.fn (t,())=some y6/\P ((List.take y6.1.1.length (List.drop 0 y6.1.1),List.take y5.1.1.length (List.drop 0 y5.1.1),List.take y5.1.2.1.length (List.drop 0 y5.1.2.1),true,()),())))=fnMW kx (look [(137,Rb),(138,Vq)]) Oc Tryz.f113 (n,str,g,t,()) P:=by kernel_rfl
theorem v7 (p:Int×ByteArray×List (List Int)×Unit) (t:List Int×List (List Int)×List Int×Unit) (P:Bool->Prop):(∃(y3:(List Int×List (List Int)×List Int×Bool×PUnit)×PUnit),Oc.fn (p.1,p.2.1,p.2.2.1,t.1,())=some y3/\Br y3.1.2.2.2.1 (∃(y4:Bool),Ei.fn ((List.take y3.1.1.length (List.drop 0 y3.1.1),List.take y3.1.2.1.length (List.drop 0 y3.1.2.1),List.take y3.1.2.2.1.length (List.drop 0 y3.1.2.2.1),()),(t.1,t.2.1,t.2.2.1,()),())=some y4/\P y4) (P false))=fnW Cg (look [(113,Oc),(114,Ei)]) Kk Tryz.f87 (p,t,()) P:=by kernel_rfl
theorem vg (p:Int×ByteArray×List (List Int)×Unit) (t:List Int×List (List Int)×List Int×Unit) (P:Bool->Prop):(∃(y3:(List Int×List (List Int)×List Int×PUnit)×Bool×PUnit),Og.fn ((p.1,p.2.1,p.2.2.1,()),t.1,())=some y3/\Br y3.2.1 (∃(y4:Bool),Ei.fn ((y3.1.1,y3.1.2.1,y3.1.2.2.1,()),(t.1,t.2.1,t.2.2.1,()),())=some y4/\P y4) (P false))=fnW Cg (look [(125,Og),(126,Ei)]) Kk Tryz.f94 (p,t,()) P:=by kernel_rfl
theorem Ad1 (t:List Int×List (List Int)×List Int×Unit) (p:Int×ByteArray×List (List Int)×Unit) (P:Bool->Prop):(∃(y3:Bool),Kk.fn (p,(t.1,t.2.1,t.2.2.1,()),())=some y3/\P !y3)=fnW Cg (look [(87,Kk)]) sm Tryz.f86 (t,p,()) P:=by kernel_rfl
theorem YP (ts:List (List Int×List (List Int)×List Int×Unit)) (c:(Int×ByteArray×List (List Int)×Unit)×Unit) (P:Int->Prop):(Bm (λ(v3:Int×PUnit) (k4:Int×PUnit->Prop)=>Br (decide (v3.1<(↑ts.length:Int))) (∃(y5:List Int×List (List Int)×List Int×PUnit),idx ts v3.1=some y5/\ ∃(y6:Bool),sm.fn (y5,c.1,())=some y6/\Br y6 (P v3.1) (k4 (IntKind.i64.wrap (v3.1+(1:Int)),()))) (P (-1:Int))) ((0:Int),PUnit.unit))=fnW Cg (look [(86,sm)]) jZ Tryz.f112 (ts,c,()) P:=by kernel_rfl
theorem YL (ts:List (List Int×List (List Int)×List Int×Unit)) (c:(Int×ByteArray×List (List Int)×Unit)×Unit) (P:Bool->Prop):(∃(y3:Int),jZ.fn (ts,c,())=some y3/\P (decide (y3>=(0:Int))))=fnW Cg (look [(112,jZ)]) jW Tryz.f85 (ts,c,()) P:=by kernel_rfl
theorem pf (p:Int×ByteArray×List (List Int)×Unit) (ts:List (List Int×List (List Int)×List Int×Unit)) (P:Bool->Prop):(∃(y3:Bool),Dv.fn ((p.1,p.2.1,p.2.2.1,()),())=some y3/\Br y3 (Br (decide ((↑ts.length:Int)<=(4:Int))) (∃(y4:Bool),jW.fn (ts,((p.1,p.2.1,p.2.2.1,()),()),())=some y4/\P !y4) (P false)) (P false))=fnW Cg (look [(84,Dv),(85,jW)]) Gs Tryz.f63 (p,ts,()) P:=by kernel_rfl
abbrev bA:Type:=Int×Int×ByteArray×List (List Int)×PUnit
theorem ph (p:Int×ByteArray×List (List Int)×Unit) (ts:List (List Int×List (List Int)×List Int×Unit)) (P:Bool->Prop):(∃(y3:Bool),Dv.fn ((p.1,p.2.1,p.2.2.1,()),())=some y3/\Br (!y3) (P false) (Br (decide ((↑ts.length:Int)>(4:Int))) (P false) (Bm (λ(v4:bA) (k5:bA->Prop)=>Br (decide (v4.1<(↑ts.length:Int))) (∃(y6:List Int×List (List Int)×List Int×PUnit),idx ts v4.1=some y6/\ ∃(y7:Bool),Kk.fn ((v4.2.1,v4.2.2.1,v4.2.2.2.1,()),y6,())=some y7/\Br (!y7) (P false) (k5 (IntKind.i64.wrap (v4.1+(1:Int)),v4.2.1,v4.2.2.1,v4.2.2.2.1,()))) (P true)) ((0:Int),p.1,p.2.1,p.2.2.1,PUnit.unit))))=fnW Cg (look [(93,Dv),(94,Kk)]) Gs Tryz.f72 (p,ts,()) P:=by kernel_rfl
theorem YV (ts:List (List Int×List (List Int)×List Int×Unit)) (k:Int) (P:Int->Prop):(Br (decide (IntKind.i64.wrap (k-(↑ts.length:Int))<(0:Int))) (P (-1:Int)) (Bm (λ(v3:Int×Int×PUnit) (k4:Int×Int×PUnit->Prop)=>Br (decide (v3.2.1<(↑ts.length:Int))) (∃(y5:List Int×List (List Int)×List Int×PUnit),idx ts v3.2.1=some y5/\ ∃(y6:Int),Uk.fn (y5,v3.1,())=some y6/\Br (decide (y6<(0:Int))) (P (-1:Int)) (k4 (y6,IntKind.i64.wrap (v3.2.1+(1:Int)),()))) (P v3.1)) (IntKind.i64.wrap (k-(↑ts.length:Int)),(0:Int),PUnit.unit)))=fnW Cg (look [(46,Uk)]) kb Tryz.f14 (ts,k,()) P:=by kernel_rfl
abbrev EH:Type:=Int×List (List Int×List (List Int)×List Int×PUnit)×PUnit
abbrev EI:Type:=List Int×List (List Int)×List Int×PUnit
theorem YX (ts:List (List Int×List (List Int)×List Int×Unit)) (P:List (List Int×List (List Int)×List Int×Unit)->Prop):(((0:Int)<=(↑ts.length:Int)/\(↑ts.length:Int)<(↑Bj:Int)+(1:Int))/\(↑ts.length:Int)=(↑ts.length:Int)/\0=0/\(List.replicate (↑ts.length:Int).toNat (([]:List Int),([]:List (List Int)),([]:List Int),())).length=(List.replicate (↑ts.length:Int).toNat (([]:List Int),([]:List (List Int)),([]:List Int),())).length/\Bm (λ(v2:EH) (k3:EH->Prop)=>Br (decide (v2.1<(↑ts.length:Int))) (∃(y4:EI),idx ts v2.1=some y4/\ ∃(y5:EI),Ul.fn (y4,())=some y5/\((0:Int)<=v2.1/\v2.1<(↑v2.2.1.length:Int))/\0+v2.1.toNat<v2.2.1.length/\0=0/\v2.2.1.length=(v2.2.1.set (0+v2.1.toNat) y5).length/\k3 (IntKind.i64.wrap (v2.1+(1:Int)),v2.2.1.set (0+v2.1.toNat) y5,())) (P (List.take v2.2.1.length (List.drop 0 v2.2.1)))) ((0:Int),List.replicate (↑ts.length:Int).toNat (([]:List Int),([]:List (List Int)),([]:List Int),()),PUnit.unit))=fnW Cg (look [(50,Ul)]) dc Tryz.f17 (ts,()) P:=by kernel_rfl
abbrev EF:Type:=List Int×List (List Int)×List Int×PUnit
theorem YN (a b:List (List Int×List (List Int)×List Int×Unit)) (P:Bool->Prop):(Br ((↑a.length:Int) !=(↑b.length:Int)) (P false) (Bm (λ(v3:Int×PUnit) (k4:Int×PUnit->Prop)=>Br (decide (v3.1<(↑a.length:Int))) (∃(y5:EF),idx a v3.1=some y5/\ ∃(y6:EF),idx b v3.1=some y6/\ ∃(y7:Bool),Ei.fn (y5,y6,())=some y7/\Br (!y7) (P false) (k4 (IntKind.i64.wrap (v3.1+(1:Int)),()))) (P true)) ((0:Int),PUnit.unit)))=fnW Cg (look [(54,Ei)]) jX Tryz.f21 (a,b,()) P:=by kernel_rfl
theorem mI {p:PP} (hV:Valid p) {m:Nat} {x:List Int} {d:Int} (hx: ∀y∈x,0<=y/\y<p.1) (QO:x.length=m): ∀(ls:List Int) (L:List (List Int)) (D:List Int),(∀l∈ls,Im (List.length p.2.2.1) l)->
  Sz p m L D->(0<=d/\d<L.length)->Sz p m (Hj p.2.2.1 x d ls L D).1 (Hj p.2.2.1 x d ls L D).2.1/\(∃A,(Hj p.2.2.1 x d ls L D).1=L++A)/\(∃A,(Hj p.2.2.1 x d ls L D).2.1=D++A)
 | [],L,D,_,h,_=>⟨h,⟨[],by simp [Hj]⟩,⟨[],by simp [Hj]⟩⟩
 |l::ls,L,D,hl,h,hd=>by
  obtain ⟨n1,n2⟩:=tS hV hx (hl l (by simp))
  have Gm: ∀l∈ls,Im (List.length p.2.2.1) l:= λl' h'=>hl l' (List.mem_cons_of_mem _ h')
  simp only [Hj]
  split
  ·exact mI hV hx QO ls L D Gm h hd
  ·rename_i hn
   split
   ·exact ⟨h,⟨[],by simp⟩,⟨[],by simp⟩⟩
   ·rename_i hf
    have pG:=h.ok.sW
    obtain ⟨k1,⟨A,k2⟩,⟨A',k3⟩⟩:=mI hV hx QO ls (L++ [Aa x (An p.2.2.1 l)]) (D++ [d+1]) Gm (h.add hn (by rw [n1,QO]) (by omega) n2 ⟨by omega,by omega⟩) ⟨hd.1,by rw [List.length_append];omega⟩
    exact ⟨k1,⟨_::A,by rw [k2,List.append_assoc];rfl⟩,⟨_::A',by rw [k3,List.append_assoc];rfl⟩⟩
theorem vT {p:PP} (hV:Valid p) {m:Nat} {ls:List Int} (hl: ∀l∈ls,Im (List.length p.2.2.1) l): ∀(f k:Nat) (L:List (List Int)) (D:List Int),Sz p m L D->
  Sz p m (Lc p.2.2.1 ls f k L D).1 (Lc p.2.2.1 ls f k L D).2.1/\(∃A,(Lc p.2.2.1 ls f k L D).1=L++A)
 |0,k,L,D,h=>⟨h,⟨[],by simp [Lc]⟩⟩
 |f+1,k,L,D,h=>by
  simp only [Lc]
  split
  ·rename_i hk
   have OT:k<D.length:=by rw [h.len];exact hk
   have hd:=h.dep k OT
   have e:D.getD k 0=D[k]:=by rw [List.getD_eq_getElem?_getD,List.getElem?_eq_getElem OT];rfl
   rw [Rw hk,e]
   obtain ⟨k1,⟨A,k2⟩,_⟩:=mI hV (h.row _ (List.getElem_mem hk)) (h.ok.len _ (List.getElem_mem hk)) (d:=D[k]) ls L D hl h ⟨by omega,by omega⟩
   split
   ·rename_i L' D' he
    rw [he] at k1 k2
    obtain ⟨g1,⟨B,g2⟩⟩:=vT hV hl f (k+1) L' D' k1
    have k2:L'=L++A:=k2
    exact ⟨g1,⟨A++B,by rw [g2,k2,List.append_assoc]⟩⟩
   ·rename_i L' D' he
    rw [he] at k1 k2
    exact ⟨k1,⟨A,k2⟩⟩
  ·exact ⟨h,⟨[],by simp⟩⟩
theorem yS {p:PP} {s:List Int} (hv:Bt p=true) (hs:s.length<=20) (hr: ∀y∈s,0<=y/\y<p.1):Sz p s.length (Gg p.2.2.1 s).1 (Gg p.2.2.1 s).2.1/\ ∃A,(Gg p.2.2.1 s).1=s::A:=
 vT (valid hv) (λ_ hl=>Wv hl) _ _ _ _ (jk hs hr)
theorem Lq {p:PP} {t:List Int} :Ct p t=true↔Bt p=true/\Sd p.1 t=true:=by
 unfold Ct;rw [Bool.and_eq_true]
theorem Eu {p:PP} {t:List Int} (h:Ct p t=true):t.length<=20/\ ∀y∈t,0<=y/\y<p.1:=by
 obtain ⟨h1,h2⟩:=Lq.1 h
 have hn:=(valid h1).n
 obtain ⟨h3,h4⟩:=Di.1 h2
 have hy: ∀y∈t,0<=y/\y<p.1:= λy hy=>by
  obtain ⟨j,hj,rfl⟩:=List.mem_iff_getElem.1 hy
  have:=h4 j hj hj
  omega
 refine ⟨?_,hy⟩
 have h5:=AK h4 (t.length-1) (by omega)
 have h6:=hy _ (List.getElem_mem (show t.length-1<t.length by omega))
 omega
theorem u9 {p:PP} {t:List Int} (h:Ct p t=true):Sz p t.length (Gg p.2.2.1 t).1 (Gg p.2.2.1 t).2.1:=(yS (Lq.1 h).1 (Eu h).1 (Eu h).2).1
theorem Za {p:PP} {t:List Int} :Db p t=true↔Ct p t=true/\(Gg p.2.2.1 t).2.2=true:=by
 unfold Db;rw [Bool.and_eq_true]
theorem qV {p:PP} {m:Nat} {L:List (List Int)} {D:List Int} (h:Sz p m L D):Ew L/\short D:=by
 have h1:=h.ok.sW
 have h2:=h.ok.short
 have h3:=h.len
 refine ⟨⟨by omega,λx hx=>?_⟩,by unfold short;omega⟩
 have:=h.ok.len x hx
 unfold short;omega
theorem kD {p:PP} {t:List Int} :Kg (Ds p t):=by
 unfold Ds
 split
 ·rename_i h
  have h1:=(Za.1 h).1
  have h2:=qV (u9 h1)
  have h3:=(Eu h1).1
  exact ⟨show t.length<=4294967296 by omega,h2.1,h2.2⟩
 ·exact ⟨by simp [short],⟨by simp,λr hr=>by cases hr⟩,by simp [short]⟩
theorem q7 (p:PP) (t:List Int) (h:Cl p/\short t):fnW Cg (look [(84,Dv),(159,Fo)]) En Tryz.f151 (p,t,()) (λ(z:Bool)=>z=Ct p t):=by
 refine Eq.mp (qL p t _) ⟨_,if_pos h.1,⟨λhv=>?_,λhv=>?_⟩⟩
 ·have hv:Bt p=true:=hv
  have hn:=(valid hv).n
  refine ⟨_,if_pos ⟨⟨by show 0<=p.1;omega,by show p.1<=4294967296;omega⟩,h.2⟩,?_⟩
  unfold Ct;rw [hv];rfl
 ·have hv:Bt p=false:=hv
  unfold Ct;rw [hv];rfl
theorem iT:Sound Tryz.prog 151 En:=
 Sound.Co Bg (Ae Rc (Ae lP Al)) mixed Tryz.func151 (by kernel_rfl) (by kernel_rfl) λx h=>q7 x.1 x.2.1 h
theorem qd (p:PP) (t:List Int) (h:Cl p/\short t):fnW Cg (look [(93,Dv),(160,Fo)]) En Tryz.f155 (p,t,()) (λ(z:Bool)=>z=Ct p t):=by
 refine Eq.mp (qR p t _) ⟨_,if_pos h.1,⟨λhv=>?_,λhv=>?_⟩⟩
 ·have hv:Bt p=true:=hv
  have hn:=(valid hv).n
  refine ⟨_,if_pos ⟨⟨by show 0<=p.1;omega,by show p.1<=4294967296;omega⟩,h.2⟩,?_⟩
  unfold Ct;rw [hv];rfl
 ·have hv:Bt p=false:=hv
  unfold Ct;rw [hv];rfl
theorem iW:Sound Tryz.prog 155 En:=
 Sound.Co Bg (Ae Rd (Ae iU Al)) mixed Tryz.func155 (by kernel_rfl) (by kernel_rfl) λx h=>qd x.1 x.2.1 h
theorem xC (p:PP) (t:List Int) (h:Cl p/\short t):fnW Cg (look [(155,En),(131,dU)]) Of Tryz.f142 (p,t,()) (λ(z:SS×Bool×Unit)=>z=(Jt p t,Db p t,())):=by
 refine Eq.mp (yu p t _) ⟨_,if_pos h,⟨λhn=>?_,λhn=>?_⟩⟩
 ·have hn:=Dk hn
  have e:Db p t=false:=Bool.eq_false_iff.2 λhh=>hn (Za.1 hh).1
  unfold Jt
  rw [if_neg hn,e]
  rfl
 ·have hn:Ct p t=true:=De hn
  have e:Db p t=(Gg p.2.2.1 t).2.2:=by unfold Db;rw [hn,Bool.true_and]
  refine ⟨_,if_pos ⟨(Lq.1 hn).1,(Eu hn).1,(Eu hn).2⟩,?_⟩
  have key:(((Lm p.2.2.1 t).1,(Lm p.2.2.1 t).2.1,(Lm p.2.2.1 t).2.2.1,(Lm p.2.2.1 t).2.2.2.1,()),(Lm p.2.2.1 t).2.2.2.1,())=(Jt p t,Db p t,()):=by
   unfold Jt
   rw [if_pos hn,e]
   rfl
  exact ⟨⟨⟨key,key⟩,key⟩,⟨key,key⟩,key⟩
theorem lT:Sound Tryz.prog 142 Of:=
 Sound.Co Bg (Ae iW (Ae xU Al)) mixed Tryz.func142 (by kernel_rfl) (by kernel_rfl) λx h=>xC x.1 x.2.1 h
theorem xr (l:List (List Int)) (h:Ew l):fnW Cg (look [(116,Fb)]) Lp Tryz.f143 (l,()) (λ(z:List (List Int))=>z=l):=by
 obtain ⟨h1,h2⟩:=h
 refine Eq.mp (yj l _) ⟨rfl,rfl,?_⟩
 refine Ai l.length (λv=>v.1) (λj v=>v.2.1=l.take j) rfl (by simp) ?_
 rintro j ⟨i,ys,⟨⟩⟩ K hj hi hR hK
 dsimp only at hi hR⊢
 subst hi hR
 refine Br.dec (λhl=>?_) λhl=>?_
 ·have hl:j<l.length:=by omega
  refine ⟨_,Ap hl,_,if_pos (h2 _ (List.getElem_mem hl)),rfl,rfl,?_,rfl,rfl,?_⟩
  ·show (List.take j l).length+1<=4294967296
   rw [List.length_take];omega
  ·rw [Ag (by omega)]
   refine hK hl _ rfl ?_
   show List.take j l++ [l[j]]=_
   rw [List.take_add_one,List.getElem?_eq_getElem hl];rfl
 ·have:j=l.length:=by omega
  subst this
  rw [Bi,List.take_length]
theorem lK:Sound Tryz.prog 143 Lp:=
 Sound.Co Bg (Ae Pk Al) mixed Tryz.func143 (by kernel_rfl) (by kernel_rfl) λx h=>xr x.1 h
theorem xD (p:PP) (t:List Int) (h:Cl p/\short t):fnW Cg (look [(142,Of),(116,Fb),(143,Lp)]) Og Tryz.f125 (p,t,()) (λ(z:TT×Bool×Unit)=>z=(Ds p t,Db p t,())):=by
 refine Eq.mp (yw p t _) ⟨_,if_pos h,⟨λhn=>?_,λhn=>?_⟩⟩
 ·have hn:=Dk hn
  have hn: ¬Db p t=true:=hn
  unfold Ds
  rw [if_neg hn,Bool.eq_false_iff.2 hn]
  rfl
 ·have hn:Db p t=true:=De hn
  obtain ⟨h1,h2⟩:=Za.1 hn
  have h3:=qV (u9 h1)
  have e:Jt p t=Lm p.2.2.1 t:=if_pos h1
  refine ⟨_,if_pos h.2,?_⟩
  show ∃y5:List (List Int),Lp.fn ((Jt p t).1,())=some y5/\ ∃y6:List Int,Fb.fn ((Jt p t).2.1,())=some y6/\((t,y5,y6,()),true,())=(Ds p t,Db p t,())
  rw [e]
  refine ⟨_,if_pos h3.1,_,if_pos h3.2,?_⟩
  unfold Ds
  rw [if_pos hn,hn]
  rfl
theorem lU:Sound Tryz.prog 125 Og:=
 Sound.Co Bg (Ae lT (Ae Pk (Ae lK Al))) mixed Tryz.func125 (by kernel_rfl) (by kernel_rfl) λx h=>xD x.1 x.2.1 h
def jf (m:ByteArray->Option Bool) (L:List (List Int)):Prop:= ∀q,bd q->(m (Pv q)).getD false=decide (q∈L)
theorem jf.add {m:ByteArray->Option Bool} {L:List (List Int)} {y:List Int} (h:jf m L) (hy:bd y):jf (dp m (Pv y) true) (L++ [y]):=by
 intro q hq
 unfold dp
 by_cases e:q=y
 ·subst e
  rw [if_pos rfl];simp
 ·rw [if_neg λhk=>e (key_inj hq hy hk),h q hq]
  simp [e]
theorem AE (n:Int) (str:ByteArray) (g:List (List Int)) (t:List Int) (h:Ct (n,str,g,()) t=true):
  fnMW (NO [Sm+10]) (look [(138,Vq),(79,Fy),(106,Ug),(122,Qw),(80,Uh)]) Qz Tryz.f152 (n,str,g,t,()) (λ(z:(List (List Int)×List Int×Bool×Unit)×Unit)=>z=(((Ds (n,str,g,()) t).2.1,(Ds (n,str,g,()) t).2.2.1,Db (n,str,g,()) t,()),())):=by
 obtain ⟨hv,_⟩:=Lq.1 h
 obtain ⟨ht,hr⟩:=Eu h
 have hV:=valid hv
 have pG:=hV.sW
 have hn:=hV.n
 dsimp only at pG hn hr
 have VC:=jk (p:=(n,str,g,())) ht hr
 have yH:short t:=by unfold short;omega
 obtain ⟨ls,vr⟩: ∃ls,Ck g.length=ls:=⟨_,rfl⟩
 have OX:ls.length<=16:=by rw [<-vr,Rl];omega
 have lC: ∀l∈ls,Im (List.length g) l:= λl hl=>Wv (vr▸hl)
 have zp:Lc g ls 3001 0 [t] [0]=Gg g t:=by unfold Gg;rw [vr]
 have SN: ∀x:List Int,(∀y∈x,0<=y/\y<n)->bd x:= λx hx y hy=>by have:=hx y hy;omega
 have Aah: ∀L D ok,Gg g t=(L,D,ok)->(if ok=true then ((L,D,true,()),()) else ((([]:List (List Int)),([]:List Int),false,()),()))=(((Ds (n,str,g,()) t).2.1,(Ds (n,str,g,()) t).2.2.1,Db (n,str,g,()) t,()),()):=by
  intro L D ok he
  have e1:Db (n,str,g,()) t=ok:=by unfold Db;rw [h,Bool.true_and];show (Gg g t).2.2=ok;rw [he]
  unfold Ds
  rw [e1]
  cases ok with
  |true=>rw [if_pos rfl,if_pos rfl];show ((L,D,true,()),())=(((Gg g t).1,(Gg g t).2.1,true,()),());rw [he]
  |false=>rw [if_neg (by decide),if_neg (by decide)]
 refine Eq.mp (CD n str g t _) ⟨_,if_pos yH,_,if_pos yH,ls,(if_pos ⟨by show (0:Int)<=((g.length:Nat):Int);omega,by show ((g.length:Nat):Int)<=8;omega⟩).trans (congrArg some (by show Ck (((g.length:Nat):Int)).toNat=ls;rw [Int.toNat_natCast];exact vr)),rfl,rfl,rfl,rfl,rfl,rfl,?_⟩
 rw [Bi]
 refine Ai ls.length (λv=>v.1) (λj v=>v.2.1=n/\v.2.2.1=str/\v.2.2.2.1=g/\v.2.2.2.2.1=(ls.take j).map (An g)/\v.2.2.2.2.2.1= [t]/\v.2.2.2.2.2.2.1= [0]/\jf v.2.2.2.2.2.2.2.1 [t]) rfl
  ⟨rfl,rfl,rfl,by simp,rfl,rfl,λq hq=>?_⟩ ?_
 ·show (dp (λ_=>none) (Pv t) true (Pv q)).getD false=_
  unfold dp
  by_cases e:q=t
  ·subst e;rw [if_pos rfl];simp
  ·rw [if_neg λhk=>e (key_inj hq (SN t hr) hk)];simp [e]
 rintro j ⟨i,n',Ach,g',mv,L1,D1,m1,⟨⟩⟩ K hj hi ⟨h1,h2,h3,h4,h5,h6,h7⟩ hK
 dsimp only at hi h1 h2 h3 h4 h5 h6 h7⊢
 subst hi h1 h2 h3 h4 h5 h6
 refine Br.dec (λhl=>?_) λhl=>⟨rfl,rfl,rfl,rfl,rfl,rfl,?_⟩
 ·have hl:j<ls.length:=by omega
  have zj:=lC _ (List.getElem_mem hl)
  refine ⟨_,Ap hl,_,if_pos ⟨zj,pG.2,hV.perm⟩,rfl,rfl,?_,rfl,rfl,rfl,rfl,rfl,rfl,?_⟩
  ·show (List.map (An g') (List.take j ls)).length+1<=4294967296
   rw [List.length_map,List.length_take];omega
  ·rw [Ag (by omega)]
   refine hK hl _ rfl ⟨rfl,rfl,rfl,?_,rfl,rfl,h7⟩
   show List.map (An g') (List.take j ls)++ [An g' ls[j]]=_
   rw [List.take_add_one,List.getElem?_eq_getElem hl,List.map_append];rfl
 ·have:j=ls.length:=by omega
  subst this
  rw [List.take_length]
  obtain ⟨ms,DM⟩: ∃ms,ls.map (An g')=ms:=⟨_,rfl⟩
  have Akq:ms.length=ls.length:=by rw [<-DM,List.length_map]
  have Ag6: ∀i (h:i<ls.length),ms[i]'(by omega)=An g' ls[i]:= λi h=>by simp only [<-DM,List.getElem_map]
  rw [DM]
  refine Bm.mk (λv=>v.2.1=ms/\ ∃k:Nat,v.1=k/\k<=v.2.2.1.length/\Sz (n',Ach,g',()) t.length v.2.2.1 v.2.2.2.1/\jf v.2.2.2.2.1 v.2.2.1/\Lc g' ls (3001-k) k v.2.2.1 v.2.2.2.1=Gg g' t) (λv=>3001-v.1.toNat)
   ⟨rfl,0,rfl,by simp,VC,h7,zp⟩ ?_
  rintro ⟨k',mv,L0,D0,mp,⟨⟩⟩ ⟨h1,k,h5,h6,h7,h8,h9⟩
  dsimp only at h1 h5 h6 h7 h8 h9
  subst h1 h5
  dsimp only
  have hL0:=h7.ok.sW
  have hD0:=h7.len
  refine Br.dec (λhl=>⟨rfl,rfl,rfl,rfl,rfl,rfl,rfl,rfl,?_⟩) λhl=>?_
  ·have hk:k<L0.length:=by omega
   have OT:k<D0.length:=by omega
   have hx: ∀y∈L0[k],0<=y/\y<n':=h7.row _ (List.getElem_mem hk)
   have QO:L0[k].length=t.length:=h7.ok.len _ (List.getElem_mem hk)
   have hdk:=h7.dep k OT
   obtain ⟨f,hf⟩: ∃f,3001-k=f+1:=⟨3000-k,by omega⟩
   have SY: ∀L' D' ok,Hj g' L0[k] D0[k] ls L0 D0=(L',D',ok)->Gg g' t=if ok=true then Lc g' ls f (k+1) L' D' else (L',D',false):=by
    intro L' D' ok he
    rw [<-h9,hf,Lc,if_pos hk,Rw hk,List.getD_eq_getElem?_getD,List.getElem?_eq_getElem OT]
    simp only [Option.getD_some]
    rw [he]
    cases ok<;>rfl
   refine Bm.mk (λv=>v.2.1=mv/\ ∃i:Nat,v.1=i/\i<=ls.length/\Sz (n',Ach,g',()) t.length v.2.2.1 v.2.2.2.1/\jf v.2.2.2.2.1 v.2.2.1/\(∃A,v.2.2.1=L0++A)/\(∃A,v.2.2.2.1=D0++A)/\
     Hj g' L0[k] D0[k] (ls.drop i) v.2.2.1 v.2.2.2.1=Hj g' L0[k] D0[k] ls L0 D0) (λv=>ls.length-v.1.toNat)
    ⟨rfl,0,rfl,Nat.zero_le _,h7,h8,⟨[],by simp⟩,⟨[],by simp⟩,rfl⟩ ?_
   rintro ⟨i',mv',L,D,mp2,⟨⟩⟩ ⟨g1,i,g5,g6,g7,g8,⟨A,g9⟩,⟨A',PR⟩,lA⟩
   dsimp only at g1 g5 g6 g7 g8 g9 PR lA
   subst g1 g5
   dsimp only
   have hLf:=g7.ok.sW
   have SI:=g7.len
   refine Br.dec (λhli=>?_) λhli=>?_
   ·have hi:i<ls.length:=by omega
    have VP:k<L.length:=by rw [g9,List.length_append];omega
    have hLk:L[k]=L0[k]:=by simp only [g9];exact List.getElem_append_left hk
    have VO:k<D.length:=by rw [SI];exact VP
    have hDk:D[k]=D0[k]:=by simp only [PR];exact List.getElem_append_left OT
    have zj:=lC _ (List.getElem_mem hi)
    obtain ⟨nl,nr⟩:=tS hV hx zj
    dsimp only at nl nr
    have FC:=jF hV zj
    dsimp only at FC
    rw [List.drop_eq_getElem_cons hi] at lA
    simp only [Hj] at lA
    have hyb:=SN _ nr
    refine ⟨⟨by omega,by omega⟩,An g' ls[i],by rw [Int.toNat_natCast,Nat.zero_add,List.getElem?_eq_getElem (by omega),Ag6 i hi],⟨by omega,by omega⟩,L0[k],by rw [Int.toNat_natCast,Nat.zero_add,List.getElem?_eq_getElem VP,hLk],
     _,if_pos ⟨by show short L0[k];unfold short;omega,by show Hq (An g' ls[i]).length L0[k];intro y hy;have:=hx y hy;omega⟩,?_⟩
    dsimp only
    rw [show Bx (An g' ls[i]) L0[k]=Aa L0[k] (An g' ls[i]) from rfl,Bi]
    generalize hyv:Aa L0[k] (An g' ls[i])=yv at*
    refine ⟨_,if_pos (by show short yv;unfold short;rw [nl];omega),?_⟩
    dsimp only
    rw [g8 _ hyb]
    refine ⟨λcv=>?_,λcv=>⟨rfl,rfl,rfl,rfl,rfl,rfl,rfl,rfl,?_⟩⟩
    ·have cv:yv∉L:=by simpa using cv
     rw [if_neg cv] at lA
     refine ⟨λVd=>?_,λVd=>⟨rfl,rfl,by show L.length+1<=4294967296;omega,⟨by omega,by omega⟩,D0[k],by rw [Int.toNat_natCast,Nat.zero_add,List.getElem?_eq_getElem VO,hDk],rfl,rfl,by show D.length+1<=4294967296;omega,rfl,rfl,rfl,rfl,rfl,rfl,rfl,rfl,?_⟩⟩
     ·have Vd:L.length=3000:=by
       have:(L.length:Int)=3000:=by simpa using Vd
       omega
      rw [if_pos Vd] at lA
      have:=SY _ _ _ lA.symm
      rw [if_neg (by decide)] at this
      have:=Aah _ _ _ this
      rw [if_neg (by decide)] at this
      exact this
     ·have Vd:L.length≠3000:=by
       have:(L.length:Int)≠3000:=by simpa using Vd
       omega
      rw [if_neg Vd] at lA
      rw [Cp (n:=D0[k]+1) (by omega) (by omega),Ag (by omega)]
      refine ⟨⟨rfl,i+1,rfl,hi,g7.add cv (by rw [nl,QO]) (by omega) nr ⟨by omega,by omega⟩,g8.add hyb,⟨A++ [yv],by rw [g9,List.append_assoc];rfl⟩,⟨A'++ [D0[k]+1],by rw [PR,List.append_assoc];rfl⟩,lA⟩,by omega⟩
    ·have cv:yv∈L:=by simpa using cv
     rw [if_pos cv] at lA
     rw [Ag (by omega)]
     exact ⟨⟨rfl,i+1,rfl,hi,g7,g8,⟨A,g9⟩,⟨A',PR⟩,lA⟩,by omega⟩
   ·have:i=ls.length:=by omega
    subst this
    rw [List.drop_length,Hj] at lA
    have:=SY _ _ _ lA.symm
    rw [if_pos rfl] at this
    rw [Ag (by omega)]
    refine ⟨rfl,rfl,rfl,rfl,rfl,rfl,⟨rfl,k+1,rfl,by rw [g9,List.length_append];omega,g7,g8,?_⟩,by omega⟩
    rw [show 3001-(k+1)=f by omega]
    exact this.symm
  ·have hk:k=L0.length:=by omega
   rw [Bi L0,Bi D0]
   obtain ⟨f,hf⟩: ∃f,3001-k=f+1:=⟨3000-k,by omega⟩
   rw [hf,Lc,if_neg (by omega)] at h9
   have:=Aah _ _ _ h9.symm
   rw [if_pos rfl] at this
   exact this
theorem oL:Bf Tryz.prog 152 Qz:=
 Bf.me (NP [Sm+10]) (Ft iQ (Ae Vv (Ae qp (Ae oJ (Ft qv Al))))) mixed Tryz.func152 (by kernel_rfl) (by kernel_rfl) λx h=>AE x.1 x.2.1 x.2.2.1 x.2.2.2.1 h
theorem mJ {p:PP} {t:List Int} (h: ¬Db p t=true):Ds p t=([],[],[],()):=if_neg h
theorem AG (n:Int) (str:ByteArray) (g:List (List Int)) (t:List Int) (h:Cl (n,str,g,())/\short t):
  fnMW kx (look [(151,En),(152,Qz)]) Rb Tryz.f137 (n,str,g,t,()) (λ(z:(List (List Int)×List Int×Bool×Unit)×Unit)=>z=(((Ds (n,str,g,()) t).2.1,(Ds (n,str,g,()) t).2.2.1,Db (n,str,g,()) t,()),())):=by
 refine Eq.mp (CF n str g t _) ⟨_,if_pos h,⟨λhn=>?_,λhn=>?_⟩⟩
 ·have hn: ¬Ct (n,str,g,()) t=true:=Dk hn
  have e: ¬Db (n,str,g,()) t=true:= λhh=>hn (Za.1 hh).1
  rw [mJ e,Bool.eq_false_iff.2 e]
  rfl
 ·have hn:Ct (n,str,g,()) t=true:=De hn
  refine ⟨_,if_pos hn,?_⟩
  rw [Bi,Bi]
theorem oN:Bf Tryz.prog 137 Rb:=
 Bf.me gx (Ae iT (Ft oL Al)) mixed Tryz.func137 (by kernel_rfl) (by kernel_rfl) λx h=>AG x.1 x.2.1 x.2.2.1 x.2.2.2.1 h
theorem xw (n:Int) (str:ByteArray) (g:List (List Int)) (t:List Int) (h:Cl (n,str,g,())/\short t):
  fnMW kx (look [(137,Rb),(138,Vq)]) Oc Tryz.f113 (n,str,g,t,()) (λ(z:(List Int×List (List Int)×List Int×Bool×Unit)×Unit)=>z=(((Ds (n,str,g,()) t).1,(Ds (n,str,g,()) t).2.1,(Ds (n,str,g,()) t).2.2.1,Db (n,str,g,()) t,()),())):=by
 refine Eq.mp (ym n str g t _) ⟨_,if_pos h,⟨λhn=>?_,λhn=>?_⟩⟩
 ·have e: ¬Db (n,str,g,()) t=true:=Dk hn
  rw [mJ e,Bool.eq_false_iff.2 e]
  rfl
 ·have e:Db (n,str,g,()) t=true:=De hn
  refine ⟨_,if_pos h.2,?_⟩
  rw [Bi,Bi,Bi,e]
  have e2:(Ds (n,str,g,()) t).1=t:=by unfold Ds;rw [if_pos e]
  rw [e2]
theorem lN:Bf Tryz.prog 113 Oc:=
 Bf.me gx (Ft oN (Ft iQ Al)) mixed Tryz.func113 (by kernel_rfl) (by kernel_rfl) λx h=>xw x.1 x.2.1 x.2.2.1 x.2.2.2.1 h
theorem tY (p:PP) (t:TT) (h:Cl p/\Kg t):fnW Cg (look [(113,Oc),(114,Ei)]) Kk Tryz.f87 (p,t,()) (λ(z:Bool)=>z=Dd p t):=by
 refine Eq.mp (v7 p t _) ⟨_,if_pos ⟨h.1,h.2.1⟩,⟨λhn=>?_,λhn=>?_⟩⟩
 ·have e:Db p t.1=true:=hn
  rw [Bi,Bi,Bi]
  refine ⟨_,if_pos kD,?_⟩
  unfold Dd
  rw [e];rfl
 ·have e:Db p t.1=false:=hn
  unfold Dd
  rw [e];rfl
theorem km:Sound Tryz.prog 87 Kk:=
 Sound.Co Bg (Ft lN (Ae ek Al)) mixed Tryz.func87 (by kernel_rfl) (by kernel_rfl) λx h=>tY x.1 x.2.1 h
theorem u7 (p:PP) (t:TT) (h:Cl p/\Kg t):fnW Cg (look [(125,Og),(126,Ei)]) Kk Tryz.f94 (p,t,()) (λ(z:Bool)=>z=Dd p t):=by
 refine Eq.mp (vg p t _) ⟨_,if_pos ⟨h.1,h.2.1⟩,⟨λhn=>?_,λhn=>?_⟩⟩
 ·have e:Db p t.1=true:=hn
  refine ⟨_,if_pos kD,?_⟩
  unfold Dd
  rw [e];rfl
 ·have e:Db p t.1=false:=hn
  unfold Dd
  rw [e];rfl
theorem ko:Sound Tryz.prog 94 Kk:=
 Sound.Co Bg (Ae lU (Ae eu Al)) mixed Tryz.func94 (by kernel_rfl) (by kernel_rfl) λx h=>u7 x.1 x.2.1 h
theorem Acb (t:TT) (p:PP) (h:Kg t/\Cl p):fnW Cg (look [(87,Kk)]) sm Tryz.f86 (t,p,()) (λ(z:Bool)=>z=!Dd p t):=by
 exact Eq.mp (Ad1 t p _) ⟨_,if_pos ⟨h.2,h.1⟩,rfl⟩
theorem HP:Sound Tryz.prog 86 sm:=
 Sound.Co Bg (Ae km Al) mixed Tryz.func86 (by kernel_rfl) (by kernel_rfl) λx h=>Acb x.1 x.2.1 h
theorem XP (ts:List TT) (c:PP×Unit) (h:Fe ts/\Cl c.1):fnW Cg (look [(86,sm)]) jZ Tryz.f112 (ts,c,()) (λ(z:Int)=>z=Lk (λt=>!Dd c.1 t) ts 0):=by
 obtain ⟨⟨h1,h2⟩,h3⟩:=h
 refine Eq.mp (YP ts c _) ?_
 refine Ai ts.length (λv=>v.1) (λj _=>Lk (λt=>!Dd c.1 t) (ts.drop j) j=Lk (λt=>!Dd c.1 t) ts 0) rfl (by simp) ?_
 rintro j ⟨i,⟨⟩⟩ K hj hi hR hK
 dsimp only at hi⊢
 subst hi
 refine Br.dec (λhl=>?_) λhl=>?_
 ·have hl:j<ts.length:=by omega
  rw [List.drop_eq_getElem_cons hl] at hR
  simp only [Lk] at hR
  refine ⟨_,Ap hl,_,if_pos ⟨h2 _ (List.getElem_mem hl),h3⟩,⟨λhe=>?_,λhe=>?_⟩⟩
  ·have he:(!Dd c.1 ts[j])=true:=he
   rw [if_pos he] at hR
   exact hR
  ·have he:(!Dd c.1 ts[j])=false:=he
   rw [if_neg (by rw [he];decide)] at hR
   rw [Ag (by omega)]
   exact hK hl _ rfl (by push_cast;exact hR)
 ·have:j=ts.length:=by omega
  subst this
  rw [List.drop_length] at hR
  exact hR
theorem BI:Sound Tryz.prog 112 jZ:=
 Sound.Co Bg (Ae HP Al) mixed Tryz.func112 (by kernel_rfl) (by kernel_rfl) λx h=>XP x.1 x.2.1 h
theorem nw (q:TT->Bool): ∀(ts:List TT) (k:Int),0<=k->decide (Lk q ts k>=0)=ts.any q
 | [],k,_=>by simp [Lk]
 |t::ts,k,hk=>by
  have ih:=nw q ts (k+1) (by omega)
  rw [List.any_cons]
  by_cases e:q t=true
  ·have e2:Lk q (t::ts) k=k:=if_pos e
   rw [e]
   exact decide_eq_true (by rw [e2];exact hk)
  ·have e2:Lk q (t::ts) k=Lk q ts (k+1):=if_neg e
   rw [Bool.eq_false_iff.2 e,Bool.false_or,<-ih]
   exact decide_eq_decide.2 (by rw [e2])
theorem XL (ts:List TT) (c:PP×Unit) (h:Fe ts/\Cl c.1):fnW Cg (look [(112,jZ)]) jW Tryz.f85 (ts,c,()) (λ(z:Bool)=>z=List.any ts (λt=>!Dd c.1 t)):=by
 exact Eq.mp (YL ts c _) ⟨_,if_pos h,nw _ ts 0 (Int.le_refl 0)⟩
theorem BF:Sound Tryz.prog 85 jW:=
 Sound.Co Bg (Ae BI Al) mixed Tryz.func85 (by kernel_rfl) (by kernel_rfl) λx h=>XL x.1 x.2.1 h
theorem vM (q:TT->Bool) (ts:List TT):(!List.any ts λt=>!q t)=List.all ts q:=by
 induction ts with
 |nil=>rfl
 |cons t ts ih=>simp only [List.any_cons,List.all_cons,<-ih];cases q t<;>simp
theorem nW (p:PP) (ts:List TT) (h:Cl p/\Fe ts):fnW Cg (look [(84,Dv),(85,jW)]) Gs Tryz.f63 (p,ts,()) (λ(z:Bool)=>z=Cy p ts):=by
 refine Eq.mp (pf p ts _) ⟨_,if_pos h.1,⟨λhv=>Br.dec (λhl=>⟨_,if_pos ⟨h.2,h.1⟩,?_⟩) λhl=>?_,λhv=>?_⟩⟩
 ·have hv:Bt p=true:=hv
  have hl:ts.length<=4:=by omega
  show (!List.any ts λt=>!Dd p t)=_
  rw [vM]
  unfold Cy
  rw [hv,decide_eq_true hl];rfl
 ·unfold Cy
  rw [decide_eq_false (by omega),Bool.and_false];rfl
 ·have hv:Bt p=false:=hv
  unfold Cy
  rw [hv];rfl
theorem gk:Sound Tryz.prog 63 Gs:=
 Sound.Co Bg (Ae Rc (Ae BF Al)) mixed Tryz.func63 (by kernel_rfl) (by kernel_rfl) λx h=>nW x.1 x.2.1 h
theorem nX (p:PP) (ts:List TT) (h:Cl p/\Fe ts):fnW Cg (look [(93,Dv),(94,Kk)]) Gs Tryz.f72 (p,ts,()) (λ(z:Bool)=>z=Cy p ts):=by
 refine Eq.mp (ph p ts _) ⟨_,if_pos h.1,⟨λhv=>?_,λhv=>Br.dec (λhl=>?_) λhl=>?_⟩⟩
 ·have hv:Bt p=false:=Bool.eq_false_iff.2 (Dk hv)
  unfold Cy
  rw [hv];rfl
 ·unfold Cy
  rw [decide_eq_false (by omega),Bool.and_false];rfl
 ·have hv:Bt p=true:=De hv
  have hl:ts.length<=4:=by omega
  have e:Cy p ts=List.all ts (Dd p):=by
   unfold Cy
   rw [hv,decide_eq_true hl];rfl
  rw [e]
  refine Ai ts.length (λv=>v.1) (λj v=>v.2.1=p.1/\v.2.2.1=p.2.1/\v.2.2.2.1=p.2.2.1/\List.all (ts.drop j) (Dd p)=List.all ts (Dd p)) rfl ⟨rfl,rfl,rfl,by simp⟩ ?_
  rintro j ⟨i,n1,n2,n3,⟨⟩⟩ K hj hi ⟨h1,h2,h3,hR⟩ hK
  dsimp only at hi h1 h2 h3 hR⊢
  subst hi h1 h2 h3
  refine Br.dec (λhl=>?_) λhl=>?_
  ·have hl:j<ts.length:=by omega
   rw [List.drop_eq_getElem_cons hl,List.all_cons] at hR
   refine ⟨_,Ap hl,_,if_pos ⟨h.1,h.2.2 _ (List.getElem_mem hl)⟩,⟨λhe=>?_,λhe=>?_⟩⟩
   ·have he:Dd p ts[j]=false:=Bool.eq_false_iff.2 (Dk he)
    rw [he,Bool.false_and] at hR
    exact hR
   ·have he:Dd p ts[j]=true:=De he
    rw [he,Bool.true_and] at hR
    rw [Ag (by omega)]
    exact hK hl _ rfl ⟨rfl,rfl,rfl,hR⟩
  ·have:j=ts.length:=by omega
   subst this
   rw [List.drop_length] at hR
   exact hR
theorem gp:Sound Tryz.prog 72 Gs:=
 Sound.Co Bg (Ae Rd (Ae ko Al)) mixed Tryz.func72 (by kernel_rfl) (by kernel_rfl) λx h=>nX x.1 x.2.1 h
theorem XV (ts:List TT) (k:Int) (h:Fe ts/\roomy k):fnW Cg (look [(46,Uk)]) kb Tryz.f14 (ts,k,()) (λ(z:Int)=>z=zI ts k):=by
 obtain ⟨⟨h1,h2⟩,h3,h4⟩:=h
 refine Eq.mp (YV ts k _) ?_
 rw [Cp (by omega) (by omega)]
 refine Br.dec (λhn=>?_) λhn=>?_
 ·exact (if_pos hn).symm
 ·have e:zI ts k=ku ts (k-ts.length):=if_neg hn
  rw [e]
  refine Ai ts.length (λv=>v.2.1) (λj v=>roomy v.1/\ku (ts.drop j) v.1=ku ts (k-ts.length)) rfl ⟨⟨by omega,by omega⟩,by simp⟩ ?_
  rintro j ⟨r,i,⟨⟩⟩ K hj hi ⟨hr,hR⟩ hK
  dsimp only at hi hr hR⊢
  subst hi
  refine Br.dec (λhl=>?_) λhl=>?_
  ·have hl:j<ts.length:=by omega
   rw [List.drop_eq_getElem_cons hl] at hR
   simp only [ku] at hR
   refine ⟨_,Ap hl,_,if_pos ⟨h2 _ (List.getElem_mem hl),hr⟩,Br.dec (λhm=>?_) λhm=>?_⟩
   ·have hm:Ma ts[j] r<0:=hm
    rw [if_pos hm] at hR
    exact hR
   ·have hm: ¬Ma ts[j] r<0:=hm
    rw [if_neg hm] at hR
    rw [Ag (by omega)]
    exact hK hl _ rfl ⟨nI hr hm,hR⟩
  ·have:j=ts.length:=by omega
   subst this
   rw [List.drop_length] at hR
   exact hR
theorem BL:Sound Tryz.prog 14 kb:=
 Sound.Co Bg (Ae qy Al) mixed Tryz.func14 (by kernel_rfl) (by kernel_rfl) λx h=>XV x.1 x.2.1 h
theorem XX (ts:List TT) (h:Fe ts):fnW Cg (look [(50,Ul)]) dc Tryz.f17 (ts,()) (λ(z:List TT)=>z=ts):=by
 obtain ⟨h,h4⟩:=h
 refine Eq.mp (YX ts _) ?_
 refine ⟨⟨by omega,by show (ts.length:Int)<(4294967296:Int)+1;omega⟩,rfl,rfl,rfl,?_⟩
 refine Ai ts.length (λv=>v.1) (λj v=>v.2.1.length=ts.length/\v.2.1.take j=ts.take j) rfl ⟨by simp,by simp⟩ ?_
 rintro j ⟨i,ys,⟨⟩⟩ K hj hi ⟨h1,h2⟩ hK
 dsimp only at hi h1 h2⊢
 subst hi
 refine Br.dec (λhl=>?_) λhl=>?_
 ·have hl:j<ts.length:=by omega
  refine ⟨_,Ap hl,_,if_pos (h4 _ (List.getElem_mem hl)),⟨by omega,by omega⟩,by rw [Int.toNat_natCast];omega,rfl,by rw [List.length_set],?_⟩
  rw [Ag (by omega),Int.toNat_natCast,Nat.zero_add]
  exact hK hl _ rfl ⟨by rw [List.length_set];exact h1,Kq hl h1 h2⟩
 ·have:j=ts.length:=by omega
  subst this
  rw [List.take_length,<-h1,List.take_length] at h2
  rw [List.drop_zero,List.take_length]
  exact h2
theorem BM:Sound Tryz.prog 17 dc:=
 Sound.Co Bg (Ae qz Al) mixed Tryz.func17 (by kernel_rfl) (by kernel_rfl) λx h=>XX x.1 h
theorem jG {a b:TT} :Js a b=true↔a=b:=by
 obtain ⟨a1,a2,a3,⟨⟩⟩:=a
 obtain ⟨b1,b2,b3,⟨⟩⟩:=b
 simp [Js]
theorem XN (a b:List TT) (h:Fe a):fnW Cg (look [(54,Ei)]) jX Tryz.f21 (a,b,()) (λ(z:Bool)=>z=decide (a=b)):=by
 obtain ⟨h1,h2⟩:=h
 refine Eq.mp (YN a b _) ⟨λhl=>?_,λhl=>?_⟩
 ·have hl:a.length≠b.length:=by
   have:(a.length:Int)≠b.length:=by simpa using hl
   omega
  exact (decide_eq_false λe=>hl (by rw [e])).symm
 ·have hl:a.length=b.length:=by
   have:(a.length:Int)=b.length:=by simpa using hl
   omega
  refine Ai a.length (λv=>v.1) (λj _=>(a=b↔a.drop j=b.drop j)) rfl (by simp) ?_
  rintro j ⟨i,⟨⟩⟩ K hj hi hR hK
  dsimp only at hi⊢
  subst hi
  refine Br.dec (λZK=>?_) λZK=>?_
  ·have ZK:j<a.length:=by omega
   have ZL:j<b.length:=by omega
   rw [List.drop_eq_getElem_cons ZK,List.drop_eq_getElem_cons ZL] at hR
   refine ⟨_,Ap ZK,_,Ap ZL,_,if_pos (h2 _ (List.getElem_mem ZK)),⟨λhe=>?_,λhe=>?_⟩⟩
   ·have he: ¬Js a[j] b[j]=true:=Dk he
    refine (decide_eq_false λe=>he (jG.2 ?_)).symm
    have:=hR.1 e
    simp only [List.cons.injEq] at this
    exact this.1
   ·have he:Js a[j] b[j]=true:=De he
    rw [jG.1 he] at hR
    rw [Ag (by omega)]
    exact hK ZK _ rfl (hR.trans ⟨λe=>(List.cons.inj e).2,λe=>by rw [e]⟩)
  ·have:j=a.length:=by omega
   subst this
   rw [List.drop_length,hl,List.drop_length] at hR
   exact (decide_eq_true (hR.2 rfl)).symm
theorem BG:Sound Tryz.prog 21 jX:=
 Sound.Co Bg (Ae qk Al) mixed Tryz.func21 (by kernel_rfl) (by kernel_rfl) λx h=>XN x.1 x.2.1 h
end Go.Proofs.YtfolipnappekaaaGreat
