/-
  Part 38 of the proof that the statement FnExactLowerBounds holds.
-/
import Derived.Test.YtfolipnappekaaaGreatCLowerBounds36
import Derived.KernelRfl
namespace Go.Proofs.YtfolipnappekaaaGreat
open Go.RowKit
def Jo (x a b:Int):Bool:=decide (a<=x/\x<=b)
def ew (n x:Int):Bool:=decide (0<=x/\x<=IntKind.i64.wrap (n-1))
def Av (a b:List Int):Bool:=decide (a=b)
def fz (xs:List Int) (x:Int):Bool:=decide (x∈xs)
def short (xs:List Int):Prop:=xs.length<=4294967296
noncomputable abbrev Bx:Spec:=Cu (.pair tI (.pair tI (.pair tI .unit))) .bool false true (λ_=>True) (λx=>Jo x.1 x.2.1 x.2.2.1)
noncomputable abbrev Vb:Spec:=Cu (.pair tI (.pair tI .unit)) .bool false true (λ_=>True) (λx=>ew x.1 x.2.1)
noncomputable abbrev Am:Spec:=Cu (.pair tL (.pair tL .unit)) .bool false true (λx=>short x.1) (λx=>Av x.1 x.2.1)
noncomputable abbrev Kx:Spec:=Cu (.pair tL (.pair tI .unit)) .bool false true (λx=>short x.1) (λx=>fz x.1 x.2.1)
theorem KJ (x a b:Int) (P:Bool->Prop):(Br (decide (x>=a)) (P (decide (x<=b))) (P false))=fnW Ck (look []) Bx Tryz.f88 (x,a,b,()) P:=by kernel_rfl
theorem QT (x a b:Int) (P:Bool->Prop):(Br (decide (x>=a)) (P (decide (x<=b))) (P false))=fnW Ck (look []) Bx Tryz.f90 (x,a,b,()) P:=by kernel_rfl
theorem KL (n x:Int) (P:Bool->Prop):(∃(y3:Bool),Bx.fn (x,0,IntKind.i64.wrap (n-1),())=some y3/\P y3)=fnW Ck (look [(90,Bx)]) Vb Tryz.f161 (n,x,()) P:=by kernel_rfl
theorem zh (a b:List Int) (P:Bool->Prop):(Br ((↑a.length:Int) !=(↑b.length:Int)) (P false) (Bk (λ(v3:Int×PUnit) (k4:Int×PUnit->Prop)=>Br (decide (v3.1<(↑a.length:Int))) (∃(y5:Int),idx a v3.1=some y5/\ ∃(y6:Int),idx b v3.1=some y6/\Br (y5 !=y6) (P false) (k4 (IntKind.i64.wrap (v3.1+1),()))) (P true)) (0,PUnit.unit)))=fnW Ck (look []) Am Tryz.f101 (a,b,()) P:=by kernel_rfl
theorem rR (a b:List Int) (P:Bool->Prop):(Br ((↑a.length:Int) !=(↑b.length:Int)) (P false) (Bk (λ(v3:Int×PUnit) (k4:Int×PUnit->Prop)=>Br (decide (v3.1<(↑a.length:Int))) (∃(y5:Int),idx a v3.1=some y5/\ ∃(y6:Int),idx b v3.1=some y6/\Br (y5 !=y6) (P false) (k4 (IntKind.i64.wrap (v3.1+1),()))) (P true)) (0,PUnit.unit)))=fnW Ck (look []) Am Tryz.f139 (a,b,()) P:=by kernel_rfl
theorem rJ (xs:List Int) (x:Int) (P:Bool->Prop):(Bk (λ(v3:Int×PUnit) (k4:Int×PUnit->Prop)=>Br (decide (v3.1<(↑xs.length:Int))) (∃(y5:Int),idx xs v3.1=some y5/\Br (y5==x) (P true) (k4 (IntKind.i64.wrap (v3.1+1),()))) (P false)) (0,PUnit.unit))=fnW Ck (look []) Kx Tryz.f100 (xs,x,()) P:=by kernel_rfl
theorem IL (x a b:Int) (_:True):fnW Ck (look []) Bx Tryz.f88 (x,a,b,()) (λ(z:Bool)=>z=Jo x a b):=by
 refine Eq.mp (KJ x a b _) ?_
 refine Br.dec (λh=>?_) λh=>?_
 ·have h:a<=x:=h
  simp [Jo,h]
 ·exact (decide_eq_false λhh=>h hh.1).symm
theorem Yv:Sound Tryz.prog 88 Bx:=
 Sound.Cu Bj Ai mixed Tryz.func88 (by kernel_rfl) (by kernel_rfl) λx h=>IL x.1 x.2.1 x.2.2.1 h
theorem OT (x a b:Int) (_:True):fnW Ck (look []) Bx Tryz.f90 (x,a,b,()) (λ(z:Bool)=>z=Jo x a b):=by
 refine Eq.mp (QT x a b _) ?_
 refine Br.dec (λh=>?_) λh=>?_
 ·have h:a<=x:=h
  simp [Jo,h]
 ·exact (decide_eq_false λhh=>h hh.1).symm
theorem Us:Sound Tryz.prog 90 Bx:=
 Sound.Cu Bj Ai mixed Tryz.func90 (by kernel_rfl) (by kernel_rfl) λx h=>OT x.1 x.2.1 x.2.2.1 h
theorem IN (n x:Int) (_:True):fnW Ck (look [(90,Bx)]) Vb Tryz.f161 (n,x,()) (λ(z:Bool)=>z=ew n x):=
 Eq.mp (KL n x _) ⟨_,if_pos trivial,rfl⟩
theorem rj:Sound Tryz.prog 161 Vb:=
 Sound.Cu Bj (Ae Us Ai) mixed Tryz.func161 (by kernel_rfl) (by kernel_rfl) λx h=>IN x.1 x.2.1 h
theorem qN (xs:List Int) (x:Int) (h:short xs):fnW Ck (look []) Kx Tryz.f100 (xs,x,()) (λ(z:Bool)=>z=fz xs x):=by
 refine Eq.mp (rJ xs x _) ?_
 unfold short at h
 refine Ag xs.length (λv=>v.1) (λj _=>x∉xs.take j) rfl (by simp) ?_
 rintro j ⟨i,⟨⟩⟩ K hj hi hR hK
 dsimp only at hi⊢
 subst hi
 refine Br.dec (λhl=>?_) λhl=>?_
 ·have hl:j<xs.length:=by omega
  refine ⟨_,Ap hl,⟨λhe=>?_,λhe=>?_⟩⟩
  ·have hm:=List.getElem_mem hl
   simp only [beq_iff_eq] at he
   rw [he] at hm
   exact (decide_eq_true hm).symm
  ·rw [Ah (by omega)]
   refine hK hl _ rfl ?_
   simp only [beq_eq_false_iff_ne,ne_eq] at he
   rw [List.take_succ_eq_append_getElem hl]
   simp only [List.mem_append,List.mem_singleton,not_or]
   exact ⟨hR,λhx=>he hx.symm⟩
 ·have:j=xs.length:=by omega
  subst this
  rw [List.take_length] at hR
  exact (decide_eq_false hR).symm
theorem jl:Sound Tryz.prog 100 Kx:=
 Sound.Cu Bj Ai mixed Tryz.func100 (by kernel_rfl) (by kernel_rfl) λx h=>qN x.1 x.2.1 h
theorem tT (a b:List Int) (hlen:a.length=b.length) (h:short a):
  Bk (λ(v3:Int×PUnit) (k4:Int×PUnit->Prop)=>
   Br (decide (v3.1<(↑a.length:Int))) (∃(y5:Int),idx a v3.1=some y5/\ ∃(y6:Int),idx b v3.1=some y6/\Br (y5 !=y6) (false=Av a b) (k4 (IntKind.i64.wrap (v3.1+1),())))
    (true=Av a b))
  (0,PUnit.unit):=by
 unfold short at h
 refine Ag a.length (λv=>v.1) (λj _=>a.take j=b.take j) rfl (by simp) ?_
 rintro j ⟨i,⟨⟩⟩ K hj hi hR hK
 dsimp only at hi⊢
 subst hi
 refine Br.dec (λhl=>?_) λhl=>?_
 ·have ek:j<a.length:=by omega
  have qb:j<b.length:=by omega
  refine ⟨_,Ap ek,_,Ap qb,⟨λhe=>?_,λhe=>?_⟩⟩
  ·simp only [bne_iff_ne,ne_eq] at he
   refine (decide_eq_false λgw=>he ?_).symm
   subst gw
   rfl
  ·rw [Ah (by omega)]
   refine hK ek _ rfl ?_
   simp only [bne_eq_false_iff_eq] at he
   rw [List.take_succ_eq_append_getElem ek,List.take_succ_eq_append_getElem qb,hR,he]
 ·have mg:j=a.length:=by omega
  subst mg
  rw [List.take_length,hlen,List.take_length] at hR
  exact (decide_eq_true hR).symm
theorem yq (a b:List Int) (h:short a):fnW Ck (look []) Am Tryz.f101 (a,b,()) (λ(z:Bool)=>z=Av a b):=by
 refine Eq.mp (zh a b _) ⟨λhl=>?_,λhl=>?_⟩
 ·simp only [bne_iff_ne,ne_eq,Int.natCast_inj] at hl
  exact (decide_eq_false λgw=>hl (by rw [gw])).symm
 ·simp only [bne_eq_false_iff_eq,Int.natCast_inj] at hl
  exact tT a b hl h
theorem Tr:Sound Tryz.prog 101 Am:=
 Sound.Cu Bj Ai mixed Tryz.func101 (by kernel_rfl) (by kernel_rfl) λx h=>yq x.1 x.2.1 h
theorem qT (a b:List Int) (h:short a):fnW Ck (look []) Am Tryz.f139 (a,b,()) (λ(z:Bool)=>z=Av a b):=by
 refine Eq.mp (rR a b _) ⟨λhl=>?_,λhl=>?_⟩
 ·simp only [bne_iff_ne,ne_eq,Int.natCast_inj] at hl
  exact (decide_eq_false λgw=>hl (by rw [gw])).symm
 ·simp only [bne_eq_false_iff_eq,Int.natCast_inj] at hl
  exact tT a b hl h
theorem Xz:Sound Tryz.prog 139 Am:=
 Sound.Cu Bj Ai mixed Tryz.func139 (by kernel_rfl) (by kernel_rfl) λx h=>qT x.1 x.2.1 h
end Go.Proofs.YtfolipnappekaaaGreat

namespace Go.Proofs.YtfolipnappekaaaGreat
open Go.RowKit
abbrev TT:Type:=List Int×List (List Int)×List Int×Unit
def Dl (xs:List (List Int)):Prop:=xs.length<=4294967296/\ ∀r∈xs,short r
def Iz (t:TT):Prop:=short t.1/\Dl t.2.1/\short t.2.2.1
def roomy (room:Int):Prop:=0<=room/\room<=4294967296
def kq (n:Nat) (room:Int):Int:=if room-n<0 then-1 else room-n
def Pp (xs:List Int) (room:Int):Int:=kq xs.length room
def pP:List (List Int)->Int->Int
 | [],room=>room
 |r::rs,room=>if Pp r room<0 then-1 else pP rs (Pp r room)
def Lb (xs:List (List Int)) (room:Int):Int:=if kq xs.length room<0 then-1 else pP xs (kq xs.length room)
def Ho (t:TT) (room:Int):Int:=
 if Pp t.1 room<0 then-1 else if Lb t.2.1 (Pp t.1 room)<0 then-1 else
 if Pp t.2.2.1 (Lb t.2.1 (Pp t.1 room))<0 then-1 else Pp t.2.2.1 (Lb t.2.1 (Pp t.1 room))
def Lq (a b:List (List Int)):Bool:=decide (a=b)
def Jy (a b:TT):Bool:=decide (a.1=b.1)&&(decide (a.2.1=b.2.1)&&decide (a.2.2.1=b.2.2.1))
noncomputable abbrev fG:Spec:=Cu (.pair tL (.pair tI .unit)) tI false true (λx=>short x.1/\roomy x.2.1) (λx=>Pp x.1 x.2.1)
noncomputable abbrev bm:Spec:=Cu (.pair an (.pair tI .unit)) tI false true (λx=>Dl x.1/\roomy x.2.1) (λx=>Lb x.1 x.2.1)
noncomputable abbrev Vh:Spec:=Cu (.pair Gl (.pair tI .unit)) tI false true (λx=>Iz x.1/\roomy x.2.1) (λx=>Ho x.1 x.2.1)
noncomputable abbrev bT:Spec:=Cu (.pair tL .unit) tL false true (λx=>short x.1) (λx=>x.1)
noncomputable abbrev bn:Spec:=Cu (.pair an .unit) an false true (λx=>Dl x.1) (λx=>x.1)
noncomputable abbrev Vi:Spec:=Cu (.pair Gl .unit) Gl false true (λx=>Iz x.1) (λx=>x.1)
noncomputable abbrev Ob:Spec:=Cu (.pair an (.pair an .unit)) .bool false true (λx=>Dl x.1) (λx=>Lq x.1 x.2.1)
noncomputable abbrev En:Spec:=Cu (.pair Gl (.pair Gl .unit)) .bool false true (λx=>Iz x.1) (λx=>Jy x.1 x.2.1)
theorem Aew (xs:List Int) (room:Int) (P:Int->Prop):(Br (decide (IntKind.i64.wrap (room-(↑xs.length:Int))<0)) (P (-1)) (P (IntKind.i64.wrap (room-(↑xs.length:Int)))))=fnW Ck (look []) fG Tryz.f71 (xs,room,()) P:=by kernel_rfl
theorem Aay (xs:List (List Int)) (room:Int) (P:Int->Prop):(Br (decide (IntKind.i64.wrap (room-(↑xs.length:Int))<0)) (P (-1)) (Bk (λ(v3:Int×Int×PUnit) (k4:Int×Int×PUnit->Prop)=>Br (decide (v3.2.1<(↑xs.length:Int))) (∃(y5:List Int),idx xs v3.2.1=some y5/\ ∃(y6:Int),fG.fn (y5,v3.1,())=some y6/\Br (decide (y6<0)) (P (-1)) (k4 (y6,IntKind.i64.wrap (v3.2.1+1),()))) (P v3.1)) (IntKind.i64.wrap (room-(↑xs.length:Int)),0,PUnit.unit)))=fnW Ck (look [(71,fG)]) bm Tryz.f45 (xs,room,()) P:=by kernel_rfl
theorem KU (t:List Int×List (List Int)×List Int×Unit) (room:Int) (P:Int->Prop):(∃(y3:Int),fG.fn (t.1,room,())=some y3/\Br (decide (y3<0)) (P (-1)) (∃(y4:Int),bm.fn (t.2.1,y3,())=some y4/\Br (decide (y4<0)) (P (-1)) (∃(y5:Int),fG.fn (t.2.2.1,y4,())=some y5/\Br (decide (y5<0)) (P (-1)) (P y5))))=fnW Ck (look [(71,fG),(45,bm)]) Vh Tryz.f46 (t,room,()) P:=by kernel_rfl
theorem Aey (xs:List Int) (P:List Int->Prop):((0<=(↑xs.length:Int)/\(↑xs.length:Int)<(↑Bh:Int)+1)/\(↑xs.length:Int)=(↑xs.length:Int)/\0=0/\(List.replicate (↑xs.length:Int).toNat (Int.ofNat 0)).length=(List.replicate (↑xs.length:Int).toNat (Int.ofNat 0)).length/\Bk (λ(v2:Int×List Int×PUnit) (k3:Int×List Int×PUnit->Prop)=>Br (decide (v2.1<(↑xs.length:Int))) (∃(y4:Int),idx xs v2.1=some y4/\(0<=v2.1/\v2.1<(↑v2.2.1.length:Int))/\0+v2.1.toNat<v2.2.1.length/\0=0/\v2.2.1.length=(v2.2.1.set (0+v2.1.toNat) y4).length/\k3 (IntKind.i64.wrap (v2.1+1),v2.2.1.set (0+v2.1.toNat) y4,())) (P (List.take v2.2.1.length (List.drop 0 v2.2.1)))) (0,List.replicate (↑xs.length:Int).toNat (Int.ofNat 0),PUnit.unit))=fnW Ck (look []) bT Tryz.f18 (xs,()) P:=by kernel_rfl
theorem Ab0 (xs:List (List Int)) (P:List (List Int)->Prop):((0<=(↑xs.length:Int)/\(↑xs.length:Int)<(↑Bh:Int)+1)/\(↑xs.length:Int)=(↑xs.length:Int)/\0=0/\(List.replicate (↑xs.length:Int).toNat ([]:List Int)).length=(List.replicate (↑xs.length:Int).toNat ([]:List Int)).length/\Bk (λ(v2:Int×List (List Int)×PUnit) (k3:Int×List (List Int)×PUnit->Prop)=>Br (decide (v2.1<(↑xs.length:Int))) (∃(y4:List Int),idx xs v2.1=some y4/\ ∃(y5:List Int),bT.fn (y4,())=some y5/\(0<=v2.1/\v2.1<(↑v2.2.1.length:Int))/\0+v2.1.toNat<v2.2.1.length/\0=0/\v2.2.1.length=(v2.2.1.set (0+v2.1.toNat) y5).length/\k3 (IntKind.i64.wrap (v2.1+1),v2.2.1.set (0+v2.1.toNat) y5,())) (P (List.take v2.2.1.length (List.drop 0 v2.2.1)))) (0,List.replicate (↑xs.length:Int).toNat ([]:List Int),PUnit.unit))=fnW Ck (look [(18,bT)]) bn Tryz.f49 (xs,()) P:=by kernel_rfl
theorem KV (t:List Int×List (List Int)×List Int×Unit) (P:(List Int×List (List Int)×List Int×Unit)->Prop):(∃(y2:List Int),bT.fn (t.1,())=some y2/\ ∃(y3:List (List Int)),bn.fn (t.2.1,())=some y3/\ ∃(y4:List Int),bT.fn (t.2.2.1,())=some y4/\P (y2,y3,y4,()))=fnW Ck (look [(18,bT),(49,bn)]) Vi Tryz.f50 (t,()) P:=by kernel_rfl
theorem Aeq (a b:List Int) (P:Bool->Prop):(Br ((↑a.length:Int) !=(↑b.length:Int)) (P false) (Bk (λ(v3:Int×PUnit) (k4:Int×PUnit->Prop)=>Br (decide (v3.1<(↑a.length:Int))) (∃(y5:Int),idx a v3.1=some y5/\ ∃(y6:Int),idx b v3.1=some y6/\Br (y5 !=y6) (P false) (k4 (IntKind.i64.wrap (v3.1+1),()))) (P true)) (0,PUnit.unit)))=fnW Ck (look []) Am Tryz.f22 (a,b,()) P:=by kernel_rfl
theorem Aaq (a b:List (List Int)) (P:Bool->Prop):(Br ((↑a.length:Int) !=(↑b.length:Int)) (P false) (Bk (λ(v3:Int×PUnit) (k4:Int×PUnit->Prop)=>Br (decide (v3.1<(↑a.length:Int))) (∃(y5:List Int),idx a v3.1=some y5/\ ∃(y6:List Int),idx b v3.1=some y6/\ ∃(y7:Bool),Am.fn (y5,y6,())=some y7/\Br (!y7) (P false) (k4 (IntKind.i64.wrap (v3.1+1),()))) (P true)) (0,PUnit.unit)))=fnW Ck (look [(22,Am)]) Ob Tryz.f53 (a,b,()) P:=by kernel_rfl
theorem KH (a b:List Int×List (List Int)×List Int×Unit) (P:Bool->Prop):(∃(y3:Bool),Am.fn (a.1,b.1,())=some y3/\Br (!y3) (P false) (∃(y4:Bool),Ob.fn (a.2.1,b.2.1,())=some y4/\Br (!y4) (P false) (∃(y5:Bool),Am.fn (a.2.2.1,b.2.2.1,())=some y5/\Br (!y5) (P false) (P true))))=fnW Ck (look [(22,Am),(53,Ob)]) En Tryz.f54 (a,b,()) P:=by kernel_rfl
theorem Uw {n:Nat} {room:Int} (h:roomy room) (h2: ¬kq n room<0):roomy (kq n room):=by
 unfold kq roomy at*
 split at h2<;>simp_all
 omega
theorem Ae8 (xs:List Int) (room:Int) (h:short xs/\roomy room):fnW Ck (look []) fG Tryz.f71 (xs,room,()) (λ(z:Int)=>z=Pp xs room):=by
 obtain ⟨h1,h2,h3⟩:=h
 unfold short at h1
 refine Eq.mp (Aew xs room _) ?_
 rw [Co (by omega) (by omega)]
 refine Br.dec (λh=>?_) λh=>?_
 ·simp only [Pp,kq,if_pos h]
 ·simp only [Pp,kq,if_neg h]
theorem tt:Sound Tryz.prog 71 fG:=
 Sound.Cu Bj Ai mixed Tryz.func71 (by kernel_rfl) (by kernel_rfl) λx h=>Ae8 x.1 x.2.1 h
theorem Aa9 (xs:List (List Int)) (room:Int) (h:Dl xs/\roomy room):fnW Ck (look [(71,fG)]) bm Tryz.f45 (xs,room,()) (λ(z:Int)=>z=Lb xs room):=by
 obtain ⟨⟨h1,h4⟩,h2,h3⟩:=h
 refine Eq.mp (Aay xs room _) ?_
 rw [Co (by omega) (by omega)]
 refine Br.dec (λh=>?_) λh=>?_
 ·simp only [Lb,kq,if_pos h];rfl
 ·refine Ag xs.length (λv=>v.2.1) (λj v=>roomy v.1/\pP (xs.drop j) v.1=Lb xs room) rfl ?_ ?_
  ·refine ⟨by unfold roomy;omega,?_⟩
   simp only [Lb,kq,if_neg h,List.drop_zero]
  ·rintro j ⟨r,i,⟨⟩⟩ K hj hi ⟨hr,hR⟩ hK
   dsimp only at hi hr hR⊢
   subst hi
   refine Br.dec (λhl=>?_) λhl=>?_
   ·have hl:j<xs.length:=by omega
    have hd:xs.drop j=xs[j]::xs.drop (j+1):=List.drop_eq_getElem_cons hl
    refine ⟨_,Ap hl,_,if_pos ⟨h4 _ (List.getElem_mem hl),hr⟩,?_⟩
    rw [hd] at hR
    simp only [pP] at hR
    refine Br.dec (λhn=>?_) λhn=>?_
    ·have hn:Pp xs[j] r<0:=hn
     rw [if_pos hn] at hR
     exact hR
    ·have hn: ¬Pp xs[j] r<0:=hn
     rw [if_neg hn] at hR
     rw [Ah (by omega)]
     exact hK hl _ rfl ⟨Uw hr hn,hR⟩
   ·have:j=xs.length:=by omega
    subst this
    rw [List.drop_length] at hR
    exact hR
theorem pF:Sound Tryz.prog 45 bm:=
 Sound.Cu Bj (Ae tt Ai) mixed Tryz.func45 (by kernel_rfl) (by kernel_rfl) λx h=>Aa9 x.1 x.2.1 h
theorem tu: ∀(xs:List (List Int)) (room:Int),roomy room-> ¬pP xs room<0->roomy (pP xs room)
 | [],room,h,_=>h
 |r::rs,room,h,h2=>by
  simp only [pP] at h2⊢
  split
  ·rename_i hn;rw [if_pos hn] at h2;exact absurd (show (-1:Int)<0 by decide) h2
  ·rename_i hn;rw [if_neg hn] at h2;exact tu rs _ (Uw h hn) h2
theorem lH {xs:List (List Int)} {room:Int} (h:roomy room) (h2: ¬Lb xs room<0):roomy (Lb xs room):=by
 unfold Lb at*
 split
 ·rename_i hn;rw [if_pos hn] at h2;exact absurd (show (-1:Int)<0 by decide) h2
 ·rename_i hn;rw [if_neg hn] at h2;exact tu _ _ (Uw h hn) h2
theorem IX (t:TT) (room:Int) (h:Iz t/\roomy room):fnW Ck (look [(71,fG),(45,bm)]) Vh Tryz.f46 (t,room,()) (λ(z:Int)=>z=Ho t room):=by
 obtain ⟨⟨h1,h2,h3⟩,hr⟩:=h
 refine Eq.mp (KU t room _) ?_
 refine ⟨_,if_pos ⟨h1,hr⟩,Br.dec (λhn=>?_) λhn=>?_⟩
 ·exact (if_pos hn).symm
 ·have r1:=Uw hr hn
  refine ⟨_,if_pos ⟨h2,r1⟩,Br.dec (λhm=>?_) λhm=>?_⟩
  ·exact ((if_neg hn).trans (if_pos hm)).symm
  ·have r2:=lH r1 hm
   refine ⟨_,if_pos ⟨h3,r2⟩,Br.dec (λhk=>?_) λhk=>?_⟩
   ·exact ((if_neg hn).trans ((if_neg hm).trans (if_pos hk))).symm
   ·exact ((if_neg hn).trans ((if_neg hm).trans (if_neg hk))).symm
theorem ry:Sound Tryz.prog 46 Vh:=
 Sound.Cu Bj (Ae tt (Ae pF Ai)) mixed Tryz.func46 (by kernel_rfl) (by kernel_rfl) λx h=>IX x.1 x.2.1 h
theorem Gd {α:Type} {ys xs:List α} {j:Nat} (h:j<xs.length) (hl:ys.length=xs.length) (ht:ys.take j=xs.take j):(ys.set j xs[j]).take (j+1)=xs.take (j+1):=by
 have h1:j<(ys.set j xs[j]).length:=by rw [List.length_set];omega
 rw [List.take_succ_eq_append_getElem h1,List.take_succ_eq_append_getElem h,List.getElem_set_self,List.take_set_of_le (Nat.le_refl j),ht]
theorem Aea (xs:List Int) (h:short xs):fnW Ck (look []) bT Tryz.f18 (xs,()) (λ(z:List Int)=>z=xs):=by
 unfold short at h
 refine Eq.mp (Aey xs _) ?_
 refine ⟨⟨by omega,by show (xs.length:Int)<(4294967296:Int)+1;omega⟩,rfl,rfl,rfl,?_⟩
 refine Ag xs.length (λv=>v.1) (λj v=>v.2.1.length=xs.length/\v.2.1.take j=xs.take j) rfl ⟨by simp,by simp⟩ ?_
 rintro j ⟨i,ys,⟨⟩⟩ K hj hi ⟨h1,h2⟩ hK
 dsimp only at hi h1 h2⊢
 subst hi
 refine Br.dec (λhl=>?_) λhl=>?_
 ·have hl:j<xs.length:=by omega
  refine ⟨_,Ap hl,⟨by omega,by omega⟩,by rw [Int.toNat_natCast];omega,rfl,by rw [List.length_set],?_⟩
  rw [Ah (by omega),Int.toNat_natCast,Nat.zero_add]
  exact hK hl _ rfl ⟨by rw [List.length_set];exact h1,Gd hl h1 h2⟩
 ·have:j=xs.length:=by omega
  subst this
  rw [List.take_length,<-h1,List.take_length] at h2
  rw [List.drop_zero,List.take_length]
  exact h2
theorem kY:Sound Tryz.prog 18 bT:=
 Sound.Cu Bj Ai mixed Tryz.func18 (by kernel_rfl) (by kernel_rfl) λx h=>Aea x.1 h
theorem Aab (xs:List (List Int)) (h:Dl xs):fnW Ck (look [(18,bT)]) bn Tryz.f49 (xs,()) (λ(z:List (List Int))=>z=xs):=by
 obtain ⟨h,h4⟩:=h
 refine Eq.mp (Ab0 xs _) ?_
 refine ⟨⟨by omega,by show (xs.length:Int)<(4294967296:Int)+1;omega⟩,rfl,rfl,rfl,?_⟩
 refine Ag xs.length (λv=>v.1) (λj v=>v.2.1.length=xs.length/\v.2.1.take j=xs.take j) rfl ⟨by simp,by simp⟩ ?_
 rintro j ⟨i,ys,⟨⟩⟩ K hj hi ⟨h1,h2⟩ hK
 dsimp only at hi h1 h2⊢
 subst hi
 refine Br.dec (λhl=>?_) λhl=>?_
 ·have hl:j<xs.length:=by omega
  refine ⟨_,Ap hl,_,if_pos (h4 _ (List.getElem_mem hl)),⟨by omega,by omega⟩,by rw [Int.toNat_natCast];omega,rfl,by rw [List.length_set],?_⟩
  rw [Ah (by omega),Int.toNat_natCast,Nat.zero_add]
  exact hK hl _ rfl ⟨by rw [List.length_set];exact h1,Gd hl h1 h2⟩
 ·have:j=xs.length:=by omega
  subst this
  rw [List.take_length,<-h1,List.take_length] at h2
  rw [List.drop_zero,List.take_length]
  exact h2
theorem pH:Sound Tryz.prog 49 bn:=
 Sound.Cu Bj (Ae kY Ai) mixed Tryz.func49 (by kernel_rfl) (by kernel_rfl) λx h=>Aab x.1 h
theorem IY (t:TT) (h:Iz t):fnW Ck (look [(18,bT),(49,bn)]) Vi Tryz.f50 (t,()) (λ(z:TT)=>z=t):=by
 refine Eq.mp (KV t _) ?_
 exact ⟨_,if_pos h.1,_,if_pos h.2.1,_,if_pos h.2.2,rfl⟩
theorem rz:Sound Tryz.prog 50 Vi:=
 Sound.Cu Bj (Ae kY (Ae pH Ai)) mixed Tryz.func50 (by kernel_rfl) (by kernel_rfl) λx h=>IY x.1 h
theorem Ae2 (a b:List Int) (h:short a):fnW Ck (look []) Am Tryz.f22 (a,b,()) (λ(z:Bool)=>z=Av a b):=by
 refine Eq.mp (Aeq a b _) ⟨λhl=>?_,λhl=>?_⟩
 ·simp only [bne_iff_ne,ne_eq,Int.natCast_inj] at hl
  exact (decide_eq_false λgw=>hl (by rw [gw])).symm
 ·simp only [bne_eq_false_iff_eq,Int.natCast_inj] at hl
  exact tT a b hl h
theorem kT:Sound Tryz.prog 22 Am:=
 Sound.Cu Bj Ai mixed Tryz.func22 (by kernel_rfl) (by kernel_rfl) λx h=>Ae2 x.1 x.2.1 h
theorem Aa1 (a b:List (List Int)) (h:Dl a):fnW Ck (look [(22,Am)]) Ob Tryz.f53 (a,b,()) (λ(z:Bool)=>z=Lq a b):=by
 obtain ⟨h,h4⟩:=h
 refine Eq.mp (Aaq a b _) ⟨λhl=>?_,λhl=>?_⟩
 ·simp only [bne_iff_ne,ne_eq,Int.natCast_inj] at hl
  exact (decide_eq_false λgw=>hl (by rw [gw])).symm
 ·simp only [bne_eq_false_iff_eq,Int.natCast_inj] at hl
  refine Ag a.length (λv=>v.1) (λj _=>a.take j=b.take j) rfl (by simp) ?_
  rintro j ⟨i,⟨⟩⟩ K hj hi hR hK
  dsimp only at hi⊢
  subst hi
  refine Br.dec (λFc=>?_) λFc=>?_
  ·have ek:j<a.length:=by omega
   have qb:j<b.length:=by omega
   refine ⟨_,Ap ek,_,Ap qb,_,if_pos (h4 _ (List.getElem_mem ek)),⟨λhe=>?_,λhe=>?_⟩⟩
   ·refine (decide_eq_false λgw=>?_).symm
    subst gw
    simp [Av] at he
   ·rw [Ah (by omega)]
    refine hK ek _ rfl ?_
    simp only [Av,Bool.not_eq_false',decide_eq_true_eq] at he
    rw [List.take_succ_eq_append_getElem ek,List.take_succ_eq_append_getElem qb,hR]
    exact congrArg (λx=>List.take j b++ [x]) he
  ·have mg:j=a.length:=by omega
   subst mg
   rw [List.take_length,hl,List.take_length] at hR
   exact (decide_eq_true hR).symm
theorem pw:Sound Tryz.prog 53 Ob:=
 Sound.Cu Bj (Ae kT Ai) mixed Tryz.func53 (by kernel_rfl) (by kernel_rfl) λx h=>Aa1 x.1 x.2.1 h
theorem IJ (a b:TT) (h:Iz a):fnW Ck (look [(22,Am),(53,Ob)]) En Tryz.f54 (a,b,()) (λ(z:Bool)=>z=Jy a b):=by
 refine Eq.mp (KH a b _) ?_
 refine ⟨_,if_pos h.1,⟨λh1=>?_,λh1=>?_⟩⟩
 ·have h1:(!Av a.1 b.1)=true:=h1
  simp only [Av] at h1
  unfold Jy
  cases hd:decide (a.1=b.1)<;>simp_all
 ·have h1:(!Av a.1 b.1)=false:=h1
  simp only [Av] at h1
  refine ⟨_,if_pos h.2.1,⟨λh2=>?_,λh2=>?_⟩⟩
  ·have h2:(!Lq a.2.1 b.2.1)=true:=h2
   simp only [Lq] at h2
   unfold Jy
   cases hd:decide (a.2.1=b.2.1)<;>simp_all
  ·have h2:(!Lq a.2.1 b.2.1)=false:=h2
   simp only [Lq] at h2
   refine ⟨_,if_pos h.2.2,⟨λh3=>?_,λh3=>?_⟩⟩
   ·have h3:(!Av a.2.2.1 b.2.2.1)=true:=h3
    simp only [Av] at h3
    unfold Jy
    cases hd:decide (a.2.2.1=b.2.2.1)<;>simp_all
   ·have h3:(!Av a.2.2.1 b.2.2.1)=false:=h3
    simp only [Av] at h3
    unfold Jy
    simp_all
theorem rf:Sound Tryz.prog 54 En:=
 Sound.Cu Bj (Ae kT (Ae pw Ai)) mixed Tryz.func54 (by kernel_rfl) (by kernel_rfl) λx h=>IJ x.1 x.2.1 h
end Go.Proofs.YtfolipnappekaaaGreat

namespace Go.Proofs.YtfolipnappekaaaGreat
open Go.RowKit
def PL (n:Int) (xs:List Int) (k:Nat):Prop:= ∀j (h:j<xs.length),j<k->0<=xs[j]/\xs[j]<=n-1/\(0<j->xs[j-1]<xs[j])
def DL (n:Int) (xs:List Int) (k:Nat):Prop:= ∀j (h:j<xs.length),j<k->0<=xs[j]/\xs[j]<=n-1/\xs[j]∉xs.take j
noncomputable def dec (p:Prop):Bool:= @decide p (Classical.propDecidable p)
theorem Jk {p:Prop} (h:p):true=dec p:=(@decide_eq_true p (Classical.propDecidable p) h).symm
theorem Bi {p:Prop} (h: ¬p):false=dec p:=(@decide_eq_false p (Classical.propDecidable p) h).symm
theorem Eh {p:Prop} :dec p=true↔p:= @decide_eq_true_iff p (Classical.propDecidable p)
theorem RW {p:Prop} :dec p=false↔ ¬p:= @decide_eq_false_iff_not p (Classical.propDecidable p)
def ZV (n:Int):Prop:=0<=n/\n<=4294967296
noncomputable def Sw (n:Int) (xs:List Int):Bool:=dec (0<xs.length/\PL n xs xs.length)
noncomputable abbrev Ft:Spec:=Cu (.pair tI (.pair tL .unit)) .bool false true (λx=>ZV x.1/\short x.2.1) (λx=>Sw x.1 x.2.1)
theorem rQ (n:Int) (xs:List Int) (P:Bool->Prop):(∃(y3:Bool),Bx.fn ((↑xs.length:Int),(1:Int),n,())=some y3/\Br (!y3) (P false) (Bk (λ(v4:Int×PUnit) (k5:Int×PUnit->Prop)=>Br (decide (v4.1<(↑xs.length:Int))) (∃(y6:Int),idx xs v4.1=some y6/\ ∃(y7:Bool),Bx.fn (y6,(0:Int),IntKind.i64.wrap (n-(1:Int)),())=some y7/\Br (!y7) (P false) (Br (decide (v4.1>(0:Int))) (∃(y8:Int),idx xs v4.1=some y8/\ ∃(y9:Int),idx xs (IntKind.i64.wrap (v4.1-(1:Int)))=some y9/\Br (decide (y8<=y9)) (P false) (k5 (IntKind.i64.wrap (v4.1+(1:Int)),()))) (k5 (IntKind.i64.wrap (v4.1+(1:Int)),())))) (P true)) ((0:Int),PUnit.unit)))=fnW Ck (look [(88,Bx)]) Ft Tryz.f160 (n,xs,()) P:=by kernel_rfl
theorem zl (n:Int) (xs:List Int) (P:Bool->Prop):(Bk (λ(v3:Int×PUnit) (k4:Int×PUnit->Prop)=>Br (decide (v3.1<(↑xs.length:Int))) (∃(y5:Int),idx xs v3.1=some y5/\ ∃(y6:Bool),Vb.fn (n,y5,())=some y6/\Br (!y6) (P false) (Br (decide (v3.1>(0:Int))) (∃(y7:Int),idx xs (IntKind.i64.wrap (v3.1-(1:Int)))=some y7/\Br (decide (y7>=y5)) (P false) (k4 (IntKind.i64.wrap (v3.1+(1:Int)),()))) (k4 (IntKind.i64.wrap (v3.1+(1:Int)),())))) (P (decide ((↑xs.length:Int)>(0:Int))))) ((0:Int),PUnit.unit))=fnW Ck (look [(161,Vb)]) Ft Tryz.f159 (n,xs,()) P:=by kernel_rfl
theorem lF {n x:Int} (hn:ZV n):ew n x=true↔0<=x/\x<=n-1:=by
 unfold ew ZV at*
 rw [Co (by omega) (by omega),decide_eq_true_iff]
theorem Cp {x a b:Int} :Jo x a b=true↔a<=x/\x<=b:=decide_eq_true_iff
theorem Cl {b:Bool} (h:(!b)=true): ¬b=true:=by cases b<;>simp_all
theorem Dj {b:Bool} (h:(!b)=false):b=true:=by cases b<;>simp_all
theorem CO {n:Int} {xs:List Int} (h:PL n xs xs.length): ∀j (hj:j<xs.length),(j:Int)<=xs[j]
 |0,hj=>(h 0 hj hj).1
 |j+1,hj=>by
  have h1:=CO h j (by omega)
  have h2:=(h (j+1) hj hj).2.2 (by omega)
  simp only [Nat.add_sub_cancel] at h2
  omega
theorem nd {n:Int} {xs:List Int} {j:Nat} (hl:j<xs.length) (h:PL n xs j) (h1:0<=xs[j]) (h2:xs[j]<=n-1) (h3:0<j->xs[j-1]<xs[j]):PL n xs (j+1):=by
 intro i hi jI
 by_cases e:i=j
 ·subst e;exact ⟨h1,h2,h3⟩
 ·exact h i hi (by omega)
theorem yw (n:Int) (xs:List Int) (h:ZV n/\short xs):fnW Ck (look [(161,Vb)]) Ft Tryz.f159 (n,xs,()) (λ(z:Bool)=>z=Sw n xs):=by
 obtain ⟨hn,h⟩:=h
 unfold short at h
 refine Eq.mp (zl n xs _) ?_
 refine Ag xs.length (λv=>v.1) (λj _=>PL n xs j) rfl (λj _ hj=>absurd hj (Nat.not_lt_zero _)) ?_
 rintro j ⟨i,⟨⟩⟩ K hj hi hR hK
 dsimp only at hi⊢
 subst hi
 refine Br.dec (λhl=>?_) λhl=>?_
 ·have hl:j<xs.length:=by omega
  refine ⟨_,Ap hl,_,if_pos trivial,⟨λhp=>?_,λhp=>?_⟩⟩
  ·have hp:=Cl hp
   rw [lF hn] at hp
   exact Bi λhh=>hp ⟨(hh.2 j hl hl).1,(hh.2 j hl hl).2.1⟩
  ·have hp:=Dj hp
   rw [lF hn] at hp
   refine Br.dec (λh0=>?_) λh0=>?_
   ·have h0:0<j:=by omega
    rw [Co (by omega) (by omega),show (j:Int)-1=((j-1:Nat):Int) by omega]
    refine ⟨_,Ap (by omega),Br.dec (λhg=>?_) λhg=>?_⟩
    ·exact Bi λhh=>by have:=(hh.2 j hl hl).2.2 h0;omega
    ·rw [Ah (by omega)]
     exact hK hl _ rfl (nd hl hR hp.1 hp.2 λ_=>by omega)
   ·have h0:j=0:=by omega
    rw [Ah (by omega)]
    exact hK hl _ rfl (nd hl hR hp.1 hp.2 λh=>by omega)
 ·have:j=xs.length:=by omega
  subst this
  by_cases h0:0<xs.length
  ·rw [decide_eq_true (show (xs.length:Int)>0 by omega)];exact Jk ⟨h0,hR⟩
  ·rw [decide_eq_false (show ¬(xs.length:Int)>0 by omega)];exact Bi λhh=>h0 hh.1
theorem mD:Sound Tryz.prog 159 Ft:=
 Sound.Cu Bj (Ae rj Ai) mixed Tryz.func159 (by kernel_rfl) (by kernel_rfl) λx h=>yw x.1 x.2.1 h
theorem qS (n:Int) (xs:List Int) (h:ZV n/\short xs):fnW Ck (look [(88,Bx)]) Ft Tryz.f160 (n,xs,()) (λ(z:Bool)=>z=Sw n xs):=by
 obtain ⟨hn,h⟩:=h
 unfold short at h
 refine Eq.mp (rQ n xs _) ⟨_,if_pos trivial,⟨λhp=>?_,λhp=>?_⟩⟩
 ·have hp:=Cl hp
  rw [Cp] at hp
  dsimp only at hp
  refine Bi λhh=>hp ⟨by omega,?_⟩
  have:=CO hh.2 (xs.length-1) (by omega)
  have:=(hh.2 (xs.length-1) (by omega) (by omega)).2.1
  omega
 ·have hp:=Dj hp
  rw [Cp] at hp
  dsimp only at hp
  refine Ag xs.length (λv=>v.1) (λj _=>PL n xs j) rfl (λj _ hj=>absurd hj (Nat.not_lt_zero _)) ?_
  rintro j ⟨i,⟨⟩⟩ K hj hi hR hK
  dsimp only at hi⊢
  subst hi
  refine Br.dec (λhl=>?_) λhl=>?_
  ·have hl:j<xs.length:=by omega
   refine ⟨_,Ap hl,_,if_pos trivial,⟨λhq=>?_,λhq=>?_⟩⟩
   ·have hq:=Cl hq
    unfold ZV at hn
    rw [Cp,Co (by omega) (by omega)] at hq
    exact Bi λhh=>hq ⟨(hh.2 j hl hl).1,(hh.2 j hl hl).2.1⟩
   ·have hq:=Dj hq
    unfold ZV at hn
    rw [Cp,Co (by omega) (by omega)] at hq
    refine Br.dec (λh0=>?_) λh0=>?_
    ·have h0:0<j:=by omega
     rw [Co (by omega) (by omega),show (j:Int)-1=((j-1:Nat):Int) by omega]
     refine ⟨_,Ap hl,_,Ap (by omega),Br.dec (λhg=>?_) λhg=>?_⟩
     ·exact Bi λhh=>by have:=(hh.2 j hl hl).2.2 h0;omega
     ·rw [Ah (by omega)]
      exact hK hl _ rfl (nd hl hR hq.1 hq.2 λ_=>by omega)
    ·rw [Ah (by omega)]
     exact hK hl _ rfl (nd hl hR hq.1 hq.2 λh=>by omega)
  ·have:j=xs.length:=by omega
   subst this
   exact Jk ⟨by omega,hR⟩
theorem jo:Sound Tryz.prog 160 Ft:=
 Sound.Cu Bj (Ae Yv Ai) mixed Tryz.func160 (by kernel_rfl) (by kernel_rfl) λx h=>qS x.1 x.2.1 h
theorem RX {n:Int} {xs:List Int} {j:Nat} (hl:j<xs.length) (h:DL n xs j) (h1:0<=xs[j]) (h2:xs[j]<=n-1) (h3:xs[j]∉xs.take j):DL n xs (j+1):=by
 intro i hi jI
 by_cases e:i=j
 ·subst e;exact ⟨h1,h2,h3⟩
 ·exact h i hi (by omega)
theorem DC {xs:List Int} (h:short xs) (j:Nat):short (xs.take j):=by
 unfold short at*
 rw [List.length_take]
 omega
end Go.Proofs.YtfolipnappekaaaGreat

namespace Go.Proofs.YtfolipnappekaaaGreat
open Go.RowKit
noncomputable abbrev Rf:Spec:=Cu (.pair an (.pair an (.pair (.clo 154 .unit) .unit))) .bool false true (λx=>Dl x.1) (λx=>Lq x.1 x.2.1)
theorem Aev (a b:List Int) (P:Bool->Prop):(∃(y3:Bool),Am.fn (a,b,())=some y3/\P y3)=fnW Ck (look [(139,Am)]) Am Tryz.f154 (a,b,()) P:=by kernel_rfl
theorem ED (a b:List (List Int)) (c:Unit) (P:Bool->Prop):(Br ((↑a.length:Int) !=(↑b.length:Int)) (P false) (Bk (λ(v4:Int×PUnit) (k5:Int×PUnit->Prop)=>Br (decide (v4.1<(↑a.length:Int))) (∃(y6:List Int),idx a v4.1=some y6/\ ∃(y7:List Int),idx b v4.1=some y7/\ ∃(y8:Bool),Am.fn (y6,y7,())=some y8/\Br (!y8) (P false) (k5 (IntKind.i64.wrap (v4.1+(1:Int)),()))) (P true)) ((0:Int),PUnit.unit)))=fnW Ck (look [(154,Am)]) Rf Tryz.f153 (a,b,c,()) P:=by kernel_rfl
theorem mN (a b:List (List Int)) (P:Bool->Prop):(∃(y3:Bool),Rf.fn (a,b,(),())=some y3/\P y3)=fnW Ck (look [(153,Rf)]) Ob Tryz.f140 (a,b,()) P:=by kernel_rfl
theorem mM (a b:List Int×List (List Int)×List Int×Unit) (P:Bool->Prop):(∃(y3:Bool),Am.fn (a.1,b.1,())=some y3/\Br y3 (∃(y4:Bool),Ob.fn (a.2.1,b.2.1,())=some y4/\Br y4 (∃(y5:Bool),Am.fn (a.2.2.1,b.2.2.1,())=some y5/\P y5) (P false)) (P false))=fnW Ck (look [(139,Am),(140,Ob)]) En Tryz.f114 (a,b,()) P:=by kernel_rfl
abbrev aj:Type:=Int×List Int×List (List Int)×List Int×List Int×List (List Int)×List Int×PUnit
theorem mO (a b:List Int×List (List Int)×List Int×Unit) (P:Bool->Prop):(∃(y3:Bool),Am.fn (a.1,b.1,())=some y3/\Br (!y3) (P false) (∃(y4:Bool),Am.fn (a.2.2.1,b.2.2.1,())=some y4/\Br (!y4) (P false) (Br ((↑a.2.1.length:Int) !=(↑b.2.1.length:Int)) (P false) (Bk (λ(v5:aj) (k6:aj->Prop)=>Br (decide (v5.1<(↑v5.2.2.1.length:Int))) (∃(y7:List Int),idx v5.2.2.1 v5.1=some y7/\ ∃(y8:List Int),idx v5.2.2.2.2.2.1 v5.1=some y8/\ ∃(y9:Bool),Am.fn (y7,y8,())=some y9/\Br (!y9) (P false) (k6 (IntKind.i64.wrap (v5.1+(1:Int)),v5.2.1,v5.2.2.1,v5.2.2.2.1,v5.2.2.2.2.1,v5.2.2.2.2.2.1,v5.2.2.2.2.2.2.1,()))) (P true)) ((0:Int),a.1,a.2.1,a.2.2.1,b.1,b.2.1,b.2.2.1,PUnit.unit)))))=fnW Ck (look [(101,Am)]) En Tryz.f126 (a,b,()) P:=by kernel_rfl
theorem Ae7 (a b:List Int) (h:short a):fnW Ck (look [(139,Am)]) Am Tryz.f154 (a,b,()) (λ(z:Bool)=>z=Av a b):=by
 refine Eq.mp (Aev a b _) ⟨_,if_pos h,rfl⟩
theorem JS:Sound Tryz.prog 154 Am:=
 Sound.Cu Bj (Ae Xz Ai) mixed Tryz.func154 (by kernel_rfl) (by kernel_rfl) λx h=>Ae7 x.1 x.2.1 h
theorem CD (a b:List (List Int)) (c:Unit) (h:Dl a):fnW Ck (look [(154,Am)]) Rf Tryz.f153 (a,b,c,()) (λ(z:Bool)=>z=Lq a b):=by
 obtain ⟨h,h4⟩:=h
 refine Eq.mp (ED a b c _) ⟨λhl=>?_,λhl=>?_⟩
 ·simp only [bne_iff_ne,ne_eq,Int.natCast_inj] at hl
  exact (decide_eq_false λgw=>hl (by rw [gw])).symm
 ·simp only [bne_eq_false_iff_eq,Int.natCast_inj] at hl
  refine Ag a.length (λv=>v.1) (λj _=>a.take j=b.take j) rfl (by simp) ?_
  rintro j ⟨i,⟨⟩⟩ K hj hi hR hK
  dsimp only at hi⊢
  subst hi
  refine Br.dec (λFc=>?_) λFc=>?_
  ·have ek:j<a.length:=by omega
   have qb:j<b.length:=by omega
   refine ⟨_,Ap ek,_,Ap qb,_,if_pos (h4 _ (List.getElem_mem ek)),⟨λhe=>?_,λhe=>?_⟩⟩
   ·refine (decide_eq_false λgw=>?_).symm
    subst gw
    simp [Av] at he
   ·rw [Ah (by omega)]
    refine hK ek _ rfl ?_
    simp only [Av,Bool.not_eq_false',decide_eq_true_eq] at he
    rw [List.take_succ_eq_append_getElem ek,List.take_succ_eq_append_getElem qb,hR]
    exact congrArg (λx=>List.take j b++ [x]) he
  ·have mg:j=a.length:=by omega
   subst mg
   rw [List.take_length,hl,List.take_length] at hR
   exact (decide_eq_true hR).symm
theorem pv:Sound Tryz.prog 153 Rf:=
 Sound.Cu Bj (Ae JS Ai) mixed Tryz.func153 (by kernel_rfl) (by kernel_rfl) λx h=>CD x.1 x.2.1 x.2.2.1 h
theorem mo (a b:List (List Int)) (h:Dl a):fnW Ck (look [(153,Rf)]) Ob Tryz.f140 (a,b,()) (λ(z:Bool)=>z=Lq a b):=by
 refine Eq.mp (mN a b _) ⟨_,if_pos h,rfl⟩
theorem eV:Sound Tryz.prog 140 Ob:=
 Sound.Cu Bj (Ae pv Ai) mixed Tryz.func140 (by kernel_rfl) (by kernel_rfl) λx h=>mo x.1 x.2.1 h
theorem mn (a b:TT) (h:Iz a):fnW Ck (look [(139,Am),(140,Ob)]) En Tryz.f114 (a,b,()) (λ(z:Bool)=>z=Jy a b):=by
 refine Eq.mp (mM a b _) ⟨_,if_pos h.1,⟨λh1=>⟨_,if_pos h.2.1,⟨λh2=>⟨_,if_pos h.2.2,?_⟩,λh2=>?_⟩⟩,λh1=>?_⟩⟩
 ·have h1:Av a.1 b.1=true:=h1
  have h2:Lq a.2.1 b.2.1=true:=h2
  simp only [Av,Lq] at h1 h2
  show Av a.2.2.1 b.2.2.1=_
  unfold Jy Av
  rw [h1,h2];rfl
 ·have h1:Av a.1 b.1=true:=h1
  have h2:Lq a.2.1 b.2.1=false:=h2
  simp only [Av,Lq] at h1 h2
  unfold Jy
  rw [h1,h2];rfl
 ·have h1:Av a.1 b.1=false:=h1
  simp only [Av] at h1
  unfold Jy
  rw [h1];rfl
theorem eU:Sound Tryz.prog 114 En:=
 Sound.Cu Bj (Ae Xz (Ae eV Ai)) mixed Tryz.func114 (by kernel_rfl) (by kernel_rfl) λx h=>mn x.1 x.2.1 h
theorem mq (a b:TT) (h:Iz a):fnW Ck (look [(101,Am)]) En Tryz.f126 (a,b,()) (λ(z:Bool)=>z=Jy a b):=by
 obtain ⟨gZ,⟨qd,hs4⟩,hs3⟩:=h
 refine Eq.mp (mO a b _) ⟨_,if_pos gZ,⟨λh1=>?_,λh1=>⟨_,if_pos hs3,⟨λh2=>?_,λh2=>⟨λh3=>?_,λh3=>?_⟩⟩⟩⟩⟩
 ·have h1:(!Av a.1 b.1)=true:=h1
  simp only [Av,Bool.not_eq_true'] at h1
  show _=Jy a b
  unfold Jy
  rw [h1];rfl
 ·have h2:(!Av a.2.2.1 b.2.2.1)=true:=h2
  simp only [Av,Bool.not_eq_true'] at h2
  show _=Jy a b
  unfold Jy
  rw [h2];simp
 ·simp only [bne_iff_ne,ne_eq,Int.natCast_inj] at h3
  show _=Jy a b
  unfold Jy
  rw [decide_eq_false (show ¬a.2.1=b.2.1 from λgw=>h3 (by rw [gw]))];simp
 ·simp only [bne_eq_false_iff_eq,Int.natCast_inj] at h3
  have h1:(!Av a.1 b.1)=false:=h1
  have h2:(!Av a.2.2.1 b.2.2.1)=false:=h2
  simp only [Av,Bool.not_eq_false',decide_eq_true_eq] at h1 h2
  have hE:Jy a b=decide (a.2.1=b.2.1):=by
   unfold Jy
   rw [decide_eq_true h1,decide_eq_true h2];simp
  refine Ag a.2.1.length (λv=>v.1) (λj v=>v.2=(a.1,a.2.1,a.2.2.1,b.1,b.2.1,b.2.2.1,())/\a.2.1.take j=b.2.1.take j) rfl ⟨rfl,by simp⟩ ?_
  rintro j ⟨i,v⟩ K hj hi ⟨hv,hR⟩ hK
  dsimp only at hi hv⊢
  subst hi hv
  dsimp only
  refine Br.dec (λFc=>?_) λFc=>?_
  ·have ek:j<a.2.1.length:=by omega
   have qb:j<b.2.1.length:=by omega
   refine ⟨_,Ap ek,_,Ap qb,_,if_pos (hs4 _ (List.getElem_mem ek)),⟨λhe=>?_,λhe=>?_⟩⟩
   ·show _=Jy a b
    rw [hE]
    refine (decide_eq_false λgw=>?_).symm
    simp [gw,Av] at he
   ·rw [Ah (by omega)]
    refine hK ek _ rfl ⟨rfl,?_⟩
    simp only [Av,Bool.not_eq_false',decide_eq_true_eq] at he
    rw [List.take_succ_eq_append_getElem ek,List.take_succ_eq_append_getElem qb,hR]
    exact congrArg (λx=>List.take j b.2.1++ [x]) he
  ·have mg:j=a.2.1.length:=by omega
   subst mg
   rw [List.take_length,h3,List.take_length] at hR
   show _=Jy a b
   rw [hE]
   exact (decide_eq_true hR).symm
theorem eX:Sound Tryz.prog 126 En:=
 Sound.Cu Bj (Ae Tr Ai) mixed Tryz.func126 (by kernel_rfl) (by kernel_rfl) λx h=>mq x.1 x.2.1 h
theorem de {t:TT} {room:Int} (h:roomy room) (h2: ¬Ho t room<0):roomy (Ho t room):=by
 have hm: ¬((-1:Int)<0)->False:= λh=>h (by decide)
 unfold Ho at h2⊢
 split
 ·rename_i h3;rw [if_pos h3] at h2;exact (hm h2).elim
 ·rename_i h3;rw [if_neg h3] at h2
  split
  ·rename_i h4;rw [if_pos h4] at h2;exact (hm h2).elim
  ·rename_i h4;rw [if_neg h4] at h2
   split
   ·rename_i h5;rw [if_pos h5] at h2;exact (hm h2).elim
   ·rename_i h5
    exact Uw (lH (Uw h h3) h4) h5
theorem yH:roomy 1048576:=⟨by decide,by decide⟩
end Go.Proofs.YtfolipnappekaaaGreat

namespace Go.Proofs.YtfolipnappekaaaGreat
open Go.RowKit
abbrev PP:Type:=Int×ByteArray×List (List Int)×Unit
noncomputable def Fv (p:List Int):Bool:=dec (1<=p.length/\p.length<=20/\DL p.length p p.length)
noncomputable def Dd (n:Int) (p:List Int):Bool:=dec ((p.length:Int)=n/\Fv p=true)
noncomputable def Ls (n:Int) (g:List (List Int)):Bool:=dec ((1<=n/\n<=20)/\g.length<=8/\ ∀p∈g,Dd n p=true)
def Dy {α:Type} (P:α->Bool):List α->Int->Int
 | [],_=> -1
 |y::r,i=>if P y=true then i else Dy P r (i+1)
abbrev tG1:Ty:= .clo 136 (.pair (.ptr tI) .unit)
def tA (s:ByteArray) (i:Nat):Prop:= ∃c:UInt8,s[i]?=some c/\65<=c.toNat/\c.toNat<=90/\ ∀k,k<i->s[k]?≠some c
noncomputable def j0 (s:ByteArray) (i:Int):Bool:=dec (tA s i.toNat)
noncomputable def Zt (s:ByteArray):Bool:=dec ((1<=s.size/\s.size<=8)/\ ∀j,j<s.size->tA s j)
noncomputable def Bw (p:PP):Bool:=dec (Ls p.1 p.2.2.1=true/\Zt p.2.1=true/\p.2.1.size=p.2.2.1.length)
def Cb (p:PP):Prop:=p.2.1.size<=4294967296/\Dl p.2.2.1
noncomputable abbrev Rj:Spec:=Cu (.pair tL .unit) tI false true (λ_=>True) (λx=>(List.length x.1:Int))
noncomputable abbrev Dz:Spec:=Cu (.pair tL .unit) .bool false true (λx=>short x.1) (λx=>Fv x.1)
noncomputable abbrev Ia:Spec:=Cu (.pair tI (.pair an .unit)) .bool false true (λx=>Dl x.2.1) (λx=>Ls x.1 x.2.1)
noncomputable abbrev eC:Spec:=Cu (.pair tL (.pair (.ptr tI) .unit)) .bool false true (λx=>short x.1) (λx=>!Dd x.2.1 x.1)
noncomputable abbrev tb:Spec:=Cu (.pair an (.pair tG1 .unit)) tI false true (λx=>Dl x.1) (λx=>Dy (λp=>!Dd x.2.1.1 p) x.1 0)
noncomputable abbrev sZ:Spec:=Cu (.pair an (.pair tG1 .unit)) .bool false true (λx=>Dl x.1) (λx=>List.any x.1 (λp=>!Dd x.2.1.1 p))
noncomputable abbrev a8:Spec:=Cu (.pair .str (.pair tI .unit)) .bool false true (λx=>0<=x.2.1/\x.2.1<x.1.size/\x.1.size<=4294967296) (λx=>j0 x.1 x.2.1)
noncomputable abbrev Va:Spec:=Cu (.pair .str .unit) .bool false true (λx=>x.1.size<=4294967296) (λx=>Zt x.1)
noncomputable abbrev Ea:Spec:=Cu (.pair Df .unit) .bool false true (λx=>Cb x.1) (λx=>Bw x.1)
def Ua (p:PP) (room:Int):Int:=if room-p.2.1.size<0 then-1 else if Lb p.2.2.1 (room-p.2.1.size)<0 then-1 else Lb p.2.2.1 (room-p.2.1.size)
def lD (a b:PP):Bool:=decide (a.1=b.1)&&(decide (a.2.1=b.2.1)&&decide (a.2.2.1=b.2.2.1))
noncomputable abbrev tf:Spec:=Cu (.pair Df (.pair tI .unit)) tI false true (λx=>Cb x.1/\roomy x.2.1) (λx=>Ua x.1 x.2.1)
noncomputable abbrev th:Spec:=Cu (.pair Df .unit) Df false true (λx=>Cb x.1) (λx=>x.1)
noncomputable abbrev ta:Spec:=Cu (.pair Df (.pair Df .unit)) .bool false true (λx=>Cb x.1) (λx=>lD x.1 x.2.1)
noncomputable abbrev Oc:Spec:=Cu (.pair Gl (.pair tL .unit)) tI false true (λx=>Iz x.1/\short x.2.1) (λx=>Dy (λp=>decide (p=x.2.1)) x.1.2.1 0)
theorem Aau (xs:List Int) (P:Int->Prop):(P (↑xs.length:Int))=fnW Ck (look []) Rj Tryz.f119 (xs,()) P:=by kernel_rfl
theorem wj (p:List Int) (P:Bool->Prop):(∃(y2:Bool),Bx.fn ((↑p.length:Int),(1:Int),(20:Int),())=some y2/\Br (!y2) (P false) (Bk (λ(v3:Int×PUnit) (k4:Int×PUnit->Prop)=>Br (decide (v3.1<(↑p.length:Int))) (∃(y5:Int),idx p v3.1=some y5/\ ∃(y6:Bool),Bx.fn (y5,(0:Int),IntKind.i64.wrap ((↑p.length:Int)-(1:Int)),())=some y6/\Br (!y6) (P false) (((0:Int)<=(0:Int)/\(0:Int)<=v3.1/\v3.1<=(↑p.length:Int))/\ ∃(y7:Int),idx p v3.1=some y7/\ ∃(y8:Bool),Kx.fn (List.drop (Int.toNat (0:Int)) (List.take v3.1.toNat p),y7,())=some y8/\Br y8 (P false) (k4 (IntKind.i64.wrap (v3.1+(1:Int)),())))) (P true)) ((0:Int),PUnit.unit)))=fnW Ck (look [(88,Bx),(100,Kx)]) Dz Tryz.f75 (p,()) P:=by kernel_rfl
theorem wb (p:List Int) (P:Bool->Prop):(∃(y2:Int),Rj.fn (p,())=some y2/\ ∃(y3:Bool),Bx.fn (y2,(1:Int),(20:Int),())=some y3/\Br (!y3) (P false) (Bk (λ(v4:Int×Int×PUnit) (k5:Int×Int×PUnit->Prop)=>Br (decide (v4.2.1<(↑p.length:Int))) (∃(y6:Int),idx p v4.2.1=some y6/\ ∃(y7:Int),Rj.fn (p,())=some y7/\ ∃(y8:Bool),Bx.fn (y6,(0:Int),IntKind.i64.wrap (y7-(1:Int)),())=some y8/\Br (!y8) (P false) (¬y6<(0:Int)/\k5 (IntKind.i64.wrap (↑(BitVec.ofInt IntKind.i64.bits v4.1|||BitVec.ofInt IntKind.i64.bits (IntKind.i64.wrap ((1:Int)*(2:Int)^min y6.toNat IntKind.i64.bits))).toNat:Int),IntKind.i64.wrap (v4.2.1+(1:Int)),()))) (¬(↑p.length:Int)<(0:Int)/\P (v4.1==IntKind.i64.wrap (IntKind.i64.wrap ((1:Int)*(2:Int)^min (↑p.length:Int).toNat IntKind.i64.bits)-(1:Int))))) ((0:Int),(0:Int),PUnit.unit)))=fnW Ck (look [(90,Bx),(119,Rj)]) Dz Tryz.f134 (p,()) P:=by kernel_rfl
theorem wi (n:Int) (g:List (List Int)) (P:Bool->Prop):(∃(y3:Bool),Bx.fn (n,(1:Int),(20:Int),())=some y3/\Br (!y3) (P false) (Br (decide ((↑g.length:Int)>(8:Int))) (P false) (Bk (λ(v4:Int×PUnit) (k5:Int×PUnit->Prop)=>Br (decide (v4.1<(↑g.length:Int))) (∃(y6:List Int),idx g v4.1=some y6/\Br ((↑y6.length:Int) !=n) (P false) (∃(y7:List Int),idx g v4.1=some y7/\ ∃(y8:Bool),Dz.fn (y7,())=some y8/\Br (!y8) (P false) (k5 (IntKind.i64.wrap (v4.1+(1:Int)),())))) (P true)) ((0:Int),PUnit.unit))))=fnW Ck (look [(88,Bx),(75,Dz)]) Ia Tryz.f123 (n,g,()) P:=by kernel_rfl
theorem UE (p:List Int) (n:Int) (P:Bool->Prop):(∃(y3:Int),Rj.fn (p,())=some y3/\Br (y3 !=n) (P true) (∃(y4:Bool),Dz.fn (p,())=some y4/\P !y4))=fnW Ck (look [(119,Rj),(134,Dz)]) eC Tryz.f136 (p,n,()) P:=by kernel_rfl
theorem Aet (g:List (List Int)) (n:Int×Unit) (P:Int->Prop):(Bk (λ(v3:Int×PUnit) (k4:Int×PUnit->Prop)=>Br (decide (v3.1<(↑g.length:Int))) (∃(y5:List Int),idx g v3.1=some y5/\ ∃(y6:Bool),eC.fn (y5,n.1,())=some y6/\Br y6 (P v3.1) (k4 (IntKind.i64.wrap (v3.1+(1:Int)),()))) (P (-1:Int))) ((0:Int),PUnit.unit))=fnW Ck (look [(136,eC)]) tb Tryz.f150 (g,n,()) P:=by kernel_rfl
theorem Aep (g:List (List Int)) (n:Int×Unit) (P:Bool->Prop):(∃(y3:Int),tb.fn (g,n,())=some y3/\P (decide (y3>=(0:Int))))=fnW Ck (look [(150,tb)]) sZ Tryz.f135 (g,n,()) P:=by kernel_rfl
theorem wa (n:Int) (g:List (List Int)) (P:Bool->Prop):(∃(y3:Bool),Bx.fn (n,(1:Int),(20:Int),())=some y3/\Br y3 (Br (decide ((↑g.length:Int)<=(8:Int))) (∃(y4:Bool),sZ.fn (g,(n,()),())=some y4/\P !y4) (P false)) (P false))=fnW Ck (look [(90,Bx),(135,sZ)]) Ia Tryz.f110 (n,g,()) P:=by kernel_rfl
theorem QQ (s:ByteArray) (i:Int) (P:Bool->Prop):((0:Int)<=i/\ ∃(y3:UInt8),s[i.toNat]?=some y3/\Br (decide ((↑y3.toNat:Int)<(65:Int))) (P false) ((0:Int)<=i/\ ∃(y4:UInt8),s[i.toNat]?=some y4/\Br (decide ((↑y4.toNat:Int)>(90:Int))) (P false) (Bk (λ(v5:Int×PUnit) (k6:Int×PUnit->Prop)=>Br (decide (v5.1<i)) ((0:Int)<=v5.1/\ ∃(y7:UInt8),s[v5.1.toNat]?=some y7/\(0:Int)<=i/\ ∃(y8:UInt8),s[i.toNat]?=some y8/\Br ((↑y7.toNat:Int)==(↑y8.toNat:Int)) (P false) (k6 (IntKind.i64.wrap (v5.1+(1:Int)),()))) (P true)) ((0:Int),PUnit.unit))))=fnW Ck (look []) a8 Tryz.f124 (s,i,()) P:=by kernel_rfl
theorem KK (s:ByteArray) (P:Bool->Prop):(Bk (λ(v2:Int×PUnit) (k3:Int×PUnit->Prop)=>Br (decide (v2.1<(↑s.size:Int))) ((0:Int)<=v2.1/\ ∃(y4:UInt8),s[v2.1.toNat]?=some y4/\ ∃(y5:Bool),Bx.fn (IntKind.i64.wrap (↑y4.toNat:Int),(65:Int),(90:Int),())=some y5/\Br (!y5) (P false) (Bk (λ(v6:Int×PUnit) (k7:Int×PUnit->Prop)=>Br (decide (v6.1<v2.1)) ((0:Int)<=v6.1/\ ∃(y8:UInt8),s[v6.1.toNat]?=some y8/\(0:Int)<=v2.1/\ ∃(y9:UInt8),s[v2.1.toNat]?=some y9/\Br ((↑y8.toNat:Int)==(↑y9.toNat:Int)) (P false) (k7 (IntKind.i64.wrap (v6.1+(1:Int)),()))) (k3 (IntKind.i64.wrap (v2.1+(1:Int)),()))) ((0:Int),PUnit.unit))) (∃(y4:Bool),Bx.fn ((↑s.size:Int),(1:Int),(8:Int),())=some y4/\P y4)) ((0:Int),PUnit.unit))=fnW Ck (look [(90,Bx)]) Va Tryz.f111 (s,()) P:=by kernel_rfl
abbrev fL:Type:=Int×Int×ByteArray×List (List Int)×PUnit
theorem wk (p:Int×ByteArray×List (List Int)×Unit) (P:Bool->Prop):(Br ((↑p.2.2.1.length:Int)==(0:Int)) (P false) (Br ((↑p.2.1.size:Int) !=(↑p.2.2.1.length:Int)) (P false) (∃(y2:Bool),Ia.fn (p.1,p.2.2.1,())=some y2/\Br (!y2) (P false) (Bk (λ(v3:fL) (k4:fL->Prop)=>Br (decide (v3.1<(↑v3.2.2.1.size:Int))) (∃(y5:Bool),a8.fn (v3.2.2.1,v3.1,())=some y5/\Br (!y5) (P false) (k4 (IntKind.i64.wrap (v3.1+(1:Int)),v3.2.1,v3.2.2.1,v3.2.2.2.1,()))) (P true)) ((0:Int),p.1,p.2.1,p.2.2.1,PUnit.unit)))))=fnW Ck (look [(123,Ia),(124,a8)]) Ea Tryz.f93 (p,()) P:=by kernel_rfl
theorem wc (p:Int×ByteArray×List (List Int)×Unit) (P:Bool->Prop):(∃(y2:Bool),Ia.fn (p.1,p.2.2.1,())=some y2/\Br y2 (∃(y3:Bool),Va.fn (p.2.1,())=some y3/\Br y3 (P ((↑p.2.1.size:Int)==(↑p.2.2.1.length:Int))) (P false)) (P false))=fnW Ck (look [(110,Ia),(111,Va)]) Ea Tryz.f84 (p,()) P:=by kernel_rfl
theorem Aex (p:Int×ByteArray×List (List Int)×Unit) (room:Int) (P:Int->Prop):(Br (decide (IntKind.i64.wrap (room-(↑p.2.1.size:Int))<(0:Int))) (P (-1:Int)) (∃(y3:Int),bm.fn (p.2.2.1,IntKind.i64.wrap (room-(↑p.2.1.size:Int)),())=some y3/\Br (decide (y3<(0:Int))) (P (-1:Int)) (P y3)))=fnW Ck (look [(45,bm)]) tf Tryz.f13 (p,room,()) P:=by kernel_rfl
theorem Aez (p:Int×ByteArray×List (List Int)×Unit) (P:(Int×ByteArray×List (List Int)×Unit)->Prop):(∃(y2:List (List Int)),bn.fn (p.2.2.1,())=some y2/\P (p.1,p.2.1,y2,()))=fnW Ck (look [(49,bn)]) th Tryz.f16 (p,()) P:=by kernel_rfl
theorem Aer (a b:Int×ByteArray×List (List Int)×Unit) (P:Bool->Prop):(Br (a.1 !=b.1) (P false) (Br (!a.2.1.toList==b.2.1.toList) (P false) (∃(y3:Bool),Ob.fn (a.2.2.1,b.2.2.1,())=some y3/\Br (!y3) (P false) (P true))))=fnW Ck (look [(53,Ob)]) ta Tryz.f20 (a,b,()) P:=by kernel_rfl
abbrev lW:Type:=Int×List Int×List (List Int)×List Int×PUnit
theorem EL (t:List Int×List (List Int)×List Int×Unit) (xs:List Int) (P:Int->Prop):(Bk (λ(v3:lW) (k4:lW->Prop)=>Br (decide (v3.1<(↑v3.2.2.1.length:Int))) (∃(y5:List Int),idx v3.2.2.1 v3.1=some y5/\ ∃(y6:Bool),Am.fn (y5,xs,())=some y6/\Br y6 (P v3.1) (k4 (IntKind.i64.wrap (v3.1+(1:Int)),v3.2.1,v3.2.2.1,v3.2.2.2.1,()))) (P (-1:Int))) ((0:Int),t.1,t.2.1,t.2.2.1,PUnit.unit))=fnW Ck (look [(101,Am)]) Oc Tryz.f77 (t,xs,()) P:=by kernel_rfl
theorem Aa5 (xs:List Int) (_:True):fnW Ck (look []) Rj Tryz.f119 (xs,()) (λ(z:Int)=>z=(xs.length:Int)):=Eq.mp (Aau xs _) rfl
theorem gR:Sound Tryz.prog 119 Rj:=
 Sound.Cu Bj Ai mixed Tryz.func119 (by kernel_rfl) (by kernel_rfl) λx h=>Aa5 x.1 h
theorem vR {α:Type} [DecidableEq α]: ∀(l m:List α),l.Nodup->(∀x∈l,x∈m)->l.length<=m.length
 | [],m,_,_=>Nat.zero_le _
 |a::l,m,hn,hs=>by
  have ha:a∈m:=hs a (List.mem_cons_self ..)
  have hn:=List.nodup_cons.1 hn
  have:=vR l (m.erase a) hn.2 λx hx=>(List.mem_erase_of_ne (λ(e:x=a)=>hn.1 (by rw [<-e];exact hx))).2 (hs x (List.mem_cons_of_mem _ hx))
  rw [List.length_erase_of_mem ha] at this
  have:0<m.length:=List.length_pos_of_mem ha
  simp only [List.length_cons]
  omega
def upto (n:Nat):List Int:=(List.range n).map Int.ofNat
theorem DX (n:Nat):(upto n).Nodup:=by
 unfold upto
 exact List.Pairwise.map _ (λa b gw e=>gw (Int.ofNat.inj e)) List.nodup_range
theorem Sx {n:Nat} {x:Int} :x∈upto n↔0<=x/\x<n:=by
 unfold upto
 simp only [List.mem_map,List.mem_range]
 constructor
 ·rintro ⟨a,ha,rfl⟩;exact ⟨Int.natCast_nonneg _,Int.ofNat_lt.2 ha⟩
 ·rintro ⟨h1,h2⟩;exact ⟨x.toNat,by omega,by simp only [Int.ofNat_eq_natCast];omega⟩
theorem jB (n:Nat):(upto n).length=n:=by simp [upto]
theorem dg {xs:List Int} (h: ∀j (hj:j<xs.length),xs[j]∉xs.take j):xs.Nodup:=by
 refine List.pairwise_iff_getElem.2 λi j hi hj jI e=>h j hj ?_
 rw [<-e]
 exact List.mem_take_iff_getElem.2 ⟨i,by omega,rfl⟩
theorem pS {xs:List Int} (h:xs.Nodup): ∀j (hj:j<xs.length),xs[j]∉xs.take j:=by
 intro j hj hm
 obtain ⟨i,hi,e⟩:=List.mem_take_iff_getElem.1 hm
 exact List.pairwise_iff_getElem.1 h i j (by omega) hj (by omega) e
theorem Yi {xs:List Int} (h: ∀x∈xs,0<=x/\x<xs.length):(∀k:Nat,k<xs.length->(k:Int)∈xs)↔ ∀j (hj:j<xs.length),xs[j]∉xs.take j:=by
 constructor
 ·intro ha j hj hm
  have h1:=vR (upto xs.length) (xs.take j++xs.drop (j+1)) (DX _) λx hx=>by
   obtain ⟨h1,h2⟩:=Sx.1 hx
   have hx:=ha x.toNat (by omega)
   rw [show ((x.toNat:Nat):Int)=x by omega] at hx
   rw [<-List.take_append_drop j xs,List.mem_append,List.drop_eq_getElem_cons hj,List.mem_cons] at hx
   rcases hx with hx|rfl|hx
   ·exact List.mem_append_left _ hx
   ·exact List.mem_append_left _ hm
   ·exact List.mem_append_right _ hx
  rw [jB,List.length_append,List.length_take,List.length_drop] at h1
  omega
 ·intro hn k hk
  refine Classical.byContradiction λhc=>?_
  have h1:=vR xs ((upto xs.length).erase (k:Int)) (dg hn) λx hx=>by
   refine (List.mem_erase_of_ne λ(e:x=(k:Int))=>hc (by rw [<-e];exact hx)).2 (Sx.2 (h x hx))
  rw [List.length_erase_of_mem (Sx.2 ⟨by omega,by omega⟩),jB] at h1
  omega
def mask (xs:List Int):Nat:=xs.foldl (λm x=>m|||2^x.toNat) 0
theorem ID (xs:List Int) (x:Int):mask (xs++ [x])=mask xs|||2^x.toNat:=by simp [mask]
theorem uK (xs:List Int) (k:Nat): ∀a:Nat,(xs.foldl (λm x=>m|||2^x.toNat) a).testBit k=(a.testBit k||xs.any λx=>decide (x.toNat=k)):=by
 induction xs with
 |nil=>simp
 |cons x xs ih=>
  intro a
  rw [List.foldl_cons,ih,Nat.testBit_or,Nat.testBit_two_pow,List.any_cons,Bool.or_assoc]
theorem oC (xs:List Int) (k:Nat):(mask xs).testBit k=xs.any λx=>decide (x.toNat=k):=by
 unfold mask
 rw [uK,Nat.zero_testBit,Bool.false_or]
theorem TC {xs:List Int} {n:Nat} (h: ∀x∈xs,x.toNat<n):mask xs<2^n:=by
 refine Nat.lt_pow_two_of_testBit _ λk hk=>?_
 rw [oC]
 refine Bool.eq_false_iff.2 λht=>?_
 obtain ⟨x,hx,he⟩:=List.any_eq_true.1 ht
 have:=h x hx
 have:=of_decide_eq_true he
 omega
theorem sM {xs:List Int} (h: ∀x∈xs,0<=x/\x<xs.length):mask xs=2^xs.length-1↔ ∀k:Nat,k<xs.length->(k:Int)∈xs:=by
 constructor
 ·intro e k hk
  have h1:=oC xs k
  rw [e,Nat.testBit_two_pow_sub_one,decide_eq_true hk] at h1
  obtain ⟨x,hx,he⟩:=List.any_eq_true.1 h1.symm
  have:=(h x hx).1
  have:=of_decide_eq_true he
  have e:x=(k:Int):=by omega
  exact e▸hx
 ·intro ha
  refine Nat.eq_of_testBit_eq λk=>?_
  rw [oC,Nat.testBit_two_pow_sub_one]
  by_cases hk:k<xs.length
  ·rw [decide_eq_true hk]
   exact List.any_eq_true.2 ⟨k,ha k hk,by simp⟩
  ·rw [decide_eq_false hk]
   refine Bool.eq_false_iff.2 λht=>?_
   obtain ⟨x,hx,he⟩:=List.any_eq_true.1 ht
   have:=h x hx
   have:=of_decide_eq_true he
   omega
theorem TG {m:Nat} {x:Int} (hm:m<2^20) (h0:0<=x) (h1:x<20):
  IntKind.i64.wrap (((BitVec.ofInt IntKind.i64.bits (m:Int)|||BitVec.ofInt IntKind.i64.bits (IntKind.i64.wrap ((1:Int)*(2:Int)^min x.toNat IntKind.i64.bits))).toNat:Nat):Int)=((m|||2^x.toNat:Nat):Int):=by
 have hx:(2:Nat)^x.toNat<2^20:=Nat.pow_lt_pow_right (by omega) (by omega)
 have e1:min x.toNat IntKind.i64.bits=x.toNat:=by show min x.toNat 64=_;omega
 have e2:(1:Int)*(2:Int)^x.toNat=((2^x.toNat:Nat):Int):=by rw [Int.one_mul];exact (Int.natCast_pow 2 _).symm
 rw [e1,e2,Co (n:=((2^x.toNat:Nat):Int)) (by have:(0:Int)<=((2^x.toNat:Nat):Int):=Int.natCast_nonneg _;omega) (by omega)]
 show IntKind.i64.wrap (((BitVec.ofInt 64 (m:Int)|||BitVec.ofInt 64 ((2^x.toNat:Nat):Int)).toNat:Nat):Int)=_
 rw [BitVec.ofInt_natCast,BitVec.ofInt_natCast,BitVec.toNat_or,BitVec.toNat_ofNat,BitVec.toNat_ofNat,Nat.mod_eq_of_lt (by omega),Nat.mod_eq_of_lt (by omega)]
 have:=Nat.or_lt_two_pow hm hx
 exact Co (by omega) (by omega)
theorem uU (p:List Int) (h:short p):fnW Ck (look [(88,Bx),(100,Kx)]) Dz Tryz.f75 (p,()) (λ(z:Bool)=>z=Fv p):=by
 have hs:=h
 unfold short at h
 refine Eq.mp (wj p _) ⟨_,if_pos trivial,⟨λhp=>?_,λhp=>?_⟩⟩
 ·have hp:=Cl hp
  rw [Cp] at hp
  dsimp only at hp
  exact Bi λhh=>hp ⟨by omega,by omega⟩
 ·have hp:=Dj hp
  rw [Cp] at hp
  dsimp only at hp
  refine Ag p.length (λv=>v.1) (λj _=>DL p.length p j) rfl (λj _ hj=>absurd hj (Nat.not_lt_zero _)) ?_
  rintro j ⟨i,⟨⟩⟩ K hj hi hR hK
  dsimp only at hi⊢
  subst hi
  refine Br.dec (λhl=>?_) λhl=>?_
  ·have hl:j<p.length:=by omega
   refine ⟨_,Ap hl,_,if_pos trivial,⟨λhq=>?_,λhq=>?_⟩⟩
   ·have hq:=Cl hq
    rw [Cp,Co (by omega) (by omega)] at hq
    exact Bi λhh=>hq ⟨(hh.2.2 j hl hl).1,(hh.2.2 j hl hl).2.1⟩
   ·have hq:=Dj hq
    rw [Cp,Co (by omega) (by omega)] at hq
    refine ⟨⟨by omega,by omega,by omega⟩,_,Ap hl,?_⟩
    rw [show (Int.toNat 0)=0 from rfl,List.drop_zero,Int.toNat_natCast]
    refine ⟨_,if_pos (DC hs j),⟨λhc=>?_,λhc=>?_⟩⟩
    ·have hc:decide (p[j]∈p.take j)=true:=hc
     rw [decide_eq_true_iff] at hc
     exact Bi λhh=>(hh.2.2 j hl hl).2.2 hc
    ·have hc:decide (p[j]∈p.take j)=false:=hc
     rw [decide_eq_false_iff_not] at hc
     rw [Ah (by omega)]
     exact hK hl _ rfl (RX hl hR hq.1 hq.2 hc)
  ·have:j=p.length:=by omega
   subst this
   exact Jk ⟨by omega,by omega,hR⟩
theorem Mm:Sound Tryz.prog 75 Dz:=
 Sound.Cu Bj (Ae Yv (Ae jl Ai)) mixed Tryz.func75 (by kernel_rfl) (by kernel_rfl) λx h=>uU x.1 h
theorem uP (p:List Int) (h:short p):fnW Ck (look [(90,Bx),(119,Rj)]) Dz Tryz.f134 (p,()) (λ(z:Bool)=>z=Fv p):=by
 unfold short at h
 refine Eq.mp (wb p _) ⟨_,if_pos trivial,_,if_pos trivial,⟨λhp=>?_,λhp=>?_⟩⟩
 ·have hp:=Cl hp
  rw [Cp] at hp
  dsimp only at hp
  exact Bi λhh=>hp ⟨by omega,by omega⟩
 ·have hp:=Dj hp
  rw [Cp] at hp
  dsimp only at hp
  refine Ag p.length (λv=>v.2.1) (λj v=>v.1=(mask (p.take j):Int)/\ ∀x∈p.take j,0<=x/\x<p.length) rfl ⟨rfl,by simp⟩ ?_
  rintro j ⟨m,i,⟨⟩⟩ K hj hi ⟨hm,hR⟩ hK
  dsimp only at hi hm⊢
  subst hi hm
  refine Br.dec (λhl=>?_) λhl=>?_
  ·have hl:j<p.length:=by omega
   refine ⟨_,Ap hl,_,if_pos trivial,_,if_pos trivial,⟨λhq=>?_,λhq=>?_⟩⟩
   ·have hq:=Cl hq
    rw [Cp] at hq
    dsimp only at hq
    rw [Co (by omega) (by omega)] at hq
    exact Bi λhh=>hq ⟨(hh.2.2 j hl hl).1,(hh.2.2 j hl hl).2.1⟩
   ·have hq:=Dj hq
    rw [Cp] at hq
    dsimp only at hq
    rw [Co (by omega) (by omega)] at hq
    refine ⟨by omega,?_⟩
    rw [Ah (by omega)]
    have hb:mask (p.take j)<2^20:=TC λx hx=>by have:=hR x hx;omega
    refine hK hl _ rfl ⟨?_,?_⟩
    ·dsimp only
     rw [TG hb hq.1 (by omega),List.take_succ_eq_append_getElem hl,ID]
    ·rw [List.take_succ_eq_append_getElem hl]
     intro x hx
     rcases List.mem_append.1 hx with hx|hx
     ·exact hR x hx
     ·rw [List.mem_singleton.1 hx];omega
  ·have:j=p.length:=by omega
   subst this
   rw [List.take_length] at hR⊢
   refine ⟨by omega,?_⟩
   have hx:(2:Nat)^p.length<=2^20:=Nat.pow_le_pow_right (by omega) (by omega)
   have HQ:0<(2:Nat)^p.length:=Nat.two_pow_pos _
   have e1:min (p.length:Int).toNat IntKind.i64.bits=p.length:=by show min (p.length:Int).toNat 64=_;omega
   have e2:(1:Int)*(2:Int)^p.length=((2^p.length:Nat):Int):=by rw [Int.one_mul];exact (Int.natCast_pow 2 _).symm
   rw [e1,e2,Co (n:=((2^p.length:Nat):Int)) (by omega) (by omega),Co (by omega) (by omega)]
   have hE:((mask p:Int)==((2^p.length:Nat):Int)-1)=decide (mask p=2^p.length-1):=by
    rw [Bool.eq_iff_iff,beq_iff_eq,decide_eq_true_iff]
    omega
   show ((mask p:Int)==((2^p.length:Nat):Int)-1)=Fv p
   rw [hE]
   by_cases hf:mask p=2^p.length-1
   ·rw [decide_eq_true hf]
    have hn:=(Yi hR).1 ((sM hR).1 hf)
    refine Jk ⟨by omega,by omega,λj hj _=>?_⟩
    have:=hR _ (List.getElem_mem hj)
    exact ⟨this.1,by omega,hn j hj⟩
   ·rw [decide_eq_false hf]
    refine Bi λhh=>hf ((sM hR).2 ((Yi hR).2 λj hj=>(hh.2.2 j hj hj).2.2))
theorem ae:Sound Tryz.prog 134 Dz:=
 Sound.Cu Bj (Ae Us (Ae gR Ai)) mixed Tryz.func134 (by kernel_rfl) (by kernel_rfl) λx h=>uP x.1 h
theorem uT (n:Int) (g:List (List Int)) (h:Dl g):fnW Ck (look [(88,Bx),(75,Dz)]) Ia Tryz.f123 (n,g,()) (λ(z:Bool)=>z=Ls n g):=by
 obtain ⟨h,h4⟩:=h
 refine Eq.mp (wi n g _) ⟨_,if_pos trivial,⟨λhp=>?_,λhp=>?_⟩⟩
 ·have hp:=Cl hp
  rw [Cp] at hp
  exact Bi λhh=>hp hh.1
 ·have hp:=Dj hp
  rw [Cp] at hp
  refine Br.dec (λhg=>?_) λhg=>?_
  ·exact Bi λhh=>by have:=hh.2.1;omega
  ·refine Ag g.length (λv=>v.1) (λj _=> ∀p∈g.take j,Dd n p=true) rfl (by simp) ?_
   rintro j ⟨i,⟨⟩⟩ K hj hi hR hK
   dsimp only at hi⊢
   subst hi
   refine Br.dec (λhl=>?_) λhl=>?_
   ·have hl:j<g.length:=by omega
    have hm:g[j]∈g:=List.getElem_mem hl
    refine ⟨_,Ap hl,⟨λhe=>?_,λhe=>?_⟩⟩
    ·simp only [bne_iff_ne,ne_eq] at he
     exact Bi λhh=>he (Eh.1 (hh.2.2 _ hm)).1
    ·simp only [bne_eq_false_iff_eq] at he
     refine ⟨_,Ap hl,_,if_pos (h4 _ hm),⟨λhq=>?_,λhq=>?_⟩⟩
     ·have hq:=Cl hq
      exact Bi λhh=>hq (Eh.1 (hh.2.2 _ hm)).2
     ·have hq:=Dj hq
      rw [Ah (by omega)]
      refine hK hl _ rfl ?_
      rw [List.take_succ_eq_append_getElem hl]
      intro x hx
      rcases List.mem_append.1 hx with hx|hx
      ·exact hR x hx
      ·rw [List.mem_singleton.1 hx];exact Eh.2 ⟨he,hq⟩
   ·have:j=g.length:=by omega
    subst this
    rw [List.take_length] at hR
    exact Jk ⟨hp,by omega,hR⟩
theorem ah:Sound Tryz.prog 123 Ia:=
 Sound.Cu Bj (Ae Yv (Ae Mm Ai)) mixed Tryz.func123 (by kernel_rfl) (by kernel_rfl) λx h=>uT x.1 x.2.1 h
theorem TH (p:List Int) (n:Int) (h:short p):fnW Ck (look [(119,Rj),(134,Dz)]) eC Tryz.f136 (p,n,()) (λ(z:Bool)=>z=!Dd n p):=by
 refine Eq.mp (UE p n _) ⟨_,if_pos trivial,⟨λhe=>?_,λhe=>⟨_,if_pos h,?_⟩⟩⟩
 ·simp only [bne_iff_ne,ne_eq] at he
  have:Dd n p=false:=RW.2 λhh=>he hh.1
  rw [this];rfl
 ·simp only [bne_eq_false_iff_eq] at he
  show (!Fv p)=_
  congr 1
  cases hp:Fv p with
  |true=>exact Jk ⟨he,hp⟩
  |false=>exact Bi λhh=>by rw [hh.2] at hp;cases hp
theorem yQ:Sound Tryz.prog 136 eC:=
 Sound.Cu Bj (Ae gR (Ae ae Ai)) mixed Tryz.func136 (by kernel_rfl) (by kernel_rfl) λx h=>TH x.1 x.2.1 h
theorem lE {α:Type} (P:α->Bool): ∀(l:List α) (i:Int),0<=i->(0<=Dy P l i↔l.any P=true)
 | [],i,_=>by simp [Dy]
 |y::r,i,h=>by
  simp only [Dy,List.any_cons,Bool.or_eq_true]
  split
  ·rename_i hy;simp [hy,h]
  ·rename_i hy;rw [lE P r (i+1) (by omega)];simp [hy]
theorem Ae5 (g:List (List Int)) (n:Int×Unit) (h:Dl g):fnW Ck (look [(136,eC)]) tb Tryz.f150 (g,n,()) (λ(z:Int)=>z=Dy (λp=>!Dd n.1 p) g 0):=by
 obtain ⟨h,h4⟩:=h
 refine Eq.mp (Aet g n _) ?_
 refine Ag g.length (λv=>v.1) (λj _=>Dy (λp=>!Dd n.1 p) (g.drop j) j=Dy (λp=>!Dd n.1 p) g 0) rfl (by simp) ?_
 rintro j ⟨i,⟨⟩⟩ K hj hi hR hK
 dsimp only at hi⊢
 subst hi
 refine Br.dec (λhl=>?_) λhl=>?_
 ·have hl:j<g.length:=by omega
  rw [List.drop_eq_getElem_cons hl] at hR
  simp only [Dy] at hR
  refine ⟨_,Ap hl,_,if_pos (h4 _ (List.getElem_mem hl)),⟨λhe=>?_,λhe=>?_⟩⟩
  ·have he:(!Dd n.1 g[j])=true:=he
   rw [if_pos he] at hR
   exact hR
  ·have he:(!Dd n.1 g[j])=false:=he
   rw [if_neg (by rw [he];decide)] at hR
   rw [Ah (by omega)]
   exact hK hl _ rfl (by push_cast;exact hR)
 ·have:j=g.length:=by omega
  subst this
  rw [List.drop_length] at hR
  exact hR
theorem JQ:Sound Tryz.prog 150 tb:=
 Sound.Cu Bj (Ae yQ Ai) mixed Tryz.func150 (by kernel_rfl) (by kernel_rfl) λx h=>Ae5 x.1 x.2.1 h
theorem Ae1 (g:List (List Int)) (n:Int×Unit) (h:Dl g):fnW Ck (look [(150,tb)]) sZ Tryz.f135 (g,n,()) (λ(z:Bool)=>z=List.any g (λp=>!Dd n.1 p)):=by
 refine Eq.mp (Aep g n _) ⟨_,if_pos h,?_⟩
 rw [Bool.eq_iff_iff,decide_eq_true_iff]
 exact lE _ g 0 (Int.le_refl 0)
theorem JO:Sound Tryz.prog 135 sZ:=
 Sound.Cu Bj (Ae JQ Ai) mixed Tryz.func135 (by kernel_rfl) (by kernel_rfl) λx h=>Ae1 x.1 x.2.1 h
theorem uO (n:Int) (g:List (List Int)) (h:Dl g):fnW Ck (look [(90,Bx),(135,sZ)]) Ia Tryz.f110 (n,g,()) (λ(z:Bool)=>z=Ls n g):=by
 refine Eq.mp (wa n g _) ⟨_,if_pos trivial,⟨λhp=>?_,λhp=>?_⟩⟩
 ·have hp:Jo n 1 20=true:=hp
  rw [Cp] at hp
  refine Br.dec (λhl=>⟨_,if_pos h,?_⟩) λhl=>?_
  ·show (!List.any g (λp=>!Dd n p))=Ls n g
   cases ha:List.any g (λp=>!Dd n p) with
   |true=>
    obtain ⟨p,wx,HL⟩:=List.any_eq_true.1 ha
    exact Bi λhh=>by rw [hh.2.2 p wx] at HL;cases HL
   |false=>
    refine Jk ⟨hp,by omega,λp hm=>?_⟩
    have:=List.any_eq_false.1 ha p hm
    simpa using this
  ·exact Bi λhh=>by have:=hh.2.1;omega
 ·refine Bi λhh=>?_
  have:Jo n 1 20=true:=Cp.2 hh.1
  have hp:Jo n 1 20=false:=hp
  rw [this] at hp;cases hp
theorem kU:Sound Tryz.prog 110 Ia:=
 Sound.Cu Bj (Ae Us (Ae JO Ai)) mixed Tryz.func110 (by kernel_rfl) (by kernel_rfl) λx h=>uO x.1 x.2.1 h
theorem Ic {s:ByteArray} {k:Nat} (h:k<s.size):s[k]?=some s[k]:=getElem?_pos s k h
theorem OQ (s:ByteArray) (i:Int) (h:0<=i/\i<s.size/\s.size<=4294967296):fnW Ck (look []) a8 Tryz.f124 (s,i,()) (λ(z:Bool)=>z=j0 s i):=by
 obtain ⟨h1,h2,h3⟩:=h
 have hi:i.toNat<s.size:=by omega
 refine Eq.mp (QQ s i _) ⟨h1,_,Ic hi,Br.dec (λhq=>?_) λhq=>⟨h1,_,Ic hi,Br.dec (λhr=>?_) λhr=>?_⟩⟩
 ·refine Bi λ⟨c,hc,SG,_⟩=>?_
  rw [Ic hi] at hc;cases hc;omega
 ·refine Bi λ⟨c,hc,_,SG,_⟩=>?_
  rw [Ic hi] at hc;cases hc;omega
 ·refine Ag i.toNat (λv=>v.1) (λj _=> ∀k,k<j->s[k]?≠some s[i.toNat]) rfl (λk hk=>absurd hk (Nat.not_lt_zero _)) ?_
  rintro j ⟨i',⟨⟩⟩ K hj mV hR hK
  dsimp only at mV⊢
  subst mV
  refine Br.dec (λhl=>?_) λhl=>?_
  ·have hl:j<i.toNat:=by omega
   have hj:j<s.size:=by omega
   rw [Int.toNat_natCast]
   refine ⟨by omega,_,Ic hj,h1,_,Ic hi,⟨λhe=>?_,λhe=>?_⟩⟩
   ·simp only [beq_iff_eq,Int.natCast_inj] at he
    refine Bi λ⟨c,hc,_,_,SG⟩=>?_
    rw [Ic hi] at hc;cases hc
    exact SG j hl (by rw [Ic hj,UInt8.toNat_inj.1 he])
   ·simp only [beq_eq_false_iff_ne,ne_eq,Int.natCast_inj] at he
    rw [Ah (by omega)]
    refine hK hl _ rfl λk hk=>?_
    by_cases e:k=j
    ·subst e
     rw [Ic hj]
     exact λe=>he (by rw [Option.some.inj e])
    ·exact hR k (by omega)
  ·have:j=i.toNat:=by omega
   subst this
   exact Jk ⟨_,Ic hi,by omega,by omega,hR⟩
theorem vI:Sound Tryz.prog 124 a8:=
 Sound.Cu Bj Ai mixed Tryz.func124 (by kernel_rfl) (by kernel_rfl) λx h=>OQ x.1 x.2.1 h
theorem IM (s:ByteArray) (h:s.size<=4294967296):fnW Ck (look [(90,Bx)]) Va Tryz.f111 (s,()) (λ(z:Bool)=>z=Zt s):=by
 refine Eq.mp (KK s _) ?_
 refine Ag s.size (λv=>v.1) (λj _=> ∀k,k<j->tA s k) rfl (λk hk=>absurd hk (Nat.not_lt_zero _)) ?_
 rintro j ⟨i,⟨⟩⟩ K hj hi hR hK
 dsimp only at hi⊢
 subst hi
 refine Br.dec (λhl=>?_) λhl=>?_
 ·have hl:j<s.size:=by omega
  rw [Int.toNat_natCast]
  have hb:=(s[j]).toNat_lt
  refine ⟨by omega,_,Ic hl,_,if_pos trivial,⟨λhq=>?_,λhq=>?_⟩⟩
  ·have hq:=Cl hq
   rw [Cp] at hq
   dsimp only at hq
   rw [Co (by omega) (by omega)] at hq
   refine Bi λhh=>?_
   obtain ⟨c,hc,SG,hc2,_⟩:=hh.2 j hl
   rw [Ic hl] at hc;cases hc
   exact hq ⟨by omega,by omega⟩
  ·have hq:=Dj hq
   rw [Cp] at hq
   dsimp only at hq
   rw [Co (by omega) (by omega)] at hq
   refine Ag j (λv=>v.1) (λm _=> ∀k,k<m->s[k]?≠some s[j]) rfl (λk hk=>absurd hk (Nat.not_lt_zero _)) ?_
   rintro m ⟨i',⟨⟩⟩ K' hm mV hR' SC
   dsimp only at mV⊢
   subst mV
   refine Br.dec (λGe=>?_) λGe=>?_
   ·have Ge:m<j:=by omega
    have xy:m<s.size:=by omega
    rw [Int.toNat_natCast]
    refine ⟨by omega,_,Ic xy,by omega,_,Ic hl,⟨λhe=>?_,λhe=>?_⟩⟩
    ·simp only [beq_iff_eq,Int.natCast_inj] at he
     refine Bi λhh=>?_
     obtain ⟨c,hc,_,_,SG⟩:=hh.2 j hl
     rw [Ic hl] at hc;cases hc
     exact SG m Ge (by rw [Ic xy,UInt8.toNat_inj.1 he])
    ·simp only [beq_eq_false_iff_ne,ne_eq,Int.natCast_inj] at he
     rw [Ah (by omega)]
     refine SC Ge _ rfl λk hk=>?_
     by_cases e:k=m
     ·subst e
      rw [Ic xy]
      exact λe=>he (by rw [Option.some.inj e])
     ·exact hR' k (by omega)
   ·have:m=j:=by omega
    subst this
    rw [Ah (by omega)]
    refine hK hl _ rfl λk hk=>?_
    by_cases e:k=m
    ·subst e
     exact ⟨_,Ic hl,by omega,by omega,hR'⟩
    ·exact hR k (by omega)
 ·have:j=s.size:=by omega
  subst this
  refine ⟨_,if_pos trivial,?_⟩
  show Jo s.size 1 8=_
  cases hr:Jo s.size 1 8 with
  |true=>rw [Cp] at hr;exact Jk ⟨by omega,hR⟩
  |false=>refine Bi λhh=>?_;rw [Cp.2 ⟨by omega,by omega⟩] at hr;cases hr
theorem ri:Sound Tryz.prog 111 Va:=
 Sound.Cu Bj (Ae Us Ai) mixed Tryz.func111 (by kernel_rfl) (by kernel_rfl) λx h=>IM x.1 h
theorem DY {p:PP} (h:Bw p=true):1<=p.1/\p.1<=20/\1<=p.2.2.1.length/\p.2.2.1.length<=8:=by
 obtain ⟨h1,h2,h3⟩:=Eh.1 h
 obtain ⟨h4,h5,_⟩:=Eh.1 h1
 obtain ⟨h6,_⟩:=Eh.1 h2
 omega
theorem uV (p:PP) (h:Cb p):fnW Ck (look [(123,Ia),(124,a8)]) Ea Tryz.f93 (p,()) (λ(z:Bool)=>z=Bw p):=by
 obtain ⟨hn,hg⟩:=h
 refine Eq.mp (wk p _) ⟨λh0=>?_,λh0=>⟨λh1=>?_,λh1=>⟨_,if_pos hg,⟨λh2=>?_,λh2=>?_⟩⟩⟩⟩
 ·simp only [beq_iff_eq] at h0
  exact Bi λhh=>by obtain ⟨_,h2,h3⟩:=hh;have:=(Eh.1 h2).1;omega
 ·simp only [bne_iff_ne,ne_eq,Int.natCast_inj] at h1
  exact Bi λhh=>h1 hh.2.2
 ·have h2:=Cl h2
  exact Bi λhh=>h2 hh.1
 ·simp only [beq_eq_false_iff_ne,ne_eq] at h0
  simp only [bne_eq_false_iff_eq,Int.natCast_inj] at h1
  have h2:Ls p.1 p.2.2.1=true:=Dj h2
  refine Ag p.2.1.size (λv=>v.1) (λj v=>v.2=(p.1,p.2.1,p.2.2.1,())/\ ∀k,k<j->tA p.2.1 k) rfl ⟨rfl,λk hk=>absurd hk (Nat.not_lt_zero _)⟩ ?_
  rintro j ⟨i,v⟩ K hj hi ⟨hv,hR⟩ hK
  dsimp only at hi hv⊢
  subst hi hv
  dsimp only
  refine Br.dec (λhl=>?_) λhl=>?_
  ·have hl:j<p.2.1.size:=by omega
   refine ⟨_,if_pos ⟨Int.natCast_nonneg j,Int.ofNat_lt.2 hl,hn⟩,⟨λhq=>?_,λhq=>?_⟩⟩
   ·have hq: ¬j0 p.2.1 j=true:=Cl hq
    refine Bi λhh=>hq (Eh.2 ?_)
    rw [Int.toNat_natCast]
    exact (Eh.1 hh.2.1).2 j hl
   ·have hq:j0 p.2.1 j=true:=Dj hq
    have hq:=Eh.1 hq
    rw [Int.toNat_natCast] at hq
    rw [Ah (by omega)]
    refine hK hl _ rfl ⟨rfl,λk hk=>?_⟩
    by_cases e:k=j
    ·subst e;exact hq
    ·exact hR k (by omega)
  ·have:j=p.2.1.size:=by omega
   subst this
   have:=(Eh.1 h2).2.1
   exact Jk ⟨h2,Eh.2 ⟨⟨by omega,by omega⟩,hR⟩,h1⟩
theorem Ru:Sound Tryz.prog 93 Ea:=
 Sound.Cu Bj (Ae ah (Ae vI Ai)) mixed Tryz.func93 (by kernel_rfl) (by kernel_rfl) λx h=>uV x.1 h
theorem uQ (p:PP) (h:Cb p):fnW Ck (look [(110,Ia),(111,Va)]) Ea Tryz.f84 (p,()) (λ(z:Bool)=>z=Bw p):=by
 obtain ⟨hn,hg⟩:=h
 refine Eq.mp (wc p _) ⟨_,if_pos hg,⟨λh1=>⟨_,if_pos hn,⟨λh2=>?_,λh2=>?_⟩⟩,λh1=>?_⟩⟩
 ·have h1:Ls p.1 p.2.2.1=true:=h1
  have h2:Zt p.2.1=true:=h2
  by_cases e:p.2.1.size=p.2.2.1.length
  ·rw [e,beq_self_eq_true];exact Jk ⟨h1,h2,e⟩
  ·rw [show ((p.2.1.size:Int)==(p.2.2.1.length:Int))=false from beq_eq_false_iff_ne.2 (by omega)];exact Bi λhh=>e hh.2.2
 ·have h2:Zt p.2.1=false:=h2
  exact Bi λhh=>by rw [hh.2.1] at h2;cases h2
 ·have h1:Ls p.1 p.2.2.1=false:=h1
  exact Bi λhh=>by rw [hh.1] at h1;cases h1
theorem Rt:Sound Tryz.prog 84 Ea:=
 Sound.Cu Bj (Ae kU (Ae ri Ai)) mixed Tryz.func84 (by kernel_rfl) (by kernel_rfl) λx h=>uQ x.1 h
theorem Ae9 (p:PP) (room:Int) (h:Cb p/\roomy room):fnW Ck (look [(45,bm)]) tf Tryz.f13 (p,room,()) (λ(z:Int)=>z=Ua p room):=by
 obtain ⟨⟨h1,h2⟩,h3,h4⟩:=h
 refine Eq.mp (Aex p room _) ?_
 rw [Co (by omega) (by omega)]
 refine Br.dec (λhn=>?_) λhn=>⟨_,if_pos ⟨h2,by dsimp only;omega,by dsimp only;omega⟩,Br.dec (λhm=>?_) λhm=>?_⟩
 ·simp only [Ua,if_pos hn]
 ·exact ((if_neg hn).trans (if_pos hm)).symm
 ·exact ((if_neg hn).trans (if_neg hm)).symm
theorem JT:Sound Tryz.prog 13 tf:=
 Sound.Cu Bj (Ae pF Ai) mixed Tryz.func13 (by kernel_rfl) (by kernel_rfl) λx h=>Ae9 x.1 x.2.1 h
theorem Aeb (p:PP) (h:Cb p):fnW Ck (look [(49,bn)]) th Tryz.f16 (p,()) (λ(z:PP)=>z=p):=Eq.mp (Aez p _) ⟨_,if_pos h.2,rfl⟩
theorem JU:Sound Tryz.prog 16 th:=
 Sound.Cu Bj (Ae pH Ai) mixed Tryz.func16 (by kernel_rfl) (by kernel_rfl) λx h=>Aeb x.1 h
theorem wW {a b:ByteArray} :(a.toList==b.toList)=decide (a=b):=by
 rw [Bool.eq_iff_iff,beq_iff_eq,decide_eq_true_iff,ByteArray.toList_eq,ByteArray.toList_eq]
 exact ⟨λh=>ByteArray.ext (Array.toList_inj.1 h),λh=>by rw [h]⟩
theorem Ae3 (a b:PP) (h:Cb a):fnW Ck (look [(53,Ob)]) ta Tryz.f20 (a,b,()) (λ(z:Bool)=>z=lD a b):=by
 refine Eq.mp (Aer a b _) ⟨λh1=>?_,λh1=>⟨λh2=>?_,λh2=>⟨_,if_pos h.2,⟨λh3=>?_,λh3=>?_⟩⟩⟩⟩
 ·simp only [bne_iff_ne,ne_eq] at h1
  unfold lD
  rw [decide_eq_false h1];rfl
 ·rw [wW] at h2
  unfold lD
  cases hd:decide (a.2.1=b.2.1)<;>simp_all
 ·have h3:(!Lq a.2.2.1 b.2.2.1)=true:=h3
  simp only [Lq,Bool.not_eq_true'] at h3
  unfold lD
  rw [h3];simp
 ·have h3:(!Lq a.2.2.1 b.2.2.1)=false:=h3
  rw [wW] at h2
  simp only [Lq] at h3
  simp only [bne_eq_false_iff_eq] at h1
  unfold lD
  simp_all
theorem JP:Sound Tryz.prog 20 ta:=
 Sound.Cu Bj (Ae pw Ai) mixed Tryz.func20 (by kernel_rfl) (by kernel_rfl) λx h=>Ae3 x.1 x.2.1 h
theorem BN (p:PP):lD p p=true:=by simp [lD]
theorem CM (t:TT) (xs:List Int) (h:Iz t/\short xs):fnW Ck (look [(101,Am)]) Oc Tryz.f77 (t,xs,()) (λ(z:Int)=>z=Dy (λp=>decide (p=xs)) t.2.1 0):=by
 obtain ⟨⟨_,⟨h,h4⟩,_⟩,_⟩:=h
 refine Eq.mp (EL t xs _) ?_
 refine Ag t.2.1.length (λv=>v.1) (λj v=>v.2=(t.1,t.2.1,t.2.2.1,())/\Dy (λp=>decide (p=xs)) (t.2.1.drop j) j=Dy (λp=>decide (p=xs)) t.2.1 0) rfl ⟨rfl,by simp⟩ ?_
 rintro j ⟨i,v⟩ K hj hi ⟨hv,hR⟩ hK
 dsimp only at hi hv⊢
 subst hi hv
 dsimp only
 refine Br.dec (λhl=>?_) λhl=>?_
 ·have hl:j<t.2.1.length:=by omega
  rw [List.drop_eq_getElem_cons hl] at hR
  simp only [Dy] at hR
  refine ⟨_,Ap hl,_,if_pos (h4 _ (List.getElem_mem hl)),⟨λhe=>?_,λhe=>?_⟩⟩
  ·have he:decide (t.2.1[j]=xs)=true:=he
   rw [if_pos he] at hR
   exact hR
  ·have he:decide (t.2.1[j]=xs)=false:=he
   rw [if_neg (by rw [he];decide)] at hR
   rw [Ah (by omega)]
   exact hK hl _ rfl ⟨rfl,by push_cast;exact hR⟩
 ·have:j=t.2.1.length:=by omega
  subst this
  rw [List.drop_length] at hR
  exact hR
theorem pG:Sound Tryz.prog 77 Oc:=
 Sound.Cu Bj (Ae Tr Ai) mixed Tryz.func77 (by kernel_rfl) (by kernel_rfl) λx h=>CM x.1 x.2.1 h
end Go.Proofs.YtfolipnappekaaaGreat

namespace Go.Proofs.YtfolipnappekaaaGreat
open Go.RowKit
noncomputable abbrev a9:Spec:=Cu (.pair tI (.pair tL .unit)) .bool false true (λx=>short x.2.1) (λx=>Dd x.1 x.2.1)
noncomputable abbrev Ri:Spec:=Cu (.pair Df (.pair tL .unit)) .bool false true (λx=>short x.2.1) (λx=>Dd x.1.1 x.2.1)
noncomputable abbrev Im:Spec:=Cu (.pair Df (.pair tL .unit)) .bool false true (λx=>Cb x.1/\short x.2.1) (λx=>Bw x.1&&Dd x.1.1 x.2.1)
theorem QR (n:Int) (s:List Int) (P:Bool->Prop):(Br ((↑s.length:Int)==n) (∃(y3:Bool),Dz.fn (s,())=some y3/\P y3) (P false))=fnW Ck (look [(75,Dz)]) a9 Tryz.f127 (n,s,()) P:=by kernel_rfl
theorem q7 (p:Int×ByteArray×List (List Int)×Unit) (s:List Int) (P:Bool->Prop):(∃(y3:Int),Rj.fn (s,())=some y3/\Br (y3==p.1) (∃(y4:Bool),Dz.fn (s,())=some y4/\P y4) (P false))=fnW Ck (look [(119,Rj),(134,Dz)]) Ri Tryz.f109 (p,s,()) P:=by kernel_rfl
theorem rU (p:Int×ByteArray×List (List Int)×Unit) (s:List Int) (P:Bool->Prop):(∃(y3:Bool),Ea.fn ((p.1,p.2.1,p.2.2.1,()),())=some y3/\Br y3 (∃(y4:Bool),a9.fn (p.1,s,())=some y4/\P y4) (P false))=fnW Ck (look [(93,Ea),(127,a9)]) Im Tryz.f95 (p,s,()) P:=by kernel_rfl
theorem rO (p:Int×ByteArray×List (List Int)×Unit) (s:List Int) (P:Bool->Prop):(∃(y3:Bool),Ea.fn ((p.1,p.2.1,p.2.2.1,()),())=some y3/\Br y3 (∃(y4:Bool),Ri.fn ((p.1,p.2.1,p.2.2.1,()),s,())=some y4/\P y4) (P false))=fnW Ck (look [(84,Ea),(109,Ri)]) Im Tryz.f97 (p,s,()) P:=by kernel_rfl
theorem OR (n:Int) (s:List Int) (h:short s):fnW Ck (look [(75,Dz)]) a9 Tryz.f127 (n,s,()) (λ(z:Bool)=>z=Dd n s):=by
 refine Eq.mp (QR n s _) ⟨λhe=>⟨_,if_pos h,?_⟩,λhe=>?_⟩
 ·simp only [beq_iff_eq] at he
  show Fv s=_
  cases hp:Fv s with
  |true=>exact Jk ⟨he,hp⟩
  |false=>exact Bi λhh=>by rw [hh.2] at hp;cases hp
 ·simp only [beq_eq_false_iff_ne,ne_eq] at he
  exact Bi λhh=>he hh.1
theorem vJ:Sound Tryz.prog 127 a9:=
 Sound.Cu Bj (Ae Mm Ai) mixed Tryz.func127 (by kernel_rfl) (by kernel_rfl) λx h=>OR x.1 x.2.1 h
theorem oN (p:PP) (s:List Int) (h:short s):fnW Ck (look [(119,Rj),(134,Dz)]) Ri Tryz.f109 (p,s,()) (λ(z:Bool)=>z=Dd p.1 s):=by
 refine Eq.mp (q7 p s _) ⟨_,if_pos trivial,⟨λhe=>⟨_,if_pos h,?_⟩,λhe=>?_⟩⟩
 ·simp only [beq_iff_eq] at he
  show Fv s=_
  cases hp:Fv s with
  |true=>exact Jk ⟨he,hp⟩
  |false=>exact Bi λhh=>by rw [hh.2] at hp;cases hp
 ·simp only [beq_eq_false_iff_ne,ne_eq] at he
  exact Bi λhh=>he hh.1
theorem gP:Sound Tryz.prog 109 Ri:=
 Sound.Cu Bj (Ae gR (Ae ae Ai)) mixed Tryz.func109 (by kernel_rfl) (by kernel_rfl) λx h=>oN x.1 x.2.1 h
theorem qX (p:PP) (s:List Int) (h:Cb p/\short s):fnW Ck (look [(93,Ea),(127,a9)]) Im Tryz.f95 (p,s,()) (λ(z:Bool)=>z=(Bw p&&Dd p.1 s)):=by
 refine Eq.mp (rU p s _) ⟨_,if_pos h.1,⟨λhe=>⟨_,if_pos h.2,?_⟩,λhe=>?_⟩⟩
 ·have he:Bw p=true:=he
  rw [he];rfl
 ·have he:Bw p=false:=he
  rw [he];rfl
theorem js:Sound Tryz.prog 95 Im:=
 Sound.Cu Bj (Ae Ru (Ae vJ Ai)) mixed Tryz.func95 (by kernel_rfl) (by kernel_rfl) λx h=>qX x.1 x.2.1 h
theorem qQ (p:PP) (s:List Int) (h:Cb p/\short s):fnW Ck (look [(84,Ea),(109,Ri)]) Im Tryz.f97 (p,s,()) (λ(z:Bool)=>z=(Bw p&&Dd p.1 s)):=by
 refine Eq.mp (rO p s _) ⟨_,if_pos h.1,⟨λhe=>⟨_,if_pos h.2,?_⟩,λhe=>?_⟩⟩
 ·have he:Bw p=true:=he
  rw [he];rfl
 ·have he:Bw p=false:=he
  rw [he];rfl
theorem jm:Sound Tryz.prog 97 Im:=
 Sound.Cu Bj (Ae Rt (Ae gP Ai)) mixed Tryz.func97 (by kernel_rfl) (by kernel_rfl) λx h=>qQ x.1 x.2.1 h
end Go.Proofs.YtfolipnappekaaaGreat

namespace Go.Proofs.YtfolipnappekaaaGreat
open Go.RowKit
def Io (xs:List Int) (i:Int):Int:=xs.getD i.toNat 0
def Aa (p q:List Int):List Int:=p.map (Io q)
def Xg (f:Nat->Nat) (g:Nat->Int) (m:Nat) (init:List Int):List Int:=(List.range m).foldl (λ(out:List Int) (i:Nat)=>out.set (f i) (g i)) init
def Af (p:List Int):List Int:=Xg (λi=>(Io p (i:Int)).toNat) (λi=>(i:Int)) p.length (List.replicate p.length 0)
def Hw (n:Nat) (p:List Int):Prop:= ∀y∈p,0<=y/\y<n
noncomputable abbrev Uz:Spec:=Cu (.pair tL (.pair tL .unit)) tL false true (λx=>List.length x.1<=20/\Hw (List.length x.2.1) x.1) (λx=>Aa x.1 x.2.1)
noncomputable abbrev Cn:Spec:=Cu (.pair tL .unit) tL false true (λx=>List.length x.1<=20/\Hw (List.length x.1) x.1) (λx=>Af x.1)
noncomputable abbrev gN:Spec:=Cu (.pair tI .unit) tL false true (λx=>0<=x.1/\x.1<=20) (λx=>upto x.1.toNat)
noncomputable abbrev Ky:Spec:=Cu (.pair tL .unit) tL false true (λx=>Fv x.1=true) (λx=>Af x.1)
def Ao (g:List (List Int)) (l:Int):List Int:=if l>0 then g.getD (l-1).toNat [] else Af (g.getD (-l-1).toNat [])
def Is (n:Int) (l:Int):Prop:=l≠0/\ -n<=l/\l<=n
noncomputable abbrev Rk:Spec:=Cu (.pair an (.pair tI .unit)) tL false false (λx=>Is (List.length x.1) x.2.1/\List.length x.1<=8/\ ∀p∈x.1,Fv p=true) (λx=>Ao x.1 x.2.1)
def Cm (n:Nat):List Int:=(List.range n).flatMap λ(k:Nat)=> [(k:Int)+1,-((k:Int)+1)]
noncomputable abbrev Vc:Spec:=Cu (.pair tI .unit) tL false true (λx=>0<=x.1/\x.1<=8) (λx=>Cm x.1.toNat)
noncomputable abbrev a5:Spec:=Cu (.pair Df (.pair tL (.pair tI .unit))) tL false true (λx=>Bw x.1=true/\List.length x.2.1<=20/\(∀y∈x.2.1,0<=y/\y<x.1.1)/\Is (List.length x.1.2.2.1) x.2.2.1) (λx=>Aa x.2.1 (Ao x.1.2.2.1 x.2.2.1))
theorem rK (p q:List Int) (P:List Int->Prop):(((0:Int)<=(↑p.length:Int)/\(↑p.length:Int)<(↑Bh:Int)+(1:Int))/\(↑p.length:Int)=(↑p.length:Int)/\0=0/\(List.replicate (↑p.length:Int).toNat (Int.ofNat (nat_lit 0))).length=(List.replicate (↑p.length:Int).toNat (Int.ofNat (nat_lit 0))).length/\Bk (λ(v3:Int×List Int×PUnit) (k4:Int×List Int×PUnit->Prop)=>Br (decide (v3.1<(↑p.length:Int))) (∃(y5:Int),idx p v3.1=some y5/\ ∃(y6:Int),idx q y5=some y6/\((0:Int)<=v3.1/\v3.1<(↑v3.2.1.length:Int))/\0+v3.1.toNat<v3.2.1.length/\0=0/\v3.2.1.length=(v3.2.1.set (0+v3.1.toNat) y6).length/\k4 (IntKind.i64.wrap (v3.1+(1:Int)),v3.2.1.set (0+v3.1.toNat) y6,())) (P (List.take v3.2.1.length (List.drop 0 v3.2.1)))) ((0:Int),List.replicate (↑p.length:Int).toNat (Int.ofNat (nat_lit 0)),PUnit.unit))=fnW Ck (look []) Uz Tryz.f121 (p,q,()) P:=by kernel_rfl
theorem rM (p:List Int) (P:List Int->Prop):(((0:Int)<=(↑p.length:Int)/\(↑p.length:Int)<(↑Bh:Int)+(1:Int))/\(↑p.length:Int)=(↑p.length:Int)/\0=0/\(List.replicate (↑p.length:Int).toNat (Int.ofNat (nat_lit 0))).length=(List.replicate (↑p.length:Int).toNat (Int.ofNat (nat_lit 0))).length/\Bk (λ(v2:Int×List Int×PUnit) (k3:Int×List Int×PUnit->Prop)=>Br (decide (v2.1<(↑p.length:Int))) (∃(y4:Int),idx p v2.1=some y4/\((0:Int)<=y4/\y4<(↑v2.2.1.length:Int))/\0+y4.toNat<v2.2.1.length/\0=0/\v2.2.1.length=(v2.2.1.set (0+y4.toNat) v2.1).length/\k3 (IntKind.i64.wrap (v2.1+(1:Int)),v2.2.1.set (0+y4.toNat) v2.1,())) (P (List.take v2.2.1.length (List.drop 0 v2.2.1)))) ((0:Int),List.replicate (↑p.length:Int).toNat (Int.ofNat (nat_lit 0)),PUnit.unit))=fnW Ck (look []) Cn Tryz.f56 (p,()) P:=by kernel_rfl
theorem KS (p:List Int) (P:List Int->Prop):(((0:Int)<=(↑p.length:Int)/\(↑p.length:Int)<(↑Bh:Int)+(1:Int))/\(↑p.length:Int)=(↑p.length:Int)/\0=0/\(List.replicate (↑p.length:Int).toNat (Int.ofNat (nat_lit 0))).length=(List.replicate (↑p.length:Int).toNat (Int.ofNat (nat_lit 0))).length/\Bk (λ(v2:Int×List Int×PUnit) (k3:Int×List Int×PUnit->Prop)=>Br (decide (v2.1<(↑p.length:Int))) (∃(y4:Int),idx p v2.1=some y4/\((0:Int)<=y4/\y4<(↑v2.2.1.length:Int))/\0+y4.toNat<v2.2.1.length/\0=0/\v2.2.1.length=(v2.2.1.set (0+y4.toNat) v2.1).length/\k3 (IntKind.i64.wrap (v2.1+(1:Int)),v2.2.1.set (0+y4.toNat) v2.1,())) (P (List.take v2.2.1.length (List.drop 0 v2.2.1)))) ((0:Int),List.replicate (↑p.length:Int).toNat (Int.ofNat (nat_lit 0)),PUnit.unit))=fnW Ck (look []) Cn Tryz.f76 (p,()) P:=by kernel_rfl
theorem rT (p:List Int) (P:List Int->Prop):(∃(y2:Bool),Dz.fn (p,())=some y2/\Br (!y2) (P (List.take 0 (List.drop 0 []))) (∃(y3:List Int),Cn.fn (p,())=some y3/\P y3))=fnW Ck (look [(75,Dz),(76,Cn)]) Ky Tryz.f55 (p,()) P:=by kernel_rfl
theorem EE (n:Int) (P:List Int->Prop):(0=0/\0=([]:List Int).length/\Bk (λ(v2:Int×List Int×PUnit) (k3:Int×List Int×PUnit->Prop)=>Br (decide (v2.1<n)) (0=0/\v2.2.1.length=v2.2.1.length/\v2.2.1.length+(List.take 1 (List.drop 0 [v2.1])).length<=Bh/\0=0/\(v2.2.1++List.take 1 (List.drop 0 [v2.1])).length=(v2.2.1++List.take 1 (List.drop 0 [v2.1])).length/\k3 (IntKind.i64.wrap (v2.1+(1:Int)),v2.2.1++List.take 1 (List.drop 0 [v2.1]),())) (P (List.take v2.2.1.length (List.drop 0 v2.2.1)))) ((0:Int),[],PUnit.unit))=fnW Ck (look []) gN Tryz.f115 (n,()) P:=by kernel_rfl
theorem EG (g:List (List Int)) (l:Int) (P:List Int->Prop):(Br (decide (l>(0:Int))) (∃(y3:List Int),idx g (IntKind.i64.wrap (l-(1:Int)))=some y3/\P y3) (∃(y3:List Int),idx g (IntKind.i64.wrap (IntKind.i64.wrap ((0:Int)-l)-(1:Int)))=some y3/\ ∃(y4:List Int),Cn.fn (y3,())=some y4/\P y4))=fnW Ck (look [(56,Cn)]) Rk Tryz.f122 (g,l,()) P:=by kernel_rfl
theorem KN (n:Int) (P:List Int->Prop):(0=0/\0=([]:List Int).length/\Bk (λ(v2:Int×List Int×PUnit) (k3:Int×List Int×PUnit->Prop)=>Br (decide (v2.1<n)) (0=0/\v2.2.1.length=v2.2.1.length/\v2.2.1.length+(List.take 2 (List.drop 0 [IntKind.i64.wrap (v2.1+(1:Int)),IntKind.i64.wrap ((0:Int)-IntKind.i64.wrap (v2.1+(1:Int)))])).length<=Bh/\0=0/\(v2.2.1++List.take 2 (List.drop 0 [IntKind.i64.wrap (v2.1+(1:Int)),IntKind.i64.wrap ((0:Int)-IntKind.i64.wrap (v2.1+(1:Int)))])).length=(v2.2.1++List.take 2 (List.drop 0 [IntKind.i64.wrap (v2.1+(1:Int)),IntKind.i64.wrap ((0:Int)-IntKind.i64.wrap (v2.1+(1:Int)))])).length/\k3 (IntKind.i64.wrap (v2.1+(1:Int)),v2.2.1++List.take 2 (List.drop 0 [IntKind.i64.wrap (v2.1+(1:Int)),IntKind.i64.wrap ((0:Int)-IntKind.i64.wrap (v2.1+(1:Int)))]),())) (P (List.take v2.2.1.length (List.drop 0 v2.2.1)))) ((0:Int),[],PUnit.unit))=fnW Ck (look []) Vc Tryz.f106 (n,()) P:=by kernel_rfl
theorem QL (p:Int×ByteArray×List (List Int)×Unit) (s:List Int) (l:Int) (P:List Int->Prop):(∃(y4:List Int),idx p.2.2.1 (IntKind.i64.wrap ((if true=true then if IntKind.i64.wrap ((0:Int)-l)>l then IntKind.i64.wrap ((0:Int)-l) else l else if IntKind.i64.wrap ((0:Int)-l)<l then IntKind.i64.wrap ((0:Int)-l) else l)-(1:Int)))=some y4/\Br (decide (l<(0:Int))) (∃(y5:List Int),Ky.fn (y4,())=some y5/\0=0/\0=([]:List Int).length/\Bk (λ(v6:Int×List Int×PUnit) (k7:Int×List Int×PUnit->Prop)=>Br (decide (v6.1<(↑s.length:Int))) (∃(y8:Int),idx s v6.1=some y8/\ ∃(y9:Int),idx y5 y8=some y9/\0=0/\v6.2.1.length=v6.2.1.length/\v6.2.1.length+(List.take 1 (List.drop 0 [y9])).length<=Bh/\0=0/\(v6.2.1++List.take 1 (List.drop 0 [y9])).length=(v6.2.1++List.take 1 (List.drop 0 [y9])).length/\k7 (IntKind.i64.wrap (v6.1+(1:Int)),v6.2.1++List.take 1 (List.drop 0 [y9]),())) (P (List.take v6.2.1.length (List.drop 0 v6.2.1)))) ((0:Int),[],PUnit.unit)) (0=0/\0=([]:List Int).length/\Bk (λ(v5:Int×List Int×PUnit) (k6:Int×List Int×PUnit->Prop)=>Br (decide (v5.1<(↑s.length:Int))) (∃(y7:Int),idx s v5.1=some y7/\ ∃(y8:Int),idx y4 y7=some y8/\0=0/\v5.2.1.length=v5.2.1.length/\v5.2.1.length+(List.take 1 (List.drop 0 [y8])).length<=Bh/\0=0/\(v5.2.1++List.take 1 (List.drop 0 [y8])).length=(v5.2.1++List.take 1 (List.drop 0 [y8])).length/\k6 (IntKind.i64.wrap (v5.1+(1:Int)),v5.2.1++List.take 1 (List.drop 0 [y8]),())) (P (List.take v5.2.1.length (List.drop 0 v5.2.1)))) ((0:Int),[],PUnit.unit)))=fnW Ck (look [(55,Ky)]) a5 Tryz.f118 (p,s,l,()) P:=by kernel_rfl
theorem Hu {xs:List Int} {i:Nat} (h:i<xs.length):Io xs (i:Int)=xs[i]:=by
 unfold Io
 rw [Int.toNat_natCast,List.getD_eq_getElem?_getD,List.getElem?_eq_getElem h];rfl
theorem cX {xs:List Int} {y:Int} (h0:0<=y) (h:y<xs.length):idx xs y=some (Io xs y):=by
 have hy:y.toNat<xs.length:=by omega
 have e:y=(y.toNat:Int):=by omega
 rw [e,Ap hy,Hu hy]
theorem Uj (f:Nat->Nat) (g:Nat->Int) (m:Nat) (init:List Int):Xg f g (m+1) init=(Xg f g m init).set (f m) (g m):=by simp [Xg,List.range_succ]
theorem Xh (f:Nat->Nat) (g:Nat->Int) (m:Nat) (init:List Int):(Xg f g m init).length=init.length:=by
 induction m with
 |zero=>rfl
 |succ m ih=>rw [Uj,List.length_set,ih]
theorem ll (f:Nat->Nat) (g:Nat->Int) (init:List Int): ∀(m:Nat),(∀i j,i<m->j<m->f i=f j->i=j)-> ∀i,i<m->f i<init.length->(Xg f g m init)[f i]?=some (g i)
 |0,_,i,h,_=>absurd h (Nat.not_lt_zero _)
 |m+1,hf,i,hi,hl=>by
  rw [Uj]
  by_cases e:i=m
  ·subst e
   exact List.getElem?_set_self (by rw [Xh];exact hl)
  ·rw [List.getElem?_set_ne (λh=>e (hf i m hi (by omega) h.symm))]
   exact ll f g init m (λa b ha hb=>hf a b (by omega) (by omega)) i (by omega) hl
structure Yh (p:List Int):Prop where
 pos:1<=p.length
 len:p.length<=20
 row:Hw p.length p
 nodup:p.Nodup
theorem aX {p:List Int} (h:Fv p=true):Yh p:=by
 obtain ⟨h1,h2,h3⟩:=Eh.1 h
 refine ⟨h1,h2,λy hy=>?_,dg λj hj=>(h3 j hj hj).2.2⟩
 obtain ⟨j,hj,rfl⟩:=List.mem_iff_getElem.1 hy
 have:=h3 j hj hj
 omega
theorem Yh.inj {p:List Int} (h:Yh p) (i j:Nat) (hi:i<p.length) (hj:j<p.length) (e:(Io p (i:Int)).toNat=(Io p (j:Int)).toNat):i=j:=by
 rw [Hu hi,Hu hj] at e
 have h1:=h.row _ (List.getElem_mem hi)
 have h2:=h.row _ (List.getElem_mem hj)
 have e:p[i]=p[j]:=by omega
 refine Classical.byContradiction λFa=>?_
 rcases Nat.lt_or_gt_of_ne Fa with hl|hl
 ·exact List.pairwise_iff_getElem.1 h.nodup i j hi hj hl e
 ·exact List.pairwise_iff_getElem.1 h.nodup j i hj hi hl e.symm
theorem Yh.OI {p:List Int} (h:Yh p) (k:Nat) (hk:k<p.length): ∃i,i<p.length/\(Io p (i:Int)).toNat=k:=by
 have hm:=(Yi (xs:=p) h.row).2 (pS h.nodup) k hk
 obtain ⟨i,hi,e⟩:=List.mem_iff_getElem.1 hm
 exact ⟨i,hi,by rw [Hu hi,e];exact Int.toNat_natCast k⟩
theorem Yh.lt {p:List Int} (h:Yh p) {i:Nat} (hi:i<p.length):(Io p (i:Int)).toNat<p.length:=by
 rw [Hu hi]
 have:=h.row _ (List.getElem_mem hi)
 omega
theorem iO (p:List Int):(Af p).length=p.length:=by unfold Af;rw [Xh,List.length_replicate]
theorem NL {p:List Int} (h:Yh p) {i:Nat} (hi:i<p.length):(Af p)[(Io p (i:Int)).toNat]?=some (i:Int):=
 ll (λi=>(Io p (i:Int)).toNat) (λi=>(i:Int)) _ p.length (λi j hi hj=>h.inj i j hi hj) i hi (by rw [List.length_replicate];exact h.lt hi)
theorem TA {p:List Int} (h:Yh p):Hw p.length (Af p):=by
 intro y hy
 obtain ⟨k,hk,rfl⟩:=List.mem_iff_getElem.1 hy
 have o8:k<p.length:=by rw [iO] at hk;exact hk
 obtain ⟨i,hi,rfl⟩:=h.OI k o8
 have:=NL h hi
 rw [List.getElem?_eq_getElem hk] at this
 rw [Option.some.inj this]
 omega
theorem Jv (p q:List Int):(Aa p q).length=p.length:=by simp [Aa]
theorem x4 {p q:List Int} {n:Nat} (hp:Hw q.length p) (hq:Hw n q):Hw n (Aa p q):=by
 intro y hy
 obtain ⟨x,hx,rfl⟩:=List.mem_map.1 hy
 have h1:=hp x hx
 rw [show x=(x.toNat:Int) by omega,Hu (by omega)]
 exact hq _ (List.getElem_mem _)
theorem qO (p q:List Int) (h:p.length<=20/\Hw q.length p):fnW Ck (look []) Uz Tryz.f121 (p,q,()) (λ(z:List Int)=>z=Aa p q):=by
 obtain ⟨h,hr⟩:=h
 refine Eq.mp (rK p q _) ?_
 refine ⟨⟨by omega,by show (p.length:Int)<(4294967296:Int)+1;omega⟩,rfl,rfl,rfl,?_⟩
 have Mg:=Jv p q
 refine Ag p.length (λv=>v.1) (λj v=>v.2.1.length=(Aa p q).length/\v.2.1.take j=(Aa p q).take j) rfl ⟨by rw [Mg];simp,by simp⟩ ?_
 rintro j ⟨i,ys,⟨⟩⟩ K hj hi ⟨h1,h2⟩ hK
 dsimp only at hi h1 h2⊢
 subst hi
 refine Br.dec (λhl=>?_) λhl=>?_
 ·have hl:j<p.length:=by omega
  have hy:=hr _ (List.getElem_mem hl)
  refine ⟨_,Ap hl,_,cX hy.1 hy.2,⟨by omega,by omega⟩,by rw [Int.toNat_natCast];omega,rfl,by rw [List.length_set],?_⟩
  rw [Ah (by omega),Int.toNat_natCast,Nat.zero_add]
  have Ge:j<(Aa p q).length:=by rw [Mg];exact hl
  have e:Io q p[j]=(Aa p q)[j]:=by simp [Aa]
  rw [e]
  exact hK hl _ rfl ⟨by rw [List.length_set];exact h1,Gd Ge h1 h2⟩
 ·have:j=p.length:=by omega
  subst this
  rw [<-Mg,List.take_length,<-h1,List.take_length] at h2
  rw [List.drop_zero,List.take_length]
  exact h2
theorem Xy:Sound Tryz.prog 121 Uz:=
 Sound.Cu Bj Ai mixed Tryz.func121 (by kernel_rfl) (by kernel_rfl) λx h=>qO x.1 x.2.1 h
theorem qP (p:List Int) (h:p.length<=20/\Hw p.length p):fnW Ck (look []) Cn Tryz.f56 (p,()) (λ(z:List Int)=>z=Af p):=by
 obtain ⟨h,hr⟩:=h
 refine Eq.mp (rM p _) ?_
 refine ⟨⟨by omega,by show (p.length:Int)<(4294967296:Int)+1;omega⟩,rfl,rfl,rfl,?_⟩
 refine Ag p.length (λv=>v.1) (λj v=>v.2.1=Xg (λi=>(Io p (i:Int)).toNat) (λi=>(i:Int)) j (List.replicate p.length 0)) rfl rfl ?_
 rintro j ⟨i,ys,⟨⟩⟩ K hj hi h1 hK
 dsimp only at hi h1⊢
 subst hi
 have hlen:ys.length=p.length:=by rw [h1,Xh,List.length_replicate]
 refine Br.dec (λhl=>?_) λhl=>?_
 ·have hl:j<p.length:=by omega
  have hy:=hr _ (List.getElem_mem hl)
  refine ⟨_,Ap hl,⟨by omega,by omega⟩,by omega,rfl,by rw [List.length_set],?_⟩
  rw [Ah (by omega),Nat.zero_add]
  refine hK hl _ rfl ?_
  rw [Uj,<-h1,Hu hl]
 ·have:j=p.length:=by omega
  subst this
  rw [List.drop_zero,List.take_length]
  exact h1
theorem Pz:Sound Tryz.prog 56 Cn:=
 Sound.Cu Bj Ai mixed Tryz.func56 (by kernel_rfl) (by kernel_rfl) λx h=>qP x.1 h
theorem IV (p:List Int) (h:p.length<=20/\Hw p.length p):fnW Ck (look []) Cn Tryz.f76 (p,()) (λ(z:List Int)=>z=Af p):=by
 obtain ⟨h,hr⟩:=h
 refine Eq.mp (KS p _) ?_
 refine ⟨⟨by omega,by show (p.length:Int)<(4294967296:Int)+1;omega⟩,rfl,rfl,rfl,?_⟩
 refine Ag p.length (λv=>v.1) (λj v=>v.2.1=Xg (λi=>(Io p (i:Int)).toNat) (λi=>(i:Int)) j (List.replicate p.length 0)) rfl rfl ?_
 rintro j ⟨i,ys,⟨⟩⟩ K hj hi h1 hK
 dsimp only at hi h1⊢
 subst hi
 have hlen:ys.length=p.length:=by rw [h1,Xh,List.length_replicate]
 refine Br.dec (λhl=>?_) λhl=>?_
 ·have hl:j<p.length:=by omega
  have hy:=hr _ (List.getElem_mem hl)
  refine ⟨_,Ap hl,⟨by omega,by omega⟩,by omega,rfl,by rw [List.length_set],?_⟩
  rw [Ah (by omega),Nat.zero_add]
  refine hK hl _ rfl ?_
  rw [Uj,<-h1,Hu hl]
 ·have:j=p.length:=by omega
  subst this
  rw [List.drop_zero,List.take_length]
  exact h1
theorem Sj:Sound Tryz.prog 76 Cn:=
 Sound.Cu Bj Ai mixed Tryz.func76 (by kernel_rfl) (by kernel_rfl) λx h=>IV x.1 h
theorem qV (p:List Int) (h:Fv p=true):fnW Ck (look [(75,Dz),(76,Cn)]) Ky Tryz.f55 (p,()) (λ(z:List Int)=>z=Af p):=by
 have hp:=aX h
 have hs:short p:=by have:=hp.len;unfold short;omega
 refine Eq.mp (rT p _) ⟨_,if_pos hs,⟨λhe=>?_,λ_=>⟨_,if_pos ⟨hp.len,hp.row⟩,rfl⟩⟩⟩
 exact absurd h (Cl he)
theorem jr:Sound Tryz.prog 55 Ky:=
 Sound.Cu Bj (Ae Mm (Ae Sj Ai)) mixed Tryz.func55 (by kernel_rfl) (by kernel_rfl) λx h=>qV x.1 h
theorem eK (j:Nat):upto (j+1)=upto j++ [(j:Int)]:=by simp [upto,List.range_succ]
theorem CE (n:Int) (h:0<=n/\n<=20):fnW Ck (look []) gN Tryz.f115 (n,()) (λ(z:List Int)=>z=upto n.toNat):=by
 refine Eq.mp (EE n _) ⟨rfl,rfl,?_⟩
 refine Ag n.toNat (λv=>v.1) (λj v=>v.2.1=upto j) rfl rfl ?_
 rintro j ⟨i,ys,⟨⟩⟩ K hj hi h1 hK
 dsimp only at hi h1⊢
 subst hi h1
 refine Br.dec (λhl=>?_) λhl=>?_
 ·refine ⟨rfl,rfl,?_,rfl,rfl,?_⟩
  ·show (upto j).length+1<=4294967296
   rw [jB];omega
  ·rw [Ah (by omega)]
   exact hK (by omega) _ rfl (eK j).symm
 ·have:j=n.toNat:=by omega
  subst this
  rw [List.drop_zero,List.take_length]
theorem px:Sound Tryz.prog 115 gN:=
 Sound.Cu Bj Ai mixed Tryz.func115 (by kernel_rfl) (by kernel_rfl) λx h=>CE x.1 h
theorem Qy {g:List (List Int)} {k:Nat} (h:k<g.length):Ao g ((k:Int)+1)=g[k]:=by
 unfold Ao
 rw [if_pos (by omega),show ((k:Int)+1-1).toNat=k by omega,List.getD_eq_getElem?_getD,List.getElem?_eq_getElem h];rfl
theorem Qx {g:List (List Int)} {k:Nat} (h:k<g.length):Ao g (-((k:Int)+1))=Af g[k]:=by
 unfold Ao
 rw [if_neg (by omega),show (-(-((k:Int)+1))-1).toNat=k by omega,List.getD_eq_getElem?_getD,List.getElem?_eq_getElem h];rfl
theorem Un {n:Nat} {l:Int} (h:Is n l): ∃k:Nat,k<n/\(l=(k:Int)+1\/l= -((k:Int)+1)):=by
 obtain ⟨h1,h2,h3⟩:=h
 by_cases h0:0<l
 ·exact ⟨(l-1).toNat,by omega, .inl (by omega)⟩
 ·exact ⟨(-l-1).toNat,by omega, .inr (by omega)⟩
theorem CG (g:List (List Int)) (l:Int) (h:Is (List.length g) l/\List.length g<=8/\ ∀p∈g,Fv p=true):fnW Ck (look [(56,Cn)]) Rk Tryz.f122 (g,l,()) (λ(z:List Int)=>z=Ao g l):=by
 obtain ⟨hl,h8,hp⟩:=h
 refine Eq.mp (EG g l _) ?_
 obtain ⟨k,hk,rfl|rfl⟩:=Un hl
 ·refine Br.dec (λ_=>?_) λhn=>by omega
  rw [Co (by omega) (by omega),show (k:Int)+1-1=(k:Int) by omega]
  exact ⟨_,Ap hk,(Qy hk).symm⟩
 ·refine Br.dec (λhn=>by omega) λ_=>?_
  rw [Co (n:=0- -((k:Int)+1)) (by omega) (by omega),Co (by omega) (by omega),show (0:Int)- -((k:Int)+1)-1=(k:Int) by omega]
  have:=aX (hp _ (List.getElem_mem hk))
  exact ⟨_,Ap hk,_,if_pos ⟨this.len,this.row⟩,(Qx hk).symm⟩
theorem pz:Sound Tryz.prog 122 Rk:=
 Sound.Cu Bj (Ae Pz Ai) mixed Tryz.func122 (by kernel_rfl) (by kernel_rfl) λx h=>CG x.1 x.2.1 h
theorem Wg (j:Nat):Cm (j+1)=Cm j++ [(j:Int)+1,-((j:Int)+1)]:=by simp [Cm,List.range_succ,List.flatMap_append]
theorem Sd (j:Nat):(Cm j).length=2*j:=by
 induction j with
 |zero=>rfl
 |succ j ih=>rw [Wg,List.length_append,ih];simp only [List.length_cons,List.length_nil];omega
theorem Xr {n:Nat} {l:Int} (h:l∈Cm n):Is n l:=by
 unfold Cm at h
 obtain ⟨k,hk,hl⟩:=List.mem_flatMap.1 h
 have hk:=List.mem_range.1 hk
 simp only [List.mem_cons,List.not_mem_nil,or_false] at hl
 unfold Is
 omega
theorem IP (n:Int) (h:0<=n/\n<=8):fnW Ck (look []) Vc Tryz.f106 (n,()) (λ(z:List Int)=>z=Cm n.toNat):=by
 refine Eq.mp (KN n _) ⟨rfl,rfl,?_⟩
 refine Ag n.toNat (λv=>v.1) (λj v=>v.2.1=Cm j) rfl rfl ?_
 rintro j ⟨i,ys,⟨⟩⟩ K hj hi h1 hK
 dsimp only at hi h1⊢
 subst hi h1
 refine Br.dec (λhl=>?_) λhl=>?_
 ·refine ⟨rfl,rfl,?_,rfl,rfl,?_⟩
  ·show (Cm j).length+2<=4294967296
   rw [Sd];omega
  ·have e1:IntKind.i64.wrap ((j:Int)+1)=(j:Int)+1:=Co (by omega) (by omega)
   have e2:IntKind.i64.wrap ((0:Int)-((j:Int)+1))= -((j:Int)+1):=by rw [Co (by omega) (by omega)];omega
   rw [e1,e2]
   exact hK (by omega) _ rfl (Wg j).symm
 ·have:j=n.toNat:=by omega
  subst this
  rw [List.drop_zero,List.take_length]
theorem rk:Sound Tryz.prog 106 Vc:=
 Sound.Cu Bj Ai mixed Tryz.func106 (by kernel_rfl) (by kernel_rfl) λx h=>IP x.1 h
structure Valid (p:PP):Prop where
 n:1<=p.1/\p.1<=20
 u5:1<=p.2.2.1.length/\p.2.2.1.length<=8
 perm: ∀m∈p.2.2.1,Fv m=true
 len: ∀m∈p.2.2.1,(m.length:Int)=p.1
theorem valid {p:PP} (h:Bw p=true):Valid p:=by
 have h0:=DY h
 obtain ⟨h1,_,_⟩:=Eh.1 h
 obtain ⟨_,_,h4⟩:=Eh.1 h1
 exact ⟨⟨h0.1,h0.2.1⟩,h0.2.2,λm hm=>(Eh.1 (h4 m hm)).2,λm hm=>(Eh.1 (h4 m hm)).1⟩
theorem km {p:PP} (h:Valid p) {l:Int} (hl:Is (List.length p.2.2.1) l):((Ao p.2.2.1 l).length:Int)=p.1/\Hw (Ao p.2.2.1 l).length (Ao p.2.2.1 l):=by
 obtain ⟨k,hk,rfl|rfl⟩:=Un hl
 ·rw [Qy hk]
  exact ⟨h.len _ (List.getElem_mem hk),(aX (h.perm _ (List.getElem_mem hk))).row⟩
 ·rw [Qx hk,iO]
  exact ⟨h.len _ (List.getElem_mem hk),TA (aX (h.perm _ (List.getElem_mem hk)))⟩
theorem wM (s y:List Int) (P:List Int->Prop) (h1:s.length<=20) (h2:Hw y.length s) (h3:P (Aa s y)):
  Bk
   (λ(v5:Int×List Int×PUnit) (k6:Int×List Int×PUnit->Prop)=>
    Br (decide (v5.1<(↑s.length:Int)))
     (∃(y7:Int),
      idx s v5.1=some y7/\
       ∃(y8:Int),
        idx y y7=some y8/\
         (0:Nat)=(0:Nat)/\
          v5.2.1.length=v5.2.1.length/\
           v5.2.1.length+(List.take (1:Nat) (List.drop (0:Nat) [y8])).length<=Bh/\
            (0:Nat)=(0:Nat)/\
             (v5.2.1++List.take (1:Nat) (List.drop (0:Nat) [y8])).length=(v5.2.1++List.take (1:Nat) (List.drop (0:Nat) [y8])).length/\
              k6 (IntKind.i64.wrap (v5.1+(1:Int)),v5.2.1++List.take (1:Nat) (List.drop (0:Nat) [y8]),()))
     (P (List.take v5.2.1.length (List.drop (0:Nat) v5.2.1))))
   ((0:Int),([]:List Int),PUnit.unit):=by
 refine Ag s.length (λv=>v.1) (λj v=>v.2.1=(s.take j).map (Io y)) rfl (by simp) ?_
 rintro j ⟨i,ys,⟨⟩⟩ K hj hi hR hK
 dsimp only at hi hR⊢
 subst hi hR
 refine Br.dec (λhl=>?_) λhl=>?_
 ·have hl:j<s.length:=by omega
  have hy:=h2 _ (List.getElem_mem hl)
  refine ⟨_,Ap hl,_,cX hy.1 hy.2,rfl,rfl,?_,rfl,rfl,?_⟩
  ·show ((s.take j).map (Io y)).length+1<=4294967296
   rw [List.length_map,List.length_take];omega
  ·rw [Ah (by omega)]
   refine hK hl _ rfl ?_
   dsimp only
   rw [List.take_succ_eq_append_getElem hl,List.map_append]
   rfl
 ·have:j=s.length:=by omega
  subst this
  rw [List.drop_zero,List.take_length,List.take_length]
  exact h3
theorem OL (p:PP) (s:List Int) (l:Int) (h:Bw p=true/\List.length s<=20/\(∀y∈s,0<=y/\y<p.1)/\Is (List.length p.2.2.1) l):fnW Ck (look [(55,Ky)]) a5 Tryz.f118 (p,s,l,()) (λ(z:List Int)=>z=Aa s (Ao p.2.2.1 l)):=by
 obtain ⟨hv,hs,hr,hl⟩:=h
 have hv:=valid hv
 have hf:=hv.u5
 refine Eq.mp (QL p s l _) ?_
 have HJ:=km hv hl
 have Gh:Hw (Ao p.2.2.1 l).length s:= λy hy=>by have:=hr y hy;omega
 obtain ⟨k,hk,rfl|rfl⟩:=Un hl
 ·rw [if_pos rfl,Co (n:=0-((k:Int)+1)) (by omega) (by omega),if_neg (by omega),Co (by omega) (by omega),show (k:Int)+1-1=(k:Int) by omega]
  refine ⟨_,Ap hk,Br.dec (λhn=>by omega) λ_=>⟨rfl,rfl,?_⟩⟩
  rw [Qy hk] at Gh⊢
  exact wM s _ (λz=>z=Aa s p.2.2.1[k]) hs Gh rfl
 ·rw [if_pos rfl,Co (n:=0- -((k:Int)+1)) (by omega) (by omega),if_pos (by omega),Co (by omega) (by omega),show (0:Int)- -((k:Int)+1)-1=(k:Int) by omega]
  refine ⟨_,Ap hk,Br.dec (λ_=>⟨_,if_pos (hv.perm _ (List.getElem_mem hk)),rfl,rfl,?_⟩) λhn=>by omega⟩
  rw [Qx hk] at Gh⊢
  exact wM s (Af p.2.2.1[k]) (λz=>z=Aa s (Af p.2.2.1[k])) hs Gh rfl
theorem vD:Sound Tryz.prog 118 a5:=
 Sound.Cu Bj (Ae jr Ai) mixed Tryz.func118 (by kernel_rfl) (by kernel_rfl) λx h=>OL x.1 x.2.1 x.2.2.1 h
end Go.Proofs.YtfolipnappekaaaGreat

namespace Go.Proofs.YtfolipnappekaaaGreat
open Go.RowKit
abbrev rL:CK:= .row tI 2
abbrev WW:CK:= .Ds tL 26
def Gr (k:Int) (n:Nat):List Int:=(List.range n).map λi=>k+(i:Nat)
def Fz:Int->List (List Int)->List (List Int)
 |_,[]=> []
 |k,r::rs=>Gr k r.length::Fz (k+r.length) rs
def Bu:List (List Int)->Nat
 | []=>0
 |r::rs=>r.length+Bu rs
def low (k:Int):Prop:=0<=k/\k<=1099511627776
noncomputable abbrev Si:MSpec:=Wx [none,none] [(true,rL),(false, .Dh tI)] false [none] [.Dh tI] (λx=>short x.1/\low x.2.1) (λx=>((x.2.1+List.length x.1,()),(Gr x.2.1 (List.length x.1),())))
noncomputable abbrev a7:MSpec:=Wx [none,none] [(true,WW),(false, .Dh tI)] false [none] [.Dh tI] (λx=>Dl x.1/\low x.2.1/\low (x.2.1+Bu x.1)) (λx=>((x.2.1+Bu x.1,()),(Fz x.2.1 x.1,())))
noncomputable abbrev Ml:MSpec:=Wx [some 3,none] [(false, .Dh tI),(false, .Dh .str),(true,WW),(false, .Dh tI)] false [none] [.Dh tI]
 (λx=>Dl x.2.2.1/\low x.2.2.2.1/\low (x.2.2.2.1+Bu x.2.2.1)) (λx=>((x.2.2.2.1+Bu x.2.2.1,()),(Fz x.2.2.2.1 x.2.2.1,())))
def iY (xs:List Int) (k:Int):Int:=if xs=Gr k xs.length then k+xs.length else-1
noncomputable abbrev bk:Spec:=Cu (.pair tL (.pair tI .unit)) tI false true (λx=>short x.1/\low x.2.1) (λx=>iY x.1 x.2.1)
noncomputable abbrev Mx:MSpec:=Wx [none] [(false, .Dh tL)] false [none] [rL] (λx=>short x.1) (λx=>((x.1,()),()))
noncomputable abbrev Uq:MSpec:=Wx [none] [(false, .Dh an)] false [none] [WW] (λx=>Dl x.1) (λx=>((x.1,()),()))
noncomputable abbrev Rr:MSpec:=Wx [some 3] [(false, .Dh tL),(false, .Dh an),(false, .Dh tL)] false [some 3] [rL,WW,rL] (λx=>Iz (x.1,x.2.1,x.2.2.1,())) (λx=>((x.1,x.2.1,x.2.2.1,()),()))
noncomputable abbrev Kd:MSpec:=Wx [some 3] [(false, .Dh tI),(false, .Dh .str),(false, .Dh an)] false [some 3] [.Dh tI, .Dh .str,WW] (λx=>Cb (x.1,x.2.1,x.2.2.1,())) (λx=>((x.1,x.2.1,x.2.2.1,()),()))
theorem UG (xs:List Int) (k:Int) (P:((Int×Unit)×List Int×Unit)->Prop):(0=0/\xs.length=xs.length/\Bk (λ(v3:Int×Int×List Int×PUnit) (k4:Int×Int×List Int×PUnit->Prop)=>Br (decide (v3.2.1<(↑v3.2.2.1.length:Int))) (((0:Int)<=v3.2.1/\v3.2.1<(↑v3.2.2.1.length:Int))/\0+v3.2.1.toNat<v3.2.2.1.length/\0=0/\v3.2.2.1.length=(v3.2.2.1.set (0+v3.2.1.toNat) v3.1).length/\k4 (IntKind.i64.wrap (v3.1+(1:Int)),IntKind.i64.wrap (v3.2.1+(1:Int)),v3.2.2.1.set (0+v3.2.1.toNat) v3.1,())) (P ((v3.1,()),v3.2.2.1,()))) (k,(0:Int),xs,PUnit.unit))=fnMW Oe (look []) Si Tryz.f31 (xs,k,()) P:=by kernel_rfl
theorem QP (xs:List (List Int)) (k:Int) (P:((Int×Unit)×List (List Int)×Unit)->Prop):(0=0/\xs.length=xs.length/\Bk (λ(v3:Int×Int×List (List Int)×PUnit) (k4:Int×Int×List (List Int)×PUnit->Prop)=>Br (decide (v3.2.1<(↑v3.2.2.1.length:Int))) (((0:Int)<=v3.2.1/\v3.2.1<(↑v3.2.2.1.length:Int))/\ ∃(y5:List Int),v3.2.2.1[0+v3.2.1.toNat]?=some y5/\ ∃(y6:List Int),v3.2.2.1[0+v3.2.1.toNat]?=some y6/\ ∃(y7:(Int×PUnit)×List Int×PUnit),Si.fn (y6,v3.1,())=some y7/\ ∃(y8:List Int),v3.2.2.1[0+v3.2.1.toNat]?=some y8/\y7.2.1.length=y8.length/\0=0/\v3.2.2.1.length=(v3.2.2.1.set (0+v3.2.1.toNat) y7.2.1).length/\k4 (y7.1.1,IntKind.i64.wrap (v3.2.1+(1:Int)),v3.2.2.1.set (0+v3.2.1.toNat) y7.2.1,())) (P ((v3.1,()),v3.2.2.1,()))) (k,(0:Int),xs,PUnit.unit))=fnMW Oe (look [(31,Si)]) a7 Tryz.f60 (xs,k,()) P:=by kernel_rfl
theorem wg (n:Int) (s:ByteArray) (b:List (List Int)) (k:Int) (P:((Int×Unit)×List (List Int)×Unit)->Prop):(0=0/\b.length=b.length/\ ∃(y5:(Int×PUnit)×List (List Int)×PUnit),a7.fn (b,k,())=some y5/\(y5.2.1.length=b.length/\b.length=b.length)/\P ((y5.1.1,()),y5.2.1,()))=fnMW Oe (look [(60,a7)]) Ml Tryz.f29 (n,s,b,k,()) P:=by kernel_rfl
theorem UF (xs:List Int) (k:Int) (P:Int->Prop):(Bk (λ(v3:Int×Int×PUnit) (k4:Int×Int×PUnit->Prop)=>Br (decide (v3.2.1<(↑xs.length:Int))) (∃(y5:Int),idx xs v3.2.1=some y5/\Br (y5 !=v3.1) (P (-1:Int)) (k4 (IntKind.i64.wrap (v3.1+(1:Int)),IntKind.i64.wrap (v3.2.1+(1:Int)),()))) (P v3.1)) (k,(0:Int),PUnit.unit))=fnW Ck (look []) bk Tryz.f32 (xs,k,()) P:=by kernel_rfl
theorem Ab1 (xs:List Int) (P:((List Int×Unit)×Unit)->Prop):(((0:Int)<=(↑xs.length:Int)/\(↑xs.length:Int)<(↑Bh:Int)+(1:Int))/\(↑xs.length:Int)=(↑xs.length:Int)/\0=0/\(List.replicate (↑xs.length:Int).toNat (Int.ofNat (nat_lit 0))).length=(List.replicate (↑xs.length:Int).toNat (Int.ofNat (nat_lit 0))).length/\Bk (λ(v2:Int×List Int×PUnit) (k3:Int×List Int×PUnit->Prop)=>Br (decide (v2.1<(↑xs.length:Int))) (∃(y4:Int),idx xs v2.1=some y4/\((0:Int)<=v2.1/\v2.1<(↑v2.2.1.length:Int))/\0+v2.1.toNat<v2.2.1.length/\0=0/\v2.2.1.length=(v2.2.1.set (0+v2.1.toNat) y4).length/\k3 (IntKind.i64.wrap (v2.1+(1:Int)),v2.2.1.set (0+v2.1.toNat) y4,())) (P ((List.take v2.2.1.length (List.drop 0 v2.2.1),()),()))) ((0:Int),List.replicate (↑xs.length:Int).toNat (Int.ofNat (nat_lit 0)),PUnit.unit))=fnMW Oe (look []) Mx Tryz.f18 (xs,()) P:=by kernel_rfl
theorem UJ (xs:List (List Int)) (P:((List (List Int)×Unit)×Unit)->Prop):(((0:Int)<=(↑xs.length:Int)/\(↑xs.length:Int)<(↑Bh:Int)+(1:Int))/\(↑xs.length:Int)=(↑xs.length:Int)/\0=0/\(List.replicate (↑xs.length:Int).toNat ([]:List Int)).length=(List.replicate (↑xs.length:Int).toNat ([]:List Int)).length/\Bk (λ(v2:Int×List (List Int)×PUnit) (k3:Int×List (List Int)×PUnit->Prop)=>Br (decide (v2.1<(↑xs.length:Int))) (∃(y4:List Int),idx xs v2.1=some y4/\ ∃(y5:(List Int×PUnit)×PUnit),Mx.fn (y4,())=some y5/\((0:Int)<=v2.1/\v2.1<(↑v2.2.1.length:Int))/\0+v2.1.toNat<v2.2.1.length/\0=0/\v2.2.1.length=(v2.2.1.set (0+v2.1.toNat) (List.take y5.1.1.length (List.drop 0 y5.1.1))).length/\k3 (IntKind.i64.wrap (v2.1+(1:Int)),v2.2.1.set (0+v2.1.toNat) (List.take y5.1.1.length (List.drop 0 y5.1.1)),())) (P ((List.take v2.2.1.length (List.drop 0 v2.2.1),()),()))) ((0:Int),List.replicate (↑xs.length:Int).toNat ([]:List Int),PUnit.unit))=fnMW Oe (look [(18,Mx)]) Uq Tryz.f49 (xs,()) P:=by kernel_rfl
theorem EM (a:List Int) (b:List (List Int)) (c:List Int) (P:((List Int×List (List Int)×List Int×Unit)×Unit)->Prop):(∃(y4:(List Int×PUnit)×PUnit),Mx.fn (a,())=some y4/\ ∃(y5:(List (List Int)×PUnit)×PUnit),Uq.fn (b,())=some y5/\ ∃(y6:(List Int×PUnit)×PUnit),Mx.fn (c,())=some y6/\P ((List.take y4.1.1.length (List.drop 0 y4.1.1),List.take y5.1.1.length (List.drop 0 y5.1.1),List.take y6.1.1.length (List.drop 0 y6.1.1),()),()))=fnMW Oe (look [(18,Mx),(49,Uq)]) Rr Tryz.f50 (a,b,c,()) P:=by kernel_rfl
theorem zt (n:Int) (s:ByteArray) (b:List (List Int)) (P:((Int×ByteArray×List (List Int)×Unit)×Unit)->Prop):(∃(y4:(List (List Int)×PUnit)×PUnit),Uq.fn (b,())=some y4/\P ((n,s,List.take y4.1.1.length (List.drop 0 y4.1.1),()),()))=fnMW Oe (look [(49,Uq)]) Kd Tryz.f16 (n,s,b,()) P:=by kernel_rfl
theorem Ay {α:Type} (xs:List α):List.take xs.length (List.drop 0 xs)=xs:=by rw [List.drop_zero,List.take_length]
theorem Ol (k:Int) (n:Nat):(Gr k n).length=n:=by simp [Gr]
theorem iZ (k:Int) (n:Nat):Gr k (n+1)=Gr k n++ [k+(n:Nat)]:=by simp [Gr,List.range_succ]
theorem df (a b:List (List Int)):Bu (a++b)=Bu a+Bu b:=by
 induction a with
 |nil=>simp [Bu]
 |cons r a ih=>simp only [List.cons_append,Bu,ih];omega
theorem Zu: ∀(a b:List (List Int)) (k:Int),Fz k (a++b)=Fz k a++Fz (k+Bu a) b
 | [],b,k=>by simp [Fz,Bu]
 |r::a,b,k=>by
  simp only [List.cons_append,Fz,Bu,Zu a b]
  congr 3
  omega
theorem Yq: ∀(xs:List (List Int)) (k:Int),(Fz k xs).length=xs.length
 | [],_=>rfl
 |r::xs,k=>by simp [Fz,Yq xs]
theorem uH {xs:List (List Int)} {j:Nat} (h:j<xs.length):Bu (xs.drop j)=xs[j].length+Bu (xs.drop (j+1)):=by
 rw [List.drop_eq_getElem_cons h];rfl
theorem uI {xs:List (List Int)} {j:Nat} (h:j<xs.length):Bu (xs.take (j+1))=Bu (xs.take j)+xs[j].length:=by
 rw [List.take_succ_eq_append_getElem h,df];simp [Bu]
theorem qH (xs:List (List Int)) (j:Nat):Bu (xs.take j)+Bu (xs.drop j)=Bu xs:=by
 rw [<-df,List.take_append_drop]
theorem TJ (xs:List Int) (k:Int) (h:short xs/\low k):fnMW Oe (look []) Si Tryz.f31 (xs,k,()) (λ(z:(Int×Unit)×List Int×Unit)=>z=((k+xs.length,()),(Gr k xs.length,()))):=by
 obtain ⟨h1,h2,h3⟩:=h
 unfold short at h1
 refine Eq.mp (UG xs k _) ⟨rfl,rfl,?_⟩
 refine Ag xs.length (λv=>v.2.1) (λj v=>v.1=k+(j:Nat)/\v.2.2.1.length=xs.length/\v.2.2.1.take j=Gr k j) rfl ⟨by simp,rfl,by simp [Gr]⟩ ?_
 rintro j ⟨k',i,ys,⟨⟩⟩ K hj hi ⟨g1,g2,g3⟩ hK
 dsimp only at hi g1 g2 g3⊢
 subst hi;subst g1
 refine Br.dec (λhl=>?_) λhl=>?_
 ·have hl:j<ys.length:=by omega
  refine ⟨⟨by omega,by omega⟩,by rw [Int.toNat_natCast];omega,rfl,by rw [List.length_set],?_⟩
  rw [Ah (by omega),Int.toNat_natCast,Nat.zero_add,Co (by omega) (by omega)]
  refine hK (by omega) _ rfl ⟨by dsimp only;omega,by rw [List.length_set];exact g2,?_⟩
  rw [List.take_succ_eq_append_getElem (by rw [List.length_set];exact hl),List.take_set_of_le (Nat.le_refl j),g3,List.getElem_set_self,iZ]
 ·have mg:j=xs.length:=by omega
  subst mg
  rw [<-g2,List.take_length,g2] at g3
  rw [g3]
theorem dH:Au Tryz.prog 31 Si:=
 Au.Wx Nc Ai mixed Tryz.func31 (by kernel_rfl) (by kernel_rfl) λx h=>TJ x.1 x.2.1 h
theorem OP (xs:List (List Int)) (k:Int) (h:Dl xs/\low k/\low (k+Bu xs)):fnMW Oe (look [(31,Si)]) a7 Tryz.f60 (xs,k,()) (λ(z:(Int×Unit)×List (List Int)×Unit)=>z=((k+Bu xs,()),(Fz k xs,()))):=by
 obtain ⟨⟨h1,h4⟩,⟨h2,h3⟩,h5,h6⟩:=h
 refine Eq.mp (QP xs k _) ⟨rfl,rfl,?_⟩
 refine Ag xs.length (λv=>v.2.1) (λj v=>v.1=k+(Bu (xs.take j):Nat)/\v.2.2.1.length=xs.length/\v.2.2.1.take j=Fz k (xs.take j)/\v.2.2.1.drop j=xs.drop j) rfl ⟨by simp [Bu],rfl,by simp [Fz],rfl⟩ ?_
 rintro j ⟨k',i,ys,⟨⟩⟩ K hj hi ⟨g1,g2,g3,g4⟩ hK
 dsimp only at hi g1 g2 g3 g4⊢
 subst hi;subst g1
 refine Br.dec (λhl=>?_) λhl=>?_
 ·have hl:j<ys.length:=by omega
  have hlx:j<xs.length:=by omega
  have hy:ys[j]?=some xs[j]:=by
   have:(ys.drop j)[0]?=(xs.drop j)[0]?:=by rw [g4]
   simpa [List.getElem?_drop,List.getElem?_eq_getElem hlx] using this
  have LG:=qH xs j
  have htk:=uI hlx
  have hdr:=uH hlx
  refine ⟨⟨by omega,by omega⟩,?_⟩
  simp only [Int.toNat_natCast,Nat.zero_add]
  have Ai1:low (k+(Bu (xs.take j):Nat)):=⟨by omega,by omega⟩
  refine ⟨_,hy,_,hy,_,if_pos ⟨h4 _ (List.getElem_mem hlx),Ai1⟩,_,hy,Ol _ _,trivial,by rw [List.length_set],?_⟩
  rw [Ah (by omega)]
  refine hK hlx _ rfl ⟨by dsimp only;omega,by rw [List.length_set];exact g2,?_,?_⟩
  ·rw [List.take_succ_eq_append_getElem (by rw [List.length_set];exact hl),List.take_set_of_le (Nat.le_refl j),g3,List.getElem_set_self,List.take_succ_eq_append_getElem hlx,Zu]
   rfl
  ·dsimp only
   rw [List.drop_set_of_lt (by omega)]
   have e1:ys.drop (j+1)=(ys.drop j).drop 1:=by rw [List.drop_drop]
   rw [e1,g4,List.drop_drop]
 ·have mg:j=xs.length:=by omega
  subst mg
  rw [<-g2,List.take_length,g2,List.take_length] at g3
  rw [g3,List.take_length]
theorem jq:Au Tryz.prog 60 a7:=
 Au.Wx Nc (Cr dH Ai) mixed Tryz.func60 (by kernel_rfl) (by kernel_rfl) λx h=>OP x.1 x.2.1 h
theorem uS (n:Int) (s:ByteArray) (b:List (List Int)) (k:Int) (h:Dl b/\low k/\low (k+Bu b)):fnMW Oe (look [(60,a7)]) Ml Tryz.f29 (n,s,b,k,()) (λ(z:(Int×Unit)×List (List Int)×Unit)=>z=((k+Bu b,()),(Fz k b,()))):=by
 exact Eq.mp (wg n s b k _) ⟨rfl,rfl,_,if_pos h,⟨Yq _ _,rfl⟩,rfl⟩
theorem kW:Au Tryz.prog 29 Ml:=
 Au.Wx Nc (Cr jq Ai) mixed Tryz.func29 (by kernel_rfl) (by kernel_rfl) λx h=>uS x.1 x.2.1 x.2.2.1 x.2.2.2.1 h
theorem TI (xs:List Int) (k:Int) (h:short xs/\low k):fnW Ck (look []) bk Tryz.f32 (xs,k,()) (λ(z:Int)=>z=iY xs k):=by
 obtain ⟨h1,h2,h3⟩:=h
 unfold short at h1
 refine Eq.mp (UF xs k _) ?_
 refine Ag xs.length (λv=>v.2.1) (λj v=>v.1=k+(j:Nat)/\xs.take j=Gr k j) rfl ⟨by simp,by simp [Gr]⟩ ?_
 rintro j ⟨k',i,⟨⟩⟩ K hj hi ⟨g1,g3⟩ hK
 dsimp only at hi g1 g3⊢
 subst hi;subst g1
 refine Br.dec (λhl=>?_) λhl=>?_
 ·have hl:j<xs.length:=by omega
  refine ⟨_,Ap hl,λFa=>?_,λhe=>?_⟩
  ·simp only [bne_iff_ne,ne_eq] at Fa
   unfold iY
   rw [if_neg]
   intro he
   refine Fa ?_
   have e1:xs[j]?=(Gr k xs.length)[j]?:=by rw [<-he]
   rw [List.getElem?_eq_getElem hl] at e1
   simpa [Gr,hl] using e1
  ·simp only [bne_eq_false_iff_eq] at he
   rw [Ah (by omega),Co (by omega) (by omega)]
   refine hK hl _ rfl ⟨by dsimp only;omega,?_⟩
   rw [List.take_succ_eq_append_getElem hl,g3,he,iZ]
 ·have mg:j=xs.length:=by omega
  subst mg
  rw [List.take_length] at g3
  exact (if_pos g3).symm
theorem yR:Sound Tryz.prog 32 bk:=
 Sound.Cu Bj Ai mixed Tryz.func32 (by kernel_rfl) (by kernel_rfl) λx h=>TI x.1 x.2.1 h
theorem fC (k:Int) (n:Nat):iY (Gr k n) k=k+n:=by unfold iY;rw [Ol,if_pos rfl]
theorem Aac (xs:List Int) (h:short xs):fnMW Oe (look []) Mx Tryz.f18 (xs,()) (λ(z:(List Int×Unit)×Unit)=>z=((xs,()),())):=by
 unfold short at h
 refine Eq.mp (Ab1 xs _) ?_
 refine ⟨⟨by omega,by show (xs.length:Int)<(4294967296:Int)+1;omega⟩,rfl,rfl,rfl,?_⟩
 refine Ag xs.length (λv=>v.1) (λj v=>v.2.1.length=xs.length/\v.2.1.take j=xs.take j) rfl ⟨by simp,by simp⟩ ?_
 rintro j ⟨i,ys,⟨⟩⟩ K hj hi ⟨h1,h2⟩ hK
 dsimp only at hi h1 h2⊢
 subst hi
 refine Br.dec (λhl=>?_) λhl=>?_
 ·have hl:j<xs.length:=by omega
  refine ⟨_,Ap hl,⟨by omega,by omega⟩,by rw [Int.toNat_natCast];omega,rfl,by rw [List.length_set],?_⟩
  rw [Ah (by omega),Int.toNat_natCast,Nat.zero_add]
  exact hK hl _ rfl ⟨by rw [List.length_set];exact h1,Gd hl h1 h2⟩
 ·have:j=xs.length:=by omega
  subst this
  rw [List.take_length,<-h1,List.take_length] at h2
  rw [Ay,h2]
theorem gT:Au Tryz.prog 18 Mx:=
 Au.Wx Nc Ai mixed Tryz.func18 (by kernel_rfl) (by kernel_rfl) λx h=>Aac x.1 h
theorem TM (xs:List (List Int)) (h:Dl xs):fnMW Oe (look [(18,Mx)]) Uq Tryz.f49 (xs,()) (λ(z:(List (List Int)×Unit)×Unit)=>z=((xs,()),())):=by
 obtain ⟨h,h4⟩:=h
 refine Eq.mp (UJ xs _) ?_
 refine ⟨⟨by omega,by show (xs.length:Int)<(4294967296:Int)+1;omega⟩,rfl,rfl,rfl,?_⟩
 refine Ag xs.length (λv=>v.1) (λj v=>v.2.1.length=xs.length/\v.2.1.take j=xs.take j) rfl ⟨by simp,by simp⟩ ?_
 rintro j ⟨i,ys,⟨⟩⟩ K hj hi ⟨h1,h2⟩ hK
 dsimp only at hi h1 h2⊢
 subst hi
 refine Br.dec (λhl=>?_) λhl=>?_
 ·have hl:j<xs.length:=by omega
  refine ⟨_,Ap hl,_,if_pos (h4 _ (List.getElem_mem hl)),⟨by omega,by omega⟩,by rw [Int.toNat_natCast];omega,rfl,by rw [List.length_set],?_⟩
  rw [Ah (by omega),Int.toNat_natCast,Nat.zero_add]
  dsimp only
  rw [Ay]
  exact hK hl _ rfl ⟨by rw [List.length_set];exact h1,Gd hl h1 h2⟩
 ·have:j=xs.length:=by omega
  subst this
  rw [List.take_length,<-h1,List.take_length] at h2
  rw [Ay,h2]
theorem lR:Au Tryz.prog 49 Uq:=
 Au.Wx Nc (Cr gT Ai) mixed Tryz.func49 (by kernel_rfl) (by kernel_rfl) λx h=>TM x.1 h
theorem CN (a:List Int) (b:List (List Int)) (c:List Int) (h:Iz (a,b,c,())):fnMW Oe (look [(18,Mx),(49,Uq)]) Rr Tryz.f50 (a,b,c,()) (λ(z:(List Int×List (List Int)×List Int×Unit)×Unit)=>z=((a,b,c,()),())):=by
 refine Eq.mp (EM a b c _) ⟨_,if_pos h.1,_,if_pos h.2.1,_,if_pos h.2.2,?_⟩
 simp only [Ay]
theorem pI:Au Tryz.prog 50 Rr:=
 Au.Wx Nc (Cr gT (Cr lR Ai)) mixed Tryz.func50 (by kernel_rfl) (by kernel_rfl) λx h=>CN x.1 x.2.1 x.2.2.1 h
theorem yD (n:Int) (s:ByteArray) (b:List (List Int)) (h:Cb (n,s,b,())):fnMW Oe (look [(49,Uq)]) Kd Tryz.f16 (n,s,b,()) (λ(z:(Int×ByteArray×List (List Int)×Unit)×Unit)=>z=((n,s,b,()),())):=by
 refine Eq.mp (zt n s b _) ⟨_,if_pos h.2,?_⟩
 simp only [Ay]
theorem mK:Au Tryz.prog 16 Kd:=
 Au.Wx Nc (Cr lR Ai) mixed Tryz.func16 (by kernel_rfl) (by kernel_rfl) λx h=>yD x.1 x.2.1 x.2.2.1 h
end Go.Proofs.YtfolipnappekaaaGreat

namespace Go.Proofs.YtfolipnappekaaaGreat
open Go.RowKit
theorem Mi (a:List Int):Av a a=true:=by simp [Av]
theorem vS {n:Nat} {room:Int} (h: ¬kq n room<0):kq n room=room-n/\(n:Int)<=room:=by
 unfold kq at*
 split at h
 ·exact absurd (show (-1:Int)<0 by decide) h
 ·rename_i h1;rw [if_neg h1];exact ⟨rfl,by omega⟩
theorem yY: ∀(xs:List (List Int)) (room:Int),0<=room-> ¬pP xs room<0->pP xs room=room-Bu xs
 | [],room,_,_=>by simp [pP,Bu]
 |r::xs,room,h0,h=>by
  simp only [pP,Bu] at h⊢
  split at h
  ·exact absurd (show (-1:Int)<0 by decide) h
  ·rename_i h1
   rw [if_neg h1]
   have e1:=vS (n:=r.length) h1
   have e1:Pp r room=room-r.length/\(r.length:Int)<=room:=e1
   rw [yY xs _ (by rw [e1.1];omega) h,e1.1]
   omega
theorem yZ {xs:List (List Int)} {room:Int} (h: ¬Lb xs room<0):Lb xs room=room-xs.length-Bu xs:=by
 unfold Lb at*
 split at h
 ·exact absurd (show (-1:Int)<0 by decide) h
 ·rename_i h1
  rw [if_neg h1]
  have e1:=vS h1
  rw [yY xs _ (by rw [e1.1];omega) h,e1.1]
theorem zy (k:Int) (n:Nat):List.take n (List.drop 0 (Gr k n))=Gr k n:=by rw [List.drop_zero,List.take_of_length_le (by rw [Ol];exact Nat.le_refl _)]
theorem mZ:low 1:=⟨by decide,by decide⟩
end Go.Proofs.YtfolipnappekaaaGreat

namespace Go.Proofs.YtfolipnappekaaaGreat
open Go.RowKit
noncomputable abbrev pa:MSpec:=Wx [none] [(false, .Dh (.oslice tI))] false [none] [rL] (λx=>short (x.1.getD [])) (λx=>((x.1.getD [],()),()))
noncomputable abbrev Wm:MSpec:=Wx [none] [(false, .Dh tL)] false [none] [rL] (λx=>short x.1) (λx=>((x.1,()),()))
noncomputable abbrev Fh:Spec:=Cu (.pair tL .unit) tL false true (λx=>short x.1) (λx=>x.1)
theorem QM (xs:Option (List Int)) (P:((List Int×Unit)×Unit)->Prop):(Br xs.isNone (P ((List.take 0 (List.drop 0 []),()),())) (0=0/\0=([]:List Int).length/\0+(xs.getD []).length<=Bh/\P ((List.take ([]++xs.getD []).length (List.drop 0 ([]++xs.getD [])),()),())))=fnMW Oe (look []) pa Tryz.f138 (xs,()) P:=by kernel_rfl
theorem EC (xs:List Int) (P:List Int->Prop):(0=0/\0=([]:List Int).length/\0+xs.length<=Bh/\P (List.take ([]++xs).length (List.drop 0 ([]++xs))))=fnW Ck (look []) Fh Tryz.f116 (xs,()) P:=by kernel_rfl
theorem OM (xs:Option (List Int)) (h:short (xs.getD [])):fnMW Oe (look []) pa Tryz.f138 (xs,()) (λ(z:(List Int×Unit)×Unit)=>z=((xs.getD [],()),())):=by
 unfold short at h
 refine Eq.mp (QM xs _) ⟨λhn=>?_,λ_=>⟨rfl,rfl,by show 0+(xs.getD []).length<=4294967296;omega,?_⟩⟩
 ·cases xs with
  |none=>rfl
  |some y=>cases hn
 ·simp only [Ay,List.nil_append]
theorem vE:Au Tryz.prog 138 pa:=
 Au.Wx Nc Ai mixed Tryz.func138 (by kernel_rfl) (by kernel_rfl) λx h=>OM x.1 h
theorem jk:Au Tryz.prog 138 Wm:=Au.ofO vE λ_ _ h=>⟨h,rfl⟩
theorem CC (xs:List Int) (h:short xs):fnW Ck (look []) Fh Tryz.f116 (xs,()) (λ(z:List Int)=>z=xs):=by
 unfold short at h
 refine Eq.mp (EC xs _) ⟨rfl,rfl,by show 0+xs.length<=4294967296;omega,?_⟩
 simp only [Ay,List.nil_append]
theorem Py:Sound Tryz.prog 116 Fh:=
 Sound.Cu Bj Ai mixed Tryz.func116 (by kernel_rfl) (by kernel_rfl) λx h=>CC x.1 h
end Go.Proofs.YtfolipnappekaaaGreat

namespace Go.Proofs.YtfolipnappekaaaGreat
open Go.RowKit
def By (xs is:List Int):List Int:=is.map (Io xs)
noncomputable abbrev Vd:MSpec:=Wx [none,none] [(false, .Dh tL),(false, .Dh tL)] false [none] [rL] (λx=>short x.2.1/\Hw (List.length x.1) x.2.1) (λx=>((By x.1 x.2.1,()),()))
noncomputable abbrev Vf:Spec:=Cu (.pair tL (.pair tL .unit)) tL false true (λx=>short x.1/\Hw (List.length x.2.1) x.1) (λx=>By x.2.1 x.1)
def Qh (xs:List Int):ByteArray:=bytesOf (xs.map λx=>IntKind.u8.wrap x)
noncomputable abbrev Gb:Spec:=Cu (.pair tL .unit) .str false true (λx=>short x.1) (λx=>Qh x.1)
def j9 (ps:List (List Int)) (p:List Int):Int:=Dy (λq=>decide (q=p)) ps 0
theorem KP (xs is:List Int) (P:((List Int×Unit)×Unit)->Prop):(((0:Int)<=(↑is.length:Int)/\(↑is.length:Int)<(↑Bh:Int)+(1:Int))/\(↑is.length:Int)=(↑is.length:Int)/\0=0/\(List.replicate (↑is.length:Int).toNat (Int.ofNat (nat_lit 0))).length=(List.replicate (↑is.length:Int).toNat (Int.ofNat (nat_lit 0))).length/\Bk (λ(v3:Int×List Int×PUnit) (k4:Int×List Int×PUnit->Prop)=>Br (decide (v3.1<(↑is.length:Int))) (∃(y5:Int),idx is v3.1=some y5/\ ∃(y6:Int),idx xs y5=some y6/\((0:Int)<=v3.1/\v3.1<(↑v3.2.1.length:Int))/\0+v3.1.toNat<v3.2.1.length/\0=0/\v3.2.1.length=(v3.2.1.set (0+v3.1.toNat) y6).length/\k4 (IntKind.i64.wrap (v3.1+(1:Int)),v3.2.1.set (0+v3.1.toNat) y6,())) (P ((List.take v3.2.1.length (List.drop 0 v3.2.1),()),()))) ((0:Int),List.replicate (↑is.length:Int).toNat (Int.ofNat (nat_lit 0)),PUnit.unit))=fnMW Oe (look []) Vd Tryz.f80 (xs,is,()) P:=by kernel_rfl
theorem KR (is xs:List Int) (P:List Int->Prop):(0=0/\0=([]:List Int).length/\Bk (λ(v3:Int×List Int×PUnit) (k4:Int×List Int×PUnit->Prop)=>Br (decide (v3.1<(↑is.length:Int))) (∃(y5:Int),idx is v3.1=some y5/\ ∃(y6:Int),idx xs y5=some y6/\0=0/\v3.2.1.length=v3.2.1.length/\v3.2.1.length+(List.take 1 (List.drop 0 [y6])).length<=Bh/\0=0/\(v3.2.1++List.take 1 (List.drop 0 [y6])).length=(v3.2.1++List.take 1 (List.drop 0 [y6])).length/\k4 (IntKind.i64.wrap (v3.1+(1:Int)),v3.2.1++List.take 1 (List.drop 0 [y6]),())) (P (List.take v3.2.1.length (List.drop 0 v3.2.1)))) ((0:Int),[],PUnit.unit))=fnW Ck (look []) Vf Tryz.f78 (is,xs,()) P:=by kernel_rfl
theorem EK (xs:List Int) (P:ByteArray->Prop):(((0:Int)<=(↑xs.length:Int)/\(↑xs.length:Int)<(↑Bh:Int)+(1:Int))/\(↑xs.length:Int)=(↑xs.length:Int)/\0=0/\(List.replicate (↑xs.length:Int).toNat (Int.ofNat (nat_lit 0))).length=(List.replicate (↑xs.length:Int).toNat (Int.ofNat (nat_lit 0))).length/\Bk (λ(v2:Int×List Int×PUnit) (k3:Int×List Int×PUnit->Prop)=>Br (decide (v2.1<(↑xs.length:Int))) (∃(y4:Int),idx xs v2.1=some y4/\((0:Int)<=v2.1/\v2.1<(↑v2.2.1.length:Int))/\0+v2.1.toNat<v2.2.1.length/\0=0/\v2.2.1.length=(v2.2.1.set (0+v2.1.toNat) (IntKind.u8.wrap y4)).length/\k3 (IntKind.i64.wrap (v2.1+(1:Int)),v2.2.1.set (0+v2.1.toNat) (IntKind.u8.wrap y4),())) (P (bytesOf (List.take v2.2.1.length (List.drop 0 v2.2.1))))) ((0:Int),List.replicate (↑xs.length:Int).toNat (Int.ofNat (nat_lit 0)),PUnit.unit))=fnW Ck (look []) Gb Tryz.f79 (xs,()) P:=by kernel_rfl
theorem oR (xs is:List Int):(By xs is).length=is.length:=by simp [By]
theorem TF {α:Type} (y:α):List.take 1 (List.drop 0 [y])= [y]:=rfl
theorem IS (xs is:List Int) (h:short is/\Hw xs.length is):fnMW Oe (look []) Vd Tryz.f80 (xs,is,()) (λ(z:(List Int×Unit)×Unit)=>z=((By xs is,()),())):=by
 obtain ⟨h,hr⟩:=h
 unfold short at h
 refine Eq.mp (KP xs is _) ?_
 refine ⟨⟨by omega,by show (is.length:Int)<(4294967296:Int)+1;omega⟩,rfl,rfl,rfl,?_⟩
 have Mg:=oR xs is
 refine Ag is.length (λv=>v.1) (λj v=>v.2.1.length=(By xs is).length/\v.2.1.take j=(By xs is).take j) rfl ⟨by rw [Mg];simp,by simp⟩ ?_
 rintro j ⟨i,ys,⟨⟩⟩ K hj hi ⟨h1,h2⟩ hK
 dsimp only at hi h1 h2⊢
 subst hi
 refine Br.dec (λhl=>?_) λhl=>?_
 ·have hl:j<is.length:=by omega
  have hy:=hr _ (List.getElem_mem hl)
  refine ⟨_,Ap hl,_,cX hy.1 hy.2,⟨by omega,by omega⟩,by rw [Int.toNat_natCast];omega,rfl,by rw [List.length_set],?_⟩
  rw [Ah (by omega),Int.toNat_natCast,Nat.zero_add]
  have Ge:j<(By xs is).length:=by rw [Mg];exact hl
  have e:Io xs is[j]=(By xs is)[j]:=by simp [By]
  rw [e]
  exact hK hl _ rfl ⟨by rw [List.length_set];exact h1,Gd Ge h1 h2⟩
 ·have:j=is.length:=by omega
  subst this
  rw [<-Mg,List.take_length,<-h1,List.take_length] at h2
  rw [List.drop_zero,List.take_length,h2]
theorem rn:Au Tryz.prog 80 Vd:=
 Au.Wx Nc Ai mixed Tryz.func80 (by kernel_rfl) (by kernel_rfl) λx h=>IS x.1 x.2.1 h
theorem IU (is xs:List Int) (h:short is/\Hw xs.length is):fnW Ck (look []) Vf Tryz.f78 (is,xs,()) (λ(z:List Int)=>z=By xs is):=by
 obtain ⟨h,hr⟩:=h
 unfold short at h
 refine Eq.mp (KR is xs _) ⟨rfl,rfl,?_⟩
 have Mg:=oR xs is
 refine Ag is.length (λv=>v.1) (λj v=>v.2.1=(By xs is).take j) rfl rfl ?_
 rintro j ⟨i,ys,⟨⟩⟩ K hj hi h1 hK
 dsimp only at hi h1⊢
 subst hi
 refine Br.dec (λhl=>?_) λhl=>?_
 ·have hl:j<is.length:=by omega
  have hy:=hr _ (List.getElem_mem hl)
  have Ge:j<(By xs is).length:=by rw [Mg];exact hl
  refine ⟨_,Ap hl,_,cX hy.1 hy.2,rfl,rfl,?_,rfl,rfl,?_⟩
  ·show ys.length+1<=4294967296
   rw [h1,List.length_take];omega
  ·rw [Ah (by omega),TF]
   refine hK hl _ rfl ?_
   dsimp only
   rw [h1,List.take_succ_eq_append_getElem Ge]
   simp [By]
 ·have:j=is.length:=by omega
  subst this
  rw [Ay,h1,<-Mg,List.take_length]
theorem ru:Sound Tryz.prog 78 Vf:=
 Sound.Cu Bj Ai mixed Tryz.func78 (by kernel_rfl) (by kernel_rfl) λx h=>IU x.1 x.2.1 h
theorem CL (xs:List Int) (h:short xs):fnW Ck (look []) Gb Tryz.f79 (xs,()) (λ(z:ByteArray)=>z=Qh xs):=by
 unfold short at h
 refine Eq.mp (EK xs _) ?_
 refine ⟨⟨by omega,by show (xs.length:Int)<(4294967296:Int)+1;omega⟩,rfl,rfl,rfl,?_⟩
 have Mg:(xs.map λx=>IntKind.u8.wrap x).length=xs.length:=by simp
 refine Ag xs.length (λv=>v.1) (λj v=>v.2.1.length=(xs.map λx=>IntKind.u8.wrap x).length/\v.2.1.take j=(xs.map λx=>IntKind.u8.wrap x).take j) rfl ⟨by rw [Mg];simp,by simp⟩ ?_
 rintro j ⟨i,ys,⟨⟩⟩ K hj hi ⟨h1,h2⟩ hK
 dsimp only at hi h1 h2⊢
 subst hi
 refine Br.dec (λhl=>?_) λhl=>?_
 ·have hl:j<xs.length:=by omega
  refine ⟨_,Ap hl,⟨by omega,by omega⟩,by rw [Int.toNat_natCast];omega,rfl,by rw [List.length_set],?_⟩
  rw [Ah (by omega),Int.toNat_natCast,Nat.zero_add]
  have Ge:j<(xs.map λx=>IntKind.u8.wrap x).length:=by rw [Mg];exact hl
  have e:IntKind.u8.wrap xs[j]=(xs.map λx=>IntKind.u8.wrap x)[j]:=by simp
  rw [e]
  exact hK hl _ rfl ⟨by rw [List.length_set];exact h1,Gd Ge h1 h2⟩
 ·have:j=xs.length:=by omega
  subst this
  rw [<-Mg,List.take_length,<-h1,List.take_length] at h2
  rw [List.drop_zero,List.take_length,h2];rfl
theorem Wq:Sound Tryz.prog 79 Gb:=
 Sound.Cu Bj Ai mixed Tryz.func79 (by kernel_rfl) (by kernel_rfl) λx h=>CL x.1 h
theorem bN {α:Type} (P:α->Bool) (y:α): ∀(l:List α) (i:Int),0<=i->Dy P (l++ [y]) i=if Dy P l i<0 then (if P y=true then i+l.length else-1) else Dy P l i
 | [],i,_=>by simp [Dy]
 |x::r,i,h=>by
  simp only [List.cons_append,Dy,List.length_cons]
  split
  ·rw [if_neg (by omega)]
  ·rw [bN P y r (i+1) (by omega),show i+1+(r.length:Int)=i+((r.length+1:Nat):Int) by push_cast;omega]
theorem uY (ps:List (List Int)) (q p:List Int):j9 (ps++ [q]) p=if j9 ps p<0 then (if q=p then (ps.length:Int) else-1) else j9 ps p:=by
 unfold j9
 rw [bN _ _ _ _ (Int.le_refl 0)]
 simp only [decide_eq_true_eq,Int.zero_add]
def bE (p:List Int):Prop:= ∀x∈p,0<=x/\x<256
theorem MA {x y:Int} (hx:0<=x/\x<256) (hy:0<=y/\y<256) (h:UInt8.ofNat (IntKind.u8.wrap x).toNat=UInt8.ofNat (IntKind.u8.wrap y).toNat):x=y:=by
 have h:=congrArg UInt8.toNat h
 simp only [IntKind.wrap_u8,UInt8.toNat_ofNat'] at h
 omega
theorem bytes_inj: ∀(p q:List Int),bE p->bE q->(p.map λx=>UInt8.ofNat (IntKind.u8.wrap x).toNat)=(q.map λx=>UInt8.ofNat (IntKind.u8.wrap x).toNat)->p=q
 | [],[],_,_,_=>rfl
 | [],_::_,_,_,h=>by simp at h
 |_::_,[],_,_,h=>by simp at h
 |x::p,y::q,hp,hq,h=>by
  simp only [List.map_cons,List.cons.injEq] at h
  rw [MA (hp x (by simp)) (hq y (by simp)) h.1,bytes_inj p q (λz hz=>hp z (by simp [hz])) (λz hz=>hq z (by simp [hz])) h.2]
theorem key_inj {p q:List Int} (hp:bE p) (hq:bE q) (h:Qh p=Qh q):p=q:=by
 refine bytes_inj p q hp hq ?_
 simp only [Qh,bytesOf,ByteArray.mk.injEq,List.map_map] at h
 have h:=congrArg Array.toList h
 simpa [Function.comp_def] using h
def KM (m:ByteArray->Option Int) (ps:List (List Int)):Prop:= ∀p,bE p->m (Qh p)=if j9 ps p<0 then none else some (j9 ps p)
theorem KM.nil:KM (λ_=>none) []:= λp _=>by
 rw [if_pos (by unfold j9;simp [Dy])]
theorem KM.add {m:ByteArray->Option Int} {ps:List (List Int)} {q:List Int} (h:KM m ps) (hq:bE q) (hn:j9 ps q<0):KM (dQ m (Qh q) (ps.length:Int)) (ps++ [q]):=by
 intro p hp
 rw [uY]
 unfold dQ
 by_cases e:p=q
 ·subst e
  rw [if_pos rfl,if_pos hn,if_pos rfl,if_neg (by omega)]
 ·rw [if_neg (λhk=>e (key_inj hp hq hk)),h p hp]
  have e': ¬q=p:= λh=>e h.symm
  rw [if_neg e']
  by_cases HP:j9 ps p<0
  ·rw [if_pos HP,if_pos HP,if_pos (by decide)]
  ·rw [if_neg HP,if_neg HP,if_neg HP]
end Go.Proofs.YtfolipnappekaaaGreat

namespace Go.Proofs.YtfolipnappekaaaGreat
open Go.RowKit
noncomputable abbrev Ou:Spec:=Cu (.pair Df .unit) tL false true (λx=>List.length x.1.2.2.1<=8) (λx=>Cm (List.length x.1.2.2.1))
abbrev jv:Type:=Int×Int×ByteArray×List (List Int)×List Int×PUnit
theorem zm (p:Int×ByteArray×List (List Int)×Unit) (P:List Int->Prop):(0=0/\0=([]:List Int).length/\Bk (λ(v2:jv) (k3:jv->Prop)=>Br (decide (v2.1<=(↑v2.2.2.2.1.length:Int))) (0=0/\v2.2.2.2.2.1.length=v2.2.2.2.2.1.length/\v2.2.2.2.2.1.length+(List.take 2 (List.drop 0 [v2.1,IntKind.i64.wrap ((0:Int)-v2.1)])).length<=Bh/\0=0/\(v2.2.2.2.2.1++List.take 2 (List.drop 0 [v2.1,IntKind.i64.wrap ((0:Int)-v2.1)])).length=(v2.2.2.2.2.1++List.take 2 (List.drop 0 [v2.1,IntKind.i64.wrap ((0:Int)-v2.1)])).length/\k3 (IntKind.i64.wrap (v2.1+(1:Int)),v2.2.1,v2.2.2.1,v2.2.2.2.1,v2.2.2.2.2.1++List.take 2 (List.drop 0 [v2.1,IntKind.i64.wrap ((0:Int)-v2.1)]),())) (P (List.take v2.2.2.2.2.1.length (List.drop 0 v2.2.2.2.2.1)))) ((1:Int),p.1,p.2.1,p.2.2.1,[],PUnit.unit))=fnW Ck (look []) Ou Tryz.f141 (p,()) P:=by kernel_rfl
theorem yx (p:PP) (h:List.length p.2.2.1<=8):fnW Ck (look []) Ou Tryz.f141 (p,()) (λ(z:List Int)=>z=Cm (List.length p.2.2.1)):=by
 refine Eq.mp (zm p _) ⟨rfl,rfl,?_⟩
 refine Bk.mk (λv=> ∃j:Nat,j<=List.length p.2.2.1/\v=((j:Int)+1,p.1,p.2.1,p.2.2.1,Cm j,())) (λv=>List.length p.2.2.1+1-v.1.toNat) ⟨0,Nat.zero_le _,rfl⟩ ?_
 rintro _ ⟨j,hj,rfl⟩
 dsimp only
 refine Br.dec (λhl=>?_) λhl=>?_
 ·refine ⟨rfl,rfl,?_,rfl,rfl,⟨j+1,by omega,?_⟩,?_⟩
  ·show (Cm j).length+2<=4294967296
   rw [Sd];omega
  ·rw [Wg,Co (n:=(j:Int)+1+1) (by omega) (by omega),Co (n:=0-((j:Int)+1)) (by omega) (by omega),Int.zero_sub]
   rfl
  ·rw [Co (by omega) (by omega)];omega
 ·have:j=List.length p.2.2.1:=by omega
  subst this
  rw [Ay]
theorem mE:Sound Tryz.prog 141 Ou:=
 Sound.Cu Bj Ai mixed Tryz.func141 (by kernel_rfl) (by kernel_rfl) λx h=>yx x.1 h
theorem PN {p:PP} {room:Int} (hr:roomy room) (h: ¬Ua p room<0):(Bu p.2.2.1:Int)<=room-Ua p room/\roomy (Ua p room):=by
 unfold Ua at h⊢
 split at h
 ·exact absurd (show (-1:Int)<0 by decide) h
 ·rename_i h1
  rw [if_neg h1]
  split at h
  ·exact absurd (show (-1:Int)<0 by decide) h
  ·rename_i h2
   rw [if_neg h2]
   have e2:=yZ h2
   obtain ⟨r1,r2⟩:=hr
   unfold roomy
   omega
end Go.Proofs.YtfolipnappekaaaGreat

namespace Go.Proofs.YtfolipnappekaaaGreat
open Go.RowKit
def uC (v:Int):List Int->Nat
 | []=>0
 |x::r=>if x>v then uC v r+1 else 0
def TB (v:Int) (t:List Int):Option (List Int):=if uC v t=0 then none else some (Io t ((uC v t-1:Nat):Int)::(t.set (uC v t-1) v).reverse)
def dd:List Int->Option (List Int)
 | []=>none
 |v::t=>match dd t with
  |some t'=>some (v::t')
  |none=>TB v t
theorem yf {s s':List Int} (h:dd s=some s'): ∀pre:List Int,dd (pre++s)=some (pre++s')
 | []=>h
 |v::p=>by rw [List.cons_append,dd,yf h p];rfl
theorem TQ {α:Type} (pre:List α) (v a:α) (t:List α):(pre++v::t).set pre.length a=pre++a::t:=by
 rw [List.set_append,if_neg (by omega)];simp
inductive ER:List Int->List (List Int)->List Int->Prop where
 |one (a:List Int):ER a [a] a
 |more {a c b:List Int} {L:List (List Int)} :dd a=some c->ER c L b->ER a (a::L) b
theorem ER.cons {a b:List Int} {L:List (List Int)} (h:ER a L b) (v:Int):ER (v::a) (L.map (v:: ·)) (v::b):=by
 induction h with
 |one a=>exact .one _
 |more h3 _ ih=>exact .more (yf h3 [v]) ih
theorem ER.head {a b:List Int} {L:List (List Int)} (h:ER a L b): ∃M,L=a::M:=by
 cases h with
 |one=>exact ⟨_,rfl⟩
 |more _ _=>exact ⟨_,rfl⟩
theorem ER.at {a b:List Int} {L:List (List Int)} (h:ER a L b): ∀j (hj:j<L.length),(∀h2:j+1<L.length,dd L[j]=some L[j+1])/\(j+1=L.length->L[j]=b):=by
 induction h with
 |one a=>
  intro j hj
  simp only [List.length_singleton] at hj
  have:j=0:=by omega
  subst this
  exact ⟨λh2=>by simp at h2,λ_=>rfl⟩
 |more h3 h4 ih=>
  intro j hj
  rcases j with _|j
  ·obtain ⟨M,hM⟩:=h4.head
   refine ⟨λh2=>?_,λh2=>?_⟩
   ·simp only [List.getElem_cons_zero,List.getElem_cons_succ]
    subst hM
    exact h3
   ·subst hM;simp at h2
  ·have:=ih j (by simpa using hj)
   refine ⟨λh2=>?_,λh2=>?_⟩
   ·simp only [List.getElem_cons_succ]
    exact this.1 (by simpa using h2)
   ·simp only [List.getElem_cons_succ]
    exact this.2 (by simpa using h2)
theorem ER.distinct {a b:List Int} {L:List (List Int)} (h:ER a L b) (hb:dd b=none): ∀k i j (hi:i<L.length) (hj:j<L.length),L.length-j=k->i<j->L[i]≠L[j]:=by
 intro k
 induction k with
 |zero=>intro i j hi hj hk;omega
 |succ k ih=>
  intro i j hi hj hk jI he
  by_cases e:j+1<L.length
  ·have h1:=(h.at i hi).1 (by omega)
   have h2:=(h.at j hj).1 e
   rw [he,h2] at h1
   exact ih (i+1) (j+1) (by omega) e (by omega) (by omega) (Option.some.inj h1).symm
  ·have h1:=(h.at i hi).1 (by omega)
   have h2:=(h.at j hj).2 (by omega)
   rw [he,h2,hb] at h1
   cases h1
theorem ER.idx {a b:List Int} {L:List (List Int)} (h:ER a L b) (hb:dd b=none) {j:Nat} (hj:j<L.length):L.idxOf L[j]=j:=by
 have h1:L.idxOf L[j]<L.length:=List.idxOf_lt_length_of_mem (List.getElem_mem _)
 have h2:L[L.idxOf L[j]]=L[j]:=List.getElem_idxOf h1
 rcases Nat.lt_trichotomy (L.idxOf L[j]) j with h3|h3|h3
 ·exact absurd h2 (h.distinct hb _ _ _ h1 hj rfl h3)
 ·exact h3
 ·exact absurd h2.symm (h.distinct hb _ _ _ hj h1 rfl h3)
end Go.Proofs.YtfolipnappekaaaGreat

namespace Go.Proofs.YtfolipnappekaaaGreat
open Go.RowKit
theorem PQ {t:TT} {room:Int} (hr:roomy room) (h: ¬Ho t room<0):((List.length t.1+Bu t.2.1+List.length t.2.2.1:Nat):Int)<=room-Ho t room/\roomy (Ho t room):=by
 have lx:=de hr h
 refine ⟨?_,lx⟩
 clear lx
 unfold Ho at h⊢
 split at h
 ·exact absurd (show (-1:Int)<0 by decide) h
 ·rename_i h1
  rw [if_neg h1]
  split at h
  ·exact absurd (show (-1:Int)<0 by decide) h
  ·rename_i h2
   rw [if_neg h2]
   split at h
   ·exact absurd (show (-1:Int)<0 by decide) h
   ·rename_i h3
    rw [if_neg h3]
    have e1:Pp t.1 room=room-t.1.length/\_:=vS (n:=t.1.length) h1
    have e2:=yZ h2
    have e3:Pp t.2.2.1 (Lb t.2.1 (Pp t.1 room))=Lb t.2.1 (Pp t.1 room)-t.2.2.1.length/\_:=vS (n:=t.2.2.1.length) h3
    omega
end Go.Proofs.YtfolipnappekaaaGreat

namespace Go.Proofs.YtfolipnappekaaaGreat
open Go.RowKit
def Cg:List Int->List Int->Int
 | [],[]=>0
 | [],_::_=> -1
 |_::_,[]=>1
 |x::a,y::b=>if x<y then-1 else if x>y then 1 else Cg a b
def aQ (a b:List Int):Bool:=decide (Cg a b<0)
noncomputable abbrev Rp:Spec:=Cu (.pair tL (.pair tL .unit)) .bool false true (λx=>short x.1/\List.length x.1=List.length x.2.1) (λx=>aQ x.1 x.2.1)
theorem EI (a b:List Int) (P:Bool->Prop):(Bk (λ(v3:Int×PUnit) (k4:Int×PUnit->Prop)=>Br (decide (v3.1<(↑a.length:Int))) (∃(y5:Int),idx a v3.1=some y5/\ ∃(y6:Int),idx b v3.1=some y6/\Br (y5 !=y6) (∃(y7:Int),idx a v3.1=some y7/\ ∃(y8:Int),idx b v3.1=some y8/\P (decide (y7<y8))) (k4 (IntKind.i64.wrap (v3.1+(1:Int)),()))) (P false)) ((0:Int),PUnit.unit))=fnW Ck (look []) Rp Tryz.f158 (a,b,()) P:=by kernel_rfl
theorem Sound.ofO {P:Program} {f:FuncId} {e:Ty} {r res:Ty} {Dn fresh:Bool} {pre:(Ty.pair (.oslice e) r).den->Prop} {val:(Ty.pair (.oslice e) r).den->res.den} {dp:(Ty.pair (.slice e) r).den->Prop} {pX:(Ty.pair (.slice e) r).den->res.den}
  (h:Sound P f (Go.Proofs.YtfolipnappekaaaGreat.Cu (.pair (.oslice e) r) res Dn fresh pre val))
  (hp: ∀(o:Option (List e.den)) (y:r.den),dp (o.getD [],y)->pre (o,y)/\val (o,y)=pX (o.getD [],y)):Sound P f (Go.Proofs.YtfolipnappekaaaGreat.Cu (.pair (.slice e) r) res Dn fresh dp pX):=by
 refine ⟨h.enter,λw S vs x y hS h2 h5=>?_⟩
 obtain ⟨xs,rest⟩:=x
 cases vs with
 |nil=>exact h2.elim
 |cons u us=>
  obtain ⟨h7,h8⟩:=h2
  obtain ⟨ox,h9,rfl⟩:=h7.told
  have Yn:dp (ox.getD [],rest):=Classical.byContradiction λhn=>by
   have:(Go.Proofs.YtfolipnappekaaaGreat.Cu (.pair (.slice e) r) res Dn fresh dp pX).fn (ox.getD [],rest)=none:=if_neg hn
   rw [this] at h5;cases h5
  obtain ⟨k1,k2⟩:=hp ox rest Yn
  have hv:(Go.Proofs.YtfolipnappekaaaGreat.Cu (.pair (.slice e) r) res Dn fresh dp pX).fn (ox.getD [],rest)=some (pX (ox.getD [],rest)):=if_pos Yn
  rw [hv] at h5
  have h5:=Option.some.inj h5
  exact h.calls w S (u::us) (ox,rest) y hS ⟨h9,h8⟩ ((if_pos k1).trans (by rw [k2];exact congrArg some h5))
theorem CI (a b:List Int) (h:short a/\a.length=b.length):fnW Ck (look []) Rp Tryz.f158 (a,b,()) (λ(z:Bool)=>z=aQ a b):=by
 obtain ⟨ha,hb⟩:=h
 unfold short at ha
 refine Eq.mp (EI a b _) ?_
 refine Ag a.length (λv=>v.1) (λj _=>Cg (a.drop j) (b.drop j)=Cg a b) rfl (by simp) ?_
 rintro j ⟨i,⟨⟩⟩ K hj hi XP hK
 dsimp only at hi⊢
 subst hi
 refine Br.dec (λhl=>?_) λhl=>?_
 ·have hl:j<a.length:=by omega
  have hlb:j<b.length:=by omega
  rw [List.drop_eq_getElem_cons hl,List.drop_eq_getElem_cons hlb] at XP
  simp only [Cg] at XP
  refine ⟨_,Ap hl,_,Ap hlb,⟨λFa=>?_,λFa=>?_⟩⟩
  ·refine ⟨_,Ap hl,_,Ap hlb,?_⟩
   have Fa:a[j]≠b[j]:=by simpa using Fa
   unfold aQ
   rw [<-XP]
   by_cases h1:a[j]<b[j]
   ·rw [if_pos h1];simp [h1]
   ·rw [if_neg h1,if_pos (by omega)];simp [h1]
  ·have Fa:a[j]=b[j]:=by simpa using Fa
   rw [if_neg (by omega),if_neg (by omega)] at XP
   rw [Ah (by omega)]
   exact hK hl _ rfl XP
 ·have:j=a.length:=by omega
  subst this
  rw [List.drop_length,List.drop_eq_nil_of_le (by omega)] at XP
  unfold aQ
  rw [<-XP]
  rfl
theorem pC:Sound Tryz.prog 158 Rp:=
 Sound.Cu Bj Ai mixed Tryz.func158 (by kernel_rfl) (by kernel_rfl) λx h=>CI x.1 x.2.1 h
end Go.Proofs.YtfolipnappekaaaGreat

namespace Go.Proofs.YtfolipnappekaaaGreat
open Go.RowKit
abbrev SS:Type:=List (List Int)×List Int×List Int×Bool×Unit
abbrev rLS:CK:= .row tL 26
abbrev rN:CK:= .row tI 3
def Cz (L:List (List Int)) (Ig:List Int) (s:List Int):Nat:=(Ig.takeWhile λi=>aQ (L.getD i.toNat []) s).length
structure Dm (m:Nat) (L:List (List Int)) (Ig:List Int):Prop where
 u5:L.length<=3000
 len: ∀x∈L,x.length=m
 short:m<=20
 perm:Ig.Perm (upto L.length)
 sorted:Ig.Pairwise λi j=>aQ (L.getD i.toNat []) (L.getD j.toNat [])=true
def lG (L:List (List Int)) (s:List Int):Int:=if s∈L then (L.idxOf s:Int) else-1
def Qg (Ig:List Int) (k:Nat) (x:Int):List Int:=Ig.take k++x::Ig.drop k
noncomputable abbrev bl:Spec:=Cu (.pair eI (.pair tL .unit)) tI false true (λx=>Dm (List.length x.2.1) x.1.1 x.1.2.2.1) (λx=>(Cz x.1.1 x.1.2.2.1 x.2.1:Int))
noncomputable abbrev aa:Spec:=Cu (.pair eI (.pair tL .unit)) tI false true (λx=>Dm (List.length x.2.1) x.1.1 x.1.2.2.1) (λx=>lG x.1.1 x.2.1)
noncomputable abbrev gO:MSpec:=Wx [some 4,none,none] [(false,rLS),(false,rL),(false,rN),(false, .Dh .bool),(false, .Dh tL),(false, .Dh tI)] false [some 4] [rLS,rL,rN, .Dh .bool]
 (λx=>Dm (List.length x.2.2.2.2.1) x.1 x.2.2.1/\List.length x.2.1<=3000) (λx=>((x.1++ [x.2.2.2.2.1],x.2.1++ [x.2.2.2.2.2.1],Qg x.2.2.1 (Cz x.1 x.2.2.1 x.2.2.2.2.1) (List.length x.1),x.2.2.2.1,()),()))
def Yb (L:List (List Int)):List Int:=(List.range L.length).foldl (λ(S:List Int) (i:Nat)=>Qg S (Cz (L.take i) S (L.getD i [])) (i:Int)) []
def Hq (g:List (List Int)) (x:List Int) (d:Int):List Int->List (List Int)->List Int->List (List Int)×List Int×Bool
 | [],L,D=>(L,D,true)
 |l::ls,L,D=>if Aa x (Ao g l)∈L then Hq g x d ls L D else if L.length=3000 then (L,D,false) else Hq g x d ls (L++ [Aa x (Ao g l)]) (D++ [d+1])
def Lk (g:List (List Int)) (ls:List Int):Nat->Nat->List (List Int)->List Int->List (List Int)×List Int×Bool
 |0,_,L,D=>(L,D,true)
 |f+1,k,L,D=>if k<L.length then (match Hq g (L.getD k []) (D.getD k 0) ls L D with
  |(L',D',true)=>Lk g ls f (k+1) L' D'
  |(L',D',false)=>(L',D',false)) else (L,D,true)
def Gi (g:List (List Int)) (s:List Int):List (List Int)×List Int×Bool:=Lk g (Cm g.length) 3001 0 [s] [0]
def Lt (g:List (List Int)) (s:List Int):SS:=((Gi g s).1,(Gi g s).2.1,Yb (Gi g s).1,(Gi g s).2.2,())
noncomputable abbrev eD:Spec:=Cu (.pair Df (.pair tL .unit)) eI false false (λx=>Bw x.1=true/\List.length x.2.1<=20/\ ∀y∈x.2.1,0<=y/\y<x.1.1) (λx=>Lt x.1.2.2.1 x.2.1)
abbrev GM:Type:=Int×Int×List (List Int)×List Int×List Int×Bool×PUnit
theorem Aax (f:List (List Int)×List Int×List Int×Bool×Unit) (s:List Int) (P:Int->Prop):(Bk (λ(v3:GM) (k4:GM->Prop)=>Br (decide (v3.1<v3.2.1)) ((2:Int)≠(0:Int)/\ ∃(y5:Int),idx v3.2.2.2.2.1 (IntKind.i64.wrap ((IntKind.i64.wrap (v3.1+v3.2.1)).tdiv (2:Int)))=some y5/\ ∃(y6:List Int),idx v3.2.2.1 y5=some y6/\ ∃(y7:Bool),Rp.fn (y6,s,())=some y7/\Br y7 (k4 (IntKind.i64.wrap (IntKind.i64.wrap ((IntKind.i64.wrap (v3.1+v3.2.1)).tdiv (2:Int))+(1:Int)),v3.2.1,v3.2.2.1,v3.2.2.2.1,v3.2.2.2.2.1,v3.2.2.2.2.2.1,())) (k4 (v3.1,IntKind.i64.wrap ((IntKind.i64.wrap (v3.1+v3.2.1)).tdiv (2:Int)),v3.2.2.1,v3.2.2.2.1,v3.2.2.2.2.1,v3.2.2.2.2.2.1,()))) (P v3.1)) ((0:Int),(↑f.2.2.1.length:Int),f.1,f.2.1,f.2.2.1,f.2.2.2.1,PUnit.unit))=fnW Ck (look [(158,Rp)]) bl Tryz.f149 (f,s,()) P:=by kernel_rfl
theorem QS (f:List (List Int)×List Int×List Int×Bool×Unit) (s:List Int) (P:Int->Prop):(∃(y3:Int),bl.fn ((f.1,f.2.1,f.2.2.1,f.2.2.2.1,()),s,())=some y3/\Br (decide (y3<(↑f.2.2.1.length:Int))) (∃(y4:Int),idx f.2.2.1 y3=some y4/\ ∃(y5:List Int),idx f.1 y4=some y5/\ ∃(y6:Bool),Am.fn (y5,s,())=some y6/\Br y6 (∃(y7:Int),idx f.2.2.1 y3=some y7/\P y7) (P (-1:Int))) (P (-1:Int)))=fnW Ck (look [(149,bl),(101,Am)]) aa Tryz.f132 (f,s,()) P:=by kernel_rfl
theorem Aav (L:List (List Int)) (D S:List Int) (b:Bool) (s:List Int) (d:Int) (P:((List (List Int)×List Int×List Int×Bool×Unit)×Unit)->Prop):(∃(y7:Int),bl.fn ((List.take L.length (List.drop 0 L),List.take D.length (List.drop 0 D),List.take S.length (List.drop 0 S),b,()),s,())=some y7/\0=0/\S.length=S.length/\S.length+(List.take 1 (List.drop 0 [(0:Int)])).length<=Bh/\((0:Int)<=IntKind.i64.wrap (y7+(1:Int))/\IntKind.i64.wrap (y7+(1:Int))<=(↑(S++List.take 1 (List.drop 0 [(0:Int)])).length:Int)/\(↑(S++List.take 1 (List.drop 0 [(0:Int)])).length:Int)<=(↑(S++List.take 1 (List.drop 0 [(0:Int)])).length:Int))/\((0:Int)<=y7/\y7<=(↑(S++List.take 1 (List.drop 0 [(0:Int)])).length:Int)/\(↑(S++List.take 1 (List.drop 0 [(0:Int)])).length:Int)<=(↑(S++List.take 1 (List.drop 0 [(0:Int)])).length:Int))/\((0:Int)<=y7/\y7<(↑(S++List.take 1 (List.drop 0 [(0:Int)])).length:Int))/\0+y7.toNat<(Bp (S++List.take 1 (List.drop 0 [(0:Int)])) (0+(IntKind.i64.wrap (y7+(1:Int))).toNat) (List.take ((↑(S++List.take 1 (List.drop 0 [(0:Int)])).length:Int).toNat-(IntKind.i64.wrap (y7+(1:Int))).toNat) (List.take ((↑(S++List.take 1 (List.drop 0 [(0:Int)])).length:Int).toNat-y7.toNat) (List.drop (0+y7.toNat) (S++List.take 1 (List.drop 0 [(0:Int)])))))).length/\0=0/\L.length=L.length/\L.length+(List.take 1 (List.drop 0 [s])).length<=Bh/\0=0/\D.length=D.length/\D.length+(List.take 1 (List.drop 0 [d])).length<=Bh/\P ((List.take (L++List.take 1 (List.drop 0 [s])).length (List.drop 0 (L++List.take 1 (List.drop 0 [s]))),List.take (D++List.take 1 (List.drop 0 [d])).length (List.drop 0 (D++List.take 1 (List.drop 0 [d]))),List.take (S++List.take 1 (List.drop 0 [(0:Int)])).length (List.drop 0 ((Bp (S++List.take 1 (List.drop 0 [(0:Int)])) (0+(IntKind.i64.wrap (y7+(1:Int))).toNat) (List.take ((↑(S++List.take 1 (List.drop 0 [(0:Int)])).length:Int).toNat-(IntKind.i64.wrap (y7+(1:Int))).toNat) (List.take ((↑(S++List.take 1 (List.drop 0 [(0:Int)])).length:Int).toNat-y7.toNat) (List.drop (0+y7.toNat) (S++List.take 1 (List.drop 0 [(0:Int)])))))).set (0+y7.toNat) (↑L.length:Int))),b,()),()))=fnMW Oe (look [(149,bl)]) gO Tryz.f148 (L,D,S,b,s,d,()) P:=by kernel_rfl
abbrev jx:Type:=Int×Int×ByteArray×List (List Int)×Bool×Bool×List (List Int)×List Int×List Int×List (List Int)×List Int×List Int×PUnit
abbrev z7:Type:=(List (List Int)×List Int×List Int×Bool×PUnit)×PUnit
theorem UH (p:Int×ByteArray×List (List Int)×Unit) (s:List Int) (P:(List (List Int)×List Int×List Int×Bool×Unit)->Prop):(∃(y3:List Int),Fh.fn (s,())=some y3/\ ∃(y4:z7),gO.fn ([],[],[],false,y3,(0:Int),())=some y4/\ ∃(y5:List Int),Ou.fn ((p.1,p.2.1,p.2.2.1,()),())=some y5/\0=0/\0=([]:List Int).length/\0=0/\0=([]:List Int).length/\0=0/\0=([]:List Int).length/\0=0/\y4.1.1.length=y4.1.1.length/\0=0/\y4.1.2.1.length=y4.1.2.1.length/\0=0/\y4.1.2.2.1.length=y4.1.2.2.1.length/\Bk (λ(v6:jx) (k7:jx->Prop)=>Br (decide (v6.1<(↑v6.2.2.2.2.2.2.2.2.2.1.length:Int))) (0=0/\v6.2.2.2.2.2.2.1.length=v6.2.2.2.2.2.2.1.length/\0=0/\v6.2.2.2.2.2.2.2.1.length=v6.2.2.2.2.2.2.2.1.length/\0=0/\v6.2.2.2.2.2.2.2.2.1.length=v6.2.2.2.2.2.2.2.2.1.length/\0=0/\v6.2.2.2.2.2.2.2.2.2.1.length=v6.2.2.2.2.2.2.2.2.2.1.length/\0=0/\v6.2.2.2.2.2.2.2.2.2.2.1.length=v6.2.2.2.2.2.2.2.2.2.2.1.length/\0=0/\v6.2.2.2.2.2.2.2.2.2.2.2.1.length=v6.2.2.2.2.2.2.2.2.2.2.2.1.length/\Bk (λ(v8:jx) (k9:jx->Prop)=>Br (decide (v8.1<(↑y5.length:Int))) (((0:Int)<=v6.1/\v6.1<(↑v8.2.2.2.2.2.2.2.2.2.1.length:Int))/\ ∃(Th:List Int),v8.2.2.2.2.2.2.2.2.2.1[0+v6.1.toNat]?=some Th/\ ∃(m5:Int),idx y5 v8.1=some m5/\ ∃(l6:List Int),a5.fn ((v8.2.1,v8.2.2.1,v8.2.2.2.1,()),Th,m5,())=some l6/\ ∃(qg:Int),aa.fn ((List.take v8.2.2.2.2.2.2.2.2.2.1.length (List.drop 0 v8.2.2.2.2.2.2.2.2.2.1),List.take v8.2.2.2.2.2.2.2.2.2.2.1.length (List.drop 0 v8.2.2.2.2.2.2.2.2.2.2.1),List.take v8.2.2.2.2.2.2.2.2.2.2.2.1.length (List.drop 0 v8.2.2.2.2.2.2.2.2.2.2.2.1),v8.2.2.2.2.2.1,()),l6,())=some qg/\Br (decide (qg>=(0:Int))) (0=0/\v8.2.2.2.2.2.2.1.length=v8.2.2.2.2.2.2.1.length/\0=0/\v8.2.2.2.2.2.2.2.1.length=v8.2.2.2.2.2.2.2.1.length/\0=0/\v8.2.2.2.2.2.2.2.2.1.length=v8.2.2.2.2.2.2.2.2.1.length/\0=0/\v8.2.2.2.2.2.2.2.2.2.1.length=v8.2.2.2.2.2.2.2.2.2.1.length/\0=0/\v8.2.2.2.2.2.2.2.2.2.2.1.length=v8.2.2.2.2.2.2.2.2.2.2.1.length/\0=0/\v8.2.2.2.2.2.2.2.2.2.2.2.1.length=v8.2.2.2.2.2.2.2.2.2.2.2.1.length/\k9 (IntKind.i64.wrap (v8.1+(1:Int)),v8.2.1,v8.2.2.1,v8.2.2.2.1,v8.2.2.2.2.1,v8.2.2.2.2.2.1,v8.2.2.2.2.2.2.1,v8.2.2.2.2.2.2.2.1,v8.2.2.2.2.2.2.2.2.1,v8.2.2.2.2.2.2.2.2.2.1,v8.2.2.2.2.2.2.2.2.2.2.1,v8.2.2.2.2.2.2.2.2.2.2.2.1,())) (Br ((↑v8.2.2.2.2.2.2.2.2.2.1.length:Int)==(3000:Int)) (P (List.take v8.2.2.2.2.2.2.2.2.2.1.length (List.drop 0 v8.2.2.2.2.2.2.2.2.2.1),List.take v8.2.2.2.2.2.2.2.2.2.2.1.length (List.drop 0 v8.2.2.2.2.2.2.2.2.2.2.1),List.take v8.2.2.2.2.2.2.2.2.2.2.2.1.length (List.drop 0 v8.2.2.2.2.2.2.2.2.2.2.2.1),v8.2.2.2.2.2.1,())) (((0:Int)<=v6.1/\v6.1<(↑v8.2.2.2.2.2.2.2.2.2.2.1.length:Int))/\ ∃(bx:Int),v8.2.2.2.2.2.2.2.2.2.2.1[0+v6.1.toNat]?=some bx/\0=0/\v8.2.2.2.2.2.2.2.2.2.1.length=v8.2.2.2.2.2.2.2.2.2.1.length/\0=0/\v8.2.2.2.2.2.2.2.2.2.2.1.length=v8.2.2.2.2.2.2.2.2.2.2.1.length/\0=0/\v8.2.2.2.2.2.2.2.2.2.2.2.1.length=v8.2.2.2.2.2.2.2.2.2.2.2.1.length/\ ∃(qh:z7),gO.fn (v8.2.2.2.2.2.2.2.2.2.1,v8.2.2.2.2.2.2.2.2.2.2.1,v8.2.2.2.2.2.2.2.2.2.2.2.1,v8.2.2.2.2.2.1,l6,IntKind.i64.wrap (bx+(1:Int)),())=some qh/\0=0/\v8.2.2.2.2.2.2.1.length=v8.2.2.2.2.2.2.1.length/\0=0/\v8.2.2.2.2.2.2.2.1.length=v8.2.2.2.2.2.2.2.1.length/\0=0/\v8.2.2.2.2.2.2.2.2.1.length=v8.2.2.2.2.2.2.2.2.1.length/\0=0/\qh.1.1.length=qh.1.1.length/\0=0/\qh.1.2.1.length=qh.1.2.1.length/\0=0/\qh.1.2.2.1.length=qh.1.2.2.1.length/\k9 (IntKind.i64.wrap (v8.1+(1:Int)),v8.2.1,v8.2.2.1,v8.2.2.2.1,v8.2.2.2.2.1,qh.1.2.2.2.1,v8.2.2.2.2.2.2.1,v8.2.2.2.2.2.2.2.1,v8.2.2.2.2.2.2.2.2.1,qh.1.1,qh.1.2.1,qh.1.2.2.1,())))) (0=0/\v8.2.2.2.2.2.2.1.length=v8.2.2.2.2.2.2.1.length/\0=0/\v8.2.2.2.2.2.2.2.1.length=v8.2.2.2.2.2.2.2.1.length/\0=0/\v8.2.2.2.2.2.2.2.2.1.length=v8.2.2.2.2.2.2.2.2.1.length/\0=0/\v8.2.2.2.2.2.2.2.2.2.1.length=v8.2.2.2.2.2.2.2.2.2.1.length/\0=0/\v8.2.2.2.2.2.2.2.2.2.2.1.length=v8.2.2.2.2.2.2.2.2.2.2.1.length/\0=0/\v8.2.2.2.2.2.2.2.2.2.2.2.1.length=v8.2.2.2.2.2.2.2.2.2.2.2.1.length/\k7 (IntKind.i64.wrap (v6.1+(1:Int)),v8.2.1,v8.2.2.1,v8.2.2.2.1,v8.2.2.2.2.1,v8.2.2.2.2.2.1,v8.2.2.2.2.2.2.1,v8.2.2.2.2.2.2.2.1,v8.2.2.2.2.2.2.2.2.1,v8.2.2.2.2.2.2.2.2.2.1,v8.2.2.2.2.2.2.2.2.2.2.1,v8.2.2.2.2.2.2.2.2.2.2.2.1,()))) ((0:Int),v6.2.1,v6.2.2.1,v6.2.2.2.1,v6.2.2.2.2.1,v6.2.2.2.2.2.1,v6.2.2.2.2.2.2.1,v6.2.2.2.2.2.2.2.1,v6.2.2.2.2.2.2.2.2.1,v6.2.2.2.2.2.2.2.2.2.1,v6.2.2.2.2.2.2.2.2.2.2.1,v6.2.2.2.2.2.2.2.2.2.2.2.1,PUnit.unit)) (P (List.take v6.2.2.2.2.2.2.2.2.2.1.length (List.drop 0 v6.2.2.2.2.2.2.2.2.2.1),List.take v6.2.2.2.2.2.2.2.2.2.2.1.length (List.drop 0 v6.2.2.2.2.2.2.2.2.2.2.1),List.take v6.2.2.2.2.2.2.2.2.2.2.2.1.length (List.drop 0 v6.2.2.2.2.2.2.2.2.2.2.2.1),true,()))) ((0:Int),p.1,p.2.1,p.2.2.1,false,y4.1.2.2.2.1,[],[],[],y4.1.1,y4.1.2.1,y4.1.2.2.1,PUnit.unit))=fnW Aam (look [(116,Fh),(148,gO),(141,Ou),(118,a5),(132,aa)]) eD Tryz.f131 (p,s,()) P:=by kernel_rfl
theorem nK: ∀ {a b:List Int},Cg a b=0↔a=b
 | [],[]=>by simp [Cg]
 | [],_::_=>by simp [Cg]
 |_::_,[]=>by simp [Cg]
 |x::a,y::b=>by
  simp only [Cg,List.cons.injEq]
  by_cases h1:x<y
  ·rw [if_pos h1]
   exact ⟨λh=>by omega,λh=>by omega⟩
  ·rw [if_neg h1]
   by_cases h2:x>y
   ·rw [if_pos h2]
    exact ⟨λh=>by omega,λh=>by omega⟩
   ·rw [if_neg h2,nK]
    exact ⟨λh=>⟨by omega,h⟩,λh=>h.2⟩
theorem FB: ∀(a b:List Int),Cg b a= -Cg a b
 | [],[]=>by simp [Cg]
 | [],_::_=>by simp [Cg]
 |_::_,[]=>by simp [Cg]
 |x::a,y::b=>by
  simp only [Cg]
  rcases Int.lt_trichotomy x y with h1|h1|h1
  ·simp [h1,show ¬y<x by omega]
  ·subst h1
   simp [FB a b]
  ·simp [h1,show ¬x<y by omega]
theorem se: ∀ {a b c:List Int},Cg a b<0->Cg b c<0->Cg a c<0
 | [],[],_,h,_=>by simp [Cg] at h
 |_::_,[],_,h,_=>by simp [Cg] at h
 |_,_::_,[],_,h=>by simp [Cg] at h
 | [],_::_,_::_,_,_=>by simp [Cg]
 |x::a,y::b,z::c,h1,h2=>by
  simp only [Cg] at h1 h2⊢
  by_cases e1:x<y
  ·by_cases e2:y<z
   ·rw [if_pos (by omega)];omega
   ·rw [if_neg e2] at h2
    by_cases e3:y>z
    ·rw [if_pos e3] at h2;omega
    ·rw [if_pos (by omega)];omega
  ·rw [if_neg e1] at h1
   by_cases e2:x>y
   ·rw [if_pos e2] at h1;omega
   ·rw [if_neg e2] at h1
    by_cases e3:y<z
    ·rw [if_pos (by omega)];omega
    ·rw [if_neg e3] at h2
     by_cases e4:y>z
     ·rw [if_pos e4] at h2;omega
     ·rw [if_neg e4] at h2
      rw [if_neg (by omega),if_neg (by omega)]
      exact se h1 h2
theorem lt_iff {a b:List Int} :aQ a b=true↔Cg a b<0:=decide_eq_true_iff
theorem IC {a b c:List Int} (h1:aQ a b=true) (h2:aQ b c=true):aQ a c=true:=lt_iff.2 (se (lt_iff.1 h1) (lt_iff.1 h2))
theorem gF (a:List Int):aQ a a=false:=by
 have:Cg a a=0:=nK.2 rfl
 unfold aQ;rw [this];rfl
theorem NX {a b:List Int} (h:aQ a b=false) (Fa:a≠b):aQ b a=true:=by
 rw [lt_iff,FB a b]
 have h1: ¬Cg a b<0:= λh'=>by rw [lt_iff.2 h'] at h;cases h
 have h2:Cg a b≠0:= λh'=>Fa (nK.1 h')
 omega
theorem fN {α:Type} (q:α->Bool): ∀(l:List α),l.Pairwise (λi j=>q j=true->q i=true)-> ∀k (hk:k<l.length),k<(l.takeWhile q).length↔q l[k]=true
 | [],_,k,hk=>by simp at hk
 |a::l,h,k,hk=>by
  obtain ⟨h1,h2⟩:=List.pairwise_cons.1 h
  by_cases ha:q a=true
  ·rw [List.takeWhile_cons_of_pos ha]
   rcases k with _|k
   ·simpa using ha
   ·simp only [List.length_cons,List.getElem_cons_succ,Nat.add_lt_add_iff_right]
    exact fN q l h2 k (by simpa using hk)
  ·rw [List.takeWhile_cons_of_neg ha]
   simp only [List.length_nil,Nat.not_lt_zero,false_iff]
   rcases k with _|k
   ·exact ha
   ·simp only [List.getElem_cons_succ]
    exact λhq=>ha (h1 _ (List.getElem_mem _) hq)
theorem Dm.oA {m:Nat} {L:List (List Int)} {Ig:List Int} (h:Dm m L Ig):Ig.length=L.length:=by rw [h.perm.length_eq,jB]
theorem Dm.idx {m:Nat} {L:List (List Int)} {Ig:List Int} (h:Dm m L Ig) {k:Nat} (hk:k<Ig.length):0<=Ig[k]/\Ig[k]<L.length:=Sx.1 (h.perm.mem_iff.1 (List.getElem_mem hk))
theorem Dm.ab {m:Nat} {L:List (List Int)} {Ig:List Int} (h:Dm m L Ig) (s:List Int) {k:Nat} (hk:k<Ig.length):k<Cz L Ig s↔aQ (L.getD Ig[k].toNat []) s=true:=
 fN _ Ig (h.sorted.imp λjI hj=>IC jI hj) k hk
theorem GI (L:List (List Int)) (Ig s:List Int):Cz L Ig s<=Ig.length:=(List.takeWhile_sublist _).length_le
theorem Dm.inj {m:Nat} {L:List (List Int)} {Ig:List Int} (h:Dm m L Ig) {i j:Nat} (hi:i<L.length) (hj:j<L.length) (e:L[i]=L[j]):i=j:=by
 have mem: ∀i,i<L.length->(i:Int)∈Ig:= λi hi=>h.perm.mem_iff.2 (Sx.2 ⟨by omega,by omega⟩)
 obtain ⟨p,hp,ep⟩:=List.mem_iff_getElem.1 (mem i hi)
 obtain ⟨q,hq,eq⟩:=List.mem_iff_getElem.1 (mem j hj)
 have get: ∀i (hi:i<L.length),L.getD ((i:Int)).toNat []=L[i]:= λi hi=>by rw [Int.toNat_natCast,List.getD_eq_getElem?_getD,List.getElem?_eq_getElem hi];rfl
 rcases Nat.lt_trichotomy p q with h1|h1|h1
 ·have:=List.pairwise_iff_getElem.1 h.sorted p q hp hq h1
  rw [ep,eq,get i hi,get j hj,e,gF] at this
  cases this
 ·subst h1
  rw [ep] at eq
  omega
 ·have:=List.pairwise_iff_getElem.1 h.sorted q p hq hp h1
  rw [ep,eq,get i hi,get j hj,e,gF] at this
  cases this
theorem So {L:List (List Int)} {k:Nat} (h:k<L.length):L.getD k []=L[k]:=by rw [List.getD_eq_getElem?_getD,List.getElem?_eq_getElem h];rfl
theorem Dm.tK {m:Nat} {L:List (List Int)} {Ig:List Int} (h:Dm m L Ig) {s:List Int} :
  (∃hk:Cz L Ig s<Ig.length,L.getD Ig[Cz L Ig s].toNat []=s/\lG L s=Ig[Cz L Ig s])\/(lG L s= -1/\ ∀hk:Cz L Ig s<Ig.length,L.getD Ig[Cz L Ig s].toNat []≠s):=by
 by_cases hm:s∈L
 ·left
  obtain ⟨j,hj,rfl⟩:=List.mem_iff_getElem.1 hm
  obtain ⟨p,hp,ep⟩:=List.mem_iff_getElem.1 (h.perm.mem_iff.2 (Sx.2 ⟨by omega,by omega⟩):(j:Int)∈Ig)
  have gj:L.getD Ig[p].toNat []=L[j]:=by rw [ep,Int.toNat_natCast,So hj]
  have hs:Cz L Ig L[j]=p:=by
   have h1: ¬p<Cz L Ig L[j]:= λh1=>by
    have:=(h.ab L[j] hp).1 h1
    rw [gj,gF] at this;cases this
   have h2: ¬Cz L Ig L[j]<p:= λh2=>by
    have h3:=(h.ab L[j] (k:=Cz L Ig L[j]) (by omega)).2 (by
     have:=List.pairwise_iff_getElem.1 h.sorted (Cz L Ig L[j]) p (by omega) hp h2
     rw [gj] at this;exact this)
    omega
   omega
  have hx:L.idxOf L[j]=j:=by
   have h1:L.idxOf L[j]<L.length:=List.idxOf_lt_length_of_mem hm
   exact h.inj h1 hj (List.getElem_idxOf h1)
  refine ⟨by omega,?_,?_⟩
  ·simp only [hs];exact gj
  ·unfold lG
   rw [if_pos hm,hx]
   simp only [hs];exact ep.symm
 ·right
  refine ⟨by unfold lG;rw [if_neg hm],λhk e=>hm ?_⟩
  have hi:=h.idx hk
  rw [So (by omega)] at e
  rw [<-e]
  exact List.getElem_mem _
theorem NK (Ig:List Int) (k:Nat) (x:Int):(Qg Ig k x).Perm (x::Ig):=by
 unfold Qg
 refine List.perm_middle.trans (List.Perm.cons x ?_)
 rw [List.take_append_drop]
theorem Dm.add {m:Nat} {L:List (List Int)} {Ig s:List Int} (h:Dm m L Ig) (hn:s∉L) (hl:s.length=m) (hr:L.length<3000):Dm m (L++ [s]) (Qg Ig (Cz L Ig s) L.length):=by
 have xk: ∀i∈Ig,(L++ [s]).getD i.toNat []=L.getD i.toNat []:= λi hi=>by
  have:=Sx.1 (h.perm.mem_iff.1 hi)
  rw [List.getD_eq_getElem?_getD,List.getD_eq_getElem?_getD,List.getElem?_append_left (by omega)]
 have Abz:(L++ [s]).getD ((L.length:Int)).toNat []=s:=by
  rw [Int.toNat_natCast,List.getD_eq_getElem?_getD,List.getElem?_append_right (by omega),Nat.sub_self];rfl
 refine ⟨by rw [List.length_append,List.length_singleton];omega,λx hx=>?_,h.short,?_,?_⟩
 ·rcases List.mem_append.1 hx with hx|hx
  ·exact h.len x hx
  ·rw [List.mem_singleton.1 hx];exact hl
 ·refine (NK _ _ _).trans ?_
  rw [List.length_append,List.length_singleton,eK]
  exact (List.Perm.cons _ h.perm).trans (List.perm_append_singleton _ _).symm
 ·unfold Qg
  have hs:=h.sorted
  rw [<-List.take_append_drop (Cz L Ig s) Ig] at hs
  obtain ⟨s1,s2,s3⟩:=List.pairwise_append.1 hs
  have mt: ∀i∈Ig.take (Cz L Ig s),i∈Ig/\aQ (L.getD i.toNat []) s=true:= λi hi=>by
   obtain ⟨k,hk,rfl⟩:=List.mem_iff_getElem.1 hi
   have MR:k<Cz L Ig s:=by rw [List.length_take] at hk;omega
   have hk3:k<Ig.length:=by rw [List.length_take] at hk;omega
   rw [List.getElem_take]
   exact ⟨List.getElem_mem _,(h.ab s hk3).1 MR⟩
  have md: ∀i∈Ig.drop (Cz L Ig s),i∈Ig/\aQ s (L.getD i.toNat [])=true:= λi hi=>by
   obtain ⟨k,hk,rfl⟩:=List.mem_iff_getElem.1 hi
   rw [List.length_drop] at hk
   have hk3:Cz L Ig s+k<Ig.length:=by omega
   rw [List.getElem_drop]
   refine ⟨List.getElem_mem _,NX ?_ λe=>hn ?_⟩
   ·exact Bool.eq_false_iff.2 λhh=>by
     have:=(h.ab s hk3).2 hh
     omega
   ·have hi:=h.idx hk3
    rw [So (by omega)] at e
    rw [<-e];exact List.getElem_mem _
  refine List.pairwise_append.2 ⟨s1.imp_of_mem λ {a b} ha hb gw=>?_,List.pairwise_cons.2 ⟨λb hb=>?_,s2.imp_of_mem λ {a b} ha hb gw=>?_⟩,λa ha b hb=>?_⟩
  ·rw [xk a (mt a ha).1,xk b (mt b hb).1];exact gw
  ·rw [Abz,xk b (md b hb).1];exact (md b hb).2
  ·rw [xk a (md a ha).1,xk b (md b hb).1];exact gw
  ·rcases List.mem_cons.1 hb with rfl|hb
   ·rw [Abz,xk a (mt a ha).1];exact (mt a ha).2
   ·rw [xk a (mt a ha).1,xk b (md b hb).1];exact s3 a ha b hb
theorem bo (L:List (List Int)) (s:List Int):Yb (L++ [s])=Qg (Yb L) (Cz L (Yb L) s) L.length:=by
 unfold Yb
 rw [List.length_append,List.length_singleton,List.range_succ,List.foldl_append]
 have e: ∀(is:List Nat) (S:List Int),(∀i∈is,i<L.length)->is.foldl (λ(S:List Int) (i:Nat)=>Qg S (Cz ((L++ [s]).take i) S ((L++ [s]).getD i [])) (i:Int)) S=is.foldl (λ(S:List Int) (i:Nat)=>Qg S (Cz (L.take i) S (L.getD i [])) (i:Int)) S:=by
  intro is
  induction is with
  |nil=>intro S _;rfl
  |cons i is ih=>
   intro S h
   have hi:=h i (by simp)
   rw [List.foldl_cons,List.foldl_cons,ih _ λj hj=>h j (List.mem_cons_of_mem _ hj)]
   congr 2
   rw [List.take_append_of_le_length (by omega),List.getD_eq_getElem?_getD,List.getElem?_append_left hi,<-List.getD_eq_getElem?_getD]
 rw [e _ _ λi hi=>List.mem_range.1 hi]
 simp only [List.foldl_cons,List.foldl_nil]
 congr 2
 ·rw [List.take_append_of_le_length (Nat.le_refl _),List.take_length]
 ·rw [List.getD_eq_getElem?_getD,List.getElem?_append_right (by omega),Nat.sub_self];rfl
theorem jh {m:Nat} (h:m<=20):Dm m [] []:=⟨by simp,λx hx=>(by cases hx),h,by simp [upto],List.Pairwise.nil⟩
theorem NI {α:Type} {xs:List α} {y:Int} (h0:0<=y) (h:y.toNat<xs.length):idx xs y=some xs[y.toNat]:=by
 unfold idx
 rw [if_pos h0,List.getElem?_eq_getElem h]
theorem Aa8 (f:SS) (s:List Int) (h:Dm s.length f.1 f.2.2.1):fnW Ck (look [(158,Rp)]) bl Tryz.f149 (f,s,()) (λ(z:Int)=>z=(Cz f.1 f.2.2.1 s:Int)):=by
 obtain ⟨L,D,Ig,b,⟨⟩⟩:=f
 dsimp only at h⊢
 have hle:=GI L Ig s
 have qb:=h.oA
 have qv:=h.u5
 refine Eq.mp (Aax (L,D,Ig,b,()) s _) ?_
 refine Bk.mk (λv=>v.2.2.1=L/\v.2.2.2.2.1=Ig/\ ∃lo hi:Nat,v.1=lo/\v.2.1=hi/\lo<=hi/\hi<=Ig.length/\lo<=Cz L Ig s/\Cz L Ig s<=hi) (λv=>(v.2.1-v.1).toNat)
  ⟨rfl,rfl,0,Ig.length,rfl,rfl,by omega,by omega,by omega,hle⟩ ?_
 rintro ⟨lo',mV,L',D',JW,b',⟨⟩⟩ ⟨h1,h2,lo,hi,h3,h4,h5,h6,h7,h8⟩
 dsimp only at h1 h2 h3 h4⊢
 subst h1 h2 h3 h4
 refine Br.dec (λhl=>?_) λhl=>?_
 ·have em:IntKind.i64.wrap ((IntKind.i64.wrap ((lo:Int)+(hi:Int))).tdiv 2)=(((lo+hi)/2:Nat):Int):=by
   rw [Co (n:=(lo:Int)+(hi:Int)) (by omega) (by omega),Int.tdiv_eq_ediv_of_nonneg (by omega),Co (by omega) (by omega)]
   omega
  rw [em]
  have hm1:(lo+hi)/2<JW.length:=by omega
  have SI:=h.idx hm1
  have SJ:JW[(lo+hi)/2].toNat<L'.length:=by omega
  have hgd:=So SJ
  have hlen:=h.len _ (List.getElem_mem SJ)
  have zF:short L'[JW[(lo+hi)/2].toNat]:=by
   unfold short
   have:=h.short;omega
  refine ⟨by decide,_,Ap hm1,_,NI SI.1 SJ,_,if_pos ⟨zF,hlen⟩,⟨λhc=>?_,λhc=>?_⟩⟩
  ·have hc:aQ L'[JW[(lo+hi)/2].toNat] s=true:=hc
   have hs:=(h.ab s hm1).2 (by rw [hgd];exact hc)
   rw [Ah (by omega)]
   exact ⟨⟨rfl,rfl,(lo+hi)/2+1,hi,rfl,rfl,by omega,h6,by omega,h8⟩,by omega⟩
  ·have hc:aQ L'[JW[(lo+hi)/2].toNat] s=false:=hc
   have hs: ¬(lo+hi)/2<Cz L' JW s:= λhh=>by
    have:=(h.ab s hm1).1 hh
    rw [hgd,hc] at this;cases this
   exact ⟨⟨rfl,rfl,lo,(lo+hi)/2,rfl,rfl,by omega,by omega,h7,by omega⟩,by omega⟩
 ·show (lo:Int)=_
  omega
theorem pE:Sound Tryz.prog 149 bl:=
 Sound.Cu Bj (Ae pC Ai) mixed Tryz.func149 (by kernel_rfl) (by kernel_rfl) λx h=>Aa8 x.1 x.2.1 h
theorem OS (f:SS) (s:List Int) (h:Dm s.length f.1 f.2.2.1):fnW Ck (look [(149,bl),(101,Am)]) aa Tryz.f132 (f,s,()) (λ(z:Int)=>z=lG f.1 s):=by
 obtain ⟨L,D,Ig,b,⟨⟩⟩:=f
 dsimp only at h⊢
 refine Eq.mp (QS (L,D,Ig,b,()) s _) ⟨_,if_pos h,Br.dec (λhl=>?_) λhl=>?_⟩
 ·have hl:Cz L Ig s<Ig.length:=by
   have hl:((Cz L Ig s:Nat):Int)<(Ig.length:Int):=hl
   omega
  have SI:=h.idx hl
  have SJ:Ig[Cz L Ig s].toNat<L.length:=by omega
  have hgd:=So SJ
  have hlen:=h.len _ (List.getElem_mem SJ)
  have zF:short L[Ig[Cz L Ig s].toNat]:=by
   unfold short
   have:=h.short;omega
  refine ⟨_,Ap hl,_,NI SI.1 SJ,_,if_pos zF,⟨λhc=>⟨_,Ap hl,?_⟩,λhc=>?_⟩⟩
  ·have hc:L[Ig[Cz L Ig s].toNat]=s:=of_decide_eq_true hc
   rcases h.tK (s:=s) with ⟨hk,_,e⟩|⟨_,Fa⟩
   ·exact e.symm
   ·exact absurd (by rw [hgd];exact hc) (Fa hl)
  ·have hc: ¬L[Ig[Cz L Ig s].toNat]=s:=of_decide_eq_false hc
   rcases h.tK (s:=s) with ⟨hk,e,_⟩|⟨e,_⟩
   ·rw [hgd] at e;exact absurd e hc
   ·exact e.symm
 ·have hl: ¬Cz L Ig s<Ig.length:=by
   have hl: ¬((Cz L Ig s:Nat):Int)<(Ig.length:Int):=hl
   omega
  rcases h.tK (s:=s) with ⟨hk,e,_⟩|⟨e,_⟩
  ·exact absurd hk hl
  ·exact e.symm
theorem vK:Sound Tryz.prog 132 aa:=
 Sound.Cu Bj (Ae pE (Ae Tr Ai)) mixed Tryz.func132 (by kernel_rfl) (by kernel_rfl) λx h=>OS x.1 x.2.1 h
theorem BD {S:List Int} {k:Nat} (h:k<=S.length) (n:Int):
  (Bp (S++ [0]) (k+1) (List.take ((S++ [0]).length-(k+1)) (List.take ((S++ [0]).length-k) (List.drop k (S++ [0]))))).set k n=Qg S k n:=by
 obtain ⟨A,B,rfl,hA⟩: ∃A B,S=A++B/\A.length=k:=⟨S.take k,S.drop k,(List.take_append_drop k S).symm,by rw [List.length_take];omega⟩
 subst hA
 have e1:List.drop A.length (A++B++ [0])=B++ [0]:=by rw [List.append_assoc,List.drop_left]
 have e2:List.take ((A++B++ [0]).length-A.length) (B++ [0])=B++ [0]:=List.take_of_length_le (by simp only [List.length_append,List.length_singleton];omega)
 have e3:List.take ((A++B++ [0]).length-(A.length+1)) (B++ [0])=B:=by
  have:(A++B++ [(0:Int)]).length-(A.length+1)=B.length:=by simp only [List.length_append,List.length_singleton];omega
  rw [this,List.take_left]
 rw [e1,e2,e3]
 unfold Bp Qg
 have e4:List.drop (A.length+1+B.length) (A++B++ [0])= []:=List.drop_eq_nil_of_le (by simp only [List.length_append,List.length_singleton];omega)
 obtain ⟨c,hc⟩: ∃c,List.take (A.length+1) (A++B++ [0])=A++ [c]:=by
  rw [List.append_assoc,List.take_append,List.take_of_length_le (by omega)]
  cases B with
  |nil=>exact ⟨0,by simp⟩
  |cons b B=>exact ⟨b,by simp⟩
 rw [e4,hc,List.append_nil,List.append_assoc,List.singleton_append,TQ,List.take_left,List.drop_left]
theorem Aa6 (L:List (List Int)) (D S:List Int) (b:Bool) (s:List Int) (d:Int) (h:Dm s.length L S/\D.length<=3000):
  fnMW Oe (look [(149,bl)]) gO Tryz.f148 (L,D,S,b,s,d,()) (λ(z:(List (List Int)×List Int×List Int×Bool×Unit)×Unit)=>z=((L++ [s],D++ [d],Qg S (Cz L S s) L.length,b,()),())):=by
 obtain ⟨h,hD⟩:=h
 have hle:=GI L S s
 have qb:=h.oA
 have qv:=h.u5
 refine Eq.mp (Aav L D S b s d _) ?_
 rw [Ay L,Ay D,Ay S]
 refine ⟨_,if_pos h,?_⟩
 dsimp only
 have es:List.take 1 (List.drop 0 [(0:Int)])= [0]:=rfl
 have el:(S++ [(0:Int)]).length=S.length+1:=by simp
 rw [es,Ah (by omega),Nat.zero_add,Nat.zero_add,Int.toNat_natCast,Int.toNat_natCast,Int.toNat_natCast]
 refine ⟨rfl,rfl,by show S.length+1<=4294967296;omega,⟨by omega,by omega,by omega⟩,⟨by omega,by omega,by omega⟩,⟨by omega,by omega⟩,?_,rfl,rfl,by show L.length+1<=4294967296;omega,rfl,rfl,by show D.length+1<=4294967296;omega,?_⟩
 ·unfold Bp
  simp only [List.length_append,List.length_take,List.length_drop,List.length_singleton]
  omega
 ·rw [BD hle,Ay,Ay]
  have e5:List.take (S++ [(0:Int)]).length (List.drop 0 (Qg S (Cz L S s) (L.length:Int)))=Qg S (Cz L S s) (L.length:Int):=by
   rw [List.drop_zero,List.take_of_length_le]
   unfold Qg
   simp only [List.length_append,List.length_cons,List.length_take,List.length_drop,List.length_nil]
   omega
  rw [e5]
  rfl
theorem DM:Au Tryz.prog 148 gO:=
 Au.Wx Nc (Ae pE Ai) mixed Tryz.func148 (by kernel_rfl) (by kernel_rfl) λx h=>Aa6 x.1 x.2.1 x.2.2.1 x.2.2.2.1 x.2.2.2.2.1 x.2.2.2.2.2.1 h
structure Tt (p:PP) (m:Nat) (L:List (List Int)) (D:List Int):Prop where
 ok:Dm m L (Yb L)
 len:D.length=L.length
 row: ∀x∈L,∀y∈x,0<=y/\y<p.1
 dep: ∀j (h:j<D.length),0<=D[j]/\D[j]<=j
theorem uL {p:PP} (hv:Valid p) {x:List Int} {l:Int} (hx: ∀y∈x,0<=y/\y<p.1) (hl:Is (List.length p.2.2.1) l):
  (Aa x (Ao p.2.2.1 l)).length=x.length/\ ∀y∈Aa x (Ao p.2.2.1 l),0<=y/\y<p.1:=by
 obtain ⟨h1,h2⟩:=km hv hl
 refine ⟨Jv _ _,λy hy=>?_⟩
 have:=x4 (n:=(Ao p.2.2.1 l).length) (λz hz=>by have:=hx z hz;omega) h2 y hy
 omega
theorem Tt.add {p:PP} {m:Nat} {L:List (List Int)} {D:List Int} (h:Tt p m L D) {y:List Int} {d:Int} (hn:y∉L) (hl:y.length=m) (hr:L.length<3000) (hy: ∀z∈y,0<=z/\z<p.1) (hd:0<=d/\d<=L.length):Tt p m (L++ [y]) (D++ [d]):=by
 have hlen:=h.len
 refine ⟨by rw [bo];exact h.ok.add hn hl hr,by simp [hlen],λx hx=>?_,λj hj=>?_⟩
 ·rcases List.mem_append.1 hx with hx|hx
  ·exact h.row x hx
  ·rw [List.mem_singleton.1 hx];exact hy
 ·by_cases e:j<D.length
  ·rw [List.getElem_append_left e];exact h.dep j e
  ·simp only [List.length_append,List.length_singleton] at hj
   have:j=D.length:=by omega
   subst this
   rw [List.getElem_append_right (by omega)]
   simp only [Nat.sub_self,List.getElem_cons_zero]
   omega
theorem jQ {p:PP} {s:List Int} (hs:s.length<=20) (hr: ∀y∈s,0<=y/\y<p.1):Tt p s.length [s] [0]:=by
 refine ⟨?_,rfl,λx hx=>by rw [List.mem_singleton.1 hx];exact hr,λj hj=>?_⟩
 ·have:=(jh hs).add (s:=s) (by simp) rfl (by simp)
  have e:Yb [s]=Qg [] (Cz [] [] s) 0:=bo [] s
  rw [e];exact this
 ·simp only [List.length_singleton] at hj
  have:j=0:=by omega
  subst this
  simp
theorem sL {L:List (List Int)} {s:List Int} :lG L s>=0↔s∈L:=by
 unfold lG
 split
 ·rename_i h;exact ⟨λ_=>h,λ_=>by omega⟩
 ·rename_i h;exact ⟨λhh=>by omega,λhh=>absurd hh h⟩
theorem TK (p:PP) (s:List Int) (h:Bw p=true/\s.length<=20/\ ∀y∈s,0<=y/\y<p.1):fnW Aam (look [(116,Fh),(148,gO),(141,Ou),(118,a5),(132,aa)]) eD Tryz.f131 (p,s,()) (λ(z:SS)=>z=Lt p.2.2.1 s):=by
 obtain ⟨hv,hs,hr⟩:=h
 have hV:=valid hv
 have qv:=hV.u5
 have XR:=jQ hs hr
 have zF:short s:=by unfold short;omega
 obtain ⟨ls,wv⟩: ∃ls,Cm (List.length p.2.2.1)=ls:=⟨_,rfl⟩
 refine Eq.mp (UH p s _) ⟨_,if_pos zF,_,if_pos ⟨jh hs,by show 0<=3000;omega⟩,ls,(if_pos (by show List.length p.2.2.1<=8;exact qv.2)).trans (congrArg some wv),rfl,rfl,rfl,rfl,rfl,rfl,rfl,rfl,rfl,rfl,rfl,rfl,?_⟩
 have e0:Qg [] (Cz [] [] s) ((([]:List (List Int)).length:Nat):Int)=Yb [s]:=(bo [] s).symm
 show Bk _ ((0:Int),p.1,p.2.1,p.2.2.1,false,false,[],[],[],[s],[(0:Int)],Qg [] (Cz [] [] s) ((([]:List (List Int)).length:Nat):Int),PUnit.unit)
 rw [e0]
 have RI:ls.length<=16:=by rw [<-wv,Sd];omega
 have mh: ∀l∈ls,Is (List.length p.2.2.1) l:= λl hl=>Xr (wv▸hl)
 have AW:Lk p.2.2.1 ls 3001 0 [s] [0]=Gi p.2.2.1 s:=by unfold Gi;rw [wv]
 refine Bk.mk (λv=>v.2.1=p.1/\v.2.2.1=p.2.1/\v.2.2.2.1=p.2.2.1/\v.2.2.2.2.2.1=false/\ ∃k:Nat,v.1=k/\k<=v.2.2.2.2.2.2.2.2.2.1.length/\
   Tt p s.length v.2.2.2.2.2.2.2.2.2.1 v.2.2.2.2.2.2.2.2.2.2.1/\v.2.2.2.2.2.2.2.2.2.2.2.1=Yb v.2.2.2.2.2.2.2.2.2.1/\
   Lk p.2.2.1 ls (3001-k) k v.2.2.2.2.2.2.2.2.2.1 v.2.2.2.2.2.2.2.2.2.2.1=Gi p.2.2.1 s) (λv=>3001-v.1.toNat)
  ⟨rfl,rfl,rfl,rfl,0,rfl,by simp,XR,rfl,AW⟩ ?_
 rintro ⟨k',n1,n2,n3,b0,wh,x1,x2,x3,L0,D0,S0,⟨⟩⟩ ⟨h1,h2,h3,h4,k,h5,h6,h7,h8,h9⟩
 dsimp only at h1 h2 h3 h4 h5 h6 h7 h8 h9
 subst h1 h2 h3 h4 h5 h8
 dsimp only
 have hL0:=h7.ok.u5
 have hD0:=h7.len
 refine Br.dec (λhl=>⟨rfl,rfl,rfl,rfl,rfl,rfl,rfl,rfl,rfl,rfl,rfl,rfl,?_⟩) λhl=>?_
 ·have hk:k<L0.length:=by omega
  have RE:k<D0.length:=by omega
  have hx: ∀y∈L0[k],0<=y/\y<p.1:=h7.row _ (List.getElem_mem hk)
  have ZH:L0[k].length=s.length:=h7.ok.len _ (List.getElem_mem hk)
  have hdk:=h7.dep k RE
  obtain ⟨f,hf⟩: ∃f,3001-k=f+1:=⟨3000-k,by omega⟩
  have VM: ∀L' D' ok,Hq p.2.2.1 L0[k] D0[k] ls L0 D0=(L',D',ok)->Gi p.2.2.1 s=if ok=true then Lk p.2.2.1 ls f (k+1) L' D' else (L',D',false):=by
   intro L' D' ok he
   rw [<-h9,hf,Lk,if_pos hk,So hk,List.getD_eq_getElem?_getD,List.getElem?_eq_getElem RE]
   simp only [Option.getD_some]
   rw [he]
   cases ok<;>rfl
  refine Bk.mk (λv=>v.2.1=p.1/\v.2.2.1=p.2.1/\v.2.2.2.1=p.2.2.1/\v.2.2.2.2.2.1=false/\ ∃i:Nat,v.1=i/\i<=ls.length/\Tt p s.length v.2.2.2.2.2.2.2.2.2.1 v.2.2.2.2.2.2.2.2.2.2.1/\
    v.2.2.2.2.2.2.2.2.2.2.2.1=Yb v.2.2.2.2.2.2.2.2.2.1/\(∃A,v.2.2.2.2.2.2.2.2.2.1=L0++A)/\(∃A,v.2.2.2.2.2.2.2.2.2.2.1=D0++A)/\
    Hq p.2.2.1 L0[k] D0[k] (ls.drop i) v.2.2.2.2.2.2.2.2.2.1 v.2.2.2.2.2.2.2.2.2.2.1=Hq p.2.2.1 L0[k] D0[k] ls L0 D0) (λv=>ls.length-v.1.toNat)
   ⟨rfl,rfl,rfl,rfl,0,rfl,Nat.zero_le _,h7,rfl,⟨[],by simp⟩,⟨[],by simp⟩,rfl⟩ ?_
  rintro ⟨i',m1,m2,m3,b1,wh1,y1,y2,y3,L,D,S,⟨⟩⟩ ⟨g1,g2,g3,g4,i,g5,g6,g7,g8,⟨A,g9⟩,⟨A',RY⟩,mc⟩
  dsimp only at g1 g2 g3 g4 g5 g6 g7 g8 g9 RY mc
  subst g1 g2 g3 g4 g5 g8
  dsimp only
  have hLf:=g7.ok.u5
  have UX:=g7.len
  rw [Ay L,Ay D,Ay (Yb L)]
  refine Br.dec (λhli=>?_) λhli=>?_
  ·have hi:i<ls.length:=by omega
   have YF:k<L.length:=by rw [g9,List.length_append];omega
   have hLk:L[k]=L0[k]:=by simp only [g9];exact List.getElem_append_left hk
   have YE:k<D.length:=by rw [UX];exact YF
   have hDk:D[k]=D0[k]:=by simp only [RY];exact List.getElem_append_left RE
   have AP:=mh _ (List.getElem_mem hi)
   obtain ⟨nl,nr⟩:=uL hV hx AP
   rw [List.drop_eq_getElem_cons hi] at mc
   simp only [Hq] at mc
   refine ⟨⟨by omega,by omega⟩,L0[k],by rw [Int.toNat_natCast,Nat.zero_add,List.getElem?_eq_getElem YF,hLk],_,Ap hi,_,if_pos ⟨hv,by show L0[k].length<=20;omega,hx,AP⟩,?_⟩
   dsimp only
   have hyl:(Aa L0[k] (Ao p.2.2.1 ls[i])).length=s.length:=by rw [nl,ZH]
   refine ⟨_,if_pos (by show Dm (Aa L0[k] (Ao p.2.2.1 ls[i])).length L (Yb L);rw [hyl];exact g7.ok),Br.dec (λcT=>?_) λcT=>?_⟩
   ·have cT:Aa L0[k] (Ao p.2.2.1 ls[i])∈L:=sL.1 cT
    rw [if_pos cT] at mc
    rw [Ah (by omega)]
    exact ⟨rfl,rfl,rfl,rfl,rfl,rfl,rfl,rfl,rfl,rfl,rfl,rfl,⟨rfl,rfl,rfl,rfl,i+1,rfl,hi,g7,rfl,⟨A,g9⟩,⟨A',RY⟩,mc⟩,by omega⟩
   ·have cT:Aa L0[k] (Ao p.2.2.1 ls[i])∉L:= λhh=>cT (sL.2 hh)
    rw [if_neg cT] at mc
    refine ⟨λVz=>?_,λVz=>⟨⟨by omega,by omega⟩,D0[k],by rw [Int.toNat_natCast,Nat.zero_add,List.getElem?_eq_getElem YE,hDk],rfl,rfl,rfl,rfl,rfl,rfl,?_⟩⟩
    ·have Vz:L.length=3000:=by
      have:(L.length:Int)=3000:=by simpa using Vz
      omega
     rw [if_pos Vz] at mc
     have:=VM _ _ _ mc.symm
     rw [if_neg (by decide)] at this
     unfold Lt
     rw [this]
    ·have Vz:L.length≠3000:=by
      have:(L.length:Int)≠3000:=by simpa using Vz
      omega
     rw [if_neg Vz] at mc
     rw [Co (n:=D0[k]+1) (by omega) (by omega)]
     refine ⟨_,if_pos ⟨by show Dm (Aa L0[k] (Ao p.2.2.1 ls[i])).length L (Yb L);rw [hyl];exact g7.ok,by show D.length<=3000;omega⟩,?_⟩
     dsimp only
     rw [Ah (by omega),<-bo]
     refine ⟨rfl,rfl,rfl,rfl,rfl,rfl,rfl,rfl,rfl,rfl,rfl,rfl,⟨rfl,rfl,rfl,rfl,i+1,rfl,hi,g7.add cT hyl (by omega) nr ⟨by omega,by omega⟩,rfl,⟨A++ [Aa L0[k] (Ao p.2.2.1 ls[i])],by rw [g9,List.append_assoc]⟩,⟨A'++ [D0[k]+1],by rw [RY,List.append_assoc]⟩,mc⟩,by omega⟩
  ·have:i=ls.length:=by omega
   subst this
   rw [List.drop_length,Hq] at mc
   have:=VM _ _ _ mc.symm
   rw [if_pos rfl] at this
   rw [Ah (by omega)]
   refine ⟨rfl,rfl,rfl,rfl,rfl,rfl,rfl,rfl,rfl,rfl,rfl,rfl,⟨rfl,rfl,rfl,rfl,k+1,rfl,by rw [g9,List.length_append];omega,g7,rfl,?_⟩,by omega⟩
   rw [show 3001-(k+1)=f by omega]
   exact this.symm
 ·have hk:k=L0.length:=by omega
  rw [Ay L0,Ay D0,Ay (Yb L0)]
  obtain ⟨f,hf⟩: ∃f,3001-k=f+1:=⟨3000-k,by omega⟩
  rw [hf,Lk,if_neg (by omega)] at h9
  unfold Lt
  rw [<-h9]
theorem yS:Sound Tryz.prog 131 eD:=
 Sound.Cu Aan (Ae Py (Cr DM (Ae mE (Ae vD (Ae vK Ai))))) mixed Tryz.func131 (by kernel_rfl) (by kernel_rfl) λx h=>TK x.1 x.2.1 h
end Go.Proofs.YtfolipnappekaaaGreat
