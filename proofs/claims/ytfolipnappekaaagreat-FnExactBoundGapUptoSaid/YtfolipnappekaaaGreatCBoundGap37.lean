/-
  Part 38 of the proof that the statement FnExactBoundGap holds.
-/
import Derived.Test.YtfolipnappekaaaGreatCBoundGap36
import Derived.KernelRfl
namespace Go.Proofs.YtfolipnappekaaaGreat
open Go.RowKit
def Hw (x a b:Int):Bool:=decide (a<=x/\x<=b)
def eN (n x:Int):Bool:=decide (0<=x/\x<=IntKind.i64.wrap (n-1))
def Av (a b:List Int):Bool:=decide (a=b)
def fS (xs:List Int) (x:Int):Bool:=decide (x∈xs)
def short (xs:List Int):Prop:=xs.length<=4294967296
noncomputable abbrev Bq:Spec:=Cp (.pair tI (.pair tI (.pair tI .unit))) .bool false true (λ_=>True) (λx=>Hw x.1 x.2.1 x.2.2.1)
noncomputable abbrev Vl:Spec:=Cp (.pair tI (.pair tI .unit)) .bool false true (λ_=>True) (λx=>eN x.1 x.2.1)
noncomputable abbrev Ap:Spec:=Cp (.pair tL (.pair tL .unit)) .bool false true (λx=>short x.1) (λx=>Av x.1 x.2.1)
noncomputable abbrev Lh:Spec:=Cp (.pair tL (.pair tI .unit)) .bool false true (λx=>short x.1) (λx=>fS x.1 x.2.1)
theorem MG (x a b:Int) (P:Bool->Prop):(Br (decide (x>=a)) (P (decide (x<=b))) (P false))=fnW Cf (look []) Bq Tryz.f88 (x,a,b,()) P:=by kernel_rfl
theorem TH (x a b:Int) (P:Bool->Prop):(Br (decide (x>=a)) (P (decide (x<=b))) (P false))=fnW Cf (look []) Bq Tryz.f90 (x,a,b,()) P:=by kernel_rfl
theorem MI (n x:Int) (P:Bool->Prop):(∃(y3:Bool),Bq.fn (x,0,IntKind.i64.wrap (n-1),())=some y3/\P y3)=fnW Cf (look [(90,Bq)]) Vl Tryz.f161 (n,x,()) P:=by kernel_rfl
theorem zP (a b:List Int) (P:Bool->Prop):(Br ((↑a.length:Int) !=(↑b.length:Int)) (P false) (Bm (λ(v3:Int×PUnit) (k4:Int×PUnit->Prop)=>Br (decide (v3.1<(↑a.length:Int))) (∃(y5:Int),idx a v3.1=some y5/\ ∃(y6:Int),idx b v3.1=some y6/\Br (y5 !=y6) (P false) (k4 (IntKind.i64.wrap (v3.1+1),()))) (P true)) (0,PUnit.unit)))=fnW Cf (look []) Ap Tryz.f101 (a,b,()) P:=by kernel_rfl
theorem sv (a b:List Int) (P:Bool->Prop):(Br ((↑a.length:Int) !=(↑b.length:Int)) (P false) (Bm (λ(v3:Int×PUnit) (k4:Int×PUnit->Prop)=>Br (decide (v3.1<(↑a.length:Int))) (∃(y5:Int),idx a v3.1=some y5/\ ∃(y6:Int),idx b v3.1=some y6/\Br (y5 !=y6) (P false) (k4 (IntKind.i64.wrap (v3.1+1),()))) (P true)) (0,PUnit.unit)))=fnW Cf (look []) Ap Tryz.f139 (a,b,()) P:=by kernel_rfl
theorem so (xs:List Int) (x:Int) (P:Bool->Prop):(Bm (λ(v3:Int×PUnit) (k4:Int×PUnit->Prop)=>Br (decide (v3.1<(↑xs.length:Int))) (∃(y5:Int),idx xs v3.1=some y5/\Br (y5==x) (P true) (k4 (IntKind.i64.wrap (v3.1+1),()))) (P false)) (0,PUnit.unit))=fnW Cf (look []) Lh Tryz.f100 (xs,x,()) P:=by kernel_rfl
theorem KC (x a b:Int) (_:True):fnW Cf (look []) Bq Tryz.f88 (x,a,b,()) (λ(z:Bool)=>z=Hw x a b):=by
 refine Eq.mp (MG x a b _) ?_
 refine Br.dec (λh=>?_) λh=>?_
 ·have h:a<=x:=h
  simp [Hw,h]
 ·exact (decide_eq_false λhh=>h hh.1).symm
theorem Zf:Sound Tryz.prog 88 Bq:=
 Sound.Cp Bg Ai mixed Tryz.func88 (by kernel_rfl) (by kernel_rfl) λx h=>KC x.1 x.2.1 x.2.2.1 h
theorem RF (x a b:Int) (_:True):fnW Cf (look []) Bq Tryz.f90 (x,a,b,()) (λ(z:Bool)=>z=Hw x a b):=by
 refine Eq.mp (TH x a b _) ?_
 refine Br.dec (λh=>?_) λh=>?_
 ·have h:a<=x:=h
  simp [Hw,h]
 ·exact (decide_eq_false λhh=>h hh.1).symm
theorem Rb:Sound Tryz.prog 90 Bq:=
 Sound.Cp Bg Ai mixed Tryz.func90 (by kernel_rfl) (by kernel_rfl) λx h=>RF x.1 x.2.1 x.2.2.1 h
theorem KE (n x:Int) (_:True):fnW Cf (look [(90,Bq)]) Vl Tryz.f161 (n,x,()) (λ(z:Bool)=>z=eN n x):=
 Eq.mp (MI n x _) ⟨_,if_pos trivial,rfl⟩
theorem rY:Sound Tryz.prog 161 Vl:=
 Sound.Cp Bg (Ae Rb Ai) mixed Tryz.func161 (by kernel_rfl) (by kernel_rfl) λx h=>KE x.1 x.2.1 h
theorem ry (xs:List Int) (x:Int) (h:short xs):fnW Cf (look []) Lh Tryz.f100 (xs,x,()) (λ(z:Bool)=>z=fS xs x):=by
 refine Eq.mp (so xs x _) ?_
 unfold short at h
 refine Aj xs.length (λv=>v.1) (λj _=>x∉xs.take j) rfl (by simp) ?_
 rintro j ⟨i,⟨⟩⟩ K hj hi hR hK
 dsimp only at hi⊢
 subst hi
 refine Br.dec (λhl=>?_) λhl=>?_
 ·have hl:j<xs.length:=by omega
  refine ⟨_,An hl,⟨λhe=>?_,λhe=>?_⟩⟩
  ·have hm:=List.getElem_mem hl
   simp only [beq_iff_eq] at he
   rw [he] at hm
   exact (decide_eq_true hm).symm
  ·rw [Ah (by omega)]
   refine hK hl _ rfl ?_
   simp only [beq_eq_false_iff_ne,ne_eq] at he
   rw [List.take_succ_eq_append_getElem hl]
   simp only [List.mem_append,List.mem_singleton,not_or]
   exact ⟨hR,λhx=>he hx.symm⟩
 ·have:j=xs.length:=by omega
  subst this
  rw [List.take_length] at hR
  exact (decide_eq_false hR).symm
theorem jD:Sound Tryz.prog 100 Lh:=
 Sound.Cp Bg Ai mixed Tryz.func100 (by kernel_rfl) (by kernel_rfl) λx h=>ry x.1 x.2.1 h
theorem uE (a b:List Int) (hlen:a.length=b.length) (h:short a):
  Bm (λ(v3:Int×PUnit) (k4:Int×PUnit->Prop)=>
   Br (decide (v3.1<(↑a.length:Int))) (∃(y5:Int),idx a v3.1=some y5/\ ∃(y6:Int),idx b v3.1=some y6/\Br (y5 !=y6) (false=Av a b) (k4 (IntKind.i64.wrap (v3.1+1),())))
    (true=Av a b))
  (0,PUnit.unit):=by
 unfold short at h
 refine Aj a.length (λv=>v.1) (λj _=>a.take j=b.take j) rfl (by simp) ?_
 rintro j ⟨i,⟨⟩⟩ K hj hi hR hK
 dsimp only at hi⊢
 subst hi
 refine Br.dec (λhl=>?_) λhl=>?_
 ·have eI:j<a.length:=by omega
  have mO:j<b.length:=by omega
  refine ⟨_,An eI,_,An mO,⟨λhe=>?_,λhe=>?_⟩⟩
  ·simp only [bne_iff_ne,ne_eq] at he
   refine (decide_eq_false λgP=>he ?_).symm
   subst gP
   rfl
  ·rw [Ah (by omega)]
   refine hK eI _ rfl ?_
   simp only [bne_eq_false_iff_eq] at he
   rw [List.take_succ_eq_append_getElem eI,List.take_succ_eq_append_getElem mO,hR,he]
 ·have uR:j=a.length:=by omega
  subst uR
  rw [List.take_length,hlen,List.take_length] at hR
  exact (decide_eq_true hR).symm
theorem z6 (a b:List Int) (h:short a):fnW Cf (look []) Ap Tryz.f101 (a,b,()) (λ(z:Bool)=>z=Av a b):=by
 refine Eq.mp (zP a b _) ⟨λhl=>?_,λhl=>?_⟩
 ·simp only [bne_iff_ne,ne_eq,Int.natCast_inj] at hl
  exact (decide_eq_false λgP=>hl (by rw [gP])).symm
 ·simp only [bne_eq_false_iff_eq,Int.natCast_inj] at hl
  exact uE a b hl h
theorem Uh:Sound Tryz.prog 101 Ap:=
 Sound.Cp Bg Ai mixed Tryz.func101 (by kernel_rfl) (by kernel_rfl) λx h=>z6 x.1 x.2.1 h
theorem rF (a b:List Int) (h:short a):fnW Cf (look []) Ap Tryz.f139 (a,b,()) (λ(z:Bool)=>z=Av a b):=by
 refine Eq.mp (sv a b _) ⟨λhl=>?_,λhl=>?_⟩
 ·simp only [bne_iff_ne,ne_eq,Int.natCast_inj] at hl
  exact (decide_eq_false λgP=>hl (by rw [gP])).symm
 ·simp only [bne_eq_false_iff_eq,Int.natCast_inj] at hl
  exact uE a b hl h
theorem Yk:Sound Tryz.prog 139 Ap:=
 Sound.Cp Bg Ai mixed Tryz.func139 (by kernel_rfl) (by kernel_rfl) λx h=>rF x.1 x.2.1 h
end Go.Proofs.YtfolipnappekaaaGreat

namespace Go.Proofs.YtfolipnappekaaaGreat
open Go.RowKit
abbrev TT:Type:=List Int×List (List Int)×List Int×Unit
def Fm (xs:List (List Int)):Prop:=xs.length<=4294967296/\ ∀r∈xs,short r
def Kx (t:TT):Prop:=short t.1/\Fm t.2.1/\short t.2.2.1
def roomy (room:Int):Prop:=0<=room/\room<=4294967296
def kL (n:Nat) (room:Int):Int:=if room-n<0 then-1 else room-n
def Wu (xs:List Int) (room:Int):Int:=kL xs.length room
def ql:List (List Int)->Int->Int
 | [],room=>room
 |r::rs,room=>if Wu r room<0 then-1 else ql rs (Wu r room)
def Np (xs:List (List Int)) (room:Int):Int:=if kL xs.length room<0 then-1 else ql xs (kL xs.length room)
def Mw (t:TT) (room:Int):Int:=
 if Wu t.1 room<0 then-1 else if Np t.2.1 (Wu t.1 room)<0 then-1 else
 if Wu t.2.2.1 (Np t.2.1 (Wu t.1 room))<0 then-1 else Wu t.2.2.1 (Np t.2.1 (Wu t.1 room))
def Mf (a b:List (List Int)):Bool:=decide (a=b)
def Kh (a b:TT):Bool:=decide (a.1=b.1)&&(decide (a.2.1=b.2.1)&&decide (a.2.2.1=b.2.2.1))
noncomputable abbrev fX:Spec:=Cp (.pair tL (.pair tI .unit)) tI false true (λx=>short x.1/\roomy x.2.1) (λx=>Wu x.1 x.2.1)
noncomputable abbrev bD:Spec:=Cp (.pair cF (.pair tI .unit)) tI false true (λx=>Fm x.1/\roomy x.2.1) (λx=>Np x.1 x.2.1)
noncomputable abbrev Vq:Spec:=Cp (.pair Hp (.pair tI .unit)) tI false true (λx=>Kx x.1/\roomy x.2.1) (λx=>Mw x.1 x.2.1)
noncomputable abbrev Xc:Spec:=Cp (.pair tL .unit) tL false true (λx=>short x.1) (λx=>x.1)
noncomputable abbrev bE:Spec:=Cp (.pair cF .unit) cF false true (λx=>Fm x.1) (λx=>x.1)
noncomputable abbrev Vr:Spec:=Cp (.pair Hp .unit) Hp false true (λx=>Kx x.1) (λx=>x.1)
noncomputable abbrev Pb:Spec:=Cp (.pair cF (.pair cF .unit)) .bool false true (λx=>Fm x.1) (λx=>Mf x.1 x.2.1)
noncomputable abbrev Ev:Spec:=Cp (.pair Hp (.pair Hp .unit)) .bool false true (λx=>Kx x.1) (λx=>Kh x.1 x.2.1)
theorem Agk (xs:List Int) (room:Int) (P:Int->Prop):(Br (decide (IntKind.i64.wrap (room-(↑xs.length:Int))<0)) (P (-1)) (P (IntKind.i64.wrap (room-(↑xs.length:Int)))))=fnW Cf (look []) fX Tryz.f71 (xs,room,()) P:=by kernel_rfl
theorem Ack (xs:List (List Int)) (room:Int) (P:Int->Prop):(Br (decide (IntKind.i64.wrap (room-(↑xs.length:Int))<0)) (P (-1)) (Bm (λ(v3:Int×Int×PUnit) (k4:Int×Int×PUnit->Prop)=>Br (decide (v3.2.1<(↑xs.length:Int))) (∃(y5:List Int),idx xs v3.2.1=some y5/\ ∃(y6:Int),fX.fn (y5,v3.1,())=some y6/\Br (decide (y6<0)) (P (-1)) (k4 (y6,IntKind.i64.wrap (v3.2.1+1),()))) (P v3.1)) (IntKind.i64.wrap (room-(↑xs.length:Int)),0,PUnit.unit)))=fnW Cf (look [(71,fX)]) bD Tryz.f45 (xs,room,()) P:=by kernel_rfl
theorem MQ (t:List Int×List (List Int)×List Int×Unit) (room:Int) (P:Int->Prop):(∃(y3:Int),fX.fn (t.1,room,())=some y3/\Br (decide (y3<0)) (P (-1)) (∃(y4:Int),bD.fn (t.2.1,y3,())=some y4/\Br (decide (y4<0)) (P (-1)) (∃(y5:Int),fX.fn (t.2.2.1,y4,())=some y5/\Br (decide (y5<0)) (P (-1)) (P y5))))=fnW Cf (look [(71,fX),(45,bD)]) Vq Tryz.f46 (t,room,()) P:=by kernel_rfl
theorem Agm (xs:List Int) (P:List Int->Prop):((0<=(↑xs.length:Int)/\(↑xs.length:Int)<(↑Bh:Int)+1)/\(↑xs.length:Int)=(↑xs.length:Int)/\0=0/\(List.replicate (↑xs.length:Int).toNat (Int.ofNat 0)).length=(List.replicate (↑xs.length:Int).toNat (Int.ofNat 0)).length/\Bm (λ(v2:Int×List Int×PUnit) (k3:Int×List Int×PUnit->Prop)=>Br (decide (v2.1<(↑xs.length:Int))) (∃(y4:Int),idx xs v2.1=some y4/\(0<=v2.1/\v2.1<(↑v2.2.1.length:Int))/\0+v2.1.toNat<v2.2.1.length/\0=0/\v2.2.1.length=(v2.2.1.set (0+v2.1.toNat) y4).length/\k3 (IntKind.i64.wrap (v2.1+1),v2.2.1.set (0+v2.1.toNat) y4,())) (P (List.take v2.2.1.length (List.drop 0 v2.2.1)))) (0,List.replicate (↑xs.length:Int).toNat (Int.ofNat 0),PUnit.unit))=fnW Cf (look []) Xc Tryz.f18 (xs,()) P:=by kernel_rfl
theorem Acm (xs:List (List Int)) (P:List (List Int)->Prop):((0<=(↑xs.length:Int)/\(↑xs.length:Int)<(↑Bh:Int)+1)/\(↑xs.length:Int)=(↑xs.length:Int)/\0=0/\(List.replicate (↑xs.length:Int).toNat ([]:List Int)).length=(List.replicate (↑xs.length:Int).toNat ([]:List Int)).length/\Bm (λ(v2:Int×List (List Int)×PUnit) (k3:Int×List (List Int)×PUnit->Prop)=>Br (decide (v2.1<(↑xs.length:Int))) (∃(y4:List Int),idx xs v2.1=some y4/\ ∃(y5:List Int),Xc.fn (y4,())=some y5/\(0<=v2.1/\v2.1<(↑v2.2.1.length:Int))/\0+v2.1.toNat<v2.2.1.length/\0=0/\v2.2.1.length=(v2.2.1.set (0+v2.1.toNat) y5).length/\k3 (IntKind.i64.wrap (v2.1+1),v2.2.1.set (0+v2.1.toNat) y5,())) (P (List.take v2.2.1.length (List.drop 0 v2.2.1)))) (0,List.replicate (↑xs.length:Int).toNat ([]:List Int),PUnit.unit))=fnW Cf (look [(18,Xc)]) bE Tryz.f49 (xs,()) P:=by kernel_rfl
theorem MR (t:List Int×List (List Int)×List Int×Unit) (P:(List Int×List (List Int)×List Int×Unit)->Prop):(∃(y2:List Int),Xc.fn (t.1,())=some y2/\ ∃(y3:List (List Int)),bE.fn (t.2.1,())=some y3/\ ∃(y4:List Int),Xc.fn (t.2.2.1,())=some y4/\P (y2,y3,y4,()))=fnW Cf (look [(18,Xc),(49,bE)]) Vr Tryz.f50 (t,()) P:=by kernel_rfl
theorem Agf (a b:List Int) (P:Bool->Prop):(Br ((↑a.length:Int) !=(↑b.length:Int)) (P false) (Bm (λ(v3:Int×PUnit) (k4:Int×PUnit->Prop)=>Br (decide (v3.1<(↑a.length:Int))) (∃(y5:Int),idx a v3.1=some y5/\ ∃(y6:Int),idx b v3.1=some y6/\Br (y5 !=y6) (P false) (k4 (IntKind.i64.wrap (v3.1+1),()))) (P true)) (0,PUnit.unit)))=fnW Cf (look []) Ap Tryz.f22 (a,b,()) P:=by kernel_rfl
theorem Aca (a b:List (List Int)) (P:Bool->Prop):(Br ((↑a.length:Int) !=(↑b.length:Int)) (P false) (Bm (λ(v3:Int×PUnit) (k4:Int×PUnit->Prop)=>Br (decide (v3.1<(↑a.length:Int))) (∃(y5:List Int),idx a v3.1=some y5/\ ∃(y6:List Int),idx b v3.1=some y6/\ ∃(y7:Bool),Ap.fn (y5,y6,())=some y7/\Br (!y7) (P false) (k4 (IntKind.i64.wrap (v3.1+1),()))) (P true)) (0,PUnit.unit)))=fnW Cf (look [(22,Ap)]) Pb Tryz.f53 (a,b,()) P:=by kernel_rfl
theorem MD (a b:List Int×List (List Int)×List Int×Unit) (P:Bool->Prop):(∃(y3:Bool),Ap.fn (a.1,b.1,())=some y3/\Br (!y3) (P false) (∃(y4:Bool),Pb.fn (a.2.1,b.2.1,())=some y4/\Br (!y4) (P false) (∃(y5:Bool),Ap.fn (a.2.2.1,b.2.2.1,())=some y5/\Br (!y5) (P false) (P true))))=fnW Cf (look [(22,Ap),(53,Pb)]) Ev Tryz.f54 (a,b,()) P:=by kernel_rfl
theorem Vg {n:Nat} {room:Int} (h:roomy room) (h2: ¬kL n room<0):roomy (kL n room):=by
 unfold kL roomy at*
 split at h2<;>simp_all
 omega
theorem Afv (xs:List Int) (room:Int) (h:short xs/\roomy room):fnW Cf (look []) fX Tryz.f71 (xs,room,()) (λ(z:Int)=>z=Wu xs room):=by
 obtain ⟨h1,h2,h3⟩:=h
 unfold short at h1
 refine Eq.mp (Agk xs room _) ?_
 rw [Cl (by omega) (by omega)]
 refine Br.dec (λh=>?_) λh=>?_
 ·simp only [Wu,kL,if_pos h]
 ·simp only [Wu,kL,if_neg h]
theorem u9:Sound Tryz.prog 71 fX:=
 Sound.Cp Bg Ai mixed Tryz.func71 (by kernel_rfl) (by kernel_rfl) λx h=>Afv x.1 x.2.1 h
theorem Abs (xs:List (List Int)) (room:Int) (h:Fm xs/\roomy room):fnW Cf (look [(71,fX)]) bD Tryz.f45 (xs,room,()) (λ(z:Int)=>z=Np xs room):=by
 obtain ⟨⟨h1,h4⟩,h2,h3⟩:=h
 refine Eq.mp (Ack xs room _) ?_
 rw [Cl (by omega) (by omega)]
 refine Br.dec (λh=>?_) λh=>?_
 ·simp only [Np,kL,if_pos h];rfl
 ·refine Aj xs.length (λv=>v.2.1) (λj v=>roomy v.1/\ql (xs.drop j) v.1=Np xs room) rfl ?_ ?_
  ·refine ⟨by unfold roomy;omega,?_⟩
   simp only [Np,kL,if_neg h,List.drop_zero]
  ·rintro j ⟨r,i,⟨⟩⟩ K hj hi ⟨hr,hR⟩ hK
   dsimp only at hi hr hR⊢
   subst hi
   refine Br.dec (λhl=>?_) λhl=>?_
   ·have hl:j<xs.length:=by omega
    have hd:xs.drop j=xs[j]::xs.drop (j+1):=List.drop_eq_getElem_cons hl
    refine ⟨_,An hl,_,if_pos ⟨h4 _ (List.getElem_mem hl),hr⟩,?_⟩
    rw [hd] at hR
    simp only [ql] at hR
    refine Br.dec (λhn=>?_) λhn=>?_
    ·have hn:Wu xs[j] r<0:=hn
     rw [if_pos hn] at hR
     exact hR
    ·have hn: ¬Wu xs[j] r<0:=hn
     rw [if_neg hn] at hR
     rw [Ah (by omega)]
     exact hK hl _ rfl ⟨Vg hr hn,hR⟩
   ·have:j=xs.length:=by omega
    subst this
    rw [List.drop_length] at hR
    exact hR
theorem qd:Sound Tryz.prog 45 bD:=
 Sound.Cp Bg (Ae u9 Ai) mixed Tryz.func45 (by kernel_rfl) (by kernel_rfl) λx h=>Abs x.1 x.2.1 h
theorem ua: ∀(xs:List (List Int)) (room:Int),roomy room-> ¬ql xs room<0->roomy (ql xs room)
 | [],room,h,_=>h
 |r::rs,room,h,h2=>by
  simp only [ql] at h2⊢
  split
  ·rename_i hn;rw [if_pos hn] at h2;exact absurd (show (-1:Int)<0 by decide) h2
  ·rename_i hn;rw [if_neg hn] at h2;exact ua rs _ (Vg h hn) h2
theorem mb {xs:List (List Int)} {room:Int} (h:roomy room) (h2: ¬Np xs room<0):roomy (Np xs room):=by
 unfold Np at*
 split
 ·rename_i hn;rw [if_pos hn] at h2;exact absurd (show (-1:Int)<0 by decide) h2
 ·rename_i hn;rw [if_neg hn] at h2;exact ua _ _ (Vg h hn) h2
theorem KN (t:TT) (room:Int) (h:Kx t/\roomy room):fnW Cf (look [(71,fX),(45,bD)]) Vq Tryz.f46 (t,room,()) (λ(z:Int)=>z=Mw t room):=by
 obtain ⟨⟨h1,h2,h3⟩,hr⟩:=h
 refine Eq.mp (MQ t room _) ?_
 refine ⟨_,if_pos ⟨h1,hr⟩,Br.dec (λhn=>?_) λhn=>?_⟩
 ·exact (if_pos hn).symm
 ·have r1:=Vg hr hn
  refine ⟨_,if_pos ⟨h2,r1⟩,Br.dec (λhm=>?_) λhm=>?_⟩
  ·exact ((if_neg hn).trans (if_pos hm)).symm
  ·have r2:=mb r1 hm
   refine ⟨_,if_pos ⟨h3,r2⟩,Br.dec (λhk=>?_) λhk=>?_⟩
   ·exact ((if_neg hn).trans ((if_neg hm).trans (if_pos hk))).symm
   ·exact ((if_neg hn).trans ((if_neg hm).trans (if_neg hk))).symm
theorem sd:Sound Tryz.prog 46 Vq:=
 Sound.Cp Bg (Ae u9 (Ae qd Ai)) mixed Tryz.func46 (by kernel_rfl) (by kernel_rfl) λx h=>KN x.1 x.2.1 h
theorem Lk {α:Type} {ys xs:List α} {j:Nat} (h:j<xs.length) (hl:ys.length=xs.length) (ht:ys.take j=xs.take j):(ys.set j xs[j]).take (j+1)=xs.take (j+1):=by
 have h1:j<(ys.set j xs[j]).length:=by rw [List.length_set];omega
 rw [List.take_succ_eq_append_getElem h1,List.take_succ_eq_append_getElem h,List.getElem_set_self,List.take_set_of_le (Nat.le_refl j),ht]
theorem Afx (xs:List Int) (h:short xs):fnW Cf (look []) Xc Tryz.f18 (xs,()) (λ(z:List Int)=>z=xs):=by
 unfold short at h
 refine Eq.mp (Agm xs _) ?_
 refine ⟨⟨by omega,by show (xs.length:Int)<(4294967296:Int)+1;omega⟩,rfl,rfl,rfl,?_⟩
 refine Aj xs.length (λv=>v.1) (λj v=>v.2.1.length=xs.length/\v.2.1.take j=xs.take j) rfl ⟨by simp,by simp⟩ ?_
 rintro j ⟨i,ys,⟨⟩⟩ K hj hi ⟨h1,h2⟩ hK
 dsimp only at hi h1 h2⊢
 subst hi
 refine Br.dec (λhl=>?_) λhl=>?_
 ·have hl:j<xs.length:=by omega
  refine ⟨_,An hl,⟨by omega,by omega⟩,by rw [Int.toNat_natCast];omega,rfl,by rw [List.length_set],?_⟩
  rw [Ah (by omega),Int.toNat_natCast,Nat.zero_add]
  exact hK hl _ rfl ⟨by rw [List.length_set];exact h1,Lk hl h1 h2⟩
 ·have:j=xs.length:=by omega
  subst this
  rw [List.take_length,<-h1,List.take_length] at h2
  rw [List.drop_zero,List.take_length]
  exact h2
theorem lx:Sound Tryz.prog 18 Xc:=
 Sound.Cp Bg Ai mixed Tryz.func18 (by kernel_rfl) (by kernel_rfl) λx h=>Afx x.1 h
theorem Abu (xs:List (List Int)) (h:Fm xs):fnW Cf (look [(18,Xc)]) bE Tryz.f49 (xs,()) (λ(z:List (List Int))=>z=xs):=by
 obtain ⟨h,h4⟩:=h
 refine Eq.mp (Acm xs _) ?_
 refine ⟨⟨by omega,by show (xs.length:Int)<(4294967296:Int)+1;omega⟩,rfl,rfl,rfl,?_⟩
 refine Aj xs.length (λv=>v.1) (λj v=>v.2.1.length=xs.length/\v.2.1.take j=xs.take j) rfl ⟨by simp,by simp⟩ ?_
 rintro j ⟨i,ys,⟨⟩⟩ K hj hi ⟨h1,h2⟩ hK
 dsimp only at hi h1 h2⊢
 subst hi
 refine Br.dec (λhl=>?_) λhl=>?_
 ·have hl:j<xs.length:=by omega
  refine ⟨_,An hl,_,if_pos (h4 _ (List.getElem_mem hl)),⟨by omega,by omega⟩,by rw [Int.toNat_natCast];omega,rfl,by rw [List.length_set],?_⟩
  rw [Ah (by omega),Int.toNat_natCast,Nat.zero_add]
  exact hK hl _ rfl ⟨by rw [List.length_set];exact h1,Lk hl h1 h2⟩
 ·have:j=xs.length:=by omega
  subst this
  rw [List.take_length,<-h1,List.take_length] at h2
  rw [List.drop_zero,List.take_length]
  exact h2
theorem qf:Sound Tryz.prog 49 bE:=
 Sound.Cp Bg (Ae lx Ai) mixed Tryz.func49 (by kernel_rfl) (by kernel_rfl) λx h=>Abu x.1 h
theorem KO (t:TT) (h:Kx t):fnW Cf (look [(18,Xc),(49,bE)]) Vr Tryz.f50 (t,()) (λ(z:TT)=>z=t):=by
 refine Eq.mp (MR t _) ?_
 exact ⟨_,if_pos h.1,_,if_pos h.2.1,_,if_pos h.2.2,rfl⟩
theorem se:Sound Tryz.prog 50 Vr:=
 Sound.Cp Bg (Ae lx (Ae qf Ai)) mixed Tryz.func50 (by kernel_rfl) (by kernel_rfl) λx h=>KO x.1 h
theorem Afq (a b:List Int) (h:short a):fnW Cf (look []) Ap Tryz.f22 (a,b,()) (λ(z:Bool)=>z=Av a b):=by
 refine Eq.mp (Agf a b _) ⟨λhl=>?_,λhl=>?_⟩
 ·simp only [bne_iff_ne,ne_eq,Int.natCast_inj] at hl
  exact (decide_eq_false λgP=>hl (by rw [gP])).symm
 ·simp only [bne_eq_false_iff_eq,Int.natCast_inj] at hl
  exact uE a b hl h
theorem lp:Sound Tryz.prog 22 Ap:=
 Sound.Cp Bg Ai mixed Tryz.func22 (by kernel_rfl) (by kernel_rfl) λx h=>Afq x.1 x.2.1 h
theorem Abj (a b:List (List Int)) (h:Fm a):fnW Cf (look [(22,Ap)]) Pb Tryz.f53 (a,b,()) (λ(z:Bool)=>z=Mf a b):=by
 obtain ⟨h,h4⟩:=h
 refine Eq.mp (Aca a b _) ⟨λhl=>?_,λhl=>?_⟩
 ·simp only [bne_iff_ne,ne_eq,Int.natCast_inj] at hl
  exact (decide_eq_false λgP=>hl (by rw [gP])).symm
 ·simp only [bne_eq_false_iff_eq,Int.natCast_inj] at hl
  refine Aj a.length (λv=>v.1) (λj _=>a.take j=b.take j) rfl (by simp) ?_
  rintro j ⟨i,⟨⟩⟩ K hj hi hR hK
  dsimp only at hi⊢
  subst hi
  refine Br.dec (λGc=>?_) λGc=>?_
  ·have eI:j<a.length:=by omega
   have mO:j<b.length:=by omega
   refine ⟨_,An eI,_,An mO,_,if_pos (h4 _ (List.getElem_mem eI)),⟨λhe=>?_,λhe=>?_⟩⟩
   ·refine (decide_eq_false λgP=>?_).symm
    subst gP
    simp [Av] at he
   ·rw [Ah (by omega)]
    refine hK eI _ rfl ?_
    simp only [Av,Bool.not_eq_false',decide_eq_true_eq] at he
    rw [List.take_succ_eq_append_getElem eI,List.take_succ_eq_append_getElem mO,hR]
    exact congrArg (λx=>List.take j b++ [x]) he
  ·have uR:j=a.length:=by omega
   subst uR
   rw [List.take_length,hl,List.take_length] at hR
   exact (decide_eq_true hR).symm
theorem pY:Sound Tryz.prog 53 Pb:=
 Sound.Cp Bg (Ae lp Ai) mixed Tryz.func53 (by kernel_rfl) (by kernel_rfl) λx h=>Abj x.1 x.2.1 h
theorem JY (a b:TT) (h:Kx a):fnW Cf (look [(22,Ap),(53,Pb)]) Ev Tryz.f54 (a,b,()) (λ(z:Bool)=>z=Kh a b):=by
 refine Eq.mp (MD a b _) ?_
 refine ⟨_,if_pos h.1,⟨λh1=>?_,λh1=>?_⟩⟩
 ·have h1:(!Av a.1 b.1)=true:=h1
  simp only [Av] at h1
  unfold Kh
  cases hd:decide (a.1=b.1)<;>simp_all
 ·have h1:(!Av a.1 b.1)=false:=h1
  simp only [Av] at h1
  refine ⟨_,if_pos h.2.1,⟨λh2=>?_,λh2=>?_⟩⟩
  ·have h2:(!Mf a.2.1 b.2.1)=true:=h2
   simp only [Mf] at h2
   unfold Kh
   cases hd:decide (a.2.1=b.2.1)<;>simp_all
  ·have h2:(!Mf a.2.1 b.2.1)=false:=h2
   simp only [Mf] at h2
   refine ⟨_,if_pos h.2.2,⟨λh3=>?_,λh3=>?_⟩⟩
   ·have h3:(!Av a.2.2.1 b.2.2.1)=true:=h3
    simp only [Av] at h3
    unfold Kh
    cases hd:decide (a.2.2.1=b.2.2.1)<;>simp_all
   ·have h3:(!Av a.2.2.1 b.2.2.1)=false:=h3
    simp only [Av] at h3
    unfold Kh
    simp_all
theorem rT:Sound Tryz.prog 54 Ev:=
 Sound.Cp Bg (Ae lp (Ae pY Ai)) mixed Tryz.func54 (by kernel_rfl) (by kernel_rfl) λx h=>JY x.1 x.2.1 h
end Go.Proofs.YtfolipnappekaaaGreat

namespace Go.Proofs.YtfolipnappekaaaGreat
open Go.RowKit
def PL (n:Int) (xs:List Int) (k:Nat):Prop:= ∀j (h:j<xs.length),j<k->0<=xs[j]/\xs[j]<=n-1/\(0<j->xs[j-1]<xs[j])
def DL (n:Int) (xs:List Int) (k:Nat):Prop:= ∀j (h:j<xs.length),j<k->0<=xs[j]/\xs[j]<=n-1/\xs[j]∉xs.take j
noncomputable def dec (p:Prop):Bool:= @decide p (Classical.propDecidable p)
theorem Js {p:Prop} (h:p):true=dec p:=(@decide_eq_true p (Classical.propDecidable p) h).symm
theorem Bk {p:Prop} (h: ¬p):false=dec p:=(@decide_eq_false p (Classical.propDecidable p) h).symm
theorem Ed {p:Prop} :dec p=true↔p:= @decide_eq_true_iff p (Classical.propDecidable p)
theorem UF {p:Prop} :dec p=false↔ ¬p:= @decide_eq_false_iff_not p (Classical.propDecidable p)
def nOK (n:Int):Prop:=0<=n/\n<=4294967296
noncomputable def Tm (n:Int) (xs:List Int):Bool:=dec (0<xs.length/\PL n xs xs.length)
noncomputable abbrev Gh:Spec:=Cp (.pair tI (.pair tL .unit)) .bool false true (λx=>nOK x.1/\short x.2.1) (λx=>Tm x.1 x.2.1)
noncomputable abbrev eU:Spec:=Cp (.pair cF .unit) tI false true (λ_=>True) (λx=>(List.length x.1:Int))
theorem su (n:Int) (xs:List Int) (P:Bool->Prop):(∃(y3:Bool),Bq.fn ((↑xs.length:Int),(1:Int),n,())=some y3/\Br (!y3) (P false) (Bm (λ(v4:Int×PUnit) (k5:Int×PUnit->Prop)=>Br (decide (v4.1<(↑xs.length:Int))) (∃(y6:Int),idx xs v4.1=some y6/\ ∃(y7:Bool),Bq.fn (y6,(0:Int),IntKind.i64.wrap (n-(1:Int)),())=some y7/\Br (!y7) (P false) (Br (decide (v4.1>(0:Int))) (∃(y8:Int),idx xs v4.1=some y8/\ ∃(y9:Int),idx xs (IntKind.i64.wrap (v4.1-(1:Int)))=some y9/\Br (decide (y8<=y9)) (P false) (k5 (IntKind.i64.wrap (v4.1+(1:Int)),()))) (k5 (IntKind.i64.wrap (v4.1+(1:Int)),())))) (P true)) ((0:Int),PUnit.unit)))=fnW Cf (look [(88,Bq)]) Gh Tryz.f160 (n,xs,()) P:=by kernel_rfl
theorem zS (n:Int) (xs:List Int) (P:Bool->Prop):(Bm (λ(v3:Int×PUnit) (k4:Int×PUnit->Prop)=>Br (decide (v3.1<(↑xs.length:Int))) (∃(y5:Int),idx xs v3.1=some y5/\ ∃(y6:Bool),Vl.fn (n,y5,())=some y6/\Br (!y6) (P false) (Br (decide (v3.1>(0:Int))) (∃(y7:Int),idx xs (IntKind.i64.wrap (v3.1-(1:Int)))=some y7/\Br (decide (y7>=y5)) (P false) (k4 (IntKind.i64.wrap (v3.1+(1:Int)),()))) (k4 (IntKind.i64.wrap (v3.1+(1:Int)),())))) (P (decide ((↑xs.length:Int)>(0:Int))))) ((0:Int),PUnit.unit))=fnW Cf (look [(161,Vl)]) Gh Tryz.f159 (n,xs,()) P:=by kernel_rfl
theorem WT (xs:List (List Int)) (P:Int->Prop):(P (↑xs.length:Int))=fnW Cf (look []) eU Tryz.f108 (xs,()) P:=by kernel_rfl
theorem VS (xs:List (List Int)) (_:True):fnW Cf (look []) eU Tryz.f108 (xs,()) (λ(z:Int)=>z=(xs.length:Int)):=Eq.mp (WT xs _) rfl
theorem zu:Sound Tryz.prog 108 eU:=
 Sound.Cp Bg Ai mixed Tryz.func108 (by kernel_rfl) (by kernel_rfl) λx h=>VS x.1 h
theorem ma {n x:Int} (hn:nOK n):eN n x=true↔0<=x/\x<=n-1:=by
 unfold eN nOK at*
 rw [Cl (by omega) (by omega),decide_eq_true_iff]
theorem Cv {x a b:Int} :Hw x a b=true↔a<=x/\x<=b:=decide_eq_true_iff
theorem Db {b:Bool} (h:(!b)=true): ¬b=true:=by cases b<;>simp_all
theorem Dr {b:Bool} (h:(!b)=false):b=true:=by cases b<;>simp_all
theorem DV {n:Int} {xs:List Int} (h:PL n xs xs.length): ∀j (hj:j<xs.length),(j:Int)<=xs[j]
 |0,hj=>(h 0 hj hj).1
 |j+1,hj=>by
  have h1:=DV h j (by omega)
  have h2:=(h (j+1) hj hj).2.2 (by omega)
  simp only [Nat.add_sub_cancel] at h2
  omega
theorem nF {n:Int} {xs:List Int} {j:Nat} (hl:j<xs.length) (h:PL n xs j) (h1:0<=xs[j]) (h2:xs[j]<=n-1) (h3:0<j->xs[j-1]<xs[j]):PL n xs (j+1):=by
 intro i hi kE
 by_cases e:i=j
 ·subst e;exact ⟨h1,h2,h3⟩
 ·exact h i hi (by omega)
theorem z9 (n:Int) (xs:List Int) (h:nOK n/\short xs):fnW Cf (look [(161,Vl)]) Gh Tryz.f159 (n,xs,()) (λ(z:Bool)=>z=Tm n xs):=by
 obtain ⟨hn,h⟩:=h
 unfold short at h
 refine Eq.mp (zS n xs _) ?_
 refine Aj xs.length (λv=>v.1) (λj _=>PL n xs j) rfl (λj _ hj=>absurd hj (Nat.not_lt_zero _)) ?_
 rintro j ⟨i,⟨⟩⟩ K hj hi hR hK
 dsimp only at hi⊢
 subst hi
 refine Br.dec (λhl=>?_) λhl=>?_
 ·have hl:j<xs.length:=by omega
  refine ⟨_,An hl,_,if_pos trivial,⟨λhp=>?_,λhp=>?_⟩⟩
  ·have hp:=Db hp
   rw [ma hn] at hp
   exact Bk λhh=>hp ⟨(hh.2 j hl hl).1,(hh.2 j hl hl).2.1⟩
  ·have hp:=Dr hp
   rw [ma hn] at hp
   refine Br.dec (λh0=>?_) λh0=>?_
   ·have h0:0<j:=by omega
    rw [Cl (by omega) (by omega),show (j:Int)-1=((j-1:Nat):Int) by omega]
    refine ⟨_,An (by omega),Br.dec (λhg=>?_) λhg=>?_⟩
    ·exact Bk λhh=>by have:=(hh.2 j hl hl).2.2 h0;omega
    ·rw [Ah (by omega)]
     exact hK hl _ rfl (nF hl hR hp.1 hp.2 λ_=>by omega)
   ·have h0:j=0:=by omega
    rw [Ah (by omega)]
    exact hK hl _ rfl (nF hl hR hp.1 hp.2 λh=>by omega)
 ·have:j=xs.length:=by omega
  subst this
  by_cases h0:0<xs.length
  ·rw [decide_eq_true (show (xs.length:Int)>0 by omega)];exact Js ⟨h0,hR⟩
  ·rw [decide_eq_false (show ¬(xs.length:Int)>0 by omega)];exact Bk λhh=>h0 hh.1
theorem nc:Sound Tryz.prog 159 Gh:=
 Sound.Cp Bg (Ae rY Ai) mixed Tryz.func159 (by kernel_rfl) (by kernel_rfl) λx h=>z9 x.1 x.2.1 h
theorem rE (n:Int) (xs:List Int) (h:nOK n/\short xs):fnW Cf (look [(88,Bq)]) Gh Tryz.f160 (n,xs,()) (λ(z:Bool)=>z=Tm n xs):=by
 obtain ⟨hn,h⟩:=h
 unfold short at h
 refine Eq.mp (su n xs _) ⟨_,if_pos trivial,⟨λhp=>?_,λhp=>?_⟩⟩
 ·have hp:=Db hp
  rw [Cv] at hp
  dsimp only at hp
  refine Bk λhh=>hp ⟨by omega,?_⟩
  have:=DV hh.2 (xs.length-1) (by omega)
  have:=(hh.2 (xs.length-1) (by omega) (by omega)).2.1
  omega
 ·have hp:=Dr hp
  rw [Cv] at hp
  dsimp only at hp
  refine Aj xs.length (λv=>v.1) (λj _=>PL n xs j) rfl (λj _ hj=>absurd hj (Nat.not_lt_zero _)) ?_
  rintro j ⟨i,⟨⟩⟩ K hj hi hR hK
  dsimp only at hi⊢
  subst hi
  refine Br.dec (λhl=>?_) λhl=>?_
  ·have hl:j<xs.length:=by omega
   refine ⟨_,An hl,_,if_pos trivial,⟨λhq=>?_,λhq=>?_⟩⟩
   ·have hq:=Db hq
    unfold nOK at hn
    rw [Cv,Cl (by omega) (by omega)] at hq
    exact Bk λhh=>hq ⟨(hh.2 j hl hl).1,(hh.2 j hl hl).2.1⟩
   ·have hq:=Dr hq
    unfold nOK at hn
    rw [Cv,Cl (by omega) (by omega)] at hq
    refine Br.dec (λh0=>?_) λh0=>?_
    ·have h0:0<j:=by omega
     rw [Cl (by omega) (by omega),show (j:Int)-1=((j-1:Nat):Int) by omega]
     refine ⟨_,An hl,_,An (by omega),Br.dec (λhg=>?_) λhg=>?_⟩
     ·exact Bk λhh=>by have:=(hh.2 j hl hl).2.2 h0;omega
     ·rw [Ah (by omega)]
      exact hK hl _ rfl (nF hl hR hq.1 hq.2 λ_=>by omega)
    ·rw [Ah (by omega)]
     exact hK hl _ rfl (nF hl hR hq.1 hq.2 λh=>by omega)
  ·have:j=xs.length:=by omega
   subst this
   exact Js ⟨by omega,hR⟩
theorem jF:Sound Tryz.prog 160 Gh:=
 Sound.Cp Bg (Ae Zf Ai) mixed Tryz.func160 (by kernel_rfl) (by kernel_rfl) λx h=>rE x.1 x.2.1 h
theorem UG {n:Int} {xs:List Int} {j:Nat} (hl:j<xs.length) (h:DL n xs j) (h1:0<=xs[j]) (h2:xs[j]<=n-1) (h3:xs[j]∉xs.take j):DL n xs (j+1):=by
 intro i hi kE
 by_cases e:i=j
 ·subst e;exact ⟨h1,h2,h3⟩
 ·exact h i hi (by omega)
theorem EJ {xs:List Int} (h:short xs) (j:Nat):short (xs.take j):=by
 unfold short at*
 rw [List.length_take]
 omega
end Go.Proofs.YtfolipnappekaaaGreat

namespace Go.Proofs.YtfolipnappekaaaGreat
open Go.RowKit
noncomputable abbrev Si:Spec:=Cp (.pair cF (.pair cF (.pair (.clo 154 .unit) .unit))) .bool false true (λx=>Fm x.1) (λx=>Mf x.1 x.2.1)
theorem Agj (a b:List Int) (P:Bool->Prop):(∃(y3:Bool),Ap.fn (a,b,())=some y3/\P y3)=fnW Cf (look [(139,Ap)]) Ap Tryz.f154 (a,b,()) P:=by kernel_rfl
theorem FJ (a b:List (List Int)) (c:Unit) (P:Bool->Prop):(Br ((↑a.length:Int) !=(↑b.length:Int)) (P false) (Bm (λ(v4:Int×PUnit) (k5:Int×PUnit->Prop)=>Br (decide (v4.1<(↑a.length:Int))) (∃(y6:List Int),idx a v4.1=some y6/\ ∃(y7:List Int),idx b v4.1=some y7/\ ∃(y8:Bool),Ap.fn (y6,y7,())=some y8/\Br (!y8) (P false) (k5 (IntKind.i64.wrap (v4.1+(1:Int)),()))) (P true)) ((0:Int),PUnit.unit)))=fnW Cf (look [(154,Ap)]) Si Tryz.f153 (a,b,c,()) P:=by kernel_rfl
theorem np (a b:List (List Int)) (P:Bool->Prop):(∃(y3:Bool),Si.fn (a,b,(),())=some y3/\P y3)=fnW Cf (look [(153,Si)]) Pb Tryz.f140 (a,b,()) P:=by kernel_rfl
theorem nm (a b:List Int×List (List Int)×List Int×Unit) (P:Bool->Prop):(∃(y3:Bool),Ap.fn (a.1,b.1,())=some y3/\Br y3 (∃(y4:Bool),Pb.fn (a.2.1,b.2.1,())=some y4/\Br y4 (∃(y5:Bool),Ap.fn (a.2.2.1,b.2.2.1,())=some y5/\P y5) (P false)) (P false))=fnW Cf (look [(139,Ap),(140,Pb)]) Ev Tryz.f114 (a,b,()) P:=by kernel_rfl
abbrev aC:Type:=Int×List Int×List (List Int)×List Int×List Int×List (List Int)×List Int×PUnit
theorem nq (a b:List Int×List (List Int)×List Int×Unit) (P:Bool->Prop):(∃(y3:Bool),Ap.fn (a.1,b.1,())=some y3/\Br (!y3) (P false) (∃(y4:Bool),Ap.fn (a.2.2.1,b.2.2.1,())=some y4/\Br (!y4) (P false) (Br ((↑a.2.1.length:Int) !=(↑b.2.1.length:Int)) (P false) (Bm (λ(v5:aC) (k6:aC->Prop)=>Br (decide (v5.1<(↑v5.2.2.1.length:Int))) (∃(y7:List Int),idx v5.2.2.1 v5.1=some y7/\ ∃(y8:List Int),idx v5.2.2.2.2.2.1 v5.1=some y8/\ ∃(y9:Bool),Ap.fn (y7,y8,())=some y9/\Br (!y9) (P false) (k6 (IntKind.i64.wrap (v5.1+(1:Int)),v5.2.1,v5.2.2.1,v5.2.2.2.1,v5.2.2.2.2.1,v5.2.2.2.2.2.1,v5.2.2.2.2.2.2.1,()))) (P true)) ((0:Int),a.1,a.2.1,a.2.2.1,b.1,b.2.1,b.2.2.1,PUnit.unit)))))=fnW Cf (look [(101,Ap)]) Ev Tryz.f126 (a,b,()) P:=by kernel_rfl
theorem Afu (a b:List Int) (h:short a):fnW Cf (look [(139,Ap)]) Ap Tryz.f154 (a,b,()) (λ(z:Bool)=>z=Av a b):=by
 refine Eq.mp (Agj a b _) ⟨_,if_pos h,rfl⟩
theorem LM:Sound Tryz.prog 154 Ap:=
 Sound.Cp Bg (Ae Yk Ai) mixed Tryz.func154 (by kernel_rfl) (by kernel_rfl) λx h=>Afu x.1 x.2.1 h
theorem DK (a b:List (List Int)) (c:Unit) (h:Fm a):fnW Cf (look [(154,Ap)]) Si Tryz.f153 (a,b,c,()) (λ(z:Bool)=>z=Mf a b):=by
 obtain ⟨h,h4⟩:=h
 refine Eq.mp (FJ a b c _) ⟨λhl=>?_,λhl=>?_⟩
 ·simp only [bne_iff_ne,ne_eq,Int.natCast_inj] at hl
  exact (decide_eq_false λgP=>hl (by rw [gP])).symm
 ·simp only [bne_eq_false_iff_eq,Int.natCast_inj] at hl
  refine Aj a.length (λv=>v.1) (λj _=>a.take j=b.take j) rfl (by simp) ?_
  rintro j ⟨i,⟨⟩⟩ K hj hi hR hK
  dsimp only at hi⊢
  subst hi
  refine Br.dec (λGc=>?_) λGc=>?_
  ·have eI:j<a.length:=by omega
   have mO:j<b.length:=by omega
   refine ⟨_,An eI,_,An mO,_,if_pos (h4 _ (List.getElem_mem eI)),⟨λhe=>?_,λhe=>?_⟩⟩
   ·refine (decide_eq_false λgP=>?_).symm
    subst gP
    simp [Av] at he
   ·rw [Ah (by omega)]
    refine hK eI _ rfl ?_
    simp only [Av,Bool.not_eq_false',decide_eq_true_eq] at he
    rw [List.take_succ_eq_append_getElem eI,List.take_succ_eq_append_getElem mO,hR]
    exact congrArg (λx=>List.take j b++ [x]) he
  ·have uR:j=a.length:=by omega
   subst uR
   rw [List.take_length,hl,List.take_length] at hR
   exact (decide_eq_true hR).symm
theorem pX:Sound Tryz.prog 153 Si:=
 Sound.Cp Bg (Ae LM Ai) mixed Tryz.func153 (by kernel_rfl) (by kernel_rfl) λx h=>DK x.1 x.2.1 x.2.2.1 h
theorem mT (a b:List (List Int)) (h:Fm a):fnW Cf (look [(153,Si)]) Pb Tryz.f140 (a,b,()) (λ(z:Bool)=>z=Mf a b):=by
 refine Eq.mp (np a b _) ⟨_,if_pos h,rfl⟩
theorem fp:Sound Tryz.prog 140 Pb:=
 Sound.Cp Bg (Ae pX Ai) mixed Tryz.func140 (by kernel_rfl) (by kernel_rfl) λx h=>mT x.1 x.2.1 h
theorem mS (a b:TT) (h:Kx a):fnW Cf (look [(139,Ap),(140,Pb)]) Ev Tryz.f114 (a,b,()) (λ(z:Bool)=>z=Kh a b):=by
 refine Eq.mp (nm a b _) ⟨_,if_pos h.1,⟨λh1=>⟨_,if_pos h.2.1,⟨λh2=>⟨_,if_pos h.2.2,?_⟩,λh2=>?_⟩⟩,λh1=>?_⟩⟩
 ·have h1:Av a.1 b.1=true:=h1
  have h2:Mf a.2.1 b.2.1=true:=h2
  simp only [Av,Mf] at h1 h2
  show Av a.2.2.1 b.2.2.1=_
  unfold Kh Av
  rw [h1,h2];rfl
 ·have h1:Av a.1 b.1=true:=h1
  have h2:Mf a.2.1 b.2.1=false:=h2
  simp only [Av,Mf] at h1 h2
  unfold Kh
  rw [h1,h2];rfl
 ·have h1:Av a.1 b.1=false:=h1
  simp only [Av] at h1
  unfold Kh
  rw [h1];rfl
theorem fo:Sound Tryz.prog 114 Ev:=
 Sound.Cp Bg (Ae Yk (Ae fp Ai)) mixed Tryz.func114 (by kernel_rfl) (by kernel_rfl) λx h=>mS x.1 x.2.1 h
theorem mU (a b:TT) (h:Kx a):fnW Cf (look [(101,Ap)]) Ev Tryz.f126 (a,b,()) (λ(z:Bool)=>z=Kh a b):=by
 obtain ⟨iv,⟨qK,hs4⟩,hs3⟩:=h
 refine Eq.mp (nq a b _) ⟨_,if_pos iv,⟨λh1=>?_,λh1=>⟨_,if_pos hs3,⟨λh2=>?_,λh2=>⟨λh3=>?_,λh3=>?_⟩⟩⟩⟩⟩
 ·have h1:(!Av a.1 b.1)=true:=h1
  simp only [Av,Bool.not_eq_true'] at h1
  show _=Kh a b
  unfold Kh
  rw [h1];rfl
 ·have h2:(!Av a.2.2.1 b.2.2.1)=true:=h2
  simp only [Av,Bool.not_eq_true'] at h2
  show _=Kh a b
  unfold Kh
  rw [h2];simp
 ·simp only [bne_iff_ne,ne_eq,Int.natCast_inj] at h3
  show _=Kh a b
  unfold Kh
  rw [decide_eq_false (show ¬a.2.1=b.2.1 from λgP=>h3 (by rw [gP]))];simp
 ·simp only [bne_eq_false_iff_eq,Int.natCast_inj] at h3
  have h1:(!Av a.1 b.1)=false:=h1
  have h2:(!Av a.2.2.1 b.2.2.1)=false:=h2
  simp only [Av,Bool.not_eq_false',decide_eq_true_eq] at h1 h2
  have hE:Kh a b=decide (a.2.1=b.2.1):=by
   unfold Kh
   rw [decide_eq_true h1,decide_eq_true h2];simp
  refine Aj a.2.1.length (λv=>v.1) (λj v=>v.2=(a.1,a.2.1,a.2.2.1,b.1,b.2.1,b.2.2.1,())/\a.2.1.take j=b.2.1.take j) rfl ⟨rfl,by simp⟩ ?_
  rintro j ⟨i,v⟩ K hj hi ⟨hv,hR⟩ hK
  dsimp only at hi hv⊢
  subst hi hv
  dsimp only
  refine Br.dec (λGc=>?_) λGc=>?_
  ·have eI:j<a.2.1.length:=by omega
   have mO:j<b.2.1.length:=by omega
   refine ⟨_,An eI,_,An mO,_,if_pos (hs4 _ (List.getElem_mem eI)),⟨λhe=>?_,λhe=>?_⟩⟩
   ·show _=Kh a b
    rw [hE]
    refine (decide_eq_false λgP=>?_).symm
    simp [gP,Av] at he
   ·rw [Ah (by omega)]
    refine hK eI _ rfl ⟨rfl,?_⟩
    simp only [Av,Bool.not_eq_false',decide_eq_true_eq] at he
    rw [List.take_succ_eq_append_getElem eI,List.take_succ_eq_append_getElem mO,hR]
    exact congrArg (λx=>List.take j b.2.1++ [x]) he
  ·have uR:j=a.2.1.length:=by omega
   subst uR
   rw [List.take_length,h3,List.take_length] at hR
   show _=Kh a b
   rw [hE]
   exact (decide_eq_true hR).symm
theorem fu:Sound Tryz.prog 126 Ev:=
 Sound.Cp Bg (Ae Uh Ai) mixed Tryz.func126 (by kernel_rfl) (by kernel_rfl) λx h=>mU x.1 x.2.1 h
theorem p7 {t:TT} {room:Int} (h:roomy room) (h2: ¬Mw t room<0):roomy (Mw t room):=by
 have hm: ¬((-1:Int)<0)->False:= λh=>h (by decide)
 unfold Mw at h2⊢
 split
 ·rename_i h3;rw [if_pos h3] at h2;exact (hm h2).elim
 ·rename_i h3;rw [if_neg h3] at h2
  split
  ·rename_i h4;rw [if_pos h4] at h2;exact (hm h2).elim
  ·rename_i h4;rw [if_neg h4] at h2
   split
   ·rename_i h5;rw [if_pos h5] at h2;exact (hm h2).elim
   ·rename_i h5
    exact Vg (mb (Vg h h3) h4) h5
theorem zj:roomy 1048576:=⟨by decide,by decide⟩
end Go.Proofs.YtfolipnappekaaaGreat

namespace Go.Proofs.YtfolipnappekaaaGreat
open Go.RowKit
abbrev PP:Type:=Int×ByteArray×List (List Int)×Unit
noncomputable def Fv (p:List Int):Bool:=dec (1<=p.length/\p.length<=20/\DL p.length p p.length)
noncomputable def Cy (n:Int) (p:List Int):Bool:=dec ((p.length:Int)=n/\Fv p=true)
noncomputable def Mh (n:Int) (g:List (List Int)):Bool:=dec ((1<=n/\n<=20)/\g.length<=8/\ ∀p∈g,Cy n p=true)
def Ef {α:Type} (P:α->Bool):List α->Int->Int
 | [],_=> -1
 |y::r,i=>if P y=true then i else Ef P r (i+1)
abbrev tG1:Ty:= .clo 136 (.pair (.ptr tI) .unit)
def uf (s:ByteArray) (i:Nat):Prop:= ∃c:UInt8,s[i]?=some c/\65<=c.toNat/\c.toNat<=90/\ ∀k,k<i->s[k]?≠some c
noncomputable def jk (s:ByteArray) (i:Int):Bool:=dec (uf s i.toNat)
noncomputable def ae (s:ByteArray):Bool:=dec ((1<=s.size/\s.size<=8)/\ ∀j,j<s.size->uf s j)
noncomputable def Ax (p:PP):Bool:=dec (Mh p.1 p.2.2.1=true/\ae p.2.1=true/\p.2.1.size=p.2.2.1.length)
def Cb (p:PP):Prop:=p.2.1.size<=4294967296/\Fm p.2.2.1
noncomputable abbrev Nr:Spec:=Cp (.pair tL .unit) tI false true (λ_=>True) (λx=>(List.length x.1:Int))
noncomputable abbrev Eg:Spec:=Cp (.pair tL .unit) .bool false true (λx=>short x.1) (λx=>Fv x.1)
noncomputable abbrev Ik:Spec:=Cp (.pair tI (.pair cF .unit)) .bool false true (λx=>Fm x.2.1) (λx=>Mh x.1 x.2.1)
noncomputable abbrev eT:Spec:=Cp (.pair tL (.pair (.ptr tI) .unit)) .bool false true (λx=>short x.1) (λx=>!Cy x.2.1 x.1)
noncomputable abbrev tX:Spec:=Cp (.pair cF (.pair tG1 .unit)) tI false true (λx=>Fm x.1) (λx=>Ef (λp=>!Cy x.2.1.1 p) x.1 0)
noncomputable abbrev tU:Spec:=Cp (.pair cF (.pair tG1 .unit)) .bool false true (λx=>Fm x.1) (λx=>List.any x.1 (λp=>!Cy x.2.1.1 p))
noncomputable abbrev ar:Spec:=Cp (.pair .str (.pair tI .unit)) .bool false true (λx=>0<=x.2.1/\x.2.1<x.1.size/\x.1.size<=4294967296) (λx=>jk x.1 x.2.1)
noncomputable abbrev Vk:Spec:=Cp (.pair .str .unit) .bool false true (λx=>x.1.size<=4294967296) (λx=>ae x.1)
noncomputable abbrev Dl:Spec:=Cp (.pair Cu .unit) .bool false true (λx=>Cb x.1) (λx=>Ax x.1)
def p6 (p:PP) (room:Int):Int:=if room-p.2.1.size<0 then-1 else if Np p.2.2.1 (room-p.2.1.size)<0 then-1 else Np p.2.2.1 (room-p.2.1.size)
def m8 (a b:PP):Bool:=decide (a.1=b.1)&&(decide (a.2.1=b.2.1)&&decide (a.2.2.1=b.2.2.1))
noncomputable abbrev tY:Spec:=Cp (.pair Cu (.pair tI .unit)) tI false true (λx=>Cb x.1/\roomy x.2.1) (λx=>p6 x.1 x.2.1)
noncomputable abbrev mo:Spec:=Cp (.pair Cu .unit) Cu false true (λx=>Cb x.1) (λx=>x.1)
noncomputable abbrev tV:Spec:=Cp (.pair Cu (.pair Cu .unit)) .bool false true (λx=>Cb x.1) (λx=>m8 x.1 x.2.1)
noncomputable abbrev Pc:Spec:=Cp (.pair Hp (.pair tL .unit)) tI false true (λx=>Kx x.1/\short x.2.1) (λx=>Ef (λp=>decide (p=x.2.1)) x.1.2.1 0)
theorem Acg (xs:List Int) (P:Int->Prop):(P (↑xs.length:Int))=fnW Cf (look []) Nr Tryz.f119 (xs,()) P:=by kernel_rfl
theorem wU (p:List Int) (P:Bool->Prop):(∃(y2:Bool),Bq.fn ((↑p.length:Int),(1:Int),(20:Int),())=some y2/\Br (!y2) (P false) (Bm (λ(v3:Int×PUnit) (k4:Int×PUnit->Prop)=>Br (decide (v3.1<(↑p.length:Int))) (∃(y5:Int),idx p v3.1=some y5/\ ∃(y6:Bool),Bq.fn (y5,(0:Int),IntKind.i64.wrap ((↑p.length:Int)-(1:Int)),())=some y6/\Br (!y6) (P false) (((0:Int)<=(0:Int)/\(0:Int)<=v3.1/\v3.1<=(↑p.length:Int))/\ ∃(y7:Int),idx p v3.1=some y7/\ ∃(y8:Bool),Lh.fn (List.drop (Int.toNat (0:Int)) (List.take v3.1.toNat p),y7,())=some y8/\Br y8 (P false) (k4 (IntKind.i64.wrap (v3.1+(1:Int)),())))) (P true)) ((0:Int),PUnit.unit)))=fnW Cf (look [(88,Bq),(100,Lh)]) Eg Tryz.f75 (p,()) P:=by kernel_rfl
theorem wQ (p:List Int) (P:Bool->Prop):(∃(y2:Int),Nr.fn (p,())=some y2/\ ∃(y3:Bool),Bq.fn (y2,(1:Int),(20:Int),())=some y3/\Br (!y3) (P false) (Bm (λ(v4:Int×Int×PUnit) (k5:Int×Int×PUnit->Prop)=>Br (decide (v4.2.1<(↑p.length:Int))) (∃(y6:Int),idx p v4.2.1=some y6/\ ∃(y7:Int),Nr.fn (p,())=some y7/\ ∃(y8:Bool),Bq.fn (y6,(0:Int),IntKind.i64.wrap (y7-(1:Int)),())=some y8/\Br (!y8) (P false) (¬y6<(0:Int)/\k5 (IntKind.i64.wrap (↑(BitVec.ofInt IntKind.i64.bits v4.1|||BitVec.ofInt IntKind.i64.bits (IntKind.i64.wrap ((1:Int)*(2:Int)^min y6.toNat IntKind.i64.bits))).toNat:Int),IntKind.i64.wrap (v4.2.1+(1:Int)),()))) (¬(↑p.length:Int)<(0:Int)/\P (v4.1==IntKind.i64.wrap (IntKind.i64.wrap ((1:Int)*(2:Int)^min (↑p.length:Int).toNat IntKind.i64.bits)-(1:Int))))) ((0:Int),(0:Int),PUnit.unit)))=fnW Cf (look [(90,Bq),(119,Nr)]) Eg Tryz.f134 (p,()) P:=by kernel_rfl
theorem wT (n:Int) (g:List (List Int)) (P:Bool->Prop):(∃(y3:Bool),Bq.fn (n,(1:Int),(20:Int),())=some y3/\Br (!y3) (P false) (Br (decide ((↑g.length:Int)>(8:Int))) (P false) (Bm (λ(v4:Int×PUnit) (k5:Int×PUnit->Prop)=>Br (decide (v4.1<(↑g.length:Int))) (∃(y6:List Int),idx g v4.1=some y6/\Br ((↑y6.length:Int) !=n) (P false) (∃(y7:List Int),idx g v4.1=some y7/\ ∃(y8:Bool),Eg.fn (y7,())=some y8/\Br (!y8) (P false) (k5 (IntKind.i64.wrap (v4.1+(1:Int)),())))) (P true)) ((0:Int),PUnit.unit))))=fnW Cf (look [(88,Bq),(75,Eg)]) Ik Tryz.f123 (n,g,()) P:=by kernel_rfl
theorem WR (p:List Int) (n:Int) (P:Bool->Prop):(∃(y3:Int),Nr.fn (p,())=some y3/\Br (y3 !=n) (P true) (∃(y4:Bool),Eg.fn (p,())=some y4/\P !y4))=fnW Cf (look [(119,Nr),(134,Eg)]) eT Tryz.f136 (p,n,()) P:=by kernel_rfl
theorem Agi (g:List (List Int)) (n:Int×Unit) (P:Int->Prop):(Bm (λ(v3:Int×PUnit) (k4:Int×PUnit->Prop)=>Br (decide (v3.1<(↑g.length:Int))) (∃(y5:List Int),idx g v3.1=some y5/\ ∃(y6:Bool),eT.fn (y5,n.1,())=some y6/\Br y6 (P v3.1) (k4 (IntKind.i64.wrap (v3.1+(1:Int)),()))) (P (-1:Int))) ((0:Int),PUnit.unit))=fnW Cf (look [(136,eT)]) tX Tryz.f150 (g,n,()) P:=by kernel_rfl
theorem Age (g:List (List Int)) (n:Int×Unit) (P:Bool->Prop):(∃(y3:Int),tX.fn (g,n,())=some y3/\P (decide (y3>=(0:Int))))=fnW Cf (look [(150,tX)]) tU Tryz.f135 (g,n,()) P:=by kernel_rfl
theorem wP (n:Int) (g:List (List Int)) (P:Bool->Prop):(∃(y3:Bool),Bq.fn (n,(1:Int),(20:Int),())=some y3/\Br y3 (Br (decide ((↑g.length:Int)<=(8:Int))) (∃(y4:Bool),tU.fn (g,(n,()),())=some y4/\P !y4) (P false)) (P false))=fnW Cf (look [(90,Bq),(135,tU)]) Ik Tryz.f110 (n,g,()) P:=by kernel_rfl
theorem TD (s:ByteArray) (i:Int) (P:Bool->Prop):((0:Int)<=i/\ ∃(y3:UInt8),s[i.toNat]?=some y3/\Br (decide ((↑y3.toNat:Int)<(65:Int))) (P false) ((0:Int)<=i/\ ∃(y4:UInt8),s[i.toNat]?=some y4/\Br (decide ((↑y4.toNat:Int)>(90:Int))) (P false) (Bm (λ(v5:Int×PUnit) (k6:Int×PUnit->Prop)=>Br (decide (v5.1<i)) ((0:Int)<=v5.1/\ ∃(y7:UInt8),s[v5.1.toNat]?=some y7/\(0:Int)<=i/\ ∃(y8:UInt8),s[i.toNat]?=some y8/\Br ((↑y7.toNat:Int)==(↑y8.toNat:Int)) (P false) (k6 (IntKind.i64.wrap (v5.1+(1:Int)),()))) (P true)) ((0:Int),PUnit.unit))))=fnW Cf (look []) ar Tryz.f124 (s,i,()) P:=by kernel_rfl
theorem MH (s:ByteArray) (P:Bool->Prop):(Bm (λ(v2:Int×PUnit) (k3:Int×PUnit->Prop)=>Br (decide (v2.1<(↑s.size:Int))) ((0:Int)<=v2.1/\ ∃(y4:UInt8),s[v2.1.toNat]?=some y4/\ ∃(y5:Bool),Bq.fn (IntKind.i64.wrap (↑y4.toNat:Int),(65:Int),(90:Int),())=some y5/\Br (!y5) (P false) (Bm (λ(v6:Int×PUnit) (k7:Int×PUnit->Prop)=>Br (decide (v6.1<v2.1)) ((0:Int)<=v6.1/\ ∃(y8:UInt8),s[v6.1.toNat]?=some y8/\(0:Int)<=v2.1/\ ∃(y9:UInt8),s[v2.1.toNat]?=some y9/\Br ((↑y8.toNat:Int)==(↑y9.toNat:Int)) (P false) (k7 (IntKind.i64.wrap (v6.1+(1:Int)),()))) (k3 (IntKind.i64.wrap (v2.1+(1:Int)),()))) ((0:Int),PUnit.unit))) (∃(y4:Bool),Bq.fn ((↑s.size:Int),(1:Int),(8:Int),())=some y4/\P y4)) ((0:Int),PUnit.unit))=fnW Cf (look [(90,Bq)]) Vk Tryz.f111 (s,()) P:=by kernel_rfl
abbrev gh:Type:=Int×Int×ByteArray×List (List Int)×PUnit
theorem wV (p:Int×ByteArray×List (List Int)×Unit) (P:Bool->Prop):(Br ((↑p.2.2.1.length:Int)==(0:Int)) (P false) (Br ((↑p.2.1.size:Int) !=(↑p.2.2.1.length:Int)) (P false) (∃(y2:Bool),Ik.fn (p.1,p.2.2.1,())=some y2/\Br (!y2) (P false) (Bm (λ(v3:gh) (k4:gh->Prop)=>Br (decide (v3.1<(↑v3.2.2.1.size:Int))) (∃(y5:Bool),ar.fn (v3.2.2.1,v3.1,())=some y5/\Br (!y5) (P false) (k4 (IntKind.i64.wrap (v3.1+(1:Int)),v3.2.1,v3.2.2.1,v3.2.2.2.1,()))) (P true)) ((0:Int),p.1,p.2.1,p.2.2.1,PUnit.unit)))))=fnW Cf (look [(123,Ik),(124,ar)]) Dl Tryz.f93 (p,()) P:=by kernel_rfl
theorem wR (p:Int×ByteArray×List (List Int)×Unit) (P:Bool->Prop):(∃(y2:Bool),Ik.fn (p.1,p.2.2.1,())=some y2/\Br y2 (∃(y3:Bool),Vk.fn (p.2.1,())=some y3/\Br y3 (P ((↑p.2.1.size:Int)==(↑p.2.2.1.length:Int))) (P false)) (P false))=fnW Cf (look [(110,Ik),(111,Vk)]) Dl Tryz.f84 (p,()) P:=by kernel_rfl
theorem Agl (p:Int×ByteArray×List (List Int)×Unit) (room:Int) (P:Int->Prop):(Br (decide (IntKind.i64.wrap (room-(↑p.2.1.size:Int))<(0:Int))) (P (-1:Int)) (∃(y3:Int),bD.fn (p.2.2.1,IntKind.i64.wrap (room-(↑p.2.1.size:Int)),())=some y3/\Br (decide (y3<(0:Int))) (P (-1:Int)) (P y3)))=fnW Cf (look [(45,bD)]) tY Tryz.f13 (p,room,()) P:=by kernel_rfl
theorem Agn (p:Int×ByteArray×List (List Int)×Unit) (P:(Int×ByteArray×List (List Int)×Unit)->Prop):(∃(y2:List (List Int)),bE.fn (p.2.2.1,())=some y2/\P (p.1,p.2.1,y2,()))=fnW Cf (look [(49,bE)]) mo Tryz.f16 (p,()) P:=by kernel_rfl
theorem Agg (a b:Int×ByteArray×List (List Int)×Unit) (P:Bool->Prop):(Br (a.1 !=b.1) (P false) (Br (!a.2.1.toList==b.2.1.toList) (P false) (∃(y3:Bool),Pb.fn (a.2.2.1,b.2.2.1,())=some y3/\Br (!y3) (P false) (P true))))=fnW Cf (look [(53,Pb)]) tV Tryz.f20 (a,b,()) P:=by kernel_rfl
abbrev mA:Type:=Int×List Int×List (List Int)×List Int×PUnit
theorem FT (t:List Int×List (List Int)×List Int×Unit) (xs:List Int) (P:Int->Prop):(Bm (λ(v3:mA) (k4:mA->Prop)=>Br (decide (v3.1<(↑v3.2.2.1.length:Int))) (∃(y5:List Int),idx v3.2.2.1 v3.1=some y5/\ ∃(y6:Bool),Ap.fn (y5,xs,())=some y6/\Br y6 (P v3.1) (k4 (IntKind.i64.wrap (v3.1+(1:Int)),v3.2.1,v3.2.2.1,v3.2.2.2.1,()))) (P (-1:Int))) ((0:Int),t.1,t.2.1,t.2.2.1,PUnit.unit))=fnW Cf (look [(101,Ap)]) Pc Tryz.f77 (t,xs,()) P:=by kernel_rfl
theorem Abo (xs:List Int) (_:True):fnW Cf (look []) Nr Tryz.f119 (xs,()) (λ(z:Int)=>z=(xs.length:Int)):=Eq.mp (Acg xs _) rfl
theorem bF:Sound Tryz.prog 119 Nr:=
 Sound.Cp Bg Ai mixed Tryz.func119 (by kernel_rfl) (by kernel_rfl) λx h=>Abo x.1 h
theorem wC {α:Type} [DecidableEq α]: ∀(l m:List α),l.Nodup->(∀x∈l,x∈m)->l.length<=m.length
 | [],m,_,_=>Nat.zero_le _
 |a::l,m,hn,hs=>by
  have ha:a∈m:=hs a (List.mem_cons_self ..)
  have hn:=List.nodup_cons.1 hn
  have:=wC l (m.erase a) hn.2 λx hx=>(List.mem_erase_of_ne (λ(e:x=a)=>hn.1 (by rw [<-e];exact hx))).2 (hs x (List.mem_cons_of_mem _ hx))
  rw [List.length_erase_of_mem ha] at this
  have:0<m.length:=List.length_pos_of_mem ha
  simp only [List.length_cons]
  omega
def upto (n:Nat):List Int:=(List.range n).map Int.ofNat
theorem qz (n:Nat):(upto n).Nodup:=by
 unfold upto
 exact List.Pairwise.map _ (λa b gP e=>gP (Int.ofNat.inj e)) List.nodup_range
theorem Jx {n:Nat} {x:Int} :x∈upto n↔0<=x/\x<n:=by
 unfold upto
 simp only [List.mem_map,List.mem_range]
 constructor
 ·rintro ⟨a,ha,rfl⟩;exact ⟨Int.natCast_nonneg _,Int.ofNat_lt.2 ha⟩
 ·rintro ⟨h1,h2⟩;exact ⟨x.toNat,by omega,by simp only [Int.ofNat_eq_natCast];omega⟩
theorem Tu (n:Nat):(upto n).length=n:=by simp [upto]
theorem dC {xs:List Int} (h: ∀j (hj:j<xs.length),xs[j]∉xs.take j):xs.Nodup:=by
 refine List.pairwise_iff_getElem.2 λi j hi hj kE e=>h j hj ?_
 rw [<-e]
 exact List.mem_take_iff_getElem.2 ⟨i,by omega,rfl⟩
theorem qv {xs:List Int} (h:xs.Nodup): ∀j (hj:j<xs.length),xs[j]∉xs.take j:=by
 intro j hj hm
 obtain ⟨i,hi,e⟩:=List.mem_take_iff_getElem.1 hm
 exact List.pairwise_iff_getElem.1 h i j (by omega) hj (by omega) e
theorem Yt {xs:List Int} (h: ∀x∈xs,0<=x/\x<xs.length):(∀k:Nat,k<xs.length->(k:Int)∈xs)↔ ∀j (hj:j<xs.length),xs[j]∉xs.take j:=by
 constructor
 ·intro ha j hj hm
  have h1:=wC (upto xs.length) (xs.take j++xs.drop (j+1)) (qz _) λx hx=>by
   obtain ⟨h1,h2⟩:=Jx.1 hx
   have hx:=ha x.toNat (by omega)
   rw [show ((x.toNat:Nat):Int)=x by omega] at hx
   rw [<-List.take_append_drop j xs,List.mem_append,List.drop_eq_getElem_cons hj,List.mem_cons] at hx
   rcases hx with hx|rfl|hx
   ·exact List.mem_append_left _ hx
   ·exact List.mem_append_left _ hm
   ·exact List.mem_append_right _ hx
  rw [Tu,List.length_append,List.length_take,List.length_drop] at h1
  omega
 ·intro hn k hk
  refine Classical.byContradiction λhc=>?_
  have h1:=wC xs ((upto xs.length).erase (k:Int)) (dC hn) λx hx=>by
   refine (List.mem_erase_of_ne λ(e:x=(k:Int))=>hc (by rw [<-e];exact hx)).2 (Jx.2 (h x hx))
  rw [List.length_erase_of_mem (Jx.2 ⟨by omega,by omega⟩),Tu] at h1
  omega
def mask (xs:List Int):Nat:=xs.foldl (λm x=>m|||2^x.toNat) 0
theorem JR (xs:List Int) (x:Int):mask (xs++ [x])=mask xs|||2^x.toNat:=by simp [mask]
theorem vG (xs:List Int) (k:Nat): ∀a:Nat,(xs.foldl (λm x=>m|||2^x.toNat) a).testBit k=(a.testBit k||xs.any λx=>decide (x.toNat=k)):=by
 induction xs with
 |nil=>simp
 |cons x xs ih=>
  intro a
  rw [List.foldl_cons,ih,Nat.testBit_or,Nat.testBit_two_pow,List.any_cons,Bool.or_assoc]
theorem p8 (xs:List Int) (k:Nat):(mask xs).testBit k=xs.any λx=>decide (x.toNat=k):=by
 unfold mask
 rw [vG,Nat.zero_testBit,Bool.false_or]
theorem VL {xs:List Int} {n:Nat} (h: ∀x∈xs,x.toNat<n):mask xs<2^n:=by
 refine Nat.lt_pow_two_of_testBit _ λk hk=>?_
 rw [p8]
 refine Bool.eq_false_iff.2 λht=>?_
 obtain ⟨x,hx,he⟩:=List.any_eq_true.1 ht
 have:=h x hx
 have:=of_decide_eq_true he
 omega
theorem tB {xs:List Int} (h: ∀x∈xs,0<=x/\x<xs.length):mask xs=2^xs.length-1↔ ∀k:Nat,k<xs.length->(k:Int)∈xs:=by
 constructor
 ·intro e k hk
  have h1:=p8 xs k
  rw [e,Nat.testBit_two_pow_sub_one,decide_eq_true hk] at h1
  obtain ⟨x,hx,he⟩:=List.any_eq_true.1 h1.symm
  have:=(h x hx).1
  have:=of_decide_eq_true he
  have e:x=(k:Int):=by omega
  exact e▸hx
 ·intro ha
  refine Nat.eq_of_testBit_eq λk=>?_
  rw [p8,Nat.testBit_two_pow_sub_one]
  by_cases hk:k<xs.length
  ·rw [decide_eq_true hk]
   exact List.any_eq_true.2 ⟨k,ha k hk,by simp⟩
  ·rw [decide_eq_false hk]
   refine Bool.eq_false_iff.2 λht=>?_
   obtain ⟨x,hx,he⟩:=List.any_eq_true.1 ht
   have:=h x hx
   have:=of_decide_eq_true he
   omega
theorem VP {m:Nat} {x:Int} (hm:m<2^20) (h0:0<=x) (h1:x<20):
  IntKind.i64.wrap (((BitVec.ofInt IntKind.i64.bits (m:Int)|||BitVec.ofInt IntKind.i64.bits (IntKind.i64.wrap ((1:Int)*(2:Int)^min x.toNat IntKind.i64.bits))).toNat:Nat):Int)=((m|||2^x.toNat:Nat):Int):=by
 have hx:(2:Nat)^x.toNat<2^20:=Nat.pow_lt_pow_right (by omega) (by omega)
 have e1:min x.toNat IntKind.i64.bits=x.toNat:=by show min x.toNat 64=_;omega
 have e2:(1:Int)*(2:Int)^x.toNat=((2^x.toNat:Nat):Int):=by rw [Int.one_mul];exact (Int.natCast_pow 2 _).symm
 rw [e1,e2,Cl (n:=((2^x.toNat:Nat):Int)) (by have:(0:Int)<=((2^x.toNat:Nat):Int):=Int.natCast_nonneg _;omega) (by omega)]
 show IntKind.i64.wrap (((BitVec.ofInt 64 (m:Int)|||BitVec.ofInt 64 ((2^x.toNat:Nat):Int)).toNat:Nat):Int)=_
 rw [BitVec.ofInt_natCast,BitVec.ofInt_natCast,BitVec.toNat_or,BitVec.toNat_ofNat,BitVec.toNat_ofNat,Nat.mod_eq_of_lt (by omega),Nat.mod_eq_of_lt (by omega)]
 have:=Nat.or_lt_two_pow hm hx
 exact Cl (by omega) (by omega)
theorem vO (p:List Int) (h:short p):fnW Cf (look [(88,Bq),(100,Lh)]) Eg Tryz.f75 (p,()) (λ(z:Bool)=>z=Fv p):=by
 have hs:=h
 unfold short at h
 refine Eq.mp (wU p _) ⟨_,if_pos trivial,⟨λhp=>?_,λhp=>?_⟩⟩
 ·have hp:=Db hp
  rw [Cv] at hp
  dsimp only at hp
  exact Bk λhh=>hp ⟨by omega,by omega⟩
 ·have hp:=Dr hp
  rw [Cv] at hp
  dsimp only at hp
  refine Aj p.length (λv=>v.1) (λj _=>DL p.length p j) rfl (λj _ hj=>absurd hj (Nat.not_lt_zero _)) ?_
  rintro j ⟨i,⟨⟩⟩ K hj hi hR hK
  dsimp only at hi⊢
  subst hi
  refine Br.dec (λhl=>?_) λhl=>?_
  ·have hl:j<p.length:=by omega
   refine ⟨_,An hl,_,if_pos trivial,⟨λhq=>?_,λhq=>?_⟩⟩
   ·have hq:=Db hq
    rw [Cv,Cl (by omega) (by omega)] at hq
    exact Bk λhh=>hq ⟨(hh.2.2 j hl hl).1,(hh.2.2 j hl hl).2.1⟩
   ·have hq:=Dr hq
    rw [Cv,Cl (by omega) (by omega)] at hq
    refine ⟨⟨by omega,by omega,by omega⟩,_,An hl,?_⟩
    rw [show (Int.toNat 0)=0 from rfl,List.drop_zero,Int.toNat_natCast]
    refine ⟨_,if_pos (EJ hs j),⟨λhc=>?_,λhc=>?_⟩⟩
    ·have hc:decide (p[j]∈p.take j)=true:=hc
     rw [decide_eq_true_iff] at hc
     exact Bk λhh=>(hh.2.2 j hl hl).2.2 hc
    ·have hc:decide (p[j]∈p.take j)=false:=hc
     rw [decide_eq_false_iff_not] at hc
     rw [Ah (by omega)]
     exact hK hl _ rfl (UG hl hR hq.1 hq.2 hc)
  ·have:j=p.length:=by omega
   subst this
   exact Js ⟨by omega,by omega,hR⟩
theorem Nc:Sound Tryz.prog 75 Eg:=
 Sound.Cp Bg (Ae Zf (Ae jD Ai)) mixed Tryz.func75 (by kernel_rfl) (by kernel_rfl) λx h=>vO x.1 h
theorem vK (p:List Int) (h:short p):fnW Cf (look [(90,Bq),(119,Nr)]) Eg Tryz.f134 (p,()) (λ(z:Bool)=>z=Fv p):=by
 unfold short at h
 refine Eq.mp (wQ p _) ⟨_,if_pos trivial,_,if_pos trivial,⟨λhp=>?_,λhp=>?_⟩⟩
 ·have hp:=Db hp
  rw [Cv] at hp
  dsimp only at hp
  exact Bk λhh=>hp ⟨by omega,by omega⟩
 ·have hp:=Dr hp
  rw [Cv] at hp
  dsimp only at hp
  refine Aj p.length (λv=>v.2.1) (λj v=>v.1=(mask (p.take j):Int)/\ ∀x∈p.take j,0<=x/\x<p.length) rfl ⟨rfl,by simp⟩ ?_
  rintro j ⟨m,i,⟨⟩⟩ K hj hi ⟨hm,hR⟩ hK
  dsimp only at hi hm⊢
  subst hi hm
  refine Br.dec (λhl=>?_) λhl=>?_
  ·have hl:j<p.length:=by omega
   refine ⟨_,An hl,_,if_pos trivial,_,if_pos trivial,⟨λhq=>?_,λhq=>?_⟩⟩
   ·have hq:=Db hq
    rw [Cv] at hq
    dsimp only at hq
    rw [Cl (by omega) (by omega)] at hq
    exact Bk λhh=>hq ⟨(hh.2.2 j hl hl).1,(hh.2.2 j hl hl).2.1⟩
   ·have hq:=Dr hq
    rw [Cv] at hq
    dsimp only at hq
    rw [Cl (by omega) (by omega)] at hq
    refine ⟨by omega,?_⟩
    rw [Ah (by omega)]
    have hb:mask (p.take j)<2^20:=VL λx hx=>by have:=hR x hx;omega
    refine hK hl _ rfl ⟨?_,?_⟩
    ·dsimp only
     rw [VP hb hq.1 (by omega),List.take_succ_eq_append_getElem hl,JR]
    ·rw [List.take_succ_eq_append_getElem hl]
     intro x hx
     rcases List.mem_append.1 hx with hx|hx
     ·exact hR x hx
     ·rw [List.mem_singleton.1 hx];omega
  ·have:j=p.length:=by omega
   subst this
   rw [List.take_length] at hR⊢
   refine ⟨by omega,?_⟩
   have hx:(2:Nat)^p.length<=2^20:=Nat.pow_le_pow_right (by omega) (by omega)
   have CB:0<(2:Nat)^p.length:=Nat.two_pow_pos _
   have e1:min (p.length:Int).toNat IntKind.i64.bits=p.length:=by show min (p.length:Int).toNat 64=_;omega
   have e2:(1:Int)*(2:Int)^p.length=((2^p.length:Nat):Int):=by rw [Int.one_mul];exact (Int.natCast_pow 2 _).symm
   rw [e1,e2,Cl (n:=((2^p.length:Nat):Int)) (by omega) (by omega),Cl (by omega) (by omega)]
   have hE:((mask p:Int)==((2^p.length:Nat):Int)-1)=decide (mask p=2^p.length-1):=by
    rw [Bool.eq_iff_iff,beq_iff_eq,decide_eq_true_iff]
    omega
   show ((mask p:Int)==((2^p.length:Nat):Int)-1)=Fv p
   rw [hE]
   by_cases hf:mask p=2^p.length-1
   ·rw [decide_eq_true hf]
    have hn:=(Yt hR).1 ((tB hR).1 hf)
    refine Js ⟨by omega,by omega,λj hj _=>?_⟩
    have:=hR _ (List.getElem_mem hj)
    exact ⟨this.1,by omega,hn j hj⟩
   ·rw [decide_eq_false hf]
    refine Bk λhh=>hf ((tB hR).2 ((Yt hR).2 λj hj=>(hh.2.2 j hj hj).2.2))
theorem aA:Sound Tryz.prog 134 Eg:=
 Sound.Cp Bg (Ae Rb (Ae bF Ai)) mixed Tryz.func134 (by kernel_rfl) (by kernel_rfl) λx h=>vK x.1 h
theorem vN (n:Int) (g:List (List Int)) (h:Fm g):fnW Cf (look [(88,Bq),(75,Eg)]) Ik Tryz.f123 (n,g,()) (λ(z:Bool)=>z=Mh n g):=by
 obtain ⟨h,h4⟩:=h
 refine Eq.mp (wT n g _) ⟨_,if_pos trivial,⟨λhp=>?_,λhp=>?_⟩⟩
 ·have hp:=Db hp
  rw [Cv] at hp
  exact Bk λhh=>hp hh.1
 ·have hp:=Dr hp
  rw [Cv] at hp
  refine Br.dec (λhg=>?_) λhg=>?_
  ·exact Bk λhh=>by have:=hh.2.1;omega
  ·refine Aj g.length (λv=>v.1) (λj _=> ∀p∈g.take j,Cy n p=true) rfl (by simp) ?_
   rintro j ⟨i,⟨⟩⟩ K hj hi hR hK
   dsimp only at hi⊢
   subst hi
   refine Br.dec (λhl=>?_) λhl=>?_
   ·have hl:j<g.length:=by omega
    have hm:g[j]∈g:=List.getElem_mem hl
    refine ⟨_,An hl,⟨λhe=>?_,λhe=>?_⟩⟩
    ·simp only [bne_iff_ne,ne_eq] at he
     exact Bk λhh=>he (Ed.1 (hh.2.2 _ hm)).1
    ·simp only [bne_eq_false_iff_eq] at he
     refine ⟨_,An hl,_,if_pos (h4 _ hm),⟨λhq=>?_,λhq=>?_⟩⟩
     ·have hq:=Db hq
      exact Bk λhh=>hq (Ed.1 (hh.2.2 _ hm)).2
     ·have hq:=Dr hq
      rw [Ah (by omega)]
      refine hK hl _ rfl ?_
      rw [List.take_succ_eq_append_getElem hl]
      intro x hx
      rcases List.mem_append.1 hx with hx|hx
      ·exact hR x hx
      ·rw [List.mem_singleton.1 hx];exact Ed.2 ⟨he,hq⟩
   ·have:j=g.length:=by omega
    subst this
    rw [List.take_length] at hR
    exact Js ⟨hp,by omega,hR⟩
theorem aB:Sound Tryz.prog 123 Ik:=
 Sound.Cp Bg (Ae Zf (Ae Nc Ai)) mixed Tryz.func123 (by kernel_rfl) (by kernel_rfl) λx h=>vN x.1 x.2.1 h
theorem VR (p:List Int) (n:Int) (h:short p):fnW Cf (look [(119,Nr),(134,Eg)]) eT Tryz.f136 (p,n,()) (λ(z:Bool)=>z=!Cy n p):=by
 refine Eq.mp (WR p n _) ⟨_,if_pos trivial,⟨λhe=>?_,λhe=>⟨_,if_pos h,?_⟩⟩⟩
 ·simp only [bne_iff_ne,ne_eq] at he
  have:Cy n p=false:=UF.2 λhh=>he hh.1
  rw [this];rfl
 ·simp only [bne_eq_false_iff_eq] at he
  show (!Fv p)=_
  congr 1
  cases hp:Fv p with
  |true=>exact Js ⟨he,hp⟩
  |false=>exact Bk λhh=>by rw [hh.2] at hp;cases hp
theorem zt:Sound Tryz.prog 136 eT:=
 Sound.Cp Bg (Ae bF (Ae aA Ai)) mixed Tryz.func136 (by kernel_rfl) (by kernel_rfl) λx h=>VR x.1 x.2.1 h
theorem m9 {α:Type} (P:α->Bool): ∀(l:List α) (i:Int),0<=i->(0<=Ef P l i↔l.any P=true)
 | [],i,_=>by simp [Ef]
 |y::r,i,h=>by
  simp only [Ef,List.any_cons,Bool.or_eq_true]
  split
  ·rename_i hy;simp [hy,h]
  ·rename_i hy;rw [m9 P r (i+1) (by omega)];simp [hy]
theorem Aft (g:List (List Int)) (n:Int×Unit) (h:Fm g):fnW Cf (look [(136,eT)]) tX Tryz.f150 (g,n,()) (λ(z:Int)=>z=Ef (λp=>!Cy n.1 p) g 0):=by
 obtain ⟨h,h4⟩:=h
 refine Eq.mp (Agi g n _) ?_
 refine Aj g.length (λv=>v.1) (λj _=>Ef (λp=>!Cy n.1 p) (g.drop j) j=Ef (λp=>!Cy n.1 p) g 0) rfl (by simp) ?_
 rintro j ⟨i,⟨⟩⟩ K hj hi hR hK
 dsimp only at hi⊢
 subst hi
 refine Br.dec (λhl=>?_) λhl=>?_
 ·have hl:j<g.length:=by omega
  rw [List.drop_eq_getElem_cons hl] at hR
  simp only [Ef] at hR
  refine ⟨_,An hl,_,if_pos (h4 _ (List.getElem_mem hl)),⟨λhe=>?_,λhe=>?_⟩⟩
  ·have he:(!Cy n.1 g[j])=true:=he
   rw [if_pos he] at hR
   exact hR
  ·have he:(!Cy n.1 g[j])=false:=he
   rw [if_neg (by rw [he];decide)] at hR
   rw [Ah (by omega)]
   exact hK hl _ rfl (by push_cast;exact hR)
 ·have:j=g.length:=by omega
  subst this
  rw [List.drop_length] at hR
  exact hR
theorem LL:Sound Tryz.prog 150 tX:=
 Sound.Cp Bg (Ae zt Ai) mixed Tryz.func150 (by kernel_rfl) (by kernel_rfl) λx h=>Aft x.1 x.2.1 h
theorem Afp (g:List (List Int)) (n:Int×Unit) (h:Fm g):fnW Cf (look [(150,tX)]) tU Tryz.f135 (g,n,()) (λ(z:Bool)=>z=List.any g (λp=>!Cy n.1 p)):=by
 refine Eq.mp (Age g n _) ⟨_,if_pos h,?_⟩
 rw [Bool.eq_iff_iff,decide_eq_true_iff]
 exact m9 _ g 0 (Int.le_refl 0)
theorem LI:Sound Tryz.prog 135 tU:=
 Sound.Cp Bg (Ae LL Ai) mixed Tryz.func135 (by kernel_rfl) (by kernel_rfl) λx h=>Afp x.1 x.2.1 h
theorem vJ (n:Int) (g:List (List Int)) (h:Fm g):fnW Cf (look [(90,Bq),(135,tU)]) Ik Tryz.f110 (n,g,()) (λ(z:Bool)=>z=Mh n g):=by
 refine Eq.mp (wP n g _) ⟨_,if_pos trivial,⟨λhp=>?_,λhp=>?_⟩⟩
 ·have hp:Hw n 1 20=true:=hp
  rw [Cv] at hp
  refine Br.dec (λhl=>⟨_,if_pos h,?_⟩) λhl=>?_
  ·show (!List.any g (λp=>!Cy n p))=Mh n g
   cases ha:List.any g (λp=>!Cy n p) with
   |true=>
    obtain ⟨p,x7,IZ⟩:=List.any_eq_true.1 ha
    exact Bk λhh=>by rw [hh.2.2 p x7] at IZ;cases IZ
   |false=>
    refine Js ⟨hp,by omega,λp hm=>?_⟩
    have:=List.any_eq_false.1 ha p hm
    simpa using this
  ·exact Bk λhh=>by have:=hh.2.1;omega
 ·refine Bk λhh=>?_
  have:Hw n 1 20=true:=Cv.2 hh.1
  have hp:Hw n 1 20=false:=hp
  rw [this] at hp;cases hp
theorem lq:Sound Tryz.prog 110 Ik:=
 Sound.Cp Bg (Ae Rb (Ae LI Ai)) mixed Tryz.func110 (by kernel_rfl) (by kernel_rfl) λx h=>vJ x.1 x.2.1 h
theorem Im {s:ByteArray} {k:Nat} (h:k<s.size):s[k]?=some s[k]:=getElem?_pos s k h
theorem QZ (s:ByteArray) (i:Int) (h:0<=i/\i<s.size/\s.size<=4294967296):fnW Cf (look []) ar Tryz.f124 (s,i,()) (λ(z:Bool)=>z=jk s i):=by
 obtain ⟨h1,h2,h3⟩:=h
 have hi:i.toNat<s.size:=by omega
 refine Eq.mp (TD s i _) ⟨h1,_,Im hi,Br.dec (λhq=>?_) λhq=>⟨h1,_,Im hi,Br.dec (λhr=>?_) λhr=>?_⟩⟩
 ·refine Bk λ⟨c,hc,UR,_⟩=>?_
  rw [Im hi] at hc;cases hc;omega
 ·refine Bk λ⟨c,hc,_,UR,_⟩=>?_
  rw [Im hi] at hc;cases hc;omega
 ·refine Aj i.toNat (λv=>v.1) (λj _=> ∀k,k<j->s[k]?≠some s[i.toNat]) rfl (λk hk=>absurd hk (Nat.not_lt_zero _)) ?_
  rintro j ⟨i',⟨⟩⟩ K hj lX hR hK
  dsimp only at lX⊢
  subst lX
  refine Br.dec (λhl=>?_) λhl=>?_
  ·have hl:j<i.toNat:=by omega
   have hj:j<s.size:=by omega
   rw [Int.toNat_natCast]
   refine ⟨by omega,_,Im hj,h1,_,Im hi,⟨λhe=>?_,λhe=>?_⟩⟩
   ·simp only [beq_iff_eq,Int.natCast_inj] at he
    refine Bk λ⟨c,hc,_,_,UR⟩=>?_
    rw [Im hi] at hc;cases hc
    exact UR j hl (by rw [Im hj,UInt8.toNat_inj.1 he])
   ·simp only [beq_eq_false_iff_ne,ne_eq,Int.natCast_inj] at he
    rw [Ah (by omega)]
    refine hK hl _ rfl λk hk=>?_
    by_cases e:k=j
    ·subst e
     rw [Im hj]
     exact λe=>he (by rw [Option.some.inj e])
    ·exact hR k (by omega)
  ·have:j=i.toNat:=by omega
   subst this
   exact Js ⟨_,Im hi,by omega,by omega,hR⟩
theorem wo:Sound Tryz.prog 124 ar:=
 Sound.Cp Bg Ai mixed Tryz.func124 (by kernel_rfl) (by kernel_rfl) λx h=>QZ x.1 x.2.1 h
theorem KD (s:ByteArray) (h:s.size<=4294967296):fnW Cf (look [(90,Bq)]) Vk Tryz.f111 (s,()) (λ(z:Bool)=>z=ae s):=by
 refine Eq.mp (MH s _) ?_
 refine Aj s.size (λv=>v.1) (λj _=> ∀k,k<j->uf s k) rfl (λk hk=>absurd hk (Nat.not_lt_zero _)) ?_
 rintro j ⟨i,⟨⟩⟩ K hj hi hR hK
 dsimp only at hi⊢
 subst hi
 refine Br.dec (λhl=>?_) λhl=>?_
 ·have hl:j<s.size:=by omega
  rw [Int.toNat_natCast]
  have hb:=(s[j]).toNat_lt
  refine ⟨by omega,_,Im hl,_,if_pos trivial,⟨λhq=>?_,λhq=>?_⟩⟩
  ·have hq:=Db hq
   rw [Cv] at hq
   dsimp only at hq
   rw [Cl (by omega) (by omega)] at hq
   refine Bk λhh=>?_
   obtain ⟨c,hc,UR,hc2,_⟩:=hh.2 j hl
   rw [Im hl] at hc;cases hc
   exact hq ⟨by omega,by omega⟩
  ·have hq:=Dr hq
   rw [Cv] at hq
   dsimp only at hq
   rw [Cl (by omega) (by omega)] at hq
   refine Aj j (λv=>v.1) (λm _=> ∀k,k<m->s[k]?≠some s[j]) rfl (λk hk=>absurd hk (Nat.not_lt_zero _)) ?_
   rintro m ⟨i',⟨⟩⟩ K' hm lX hR' UM
   dsimp only at lX⊢
   subst lX
   refine Br.dec (λGd=>?_) λGd=>?_
   ·have Gd:m<j:=by omega
    have yf:m<s.size:=by omega
    rw [Int.toNat_natCast]
    refine ⟨by omega,_,Im yf,by omega,_,Im hl,⟨λhe=>?_,λhe=>?_⟩⟩
    ·simp only [beq_iff_eq,Int.natCast_inj] at he
     refine Bk λhh=>?_
     obtain ⟨c,hc,_,_,UR⟩:=hh.2 j hl
     rw [Im hl] at hc;cases hc
     exact UR m Gd (by rw [Im yf,UInt8.toNat_inj.1 he])
    ·simp only [beq_eq_false_iff_ne,ne_eq,Int.natCast_inj] at he
     rw [Ah (by omega)]
     refine UM Gd _ rfl λk hk=>?_
     by_cases e:k=m
     ·subst e
      rw [Im yf]
      exact λe=>he (by rw [Option.some.inj e])
     ·exact hR' k (by omega)
   ·have:m=j:=by omega
    subst this
    rw [Ah (by omega)]
    refine hK hl _ rfl λk hk=>?_
    by_cases e:k=m
    ·subst e
     exact ⟨_,Im hl,by omega,by omega,hR'⟩
    ·exact hR k (by omega)
 ·have:j=s.size:=by omega
  subst this
  refine ⟨_,if_pos trivial,?_⟩
  show Hw s.size 1 8=_
  cases hr:Hw s.size 1 8 with
  |true=>rw [Cv] at hr;exact Js ⟨by omega,hR⟩
  |false=>refine Bk λhh=>?_;rw [Cv.2 ⟨by omega,by omega⟩] at hr;cases hr
theorem rX:Sound Tryz.prog 111 Vk:=
 Sound.Cp Bg (Ae Rb Ai) mixed Tryz.func111 (by kernel_rfl) (by kernel_rfl) λx h=>KD x.1 h
theorem FF {p:PP} (h:Ax p=true):1<=p.1/\p.1<=20/\1<=p.2.2.1.length/\p.2.2.1.length<=8:=by
 obtain ⟨h1,h2,h3⟩:=Ed.1 h
 obtain ⟨h4,h5,_⟩:=Ed.1 h1
 obtain ⟨h6,_⟩:=Ed.1 h2
 omega
theorem vP (p:PP) (h:Cb p):fnW Cf (look [(123,Ik),(124,ar)]) Dl Tryz.f93 (p,()) (λ(z:Bool)=>z=Ax p):=by
 obtain ⟨hn,hg⟩:=h
 refine Eq.mp (wV p _) ⟨λh0=>?_,λh0=>⟨λh1=>?_,λh1=>⟨_,if_pos hg,⟨λh2=>?_,λh2=>?_⟩⟩⟩⟩
 ·simp only [beq_iff_eq] at h0
  exact Bk λhh=>by obtain ⟨_,h2,h3⟩:=hh;have:=(Ed.1 h2).1;omega
 ·simp only [bne_iff_ne,ne_eq,Int.natCast_inj] at h1
  exact Bk λhh=>h1 hh.2.2
 ·have h2:=Db h2
  exact Bk λhh=>h2 hh.1
 ·simp only [beq_eq_false_iff_ne,ne_eq] at h0
  simp only [bne_eq_false_iff_eq,Int.natCast_inj] at h1
  have h2:Mh p.1 p.2.2.1=true:=Dr h2
  refine Aj p.2.1.size (λv=>v.1) (λj v=>v.2=(p.1,p.2.1,p.2.2.1,())/\ ∀k,k<j->uf p.2.1 k) rfl ⟨rfl,λk hk=>absurd hk (Nat.not_lt_zero _)⟩ ?_
  rintro j ⟨i,v⟩ K hj hi ⟨hv,hR⟩ hK
  dsimp only at hi hv⊢
  subst hi hv
  dsimp only
  refine Br.dec (λhl=>?_) λhl=>?_
  ·have hl:j<p.2.1.size:=by omega
   refine ⟨_,if_pos ⟨Int.natCast_nonneg j,Int.ofNat_lt.2 hl,hn⟩,⟨λhq=>?_,λhq=>?_⟩⟩
   ·have hq: ¬jk p.2.1 j=true:=Db hq
    refine Bk λhh=>hq (Ed.2 ?_)
    rw [Int.toNat_natCast]
    exact (Ed.1 hh.2.1).2 j hl
   ·have hq:jk p.2.1 j=true:=Dr hq
    have hq:=Ed.1 hq
    rw [Int.toNat_natCast] at hq
    rw [Ah (by omega)]
    refine hK hl _ rfl ⟨rfl,λk hk=>?_⟩
    by_cases e:k=j
    ·subst e;exact hq
    ·exact hR k (by omega)
  ·have:j=p.2.1.size:=by omega
   subst this
   have:=(Ed.1 h2).2.1
   exact Js ⟨h2,Ed.2 ⟨⟨by omega,by omega⟩,hR⟩,h1⟩
theorem Nd:Sound Tryz.prog 93 Dl:=
 Sound.Cp Bg (Ae aB (Ae wo Ai)) mixed Tryz.func93 (by kernel_rfl) (by kernel_rfl) λx h=>vP x.1 h
theorem vL (p:PP) (h:Cb p):fnW Cf (look [(110,Ik),(111,Vk)]) Dl Tryz.f84 (p,()) (λ(z:Bool)=>z=Ax p):=by
 obtain ⟨hn,hg⟩:=h
 refine Eq.mp (wR p _) ⟨_,if_pos hg,⟨λh1=>⟨_,if_pos hn,⟨λh2=>?_,λh2=>?_⟩⟩,λh1=>?_⟩⟩
 ·have h1:Mh p.1 p.2.2.1=true:=h1
  have h2:ae p.2.1=true:=h2
  by_cases e:p.2.1.size=p.2.2.1.length
  ·rw [e,beq_self_eq_true];exact Js ⟨h1,h2,e⟩
  ·rw [show ((p.2.1.size:Int)==(p.2.2.1.length:Int))=false from beq_eq_false_iff_ne.2 (by omega)];exact Bk λhh=>e hh.2.2
 ·have h2:ae p.2.1=false:=h2
  exact Bk λhh=>by rw [hh.2.1] at h2;cases h2
 ·have h1:Mh p.1 p.2.2.1=false:=h1
  exact Bk λhh=>by rw [hh.1] at h1;cases h1
theorem Sq:Sound Tryz.prog 84 Dl:=
 Sound.Cp Bg (Ae lq (Ae rX Ai)) mixed Tryz.func84 (by kernel_rfl) (by kernel_rfl) λx h=>vL x.1 h
theorem Afw (p:PP) (room:Int) (h:Cb p/\roomy room):fnW Cf (look [(45,bD)]) tY Tryz.f13 (p,room,()) (λ(z:Int)=>z=p6 p room):=by
 obtain ⟨⟨h1,h2⟩,h3,h4⟩:=h
 refine Eq.mp (Agl p room _) ?_
 rw [Cl (by omega) (by omega)]
 refine Br.dec (λhn=>?_) λhn=>⟨_,if_pos ⟨h2,by dsimp only;omega,by dsimp only;omega⟩,Br.dec (λhm=>?_) λhm=>?_⟩
 ·simp only [p6,if_pos hn]
 ·exact ((if_neg hn).trans (if_pos hm)).symm
 ·exact ((if_neg hn).trans (if_neg hm)).symm
theorem LN:Sound Tryz.prog 13 tY:=
 Sound.Cp Bg (Ae qd Ai) mixed Tryz.func13 (by kernel_rfl) (by kernel_rfl) λx h=>Afw x.1 x.2.1 h
theorem Afy (p:PP) (h:Cb p):fnW Cf (look [(49,bE)]) mo Tryz.f16 (p,()) (λ(z:PP)=>z=p):=Eq.mp (Agn p _) ⟨_,if_pos h.2,rfl⟩
theorem LO:Sound Tryz.prog 16 mo:=
 Sound.Cp Bg (Ae qf Ai) mixed Tryz.func16 (by kernel_rfl) (by kernel_rfl) λx h=>Afy x.1 h
theorem xz {a b:ByteArray} :(a.toList==b.toList)=decide (a=b):=by
 rw [Bool.eq_iff_iff,beq_iff_eq,decide_eq_true_iff,ByteArray.toList_eq,ByteArray.toList_eq]
 exact ⟨λh=>ByteArray.ext (Array.toList_inj.1 h),λh=>by rw [h]⟩
theorem Afr (a b:PP) (h:Cb a):fnW Cf (look [(53,Pb)]) tV Tryz.f20 (a,b,()) (λ(z:Bool)=>z=m8 a b):=by
 refine Eq.mp (Agg a b _) ⟨λh1=>?_,λh1=>⟨λh2=>?_,λh2=>⟨_,if_pos h.2,⟨λh3=>?_,λh3=>?_⟩⟩⟩⟩
 ·simp only [bne_iff_ne,ne_eq] at h1
  unfold m8
  rw [decide_eq_false h1];rfl
 ·rw [xz] at h2
  unfold m8
  cases hd:decide (a.2.1=b.2.1)<;>simp_all
 ·have h3:(!Mf a.2.2.1 b.2.2.1)=true:=h3
  simp only [Mf,Bool.not_eq_true'] at h3
  unfold m8
  rw [h3];simp
 ·have h3:(!Mf a.2.2.1 b.2.2.1)=false:=h3
  rw [xz] at h2
  simp only [Mf] at h3
  simp only [bne_eq_false_iff_eq] at h1
  unfold m8
  simp_all
theorem LJ:Sound Tryz.prog 20 tV:=
 Sound.Cp Bg (Ae pY Ai) mixed Tryz.func20 (by kernel_rfl) (by kernel_rfl) λx h=>Afr x.1 x.2.1 h
theorem CT (p:PP):m8 p p=true:=by simp [m8]
theorem pf {b:Bool} {P:Prop} (h1:b=true) (h:(!b)=true):P:=by rw [h1] at h;cases h
theorem DU (t:TT) (xs:List Int) (h:Kx t/\short xs):fnW Cf (look [(101,Ap)]) Pc Tryz.f77 (t,xs,()) (λ(z:Int)=>z=Ef (λp=>decide (p=xs)) t.2.1 0):=by
 obtain ⟨⟨_,⟨h,h4⟩,_⟩,_⟩:=h
 refine Eq.mp (FT t xs _) ?_
 refine Aj t.2.1.length (λv=>v.1) (λj v=>v.2=(t.1,t.2.1,t.2.2.1,())/\Ef (λp=>decide (p=xs)) (t.2.1.drop j) j=Ef (λp=>decide (p=xs)) t.2.1 0) rfl ⟨rfl,by simp⟩ ?_
 rintro j ⟨i,v⟩ K hj hi ⟨hv,hR⟩ hK
 dsimp only at hi hv⊢
 subst hi hv
 dsimp only
 refine Br.dec (λhl=>?_) λhl=>?_
 ·have hl:j<t.2.1.length:=by omega
  rw [List.drop_eq_getElem_cons hl] at hR
  simp only [Ef] at hR
  refine ⟨_,An hl,_,if_pos (h4 _ (List.getElem_mem hl)),⟨λhe=>?_,λhe=>?_⟩⟩
  ·have he:decide (t.2.1[j]=xs)=true:=he
   rw [if_pos he] at hR
   exact hR
  ·have he:decide (t.2.1[j]=xs)=false:=he
   rw [if_neg (by rw [he];decide)] at hR
   rw [Ah (by omega)]
   exact hK hl _ rfl ⟨rfl,by push_cast;exact hR⟩
 ·have:j=t.2.1.length:=by omega
  subst this
  rw [List.drop_length] at hR
  exact hR
theorem qe:Sound Tryz.prog 77 Pc:=
 Sound.Cp Bg (Ae Uh Ai) mixed Tryz.func77 (by kernel_rfl) (by kernel_rfl) λx h=>DU x.1 x.2.1 h
end Go.Proofs.YtfolipnappekaaaGreat

namespace Go.Proofs.YtfolipnappekaaaGreat
open Go.RowKit
noncomputable abbrev au:Spec:=Cp (.pair tI (.pair tL .unit)) .bool false true (λx=>short x.2.1) (λx=>Cy x.1 x.2.1)
noncomputable abbrev Sk:Spec:=Cp (.pair Cu (.pair tL .unit)) .bool false true (λx=>short x.2.1) (λx=>Cy x.1.1 x.2.1)
noncomputable abbrev Na:Spec:=Cp (.pair Cu (.pair tL .unit)) .bool false true (λx=>Cb x.1/\short x.2.1) (λx=>Ax x.1&&Cy x.1.1 x.2.1)
theorem TE (n:Int) (s:List Int) (P:Bool->Prop):(Br ((↑s.length:Int)==n) (∃(y3:Bool),Eg.fn (s,())=some y3/\P y3) (P false))=fnW Cf (look [(75,Eg)]) au Tryz.f127 (n,s,()) P:=by kernel_rfl
theorem qD (p:Int×ByteArray×List (List Int)×Unit) (s:List Int) (P:Bool->Prop):(∃(y3:Int),Nr.fn (s,())=some y3/\Br (y3==p.1) (∃(y4:Bool),Eg.fn (s,())=some y4/\P y4) (P false))=fnW Cf (look [(119,Nr),(134,Eg)]) Sk Tryz.f109 (p,s,()) P:=by kernel_rfl
theorem sy (p:Int×ByteArray×List (List Int)×Unit) (s:List Int) (P:Bool->Prop):(∃(y3:Bool),Dl.fn ((p.1,p.2.1,p.2.2.1,()),())=some y3/\Br y3 (∃(y4:Bool),au.fn (p.1,s,())=some y4/\P y4) (P false))=fnW Cf (look [(93,Dl),(127,au)]) Na Tryz.f95 (p,s,()) P:=by kernel_rfl
theorem RC (n:Int) (s:List Int) (h:short s):fnW Cf (look [(75,Eg)]) au Tryz.f127 (n,s,()) (λ(z:Bool)=>z=Cy n s):=by
 refine Eq.mp (TE n s _) ⟨λhe=>⟨_,if_pos h,?_⟩,λhe=>?_⟩
 ·simp only [beq_iff_eq] at he
  show Fv s=_
  cases hp:Fv s with
  |true=>exact Js ⟨he,hp⟩
  |false=>exact Bk λhh=>by rw [hh.2] at hp;cases hp
 ·simp only [beq_eq_false_iff_ne,ne_eq] at he
  exact Bk λhh=>he hh.1
theorem wq:Sound Tryz.prog 127 au:=
 Sound.Cp Bg (Ae Nc Ai) mixed Tryz.func127 (by kernel_rfl) (by kernel_rfl) λx h=>RC x.1 x.2.1 h
theorem pv (p:PP) (s:List Int) (h:short s):fnW Cf (look [(119,Nr),(134,Eg)]) Sk Tryz.f109 (p,s,()) (λ(z:Bool)=>z=Cy p.1 s):=by
 refine Eq.mp (qD p s _) ⟨_,if_pos trivial,⟨λhe=>⟨_,if_pos h,?_⟩,λhe=>?_⟩⟩
 ·simp only [beq_iff_eq] at he
  show Fv s=_
  cases hp:Fv s with
  |true=>exact Js ⟨he,hp⟩
  |false=>exact Bk λhh=>by rw [hh.2] at hp;cases hp
 ·simp only [beq_eq_false_iff_ne,ne_eq] at he
  exact Bk λhh=>he hh.1
theorem ie:Sound Tryz.prog 109 Sk:=
 Sound.Cp Bg (Ae bF (Ae aA Ai)) mixed Tryz.func109 (by kernel_rfl) (by kernel_rfl) λx h=>pv x.1 x.2.1 h
theorem rI (p:PP) (s:List Int) (h:Cb p/\short s):fnW Cf (look [(93,Dl),(127,au)]) Na Tryz.f95 (p,s,()) (λ(z:Bool)=>z=(Ax p&&Cy p.1 s)):=by
 refine Eq.mp (sy p s _) ⟨_,if_pos h.1,⟨λhe=>⟨_,if_pos h.2,?_⟩,λhe=>?_⟩⟩
 ·have he:Ax p=true:=he
  rw [he];rfl
 ·have he:Ax p=false:=he
  rw [he];rfl
theorem Ym:Sound Tryz.prog 95 Na:=
 Sound.Cp Bg (Ae Nd (Ae wq Ai)) mixed Tryz.func95 (by kernel_rfl) (by kernel_rfl) λx h=>rI x.1 x.2.1 h
end Go.Proofs.YtfolipnappekaaaGreat

namespace Go.Proofs.YtfolipnappekaaaGreat
open Go.RowKit
def It (xs:List Int) (i:Int):Int:=xs.getD i.toNat 0
def Aa (p q:List Int):List Int:=p.map (It q)
def Xt (f:Nat->Nat) (g:Nat->Int) (m:Nat) (init:List Int):List Int:=(List.range m).foldl (λ(out:List Int) (i:Nat)=>out.set (f i) (g i)) init
def Ag (p:List Int):List Int:=Xt (λi=>(It p (i:Int)).toNat) (λi=>(i:Int)) p.length (List.replicate p.length 0)
def Ie (n:Nat) (p:List Int):Prop:= ∀y∈p,0<=y/\y<n
noncomputable abbrev My:Spec:=Cp (.pair tL (.pair tL .unit)) tL false true (λx=>List.length x.1<=20/\Ie (List.length x.2.1) x.1) (λx=>Aa x.1 x.2.1)
noncomputable abbrev Ct:Spec:=Cp (.pair tL .unit) tL false true (λx=>List.length x.1<=20/\Ie (List.length x.1) x.1) (λx=>Ag x.1)
noncomputable abbrev Ck:Spec:=Cp (.pair tI .unit) tL false true (λx=>0<=x.1/\x.1<=20) (λx=>upto x.1.toNat)
noncomputable abbrev Lj:Spec:=Cp (.pair tL .unit) tL false true (λx=>Fv x.1=true) (λx=>Ag x.1)
def Af (g:List (List Int)) (l:Int):List Int:=if l>0 then g.getD (l-1).toNat [] else Ag (g.getD (-l-1).toNat [])
def Hg (n:Int) (l:Int):Prop:=l≠0/\ -n<=l/\l<=n
noncomputable abbrev Kw:Spec:=Cp (.pair cF (.pair tI .unit)) tL false false (λx=>Hg (List.length x.1) x.2.1/\List.length x.1<=8/\ ∀p∈x.1,Fv p=true) (λx=>Af x.1 x.2.1)
def Au (n:Nat):List Int:=(List.range n).flatMap λ(k:Nat)=> [(k:Int)+1,-((k:Int)+1)]
noncomputable abbrev Ix:Spec:=Cp (.pair tI .unit) tL false true (λx=>0<=x.1/\x.1<=8) (λx=>Au x.1.toNat)
noncomputable abbrev ao:Spec:=Cp (.pair Cu (.pair tL (.pair tI .unit))) tL false true (λx=>Ax x.1=true/\List.length x.2.1<=20/\(∀y∈x.2.1,0<=y/\y<x.1.1)/\Hg (List.length x.1.2.2.1) x.2.2.1) (λx=>Aa x.2.1 (Af x.1.2.2.1 x.2.2.1))
theorem sq (p q:List Int) (P:List Int->Prop):(((0:Int)<=(↑p.length:Int)/\(↑p.length:Int)<(↑Bh:Int)+(1:Int))/\(↑p.length:Int)=(↑p.length:Int)/\0=0/\(List.replicate (↑p.length:Int).toNat (Int.ofNat (nat_lit 0))).length=(List.replicate (↑p.length:Int).toNat (Int.ofNat (nat_lit 0))).length/\Bm (λ(v3:Int×List Int×PUnit) (k4:Int×List Int×PUnit->Prop)=>Br (decide (v3.1<(↑p.length:Int))) (∃(y5:Int),idx p v3.1=some y5/\ ∃(y6:Int),idx q y5=some y6/\((0:Int)<=v3.1/\v3.1<(↑v3.2.1.length:Int))/\0+v3.1.toNat<v3.2.1.length/\0=0/\v3.2.1.length=(v3.2.1.set (0+v3.1.toNat) y6).length/\k4 (IntKind.i64.wrap (v3.1+(1:Int)),v3.2.1.set (0+v3.1.toNat) y6,())) (P (List.take v3.2.1.length (List.drop 0 v3.2.1)))) ((0:Int),List.replicate (↑p.length:Int).toNat (Int.ofNat (nat_lit 0)),PUnit.unit))=fnW Cf (look []) My Tryz.f121 (p,q,()) P:=by kernel_rfl
theorem sr (p:List Int) (P:List Int->Prop):(((0:Int)<=(↑p.length:Int)/\(↑p.length:Int)<(↑Bh:Int)+(1:Int))/\(↑p.length:Int)=(↑p.length:Int)/\0=0/\(List.replicate (↑p.length:Int).toNat (Int.ofNat (nat_lit 0))).length=(List.replicate (↑p.length:Int).toNat (Int.ofNat (nat_lit 0))).length/\Bm (λ(v2:Int×List Int×PUnit) (k3:Int×List Int×PUnit->Prop)=>Br (decide (v2.1<(↑p.length:Int))) (∃(y4:Int),idx p v2.1=some y4/\((0:Int)<=y4/\y4<(↑v2.2.1.length:Int))/\0+y4.toNat<v2.2.1.length/\0=0/\v2.2.1.length=(v2.2.1.set (0+y4.toNat) v2.1).length/\k3 (IntKind.i64.wrap (v2.1+(1:Int)),v2.2.1.set (0+y4.toNat) v2.1,())) (P (List.take v2.2.1.length (List.drop 0 v2.2.1)))) ((0:Int),List.replicate (↑p.length:Int).toNat (Int.ofNat (nat_lit 0)),PUnit.unit))=fnW Cf (look []) Ct Tryz.f56 (p,()) P:=by kernel_rfl
theorem MP (p:List Int) (P:List Int->Prop):(((0:Int)<=(↑p.length:Int)/\(↑p.length:Int)<(↑Bh:Int)+(1:Int))/\(↑p.length:Int)=(↑p.length:Int)/\0=0/\(List.replicate (↑p.length:Int).toNat (Int.ofNat (nat_lit 0))).length=(List.replicate (↑p.length:Int).toNat (Int.ofNat (nat_lit 0))).length/\Bm (λ(v2:Int×List Int×PUnit) (k3:Int×List Int×PUnit->Prop)=>Br (decide (v2.1<(↑p.length:Int))) (∃(y4:Int),idx p v2.1=some y4/\((0:Int)<=y4/\y4<(↑v2.2.1.length:Int))/\0+y4.toNat<v2.2.1.length/\0=0/\v2.2.1.length=(v2.2.1.set (0+y4.toNat) v2.1).length/\k3 (IntKind.i64.wrap (v2.1+(1:Int)),v2.2.1.set (0+y4.toNat) v2.1,())) (P (List.take v2.2.1.length (List.drop 0 v2.2.1)))) ((0:Int),List.replicate (↑p.length:Int).toNat (Int.ofNat (nat_lit 0)),PUnit.unit))=fnW Cf (look []) Ct Tryz.f76 (p,()) P:=by kernel_rfl
theorem sx (p:List Int) (P:List Int->Prop):(∃(y2:Bool),Eg.fn (p,())=some y2/\Br (!y2) (P (List.take 0 (List.drop 0 []))) (∃(y3:List Int),Ct.fn (p,())=some y3/\P y3))=fnW Cf (look [(75,Eg),(76,Ct)]) Lj Tryz.f55 (p,()) P:=by kernel_rfl
theorem FK (n:Int) (P:List Int->Prop):(0=0/\0=([]:List Int).length/\Bm (λ(v2:Int×List Int×PUnit) (k3:Int×List Int×PUnit->Prop)=>Br (decide (v2.1<n)) (0=0/\v2.2.1.length=v2.2.1.length/\v2.2.1.length+(List.take 1 (List.drop 0 [v2.1])).length<=Bh/\0=0/\(v2.2.1++List.take 1 (List.drop 0 [v2.1])).length=(v2.2.1++List.take 1 (List.drop 0 [v2.1])).length/\k3 (IntKind.i64.wrap (v2.1+(1:Int)),v2.2.1++List.take 1 (List.drop 0 [v2.1]),())) (P (List.take v2.2.1.length (List.drop 0 v2.2.1)))) ((0:Int),[],PUnit.unit))=fnW Cf (look []) Ck Tryz.f115 (n,()) P:=by kernel_rfl
theorem FM (g:List (List Int)) (l:Int) (P:List Int->Prop):(Br (decide (l>(0:Int))) (∃(y3:List Int),idx g (IntKind.i64.wrap (l-(1:Int)))=some y3/\P y3) (∃(y3:List Int),idx g (IntKind.i64.wrap (IntKind.i64.wrap ((0:Int)-l)-(1:Int)))=some y3/\ ∃(y4:List Int),Ct.fn (y3,())=some y4/\P y4))=fnW Cf (look [(56,Ct)]) Kw Tryz.f122 (g,l,()) P:=by kernel_rfl
theorem MJ (n:Int) (P:List Int->Prop):(0=0/\0=([]:List Int).length/\Bm (λ(v2:Int×List Int×PUnit) (k3:Int×List Int×PUnit->Prop)=>Br (decide (v2.1<n)) (0=0/\v2.2.1.length=v2.2.1.length/\v2.2.1.length+(List.take 2 (List.drop 0 [IntKind.i64.wrap (v2.1+(1:Int)),IntKind.i64.wrap ((0:Int)-IntKind.i64.wrap (v2.1+(1:Int)))])).length<=Bh/\0=0/\(v2.2.1++List.take 2 (List.drop 0 [IntKind.i64.wrap (v2.1+(1:Int)),IntKind.i64.wrap ((0:Int)-IntKind.i64.wrap (v2.1+(1:Int)))])).length=(v2.2.1++List.take 2 (List.drop 0 [IntKind.i64.wrap (v2.1+(1:Int)),IntKind.i64.wrap ((0:Int)-IntKind.i64.wrap (v2.1+(1:Int)))])).length/\k3 (IntKind.i64.wrap (v2.1+(1:Int)),v2.2.1++List.take 2 (List.drop 0 [IntKind.i64.wrap (v2.1+(1:Int)),IntKind.i64.wrap ((0:Int)-IntKind.i64.wrap (v2.1+(1:Int)))]),())) (P (List.take v2.2.1.length (List.drop 0 v2.2.1)))) ((0:Int),[],PUnit.unit))=fnW Cf (look []) Ix Tryz.f106 (n,()) P:=by kernel_rfl
theorem SZ (p:Int×ByteArray×List (List Int)×Unit) (s:List Int) (l:Int) (P:List Int->Prop):(∃(y4:List Int),idx p.2.2.1 (IntKind.i64.wrap ((if true=true then if IntKind.i64.wrap ((0:Int)-l)>l then IntKind.i64.wrap ((0:Int)-l) else l else if IntKind.i64.wrap ((0:Int)-l)<l then IntKind.i64.wrap ((0:Int)-l) else l)-(1:Int)))=some y4/\Br (decide (l<(0:Int))) (∃(y5:List Int),Lj.fn (y4,())=some y5/\0=0/\0=([]:List Int).length/\Bm (λ(v6:Int×List Int×PUnit) (k7:Int×List Int×PUnit->Prop)=>Br (decide (v6.1<(↑s.length:Int))) (∃(y8:Int),idx s v6.1=some y8/\ ∃(y9:Int),idx y5 y8=some y9/\0=0/\v6.2.1.length=v6.2.1.length/\v6.2.1.length+(List.take 1 (List.drop 0 [y9])).length<=Bh/\0=0/\(v6.2.1++List.take 1 (List.drop 0 [y9])).length=(v6.2.1++List.take 1 (List.drop 0 [y9])).length/\k7 (IntKind.i64.wrap (v6.1+(1:Int)),v6.2.1++List.take 1 (List.drop 0 [y9]),())) (P (List.take v6.2.1.length (List.drop 0 v6.2.1)))) ((0:Int),[],PUnit.unit)) (0=0/\0=([]:List Int).length/\Bm (λ(v5:Int×List Int×PUnit) (k6:Int×List Int×PUnit->Prop)=>Br (decide (v5.1<(↑s.length:Int))) (∃(y7:Int),idx s v5.1=some y7/\ ∃(y8:Int),idx y4 y7=some y8/\0=0/\v5.2.1.length=v5.2.1.length/\v5.2.1.length+(List.take 1 (List.drop 0 [y8])).length<=Bh/\0=0/\(v5.2.1++List.take 1 (List.drop 0 [y8])).length=(v5.2.1++List.take 1 (List.drop 0 [y8])).length/\k6 (IntKind.i64.wrap (v5.1+(1:Int)),v5.2.1++List.take 1 (List.drop 0 [y8]),())) (P (List.take v5.2.1.length (List.drop 0 v5.2.1)))) ((0:Int),[],PUnit.unit)))=fnW Cf (look [(55,Lj)]) ao Tryz.f118 (p,s,l,()) P:=by kernel_rfl
theorem Ib {xs:List Int} {i:Nat} (h:i<xs.length):It xs (i:Int)=xs[i]:=by
 unfold It
 rw [Int.toNat_natCast,List.getD_eq_getElem?_getD,List.getElem?_eq_getElem h];rfl
theorem dt {xs:List Int} {y:Int} (h0:0<=y) (h:y<xs.length):idx xs y=some (It xs y):=by
 have hy:y.toNat<xs.length:=by omega
 have e:y=(y.toNat:Int):=by omega
 rw [e,An hy,Ib hy]
theorem Uw (f:Nat->Nat) (g:Nat->Int) (m:Nat) (init:List Int):Xt f g (m+1) init=(Xt f g m init).set (f m) (g m):=by simp [Xt,List.range_succ]
theorem Xu (f:Nat->Nat) (g:Nat->Int) (m:Nat) (init:List Int):(Xt f g m init).length=init.length:=by
 induction m with
 |zero=>rfl
 |succ m ih=>rw [Uw,List.length_set,ih]
theorem lQ (f:Nat->Nat) (g:Nat->Int) (init:List Int): ∀(m:Nat),(∀i j,i<m->j<m->f i=f j->i=j)-> ∀i,i<m->f i<init.length->(Xt f g m init)[f i]?=some (g i)
 |0,_,i,h,_=>absurd h (Nat.not_lt_zero _)
 |m+1,hf,i,hi,hl=>by
  rw [Uw]
  by_cases e:i=m
  ·subst e
   exact List.getElem?_set_self (by rw [Xu];exact hl)
  ·rw [List.getElem?_set_ne (λh=>e (hf i m hi (by omega) h.symm))]
   exact lQ f g init m (λa b ha hb=>hf a b (by omega) (by omega)) i (by omega) hl
structure Vx (p:List Int):Prop where
 pos:1<=p.length
 len:p.length<=20
 row:Ie p.length p
 nodup:p.Nodup
theorem bp {p:List Int} (h:Fv p=true):Vx p:=by
 obtain ⟨h1,h2,h3⟩:=Ed.1 h
 refine ⟨h1,h2,λy hy=>?_,dC λj hj=>(h3 j hj hj).2.2⟩
 obtain ⟨j,hj,rfl⟩:=List.mem_iff_getElem.1 hy
 have:=h3 j hj hj
 omega
theorem Vx.inj {p:List Int} (h:Vx p) (i j:Nat) (hi:i<p.length) (hj:j<p.length) (e:(It p (i:Int)).toNat=(It p (j:Int)).toNat):i=j:=by
 rw [Ib hi,Ib hj] at e
 have h1:=h.row _ (List.getElem_mem hi)
 have h2:=h.row _ (List.getElem_mem hj)
 have e:p[i]=p[j]:=by omega
 refine Classical.byContradiction λFf=>?_
 rcases Nat.lt_or_gt_of_ne Ff with hl|hl
 ·exact List.pairwise_iff_getElem.1 h.nodup i j hi hj hl e
 ·exact List.pairwise_iff_getElem.1 h.nodup j i hj hi hl e.symm
theorem Vx.QS {p:List Int} (h:Vx p) (k:Nat) (hk:k<p.length): ∃i,i<p.length/\(It p (i:Int)).toNat=k:=by
 have hm:=(Yt (xs:=p) h.row).2 (qv h.nodup) k hk
 obtain ⟨i,hi,e⟩:=List.mem_iff_getElem.1 hm
 exact ⟨i,hi,by rw [Ib hi,e];exact Int.toNat_natCast k⟩
theorem Vx.lt {p:List Int} (h:Vx p) {i:Nat} (hi:i<p.length):(It p (i:Int)).toNat<p.length:=by
 rw [Ib hi]
 have:=h.row _ (List.getElem_mem hi)
 omega
theorem j9 (p:List Int):(Ag p).length=p.length:=by unfold Ag;rw [Xu,List.length_replicate]
theorem PT {p:List Int} (h:Vx p) {i:Nat} (hi:i<p.length):(Ag p)[(It p (i:Int)).toNat]?=some (i:Int):=
 lQ (λi=>(It p (i:Int)).toNat) (λi=>(i:Int)) _ p.length (λi j hi hj=>h.inj i j hi hj) i hi (by rw [List.length_replicate];exact h.lt hi)
theorem VJ {p:List Int} (h:Vx p):Ie p.length (Ag p):=by
 intro y hy
 obtain ⟨k,hk,rfl⟩:=List.mem_iff_getElem.1 hy
 have oH:k<p.length:=by rw [j9] at hk;exact hk
 obtain ⟨i,hi,rfl⟩:=h.QS k oH
 have:=PT h hi
 rw [List.getElem?_eq_getElem hk] at this
 rw [Option.some.inj this]
 omega
theorem Ke (p q:List Int):(Aa p q).length=p.length:=by simp [Aa]
theorem xD {p q:List Int} {n:Nat} (hp:Ie q.length p) (hq:Ie n q):Ie n (Aa p q):=by
 intro y hy
 obtain ⟨x,hx,rfl⟩:=List.mem_map.1 hy
 have h1:=hp x hx
 rw [show x=(x.toNat:Int) by omega,Ib (by omega)]
 exact hq _ (List.getElem_mem _)
theorem rz (p q:List Int) (h:p.length<=20/\Ie q.length p):fnW Cf (look []) My Tryz.f121 (p,q,()) (λ(z:List Int)=>z=Aa p q):=by
 obtain ⟨h,hr⟩:=h
 refine Eq.mp (sq p q _) ?_
 refine ⟨⟨by omega,by show (p.length:Int)<(4294967296:Int)+1;omega⟩,rfl,rfl,rfl,?_⟩
 have Mu:=Ke p q
 refine Aj p.length (λv=>v.1) (λj v=>v.2.1.length=(Aa p q).length/\v.2.1.take j=(Aa p q).take j) rfl ⟨by rw [Mu];simp,by simp⟩ ?_
 rintro j ⟨i,ys,⟨⟩⟩ K hj hi ⟨h1,h2⟩ hK
 dsimp only at hi h1 h2⊢
 subst hi
 refine Br.dec (λhl=>?_) λhl=>?_
 ·have hl:j<p.length:=by omega
  have hy:=hr _ (List.getElem_mem hl)
  refine ⟨_,An hl,_,dt hy.1 hy.2,⟨by omega,by omega⟩,by rw [Int.toNat_natCast];omega,rfl,by rw [List.length_set],?_⟩
  rw [Ah (by omega),Int.toNat_natCast,Nat.zero_add]
  have Gd:j<(Aa p q).length:=by rw [Mu];exact hl
  have e:It q p[j]=(Aa p q)[j]:=by simp [Aa]
  rw [e]
  exact hK hl _ rfl ⟨by rw [List.length_set];exact h1,Lk Gd h1 h2⟩
 ·have:j=p.length:=by omega
  subst this
  rw [<-Mu,List.take_length,<-h1,List.take_length] at h2
  rw [List.drop_zero,List.take_length]
  exact h2
theorem Qz:Sound Tryz.prog 121 My:=
 Sound.Cp Bg Ai mixed Tryz.func121 (by kernel_rfl) (by kernel_rfl) λx h=>rz x.1 x.2.1 h
theorem rC (p:List Int) (h:p.length<=20/\Ie p.length p):fnW Cf (look []) Ct Tryz.f56 (p,()) (λ(z:List Int)=>z=Ag p):=by
 obtain ⟨h,hr⟩:=h
 refine Eq.mp (sr p _) ?_
 refine ⟨⟨by omega,by show (p.length:Int)<(4294967296:Int)+1;omega⟩,rfl,rfl,rfl,?_⟩
 refine Aj p.length (λv=>v.1) (λj v=>v.2.1=Xt (λi=>(It p (i:Int)).toNat) (λi=>(i:Int)) j (List.replicate p.length 0)) rfl rfl ?_
 rintro j ⟨i,ys,⟨⟩⟩ K hj hi h1 hK
 dsimp only at hi h1⊢
 subst hi
 have hlen:ys.length=p.length:=by rw [h1,Xu,List.length_replicate]
 refine Br.dec (λhl=>?_) λhl=>?_
 ·have hl:j<p.length:=by omega
  have hy:=hr _ (List.getElem_mem hl)
  refine ⟨_,An hl,⟨by omega,by omega⟩,by omega,rfl,by rw [List.length_set],?_⟩
  rw [Ah (by omega),Nat.zero_add]
  refine hK hl _ rfl ?_
  rw [Uw,<-h1,Ib hl]
 ·have:j=p.length:=by omega
  subst this
  rw [List.drop_zero,List.take_length]
  exact h1
theorem Ra:Sound Tryz.prog 56 Ct:=
 Sound.Cp Bg Ai mixed Tryz.func56 (by kernel_rfl) (by kernel_rfl) λx h=>rC x.1 h
theorem KL (p:List Int) (h:p.length<=20/\Ie p.length p):fnW Cf (look []) Ct Tryz.f76 (p,()) (λ(z:List Int)=>z=Ag p):=by
 obtain ⟨h,hr⟩:=h
 refine Eq.mp (MP p _) ?_
 refine ⟨⟨by omega,by show (p.length:Int)<(4294967296:Int)+1;omega⟩,rfl,rfl,rfl,?_⟩
 refine Aj p.length (λv=>v.1) (λj v=>v.2.1=Xt (λi=>(It p (i:Int)).toNat) (λi=>(i:Int)) j (List.replicate p.length 0)) rfl rfl ?_
 rintro j ⟨i,ys,⟨⟩⟩ K hj hi h1 hK
 dsimp only at hi h1⊢
 subst hi
 have hlen:ys.length=p.length:=by rw [h1,Xu,List.length_replicate]
 refine Br.dec (λhl=>?_) λhl=>?_
 ·have hl:j<p.length:=by omega
  have hy:=hr _ (List.getElem_mem hl)
  refine ⟨_,An hl,⟨by omega,by omega⟩,by omega,rfl,by rw [List.length_set],?_⟩
  rw [Ah (by omega),Nat.zero_add]
  refine hK hl _ rfl ?_
  rw [Uw,<-h1,Ib hl]
 ·have:j=p.length:=by omega
  subst this
  rw [List.drop_zero,List.take_length]
  exact h1
theorem Tc:Sound Tryz.prog 76 Ct:=
 Sound.Cp Bg Ai mixed Tryz.func76 (by kernel_rfl) (by kernel_rfl) λx h=>KL x.1 h
theorem rH (p:List Int) (h:Fv p=true):fnW Cf (look [(75,Eg),(76,Ct)]) Lj Tryz.f55 (p,()) (λ(z:List Int)=>z=Ag p):=by
 have hp:=bp h
 have hs:short p:=by have:=hp.len;unfold short;omega
 refine Eq.mp (sx p _) ⟨_,if_pos hs,⟨λhe=>?_,λ_=>⟨_,if_pos ⟨hp.len,hp.row⟩,rfl⟩⟩⟩
 exact absurd h (Db he)
theorem jH:Sound Tryz.prog 55 Lj:=
 Sound.Cp Bg (Ae Nc (Ae Tc Ai)) mixed Tryz.func55 (by kernel_rfl) (by kernel_rfl) λx h=>rH x.1 h
theorem aD (j:Nat):upto (j+1)=upto j++ [(j:Int)]:=by simp [upto,List.range_succ]
theorem DM (n:Int) (h:0<=n/\n<=20):fnW Cf (look []) Ck Tryz.f115 (n,()) (λ(z:List Int)=>z=upto n.toNat):=by
 refine Eq.mp (FK n _) ⟨rfl,rfl,?_⟩
 refine Aj n.toNat (λv=>v.1) (λj v=>v.2.1=upto j) rfl rfl ?_
 rintro j ⟨i,ys,⟨⟩⟩ K hj hi h1 hK
 dsimp only at hi h1⊢
 subst hi h1
 refine Br.dec (λhl=>?_) λhl=>?_
 ·refine ⟨rfl,rfl,?_,rfl,rfl,?_⟩
  ·show (upto j).length+1<=4294967296
   rw [Tu];omega
  ·rw [Ah (by omega)]
   exact hK (by omega) _ rfl (aD j).symm
 ·have:j=n.toNat:=by omega
  subst this
  rw [List.drop_zero,List.take_length]
theorem dY:Sound Tryz.prog 115 Ck:=
 Sound.Cp Bg Ai mixed Tryz.func115 (by kernel_rfl) (by kernel_rfl) λx h=>DM x.1 h
theorem Me {g:List (List Int)} {k:Nat} (h:k<g.length):Af g ((k:Int)+1)=g[k]:=by
 unfold Af
 rw [if_pos (by omega),show ((k:Int)+1-1).toNat=k by omega,List.getD_eq_getElem?_getD,List.getElem?_eq_getElem h];rfl
theorem Md {g:List (List Int)} {k:Nat} (h:k<g.length):Af g (-((k:Int)+1))=Ag g[k]:=by
 unfold Af
 rw [if_neg (by omega),show (-(-((k:Int)+1))-1).toNat=k by omega,List.getD_eq_getElem?_getD,List.getElem?_eq_getElem h];rfl
theorem Qo {n:Nat} {l:Int} (h:Hg n l): ∃k:Nat,k<n/\(l=(k:Int)+1\/l= -((k:Int)+1)):=by
 obtain ⟨h1,h2,h3⟩:=h
 by_cases h0:0<l
 ·exact ⟨(l-1).toNat,by omega, .inl (by omega)⟩
 ·exact ⟨(-l-1).toNat,by omega, .inr (by omega)⟩
theorem DO (g:List (List Int)) (l:Int) (h:Hg (List.length g) l/\List.length g<=8/\ ∀p∈g,Fv p=true):fnW Cf (look [(56,Ct)]) Kw Tryz.f122 (g,l,()) (λ(z:List Int)=>z=Af g l):=by
 obtain ⟨hl,h8,hp⟩:=h
 refine Eq.mp (FM g l _) ?_
 obtain ⟨k,hk,rfl|rfl⟩:=Qo hl
 ·refine Br.dec (λ_=>?_) λhn=>by omega
  rw [Cl (by omega) (by omega),show (k:Int)+1-1=(k:Int) by omega]
  exact ⟨_,An hk,(Me hk).symm⟩
 ·refine Br.dec (λhn=>by omega) λ_=>?_
  rw [Cl (n:=0- -((k:Int)+1)) (by omega) (by omega),Cl (by omega) (by omega),show (0:Int)- -((k:Int)+1)-1=(k:Int) by omega]
  have:=bp (hp _ (List.getElem_mem hk))
  exact ⟨_,An hk,_,if_pos ⟨this.len,this.row⟩,(Md hk).symm⟩
theorem dZ:Sound Tryz.prog 122 Kw:=
 Sound.Cp Bg (Ae Ra Ai) mixed Tryz.func122 (by kernel_rfl) (by kernel_rfl) λx h=>DO x.1 x.2.1 h
theorem Wt (j:Nat):Au (j+1)=Au j++ [(j:Int)+1,-((j:Int)+1)]:=by simp [Au,List.range_succ,List.flatMap_append]
theorem Lf (j:Nat):(Au j).length=2*j:=by
 induction j with
 |zero=>rfl
 |succ j ih=>rw [Wt,List.length_append,ih];simp only [List.length_cons,List.length_nil];omega
theorem Kj {n:Nat} {l:Int} (h:l∈Au n):Hg n l:=by
 unfold Au at h
 obtain ⟨k,hk,hl⟩:=List.mem_flatMap.1 h
 have hk:=List.mem_range.1 hk
 simp only [List.mem_cons,List.not_mem_nil,or_false] at hl
 unfold Hg
 omega
theorem KF (n:Int) (h:0<=n/\n<=8):fnW Cf (look []) Ix Tryz.f106 (n,()) (λ(z:List Int)=>z=Au n.toNat):=by
 refine Eq.mp (MJ n _) ⟨rfl,rfl,?_⟩
 refine Aj n.toNat (λv=>v.1) (λj v=>v.2.1=Au j) rfl rfl ?_
 rintro j ⟨i,ys,⟨⟩⟩ K hj hi h1 hK
 dsimp only at hi h1⊢
 subst hi h1
 refine Br.dec (λhl=>?_) λhl=>?_
 ·refine ⟨rfl,rfl,?_,rfl,rfl,?_⟩
  ·show (Au j).length+2<=4294967296
   rw [Lf];omega
  ·have e1:IntKind.i64.wrap ((j:Int)+1)=(j:Int)+1:=Cl (by omega) (by omega)
   have e2:IntKind.i64.wrap ((0:Int)-((j:Int)+1))= -((j:Int)+1):=by rw [Cl (by omega) (by omega)];omega
   rw [e1,e2]
   exact hK (by omega) _ rfl (Wt j).symm
 ·have:j=n.toNat:=by omega
  subst this
  rw [List.drop_zero,List.take_length]
theorem Zg:Sound Tryz.prog 106 Ix:=
 Sound.Cp Bg Ai mixed Tryz.func106 (by kernel_rfl) (by kernel_rfl) λx h=>KF x.1 h
structure Valid (p:PP):Prop where
 n:1<=p.1/\p.1<=20
 lP:1<=p.2.2.1.length/\p.2.2.1.length<=8
 perm: ∀m∈p.2.2.1,Fv m=true
 len: ∀m∈p.2.2.1,(m.length:Int)=p.1
theorem valid {p:PP} (h:Ax p=true):Valid p:=by
 have h0:=FF h
 obtain ⟨h1,_,_⟩:=Ed.1 h
 obtain ⟨_,_,h4⟩:=Ed.1 h1
 exact ⟨⟨h0.1,h0.2.1⟩,h0.2.2,λm hm=>(Ed.1 (h4 m hm)).2,λm hm=>(Ed.1 (h4 m hm)).1⟩
theorem eM {p:PP} (h:Valid p) {l:Int} (hl:Hg (List.length p.2.2.1) l):((Af p.2.2.1 l).length:Int)=p.1/\Ie (Af p.2.2.1 l).length (Af p.2.2.1 l):=by
 obtain ⟨k,hk,rfl|rfl⟩:=Qo hl
 ·rw [Me hk]
  exact ⟨h.len _ (List.getElem_mem hk),(bp (h.perm _ (List.getElem_mem hk))).row⟩
 ·rw [Md hk,j9]
  exact ⟨h.len _ (List.getElem_mem hk),VJ (bp (h.perm _ (List.getElem_mem hk)))⟩
theorem xm (s y:List Int) (P:List Int->Prop) (h1:s.length<=20) (h2:Ie y.length s) (h3:P (Aa s y)):
  Bm
   (λ(v5:Int×List Int×PUnit) (k6:Int×List Int×PUnit->Prop)=>
    Br (decide (v5.1<(↑s.length:Int)))
     (∃(y7:Int),
      idx s v5.1=some y7/\
       ∃(y8:Int),
        idx y y7=some y8/\
         (0:Nat)=(0:Nat)/\
          v5.2.1.length=v5.2.1.length/\
           v5.2.1.length+(List.take (1:Nat) (List.drop (0:Nat) [y8])).length<=Bh/\
            (0:Nat)=(0:Nat)/\
             (v5.2.1++List.take (1:Nat) (List.drop (0:Nat) [y8])).length=(v5.2.1++List.take (1:Nat) (List.drop (0:Nat) [y8])).length/\
              k6 (IntKind.i64.wrap (v5.1+(1:Int)),v5.2.1++List.take (1:Nat) (List.drop (0:Nat) [y8]),()))
     (P (List.take v5.2.1.length (List.drop (0:Nat) v5.2.1))))
   ((0:Int),([]:List Int),PUnit.unit):=by
 refine Aj s.length (λv=>v.1) (λj v=>v.2.1=(s.take j).map (It y)) rfl (by simp) ?_
 rintro j ⟨i,ys,⟨⟩⟩ K hj hi hR hK
 dsimp only at hi hR⊢
 subst hi hR
 refine Br.dec (λhl=>?_) λhl=>?_
 ·have hl:j<s.length:=by omega
  have hy:=h2 _ (List.getElem_mem hl)
  refine ⟨_,An hl,_,dt hy.1 hy.2,rfl,rfl,?_,rfl,rfl,?_⟩
  ·show ((s.take j).map (It y)).length+1<=4294967296
   rw [List.length_map,List.length_take];omega
  ·rw [Ah (by omega)]
   refine hK hl _ rfl ?_
   dsimp only
   rw [List.take_succ_eq_append_getElem hl,List.map_append]
   rfl
 ·have:j=s.length:=by omega
  subst this
  rw [List.drop_zero,List.take_length,List.take_length]
  exact h3
theorem QV (p:PP) (s:List Int) (l:Int) (h:Ax p=true/\List.length s<=20/\(∀y∈s,0<=y/\y<p.1)/\Hg (List.length p.2.2.1) l):fnW Cf (look [(55,Lj)]) ao Tryz.f118 (p,s,l,()) (λ(z:List Int)=>z=Aa s (Af p.2.2.1 l)):=by
 obtain ⟨hv,hs,hr,hl⟩:=h
 have hv:=valid hv
 have hf:=hv.lP
 refine Eq.mp (SZ p s l _) ?_
 have IX:=eM hv hl
 have Gl:Ie (Af p.2.2.1 l).length s:= λy hy=>by have:=hr y hy;omega
 obtain ⟨k,hk,rfl|rfl⟩:=Qo hl
 ·rw [if_pos rfl,Cl (n:=0-((k:Int)+1)) (by omega) (by omega),if_neg (by omega),Cl (by omega) (by omega),show (k:Int)+1-1=(k:Int) by omega]
  refine ⟨_,An hk,Br.dec (λhn=>by omega) λ_=>⟨rfl,rfl,?_⟩⟩
  rw [Me hk] at Gl⊢
  exact xm s _ (λz=>z=Aa s p.2.2.1[k]) hs Gl rfl
 ·rw [if_pos rfl,Cl (n:=0- -((k:Int)+1)) (by omega) (by omega),if_pos (by omega),Cl (by omega) (by omega),show (0:Int)- -((k:Int)+1)-1=(k:Int) by omega]
  refine ⟨_,An hk,Br.dec (λ_=>⟨_,if_pos (hv.perm _ (List.getElem_mem hk)),rfl,rfl,?_⟩) λhn=>by omega⟩
  rw [Md hk] at Gl⊢
  exact xm s (Ag p.2.2.1[k]) (λz=>z=Aa s (Ag p.2.2.1[k])) hs Gl rfl
theorem wi:Sound Tryz.prog 118 ao:=
 Sound.Cp Bg (Ae jH Ai) mixed Tryz.func118 (by kernel_rfl) (by kernel_rfl) λx h=>QV x.1 x.2.1 x.2.2.1 h
end Go.Proofs.YtfolipnappekaaaGreat

namespace Go.Proofs.YtfolipnappekaaaGreat
open Go.RowKit
abbrev rL:CK:= .row tI 2
abbrev xLL:CK:= .Eb tL 26
def eO:List (List Int)->Nat
 | []=>0
 |r::rs=>r.length+eO rs
def low (k:Int):Prop:=0<=k/\k<=1099511627776
theorem Bl {α:Type} (xs:List α):List.take xs.length (List.drop 0 xs)=xs:=by rw [List.drop_zero,List.take_length]
end Go.Proofs.YtfolipnappekaaaGreat

namespace Go.Proofs.YtfolipnappekaaaGreat
open Go.RowKit
theorem fH: ∀(xs:List Int) (a:Int),xs.foldl max a=a\/xs.foldl max a∈xs
 | [],a=> .inl rfl
 |y::xs,a=>by
  simp only [List.foldl_cons]
  rcases fH xs (max a y) with h|h
  ·rw [h]
   rcases Int.le_total a y with h1|h1
   ·rw [Int.max_eq_right h1];exact .inr (by simp)
   ·rw [Int.max_eq_left h1];exact .inl rfl
  ·exact .inr (List.mem_cons_of_mem _ h)
theorem kJ (a:List Int):Av a a=true:=by simp [Av]
theorem SB {n:Nat} {room:Int} (h: ¬kL n room<0):kL n room=room-n/\(n:Int)<=room:=by
 unfold kL at*
 split at h
 ·exact absurd (show (-1:Int)<0 by decide) h
 ·rename_i h1;rw [if_neg h1];exact ⟨rfl,by omega⟩
theorem zC: ∀(xs:List (List Int)) (room:Int),0<=room-> ¬ql xs room<0->ql xs room=room-eO xs
 | [],room,_,_=>by simp [ql,eO]
 |r::xs,room,h0,h=>by
  simp only [ql,eO] at h⊢
  split at h
  ·exact absurd (show (-1:Int)<0 by decide) h
  ·rename_i h1
   rw [if_neg h1]
   have e1:=SB (n:=r.length) h1
   have e1:Wu r room=room-r.length/\(r.length:Int)<=room:=e1
   rw [zC xs _ (by rw [e1.1];omega) h,e1.1]
   omega
theorem RZ {xs:List (List Int)} {room:Int} (h: ¬Np xs room<0):Np xs room=room-xs.length-eO xs:=by
 unfold Np at*
 split at h
 ·exact absurd (show (-1:Int)<0 by decide) h
 ·rename_i h1
  rw [if_neg h1]
  have e1:=SB h1
  rw [zC xs _ (by rw [e1.1];omega) h,e1.1]
end Go.Proofs.YtfolipnappekaaaGreat

namespace Go.Proofs.YtfolipnappekaaaGreat
open Go.RowKit
noncomputable abbrev pM:MSpec:=nD [none] [(false, .Er (.oslice tI))] false [none] [rL] (λx=>short (x.1.getD [])) (λx=>((x.1.getD [],()),()))
noncomputable abbrev Xb:MSpec:=nD [none] [(false, .Er tL)] false [none] [rL] (λx=>short x.1) (λx=>((x.1,()),()))
noncomputable abbrev Fy:Spec:=Cp (.pair tL .unit) tL false true (λx=>short x.1) (λx=>x.1)
theorem TA (xs:Option (List Int)) (P:((List Int×Unit)×Unit)->Prop):(Br xs.isNone (P ((List.take 0 (List.drop 0 []),()),())) (0=0/\0=([]:List Int).length/\0+(xs.getD []).length<=Bh/\P ((List.take ([]++xs.getD []).length (List.drop 0 ([]++xs.getD [])),()),())))=fnMW lF (look []) pM Tryz.f138 (xs,()) P:=by kernel_rfl
theorem FI (xs:List Int) (P:List Int->Prop):(0=0/\0=([]:List Int).length/\0+xs.length<=Bh/\P (List.take ([]++xs).length (List.drop 0 ([]++xs))))=fnW Cf (look []) Fy Tryz.f116 (xs,()) P:=by kernel_rfl
theorem QW (xs:Option (List Int)) (h:short (xs.getD [])):fnMW lF (look []) pM Tryz.f138 (xs,()) (λ(z:(List Int×Unit)×Unit)=>z=((xs.getD [],()),())):=by
 unfold short at h
 refine Eq.mp (TA xs _) ⟨λhn=>?_,λ_=>⟨rfl,rfl,by show 0+(xs.getD []).length<=4294967296;omega,?_⟩⟩
 ·cases xs with
  |none=>rfl
  |some y=>cases hn
 ·simp only [Bl,List.nil_append]
theorem wj:Bj Tryz.prog 138 pM:=
 Bj.nD im Ai mixed Tryz.func138 (by kernel_rfl) (by kernel_rfl) λx h=>QW x.1 h
theorem jC:Bj Tryz.prog 138 Xb:=Bj.ofO wj λ_ _ h=>⟨h,rfl⟩
theorem DJ (xs:List Int) (h:short xs):fnW Cf (look []) Fy Tryz.f116 (xs,()) (λ(z:List Int)=>z=xs):=by
 unfold short at h
 refine Eq.mp (FI xs _) ⟨rfl,rfl,by show 0+xs.length<=4294967296;omega,?_⟩
 simp only [Bl,List.nil_append]
theorem Qy:Sound Tryz.prog 116 Fy:=
 Sound.Cp Bg Ai mixed Tryz.func116 (by kernel_rfl) (by kernel_rfl) λx h=>DJ x.1 h
end Go.Proofs.YtfolipnappekaaaGreat

namespace Go.Proofs.YtfolipnappekaaaGreat
open Go.RowKit
def Ca (xs is:List Int):List Int:=is.map (It xs)
noncomputable abbrev Vn:MSpec:=nD [none,none] [(false, .Er tL),(false, .Er tL)] false [none] [rL] (λx=>short x.2.1/\Ie (List.length x.1) x.2.1) (λx=>((Ca x.1 x.2.1,()),()))
noncomputable abbrev Vp:Spec:=Cp (.pair tL (.pair tL .unit)) tL false true (λx=>short x.1/\Ie (List.length x.2.1) x.1) (λx=>Ca x.2.1 x.1)
def Ih (xs:List Int):ByteArray:=bytesOf (xs.map λx=>IntKind.u8.wrap x)
noncomputable abbrev Cg:Spec:=Cp (.pair tL .unit) .str false true (λx=>short x.1) (λx=>Ih x.1)
def jr (ps:List (List Int)) (p:List Int):Int:=Ef (λq=>decide (q=p)) ps 0
theorem ML (xs is:List Int) (P:((List Int×Unit)×Unit)->Prop):(((0:Int)<=(↑is.length:Int)/\(↑is.length:Int)<(↑Bh:Int)+(1:Int))/\(↑is.length:Int)=(↑is.length:Int)/\0=0/\(List.replicate (↑is.length:Int).toNat (Int.ofNat (nat_lit 0))).length=(List.replicate (↑is.length:Int).toNat (Int.ofNat (nat_lit 0))).length/\Bm (λ(v3:Int×List Int×PUnit) (k4:Int×List Int×PUnit->Prop)=>Br (decide (v3.1<(↑is.length:Int))) (∃(y5:Int),idx is v3.1=some y5/\ ∃(y6:Int),idx xs y5=some y6/\((0:Int)<=v3.1/\v3.1<(↑v3.2.1.length:Int))/\0+v3.1.toNat<v3.2.1.length/\0=0/\v3.2.1.length=(v3.2.1.set (0+v3.1.toNat) y6).length/\k4 (IntKind.i64.wrap (v3.1+(1:Int)),v3.2.1.set (0+v3.1.toNat) y6,())) (P ((List.take v3.2.1.length (List.drop 0 v3.2.1),()),()))) ((0:Int),List.replicate (↑is.length:Int).toNat (Int.ofNat (nat_lit 0)),PUnit.unit))=fnMW lF (look []) Vn Tryz.f80 (xs,is,()) P:=by kernel_rfl
theorem MN (is xs:List Int) (P:List Int->Prop):(0=0/\0=([]:List Int).length/\Bm (λ(v3:Int×List Int×PUnit) (k4:Int×List Int×PUnit->Prop)=>Br (decide (v3.1<(↑is.length:Int))) (∃(y5:Int),idx is v3.1=some y5/\ ∃(y6:Int),idx xs y5=some y6/\0=0/\v3.2.1.length=v3.2.1.length/\v3.2.1.length+(List.take 1 (List.drop 0 [y6])).length<=Bh/\0=0/\(v3.2.1++List.take 1 (List.drop 0 [y6])).length=(v3.2.1++List.take 1 (List.drop 0 [y6])).length/\k4 (IntKind.i64.wrap (v3.1+(1:Int)),v3.2.1++List.take 1 (List.drop 0 [y6]),())) (P (List.take v3.2.1.length (List.drop 0 v3.2.1)))) ((0:Int),[],PUnit.unit))=fnW Cf (look []) Vp Tryz.f78 (is,xs,()) P:=by kernel_rfl
theorem FR (xs:List Int) (P:ByteArray->Prop):(((0:Int)<=(↑xs.length:Int)/\(↑xs.length:Int)<(↑Bh:Int)+(1:Int))/\(↑xs.length:Int)=(↑xs.length:Int)/\0=0/\(List.replicate (↑xs.length:Int).toNat (Int.ofNat (nat_lit 0))).length=(List.replicate (↑xs.length:Int).toNat (Int.ofNat (nat_lit 0))).length/\Bm (λ(v2:Int×List Int×PUnit) (k3:Int×List Int×PUnit->Prop)=>Br (decide (v2.1<(↑xs.length:Int))) (∃(y4:Int),idx xs v2.1=some y4/\((0:Int)<=v2.1/\v2.1<(↑v2.2.1.length:Int))/\0+v2.1.toNat<v2.2.1.length/\0=0/\v2.2.1.length=(v2.2.1.set (0+v2.1.toNat) (IntKind.u8.wrap y4)).length/\k3 (IntKind.i64.wrap (v2.1+(1:Int)),v2.2.1.set (0+v2.1.toNat) (IntKind.u8.wrap y4),())) (P (bytesOf (List.take v2.2.1.length (List.drop 0 v2.2.1))))) ((0:Int),List.replicate (↑xs.length:Int).toNat (Int.ofNat (nat_lit 0)),PUnit.unit))=fnW Cf (look []) Cg Tryz.f79 (xs,()) P:=by kernel_rfl
theorem pz (xs is:List Int):(Ca xs is).length=is.length:=by simp [Ca]
theorem VO {α:Type} (y:α):List.take 1 (List.drop 0 [y])= [y]:=rfl
theorem KH (xs is:List Int) (h:short is/\Ie xs.length is):fnMW lF (look []) Vn Tryz.f80 (xs,is,()) (λ(z:(List Int×Unit)×Unit)=>z=((Ca xs is,()),())):=by
 obtain ⟨h,hr⟩:=h
 unfold short at h
 refine Eq.mp (ML xs is _) ?_
 refine ⟨⟨by omega,by show (is.length:Int)<(4294967296:Int)+1;omega⟩,rfl,rfl,rfl,?_⟩
 have Mu:=pz xs is
 refine Aj is.length (λv=>v.1) (λj v=>v.2.1.length=(Ca xs is).length/\v.2.1.take j=(Ca xs is).take j) rfl ⟨by rw [Mu];simp,by simp⟩ ?_
 rintro j ⟨i,ys,⟨⟩⟩ K hj hi ⟨h1,h2⟩ hK
 dsimp only at hi h1 h2⊢
 subst hi
 refine Br.dec (λhl=>?_) λhl=>?_
 ·have hl:j<is.length:=by omega
  have hy:=hr _ (List.getElem_mem hl)
  refine ⟨_,An hl,_,dt hy.1 hy.2,⟨by omega,by omega⟩,by rw [Int.toNat_natCast];omega,rfl,by rw [List.length_set],?_⟩
  rw [Ah (by omega),Int.toNat_natCast,Nat.zero_add]
  have Gd:j<(Ca xs is).length:=by rw [Mu];exact hl
  have e:It xs is[j]=(Ca xs is)[j]:=by simp [Ca]
  rw [e]
  exact hK hl _ rfl ⟨by rw [List.length_set];exact h1,Lk Gd h1 h2⟩
 ·have:j=is.length:=by omega
  subst this
  rw [<-Mu,List.take_length,<-h1,List.take_length] at h2
  rw [List.drop_zero,List.take_length,h2]
theorem rZ:Bj Tryz.prog 80 Vn:=
 Bj.nD im Ai mixed Tryz.func80 (by kernel_rfl) (by kernel_rfl) λx h=>KH x.1 x.2.1 h
theorem KJ (is xs:List Int) (h:short is/\Ie xs.length is):fnW Cf (look []) Vp Tryz.f78 (is,xs,()) (λ(z:List Int)=>z=Ca xs is):=by
 obtain ⟨h,hr⟩:=h
 unfold short at h
 refine Eq.mp (MN is xs _) ⟨rfl,rfl,?_⟩
 have Mu:=pz xs is
 refine Aj is.length (λv=>v.1) (λj v=>v.2.1=(Ca xs is).take j) rfl rfl ?_
 rintro j ⟨i,ys,⟨⟩⟩ K hj hi h1 hK
 dsimp only at hi h1⊢
 subst hi
 refine Br.dec (λhl=>?_) λhl=>?_
 ·have hl:j<is.length:=by omega
  have hy:=hr _ (List.getElem_mem hl)
  have Gd:j<(Ca xs is).length:=by rw [Mu];exact hl
  refine ⟨_,An hl,_,dt hy.1 hy.2,rfl,rfl,?_,rfl,rfl,?_⟩
  ·show ys.length+1<=4294967296
   rw [h1,List.length_take];omega
  ·rw [Ah (by omega),VO]
   refine hK hl _ rfl ?_
   dsimp only
   rw [h1,List.take_succ_eq_append_getElem Gd]
   simp [Ca]
 ·have:j=is.length:=by omega
  subst this
  rw [Bl,h1,<-Mu,List.take_length]
theorem s9:Sound Tryz.prog 78 Vp:=
 Sound.Cp Bg Ai mixed Tryz.func78 (by kernel_rfl) (by kernel_rfl) λx h=>KJ x.1 x.2.1 h
theorem DT (xs:List Int) (h:short xs):fnW Cf (look []) Cg Tryz.f79 (xs,()) (λ(z:ByteArray)=>z=Ih xs):=by
 unfold short at h
 refine Eq.mp (FR xs _) ?_
 refine ⟨⟨by omega,by show (xs.length:Int)<(4294967296:Int)+1;omega⟩,rfl,rfl,rfl,?_⟩
 have Mu:(xs.map λx=>IntKind.u8.wrap x).length=xs.length:=by simp
 refine Aj xs.length (λv=>v.1) (λj v=>v.2.1.length=(xs.map λx=>IntKind.u8.wrap x).length/\v.2.1.take j=(xs.map λx=>IntKind.u8.wrap x).take j) rfl ⟨by rw [Mu];simp,by simp⟩ ?_
 rintro j ⟨i,ys,⟨⟩⟩ K hj hi ⟨h1,h2⟩ hK
 dsimp only at hi h1 h2⊢
 subst hi
 refine Br.dec (λhl=>?_) λhl=>?_
 ·have hl:j<xs.length:=by omega
  refine ⟨_,An hl,⟨by omega,by omega⟩,by rw [Int.toNat_natCast];omega,rfl,by rw [List.length_set],?_⟩
  rw [Ah (by omega),Int.toNat_natCast,Nat.zero_add]
  have Gd:j<(xs.map λx=>IntKind.u8.wrap x).length:=by rw [Mu];exact hl
  have e:IntKind.u8.wrap xs[j]=(xs.map λx=>IntKind.u8.wrap x)[j]:=by simp
  rw [e]
  exact hK hl _ rfl ⟨by rw [List.length_set];exact h1,Lk Gd h1 h2⟩
 ·have:j=xs.length:=by omega
  subst this
  rw [<-Mu,List.take_length,<-h1,List.take_length] at h2
  rw [List.drop_zero,List.take_length,h2];rfl
theorem Ml:Sound Tryz.prog 79 Cg:=
 Sound.Cp Bg Ai mixed Tryz.func79 (by kernel_rfl) (by kernel_rfl) λx h=>DT x.1 h
theorem c8 {α:Type} (P:α->Bool) (y:α): ∀(l:List α) (i:Int),0<=i->Ef P (l++ [y]) i=if Ef P l i<0 then (if P y=true then i+l.length else-1) else Ef P l i
 | [],i,_=>by simp [Ef]
 |x::r,i,h=>by
  simp only [List.cons_append,Ef,List.length_cons]
  split
  ·rw [if_neg (by omega)]
  ·rw [c8 P y r (i+1) (by omega),show i+1+(r.length:Int)=i+((r.length+1:Nat):Int) by push_cast;omega]
theorem vT (ps:List (List Int)) (q p:List Int):jr (ps++ [q]) p=if jr ps p<0 then (if q=p then (ps.length:Int) else-1) else jr ps p:=by
 unfold jr
 rw [c8 _ _ _ _ (Int.le_refl 0)]
 simp only [decide_eq_true_eq,Int.zero_add]
def Nh (p:List Int):Prop:= ∀x∈p,0<=x/\x<256
theorem NS {x y:Int} (hx:0<=x/\x<256) (hy:0<=y/\y<256) (h:UInt8.ofNat (IntKind.u8.wrap x).toNat=UInt8.ofNat (IntKind.u8.wrap y).toNat):x=y:=by
 have h:=congrArg UInt8.toNat h
 simp only [IntKind.wrap_u8,UInt8.toNat_ofNat'] at h
 omega
theorem bytes_inj: ∀(p q:List Int),Nh p->Nh q->(p.map λx=>UInt8.ofNat (IntKind.u8.wrap x).toNat)=(q.map λx=>UInt8.ofNat (IntKind.u8.wrap x).toNat)->p=q
 | [],[],_,_,_=>rfl
 | [],_::_,_,_,h=>by simp at h
 |_::_,[],_,_,h=>by simp at h
 |x::p,y::q,hp,hq,h=>by
  simp only [List.map_cons,List.cons.injEq] at h
  rw [NS (hp x (by simp)) (hq y (by simp)) h.1,bytes_inj p q (λz hz=>hp z (by simp [hz])) (λz hz=>hq z (by simp [hz])) h.2]
theorem key_inj {p q:List Int} (hp:Nh p) (hq:Nh q) (h:Ih p=Ih q):p=q:=by
 refine bytes_inj p q hp hq ?_
 simp only [Ih,bytesOf,ByteArray.mk.injEq,List.map_map] at h
 have h:=congrArg Array.toList h
 simpa [Function.comp_def] using h
def KM (m:ByteArray->Option Int) (ps:List (List Int)):Prop:= ∀p,Nh p->m (Ih p)=if jr ps p<0 then none else some (jr ps p)
theorem KM.nil:KM (λ_=>none) []:= λp _=>by
 rw [if_pos (by unfold jr;simp [Ef])]
theorem KM.add {m:ByteArray->Option Int} {ps:List (List Int)} {q:List Int} (h:KM m ps) (hq:Nh q) (hn:jr ps q<0):KM (Tt m (Ih q) (ps.length:Int)) (ps++ [q]):=by
 intro p hp
 rw [vT]
 unfold Tt
 by_cases e:p=q
 ·subst e
  rw [if_pos rfl,if_pos hn,if_pos rfl,if_neg (by omega)]
 ·rw [if_neg (λhk=>e (key_inj hp hq hk)),h p hp]
  have e': ¬q=p:= λh=>e h.symm
  rw [if_neg e']
  by_cases JE:jr ps p<0
  ·rw [if_pos JE,if_pos JE,if_pos (by decide)]
  ·rw [if_neg JE,if_neg JE,if_neg JE]
end Go.Proofs.YtfolipnappekaaaGreat

namespace Go.Proofs.YtfolipnappekaaaGreat
open Go.RowKit
noncomputable abbrev Pv:Spec:=Cp (.pair Cu .unit) tL false true (λx=>List.length x.1.2.2.1<=8) (λx=>Au (List.length x.1.2.2.1))
abbrev jK:Type:=Int×Int×ByteArray×List (List Int)×List Int×PUnit
theorem zT (p:Int×ByteArray×List (List Int)×Unit) (P:List Int->Prop):(0=0/\0=([]:List Int).length/\Bm (λ(v2:jK) (k3:jK->Prop)=>Br (decide (v2.1<=(↑v2.2.2.2.1.length:Int))) (0=0/\v2.2.2.2.2.1.length=v2.2.2.2.2.1.length/\v2.2.2.2.2.1.length+(List.take 2 (List.drop 0 [v2.1,IntKind.i64.wrap ((0:Int)-v2.1)])).length<=Bh/\0=0/\(v2.2.2.2.2.1++List.take 2 (List.drop 0 [v2.1,IntKind.i64.wrap ((0:Int)-v2.1)])).length=(v2.2.2.2.2.1++List.take 2 (List.drop 0 [v2.1,IntKind.i64.wrap ((0:Int)-v2.1)])).length/\k3 (IntKind.i64.wrap (v2.1+(1:Int)),v2.2.1,v2.2.2.1,v2.2.2.2.1,v2.2.2.2.2.1++List.take 2 (List.drop 0 [v2.1,IntKind.i64.wrap ((0:Int)-v2.1)]),())) (P (List.take v2.2.2.2.2.1.length (List.drop 0 v2.2.2.2.2.1)))) ((1:Int),p.1,p.2.1,p.2.2.1,[],PUnit.unit))=fnW Cf (look []) Pv Tryz.f141 (p,()) P:=by kernel_rfl
theorem za (p:PP) (h:List.length p.2.2.1<=8):fnW Cf (look []) Pv Tryz.f141 (p,()) (λ(z:List Int)=>z=Au (List.length p.2.2.1)):=by
 refine Eq.mp (zT p _) ⟨rfl,rfl,?_⟩
 refine Bm.mk (λv=> ∃j:Nat,j<=List.length p.2.2.1/\v=((j:Int)+1,p.1,p.2.1,p.2.2.1,Au j,())) (λv=>List.length p.2.2.1+1-v.1.toNat) ⟨0,Nat.zero_le _,rfl⟩ ?_
 rintro _ ⟨j,hj,rfl⟩
 dsimp only
 refine Br.dec (λhl=>?_) λhl=>?_
 ·refine ⟨rfl,rfl,?_,rfl,rfl,⟨j+1,by omega,?_⟩,?_⟩
  ·show (Au j).length+2<=4294967296
   rw [Lf];omega
  ·rw [Wt,Cl (n:=(j:Int)+1+1) (by omega) (by omega),Cl (n:=0-((j:Int)+1)) (by omega) (by omega),Int.zero_sub]
   rfl
  ·rw [Cl (by omega) (by omega)];omega
 ·have:j=List.length p.2.2.1:=by omega
  subst this
  rw [Bl]
theorem nd:Sound Tryz.prog 141 Pv:=
 Sound.Cp Bg Ai mixed Tryz.func141 (by kernel_rfl) (by kernel_rfl) λx h=>za x.1 h
theorem PS {a:Int} {P:Prop} (h:(a !=a)=true):P:=by simp at h
theorem SA {p:PP} {room:Int} (hr:roomy room) (h: ¬p6 p room<0):(eO p.2.2.1:Int)<=room-p6 p room/\roomy (p6 p room):=by
 unfold p6 at h⊢
 split at h
 ·exact absurd (show (-1:Int)<0 by decide) h
 ·rename_i h1
  rw [if_neg h1]
  split at h
  ·exact absurd (show (-1:Int)<0 by decide) h
  ·rename_i h2
   rw [if_neg h2]
   have e2:=RZ h2
   obtain ⟨r1,r2⟩:=hr
   unfold roomy
   omega
end Go.Proofs.YtfolipnappekaaaGreat

namespace Go.Proofs.YtfolipnappekaaaGreat
open Go.RowKit
def vz (v:Int):List Int->Nat
 | []=>0
 |x::r=>if x>v then vz v r+1 else 0
def VK (v:Int) (t:List Int):Option (List Int):=if vz v t=0 then none else some (It t ((vz v t-1:Nat):Int)::(t.set (vz v t-1) v).reverse)
def dB:List Int->Option (List Int)
 | []=>none
 |v::t=>match dB t with
  |some t'=>some (v::t')
  |none=>VK v t
theorem yR {s s':List Int} (h:dB s=some s'): ∀pre:List Int,dB (pre++s)=some (pre++s')
 | []=>h
 |v::p=>by rw [List.cons_append,dB,yR h p];rfl
theorem WC {α:Type} (pre:List α) (v a:α) (t:List α):(pre++v::t).set pre.length a=pre++a::t:=by
 rw [List.set_append,if_neg (by omega)];simp
inductive FY:List Int->List (List Int)->List Int->Prop where
 |one (a:List Int):FY a [a] a
 |more {a c b:List Int} {L:List (List Int)} :dB a=some c->FY c L b->FY a (a::L) b
theorem FY.cons {a b:List Int} {L:List (List Int)} (h:FY a L b) (v:Int):FY (v::a) (L.map (v:: ·)) (v::b):=by
 induction h with
 |one a=>exact .one _
 |more h3 _ ih=>exact .more (yR h3 [v]) ih
theorem FY.head {a b:List Int} {L:List (List Int)} (h:FY a L b): ∃M,L=a::M:=by
 cases h with
 |one=>exact ⟨_,rfl⟩
 |more _ _=>exact ⟨_,rfl⟩
theorem FY.at {a b:List Int} {L:List (List Int)} (h:FY a L b): ∀j (hj:j<L.length),(∀h2:j+1<L.length,dB L[j]=some L[j+1])/\(j+1=L.length->L[j]=b):=by
 induction h with
 |one a=>
  intro j hj
  simp only [List.length_singleton] at hj
  have:j=0:=by omega
  subst this
  exact ⟨λh2=>by simp at h2,λ_=>rfl⟩
 |more h3 h4 ih=>
  intro j hj
  rcases j with _|j
  ·obtain ⟨M,hM⟩:=h4.head
   refine ⟨λh2=>?_,λh2=>?_⟩
   ·simp only [List.getElem_cons_zero,List.getElem_cons_succ]
    subst hM
    exact h3
   ·subst hM;simp at h2
  ·have:=ih j (by simpa using hj)
   refine ⟨λh2=>?_,λh2=>?_⟩
   ·simp only [List.getElem_cons_succ]
    exact this.1 (by simpa using h2)
   ·simp only [List.getElem_cons_succ]
    exact this.2 (by simpa using h2)
theorem FY.distinct {a b:List Int} {L:List (List Int)} (h:FY a L b) (hb:dB b=none): ∀k i j (hi:i<L.length) (hj:j<L.length),L.length-j=k->i<j->L[i]≠L[j]:=by
 intro k
 induction k with
 |zero=>intro i j hi hj hk;omega
 |succ k ih=>
  intro i j hi hj hk kE he
  by_cases e:j+1<L.length
  ·have h1:=(h.at i hi).1 (by omega)
   have h2:=(h.at j hj).1 e
   rw [he,h2] at h1
   exact ih (i+1) (j+1) (by omega) e (by omega) (by omega) (Option.some.inj h1).symm
  ·have h1:=(h.at i hi).1 (by omega)
   have h2:=(h.at j hj).2 (by omega)
   rw [he,h2,hb] at h1
   cases h1
theorem FY.idx {a b:List Int} {L:List (List Int)} (h:FY a L b) (hb:dB b=none) {j:Nat} (hj:j<L.length):L.idxOf L[j]=j:=by
 have h1:L.idxOf L[j]<L.length:=List.idxOf_lt_length_of_mem (List.getElem_mem _)
 have h2:L[L.idxOf L[j]]=L[j]:=List.getElem_idxOf h1
 rcases Nat.lt_trichotomy (L.idxOf L[j]) j with h3|h3|h3
 ·exact absurd h2 (h.distinct hb _ _ _ h1 hj rfl h3)
 ·exact h3
 ·exact absurd h2.symm (h.distinct hb _ _ _ hj h1 rfl h3)
end Go.Proofs.YtfolipnappekaaaGreat

namespace Go.Proofs.YtfolipnappekaaaGreat
open Go.RowKit
def Co:List Int->List Int->Int
 | [],[]=>0
 | [],_::_=> -1
 |_::_,[]=>1
 |x::a,y::b=>if x<y then-1 else if x>y then 1 else Co a b
def bh (a b:List Int):Bool:=decide (Co a b<0)
noncomputable abbrev Sn:Spec:=Cp (.pair tL (.pair tL .unit)) .bool false true (λx=>short x.1/\List.length x.1=List.length x.2.1) (λx=>bh x.1 x.2.1)
theorem FO (a b:List Int) (P:Bool->Prop):(Bm (λ(v3:Int×PUnit) (k4:Int×PUnit->Prop)=>Br (decide (v3.1<(↑a.length:Int))) (∃(y5:Int),idx a v3.1=some y5/\ ∃(y6:Int),idx b v3.1=some y6/\Br (y5 !=y6) (∃(y7:Int),idx a v3.1=some y7/\ ∃(y8:Int),idx b v3.1=some y8/\P (decide (y7<y8))) (k4 (IntKind.i64.wrap (v3.1+(1:Int)),()))) (P false)) ((0:Int),PUnit.unit))=fnW Cf (look []) Sn Tryz.f158 (a,b,()) P:=by kernel_rfl
theorem Sound.ofO {P:Program} {f:FuncId} {e:Ty} {r res:Ty} {Dv fresh:Bool} {pre:(Ty.pair (.oslice e) r).den->Prop} {val:(Ty.pair (.oslice e) r).den->res.den} {dH:(Ty.pair (.slice e) r).den->Prop} {qA:(Ty.pair (.slice e) r).den->res.den}
  (h:Sound P f (Go.Proofs.YtfolipnappekaaaGreat.Cp (.pair (.oslice e) r) res Dv fresh pre val))
  (hp: ∀(o:Option (List e.den)) (y:r.den),dH (o.getD [],y)->pre (o,y)/\val (o,y)=qA (o.getD [],y)):Sound P f (Go.Proofs.YtfolipnappekaaaGreat.Cp (.pair (.slice e) r) res Dv fresh dH qA):=by
 refine ⟨h.enter,λw S vs x y hS h2 h5=>?_⟩
 obtain ⟨xs,rest⟩:=x
 cases vs with
 |nil=>exact h2.elim
 |cons u us=>
  obtain ⟨h7,h8⟩:=h2
  obtain ⟨ox,h9,rfl⟩:=h7.told
  have Yx:dH (ox.getD [],rest):=Classical.byContradiction λhn=>by
   have:(Go.Proofs.YtfolipnappekaaaGreat.Cp (.pair (.slice e) r) res Dv fresh dH qA).fn (ox.getD [],rest)=none:=if_neg hn
   rw [this] at h5;cases h5
  obtain ⟨k1,k2⟩:=hp ox rest Yx
  have hv:(Go.Proofs.YtfolipnappekaaaGreat.Cp (.pair (.slice e) r) res Dv fresh dH qA).fn (ox.getD [],rest)=some (qA (ox.getD [],rest)):=if_pos Yx
  rw [hv] at h5
  have h5:=Option.some.inj h5
  exact h.calls w S (u::us) (ox,rest) y hS ⟨h9,h8⟩ ((if_pos k1).trans (by rw [k2];exact congrArg some h5))
theorem DQ (a b:List Int) (h:short a/\a.length=b.length):fnW Cf (look []) Sn Tryz.f158 (a,b,()) (λ(z:Bool)=>z=bh a b):=by
 obtain ⟨ha,hb⟩:=h
 unfold short at ha
 refine Eq.mp (FO a b _) ?_
 refine Aj a.length (λv=>v.1) (λj _=>Co (a.drop j) (b.drop j)=Co a b) rfl (by simp) ?_
 rintro j ⟨i,⟨⟩⟩ K hj hi ZW hK
 dsimp only at hi⊢
 subst hi
 refine Br.dec (λhl=>?_) λhl=>?_
 ·have hl:j<a.length:=by omega
  have hlb:j<b.length:=by omega
  rw [List.drop_eq_getElem_cons hl,List.drop_eq_getElem_cons hlb] at ZW
  simp only [Co] at ZW
  refine ⟨_,An hl,_,An hlb,⟨λFf=>?_,λFf=>?_⟩⟩
  ·refine ⟨_,An hl,_,An hlb,?_⟩
   have Ff:a[j]≠b[j]:=by simpa using Ff
   unfold bh
   rw [<-ZW]
   by_cases h1:a[j]<b[j]
   ·rw [if_pos h1];simp [h1]
   ·rw [if_neg h1,if_pos (by omega)];simp [h1]
  ·have Ff:a[j]=b[j]:=by simpa using Ff
   rw [if_neg (by omega),if_neg (by omega)] at ZW
   rw [Ah (by omega)]
   exact hK hl _ rfl ZW
 ·have:j=a.length:=by omega
  subst this
  rw [List.drop_length,List.drop_eq_nil_of_le (by omega)] at ZW
  unfold bh
  rw [<-ZW]
  rfl
theorem q9:Sound Tryz.prog 158 Sn:=
 Sound.Cp Bg Ai mixed Tryz.func158 (by kernel_rfl) (by kernel_rfl) λx h=>DQ x.1 x.2.1 h
end Go.Proofs.YtfolipnappekaaaGreat

namespace Go.Proofs.YtfolipnappekaaaGreat
open Go.RowKit
abbrev SS:Type:=List (List Int)×List Int×List Int×Bool×Unit
abbrev rLS:CK:= .row tL 26
abbrev rN:CK:= .row tI 3
def Dg (L:List (List Int)) (Ip:List Int) (s:List Int):Nat:=(Ip.takeWhile λi=>bh (L.getD i.toNat []) s).length
structure Dd (m:Nat) (L:List (List Int)) (Ip:List Int):Prop where
 lP:L.length<=3000
 len: ∀x∈L,x.length=m
 short:m<=20
 perm:Ip.Perm (upto L.length)
 sorted:Ip.Pairwise λi j=>bh (L.getD i.toNat []) (L.getD j.toNat [])=true
def fT (L:List (List Int)) (s:List Int):Int:=if s∈L then (L.idxOf s:Int) else-1
def Rk (Ip:List Int) (k:Nat) (x:Int):List Int:=Ip.take k++x::Ip.drop k
noncomputable abbrev bC:Spec:=Cp (.pair Vb (.pair tL .unit)) tI false true (λx=>Dd (List.length x.2.1) x.1.1 x.1.2.2.1) (λx=>(Dg x.1.1 x.1.2.2.1 x.2.1:Int))
noncomputable abbrev Qw:Spec:=Cp (.pair Vb (.pair tL .unit)) tI false true (λx=>Dd (List.length x.2.1) x.1.1 x.1.2.2.1) (λx=>fT x.1.1 x.2.1)
noncomputable abbrev ic:MSpec:=nD [some 4,none,none] [(false,rLS),(false,rL),(false,rN),(false, .Er .bool),(false, .Er tL),(false, .Er tI)] false [some 4] [rLS,rL,rN, .Er .bool]
 (λx=>Dd (List.length x.2.2.2.2.1) x.1 x.2.2.1/\List.length x.2.1<=3000) (λx=>((x.1++ [x.2.2.2.2.1],x.2.1++ [x.2.2.2.2.2.1],Rk x.2.2.1 (Dg x.1 x.2.2.1 x.2.2.2.2.1) (List.length x.1),x.2.2.2.1,()),()))
def Yn (L:List (List Int)):List Int:=(List.range L.length).foldl (λ(S:List Int) (i:Nat)=>Rk S (Dg (L.take i) S (L.getD i [])) (i:Int)) []
def Ej (g:List (List Int)) (x:List Int) (d:Int):List Int->List (List Int)->List Int->List (List Int)×List Int×Bool
 | [],L,D=>(L,D,true)
 |l::ls,L,D=>if Aa x (Af g l)∈L then Ej g x d ls L D else if L.length=3000 then (L,D,false) else Ej g x d ls (L++ [Aa x (Af g l)]) (D++ [d+1])
def Fq (g:List (List Int)) (ls:List Int):Nat->Nat->List (List Int)->List Int->List (List Int)×List Int×Bool
 |0,_,L,D=>(L,D,true)
 |f+1,k,L,D=>if k<L.length then (match Ej g (L.getD k []) (D.getD k 0) ls L D with
  |(L',D',true)=>Fq g ls f (k+1) L' D'
  |(L',D',false)=>(L',D',false)) else (L,D,true)
def De (g:List (List Int)) (s:List Int):List (List Int)×List Int×Bool:=Fq g (Au g.length) 3001 0 [s] [0]
def Fg (g:List (List Int)) (s:List Int):SS:=((De g s).1,(De g s).2.1,Yn (De g s).1,(De g s).2.2,())
noncomputable abbrev Dh:Spec:=Cp (.pair Cu (.pair tL .unit)) Vb false false (λx=>Ax x.1=true/\List.length x.2.1<=20/\ ∀y∈x.2.1,0<=y/\y<x.1.1) (λx=>Fg x.1.2.2.1 x.2.1)
abbrev HW:Type:=Int×Int×List (List Int)×List Int×List Int×Bool×PUnit
theorem Acj (f:List (List Int)×List Int×List Int×Bool×Unit) (s:List Int) (P:Int->Prop):(Bm (λ(v3:HW) (k4:HW->Prop)=>Br (decide (v3.1<v3.2.1)) ((2:Int)≠(0:Int)/\ ∃(y5:Int),idx v3.2.2.2.2.1 (IntKind.i64.wrap ((IntKind.i64.wrap (v3.1+v3.2.1)).tdiv (2:Int)))=some y5/\ ∃(y6:List Int),idx v3.2.2.1 y5=some y6/\ ∃(y7:Bool),Sn.fn (y6,s,())=some y7/\Br y7 (k4 (IntKind.i64.wrap (IntKind.i64.wrap ((IntKind.i64.wrap (v3.1+v3.2.1)).tdiv (2:Int))+(1:Int)),v3.2.1,v3.2.2.1,v3.2.2.2.1,v3.2.2.2.2.1,v3.2.2.2.2.2.1,())) (k4 (v3.1,IntKind.i64.wrap ((IntKind.i64.wrap (v3.1+v3.2.1)).tdiv (2:Int)),v3.2.2.1,v3.2.2.2.1,v3.2.2.2.2.1,v3.2.2.2.2.2.1,()))) (P v3.1)) ((0:Int),(↑f.2.2.1.length:Int),f.1,f.2.1,f.2.2.1,f.2.2.2.1,PUnit.unit))=fnW Cf (look [(158,Sn)]) bC Tryz.f149 (f,s,()) P:=by kernel_rfl
theorem TF (f:List (List Int)×List Int×List Int×Bool×Unit) (s:List Int) (P:Int->Prop):(∃(y3:Int),bC.fn ((f.1,f.2.1,f.2.2.1,f.2.2.2.1,()),s,())=some y3/\Br (decide (y3<(↑f.2.2.1.length:Int))) (∃(y4:Int),idx f.2.2.1 y3=some y4/\ ∃(y5:List Int),idx f.1 y4=some y5/\ ∃(y6:Bool),Ap.fn (y5,s,())=some y6/\Br y6 (∃(y7:Int),idx f.2.2.1 y3=some y7/\P y7) (P (-1:Int))) (P (-1:Int)))=fnW Cf (look [(149,bC),(101,Ap)]) Qw Tryz.f132 (f,s,()) P:=by kernel_rfl
theorem Ach (L:List (List Int)) (D S:List Int) (b:Bool) (s:List Int) (d:Int) (P:((List (List Int)×List Int×List Int×Bool×Unit)×Unit)->Prop):(∃(y7:Int),bC.fn ((List.take L.length (List.drop 0 L),List.take D.length (List.drop 0 D),List.take S.length (List.drop 0 S),b,()),s,())=some y7/\0=0/\S.length=S.length/\S.length+(List.take 1 (List.drop 0 [(0:Int)])).length<=Bh/\((0:Int)<=IntKind.i64.wrap (y7+(1:Int))/\IntKind.i64.wrap (y7+(1:Int))<=(↑(S++List.take 1 (List.drop 0 [(0:Int)])).length:Int)/\(↑(S++List.take 1 (List.drop 0 [(0:Int)])).length:Int)<=(↑(S++List.take 1 (List.drop 0 [(0:Int)])).length:Int))/\((0:Int)<=y7/\y7<=(↑(S++List.take 1 (List.drop 0 [(0:Int)])).length:Int)/\(↑(S++List.take 1 (List.drop 0 [(0:Int)])).length:Int)<=(↑(S++List.take 1 (List.drop 0 [(0:Int)])).length:Int))/\((0:Int)<=y7/\y7<(↑(S++List.take 1 (List.drop 0 [(0:Int)])).length:Int))/\0+y7.toNat<(Bt (S++List.take 1 (List.drop 0 [(0:Int)])) (0+(IntKind.i64.wrap (y7+(1:Int))).toNat) (List.take ((↑(S++List.take 1 (List.drop 0 [(0:Int)])).length:Int).toNat-(IntKind.i64.wrap (y7+(1:Int))).toNat) (List.take ((↑(S++List.take 1 (List.drop 0 [(0:Int)])).length:Int).toNat-y7.toNat) (List.drop (0+y7.toNat) (S++List.take 1 (List.drop 0 [(0:Int)])))))).length/\0=0/\L.length=L.length/\L.length+(List.take 1 (List.drop 0 [s])).length<=Bh/\0=0/\D.length=D.length/\D.length+(List.take 1 (List.drop 0 [d])).length<=Bh/\P ((List.take (L++List.take 1 (List.drop 0 [s])).length (List.drop 0 (L++List.take 1 (List.drop 0 [s]))),List.take (D++List.take 1 (List.drop 0 [d])).length (List.drop 0 (D++List.take 1 (List.drop 0 [d]))),List.take (S++List.take 1 (List.drop 0 [(0:Int)])).length (List.drop 0 ((Bt (S++List.take 1 (List.drop 0 [(0:Int)])) (0+(IntKind.i64.wrap (y7+(1:Int))).toNat) (List.take ((↑(S++List.take 1 (List.drop 0 [(0:Int)])).length:Int).toNat-(IntKind.i64.wrap (y7+(1:Int))).toNat) (List.take ((↑(S++List.take 1 (List.drop 0 [(0:Int)])).length:Int).toNat-y7.toNat) (List.drop (0+y7.toNat) (S++List.take 1 (List.drop 0 [(0:Int)])))))).set (0+y7.toNat) (↑L.length:Int))),b,()),()))=fnMW lF (look [(149,bC)]) ic Tryz.f148 (L,D,S,b,s,d,()) P:=by kernel_rfl
abbrev jM:Type:=Int×Int×ByteArray×List (List Int)×Bool×Bool×List (List Int)×List Int×List Int×List (List Int)×List Int×List Int×PUnit
abbrev zF:Type:=(List (List Int)×List Int×List Int×Bool×PUnit)×PUnit
theorem WY (p:Int×ByteArray×List (List Int)×Unit) (s:List Int) (P:(List (List Int)×List Int×List Int×Bool×Unit)->Prop):(∃(y3:List Int),Fy.fn (s,())=some y3/\ ∃(y4:zF),ic.fn ([],[],[],false,y3,(0:Int),())=some y4/\ ∃(y5:List Int),Pv.fn ((p.1,p.2.1,p.2.2.1,()),())=some y5/\0=0/\0=([]:List Int).length/\0=0/\0=([]:List Int).length/\0=0/\0=([]:List Int).length/\0=0/\y4.1.1.length=y4.1.1.length/\0=0/\y4.1.2.1.length=y4.1.2.1.length/\0=0/\y4.1.2.2.1.length=y4.1.2.2.1.length/\Bm (λ(v6:jM) (k7:jM->Prop)=>Br (decide (v6.1<(↑v6.2.2.2.2.2.2.2.2.2.1.length:Int))) (0=0/\v6.2.2.2.2.2.2.1.length=v6.2.2.2.2.2.2.1.length/\0=0/\v6.2.2.2.2.2.2.2.1.length=v6.2.2.2.2.2.2.2.1.length/\0=0/\v6.2.2.2.2.2.2.2.2.1.length=v6.2.2.2.2.2.2.2.2.1.length/\0=0/\v6.2.2.2.2.2.2.2.2.2.1.length=v6.2.2.2.2.2.2.2.2.2.1.length/\0=0/\v6.2.2.2.2.2.2.2.2.2.2.1.length=v6.2.2.2.2.2.2.2.2.2.2.1.length/\0=0/\v6.2.2.2.2.2.2.2.2.2.2.2.1.length=v6.2.2.2.2.2.2.2.2.2.2.2.1.length/\Bm (λ(v8:jM) (k9:jM->Prop)=>Br (decide (v8.1<(↑y5.length:Int))) (((0:Int)<=v6.1/\v6.1<(↑v8.2.2.2.2.2.2.2.2.2.1.length:Int))/\ ∃(Xj:List Int),v8.2.2.2.2.2.2.2.2.2.1[0+v6.1.toNat]?=some Xj/\ ∃(sB:Int),idx y5 v8.1=some sB/\ ∃(wZ:List Int),ao.fn ((v8.2.1,v8.2.2.1,v8.2.2.2.1,()),Xj,sB,())=some wZ/\ ∃(x9:Int),Qw.fn ((List.take v8.2.2.2.2.2.2.2.2.2.1.length (List.drop 0 v8.2.2.2.2.2.2.2.2.2.1),List.take v8.2.2.2.2.2.2.2.2.2.2.1.length (List.drop 0 v8.2.2.2.2.2.2.2.2.2.2.1),List.take v8.2.2.2.2.2.2.2.2.2.2.2.1.length (List.drop 0 v8.2.2.2.2.2.2.2.2.2.2.2.1),v8.2.2.2.2.2.1,()),wZ,())=some x9/\Br (decide (x9>=(0:Int))) (0=0/\v8.2.2.2.2.2.2.1.length=v8.2.2.2.2.2.2.1.length/\0=0/\v8.2.2.2.2.2.2.2.1.length=v8.2.2.2.2.2.2.2.1.length/\0=0/\v8.2.2.2.2.2.2.2.2.1.length=v8.2.2.2.2.2.2.2.2.1.length/\0=0/\v8.2.2.2.2.2.2.2.2.2.1.length=v8.2.2.2.2.2.2.2.2.2.1.length/\0=0/\v8.2.2.2.2.2.2.2.2.2.2.1.length=v8.2.2.2.2.2.2.2.2.2.2.1.length/\0=0/\v8.2.2.2.2.2.2.2.2.2.2.2.1.length=v8.2.2.2.2.2.2.2.2.2.2.2.1.length/\k9 (IntKind.i64.wrap (v8.1+(1:Int)),v8.2.1,v8.2.2.1,v8.2.2.2.1,v8.2.2.2.2.1,v8.2.2.2.2.2.1,v8.2.2.2.2.2.2.1,v8.2.2.2.2.2.2.2.1,v8.2.2.2.2.2.2.2.2.1,v8.2.2.2.2.2.2.2.2.2.1,v8.2.2.2.2.2.2.2.2.2.2.1,v8.2.2.2.2.2.2.2.2.2.2.2.1,())) (Br ((↑v8.2.2.2.2.2.2.2.2.2.1.length:Int)==(3000:Int)) (P (List.take v8.2.2.2.2.2.2.2.2.2.1.length (List.drop 0 v8.2.2.2.2.2.2.2.2.2.1),List.take v8.2.2.2.2.2.2.2.2.2.2.1.length (List.drop 0 v8.2.2.2.2.2.2.2.2.2.2.1),List.take v8.2.2.2.2.2.2.2.2.2.2.2.1.length (List.drop 0 v8.2.2.2.2.2.2.2.2.2.2.2.1),v8.2.2.2.2.2.1,())) (((0:Int)<=v6.1/\v6.1<(↑v8.2.2.2.2.2.2.2.2.2.2.1.length:Int))/\ ∃(Xk:Int),v8.2.2.2.2.2.2.2.2.2.2.1[0+v6.1.toNat]?=some Xk/\0=0/\v8.2.2.2.2.2.2.2.2.2.1.length=v8.2.2.2.2.2.2.2.2.2.1.length/\0=0/\v8.2.2.2.2.2.2.2.2.2.2.1.length=v8.2.2.2.2.2.2.2.2.2.2.1.length/\0=0/\v8.2.2.2.2.2.2.2.2.2.2.2.1.length=v8.2.2.2.2.2.2.2.2.2.2.2.1.length/\ ∃(jR:zF),ic.fn (v8.2.2.2.2.2.2.2.2.2.1,v8.2.2.2.2.2.2.2.2.2.2.1,v8.2.2.2.2.2.2.2.2.2.2.2.1,v8.2.2.2.2.2.1,wZ,IntKind.i64.wrap (Xk+(1:Int)),())=some jR/\0=0/\v8.2.2.2.2.2.2.1.length=v8.2.2.2.2.2.2.1.length/\0=0/\v8.2.2.2.2.2.2.2.1.length=v8.2.2.2.2.2.2.2.1.length/\0=0/\v8.2.2.2.2.2.2.2.2.1.length=v8.2.2.2.2.2.2.2.2.1.length/\0=0/\jR.1.1.length=jR.1.1.length/\0=0/\jR.1.2.1.length=jR.1.2.1.length/\0=0/\jR.1.2.2.1.length=jR.1.2.2.1.length/\k9 (IntKind.i64.wrap (v8.1+(1:Int)),v8.2.1,v8.2.2.1,v8.2.2.2.1,v8.2.2.2.2.1,jR.1.2.2.2.1,v8.2.2.2.2.2.2.1,v8.2.2.2.2.2.2.2.1,v8.2.2.2.2.2.2.2.2.1,jR.1.1,jR.1.2.1,jR.1.2.2.1,())))) (0=0/\v8.2.2.2.2.2.2.1.length=v8.2.2.2.2.2.2.1.length/\0=0/\v8.2.2.2.2.2.2.2.1.length=v8.2.2.2.2.2.2.2.1.length/\0=0/\v8.2.2.2.2.2.2.2.2.1.length=v8.2.2.2.2.2.2.2.2.1.length/\0=0/\v8.2.2.2.2.2.2.2.2.2.1.length=v8.2.2.2.2.2.2.2.2.2.1.length/\0=0/\v8.2.2.2.2.2.2.2.2.2.2.1.length=v8.2.2.2.2.2.2.2.2.2.2.1.length/\0=0/\v8.2.2.2.2.2.2.2.2.2.2.2.1.length=v8.2.2.2.2.2.2.2.2.2.2.2.1.length/\k7 (IntKind.i64.wrap (v6.1+(1:Int)),v8.2.1,v8.2.2.1,v8.2.2.2.1,v8.2.2.2.2.1,v8.2.2.2.2.2.1,v8.2.2.2.2.2.2.1,v8.2.2.2.2.2.2.2.1,v8.2.2.2.2.2.2.2.2.1,v8.2.2.2.2.2.2.2.2.2.1,v8.2.2.2.2.2.2.2.2.2.2.1,v8.2.2.2.2.2.2.2.2.2.2.2.1,()))) ((0:Int),v6.2.1,v6.2.2.1,v6.2.2.2.1,v6.2.2.2.2.1,v6.2.2.2.2.2.1,v6.2.2.2.2.2.2.1,v6.2.2.2.2.2.2.2.1,v6.2.2.2.2.2.2.2.2.1,v6.2.2.2.2.2.2.2.2.2.1,v6.2.2.2.2.2.2.2.2.2.2.1,v6.2.2.2.2.2.2.2.2.2.2.2.1,PUnit.unit)) (P (List.take v6.2.2.2.2.2.2.2.2.2.1.length (List.drop 0 v6.2.2.2.2.2.2.2.2.2.1),List.take v6.2.2.2.2.2.2.2.2.2.2.1.length (List.drop 0 v6.2.2.2.2.2.2.2.2.2.2.1),List.take v6.2.2.2.2.2.2.2.2.2.2.2.1.length (List.drop 0 v6.2.2.2.2.2.2.2.2.2.2.2.1),true,()))) ((0:Int),p.1,p.2.1,p.2.2.1,false,y4.1.2.2.2.1,[],[],[],y4.1.1,y4.1.2.1,y4.1.2.2.1,PUnit.unit))=fnW Ac5 (look [(116,Fy),(148,ic),(141,Pv),(118,ao),(132,Qw)]) Dh Tryz.f131 (p,s,()) P:=by kernel_rfl
theorem o6: ∀ {a b:List Int},Co a b=0↔a=b
 | [],[]=>by simp [Co]
 | [],_::_=>by simp [Co]
 |_::_,[]=>by simp [Co]
 |x::a,y::b=>by
  simp only [Co,List.cons.injEq]
  by_cases h1:x<y
  ·rw [if_pos h1]
   exact ⟨λh=>by omega,λh=>by omega⟩
  ·rw [if_neg h1]
   by_cases h2:x>y
   ·rw [if_pos h2]
    exact ⟨λh=>by omega,λh=>by omega⟩
   ·rw [if_neg h2,o6]
    exact ⟨λh=>⟨by omega,h⟩,λh=>h.2⟩
theorem GJ: ∀(a b:List Int),Co b a= -Co a b
 | [],[]=>by simp [Co]
 | [],_::_=>by simp [Co]
 |_::_,[]=>by simp [Co]
 |x::a,y::b=>by
  simp only [Co]
  rcases Int.lt_trichotomy x y with h1|h1|h1
  ·simp [h1,show ¬y<x by omega]
  ·subst h1
   simp [GJ a b]
  ·simp [h1,show ¬x<y by omega]
theorem sK: ∀ {a b c:List Int},Co a b<0->Co b c<0->Co a c<0
 | [],[],_,h,_=>by simp [Co] at h
 |_::_,[],_,h,_=>by simp [Co] at h
 |_,_::_,[],_,h=>by simp [Co] at h
 | [],_::_,_::_,_,_=>by simp [Co]
 |x::a,y::b,z::c,h1,h2=>by
  simp only [Co] at h1 h2⊢
  by_cases e1:x<y
  ·by_cases e2:y<z
   ·rw [if_pos (by omega)];omega
   ·rw [if_neg e2] at h2
    by_cases e3:y>z
    ·rw [if_pos e3] at h2;omega
    ·rw [if_pos (by omega)];omega
  ·rw [if_neg e1] at h1
   by_cases e2:x>y
   ·rw [if_pos e2] at h1;omega
   ·rw [if_neg e2] at h1
    by_cases e3:y<z
    ·rw [if_pos (by omega)];omega
    ·rw [if_neg e3] at h2
     by_cases e4:y>z
     ·rw [if_pos e4] at h2;omega
     ·rw [if_neg e4] at h2
      rw [if_neg (by omega),if_neg (by omega)]
      exact sK h1 h2
theorem lt_iff {a b:List Int} :bh a b=true↔Co a b<0:=decide_eq_true_iff
theorem JQ {a b c:List Int} (h1:bh a b=true) (h2:bh b c=true):bh a c=true:=lt_iff.2 (sK (lt_iff.1 h1) (lt_iff.1 h2))
theorem gX (a:List Int):bh a a=false:=by
 have:Co a a=0:=o6.2 rfl
 unfold bh;rw [this];rfl
theorem QF {a b:List Int} (h:bh a b=false) (Ff:a≠b):bh b a=true:=by
 rw [lt_iff,GJ a b]
 have h1: ¬Co a b<0:= λh'=>by rw [lt_iff.2 h'] at h;cases h
 have h2:Co a b≠0:= λh'=>Ff (o6.1 h')
 omega
theorem gk {α:Type} (q:α->Bool): ∀(l:List α),l.Pairwise (λi j=>q j=true->q i=true)-> ∀k (hk:k<l.length),k<(l.takeWhile q).length↔q l[k]=true
 | [],_,k,hk=>by simp at hk
 |a::l,h,k,hk=>by
  obtain ⟨h1,h2⟩:=List.pairwise_cons.1 h
  by_cases ha:q a=true
  ·rw [List.takeWhile_cons_of_pos ha]
   rcases k with _|k
   ·simpa using ha
   ·simp only [List.length_cons,List.getElem_cons_succ,Nat.add_lt_add_iff_right]
    exact gk q l h2 k (by simpa using hk)
  ·rw [List.takeWhile_cons_of_neg ha]
   simp only [List.length_nil,Nat.not_lt_zero,false_iff]
   rcases k with _|k
   ·exact ha
   ·simp only [List.getElem_cons_succ]
    exact λhq=>ha (h1 _ (List.getElem_mem _) hq)
theorem Dd.oX {m:Nat} {L:List (List Int)} {Ip:List Int} (h:Dd m L Ip):Ip.length=L.length:=by rw [h.perm.length_eq,Tu]
theorem Dd.idx {m:Nat} {L:List (List Int)} {Ip:List Int} (h:Dd m L Ip) {k:Nat} (hk:k<Ip.length):0<=Ip[k]/\Ip[k]<L.length:=Jx.1 (h.perm.mem_iff.1 (List.getElem_mem hk))
theorem Dd.ay {m:Nat} {L:List (List Int)} {Ip:List Int} (h:Dd m L Ip) (s:List Int) {k:Nat} (hk:k<Ip.length):k<Dg L Ip s↔bh (L.getD Ip[k].toNat []) s=true:=
 gk _ Ip (h.sorted.imp λkE hj=>JQ kE hj) k hk
theorem HR (L:List (List Int)) (Ip s:List Int):Dg L Ip s<=Ip.length:=(List.takeWhile_sublist _).length_le
theorem Dd.inj {m:Nat} {L:List (List Int)} {Ip:List Int} (h:Dd m L Ip) {i j:Nat} (hi:i<L.length) (hj:j<L.length) (e:L[i]=L[j]):i=j:=by
 have mem: ∀i,i<L.length->(i:Int)∈Ip:= λi hi=>h.perm.mem_iff.2 (Jx.2 ⟨by omega,by omega⟩)
 obtain ⟨p,hp,ep⟩:=List.mem_iff_getElem.1 (mem i hi)
 obtain ⟨q,hq,eq⟩:=List.mem_iff_getElem.1 (mem j hj)
 have get: ∀i (hi:i<L.length),L.getD ((i:Int)).toNat []=L[i]:= λi hi=>by rw [Int.toNat_natCast,List.getD_eq_getElem?_getD,List.getElem?_eq_getElem hi];rfl
 rcases Nat.lt_trichotomy p q with h1|h1|h1
 ·have:=List.pairwise_iff_getElem.1 h.sorted p q hp hq h1
  rw [ep,eq,get i hi,get j hj,e,gX] at this
  cases this
 ·subst h1
  rw [ep] at eq
  omega
 ·have:=List.pairwise_iff_getElem.1 h.sorted q p hq hp h1
  rw [ep,eq,get i hi,get j hj,e,gX] at this
  cases this
theorem Oc {L:List (List Int)} {k:Nat} (h:k<L.length):L.getD k []=L[k]:=by rw [List.getD_eq_getElem?_getD,List.getElem?_eq_getElem h];rfl
theorem Dd.ur {m:Nat} {L:List (List Int)} {Ip:List Int} (h:Dd m L Ip) {s:List Int} :
  (∃hk:Dg L Ip s<Ip.length,L.getD Ip[Dg L Ip s].toNat []=s/\fT L s=Ip[Dg L Ip s])\/(fT L s= -1/\ ∀hk:Dg L Ip s<Ip.length,L.getD Ip[Dg L Ip s].toNat []≠s):=by
 by_cases hm:s∈L
 ·left
  obtain ⟨j,hj,rfl⟩:=List.mem_iff_getElem.1 hm
  obtain ⟨p,hp,ep⟩:=List.mem_iff_getElem.1 (h.perm.mem_iff.2 (Jx.2 ⟨by omega,by omega⟩):(j:Int)∈Ip)
  have gj:L.getD Ip[p].toNat []=L[j]:=by rw [ep,Int.toNat_natCast,Oc hj]
  have hs:Dg L Ip L[j]=p:=by
   have h1: ¬p<Dg L Ip L[j]:= λh1=>by
    have:=(h.ay L[j] hp).1 h1
    rw [gj,gX] at this;cases this
   have h2: ¬Dg L Ip L[j]<p:= λh2=>by
    have h3:=(h.ay L[j] (k:=Dg L Ip L[j]) (by omega)).2 (by
     have:=List.pairwise_iff_getElem.1 h.sorted (Dg L Ip L[j]) p (by omega) hp h2
     rw [gj] at this;exact this)
    omega
   omega
  have hx:L.idxOf L[j]=j:=by
   have h1:L.idxOf L[j]<L.length:=List.idxOf_lt_length_of_mem hm
   exact h.inj h1 hj (List.getElem_idxOf h1)
  refine ⟨by omega,?_,?_⟩
  ·simp only [hs];exact gj
  ·unfold fT
   rw [if_pos hm,hx]
   simp only [hs];exact ep.symm
 ·right
  refine ⟨by unfold fT;rw [if_neg hm],λhk e=>hm ?_⟩
  have hi:=h.idx hk
  rw [Oc (by omega)] at e
  rw [<-e]
  exact List.getElem_mem _
theorem PR (Ip:List Int) (k:Nat) (x:Int):(Rk Ip k x).Perm (x::Ip):=by
 unfold Rk
 refine List.perm_middle.trans (List.Perm.cons x ?_)
 rw [List.take_append_drop]
theorem Dd.add {m:Nat} {L:List (List Int)} {Ip s:List Int} (h:Dd m L Ip) (hn:s∉L) (hl:s.length=m) (hr:L.length<3000):Dd m (L++ [s]) (Rk Ip (Dg L Ip s) L.length):=by
 have xT: ∀i∈Ip,(L++ [s]).getD i.toNat []=L.getD i.toNat []:= λi hi=>by
  have:=Jx.1 (h.perm.mem_iff.1 hi)
  rw [List.getD_eq_getElem?_getD,List.getD_eq_getElem?_getD,List.getElem?_append_left (by omega)]
 have Adh:(L++ [s]).getD ((L.length:Int)).toNat []=s:=by
  rw [Int.toNat_natCast,List.getD_eq_getElem?_getD,List.getElem?_append_right (by omega),Nat.sub_self];rfl
 refine ⟨by rw [List.length_append,List.length_singleton];omega,λx hx=>?_,h.short,?_,?_⟩
 ·rcases List.mem_append.1 hx with hx|hx
  ·exact h.len x hx
  ·rw [List.mem_singleton.1 hx];exact hl
 ·refine (PR _ _ _).trans ?_
  rw [List.length_append,List.length_singleton,aD]
  exact (List.Perm.cons _ h.perm).trans (List.perm_append_singleton _ _).symm
 ·unfold Rk
  have hs:=h.sorted
  rw [<-List.take_append_drop (Dg L Ip s) Ip] at hs
  obtain ⟨s1,s2,s3⟩:=List.pairwise_append.1 hs
  have mt: ∀i∈Ip.take (Dg L Ip s),i∈Ip/\bh (L.getD i.toNat []) s=true:= λi hi=>by
   obtain ⟨k,hk,rfl⟩:=List.mem_iff_getElem.1 hi
   have OQ:k<Dg L Ip s:=by rw [List.length_take] at hk;omega
   have hk3:k<Ip.length:=by rw [List.length_take] at hk;omega
   rw [List.getElem_take]
   exact ⟨List.getElem_mem _,(h.ay s hk3).1 OQ⟩
  have md: ∀i∈Ip.drop (Dg L Ip s),i∈Ip/\bh s (L.getD i.toNat [])=true:= λi hi=>by
   obtain ⟨k,hk,rfl⟩:=List.mem_iff_getElem.1 hi
   rw [List.length_drop] at hk
   have hk3:Dg L Ip s+k<Ip.length:=by omega
   rw [List.getElem_drop]
   refine ⟨List.getElem_mem _,QF ?_ λe=>hn ?_⟩
   ·exact Bool.eq_false_iff.2 λhh=>by
     have:=(h.ay s hk3).2 hh
     omega
   ·have hi:=h.idx hk3
    rw [Oc (by omega)] at e
    rw [<-e];exact List.getElem_mem _
  refine List.pairwise_append.2 ⟨s1.imp_of_mem λ {a b} ha hb gP=>?_,List.pairwise_cons.2 ⟨λb hb=>?_,s2.imp_of_mem λ {a b} ha hb gP=>?_⟩,λa ha b hb=>?_⟩
  ·rw [xT a (mt a ha).1,xT b (mt b hb).1];exact gP
  ·rw [Adh,xT b (md b hb).1];exact (md b hb).2
  ·rw [xT a (md a ha).1,xT b (md b hb).1];exact gP
  ·rcases List.mem_cons.1 hb with rfl|hb
   ·rw [Adh,xT a (mt a ha).1];exact (mt a ha).2
   ·rw [xT a (mt a ha).1,xT b (md b hb).1];exact s3 a ha b hb
theorem bG (L:List (List Int)) (s:List Int):Yn (L++ [s])=Rk (Yn L) (Dg L (Yn L) s) L.length:=by
 unfold Yn
 rw [List.length_append,List.length_singleton,List.range_succ,List.foldl_append]
 have e: ∀(is:List Nat) (S:List Int),(∀i∈is,i<L.length)->is.foldl (λ(S:List Int) (i:Nat)=>Rk S (Dg ((L++ [s]).take i) S ((L++ [s]).getD i [])) (i:Int)) S=is.foldl (λ(S:List Int) (i:Nat)=>Rk S (Dg (L.take i) S (L.getD i [])) (i:Int)) S:=by
  intro is
  induction is with
  |nil=>intro S _;rfl
  |cons i is ih=>
   intro S h
   have hi:=h i (by simp)
   rw [List.foldl_cons,List.foldl_cons,ih _ λj hj=>h j (List.mem_cons_of_mem _ hj)]
   congr 2
   rw [List.take_append_of_le_length (by omega),List.getD_eq_getElem?_getD,List.getElem?_append_left hi,<-List.getD_eq_getElem?_getD]
 rw [e _ _ λi hi=>List.mem_range.1 hi]
 simp only [List.foldl_cons,List.foldl_nil]
 congr 2
 ·rw [List.take_append_of_le_length (Nat.le_refl _),List.take_length]
 ·rw [List.getD_eq_getElem?_getD,List.getElem?_append_right (by omega),Nat.sub_self];rfl
theorem jz {m:Nat} (h:m<=20):Dd m [] []:=⟨by simp,λx hx=>(by cases hx),h,by simp [upto],List.Pairwise.nil⟩
theorem PN {α:Type} {xs:List α} {y:Int} (h0:0<=y) (h:y.toNat<xs.length):idx xs y=some xs[y.toNat]:=by
 unfold idx
 rw [if_pos h0,List.getElem?_eq_getElem h]
theorem Abr (f:SS) (s:List Int) (h:Dd s.length f.1 f.2.2.1):fnW Cf (look [(158,Sn)]) bC Tryz.f149 (f,s,()) (λ(z:Int)=>z=(Dg f.1 f.2.2.1 s:Int)):=by
 obtain ⟨L,D,Ip,b,⟨⟩⟩:=f
 dsimp only at h⊢
 have hle:=HR L Ip s
 have mO:=h.oX
 have kD:=h.lP
 refine Eq.mp (Acj (L,D,Ip,b,()) s _) ?_
 refine Bm.mk (λv=>v.2.2.1=L/\v.2.2.2.2.1=Ip/\ ∃lo hi:Nat,v.1=lo/\v.2.1=hi/\lo<=hi/\hi<=Ip.length/\lo<=Dg L Ip s/\Dg L Ip s<=hi) (λv=>(v.2.1-v.1).toNat)
  ⟨rfl,rfl,0,Ip.length,rfl,rfl,by omega,by omega,by omega,hle⟩ ?_
 rintro ⟨lo',lX,L',D',LQ,b',⟨⟩⟩ ⟨h1,h2,lo,hi,h3,h4,h5,h6,h7,h8⟩
 dsimp only at h1 h2 h3 h4⊢
 subst h1 h2 h3 h4
 refine Br.dec (λhl=>?_) λhl=>?_
 ·have em:IntKind.i64.wrap ((IntKind.i64.wrap ((lo:Int)+(hi:Int))).tdiv 2)=(((lo+hi)/2:Nat):Int):=by
   rw [Cl (n:=(lo:Int)+(hi:Int)) (by omega) (by omega),Int.tdiv_eq_ediv_of_nonneg (by omega),Cl (by omega) (by omega)]
   omega
  rw [em]
  have hm1:(lo+hi)/2<LQ.length:=by omega
  have UU:=h.idx hm1
  have UW:LQ[(lo+hi)/2].toNat<L'.length:=by omega
  have hgd:=Oc UW
  have hlen:=h.len _ (List.getElem_mem UW)
  have AK:short L'[LQ[(lo+hi)/2].toNat]:=by
   unfold short
   have:=h.short;omega
  refine ⟨by decide,_,An hm1,_,PN UU.1 UW,_,if_pos ⟨AK,hlen⟩,⟨λhc=>?_,λhc=>?_⟩⟩
  ·have hc:bh L'[LQ[(lo+hi)/2].toNat] s=true:=hc
   have hs:=(h.ay s hm1).2 (by rw [hgd];exact hc)
   rw [Ah (by omega)]
   exact ⟨⟨rfl,rfl,(lo+hi)/2+1,hi,rfl,rfl,by omega,h6,by omega,h8⟩,by omega⟩
  ·have hc:bh L'[LQ[(lo+hi)/2].toNat] s=false:=hc
   have hs: ¬(lo+hi)/2<Dg L' LQ s:= λhh=>by
    have:=(h.ay s hm1).1 hh
    rw [hgd,hc] at this;cases this
   exact ⟨⟨rfl,rfl,lo,(lo+hi)/2,rfl,rfl,by omega,by omega,h7,by omega⟩,by omega⟩
 ·show (lo:Int)=_
  omega
theorem qb:Sound Tryz.prog 149 bC:=
 Sound.Cp Bg (Ae q9 Ai) mixed Tryz.func149 (by kernel_rfl) (by kernel_rfl) λx h=>Abr x.1 x.2.1 h
theorem RD (f:SS) (s:List Int) (h:Dd s.length f.1 f.2.2.1):fnW Cf (look [(149,bC),(101,Ap)]) Qw Tryz.f132 (f,s,()) (λ(z:Int)=>z=fT f.1 s):=by
 obtain ⟨L,D,Ip,b,⟨⟩⟩:=f
 dsimp only at h⊢
 refine Eq.mp (TF (L,D,Ip,b,()) s _) ⟨_,if_pos h,Br.dec (λhl=>?_) λhl=>?_⟩
 ·have hl:Dg L Ip s<Ip.length:=by
   have hl:((Dg L Ip s:Nat):Int)<(Ip.length:Int):=hl
   omega
  have UU:=h.idx hl
  have UW:Ip[Dg L Ip s].toNat<L.length:=by omega
  have hgd:=Oc UW
  have hlen:=h.len _ (List.getElem_mem UW)
  have AK:short L[Ip[Dg L Ip s].toNat]:=by
   unfold short
   have:=h.short;omega
  refine ⟨_,An hl,_,PN UU.1 UW,_,if_pos AK,⟨λhc=>⟨_,An hl,?_⟩,λhc=>?_⟩⟩
  ·have hc:L[Ip[Dg L Ip s].toNat]=s:=of_decide_eq_true hc
   rcases h.ur (s:=s) with ⟨hk,_,e⟩|⟨_,Ff⟩
   ·exact e.symm
   ·exact absurd (by rw [hgd];exact hc) (Ff hl)
  ·have hc: ¬L[Ip[Dg L Ip s].toNat]=s:=of_decide_eq_false hc
   rcases h.ur (s:=s) with ⟨hk,e,_⟩|⟨e,_⟩
   ·rw [hgd] at e;exact absurd e hc
   ·exact e.symm
 ·have hl: ¬Dg L Ip s<Ip.length:=by
   have hl: ¬((Dg L Ip s:Nat):Int)<(Ip.length:Int):=hl
   omega
  rcases h.ur (s:=s) with ⟨hk,e,_⟩|⟨e,_⟩
  ·exact absurd hk hl
  ·exact e.symm
theorem jG:Sound Tryz.prog 132 Qw:=
 Sound.Cp Bg (Ae qb (Ae Uh Ai)) mixed Tryz.func132 (by kernel_rfl) (by kernel_rfl) λx h=>RD x.1 x.2.1 h
theorem CH {S:List Int} {k:Nat} (h:k<=S.length) (n:Int):
  (Bt (S++ [0]) (k+1) (List.take ((S++ [0]).length-(k+1)) (List.take ((S++ [0]).length-k) (List.drop k (S++ [0]))))).set k n=Rk S k n:=by
 obtain ⟨A,B,rfl,hA⟩: ∃A B,S=A++B/\A.length=k:=⟨S.take k,S.drop k,(List.take_append_drop k S).symm,by rw [List.length_take];omega⟩
 subst hA
 have e1:List.drop A.length (A++B++ [0])=B++ [0]:=by rw [List.append_assoc,List.drop_left]
 have e2:List.take ((A++B++ [0]).length-A.length) (B++ [0])=B++ [0]:=List.take_of_length_le (by simp only [List.length_append,List.length_singleton];omega)
 have e3:List.take ((A++B++ [0]).length-(A.length+1)) (B++ [0])=B:=by
  have:(A++B++ [(0:Int)]).length-(A.length+1)=B.length:=by simp only [List.length_append,List.length_singleton];omega
  rw [this,List.take_left]
 rw [e1,e2,e3]
 unfold Bt Rk
 have e4:List.drop (A.length+1+B.length) (A++B++ [0])= []:=List.drop_eq_nil_of_le (by simp only [List.length_append,List.length_singleton];omega)
 obtain ⟨c,hc⟩: ∃c,List.take (A.length+1) (A++B++ [0])=A++ [c]:=by
  rw [List.append_assoc,List.take_append,List.take_of_length_le (by omega)]
  cases B with
  |nil=>exact ⟨0,by simp⟩
  |cons b B=>exact ⟨b,by simp⟩
 rw [e4,hc,List.append_nil,List.append_assoc,List.singleton_append,WC,List.take_left,List.drop_left]
theorem Abp (L:List (List Int)) (D S:List Int) (b:Bool) (s:List Int) (d:Int) (h:Dd s.length L S/\D.length<=3000):
  fnMW lF (look [(149,bC)]) ic Tryz.f148 (L,D,S,b,s,d,()) (λ(z:(List (List Int)×List Int×List Int×Bool×Unit)×Unit)=>z=((L++ [s],D++ [d],Rk S (Dg L S s) L.length,b,()),())):=by
 obtain ⟨h,hD⟩:=h
 have hle:=HR L S s
 have mO:=h.oX
 have kD:=h.lP
 refine Eq.mp (Ach L D S b s d _) ?_
 rw [Bl L,Bl D,Bl S]
 refine ⟨_,if_pos h,?_⟩
 dsimp only
 have es:List.take 1 (List.drop 0 [(0:Int)])= [0]:=rfl
 have el:(S++ [(0:Int)]).length=S.length+1:=by simp
 rw [es,Ah (by omega),Nat.zero_add,Nat.zero_add,Int.toNat_natCast,Int.toNat_natCast,Int.toNat_natCast]
 refine ⟨rfl,rfl,by show S.length+1<=4294967296;omega,⟨by omega,by omega,by omega⟩,⟨by omega,by omega,by omega⟩,⟨by omega,by omega⟩,?_,rfl,rfl,by show L.length+1<=4294967296;omega,rfl,rfl,by show D.length+1<=4294967296;omega,?_⟩
 ·unfold Bt
  simp only [List.length_append,List.length_take,List.length_drop,List.length_singleton]
  omega
 ·rw [CH hle,Bl,Bl]
  have e5:List.take (S++ [(0:Int)]).length (List.drop 0 (Rk S (Dg L S s) (L.length:Int)))=Rk S (Dg L S s) (L.length:Int):=by
   rw [List.drop_zero,List.take_of_length_le]
   unfold Rk
   simp only [List.length_append,List.length_cons,List.length_take,List.length_drop,List.length_nil]
   omega
  rw [e5]
  rfl
theorem EV:Bj Tryz.prog 148 ic:=
 Bj.nD im (Ae qb Ai) mixed Tryz.func148 (by kernel_rfl) (by kernel_rfl) λx h=>Abp x.1 x.2.1 x.2.2.1 x.2.2.2.1 x.2.2.2.2.1 x.2.2.2.2.2.1 h
structure Nf (p:PP) (m:Nat) (L:List (List Int)) (D:List Int):Prop where
 ok:Dd m L (Yn L)
 len:D.length=L.length
 row: ∀x∈L,∀y∈x,0<=y/\y<p.1
 dep: ∀j (h:j<D.length),0<=D[j]/\D[j]<=j
theorem nE {p:PP} (hv:Valid p) {x:List Int} {l:Int} (hx: ∀y∈x,0<=y/\y<p.1) (hl:Hg (List.length p.2.2.1) l):
  (Aa x (Af p.2.2.1 l)).length=x.length/\ ∀y∈Aa x (Af p.2.2.1 l),0<=y/\y<p.1:=by
 obtain ⟨h1,h2⟩:=eM hv hl
 refine ⟨Ke _ _,λy hy=>?_⟩
 have:=xD (n:=(Af p.2.2.1 l).length) (λz hz=>by have:=hx z hz;omega) h2 y hy
 omega
theorem Nf.add {p:PP} {m:Nat} {L:List (List Int)} {D:List Int} (h:Nf p m L D) {y:List Int} {d:Int} (hn:y∉L) (hl:y.length=m) (hr:L.length<3000) (hy: ∀z∈y,0<=z/\z<p.1) (hd:0<=d/\d<=L.length):Nf p m (L++ [y]) (D++ [d]):=by
 have hlen:=h.len
 refine ⟨by rw [bG];exact h.ok.add hn hl hr,by simp [hlen],λx hx=>?_,λj hj=>?_⟩
 ·rcases List.mem_append.1 hx with hx|hx
  ·exact h.row x hx
  ·rw [List.mem_singleton.1 hx];exact hy
 ·by_cases e:j<D.length
  ·rw [List.getElem_append_left e];exact h.dep j e
  ·simp only [List.length_append,List.length_singleton] at hj
   have:j=D.length:=by omega
   subst this
   rw [List.getElem_append_right (by omega)]
   simp only [Nat.sub_self,List.getElem_cons_zero]
   omega
theorem Zl {p:PP} {s:List Int} (hs:s.length<=20) (hr: ∀y∈s,0<=y/\y<p.1):Nf p s.length [s] [0]:=by
 refine ⟨?_,rfl,λx hx=>by rw [List.mem_singleton.1 hx];exact hr,λj hj=>?_⟩
 ·have:=(jz hs).add (s:=s) (by simp) rfl (by simp)
  have e:Yn [s]=Rk [] (Dg [] [] s) 0:=bG [] s
  rw [e];exact this
 ·simp only [List.length_singleton] at hj
  have:j=0:=by omega
  subst this
  simp
theorem tA {L:List (List Int)} {s:List Int} :fT L s>=0↔s∈L:=by
 unfold fT
 split
 ·rename_i h;exact ⟨λ_=>h,λ_=>by omega⟩
 ·rename_i h;exact ⟨λhh=>by omega,λhh=>absurd hh h⟩
theorem VX (p:PP) (s:List Int) (h:Ax p=true/\s.length<=20/\ ∀y∈s,0<=y/\y<p.1):fnW Ac5 (look [(116,Fy),(148,ic),(141,Pv),(118,ao),(132,Qw)]) Dh Tryz.f131 (p,s,()) (λ(z:SS)=>z=Fg p.2.2.1 s):=by
 obtain ⟨hv,hs,hr⟩:=h
 have hV:=valid hv
 have kD:=hV.lP
 have UO:=Zl hs hr
 have AK:short s:=by unfold short;omega
 obtain ⟨ls,mP⟩: ∃ls,Au (List.length p.2.2.1)=ls:=⟨_,rfl⟩
 refine Eq.mp (WY p s _) ⟨_,if_pos AK,_,if_pos ⟨jz hs,by show 0<=3000;omega⟩,ls,(if_pos (by show List.length p.2.2.1<=8;exact kD.2)).trans (congrArg some mP),rfl,rfl,rfl,rfl,rfl,rfl,rfl,rfl,rfl,rfl,rfl,rfl,?_⟩
 have e0:Rk [] (Dg [] [] s) ((([]:List (List Int)).length:Nat):Int)=Yn [s]:=(bG [] s).symm
 show Bm _ ((0:Int),p.1,p.2.1,p.2.2.1,false,false,[],[],[],[s],[(0:Int)],Rk [] (Dg [] [] s) ((([]:List (List Int)).length:Nat):Int),PUnit.unit)
 rw [e0]
 have OV:ls.length<=16:=by rw [<-mP,Lf];omega
 have j6: ∀l∈ls,Hg (List.length p.2.2.1) l:= λl hl=>Kj (mP▸hl)
 have oM:Fq p.2.2.1 ls 3001 0 [s] [0]=De p.2.2.1 s:=by unfold De;rw [mP]
 refine Bm.mk (λv=>v.2.1=p.1/\v.2.2.1=p.2.1/\v.2.2.2.1=p.2.2.1/\v.2.2.2.2.2.1=false/\ ∃k:Nat,v.1=k/\k<=v.2.2.2.2.2.2.2.2.2.1.length/\
   Nf p s.length v.2.2.2.2.2.2.2.2.2.1 v.2.2.2.2.2.2.2.2.2.2.1/\v.2.2.2.2.2.2.2.2.2.2.2.1=Yn v.2.2.2.2.2.2.2.2.2.1/\
   Fq p.2.2.1 ls (3001-k) k v.2.2.2.2.2.2.2.2.2.1 v.2.2.2.2.2.2.2.2.2.2.1=De p.2.2.1 s) (λv=>3001-v.1.toNat)
  ⟨rfl,rfl,rfl,rfl,0,rfl,by simp,UO,rfl,oM⟩ ?_
 rintro ⟨k',n1,n2,n3,b0,wh,x1,x2,x3,L0,D0,S0,⟨⟩⟩ ⟨h1,h2,h3,h4,k,h5,h6,h7,h8,h9⟩
 dsimp only at h1 h2 h3 h4 h5 h6 h7 h8 h9
 subst h1 h2 h3 h4 h5 h8
 dsimp only
 have hL0:=h7.ok.lP
 have hD0:=h7.len
 refine Br.dec (λhl=>⟨rfl,rfl,rfl,rfl,rfl,rfl,rfl,rfl,rfl,rfl,rfl,rfl,?_⟩) λhl=>?_
 ·have hk:k<L0.length:=by omega
  have ye:k<D0.length:=by omega
  have hx: ∀y∈L0[k],0<=y/\y<p.1:=h7.row _ (List.getElem_mem hk)
  have PH:L0[k].length=s.length:=h7.ok.len _ (List.getElem_mem hk)
  have hdk:=h7.dep k ye
  obtain ⟨f,hf⟩: ∃f,3001-k=f+1:=⟨3000-k,by omega⟩
  have OO: ∀L' D' ok,Ej p.2.2.1 L0[k] D0[k] ls L0 D0=(L',D',ok)->De p.2.2.1 s=if ok=true then Fq p.2.2.1 ls f (k+1) L' D' else (L',D',false):=by
   intro L' D' ok he
   rw [<-h9,hf,Fq,if_pos hk,Oc hk,List.getD_eq_getElem?_getD,List.getElem?_eq_getElem ye]
   simp only [Option.getD_some]
   rw [he]
   cases ok<;>rfl
  refine Bm.mk (λv=>v.2.1=p.1/\v.2.2.1=p.2.1/\v.2.2.2.1=p.2.2.1/\v.2.2.2.2.2.1=false/\ ∃i:Nat,v.1=i/\i<=ls.length/\Nf p s.length v.2.2.2.2.2.2.2.2.2.1 v.2.2.2.2.2.2.2.2.2.2.1/\
    v.2.2.2.2.2.2.2.2.2.2.2.1=Yn v.2.2.2.2.2.2.2.2.2.1/\(∃A,v.2.2.2.2.2.2.2.2.2.1=L0++A)/\(∃A,v.2.2.2.2.2.2.2.2.2.2.1=D0++A)/\
    Ej p.2.2.1 L0[k] D0[k] (ls.drop i) v.2.2.2.2.2.2.2.2.2.1 v.2.2.2.2.2.2.2.2.2.2.1=Ej p.2.2.1 L0[k] D0[k] ls L0 D0) (λv=>ls.length-v.1.toNat)
   ⟨rfl,rfl,rfl,rfl,0,rfl,Nat.zero_le _,h7,rfl,⟨[],by simp⟩,⟨[],by simp⟩,rfl⟩ ?_
  rintro ⟨i',m1,m2,m3,b1,wh1,y1,y2,y3,L,D,S,⟨⟩⟩ ⟨g1,g2,g3,g4,i,g5,g6,g7,g8,⟨A,g9⟩,⟨A',UI⟩,mM⟩
  dsimp only at g1 g2 g3 g4 g5 g6 g7 g8 g9 UI mM
  subst g1 g2 g3 g4 g5 g8
  dsimp only
  have hLf:=g7.ok.lP
  have TN:=g7.len
  rw [Bl L,Bl D,Bl (Yn L)]
  refine Br.dec (λhli=>?_) λhli=>?_
  ·have hi:i<ls.length:=by omega
   have OS:k<L.length:=by rw [g9,List.length_append];omega
   have hLk:L[k]=L0[k]:=by simp only [g9];exact List.getElem_append_left hk
   have OR:k<D.length:=by rw [TN];exact OS
   have hDk:D[k]=D0[k]:=by simp only [UI];exact List.getElem_append_left ye
   have uU:=j6 _ (List.getElem_mem hi)
   obtain ⟨nl,nr⟩:=nE hV hx uU
   rw [List.drop_eq_getElem_cons hi] at mM
   simp only [Ej] at mM
   refine ⟨⟨by omega,by omega⟩,L0[k],by rw [Int.toNat_natCast,Nat.zero_add,List.getElem?_eq_getElem OS,hLk],_,An hi,_,if_pos ⟨hv,by show L0[k].length<=20;omega,hx,uU⟩,?_⟩
   dsimp only
   have hyl:(Aa L0[k] (Af p.2.2.1 ls[i])).length=s.length:=by rw [nl,PH]
   refine ⟨_,if_pos (by show Dd (Aa L0[k] (Af p.2.2.1 ls[i])).length L (Yn L);rw [hyl];exact g7.ok),Br.dec (λVf=>?_) λVf=>?_⟩
   ·have Vf:Aa L0[k] (Af p.2.2.1 ls[i])∈L:=tA.1 Vf
    rw [if_pos Vf] at mM
    rw [Ah (by omega)]
    exact ⟨rfl,rfl,rfl,rfl,rfl,rfl,rfl,rfl,rfl,rfl,rfl,rfl,⟨rfl,rfl,rfl,rfl,i+1,rfl,hi,g7,rfl,⟨A,g9⟩,⟨A',UI⟩,mM⟩,by omega⟩
   ·have Vf:Aa L0[k] (Af p.2.2.1 ls[i])∉L:= λhh=>Vf (tA.2 hh)
    rw [if_neg Vf] at mM
    refine ⟨λRj=>?_,λRj=>⟨⟨by omega,by omega⟩,D0[k],by rw [Int.toNat_natCast,Nat.zero_add,List.getElem?_eq_getElem OR,hDk],rfl,rfl,rfl,rfl,rfl,rfl,?_⟩⟩
    ·have Rj:L.length=3000:=by
      have:(L.length:Int)=3000:=by simpa using Rj
      omega
     rw [if_pos Rj] at mM
     have:=OO _ _ _ mM.symm
     rw [if_neg (by decide)] at this
     unfold Fg
     rw [this]
    ·have Rj:L.length≠3000:=by
      have:(L.length:Int)≠3000:=by simpa using Rj
      omega
     rw [if_neg Rj] at mM
     rw [Cl (n:=D0[k]+1) (by omega) (by omega)]
     refine ⟨_,if_pos ⟨by show Dd (Aa L0[k] (Af p.2.2.1 ls[i])).length L (Yn L);rw [hyl];exact g7.ok,by show D.length<=3000;omega⟩,?_⟩
     dsimp only
     rw [Ah (by omega),<-bG]
     refine ⟨rfl,rfl,rfl,rfl,rfl,rfl,rfl,rfl,rfl,rfl,rfl,rfl,⟨rfl,rfl,rfl,rfl,i+1,rfl,hi,g7.add Vf hyl (by omega) nr ⟨by omega,by omega⟩,rfl,⟨A++ [Aa L0[k] (Af p.2.2.1 ls[i])],by rw [g9,List.append_assoc]⟩,⟨A'++ [D0[k]+1],by rw [UI,List.append_assoc]⟩,mM⟩,by omega⟩
  ·have:i=ls.length:=by omega
   subst this
   rw [List.drop_length,Ej] at mM
   have:=OO _ _ _ mM.symm
   rw [if_pos rfl] at this
   rw [Ah (by omega)]
   refine ⟨rfl,rfl,rfl,rfl,rfl,rfl,rfl,rfl,rfl,rfl,rfl,rfl,⟨rfl,rfl,rfl,rfl,k+1,rfl,by rw [g9,List.length_append];omega,g7,rfl,?_⟩,by omega⟩
   rw [show 3001-(k+1)=f by omega]
   exact this.symm
 ·have hk:k=L0.length:=by omega
  rw [Bl L0,Bl D0,Bl (Yn L0)]
  obtain ⟨f,hf⟩: ∃f,3001-k=f+1:=⟨3000-k,by omega⟩
  rw [hf,Fq,if_neg (by omega)] at h9
  unfold Fg
  rw [<-h9]
theorem mr:Sound Tryz.prog 131 Dh:=
 Sound.Cp Ac6 (Ae Qy (Ft EV (Ae nd (Ae wi (Ae jG Ai))))) mixed Tryz.func131 (by kernel_rfl) (by kernel_rfl) λx h=>VX x.1 x.2.1 h
end Go.Proofs.YtfolipnappekaaaGreat

namespace Go.Proofs.YtfolipnappekaaaGreat
open Go.RowKit
noncomputable def Dc (p:PP) (t:List Int):Bool:=Ax p&&Tm p.1 t
noncomputable def Dp (p:PP) (t:List Int):Bool:=Dc p t&&(De p.2.2.1 t).2.2
noncomputable abbrev Ez:Spec:=Cp (.pair Cu (.pair tL .unit)) .bool false true (λx=>Cb x.1/\short x.2.1) (λx=>Dc x.1 x.2.1)
noncomputable def Ki (p:PP) (t:List Int):SS:=if Dc p t=true then Fg p.2.2.1 t else ([],[],[],false,())
noncomputable abbrev Px:Spec:=Cp (.pair Cu (.pair tL .unit)) (.pair Vb (.pair .bool .unit)) true false (λx=>Cb x.1/\short x.2.1) (λx=>(Ki x.1 x.2.1,Dp x.1 x.2.1,()))
noncomputable abbrev Mk:Spec:=Cp (.pair cF .unit) cF false true (λx=>Fm x.1) (λx=>x.1)
noncomputable def Ee (p:PP) (t:List Int):TT:=if Dp p t=true then (t,(De p.2.2.1 t).1,(De p.2.2.1 t).2.1,()) else ([],[],[],())
noncomputable abbrev Py:Spec:=Cp (.pair Cu (.pair tL .unit)) (.pair Hp (.pair .bool .unit)) true true (λx=>Cb x.1/\short x.2.1) (λx=>(Ee x.1 x.2.1,Dp x.1 x.2.1,()))
noncomputable abbrev Sm:MSpec:=nD [some 3,none] [(false, .Er tI),(false, .Er .str),(false, .Er cF),(false, .Er tL)] true [none,none,none] [xLL,rL, .Er .bool]
 (λx=>Dc (x.1,x.2.1,x.2.2.1,()) x.2.2.2.1=true) (λx=>(((Ee (x.1,x.2.1,x.2.2.1,()) x.2.2.2.1).2.1,(Ee (x.1,x.2.1,x.2.2.1,()) x.2.2.2.1).2.2.1,Dp (x.1,x.2.1,x.2.2.1,()) x.2.2.2.1,()),()))
noncomputable abbrev So:MSpec:=nD [some 3,none] [(false, .Er tI),(false, .Er .str),(false, .Er cF),(false, .Er tL)] true [none,none,none] [xLL,rL, .Er .bool]
 (λx=>Cb (x.1,x.2.1,x.2.2.1,())/\short x.2.2.2.1) (λx=>(((Ee (x.1,x.2.1,x.2.2.1,()) x.2.2.2.1).2.1,(Ee (x.1,x.2.1,x.2.2.1,()) x.2.2.2.1).2.2.1,Dp (x.1,x.2.1,x.2.2.1,()) x.2.2.2.1,()),()))
noncomputable abbrev Pu:MSpec:=nD [some 3,none] [(false, .Er tI),(false, .Er .str),(false, .Er cF),(false, .Er tL)] true [some 3,none] [rL,xLL,rL, .Er .bool]
 (λx=>Cb (x.1,x.2.1,x.2.2.1,())/\short x.2.2.2.1) (λx=>(((Ee (x.1,x.2.1,x.2.2.1,()) x.2.2.2.1).1,(Ee (x.1,x.2.1,x.2.2.1,()) x.2.2.2.1).2.1,(Ee (x.1,x.2.1,x.2.2.1,()) x.2.2.2.1).2.2.1,Dp (x.1,x.2.1,x.2.2.1,()) x.2.2.2.1,()),()))
noncomputable def Dq (p:PP) (t:TT):Bool:=Dp p t.1&&Kh (Ee p t.1) t
noncomputable abbrev Lb:Spec:=Cp (.pair Cu (.pair Hp .unit)) .bool false true (λx=>Cb x.1/\Kx x.2.1) (λx=>Dq x.1 x.2.1)
abbrev AL:Ty:= .slice Hp
def Gr (ts:List TT):Prop:=ts.length<=4294967296/\ ∀t∈ts,Kx t
noncomputable def Dk (p:PP) (ts:List TT):Bool:=Ax p&&decide (ts.length<=4)&&List.all ts (Dq p)
noncomputable abbrev He:Spec:=Cp (.pair Cu (.pair AL .unit)) .bool false true (λx=>Cb x.1/\Gr x.2.1) (λx=>Dk x.1 x.2.1)
abbrev Ag8:Ty:= .clo 86 (.pair (.ptr Cu) .unit)
noncomputable abbrev tZ:Spec:=Cp (.pair Hp (.pair (.ptr Cu) .unit)) .bool false true (λx=>Kx x.1/\Cb x.2.1) (λx=>!Dq x.2.1 x.1)
def Mg (q:TT->Bool):List TT->Int->Int
 | [],_=> -1
 |t::ts,k=>if q t=true then k else Mg q ts (k+1)
noncomputable abbrev l9:Spec:=Cp (.pair AL (.pair Ag8 .unit)) tI false true (λx=>Gr x.1/\Cb x.2.1.1) (λx=>Mg (λt=>!Dq x.2.1.1 t) x.1 0)
noncomputable abbrev l4:Spec:=Cp (.pair AL (.pair Ag8 .unit)) .bool false true (λx=>Gr x.1/\Cb x.2.1.1) (λx=>List.any x.1 (λt=>!Dq x.2.1.1 t))
def lA:List TT->Int->Int
 | [],room=>room
 |t::ts,room=>if Mw t room<0 then-1 else lA ts (Mw t room)
def CV (ts:List TT) (room:Int):Int:=if room-ts.length<0 then-1 else lA ts (room-ts.length)
noncomputable abbrev lf:Spec:=Cp (.pair AL (.pair tI .unit)) tI false true (λx=>Gr x.1/\roomy x.2.1) (λx=>CV x.1 x.2.1)
noncomputable abbrev dW:Spec:=Cp (.pair AL .unit) AL false true (λx=>Gr x.1) (λx=>x.1)
noncomputable abbrev l6:Spec:=Cp (.pair AL (.pair AL .unit)) .bool false true (λx=>Gr x.1) (λx=>decide (x.1=x.2.1))
theorem ss (p:Int×ByteArray×List (List Int)×Unit) (t:List Int) (P:Bool->Prop):(∃(y3:Bool),Dl.fn ((p.1,p.2.1,p.2.2.1,()),())=some y3/\Br y3 (∃(y4:Bool),Gh.fn (p.1,t,())=some y4/\P y4) (P false))=fnW Cf (look [(84,Dl),(159,Gh)]) Ez Tryz.f151 (p,t,()) P:=by kernel_rfl
theorem sA (p:Int×ByteArray×List (List Int)×Unit) (t:List Int) (P:Bool->Prop):(∃(y3:Bool),Dl.fn ((p.1,p.2.1,p.2.2.1,()),())=some y3/\Br y3 (∃(y4:Bool),Gh.fn (p.1,t,())=some y4/\P y4) (P false))=fnW Cf (look [(93,Dl),(160,Gh)]) Ez Tryz.f155 (p,t,()) P:=by kernel_rfl
theorem zW (p:Int×ByteArray×List (List Int)×Unit) (t:List Int) (P:((List (List Int)×List Int×List Int×Bool×Unit)×Bool×Unit)->Prop):(∃(y3:Bool),Ez.fn ((p.1,p.2.1,p.2.2.1,()),t,())=some y3/\Br (!y3) (P ((List.take 0 (List.drop 0 []),List.take 0 (List.drop 0 []),List.take 0 (List.drop 0 []),false,()),false,())) (∃(y4:List (List Int)×List Int×List Int×Bool×PUnit),Dh.fn ((p.1,p.2.1,p.2.2.1,()),t,())=some y4/\((P ((y4.1,y4.2.1,y4.2.2.1,y4.2.2.2.1,()),y4.2.2.2.1,())/\P ((y4.1,y4.2.1,y4.2.2.1,y4.2.2.2.1,()),y4.2.2.2.1,()))/\P ((y4.1,y4.2.1,y4.2.2.1,y4.2.2.2.1,()),y4.2.2.2.1,()))/\(P ((y4.1,y4.2.1,y4.2.2.1,y4.2.2.2.1,()),y4.2.2.2.1,())/\P ((y4.1,y4.2.1,y4.2.2.1,y4.2.2.2.1,()),y4.2.2.2.1,()))/\P ((y4.1,y4.2.1,y4.2.2.1,y4.2.2.2.1,()),y4.2.2.2.1,())))=fnW Cf (look [(155,Ez),(131,Dh)]) Px Tryz.f142 (p,t,()) P:=by kernel_rfl
theorem zO (l:List (List Int)) (P:List (List Int)->Prop):(0=0/\0=([]:List Int).length/\Bm (λ(v2:Int×List (List Int)×PUnit) (k3:Int×List (List Int)×PUnit->Prop)=>Br (decide (v2.1<(↑l.length:Int))) (∃(y4:List Int),idx l v2.1=some y4/\ ∃(y5:List Int),Fy.fn (y4,())=some y5/\0=0/\v2.2.1.length=v2.2.1.length/\v2.2.1.length+(List.take 1 (List.drop 0 [y5])).length<=Bh/\0=0/\(v2.2.1++List.take 1 (List.drop 0 [y5])).length=(v2.2.1++List.take 1 (List.drop 0 [y5])).length/\k3 (IntKind.i64.wrap (v2.1+(1:Int)),v2.2.1++List.take 1 (List.drop 0 [y5]),())) (P (List.take v2.2.1.length (List.drop 0 v2.2.1)))) ((0:Int),[],PUnit.unit))=fnW Cf (look [(116,Fy)]) Mk Tryz.f143 (l,()) P:=by kernel_rfl
theorem zX (p:Int×ByteArray×List (List Int)×Unit) (t:List Int) (P:((List Int×List (List Int)×List Int×Unit)×Bool×Unit)->Prop):(∃(y3:(List (List Int)×List Int×List Int×Bool×PUnit)×Bool×PUnit),Px.fn ((p.1,p.2.1,p.2.2.1,()),t,())=some y3/\Br (!y3.2.1) (P ((List.take 0 (List.drop 0 []),List.take 0 (List.drop 0 []),List.take 0 (List.drop 0 []),()),false,())) (∃(y4:List Int),Fy.fn (t,())=some y4/\ ∃(y5:List (List Int)),Mk.fn (y3.1.1,())=some y5/\ ∃(y6:List Int),Fy.fn (y3.1.2.1,())=some y6/\P ((y4,y5,y6,()),true,())))=fnW Cf (look [(142,Px),(116,Fy),(143,Mk)]) Py Tryz.f125 (p,t,()) P:=by kernel_rfl
abbrev Yo:Type:=Int×List (List Int)×List (List Int)×List Int×(ByteArray->Option Bool)×PUnit
abbrev mB:Type:=Int×Int×ByteArray×List (List Int)×List (List Int)×List (List Int)×List Int×(ByteArray->Option Bool)×PUnit
theorem FN (n:Int) (str:ByteArray) (g:List (List Int)) (t:List Int) (P:((List (List Int)×List Int×Bool×Unit)×Unit)->Prop):(∃(y5:(List Int×PUnit)×PUnit),Xb.fn (t,())=some y5/\ ∃(y6:ByteArray),Cg.fn (t,())=some y6/\ ∃(y7:List Int),Ix.fn ((↑g.length:Int),())=some y7/\0=0/\1= [List.take y5.1.1.length (List.drop 0 y5.1.1)].length/\0=0/\1= [(0:Int)].length/\0=0/\0=([]:List Int).length/\Bm (λ(v8:mB) (k9:mB->Prop)=>Br (decide (v8.1<(↑y7.length:Int))) (∃(Xj:Int),idx y7 v8.1=some Xj/\ ∃(sB:List Int),Kw.fn (v8.2.2.2.1,Xj,())=some sB/\0=0/\v8.2.2.2.2.1.length=v8.2.2.2.2.1.length/\v8.2.2.2.2.1.length+(List.take 1 (List.drop 0 [sB])).length<=Bh/\0=0/\v8.2.2.2.2.2.1.length=v8.2.2.2.2.2.1.length/\0=0/\v8.2.2.2.2.2.2.1.length=v8.2.2.2.2.2.2.1.length/\0=0/\(v8.2.2.2.2.1++List.take 1 (List.drop 0 [sB])).length=(v8.2.2.2.2.1++List.take 1 (List.drop 0 [sB])).length/\k9 (IntKind.i64.wrap (v8.1+(1:Int)),v8.2.1,v8.2.2.1,v8.2.2.2.1,v8.2.2.2.2.1++List.take 1 (List.drop 0 [sB]),v8.2.2.2.2.2.1,v8.2.2.2.2.2.2.1,v8.2.2.2.2.2.2.2.1,())) (0=0/\v8.2.2.2.2.2.1.length=v8.2.2.2.2.2.1.length/\0=0/\v8.2.2.2.2.2.2.1.length=v8.2.2.2.2.2.2.1.length/\0=0/\v8.2.2.2.2.1.length=v8.2.2.2.2.1.length/\Bm (λ(v10:Yo) (k11:Yo->Prop)=>Br (decide (v10.1<(↑v10.2.2.1.length:Int))) (0=0/\v10.2.2.1.length=v10.2.2.1.length/\0=0/\v10.2.2.2.1.length=v10.2.2.2.1.length/\0=0/\v10.2.1.length=v10.2.1.length/\0=0/\v10.2.1.length=v10.2.1.length/\Bm (λ(Ji:Yo) (k13:Yo->Prop)=>Br (decide (Ji.1<(↑v10.2.1.length:Int))) (((0:Int)<=Ji.1/\Ji.1<(↑Ji.2.1.length:Int))/\ ∃(Xk:List Int),Ji.2.1[0+Ji.1.toNat]?=some Xk/\((0:Int)<=v10.1/\v10.1<(↑Ji.2.2.1.length:Int))/\ ∃(jR:List Int),Ji.2.2.1[0+v10.1.toNat]?=some jR/\ ∃(nI:(List Int×PUnit)×PUnit),Vn.fn (Xk,jR,())=some nI/\ ∃(FU:ByteArray),Cg.fn (List.take nI.1.1.length (List.drop 0 nI.1.1),())=some FU/\Br (!(Ji.2.2.2.2.1 FU).getD false) (Br ((↑Ji.2.2.1.length:Int)==(3000:Int)) (P ((List.take 0 (List.drop 0 []),List.take 0 (List.drop 0 []),false,()),())) (0=0/\Ji.2.2.1.length=Ji.2.2.1.length/\Ji.2.2.1.length+(List.take 1 (List.drop 0 [List.take nI.1.1.length (List.drop 0 nI.1.1)])).length<=Bh/\((0:Int)<=v10.1/\v10.1<(↑Ji.2.2.2.1.length:Int))/\ ∃(MT:Int),Ji.2.2.2.1[0+v10.1.toNat]?=some MT/\0=0/\Ji.2.2.2.1.length=Ji.2.2.2.1.length/\Ji.2.2.2.1.length+(List.take 1 (List.drop 0 [IntKind.i64.wrap (MT+(1:Int))])).length<=Bh/\0=0/\(Ji.2.2.1++List.take 1 (List.drop 0 [List.take nI.1.1.length (List.drop 0 nI.1.1)])).length=(Ji.2.2.1++List.take 1 (List.drop 0 [List.take nI.1.1.length (List.drop 0 nI.1.1)])).length/\0=0/\(Ji.2.2.2.1++List.take 1 (List.drop 0 [IntKind.i64.wrap (MT+(1:Int))])).length=(Ji.2.2.2.1++List.take 1 (List.drop 0 [IntKind.i64.wrap (MT+(1:Int))])).length/\0=0/\Ji.2.1.length=Ji.2.1.length/\0=0/\Ji.2.1.length=Ji.2.1.length/\k13 (IntKind.i64.wrap (Ji.1+(1:Int)),Ji.2.1,Ji.2.2.1++List.take 1 (List.drop 0 [List.take nI.1.1.length (List.drop 0 nI.1.1)]),Ji.2.2.2.1++List.take 1 (List.drop 0 [IntKind.i64.wrap (MT+(1:Int))]),Tt Ji.2.2.2.2.1 FU true,()))) (0=0/\Ji.2.2.1.length=Ji.2.2.1.length/\0=0/\Ji.2.2.2.1.length=Ji.2.2.2.1.length/\0=0/\Ji.2.1.length=Ji.2.1.length/\0=0/\Ji.2.1.length=Ji.2.1.length/\k13 (IntKind.i64.wrap (Ji.1+(1:Int)),Ji.2.1,Ji.2.2.1,Ji.2.2.2.1,Ji.2.2.2.2.1,()))) (0=0/\Ji.2.2.1.length=Ji.2.2.1.length/\0=0/\Ji.2.2.2.1.length=Ji.2.2.2.1.length/\0=0/\Ji.2.1.length=Ji.2.1.length/\k11 (IntKind.i64.wrap (v10.1+(1:Int)),Ji.2.1,Ji.2.2.1,Ji.2.2.2.1,Ji.2.2.2.2.1,()))) ((0:Int),v10.2.1,v10.2.2.1,v10.2.2.2.1,v10.2.2.2.2.1,PUnit.unit)) (P ((List.take v10.2.2.1.length (List.drop 0 v10.2.2.1),List.take v10.2.2.2.1.length (List.drop 0 v10.2.2.2.1),true,()),()))) ((0:Int),v8.2.2.2.2.1,v8.2.2.2.2.2.1,v8.2.2.2.2.2.2.1,v8.2.2.2.2.2.2.2.1,PUnit.unit))) ((0:Int),n,str,g,[],[List.take y5.1.1.length (List.drop 0 y5.1.1)],[(0:Int)],Tt (λ(_:ByteArray)=>none) y6 true,PUnit.unit))=fnMW (SI [Tv+10]) (look [(138,Xb),(79,Cg),(106,Ix),(122,Kw),(80,Vn)]) Sm Tryz.f152 (n,str,g,t,()) P:=by kernel_rfl
theorem FP (n:Int) (str:ByteArray) (g:List (List Int)) (t:List Int) (P:((List (List Int)×List Int×Bool×Unit)×Unit)->Prop):(∃(y5:Bool),Ez.fn ((n,str,g,()),t,())=some y5/\Br (!y5) (P ((List.take 0 (List.drop 0 []),List.take 0 (List.drop 0 []),false,()),())) (∃(y6:(List (List Int)×List Int×Bool×PUnit)×PUnit),Sm.fn (n,str,g,t,())=some y6/\P ((List.take y6.1.1.length (List.drop 0 y6.1.1),List.take y6.1.2.1.length (List.drop 0 y6.1.2.1),y6.1.2.2.1,()),())))=fnMW lF (look [(151,Ez),(152,Sm)]) So Tryz.f137 (n,str,g,t,()) P:=by kernel_rfl
theorem zR (n:Int) (str:ByteArray) (g:List (List Int)) (t:List Int) (P:((List Int×List (List Int)×List Int×Bool×Unit)×Unit)->Prop):(∃(y5:(List (List Int)×List Int×Bool×PUnit)×PUnit),So.fn (n,str,g,t,())=some y5/\Br (!y5.1.2.2.1) (P ((List.take 0 (List.drop 0 []),List.take 0 (List.drop 0 []),List.take 0 (List.drop 0 []),false,()),())) (∃(y6:(List Int×PUnit)×PUnit),Xb.fn (t,())=some y6/\P ((List.take y6.1.1.length (List.drop 0 y6.1.1),List.take y5.1.1.length (List.drop 0 y5.1.1),List.take y5.1.2.1.length (List.drop 0 y5.1.2.1),true,()),())))=fnMW lF (look [(137,So),(138,Xb)]) Pu Tryz.f113 (n,str,g,t,()) P:=by kernel_rfl
theorem wS (p:Int×ByteArray×List (List Int)×Unit) (t:List Int×List (List Int)×List Int×Unit) (P:Bool->Prop):(∃(y3:(List Int×List (List Int)×List Int×Bool×PUnit)×PUnit),Pu.fn (p.1,p.2.1,p.2.2.1,t.1,())=some y3/\Br y3.1.2.2.2.1 (∃(y4:Bool),Ev.fn ((List.take y3.1.1.length (List.drop 0 y3.1.1),List.take y3.1.2.1.length (List.drop 0 y3.1.2.1),List.take y3.1.2.2.1.length (List.drop 0 y3.1.2.2.1),()),(t.1,t.2.1,t.2.2.1,()),())=some y4/\P y4) (P false))=fnW Cf (look [(113,Pu),(114,Ev)]) Lb Tryz.f87 (p,t,()) P:=by kernel_rfl
theorem wW (p:Int×ByteArray×List (List Int)×Unit) (t:List Int×List (List Int)×List Int×Unit) (P:Bool->Prop):(∃(y3:(List Int×List (List Int)×List Int×PUnit)×Bool×PUnit),Py.fn ((p.1,p.2.1,p.2.2.1,()),t.1,())=some y3/\Br y3.2.1 (∃(y4:Bool),Ev.fn ((y3.1.1,y3.1.2.1,y3.1.2.2.1,()),(t.1,t.2.1,t.2.2.1,()),())=some y4/\P y4) (P false))=fnW Cf (look [(125,Py),(126,Ev)]) Lb Tryz.f94 (p,t,()) P:=by kernel_rfl
theorem Ago (t:List Int×List (List Int)×List Int×Unit) (p:Int×ByteArray×List (List Int)×Unit) (P:Bool->Prop):(∃(y3:Bool),Lb.fn (p,(t.1,t.2.1,t.2.2.1,()),())=some y3/\P !y3)=fnW Cf (look [(87,Lb)]) tZ Tryz.f86 (t,p,()) P:=by kernel_rfl
theorem Acf (ts:List (List Int×List (List Int)×List Int×Unit)) (c:(Int×ByteArray×List (List Int)×Unit)×Unit) (P:Int->Prop):(Bm (λ(v3:Int×PUnit) (k4:Int×PUnit->Prop)=>Br (decide (v3.1<(↑ts.length:Int))) (∃(y5:List Int×List (List Int)×List Int×PUnit),idx ts v3.1=some y5/\ ∃(y6:Bool),tZ.fn (y5,c.1,())=some y6/\Br y6 (P v3.1) (k4 (IntKind.i64.wrap (v3.1+(1:Int)),()))) (P (-1:Int))) ((0:Int),PUnit.unit))=fnW Cf (look [(86,tZ)]) l9 Tryz.f112 (ts,c,()) P:=by kernel_rfl
theorem Ac8 (ts:List (List Int×List (List Int)×List Int×Unit)) (c:(Int×ByteArray×List (List Int)×Unit)×Unit) (P:Bool->Prop):(∃(y3:Int),l9.fn (ts,c,())=some y3/\P (decide (y3>=(0:Int))))=fnW Cf (look [(112,l9)]) l4 Tryz.f85 (ts,c,()) P:=by kernel_rfl
theorem qE (p:Int×ByteArray×List (List Int)×Unit) (ts:List (List Int×List (List Int)×List Int×Unit)) (P:Bool->Prop):(∃(y3:Bool),Dl.fn ((p.1,p.2.1,p.2.2.1,()),())=some y3/\Br y3 (Br (decide ((↑ts.length:Int)<=(4:Int))) (∃(y4:Bool),l4.fn (ts,((p.1,p.2.1,p.2.2.1,()),()),())=some y4/\P !y4) (P false)) (P false))=fnW Cf (look [(84,Dl),(85,l4)]) He Tryz.f63 (p,ts,()) P:=by kernel_rfl
abbrev cn:Type:=Int×Int×ByteArray×List (List Int)×PUnit
theorem qF (p:Int×ByteArray×List (List Int)×Unit) (ts:List (List Int×List (List Int)×List Int×Unit)) (P:Bool->Prop):(∃(y3:Bool),Dl.fn ((p.1,p.2.1,p.2.2.1,()),())=some y3/\Br (!y3) (P false) (Br (decide ((↑ts.length:Int)>(4:Int))) (P false) (Bm (λ(v4:cn) (k5:cn->Prop)=>Br (decide (v4.1<(↑ts.length:Int))) (∃(y6:List Int×List (List Int)×List Int×PUnit),idx ts v4.1=some y6/\ ∃(y7:Bool),Lb.fn ((v4.2.1,v4.2.2.1,v4.2.2.2.1,()),y6,())=some y7/\Br (!y7) (P false) (k5 (IntKind.i64.wrap (v4.1+(1:Int)),v4.2.1,v4.2.2.1,v4.2.2.2.1,()))) (P true)) ((0:Int),p.1,p.2.1,p.2.2.1,PUnit.unit))))=fnW Cf (look [(93,Dl),(94,Lb)]) He Tryz.f72 (p,ts,()) P:=by kernel_rfl
theorem Acl (ts:List (List Int×List (List Int)×List Int×Unit)) (k:Int) (P:Int->Prop):(Br (decide (IntKind.i64.wrap (k-(↑ts.length:Int))<(0:Int))) (P (-1:Int)) (Bm (λ(v3:Int×Int×PUnit) (k4:Int×Int×PUnit->Prop)=>Br (decide (v3.2.1<(↑ts.length:Int))) (∃(y5:List Int×List (List Int)×List Int×PUnit),idx ts v3.2.1=some y5/\ ∃(y6:Int),Vq.fn (y5,v3.1,())=some y6/\Br (decide (y6<(0:Int))) (P (-1:Int)) (k4 (y6,IntKind.i64.wrap (v3.2.1+(1:Int)),()))) (P v3.1)) (IntKind.i64.wrap (k-(↑ts.length:Int)),(0:Int),PUnit.unit)))=fnW Cf (look [(46,Vq)]) lf Tryz.f14 (ts,k,()) P:=by kernel_rfl
abbrev HX:Type:=Int×List (List Int×List (List Int)×List Int×PUnit)×PUnit
abbrev HY:Type:=List Int×List (List Int)×List Int×PUnit
theorem Acn (ts:List (List Int×List (List Int)×List Int×Unit)) (P:List (List Int×List (List Int)×List Int×Unit)->Prop):(((0:Int)<=(↑ts.length:Int)/\(↑ts.length:Int)<(↑Bh:Int)+(1:Int))/\(↑ts.length:Int)=(↑ts.length:Int)/\0=0/\(List.replicate (↑ts.length:Int).toNat (([]:List Int),([]:List (List Int)),([]:List Int),())).length=(List.replicate (↑ts.length:Int).toNat (([]:List Int),([]:List (List Int)),([]:List Int),())).length/\Bm (λ(v2:HX) (k3:HX->Prop)=>Br (decide (v2.1<(↑ts.length:Int))) (∃(y4:HY),idx ts v2.1=some y4/\ ∃(y5:HY),Vr.fn (y4,())=some y5/\((0:Int)<=v2.1/\v2.1<(↑v2.2.1.length:Int))/\0+v2.1.toNat<v2.2.1.length/\0=0/\v2.2.1.length=(v2.2.1.set (0+v2.1.toNat) y5).length/\k3 (IntKind.i64.wrap (v2.1+(1:Int)),v2.2.1.set (0+v2.1.toNat) y5,())) (P (List.take v2.2.1.length (List.drop 0 v2.2.1)))) ((0:Int),List.replicate (↑ts.length:Int).toNat (([]:List Int),([]:List (List Int)),([]:List Int),()),PUnit.unit))=fnW Cf (look [(50,Vr)]) dW Tryz.f17 (ts,()) P:=by kernel_rfl
abbrev HU:Type:=List Int×List (List Int)×List Int×PUnit
theorem Acb (a b:List (List Int×List (List Int)×List Int×Unit)) (P:Bool->Prop):(Br ((↑a.length:Int) !=(↑b.length:Int)) (P false) (Bm (λ(v3:Int×PUnit) (k4:Int×PUnit->Prop)=>Br (decide (v3.1<(↑a.length:Int))) (∃(y5:HU),idx a v3.1=some y5/\ ∃(y6:HU),idx b v3.1=some y6/\ ∃(y7:Bool),Ev.fn (y5,y6,())=some y7/\Br (!y7) (P false) (k4 (IntKind.i64.wrap (v3.1+(1:Int)),()))) (P true)) ((0:Int),PUnit.unit)))=fnW Cf (look [(54,Ev)]) l6 Tryz.f21 (a,b,()) P:=by kernel_rfl
theorem iF {p:PP} (hV:Valid p) {m:Nat} {x:List Int} {d:Int} (hx: ∀y∈x,0<=y/\y<p.1) (PH:x.length=m): ∀(ls:List Int) (L:List (List Int)) (D:List Int),(∀l∈ls,Hg (List.length p.2.2.1) l)->
  Nf p m L D->(0<=d/\d<L.length)->Nf p m (Ej p.2.2.1 x d ls L D).1 (Ej p.2.2.1 x d ls L D).2.1/\(∃A,(Ej p.2.2.1 x d ls L D).1=L++A)/\(∃A,(Ej p.2.2.1 x d ls L D).2.1=D++A)
 | [],L,D,_,h,_=>⟨h,⟨[],by simp [Ej]⟩,⟨[],by simp [Ej]⟩⟩
 |l::ls,L,D,hl,h,hd=>by
  obtain ⟨n1,n2⟩:=nE hV hx (hl l (by simp))
  have Gd: ∀l∈ls,Hg (List.length p.2.2.1) l:= λl' h'=>hl l' (List.mem_cons_of_mem _ h')
  simp only [Ej]
  split
  ·exact iF hV hx PH ls L D Gd h hd
  ·rename_i hn
   split
   ·exact ⟨h,⟨[],by simp⟩,⟨[],by simp⟩⟩
   ·rename_i hf
    have kD:=h.ok.lP
    obtain ⟨k1,⟨A,k2⟩,⟨A',k3⟩⟩:=iF hV hx PH ls (L++ [Aa x (Af p.2.2.1 l)]) (D++ [d+1]) Gd (h.add hn (by rw [n1,PH]) (by omega) n2 ⟨by omega,by omega⟩) ⟨hd.1,by rw [List.length_append];omega⟩
    exact ⟨k1,⟨_::A,by rw [k2,List.append_assoc];rfl⟩,⟨_::A',by rw [k3,List.append_assoc];rfl⟩⟩
theorem xu {p:PP} (hV:Valid p) {m:Nat} {ls:List Int} (hl: ∀l∈ls,Hg (List.length p.2.2.1) l): ∀(f k:Nat) (L:List (List Int)) (D:List Int),Nf p m L D->
  Nf p m (Fq p.2.2.1 ls f k L D).1 (Fq p.2.2.1 ls f k L D).2.1/\(∃A,(Fq p.2.2.1 ls f k L D).1=L++A)
 |0,k,L,D,h=>⟨h,⟨[],by simp [Fq]⟩⟩
 |f+1,k,L,D,h=>by
  simp only [Fq]
  split
  ·rename_i hk
   have ye:k<D.length:=by rw [h.len];exact hk
   have hd:=h.dep k ye
   have e:D.getD k 0=D[k]:=by rw [List.getD_eq_getElem?_getD,List.getElem?_eq_getElem ye];rfl
   rw [Oc hk,e]
   obtain ⟨k1,⟨A,k2⟩,_⟩:=iF hV (h.row _ (List.getElem_mem hk)) (h.ok.len _ (List.getElem_mem hk)) (d:=D[k]) ls L D hl h ⟨by omega,by omega⟩
   split
   ·rename_i L' D' he
    rw [he] at k1 k2
    obtain ⟨g1,⟨B,g2⟩⟩:=xu hV hl f (k+1) L' D' k1
    have k2:L'=L++A:=k2
    exact ⟨g1,⟨A++B,by rw [g2,k2,List.append_assoc]⟩⟩
   ·rename_i L' D' he
    rw [he] at k1 k2
    exact ⟨k1,⟨A,k2⟩⟩
  ·exact ⟨h,⟨[],by simp⟩⟩
theorem uv {p:PP} {s:List Int} (hv:Ax p=true) (hs:s.length<=20) (hr: ∀y∈s,0<=y/\y<p.1):Nf p s.length (De p.2.2.1 s).1 (De p.2.2.1 s).2.1/\ ∃A,(De p.2.2.1 s).1=s::A:=
 xu (valid hv) (λ_ hl=>Kj hl) _ _ _ _ (Zl hs hr)
theorem Mm {p:PP} {t:List Int} :Dc p t=true↔Ax p=true/\Tm p.1 t=true:=by
 unfold Dc;rw [Bool.and_eq_true]
theorem Fk {p:PP} {t:List Int} (h:Dc p t=true):t.length<=20/\ ∀y∈t,0<=y/\y<p.1:=by
 obtain ⟨h1,h2⟩:=Mm.1 h
 have hn:=(valid h1).n
 obtain ⟨h3,h4⟩:=Ed.1 h2
 have hy: ∀y∈t,0<=y/\y<p.1:= λy hy=>by
  obtain ⟨j,hj,rfl⟩:=List.mem_iff_getElem.1 hy
  have:=h4 j hj hj
  omega
 refine ⟨?_,hy⟩
 have h5:=DV h4 (t.length-1) (by omega)
 have h6:=hy _ (List.getElem_mem (show t.length-1<t.length by omega))
 omega
theorem vS {p:PP} {t:List Int} (h:Dc p t=true):Nf p t.length (De p.2.2.1 t).1 (De p.2.2.1 t).2.1:=(uv (Mm.1 h).1 (Fk h).1 (Fk h).2).1
theorem aj {p:PP} {t:List Int} :Dp p t=true↔Dc p t=true/\(De p.2.2.1 t).2.2=true:=by
 unfold Dp;rw [Bool.and_eq_true]
theorem sF {p:PP} {m:Nat} {L:List (List Int)} {D:List Int} (h:Nf p m L D):Fm L/\short D:=by
 have h1:=h.ok.lP
 have h2:=h.ok.short
 have h3:=h.len
 refine ⟨⟨by omega,λx hx=>?_⟩,by unfold short;omega⟩
 have:=h.ok.len x hx
 unfold short;omega
theorem lL {p:PP} {t:List Int} :Kx (Ee p t):=by
 unfold Ee
 split
 ·rename_i h
  have h1:=(aj.1 h).1
  have h2:=sF (vS h1)
  have h3:=(Fk h1).1
  exact ⟨show t.length<=4294967296 by omega,h2.1,h2.2⟩
 ·exact ⟨by simp [short],⟨by simp,λr hr=>by cases hr⟩,by simp [short]⟩
theorem rD (p:PP) (t:List Int) (h:Cb p/\short t):fnW Cf (look [(84,Dl),(159,Gh)]) Ez Tryz.f151 (p,t,()) (λ(z:Bool)=>z=Dc p t):=by
 refine Eq.mp (ss p t _) ⟨_,if_pos h.1,⟨λhv=>?_,λhv=>?_⟩⟩
 ·have hv:Ax p=true:=hv
  have hn:=(valid hv).n
  refine ⟨_,if_pos ⟨⟨by show 0<=p.1;omega,by show p.1<=4294967296;omega⟩,h.2⟩,?_⟩
  unfold Dc;rw [hv];rfl
 ·have hv:Ax p=false:=hv
  unfold Dc;rw [hv];rfl
theorem jE:Sound Tryz.prog 151 Ez:=
 Sound.Cp Bg (Ae Sq (Ae nc Ai)) mixed Tryz.func151 (by kernel_rfl) (by kernel_rfl) λx h=>rD x.1 x.2.1 h
theorem rJ (p:PP) (t:List Int) (h:Cb p/\short t):fnW Cf (look [(93,Dl),(160,Gh)]) Ez Tryz.f155 (p,t,()) (λ(z:Bool)=>z=Dc p t):=by
 refine Eq.mp (sA p t _) ⟨_,if_pos h.1,⟨λhv=>?_,λhv=>?_⟩⟩
 ·have hv:Ax p=true:=hv
  have hn:=(valid hv).n
  refine ⟨_,if_pos ⟨⟨by show 0<=p.1;omega,by show p.1<=4294967296;omega⟩,h.2⟩,?_⟩
  unfold Dc;rw [hv];rfl
 ·have hv:Ax p=false:=hv
  unfold Dc;rw [hv];rfl
theorem jI:Sound Tryz.prog 155 Ez:=
 Sound.Cp Bg (Ae Nd (Ae jF Ai)) mixed Tryz.func155 (by kernel_rfl) (by kernel_rfl) λx h=>rJ x.1 x.2.1 h
theorem zd (p:PP) (t:List Int) (h:Cb p/\short t):fnW Cf (look [(155,Ez),(131,Dh)]) Px Tryz.f142 (p,t,()) (λ(z:SS×Bool×Unit)=>z=(Ki p t,Dp p t,())):=by
 refine Eq.mp (zW p t _) ⟨_,if_pos h,⟨λhn=>?_,λhn=>?_⟩⟩
 ·have hn:=Db hn
  have e:Dp p t=false:=Bool.eq_false_iff.2 λhh=>hn (aj.1 hh).1
  unfold Ki
  rw [if_neg hn,e]
  rfl
 ·have hn:Dc p t=true:=Dr hn
  have e:Dp p t=(De p.2.2.1 t).2.2:=by unfold Dp;rw [hn,Bool.true_and]
  refine ⟨_,if_pos ⟨(Mm.1 hn).1,(Fk hn).1,(Fk hn).2⟩,?_⟩
  have key:(((Fg p.2.2.1 t).1,(Fg p.2.2.1 t).2.1,(Fg p.2.2.1 t).2.2.1,(Fg p.2.2.1 t).2.2.2.1,()),(Fg p.2.2.1 t).2.2.2.1,())=(Ki p t,Dp p t,()):=by
   unfold Ki
   rw [if_pos hn,e]
   rfl
  exact ⟨⟨⟨key,key⟩,key⟩,⟨key,key⟩,key⟩
theorem nh:Sound Tryz.prog 142 Px:=
 Sound.Cp Bg (Ae jI (Ae mr Ai)) mixed Tryz.func142 (by kernel_rfl) (by kernel_rfl) λx h=>zd x.1 x.2.1 h
theorem z0 (l:List (List Int)) (h:Fm l):fnW Cf (look [(116,Fy)]) Mk Tryz.f143 (l,()) (λ(z:List (List Int))=>z=l):=by
 obtain ⟨h1,h2⟩:=h
 refine Eq.mp (zO l _) ⟨rfl,rfl,?_⟩
 refine Aj l.length (λv=>v.1) (λj v=>v.2.1=l.take j) rfl (by simp) ?_
 rintro j ⟨i,ys,⟨⟩⟩ K hj hi hR hK
 dsimp only at hi hR⊢
 subst hi hR
 refine Br.dec (λhl=>?_) λhl=>?_
 ·have hl:j<l.length:=by omega
  refine ⟨_,An hl,_,if_pos (h2 _ (List.getElem_mem hl)),rfl,rfl,?_,rfl,rfl,?_⟩
  ·show (List.take j l).length+1<=4294967296
   rw [List.length_take];omega
  ·rw [Ah (by omega)]
   refine hK hl _ rfl ?_
   show List.take j l++ [l[j]]=_
   rw [List.take_add_one,List.getElem?_eq_getElem hl];rfl
 ·have:j=l.length:=by omega
  subst this
  rw [Bl,List.take_length]
theorem mX:Sound Tryz.prog 143 Mk:=
 Sound.Cp Bg (Ae Qy Ai) mixed Tryz.func143 (by kernel_rfl) (by kernel_rfl) λx h=>z0 x.1 h
theorem ze (p:PP) (t:List Int) (h:Cb p/\short t):fnW Cf (look [(142,Px),(116,Fy),(143,Mk)]) Py Tryz.f125 (p,t,()) (λ(z:TT×Bool×Unit)=>z=(Ee p t,Dp p t,())):=by
 refine Eq.mp (zX p t _) ⟨_,if_pos h,⟨λhn=>?_,λhn=>?_⟩⟩
 ·have hn:=Db hn
  have hn: ¬Dp p t=true:=hn
  unfold Ee
  rw [if_neg hn,Bool.eq_false_iff.2 hn]
  rfl
 ·have hn:Dp p t=true:=Dr hn
  obtain ⟨h1,h2⟩:=aj.1 hn
  have h3:=sF (vS h1)
  have e:Ki p t=Fg p.2.2.1 t:=if_pos h1
  refine ⟨_,if_pos h.2,?_⟩
  show ∃y5:List (List Int),Mk.fn ((Ki p t).1,())=some y5/\ ∃y6:List Int,Fy.fn ((Ki p t).2.1,())=some y6/\((t,y5,y6,()),true,())=(Ee p t,Dp p t,())
  rw [e]
  refine ⟨_,if_pos h3.1,_,if_pos h3.2,?_⟩
  unfold Ee
  rw [if_pos hn,hn]
  rfl
theorem ni:Sound Tryz.prog 125 Py:=
 Sound.Cp Bg (Ae nh (Ae Qy (Ae mX Ai))) mixed Tryz.func125 (by kernel_rfl) (by kernel_rfl) λx h=>ze x.1 x.2.1 h
def jX (m:ByteArray->Option Bool) (L:List (List Int)):Prop:= ∀q,Nh q->(m (Ih q)).getD false=decide (q∈L)
theorem jX.add {m:ByteArray->Option Bool} {L:List (List Int)} {y:List Int} (h:jX m L) (hy:Nh y):jX (Tt m (Ih y) true) (L++ [y]):=by
 intro q hq
 unfold Tt
 by_cases e:q=y
 ·subst e
  rw [if_pos rfl];simp
 ·rw [if_neg λhk=>e (key_inj hq hy hk),h q hq]
  simp [e]
theorem DP (n:Int) (str:ByteArray) (g:List (List Int)) (t:List Int) (h:Dc (n,str,g,()) t=true):
  fnMW (SI [Tv+10]) (look [(138,Xb),(79,Cg),(106,Ix),(122,Kw),(80,Vn)]) Sm Tryz.f152 (n,str,g,t,()) (λ(z:(List (List Int)×List Int×Bool×Unit)×Unit)=>z=(((Ee (n,str,g,()) t).2.1,(Ee (n,str,g,()) t).2.2.1,Dp (n,str,g,()) t,()),())):=by
 obtain ⟨hv,_⟩:=Mm.1 h
 obtain ⟨ht,hr⟩:=Fk h
 have hV:=valid hv
 have kD:=hV.lP
 have hn:=hV.n
 dsimp only at kD hn hr
 have UO:=Zl (p:=(n,str,g,())) ht hr
 have AK:short t:=by unfold short;omega
 obtain ⟨ls,mP⟩: ∃ls,Au g.length=ls:=⟨_,rfl⟩
 have OV:ls.length<=16:=by rw [<-mP,Lf];omega
 have j6: ∀l∈ls,Hg (List.length g) l:= λl hl=>Kj (mP▸hl)
 have oM:Fq g ls 3001 0 [t] [0]=De g t:=by unfold De;rw [mP]
 have oB: ∀x:List Int,(∀y∈x,0<=y/\y<n)->Nh x:= λx hx y hy=>by have:=hx y hy;omega
 have Ae1: ∀L D ok,De g t=(L,D,ok)->(if ok=true then ((L,D,true,()),()) else ((([]:List (List Int)),([]:List Int),false,()),()))=(((Ee (n,str,g,()) t).2.1,(Ee (n,str,g,()) t).2.2.1,Dp (n,str,g,()) t,()),()):=by
  intro L D ok he
  have e1:Dp (n,str,g,()) t=ok:=by unfold Dp;rw [h,Bool.true_and];show (De g t).2.2=ok;rw [he]
  unfold Ee
  rw [e1]
  cases ok with
  |true=>rw [if_pos rfl,if_pos rfl];show ((L,D,true,()),())=(((De g t).1,(De g t).2.1,true,()),());rw [he]
  |false=>rw [if_neg (by decide),if_neg (by decide)]
 refine Eq.mp (FN n str g t _) ⟨_,if_pos AK,_,if_pos AK,ls,(if_pos ⟨by show (0:Int)<=((g.length:Nat):Int);omega,by show ((g.length:Nat):Int)<=8;omega⟩).trans (congrArg some (by show Au (((g.length:Nat):Int)).toNat=ls;rw [Int.toNat_natCast];exact mP)),rfl,rfl,rfl,rfl,rfl,rfl,?_⟩
 rw [Bl]
 refine Aj ls.length (λv=>v.1) (λj v=>v.2.1=n/\v.2.2.1=str/\v.2.2.2.1=g/\v.2.2.2.2.1=(ls.take j).map (Af g)/\v.2.2.2.2.2.1= [t]/\v.2.2.2.2.2.2.1= [0]/\jX v.2.2.2.2.2.2.2.1 [t]) rfl
  ⟨rfl,rfl,rfl,by simp,rfl,rfl,λq hq=>?_⟩ ?_
 ·show (Tt (λ_=>none) (Ih t) true (Ih q)).getD false=_
  unfold Tt
  by_cases e:q=t
  ·subst e;rw [if_pos rfl];simp
  ·rw [if_neg λhk=>e (key_inj hq (oB t hr) hk)];simp [e]
 rintro j ⟨i,n',Ag5,g',mv,L1,D1,m1,⟨⟩⟩ K hj hi ⟨h1,h2,h3,h4,h5,h6,h7⟩ hK
 dsimp only at hi h1 h2 h3 h4 h5 h6 h7⊢
 subst hi h1 h2 h3 h4 h5 h6
 refine Br.dec (λhl=>?_) λhl=>⟨rfl,rfl,rfl,rfl,rfl,rfl,?_⟩
 ·have hl:j<ls.length:=by omega
  have uU:=j6 _ (List.getElem_mem hl)
  refine ⟨_,An hl,_,if_pos ⟨uU,kD.2,hV.perm⟩,rfl,rfl,?_,rfl,rfl,rfl,rfl,rfl,rfl,?_⟩
  ·show (List.map (Af g') (List.take j ls)).length+1<=4294967296
   rw [List.length_map,List.length_take];omega
  ·rw [Ah (by omega)]
   refine hK hl _ rfl ⟨rfl,rfl,rfl,?_,rfl,rfl,h7⟩
   show List.map (Af g') (List.take j ls)++ [Af g' ls[j]]=_
   rw [List.take_add_one,List.getElem?_eq_getElem hl,List.map_append];rfl
 ·have:j=ls.length:=by omega
  subst this
  rw [List.take_length]
  obtain ⟨ms,GZ⟩: ∃ms,ls.map (Af g')=ms:=⟨_,rfl⟩
  have Aoj:ms.length=ls.length:=by rw [<-GZ,List.length_map]
  have Aju: ∀i (h:i<ls.length),ms[i]'(by omega)=Af g' ls[i]:= λi h=>by simp only [<-GZ,List.getElem_map]
  rw [GZ]
  refine Bm.mk (λv=>v.2.1=ms/\ ∃k:Nat,v.1=k/\k<=v.2.2.1.length/\Nf (n',Ag5,g',()) t.length v.2.2.1 v.2.2.2.1/\jX v.2.2.2.2.1 v.2.2.1/\Fq g' ls (3001-k) k v.2.2.1 v.2.2.2.1=De g' t) (λv=>3001-v.1.toNat)
   ⟨rfl,0,rfl,by simp,UO,h7,oM⟩ ?_
  rintro ⟨k',mv,L0,D0,mp,⟨⟩⟩ ⟨h1,k,h5,h6,h7,h8,h9⟩
  dsimp only at h1 h5 h6 h7 h8 h9
  subst h1 h5
  dsimp only
  have hL0:=h7.ok.lP
  have hD0:=h7.len
  refine Br.dec (λhl=>⟨rfl,rfl,rfl,rfl,rfl,rfl,rfl,rfl,?_⟩) λhl=>?_
  ·have hk:k<L0.length:=by omega
   have ye:k<D0.length:=by omega
   have hx: ∀y∈L0[k],0<=y/\y<n':=h7.row _ (List.getElem_mem hk)
   have PH:L0[k].length=t.length:=h7.ok.len _ (List.getElem_mem hk)
   have hdk:=h7.dep k ye
   obtain ⟨f,hf⟩: ∃f,3001-k=f+1:=⟨3000-k,by omega⟩
   have OO: ∀L' D' ok,Ej g' L0[k] D0[k] ls L0 D0=(L',D',ok)->De g' t=if ok=true then Fq g' ls f (k+1) L' D' else (L',D',false):=by
    intro L' D' ok he
    rw [<-h9,hf,Fq,if_pos hk,Oc hk,List.getD_eq_getElem?_getD,List.getElem?_eq_getElem ye]
    simp only [Option.getD_some]
    rw [he]
    cases ok<;>rfl
   refine Bm.mk (λv=>v.2.1=mv/\ ∃i:Nat,v.1=i/\i<=ls.length/\Nf (n',Ag5,g',()) t.length v.2.2.1 v.2.2.2.1/\jX v.2.2.2.2.1 v.2.2.1/\(∃A,v.2.2.1=L0++A)/\(∃A,v.2.2.2.1=D0++A)/\
     Ej g' L0[k] D0[k] (ls.drop i) v.2.2.1 v.2.2.2.1=Ej g' L0[k] D0[k] ls L0 D0) (λv=>ls.length-v.1.toNat)
    ⟨rfl,0,rfl,Nat.zero_le _,h7,h8,⟨[],by simp⟩,⟨[],by simp⟩,rfl⟩ ?_
   rintro ⟨i',mv',L,D,mp2,⟨⟩⟩ ⟨g1,i,g5,g6,g7,g8,⟨A,g9⟩,⟨A',UI⟩,mM⟩
   dsimp only at g1 g5 g6 g7 g8 g9 UI mM
   subst g1 g5
   dsimp only
   have hLf:=g7.ok.lP
   have TN:=g7.len
   refine Br.dec (λhli=>?_) λhli=>?_
   ·have hi:i<ls.length:=by omega
    have OS:k<L.length:=by rw [g9,List.length_append];omega
    have hLk:L[k]=L0[k]:=by simp only [g9];exact List.getElem_append_left hk
    have OR:k<D.length:=by rw [TN];exact OS
    have hDk:D[k]=D0[k]:=by simp only [UI];exact List.getElem_append_left ye
    have uU:=j6 _ (List.getElem_mem hi)
    obtain ⟨nl,nr⟩:=nE hV hx uU
    dsimp only at nl nr
    have IX:=eM hV uU
    dsimp only at IX
    rw [List.drop_eq_getElem_cons hi] at mM
    simp only [Ej] at mM
    have hyb:=oB _ nr
    refine ⟨⟨by omega,by omega⟩,Af g' ls[i],by rw [Int.toNat_natCast,Nat.zero_add,List.getElem?_eq_getElem (by omega),Aju i hi],⟨by omega,by omega⟩,L0[k],by rw [Int.toNat_natCast,Nat.zero_add,List.getElem?_eq_getElem OS,hLk],
     _,if_pos ⟨by show short L0[k];unfold short;omega,by show Ie (Af g' ls[i]).length L0[k];intro y hy;have:=hx y hy;omega⟩,?_⟩
    dsimp only
    rw [show Ca (Af g' ls[i]) L0[k]=Aa L0[k] (Af g' ls[i]) from rfl,Bl]
    generalize hyv:Aa L0[k] (Af g' ls[i])=yv at*
    refine ⟨_,if_pos (by show short yv;unfold short;rw [nl];omega),?_⟩
    dsimp only
    rw [g8 _ hyb]
    refine ⟨λVf=>?_,λVf=>⟨rfl,rfl,rfl,rfl,rfl,rfl,rfl,rfl,?_⟩⟩
    ·have Vf:yv∉L:=by simpa using Vf
     rw [if_neg Vf] at mM
     refine ⟨λRj=>?_,λRj=>⟨rfl,rfl,by show L.length+1<=4294967296;omega,⟨by omega,by omega⟩,D0[k],by rw [Int.toNat_natCast,Nat.zero_add,List.getElem?_eq_getElem OR,hDk],rfl,rfl,by show D.length+1<=4294967296;omega,rfl,rfl,rfl,rfl,rfl,rfl,rfl,rfl,?_⟩⟩
     ·have Rj:L.length=3000:=by
       have:(L.length:Int)=3000:=by simpa using Rj
       omega
      rw [if_pos Rj] at mM
      have:=OO _ _ _ mM.symm
      rw [if_neg (by decide)] at this
      have:=Ae1 _ _ _ this
      rw [if_neg (by decide)] at this
      exact this
     ·have Rj:L.length≠3000:=by
       have:(L.length:Int)≠3000:=by simpa using Rj
       omega
      rw [if_neg Rj] at mM
      rw [Cl (n:=D0[k]+1) (by omega) (by omega),Ah (by omega)]
      refine ⟨⟨rfl,i+1,rfl,hi,g7.add Vf (by rw [nl,PH]) (by omega) nr ⟨by omega,by omega⟩,g8.add hyb,⟨A++ [yv],by rw [g9,List.append_assoc];rfl⟩,⟨A'++ [D0[k]+1],by rw [UI,List.append_assoc];rfl⟩,mM⟩,by omega⟩
    ·have Vf:yv∈L:=by simpa using Vf
     rw [if_pos Vf] at mM
     rw [Ah (by omega)]
     exact ⟨⟨rfl,i+1,rfl,hi,g7,g8,⟨A,g9⟩,⟨A',UI⟩,mM⟩,by omega⟩
   ·have:i=ls.length:=by omega
    subst this
    rw [List.drop_length,Ej] at mM
    have:=OO _ _ _ mM.symm
    rw [if_pos rfl] at this
    rw [Ah (by omega)]
    refine ⟨rfl,rfl,rfl,rfl,rfl,rfl,⟨rfl,k+1,rfl,by rw [g9,List.length_append];omega,g7,g8,?_⟩,by omega⟩
    rw [show 3001-(k+1)=f by omega]
    exact this.symm
  ·have hk:k=L0.length:=by omega
   rw [Bl L0,Bl D0]
   obtain ⟨f,hf⟩: ∃f,3001-k=f+1:=⟨3000-k,by omega⟩
   rw [hf,Fq,if_neg (by omega)] at h9
   have:=Ae1 _ _ _ h9.symm
   rw [if_pos rfl] at this
   exact this
theorem q8:Bj Tryz.prog 152 Sm:=
 Bj.nD (SJ [Tv+10]) (Ft jC (Ae Ml (Ae Zg (Ae dZ (Ft rZ Ai))))) mixed Tryz.func152 (by kernel_rfl) (by kernel_rfl) λx h=>DP x.1 x.2.1 x.2.2.1 x.2.2.2.1 h
theorem o3 {p:PP} {t:List Int} (h: ¬Dp p t=true):Ee p t=([],[],[],()):=if_neg h
theorem DR (n:Int) (str:ByteArray) (g:List (List Int)) (t:List Int) (h:Cb (n,str,g,())/\short t):
  fnMW lF (look [(151,Ez),(152,Sm)]) So Tryz.f137 (n,str,g,t,()) (λ(z:(List (List Int)×List Int×Bool×Unit)×Unit)=>z=(((Ee (n,str,g,()) t).2.1,(Ee (n,str,g,()) t).2.2.1,Dp (n,str,g,()) t,()),())):=by
 refine Eq.mp (FP n str g t _) ⟨_,if_pos h,⟨λhn=>?_,λhn=>?_⟩⟩
 ·have hn: ¬Dc (n,str,g,()) t=true:=Db hn
  have e: ¬Dp (n,str,g,()) t=true:= λhh=>hn (aj.1 hh).1
  rw [o3 e,Bool.eq_false_iff.2 e]
  rfl
 ·have hn:Dc (n,str,g,()) t=true:=Dr hn
  refine ⟨_,if_pos hn,?_⟩
  rw [Bl,Bl]
theorem qa:Bj Tryz.prog 137 So:=
 Bj.nD im (Ae jE (Ft q8 Ai)) mixed Tryz.func137 (by kernel_rfl) (by kernel_rfl) λx h=>DR x.1 x.2.1 x.2.2.1 x.2.2.2.1 h
theorem z8 (n:Int) (str:ByteArray) (g:List (List Int)) (t:List Int) (h:Cb (n,str,g,())/\short t):
  fnMW lF (look [(137,So),(138,Xb)]) Pu Tryz.f113 (n,str,g,t,()) (λ(z:(List Int×List (List Int)×List Int×Bool×Unit)×Unit)=>z=(((Ee (n,str,g,()) t).1,(Ee (n,str,g,()) t).2.1,(Ee (n,str,g,()) t).2.2.1,Dp (n,str,g,()) t,()),())):=by
 refine Eq.mp (zR n str g t _) ⟨_,if_pos h,⟨λhn=>?_,λhn=>?_⟩⟩
 ·have e: ¬Dp (n,str,g,()) t=true:=Db hn
  rw [o3 e,Bool.eq_false_iff.2 e]
  rfl
 ·have e:Dp (n,str,g,()) t=true:=Dr hn
  refine ⟨_,if_pos h.2,?_⟩
  rw [Bl,Bl,Bl,e]
  have e2:(Ee (n,str,g,()) t).1=t:=by unfold Ee;rw [if_pos e]
  rw [e2]
theorem mZ:Bj Tryz.prog 113 Pu:=
 Bj.nD im (Ft qa (Ft jC Ai)) mixed Tryz.func113 (by kernel_rfl) (by kernel_rfl) λx h=>z8 x.1 x.2.1 x.2.2.1 x.2.2.2.1 h
theorem vM (p:PP) (t:TT) (h:Cb p/\Kx t):fnW Cf (look [(113,Pu),(114,Ev)]) Lb Tryz.f87 (p,t,()) (λ(z:Bool)=>z=Dq p t):=by
 refine Eq.mp (wS p t _) ⟨_,if_pos ⟨h.1,h.2.1⟩,⟨λhn=>?_,λhn=>?_⟩⟩
 ·have e:Dp p t.1=true:=hn
  rw [Bl,Bl,Bl]
  refine ⟨_,if_pos lL,?_⟩
  unfold Dq
  rw [e];rfl
 ·have e:Dp p t.1=false:=hn
  unfold Dq
  rw [e];rfl
theorem lr:Sound Tryz.prog 87 Lb:=
 Sound.Cp Bg (Ft mZ (Ae fo Ai)) mixed Tryz.func87 (by kernel_rfl) (by kernel_rfl) λx h=>vM x.1 x.2.1 h
theorem vQ (p:PP) (t:TT) (h:Cb p/\Kx t):fnW Cf (look [(125,Py),(126,Ev)]) Lb Tryz.f94 (p,t,()) (λ(z:Bool)=>z=Dq p t):=by
 refine Eq.mp (wW p t _) ⟨_,if_pos ⟨h.1,h.2.1⟩,⟨λhn=>?_,λhn=>?_⟩⟩
 ·have e:Dp p t.1=true:=hn
  refine ⟨_,if_pos lL,?_⟩
  unfold Dq
  rw [e];rfl
 ·have e:Dp p t.1=false:=hn
  unfold Dq
  rw [e];rfl
theorem lu:Sound Tryz.prog 94 Lb:=
 Sound.Cp Bg (Ae ni (Ae fu Ai)) mixed Tryz.func94 (by kernel_rfl) (by kernel_rfl) λx h=>vQ x.1 x.2.1 h
theorem Afz (t:TT) (p:PP) (h:Kx t/\Cb p):fnW Cf (look [(87,Lb)]) tZ Tryz.f86 (t,p,()) (λ(z:Bool)=>z=!Dq p t):=by
 exact Eq.mp (Ago t p _) ⟨_,if_pos ⟨h.2,h.1⟩,rfl⟩
theorem LP:Sound Tryz.prog 86 tZ:=
 Sound.Cp Bg (Ae lr Ai) mixed Tryz.func86 (by kernel_rfl) (by kernel_rfl) λx h=>Afz x.1 x.2.1 h
theorem Abn (ts:List TT) (c:PP×Unit) (h:Gr ts/\Cb c.1):fnW Cf (look [(86,tZ)]) l9 Tryz.f112 (ts,c,()) (λ(z:Int)=>z=Mg (λt=>!Dq c.1 t) ts 0):=by
 obtain ⟨⟨h1,h2⟩,h3⟩:=h
 refine Eq.mp (Acf ts c _) ?_
 refine Aj ts.length (λv=>v.1) (λj _=>Mg (λt=>!Dq c.1 t) (ts.drop j) j=Mg (λt=>!Dq c.1 t) ts 0) rfl (by simp) ?_
 rintro j ⟨i,⟨⟩⟩ K hj hi hR hK
 dsimp only at hi⊢
 subst hi
 refine Br.dec (λhl=>?_) λhl=>?_
 ·have hl:j<ts.length:=by omega
  rw [List.drop_eq_getElem_cons hl] at hR
  simp only [Mg] at hR
  refine ⟨_,An hl,_,if_pos ⟨h2 _ (List.getElem_mem hl),h3⟩,⟨λhe=>?_,λhe=>?_⟩⟩
  ·have he:(!Dq c.1 ts[j])=true:=he
   rw [if_pos he] at hR
   exact hR
  ·have he:(!Dq c.1 ts[j])=false:=he
   rw [if_neg (by rw [he];decide)] at hR
   rw [Ah (by omega)]
   exact hK hl _ rfl (by push_cast;exact hR)
 ·have:j=ts.length:=by omega
  subst this
  rw [List.drop_length] at hR
  exact hR
theorem EU:Sound Tryz.prog 112 l9:=
 Sound.Cp Bg (Ae LP Ai) mixed Tryz.func112 (by kernel_rfl) (by kernel_rfl) λx h=>Abn x.1 x.2.1 h
theorem oQ (q:TT->Bool): ∀(ts:List TT) (k:Int),0<=k->decide (Mg q ts k>=0)=ts.any q
 | [],k,_=>by simp [Mg]
 |t::ts,k,hk=>by
  have ih:=oQ q ts (k+1) (by omega)
  rw [List.any_cons]
  by_cases e:q t=true
  ·have e2:Mg q (t::ts) k=k:=if_pos e
   rw [e]
   exact decide_eq_true (by rw [e2];exact hk)
  ·have e2:Mg q (t::ts) k=Mg q ts (k+1):=if_neg e
   rw [Bool.eq_false_iff.2 e,Bool.false_or,<-ih]
   exact decide_eq_decide.2 (by rw [e2])
theorem Abh (ts:List TT) (c:PP×Unit) (h:Gr ts/\Cb c.1):fnW Cf (look [(112,l9)]) l4 Tryz.f85 (ts,c,()) (λ(z:Bool)=>z=List.any ts (λt=>!Dq c.1 t)):=by
 exact Eq.mp (Ac8 ts c _) ⟨_,if_pos h,oQ _ ts 0 (Int.le_refl 0)⟩
theorem EO:Sound Tryz.prog 85 l4:=
 Sound.Cp Bg (Ae EU Ai) mixed Tryz.func85 (by kernel_rfl) (by kernel_rfl) λx h=>Abh x.1 x.2.1 h
theorem xl (q:TT->Bool) (ts:List TT):(!List.any ts λt=>!q t)=List.all ts q:=by
 induction ts with
 |nil=>rfl
 |cons t ts ih=>simp only [List.any_cons,List.all_cons,<-ih];cases q t<;>simp
theorem pw (p:PP) (ts:List TT) (h:Cb p/\Gr ts):fnW Cf (look [(84,Dl),(85,l4)]) He Tryz.f63 (p,ts,()) (λ(z:Bool)=>z=Dk p ts):=by
 refine Eq.mp (qE p ts _) ⟨_,if_pos h.1,⟨λhv=>Br.dec (λhl=>⟨_,if_pos ⟨h.2,h.1⟩,?_⟩) λhl=>?_,λhv=>?_⟩⟩
 ·have hv:Ax p=true:=hv
  have hl:ts.length<=4:=by omega
  show (!List.any ts λt=>!Dq p t)=_
  rw [xl]
  unfold Dk
  rw [hv,decide_eq_true hl];rfl
 ·unfold Dk
  rw [decide_eq_false (by omega),Bool.and_false];rfl
 ·have hv:Ax p=false:=hv
  unfold Dk
  rw [hv];rfl
theorem ig:Sound Tryz.prog 63 He:=
 Sound.Cp Bg (Ae Sq (Ae EO Ai)) mixed Tryz.func63 (by kernel_rfl) (by kernel_rfl) λx h=>pw x.1 x.2.1 h
theorem px (p:PP) (ts:List TT) (h:Cb p/\Gr ts):fnW Cf (look [(93,Dl),(94,Lb)]) He Tryz.f72 (p,ts,()) (λ(z:Bool)=>z=Dk p ts):=by
 refine Eq.mp (qF p ts _) ⟨_,if_pos h.1,⟨λhv=>?_,λhv=>Br.dec (λhl=>?_) λhl=>?_⟩⟩
 ·have hv:Ax p=false:=Bool.eq_false_iff.2 (Db hv)
  unfold Dk
  rw [hv];rfl
 ·unfold Dk
  rw [decide_eq_false (by omega),Bool.and_false];rfl
 ·have hv:Ax p=true:=Dr hv
  have hl:ts.length<=4:=by omega
  have e:Dk p ts=List.all ts (Dq p):=by
   unfold Dk
   rw [hv,decide_eq_true hl];rfl
  rw [e]
  refine Aj ts.length (λv=>v.1) (λj v=>v.2.1=p.1/\v.2.2.1=p.2.1/\v.2.2.2.1=p.2.2.1/\List.all (ts.drop j) (Dq p)=List.all ts (Dq p)) rfl ⟨rfl,rfl,rfl,by simp⟩ ?_
  rintro j ⟨i,n1,n2,n3,⟨⟩⟩ K hj hi ⟨h1,h2,h3,hR⟩ hK
  dsimp only at hi h1 h2 h3 hR⊢
  subst hi h1 h2 h3
  refine Br.dec (λhl=>?_) λhl=>?_
  ·have hl:j<ts.length:=by omega
   rw [List.drop_eq_getElem_cons hl,List.all_cons] at hR
   refine ⟨_,An hl,_,if_pos ⟨h.1,h.2.2 _ (List.getElem_mem hl)⟩,⟨λhe=>?_,λhe=>?_⟩⟩
   ·have he:Dq p ts[j]=false:=Bool.eq_false_iff.2 (Db he)
    rw [he,Bool.false_and] at hR
    exact hR
   ·have he:Dq p ts[j]=true:=Dr he
    rw [he,Bool.true_and] at hR
    rw [Ah (by omega)]
    exact hK hl _ rfl ⟨rfl,rfl,rfl,hR⟩
  ·have:j=ts.length:=by omega
   subst this
   rw [List.drop_length] at hR
   exact hR
theorem ij:Sound Tryz.prog 72 He:=
 Sound.Cp Bg (Ae Nd (Ae lu Ai)) mixed Tryz.func72 (by kernel_rfl) (by kernel_rfl) λx h=>px x.1 x.2.1 h
theorem Abt (ts:List TT) (k:Int) (h:Gr ts/\roomy k):fnW Cf (look [(46,Vq)]) lf Tryz.f14 (ts,k,()) (λ(z:Int)=>z=CV ts k):=by
 obtain ⟨⟨h1,h2⟩,h3,h4⟩:=h
 refine Eq.mp (Acl ts k _) ?_
 rw [Cl (by omega) (by omega)]
 refine Br.dec (λhn=>?_) λhn=>?_
 ·exact (if_pos hn).symm
 ·have e:CV ts k=lA ts (k-ts.length):=if_neg hn
  rw [e]
  refine Aj ts.length (λv=>v.2.1) (λj v=>roomy v.1/\lA (ts.drop j) v.1=lA ts (k-ts.length)) rfl ⟨⟨by omega,by omega⟩,by simp⟩ ?_
  rintro j ⟨r,i,⟨⟩⟩ K hj hi ⟨hr,hR⟩ hK
  dsimp only at hi hr hR⊢
  subst hi
  refine Br.dec (λhl=>?_) λhl=>?_
  ·have hl:j<ts.length:=by omega
   rw [List.drop_eq_getElem_cons hl] at hR
   simp only [lA] at hR
   refine ⟨_,An hl,_,if_pos ⟨h2 _ (List.getElem_mem hl),hr⟩,Br.dec (λhm=>?_) λhm=>?_⟩
   ·have hm:Mw ts[j] r<0:=hm
    rw [if_pos hm] at hR
    exact hR
   ·have hm: ¬Mw ts[j] r<0:=hm
    rw [if_neg hm] at hR
    rw [Ah (by omega)]
    exact hK hl _ rfl ⟨p7 hr hm,hR⟩
  ·have:j=ts.length:=by omega
   subst this
   rw [List.drop_length] at hR
   exact hR
theorem EY:Sound Tryz.prog 14 lf:=
 Sound.Cp Bg (Ae sd Ai) mixed Tryz.func14 (by kernel_rfl) (by kernel_rfl) λx h=>Abt x.1 x.2.1 h
theorem Abv (ts:List TT) (h:Gr ts):fnW Cf (look [(50,Vr)]) dW Tryz.f17 (ts,()) (λ(z:List TT)=>z=ts):=by
 obtain ⟨h,h4⟩:=h
 refine Eq.mp (Acn ts _) ?_
 refine ⟨⟨by omega,by show (ts.length:Int)<(4294967296:Int)+1;omega⟩,rfl,rfl,rfl,?_⟩
 refine Aj ts.length (λv=>v.1) (λj v=>v.2.1.length=ts.length/\v.2.1.take j=ts.take j) rfl ⟨by simp,by simp⟩ ?_
 rintro j ⟨i,ys,⟨⟩⟩ K hj hi ⟨h1,h2⟩ hK
 dsimp only at hi h1 h2⊢
 subst hi
 refine Br.dec (λhl=>?_) λhl=>?_
 ·have hl:j<ts.length:=by omega
  refine ⟨_,An hl,_,if_pos (h4 _ (List.getElem_mem hl)),⟨by omega,by omega⟩,by rw [Int.toNat_natCast];omega,rfl,by rw [List.length_set],?_⟩
  rw [Ah (by omega),Int.toNat_natCast,Nat.zero_add]
  exact hK hl _ rfl ⟨by rw [List.length_set];exact h1,Lk hl h1 h2⟩
 ·have:j=ts.length:=by omega
  subst this
  rw [List.take_length,<-h1,List.take_length] at h2
  rw [List.drop_zero,List.take_length]
  exact h2
theorem EZ:Sound Tryz.prog 17 dW:=
 Sound.Cp Bg (Ae se Ai) mixed Tryz.func17 (by kernel_rfl) (by kernel_rfl) λx h=>Abv x.1 h
theorem kI {a b:TT} :Kh a b=true↔a=b:=by
 obtain ⟨a1,a2,a3,⟨⟩⟩:=a
 obtain ⟨b1,b2,b3,⟨⟩⟩:=b
 simp [Kh]
theorem Abk (a b:List TT) (h:Gr a):fnW Cf (look [(54,Ev)]) l6 Tryz.f21 (a,b,()) (λ(z:Bool)=>z=decide (a=b)):=by
 obtain ⟨h1,h2⟩:=h
 refine Eq.mp (Acb a b _) ⟨λhl=>?_,λhl=>?_⟩
 ·have hl:a.length≠b.length:=by
   have:(a.length:Int)≠b.length:=by simpa using hl
   omega
  exact (decide_eq_false λe=>hl (by rw [e])).symm
 ·have hl:a.length=b.length:=by
   have:(a.length:Int)=b.length:=by simpa using hl
   omega
  refine Aj a.length (λv=>v.1) (λj _=>(a=b↔a.drop j=b.drop j)) rfl (by simp) ?_
  rintro j ⟨i,⟨⟩⟩ K hj hi hR hK
  dsimp only at hi⊢
  subst hi
  refine Br.dec (λhla=>?_) λhla=>?_
  ·have hla:j<a.length:=by omega
   have hlb:j<b.length:=by omega
   rw [List.drop_eq_getElem_cons hla,List.drop_eq_getElem_cons hlb] at hR
   refine ⟨_,An hla,_,An hlb,_,if_pos (h2 _ (List.getElem_mem hla)),⟨λhe=>?_,λhe=>?_⟩⟩
   ·have he: ¬Kh a[j] b[j]=true:=Db he
    refine (decide_eq_false λe=>he (kI.2 ?_)).symm
    have:=hR.1 e
    simp only [List.cons.injEq] at this
    exact this.1
   ·have he:Kh a[j] b[j]=true:=Dr he
    rw [kI.1 he] at hR
    rw [Ah (by omega)]
    exact hK hla _ rfl (hR.trans ⟨λe=>(List.cons.inj e).2,λe=>by rw [e]⟩)
  ·have:j=a.length:=by omega
   subst this
   rw [List.drop_length,hl,List.drop_length] at hR
   exact (decide_eq_true (hR.2 rfl)).symm
theorem ER:Sound Tryz.prog 21 l6:=
 Sound.Cp Bg (Ae rT Ai) mixed Tryz.func21 (by kernel_rfl) (by kernel_rfl) λx h=>Abk x.1 x.2.1 h
end Go.Proofs.YtfolipnappekaaaGreat
