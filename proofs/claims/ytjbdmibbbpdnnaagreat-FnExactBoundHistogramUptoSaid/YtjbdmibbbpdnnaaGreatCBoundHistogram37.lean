/-
  Part 38 of the proof that the statement FnExactBoundHistogram holds.
-/
import Derived.Test.YtjbdmibbbpdnnaaGreatCBoundHistogram36
import Derived.KernelRfl
namespace Go.Proofs.YtjbdmibbbpdnnaaGreat
open Go.RowKit
def Hg (x a b:Int):Bool:=decide (a<=x/\x<=b)
def dO (n x:Int):Bool:=decide (0<=x/\x<=IntKind.i64.wrap (n-1))
def Au (a b:List Int):Bool:=decide (a=b)
def eH (xs:List Int) (x:Int):Bool:=decide (x∈xs)
def short (xs:List Int):Prop:=xs.length<=4294967296
noncomputable abbrev Bp:Spec:=Cv (.pair tI (.pair tI (.pair tI .unit))) .bool false true (λ_=>True) (λx=>Hg x.1 x.2.1 x.2.2.1)
noncomputable abbrev Uj:Spec:=Cv (.pair tI (.pair tI .unit)) .bool false true (λ_=>True) (λx=>dO x.1 x.2.1)
noncomputable abbrev An:Spec:=Cv (.pair tL (.pair tL .unit)) .bool false true (λx=>short x.1) (λx=>Au x.1 x.2.1)
noncomputable abbrev Kp:Spec:=Cv (.pair tL (.pair tI .unit)) .bool false true (λx=>short x.1) (λx=>eH x.1 x.2.1)
theorem GZ (x a b:Int) (P:Bool->Prop):(Br (decide (x>=a)) (P (decide (x<=b))) (P false))=fnW Cl (look []) Bp Tryz.f73 (x,a,b,()) P:=by kernel_rfl
theorem MS (x a b:Int) (P:Bool->Prop):(Br (decide (x>=a)) (P (decide (x<=b))) (P false))=fnW Cl (look []) Bp Tryz.f39 (x,a,b,()) P:=by kernel_rfl
theorem HC (n x:Int) (P:Bool->Prop):(∃(y3:Bool),Bp.fn (x,0,IntKind.i64.wrap (n-1),())=some y3/\P y3)=fnW Cl (look [(39,Bp)]) Uj Tryz.f103 (n,x,()) P:=by kernel_rfl
theorem xM (a b:List Int) (P:Bool->Prop):(Br ((↑a.length:Int) !=(↑b.length:Int)) (P false) (Bi (λ(v3:Int×PUnit) (k4:Int×PUnit->Prop)=>Br (decide (v3.1<(↑a.length:Int))) (∃(y5:Int),idx a v3.1=some y5/\ ∃(y6:Int),idx b v3.1=some y6/\Br (y5 !=y6) (P false) (k4 (IntKind.i64.wrap (v3.1+1),()))) (P true)) (0,PUnit.unit)))=fnW Cl (look []) An Tryz.f77 (a,b,()) P:=by kernel_rfl
theorem qj (a b:List Int) (P:Bool->Prop):(Br ((↑a.length:Int) !=(↑b.length:Int)) (P false) (Bi (λ(v3:Int×PUnit) (k4:Int×PUnit->Prop)=>Br (decide (v3.1<(↑a.length:Int))) (∃(y5:Int),idx a v3.1=some y5/\ ∃(y6:Int),idx b v3.1=some y6/\Br (y5 !=y6) (P false) (k4 (IntKind.i64.wrap (v3.1+1),()))) (P true)) (0,PUnit.unit)))=fnW Cl (look []) An Tryz.f89 (a,b,()) P:=by kernel_rfl
theorem qe (xs:List Int) (x:Int) (P:Bool->Prop):(Bi (λ(v3:Int×PUnit) (k4:Int×PUnit->Prop)=>Br (decide (v3.1<(↑xs.length:Int))) (∃(y5:Int),idx xs v3.1=some y5/\Br (y5==x) (P true) (k4 (IntKind.i64.wrap (v3.1+1),()))) (P false)) (0,PUnit.unit))=fnW Cl (look []) Kp Tryz.f91 (xs,x,()) P:=by kernel_rfl
theorem FA (x a b:Int) (_:True):fnW Cl (look []) Bp Tryz.f73 (x,a,b,()) (λ(z:Bool)=>z=Hg x a b):=by
 refine Eq.mp (GZ x a b _) ?_
 refine Br.dec (λh=>?_) λh=>?_
 ·have h:a<=x:=h
  simp [Hg,h]
 ·exact (decide_eq_false λhh=>h hh.1).symm
theorem Xv:Sound Tryz.prog 73 Bp:=
 Sound.Cv Bk Ak mixed Tryz.func73 (by kernel_rfl) (by kernel_rfl) λx h=>FA x.1 x.2.1 x.2.2.1 h
theorem LG (x a b:Int) (_:True):fnW Cl (look []) Bp Tryz.f39 (x,a,b,()) (λ(z:Bool)=>z=Hg x a b):=by
 refine Eq.mp (MS x a b _) ?_
 refine Br.dec (λh=>?_) λh=>?_
 ·have h:a<=x:=h
  simp [Hg,h]
 ·exact (decide_eq_false λhh=>h hh.1).symm
theorem Pv:Sound Tryz.prog 39 Bp:=
 Sound.Cv Bk Ak mixed Tryz.func39 (by kernel_rfl) (by kernel_rfl) λx h=>LG x.1 x.2.1 x.2.2.1 h
theorem FC (n x:Int) (_:True):fnW Cl (look [(39,Bp)]) Uj Tryz.f103 (n,x,()) (λ(z:Bool)=>z=dO n x):=
 Eq.mp (HC n x _) ⟨_,if_pos trivial,rfl⟩
theorem pV:Sound Tryz.prog 103 Uj:=
 Sound.Cv Bk (Ae Pv Ak) mixed Tryz.func103 (by kernel_rfl) (by kernel_rfl) λx h=>FC x.1 x.2.1 h
theorem pE (xs:List Int) (x:Int) (h:short xs):fnW Cl (look []) Kp Tryz.f91 (xs,x,()) (λ(z:Bool)=>z=eH xs x):=by
 refine Eq.mp (qe xs x _) ?_
 unfold short at h
 refine Ag xs.length (λv=>v.1) (λj _=>x∉xs.take j) rfl (by simp) ?_
 rintro j ⟨i,⟨⟩⟩ K hj hi hR hK
 dsimp only at hi⊢
 subst hi
 refine Br.dec (λhl=>?_) λhl=>?_
 ·have hl:j<xs.length:=by omega
  refine ⟨_,Am hl,⟨λhe=>?_,λhe=>?_⟩⟩
  ·have hm:=List.getElem_mem hl
   simp only [beq_iff_eq] at he
   rw [he] at hm
   exact (decide_eq_true hm).symm
  ·rw [Ah (by omega)]
   refine hK hl _ rfl ?_
   simp only [beq_eq_false_iff_ne,ne_eq] at he
   rw [List.take_succ_eq_append_getElem hl]
   simp only [List.mem_append,List.mem_singleton,not_or]
   exact ⟨hR,λhx=>he hx.symm⟩
 ·have:j=xs.length:=by omega
  subst this
  rw [List.take_length] at hR
  exact (decide_eq_false hR).symm
theorem iC:Sound Tryz.prog 91 Kp:=
 Sound.Cv Bk Ak mixed Tryz.func91 (by kernel_rfl) (by kernel_rfl) λx h=>pE x.1 x.2.1 h
theorem sn (a b:List Int) (hlen:a.length=b.length) (h:short a):
  Bi (λ(v3:Int×PUnit) (k4:Int×PUnit->Prop)=>
   Br (decide (v3.1<(↑a.length:Int))) (∃(y5:Int),idx a v3.1=some y5/\ ∃(y6:Int),idx b v3.1=some y6/\Br (y5 !=y6) (false=Au a b) (k4 (IntKind.i64.wrap (v3.1+1),())))
    (true=Au a b))
  (0,PUnit.unit):=by
 unfold short at h
 refine Ag a.length (λv=>v.1) (λj _=>a.take j=b.take j) rfl (by simp) ?_
 rintro j ⟨i,⟨⟩⟩ K hj hi hR hK
 dsimp only at hi⊢
 subst hi
 refine Br.dec (λhl=>?_) λhl=>?_
 ·have dJ:j<a.length:=by omega
  have uI:j<b.length:=by omega
  refine ⟨_,Am dJ,_,Am uI,⟨λhe=>?_,λhe=>?_⟩⟩
  ·simp only [bne_iff_ne,ne_eq] at he
   refine (decide_eq_false λfD=>he ?_).symm
   subst fD
   rfl
  ·rw [Ah (by omega)]
   refine hK dJ _ rfl ?_
   simp only [bne_eq_false_iff_eq] at he
   rw [List.take_succ_eq_append_getElem dJ,List.take_succ_eq_append_getElem uI,hR,he]
 ·have lW:j=a.length:=by omega
  subst lW
  rw [List.take_length,hlen,List.take_length] at hR
  exact (decide_eq_true hR).symm
theorem wU (a b:List Int) (h:short a):fnW Cl (look []) An Tryz.f77 (a,b,()) (λ(z:Bool)=>z=Au a b):=by
 refine Eq.mp (xM a b _) ⟨λhl=>?_,λhl=>?_⟩
 ·simp only [bne_iff_ne,ne_eq,Int.natCast_inj] at hl
  exact (decide_eq_false λfD=>hl (by rw [fD])).symm
 ·simp only [bne_eq_false_iff_eq,Int.natCast_inj] at hl
  exact sn a b hl h
theorem Sz:Sound Tryz.prog 77 An:=
 Sound.Cv Bk Ak mixed Tryz.func77 (by kernel_rfl) (by kernel_rfl) λx h=>wU x.1 x.2.1 h
theorem pJ (a b:List Int) (h:short a):fnW Cl (look []) An Tryz.f89 (a,b,()) (λ(z:Bool)=>z=Au a b):=by
 refine Eq.mp (qj a b _) ⟨λhl=>?_,λhl=>?_⟩
 ·simp only [bne_iff_ne,ne_eq,Int.natCast_inj] at hl
  exact (decide_eq_false λfD=>hl (by rw [fD])).symm
 ·simp only [bne_eq_false_iff_eq,Int.natCast_inj] at hl
  exact sn a b hl h
theorem Wx:Sound Tryz.prog 89 An:=
 Sound.Cv Bk Ak mixed Tryz.func89 (by kernel_rfl) (by kernel_rfl) λx h=>pJ x.1 x.2.1 h
end Go.Proofs.YtjbdmibbbpdnnaaGreat

namespace Go.Proofs.YtjbdmibbbpdnnaaGreat
open Go.RowKit
abbrev TT:Type:=List Int×List (List Int)×List Int×Unit
def Dx (xs:List (List Int)):Prop:=xs.length<=4294967296/\ ∀r∈xs,short r
def Iv (t:TT):Prop:=short t.1/\Dx t.2.1/\short t.2.2.1
def roomy (room:Int):Prop:=0<=room/\room<=4294967296
def js (n:Nat) (room:Int):Int:=if room-n<0 then-1 else room-n
def Pf (xs:List Int) (room:Int):Int:=js xs.length room
def oG:List (List Int)->Int->Int
 | [],room=>room
 |r::rs,room=>if Pf r room<0 then-1 else oG rs (Pf r room)
def Ku (xs:List (List Int)) (room:Int):Int:=if js xs.length room<0 then-1 else oG xs (js xs.length room)
def Hi (t:TT) (room:Int):Int:=
 if Pf t.1 room<0 then-1 else if Ku t.2.1 (Pf t.1 room)<0 then-1 else
 if Pf t.2.2.1 (Ku t.2.1 (Pf t.1 room))<0 then-1 else Pf t.2.2.1 (Ku t.2.1 (Pf t.1 room))
def Lj (a b:List (List Int)):Bool:=decide (a=b)
def Js (a b:TT):Bool:=decide (a.1=b.1)&&(decide (a.2.1=b.2.1)&&decide (a.2.2.1=b.2.2.1))
noncomputable abbrev eM:Spec:=Cv (.pair tL (.pair tI .unit)) tI false true (λx=>short x.1/\roomy x.2.1) (λx=>Pf x.1 x.2.1)
noncomputable abbrev aN:Spec:=Cv (.pair Zp (.pair tI .unit)) tI false true (λx=>Dx x.1/\roomy x.2.1) (λx=>Ku x.1 x.2.1)
noncomputable abbrev Un:Spec:=Cv (.pair Gl (.pair tI .unit)) tI false true (λx=>Iv x.1/\roomy x.2.1) (λx=>Hi x.1 x.2.1)
noncomputable abbrev eN:Spec:=Cv (.pair tL .unit) tL false true (λx=>short x.1) (λx=>x.1)
noncomputable abbrev aO:Spec:=Cv (.pair Zp .unit) Zp false true (λx=>Dx x.1) (λx=>x.1)
noncomputable abbrev Uo:Spec:=Cv (.pair Gl .unit) Gl false true (λx=>Iv x.1) (λx=>x.1)
noncomputable abbrev Nr:Spec:=Cv (.pair Zp (.pair Zp .unit)) .bool false true (λx=>Dx x.1) (λx=>Lj x.1 x.2.1)
noncomputable abbrev Er:Spec:=Cv (.pair Gl (.pair Gl .unit)) .bool false true (λx=>Iv x.1) (λx=>Js x.1 x.2.1)
theorem Abx (xs:List Int) (room:Int) (P:Int->Prop):(Br (decide (IntKind.i64.wrap (room-(↑xs.length:Int))<0)) (P (-1)) (P (IntKind.i64.wrap (room-(↑xs.length:Int)))))=fnW Cl (look []) eM Tryz.f32 (xs,room,()) P:=by kernel_rfl
theorem WZ (xs:List (List Int)) (room:Int) (P:Int->Prop):(Br (decide (IntKind.i64.wrap (room-(↑xs.length:Int))<0)) (P (-1)) (Bi (λ(v3:Int×Int×PUnit) (k4:Int×Int×PUnit->Prop)=>Br (decide (v3.2.1<(↑xs.length:Int))) (∃(y5:List Int),idx xs v3.2.1=some y5/\ ∃(y6:Int),eM.fn (y5,v3.1,())=some y6/\Br (decide (y6<0)) (P (-1)) (k4 (y6,IntKind.i64.wrap (v3.2.1+1),()))) (P v3.1)) (IntKind.i64.wrap (room-(↑xs.length:Int)),0,PUnit.unit)))=fnW Cl (look [(32,eM)]) aN Tryz.f17 (xs,room,()) P:=by kernel_rfl
theorem HJ (t:List Int×List (List Int)×List Int×Unit) (room:Int) (P:Int->Prop):(∃(y3:Int),eM.fn (t.1,room,())=some y3/\Br (decide (y3<0)) (P (-1)) (∃(y4:Int),aN.fn (t.2.1,y3,())=some y4/\Br (decide (y4<0)) (P (-1)) (∃(y5:Int),eM.fn (t.2.2.1,y4,())=some y5/\Br (decide (y5<0)) (P (-1)) (P y5))))=fnW Cl (look [(32,eM),(17,aN)]) Un Tryz.f18 (t,room,()) P:=by kernel_rfl
theorem Abz (xs:List Int) (P:List Int->Prop):((0<=(↑xs.length:Int)/\(↑xs.length:Int)<(↑Bg:Int)+1)/\(↑xs.length:Int)=(↑xs.length:Int)/\0=0/\(List.replicate (↑xs.length:Int).toNat (Int.ofNat 0)).length=(List.replicate (↑xs.length:Int).toNat (Int.ofNat 0)).length/\Bi (λ(v2:Int×List Int×PUnit) (k3:Int×List Int×PUnit->Prop)=>Br (decide (v2.1<(↑xs.length:Int))) (∃(y4:Int),idx xs v2.1=some y4/\(0<=v2.1/\v2.1<(↑v2.2.1.length:Int))/\0+v2.1.toNat<v2.2.1.length/\0=0/\v2.2.1.length=(v2.2.1.set (0+v2.1.toNat) y4).length/\k3 (IntKind.i64.wrap (v2.1+1),v2.2.1.set (0+v2.1.toNat) y4,())) (P (List.take v2.2.1.length (List.drop 0 v2.2.1)))) (0,List.replicate (↑xs.length:Int).toNat (Int.ofNat 0),PUnit.unit))=fnW Cl (look []) eN Tryz.f38 (xs,()) P:=by kernel_rfl
theorem XB (xs:List (List Int)) (P:List (List Int)->Prop):((0<=(↑xs.length:Int)/\(↑xs.length:Int)<(↑Bg:Int)+1)/\(↑xs.length:Int)=(↑xs.length:Int)/\0=0/\(List.replicate (↑xs.length:Int).toNat ([]:List Int)).length=(List.replicate (↑xs.length:Int).toNat ([]:List Int)).length/\Bi (λ(v2:Int×List (List Int)×PUnit) (k3:Int×List (List Int)×PUnit->Prop)=>Br (decide (v2.1<(↑xs.length:Int))) (∃(y4:List Int),idx xs v2.1=some y4/\ ∃(y5:List Int),eN.fn (y4,())=some y5/\(0<=v2.1/\v2.1<(↑v2.2.1.length:Int))/\0+v2.1.toNat<v2.2.1.length/\0=0/\v2.2.1.length=(v2.2.1.set (0+v2.1.toNat) y5).length/\k3 (IntKind.i64.wrap (v2.1+1),v2.2.1.set (0+v2.1.toNat) y5,())) (P (List.take v2.2.1.length (List.drop 0 v2.2.1)))) (0,List.replicate (↑xs.length:Int).toNat ([]:List Int),PUnit.unit))=fnW Cl (look [(38,eN)]) aO Tryz.f22 (xs,()) P:=by kernel_rfl
theorem HK (t:List Int×List (List Int)×List Int×Unit) (P:(List Int×List (List Int)×List Int×Unit)->Prop):(∃(y2:List Int),eN.fn (t.1,())=some y2/\ ∃(y3:List (List Int)),aO.fn (t.2.1,())=some y3/\ ∃(y4:List Int),eN.fn (t.2.2.1,())=some y4/\P (y2,y3,y4,()))=fnW Cl (look [(38,eN),(22,aO)]) Uo Tryz.f23 (t,()) P:=by kernel_rfl
theorem Abr (a b:List Int) (P:Bool->Prop):(Br ((↑a.length:Int) !=(↑b.length:Int)) (P false) (Bi (λ(v3:Int×PUnit) (k4:Int×PUnit->Prop)=>Br (decide (v3.1<(↑a.length:Int))) (∃(y5:Int),idx a v3.1=some y5/\ ∃(y6:Int),idx b v3.1=some y6/\Br (y5 !=y6) (P false) (k4 (IntKind.i64.wrap (v3.1+1),()))) (P true)) (0,PUnit.unit)))=fnW Cl (look []) An Tryz.f10 (a,b,()) P:=by kernel_rfl
theorem WT (a b:List (List Int)) (P:Bool->Prop):(Br ((↑a.length:Int) !=(↑b.length:Int)) (P false) (Bi (λ(v3:Int×PUnit) (k4:Int×PUnit->Prop)=>Br (decide (v3.1<(↑a.length:Int))) (∃(y5:List Int),idx a v3.1=some y5/\ ∃(y6:List Int),idx b v3.1=some y6/\ ∃(y7:Bool),An.fn (y5,y6,())=some y7/\Br (!y7) (P false) (k4 (IntKind.i64.wrap (v3.1+1),()))) (P true)) (0,PUnit.unit)))=fnW Cl (look [(10,An)]) Nr Tryz.f29 (a,b,()) P:=by kernel_rfl
theorem GX (a b:List Int×List (List Int)×List Int×Unit) (P:Bool->Prop):(∃(y3:Bool),An.fn (a.1,b.1,())=some y3/\Br (!y3) (P false) (∃(y4:Bool),Nr.fn (a.2.1,b.2.1,())=some y4/\Br (!y4) (P false) (∃(y5:Bool),An.fn (a.2.2.1,b.2.2.1,())=some y5/\Br (!y5) (P false) (P true))))=fnW Cl (look [(10,An),(29,Nr)]) Er Tryz.f30 (a,b,()) P:=by kernel_rfl
theorem Uf {n:Nat} {room:Int} (h:roomy room) (h2: ¬js n room<0):roomy (js n room):=by
 unfold js roomy at*
 split at h2<;>simp_all
 omega
theorem Ab9 (xs:List Int) (room:Int) (h:short xs/\roomy room):fnW Cl (look []) eM Tryz.f32 (xs,room,()) (λ(z:Int)=>z=Pf xs room):=by
 obtain ⟨h1,h2,h3⟩:=h
 unfold short at h1
 refine Eq.mp (Abx xs room _) ?_
 rw [Ca (by omega) (by omega)]
 refine Br.dec (λh=>?_) λh=>?_
 ·simp only [Pf,js,if_pos h]
 ·simp only [Pf,js,if_neg h]
theorem rO:Sound Tryz.prog 32 eM:=
 Sound.Cv Bk Ak mixed Tryz.func32 (by kernel_rfl) (by kernel_rfl) λx h=>Ab9 x.1 x.2.1 h
theorem VY (xs:List (List Int)) (room:Int) (h:Dx xs/\roomy room):fnW Cl (look [(32,eM)]) aN Tryz.f17 (xs,room,()) (λ(z:Int)=>z=Ku xs room):=by
 obtain ⟨⟨h1,h4⟩,h2,h3⟩:=h
 refine Eq.mp (WZ xs room _) ?_
 rw [Ca (by omega) (by omega)]
 refine Br.dec (λh=>?_) λh=>?_
 ·simp only [Ku,js,if_pos h];rfl
 ·refine Ag xs.length (λv=>v.2.1) (λj v=>roomy v.1/\oG (xs.drop j) v.1=Ku xs room) rfl ?_ ?_
  ·refine ⟨by unfold roomy;omega,?_⟩
   simp only [Ku,js,if_neg h,List.drop_zero]
  ·rintro j ⟨r,i,⟨⟩⟩ K hj hi ⟨hr,hR⟩ hK
   dsimp only at hi hr hR⊢
   subst hi
   refine Br.dec (λhl=>?_) λhl=>?_
   ·have hl:j<xs.length:=by omega
    have hd:xs.drop j=xs[j]::xs.drop (j+1):=List.drop_eq_getElem_cons hl
    refine ⟨_,Am hl,_,if_pos ⟨h4 _ (List.getElem_mem hl),hr⟩,?_⟩
    rw [hd] at hR
    simp only [oG] at hR
    refine Br.dec (λhn=>?_) λhn=>?_
    ·have hn:Pf xs[j] r<0:=hn
     rw [if_pos hn] at hR
     exact hR
    ·have hn: ¬Pf xs[j] r<0:=hn
     rw [if_neg hn] at hR
     rw [Ah (by omega)]
     exact hK hl _ rfl ⟨Uf hr hn,hR⟩
   ·have:j=xs.length:=by omega
    subst this
    rw [List.drop_length] at hR
    exact hR
theorem oq:Sound Tryz.prog 17 aN:=
 Sound.Cv Bk (Ae rO Ak) mixed Tryz.func17 (by kernel_rfl) (by kernel_rfl) λx h=>VY x.1 x.2.1 h
theorem rR: ∀(xs:List (List Int)) (room:Int),roomy room-> ¬oG xs room<0->roomy (oG xs room)
 | [],room,h,_=>h
 |r::rs,room,h,h2=>by
  simp only [oG] at h2⊢
  split
  ·rename_i hn;rw [if_pos hn] at h2;exact absurd (show (-1:Int)<0 by decide) h2
  ·rename_i hn;rw [if_neg hn] at h2;exact rR rs _ (Uf h hn) h2
theorem kG {xs:List (List Int)} {room:Int} (h:roomy room) (h2: ¬Ku xs room<0):roomy (Ku xs room):=by
 unfold Ku at*
 split
 ·rename_i hn;rw [if_pos hn] at h2;exact absurd (show (-1:Int)<0 by decide) h2
 ·rename_i hn;rw [if_neg hn] at h2;exact rR _ _ (Uf h hn) h2
theorem FJ (t:TT) (room:Int) (h:Iv t/\roomy room):fnW Cl (look [(32,eM),(17,aN)]) Un Tryz.f18 (t,room,()) (λ(z:Int)=>z=Hi t room):=by
 obtain ⟨⟨h1,h2,h3⟩,hr⟩:=h
 refine Eq.mp (HJ t room _) ?_
 refine ⟨_,if_pos ⟨h1,hr⟩,Br.dec (λhn=>?_) λhn=>?_⟩
 ·exact (if_pos hn).symm
 ·have r1:=Uf hr hn
  refine ⟨_,if_pos ⟨h2,r1⟩,Br.dec (λhm=>?_) λhm=>?_⟩
  ·exact ((if_neg hn).trans (if_pos hm)).symm
  ·have r2:=kG r1 hm
   refine ⟨_,if_pos ⟨h3,r2⟩,Br.dec (λhk=>?_) λhk=>?_⟩
   ·exact ((if_neg hn).trans ((if_neg hm).trans (if_pos hk))).symm
   ·exact ((if_neg hn).trans ((if_neg hm).trans (if_neg hk))).symm
theorem q6:Sound Tryz.prog 18 Un:=
 Sound.Cv Bk (Ae rO (Ae oq Ak)) mixed Tryz.func18 (by kernel_rfl) (by kernel_rfl) λx h=>FJ x.1 x.2.1 h
theorem Gg {α:Type} {ys xs:List α} {j:Nat} (h:j<xs.length) (hl:ys.length=xs.length) (ht:ys.take j=xs.take j):(ys.set j xs[j]).take (j+1)=xs.take (j+1):=by
 have h1:j<(ys.set j xs[j]).length:=by rw [List.length_set];omega
 rw [List.take_succ_eq_append_getElem h1,List.take_succ_eq_append_getElem h,List.getElem_set_self,List.take_set_of_le (Nat.le_refl j),ht]
theorem Abb (xs:List Int) (h:short xs):fnW Cl (look []) eN Tryz.f38 (xs,()) (λ(z:List Int)=>z=xs):=by
 unfold short at h
 refine Eq.mp (Abz xs _) ?_
 refine ⟨⟨by omega,by show (xs.length:Int)<(4294967296:Int)+1;omega⟩,rfl,rfl,rfl,?_⟩
 refine Ag xs.length (λv=>v.1) (λj v=>v.2.1.length=xs.length/\v.2.1.take j=xs.take j) rfl ⟨by simp,by simp⟩ ?_
 rintro j ⟨i,ys,⟨⟩⟩ K hj hi ⟨h1,h2⟩ hK
 dsimp only at hi h1 h2⊢
 subst hi
 refine Br.dec (λhl=>?_) λhl=>?_
 ·have hl:j<xs.length:=by omega
  refine ⟨_,Am hl,⟨by omega,by omega⟩,by rw [Int.toNat_natCast];omega,rfl,by rw [List.length_set],?_⟩
  rw [Ah (by omega),Int.toNat_natCast,Nat.zero_add]
  exact hK hl _ rfl ⟨by rw [List.length_set];exact h1,Gg hl h1 h2⟩
 ·have:j=xs.length:=by omega
  subst this
  rw [List.take_length,<-h1,List.take_length] at h2
  rw [List.drop_zero,List.take_length]
  exact h2
theorem rP:Sound Tryz.prog 38 eN:=
 Sound.Cv Bk Ak mixed Tryz.func38 (by kernel_rfl) (by kernel_rfl) λx h=>Abb x.1 h
theorem WA (xs:List (List Int)) (h:Dx xs):fnW Cl (look [(38,eN)]) aO Tryz.f22 (xs,()) (λ(z:List (List Int))=>z=xs):=by
 obtain ⟨h,h4⟩:=h
 refine Eq.mp (XB xs _) ?_
 refine ⟨⟨by omega,by show (xs.length:Int)<(4294967296:Int)+1;omega⟩,rfl,rfl,rfl,?_⟩
 refine Ag xs.length (λv=>v.1) (λj v=>v.2.1.length=xs.length/\v.2.1.take j=xs.take j) rfl ⟨by simp,by simp⟩ ?_
 rintro j ⟨i,ys,⟨⟩⟩ K hj hi ⟨h1,h2⟩ hK
 dsimp only at hi h1 h2⊢
 subst hi
 refine Br.dec (λhl=>?_) λhl=>?_
 ·have hl:j<xs.length:=by omega
  refine ⟨_,Am hl,_,if_pos (h4 _ (List.getElem_mem hl)),⟨by omega,by omega⟩,by rw [Int.toNat_natCast];omega,rfl,by rw [List.length_set],?_⟩
  rw [Ah (by omega),Int.toNat_natCast,Nat.zero_add]
  exact hK hl _ rfl ⟨by rw [List.length_set];exact h1,Gg hl h1 h2⟩
 ·have:j=xs.length:=by omega
  subst this
  rw [List.take_length,<-h1,List.take_length] at h2
  rw [List.drop_zero,List.take_length]
  exact h2
theorem ov:Sound Tryz.prog 22 aO:=
 Sound.Cv Bk (Ae rP Ak) mixed Tryz.func22 (by kernel_rfl) (by kernel_rfl) λx h=>WA x.1 h
theorem FK (t:TT) (h:Iv t):fnW Cl (look [(38,eN),(22,aO)]) Uo Tryz.f23 (t,()) (λ(z:TT)=>z=t):=by
 refine Eq.mp (HK t _) ?_
 exact ⟨_,if_pos h.1,_,if_pos h.2.1,_,if_pos h.2.2,rfl⟩
theorem q7:Sound Tryz.prog 23 Uo:=
 Sound.Cv Bk (Ae rP (Ae ov Ak)) mixed Tryz.func23 (by kernel_rfl) (by kernel_rfl) λx h=>FK x.1 h
theorem Ab3 (a b:List Int) (h:short a):fnW Cl (look []) An Tryz.f10 (a,b,()) (λ(z:Bool)=>z=Au a b):=by
 refine Eq.mp (Abr a b _) ⟨λhl=>?_,λhl=>?_⟩
 ·simp only [bne_iff_ne,ne_eq,Int.natCast_inj] at hl
  exact (decide_eq_false λfD=>hl (by rw [fD])).symm
 ·simp only [bne_eq_false_iff_eq,Int.natCast_inj] at hl
  exact sn a b hl h
theorem jL:Sound Tryz.prog 10 An:=
 Sound.Cv Bk Ak mixed Tryz.func10 (by kernel_rfl) (by kernel_rfl) λx h=>Ab3 x.1 x.2.1 h
theorem VS (a b:List (List Int)) (h:Dx a):fnW Cl (look [(10,An)]) Nr Tryz.f29 (a,b,()) (λ(z:Bool)=>z=Lj a b):=by
 obtain ⟨h,h4⟩:=h
 refine Eq.mp (WT a b _) ⟨λhl=>?_,λhl=>?_⟩
 ·simp only [bne_iff_ne,ne_eq,Int.natCast_inj] at hl
  exact (decide_eq_false λfD=>hl (by rw [fD])).symm
 ·simp only [bne_eq_false_iff_eq,Int.natCast_inj] at hl
  refine Ag a.length (λv=>v.1) (λj _=>a.take j=b.take j) rfl (by simp) ?_
  rintro j ⟨i,⟨⟩⟩ K hj hi hR hK
  dsimp only at hi⊢
  subst hi
  refine Br.dec (λGt=>?_) λGt=>?_
  ·have dJ:j<a.length:=by omega
   have uI:j<b.length:=by omega
   refine ⟨_,Am dJ,_,Am uI,_,if_pos (h4 _ (List.getElem_mem dJ)),⟨λhe=>?_,λhe=>?_⟩⟩
   ·refine (decide_eq_false λfD=>?_).symm
    subst fD
    simp [Au] at he
   ·rw [Ah (by omega)]
    refine hK dJ _ rfl ?_
    simp only [Au,Bool.not_eq_false',decide_eq_true_eq] at he
    rw [List.take_succ_eq_append_getElem dJ,List.take_succ_eq_append_getElem uI,hR]
    exact congrArg (λx=>List.take j b++ [x]) he
  ·have lW:j=a.length:=by omega
   subst lW
   rw [List.take_length,hl,List.take_length] at hR
   exact (decide_eq_true hR).symm
theorem oa:Sound Tryz.prog 29 Nr:=
 Sound.Cv Bk (Ae jL Ak) mixed Tryz.func29 (by kernel_rfl) (by kernel_rfl) λx h=>VS x.1 x.2.1 h
theorem EY (a b:TT) (h:Iv a):fnW Cl (look [(10,An),(29,Nr)]) Er Tryz.f30 (a,b,()) (λ(z:Bool)=>z=Js a b):=by
 refine Eq.mp (GX a b _) ?_
 refine ⟨_,if_pos h.1,⟨λh1=>?_,λh1=>?_⟩⟩
 ·have h1:(!Au a.1 b.1)=true:=h1
  simp only [Au] at h1
  unfold Js
  cases hd:decide (a.1=b.1)<;>simp_all
 ·have h1:(!Au a.1 b.1)=false:=h1
  simp only [Au] at h1
  refine ⟨_,if_pos h.2.1,⟨λh2=>?_,λh2=>?_⟩⟩
  ·have h2:(!Lj a.2.1 b.2.1)=true:=h2
   simp only [Lj] at h2
   unfold Js
   cases hd:decide (a.2.1=b.2.1)<;>simp_all
  ·have h2:(!Lj a.2.1 b.2.1)=false:=h2
   simp only [Lj] at h2
   refine ⟨_,if_pos h.2.2,⟨λh3=>?_,λh3=>?_⟩⟩
   ·have h3:(!Au a.2.2.1 b.2.2.1)=true:=h3
    simp only [Au] at h3
    unfold Js
    cases hd:decide (a.2.2.1=b.2.2.1)<;>simp_all
   ·have h3:(!Au a.2.2.1 b.2.2.1)=false:=h3
    simp only [Au] at h3
    unfold Js
    simp_all
theorem pS:Sound Tryz.prog 30 Er:=
 Sound.Cv Bk (Ae jL (Ae oa Ak)) mixed Tryz.func30 (by kernel_rfl) (by kernel_rfl) λx h=>EY x.1 x.2.1 h
end Go.Proofs.YtjbdmibbbpdnnaaGreat

namespace Go.Proofs.YtjbdmibbbpdnnaaGreat
open Go.RowKit
def PL (n:Int) (xs:List Int) (k:Nat):Prop:= ∀j (h:j<xs.length),j<k->0<=xs[j]/\xs[j]<=n-1/\(0<j->xs[j-1]<xs[j])
def DL (n:Int) (xs:List Int) (k:Nat):Prop:= ∀j (h:j<xs.length),j<k->0<=xs[j]/\xs[j]<=n-1/\xs[j]∉xs.take j
noncomputable def dec (p:Prop):Bool:= @decide p (Classical.propDecidable p)
theorem Le {p:Prop} (h:p):true=dec p:=(@decide_eq_true p (Classical.propDecidable p) h).symm
theorem Bu {p:Prop} (h: ¬p):false=dec p:=(@decide_eq_false p (Classical.propDecidable p) h).symm
theorem Ht {p:Prop} :dec p=true↔p:= @decide_eq_true_iff p (Classical.propDecidable p)
theorem NP {p:Prop} :dec p=false↔ ¬p:= @decide_eq_false_iff_not p (Classical.propDecidable p)
def VM (n:Int):Prop:=0<=n/\n<=4294967296
noncomputable def Sh (n:Int) (xs:List Int):Bool:=dec (0<xs.length/\PL n xs xs.length)
noncomputable abbrev Fv:Spec:=Cv (.pair tI (.pair tL .unit)) .bool false true (λx=>VM x.1/\short x.2.1) (λx=>Sh x.1 x.2.1)
noncomputable abbrev dT:Spec:=Cv (.pair Zp .unit) tI false true (λ_=>True) (λx=>(List.length x.1:Int))
theorem qi (n:Int) (xs:List Int) (P:Bool->Prop):(∃(y3:Bool),Bp.fn ((↑xs.length:Int),(1:Int),n,())=some y3/\Br (!y3) (P false) (Bi (λ(v4:Int×PUnit) (k5:Int×PUnit->Prop)=>Br (decide (v4.1<(↑xs.length:Int))) (∃(y6:Int),idx xs v4.1=some y6/\ ∃(y7:Bool),Bp.fn (y6,(0:Int),IntKind.i64.wrap (n-(1:Int)),())=some y7/\Br (!y7) (P false) (Br (decide (v4.1>(0:Int))) (∃(y8:Int),idx xs v4.1=some y8/\ ∃(y9:Int),idx xs (IntKind.i64.wrap (v4.1-(1:Int)))=some y9/\Br (decide (y8<=y9)) (P false) (k5 (IntKind.i64.wrap (v4.1+(1:Int)),()))) (k5 (IntKind.i64.wrap (v4.1+(1:Int)),())))) (P true)) ((0:Int),PUnit.unit)))=fnW Cl (look [(73,Bp)]) Fv Tryz.f101 (n,xs,()) P:=by kernel_rfl
theorem xQ (n:Int) (xs:List Int) (P:Bool->Prop):(Bi (λ(v3:Int×PUnit) (k4:Int×PUnit->Prop)=>Br (decide (v3.1<(↑xs.length:Int))) (∃(y5:Int),idx xs v3.1=some y5/\ ∃(y6:Bool),Uj.fn (n,y5,())=some y6/\Br (!y6) (P false) (Br (decide (v3.1>(0:Int))) (∃(y7:Int),idx xs (IntKind.i64.wrap (v3.1-(1:Int)))=some y7/\Br (decide (y7>=y5)) (P false) (k4 (IntKind.i64.wrap (v3.1+(1:Int)),()))) (k4 (IntKind.i64.wrap (v3.1+(1:Int)),())))) (P (decide ((↑xs.length:Int)>(0:Int))))) ((0:Int),PUnit.unit))=fnW Cl (look [(103,Uj)]) Fv Tryz.f102 (n,xs,()) P:=by kernel_rfl
theorem QJ (xs:List (List Int)) (P:Int->Prop):(P (↑xs.length:Int))=fnW Cl (look []) dT Tryz.f45 (xs,()) P:=by kernel_rfl
theorem PI (xs:List (List Int)) (_:True):fnW Cl (look []) dT Tryz.f45 (xs,()) (λ(z:Int)=>z=(xs.length:Int)):=Eq.mp (QJ xs _) rfl
theorem xo:Sound Tryz.prog 45 dT:=
 Sound.Cv Bk Ak mixed Tryz.func45 (by kernel_rfl) (by kernel_rfl) λx h=>PI x.1 h
theorem kE {n x:Int} (hn:VM n):dO n x=true↔0<=x/\x<=n-1:=by
 unfold dO VM at*
 rw [Ca (by omega) (by omega),decide_eq_true_iff]
theorem Cn {x a b:Int} :Hg x a b=true↔a<=x/\x<=b:=decide_eq_true_iff
theorem Ck {b:Bool} (h:(!b)=true): ¬b=true:=by cases b<;>simp_all
theorem Di {b:Bool} (h:(!b)=false):b=true:=by cases b<;>simp_all
theorem zH {n:Int} {xs:List Int} (h:PL n xs xs.length): ∀j (hj:j<xs.length),(j:Int)<=xs[j]
 |0,hj=>(h 0 hj hj).1
 |j+1,hj=>by
  have h1:=zH h j (by omega)
  have h2:=(h (j+1) hj hj).2.2 (by omega)
  simp only [Nat.add_sub_cancel] at h2
  omega
theorem m6 {n:Int} {xs:List Int} {j:Nat} (hl:j<xs.length) (h:PL n xs j) (h1:0<=xs[j]) (h2:xs[j]<=n-1) (h3:0<j->xs[j-1]<xs[j]):PL n xs (j+1):=by
 intro i hi iW
 by_cases e:i=j
 ·subst e;exact ⟨h1,h2,h3⟩
 ·exact h i hi (by omega)
theorem wY (n:Int) (xs:List Int) (h:VM n/\short xs):fnW Cl (look [(103,Uj)]) Fv Tryz.f102 (n,xs,()) (λ(z:Bool)=>z=Sh n xs):=by
 obtain ⟨hn,h⟩:=h
 unfold short at h
 refine Eq.mp (xQ n xs _) ?_
 refine Ag xs.length (λv=>v.1) (λj _=>PL n xs j) rfl (λj _ hj=>absurd hj (Nat.not_lt_zero _)) ?_
 rintro j ⟨i,⟨⟩⟩ K hj hi hR hK
 dsimp only at hi⊢
 subst hi
 refine Br.dec (λhl=>?_) λhl=>?_
 ·have hl:j<xs.length:=by omega
  refine ⟨_,Am hl,_,if_pos trivial,⟨λhp=>?_,λhp=>?_⟩⟩
  ·have hp:=Ck hp
   rw [kE hn] at hp
   exact Bu λhh=>hp ⟨(hh.2 j hl hl).1,(hh.2 j hl hl).2.1⟩
  ·have hp:=Di hp
   rw [kE hn] at hp
   refine Br.dec (λh0=>?_) λh0=>?_
   ·have h0:0<j:=by omega
    rw [Ca (by omega) (by omega),show (j:Int)-1=((j-1:Nat):Int) by omega]
    refine ⟨_,Am (by omega),Br.dec (λhg=>?_) λhg=>?_⟩
    ·exact Bu λhh=>by have:=(hh.2 j hl hl).2.2 h0;omega
    ·rw [Ah (by omega)]
     exact hK hl _ rfl (m6 hl hR hp.1 hp.2 λ_=>by omega)
   ·have h0:j=0:=by omega
    rw [Ah (by omega)]
    exact hK hl _ rfl (m6 hl hR hp.1 hp.2 λh=>by omega)
 ·have:j=xs.length:=by omega
  subst this
  by_cases h0:0<xs.length
  ·rw [decide_eq_true (show (xs.length:Int)>0 by omega)];exact Le ⟨h0,hR⟩
  ·rw [decide_eq_false (show ¬(xs.length:Int)>0 by omega)];exact Bu λhh=>h0 hh.1
theorem lD:Sound Tryz.prog 102 Fv:=
 Sound.Cv Bk (Ae pV Ak) mixed Tryz.func102 (by kernel_rfl) (by kernel_rfl) λx h=>wY x.1 x.2.1 h
theorem pI (n:Int) (xs:List Int) (h:VM n/\short xs):fnW Cl (look [(73,Bp)]) Fv Tryz.f101 (n,xs,()) (λ(z:Bool)=>z=Sh n xs):=by
 obtain ⟨hn,h⟩:=h
 unfold short at h
 refine Eq.mp (qi n xs _) ⟨_,if_pos trivial,⟨λhp=>?_,λhp=>?_⟩⟩
 ·have hp:=Ck hp
  rw [Cn] at hp
  dsimp only at hp
  refine Bu λhh=>hp ⟨by omega,?_⟩
  have:=zH hh.2 (xs.length-1) (by omega)
  have:=(hh.2 (xs.length-1) (by omega) (by omega)).2.1
  omega
 ·have hp:=Di hp
  rw [Cn] at hp
  dsimp only at hp
  refine Ag xs.length (λv=>v.1) (λj _=>PL n xs j) rfl (λj _ hj=>absurd hj (Nat.not_lt_zero _)) ?_
  rintro j ⟨i,⟨⟩⟩ K hj hi hR hK
  dsimp only at hi⊢
  subst hi
  refine Br.dec (λhl=>?_) λhl=>?_
  ·have hl:j<xs.length:=by omega
   refine ⟨_,Am hl,_,if_pos trivial,⟨λhq=>?_,λhq=>?_⟩⟩
   ·have hq:=Ck hq
    unfold VM at hn
    rw [Cn,Ca (by omega) (by omega)] at hq
    exact Bu λhh=>hq ⟨(hh.2 j hl hl).1,(hh.2 j hl hl).2.1⟩
   ·have hq:=Di hq
    unfold VM at hn
    rw [Cn,Ca (by omega) (by omega)] at hq
    refine Br.dec (λh0=>?_) λh0=>?_
    ·have h0:0<j:=by omega
     rw [Ca (by omega) (by omega),show (j:Int)-1=((j-1:Nat):Int) by omega]
     refine ⟨_,Am hl,_,Am (by omega),Br.dec (λhg=>?_) λhg=>?_⟩
     ·exact Bu λhh=>by have:=(hh.2 j hl hl).2.2 h0;omega
     ·rw [Ah (by omega)]
      exact hK hl _ rfl (m6 hl hR hq.1 hq.2 λ_=>by omega)
    ·rw [Ah (by omega)]
     exact hK hl _ rfl (m6 hl hR hq.1 hq.2 λh=>by omega)
  ·have:j=xs.length:=by omega
   subst this
   exact Le ⟨by omega,hR⟩
theorem iE:Sound Tryz.prog 101 Fv:=
 Sound.Cv Bk (Ae Xv Ak) mixed Tryz.func101 (by kernel_rfl) (by kernel_rfl) λx h=>pI x.1 x.2.1 h
theorem NQ {n:Int} {xs:List Int} {j:Nat} (hl:j<xs.length) (h:DL n xs j) (h1:0<=xs[j]) (h2:xs[j]<=n-1) (h3:xs[j]∉xs.take j):DL n xs (j+1):=by
 intro i hi iW
 by_cases e:i=j
 ·subst e;exact ⟨h1,h2,h3⟩
 ·exact h i hi (by omega)
theorem zW {xs:List Int} (h:short xs) (j:Nat):short (xs.take j):=by
 unfold short at*
 rw [List.length_take]
 omega
end Go.Proofs.YtjbdmibbbpdnnaaGreat

namespace Go.Proofs.YtjbdmibbbpdnnaaGreat
open Go.RowKit
noncomputable abbrev Qz:Spec:=Cv (.pair Zp (.pair Zp (.pair (.clo 100 .unit) .unit))) .bool false true (λx=>Dx x.1) (λx=>Lj x.1 x.2.1)
theorem Abw (a b:List Int) (P:Bool->Prop):(∃(y3:Bool),An.fn (a,b,())=some y3/\P y3)=fnW Cl (look [(89,An)]) An Tryz.f100 (a,b,()) P:=by kernel_rfl
theorem AR (a b:List (List Int)) (c:Unit) (P:Bool->Prop):(Br ((↑a.length:Int) !=(↑b.length:Int)) (P false) (Bi (λ(v4:Int×PUnit) (k5:Int×PUnit->Prop)=>Br (decide (v4.1<(↑a.length:Int))) (∃(y6:List Int),idx a v4.1=some y6/\ ∃(y7:List Int),idx b v4.1=some y7/\ ∃(y8:Bool),An.fn (y6,y7,())=some y8/\Br (!y8) (P false) (k5 (IntKind.i64.wrap (v4.1+(1:Int)),()))) (P true)) ((0:Int),PUnit.unit)))=fnW Cl (look [(100,An)]) Qz Tryz.f99 (a,b,c,()) P:=by kernel_rfl
theorem lM (a b:List (List Int)) (P:Bool->Prop):(∃(y3:Bool),Qz.fn (a,b,(),())=some y3/\P y3)=fnW Cl (look [(99,Qz)]) Nr Tryz.f90 (a,b,()) P:=by kernel_rfl
theorem lL (a b:List Int×List (List Int)×List Int×Unit) (P:Bool->Prop):(∃(y3:Bool),An.fn (a.1,b.1,())=some y3/\Br y3 (∃(y4:Bool),Nr.fn (a.2.1,b.2.1,())=some y4/\Br y4 (∃(y5:Bool),An.fn (a.2.2.1,b.2.2.1,())=some y5/\P y5) (P false)) (P false))=fnW Cl (look [(89,An),(90,Nr)]) Er Tryz.f71 (a,b,()) P:=by kernel_rfl
abbrev Zl:Type:=Int×List Int×List (List Int)×List Int×List Int×List (List Int)×List Int×PUnit
theorem lN (a b:List Int×List (List Int)×List Int×Unit) (P:Bool->Prop):(∃(y3:Bool),An.fn (a.1,b.1,())=some y3/\Br (!y3) (P false) (∃(y4:Bool),An.fn (a.2.2.1,b.2.2.1,())=some y4/\Br (!y4) (P false) (Br ((↑a.2.1.length:Int) !=(↑b.2.1.length:Int)) (P false) (Bi (λ(v5:Zl) (k6:Zl->Prop)=>Br (decide (v5.1<(↑v5.2.2.1.length:Int))) (∃(y7:List Int),idx v5.2.2.1 v5.1=some y7/\ ∃(y8:List Int),idx v5.2.2.2.2.2.1 v5.1=some y8/\ ∃(y9:Bool),An.fn (y7,y8,())=some y9/\Br (!y9) (P false) (k6 (IntKind.i64.wrap (v5.1+(1:Int)),v5.2.1,v5.2.2.1,v5.2.2.2.1,v5.2.2.2.2.1,v5.2.2.2.2.2.1,v5.2.2.2.2.2.2.1,()))) (P true)) ((0:Int),a.1,a.2.1,a.2.2.1,b.1,b.2.1,b.2.2.1,PUnit.unit)))))=fnW Cl (look [(77,An)]) Er Tryz.f60 (a,b,()) P:=by kernel_rfl
theorem Ab8 (a b:List Int) (h:short a):fnW Cl (look [(89,An)]) An Tryz.f100 (a,b,()) (λ(z:Bool)=>z=Au a b):=by
 refine Eq.mp (Abw a b _) ⟨_,if_pos h,rfl⟩
theorem GH:Sound Tryz.prog 100 An:=
 Sound.Cv Bk (Ae Wx Ak) mixed Tryz.func100 (by kernel_rfl) (by kernel_rfl) λx h=>Ab8 x.1 x.2.1 h
theorem zw (a b:List (List Int)) (c:Unit) (h:Dx a):fnW Cl (look [(100,An)]) Qz Tryz.f99 (a,b,c,()) (λ(z:Bool)=>z=Lj a b):=by
 obtain ⟨h,h4⟩:=h
 refine Eq.mp (AR a b c _) ⟨λhl=>?_,λhl=>?_⟩
 ·simp only [bne_iff_ne,ne_eq,Int.natCast_inj] at hl
  exact (decide_eq_false λfD=>hl (by rw [fD])).symm
 ·simp only [bne_eq_false_iff_eq,Int.natCast_inj] at hl
  refine Ag a.length (λv=>v.1) (λj _=>a.take j=b.take j) rfl (by simp) ?_
  rintro j ⟨i,⟨⟩⟩ K hj hi hR hK
  dsimp only at hi⊢
  subst hi
  refine Br.dec (λGt=>?_) λGt=>?_
  ·have dJ:j<a.length:=by omega
   have uI:j<b.length:=by omega
   refine ⟨_,Am dJ,_,Am uI,_,if_pos (h4 _ (List.getElem_mem dJ)),⟨λhe=>?_,λhe=>?_⟩⟩
   ·refine (decide_eq_false λfD=>?_).symm
    subst fD
    simp [Au] at he
   ·rw [Ah (by omega)]
    refine hK dJ _ rfl ?_
    simp only [Au,Bool.not_eq_false',decide_eq_true_eq] at he
    rw [List.take_succ_eq_append_getElem dJ,List.take_succ_eq_append_getElem uI,hR]
    exact congrArg (λx=>List.take j b++ [x]) he
  ·have lW:j=a.length:=by omega
   subst lW
   rw [List.take_length,hl,List.take_length] at hR
   exact (decide_eq_true hR).symm
theorem o9:Sound Tryz.prog 99 Qz:=
 Sound.Cv Bk (Ae GH Ak) mixed Tryz.func99 (by kernel_rfl) (by kernel_rfl) λx h=>zw x.1 x.2.1 x.2.2.1 h
theorem lu (a b:List (List Int)) (h:Dx a):fnW Cl (look [(99,Qz)]) Nr Tryz.f90 (a,b,()) (λ(z:Bool)=>z=Lj a b):=by
 refine Eq.mp (lM a b _) ⟨_,if_pos h,rfl⟩
theorem ed:Sound Tryz.prog 90 Nr:=
 Sound.Cv Bk (Ae o9 Ak) mixed Tryz.func90 (by kernel_rfl) (by kernel_rfl) λx h=>lu x.1 x.2.1 h
theorem lr (a b:TT) (h:Iv a):fnW Cl (look [(89,An),(90,Nr)]) Er Tryz.f71 (a,b,()) (λ(z:Bool)=>z=Js a b):=by
 refine Eq.mp (lL a b _) ⟨_,if_pos h.1,⟨λh1=>⟨_,if_pos h.2.1,⟨λh2=>⟨_,if_pos h.2.2,?_⟩,λh2=>?_⟩⟩,λh1=>?_⟩⟩
 ·have h1:Au a.1 b.1=true:=h1
  have h2:Lj a.2.1 b.2.1=true:=h2
  simp only [Au,Lj] at h1 h2
  show Au a.2.2.1 b.2.2.1=_
  unfold Js Au
  rw [h1,h2];rfl
 ·have h1:Au a.1 b.1=true:=h1
  have h2:Lj a.2.1 b.2.1=false:=h2
  simp only [Au,Lj] at h1 h2
  unfold Js
  rw [h1,h2];rfl
 ·have h1:Au a.1 b.1=false:=h1
  simp only [Au] at h1
  unfold Js
  rw [h1];rfl
theorem ec:Sound Tryz.prog 71 Er:=
 Sound.Cv Bk (Ae Wx (Ae ed Ak)) mixed Tryz.func71 (by kernel_rfl) (by kernel_rfl) λx h=>lr x.1 x.2.1 h
theorem lv (a b:TT) (h:Iv a):fnW Cl (look [(77,An)]) Er Tryz.f60 (a,b,()) (λ(z:Bool)=>z=Js a b):=by
 obtain ⟨gf,⟨oZ,hs4⟩,hs3⟩:=h
 refine Eq.mp (lN a b _) ⟨_,if_pos gf,⟨λh1=>?_,λh1=>⟨_,if_pos hs3,⟨λh2=>?_,λh2=>⟨λh3=>?_,λh3=>?_⟩⟩⟩⟩⟩
 ·have h1:(!Au a.1 b.1)=true:=h1
  simp only [Au,Bool.not_eq_true'] at h1
  show _=Js a b
  unfold Js
  rw [h1];rfl
 ·have h2:(!Au a.2.2.1 b.2.2.1)=true:=h2
  simp only [Au,Bool.not_eq_true'] at h2
  show _=Js a b
  unfold Js
  rw [h2];simp
 ·simp only [bne_iff_ne,ne_eq,Int.natCast_inj] at h3
  show _=Js a b
  unfold Js
  rw [decide_eq_false (show ¬a.2.1=b.2.1 from λfD=>h3 (by rw [fD]))];simp
 ·simp only [bne_eq_false_iff_eq,Int.natCast_inj] at h3
  have h1:(!Au a.1 b.1)=false:=h1
  have h2:(!Au a.2.2.1 b.2.2.1)=false:=h2
  simp only [Au,Bool.not_eq_false',decide_eq_true_eq] at h1 h2
  have hE:Js a b=decide (a.2.1=b.2.1):=by
   unfold Js
   rw [decide_eq_true h1,decide_eq_true h2];simp
  refine Ag a.2.1.length (λv=>v.1) (λj v=>v.2=(a.1,a.2.1,a.2.2.1,b.1,b.2.1,b.2.2.1,())/\a.2.1.take j=b.2.1.take j) rfl ⟨rfl,by simp⟩ ?_
  rintro j ⟨i,v⟩ K hj hi ⟨hv,hR⟩ hK
  dsimp only at hi hv⊢
  subst hi hv
  dsimp only
  refine Br.dec (λGt=>?_) λGt=>?_
  ·have dJ:j<a.2.1.length:=by omega
   have uI:j<b.2.1.length:=by omega
   refine ⟨_,Am dJ,_,Am uI,_,if_pos (hs4 _ (List.getElem_mem dJ)),⟨λhe=>?_,λhe=>?_⟩⟩
   ·show _=Js a b
    rw [hE]
    refine (decide_eq_false λfD=>?_).symm
    simp [fD,Au] at he
   ·rw [Ah (by omega)]
    refine hK dJ _ rfl ⟨rfl,?_⟩
    simp only [Au,Bool.not_eq_false',decide_eq_true_eq] at he
    rw [List.take_succ_eq_append_getElem dJ,List.take_succ_eq_append_getElem uI,hR]
    exact congrArg (λx=>List.take j b.2.1++ [x]) he
  ·have lW:j=a.2.1.length:=by omega
   subst lW
   rw [List.take_length,h3,List.take_length] at hR
   show _=Js a b
   rw [hE]
   exact (decide_eq_true hR).symm
theorem ee:Sound Tryz.prog 60 Er:=
 Sound.Cv Bk (Ae Sz Ak) mixed Tryz.func60 (by kernel_rfl) (by kernel_rfl) λx h=>lv x.1 x.2.1 h
theorem cI {t:TT} {room:Int} (h:roomy room) (h2: ¬Hi t room<0):roomy (Hi t room):=by
 have hm: ¬((-1:Int)<0)->False:= λh=>h (by decide)
 unfold Hi at h2⊢
 split
 ·rename_i h3;rw [if_pos h3] at h2;exact (hm h2).elim
 ·rename_i h3;rw [if_neg h3] at h2
  split
  ·rename_i h4;rw [if_pos h4] at h2;exact (hm h2).elim
  ·rename_i h4;rw [if_neg h4] at h2
   split
   ·rename_i h5;rw [if_pos h5] at h2;exact (hm h2).elim
   ·rename_i h5
    exact Uf (kG (Uf h h3) h4) h5
theorem xd:roomy 1048576:=⟨by decide,by decide⟩
end Go.Proofs.YtjbdmibbbpdnnaaGreat

namespace Go.Proofs.YtjbdmibbbpdnnaaGreat
open Go.RowKit
abbrev PP:Type:=Int×ByteArray×List (List Int)×Unit
noncomputable def Jk (p:List Int):Bool:=dec (1<=p.length/\p.length<=20/\DL p.length p p.length)
noncomputable def Ka (n:Int) (p:List Int):Bool:=dec ((p.length:Int)=n/\Jk p=true)
noncomputable def Se (n:Int) (g:List (List Int)):Bool:=dec ((1<=n/\n<=20)/\g.length<=8/\ ∀p∈g,Ka n p=true)
def Dv {α:Type} (P:α->Bool):List α->Int->Int
 | [],_=> -1
 |y::r,i=>if P y=true then i else Dv P r (i+1)
abbrev tG1:Ty:= .clo 85 (.pair (.ptr tI) .unit)
def rX (s:ByteArray) (i:Nat):Prop:= ∃c:UInt8,s[i]?=some c/\65<=c.toNat/\c.toNat<=90/\ ∀k,k<i->s[k]?≠some c
noncomputable def ik (s:ByteArray) (i:Int):Bool:=dec (rX s i.toNat)
noncomputable def Yx (s:ByteArray):Bool:=dec ((1<=s.size/\s.size<=8)/\ ∀j,j<s.size->rX s j)
noncomputable def Bf (p:PP):Bool:=dec (Se p.1 p.2.2.1=true/\Yx p.2.1=true/\p.2.1.size=p.2.2.1.length)
def Cf (p:PP):Prop:=p.2.1.size<=4294967296/\Dx p.2.2.1
noncomputable abbrev Ra:Spec:=Cv (.pair tL .unit) tI false true (λ_=>True) (λx=>(List.length x.1:Int))
noncomputable abbrev Hr:Spec:=Cv (.pair tL .unit) .bool false true (λx=>short x.1) (λx=>Jk x.1)
noncomputable abbrev Ki:Spec:=Cv (.pair tI (.pair Zp .unit)) .bool false true (λx=>Dx x.2.1) (λx=>Se x.1 x.2.1)
noncomputable abbrev dS:Spec:=Cv (.pair tL (.pair (.ptr tI) .unit)) .bool false true (λx=>short x.1) (λx=>!Ka x.2.1 x.1)
noncomputable abbrev rD:Spec:=Cv (.pair Zp (.pair tG1 .unit)) tI false true (λx=>Dx x.1) (λx=>Dv (λp=>!Ka x.2.1.1 p) x.1 0)
noncomputable abbrev ry:Spec:=Cv (.pair Zp (.pair tG1 .unit)) .bool false true (λx=>Dx x.1) (λx=>List.any x.1 (λp=>!Ka x.2.1.1 p))
noncomputable abbrev Zg:Spec:=Cv (.pair .str (.pair tI .unit)) .bool false true (λx=>0<=x.2.1/\x.2.1<x.1.size/\x.1.size<=4294967296) (λx=>ik x.1 x.2.1)
noncomputable abbrev Ui:Spec:=Cv (.pair .str .unit) .bool false true (λx=>x.1.size<=4294967296) (λx=>Yx x.1)
noncomputable abbrev Dw:Spec:=Cv (.pair Dn .unit) .bool false true (λx=>Cf x.1) (λx=>Bf x.1)
def Tg (p:PP) (room:Int):Int:=if room-p.2.1.size<0 then-1 else if Ku p.2.2.1 (room-p.2.1.size)<0 then-1 else Ku p.2.2.1 (room-p.2.1.size)
def kC (a b:PP):Bool:=decide (a.1=b.1)&&(decide (a.2.1=b.2.1)&&decide (a.2.2.1=b.2.2.1))
noncomputable abbrev rF:Spec:=Cv (.pair Dn (.pair tI .unit)) tI false true (λx=>Cf x.1/\roomy x.2.1) (λx=>Tg x.1 x.2.1)
noncomputable abbrev rG:Spec:=Cv (.pair Dn .unit) Dn false true (λx=>Cf x.1) (λx=>x.1)
noncomputable abbrev rz:Spec:=Cv (.pair Dn (.pair Dn .unit)) .bool false true (λx=>Cf x.1) (λx=>kC x.1 x.2.1)
noncomputable abbrev Ns:Spec:=Cv (.pair Gl (.pair tL .unit)) tI false true (λx=>Iv x.1/\short x.2.1) (λx=>Dv (λp=>decide (p=x.2.1)) x.1.2.1 0)
theorem WW (xs:List Int) (P:Int->Prop):(P (↑xs.length:Int))=fnW Cl (look []) Ra Tryz.f81 (xs,()) P:=by kernel_rfl
theorem uz (p:List Int) (P:Bool->Prop):(∃(y2:Bool),Bp.fn ((↑p.length:Int),(1:Int),(20:Int),())=some y2/\Br (!y2) (P false) (Bi (λ(v3:Int×PUnit) (k4:Int×PUnit->Prop)=>Br (decide (v3.1<(↑p.length:Int))) (∃(y5:Int),idx p v3.1=some y5/\ ∃(y6:Bool),Bp.fn (y5,(0:Int),IntKind.i64.wrap ((↑p.length:Int)-(1:Int)),())=some y6/\Br (!y6) (P false) (((0:Int)<=(0:Int)/\(0:Int)<=v3.1/\v3.1<=(↑p.length:Int))/\ ∃(y7:Int),idx p v3.1=some y7/\ ∃(y8:Bool),Kp.fn (List.drop (Int.toNat (0:Int)) (List.take v3.1.toNat p),y7,())=some y8/\Br y8 (P false) (k4 (IntKind.i64.wrap (v3.1+(1:Int)),())))) (P true)) ((0:Int),PUnit.unit)))=fnW Cl (look [(73,Bp),(91,Kp)]) Hr Tryz.f74 (p,()) P:=by kernel_rfl
theorem uu (p:List Int) (P:Bool->Prop):(∃(y2:Int),Ra.fn (p,())=some y2/\ ∃(y3:Bool),Bp.fn (y2,(1:Int),(20:Int),())=some y3/\Br (!y3) (P false) (Bi (λ(v4:Int×Int×PUnit) (k5:Int×Int×PUnit->Prop)=>Br (decide (v4.2.1<(↑p.length:Int))) (∃(y6:Int),idx p v4.2.1=some y6/\ ∃(y7:Int),Ra.fn (p,())=some y7/\ ∃(y8:Bool),Bp.fn (y6,(0:Int),IntKind.i64.wrap (y7-(1:Int)),())=some y8/\Br (!y8) (P false) (¬y6<(0:Int)/\k5 (IntKind.i64.wrap (↑(BitVec.ofInt IntKind.i64.bits v4.1|||BitVec.ofInt IntKind.i64.bits (IntKind.i64.wrap ((1:Int)*(2:Int)^min y6.toNat IntKind.i64.bits))).toNat:Int),IntKind.i64.wrap (v4.2.1+(1:Int)),()))) (¬(↑p.length:Int)<(0:Int)/\P (v4.1==IntKind.i64.wrap (IntKind.i64.wrap ((1:Int)*(2:Int)^min (↑p.length:Int).toNat IntKind.i64.bits)-(1:Int))))) ((0:Int),(0:Int),PUnit.unit)))=fnW Cl (look [(39,Bp),(81,Ra)]) Hr Tryz.f86 (p,()) P:=by kernel_rfl
theorem uy (n:Int) (g:List (List Int)) (P:Bool->Prop):(∃(y3:Bool),Bp.fn (n,(1:Int),(20:Int),())=some y3/\Br (!y3) (P false) (Br (decide ((↑g.length:Int)>(8:Int))) (P false) (Bi (λ(v4:Int×PUnit) (k5:Int×PUnit->Prop)=>Br (decide (v4.1<(↑g.length:Int))) (∃(y6:List Int),idx g v4.1=some y6/\Br ((↑y6.length:Int) !=n) (P false) (∃(y7:List Int),idx g v4.1=some y7/\ ∃(y8:Bool),Hr.fn (y7,())=some y8/\Br (!y8) (P false) (k5 (IntKind.i64.wrap (v4.1+(1:Int)),())))) (P true)) ((0:Int),PUnit.unit))))=fnW Cl (look [(73,Bp),(74,Hr)]) Ki Tryz.f52 (n,g,()) P:=by kernel_rfl
theorem QH (p:List Int) (n:Int) (P:Bool->Prop):(∃(y3:Int),Ra.fn (p,())=some y3/\Br (y3 !=n) (P true) (∃(y4:Bool),Hr.fn (p,())=some y4/\P !y4))=fnW Cl (look [(81,Ra),(86,Hr)]) dS Tryz.f85 (p,n,()) P:=by kernel_rfl
theorem Abu (g:List (List Int)) (n:Int×Unit) (P:Int->Prop):(Bi (λ(v3:Int×PUnit) (k4:Int×PUnit->Prop)=>Br (decide (v3.1<(↑g.length:Int))) (∃(y5:List Int),idx g v3.1=some y5/\ ∃(y6:Bool),dS.fn (y5,n.1,())=some y6/\Br y6 (P v3.1) (k4 (IntKind.i64.wrap (v3.1+(1:Int)),()))) (P (-1:Int))) ((0:Int),PUnit.unit))=fnW Cl (look [(85,dS)]) rD Tryz.f96 (g,n,()) P:=by kernel_rfl
theorem Abq (g:List (List Int)) (n:Int×Unit) (P:Bool->Prop):(∃(y3:Int),rD.fn (g,n,())=some y3/\P (decide (y3>=(0:Int))))=fnW Cl (look [(96,rD)]) ry Tryz.f84 (g,n,()) P:=by kernel_rfl
theorem ur (n:Int) (g:List (List Int)) (P:Bool->Prop):(∃(y3:Bool),Bp.fn (n,(1:Int),(20:Int),())=some y3/\Br y3 (Br (decide ((↑g.length:Int)<=(8:Int))) (∃(y4:Bool),ry.fn (g,(n,()),())=some y4/\P !y4) (P false)) (P false))=fnW Cl (look [(39,Bp),(84,ry)]) Ki Tryz.f67 (n,g,()) P:=by kernel_rfl
theorem MQ (s:ByteArray) (i:Int) (P:Bool->Prop):((0:Int)<=i/\ ∃(y3:UInt8),s[i.toNat]?=some y3/\Br (decide ((↑y3.toNat:Int)<(65:Int))) (P false) ((0:Int)<=i/\ ∃(y4:UInt8),s[i.toNat]?=some y4/\Br (decide ((↑y4.toNat:Int)>(90:Int))) (P false) (Bi (λ(v5:Int×PUnit) (k6:Int×PUnit->Prop)=>Br (decide (v5.1<i)) ((0:Int)<=v5.1/\ ∃(y7:UInt8),s[v5.1.toNat]?=some y7/\(0:Int)<=i/\ ∃(y8:UInt8),s[i.toNat]?=some y8/\Br ((↑y7.toNat:Int)==(↑y8.toNat:Int)) (P false) (k6 (IntKind.i64.wrap (v5.1+(1:Int)),()))) (P true)) ((0:Int),PUnit.unit))))=fnW Cl (look []) Zg Tryz.f53 (s,i,()) P:=by kernel_rfl
theorem HB (s:ByteArray) (P:Bool->Prop):(Bi (λ(v2:Int×PUnit) (k3:Int×PUnit->Prop)=>Br (decide (v2.1<(↑s.size:Int))) ((0:Int)<=v2.1/\ ∃(y4:UInt8),s[v2.1.toNat]?=some y4/\ ∃(y5:Bool),Bp.fn (IntKind.i64.wrap (↑y4.toNat:Int),(65:Int),(90:Int),())=some y5/\Br (!y5) (P false) (Bi (λ(v6:Int×PUnit) (k7:Int×PUnit->Prop)=>Br (decide (v6.1<v2.1)) ((0:Int)<=v6.1/\ ∃(y8:UInt8),s[v6.1.toNat]?=some y8/\(0:Int)<=v2.1/\ ∃(y9:UInt8),s[v2.1.toNat]?=some y9/\Br ((↑y8.toNat:Int)==(↑y9.toNat:Int)) (P false) (k7 (IntKind.i64.wrap (v6.1+(1:Int)),()))) (k3 (IntKind.i64.wrap (v2.1+(1:Int)),()))) ((0:Int),PUnit.unit))) (∃(y4:Bool),Bp.fn ((↑s.size:Int),(1:Int),(8:Int),())=some y4/\P y4)) ((0:Int),PUnit.unit))=fnW Cl (look [(39,Bp)]) Ui Tryz.f68 (s,()) P:=by kernel_rfl
abbrev eS:Type:=Int×Int×ByteArray×List (List Int)×PUnit
theorem uC (p:Int×ByteArray×List (List Int)×Unit) (P:Bool->Prop):(Br ((↑p.2.2.1.length:Int)==(0:Int)) (P false) (Br ((↑p.2.1.size:Int) !=(↑p.2.2.1.length:Int)) (P false) (∃(y2:Bool),Ki.fn (p.1,p.2.2.1,())=some y2/\Br (!y2) (P false) (Bi (λ(v3:eS) (k4:eS->Prop)=>Br (decide (v3.1<(↑v3.2.2.1.size:Int))) (∃(y5:Bool),Zg.fn (v3.2.2.1,v3.1,())=some y5/\Br (!y5) (P false) (k4 (IntKind.i64.wrap (v3.1+(1:Int)),v3.2.1,v3.2.2.1,v3.2.2.2.1,()))) (P true)) ((0:Int),p.1,p.2.1,p.2.2.1,PUnit.unit)))))=fnW Cl (look [(52,Ki),(53,Zg)]) Dw Tryz.f33 (p,()) P:=by kernel_rfl
theorem uv (p:Int×ByteArray×List (List Int)×Unit) (P:Bool->Prop):(∃(y2:Bool),Ki.fn (p.1,p.2.2.1,())=some y2/\Br y2 (∃(y3:Bool),Ui.fn (p.2.1,())=some y3/\Br y3 (P ((↑p.2.1.size:Int)==(↑p.2.2.1.length:Int))) (P false)) (P false))=fnW Cl (look [(67,Ki),(68,Ui)]) Dw Tryz.f46 (p,()) P:=by kernel_rfl
theorem Aby (p:Int×ByteArray×List (List Int)×Unit) (room:Int) (P:Int->Prop):(Br (decide (IntKind.i64.wrap (room-(↑p.2.1.size:Int))<(0:Int))) (P (-1:Int)) (∃(y3:Int),aN.fn (p.2.2.1,IntKind.i64.wrap (room-(↑p.2.1.size:Int)),())=some y3/\Br (decide (y3<(0:Int))) (P (-1:Int)) (P y3)))=fnW Cl (look [(17,aN)]) rF Tryz.f4 (p,room,()) P:=by kernel_rfl
theorem Ac0 (p:Int×ByteArray×List (List Int)×Unit) (P:(Int×ByteArray×List (List Int)×Unit)->Prop):(∃(y2:List (List Int)),aO.fn (p.2.2.1,())=some y2/\P (p.1,p.2.1,y2,()))=fnW Cl (look [(22,aO)]) rG Tryz.f7 (p,()) P:=by kernel_rfl
theorem Abs (a b:Int×ByteArray×List (List Int)×Unit) (P:Bool->Prop):(Br (a.1 !=b.1) (P false) (Br (!a.2.1.toList==b.2.1.toList) (P false) (∃(y3:Bool),Nr.fn (a.2.2.1,b.2.2.1,())=some y3/\Br (!y3) (P false) (P true))))=fnW Cl (look [(29,Nr)]) rz Tryz.f11 (a,b,()) P:=by kernel_rfl
abbrev kV:Type:=Int×List Int×List (List Int)×List Int×PUnit
theorem BA (t:List Int×List (List Int)×List Int×Unit) (xs:List Int) (P:Int->Prop):(Bi (λ(v3:kV) (k4:kV->Prop)=>Br (decide (v3.1<(↑v3.2.2.1.length:Int))) (∃(y5:List Int),idx v3.2.2.1 v3.1=some y5/\ ∃(y6:Bool),An.fn (y5,xs,())=some y6/\Br y6 (P v3.1) (k4 (IntKind.i64.wrap (v3.1+(1:Int)),v3.2.1,v3.2.2.1,v3.2.2.2.1,()))) (P (-1:Int))) ((0:Int),t.1,t.2.1,t.2.2.1,PUnit.unit))=fnW Cl (look [(77,An)]) Ns Tryz.f61 (t,xs,()) P:=by kernel_rfl
theorem VV (xs:List Int) (_:True):fnW Cl (look []) Ra Tryz.f81 (xs,()) (λ(z:Int)=>z=(xs.length:Int)):=Eq.mp (WW xs _) rfl
theorem fW:Sound Tryz.prog 81 Ra:=
 Sound.Cv Bk Ak mixed Tryz.func81 (by kernel_rfl) (by kernel_rfl) λx h=>VV x.1 h
theorem ud {α:Type} [DecidableEq α]: ∀(l m:List α),l.Nodup->(∀x∈l,x∈m)->l.length<=m.length
 | [],m,_,_=>Nat.zero_le _
 |a::l,m,hn,hs=>by
  have ha:a∈m:=hs a (List.mem_cons_self ..)
  have hn:=List.nodup_cons.1 hn
  have:=ud l (m.erase a) hn.2 λx hx=>(List.mem_erase_of_ne (λ(e:x=a)=>hn.1 (by rw [<-e];exact hx))).2 (hs x (List.mem_cons_of_mem _ hx))
  rw [List.length_erase_of_mem ha] at this
  have:0<m.length:=List.length_pos_of_mem ha
  simp only [List.length_cons]
  omega
def upto (n:Nat):List Int:=(List.range n).map Int.ofNat
theorem oO (n:Nat):(upto n).Nodup:=by
 unfold upto
 exact List.Pairwise.map _ (λa b fD e=>fD (Int.ofNat.inj e)) List.nodup_range
theorem Ik {n:Nat} {x:Int} :x∈upto n↔0<=x/\x<n:=by
 unfold upto
 simp only [List.mem_map,List.mem_range]
 constructor
 ·rintro ⟨a,ha,rfl⟩;exact ⟨Int.natCast_nonneg _,Int.ofNat_lt.2 ha⟩
 ·rintro ⟨h1,h2⟩;exact ⟨x.toNat,by omega,by simp only [Int.ofNat_eq_natCast];omega⟩
theorem Px (n:Nat):(upto n).length=n:=by simp [upto]
theorem cL {xs:List Int} (h: ∀j (hj:j<xs.length),xs[j]∉xs.take j):xs.Nodup:=by
 refine List.pairwise_iff_getElem.2 λi j hi hj iW e=>h j hj ?_
 rw [<-e]
 exact List.mem_take_iff_getElem.2 ⟨i,by omega,rfl⟩
theorem oL {xs:List Int} (h:xs.Nodup): ∀j (hj:j<xs.length),xs[j]∉xs.take j:=by
 intro j hj hm
 obtain ⟨i,hi,e⟩:=List.mem_take_iff_getElem.1 hm
 exact List.pairwise_iff_getElem.1 h i j (by omega) hj (by omega) e
theorem Xi {xs:List Int} (h: ∀x∈xs,0<=x/\x<xs.length):(∀k:Nat,k<xs.length->(k:Int)∈xs)↔ ∀j (hj:j<xs.length),xs[j]∉xs.take j:=by
 constructor
 ·intro ha j hj hm
  have h1:=ud (upto xs.length) (xs.take j++xs.drop (j+1)) (oO _) λx hx=>by
   obtain ⟨h1,h2⟩:=Ik.1 hx
   have hx:=ha x.toNat (by omega)
   rw [show ((x.toNat:Nat):Int)=x by omega] at hx
   rw [<-List.take_append_drop j xs,List.mem_append,List.drop_eq_getElem_cons hj,List.mem_cons] at hx
   rcases hx with hx|rfl|hx
   ·exact List.mem_append_left _ hx
   ·exact List.mem_append_left _ hm
   ·exact List.mem_append_right _ hx
  rw [Px,List.length_append,List.length_take,List.length_drop] at h1
  omega
 ·intro hn k hk
  refine Classical.byContradiction λhc=>?_
  have h1:=ud xs ((upto xs.length).erase (k:Int)) (cL hn) λx hx=>by
   refine (List.mem_erase_of_ne λ(e:x=(k:Int))=>hc (by rw [<-e];exact hx)).2 (Ik.2 (h x hx))
  rw [List.length_erase_of_mem (Ik.2 ⟨by omega,by omega⟩),Px] at h1
  omega
def mask (xs:List Int):Nat:=xs.foldl (λm x=>m|||2^x.toNat) 0
theorem EP (xs:List Int) (x:Int):mask (xs++ [x])=mask xs|||2^x.toNat:=by simp [mask]
theorem tf (xs:List Int) (k:Nat): ∀a:Nat,(xs.foldl (λm x=>m|||2^x.toNat) a).testBit k=(a.testBit k||xs.any λx=>decide (x.toNat=k)):=by
 induction xs with
 |nil=>simp
 |cons x xs ih=>
  intro a
  rw [List.foldl_cons,ih,Nat.testBit_or,Nat.testBit_two_pow,List.any_cons,Bool.or_assoc]
theorem nu (xs:List Int) (k:Nat):(mask xs).testBit k=xs.any λx=>decide (x.toNat=k):=by
 unfold mask
 rw [tf,Nat.zero_testBit,Bool.false_or]
theorem PA {xs:List Int} {n:Nat} (h: ∀x∈xs,x.toNat<n):mask xs<2^n:=by
 refine Nat.lt_pow_two_of_testBit _ λk hk=>?_
 rw [nu]
 refine Bool.eq_false_iff.2 λht=>?_
 obtain ⟨x,hx,he⟩:=List.any_eq_true.1 ht
 have:=h x hx
 have:=of_decide_eq_true he
 omega
theorem qY {xs:List Int} (h: ∀x∈xs,0<=x/\x<xs.length):mask xs=2^xs.length-1↔ ∀k:Nat,k<xs.length->(k:Int)∈xs:=by
 constructor
 ·intro e k hk
  have h1:=nu xs k
  rw [e,Nat.testBit_two_pow_sub_one,decide_eq_true hk] at h1
  obtain ⟨x,hx,he⟩:=List.any_eq_true.1 h1.symm
  have:=(h x hx).1
  have:=of_decide_eq_true he
  have e:x=(k:Int):=by omega
  exact e▸hx
 ·intro ha
  refine Nat.eq_of_testBit_eq λk=>?_
  rw [nu,Nat.testBit_two_pow_sub_one]
  by_cases hk:k<xs.length
  ·rw [decide_eq_true hk]
   exact List.any_eq_true.2 ⟨k,ha k hk,by simp⟩
  ·rw [decide_eq_false hk]
   refine Bool.eq_false_iff.2 λht=>?_
   obtain ⟨x,hx,he⟩:=List.any_eq_true.1 ht
   have:=h x hx
   have:=of_decide_eq_true he
   omega
theorem PD {m:Nat} {x:Int} (hm:m<2^20) (h0:0<=x) (h1:x<20):
  IntKind.i64.wrap (((BitVec.ofInt IntKind.i64.bits (m:Int)|||BitVec.ofInt IntKind.i64.bits (IntKind.i64.wrap ((1:Int)*(2:Int)^min x.toNat IntKind.i64.bits))).toNat:Nat):Int)=((m|||2^x.toNat:Nat):Int):=by
 have hx:(2:Nat)^x.toNat<2^20:=Nat.pow_lt_pow_right (by omega) (by omega)
 have e1:min x.toNat IntKind.i64.bits=x.toNat:=by show min x.toNat 64=_;omega
 have e2:(1:Int)*(2:Int)^x.toNat=((2^x.toNat:Nat):Int):=by rw [Int.one_mul];exact (Int.natCast_pow 2 _).symm
 rw [e1,e2,Ca (n:=((2^x.toNat:Nat):Int)) (by have:(0:Int)<=((2^x.toNat:Nat):Int):=Int.natCast_nonneg _;omega) (by omega)]
 show IntKind.i64.wrap (((BitVec.ofInt 64 (m:Int)|||BitVec.ofInt 64 ((2^x.toNat:Nat):Int)).toNat:Nat):Int)=_
 rw [BitVec.ofInt_natCast,BitVec.ofInt_natCast,BitVec.toNat_or,BitVec.toNat_ofNat,BitVec.toNat_ofNat,Nat.mod_eq_of_lt (by omega),Nat.mod_eq_of_lt (by omega)]
 have:=Nat.or_lt_two_pow hm hx
 exact Ca (by omega) (by omega)
theorem tt (p:List Int) (h:short p):fnW Cl (look [(73,Bp),(91,Kp)]) Hr Tryz.f74 (p,()) (λ(z:Bool)=>z=Jk p):=by
 have hs:=h
 unfold short at h
 refine Eq.mp (uz p _) ⟨_,if_pos trivial,⟨λhp=>?_,λhp=>?_⟩⟩
 ·have hp:=Ck hp
  rw [Cn] at hp
  dsimp only at hp
  exact Bu λhh=>hp ⟨by omega,by omega⟩
 ·have hp:=Di hp
  rw [Cn] at hp
  dsimp only at hp
  refine Ag p.length (λv=>v.1) (λj _=>DL p.length p j) rfl (λj _ hj=>absurd hj (Nat.not_lt_zero _)) ?_
  rintro j ⟨i,⟨⟩⟩ K hj hi hR hK
  dsimp only at hi⊢
  subst hi
  refine Br.dec (λhl=>?_) λhl=>?_
  ·have hl:j<p.length:=by omega
   refine ⟨_,Am hl,_,if_pos trivial,⟨λhq=>?_,λhq=>?_⟩⟩
   ·have hq:=Ck hq
    rw [Cn,Ca (by omega) (by omega)] at hq
    exact Bu λhh=>hq ⟨(hh.2.2 j hl hl).1,(hh.2.2 j hl hl).2.1⟩
   ·have hq:=Di hq
    rw [Cn,Ca (by omega) (by omega)] at hq
    refine ⟨⟨by omega,by omega,by omega⟩,_,Am hl,?_⟩
    rw [show (Int.toNat 0)=0 from rfl,List.drop_zero,Int.toNat_natCast]
    refine ⟨_,if_pos (zW hs j),⟨λhc=>?_,λhc=>?_⟩⟩
    ·have hc:decide (p[j]∈p.take j)=true:=hc
     rw [decide_eq_true_iff] at hc
     exact Bu λhh=>(hh.2.2 j hl hl).2.2 hc
    ·have hc:decide (p[j]∈p.take j)=false:=hc
     rw [decide_eq_false_iff_not] at hc
     rw [Ah (by omega)]
     exact hK hl _ rfl (NQ hl hR hq.1 hq.2 hc)
  ·have:j=p.length:=by omega
   subst this
   exact Le ⟨by omega,by omega,hR⟩
theorem Zj:Sound Tryz.prog 74 Hr:=
 Sound.Cv Bk (Ae Xv (Ae iC Ak)) mixed Tryz.func74 (by kernel_rfl) (by kernel_rfl) λx h=>tt x.1 h
theorem tj (p:List Int) (h:short p):fnW Cl (look [(39,Bp),(81,Ra)]) Hr Tryz.f86 (p,()) (λ(z:Bool)=>z=Jk p):=by
 unfold short at h
 refine Eq.mp (uu p _) ⟨_,if_pos trivial,_,if_pos trivial,⟨λhp=>?_,λhp=>?_⟩⟩
 ·have hp:=Ck hp
  rw [Cn] at hp
  dsimp only at hp
  exact Bu λhh=>hp ⟨by omega,by omega⟩
 ·have hp:=Di hp
  rw [Cn] at hp
  dsimp only at hp
  refine Ag p.length (λv=>v.2.1) (λj v=>v.1=(mask (p.take j):Int)/\ ∀x∈p.take j,0<=x/\x<p.length) rfl ⟨rfl,by simp⟩ ?_
  rintro j ⟨m,i,⟨⟩⟩ K hj hi ⟨hm,hR⟩ hK
  dsimp only at hi hm⊢
  subst hi hm
  refine Br.dec (λhl=>?_) λhl=>?_
  ·have hl:j<p.length:=by omega
   refine ⟨_,Am hl,_,if_pos trivial,_,if_pos trivial,⟨λhq=>?_,λhq=>?_⟩⟩
   ·have hq:=Ck hq
    rw [Cn] at hq
    dsimp only at hq
    rw [Ca (by omega) (by omega)] at hq
    exact Bu λhh=>hq ⟨(hh.2.2 j hl hl).1,(hh.2.2 j hl hl).2.1⟩
   ·have hq:=Di hq
    rw [Cn] at hq
    dsimp only at hq
    rw [Ca (by omega) (by omega)] at hq
    refine ⟨by omega,?_⟩
    rw [Ah (by omega)]
    have hb:mask (p.take j)<2^20:=PA λx hx=>by have:=hR x hx;omega
    refine hK hl _ rfl ⟨?_,?_⟩
    ·dsimp only
     rw [PD hb hq.1 (by omega),List.take_succ_eq_append_getElem hl,EP]
    ·rw [List.take_succ_eq_append_getElem hl]
     intro x hx
     rcases List.mem_append.1 hx with hx|hx
     ·exact hR x hx
     ·rw [List.mem_singleton.1 hx];omega
  ·have:j=p.length:=by omega
   subst this
   rw [List.take_length] at hR⊢
   refine ⟨by omega,?_⟩
   have hx:(2:Nat)^p.length<=2^20:=Nat.pow_le_pow_right (by omega) (by omega)
   have yU:0<(2:Nat)^p.length:=Nat.two_pow_pos _
   have e1:min (p.length:Int).toNat IntKind.i64.bits=p.length:=by show min (p.length:Int).toNat 64=_;omega
   have e2:(1:Int)*(2:Int)^p.length=((2^p.length:Nat):Int):=by rw [Int.one_mul];exact (Int.natCast_pow 2 _).symm
   rw [e1,e2,Ca (n:=((2^p.length:Nat):Int)) (by omega) (by omega),Ca (by omega) (by omega)]
   have hE:((mask p:Int)==((2^p.length:Nat):Int)-1)=decide (mask p=2^p.length-1):=by
    rw [Bool.eq_iff_iff,beq_iff_eq,decide_eq_true_iff]
    omega
   show ((mask p:Int)==((2^p.length:Nat):Int)-1)=Jk p
   rw [hE]
   by_cases hf:mask p=2^p.length-1
   ·rw [decide_eq_true hf]
    have hn:=(Xi hR).1 ((qY hR).1 hf)
    refine Le ⟨by omega,by omega,λj hj _=>?_⟩
    have:=hR _ (List.getElem_mem hj)
    exact ⟨this.1,by omega,hn j hj⟩
   ·rw [decide_eq_false hf]
    refine Bu λhh=>hf ((qY hR).2 ((Xi hR).2 λj hj=>(hh.2.2 j hj hj).2.2))
theorem jN:Sound Tryz.prog 86 Hr:=
 Sound.Cv Bk (Ae Pv (Ae fW Ak)) mixed Tryz.func86 (by kernel_rfl) (by kernel_rfl) λx h=>tj x.1 h
theorem tq (n:Int) (g:List (List Int)) (h:Dx g):fnW Cl (look [(73,Bp),(74,Hr)]) Ki Tryz.f52 (n,g,()) (λ(z:Bool)=>z=Se n g):=by
 obtain ⟨h,h4⟩:=h
 refine Eq.mp (uy n g _) ⟨_,if_pos trivial,⟨λhp=>?_,λhp=>?_⟩⟩
 ·have hp:=Ck hp
  rw [Cn] at hp
  exact Bu λhh=>hp hh.1
 ·have hp:=Di hp
  rw [Cn] at hp
  refine Br.dec (λhg=>?_) λhg=>?_
  ·exact Bu λhh=>by have:=hh.2.1;omega
  ·refine Ag g.length (λv=>v.1) (λj _=> ∀p∈g.take j,Ka n p=true) rfl (by simp) ?_
   rintro j ⟨i,⟨⟩⟩ K hj hi hR hK
   dsimp only at hi⊢
   subst hi
   refine Br.dec (λhl=>?_) λhl=>?_
   ·have hl:j<g.length:=by omega
    have hm:g[j]∈g:=List.getElem_mem hl
    refine ⟨_,Am hl,⟨λhe=>?_,λhe=>?_⟩⟩
    ·simp only [bne_iff_ne,ne_eq] at he
     exact Bu λhh=>he (Ht.1 (hh.2.2 _ hm)).1
    ·simp only [bne_eq_false_iff_eq] at he
     refine ⟨_,Am hl,_,if_pos (h4 _ hm),⟨λhq=>?_,λhq=>?_⟩⟩
     ·have hq:=Ck hq
      exact Bu λhh=>hq (Ht.1 (hh.2.2 _ hm)).2
     ·have hq:=Di hq
      rw [Ah (by omega)]
      refine hK hl _ rfl ?_
      rw [List.take_succ_eq_append_getElem hl]
      intro x hx
      rcases List.mem_append.1 hx with hx|hx
      ·exact hR x hx
      ·rw [List.mem_singleton.1 hx];exact Ht.2 ⟨he,hq⟩
   ·have:j=g.length:=by omega
    subst this
    rw [List.take_length] at hR
    exact Le ⟨hp,by omega,hR⟩
theorem jQ:Sound Tryz.prog 52 Ki:=
 Sound.Cv Bk (Ae Xv (Ae Zj Ak)) mixed Tryz.func52 (by kernel_rfl) (by kernel_rfl) λx h=>tq x.1 x.2.1 h
theorem PF (p:List Int) (n:Int) (h:short p):fnW Cl (look [(81,Ra),(86,Hr)]) dS Tryz.f85 (p,n,()) (λ(z:Bool)=>z=!Ka n p):=by
 refine Eq.mp (QH p n _) ⟨_,if_pos trivial,⟨λhe=>?_,λhe=>⟨_,if_pos h,?_⟩⟩⟩
 ·simp only [bne_iff_ne,ne_eq] at he
  have:Ka n p=false:=NP.2 λhh=>he hh.1
  rw [this];rfl
 ·simp only [bne_eq_false_iff_eq] at he
  show (!Jk p)=_
  congr 1
  cases hp:Jk p with
  |true=>exact Le ⟨he,hp⟩
  |false=>exact Bu λhh=>by rw [hh.2] at hp;cases hp
theorem xl:Sound Tryz.prog 85 dS:=
 Sound.Cv Bk (Ae fW (Ae jN Ak)) mixed Tryz.func85 (by kernel_rfl) (by kernel_rfl) λx h=>PF x.1 x.2.1 h
theorem kD {α:Type} (P:α->Bool): ∀(l:List α) (i:Int),0<=i->(0<=Dv P l i↔l.any P=true)
 | [],i,_=>by simp [Dv]
 |y::r,i,h=>by
  simp only [Dv,List.any_cons,Bool.or_eq_true]
  split
  ·rename_i hy;simp [hy,h]
  ·rename_i hy;rw [kD P r (i+1) (by omega)];simp [hy]
theorem Ab6 (g:List (List Int)) (n:Int×Unit) (h:Dx g):fnW Cl (look [(85,dS)]) rD Tryz.f96 (g,n,()) (λ(z:Int)=>z=Dv (λp=>!Ka n.1 p) g 0):=by
 obtain ⟨h,h4⟩:=h
 refine Eq.mp (Abu g n _) ?_
 refine Ag g.length (λv=>v.1) (λj _=>Dv (λp=>!Ka n.1 p) (g.drop j) j=Dv (λp=>!Ka n.1 p) g 0) rfl (by simp) ?_
 rintro j ⟨i,⟨⟩⟩ K hj hi hR hK
 dsimp only at hi⊢
 subst hi
 refine Br.dec (λhl=>?_) λhl=>?_
 ·have hl:j<g.length:=by omega
  rw [List.drop_eq_getElem_cons hl] at hR
  simp only [Dv] at hR
  refine ⟨_,Am hl,_,if_pos (h4 _ (List.getElem_mem hl)),⟨λhe=>?_,λhe=>?_⟩⟩
  ·have he:(!Ka n.1 g[j])=true:=he
   rw [if_pos he] at hR
   exact hR
  ·have he:(!Ka n.1 g[j])=false:=he
   rw [if_neg (by rw [he];decide)] at hR
   rw [Ah (by omega)]
   exact hK hl _ rfl (by push_cast;exact hR)
 ·have:j=g.length:=by omega
  subst this
  rw [List.drop_length] at hR
  exact hR
theorem GF:Sound Tryz.prog 96 rD:=
 Sound.Cv Bk (Ae xl Ak) mixed Tryz.func96 (by kernel_rfl) (by kernel_rfl) λx h=>Ab6 x.1 x.2.1 h
theorem Ab2 (g:List (List Int)) (n:Int×Unit) (h:Dx g):fnW Cl (look [(96,rD)]) ry Tryz.f84 (g,n,()) (λ(z:Bool)=>z=List.any g (λp=>!Ka n.1 p)):=by
 refine Eq.mp (Abq g n _) ⟨_,if_pos h,?_⟩
 rw [Bool.eq_iff_iff,decide_eq_true_iff]
 exact kD _ g 0 (Int.le_refl 0)
theorem GB:Sound Tryz.prog 84 ry:=
 Sound.Cv Bk (Ae GF Ak) mixed Tryz.func84 (by kernel_rfl) (by kernel_rfl) λx h=>Ab2 x.1 x.2.1 h
theorem th (n:Int) (g:List (List Int)) (h:Dx g):fnW Cl (look [(39,Bp),(84,ry)]) Ki Tryz.f67 (n,g,()) (λ(z:Bool)=>z=Se n g):=by
 refine Eq.mp (ur n g _) ⟨_,if_pos trivial,⟨λhp=>?_,λhp=>?_⟩⟩
 ·have hp:Hg n 1 20=true:=hp
  rw [Cn] at hp
  refine Br.dec (λhl=>⟨_,if_pos h,?_⟩) λhl=>?_
  ·show (!List.any g (λp=>!Ka n p))=Se n g
   cases ha:List.any g (λp=>!Ka n p) with
   |true=>
    obtain ⟨p,uJ,DX⟩:=List.any_eq_true.1 ha
    exact Bu λhh=>by rw [hh.2.2 p uJ] at DX;cases DX
   |false=>
    refine Le ⟨hp,by omega,λp hm=>?_⟩
    have:=List.any_eq_false.1 ha p hm
    simpa using this
  ·exact Bu λhh=>by have:=hh.2.1;omega
 ·refine Bu λhh=>?_
  have:Hg n 1 20=true:=Cn.2 hh.1
  have hp:Hg n 1 20=false:=hp
  rw [this] at hp;cases hp
theorem jM:Sound Tryz.prog 67 Ki:=
 Sound.Cv Bk (Ae Pv (Ae GB Ak)) mixed Tryz.func67 (by kernel_rfl) (by kernel_rfl) λx h=>th x.1 x.2.1 h
theorem Hs {s:ByteArray} {k:Nat} (h:k<s.size):s[k]?=some s[k]:=getElem?_pos s k h
theorem LD (s:ByteArray) (i:Int) (h:0<=i/\i<s.size/\s.size<=4294967296):fnW Cl (look []) Zg Tryz.f53 (s,i,()) (λ(z:Bool)=>z=ik s i):=by
 obtain ⟨h1,h2,h3⟩:=h
 have hi:i.toNat<s.size:=by omega
 refine Eq.mp (MQ s i _) ⟨h1,_,Hs hi,Br.dec (λhq=>?_) λhq=>⟨h1,_,Hs hi,Br.dec (λhr=>?_) λhr=>?_⟩⟩
 ·refine Bu λ⟨c,hc,OC,_⟩=>?_
  rw [Hs hi] at hc;cases hc;omega
 ·refine Bu λ⟨c,hc,_,OC,_⟩=>?_
  rw [Hs hi] at hc;cases hc;omega
 ·refine Ag i.toNat (λv=>v.1) (λj _=> ∀k,k<j->s[k]?≠some s[i.toNat]) rfl (λk hk=>absurd hk (Nat.not_lt_zero _)) ?_
  rintro j ⟨i',⟨⟩⟩ K hj oX hR hK
  dsimp only at oX⊢
  subst oX
  refine Br.dec (λhl=>?_) λhl=>?_
  ·have hl:j<i.toNat:=by omega
   have hj:j<s.size:=by omega
   rw [Int.toNat_natCast]
   refine ⟨by omega,_,Hs hj,h1,_,Hs hi,⟨λhe=>?_,λhe=>?_⟩⟩
   ·simp only [beq_iff_eq,Int.natCast_inj] at he
    refine Bu λ⟨c,hc,_,_,OC⟩=>?_
    rw [Hs hi] at hc;cases hc
    exact OC j hl (by rw [Hs hj,UInt8.toNat_inj.1 he])
   ·simp only [beq_eq_false_iff_ne,ne_eq,Int.natCast_inj] at he
    rw [Ah (by omega)]
    refine hK hl _ rfl λk hk=>?_
    by_cases e:k=j
    ·subst e
     rw [Hs hj]
     exact λe=>he (by rw [Option.some.inj e])
    ·exact hR k (by omega)
  ·have:j=i.toNat:=by omega
   subst this
   exact Le ⟨_,Hs hi,by omega,by omega,hR⟩
theorem tX:Sound Tryz.prog 53 Zg:=
 Sound.Cv Bk Ak mixed Tryz.func53 (by kernel_rfl) (by kernel_rfl) λx h=>LD x.1 x.2.1 h
theorem FB (s:ByteArray) (h:s.size<=4294967296):fnW Cl (look [(39,Bp)]) Ui Tryz.f68 (s,()) (λ(z:Bool)=>z=Yx s):=by
 refine Eq.mp (HB s _) ?_
 refine Ag s.size (λv=>v.1) (λj _=> ∀k,k<j->rX s k) rfl (λk hk=>absurd hk (Nat.not_lt_zero _)) ?_
 rintro j ⟨i,⟨⟩⟩ K hj hi hR hK
 dsimp only at hi⊢
 subst hi
 refine Br.dec (λhl=>?_) λhl=>?_
 ·have hl:j<s.size:=by omega
  rw [Int.toNat_natCast]
  have hb:=(s[j]).toNat_lt
  refine ⟨by omega,_,Hs hl,_,if_pos trivial,⟨λhq=>?_,λhq=>?_⟩⟩
  ·have hq:=Ck hq
   rw [Cn] at hq
   dsimp only at hq
   rw [Ca (by omega) (by omega)] at hq
   refine Bu λhh=>?_
   obtain ⟨c,hc,OC,XJ,_⟩:=hh.2 j hl
   rw [Hs hl] at hc;cases hc
   exact hq ⟨by omega,by omega⟩
  ·have hq:=Di hq
   rw [Cn] at hq
   dsimp only at hq
   rw [Ca (by omega) (by omega)] at hq
   refine Ag j (λv=>v.1) (λm _=> ∀k,k<m->s[k]?≠some s[j]) rfl (λk hk=>absurd hk (Nat.not_lt_zero _)) ?_
   rintro m ⟨i',⟨⟩⟩ K' hm oX hR' YS
   dsimp only at oX⊢
   subst oX
   refine Br.dec (λGq=>?_) λGq=>?_
   ·have Gq:m<j:=by omega
    have hm':m<s.size:=by omega
    rw [Int.toNat_natCast]
    refine ⟨by omega,_,Hs hm',by omega,_,Hs hl,⟨λhe=>?_,λhe=>?_⟩⟩
    ·simp only [beq_iff_eq,Int.natCast_inj] at he
     refine Bu λhh=>?_
     obtain ⟨c,hc,_,_,OC⟩:=hh.2 j hl
     rw [Hs hl] at hc;cases hc
     exact OC m Gq (by rw [Hs hm',UInt8.toNat_inj.1 he])
    ·simp only [beq_eq_false_iff_ne,ne_eq,Int.natCast_inj] at he
     rw [Ah (by omega)]
     refine YS Gq _ rfl λk hk=>?_
     by_cases e:k=m
     ·subst e
      rw [Hs hm']
      exact λe=>he (by rw [Option.some.inj e])
     ·exact hR' k (by omega)
   ·have:m=j:=by omega
    subst this
    rw [Ah (by omega)]
    refine hK hl _ rfl λk hk=>?_
    by_cases e:k=m
    ·subst e
     exact ⟨_,Hs hl,by omega,by omega,hR'⟩
    ·exact hR k (by omega)
 ·have:j=s.size:=by omega
  subst this
  refine ⟨_,if_pos trivial,?_⟩
  show Hg s.size 1 8=_
  cases hr:Hg s.size 1 8 with
  |true=>rw [Cn] at hr;exact Le ⟨by omega,hR⟩
  |false=>refine Bu λhh=>?_;rw [Cn.2 ⟨by omega,by omega⟩] at hr;cases hr
theorem pU:Sound Tryz.prog 68 Ui:=
 Sound.Cv Bk (Ae Pv Ak) mixed Tryz.func68 (by kernel_rfl) (by kernel_rfl) λx h=>FB x.1 h
theorem AO {p:PP} (h:Bf p=true):1<=p.1/\p.1<=20/\1<=p.2.2.1.length/\p.2.2.1.length<=8:=by
 obtain ⟨h1,h2,h3⟩:=Ht.1 h
 obtain ⟨h4,h5,_⟩:=Ht.1 h1
 obtain ⟨h6,_⟩:=Ht.1 h2
 omega
theorem tu (p:PP) (h:Cf p):fnW Cl (look [(52,Ki),(53,Zg)]) Dw Tryz.f33 (p,()) (λ(z:Bool)=>z=Bf p):=by
 obtain ⟨hn,hg⟩:=h
 refine Eq.mp (uC p _) ⟨λh0=>?_,λh0=>⟨λh1=>?_,λh1=>⟨_,if_pos hg,⟨λh2=>?_,λh2=>?_⟩⟩⟩⟩
 ·simp only [beq_iff_eq] at h0
  exact Bu λhh=>by obtain ⟨_,h2,h3⟩:=hh;have:=(Ht.1 h2).1;omega
 ·simp only [bne_iff_ne,ne_eq,Int.natCast_inj] at h1
  exact Bu λhh=>h1 hh.2.2
 ·have h2:=Ck h2
  exact Bu λhh=>h2 hh.1
 ·simp only [beq_eq_false_iff_ne,ne_eq] at h0
  simp only [bne_eq_false_iff_eq,Int.natCast_inj] at h1
  have h2:Se p.1 p.2.2.1=true:=Di h2
  refine Ag p.2.1.size (λv=>v.1) (λj v=>v.2=(p.1,p.2.1,p.2.2.1,())/\ ∀k,k<j->rX p.2.1 k) rfl ⟨rfl,λk hk=>absurd hk (Nat.not_lt_zero _)⟩ ?_
  rintro j ⟨i,v⟩ K hj hi ⟨hv,hR⟩ hK
  dsimp only at hi hv⊢
  subst hi hv
  dsimp only
  refine Br.dec (λhl=>?_) λhl=>?_
  ·have hl:j<p.2.1.size:=by omega
   refine ⟨_,if_pos ⟨Int.natCast_nonneg j,Int.ofNat_lt.2 hl,hn⟩,⟨λhq=>?_,λhq=>?_⟩⟩
   ·have hq: ¬ik p.2.1 j=true:=Ck hq
    refine Bu λhh=>hq (Ht.2 ?_)
    rw [Int.toNat_natCast]
    exact (Ht.1 hh.2.1).2 j hl
   ·have hq:ik p.2.1 j=true:=Di hq
    have hq:=Ht.1 hq
    rw [Int.toNat_natCast] at hq
    rw [Ah (by omega)]
    refine hK hl _ rfl ⟨rfl,λk hk=>?_⟩
    by_cases e:k=j
    ·subst e;exact hq
    ·exact hR k (by omega)
  ·have:j=p.2.1.size:=by omega
   subst this
   have:=(Ht.1 h2).2.1
   exact Le ⟨h2,Ht.2 ⟨⟨by omega,by omega⟩,hR⟩,h1⟩
theorem Rh:Sound Tryz.prog 33 Dw:=
 Sound.Cv Bk (Ae jQ (Ae tX Ak)) mixed Tryz.func33 (by kernel_rfl) (by kernel_rfl) λx h=>tu x.1 h
theorem tm (p:PP) (h:Cf p):fnW Cl (look [(67,Ki),(68,Ui)]) Dw Tryz.f46 (p,()) (λ(z:Bool)=>z=Bf p):=by
 obtain ⟨hn,hg⟩:=h
 refine Eq.mp (uv p _) ⟨_,if_pos hg,⟨λh1=>⟨_,if_pos hn,⟨λh2=>?_,λh2=>?_⟩⟩,λh1=>?_⟩⟩
 ·have h1:Se p.1 p.2.2.1=true:=h1
  have h2:Yx p.2.1=true:=h2
  by_cases e:p.2.1.size=p.2.2.1.length
  ·rw [e,beq_self_eq_true];exact Le ⟨h1,h2,e⟩
  ·rw [show ((p.2.1.size:Int)==(p.2.2.1.length:Int))=false from beq_eq_false_iff_ne.2 (by omega)];exact Bu λhh=>e hh.2.2
 ·have h2:Yx p.2.1=false:=h2
  exact Bu λhh=>by rw [hh.2.1] at h2;cases h2
 ·have h1:Se p.1 p.2.2.1=false:=h1
  exact Bu λhh=>by rw [hh.1] at h1;cases h1
theorem Rg:Sound Tryz.prog 46 Dw:=
 Sound.Cv Bk (Ae jM (Ae pU Ak)) mixed Tryz.func46 (by kernel_rfl) (by kernel_rfl) λx h=>tm x.1 h
theorem Aba (p:PP) (room:Int) (h:Cf p/\roomy room):fnW Cl (look [(17,aN)]) rF Tryz.f4 (p,room,()) (λ(z:Int)=>z=Tg p room):=by
 obtain ⟨⟨h1,h2⟩,h3,h4⟩:=h
 refine Eq.mp (Aby p room _) ?_
 rw [Ca (by omega) (by omega)]
 refine Br.dec (λhn=>?_) λhn=>⟨_,if_pos ⟨h2,by dsimp only;omega,by dsimp only;omega⟩,Br.dec (λhm=>?_) λhm=>?_⟩
 ·simp only [Tg,if_pos hn]
 ·exact ((if_neg hn).trans (if_pos hm)).symm
 ·exact ((if_neg hn).trans (if_neg hm)).symm
theorem GI:Sound Tryz.prog 4 rF:=
 Sound.Cv Bk (Ae oq Ak) mixed Tryz.func4 (by kernel_rfl) (by kernel_rfl) λx h=>Aba x.1 x.2.1 h
theorem Abc (p:PP) (h:Cf p):fnW Cl (look [(22,aO)]) rG Tryz.f7 (p,()) (λ(z:PP)=>z=p):=Eq.mp (Ac0 p _) ⟨_,if_pos h.2,rfl⟩
theorem GJ:Sound Tryz.prog 7 rG:=
 Sound.Cv Bk (Ae ov Ak) mixed Tryz.func7 (by kernel_rfl) (by kernel_rfl) λx h=>Abc x.1 h
theorem vn {a b:ByteArray} :(a.toList==b.toList)=decide (a=b):=by
 rw [Bool.eq_iff_iff,beq_iff_eq,decide_eq_true_iff,ByteArray.toList_eq,ByteArray.toList_eq]
 exact ⟨λh=>ByteArray.ext (Array.toList_inj.1 h),λh=>by rw [h]⟩
theorem Ab4 (a b:PP) (h:Cf a):fnW Cl (look [(29,Nr)]) rz Tryz.f11 (a,b,()) (λ(z:Bool)=>z=kC a b):=by
 refine Eq.mp (Abs a b _) ⟨λh1=>?_,λh1=>⟨λh2=>?_,λh2=>⟨_,if_pos h.2,⟨λh3=>?_,λh3=>?_⟩⟩⟩⟩
 ·simp only [bne_iff_ne,ne_eq] at h1
  unfold kC
  rw [decide_eq_false h1];rfl
 ·rw [vn] at h2
  unfold kC
  cases hd:decide (a.2.1=b.2.1)<;>simp_all
 ·have h3:(!Lj a.2.2.1 b.2.2.1)=true:=h3
  simp only [Lj,Bool.not_eq_true'] at h3
  unfold kC
  rw [h3];simp
 ·have h3:(!Lj a.2.2.1 b.2.2.1)=false:=h3
  rw [vn] at h2
  simp only [Lj] at h3
  simp only [bne_eq_false_iff_eq] at h1
  unfold kC
  simp_all
theorem GC:Sound Tryz.prog 11 rz:=
 Sound.Cv Bk (Ae oa Ak) mixed Tryz.func11 (by kernel_rfl) (by kernel_rfl) λx h=>Ab4 x.1 x.2.1 h
theorem zg (p:PP):kC p p=true:=by simp [kC]
theorem zE (t:TT) (xs:List Int) (h:Iv t/\short xs):fnW Cl (look [(77,An)]) Ns Tryz.f61 (t,xs,()) (λ(z:Int)=>z=Dv (λp=>decide (p=xs)) t.2.1 0):=by
 obtain ⟨⟨_,⟨h,h4⟩,_⟩,_⟩:=h
 refine Eq.mp (BA t xs _) ?_
 refine Ag t.2.1.length (λv=>v.1) (λj v=>v.2=(t.1,t.2.1,t.2.2.1,())/\Dv (λp=>decide (p=xs)) (t.2.1.drop j) j=Dv (λp=>decide (p=xs)) t.2.1 0) rfl ⟨rfl,by simp⟩ ?_
 rintro j ⟨i,v⟩ K hj hi ⟨hv,hR⟩ hK
 dsimp only at hi hv⊢
 subst hi hv
 dsimp only
 refine Br.dec (λhl=>?_) λhl=>?_
 ·have hl:j<t.2.1.length:=by omega
  rw [List.drop_eq_getElem_cons hl] at hR
  simp only [Dv] at hR
  refine ⟨_,Am hl,_,if_pos (h4 _ (List.getElem_mem hl)),⟨λhe=>?_,λhe=>?_⟩⟩
  ·have he:decide (t.2.1[j]=xs)=true:=he
   rw [if_pos he] at hR
   exact hR
  ·have he:decide (t.2.1[j]=xs)=false:=he
   rw [if_neg (by rw [he];decide)] at hR
   rw [Ah (by omega)]
   exact hK hl _ rfl ⟨rfl,by push_cast;exact hR⟩
 ·have:j=t.2.1.length:=by omega
  subst this
  rw [List.drop_length] at hR
  exact hR
theorem ou:Sound Tryz.prog 61 Ns:=
 Sound.Cv Bk (Ae Sz Ak) mixed Tryz.func61 (by kernel_rfl) (by kernel_rfl) λx h=>zE x.1 x.2.1 h
end Go.Proofs.YtjbdmibbbpdnnaaGreat

namespace Go.Proofs.YtjbdmibbbpdnnaaGreat
open Go.RowKit
def Ji (xs:List Int) (i:Int):Int:=xs.getD i.toNat 0
def Aa (p q:List Int):List Int:=p.map (Ji q)
def Wi (f:Nat->Nat) (g:Nat->Int) (m:Nat) (init:List Int):List Int:=(List.range m).foldl (λ(out:List Int) (i:Nat)=>out.set (f i) (g i)) init
def Ao (p:List Int):List Int:=Wi (λi=>(Ji p (i:Int)).toNat) (λi=>(i:Int)) p.length (List.replicate p.length 0)
def Iy (n:Nat) (p:List Int):Prop:= ∀y∈p,0<=y/\y<n
noncomputable abbrev Uh:Spec:=Cv (.pair tL (.pair tL .unit)) tL false true (λx=>List.length x.1<=20/\Iy (List.length x.2.1) x.1) (λx=>Aa x.1 x.2.1)
noncomputable abbrev Es:Spec:=Cv (.pair tL .unit) tL false true (λx=>List.length x.1<=20/\Iy (List.length x.1) x.1) (λx=>Ao x.1)
noncomputable abbrev Cd:Spec:=Cv (.pair tI .unit) tL false true (λx=>0<=x.1/\x.1<=20) (λx=>upto x.1.toNat)
noncomputable abbrev Kr:Spec:=Cv (.pair tL .unit) tL false true (λx=>Jk x.1=true) (λx=>Ao x.1)
def Af (g:List (List Int)) (l:Int):List Int:=if l>0 then g.getD (l-1).toNat [] else Ao (g.getD (-l-1).toNat [])
def Gx (n:Int) (l:Int):Prop:=l≠0/\ -n<=l/\l<=n
noncomputable abbrev Ke:Spec:=Cv (.pair Zp (.pair tI .unit)) tL false false (λx=>Gx (List.length x.1) x.2.1/\List.length x.1<=8/\ ∀p∈x.1,Jk p=true) (λx=>Af x.1 x.2.1)
def Aw (n:Nat):List Int:=(List.range n).flatMap λ(k:Nat)=> [(k:Int)+1,-((k:Int)+1)]
noncomputable abbrev Ic:Spec:=Cv (.pair tI .unit) tL false true (λx=>0<=x.1/\x.1<=8) (λx=>Aw x.1.toNat)
noncomputable abbrev Zd:Spec:=Cv (.pair Dn (.pair tL (.pair tI .unit))) tL false true (λx=>Bf x.1=true/\List.length x.2.1<=20/\(∀y∈x.2.1,0<=y/\y<x.1.1)/\Gx (List.length x.1.2.2.1) x.2.2.1) (λx=>Aa x.2.1 (Af x.1.2.2.1 x.2.2.1))
theorem qf (p q:List Int) (P:List Int->Prop):(((0:Int)<=(↑p.length:Int)/\(↑p.length:Int)<(↑Bg:Int)+(1:Int))/\(↑p.length:Int)=(↑p.length:Int)/\0=0/\(List.replicate (↑p.length:Int).toNat (Int.ofNat (nat_lit 0))).length=(List.replicate (↑p.length:Int).toNat (Int.ofNat (nat_lit 0))).length/\Bi (λ(v3:Int×List Int×PUnit) (k4:Int×List Int×PUnit->Prop)=>Br (decide (v3.1<(↑p.length:Int))) (∃(y5:Int),idx p v3.1=some y5/\ ∃(y6:Int),idx q y5=some y6/\((0:Int)<=v3.1/\v3.1<(↑v3.2.1.length:Int))/\0+v3.1.toNat<v3.2.1.length/\0=0/\v3.2.1.length=(v3.2.1.set (0+v3.1.toNat) y6).length/\k4 (IntKind.i64.wrap (v3.1+(1:Int)),v3.2.1.set (0+v3.1.toNat) y6,())) (P (List.take v3.2.1.length (List.drop 0 v3.2.1)))) ((0:Int),List.replicate (↑p.length:Int).toNat (Int.ofNat (nat_lit 0)),PUnit.unit))=fnW Cl (look []) Uh Tryz.f65 (p,q,()) P:=by kernel_rfl
theorem qg (p:List Int) (P:List Int->Prop):(((0:Int)<=(↑p.length:Int)/\(↑p.length:Int)<(↑Bg:Int)+(1:Int))/\(↑p.length:Int)=(↑p.length:Int)/\0=0/\(List.replicate (↑p.length:Int).toNat (Int.ofNat (nat_lit 0))).length=(List.replicate (↑p.length:Int).toNat (Int.ofNat (nat_lit 0))).length/\Bi (λ(v2:Int×List Int×PUnit) (k3:Int×List Int×PUnit->Prop)=>Br (decide (v2.1<(↑p.length:Int))) (∃(y4:Int),idx p v2.1=some y4/\((0:Int)<=y4/\y4<(↑v2.2.1.length:Int))/\0+y4.toNat<v2.2.1.length/\0=0/\v2.2.1.length=(v2.2.1.set (0+y4.toNat) v2.1).length/\k3 (IntKind.i64.wrap (v2.1+(1:Int)),v2.2.1.set (0+y4.toNat) v2.1,())) (P (List.take v2.2.1.length (List.drop 0 v2.2.1)))) ((0:Int),List.replicate (↑p.length:Int).toNat (Int.ofNat (nat_lit 0)),PUnit.unit))=fnW Cl (look []) Es Tryz.f83 (p,()) P:=by kernel_rfl
theorem HI (p:List Int) (P:List Int->Prop):(((0:Int)<=(↑p.length:Int)/\(↑p.length:Int)<(↑Bg:Int)+(1:Int))/\(↑p.length:Int)=(↑p.length:Int)/\0=0/\(List.replicate (↑p.length:Int).toNat (Int.ofNat (nat_lit 0))).length=(List.replicate (↑p.length:Int).toNat (Int.ofNat (nat_lit 0))).length/\Bi (λ(v2:Int×List Int×PUnit) (k3:Int×List Int×PUnit->Prop)=>Br (decide (v2.1<(↑p.length:Int))) (∃(y4:Int),idx p v2.1=some y4/\((0:Int)<=y4/\y4<(↑v2.2.1.length:Int))/\0+y4.toNat<v2.2.1.length/\0=0/\v2.2.1.length=(v2.2.1.set (0+y4.toNat) v2.1).length/\k3 (IntKind.i64.wrap (v2.1+(1:Int)),v2.2.1.set (0+y4.toNat) v2.1,())) (P (List.take v2.2.1.length (List.drop 0 v2.2.1)))) ((0:Int),List.replicate (↑p.length:Int).toNat (Int.ofNat (nat_lit 0)),PUnit.unit))=fnW Cl (look []) Es Tryz.f93 (p,()) P:=by kernel_rfl
theorem qk (p:List Int) (P:List Int->Prop):(∃(y2:Bool),Hr.fn (p,())=some y2/\Br (!y2) (P (List.take 0 (List.drop 0 []))) (∃(y3:List Int),Es.fn (p,())=some y3/\P y3))=fnW Cl (look [(74,Hr),(93,Es)]) Kr Tryz.f76 (p,()) P:=by kernel_rfl
theorem AS (n:Int) (P:List Int->Prop):(0=0/\0=([]:List Int).length/\Bi (λ(v2:Int×List Int×PUnit) (k3:Int×List Int×PUnit->Prop)=>Br (decide (v2.1<n)) (0=0/\v2.2.1.length=v2.2.1.length/\v2.2.1.length+(List.take 1 (List.drop 0 [v2.1])).length<=Bg/\0=0/\(v2.2.1++List.take 1 (List.drop 0 [v2.1])).length=(v2.2.1++List.take 1 (List.drop 0 [v2.1])).length/\k3 (IntKind.i64.wrap (v2.1+(1:Int)),v2.2.1++List.take 1 (List.drop 0 [v2.1]),())) (P (List.take v2.2.1.length (List.drop 0 v2.2.1)))) ((0:Int),[],PUnit.unit))=fnW Cl (look []) Cd Tryz.f35 (n,()) P:=by kernel_rfl
theorem AT (g:List (List Int)) (l:Int) (P:List Int->Prop):(Br (decide (l>(0:Int))) (∃(y3:List Int),idx g (IntKind.i64.wrap (l-(1:Int)))=some y3/\P y3) (∃(y3:List Int),idx g (IntKind.i64.wrap (IntKind.i64.wrap ((0:Int)-l)-(1:Int)))=some y3/\ ∃(y4:List Int),Es.fn (y3,())=some y4/\P y4))=fnW Cl (look [(83,Es)]) Ke Tryz.f66 (g,l,()) P:=by kernel_rfl
theorem HD (n:Int) (P:List Int->Prop):(0=0/\0=([]:List Int).length/\Bi (λ(v2:Int×List Int×PUnit) (k3:Int×List Int×PUnit->Prop)=>Br (decide (v2.1<n)) (0=0/\v2.2.1.length=v2.2.1.length/\v2.2.1.length+(List.take 2 (List.drop 0 [IntKind.i64.wrap (v2.1+(1:Int)),IntKind.i64.wrap ((0:Int)-IntKind.i64.wrap (v2.1+(1:Int)))])).length<=Bg/\0=0/\(v2.2.1++List.take 2 (List.drop 0 [IntKind.i64.wrap (v2.1+(1:Int)),IntKind.i64.wrap ((0:Int)-IntKind.i64.wrap (v2.1+(1:Int)))])).length=(v2.2.1++List.take 2 (List.drop 0 [IntKind.i64.wrap (v2.1+(1:Int)),IntKind.i64.wrap ((0:Int)-IntKind.i64.wrap (v2.1+(1:Int)))])).length/\k3 (IntKind.i64.wrap (v2.1+(1:Int)),v2.2.1++List.take 2 (List.drop 0 [IntKind.i64.wrap (v2.1+(1:Int)),IntKind.i64.wrap ((0:Int)-IntKind.i64.wrap (v2.1+(1:Int)))]),())) (P (List.take v2.2.1.length (List.drop 0 v2.2.1)))) ((0:Int),[],PUnit.unit))=fnW Cl (look []) Ic Tryz.f43 (n,()) P:=by kernel_rfl
theorem MM (p:Int×ByteArray×List (List Int)×Unit) (s:List Int) (l:Int) (P:List Int->Prop):(∃(y4:List Int),idx p.2.2.1 (IntKind.i64.wrap ((if true=true then if IntKind.i64.wrap ((0:Int)-l)>l then IntKind.i64.wrap ((0:Int)-l) else l else if IntKind.i64.wrap ((0:Int)-l)<l then IntKind.i64.wrap ((0:Int)-l) else l)-(1:Int)))=some y4/\Br (decide (l<(0:Int))) (∃(y5:List Int),Kr.fn (y4,())=some y5/\0=0/\0=([]:List Int).length/\Bi (λ(v6:Int×List Int×PUnit) (k7:Int×List Int×PUnit->Prop)=>Br (decide (v6.1<(↑s.length:Int))) (∃(y8:Int),idx s v6.1=some y8/\ ∃(y9:Int),idx y5 y8=some y9/\0=0/\v6.2.1.length=v6.2.1.length/\v6.2.1.length+(List.take 1 (List.drop 0 [y9])).length<=Bg/\0=0/\(v6.2.1++List.take 1 (List.drop 0 [y9])).length=(v6.2.1++List.take 1 (List.drop 0 [y9])).length/\k7 (IntKind.i64.wrap (v6.1+(1:Int)),v6.2.1++List.take 1 (List.drop 0 [y9]),())) (P (List.take v6.2.1.length (List.drop 0 v6.2.1)))) ((0:Int),[],PUnit.unit)) (0=0/\0=([]:List Int).length/\Bi (λ(v5:Int×List Int×PUnit) (k6:Int×List Int×PUnit->Prop)=>Br (decide (v5.1<(↑s.length:Int))) (∃(y7:Int),idx s v5.1=some y7/\ ∃(y8:Int),idx y4 y7=some y8/\0=0/\v5.2.1.length=v5.2.1.length/\v5.2.1.length+(List.take 1 (List.drop 0 [y8])).length<=Bg/\0=0/\(v5.2.1++List.take 1 (List.drop 0 [y8])).length=(v5.2.1++List.take 1 (List.drop 0 [y8])).length/\k6 (IntKind.i64.wrap (v5.1+(1:Int)),v5.2.1++List.take 1 (List.drop 0 [y8]),())) (P (List.take v5.2.1.length (List.drop 0 v5.2.1)))) ((0:Int),[],PUnit.unit)))=fnW Cl (look [(76,Kr)]) Zd Tryz.f57 (p,s,l,()) P:=by kernel_rfl
theorem Ie {xs:List Int} {i:Nat} (h:i<xs.length):Ji xs (i:Int)=xs[i]:=by
 unfold Ji
 rw [Int.toNat_natCast,List.getD_eq_getElem?_getD,List.getElem?_eq_getElem h];rfl
theorem gV {xs:List Int} {y:Int} (h0:0<=y) (h:y<xs.length):idx xs y=some (Ji xs y):=by
 have hy:y.toNat<xs.length:=by omega
 have e:y=(y.toNat:Int):=by omega
 rw [e,Am hy,Ie hy]
theorem Tq (f:Nat->Nat) (g:Nat->Int) (m:Nat) (init:List Int):Wi f g (m+1) init=(Wi f g m init).set (f m) (g m):=by simp [Wi,List.range_succ]
theorem Wj (f:Nat->Nat) (g:Nat->Int) (m:Nat) (init:List Int):(Wi f g m init).length=init.length:=by
 induction m with
 |zero=>rfl
 |succ m ih=>rw [Tq,List.length_set,ih]
theorem kl (f:Nat->Nat) (g:Nat->Int) (init:List Int): ∀(m:Nat),(∀i j,i<m->j<m->f i=f j->i=j)-> ∀i,i<m->f i<init.length->(Wi f g m init)[f i]?=some (g i)
 |0,_,i,h,_=>absurd h (Nat.not_lt_zero _)
 |m+1,hf,i,hi,hl=>by
  rw [Tq]
  by_cases e:i=m
  ·subst e
   exact List.getElem?_set_self (by rw [Wj];exact hl)
  ·rw [List.getElem?_set_ne (λh=>e (hf i m hi (by omega) h.symm))]
   exact kl f g init m (λa b ha hb=>hf a b (by omega) (by omega)) i (by omega) hl
structure Xg (p:List Int):Prop where
 pos:1<=p.length
 len:p.length<=20
 row:Iy p.length p
 nodup:p.Nodup
theorem jB {p:List Int} (h:Jk p=true):Xg p:=by
 obtain ⟨h1,h2,h3⟩:=Ht.1 h
 refine ⟨h1,h2,λy hy=>?_,cL λj hj=>(h3 j hj hj).2.2⟩
 obtain ⟨j,hj,rfl⟩:=List.mem_iff_getElem.1 hy
 have:=h3 j hj hj
 omega
theorem Xg.inj {p:List Int} (h:Xg p) (i j:Nat) (hi:i<p.length) (hj:j<p.length) (e:(Ji p (i:Int)).toNat=(Ji p (j:Int)).toNat):i=j:=by
 rw [Ie hi,Ie hj] at e
 have h1:=h.row _ (List.getElem_mem hi)
 have h2:=h.row _ (List.getElem_mem hj)
 have e:p[i]=p[j]:=by omega
 refine Classical.byContradiction λFc=>?_
 rcases Nat.lt_or_gt_of_ne Fc with hl|hl
 ·exact List.pairwise_iff_getElem.1 h.nodup i j hi hj hl e
 ·exact List.pairwise_iff_getElem.1 h.nodup j i hj hi hl e.symm
theorem Xg.KU {p:List Int} (h:Xg p) (k:Nat) (hk:k<p.length): ∃i,i<p.length/\(Ji p (i:Int)).toNat=k:=by
 have hm:=(Xi (xs:=p) h.row).2 (oL h.nodup) k hk
 obtain ⟨i,hi,e⟩:=List.mem_iff_getElem.1 hm
 exact ⟨i,hi,by rw [Ie hi,e];exact Int.toNat_natCast k⟩
theorem Xg.lt {p:List Int} (h:Xg p) {i:Nat} (hi:i<p.length):(Ji p (i:Int)).toNat<p.length:=by
 rw [Ie hi]
 have:=h.row _ (List.getElem_mem hi)
 omega
theorem lZ (p:List Int):(Ao p).length=p.length:=by unfold Ao;rw [Wj,List.length_replicate]
theorem JZ {p:List Int} (h:Xg p) {i:Nat} (hi:i<p.length):(Ao p)[(Ji p (i:Int)).toNat]?=some (i:Int):=
 kl (λi=>(Ji p (i:Int)).toNat) (λi=>(i:Int)) _ p.length (λi j hi hj=>h.inj i j hi hj) i hi (by rw [List.length_replicate];exact h.lt hi)
theorem OX {p:List Int} (h:Xg p):Iy p.length (Ao p):=by
 intro y hy
 obtain ⟨k,hk,rfl⟩:=List.mem_iff_getElem.1 hy
 have mX:k<p.length:=by rw [lZ] at hk;exact hk
 obtain ⟨i,hi,rfl⟩:=h.KU k mX
 have:=JZ h hi
 rw [List.getElem?_eq_getElem hk] at this
 rw [Option.some.inj this]
 omega
theorem Nw (p q:List Int):(Aa p q).length=p.length:=by simp [Aa]
theorem vA {p q:List Int} {n:Nat} (hp:Iy q.length p) (hq:Iy n q):Iy n (Aa p q):=by
 intro y hy
 obtain ⟨x,hx,rfl⟩:=List.mem_map.1 hy
 have h1:=hp x hx
 rw [show x=(x.toNat:Int) by omega,Ie (by omega)]
 exact hq _ (List.getElem_mem _)
theorem pF (p q:List Int) (h:p.length<=20/\Iy q.length p):fnW Cl (look []) Uh Tryz.f65 (p,q,()) (λ(z:List Int)=>z=Aa p q):=by
 obtain ⟨h,hr⟩:=h
 refine Eq.mp (qf p q _) ?_
 refine ⟨⟨by omega,by show (p.length:Int)<(4294967296:Int)+1;omega⟩,rfl,rfl,rfl,?_⟩
 have Ly:=Nw p q
 refine Ag p.length (λv=>v.1) (λj v=>v.2.1.length=(Aa p q).length/\v.2.1.take j=(Aa p q).take j) rfl ⟨by rw [Ly];simp,by simp⟩ ?_
 rintro j ⟨i,ys,⟨⟩⟩ K hj hi ⟨h1,h2⟩ hK
 dsimp only at hi h1 h2⊢
 subst hi
 refine Br.dec (λhl=>?_) λhl=>?_
 ·have hl:j<p.length:=by omega
  have hy:=hr _ (List.getElem_mem hl)
  refine ⟨_,Am hl,_,gV hy.1 hy.2,⟨by omega,by omega⟩,by rw [Int.toNat_natCast];omega,rfl,by rw [List.length_set],?_⟩
  rw [Ah (by omega),Int.toNat_natCast,Nat.zero_add]
  have Gq:j<(Aa p q).length:=by rw [Ly];exact hl
  have e:Ji q p[j]=(Aa p q)[j]:=by simp [Aa]
  rw [e]
  exact hK hl _ rfl ⟨by rw [List.length_set];exact h1,Gg Gq h1 h2⟩
 ·have:j=p.length:=by omega
  subst this
  rw [<-Ly,List.take_length,<-h1,List.take_length] at h2
  rw [List.drop_zero,List.take_length]
  exact h2
theorem Pr:Sound Tryz.prog 65 Uh:=
 Sound.Cv Bk Ak mixed Tryz.func65 (by kernel_rfl) (by kernel_rfl) λx h=>pF x.1 x.2.1 h
theorem pG (p:List Int) (h:p.length<=20/\Iy p.length p):fnW Cl (look []) Es Tryz.f83 (p,()) (λ(z:List Int)=>z=Ao p):=by
 obtain ⟨h,hr⟩:=h
 refine Eq.mp (qg p _) ?_
 refine ⟨⟨by omega,by show (p.length:Int)<(4294967296:Int)+1;omega⟩,rfl,rfl,rfl,?_⟩
 refine Ag p.length (λv=>v.1) (λj v=>v.2.1=Wi (λi=>(Ji p (i:Int)).toNat) (λi=>(i:Int)) j (List.replicate p.length 0)) rfl rfl ?_
 rintro j ⟨i,ys,⟨⟩⟩ K hj hi h1 hK
 dsimp only at hi h1⊢
 subst hi
 have hlen:ys.length=p.length:=by rw [h1,Wj,List.length_replicate]
 refine Br.dec (λhl=>?_) λhl=>?_
 ·have hl:j<p.length:=by omega
  have hy:=hr _ (List.getElem_mem hl)
  refine ⟨_,Am hl,⟨by omega,by omega⟩,by omega,rfl,by rw [List.length_set],?_⟩
  rw [Ah (by omega),Nat.zero_add]
  refine hK hl _ rfl ?_
  rw [Tq,<-h1,Ie hl]
 ·have:j=p.length:=by omega
  subst this
  rw [List.drop_zero,List.take_length]
  exact h1
theorem Ps:Sound Tryz.prog 83 Es:=
 Sound.Cv Bk Ak mixed Tryz.func83 (by kernel_rfl) (by kernel_rfl) λx h=>pG x.1 h
theorem FI (p:List Int) (h:p.length<=20/\Iy p.length p):fnW Cl (look []) Es Tryz.f93 (p,()) (λ(z:List Int)=>z=Ao p):=by
 obtain ⟨h,hr⟩:=h
 refine Eq.mp (HI p _) ?_
 refine ⟨⟨by omega,by show (p.length:Int)<(4294967296:Int)+1;omega⟩,rfl,rfl,rfl,?_⟩
 refine Ag p.length (λv=>v.1) (λj v=>v.2.1=Wi (λi=>(Ji p (i:Int)).toNat) (λi=>(i:Int)) j (List.replicate p.length 0)) rfl rfl ?_
 rintro j ⟨i,ys,⟨⟩⟩ K hj hi h1 hK
 dsimp only at hi h1⊢
 subst hi
 have hlen:ys.length=p.length:=by rw [h1,Wj,List.length_replicate]
 refine Br.dec (λhl=>?_) λhl=>?_
 ·have hl:j<p.length:=by omega
  have hy:=hr _ (List.getElem_mem hl)
  refine ⟨_,Am hl,⟨by omega,by omega⟩,by omega,rfl,by rw [List.length_set],?_⟩
  rw [Ah (by omega),Nat.zero_add]
  refine hK hl _ rfl ?_
  rw [Tq,<-h1,Ie hl]
 ·have:j=p.length:=by omega
  subst this
  rw [List.drop_zero,List.take_length]
  exact h1
theorem pZ:Sound Tryz.prog 93 Es:=
 Sound.Cv Bk Ak mixed Tryz.func93 (by kernel_rfl) (by kernel_rfl) λx h=>FI x.1 h
theorem pK (p:List Int) (h:Jk p=true):fnW Cl (look [(74,Hr),(93,Es)]) Kr Tryz.f76 (p,()) (λ(z:List Int)=>z=Ao p):=by
 have hp:=jB h
 have hs:short p:=by have:=hp.len;unfold short;omega
 refine Eq.mp (qk p _) ⟨_,if_pos hs,⟨λhe=>?_,λ_=>⟨_,if_pos ⟨hp.len,hp.row⟩,rfl⟩⟩⟩
 exact absurd h (Ck he)
theorem iG:Sound Tryz.prog 76 Kr:=
 Sound.Cv Bk (Ae Zj (Ae pZ Ak)) mixed Tryz.func76 (by kernel_rfl) (by kernel_rfl) λx h=>pK x.1 h
theorem Zm (j:Nat):upto (j+1)=upto j++ [(j:Int)]:=by simp [upto,List.range_succ]
theorem zx (n:Int) (h:0<=n/\n<=20):fnW Cl (look []) Cd Tryz.f35 (n,()) (λ(z:List Int)=>z=upto n.toNat):=by
 refine Eq.mp (AS n _) ⟨rfl,rfl,?_⟩
 refine Ag n.toNat (λv=>v.1) (λj v=>v.2.1=upto j) rfl rfl ?_
 rintro j ⟨i,ys,⟨⟩⟩ K hj hi h1 hK
 dsimp only at hi h1⊢
 subst hi h1
 refine Br.dec (λhl=>?_) λhl=>?_
 ·refine ⟨rfl,rfl,?_,rfl,rfl,?_⟩
  ·show (upto j).length+1<=4294967296
   rw [Px];omega
  ·rw [Ah (by omega)]
   exact hK (by omega) _ rfl (Zm j).symm
 ·have:j=n.toNat:=by omega
  subst this
  rw [List.drop_zero,List.take_length]
theorem oc:Sound Tryz.prog 35 Cd:=
 Sound.Cv Bk Ak mixed Tryz.func35 (by kernel_rfl) (by kernel_rfl) λx h=>zx x.1 h
theorem Nm {g:List (List Int)} {k:Nat} (h:k<g.length):Af g ((k:Int)+1)=g[k]:=by
 unfold Af
 rw [if_pos (by omega),show ((k:Int)+1-1).toNat=k by omega,List.getD_eq_getElem?_getD,List.getElem?_eq_getElem h];rfl
theorem Nl {g:List (List Int)} {k:Nat} (h:k<g.length):Af g (-((k:Int)+1))=Ao g[k]:=by
 unfold Af
 rw [if_neg (by omega),show (-(-((k:Int)+1))-1).toNat=k by omega,List.getD_eq_getElem?_getD,List.getElem?_eq_getElem h];rfl
theorem Pd {n:Nat} {l:Int} (h:Gx n l): ∃k:Nat,k<n/\(l=(k:Int)+1\/l= -((k:Int)+1)):=by
 obtain ⟨h1,h2,h3⟩:=h
 by_cases h0:0<l
 ·exact ⟨(l-1).toNat,by omega, .inl (by omega)⟩
 ·exact ⟨(-l-1).toNat,by omega, .inr (by omega)⟩
theorem zy (g:List (List Int)) (l:Int) (h:Gx (List.length g) l/\List.length g<=8/\ ∀p∈g,Jk p=true):fnW Cl (look [(83,Es)]) Ke Tryz.f66 (g,l,()) (λ(z:List Int)=>z=Af g l):=by
 obtain ⟨hl,h8,hp⟩:=h
 refine Eq.mp (AT g l _) ?_
 obtain ⟨k,hk,rfl|rfl⟩:=Pd hl
 ·refine Br.dec (λ_=>?_) λhn=>by omega
  rw [Ca (by omega) (by omega),show (k:Int)+1-1=(k:Int) by omega]
  exact ⟨_,Am hk,(Nm hk).symm⟩
 ·refine Br.dec (λhn=>by omega) λ_=>?_
  rw [Ca (n:=0- -((k:Int)+1)) (by omega) (by omega),Ca (by omega) (by omega),show (0:Int)- -((k:Int)+1)-1=(k:Int) by omega]
  have:=jB (hp _ (List.getElem_mem hk))
  exact ⟨_,Am hk,_,if_pos ⟨this.len,this.row⟩,(Nl hk).symm⟩
theorem dg:Sound Tryz.prog 66 Ke:=
 Sound.Cv Bk (Ae Ps Ak) mixed Tryz.func66 (by kernel_rfl) (by kernel_rfl) λx h=>zy x.1 x.2.1 h
theorem Vl (j:Nat):Aw (j+1)=Aw j++ [(j:Int)+1,-((j:Int)+1)]:=by simp [Aw,List.range_succ,List.flatMap_append]
theorem Kn (j:Nat):(Aw j).length=2*j:=by
 induction j with
 |zero=>rfl
 |succ j ih=>rw [Vl,List.length_append,ih];simp only [List.length_cons,List.length_nil];omega
theorem Ju {n:Nat} {l:Int} (h:l∈Aw n):Gx n l:=by
 unfold Aw at h
 obtain ⟨k,hk,hl⟩:=List.mem_flatMap.1 h
 have hk:=List.mem_range.1 hk
 simp only [List.mem_cons,List.not_mem_nil,or_false] at hl
 unfold Gx
 omega
theorem FD (n:Int) (h:0<=n/\n<=8):fnW Cl (look []) Ic Tryz.f43 (n,()) (λ(z:List Int)=>z=Aw n.toNat):=by
 refine Eq.mp (HD n _) ⟨rfl,rfl,?_⟩
 refine Ag n.toNat (λv=>v.1) (λj v=>v.2.1=Aw j) rfl rfl ?_
 rintro j ⟨i,ys,⟨⟩⟩ K hj hi h1 hK
 dsimp only at hi h1⊢
 subst hi h1
 refine Br.dec (λhl=>?_) λhl=>?_
 ·refine ⟨rfl,rfl,?_,rfl,rfl,?_⟩
  ·show (Aw j).length+2<=4294967296
   rw [Kn];omega
  ·have e1:IntKind.i64.wrap ((j:Int)+1)=(j:Int)+1:=Ca (by omega) (by omega)
   have e2:IntKind.i64.wrap ((0:Int)-((j:Int)+1))= -((j:Int)+1):=by rw [Ca (by omega) (by omega)];omega
   rw [e1,e2]
   exact hK (by omega) _ rfl (Vl j).symm
 ·have:j=n.toNat:=by omega
  subst this
  rw [List.drop_zero,List.take_length]
theorem Xw:Sound Tryz.prog 43 Ic:=
 Sound.Cv Bk Ak mixed Tryz.func43 (by kernel_rfl) (by kernel_rfl) λx h=>FD x.1 h
structure Valid (p:PP):Prop where
 n:1<=p.1/\p.1<=20
 lf:1<=p.2.2.1.length/\p.2.2.1.length<=8
 perm: ∀m∈p.2.2.1,Jk m=true
 len: ∀m∈p.2.2.1,(m.length:Int)=p.1
theorem valid {p:PP} (h:Bf p=true):Valid p:=by
 have h0:=AO h
 obtain ⟨h1,_,_⟩:=Ht.1 h
 obtain ⟨_,_,h4⟩:=Ht.1 h1
 exact ⟨⟨h0.1,h0.2.1⟩,h0.2.2,λm hm=>(Ht.1 (h4 m hm)).2,λm hm=>(Ht.1 (h4 m hm)).1⟩
theorem dN {p:PP} (h:Valid p) {l:Int} (hl:Gx (List.length p.2.2.1) l):((Af p.2.2.1 l).length:Int)=p.1/\Iy (Af p.2.2.1 l).length (Af p.2.2.1 l):=by
 obtain ⟨k,hk,rfl|rfl⟩:=Pd hl
 ·rw [Nm hk]
  exact ⟨h.len _ (List.getElem_mem hk),(jB (h.perm _ (List.getElem_mem hk))).row⟩
 ·rw [Nl hk,lZ]
  exact ⟨h.len _ (List.getElem_mem hk),OX (jB (h.perm _ (List.getElem_mem hk)))⟩
theorem uW (s y:List Int) (P:List Int->Prop) (h1:s.length<=20) (h2:Iy y.length s) (h3:P (Aa s y)):
  Bi
   (λ(v5:Int×List Int×PUnit) (k6:Int×List Int×PUnit->Prop)=>
    Br (decide (v5.1<(↑s.length:Int)))
     (∃(y7:Int),
      idx s v5.1=some y7/\
       ∃(y8:Int),
        idx y y7=some y8/\
         (0:Nat)=(0:Nat)/\
          v5.2.1.length=v5.2.1.length/\
           v5.2.1.length+(List.take (1:Nat) (List.drop (0:Nat) [y8])).length<=Bg/\
            (0:Nat)=(0:Nat)/\
             (v5.2.1++List.take (1:Nat) (List.drop (0:Nat) [y8])).length=(v5.2.1++List.take (1:Nat) (List.drop (0:Nat) [y8])).length/\
              k6 (IntKind.i64.wrap (v5.1+(1:Int)),v5.2.1++List.take (1:Nat) (List.drop (0:Nat) [y8]),()))
     (P (List.take v5.2.1.length (List.drop (0:Nat) v5.2.1))))
   ((0:Int),([]:List Int),PUnit.unit):=by
 refine Ag s.length (λv=>v.1) (λj v=>v.2.1=(s.take j).map (Ji y)) rfl (by simp) ?_
 rintro j ⟨i,ys,⟨⟩⟩ K hj hi hR hK
 dsimp only at hi hR⊢
 subst hi hR
 refine Br.dec (λhl=>?_) λhl=>?_
 ·have hl:j<s.length:=by omega
  have hy:=h2 _ (List.getElem_mem hl)
  refine ⟨_,Am hl,_,gV hy.1 hy.2,rfl,rfl,?_,rfl,rfl,?_⟩
  ·show ((s.take j).map (Ji y)).length+1<=4294967296
   rw [List.length_map,List.length_take];omega
  ·rw [Ah (by omega)]
   refine hK hl _ rfl ?_
   dsimp only
   rw [List.take_succ_eq_append_getElem hl,List.map_append]
   rfl
 ·have:j=s.length:=by omega
  subst this
  rw [List.drop_zero,List.take_length,List.take_length]
  exact h3
theorem KX (p:PP) (s:List Int) (l:Int) (h:Bf p=true/\List.length s<=20/\(∀y∈s,0<=y/\y<p.1)/\Gx (List.length p.2.2.1) l):fnW Cl (look [(76,Kr)]) Zd Tryz.f57 (p,s,l,()) (λ(z:List Int)=>z=Aa s (Af p.2.2.1 l)):=by
 obtain ⟨hv,hs,hr,hl⟩:=h
 have hv:=valid hv
 have hf:=hv.lf
 refine Eq.mp (MM p s l _) ?_
 have DW:=dN hv hl
 have Tt:Iy (Af p.2.2.1 l).length s:= λy hy=>by have:=hr y hy;omega
 obtain ⟨k,hk,rfl|rfl⟩:=Pd hl
 ·rw [if_pos rfl,Ca (n:=0-((k:Int)+1)) (by omega) (by omega),if_neg (by omega),Ca (by omega) (by omega),show (k:Int)+1-1=(k:Int) by omega]
  refine ⟨_,Am hk,Br.dec (λhn=>by omega) λ_=>⟨rfl,rfl,?_⟩⟩
  rw [Nm hk] at Tt⊢
  exact uW s _ (λz=>z=Aa s p.2.2.1[k]) hs Tt rfl
 ·rw [if_pos rfl,Ca (n:=0- -((k:Int)+1)) (by omega) (by omega),if_pos (by omega),Ca (by omega) (by omega),show (0:Int)- -((k:Int)+1)-1=(k:Int) by omega]
  refine ⟨_,Am hk,Br.dec (λ_=>⟨_,if_pos (hv.perm _ (List.getElem_mem hk)),rfl,rfl,?_⟩) λhn=>by omega⟩
  rw [Nl hk] at Tt⊢
  exact uW s (Ao p.2.2.1[k]) (λz=>z=Aa s (Ao p.2.2.1[k])) hs Tt rfl
theorem tU:Sound Tryz.prog 57 Zd:=
 Sound.Cv Bk (Ae iG Ak) mixed Tryz.func57 (by kernel_rfl) (by kernel_rfl) λx h=>KX x.1 x.2.1 x.2.2.1 h
end Go.Proofs.YtjbdmibbbpdnnaaGreat

namespace Go.Proofs.YtjbdmibbbpdnnaaGreat
open Go.RowKit
abbrev rL:CK:= .row tI 2
abbrev SY:CK:= .Dq tL 28
def Gr (k:Int) (n:Nat):List Int:=(List.range n).map λi=>k+(i:Nat)
def Gb:Int->List (List Int)->List (List Int)
 |_,[]=> []
 |k,r::rs=>Gr k r.length::Gb (k+r.length) rs
def Bx:List (List Int)->Nat
 | []=>0
 |r::rs=>r.length+Bx rs
def low (k:Int):Prop:=0<=k/\k<=1099511627776
noncomputable abbrev Tx:MSpec:=Wb [none,none] [(true,rL),(false, .Ee tI)] false [none] [.Ee tI] (λx=>short x.1/\low x.2.1) (λx=>((x.2.1+List.length x.1,()),(Gr x.2.1 (List.length x.1),())))
noncomputable abbrev Zf:MSpec:=Wb [none,none] [(true,SY),(false, .Ee tI)] false [none] [.Ee tI] (λx=>Dx x.1/\low x.2.1/\low (x.2.1+Bx x.1)) (λx=>((x.2.1+Bx x.1,()),(Gb x.2.1 x.1,())))
noncomputable abbrev Ma:MSpec:=Wb [some 3,none] [(false, .Ee tI),(false, .Ee .str),(true,SY),(false, .Ee tI)] false [none] [.Ee tI]
 (λx=>Dx x.2.2.1/\low x.2.2.2.1/\low (x.2.2.2.1+Bx x.2.2.1)) (λx=>((x.2.2.2.1+Bx x.2.2.1,()),(Gb x.2.2.2.1 x.2.2.1,())))
def ie (xs:List Int) (k:Int):Int:=if xs=Gr k xs.length then k+xs.length else-1
noncomputable abbrev aK:Spec:=Cv (.pair tL (.pair tI .unit)) tI false true (λx=>short x.1/\low x.2.1) (λx=>ie x.1 x.2.1)
noncomputable abbrev Xt:MSpec:=Wb [none] [(false, .Ee tL)] false [none] [rL] (λx=>short x.1) (λx=>((x.1,()),()))
noncomputable abbrev Tz:MSpec:=Wb [none] [(false, .Ee Zp)] false [none] [SY] (λx=>Dx x.1) (λx=>((x.1,()),()))
noncomputable abbrev Rf:MSpec:=Wb [some 3] [(false, .Ee tL),(false, .Ee Zp),(false, .Ee tL)] false [some 3] [rL,SY,rL] (λx=>Iv (x.1,x.2.1,x.2.2.1,())) (λx=>((x.1,x.2.1,x.2.2.1,()),()))
noncomputable abbrev Jw:MSpec:=Wb [some 3] [(false, .Ee tI),(false, .Ee .str),(false, .Ee Zp)] false [some 3] [.Ee tI, .Ee .str,SY] (λx=>Cf (x.1,x.2.1,x.2.2.1,())) (λx=>((x.1,x.2.1,x.2.2.1,()),()))
theorem QM (xs:List Int) (k:Int) (P:((Int×Unit)×List Int×Unit)->Prop):(0=0/\xs.length=xs.length/\Bi (λ(v3:Int×Int×List Int×PUnit) (k4:Int×Int×List Int×PUnit->Prop)=>Br (decide (v3.2.1<(↑v3.2.2.1.length:Int))) (((0:Int)<=v3.2.1/\v3.2.1<(↑v3.2.2.1.length:Int))/\0+v3.2.1.toNat<v3.2.2.1.length/\0=0/\v3.2.2.1.length=(v3.2.2.1.set (0+v3.2.1.toNat) v3.1).length/\k4 (IntKind.i64.wrap (v3.1+(1:Int)),IntKind.i64.wrap (v3.2.1+(1:Int)),v3.2.2.1.set (0+v3.2.1.toNat) v3.1,())) (P ((v3.1,()),v3.2.2.1,()))) (k,(0:Int),xs,PUnit.unit))=fnMW Nu (look []) Tx Tryz.f15 (xs,k,()) P:=by kernel_rfl
theorem MP (xs:List (List Int)) (k:Int) (P:((Int×Unit)×List (List Int)×Unit)->Prop):(0=0/\xs.length=xs.length/\Bi (λ(v3:Int×Int×List (List Int)×PUnit) (k4:Int×Int×List (List Int)×PUnit->Prop)=>Br (decide (v3.2.1<(↑v3.2.2.1.length:Int))) (((0:Int)<=v3.2.1/\v3.2.1<(↑v3.2.2.1.length:Int))/\ ∃(y5:List Int),v3.2.2.1[0+v3.2.1.toNat]?=some y5/\ ∃(y6:List Int),v3.2.2.1[0+v3.2.1.toNat]?=some y6/\ ∃(y7:(Int×PUnit)×List Int×PUnit),Tx.fn (y6,v3.1,())=some y7/\ ∃(y8:List Int),v3.2.2.1[0+v3.2.1.toNat]?=some y8/\y7.2.1.length=y8.length/\0=0/\v3.2.2.1.length=(v3.2.2.1.set (0+v3.2.1.toNat) y7.2.1).length/\k4 (y7.1.1,IntKind.i64.wrap (v3.2.1+(1:Int)),v3.2.2.1.set (0+v3.2.1.toNat) y7.2.1,())) (P ((v3.1,()),v3.2.2.1,()))) (k,(0:Int),xs,PUnit.unit))=fnMW Nu (look [(15,Tx)]) Zf Tryz.f31 (xs,k,()) P:=by kernel_rfl
theorem ux (n:Int) (s:ByteArray) (b:List (List Int)) (k:Int) (P:((Int×Unit)×List (List Int)×Unit)->Prop):(0=0/\b.length=b.length/\ ∃(y5:(Int×PUnit)×List (List Int)×PUnit),Zf.fn (b,k,())=some y5/\(y5.2.1.length=b.length/\b.length=b.length)/\P ((y5.1.1,()),y5.2.1,()))=fnMW Nu (look [(31,Zf)]) Ma Tryz.f13 (n,s,b,k,()) P:=by kernel_rfl
theorem QI (xs:List Int) (k:Int) (P:Int->Prop):(Bi (λ(v3:Int×Int×PUnit) (k4:Int×Int×PUnit->Prop)=>Br (decide (v3.2.1<(↑xs.length:Int))) (∃(y5:Int),idx xs v3.2.1=some y5/\Br (y5 !=v3.1) (P (-1:Int)) (k4 (IntKind.i64.wrap (v3.1+(1:Int)),IntKind.i64.wrap (v3.2.1+(1:Int)),()))) (P v3.1)) (k,(0:Int),PUnit.unit))=fnW Cl (look []) aK Tryz.f16 (xs,k,()) P:=by kernel_rfl
theorem XC (xs:List Int) (P:((List Int×Unit)×Unit)->Prop):(((0:Int)<=(↑xs.length:Int)/\(↑xs.length:Int)<(↑Bg:Int)+(1:Int))/\(↑xs.length:Int)=(↑xs.length:Int)/\0=0/\(List.replicate (↑xs.length:Int).toNat (Int.ofNat (nat_lit 0))).length=(List.replicate (↑xs.length:Int).toNat (Int.ofNat (nat_lit 0))).length/\Bi (λ(v2:Int×List Int×PUnit) (k3:Int×List Int×PUnit->Prop)=>Br (decide (v2.1<(↑xs.length:Int))) (∃(y4:Int),idx xs v2.1=some y4/\((0:Int)<=v2.1/\v2.1<(↑v2.2.1.length:Int))/\0+v2.1.toNat<v2.2.1.length/\0=0/\v2.2.1.length=(v2.2.1.set (0+v2.1.toNat) y4).length/\k3 (IntKind.i64.wrap (v2.1+(1:Int)),v2.2.1.set (0+v2.1.toNat) y4,())) (P ((List.take v2.2.1.length (List.drop 0 v2.2.1),()),()))) ((0:Int),List.replicate (↑xs.length:Int).toNat (Int.ofNat (nat_lit 0)),PUnit.unit))=fnMW Nu (look []) Xt Tryz.f38 (xs,()) P:=by kernel_rfl
theorem QQ (xs:List (List Int)) (P:((List (List Int)×Unit)×Unit)->Prop):(((0:Int)<=(↑xs.length:Int)/\(↑xs.length:Int)<(↑Bg:Int)+(1:Int))/\(↑xs.length:Int)=(↑xs.length:Int)/\0=0/\(List.replicate (↑xs.length:Int).toNat ([]:List Int)).length=(List.replicate (↑xs.length:Int).toNat ([]:List Int)).length/\Bi (λ(v2:Int×List (List Int)×PUnit) (k3:Int×List (List Int)×PUnit->Prop)=>Br (decide (v2.1<(↑xs.length:Int))) (∃(y4:List Int),idx xs v2.1=some y4/\ ∃(y5:(List Int×PUnit)×PUnit),Xt.fn (y4,())=some y5/\((0:Int)<=v2.1/\v2.1<(↑v2.2.1.length:Int))/\0+v2.1.toNat<v2.2.1.length/\0=0/\v2.2.1.length=(v2.2.1.set (0+v2.1.toNat) (List.take y5.1.1.length (List.drop 0 y5.1.1))).length/\k3 (IntKind.i64.wrap (v2.1+(1:Int)),v2.2.1.set (0+v2.1.toNat) (List.take y5.1.1.length (List.drop 0 y5.1.1)),())) (P ((List.take v2.2.1.length (List.drop 0 v2.2.1),()),()))) ((0:Int),List.replicate (↑xs.length:Int).toNat ([]:List Int),PUnit.unit))=fnMW Nu (look [(38,Xt)]) Tz Tryz.f22 (xs,()) P:=by kernel_rfl
theorem BC (a:List Int) (b:List (List Int)) (c:List Int) (P:((List Int×List (List Int)×List Int×Unit)×Unit)->Prop):(∃(y4:(List Int×PUnit)×PUnit),Xt.fn (a,())=some y4/\ ∃(y5:(List (List Int)×PUnit)×PUnit),Tz.fn (b,())=some y5/\ ∃(y6:(List Int×PUnit)×PUnit),Xt.fn (c,())=some y6/\P ((List.take y4.1.1.length (List.drop 0 y4.1.1),List.take y5.1.1.length (List.drop 0 y5.1.1),List.take y6.1.1.length (List.drop 0 y6.1.1),()),()))=fnMW Nu (look [(38,Xt),(22,Tz)]) Rf Tryz.f23 (a,b,c,()) P:=by kernel_rfl
theorem xW (n:Int) (s:ByteArray) (b:List (List Int)) (P:((Int×ByteArray×List (List Int)×Unit)×Unit)->Prop):(∃(y4:(List (List Int)×PUnit)×PUnit),Tz.fn (b,())=some y4/\P ((n,s,List.take y4.1.1.length (List.drop 0 y4.1.1),()),()))=fnMW Nu (look [(22,Tz)]) Jw Tryz.f7 (n,s,b,()) P:=by kernel_rfl
theorem At {α:Type} (xs:List α):List.take xs.length (List.drop 0 xs)=xs:=by rw [List.drop_zero,List.take_length]
theorem Sf (k:Int) (n:Nat):(Gr k n).length=n:=by simp [Gr]
theorem ij (k:Int) (n:Nat):Gr k (n+1)=Gr k n++ [k+(n:Nat)]:=by simp [Gr,List.range_succ]
theorem cJ (a b:List (List Int)):Bx (a++b)=Bx a+Bx b:=by
 induction a with
 |nil=>simp [Bx]
 |cons r a ih=>simp only [List.cons_append,Bx,ih];omega
theorem Yy: ∀(a b:List (List Int)) (k:Int),Gb k (a++b)=Gb k a++Gb (k+Bx a) b
 | [],b,k=>by simp [Gb,Bx]
 |r::a,b,k=>by
  simp only [List.cons_append,Gb,Bx,Yy a b]
  congr 3
  omega
theorem Xp: ∀(xs:List (List Int)) (k:Int),(Gb k xs).length=xs.length
 | [],_=>rfl
 |r::xs,k=>by simp [Gb,Xp xs]
theorem ta {xs:List (List Int)} {j:Nat} (h:j<xs.length):Bx (xs.drop j)=xs[j].length+Bx (xs.drop (j+1)):=by
 rw [List.drop_eq_getElem_cons h];rfl
theorem tb {xs:List (List Int)} {j:Nat} (h:j<xs.length):Bx (xs.take (j+1))=Bx (xs.take j)+xs[j].length:=by
 rw [List.take_succ_eq_append_getElem h,cJ];simp [Bx]
theorem py (xs:List (List Int)) (j:Nat):Bx (xs.take j)+Bx (xs.drop j)=Bx xs:=by
 rw [<-cJ,List.take_append_drop]
theorem PM (xs:List Int) (k:Int) (h:short xs/\low k):fnMW Nu (look []) Tx Tryz.f15 (xs,k,()) (λ(z:(Int×Unit)×List Int×Unit)=>z=((k+xs.length,()),(Gr k xs.length,()))):=by
 obtain ⟨h1,h2,h3⟩:=h
 unfold short at h1
 refine Eq.mp (QM xs k _) ⟨rfl,rfl,?_⟩
 refine Ag xs.length (λv=>v.2.1) (λj v=>v.1=k+(j:Nat)/\v.2.2.1.length=xs.length/\v.2.2.1.take j=Gr k j) rfl ⟨by simp,rfl,by simp [Gr]⟩ ?_
 rintro j ⟨k',i,ys,⟨⟩⟩ K hj hi ⟨g1,g2,g3⟩ hK
 dsimp only at hi g1 g2 g3⊢
 subst hi;subst g1
 refine Br.dec (λhl=>?_) λhl=>?_
 ·have hl:j<ys.length:=by omega
  refine ⟨⟨by omega,by omega⟩,by rw [Int.toNat_natCast];omega,rfl,by rw [List.length_set],?_⟩
  rw [Ah (by omega),Int.toNat_natCast,Nat.zero_add,Ca (by omega) (by omega)]
  refine hK (by omega) _ rfl ⟨by dsimp only;omega,by rw [List.length_set];exact g2,?_⟩
  rw [List.take_succ_eq_append_getElem (by rw [List.length_set];exact hl),List.take_set_of_le (Nat.le_refl j),g3,List.getElem_set_self,ij]
 ·have lW:j=xs.length:=by omega
  subst lW
  rw [<-g2,List.take_length,g2] at g3
  rw [g3]
theorem dh:Bh Tryz.prog 15 Tx:=
 Bh.Wb Mo Ak mixed Tryz.func15 (by kernel_rfl) (by kernel_rfl) λx h=>PM x.1 x.2.1 h
theorem LC (xs:List (List Int)) (k:Int) (h:Dx xs/\low k/\low (k+Bx xs)):fnMW Nu (look [(15,Tx)]) Zf Tryz.f31 (xs,k,()) (λ(z:(Int×Unit)×List (List Int)×Unit)=>z=((k+Bx xs,()),(Gb k xs,()))):=by
 obtain ⟨⟨h1,h4⟩,⟨h2,h3⟩,h5,h6⟩:=h
 refine Eq.mp (MP xs k _) ⟨rfl,rfl,?_⟩
 refine Ag xs.length (λv=>v.2.1) (λj v=>v.1=k+(Bx (xs.take j):Nat)/\v.2.2.1.length=xs.length/\v.2.2.1.take j=Gb k (xs.take j)/\v.2.2.1.drop j=xs.drop j) rfl ⟨by simp [Bx],rfl,by simp [Gb],rfl⟩ ?_
 rintro j ⟨k',i,ys,⟨⟩⟩ K hj hi ⟨g1,g2,g3,g4⟩ hK
 dsimp only at hi g1 g2 g3 g4⊢
 subst hi;subst g1
 refine Br.dec (λhl=>?_) λhl=>?_
 ·have hl:j<ys.length:=by omega
  have HS:j<xs.length:=by omega
  have hy:ys[j]?=some xs[j]:=by
   have:(ys.drop j)[0]?=(xs.drop j)[0]?:=by rw [g4]
   simpa [List.getElem?_drop,List.getElem?_eq_getElem HS] using this
  have HU:=py xs j
  have htk:=tb HS
  have hdr:=ta HS
  refine ⟨⟨by omega,by omega⟩,?_⟩
  simp only [Int.toNat_natCast,Nat.zero_add]
  have UI:low (k+(Bx (xs.take j):Nat)):=⟨by omega,by omega⟩
  refine ⟨_,hy,_,hy,_,if_pos ⟨h4 _ (List.getElem_mem HS),UI⟩,_,hy,Sf _ _,trivial,by rw [List.length_set],?_⟩
  rw [Ah (by omega)]
  refine hK HS _ rfl ⟨by dsimp only;omega,by rw [List.length_set];exact g2,?_,?_⟩
  ·rw [List.take_succ_eq_append_getElem (by rw [List.length_set];exact hl),List.take_set_of_le (Nat.le_refl j),g3,List.getElem_set_self,List.take_succ_eq_append_getElem HS,Yy]
   rfl
  ·dsimp only
   rw [List.drop_set_of_lt (by omega)]
   have e1:ys.drop (j+1)=(ys.drop j).drop 1:=by rw [List.drop_drop]
   rw [e1,g4,List.drop_drop]
 ·have lW:j=xs.length:=by omega
  subst lW
  rw [<-g2,List.take_length,g2,List.take_length] at g3
  rw [g3,List.take_length]
theorem iF:Bh Tryz.prog 31 Zf:=
 Bh.Wb Mo (Dt dh Ak) mixed Tryz.func31 (by kernel_rfl) (by kernel_rfl) λx h=>LC x.1 x.2.1 h
theorem tp (n:Int) (s:ByteArray) (b:List (List Int)) (k:Int) (h:Dx b/\low k/\low (k+Bx b)):fnMW Nu (look [(31,Zf)]) Ma Tryz.f13 (n,s,b,k,()) (λ(z:(Int×Unit)×List (List Int)×Unit)=>z=((k+Bx b,()),(Gb k b,()))):=by
 exact Eq.mp (ux n s b k _) ⟨rfl,rfl,_,if_pos h,⟨Xp _ _,rfl⟩,rfl⟩
theorem jP:Bh Tryz.prog 13 Ma:=
 Bh.Wb Mo (Dt iF Ak) mixed Tryz.func13 (by kernel_rfl) (by kernel_rfl) λx h=>tp x.1 x.2.1 x.2.2.1 x.2.2.2.1 h
theorem PH (xs:List Int) (k:Int) (h:short xs/\low k):fnW Cl (look []) aK Tryz.f16 (xs,k,()) (λ(z:Int)=>z=ie xs k):=by
 obtain ⟨h1,h2,h3⟩:=h
 unfold short at h1
 refine Eq.mp (QI xs k _) ?_
 refine Ag xs.length (λv=>v.2.1) (λj v=>v.1=k+(j:Nat)/\xs.take j=Gr k j) rfl ⟨by simp,by simp [Gr]⟩ ?_
 rintro j ⟨k',i,⟨⟩⟩ K hj hi ⟨g1,g3⟩ hK
 dsimp only at hi g1 g3⊢
 subst hi;subst g1
 refine Br.dec (λhl=>?_) λhl=>?_
 ·have hl:j<xs.length:=by omega
  refine ⟨_,Am hl,λFc=>?_,λhe=>?_⟩
  ·simp only [bne_iff_ne,ne_eq] at Fc
   unfold ie
   rw [if_neg]
   intro he
   refine Fc ?_
   have e1:xs[j]?=(Gr k xs.length)[j]?:=by rw [<-he]
   rw [List.getElem?_eq_getElem hl] at e1
   simpa [Gr,hl] using e1
  ·simp only [bne_eq_false_iff_eq] at he
   rw [Ah (by omega),Ca (by omega) (by omega)]
   refine hK hl _ rfl ⟨by dsimp only;omega,?_⟩
   rw [List.take_succ_eq_append_getElem hl,g3,he,ij]
 ·have lW:j=xs.length:=by omega
  subst lW
  rw [List.take_length] at g3
  exact (if_pos g3).symm
theorem xm:Sound Tryz.prog 16 aK:=
 Sound.Cv Bk Ak mixed Tryz.func16 (by kernel_rfl) (by kernel_rfl) λx h=>PH x.1 x.2.1 h
theorem eI (k:Int) (n:Nat):ie (Gr k n) k=k+n:=by unfold ie;rw [Sf,if_pos rfl]
theorem WB (xs:List Int) (h:short xs):fnMW Nu (look []) Xt Tryz.f38 (xs,()) (λ(z:(List Int×Unit)×Unit)=>z=((xs,()),())):=by
 unfold short at h
 refine Eq.mp (XC xs _) ?_
 refine ⟨⟨by omega,by show (xs.length:Int)<(4294967296:Int)+1;omega⟩,rfl,rfl,rfl,?_⟩
 refine Ag xs.length (λv=>v.1) (λj v=>v.2.1.length=xs.length/\v.2.1.take j=xs.take j) rfl ⟨by simp,by simp⟩ ?_
 rintro j ⟨i,ys,⟨⟩⟩ K hj hi ⟨h1,h2⟩ hK
 dsimp only at hi h1 h2⊢
 subst hi
 refine Br.dec (λhl=>?_) λhl=>?_
 ·have hl:j<xs.length:=by omega
  refine ⟨_,Am hl,⟨by omega,by omega⟩,by rw [Int.toNat_natCast];omega,rfl,by rw [List.length_set],?_⟩
  rw [Ah (by omega),Int.toNat_natCast,Nat.zero_add]
  exact hK hl _ rfl ⟨by rw [List.length_set];exact h1,Gg hl h1 h2⟩
 ·have:j=xs.length:=by omega
  subst this
  rw [List.take_length,<-h1,List.take_length] at h2
  rw [At,h2]
theorem ow:Bh Tryz.prog 38 Xt:=
 Bh.Wb Mo Ak mixed Tryz.func38 (by kernel_rfl) (by kernel_rfl) λx h=>WB x.1 h
theorem PS (xs:List (List Int)) (h:Dx xs):fnMW Nu (look [(38,Xt)]) Tz Tryz.f22 (xs,()) (λ(z:(List (List Int)×Unit)×Unit)=>z=((xs,()),())):=by
 obtain ⟨h,h4⟩:=h
 refine Eq.mp (QQ xs _) ?_
 refine ⟨⟨by omega,by show (xs.length:Int)<(4294967296:Int)+1;omega⟩,rfl,rfl,rfl,?_⟩
 refine Ag xs.length (λv=>v.1) (λj v=>v.2.1.length=xs.length/\v.2.1.take j=xs.take j) rfl ⟨by simp,by simp⟩ ?_
 rintro j ⟨i,ys,⟨⟩⟩ K hj hi ⟨h1,h2⟩ hK
 dsimp only at hi h1 h2⊢
 subst hi
 refine Br.dec (λhl=>?_) λhl=>?_
 ·have hl:j<xs.length:=by omega
  refine ⟨_,Am hl,_,if_pos (h4 _ (List.getElem_mem hl)),⟨by omega,by omega⟩,by rw [Int.toNat_natCast];omega,rfl,by rw [List.length_set],?_⟩
  rw [Ah (by omega),Int.toNat_natCast,Nat.zero_add]
  dsimp only
  rw [At]
  exact hK hl _ rfl ⟨by rw [List.length_set];exact h1,Gg hl h1 h2⟩
 ·have:j=xs.length:=by omega
  subst this
  rw [List.take_length,<-h1,List.take_length] at h2
  rw [At,h2]
theorem kR:Bh Tryz.prog 22 Tz:=
 Bh.Wb Mo (Dt ow Ak) mixed Tryz.func22 (by kernel_rfl) (by kernel_rfl) λx h=>PS x.1 h
theorem zF (a:List Int) (b:List (List Int)) (c:List Int) (h:Iv (a,b,c,())):fnMW Nu (look [(38,Xt),(22,Tz)]) Rf Tryz.f23 (a,b,c,()) (λ(z:(List Int×List (List Int)×List Int×Unit)×Unit)=>z=((a,b,c,()),())):=by
 refine Eq.mp (BC a b c _) ⟨_,if_pos h.1,_,if_pos h.2.1,_,if_pos h.2.2,?_⟩
 simp only [At]
theorem oz:Bh Tryz.prog 23 Rf:=
 Bh.Wb Mo (Dt ow (Dt kR Ak)) mixed Tryz.func23 (by kernel_rfl) (by kernel_rfl) λx h=>zF x.1 x.2.1 x.2.2.1 h
theorem x8 (n:Int) (s:ByteArray) (b:List (List Int)) (h:Cf (n,s,b,())):fnMW Nu (look [(22,Tz)]) Jw Tryz.f7 (n,s,b,()) (λ(z:(Int×ByteArray×List (List Int)×Unit)×Unit)=>z=((n,s,b,()),())):=by
 refine Eq.mp (xW n s b _) ⟨_,if_pos h.2,?_⟩
 simp only [At]
theorem lJ:Bh Tryz.prog 7 Jw:=
 Bh.Wb Mo (Dt kR Ak) mixed Tryz.func7 (by kernel_rfl) (by kernel_rfl) λx h=>x8 x.1 x.2.1 x.2.2.1 h
end Go.Proofs.YtjbdmibbbpdnnaaGreat

namespace Go.Proofs.YtjbdmibbbpdnnaaGreat
open Go.RowKit
def Vm (xs:List Int):Int:=xs.foldl max (xs.headD 0)
noncomputable abbrev rE:Spec:=Cv (.pair tL .unit) tI false true (λx=>1<=List.length x.1/\short x.1) (λx=>Vm x.1)
def jr (xs:List Int):List Int:=(List.range (Vm xs+1).toNat).map λ(d:Nat)=>((xs.count (d:Int):Nat):Int)
def small (xs:List Int):Prop:=1<=xs.length/\short xs/\ ∀x∈xs,0<=x/\x<=3000
noncomputable abbrev Oe:MSpec:=Wb [none] [(false, .Ee tL)] false [none] [rL] (λx=>small x.1) (λx=>((jr x.1,()),()))
theorem Abv (xs:List Int) (P:Int->Prop):(Br (decide ((↑xs.length:Int)<(1:Int))) False (∃(y2:Int),idx xs (0:Int)=some y2/\Bi (λ(v3:Int×Int×PUnit) (k4:Int×Int×PUnit->Prop)=>Br (decide (v3.2.1<(↑xs.length:Int))) (∃(y5:Int),idx xs v3.2.1=some y5/\k4 (if true=true then if y5>v3.1 then y5 else v3.1 else if y5<v3.1 then y5 else v3.1,IntKind.i64.wrap (v3.2.1+(1:Int)),())) (P v3.1)) (y2,(1:Int),PUnit.unit)))=fnW Cl (look []) rE Tryz.f51 (xs,()) P:=by kernel_rfl
theorem xN (xs:List Int) (P:((List Int×Unit)×Unit)->Prop):(∃(y2:Int),rE.fn (xs,())=some y2/\((0:Int)<=IntKind.i64.wrap (y2+(1:Int))/\IntKind.i64.wrap (y2+(1:Int))<(↑Bg:Int)+(1:Int))/\IntKind.i64.wrap (y2+(1:Int))=IntKind.i64.wrap (y2+(1:Int))/\0=0/\(List.replicate (IntKind.i64.wrap (y2+(1:Int))).toNat (Int.ofNat (nat_lit 0))).length=(List.replicate (IntKind.i64.wrap (y2+(1:Int))).toNat (Int.ofNat (nat_lit 0))).length/\Bi (λ(v3:Int×List Int×PUnit) (k4:Int×List Int×PUnit->Prop)=>Br (decide (v3.1<(↑xs.length:Int))) (∃(y5:Int),idx xs v3.1=some y5/\((0:Int)<=y5/\y5<(↑v3.2.1.length:Int))/\ ∃(y6:Int),v3.2.1[0+y5.toNat]?=some y6/\((0:Int)<=y5/\y5<(↑v3.2.1.length:Int))/\0+y5.toNat<v3.2.1.length/\0=0/\v3.2.1.length=(v3.2.1.set (0+y5.toNat) (IntKind.i64.wrap (y6+(1:Int)))).length/\k4 (IntKind.i64.wrap (v3.1+(1:Int)),v3.2.1.set (0+y5.toNat) (IntKind.i64.wrap (y6+(1:Int))),())) (P ((List.take v3.2.1.length (List.drop 0 v3.2.1),()),()))) ((0:Int),List.replicate (IntKind.i64.wrap (y2+(1:Int))).toNat (Int.ofNat (nat_lit 0)),PUnit.unit))=fnMW Nu (look [(51,rE)]) Oe Tryz.f28 (xs,()) P:=by kernel_rfl
theorem VH (y v:Int):(if y>v then y else v)=max v y:=by split<;>omega
theorem gL: ∀(xs:List Int) (a:Int),a<=xs.foldl max a/\ ∀x∈xs,x<=xs.foldl max a
 | [],a=>⟨Int.le_refl a,λx hx=>by cases hx⟩
 |y::xs,a=>by
  obtain ⟨h1,h2⟩:=gL xs (max a y)
  simp only [List.foldl_cons]
  refine ⟨by omega,λx hx=>?_⟩
  rcases List.mem_cons.1 hx with rfl|hx
  ·omega
  ·exact h2 x hx
theorem Xm: ∀(xs:List Int) (a:Int),xs.foldl max a=a\/xs.foldl max a∈xs
 | [],a=> .inl rfl
 |y::xs,a=>by
  simp only [List.foldl_cons]
  rcases Xm xs (max a y) with h|h
  ·rw [h]
   rcases Int.le_total a y with h1|h1
   ·rw [Int.max_eq_right h1];exact .inr (by simp)
   ·rw [Int.max_eq_left h1];exact .inl rfl
  ·exact .inr (List.mem_cons_of_mem _ h)
theorem wA {xs:List Int} {x:Int} (hx:x∈xs):x<=Vm xs:=(gL xs _).2 x hx
theorem qV {xs:List Int} (h:1<=xs.length):Vm xs∈xs:=by
 cases xs with
 |nil=>simp at h
 |cons y xs=>
  rcases Xm (y::xs) ((y::xs).headD 0) with h|h
  ·show List.foldl max _ _∈_
   rw [h];simp
  ·exact h
theorem Ab7 (xs:List Int) (h:1<=List.length xs/\short xs):fnW Cl (look []) rE Tryz.f51 (xs,()) (λ(z:Int)=>z=Vm xs):=by
 obtain ⟨h1,h2⟩:=h
 unfold short at h2
 refine Eq.mp (Abv xs _) (Br.dec (λhn=>by omega) λ_=>?_)
 refine ⟨_,Am (j:=0) (by omega),?_⟩
 refine ⟨λv=> ∃j:Nat,1<=j/\j<=xs.length/\v.2.1=j/\(xs.drop j).foldl max v.1=Vm xs,λv=>xs.length-v.2.1.toNat,⟨1,Nat.le_refl _,h1,rfl,?_⟩,?_⟩
 ·cases xs with
  |nil=>simp at h1
  |cons y xs=>simp [Vm]
 ·rintro ⟨m,i,⟨⟩⟩ ⟨j,g1,g2,g3,g4⟩
  dsimp only at g3 g4⊢
  subst g3
  refine Br.dec (λhl=>?_) λhl=>?_
  ·have hl:j<xs.length:=by omega
   refine ⟨_,Am hl,?_⟩
   rw [Ah (by omega),if_pos rfl,VH]
   refine ⟨⟨j+1,by omega,by omega,rfl,?_⟩,?_⟩
   ·rw [List.drop_eq_getElem_cons hl] at g4
    exact g4
   ·simp only [Int.toNat_natCast]
    omega
  ·have hj:j=xs.length:=by omega
   subst hj
   rw [List.drop_length] at g4
   exact g4
theorem GG:Sound Tryz.prog 51 rE:=
 Sound.Cv Bk Ak mixed Tryz.func51 (by kernel_rfl) (by kernel_rfl) λx h=>Ab7 x.1 h
def uG (xs:List Int) (j m:Nat):List Int:=(List.range m).map λ(d:Nat)=>(((xs.take j).count (d:Int):Nat):Int)
theorem Ow (xs:List Int) (j m:Nat):(uG xs j m).length=m:=by simp [uG]
theorem gw {xs:List Int} {j m d:Nat} (h:d<m):(uG xs j m)[d]?=some (((xs.take j).count (d:Int):Nat):Int):=by simp [uG,h]
theorem vu {xs:List Int} {j m:Nat} (hj:j<xs.length) {d:Nat} (hd:xs[j]=(d:Int)) (hm:d<m):(uG xs j m).set d ((((xs.take j).count (d:Int):Nat):Int)+1)=uG xs (j+1) m:=by
 apply List.ext_getElem?
 intro i
 rw [List.getElem?_set,Ow]
 by_cases hi:i<m
 ·rw [gw (j:=j+1) hi,List.take_succ_eq_append_getElem hj,List.count_append,hd]
  by_cases e:d=i
  ·subst e
   rw [if_pos rfl,if_pos hm]
   simp
  ·rw [if_neg e,gw hi]
   have: ¬(d:Int)=(i:Int):=by omega
   simp [this]
 ·by_cases e:d=i
  ·omega
  ·rw [if_neg e]
   simp [uG,hi]
theorem IP (xs:List Int) (m:Nat):uG xs 0 m=List.replicate m 0:=by
 apply List.ext_getElem?
 intro i
 by_cases hi:i<m
 ·rw [gw hi];simp [hi]
 ·simp [uG,hi]
theorem IN {xs:List Int} {j m:Nat} (h: ∀x∈xs.take j,x<m):uG xs j m++ [0]=uG xs j (m+1):=by
 have:(xs.take j).count (m:Int)=0:=List.count_eq_zero.2 λhm=>by have:=h _ hm;omega
 simp [uG,List.range_succ,this]
theorem rK {xs:List Int} (h:small xs):0<=Vm xs/\Vm xs<=3000:=h.2.2 _ (qV h.1)
theorem count_le (xs:List Int) (j:Nat) (d:Int):(xs.take j).count d<=xs.length:=Nat.le_trans List.count_le_length (by simp;omega)
theorem wV (xs:List Int) (h:small xs):fnMW Nu (look [(51,rE)]) Oe Tryz.f28 (xs,()) (λ(z:(List Int×Unit)×Unit)=>z=((jr xs,()),())):=by
 have hb:=rK h
 obtain ⟨h1,h2,h3⟩:=h
 have MX:=h2
 unfold short at MX
 have hw:IntKind.i64.wrap (Vm xs+1)=Vm xs+1:=Ca (by omega) (by omega)
 refine Eq.mp (xN xs _) ⟨_,if_pos ⟨h1,h2⟩,?_⟩
 dsimp only
 rw [hw]
 refine ⟨⟨by omega,by show Vm xs+1<(4294967296:Int)+1;omega⟩,rfl,rfl,rfl,?_⟩
 refine Ag xs.length (λv=>v.1) (λj v=>v.2.1=uG xs j (Vm xs+1).toNat) rfl (IP xs _).symm ?_
 rintro j ⟨i,ys,⟨⟩⟩ K hj hi hR hK
 dsimp only at hi hR⊢
 subst hi;subst hR
 refine Br.dec (λhl=>?_) λhl=>?_
 ·have hl:j<xs.length:=by omega
  have hx:=h3 _ (List.getElem_mem hl)
  have hx2:=wA (List.getElem_mem hl)
  obtain ⟨d,hd⟩:=Int.eq_ofNat_of_zero_le hx.1
  have hdm:d<(Vm xs+1).toNat:=by omega
  have hc:=count_le xs j d
  refine ⟨_,Am hl,⟨hx.1,by rw [Ow];omega⟩,?_⟩
  rw [hd,Int.toNat_natCast,Nat.zero_add]
  refine ⟨_,gw hdm,⟨by omega,by rw [Ow];omega⟩,by rw [Ow];exact hdm,rfl,by rw [List.length_set],?_⟩
  rw [Ah (by omega),Ca (by omega) (by omega)]
  exact hK hl _ rfl (vu hl hd hdm)
 ·have hj:j=xs.length:=by omega
  subst hj
  rw [At]
  simp [uG,jr]
theorem lA:Bh Tryz.prog 28 Oe:=
 Bh.Wb Mo (Ae GG Ak) mixed Tryz.func28 (by kernel_rfl) (by kernel_rfl) λx h=>wV x.1 h
theorem Qu (a:List Int):Au a a=true:=by simp [Au]
theorem ue {n:Nat} {room:Int} (h: ¬js n room<0):js n room=room-n/\(n:Int)<=room:=by
 unfold js at*
 split at h
 ·exact absurd (show (-1:Int)<0 by decide) h
 ·rename_i h1;rw [if_neg h1];exact ⟨rfl,by omega⟩
theorem xx: ∀(xs:List (List Int)) (room:Int),0<=room-> ¬oG xs room<0->oG xs room=room-Bx xs
 | [],room,_,_=>by simp [oG,Bx]
 |r::xs,room,h0,h=>by
  simp only [oG,Bx] at h⊢
  split at h
  ·exact absurd (show (-1:Int)<0 by decide) h
  ·rename_i h1
   rw [if_neg h1]
   have e1:=ue (n:=r.length) h1
   have e1:Pf r room=room-r.length/\(r.length:Int)<=room:=e1
   rw [xx xs _ (by rw [e1.1];omega) h,e1.1]
   omega
theorem xy {xs:List (List Int)} {room:Int} (h: ¬Ku xs room<0):Ku xs room=room-xs.length-Bx xs:=by
 unfold Ku at*
 split at h
 ·exact absurd (show (-1:Int)<0 by decide) h
 ·rename_i h1
  rw [if_neg h1]
  have e1:=ue h1
  rw [xx xs _ (by rw [e1.1];omega) h,e1.1]
theorem yb (k:Int) (n:Nat):List.take n (List.drop 0 (Gr k n))=Gr k n:=by rw [List.drop_zero,List.take_of_length_le (by rw [Sf];exact Nat.le_refl _)]
theorem m4:low 1:=⟨by decide,by decide⟩
end Go.Proofs.YtjbdmibbbpdnnaaGreat

namespace Go.Proofs.YtjbdmibbbpdnnaaGreat
open Go.RowKit
noncomputable abbrev nX:MSpec:=Wb [none] [(false, .Ee (.oslice tI))] false [none] [rL] (λx=>short (x.1.getD [])) (λx=>((x.1.getD [],()),()))
noncomputable abbrev Vt:MSpec:=Wb [none] [(false, .Ee tL)] false [none] [rL] (λx=>short x.1) (λx=>((x.1,()),()))
noncomputable abbrev Fp:Spec:=Cv (.pair tL .unit) tL false true (λx=>short x.1) (λx=>x.1)
theorem MN (xs:Option (List Int)) (P:((List Int×Unit)×Unit)->Prop):(Br xs.isNone (P ((List.take 0 (List.drop 0 []),()),())) (0=0/\0=([]:List Int).length/\0+(xs.getD []).length<=Bg/\P ((List.take ([]++xs.getD []).length (List.drop 0 ([]++xs.getD [])),()),())))=fnMW Nu (look []) nX Tryz.f88 (xs,()) P:=by kernel_rfl
theorem AQ (xs:List Int) (P:List Int->Prop):(0=0/\0=([]:List Int).length/\0+xs.length<=Bg/\P (List.take ([]++xs).length (List.drop 0 ([]++xs))))=fnW Cl (look []) Fp Tryz.f55 (xs,()) P:=by kernel_rfl
theorem KY (xs:Option (List Int)) (h:short (xs.getD [])):fnMW Nu (look []) nX Tryz.f88 (xs,()) (λ(z:(List Int×Unit)×Unit)=>z=((xs.getD [],()),())):=by
 unfold short at h
 refine Eq.mp (MN xs _) ⟨λhn=>?_,λ_=>⟨rfl,rfl,by show 0+(xs.getD []).length<=4294967296;omega,?_⟩⟩
 ·cases xs with
  |none=>rfl
  |some y=>cases hn
 ·simp only [At,List.nil_append]
theorem tV:Bh Tryz.prog 88 nX:=
 Bh.Wb Mo Ak mixed Tryz.func88 (by kernel_rfl) (by kernel_rfl) λx h=>KY x.1 h
theorem iB:Bh Tryz.prog 88 Vt:=Bh.ofO tV λ_ _ h=>⟨h,rfl⟩
theorem zv (xs:List Int) (h:short xs):fnW Cl (look []) Fp Tryz.f55 (xs,()) (λ(z:List Int)=>z=xs):=by
 unfold short at h
 refine Eq.mp (AQ xs _) ⟨rfl,rfl,by show 0+xs.length<=4294967296;omega,?_⟩
 simp only [At,List.nil_append]
theorem Vv:Sound Tryz.prog 55 Fp:=
 Sound.Cv Bk Ak mixed Tryz.func55 (by kernel_rfl) (by kernel_rfl) λx h=>zv x.1 h
end Go.Proofs.YtjbdmibbbpdnnaaGreat

namespace Go.Proofs.YtjbdmibbbpdnnaaGreat
open Go.RowKit
def Bo (xs is:List Int):List Int:=is.map (Ji xs)
noncomputable abbrev Uk:MSpec:=Wb [none,none] [(false, .Ee tL),(false, .Ee tL)] false [none] [rL] (λx=>short x.2.1/\Iy (List.length x.1) x.2.1) (λx=>((Bo x.1 x.2.1,()),()))
noncomputable abbrev Um:Spec:=Cv (.pair tL (.pair tL .unit)) tL false true (λx=>short x.1/\Iy (List.length x.2.1) x.1) (λx=>Bo x.2.1 x.1)
def Ij (xs:List Int):ByteArray:=bytesOf (xs.map λx=>IntKind.u8.wrap x)
noncomputable abbrev Cm:Spec:=Cv (.pair tL .unit) .str false true (λx=>short x.1) (λx=>Ij x.1)
def iu (ps:List (List Int)) (p:List Int):Int:=Dv (λq=>decide (q=p)) ps 0
theorem HF (xs is:List Int) (P:((List Int×Unit)×Unit)->Prop):(((0:Int)<=(↑is.length:Int)/\(↑is.length:Int)<(↑Bg:Int)+(1:Int))/\(↑is.length:Int)=(↑is.length:Int)/\0=0/\(List.replicate (↑is.length:Int).toNat (Int.ofNat (nat_lit 0))).length=(List.replicate (↑is.length:Int).toNat (Int.ofNat (nat_lit 0))).length/\Bi (λ(v3:Int×List Int×PUnit) (k4:Int×List Int×PUnit->Prop)=>Br (decide (v3.1<(↑is.length:Int))) (∃(y5:Int),idx is v3.1=some y5/\ ∃(y6:Int),idx xs y5=some y6/\((0:Int)<=v3.1/\v3.1<(↑v3.2.1.length:Int))/\0+v3.1.toNat<v3.2.1.length/\0=0/\v3.2.1.length=(v3.2.1.set (0+v3.1.toNat) y6).length/\k4 (IntKind.i64.wrap (v3.1+(1:Int)),v3.2.1.set (0+v3.1.toNat) y6,())) (P ((List.take v3.2.1.length (List.drop 0 v3.2.1),()),()))) ((0:Int),List.replicate (↑is.length:Int).toNat (Int.ofNat (nat_lit 0)),PUnit.unit))=fnMW Nu (look []) Uk Tryz.f72 (xs,is,()) P:=by kernel_rfl
theorem HH (is xs:List Int) (P:List Int->Prop):(0=0/\0=([]:List Int).length/\Bi (λ(v3:Int×List Int×PUnit) (k4:Int×List Int×PUnit->Prop)=>Br (decide (v3.1<(↑is.length:Int))) (∃(y5:Int),idx is v3.1=some y5/\ ∃(y6:Int),idx xs y5=some y6/\0=0/\v3.2.1.length=v3.2.1.length/\v3.2.1.length+(List.take 1 (List.drop 0 [y6])).length<=Bg/\0=0/\(v3.2.1++List.take 1 (List.drop 0 [y6])).length=(v3.2.1++List.take 1 (List.drop 0 [y6])).length/\k4 (IntKind.i64.wrap (v3.1+(1:Int)),v3.2.1++List.take 1 (List.drop 0 [y6]),())) (P (List.take v3.2.1.length (List.drop 0 v3.2.1)))) ((0:Int),[],PUnit.unit))=fnW Cl (look []) Um Tryz.f62 (is,xs,()) P:=by kernel_rfl
theorem AZ (xs:List Int) (P:ByteArray->Prop):(((0:Int)<=(↑xs.length:Int)/\(↑xs.length:Int)<(↑Bg:Int)+(1:Int))/\(↑xs.length:Int)=(↑xs.length:Int)/\0=0/\(List.replicate (↑xs.length:Int).toNat (Int.ofNat (nat_lit 0))).length=(List.replicate (↑xs.length:Int).toNat (Int.ofNat (nat_lit 0))).length/\Bi (λ(v2:Int×List Int×PUnit) (k3:Int×List Int×PUnit->Prop)=>Br (decide (v2.1<(↑xs.length:Int))) (∃(y4:Int),idx xs v2.1=some y4/\((0:Int)<=v2.1/\v2.1<(↑v2.2.1.length:Int))/\0+v2.1.toNat<v2.2.1.length/\0=0/\v2.2.1.length=(v2.2.1.set (0+v2.1.toNat) (IntKind.u8.wrap y4)).length/\k3 (IntKind.i64.wrap (v2.1+(1:Int)),v2.2.1.set (0+v2.1.toNat) (IntKind.u8.wrap y4),())) (P (bytesOf (List.take v2.2.1.length (List.drop 0 v2.2.1))))) ((0:Int),List.replicate (↑xs.length:Int).toNat (Int.ofNat (nat_lit 0)),PUnit.unit))=fnW Cl (look []) Cm Tryz.f42 (xs,()) P:=by kernel_rfl
theorem nM (xs is:List Int):(Bo xs is).length=is.length:=by simp [Bo]
theorem PC {α:Type} (y:α):List.take 1 (List.drop 0 [y])= [y]:=rfl
theorem FF (xs is:List Int) (h:short is/\Iy xs.length is):fnMW Nu (look []) Uk Tryz.f72 (xs,is,()) (λ(z:(List Int×Unit)×Unit)=>z=((Bo xs is,()),())):=by
 obtain ⟨h,hr⟩:=h
 unfold short at h
 refine Eq.mp (HF xs is _) ?_
 refine ⟨⟨by omega,by show (is.length:Int)<(4294967296:Int)+1;omega⟩,rfl,rfl,rfl,?_⟩
 have Ly:=nM xs is
 refine Ag is.length (λv=>v.1) (λj v=>v.2.1.length=(Bo xs is).length/\v.2.1.take j=(Bo xs is).take j) rfl ⟨by rw [Ly];simp,by simp⟩ ?_
 rintro j ⟨i,ys,⟨⟩⟩ K hj hi ⟨h1,h2⟩ hK
 dsimp only at hi h1 h2⊢
 subst hi
 refine Br.dec (λhl=>?_) λhl=>?_
 ·have hl:j<is.length:=by omega
  have hy:=hr _ (List.getElem_mem hl)
  refine ⟨_,Am hl,_,gV hy.1 hy.2,⟨by omega,by omega⟩,by rw [Int.toNat_natCast];omega,rfl,by rw [List.length_set],?_⟩
  rw [Ah (by omega),Int.toNat_natCast,Nat.zero_add]
  have Gq:j<(Bo xs is).length:=by rw [Ly];exact hl
  have e:Ji xs is[j]=(Bo xs is)[j]:=by simp [Bo]
  rw [e]
  exact hK hl _ rfl ⟨by rw [List.length_set];exact h1,Gg Gq h1 h2⟩
 ·have:j=is.length:=by omega
  subst this
  rw [<-Ly,List.take_length,<-h1,List.take_length] at h2
  rw [List.drop_zero,List.take_length,h2]
theorem pW:Bh Tryz.prog 72 Uk:=
 Bh.Wb Mo Ak mixed Tryz.func72 (by kernel_rfl) (by kernel_rfl) λx h=>FF x.1 x.2.1 h
theorem FH (is xs:List Int) (h:short is/\Iy xs.length is):fnW Cl (look []) Um Tryz.f62 (is,xs,()) (λ(z:List Int)=>z=Bo xs is):=by
 obtain ⟨h,hr⟩:=h
 unfold short at h
 refine Eq.mp (HH is xs _) ⟨rfl,rfl,?_⟩
 have Ly:=nM xs is
 refine Ag is.length (λv=>v.1) (λj v=>v.2.1=(Bo xs is).take j) rfl rfl ?_
 rintro j ⟨i,ys,⟨⟩⟩ K hj hi h1 hK
 dsimp only at hi h1⊢
 subst hi
 refine Br.dec (λhl=>?_) λhl=>?_
 ·have hl:j<is.length:=by omega
  have hy:=hr _ (List.getElem_mem hl)
  have Gq:j<(Bo xs is).length:=by rw [Ly];exact hl
  refine ⟨_,Am hl,_,gV hy.1 hy.2,rfl,rfl,?_,rfl,rfl,?_⟩
  ·show ys.length+1<=4294967296
   rw [h1,List.length_take];omega
  ·rw [Ah (by omega),PC]
   refine hK hl _ rfl ?_
   dsimp only
   rw [h1,List.take_succ_eq_append_getElem Gq]
   simp [Bo]
 ·have:j=is.length:=by omega
  subst this
  rw [At,h1,<-Ly,List.take_length]
theorem pY:Sound Tryz.prog 62 Um:=
 Sound.Cv Bk Ak mixed Tryz.func62 (by kernel_rfl) (by kernel_rfl) λx h=>FH x.1 x.2.1 h
theorem zD (xs:List Int) (h:short xs):fnW Cl (look []) Cm Tryz.f42 (xs,()) (λ(z:ByteArray)=>z=Ij xs):=by
 unfold short at h
 refine Eq.mp (AZ xs _) ?_
 refine ⟨⟨by omega,by show (xs.length:Int)<(4294967296:Int)+1;omega⟩,rfl,rfl,rfl,?_⟩
 have Ly:(xs.map λx=>IntKind.u8.wrap x).length=xs.length:=by simp
 refine Ag xs.length (λv=>v.1) (λj v=>v.2.1.length=(xs.map λx=>IntKind.u8.wrap x).length/\v.2.1.take j=(xs.map λx=>IntKind.u8.wrap x).take j) rfl ⟨by rw [Ly];simp,by simp⟩ ?_
 rintro j ⟨i,ys,⟨⟩⟩ K hj hi ⟨h1,h2⟩ hK
 dsimp only at hi h1 h2⊢
 subst hi
 refine Br.dec (λhl=>?_) λhl=>?_
 ·have hl:j<xs.length:=by omega
  refine ⟨_,Am hl,⟨by omega,by omega⟩,by rw [Int.toNat_natCast];omega,rfl,by rw [List.length_set],?_⟩
  rw [Ah (by omega),Int.toNat_natCast,Nat.zero_add]
  have Gq:j<(xs.map λx=>IntKind.u8.wrap x).length:=by rw [Ly];exact hl
  have e:IntKind.u8.wrap xs[j]=(xs.map λx=>IntKind.u8.wrap x)[j]:=by simp
  rw [e]
  exact hK hl _ rfl ⟨by rw [List.length_set];exact h1,Gg Gq h1 h2⟩
 ·have:j=xs.length:=by omega
  subst this
  rw [<-Ly,List.take_length,<-h1,List.take_length] at h2
  rw [List.drop_zero,List.take_length,h2];rfl
theorem Pu:Sound Tryz.prog 42 Cm:=
 Sound.Cv Bk Ak mixed Tryz.func42 (by kernel_rfl) (by kernel_rfl) λx h=>zD x.1 h
theorem bn {α:Type} (P:α->Bool) (y:α): ∀(l:List α) (i:Int),0<=i->Dv P (l++ [y]) i=if Dv P l i<0 then (if P y=true then i+l.length else-1) else Dv P l i
 | [],i,_=>by simp [Dv]
 |x::r,i,h=>by
  simp only [List.cons_append,Dv,List.length_cons]
  split
  ·rw [if_neg (by omega)]
  ·rw [bn P y r (i+1) (by omega),show i+1+(r.length:Int)=i+((r.length+1:Nat):Int) by push_cast;omega]
theorem tA (ps:List (List Int)) (q p:List Int):iu (ps++ [q]) p=if iu ps p<0 then (if q=p then (ps.length:Int) else-1) else iu ps p:=by
 unfold iu
 rw [bn _ _ _ _ (Int.le_refl 0)]
 simp only [decide_eq_true_eq,Int.zero_add]
def Ou (p:List Int):Prop:= ∀x∈p,0<=x/\x<256
theorem IK {x y:Int} (hx:0<=x/\x<256) (hy:0<=y/\y<256) (h:UInt8.ofNat (IntKind.u8.wrap x).toNat=UInt8.ofNat (IntKind.u8.wrap y).toNat):x=y:=by
 have h:=congrArg UInt8.toNat h
 simp only [IntKind.wrap_u8,UInt8.toNat_ofNat'] at h
 omega
theorem bytes_inj: ∀(p q:List Int),Ou p->Ou q->(p.map λx=>UInt8.ofNat (IntKind.u8.wrap x).toNat)=(q.map λx=>UInt8.ofNat (IntKind.u8.wrap x).toNat)->p=q
 | [],[],_,_,_=>rfl
 | [],_::_,_,_,h=>by simp at h
 |_::_,[],_,_,h=>by simp at h
 |x::p,y::q,hp,hq,h=>by
  simp only [List.map_cons,List.cons.injEq] at h
  rw [IK (hp x (by simp)) (hq y (by simp)) h.1,bytes_inj p q (λz hz=>hp z (by simp [hz])) (λz hz=>hq z (by simp [hz])) h.2]
theorem key_inj {p q:List Int} (hp:Ou p) (hq:Ou q) (h:Ij p=Ij q):p=q:=by
 refine bytes_inj p q hp hq ?_
 simp only [Ij,bytesOf,ByteArray.mk.injEq,List.map_map] at h
 have h:=congrArg Array.toList h
 simpa [Function.comp_def] using h
def KM (m:ByteArray->Option Int) (ps:List (List Int)):Prop:= ∀p,Ou p->m (Ij p)=if iu ps p<0 then none else some (iu ps p)
theorem KM.nil:KM (λ_=>none) []:= λp _=>by
 rw [if_pos (by unfold iu;simp [Dv])]
theorem KM.add {m:ByteArray->Option Int} {ps:List (List Int)} {q:List Int} (h:KM m ps) (hq:Ou q) (hn:iu ps q<0):KM (Sp m (Ij q) (ps.length:Int)) (ps++ [q]):=by
 intro p hp
 rw [tA]
 unfold Sp
 by_cases e:p=q
 ·subst e
  rw [if_pos rfl,if_pos hn,if_pos rfl,if_neg (by omega)]
 ·rw [if_neg (λhk=>e (key_inj hp hq hk)),h p hp]
  have e': ¬q=p:= λh=>e h.symm
  rw [if_neg e']
  by_cases EB:iu ps p<0
  ·rw [if_pos EB,if_pos EB,if_pos (by decide)]
  ·rw [if_neg EB,if_neg EB,if_neg EB]
end Go.Proofs.YtjbdmibbbpdnnaaGreat

namespace Go.Proofs.YtjbdmibbbpdnnaaGreat
open Go.RowKit
noncomputable abbrev Oh:Spec:=Cv (.pair Dn .unit) tL false true (λx=>List.length x.1.2.2.1<=8) (λx=>Aw (List.length x.1.2.2.1))
abbrev iL:Type:=Int×Int×ByteArray×List (List Int)×List Int×PUnit
theorem xR (p:Int×ByteArray×List (List Int)×Unit) (P:List Int->Prop):(0=0/\0=([]:List Int).length/\Bi (λ(v2:iL) (k3:iL->Prop)=>Br (decide (v2.1<=(↑v2.2.2.2.1.length:Int))) (0=0/\v2.2.2.2.2.1.length=v2.2.2.2.2.1.length/\v2.2.2.2.2.1.length+(List.take 2 (List.drop 0 [v2.1,IntKind.i64.wrap ((0:Int)-v2.1)])).length<=Bg/\0=0/\(v2.2.2.2.2.1++List.take 2 (List.drop 0 [v2.1,IntKind.i64.wrap ((0:Int)-v2.1)])).length=(v2.2.2.2.2.1++List.take 2 (List.drop 0 [v2.1,IntKind.i64.wrap ((0:Int)-v2.1)])).length/\k3 (IntKind.i64.wrap (v2.1+(1:Int)),v2.2.1,v2.2.2.1,v2.2.2.2.1,v2.2.2.2.2.1++List.take 2 (List.drop 0 [v2.1,IntKind.i64.wrap ((0:Int)-v2.1)]),())) (P (List.take v2.2.2.2.2.1.length (List.drop 0 v2.2.2.2.2.1)))) ((1:Int),p.1,p.2.1,p.2.2.1,[],PUnit.unit))=fnW Cl (look []) Oh Tryz.f56 (p,()) P:=by kernel_rfl
theorem wZ (p:PP) (h:List.length p.2.2.1<=8):fnW Cl (look []) Oh Tryz.f56 (p,()) (λ(z:List Int)=>z=Aw (List.length p.2.2.1)):=by
 refine Eq.mp (xR p _) ⟨rfl,rfl,?_⟩
 refine Bi.mk (λv=> ∃j:Nat,j<=List.length p.2.2.1/\v=((j:Int)+1,p.1,p.2.1,p.2.2.1,Aw j,())) (λv=>List.length p.2.2.1+1-v.1.toNat) ⟨0,Nat.zero_le _,rfl⟩ ?_
 rintro _ ⟨j,hj,rfl⟩
 dsimp only
 refine Br.dec (λhl=>?_) λhl=>?_
 ·refine ⟨rfl,rfl,?_,rfl,rfl,⟨j+1,by omega,?_⟩,?_⟩
  ·show (Aw j).length+2<=4294967296
   rw [Kn];omega
  ·rw [Vl,Ca (n:=(j:Int)+1+1) (by omega) (by omega),Ca (n:=0-((j:Int)+1)) (by omega) (by omega),Int.zero_sub]
   rfl
  ·rw [Ca (by omega) (by omega)];omega
 ·have:j=List.length p.2.2.1:=by omega
  subst this
  rw [At]
theorem lE:Sound Tryz.prog 56 Oh:=
 Sound.Cv Bk Ak mixed Tryz.func56 (by kernel_rfl) (by kernel_rfl) λx h=>wZ x.1 h
theorem LV {p:PP} {room:Int} (hr:roomy room) (h: ¬Tg p room<0):(Bx p.2.2.1:Int)<=room-Tg p room/\roomy (Tg p room):=by
 unfold Tg at h⊢
 split at h
 ·exact absurd (show (-1:Int)<0 by decide) h
 ·rename_i h1
  rw [if_neg h1]
  split at h
  ·exact absurd (show (-1:Int)<0 by decide) h
  ·rename_i h2
   rw [if_neg h2]
   have e2:=xy h2
   obtain ⟨r1,r2⟩:=hr
   unfold roomy
   omega
end Go.Proofs.YtjbdmibbbpdnnaaGreat

namespace Go.Proofs.YtjbdmibbbpdnnaaGreat
open Go.RowKit
def sU (v:Int):List Int->Nat
 | []=>0
 |x::r=>if x>v then sU v r+1 else 0
def OZ (v:Int) (t:List Int):Option (List Int):=if sU v t=0 then none else some (Ji t ((sU v t-1:Nat):Int)::(t.set (sU v t-1) v).reverse)
def cG:List Int->Option (List Int)
 | []=>none
 |v::t=>match cG t with
  |some t'=>some (v::t')
  |none=>OZ v t
theorem wJ {s s':List Int} (h:cG s=some s'): ∀pre:List Int,cG (pre++s)=some (pre++s')
 | []=>h
 |v::p=>by rw [List.cons_append,cG,wJ h p];rfl
theorem PW {α:Type} (pre:List α) (v a:α) (t:List α):(pre++v::t).set pre.length a=pre++a::t:=by
 rw [List.set_append,if_neg (by omega)];simp
inductive BJ:List Int->List (List Int)->List Int->Prop where
 |one (a:List Int):BJ a [a] a
 |more {a c b:List Int} {L:List (List Int)} :cG a=some c->BJ c L b->BJ a (a::L) b
theorem BJ.cons {a b:List Int} {L:List (List Int)} (h:BJ a L b) (v:Int):BJ (v::a) (L.map (v:: ·)) (v::b):=by
 induction h with
 |one a=>exact .one _
 |more h3 _ ih=>exact .more (wJ h3 [v]) ih
theorem BJ.head {a b:List Int} {L:List (List Int)} (h:BJ a L b): ∃M,L=a::M:=by
 cases h with
 |one=>exact ⟨_,rfl⟩
 |more _ _=>exact ⟨_,rfl⟩
theorem BJ.at {a b:List Int} {L:List (List Int)} (h:BJ a L b): ∀j (hj:j<L.length),(∀h2:j+1<L.length,cG L[j]=some L[j+1])/\(j+1=L.length->L[j]=b):=by
 induction h with
 |one a=>
  intro j hj
  simp only [List.length_singleton] at hj
  have:j=0:=by omega
  subst this
  exact ⟨λh2=>by simp at h2,λ_=>rfl⟩
 |more h3 h4 ih=>
  intro j hj
  rcases j with _|j
  ·obtain ⟨M,hM⟩:=h4.head
   refine ⟨λh2=>?_,λh2=>?_⟩
   ·simp only [List.getElem_cons_zero,List.getElem_cons_succ]
    subst hM
    exact h3
   ·subst hM;simp at h2
  ·have:=ih j (by simpa using hj)
   refine ⟨λh2=>?_,λh2=>?_⟩
   ·simp only [List.getElem_cons_succ]
    exact this.1 (by simpa using h2)
   ·simp only [List.getElem_cons_succ]
    exact this.2 (by simpa using h2)
theorem BJ.distinct {a b:List Int} {L:List (List Int)} (h:BJ a L b) (hb:cG b=none): ∀k i j (hi:i<L.length) (hj:j<L.length),L.length-j=k->i<j->L[i]≠L[j]:=by
 intro k
 induction k with
 |zero=>intro i j hi hj hk;omega
 |succ k ih=>
  intro i j hi hj hk iW he
  by_cases e:j+1<L.length
  ·have h1:=(h.at i hi).1 (by omega)
   have h2:=(h.at j hj).1 e
   rw [he,h2] at h1
   exact ih (i+1) (j+1) (by omega) e (by omega) (by omega) (Option.some.inj h1).symm
  ·have h1:=(h.at i hi).1 (by omega)
   have h2:=(h.at j hj).2 (by omega)
   rw [he,h2,hb] at h1
   cases h1
theorem BJ.idx {a b:List Int} {L:List (List Int)} (h:BJ a L b) (hb:cG b=none) {j:Nat} (hj:j<L.length):L.idxOf L[j]=j:=by
 have h1:L.idxOf L[j]<L.length:=List.idxOf_lt_length_of_mem (List.getElem_mem _)
 have h2:L[L.idxOf L[j]]=L[j]:=List.getElem_idxOf h1
 rcases Nat.lt_trichotomy (L.idxOf L[j]) j with h3|h3|h3
 ·exact absurd h2 (h.distinct hb _ _ _ h1 hj rfl h3)
 ·exact h3
 ·exact absurd h2.symm (h.distinct hb _ _ _ hj h1 rfl h3)
end Go.Proofs.YtjbdmibbbpdnnaaGreat

namespace Go.Proofs.YtjbdmibbbpdnnaaGreat
open Go.RowKit
theorem LW {t:TT} {room:Int} (hr:roomy room) (h: ¬Hi t room<0):((List.length t.1+Bx t.2.1+List.length t.2.2.1:Nat):Int)<=room-Hi t room/\roomy (Hi t room):=by
 have kx:=cI hr h
 refine ⟨?_,kx⟩
 clear kx
 unfold Hi at h⊢
 split at h
 ·exact absurd (show (-1:Int)<0 by decide) h
 ·rename_i h1
  rw [if_neg h1]
  split at h
  ·exact absurd (show (-1:Int)<0 by decide) h
  ·rename_i h2
   rw [if_neg h2]
   split at h
   ·exact absurd (show (-1:Int)<0 by decide) h
   ·rename_i h3
    rw [if_neg h3]
    have e1:Pf t.1 room=room-t.1.length/\_:=ue (n:=t.1.length) h1
    have e2:=xy h2
    have e3:Pf t.2.2.1 (Ku t.2.1 (Pf t.1 room))=Ku t.2.1 (Pf t.1 room)-t.2.2.1.length/\_:=ue (n:=t.2.2.1.length) h3
    omega
end Go.Proofs.YtjbdmibbbpdnnaaGreat

namespace Go.Proofs.YtjbdmibbbpdnnaaGreat
open Go.RowKit
def Cg:List Int->List Int->Int
 | [],[]=>0
 | [],_::_=> -1
 |_::_,[]=>1
 |x::a,y::b=>if x<y then-1 else if x>y then 1 else Cg a b
def ao (a b:List Int):Bool:=decide (Cg a b<0)
noncomputable abbrev Rd:Spec:=Cv (.pair tL (.pair tL .unit)) .bool false true (λx=>short x.1/\List.length x.1=List.length x.2.1) (λx=>ao x.1 x.2.1)
theorem AW (a b:List Int) (P:Bool->Prop):(Bi (λ(v3:Int×PUnit) (k4:Int×PUnit->Prop)=>Br (decide (v3.1<(↑a.length:Int))) (∃(y5:Int),idx a v3.1=some y5/\ ∃(y6:Int),idx b v3.1=some y6/\Br (y5 !=y6) (∃(y7:Int),idx a v3.1=some y7/\ ∃(y8:Int),idx b v3.1=some y8/\P (decide (y7<y8))) (k4 (IntKind.i64.wrap (v3.1+(1:Int)),()))) (P false)) ((0:Int),PUnit.unit))=fnW Cl (look []) Rd Tryz.f92 (a,b,()) P:=by kernel_rfl
theorem Sound.ofO {P:Program} {f:FuncId} {e:Ty} {r res:Ty} {Ej fresh:Bool} {pre:(Ty.pair (.oslice e) r).den->Prop} {val:(Ty.pair (.oslice e) r).den->res.den} {cP:(Ty.pair (.slice e) r).den->Prop} {oP:(Ty.pair (.slice e) r).den->res.den}
  (h:Sound P f (Go.Proofs.YtjbdmibbbpdnnaaGreat.Cv (.pair (.oslice e) r) res Ej fresh pre val))
  (hp: ∀(o:Option (List e.den)) (y:r.den),cP (o.getD [],y)->pre (o,y)/\val (o,y)=oP (o.getD [],y)):Sound P f (Go.Proofs.YtjbdmibbbpdnnaaGreat.Cv (.pair (.slice e) r) res Ej fresh cP oP):=by
 refine ⟨h.enter,λw S vs x y hS h2 h5=>?_⟩
 obtain ⟨xs,rest⟩:=x
 cases vs with
 |nil=>exact h2.elim
 |cons u us=>
  obtain ⟨h7,h8⟩:=h2
  obtain ⟨ox,h9,rfl⟩:=h7.told
  have fG:cP (ox.getD [],rest):=Classical.byContradiction λhn=>by
   have:(Go.Proofs.YtjbdmibbbpdnnaaGreat.Cv (.pair (.slice e) r) res Ej fresh cP oP).fn (ox.getD [],rest)=none:=if_neg hn
   rw [this] at h5;cases h5
  obtain ⟨k1,k2⟩:=hp ox rest fG
  have hv:(Go.Proofs.YtjbdmibbbpdnnaaGreat.Cv (.pair (.slice e) r) res Ej fresh cP oP).fn (ox.getD [],rest)=some (oP (ox.getD [],rest)):=if_pos fG
  rw [hv] at h5
  have h5:=Option.some.inj h5
  exact h.calls w S (u::us) (ox,rest) y hS ⟨h9,h8⟩ ((if_pos k1).trans (by rw [k2];exact congrArg some h5))
theorem zA (a b:List Int) (h:short a/\a.length=b.length):fnW Cl (look []) Rd Tryz.f92 (a,b,()) (λ(z:Bool)=>z=ao a b):=by
 obtain ⟨ha,hb⟩:=h
 unfold short at ha
 refine Eq.mp (AW a b _) ?_
 refine Ag a.length (λv=>v.1) (λj _=>Cg (a.drop j) (b.drop j)=Cg a b) rfl (by simp) ?_
 rintro j ⟨i,⟨⟩⟩ K hj hi TL hK
 dsimp only at hi⊢
 subst hi
 refine Br.dec (λhl=>?_) λhl=>?_
 ·have hl:j<a.length:=by omega
  have XQ:j<b.length:=by omega
  rw [List.drop_eq_getElem_cons hl,List.drop_eq_getElem_cons XQ] at TL
  simp only [Cg] at TL
  refine ⟨_,Am hl,_,Am XQ,⟨λFc=>?_,λFc=>?_⟩⟩
  ·refine ⟨_,Am hl,_,Am XQ,?_⟩
   have Fc:a[j]≠b[j]:=by simpa using Fc
   unfold ao
   rw [<-TL]
   by_cases h1:a[j]<b[j]
   ·rw [if_pos h1];simp [h1]
   ·rw [if_neg h1,if_pos (by omega)];simp [h1]
  ·have Fc:a[j]=b[j]:=by simpa using Fc
   rw [if_neg (by omega),if_neg (by omega)] at TL
   rw [Ah (by omega)]
   exact hK hl _ rfl TL
 ·have:j=a.length:=by omega
  subst this
  rw [List.drop_length,List.drop_eq_nil_of_le (by omega)] at TL
  unfold ao
  rw [<-TL]
  rfl
theorem og:Sound Tryz.prog 92 Rd:=
 Sound.Cv Bk Ak mixed Tryz.func92 (by kernel_rfl) (by kernel_rfl) λx h=>zA x.1 x.2.1 h
end Go.Proofs.YtjbdmibbbpdnnaaGreat

namespace Go.Proofs.YtjbdmibbbpdnnaaGreat
open Go.RowKit
abbrev SS:Type:=List (List Int)×List Int×List Int×Bool×Unit
abbrev rLS:CK:= .row tL 28
abbrev rN:CK:= .row tI 3
def Cx (L:List (List Int)) (Hv:List Int) (s:List Int):Nat:=(Hv.takeWhile λi=>ao (L.getD i.toNat []) s).length
structure Dl (m:Nat) (L:List (List Int)) (Hv:List Int):Prop where
 lf:L.length<=3000
 len: ∀x∈L,x.length=m
 short:m<=20
 perm:Hv.Perm (upto L.length)
 sorted:Hv.Pairwise λi j=>ao (L.getD i.toNat []) (L.getD j.toNat [])=true
def kF (L:List (List Int)) (s:List Int):Int:=if s∈L then (L.idxOf s:Int) else-1
def Qd (Hv:List Int) (k:Nat) (x:Int):List Int:=Hv.take k++x::Hv.drop k
noncomputable abbrev aM:Spec:=Cv (.pair aS (.pair tL .unit)) tI false true (λx=>Dl (List.length x.2.1) x.1.1 x.1.2.2.1) (λx=>(Cx x.1.1 x.1.2.2.1 x.2.1:Int))
noncomputable abbrev Zh:Spec:=Cv (.pair aS (.pair tL .unit)) tI false true (λx=>Dl (List.length x.2.1) x.1.1 x.1.2.2.1) (λx=>kF x.1.1 x.2.1)
noncomputable abbrev fU:MSpec:=Wb [some 4,none,none] [(false,rLS),(false,rL),(false,rN),(false, .Ee .bool),(false, .Ee tL),(false, .Ee tI)] false [some 4] [rLS,rL,rN, .Ee .bool]
 (λx=>Dl (List.length x.2.2.2.2.1) x.1 x.2.2.1/\List.length x.2.1<=3000) (λx=>((x.1++ [x.2.2.2.2.1],x.2.1++ [x.2.2.2.2.2.1],Qd x.2.2.1 (Cx x.1 x.2.2.1 x.2.2.2.2.1) (List.length x.1),x.2.2.2.1,()),()))
def Wy (L:List (List Int)):List Int:=(List.range L.length).foldl (λ(S:List Int) (i:Nat)=>Qd S (Cx (L.take i) S (L.getD i [])) (i:Int)) []
def Ec (g:List (List Int)) (x:List Int) (d:Int):List Int->List (List Int)->List Int->List (List Int)×List Int×Bool
 | [],L,D=>(L,D,true)
 |l::ls,L,D=>if Aa x (Af g l)∈L then Ec g x d ls L D else if L.length=3000 then (L,D,false) else Ec g x d ls (L++ [Aa x (Af g l)]) (D++ [d+1])
def Fl (g:List (List Int)) (ls:List Int):Nat->Nat->List (List Int)->List Int->List (List Int)×List Int×Bool
 |0,_,L,D=>(L,D,true)
 |f+1,k,L,D=>if k<L.length then (match Ec g (L.getD k []) (D.getD k 0) ls L D with
  |(L',D',true)=>Fl g ls f (k+1) L' D'
  |(L',D',false)=>(L',D',false)) else (L,D,true)
def Cu (g:List (List Int)) (s:List Int):List (List Int)×List Int×Bool:=Fl g (Aw g.length) 3001 0 [s] [0]
def Fe (g:List (List Int)) (s:List Int):SS:=((Cu g s).1,(Cu g s).2.1,Wy (Cu g s).1,(Cu g s).2.2,())
noncomputable abbrev Cz:Spec:=Cv (.pair Dn (.pair tL .unit)) aS false false (λx=>Bf x.1=true/\List.length x.2.1<=20/\ ∀y∈x.2.1,0<=y/\y<x.1.1) (λx=>Fe x.1.2.2.1 x.2.1)
abbrev DA:Type:=Int×Int×List (List Int)×List Int×List Int×Bool×PUnit
theorem WY (f:List (List Int)×List Int×List Int×Bool×Unit) (s:List Int) (P:Int->Prop):(Bi (λ(v3:DA) (k4:DA->Prop)=>Br (decide (v3.1<v3.2.1)) ((2:Int)≠(0:Int)/\ ∃(y5:Int),idx v3.2.2.2.2.1 (IntKind.i64.wrap ((IntKind.i64.wrap (v3.1+v3.2.1)).tdiv (2:Int)))=some y5/\ ∃(y6:List Int),idx v3.2.2.1 y5=some y6/\ ∃(y7:Bool),Rd.fn (y6,s,())=some y7/\Br y7 (k4 (IntKind.i64.wrap (IntKind.i64.wrap ((IntKind.i64.wrap (v3.1+v3.2.1)).tdiv (2:Int))+(1:Int)),v3.2.1,v3.2.2.1,v3.2.2.2.1,v3.2.2.2.2.1,v3.2.2.2.2.2.1,())) (k4 (v3.1,IntKind.i64.wrap ((IntKind.i64.wrap (v3.1+v3.2.1)).tdiv (2:Int)),v3.2.2.1,v3.2.2.2.1,v3.2.2.2.2.1,v3.2.2.2.2.2.1,()))) (P v3.1)) ((0:Int),(↑f.2.2.1.length:Int),f.1,f.2.1,f.2.2.1,f.2.2.2.1,PUnit.unit))=fnW Cl (look [(92,Rd)]) aM Tryz.f75 (f,s,()) P:=by kernel_rfl
theorem MR (f:List (List Int)×List Int×List Int×Bool×Unit) (s:List Int) (P:Int->Prop):(∃(y3:Int),aM.fn ((f.1,f.2.1,f.2.2.1,f.2.2.2.1,()),s,())=some y3/\Br (decide (y3<(↑f.2.2.1.length:Int))) (∃(y4:Int),idx f.2.2.1 y3=some y4/\ ∃(y5:List Int),idx f.1 y4=some y5/\ ∃(y6:Bool),An.fn (y5,s,())=some y6/\Br y6 (∃(y7:Int),idx f.2.2.1 y3=some y7/\P y7) (P (-1:Int))) (P (-1:Int)))=fnW Cl (look [(75,aM),(77,An)]) Zh Tryz.f58 (f,s,()) P:=by kernel_rfl
theorem WX (L:List (List Int)) (D S:List Int) (b:Bool) (s:List Int) (d:Int) (P:((List (List Int)×List Int×List Int×Bool×Unit)×Unit)->Prop):(∃(y7:Int),aM.fn ((List.take L.length (List.drop 0 L),List.take D.length (List.drop 0 D),List.take S.length (List.drop 0 S),b,()),s,())=some y7/\0=0/\S.length=S.length/\S.length+(List.take 1 (List.drop 0 [(0:Int)])).length<=Bg/\((0:Int)<=IntKind.i64.wrap (y7+(1:Int))/\IntKind.i64.wrap (y7+(1:Int))<=(↑(S++List.take 1 (List.drop 0 [(0:Int)])).length:Int)/\(↑(S++List.take 1 (List.drop 0 [(0:Int)])).length:Int)<=(↑(S++List.take 1 (List.drop 0 [(0:Int)])).length:Int))/\((0:Int)<=y7/\y7<=(↑(S++List.take 1 (List.drop 0 [(0:Int)])).length:Int)/\(↑(S++List.take 1 (List.drop 0 [(0:Int)])).length:Int)<=(↑(S++List.take 1 (List.drop 0 [(0:Int)])).length:Int))/\((0:Int)<=y7/\y7<(↑(S++List.take 1 (List.drop 0 [(0:Int)])).length:Int))/\0+y7.toNat<(Bs (S++List.take 1 (List.drop 0 [(0:Int)])) (0+(IntKind.i64.wrap (y7+(1:Int))).toNat) (List.take ((↑(S++List.take 1 (List.drop 0 [(0:Int)])).length:Int).toNat-(IntKind.i64.wrap (y7+(1:Int))).toNat) (List.take ((↑(S++List.take 1 (List.drop 0 [(0:Int)])).length:Int).toNat-y7.toNat) (List.drop (0+y7.toNat) (S++List.take 1 (List.drop 0 [(0:Int)])))))).length/\0=0/\L.length=L.length/\L.length+(List.take 1 (List.drop 0 [s])).length<=Bg/\0=0/\D.length=D.length/\D.length+(List.take 1 (List.drop 0 [d])).length<=Bg/\P ((List.take (L++List.take 1 (List.drop 0 [s])).length (List.drop 0 (L++List.take 1 (List.drop 0 [s]))),List.take (D++List.take 1 (List.drop 0 [d])).length (List.drop 0 (D++List.take 1 (List.drop 0 [d]))),List.take (S++List.take 1 (List.drop 0 [(0:Int)])).length (List.drop 0 ((Bs (S++List.take 1 (List.drop 0 [(0:Int)])) (0+(IntKind.i64.wrap (y7+(1:Int))).toNat) (List.take ((↑(S++List.take 1 (List.drop 0 [(0:Int)])).length:Int).toNat-(IntKind.i64.wrap (y7+(1:Int))).toNat) (List.take ((↑(S++List.take 1 (List.drop 0 [(0:Int)])).length:Int).toNat-y7.toNat) (List.drop (0+y7.toNat) (S++List.take 1 (List.drop 0 [(0:Int)])))))).set (0+y7.toNat) (↑L.length:Int))),b,()),()))=fnMW Nu (look [(75,aM)]) fU Tryz.f54 (L,D,S,b,s,d,()) P:=by kernel_rfl
abbrev iN:Type:=Int×Int×ByteArray×List (List Int)×Bool×Bool×List (List Int)×List Int×List Int×List (List Int)×List Int×List Int×PUnit
abbrev xB:Type:=(List (List Int)×List Int×List Int×Bool×PUnit)×PUnit
theorem QP (p:Int×ByteArray×List (List Int)×Unit) (s:List Int) (P:(List (List Int)×List Int×List Int×Bool×Unit)->Prop):(∃(y3:List Int),Fp.fn (s,())=some y3/\ ∃(y4:xB),fU.fn ([],[],[],false,y3,(0:Int),())=some y4/\ ∃(y5:List Int),Oh.fn ((p.1,p.2.1,p.2.2.1,()),())=some y5/\0=0/\0=([]:List Int).length/\0=0/\0=([]:List Int).length/\0=0/\0=([]:List Int).length/\0=0/\y4.1.1.length=y4.1.1.length/\0=0/\y4.1.2.1.length=y4.1.2.1.length/\0=0/\y4.1.2.2.1.length=y4.1.2.2.1.length/\Bi (λ(v6:iN) (k7:iN->Prop)=>Br (decide (v6.1<(↑v6.2.2.2.2.2.2.2.2.2.1.length:Int))) (0=0/\v6.2.2.2.2.2.2.1.length=v6.2.2.2.2.2.2.1.length/\0=0/\v6.2.2.2.2.2.2.2.1.length=v6.2.2.2.2.2.2.2.1.length/\0=0/\v6.2.2.2.2.2.2.2.2.1.length=v6.2.2.2.2.2.2.2.2.1.length/\0=0/\v6.2.2.2.2.2.2.2.2.2.1.length=v6.2.2.2.2.2.2.2.2.2.1.length/\0=0/\v6.2.2.2.2.2.2.2.2.2.2.1.length=v6.2.2.2.2.2.2.2.2.2.2.1.length/\0=0/\v6.2.2.2.2.2.2.2.2.2.2.2.1.length=v6.2.2.2.2.2.2.2.2.2.2.2.1.length/\Bi (λ(v8:iN) (k9:iN->Prop)=>Br (decide (v8.1<(↑y5.length:Int))) (((0:Int)<=v6.1/\v6.1<(↑v8.2.2.2.2.2.2.2.2.2.1.length:Int))/\ ∃(bC:List Int),v8.2.2.2.2.2.2.2.2.2.1[0+v6.1.toNat]?=some bC/\ ∃(iX:Int),idx y5 v8.1=some iX/\ ∃(HW:List Int),Zd.fn ((v8.2.1,v8.2.2.1,v8.2.2.2.1,()),bC,iX,())=some HW/\ ∃(BD:Int),Zh.fn ((List.take v8.2.2.2.2.2.2.2.2.2.1.length (List.drop 0 v8.2.2.2.2.2.2.2.2.2.1),List.take v8.2.2.2.2.2.2.2.2.2.2.1.length (List.drop 0 v8.2.2.2.2.2.2.2.2.2.2.1),List.take v8.2.2.2.2.2.2.2.2.2.2.2.1.length (List.drop 0 v8.2.2.2.2.2.2.2.2.2.2.2.1),v8.2.2.2.2.2.1,()),HW,())=some BD/\Br (decide (BD>=(0:Int))) (0=0/\v8.2.2.2.2.2.2.1.length=v8.2.2.2.2.2.2.1.length/\0=0/\v8.2.2.2.2.2.2.2.1.length=v8.2.2.2.2.2.2.2.1.length/\0=0/\v8.2.2.2.2.2.2.2.2.1.length=v8.2.2.2.2.2.2.2.2.1.length/\0=0/\v8.2.2.2.2.2.2.2.2.2.1.length=v8.2.2.2.2.2.2.2.2.2.1.length/\0=0/\v8.2.2.2.2.2.2.2.2.2.2.1.length=v8.2.2.2.2.2.2.2.2.2.2.1.length/\0=0/\v8.2.2.2.2.2.2.2.2.2.2.2.1.length=v8.2.2.2.2.2.2.2.2.2.2.2.1.length/\k9 (IntKind.i64.wrap (v8.1+(1:Int)),v8.2.1,v8.2.2.1,v8.2.2.2.1,v8.2.2.2.2.1,v8.2.2.2.2.2.1,v8.2.2.2.2.2.2.1,v8.2.2.2.2.2.2.2.1,v8.2.2.2.2.2.2.2.2.1,v8.2.2.2.2.2.2.2.2.2.1,v8.2.2.2.2.2.2.2.2.2.2.1,v8.2.2.2.2.2.2.2.2.2.2.2.1,())) (Br ((↑v8.2.2.2.2.2.2.2.2.2.1.length:Int)==(3000:Int)) (P (List.take v8.2.2.2.2.2.2.2.2.2.1.length (List.drop 0 v8.2.2.2.2.2.2.2.2.2.1),List.take v8.2.2.2.2.2.2.2.2.2.2.1.length (List.drop 0 v8.2.2.2.2.2.2.2.2.2.2.1),List.take v8.2.2.2.2.2.2.2.2.2.2.2.1.length (List.drop 0 v8.2.2.2.2.2.2.2.2.2.2.2.1),v8.2.2.2.2.2.1,())) (((0:Int)<=v6.1/\v6.1<(↑v8.2.2.2.2.2.2.2.2.2.2.1.length:Int))/\ ∃(aX:Int),v8.2.2.2.2.2.2.2.2.2.2.1[0+v6.1.toNat]?=some aX/\0=0/\v8.2.2.2.2.2.2.2.2.2.1.length=v8.2.2.2.2.2.2.2.2.2.1.length/\0=0/\v8.2.2.2.2.2.2.2.2.2.2.1.length=v8.2.2.2.2.2.2.2.2.2.2.1.length/\0=0/\v8.2.2.2.2.2.2.2.2.2.2.2.1.length=v8.2.2.2.2.2.2.2.2.2.2.2.1.length/\ ∃(iT:xB),fU.fn (v8.2.2.2.2.2.2.2.2.2.1,v8.2.2.2.2.2.2.2.2.2.2.1,v8.2.2.2.2.2.2.2.2.2.2.2.1,v8.2.2.2.2.2.1,HW,IntKind.i64.wrap (aX+(1:Int)),())=some iT/\0=0/\v8.2.2.2.2.2.2.1.length=v8.2.2.2.2.2.2.1.length/\0=0/\v8.2.2.2.2.2.2.2.1.length=v8.2.2.2.2.2.2.2.1.length/\0=0/\v8.2.2.2.2.2.2.2.2.1.length=v8.2.2.2.2.2.2.2.2.1.length/\0=0/\iT.1.1.length=iT.1.1.length/\0=0/\iT.1.2.1.length=iT.1.2.1.length/\0=0/\iT.1.2.2.1.length=iT.1.2.2.1.length/\k9 (IntKind.i64.wrap (v8.1+(1:Int)),v8.2.1,v8.2.2.1,v8.2.2.2.1,v8.2.2.2.2.1,iT.1.2.2.2.1,v8.2.2.2.2.2.2.1,v8.2.2.2.2.2.2.2.1,v8.2.2.2.2.2.2.2.2.1,iT.1.1,iT.1.2.1,iT.1.2.2.1,())))) (0=0/\v8.2.2.2.2.2.2.1.length=v8.2.2.2.2.2.2.1.length/\0=0/\v8.2.2.2.2.2.2.2.1.length=v8.2.2.2.2.2.2.2.1.length/\0=0/\v8.2.2.2.2.2.2.2.2.1.length=v8.2.2.2.2.2.2.2.2.1.length/\0=0/\v8.2.2.2.2.2.2.2.2.2.1.length=v8.2.2.2.2.2.2.2.2.2.1.length/\0=0/\v8.2.2.2.2.2.2.2.2.2.2.1.length=v8.2.2.2.2.2.2.2.2.2.2.1.length/\0=0/\v8.2.2.2.2.2.2.2.2.2.2.2.1.length=v8.2.2.2.2.2.2.2.2.2.2.2.1.length/\k7 (IntKind.i64.wrap (v6.1+(1:Int)),v8.2.1,v8.2.2.1,v8.2.2.2.1,v8.2.2.2.2.1,v8.2.2.2.2.2.1,v8.2.2.2.2.2.2.1,v8.2.2.2.2.2.2.2.1,v8.2.2.2.2.2.2.2.2.1,v8.2.2.2.2.2.2.2.2.2.1,v8.2.2.2.2.2.2.2.2.2.2.1,v8.2.2.2.2.2.2.2.2.2.2.2.1,()))) ((0:Int),v6.2.1,v6.2.2.1,v6.2.2.2.1,v6.2.2.2.2.1,v6.2.2.2.2.2.1,v6.2.2.2.2.2.2.1,v6.2.2.2.2.2.2.2.1,v6.2.2.2.2.2.2.2.2.1,v6.2.2.2.2.2.2.2.2.2.1,v6.2.2.2.2.2.2.2.2.2.2.1,v6.2.2.2.2.2.2.2.2.2.2.2.1,PUnit.unit)) (P (List.take v6.2.2.2.2.2.2.2.2.2.1.length (List.drop 0 v6.2.2.2.2.2.2.2.2.2.1),List.take v6.2.2.2.2.2.2.2.2.2.2.1.length (List.drop 0 v6.2.2.2.2.2.2.2.2.2.2.1),List.take v6.2.2.2.2.2.2.2.2.2.2.2.1.length (List.drop 0 v6.2.2.2.2.2.2.2.2.2.2.2.1),true,()))) ((0:Int),p.1,p.2.1,p.2.2.1,false,y4.1.2.2.2.1,[],[],[],y4.1.1,y4.1.2.1,y4.1.2.2.1,PUnit.unit))=fnW WO (look [(55,Fp),(54,fU),(56,Oh),(57,Zd),(58,Zh)]) Cz Tryz.f34 (p,s,()) P:=by kernel_rfl
theorem mC: ∀ {a b:List Int},Cg a b=0↔a=b
 | [],[]=>by simp [Cg]
 | [],_::_=>by simp [Cg]
 |_::_,[]=>by simp [Cg]
 |x::a,y::b=>by
  simp only [Cg,List.cons.injEq]
  by_cases h1:x<y
  ·rw [if_pos h1]
   exact ⟨λh=>by omega,λh=>by omega⟩
  ·rw [if_neg h1]
   by_cases h2:x>y
   ·rw [if_pos h2]
    exact ⟨λh=>by omega,λh=>by omega⟩
   ·rw [if_neg h2,mC]
    exact ⟨λh=>⟨by omega,h⟩,λh=>h.2⟩
theorem BQ: ∀(a b:List Int),Cg b a= -Cg a b
 | [],[]=>by simp [Cg]
 | [],_::_=>by simp [Cg]
 |_::_,[]=>by simp [Cg]
 |x::a,y::b=>by
  simp only [Cg]
  rcases Int.lt_trichotomy x y with h1|h1|h1
  ·simp [h1,show ¬y<x by omega]
  ·subst h1
   simp [BQ a b]
  ·simp [h1,show ¬x<y by omega]
theorem qz: ∀ {a b c:List Int},Cg a b<0->Cg b c<0->Cg a c<0
 | [],[],_,h,_=>by simp [Cg] at h
 |_::_,[],_,h,_=>by simp [Cg] at h
 |_,_::_,[],_,h=>by simp [Cg] at h
 | [],_::_,_::_,_,_=>by simp [Cg]
 |x::a,y::b,z::c,h1,h2=>by
  simp only [Cg] at h1 h2⊢
  by_cases e1:x<y
  ·by_cases e2:y<z
   ·rw [if_pos (by omega)];omega
   ·rw [if_neg e2] at h2
    by_cases e3:y>z
    ·rw [if_pos e3] at h2;omega
    ·rw [if_pos (by omega)];omega
  ·rw [if_neg e1] at h1
   by_cases e2:x>y
   ·rw [if_pos e2] at h1;omega
   ·rw [if_neg e2] at h1
    by_cases e3:y<z
    ·rw [if_pos (by omega)];omega
    ·rw [if_neg e3] at h2
     by_cases e4:y>z
     ·rw [if_pos e4] at h2;omega
     ·rw [if_neg e4] at h2
      rw [if_neg (by omega),if_neg (by omega)]
      exact qz h1 h2
theorem lt_iff {a b:List Int} :ao a b=true↔Cg a b<0:=decide_eq_true_iff
theorem EO {a b c:List Int} (h1:ao a b=true) (h2:ao b c=true):ao a c=true:=lt_iff.2 (qz (lt_iff.1 h1) (lt_iff.1 h2))
theorem fM (a:List Int):ao a a=false:=by
 have:Cg a a=0:=mC.2 rfl
 unfold ao;rw [this];rfl
theorem KK {a b:List Int} (h:ao a b=false) (Fc:a≠b):ao b a=true:=by
 rw [lt_iff,BQ a b]
 have h1: ¬Cg a b<0:= λh'=>by rw [lt_iff.2 h'] at h;cases h
 have h2:Cg a b≠0:= λh'=>Fc (mC.1 h')
 omega
theorem eU {α:Type} (q:α->Bool): ∀(l:List α),l.Pairwise (λi j=>q j=true->q i=true)-> ∀k (hk:k<l.length),k<(l.takeWhile q).length↔q l[k]=true
 | [],_,k,hk=>by simp at hk
 |a::l,h,k,hk=>by
  obtain ⟨h1,h2⟩:=List.pairwise_cons.1 h
  by_cases ha:q a=true
  ·rw [List.takeWhile_cons_of_pos ha]
   rcases k with _|k
   ·simpa using ha
   ·simp only [List.length_cons,List.getElem_cons_succ,Nat.add_lt_add_iff_right]
    exact eU q l h2 k (by simpa using hk)
  ·rw [List.takeWhile_cons_of_neg ha]
   simp only [List.length_nil,Nat.not_lt_zero,false_iff]
   rcases k with _|k
   ·exact ha
   ·simp only [List.getElem_cons_succ]
    exact λhq=>ha (h1 _ (List.getElem_mem _) hq)
theorem Dl.nq {m:Nat} {L:List (List Int)} {Hv:List Int} (h:Dl m L Hv):Hv.length=L.length:=by rw [h.perm.length_eq,Px]
theorem Dl.idx {m:Nat} {L:List (List Int)} {Hv:List Int} (h:Dl m L Hv) {k:Nat} (hk:k<Hv.length):0<=Hv[k]/\Hv[k]<L.length:=Ik.1 (h.perm.mem_iff.1 (List.getElem_mem hk))
theorem Dl.Zi {m:Nat} {L:List (List Int)} {Hv:List Int} (h:Dl m L Hv) (s:List Int) {k:Nat} (hk:k<Hv.length):k<Cx L Hv s↔ao (L.getD Hv[k].toNat []) s=true:=
 eU _ Hv (h.sorted.imp λiW hj=>EO iW hj) k hk
theorem CV (L:List (List Int)) (Hv s:List Int):Cx L Hv s<=Hv.length:=(List.takeWhile_sublist _).length_le
theorem Dl.inj {m:Nat} {L:List (List Int)} {Hv:List Int} (h:Dl m L Hv) {i j:Nat} (hi:i<L.length) (hj:j<L.length) (e:L[i]=L[j]):i=j:=by
 have mem: ∀i,i<L.length->(i:Int)∈Hv:= λi hi=>h.perm.mem_iff.2 (Ik.2 ⟨by omega,by omega⟩)
 obtain ⟨p,hp,ep⟩:=List.mem_iff_getElem.1 (mem i hi)
 obtain ⟨q,hq,eq⟩:=List.mem_iff_getElem.1 (mem j hj)
 have get: ∀i (hi:i<L.length),L.getD ((i:Int)).toNat []=L[i]:= λi hi=>by rw [Int.toNat_natCast,List.getD_eq_getElem?_getD,List.getElem?_eq_getElem hi];rfl
 rcases Nat.lt_trichotomy p q with h1|h1|h1
 ·have:=List.pairwise_iff_getElem.1 h.sorted p q hp hq h1
  rw [ep,eq,get i hi,get j hj,e,fM] at this
  cases this
 ·subst h1
  rw [ep] at eq
  omega
 ·have:=List.pairwise_iff_getElem.1 h.sorted q p hq hp h1
  rw [ep,eq,get i hi,get j hj,e,fM] at this
  cases this
theorem Mv {L:List (List Int)} {k:Nat} (h:k<L.length):L.getD k []=L[k]:=by rw [List.getD_eq_getElem?_getD,List.getElem?_eq_getElem h];rfl
theorem Dl.sa {m:Nat} {L:List (List Int)} {Hv:List Int} (h:Dl m L Hv) {s:List Int} :
  (∃hk:Cx L Hv s<Hv.length,L.getD Hv[Cx L Hv s].toNat []=s/\kF L s=Hv[Cx L Hv s])\/(kF L s= -1/\ ∀hk:Cx L Hv s<Hv.length,L.getD Hv[Cx L Hv s].toNat []≠s):=by
 by_cases hm:s∈L
 ·left
  obtain ⟨j,hj,rfl⟩:=List.mem_iff_getElem.1 hm
  obtain ⟨p,hp,ep⟩:=List.mem_iff_getElem.1 (h.perm.mem_iff.2 (Ik.2 ⟨by omega,by omega⟩):(j:Int)∈Hv)
  have gj:L.getD Hv[p].toNat []=L[j]:=by rw [ep,Int.toNat_natCast,Mv hj]
  have hs:Cx L Hv L[j]=p:=by
   have h1: ¬p<Cx L Hv L[j]:= λh1=>by
    have:=(h.Zi L[j] hp).1 h1
    rw [gj,fM] at this;cases this
   have h2: ¬Cx L Hv L[j]<p:= λh2=>by
    have h3:=(h.Zi L[j] (k:=Cx L Hv L[j]) (by omega)).2 (by
     have:=List.pairwise_iff_getElem.1 h.sorted (Cx L Hv L[j]) p (by omega) hp h2
     rw [gj] at this;exact this)
    omega
   omega
  have hx:L.idxOf L[j]=j:=by
   have h1:L.idxOf L[j]<L.length:=List.idxOf_lt_length_of_mem hm
   exact h.inj h1 hj (List.getElem_idxOf h1)
  refine ⟨by omega,?_,?_⟩
  ·simp only [hs];exact gj
  ·unfold kF
   rw [if_pos hm,hx]
   simp only [hs];exact ep.symm
 ·right
  refine ⟨by unfold kF;rw [if_neg hm],λhk e=>hm ?_⟩
  have hi:=h.idx hk
  rw [Mv (by omega)] at e
  rw [<-e]
  exact List.getElem_mem _
theorem JY (Hv:List Int) (k:Nat) (x:Int):(Qd Hv k x).Perm (x::Hv):=by
 unfold Qd
 refine List.perm_middle.trans (List.Perm.cons x ?_)
 rw [List.take_append_drop]
theorem Dl.add {m:Nat} {L:List (List Int)} {Hv s:List Int} (h:Dl m L Hv) (hn:s∉L) (hl:s.length=m) (hr:L.length<3000):Dl m (L++ [s]) (Qd Hv (Cx L Hv s) L.length):=by
 have vQ: ∀i∈Hv,(L++ [s]).getD i.toNat []=L.getD i.toNat []:= λi hi=>by
  have:=Ik.1 (h.perm.mem_iff.1 hi)
  rw [List.getD_eq_getElem?_getD,List.getD_eq_getElem?_getD,List.getElem?_append_left (by omega)]
 have YL:(L++ [s]).getD ((L.length:Int)).toNat []=s:=by
  rw [Int.toNat_natCast,List.getD_eq_getElem?_getD,List.getElem?_append_right (by omega),Nat.sub_self];rfl
 refine ⟨by rw [List.length_append,List.length_singleton];omega,λx hx=>?_,h.short,?_,?_⟩
 ·rcases List.mem_append.1 hx with hx|hx
  ·exact h.len x hx
  ·rw [List.mem_singleton.1 hx];exact hl
 ·refine (JY _ _ _).trans ?_
  rw [List.length_append,List.length_singleton,Zm]
  exact (List.Perm.cons _ h.perm).trans (List.perm_append_singleton _ _).symm
 ·unfold Qd
  have hs:=h.sorted
  rw [<-List.take_append_drop (Cx L Hv s) Hv] at hs
  obtain ⟨s1,s2,s3⟩:=List.pairwise_append.1 hs
  have mt: ∀i∈Hv.take (Cx L Hv s),i∈Hv/\ao (L.getD i.toNat []) s=true:= λi hi=>by
   obtain ⟨k,hk,rfl⟩:=List.mem_iff_getElem.1 hi
   have hk2:k<Cx L Hv s:=by rw [List.length_take] at hk;omega
   have hk3:k<Hv.length:=by rw [List.length_take] at hk;omega
   rw [List.getElem_take]
   exact ⟨List.getElem_mem _,(h.Zi s hk3).1 hk2⟩
  have md: ∀i∈Hv.drop (Cx L Hv s),i∈Hv/\ao s (L.getD i.toNat [])=true:= λi hi=>by
   obtain ⟨k,hk,rfl⟩:=List.mem_iff_getElem.1 hi
   rw [List.length_drop] at hk
   have hk3:Cx L Hv s+k<Hv.length:=by omega
   rw [List.getElem_drop]
   refine ⟨List.getElem_mem _,KK ?_ λe=>hn ?_⟩
   ·exact Bool.eq_false_iff.2 λhh=>by
     have:=(h.Zi s hk3).2 hh
     omega
   ·have hi:=h.idx hk3
    rw [Mv (by omega)] at e
    rw [<-e];exact List.getElem_mem _
  refine List.pairwise_append.2 ⟨s1.imp_of_mem λ {a b} ha hb fD=>?_,List.pairwise_cons.2 ⟨λb hb=>?_,s2.imp_of_mem λ {a b} ha hb fD=>?_⟩,λa ha b hb=>?_⟩
  ·rw [vQ a (mt a ha).1,vQ b (mt b hb).1];exact fD
  ·rw [YL,vQ b (md b hb).1];exact (md b hb).2
  ·rw [vQ a (md a ha).1,vQ b (md b hb).1];exact fD
  ·rcases List.mem_cons.1 hb with rfl|hb
   ·rw [YL,vQ a (mt a ha).1];exact (mt a ha).2
   ·rw [vQ a (mt a ha).1,vQ b (md b hb).1];exact s3 a ha b hb
theorem aP (L:List (List Int)) (s:List Int):Wy (L++ [s])=Qd (Wy L) (Cx L (Wy L) s) L.length:=by
 unfold Wy
 rw [List.length_append,List.length_singleton,List.range_succ,List.foldl_append]
 have e: ∀(is:List Nat) (S:List Int),(∀i∈is,i<L.length)->is.foldl (λ(S:List Int) (i:Nat)=>Qd S (Cx ((L++ [s]).take i) S ((L++ [s]).getD i [])) (i:Int)) S=is.foldl (λ(S:List Int) (i:Nat)=>Qd S (Cx (L.take i) S (L.getD i [])) (i:Int)) S:=by
  intro is
  induction is with
  |nil=>intro S _;rfl
  |cons i is ih=>
   intro S h
   have hi:=h i (by simp)
   rw [List.foldl_cons,List.foldl_cons,ih _ λj hj=>h j (List.mem_cons_of_mem _ hj)]
   congr 2
   rw [List.take_append_of_le_length (by omega),List.getD_eq_getElem?_getD,List.getElem?_append_left hi,<-List.getD_eq_getElem?_getD]
 rw [e _ _ λi hi=>List.mem_range.1 hi]
 simp only [List.foldl_cons,List.foldl_nil]
 congr 2
 ·rw [List.take_append_of_le_length (Nat.le_refl _),List.take_length]
 ·rw [List.getD_eq_getElem?_getD,List.getElem?_append_right (by omega),Nat.sub_self];rfl
theorem iy {m:Nat} (h:m<=20):Dl m [] []:=⟨by simp,λx hx=>(by cases hx),h,by simp [upto],List.Pairwise.nil⟩
theorem JW {α:Type} {xs:List α} {y:Int} (h0:0<=y) (h:y.toNat<xs.length):idx xs y=some xs[y.toNat]:=by
 unfold idx
 rw [if_pos h0,List.getElem?_eq_getElem h]
theorem VX (f:SS) (s:List Int) (h:Dl s.length f.1 f.2.2.1):fnW Cl (look [(92,Rd)]) aM Tryz.f75 (f,s,()) (λ(z:Int)=>z=(Cx f.1 f.2.2.1 s:Int)):=by
 obtain ⟨L,D,Hv,b,⟨⟩⟩:=f
 dsimp only at h⊢
 have hle:=CV L Hv s
 have uI:=h.nq
 have lj:=h.lf
 refine Eq.mp (WY (L,D,Hv,b,()) s _) ?_
 refine Bi.mk (λv=>v.2.2.1=L/\v.2.2.2.2.1=Hv/\ ∃lo hi:Nat,v.1=lo/\v.2.1=hi/\lo<=hi/\hi<=Hv.length/\lo<=Cx L Hv s/\Cx L Hv s<=hi) (λv=>(v.2.1-v.1).toNat)
  ⟨rfl,rfl,0,Hv.length,rfl,rfl,by omega,by omega,by omega,hle⟩ ?_
 rintro ⟨lo',oX,L',D',GL,b',⟨⟩⟩ ⟨h1,h2,lo,hi,h3,h4,h5,h6,h7,h8⟩
 dsimp only at h1 h2 h3 h4⊢
 subst h1 h2 h3 h4
 refine Br.dec (λhl=>?_) λhl=>?_
 ·have em:IntKind.i64.wrap ((IntKind.i64.wrap ((lo:Int)+(hi:Int))).tdiv 2)=(((lo+hi)/2:Nat):Int):=by
   rw [Ca (n:=(lo:Int)+(hi:Int)) (by omega) (by omega),Int.tdiv_eq_ediv_of_nonneg (by omega),Ca (by omega) (by omega)]
   omega
  rw [em]
  have XR:(lo+hi)/2<GL.length:=by omega
  have OG:=h.idx XR
  have OH:GL[(lo+hi)/2].toNat<L'.length:=by omega
  have ZI:=Mv OH
  have hlen:=h.len _ (List.getElem_mem OH)
  have yf:short L'[GL[(lo+hi)/2].toNat]:=by
   unfold short
   have:=h.short;omega
  refine ⟨by decide,_,Am XR,_,JW OG.1 OH,_,if_pos ⟨yf,hlen⟩,⟨λhc=>?_,λhc=>?_⟩⟩
  ·have hc:ao L'[GL[(lo+hi)/2].toNat] s=true:=hc
   have hs:=(h.Zi s XR).2 (by rw [ZI];exact hc)
   rw [Ah (by omega)]
   exact ⟨⟨rfl,rfl,(lo+hi)/2+1,hi,rfl,rfl,by omega,h6,by omega,h8⟩,by omega⟩
  ·have hc:ao L'[GL[(lo+hi)/2].toNat] s=false:=hc
   have hs: ¬(lo+hi)/2<Cx L' GL s:= λhh=>by
    have:=(h.Zi s XR).1 hh
    rw [ZI,hc] at this;cases this
   exact ⟨⟨rfl,rfl,lo,(lo+hi)/2,rfl,rfl,by omega,by omega,h7,by omega⟩,by omega⟩
 ·show (lo:Int)=_
  omega
theorem om:Sound Tryz.prog 75 aM:=
 Sound.Cv Bk (Ae og Ak) mixed Tryz.func75 (by kernel_rfl) (by kernel_rfl) λx h=>VX x.1 x.2.1 h
theorem LF (f:SS) (s:List Int) (h:Dl s.length f.1 f.2.2.1):fnW Cl (look [(75,aM),(77,An)]) Zh Tryz.f58 (f,s,()) (λ(z:Int)=>z=kF f.1 s):=by
 obtain ⟨L,D,Hv,b,⟨⟩⟩:=f
 dsimp only at h⊢
 refine Eq.mp (MR (L,D,Hv,b,()) s _) ⟨_,if_pos h,Br.dec (λhl=>?_) λhl=>?_⟩
 ·have hl:Cx L Hv s<Hv.length:=by
   have hl:((Cx L Hv s:Nat):Int)<(Hv.length:Int):=hl
   omega
  have OG:=h.idx hl
  have OH:Hv[Cx L Hv s].toNat<L.length:=by omega
  have ZI:=Mv OH
  have hlen:=h.len _ (List.getElem_mem OH)
  have yf:short L[Hv[Cx L Hv s].toNat]:=by
   unfold short
   have:=h.short;omega
  refine ⟨_,Am hl,_,JW OG.1 OH,_,if_pos yf,⟨λhc=>⟨_,Am hl,?_⟩,λhc=>?_⟩⟩
  ·have hc:L[Hv[Cx L Hv s].toNat]=s:=of_decide_eq_true hc
   rcases h.sa (s:=s) with ⟨hk,_,e⟩|⟨_,Fc⟩
   ·exact e.symm
   ·exact absurd (by rw [ZI];exact hc) (Fc hl)
  ·have hc: ¬L[Hv[Cx L Hv s].toNat]=s:=of_decide_eq_false hc
   rcases h.sa (s:=s) with ⟨hk,e,_⟩|⟨e,_⟩
   ·rw [ZI] at e;exact absurd e hc
   ·exact e.symm
 ·have hl: ¬Cx L Hv s<Hv.length:=by
   have hl: ¬((Cx L Hv s:Nat):Int)<(Hv.length:Int):=hl
   omega
  rcases h.sa (s:=s) with ⟨hk,e,_⟩|⟨e,_⟩
  ·exact absurd hk hl
  ·exact e.symm
theorem tY:Sound Tryz.prog 58 Zh:=
 Sound.Cv Bk (Ae om (Ae Sz Ak)) mixed Tryz.func58 (by kernel_rfl) (by kernel_rfl) λx h=>LF x.1 x.2.1 h
theorem z6 {S:List Int} {k:Nat} (h:k<=S.length) (n:Int):
  (Bs (S++ [0]) (k+1) (List.take ((S++ [0]).length-(k+1)) (List.take ((S++ [0]).length-k) (List.drop k (S++ [0]))))).set k n=Qd S k n:=by
 obtain ⟨A,B,rfl,hA⟩: ∃A B,S=A++B/\A.length=k:=⟨S.take k,S.drop k,(List.take_append_drop k S).symm,by rw [List.length_take];omega⟩
 subst hA
 have e1:List.drop A.length (A++B++ [0])=B++ [0]:=by rw [List.append_assoc,List.drop_left]
 have e2:List.take ((A++B++ [0]).length-A.length) (B++ [0])=B++ [0]:=List.take_of_length_le (by simp only [List.length_append,List.length_singleton];omega)
 have e3:List.take ((A++B++ [0]).length-(A.length+1)) (B++ [0])=B:=by
  have:(A++B++ [(0:Int)]).length-(A.length+1)=B.length:=by simp only [List.length_append,List.length_singleton];omega
  rw [this,List.take_left]
 rw [e1,e2,e3]
 unfold Bs Qd
 have e4:List.drop (A.length+1+B.length) (A++B++ [0])= []:=List.drop_eq_nil_of_le (by simp only [List.length_append,List.length_singleton];omega)
 obtain ⟨c,hc⟩: ∃c,List.take (A.length+1) (A++B++ [0])=A++ [c]:=by
  rw [List.append_assoc,List.take_append,List.take_of_length_le (by omega)]
  cases B with
  |nil=>exact ⟨0,by simp⟩
  |cons b B=>exact ⟨b,by simp⟩
 rw [e4,hc,List.append_nil,List.append_assoc,List.singleton_append,PW,List.take_left,List.drop_left]
theorem VW (L:List (List Int)) (D S:List Int) (b:Bool) (s:List Int) (d:Int) (h:Dl s.length L S/\D.length<=3000):
  fnMW Nu (look [(75,aM)]) fU Tryz.f54 (L,D,S,b,s,d,()) (λ(z:(List (List Int)×List Int×List Int×Bool×Unit)×Unit)=>z=((L++ [s],D++ [d],Qd S (Cx L S s) L.length,b,()),())):=by
 obtain ⟨h,hD⟩:=h
 have hle:=CV L S s
 have uI:=h.nq
 have lj:=h.lf
 refine Eq.mp (WX L D S b s d _) ?_
 rw [At L,At D,At S]
 refine ⟨_,if_pos h,?_⟩
 dsimp only
 have es:List.take 1 (List.drop 0 [(0:Int)])= [0]:=rfl
 have el:(S++ [(0:Int)]).length=S.length+1:=by simp
 rw [es,Ah (by omega),Nat.zero_add,Nat.zero_add,Int.toNat_natCast,Int.toNat_natCast,Int.toNat_natCast]
 refine ⟨rfl,rfl,by show S.length+1<=4294967296;omega,⟨by omega,by omega,by omega⟩,⟨by omega,by omega,by omega⟩,⟨by omega,by omega⟩,?_,rfl,rfl,by show L.length+1<=4294967296;omega,rfl,rfl,by show D.length+1<=4294967296;omega,?_⟩
 ·unfold Bs
  simp only [List.length_append,List.length_take,List.length_drop,List.length_singleton]
  omega
 ·rw [z6 hle,At,At]
  have e5:List.take (S++ [(0:Int)]).length (List.drop 0 (Qd S (Cx L S s) (L.length:Int)))=Qd S (Cx L S s) (L.length:Int):=by
   rw [List.drop_zero,List.take_of_length_le]
   unfold Qd
   simp only [List.length_append,List.length_cons,List.length_take,List.length_drop,List.length_nil]
   omega
  rw [e5]
  rfl
theorem AE:Bh Tryz.prog 54 fU:=
 Bh.Wb Mo (Ae om Ak) mixed Tryz.func54 (by kernel_rfl) (by kernel_rfl) λx h=>VW x.1 x.2.1 x.2.2.1 x.2.2.2.1 x.2.2.2.2.1 x.2.2.2.2.2.1 h
structure Mr (p:PP) (m:Nat) (L:List (List Int)) (D:List Int):Prop where
 ok:Dl m L (Wy L)
 len:D.length=L.length
 row: ∀x∈L,∀y∈x,0<=y/\y<p.1
 dep: ∀j (h:j<D.length),0<=D[j]/\D[j]<=j
theorem m5 {p:PP} (hv:Valid p) {x:List Int} {l:Int} (hx: ∀y∈x,0<=y/\y<p.1) (hl:Gx (List.length p.2.2.1) l):
  (Aa x (Af p.2.2.1 l)).length=x.length/\ ∀y∈Aa x (Af p.2.2.1 l),0<=y/\y<p.1:=by
 obtain ⟨h1,h2⟩:=dN hv hl
 refine ⟨Nw _ _,λy hy=>?_⟩
 have:=vA (n:=(Af p.2.2.1 l).length) (λz hz=>by have:=hx z hz;omega) h2 y hy
 omega
theorem Mr.add {p:PP} {m:Nat} {L:List (List Int)} {D:List Int} (h:Mr p m L D) {y:List Int} {d:Int} (hn:y∉L) (hl:y.length=m) (hr:L.length<3000) (hy: ∀z∈y,0<=z/\z<p.1) (hd:0<=d/\d<=L.length):Mr p m (L++ [y]) (D++ [d]):=by
 have hlen:=h.len
 refine ⟨by rw [aP];exact h.ok.add hn hl hr,by simp [hlen],λx hx=>?_,λj hj=>?_⟩
 ·rcases List.mem_append.1 hx with hx|hx
  ·exact h.row x hx
  ·rw [List.mem_singleton.1 hx];exact hy
 ·by_cases e:j<D.length
  ·rw [List.getElem_append_left e];exact h.dep j e
  ·simp only [List.length_append,List.length_singleton] at hj
   have:j=D.length:=by omega
   subst this
   rw [List.getElem_append_right (by omega)]
   simp only [Nat.sub_self,List.getElem_cons_zero]
   omega
theorem Yc {p:PP} {s:List Int} (hs:s.length<=20) (hr: ∀y∈s,0<=y/\y<p.1):Mr p s.length [s] [0]:=by
 refine ⟨?_,rfl,λx hx=>by rw [List.mem_singleton.1 hx];exact hr,λj hj=>?_⟩
 ·have:=(iy hs).add (s:=s) (by simp) rfl (by simp)
  have e:Wy [s]=Qd [] (Cx [] [] s) 0:=aP [] s
  rw [e];exact this
 ·simp only [List.length_singleton] at hj
  have:j=0:=by omega
  subst this
  simp
theorem qX {L:List (List Int)} {s:List Int} :kF L s>=0↔s∈L:=by
 unfold kF
 split
 ·rename_i h;exact ⟨λ_=>h,λ_=>by omega⟩
 ·rename_i h;exact ⟨λhh=>by omega,λhh=>absurd hh h⟩
theorem PR (p:PP) (s:List Int) (h:Bf p=true/\s.length<=20/\ ∀y∈s,0<=y/\y<p.1):fnW WO (look [(55,Fp),(54,fU),(56,Oh),(57,Zd),(58,Zh)]) Cz Tryz.f34 (p,s,()) (λ(z:SS)=>z=Fe p.2.2.1 s):=by
 obtain ⟨hv,hs,hr⟩:=h
 have hV:=valid hv
 have lj:=hV.lf
 have NY:=Yc hs hr
 have yf:short s:=by unfold short;omega
 obtain ⟨ls,ll⟩: ∃ls,Aw (List.length p.2.2.1)=ls:=⟨_,rfl⟩
 refine Eq.mp (QP p s _) ⟨_,if_pos yf,_,if_pos ⟨iy hs,by show 0<=3000;omega⟩,ls,(if_pos (by show List.length p.2.2.1<=8;exact lj.2)).trans (congrArg some ll),rfl,rfl,rfl,rfl,rfl,rfl,rfl,rfl,rfl,rfl,rfl,rfl,?_⟩
 have e0:Qd [] (Cx [] [] s) ((([]:List (List Int)).length:Nat):Int)=Wy [s]:=(aP [] s).symm
 show Bi _ ((0:Int),p.1,p.2.1,p.2.2.1,false,false,[],[],[],[s],[(0:Int)],Qd [] (Cx [] [] s) ((([]:List (List Int)).length:Nat):Int),PUnit.unit)
 rw [e0]
 have vZ:ls.length<=16:=by rw [<-ll,Kn];omega
 have gT: ∀l∈ls,Gx (List.length p.2.2.1) l:= λl hl=>Ju (ll▸hl)
 have nd:Fl p.2.2.1 ls 3001 0 [s] [0]=Cu p.2.2.1 s:=by unfold Cu;rw [ll]
 refine Bi.mk (λv=>v.2.1=p.1/\v.2.2.1=p.2.1/\v.2.2.2.1=p.2.2.1/\v.2.2.2.2.2.1=false/\ ∃k:Nat,v.1=k/\k<=v.2.2.2.2.2.2.2.2.2.1.length/\
   Mr p s.length v.2.2.2.2.2.2.2.2.2.1 v.2.2.2.2.2.2.2.2.2.2.1/\v.2.2.2.2.2.2.2.2.2.2.2.1=Wy v.2.2.2.2.2.2.2.2.2.1/\
   Fl p.2.2.1 ls (3001-k) k v.2.2.2.2.2.2.2.2.2.1 v.2.2.2.2.2.2.2.2.2.2.1=Cu p.2.2.1 s) (λv=>3001-v.1.toNat)
  ⟨rfl,rfl,rfl,rfl,0,rfl,by simp,NY,rfl,nd⟩ ?_
 rintro ⟨k',n1,n2,n3,b0,wh,x1,x2,x3,L0,D0,S0,⟨⟩⟩ ⟨h1,h2,h3,h4,k,h5,h6,h7,h8,h9⟩
 dsimp only at h1 h2 h3 h4 h5 h6 h7 h8 h9
 subst h1 h2 h3 h4 h5 h8
 dsimp only
 have hL0:=h7.ok.lf
 have hD0:=h7.len
 refine Br.dec (λhl=>⟨rfl,rfl,rfl,rfl,rfl,rfl,rfl,rfl,rfl,rfl,rfl,rfl,?_⟩) λhl=>?_
 ·have hk:k<L0.length:=by omega
  have vY:k<D0.length:=by omega
  have hx: ∀y∈L0[k],0<=y/\y<p.1:=h7.row _ (List.getElem_mem hk)
  have JQ:L0[k].length=s.length:=h7.ok.len _ (List.getElem_mem hk)
  have hdk:=h7.dep k vY
  obtain ⟨f,hf⟩: ∃f,3001-k=f+1:=⟨3000-k,by omega⟩
  have RS: ∀L' D' ok,Ec p.2.2.1 L0[k] D0[k] ls L0 D0=(L',D',ok)->Cu p.2.2.1 s=if ok=true then Fl p.2.2.1 ls f (k+1) L' D' else (L',D',false):=by
   intro L' D' ok he
   rw [<-h9,hf,Fl,if_pos hk,Mv hk,List.getD_eq_getElem?_getD,List.getElem?_eq_getElem vY]
   simp only [Option.getD_some]
   rw [he]
   cases ok<;>rfl
  refine Bi.mk (λv=>v.2.1=p.1/\v.2.2.1=p.2.1/\v.2.2.2.1=p.2.2.1/\v.2.2.2.2.2.1=false/\ ∃i:Nat,v.1=i/\i<=ls.length/\Mr p s.length v.2.2.2.2.2.2.2.2.2.1 v.2.2.2.2.2.2.2.2.2.2.1/\
    v.2.2.2.2.2.2.2.2.2.2.2.1=Wy v.2.2.2.2.2.2.2.2.2.1/\(∃A,v.2.2.2.2.2.2.2.2.2.1=L0++A)/\(∃A,v.2.2.2.2.2.2.2.2.2.2.1=D0++A)/\
    Ec p.2.2.1 L0[k] D0[k] (ls.drop i) v.2.2.2.2.2.2.2.2.2.1 v.2.2.2.2.2.2.2.2.2.2.1=Ec p.2.2.1 L0[k] D0[k] ls L0 D0) (λv=>ls.length-v.1.toNat)
   ⟨rfl,rfl,rfl,rfl,0,rfl,Nat.zero_le _,h7,rfl,⟨[],by simp⟩,⟨[],by simp⟩,rfl⟩ ?_
  rintro ⟨i',m1,m2,m3,b1,wh1,y1,y2,y3,L,D,S,⟨⟩⟩ ⟨g1,g2,g3,g4,i,g5,g6,g7,g8,⟨A,g9⟩,⟨A',NS⟩,lg⟩
  dsimp only at g1 g2 g3 g4 g5 g6 g7 g8 g9 NS lg
  subst g1 g2 g3 g4 g5 g8
  dsimp only
  have hLf:=g7.ok.lf
  have MY:=g7.len
  rw [At L,At D,At (Wy L)]
  refine Br.dec (λZN=>?_) λZN=>?_
  ·have hi:i<ls.length:=by omega
   have JG:k<L.length:=by rw [g9,List.length_append];omega
   have hLk:L[k]=L0[k]:=by simp only [g9];exact List.getElem_append_left hk
   have JF:k<D.length:=by rw [MY];exact JG
   have YO:D[k]=D0[k]:=by simp only [NS];exact List.getElem_append_left vY
   have sF:=gT _ (List.getElem_mem hi)
   obtain ⟨nl,nr⟩:=m5 hV hx sF
   rw [List.drop_eq_getElem_cons hi] at lg
   simp only [Ec] at lg
   refine ⟨⟨by omega,by omega⟩,L0[k],by rw [Int.toNat_natCast,Nat.zero_add,List.getElem?_eq_getElem JG,hLk],_,Am hi,_,if_pos ⟨hv,by show L0[k].length<=20;omega,hx,sF⟩,?_⟩
   dsimp only
   have hyl:(Aa L0[k] (Af p.2.2.1 ls[i])).length=s.length:=by rw [nl,JQ]
   refine ⟨_,if_pos (by show Dl (Aa L0[k] (Af p.2.2.1 ls[i])).length L (Wy L);rw [hyl];exact g7.ok),Br.dec (λTs=>?_) λTs=>?_⟩
   ·have Ts:Aa L0[k] (Af p.2.2.1 ls[i])∈L:=qX.1 Ts
    rw [if_pos Ts] at lg
    rw [Ah (by omega)]
    exact ⟨rfl,rfl,rfl,rfl,rfl,rfl,rfl,rfl,rfl,rfl,rfl,rfl,⟨rfl,rfl,rfl,rfl,i+1,rfl,hi,g7,rfl,⟨A,g9⟩,⟨A',NS⟩,lg⟩,by omega⟩
   ·have Ts:Aa L0[k] (Af p.2.2.1 ls[i])∉L:= λhh=>Ts (qX.2 hh)
    rw [if_neg Ts] at lg
    refine ⟨λQb=>?_,λQb=>⟨⟨by omega,by omega⟩,D0[k],by rw [Int.toNat_natCast,Nat.zero_add,List.getElem?_eq_getElem JF,YO],rfl,rfl,rfl,rfl,rfl,rfl,?_⟩⟩
    ·have Qb:L.length=3000:=by
      have:(L.length:Int)=3000:=by simpa using Qb
      omega
     rw [if_pos Qb] at lg
     have:=RS _ _ _ lg.symm
     rw [if_neg (by decide)] at this
     unfold Fe
     rw [this]
    ·have Qb:L.length≠3000:=by
      have:(L.length:Int)≠3000:=by simpa using Qb
      omega
     rw [if_neg Qb] at lg
     rw [Ca (n:=D0[k]+1) (by omega) (by omega)]
     refine ⟨_,if_pos ⟨by show Dl (Aa L0[k] (Af p.2.2.1 ls[i])).length L (Wy L);rw [hyl];exact g7.ok,by show D.length<=3000;omega⟩,?_⟩
     dsimp only
     rw [Ah (by omega),<-aP]
     refine ⟨rfl,rfl,rfl,rfl,rfl,rfl,rfl,rfl,rfl,rfl,rfl,rfl,⟨rfl,rfl,rfl,rfl,i+1,rfl,hi,g7.add Ts hyl (by omega) nr ⟨by omega,by omega⟩,rfl,⟨A++ [Aa L0[k] (Af p.2.2.1 ls[i])],by rw [g9,List.append_assoc]⟩,⟨A'++ [D0[k]+1],by rw [NS,List.append_assoc]⟩,lg⟩,by omega⟩
  ·have:i=ls.length:=by omega
   subst this
   rw [List.drop_length,Ec] at lg
   have:=RS _ _ _ lg.symm
   rw [if_pos rfl] at this
   rw [Ah (by omega)]
   refine ⟨rfl,rfl,rfl,rfl,rfl,rfl,rfl,rfl,rfl,rfl,rfl,rfl,⟨rfl,rfl,rfl,rfl,k+1,rfl,by rw [g9,List.length_append];omega,g7,rfl,?_⟩,by omega⟩
   rw [show 3001-(k+1)=f by omega]
   exact this.symm
 ·have hk:k=L0.length:=by omega
  rw [At L0,At D0,At (Wy L0)]
  obtain ⟨f,hf⟩: ∃f,3001-k=f+1:=⟨3000-k,by omega⟩
  rw [hf,Fl,if_neg (by omega)] at h9
  unfold Fe
  rw [<-h9]
theorem kQ:Sound Tryz.prog 34 Cz:=
 Sound.Cv WQ (Ae Vv (Dt AE (Ae lE (Ae tU (Ae tY Ak))))) mixed Tryz.func34 (by kernel_rfl) (by kernel_rfl) λx h=>PR x.1 x.2.1 h
end Go.Proofs.YtjbdmibbbpdnnaaGreat
