/-
  Part 38 of the proof that the statement FnExactProvesNoSolutionWithin holds.
-/
import Derived.Test.YtfolipnappekaaaGreatCProvesNoSolutionWithin36
import Derived.KernelRfl
namespace Go.Proofs.YtfolipnappekaaaGreat
open Go.RowKit
def Ke (x a b:Int):Bool:=decide (a<=x/\x<=b)
def fD (n x:Int):Bool:=decide (0<=x/\x<=IntKind.i64.wrap (n-1))
def At (a b:List Int):Bool:=decide (a=b)
def gS (xs:List Int) (x:Int):Bool:=decide (x∈xs)
def short (xs:List Int):Prop:=xs.length<=4294967296
noncomputable abbrev Bm:Spec:=Cg (.pair tI (.pair tI (.pair tI .unit))) .bool false true (λ_=>True) (λx=>Ke x.1 x.2.1 x.2.2.1)
noncomputable abbrev Ws:Spec:=Cg (.pair tI (.pair tI .unit)) .bool false true (λ_=>True) (λx=>fD x.1 x.2.1)
noncomputable abbrev Ap:Spec:=Cg (.pair tL (.pair tL .unit)) .bool false true (λx=>short x.1) (λx=>At x.1 x.2.1)
noncomputable abbrev Lp:Spec:=Cg (.pair tL (.pair tI .unit)) .bool false true (λx=>short x.1) (λx=>gS x.1 x.2.1)
theorem OX (x a b:Int) (P:Bool->Prop):(Br (decide (x>=a)) (P (decide (x<=b))) (P false))=fnW Cd (look []) Bm Tryz.f88 (x,a,b,()) P:=by kernel_rfl
theorem WD (x a b:Int) (P:Bool->Prop):(Br (decide (x>=a)) (P (decide (x<=b))) (P false))=fnW Cd (look []) Bm Tryz.f90 (x,a,b,()) P:=by kernel_rfl
theorem PA (n x:Int) (P:Bool->Prop):(∃(y3:Bool),Bm.fn (x,0,IntKind.i64.wrap (n-1),())=some y3/\P y3)=fnW Cd (look [(90,Bm)]) Ws Tryz.f161 (n,x,()) P:=by kernel_rfl
theorem BX (a b:List Int) (P:Bool->Prop):(Br ((↑a.length:Int) !=(↑b.length:Int)) (P false) (Bk (λ(v3:Int×PUnit) (k4:Int×PUnit->Prop)=>Br (decide (v3.1<(↑a.length:Int))) (∃(y5:Int),idx a v3.1=some y5/\ ∃(y6:Int),idx b v3.1=some y6/\Br (y5 !=y6) (P false) (k4 (IntKind.i64.wrap (v3.1+1),()))) (P true)) (0,PUnit.unit)))=fnW Cd (look []) Ap Tryz.f101 (a,b,()) P:=by kernel_rfl
theorem tK (a b:List Int) (P:Bool->Prop):(Br ((↑a.length:Int) !=(↑b.length:Int)) (P false) (Bk (λ(v3:Int×PUnit) (k4:Int×PUnit->Prop)=>Br (decide (v3.1<(↑a.length:Int))) (∃(y5:Int),idx a v3.1=some y5/\ ∃(y6:Int),idx b v3.1=some y6/\Br (y5 !=y6) (P false) (k4 (IntKind.i64.wrap (v3.1+1),()))) (P true)) (0,PUnit.unit)))=fnW Cd (look []) Ap Tryz.f139 (a,b,()) P:=by kernel_rfl
theorem tD (xs:List Int) (x:Int) (P:Bool->Prop):(Bk (λ(v3:Int×PUnit) (k4:Int×PUnit->Prop)=>Br (decide (v3.1<(↑xs.length:Int))) (∃(y5:Int),idx xs v3.1=some y5/\Br (y5==x) (P true) (k4 (IntKind.i64.wrap (v3.1+1),()))) (P false)) (0,PUnit.unit))=fnW Cd (look []) Lp Tryz.f100 (xs,x,()) P:=by kernel_rfl
theorem MZ (x a b:Int) (_:True):fnW Cd (look []) Bm Tryz.f88 (x,a,b,()) (λ(z:Bool)=>z=Ke x a b):=by
 refine Eq.mp (OX x a b _) ?_
 refine Br.dec (λh=>?_) λh=>?_
 ·have h:a<=x:=h
  simp [Ke,h]
 ·exact (decide_eq_false λhh=>h hh.1).symm
theorem Ua:Sound Tryz.prog 88 Bm:=
 Sound.Cg Bi Aj mixed Tryz.func88 (by kernel_rfl) (by kernel_rfl) λx h=>MZ x.1 x.2.1 x.2.2.1 h
theorem UD (x a b:Int) (_:True):fnW Cd (look []) Bm Tryz.f90 (x,a,b,()) (λ(z:Bool)=>z=Ke x a b):=by
 refine Eq.mp (WD x a b _) ?_
 refine Br.dec (λh=>?_) λh=>?_
 ·have h:a<=x:=h
  simp [Ke,h]
 ·exact (decide_eq_false λhh=>h hh.1).symm
theorem Rj:Sound Tryz.prog 90 Bm:=
 Sound.Cg Bi Aj mixed Tryz.func90 (by kernel_rfl) (by kernel_rfl) λx h=>UD x.1 x.2.1 x.2.2.1 h
theorem NC (n x:Int) (_:True):fnW Cd (look [(90,Bm)]) Ws Tryz.f161 (n,x,()) (λ(z:Bool)=>z=fD n x):=
 Eq.mp (PA n x _) ⟨_,if_pos trivial,rfl⟩
theorem td:Sound Tryz.prog 161 Ws:=
 Sound.Cg Bi (Ae Rj Aj) mixed Tryz.func161 (by kernel_rfl) (by kernel_rfl) λx h=>NC x.1 x.2.1 h
theorem sI (xs:List Int) (x:Int) (h:short xs):fnW Cd (look []) Lp Tryz.f100 (xs,x,()) (λ(z:Bool)=>z=gS xs x):=by
 refine Eq.mp (tD xs x _) ?_
 unfold short at h
 refine Ag xs.length (λv=>v.1) (λj _=>x∉xs.take j) rfl (by simp) ?_
 rintro j ⟨i,⟨⟩⟩ K hj hi hR hK
 dsimp only at hi⊢
 subst hi
 refine Br.dec (λhl=>?_) λhl=>?_
 ·have hl:j<xs.length:=by omega
  refine ⟨_,Aq hl,⟨λhe=>?_,λhe=>?_⟩⟩
  ·have hm:=List.getElem_mem hl
   simp only [beq_iff_eq] at he
   rw [he] at hm
   exact (decide_eq_true hm).symm
  ·rw [Ah (by omega)]
   refine hK hl _ rfl ?_
   simp only [beq_eq_false_iff_ne,ne_eq] at he
   rw [List.take_succ_eq_append_getElem hl]
   simp only [List.mem_append,List.mem_singleton,not_or]
   exact ⟨hR,λhx=>he hx.symm⟩
 ·have:j=xs.length:=by omega
  subst this
  rw [List.take_length] at hR
  exact (decide_eq_false hR).symm
theorem kO:Sound Tryz.prog 100 Lp:=
 Sound.Cg Bi Aj mixed Tryz.func100 (by kernel_rfl) (by kernel_rfl) λx h=>sI x.1 x.2.1 h
theorem vU (a b:List Int) (hlen:a.length=b.length) (h:short a):
  Bk (λ(v3:Int×PUnit) (k4:Int×PUnit->Prop)=>
   Br (decide (v3.1<(↑a.length:Int))) (∃(y5:Int),idx a v3.1=some y5/\ ∃(y6:Int),idx b v3.1=some y6/\Br (y5 !=y6) (false=At a b) (k4 (IntKind.i64.wrap (v3.1+1),())))
    (true=At a b))
  (0,PUnit.unit):=by
 unfold short at h
 refine Ag a.length (λv=>v.1) (λj _=>a.take j=b.take j) rfl (by simp) ?_
 rintro j ⟨i,⟨⟩⟩ K hj hi hR hK
 dsimp only at hi⊢
 subst hi
 refine Br.dec (λhl=>?_) λhl=>?_
 ·have fq:j<a.length:=by omega
  have s8:j<b.length:=by omega
  refine ⟨_,Aq fq,_,Aq s8,⟨λhe=>?_,λhe=>?_⟩⟩
  ·simp only [bne_iff_ne,ne_eq] at he
   refine (decide_eq_false λiL=>he ?_).symm
   subst iL
   rfl
  ·rw [Ah (by omega)]
   refine hK fq _ rfl ?_
   simp only [bne_eq_false_iff_eq] at he
   rw [List.take_succ_eq_append_getElem fq,List.take_succ_eq_append_getElem s8,hR,he]
 ·have wc:j=a.length:=by omega
  subst wc
  rw [List.take_length,hlen,List.take_length] at hR
  exact (decide_eq_true hR).symm
theorem zY (a b:List Int) (h:short a):fnW Cd (look []) Ap Tryz.f101 (a,b,()) (λ(z:Bool)=>z=At a b):=by
 refine Eq.mp (BX a b _) ⟨λhl=>?_,λhl=>?_⟩
 ·simp only [bne_iff_ne,ne_eq,Int.natCast_inj] at hl
  exact (decide_eq_false λiL=>hl (by rw [iL])).symm
 ·simp only [bne_eq_false_iff_eq,Int.natCast_inj] at hl
  exact vU a b hl h
theorem Ox:Sound Tryz.prog 101 Ap:=
 Sound.Cg Bi Aj mixed Tryz.func101 (by kernel_rfl) (by kernel_rfl) λx h=>zY x.1 x.2.1 h
theorem sO (a b:List Int) (h:short a):fnW Cd (look []) Ap Tryz.f139 (a,b,()) (λ(z:Bool)=>z=At a b):=by
 refine Eq.mp (tK a b _) ⟨λhl=>?_,λhl=>?_⟩
 ·simp only [bne_iff_ne,ne_eq,Int.natCast_inj] at hl
  exact (decide_eq_false λiL=>hl (by rw [iL])).symm
 ·simp only [bne_eq_false_iff_eq,Int.natCast_inj] at hl
  exact vU a b hl h
theorem Zl:Sound Tryz.prog 139 Ap:=
 Sound.Cg Bi Aj mixed Tryz.func139 (by kernel_rfl) (by kernel_rfl) λx h=>sO x.1 x.2.1 h
end Go.Proofs.YtfolipnappekaaaGreat

namespace Go.Proofs.YtfolipnappekaaaGreat
open Go.RowKit
abbrev TT:Type:=List Int×List (List Int)×List Int×Unit
def Ff (xs:List (List Int)):Prop:=xs.length<=4294967296/\ ∀r∈xs,short r
def Le (t:TT):Prop:=short t.1/\Ff t.2.1/\short t.2.2.1
def roomy (room:Int):Prop:=0<=room/\room<=4294967296
def lT (n:Nat) (room:Int):Int:=if room-n<0 then-1 else room-n
def Xu (xs:List Int) (room:Int):Int:=lT xs.length room
def rK:List (List Int)->Int->Int
 | [],room=>room
 |r::rs,room=>if Xu r room<0 then-1 else rK rs (Xu r room)
def Nv (xs:List (List Int)) (room:Int):Int:=if lT xs.length room<0 then-1 else rK xs (lT xs.length room)
def Nj (t:TT) (room:Int):Int:=
 if Xu t.1 room<0 then-1 else if Nv t.2.1 (Xu t.1 room)<0 then-1 else
 if Xu t.2.2.1 (Nv t.2.1 (Xu t.1 room))<0 then-1 else Xu t.2.2.1 (Nv t.2.1 (Xu t.1 room))
def Mp (a b:List (List Int)):Bool:=decide (a=b)
def Kp (a b:TT):Bool:=decide (a.1=b.1)&&(decide (a.2.1=b.2.1)&&decide (a.2.2.1=b.2.2.1))
noncomputable abbrev gW:Spec:=Cg (.pair tL (.pair tI .unit)) tI false true (λx=>short x.1/\roomy x.2.1) (λx=>Xu x.1 x.2.1)
noncomputable abbrev c8:Spec:=Cg (.pair cZ (.pair tI .unit)) tI false true (λx=>Ff x.1/\roomy x.2.1) (λx=>Nv x.1 x.2.1)
noncomputable abbrev Ww:Spec:=Cg (.pair Gz (.pair tI .unit)) tI false true (λx=>Le x.1/\roomy x.2.1) (λx=>Nj x.1 x.2.1)
noncomputable abbrev Ya:Spec:=Cg (.pair tL .unit) tL false true (λx=>short x.1) (λx=>x.1)
noncomputable abbrev c9:Spec:=Cg (.pair cZ .unit) cZ false true (λx=>Ff x.1) (λx=>x.1)
noncomputable abbrev Wy:Spec:=Cg (.pair Gz .unit) Gz false true (λx=>Le x.1) (λx=>x.1)
noncomputable abbrev Pl:Spec:=Cg (.pair cZ (.pair cZ .unit)) .bool false true (λx=>Ff x.1) (λx=>Mp x.1 x.2.1)
noncomputable abbrev Ep:Spec:=Cg (.pair Gz (.pair Gz .unit)) .bool false true (λx=>Le x.1) (λx=>Kp x.1 x.2.1)
theorem Aj7 (xs:List Int) (room:Int) (P:Int->Prop):(Br (decide (IntKind.i64.wrap (room-(↑xs.length:Int))<0)) (P (-1)) (P (IntKind.i64.wrap (room-(↑xs.length:Int)))))=fnW Cd (look []) gW Tryz.f71 (xs,room,()) P:=by kernel_rfl
theorem Aey (xs:List (List Int)) (room:Int) (P:Int->Prop):(Br (decide (IntKind.i64.wrap (room-(↑xs.length:Int))<0)) (P (-1)) (Bk (λ(v3:Int×Int×PUnit) (k4:Int×Int×PUnit->Prop)=>Br (decide (v3.2.1<(↑xs.length:Int))) (∃(y5:List Int),idx xs v3.2.1=some y5/\ ∃(y6:Int),gW.fn (y5,v3.1,())=some y6/\Br (decide (y6<0)) (P (-1)) (k4 (y6,IntKind.i64.wrap (v3.2.1+1),()))) (P v3.1)) (IntKind.i64.wrap (room-(↑xs.length:Int)),0,PUnit.unit)))=fnW Cd (look [(71,gW)]) c8 Tryz.f45 (xs,room,()) P:=by kernel_rfl
theorem PI (t:List Int×List (List Int)×List Int×Unit) (room:Int) (P:Int->Prop):(∃(y3:Int),gW.fn (t.1,room,())=some y3/\Br (decide (y3<0)) (P (-1)) (∃(y4:Int),c8.fn (t.2.1,y3,())=some y4/\Br (decide (y4<0)) (P (-1)) (∃(y5:Int),gW.fn (t.2.2.1,y4,())=some y5/\Br (decide (y5<0)) (P (-1)) (P y5))))=fnW Cd (look [(71,gW),(45,c8)]) Ww Tryz.f46 (t,room,()) P:=by kernel_rfl
theorem Aj9 (xs:List Int) (P:List Int->Prop):((0<=(↑xs.length:Int)/\(↑xs.length:Int)<(↑Be:Int)+1)/\(↑xs.length:Int)=(↑xs.length:Int)/\0=0/\(List.replicate (↑xs.length:Int).toNat (Int.ofNat 0)).length=(List.replicate (↑xs.length:Int).toNat (Int.ofNat 0)).length/\Bk (λ(v2:Int×List Int×PUnit) (k3:Int×List Int×PUnit->Prop)=>Br (decide (v2.1<(↑xs.length:Int))) (∃(y4:Int),idx xs v2.1=some y4/\(0<=v2.1/\v2.1<(↑v2.2.1.length:Int))/\0+v2.1.toNat<v2.2.1.length/\0=0/\v2.2.1.length=(v2.2.1.set (0+v2.1.toNat) y4).length/\k3 (IntKind.i64.wrap (v2.1+1),v2.2.1.set (0+v2.1.toNat) y4,())) (P (List.take v2.2.1.length (List.drop 0 v2.2.1)))) (0,List.replicate (↑xs.length:Int).toNat (Int.ofNat 0),PUnit.unit))=fnW Cd (look []) Ya Tryz.f18 (xs,()) P:=by kernel_rfl
theorem Af0 (xs:List (List Int)) (P:List (List Int)->Prop):((0<=(↑xs.length:Int)/\(↑xs.length:Int)<(↑Be:Int)+1)/\(↑xs.length:Int)=(↑xs.length:Int)/\0=0/\(List.replicate (↑xs.length:Int).toNat ([]:List Int)).length=(List.replicate (↑xs.length:Int).toNat ([]:List Int)).length/\Bk (λ(v2:Int×List (List Int)×PUnit) (k3:Int×List (List Int)×PUnit->Prop)=>Br (decide (v2.1<(↑xs.length:Int))) (∃(y4:List Int),idx xs v2.1=some y4/\ ∃(y5:List Int),Ya.fn (y4,())=some y5/\(0<=v2.1/\v2.1<(↑v2.2.1.length:Int))/\0+v2.1.toNat<v2.2.1.length/\0=0/\v2.2.1.length=(v2.2.1.set (0+v2.1.toNat) y5).length/\k3 (IntKind.i64.wrap (v2.1+1),v2.2.1.set (0+v2.1.toNat) y5,())) (P (List.take v2.2.1.length (List.drop 0 v2.2.1)))) (0,List.replicate (↑xs.length:Int).toNat ([]:List Int),PUnit.unit))=fnW Cd (look [(18,Ya)]) c9 Tryz.f49 (xs,()) P:=by kernel_rfl
theorem PK (t:List Int×List (List Int)×List Int×Unit) (P:(List Int×List (List Int)×List Int×Unit)->Prop):(∃(y2:List Int),Ya.fn (t.1,())=some y2/\ ∃(y3:List (List Int)),c9.fn (t.2.1,())=some y3/\ ∃(y4:List Int),Ya.fn (t.2.2.1,())=some y4/\P (y2,y3,y4,()))=fnW Cd (look [(18,Ya),(49,c9)]) Wy Tryz.f50 (t,()) P:=by kernel_rfl
theorem Aj2 (a b:List Int) (P:Bool->Prop):(Br ((↑a.length:Int) !=(↑b.length:Int)) (P false) (Bk (λ(v3:Int×PUnit) (k4:Int×PUnit->Prop)=>Br (decide (v3.1<(↑a.length:Int))) (∃(y5:Int),idx a v3.1=some y5/\ ∃(y6:Int),idx b v3.1=some y6/\Br (y5 !=y6) (P false) (k4 (IntKind.i64.wrap (v3.1+1),()))) (P true)) (0,PUnit.unit)))=fnW Cd (look []) Ap Tryz.f22 (a,b,()) P:=by kernel_rfl
theorem Aep (a b:List (List Int)) (P:Bool->Prop):(Br ((↑a.length:Int) !=(↑b.length:Int)) (P false) (Bk (λ(v3:Int×PUnit) (k4:Int×PUnit->Prop)=>Br (decide (v3.1<(↑a.length:Int))) (∃(y5:List Int),idx a v3.1=some y5/\ ∃(y6:List Int),idx b v3.1=some y6/\ ∃(y7:Bool),Ap.fn (y5,y6,())=some y7/\Br (!y7) (P false) (k4 (IntKind.i64.wrap (v3.1+1),()))) (P true)) (0,PUnit.unit)))=fnW Cd (look [(22,Ap)]) Pl Tryz.f53 (a,b,()) P:=by kernel_rfl
theorem OW (a b:List Int×List (List Int)×List Int×Unit) (P:Bool->Prop):(∃(y3:Bool),Ap.fn (a.1,b.1,())=some y3/\Br (!y3) (P false) (∃(y4:Bool),Pl.fn (a.2.1,b.2.1,())=some y4/\Br (!y4) (P false) (∃(y5:Bool),Ap.fn (a.2.2.1,b.2.2.1,())=some y5/\Br (!y5) (P false) (P true))))=fnW Cd (look [(22,Ap),(53,Pl)]) Ep Tryz.f54 (a,b,()) P:=by kernel_rfl
theorem Wo {n:Nat} {room:Int} (h:roomy room) (h2: ¬lT n room<0):roomy (lT n room):=by
 unfold lT roomy at*
 split at h2<;>simp_all
 omega
theorem Aij (xs:List Int) (room:Int) (h:short xs/\roomy room):fnW Cd (look []) gW Tryz.f71 (xs,room,()) (λ(z:Int)=>z=Xu xs room):=by
 obtain ⟨h1,h2,h3⟩:=h
 unfold short at h1
 refine Eq.mp (Aj7 xs room _) ?_
 rw [Bn (by omega) (by omega)]
 refine Br.dec (λh=>?_) λh=>?_
 ·simp only [Xu,lT,if_pos h]
 ·simp only [Xu,lT,if_neg h]
theorem vh:Sound Tryz.prog 71 gW:=
 Sound.Cg Bi Aj mixed Tryz.func71 (by kernel_rfl) (by kernel_rfl) λx h=>Aij x.1 x.2.1 h
theorem Ae5 (xs:List (List Int)) (room:Int) (h:Ff xs/\roomy room):fnW Cd (look [(71,gW)]) c8 Tryz.f45 (xs,room,()) (λ(z:Int)=>z=Nv xs room):=by
 obtain ⟨⟨h1,h4⟩,h2,h3⟩:=h
 refine Eq.mp (Aey xs room _) ?_
 rw [Bn (by omega) (by omega)]
 refine Br.dec (λh=>?_) λh=>?_
 ·simp only [Nv,lT,if_pos h];rfl
 ·refine Ag xs.length (λv=>v.2.1) (λj v=>roomy v.1/\rK (xs.drop j) v.1=Nv xs room) rfl ?_ ?_
  ·refine ⟨by unfold roomy;omega,?_⟩
   simp only [Nv,lT,if_neg h,List.drop_zero]
  ·rintro j ⟨r,i,⟨⟩⟩ K hj hi ⟨hr,hR⟩ hK
   dsimp only at hi hr hR⊢
   subst hi
   refine Br.dec (λhl=>?_) λhl=>?_
   ·have hl:j<xs.length:=by omega
    have hd:xs.drop j=xs[j]::xs.drop (j+1):=List.drop_eq_getElem_cons hl
    refine ⟨_,Aq hl,_,if_pos ⟨h4 _ (List.getElem_mem hl),hr⟩,?_⟩
    rw [hd] at hR
    simp only [rK] at hR
    refine Br.dec (λhn=>?_) λhn=>?_
    ·have hn:Xu xs[j] r<0:=hn
     rw [if_pos hn] at hR
     exact hR
    ·have hn: ¬Xu xs[j] r<0:=hn
     rw [if_neg hn] at hR
     rw [Ah (by omega)]
     exact hK hl _ rfl ⟨Wo hr hn,hR⟩
   ·have:j=xs.length:=by omega
    subst this
    rw [List.drop_length] at hR
    exact hR
theorem rC:Sound Tryz.prog 45 c8:=
 Sound.Cg Bi (Ae vh Aj) mixed Tryz.func45 (by kernel_rfl) (by kernel_rfl) λx h=>Ae5 x.1 x.2.1 h
theorem vo: ∀(xs:List (List Int)) (room:Int),roomy room-> ¬rK xs room<0->roomy (rK xs room)
 | [],room,h,_=>h
 |r::rs,room,h,h2=>by
  simp only [rK] at h2⊢
  split
  ·rename_i hn;rw [if_pos hn] at h2;exact absurd (show (-1:Int)<0 by decide) h2
  ·rename_i hn;rw [if_neg hn] at h2;exact vo rs _ (Wo h hn) h2
theorem nu {xs:List (List Int)} {room:Int} (h:roomy room) (h2: ¬Nv xs room<0):roomy (Nv xs room):=by
 unfold Nv at*
 split
 ·rename_i hn;rw [if_pos hn] at h2;exact absurd (show (-1:Int)<0 by decide) h2
 ·rename_i hn;rw [if_neg hn] at h2;exact vo _ _ (Wo h hn) h2
theorem NK (t:TT) (room:Int) (h:Le t/\roomy room):fnW Cd (look [(71,gW),(45,c8)]) Ww Tryz.f46 (t,room,()) (λ(z:Int)=>z=Nj t room):=by
 obtain ⟨⟨h1,h2,h3⟩,hr⟩:=h
 refine Eq.mp (PI t room _) ?_
 refine ⟨_,if_pos ⟨h1,hr⟩,Br.dec (λhn=>?_) λhn=>?_⟩
 ·exact (if_pos hn).symm
 ·have r1:=Wo hr hn
  refine ⟨_,if_pos ⟨h2,r1⟩,Br.dec (λhm=>?_) λhm=>?_⟩
  ·exact ((if_neg hn).trans (if_pos hm)).symm
  ·have r2:=nu r1 hm
   refine ⟨_,if_pos ⟨h3,r2⟩,Br.dec (λhk=>?_) λhk=>?_⟩
   ·exact ((if_neg hn).trans ((if_neg hm).trans (if_pos hk))).symm
   ·exact ((if_neg hn).trans ((if_neg hm).trans (if_neg hk))).symm
theorem tn:Sound Tryz.prog 46 Ww:=
 Sound.Cg Bi (Ae vh (Ae rC Aj)) mixed Tryz.func46 (by kernel_rfl) (by kernel_rfl) λx h=>NK x.1 x.2.1 h
theorem Ls {α:Type} {ys xs:List α} {j:Nat} (h:j<xs.length) (hl:ys.length=xs.length) (ht:ys.take j=xs.take j):(ys.set j xs[j]).take (j+1)=xs.take (j+1):=by
 have h1:j<(ys.set j xs[j]).length:=by rw [List.length_set];omega
 rw [List.take_succ_eq_append_getElem h1,List.take_succ_eq_append_getElem h,List.getElem_set_self,List.take_set_of_le (Nat.le_refl j),ht]
theorem Ail (xs:List Int) (h:short xs):fnW Cd (look []) Ya Tryz.f18 (xs,()) (λ(z:List Int)=>z=xs):=by
 unfold short at h
 refine Eq.mp (Aj9 xs _) ?_
 refine ⟨⟨by omega,by show (xs.length:Int)<(4294967296:Int)+1;omega⟩,rfl,rfl,rfl,?_⟩
 refine Ag xs.length (λv=>v.1) (λj v=>v.2.1.length=xs.length/\v.2.1.take j=xs.take j) rfl ⟨by simp,by simp⟩ ?_
 rintro j ⟨i,ys,⟨⟩⟩ K hj hi ⟨h1,h2⟩ hK
 dsimp only at hi h1 h2⊢
 subst hi
 refine Br.dec (λhl=>?_) λhl=>?_
 ·have hl:j<xs.length:=by omega
  refine ⟨_,Aq hl,⟨by omega,by omega⟩,by rw [Int.toNat_natCast];omega,rfl,by rw [List.length_set],?_⟩
  rw [Ah (by omega),Int.toNat_natCast,Nat.zero_add]
  exact hK hl _ rfl ⟨by rw [List.length_set];exact h1,Ls hl h1 h2⟩
 ·have:j=xs.length:=by omega
  subst this
  rw [List.take_length,<-h1,List.take_length] at h2
  rw [List.drop_zero,List.take_length]
  exact h2
theorem mF:Sound Tryz.prog 18 Ya:=
 Sound.Cg Bi Aj mixed Tryz.func18 (by kernel_rfl) (by kernel_rfl) λx h=>Ail x.1 h
theorem Ae7 (xs:List (List Int)) (h:Ff xs):fnW Cd (look [(18,Ya)]) c9 Tryz.f49 (xs,()) (λ(z:List (List Int))=>z=xs):=by
 obtain ⟨h,h4⟩:=h
 refine Eq.mp (Af0 xs _) ?_
 refine ⟨⟨by omega,by show (xs.length:Int)<(4294967296:Int)+1;omega⟩,rfl,rfl,rfl,?_⟩
 refine Ag xs.length (λv=>v.1) (λj v=>v.2.1.length=xs.length/\v.2.1.take j=xs.take j) rfl ⟨by simp,by simp⟩ ?_
 rintro j ⟨i,ys,⟨⟩⟩ K hj hi ⟨h1,h2⟩ hK
 dsimp only at hi h1 h2⊢
 subst hi
 refine Br.dec (λhl=>?_) λhl=>?_
 ·have hl:j<xs.length:=by omega
  refine ⟨_,Aq hl,_,if_pos (h4 _ (List.getElem_mem hl)),⟨by omega,by omega⟩,by rw [Int.toNat_natCast];omega,rfl,by rw [List.length_set],?_⟩
  rw [Ah (by omega),Int.toNat_natCast,Nat.zero_add]
  exact hK hl _ rfl ⟨by rw [List.length_set];exact h1,Ls hl h1 h2⟩
 ·have:j=xs.length:=by omega
  subst this
  rw [List.take_length,<-h1,List.take_length] at h2
  rw [List.drop_zero,List.take_length]
  exact h2
theorem rE:Sound Tryz.prog 49 c9:=
 Sound.Cg Bi (Ae mF Aj) mixed Tryz.func49 (by kernel_rfl) (by kernel_rfl) λx h=>Ae7 x.1 h
theorem NM (t:TT) (h:Le t):fnW Cd (look [(18,Ya),(49,c9)]) Wy Tryz.f50 (t,()) (λ(z:TT)=>z=t):=by
 refine Eq.mp (PK t _) ?_
 exact ⟨_,if_pos h.1,_,if_pos h.2.1,_,if_pos h.2.2,rfl⟩
theorem tq:Sound Tryz.prog 50 Wy:=
 Sound.Cg Bi (Ae mF (Ae rE Aj)) mixed Tryz.func50 (by kernel_rfl) (by kernel_rfl) λx h=>NM x.1 h
theorem Aie (a b:List Int) (h:short a):fnW Cd (look []) Ap Tryz.f22 (a,b,()) (λ(z:Bool)=>z=At a b):=by
 refine Eq.mp (Aj2 a b _) ⟨λhl=>?_,λhl=>?_⟩
 ·simp only [bne_iff_ne,ne_eq,Int.natCast_inj] at hl
  exact (decide_eq_false λiL=>hl (by rw [iL])).symm
 ·simp only [bne_eq_false_iff_eq,Int.natCast_inj] at hl
  exact vU a b hl h
theorem mz:Sound Tryz.prog 22 Ap:=
 Sound.Cg Bi Aj mixed Tryz.func22 (by kernel_rfl) (by kernel_rfl) λx h=>Aie x.1 x.2.1 h
theorem Adw (a b:List (List Int)) (h:Ff a):fnW Cd (look [(22,Ap)]) Pl Tryz.f53 (a,b,()) (λ(z:Bool)=>z=Mp a b):=by
 obtain ⟨h,h4⟩:=h
 refine Eq.mp (Aep a b _) ⟨λhl=>?_,λhl=>?_⟩
 ·simp only [bne_iff_ne,ne_eq,Int.natCast_inj] at hl
  exact (decide_eq_false λiL=>hl (by rw [iL])).symm
 ·simp only [bne_eq_false_iff_eq,Int.natCast_inj] at hl
  refine Ag a.length (λv=>v.1) (λj _=>a.take j=b.take j) rfl (by simp) ?_
  rintro j ⟨i,⟨⟩⟩ K hj hi hR hK
  dsimp only at hi⊢
  subst hi
  refine Br.dec (λEy=>?_) λEy=>?_
  ·have fq:j<a.length:=by omega
   have s8:j<b.length:=by omega
   refine ⟨_,Aq fq,_,Aq s8,_,if_pos (h4 _ (List.getElem_mem fq)),⟨λhe=>?_,λhe=>?_⟩⟩
   ·refine (decide_eq_false λiL=>?_).symm
    subst iL
    simp [At] at he
   ·rw [Ah (by omega)]
    refine hK fq _ rfl ?_
    simp only [At,Bool.not_eq_false',decide_eq_true_eq] at he
    rw [List.take_succ_eq_append_getElem fq,List.take_succ_eq_append_getElem s8,hR]
    exact congrArg (λx=>List.take j b++ [x]) he
  ·have wc:j=a.length:=by omega
   subst wc
   rw [List.take_length,hl,List.take_length] at hR
   exact (decide_eq_true hR).symm
theorem rk:Sound Tryz.prog 53 Pl:=
 Sound.Cg Bi (Ae mz Aj) mixed Tryz.func53 (by kernel_rfl) (by kernel_rfl) λx h=>Adw x.1 x.2.1 h
theorem MY (a b:TT) (h:Le a):fnW Cd (look [(22,Ap),(53,Pl)]) Ep Tryz.f54 (a,b,()) (λ(z:Bool)=>z=Kp a b):=by
 refine Eq.mp (OW a b _) ?_
 refine ⟨_,if_pos h.1,⟨λh1=>?_,λh1=>?_⟩⟩
 ·have h1:(!At a.1 b.1)=true:=h1
  simp only [At] at h1
  unfold Kp
  cases hd:decide (a.1=b.1)<;>simp_all
 ·have h1:(!At a.1 b.1)=false:=h1
  simp only [At] at h1
  refine ⟨_,if_pos h.2.1,⟨λh2=>?_,λh2=>?_⟩⟩
  ·have h2:(!Mp a.2.1 b.2.1)=true:=h2
   simp only [Mp] at h2
   unfold Kp
   cases hd:decide (a.2.1=b.2.1)<;>simp_all
  ·have h2:(!Mp a.2.1 b.2.1)=false:=h2
   simp only [Mp] at h2
   refine ⟨_,if_pos h.2.2,⟨λh3=>?_,λh3=>?_⟩⟩
   ·have h3:(!At a.2.2.1 b.2.2.1)=true:=h3
    simp only [At] at h3
    unfold Kp
    cases hd:decide (a.2.2.1=b.2.2.1)<;>simp_all
   ·have h3:(!At a.2.2.1 b.2.2.1)=false:=h3
    simp only [At] at h3
    unfold Kp
    simp_all
theorem sZ:Sound Tryz.prog 54 Ep:=
 Sound.Cg Bi (Ae mz (Ae rk Aj)) mixed Tryz.func54 (by kernel_rfl) (by kernel_rfl) λx h=>MY x.1 x.2.1 h
end Go.Proofs.YtfolipnappekaaaGreat

namespace Go.Proofs.YtfolipnappekaaaGreat
open Go.RowKit
def PL (n:Int) (xs:List Int) (k:Nat):Prop:= ∀j (h:j<xs.length),j<k->0<=xs[j]/\xs[j]<=n-1/\(0<j->xs[j-1]<xs[j])
def DL (n:Int) (xs:List Int) (k:Nat):Prop:= ∀j (h:j<xs.length),j<k->0<=xs[j]/\xs[j]<=n-1/\xs[j]∉xs.take j
noncomputable def dec (p:Prop):Bool:= @decide p (Classical.propDecidable p)
theorem Ka {p:Prop} (h:p):true=dec p:=(@decide_eq_true p (Classical.propDecidable p) h).symm
theorem Bl {p:Prop} (h: ¬p):false=dec p:=(@decide_eq_false p (Classical.propDecidable p) h).symm
theorem Dw {p:Prop} :dec p=true↔p:= @decide_eq_true_iff p (Classical.propDecidable p)
theorem XF {p:Prop} :dec p=false↔ ¬p:= @decide_eq_false_iff_not p (Classical.propDecidable p)
def nOK (n:Int):Prop:=0<=n/\n<=4294967296
noncomputable def Um (n:Int) (xs:List Int):Bool:=dec (0<xs.length/\PL n xs xs.length)
noncomputable abbrev Fw:Spec:=Cg (.pair tI (.pair tL .unit)) .bool false true (λx=>nOK x.1/\short x.2.1) (λx=>Um x.1 x.2.1)
theorem tJ (n:Int) (xs:List Int) (P:Bool->Prop):(∃(y3:Bool),Bm.fn ((↑xs.length:Int),(1:Int),n,())=some y3/\Br (!y3) (P false) (Bk (λ(v4:Int×PUnit) (k5:Int×PUnit->Prop)=>Br (decide (v4.1<(↑xs.length:Int))) (∃(y6:Int),idx xs v4.1=some y6/\ ∃(y7:Bool),Bm.fn (y6,(0:Int),IntKind.i64.wrap (n-(1:Int)),())=some y7/\Br (!y7) (P false) (Br (decide (v4.1>(0:Int))) (∃(y8:Int),idx xs v4.1=some y8/\ ∃(y9:Int),idx xs (IntKind.i64.wrap (v4.1-(1:Int)))=some y9/\Br (decide (y8<=y9)) (P false) (k5 (IntKind.i64.wrap (v4.1+(1:Int)),()))) (k5 (IntKind.i64.wrap (v4.1+(1:Int)),())))) (P true)) ((0:Int),PUnit.unit)))=fnW Cd (look [(88,Bm)]) Fw Tryz.f160 (n,xs,()) P:=by kernel_rfl
theorem CB (n:Int) (xs:List Int) (P:Bool->Prop):(Bk (λ(v3:Int×PUnit) (k4:Int×PUnit->Prop)=>Br (decide (v3.1<(↑xs.length:Int))) (∃(y5:Int),idx xs v3.1=some y5/\ ∃(y6:Bool),Ws.fn (n,y5,())=some y6/\Br (!y6) (P false) (Br (decide (v3.1>(0:Int))) (∃(y7:Int),idx xs (IntKind.i64.wrap (v3.1-(1:Int)))=some y7/\Br (decide (y7>=y5)) (P false) (k4 (IntKind.i64.wrap (v3.1+(1:Int)),()))) (k4 (IntKind.i64.wrap (v3.1+(1:Int)),())))) (P (decide ((↑xs.length:Int)>(0:Int))))) ((0:Int),PUnit.unit))=fnW Cd (look [(161,Ws)]) Fw Tryz.f159 (n,xs,()) P:=by kernel_rfl
theorem nq {n x:Int} (hn:nOK n):fD n x=true↔0<=x/\x<=n-1:=by
 unfold fD nOK at*
 rw [Bn (by omega) (by omega),decide_eq_true_iff]
theorem Cs {x a b:Int} :Ke x a b=true↔a<=x/\x<=b:=decide_eq_true_iff
theorem Ed {b:Bool} (h:(!b)=true): ¬b=true:=by cases b<;>simp_all
theorem Dk {b:Bool} (h:(!b)=false):b=true:=by cases b<;>simp_all
theorem GF {n:Int} {xs:List Int} (h:PL n xs xs.length): ∀j (hj:j<xs.length),(j:Int)<=xs[j]
 |0,hj=>(h 0 hj hj).1
 |j+1,hj=>by
  have h1:=GF h j (by omega)
  have h2:=(h (j+1) hj hj).2.2 (by omega)
  simp only [Nat.add_sub_cancel] at h2
  omega
theorem oR {n:Int} {xs:List Int} {j:Nat} (hl:j<xs.length) (h:PL n xs j) (h1:0<=xs[j]) (h2:xs[j]<=n-1) (h3:0<j->xs[j-1]<xs[j]):PL n xs (j+1):=by
 intro i hi dN
 by_cases e:i=j
 ·subst e;exact ⟨h1,h2,h3⟩
 ·exact h i hi (by omega)
theorem AD (n:Int) (xs:List Int) (h:nOK n/\short xs):fnW Cd (look [(161,Ws)]) Fw Tryz.f159 (n,xs,()) (λ(z:Bool)=>z=Um n xs):=by
 obtain ⟨hn,h⟩:=h
 unfold short at h
 refine Eq.mp (CB n xs _) ?_
 refine Ag xs.length (λv=>v.1) (λj _=>PL n xs j) rfl (λj _ hj=>absurd hj (Nat.not_lt_zero _)) ?_
 rintro j ⟨i,⟨⟩⟩ K hj hi hR hK
 dsimp only at hi⊢
 subst hi
 refine Br.dec (λhl=>?_) λhl=>?_
 ·have hl:j<xs.length:=by omega
  refine ⟨_,Aq hl,_,if_pos trivial,⟨λhp=>?_,λhp=>?_⟩⟩
  ·have hp:=Ed hp
   rw [nq hn] at hp
   exact Bl λhh=>hp ⟨(hh.2 j hl hl).1,(hh.2 j hl hl).2.1⟩
  ·have hp:=Dk hp
   rw [nq hn] at hp
   refine Br.dec (λh0=>?_) λh0=>?_
   ·have h0:0<j:=by omega
    rw [Bn (by omega) (by omega),show (j:Int)-1=((j-1:Nat):Int) by omega]
    refine ⟨_,Aq (by omega),Br.dec (λhg=>?_) λhg=>?_⟩
    ·exact Bl λhh=>by have:=(hh.2 j hl hl).2.2 h0;omega
    ·rw [Ah (by omega)]
     exact hK hl _ rfl (oR hl hR hp.1 hp.2 λ_=>by omega)
   ·have h0:j=0:=by omega
    rw [Ah (by omega)]
    exact hK hl _ rfl (oR hl hR hp.1 hp.2 λh=>by omega)
 ·have:j=xs.length:=by omega
  subst this
  by_cases h0:0<xs.length
  ·rw [decide_eq_true (show (xs.length:Int)>0 by omega)];exact Ka ⟨h0,hR⟩
  ·rw [decide_eq_false (show ¬(xs.length:Int)>0 by omega)];exact Bl λhh=>h0 hh.1
theorem oo:Sound Tryz.prog 159 Fw:=
 Sound.Cg Bi (Ae td Aj) mixed Tryz.func159 (by kernel_rfl) (by kernel_rfl) λx h=>AD x.1 x.2.1 h
theorem sN (n:Int) (xs:List Int) (h:nOK n/\short xs):fnW Cd (look [(88,Bm)]) Fw Tryz.f160 (n,xs,()) (λ(z:Bool)=>z=Um n xs):=by
 obtain ⟨hn,h⟩:=h
 unfold short at h
 refine Eq.mp (tJ n xs _) ⟨_,if_pos trivial,⟨λhp=>?_,λhp=>?_⟩⟩
 ·have hp:=Ed hp
  rw [Cs] at hp
  dsimp only at hp
  refine Bl λhh=>hp ⟨by omega,?_⟩
  have:=GF hh.2 (xs.length-1) (by omega)
  have:=(hh.2 (xs.length-1) (by omega) (by omega)).2.1
  omega
 ·have hp:=Dk hp
  rw [Cs] at hp
  dsimp only at hp
  refine Ag xs.length (λv=>v.1) (λj _=>PL n xs j) rfl (λj _ hj=>absurd hj (Nat.not_lt_zero _)) ?_
  rintro j ⟨i,⟨⟩⟩ K hj hi hR hK
  dsimp only at hi⊢
  subst hi
  refine Br.dec (λhl=>?_) λhl=>?_
  ·have hl:j<xs.length:=by omega
   refine ⟨_,Aq hl,_,if_pos trivial,⟨λhq=>?_,λhq=>?_⟩⟩
   ·have hq:=Ed hq
    unfold nOK at hn
    rw [Cs,Bn (by omega) (by omega)] at hq
    exact Bl λhh=>hq ⟨(hh.2 j hl hl).1,(hh.2 j hl hl).2.1⟩
   ·have hq:=Dk hq
    unfold nOK at hn
    rw [Cs,Bn (by omega) (by omega)] at hq
    refine Br.dec (λh0=>?_) λh0=>?_
    ·have h0:0<j:=by omega
     rw [Bn (by omega) (by omega),show (j:Int)-1=((j-1:Nat):Int) by omega]
     refine ⟨_,Aq hl,_,Aq (by omega),Br.dec (λhg=>?_) λhg=>?_⟩
     ·exact Bl λhh=>by have:=(hh.2 j hl hl).2.2 h0;omega
     ·rw [Ah (by omega)]
      exact hK hl _ rfl (oR hl hR hq.1 hq.2 λ_=>by omega)
    ·rw [Ah (by omega)]
     exact hK hl _ rfl (oR hl hR hq.1 hq.2 λh=>by omega)
  ·have:j=xs.length:=by omega
   subst this
   exact Ka ⟨by omega,hR⟩
theorem kR:Sound Tryz.prog 160 Fw:=
 Sound.Cg Bi (Ae Ua Aj) mixed Tryz.func160 (by kernel_rfl) (by kernel_rfl) λx h=>sN x.1 x.2.1 h
theorem XG {n:Int} {xs:List Int} {j:Nat} (hl:j<xs.length) (h:DL n xs j) (h1:0<=xs[j]) (h2:xs[j]<=n-1) (h3:xs[j]∉xs.take j):DL n xs (j+1):=by
 intro i hi dN
 by_cases e:i=j
 ·subst e;exact ⟨h1,h2,h3⟩
 ·exact h i hi (by omega)
theorem GW {xs:List Int} (h:short xs) (j:Nat):short (xs.take j):=by
 unfold short at*
 rw [List.length_take]
 omega
end Go.Proofs.YtfolipnappekaaaGreat

namespace Go.Proofs.YtfolipnappekaaaGreat
open Go.RowKit
noncomputable abbrev Tb:Spec:=Cg (.pair cZ (.pair cZ (.pair (.clo 154 .unit) .unit))) .bool false true (λx=>Ff x.1) (λx=>Mp x.1 x.2.1)
theorem Aj6 (a b:List Int) (P:Bool->Prop):(∃(y3:Bool),Ap.fn (a,b,())=some y3/\P y3)=fnW Cd (look [(139,Ap)]) Ap Tryz.f154 (a,b,()) P:=by kernel_rfl
theorem IB (a b:List (List Int)) (c:Unit) (P:Bool->Prop):(Br ((↑a.length:Int) !=(↑b.length:Int)) (P false) (Bk (λ(v4:Int×PUnit) (k5:Int×PUnit->Prop)=>Br (decide (v4.1<(↑a.length:Int))) (∃(y6:List Int),idx a v4.1=some y6/\ ∃(y7:List Int),idx b v4.1=some y7/\ ∃(y8:Bool),Ap.fn (y6,y7,())=some y8/\Br (!y8) (P false) (k5 (IntKind.i64.wrap (v4.1+(1:Int)),()))) (P true)) ((0:Int),PUnit.unit)))=fnW Cd (look [(154,Ap)]) Tb Tryz.f153 (a,b,c,()) P:=by kernel_rfl
theorem oD (a b:List (List Int)) (P:Bool->Prop):(∃(y3:Bool),Tb.fn (a,b,(),())=some y3/\P y3)=fnW Cd (look [(153,Tb)]) Pl Tryz.f140 (a,b,()) P:=by kernel_rfl
theorem oC (a b:List Int×List (List Int)×List Int×Unit) (P:Bool->Prop):(∃(y3:Bool),Ap.fn (a.1,b.1,())=some y3/\Br y3 (∃(y4:Bool),Pl.fn (a.2.1,b.2.1,())=some y4/\Br y4 (∃(y5:Bool),Ap.fn (a.2.2.1,b.2.2.1,())=some y5/\P y5) (P false)) (P false))=fnW Cd (look [(139,Ap),(140,Pl)]) Ep Tryz.f114 (a,b,()) P:=by kernel_rfl
abbrev bh:Type:=Int×List Int×List (List Int)×List Int×List Int×List (List Int)×List Int×PUnit
theorem oE (a b:List Int×List (List Int)×List Int×Unit) (P:Bool->Prop):(∃(y3:Bool),Ap.fn (a.1,b.1,())=some y3/\Br (!y3) (P false) (∃(y4:Bool),Ap.fn (a.2.2.1,b.2.2.1,())=some y4/\Br (!y4) (P false) (Br ((↑a.2.1.length:Int) !=(↑b.2.1.length:Int)) (P false) (Bk (λ(v5:bh) (k6:bh->Prop)=>Br (decide (v5.1<(↑v5.2.2.1.length:Int))) (∃(y7:List Int),idx v5.2.2.1 v5.1=some y7/\ ∃(y8:List Int),idx v5.2.2.2.2.2.1 v5.1=some y8/\ ∃(y9:Bool),Ap.fn (y7,y8,())=some y9/\Br (!y9) (P false) (k6 (IntKind.i64.wrap (v5.1+(1:Int)),v5.2.1,v5.2.2.1,v5.2.2.2.1,v5.2.2.2.2.1,v5.2.2.2.2.2.1,v5.2.2.2.2.2.2.1,()))) (P true)) ((0:Int),a.1,a.2.1,a.2.2.1,b.1,b.2.1,b.2.2.1,PUnit.unit)))))=fnW Cd (look [(101,Ap)]) Ep Tryz.f126 (a,b,()) P:=by kernel_rfl
theorem Aii (a b:List Int) (h:short a):fnW Cd (look [(139,Ap)]) Ap Tryz.f154 (a,b,()) (λ(z:Bool)=>z=At a b):=by
 refine Eq.mp (Aj6 a b _) ⟨_,if_pos h,rfl⟩
theorem OH:Sound Tryz.prog 154 Ap:=
 Sound.Cg Bi (Ae Zl Aj) mixed Tryz.func154 (by kernel_rfl) (by kernel_rfl) λx h=>Aii x.1 x.2.1 h
theorem FU (a b:List (List Int)) (c:Unit) (h:Ff a):fnW Cd (look [(154,Ap)]) Tb Tryz.f153 (a,b,c,()) (λ(z:Bool)=>z=Mp a b):=by
 obtain ⟨h,h4⟩:=h
 refine Eq.mp (IB a b c _) ⟨λhl=>?_,λhl=>?_⟩
 ·simp only [bne_iff_ne,ne_eq,Int.natCast_inj] at hl
  exact (decide_eq_false λiL=>hl (by rw [iL])).symm
 ·simp only [bne_eq_false_iff_eq,Int.natCast_inj] at hl
  refine Ag a.length (λv=>v.1) (λj _=>a.take j=b.take j) rfl (by simp) ?_
  rintro j ⟨i,⟨⟩⟩ K hj hi hR hK
  dsimp only at hi⊢
  subst hi
  refine Br.dec (λEy=>?_) λEy=>?_
  ·have fq:j<a.length:=by omega
   have s8:j<b.length:=by omega
   refine ⟨_,Aq fq,_,Aq s8,_,if_pos (h4 _ (List.getElem_mem fq)),⟨λhe=>?_,λhe=>?_⟩⟩
   ·refine (decide_eq_false λiL=>?_).symm
    subst iL
    simp [At] at he
   ·rw [Ah (by omega)]
    refine hK fq _ rfl ?_
    simp only [At,Bool.not_eq_false',decide_eq_true_eq] at he
    rw [List.take_succ_eq_append_getElem fq,List.take_succ_eq_append_getElem s8,hR]
    exact congrArg (λx=>List.take j b++ [x]) he
  ·have wc:j=a.length:=by omega
   subst wc
   rw [List.take_length,hl,List.take_length] at hR
   exact (decide_eq_true hR).symm
theorem rj:Sound Tryz.prog 153 Tb:=
 Sound.Cg Bi (Ae OH Aj) mixed Tryz.func153 (by kernel_rfl) (by kernel_rfl) λx h=>FU x.1 x.2.1 x.2.2.1 h
theorem o7 (a b:List (List Int)) (h:Ff a):fnW Cd (look [(153,Tb)]) Pl Tryz.f140 (a,b,()) (λ(z:Bool)=>z=Mp a b):=by
 refine Eq.mp (oD a b _) ⟨_,if_pos h,rfl⟩
theorem gp:Sound Tryz.prog 140 Pl:=
 Sound.Cg Bi (Ae rj Aj) mixed Tryz.func140 (by kernel_rfl) (by kernel_rfl) λx h=>o7 x.1 x.2.1 h
theorem o6 (a b:TT) (h:Le a):fnW Cd (look [(139,Ap),(140,Pl)]) Ep Tryz.f114 (a,b,()) (λ(z:Bool)=>z=Kp a b):=by
 refine Eq.mp (oC a b _) ⟨_,if_pos h.1,⟨λh1=>⟨_,if_pos h.2.1,⟨λh2=>⟨_,if_pos h.2.2,?_⟩,λh2=>?_⟩⟩,λh1=>?_⟩⟩
 ·have h1:At a.1 b.1=true:=h1
  have h2:Mp a.2.1 b.2.1=true:=h2
  simp only [At,Mp] at h1 h2
  show At a.2.2.1 b.2.2.1=_
  unfold Kp At
  rw [h1,h2];rfl
 ·have h1:At a.1 b.1=true:=h1
  have h2:Mp a.2.1 b.2.1=false:=h2
  simp only [At,Mp] at h1 h2
  unfold Kp
  rw [h1,h2];rfl
 ·have h1:At a.1 b.1=false:=h1
  simp only [At] at h1
  unfold Kp
  rw [h1];rfl
theorem gm:Sound Tryz.prog 114 Ep:=
 Sound.Cg Bi (Ae Zl (Ae gp Aj)) mixed Tryz.func114 (by kernel_rfl) (by kernel_rfl) λx h=>o6 x.1 x.2.1 h
theorem o8 (a b:TT) (h:Le a):fnW Cd (look [(101,Ap)]) Ep Tryz.f126 (a,b,()) (λ(z:Bool)=>z=Kp a b):=by
 obtain ⟨bD,⟨jl,hs4⟩,hs3⟩:=h
 refine Eq.mp (oE a b _) ⟨_,if_pos bD,⟨λh1=>?_,λh1=>⟨_,if_pos hs3,⟨λh2=>?_,λh2=>⟨λh3=>?_,λh3=>?_⟩⟩⟩⟩⟩
 ·have h1:(!At a.1 b.1)=true:=h1
  simp only [At,Bool.not_eq_true'] at h1
  show _=Kp a b
  unfold Kp
  rw [h1];rfl
 ·have h2:(!At a.2.2.1 b.2.2.1)=true:=h2
  simp only [At,Bool.not_eq_true'] at h2
  show _=Kp a b
  unfold Kp
  rw [h2];simp
 ·simp only [bne_iff_ne,ne_eq,Int.natCast_inj] at h3
  show _=Kp a b
  unfold Kp
  rw [decide_eq_false (show ¬a.2.1=b.2.1 from λiL=>h3 (by rw [iL]))];simp
 ·simp only [bne_eq_false_iff_eq,Int.natCast_inj] at h3
  have h1:(!At a.1 b.1)=false:=h1
  have h2:(!At a.2.2.1 b.2.2.1)=false:=h2
  simp only [At,Bool.not_eq_false',decide_eq_true_eq] at h1 h2
  have hE:Kp a b=decide (a.2.1=b.2.1):=by
   unfold Kp
   rw [decide_eq_true h1,decide_eq_true h2];simp
  refine Ag a.2.1.length (λv=>v.1) (λj v=>v.2=(a.1,a.2.1,a.2.2.1,b.1,b.2.1,b.2.2.1,())/\a.2.1.take j=b.2.1.take j) rfl ⟨rfl,by simp⟩ ?_
  rintro j ⟨i,v⟩ K hj hi ⟨hv,hR⟩ hK
  dsimp only at hi hv⊢
  subst hi hv
  dsimp only
  refine Br.dec (λEy=>?_) λEy=>?_
  ·have fq:j<a.2.1.length:=by omega
   have s8:j<b.2.1.length:=by omega
   refine ⟨_,Aq fq,_,Aq s8,_,if_pos (hs4 _ (List.getElem_mem fq)),⟨λhe=>?_,λhe=>?_⟩⟩
   ·show _=Kp a b
    rw [hE]
    refine (decide_eq_false λiL=>?_).symm
    simp [iL,At] at he
   ·rw [Ah (by omega)]
    refine hK fq _ rfl ⟨rfl,?_⟩
    simp only [At,Bool.not_eq_false',decide_eq_true_eq] at he
    rw [List.take_succ_eq_append_getElem fq,List.take_succ_eq_append_getElem s8,hR]
    exact congrArg (λx=>List.take j b.2.1++ [x]) he
  ·have wc:j=a.2.1.length:=by omega
   subst wc
   rw [List.take_length,h3,List.take_length] at hR
   show _=Kp a b
   rw [hE]
   exact (decide_eq_true hR).symm
theorem gr:Sound Tryz.prog 126 Ep:=
 Sound.Cg Bi (Ae Ox Aj) mixed Tryz.func126 (by kernel_rfl) (by kernel_rfl) λx h=>o8 x.1 x.2.1 h
theorem ql {t:TT} {room:Int} (h:roomy room) (h2: ¬Nj t room<0):roomy (Nj t room):=by
 have hm: ¬((-1:Int)<0)->False:= λh=>h (by decide)
 unfold Nj at h2⊢
 split
 ·rename_i h3;rw [if_pos h3] at h2;exact (hm h2).elim
 ·rename_i h3;rw [if_neg h3] at h2
  split
  ·rename_i h4;rw [if_pos h4] at h2;exact (hm h2).elim
  ·rename_i h4;rw [if_neg h4] at h2
   split
   ·rename_i h5;rw [if_pos h5] at h2;exact (hm h2).elim
   ·rename_i h5
    exact Wo (nu (Wo h h3) h4) h5
theorem AP:roomy 1048576:=⟨by decide,by decide⟩
end Go.Proofs.YtfolipnappekaaaGreat

namespace Go.Proofs.YtfolipnappekaaaGreat
open Go.RowKit
abbrev PP:Type:=Int×ByteArray×List (List Int)×Unit
noncomputable def Fl (p:List Int):Bool:=dec (1<=p.length/\p.length<=20/\DL p.length p p.length)
noncomputable def Dc (n:Int) (p:List Int):Bool:=dec ((p.length:Int)=n/\Fl p=true)
noncomputable def Mr (n:Int) (g:List (List Int)):Bool:=dec ((1<=n/\n<=20)/\g.length<=8/\ ∀p∈g,Dc n p=true)
def Dy {α:Type} (P:α->Bool):List α->Int->Int
 | [],_=> -1
 |y::r,i=>if P y=true then i else Dy P r (i+1)
abbrev tG1:Ty:= .clo 136 (.pair (.ptr tI) .unit)
def vC (s:ByteArray) (i:Nat):Prop:= ∃c:UInt8,s[i]?=some c/\65<=c.toNat/\c.toNat<=90/\ ∀k,k<i->s[k]?≠some c
noncomputable def kl (s:ByteArray) (i:Int):Bool:=dec (vC s i.toNat)
noncomputable def aP (s:ByteArray):Bool:=dec ((1<=s.size/\s.size<=8)/\ ∀j,j<s.size->vC s j)
noncomputable def Bx (p:PP):Bool:=dec (Mr p.1 p.2.2.1=true/\aP p.2.1=true/\p.2.1.size=p.2.2.1.length)
def Ck (p:PP):Prop:=p.2.1.size<=4294967296/\Ff p.2.2.1
noncomputable abbrev Nx:Spec:=Cg (.pair tL .unit) tI false true (λ_=>True) (λx=>(List.length x.1:Int))
noncomputable abbrev Ea:Spec:=Cg (.pair tL .unit) .bool false true (λx=>short x.1) (λx=>Fl x.1)
noncomputable abbrev Ig:Spec:=Cg (.pair tI (.pair cZ .unit)) .bool false true (λx=>Ff x.2.1) (λx=>Mr x.1 x.2.1)
noncomputable abbrev fM:Spec:=Cg (.pair tL (.pair (.ptr tI) .unit)) .bool false true (λx=>short x.1) (λx=>!Dc x.2.1 x.1)
noncomputable abbrev uX:Spec:=Cg (.pair cZ (.pair tG1 .unit)) tI false true (λx=>Ff x.1) (λx=>Dy (λp=>!Dc x.2.1.1 p) x.1 0)
noncomputable abbrev uV:Spec:=Cg (.pair cZ (.pair tG1 .unit)) .bool false true (λx=>Ff x.1) (λx=>List.any x.1 (λp=>!Dc x.2.1.1 p))
noncomputable abbrev aY:Spec:=Cg (.pair .str (.pair tI .unit)) .bool false true (λx=>0<=x.2.1/\x.2.1<x.1.size/\x.1.size<=4294967296) (λx=>kl x.1 x.2.1)
noncomputable abbrev Wr:Spec:=Cg (.pair .str .unit) .bool false true (λx=>x.1.size<=4294967296) (λx=>aP x.1)
noncomputable abbrev Eb:Spec:=Cg (.pair Cp .unit) .bool false true (λx=>Ck x.1) (λx=>Bx x.1)
def qk (p:PP) (room:Int):Int:=if room-p.2.1.size<0 then-1 else if Nv p.2.2.1 (room-p.2.1.size)<0 then-1 else Nv p.2.2.1 (room-p.2.1.size)
def nm (a b:PP):Bool:=decide (a.1=b.1)&&(decide (a.2.1=b.2.1)&&decide (a.2.2.1=b.2.2.1))
noncomputable abbrev uY:Spec:=Cg (.pair Cp (.pair tI .unit)) tI false true (λx=>Ck x.1/\roomy x.2.1) (λx=>qk x.1 x.2.1)
noncomputable abbrev nG:Spec:=Cg (.pair Cp .unit) Cp false true (λx=>Ck x.1) (λx=>x.1)
noncomputable abbrev uW:Spec:=Cg (.pair Cp (.pair Cp .unit)) .bool false true (λx=>Ck x.1) (λx=>nm x.1 x.2.1)
noncomputable abbrev Pn:Spec:=Cg (.pair Gz (.pair tL .unit)) tI false true (λx=>Le x.1/\short x.2.1) (λx=>Dy (λp=>decide (p=x.2.1)) x.1.2.1 0)
theorem Aeu (xs:List Int) (P:Int->Prop):(P (↑xs.length:Int))=fnW Cd (look []) Nx Tryz.f119 (xs,()) P:=by kernel_rfl
theorem xX (p:List Int) (P:Bool->Prop):(∃(y2:Bool),Bm.fn ((↑p.length:Int),(1:Int),(20:Int),())=some y2/\Br (!y2) (P false) (Bk (λ(v3:Int×PUnit) (k4:Int×PUnit->Prop)=>Br (decide (v3.1<(↑p.length:Int))) (∃(y5:Int),idx p v3.1=some y5/\ ∃(y6:Bool),Bm.fn (y5,(0:Int),IntKind.i64.wrap ((↑p.length:Int)-(1:Int)),())=some y6/\Br (!y6) (P false) (((0:Int)<=(0:Int)/\(0:Int)<=v3.1/\v3.1<=(↑p.length:Int))/\ ∃(y7:Int),idx p v3.1=some y7/\ ∃(y8:Bool),Lp.fn (List.drop (Int.toNat (0:Int)) (List.take v3.1.toNat p),y7,())=some y8/\Br y8 (P false) (k4 (IntKind.i64.wrap (v3.1+(1:Int)),())))) (P true)) ((0:Int),PUnit.unit)))=fnW Cd (look [(88,Bm),(100,Lp)]) Ea Tryz.f75 (p,()) P:=by kernel_rfl
theorem xS (p:List Int) (P:Bool->Prop):(∃(y2:Int),Nx.fn (p,())=some y2/\ ∃(y3:Bool),Bm.fn (y2,(1:Int),(20:Int),())=some y3/\Br (!y3) (P false) (Bk (λ(v4:Int×Int×PUnit) (k5:Int×Int×PUnit->Prop)=>Br (decide (v4.2.1<(↑p.length:Int))) (∃(y6:Int),idx p v4.2.1=some y6/\ ∃(y7:Int),Nx.fn (p,())=some y7/\ ∃(y8:Bool),Bm.fn (y6,(0:Int),IntKind.i64.wrap (y7-(1:Int)),())=some y8/\Br (!y8) (P false) (¬y6<(0:Int)/\k5 (IntKind.i64.wrap (↑(BitVec.ofInt IntKind.i64.bits v4.1|||BitVec.ofInt IntKind.i64.bits (IntKind.i64.wrap ((1:Int)*(2:Int)^min y6.toNat IntKind.i64.bits))).toNat:Int),IntKind.i64.wrap (v4.2.1+(1:Int)),()))) (¬(↑p.length:Int)<(0:Int)/\P (v4.1==IntKind.i64.wrap (IntKind.i64.wrap ((1:Int)*(2:Int)^min (↑p.length:Int).toNat IntKind.i64.bits)-(1:Int))))) ((0:Int),(0:Int),PUnit.unit)))=fnW Cd (look [(90,Bm),(119,Nx)]) Ea Tryz.f134 (p,()) P:=by kernel_rfl
theorem xW (n:Int) (g:List (List Int)) (P:Bool->Prop):(∃(y3:Bool),Bm.fn (n,(1:Int),(20:Int),())=some y3/\Br (!y3) (P false) (Br (decide ((↑g.length:Int)>(8:Int))) (P false) (Bk (λ(v4:Int×PUnit) (k5:Int×PUnit->Prop)=>Br (decide (v4.1<(↑g.length:Int))) (∃(y6:List Int),idx g v4.1=some y6/\Br ((↑y6.length:Int) !=n) (P false) (∃(y7:List Int),idx g v4.1=some y7/\ ∃(y8:Bool),Ea.fn (y7,())=some y8/\Br (!y8) (P false) (k5 (IntKind.i64.wrap (v4.1+(1:Int)),())))) (P true)) ((0:Int),PUnit.unit))))=fnW Cd (look [(88,Bm),(75,Ea)]) Ig Tryz.f123 (n,g,()) P:=by kernel_rfl
theorem ZL (p:List Int) (n:Int) (P:Bool->Prop):(∃(y3:Int),Nx.fn (p,())=some y3/\Br (y3 !=n) (P true) (∃(y4:Bool),Ea.fn (p,())=some y4/\P !y4))=fnW Cd (look [(119,Nx),(134,Ea)]) fM Tryz.f136 (p,n,()) P:=by kernel_rfl
theorem Aj5 (g:List (List Int)) (n:Int×Unit) (P:Int->Prop):(Bk (λ(v3:Int×PUnit) (k4:Int×PUnit->Prop)=>Br (decide (v3.1<(↑g.length:Int))) (∃(y5:List Int),idx g v3.1=some y5/\ ∃(y6:Bool),fM.fn (y5,n.1,())=some y6/\Br y6 (P v3.1) (k4 (IntKind.i64.wrap (v3.1+(1:Int)),()))) (P (-1:Int))) ((0:Int),PUnit.unit))=fnW Cd (look [(136,fM)]) uX Tryz.f150 (g,n,()) P:=by kernel_rfl
theorem Aj1 (g:List (List Int)) (n:Int×Unit) (P:Bool->Prop):(∃(y3:Int),uX.fn (g,n,())=some y3/\P (decide (y3>=(0:Int))))=fnW Cd (look [(150,uX)]) uV Tryz.f135 (g,n,()) P:=by kernel_rfl
theorem xR (n:Int) (g:List (List Int)) (P:Bool->Prop):(∃(y3:Bool),Bm.fn (n,(1:Int),(20:Int),())=some y3/\Br y3 (Br (decide ((↑g.length:Int)<=(8:Int))) (∃(y4:Bool),uV.fn (g,(n,()),())=some y4/\P !y4) (P false)) (P false))=fnW Cd (look [(90,Bm),(135,uV)]) Ig Tryz.f110 (n,g,()) P:=by kernel_rfl
theorem WA (s:ByteArray) (i:Int) (P:Bool->Prop):((0:Int)<=i/\ ∃(y3:UInt8),s[i.toNat]?=some y3/\Br (decide ((↑y3.toNat:Int)<(65:Int))) (P false) ((0:Int)<=i/\ ∃(y4:UInt8),s[i.toNat]?=some y4/\Br (decide ((↑y4.toNat:Int)>(90:Int))) (P false) (Bk (λ(v5:Int×PUnit) (k6:Int×PUnit->Prop)=>Br (decide (v5.1<i)) ((0:Int)<=v5.1/\ ∃(y7:UInt8),s[v5.1.toNat]?=some y7/\(0:Int)<=i/\ ∃(y8:UInt8),s[i.toNat]?=some y8/\Br ((↑y7.toNat:Int)==(↑y8.toNat:Int)) (P false) (k6 (IntKind.i64.wrap (v5.1+(1:Int)),()))) (P true)) ((0:Int),PUnit.unit))))=fnW Cd (look []) aY Tryz.f124 (s,i,()) P:=by kernel_rfl
theorem OZ (s:ByteArray) (P:Bool->Prop):(Bk (λ(v2:Int×PUnit) (k3:Int×PUnit->Prop)=>Br (decide (v2.1<(↑s.size:Int))) ((0:Int)<=v2.1/\ ∃(y4:UInt8),s[v2.1.toNat]?=some y4/\ ∃(y5:Bool),Bm.fn (IntKind.i64.wrap (↑y4.toNat:Int),(65:Int),(90:Int),())=some y5/\Br (!y5) (P false) (Bk (λ(v6:Int×PUnit) (k7:Int×PUnit->Prop)=>Br (decide (v6.1<v2.1)) ((0:Int)<=v6.1/\ ∃(y8:UInt8),s[v6.1.toNat]?=some y8/\(0:Int)<=v2.1/\ ∃(y9:UInt8),s[v2.1.toNat]?=some y9/\Br ((↑y8.toNat:Int)==(↑y9.toNat:Int)) (P false) (k7 (IntKind.i64.wrap (v6.1+(1:Int)),()))) (k3 (IntKind.i64.wrap (v2.1+(1:Int)),()))) ((0:Int),PUnit.unit))) (∃(y4:Bool),Bm.fn ((↑s.size:Int),(1:Int),(8:Int),())=some y4/\P y4)) ((0:Int),PUnit.unit))=fnW Cd (look [(90,Bm)]) Wr Tryz.f111 (s,()) P:=by kernel_rfl
abbrev hZ:Type:=Int×Int×ByteArray×List (List Int)×PUnit
theorem xZ (p:Int×ByteArray×List (List Int)×Unit) (P:Bool->Prop):(Br ((↑p.2.2.1.length:Int)==(0:Int)) (P false) (Br ((↑p.2.1.size:Int) !=(↑p.2.2.1.length:Int)) (P false) (∃(y2:Bool),Ig.fn (p.1,p.2.2.1,())=some y2/\Br (!y2) (P false) (Bk (λ(v3:hZ) (k4:hZ->Prop)=>Br (decide (v3.1<(↑v3.2.2.1.size:Int))) (∃(y5:Bool),aY.fn (v3.2.2.1,v3.1,())=some y5/\Br (!y5) (P false) (k4 (IntKind.i64.wrap (v3.1+(1:Int)),v3.2.1,v3.2.2.1,v3.2.2.2.1,()))) (P true)) ((0:Int),p.1,p.2.1,p.2.2.1,PUnit.unit)))))=fnW Cd (look [(123,Ig),(124,aY)]) Eb Tryz.f93 (p,()) P:=by kernel_rfl
theorem xU (p:Int×ByteArray×List (List Int)×Unit) (P:Bool->Prop):(∃(y2:Bool),Ig.fn (p.1,p.2.2.1,())=some y2/\Br y2 (∃(y3:Bool),Wr.fn (p.2.1,())=some y3/\Br y3 (P ((↑p.2.1.size:Int)==(↑p.2.2.1.length:Int))) (P false)) (P false))=fnW Cd (look [(110,Ig),(111,Wr)]) Eb Tryz.f84 (p,()) P:=by kernel_rfl
theorem Aj8 (p:Int×ByteArray×List (List Int)×Unit) (room:Int) (P:Int->Prop):(Br (decide (IntKind.i64.wrap (room-(↑p.2.1.size:Int))<(0:Int))) (P (-1:Int)) (∃(y3:Int),c8.fn (p.2.2.1,IntKind.i64.wrap (room-(↑p.2.1.size:Int)),())=some y3/\Br (decide (y3<(0:Int))) (P (-1:Int)) (P y3)))=fnW Cd (look [(45,c8)]) uY Tryz.f13 (p,room,()) P:=by kernel_rfl
theorem Aja (p:Int×ByteArray×List (List Int)×Unit) (P:(Int×ByteArray×List (List Int)×Unit)->Prop):(∃(y2:List (List Int)),c9.fn (p.2.2.1,())=some y2/\P (p.1,p.2.1,y2,()))=fnW Cd (look [(49,c9)]) nG Tryz.f16 (p,()) P:=by kernel_rfl
theorem Aj3 (a b:Int×ByteArray×List (List Int)×Unit) (P:Bool->Prop):(Br (a.1 !=b.1) (P false) (Br (!a.2.1.toList==b.2.1.toList) (P false) (∃(y3:Bool),Pl.fn (a.2.2.1,b.2.2.1,())=some y3/\Br (!y3) (P false) (P true))))=fnW Cd (look [(53,Pl)]) uW Tryz.f20 (a,b,()) P:=by kernel_rfl
abbrev nM:Type:=Int×List Int×List (List Int)×List Int×PUnit
theorem IL (t:List Int×List (List Int)×List Int×Unit) (xs:List Int) (P:Int->Prop):(Bk (λ(v3:nM) (k4:nM->Prop)=>Br (decide (v3.1<(↑v3.2.2.1.length:Int))) (∃(y5:List Int),idx v3.2.2.1 v3.1=some y5/\ ∃(y6:Bool),Ap.fn (y5,xs,())=some y6/\Br y6 (P v3.1) (k4 (IntKind.i64.wrap (v3.1+(1:Int)),v3.2.1,v3.2.2.1,v3.2.2.2.1,()))) (P (-1:Int))) ((0:Int),t.1,t.2.1,t.2.2.1,PUnit.unit))=fnW Cd (look [(101,Ap)]) Pn Tryz.f77 (t,xs,()) P:=by kernel_rfl
theorem Ae1 (xs:List Int) (_:True):fnW Cd (look []) Nx Tryz.f119 (xs,()) (λ(z:Int)=>z=(xs.length:Int)):=Eq.mp (Aeu xs _) rfl
theorem ca:Sound Tryz.prog 119 Nx:=
 Sound.Cg Bi Aj mixed Tryz.func119 (by kernel_rfl) (by kernel_rfl) λx h=>Ae1 x.1 h
theorem xE {α:Type} [DecidableEq α]: ∀(l m:List α),l.Nodup->(∀x∈l,x∈m)->l.length<=m.length
 | [],m,_,_=>Nat.zero_le _
 |a::l,m,hn,hs=>by
  have ha:a∈m:=hs a (List.mem_cons_self ..)
  have hn:=List.nodup_cons.1 hn
  have:=xE l (m.erase a) hn.2 λx hx=>(List.mem_erase_of_ne (λ(e:x=a)=>hn.1 (by rw [<-e];exact hx))).2 (hs x (List.mem_cons_of_mem _ hx))
  rw [List.length_erase_of_mem ha] at this
  have:0<m.length:=List.length_pos_of_mem ha
  simp only [List.length_cons]
  omega
def upto (n:Nat):List Int:=(List.range n).map Int.ofNat
theorem HV (n:Nat):(upto n).Nodup:=by
 unfold upto
 exact List.Pairwise.map _ (λa b iL e=>iL (Int.ofNat.inj e)) List.nodup_range
theorem Un {n:Nat} {x:Int} :x∈upto n↔0<=x/\x<n:=by
 unfold upto
 simp only [List.mem_map,List.mem_range]
 constructor
 ·rintro ⟨a,ha,rfl⟩;exact ⟨Int.natCast_nonneg _,Int.ofNat_lt.2 ha⟩
 ·rintro ⟨h1,h2⟩;exact ⟨x.toNat,by omega,by simp only [Int.ofNat_eq_natCast];omega⟩
theorem eT (n:Nat):(upto n).length=n:=by simp [upto]
theorem dZ {xs:List Int} (h: ∀j (hj:j<xs.length),xs[j]∉xs.take j):xs.Nodup:=by
 refine List.pairwise_iff_getElem.2 λi j hi hj dN e=>h j hj ?_
 rw [<-e]
 exact List.mem_take_iff_getElem.2 ⟨i,by omega,rfl⟩
theorem rP {xs:List Int} (h:xs.Nodup): ∀j (hj:j<xs.length),xs[j]∉xs.take j:=by
 intro j hj hm
 obtain ⟨i,hi,e⟩:=List.mem_take_iff_getElem.1 hm
 exact List.pairwise_iff_getElem.1 h i j (by omega) hj (by omega) e
theorem Zw {xs:List Int} (h: ∀x∈xs,0<=x/\x<xs.length):(∀k:Nat,k<xs.length->(k:Int)∈xs)↔ ∀j (hj:j<xs.length),xs[j]∉xs.take j:=by
 constructor
 ·intro ha j hj hm
  have h1:=xE (upto xs.length) (xs.take j++xs.drop (j+1)) (HV _) λx hx=>by
   obtain ⟨h1,h2⟩:=Un.1 hx
   have hx:=ha x.toNat (by omega)
   rw [show ((x.toNat:Nat):Int)=x by omega] at hx
   rw [<-List.take_append_drop j xs,List.mem_append,List.drop_eq_getElem_cons hj,List.mem_cons] at hx
   rcases hx with hx|rfl|hx
   ·exact List.mem_append_left _ hx
   ·exact List.mem_append_left _ hm
   ·exact List.mem_append_right _ hx
  rw [eT,List.length_append,List.length_take,List.length_drop] at h1
  omega
 ·intro hn k hk
  refine Classical.byContradiction λhc=>?_
  have h1:=xE xs ((upto xs.length).erase (k:Int)) (dZ hn) λx hx=>by
   refine (List.mem_erase_of_ne λ(e:x=(k:Int))=>hc (by rw [<-e];exact hx)).2 (Un.2 (h x hx))
  rw [List.length_erase_of_mem (Un.2 ⟨by omega,by omega⟩),eT] at h1
  omega
def mask (xs:List Int):Nat:=xs.foldl (λm x=>m|||2^x.toNat) 0
theorem MT (xs:List Int) (x:Int):mask (xs++ [x])=mask xs|||2^x.toNat:=by simp [mask]
theorem wL (xs:List Int) (k:Nat): ∀a:Nat,(xs.foldl (λm x=>m|||2^x.toNat) a).testBit k=(a.testBit k||xs.any λx=>decide (x.toNat=k)):=by
 induction xs with
 |nil=>simp
 |cons x xs ih=>
  intro a
  rw [List.foldl_cons,ih,Nat.testBit_or,Nat.testBit_two_pow,List.any_cons,Bool.or_assoc]
theorem qn (xs:List Int) (k:Nat):(mask xs).testBit k=xs.any λx=>decide (x.toNat=k):=by
 unfold mask
 rw [wL,Nat.zero_testBit,Bool.false_or]
theorem YK {xs:List Int} {n:Nat} (h: ∀x∈xs,x.toNat<n):mask xs<2^n:=by
 refine Nat.lt_pow_two_of_testBit _ λk hk=>?_
 rw [qn]
 refine Bool.eq_false_iff.2 λht=>?_
 obtain ⟨x,hx,he⟩:=List.any_eq_true.1 ht
 have:=h x hx
 have:=of_decide_eq_true he
 omega
theorem uF {xs:List Int} (h: ∀x∈xs,0<=x/\x<xs.length):mask xs=2^xs.length-1↔ ∀k:Nat,k<xs.length->(k:Int)∈xs:=by
 constructor
 ·intro e k hk
  have h1:=qn xs k
  rw [e,Nat.testBit_two_pow_sub_one,decide_eq_true hk] at h1
  obtain ⟨x,hx,he⟩:=List.any_eq_true.1 h1.symm
  have:=(h x hx).1
  have:=of_decide_eq_true he
  have e:x=(k:Int):=by omega
  exact e▸hx
 ·intro ha
  refine Nat.eq_of_testBit_eq λk=>?_
  rw [qn,Nat.testBit_two_pow_sub_one]
  by_cases hk:k<xs.length
  ·rw [decide_eq_true hk]
   exact List.any_eq_true.2 ⟨k,ha k hk,by simp⟩
  ·rw [decide_eq_false hk]
   refine Bool.eq_false_iff.2 λht=>?_
   obtain ⟨x,hx,he⟩:=List.any_eq_true.1 ht
   have:=h x hx
   have:=of_decide_eq_true he
   omega
theorem YP {m:Nat} {x:Int} (hm:m<2^20) (h0:0<=x) (h1:x<20):
  IntKind.i64.wrap (((BitVec.ofInt IntKind.i64.bits (m:Int)|||BitVec.ofInt IntKind.i64.bits (IntKind.i64.wrap ((1:Int)*(2:Int)^min x.toNat IntKind.i64.bits))).toNat:Nat):Int)=((m|||2^x.toNat:Nat):Int):=by
 have hx:(2:Nat)^x.toNat<2^20:=Nat.pow_lt_pow_right (by omega) (by omega)
 have e1:min x.toNat IntKind.i64.bits=x.toNat:=by show min x.toNat 64=_;omega
 have e2:(1:Int)*(2:Int)^x.toNat=((2^x.toNat:Nat):Int):=by rw [Int.one_mul];exact (Int.natCast_pow 2 _).symm
 rw [e1,e2,Bn (n:=((2^x.toNat:Nat):Int)) (by have:(0:Int)<=((2^x.toNat:Nat):Int):=Int.natCast_nonneg _;omega) (by omega)]
 show IntKind.i64.wrap (((BitVec.ofInt 64 (m:Int)|||BitVec.ofInt 64 ((2^x.toNat:Nat):Int)).toNat:Nat):Int)=_
 rw [BitVec.ofInt_natCast,BitVec.ofInt_natCast,BitVec.toNat_or,BitVec.toNat_ofNat,BitVec.toNat_ofNat,Nat.mod_eq_of_lt (by omega),Nat.mod_eq_of_lt (by omega)]
 have:=Nat.or_lt_two_pow hm hx
 exact Bn (by omega) (by omega)
theorem wV (p:List Int) (h:short p):fnW Cd (look [(88,Bm),(100,Lp)]) Ea Tryz.f75 (p,()) (λ(z:Bool)=>z=Fl p):=by
 have hs:=h
 unfold short at h
 refine Eq.mp (xX p _) ⟨_,if_pos trivial,⟨λhp=>?_,λhp=>?_⟩⟩
 ·have hp:=Ed hp
  rw [Cs] at hp
  dsimp only at hp
  exact Bl λhh=>hp ⟨by omega,by omega⟩
 ·have hp:=Dk hp
  rw [Cs] at hp
  dsimp only at hp
  refine Ag p.length (λv=>v.1) (λj _=>DL p.length p j) rfl (λj _ hj=>absurd hj (Nat.not_lt_zero _)) ?_
  rintro j ⟨i,⟨⟩⟩ K hj hi hR hK
  dsimp only at hi⊢
  subst hi
  refine Br.dec (λhl=>?_) λhl=>?_
  ·have hl:j<p.length:=by omega
   refine ⟨_,Aq hl,_,if_pos trivial,⟨λhq=>?_,λhq=>?_⟩⟩
   ·have hq:=Ed hq
    rw [Cs,Bn (by omega) (by omega)] at hq
    exact Bl λhh=>hq ⟨(hh.2.2 j hl hl).1,(hh.2.2 j hl hl).2.1⟩
   ·have hq:=Dk hq
    rw [Cs,Bn (by omega) (by omega)] at hq
    refine ⟨⟨by omega,by omega,by omega⟩,_,Aq hl,?_⟩
    rw [show (Int.toNat 0)=0 from rfl,List.drop_zero,Int.toNat_natCast]
    refine ⟨_,if_pos (GW hs j),⟨λhc=>?_,λhc=>?_⟩⟩
    ·have hc:decide (p[j]∈p.take j)=true:=hc
     rw [decide_eq_true_iff] at hc
     exact Bl λhh=>(hh.2.2 j hl hl).2.2 hc
    ·have hc:decide (p[j]∈p.take j)=false:=hc
     rw [decide_eq_false_iff_not] at hc
     rw [Ah (by omega)]
     exact hK hl _ rfl (XG hl hR hq.1 hq.2 hc)
  ·have:j=p.length:=by omega
   subst this
   exact Ka ⟨by omega,by omega,hR⟩
theorem Nn:Sound Tryz.prog 75 Ea:=
 Sound.Cg Bi (Ae Ua (Ae kO Aj)) mixed Tryz.func75 (by kernel_rfl) (by kernel_rfl) λx h=>wV x.1 h
theorem wQ (p:List Int) (h:short p):fnW Cd (look [(90,Bm),(119,Nx)]) Ea Tryz.f134 (p,()) (λ(z:Bool)=>z=Fl p):=by
 unfold short at h
 refine Eq.mp (xS p _) ⟨_,if_pos trivial,_,if_pos trivial,⟨λhp=>?_,λhp=>?_⟩⟩
 ·have hp:=Ed hp
  rw [Cs] at hp
  dsimp only at hp
  exact Bl λhh=>hp ⟨by omega,by omega⟩
 ·have hp:=Dk hp
  rw [Cs] at hp
  dsimp only at hp
  refine Ag p.length (λv=>v.2.1) (λj v=>v.1=(mask (p.take j):Int)/\ ∀x∈p.take j,0<=x/\x<p.length) rfl ⟨rfl,by simp⟩ ?_
  rintro j ⟨m,i,⟨⟩⟩ K hj hi ⟨hm,hR⟩ hK
  dsimp only at hi hm⊢
  subst hi hm
  refine Br.dec (λhl=>?_) λhl=>?_
  ·have hl:j<p.length:=by omega
   refine ⟨_,Aq hl,_,if_pos trivial,_,if_pos trivial,⟨λhq=>?_,λhq=>?_⟩⟩
   ·have hq:=Ed hq
    rw [Cs] at hq
    dsimp only at hq
    rw [Bn (by omega) (by omega)] at hq
    exact Bl λhh=>hq ⟨(hh.2.2 j hl hl).1,(hh.2.2 j hl hl).2.1⟩
   ·have hq:=Dk hq
    rw [Cs] at hq
    dsimp only at hq
    rw [Bn (by omega) (by omega)] at hq
    refine ⟨by omega,?_⟩
    rw [Ah (by omega)]
    have hb:mask (p.take j)<2^20:=YK λx hx=>by have:=hR x hx;omega
    refine hK hl _ rfl ⟨?_,?_⟩
    ·dsimp only
     rw [YP hb hq.1 (by omega),List.take_succ_eq_append_getElem hl,MT]
    ·rw [List.take_succ_eq_append_getElem hl]
     intro x hx
     rcases List.mem_append.1 hx with hx|hx
     ·exact hR x hx
     ·rw [List.mem_singleton.1 hx];omega
  ·have:j=p.length:=by omega
   subst this
   rw [List.take_length] at hR⊢
   refine ⟨by omega,?_⟩
   have hx:(2:Nat)^p.length<=2^20:=Nat.pow_le_pow_right (by omega) (by omega)
   have ME:0<(2:Nat)^p.length:=Nat.two_pow_pos _
   have e1:min (p.length:Int).toNat IntKind.i64.bits=p.length:=by show min (p.length:Int).toNat 64=_;omega
   have e2:(1:Int)*(2:Int)^p.length=((2^p.length:Nat):Int):=by rw [Int.one_mul];exact (Int.natCast_pow 2 _).symm
   rw [e1,e2,Bn (n:=((2^p.length:Nat):Int)) (by omega) (by omega),Bn (by omega) (by omega)]
   have hE:((mask p:Int)==((2^p.length:Nat):Int)-1)=decide (mask p=2^p.length-1):=by
    rw [Bool.eq_iff_iff,beq_iff_eq,decide_eq_true_iff]
    omega
   show ((mask p:Int)==((2^p.length:Nat):Int)-1)=Fl p
   rw [hE]
   by_cases hf:mask p=2^p.length-1
   ·rw [decide_eq_true hf]
    have hn:=(Zw hR).1 ((uF hR).1 hf)
    refine Ka ⟨by omega,by omega,λj hj _=>?_⟩
    have:=hR _ (List.getElem_mem hj)
    exact ⟨this.1,by omega,hn j hj⟩
   ·rw [decide_eq_false hf]
    refine Bl λhh=>hf ((uF hR).2 ((Zw hR).2 λj hj=>(hh.2.2 j hj hj).2.2))
theorem bd:Sound Tryz.prog 134 Ea:=
 Sound.Cg Bi (Ae Rj (Ae ca Aj)) mixed Tryz.func134 (by kernel_rfl) (by kernel_rfl) λx h=>wQ x.1 h
theorem wU (n:Int) (g:List (List Int)) (h:Ff g):fnW Cd (look [(88,Bm),(75,Ea)]) Ig Tryz.f123 (n,g,()) (λ(z:Bool)=>z=Mr n g):=by
 obtain ⟨h,h4⟩:=h
 refine Eq.mp (xW n g _) ⟨_,if_pos trivial,⟨λhp=>?_,λhp=>?_⟩⟩
 ·have hp:=Ed hp
  rw [Cs] at hp
  exact Bl λhh=>hp hh.1
 ·have hp:=Dk hp
  rw [Cs] at hp
  refine Br.dec (λhg=>?_) λhg=>?_
  ·exact Bl λhh=>by have:=hh.2.1;omega
  ·refine Ag g.length (λv=>v.1) (λj _=> ∀p∈g.take j,Dc n p=true) rfl (by simp) ?_
   rintro j ⟨i,⟨⟩⟩ K hj hi hR hK
   dsimp only at hi⊢
   subst hi
   refine Br.dec (λhl=>?_) λhl=>?_
   ·have hl:j<g.length:=by omega
    have hm:g[j]∈g:=List.getElem_mem hl
    refine ⟨_,Aq hl,⟨λhe=>?_,λhe=>?_⟩⟩
    ·simp only [bne_iff_ne,ne_eq] at he
     exact Bl λhh=>he (Dw.1 (hh.2.2 _ hm)).1
    ·simp only [bne_eq_false_iff_eq] at he
     refine ⟨_,Aq hl,_,if_pos (h4 _ hm),⟨λhq=>?_,λhq=>?_⟩⟩
     ·have hq:=Ed hq
      exact Bl λhh=>hq (Dw.1 (hh.2.2 _ hm)).2
     ·have hq:=Dk hq
      rw [Ah (by omega)]
      refine hK hl _ rfl ?_
      rw [List.take_succ_eq_append_getElem hl]
      intro x hx
      rcases List.mem_append.1 hx with hx|hx
      ·exact hR x hx
      ·rw [List.mem_singleton.1 hx];exact Dw.2 ⟨he,hq⟩
   ·have:j=g.length:=by omega
    subst this
    rw [List.take_length] at hR
    exact Ka ⟨hp,by omega,hR⟩
theorem bf:Sound Tryz.prog 123 Ig:=
 Sound.Cg Bi (Ae Ua (Ae Nn Aj)) mixed Tryz.func123 (by kernel_rfl) (by kernel_rfl) λx h=>wU x.1 x.2.1 h
theorem YR (p:List Int) (n:Int) (h:short p):fnW Cd (look [(119,Nx),(134,Ea)]) fM Tryz.f136 (p,n,()) (λ(z:Bool)=>z=!Dc n p):=by
 refine Eq.mp (ZL p n _) ⟨_,if_pos trivial,⟨λhe=>?_,λhe=>⟨_,if_pos h,?_⟩⟩⟩
 ·simp only [bne_iff_ne,ne_eq] at he
  have:Dc n p=false:=XF.2 λhh=>he hh.1
  rw [this];rfl
 ·simp only [bne_eq_false_iff_eq] at he
  show (!Fl p)=_
  congr 1
  cases hp:Fl p with
  |true=>exact Ka ⟨he,hp⟩
  |false=>exact Bl λhh=>by rw [hh.2] at hp;cases hp
theorem AZ:Sound Tryz.prog 136 fM:=
 Sound.Cg Bi (Ae ca (Ae bd Aj)) mixed Tryz.func136 (by kernel_rfl) (by kernel_rfl) λx h=>YR x.1 x.2.1 h
theorem np {α:Type} (P:α->Bool): ∀(l:List α) (i:Int),0<=i->(0<=Dy P l i↔l.any P=true)
 | [],i,_=>by simp [Dy]
 |y::r,i,h=>by
  simp only [Dy,List.any_cons,Bool.or_eq_true]
  split
  ·rename_i hy;simp [hy,h]
  ·rename_i hy;rw [np P r (i+1) (by omega)];simp [hy]
theorem Aih (g:List (List Int)) (n:Int×Unit) (h:Ff g):fnW Cd (look [(136,fM)]) uX Tryz.f150 (g,n,()) (λ(z:Int)=>z=Dy (λp=>!Dc n.1 p) g 0):=by
 obtain ⟨h,h4⟩:=h
 refine Eq.mp (Aj5 g n _) ?_
 refine Ag g.length (λv=>v.1) (λj _=>Dy (λp=>!Dc n.1 p) (g.drop j) j=Dy (λp=>!Dc n.1 p) g 0) rfl (by simp) ?_
 rintro j ⟨i,⟨⟩⟩ K hj hi hR hK
 dsimp only at hi⊢
 subst hi
 refine Br.dec (λhl=>?_) λhl=>?_
 ·have hl:j<g.length:=by omega
  rw [List.drop_eq_getElem_cons hl] at hR
  simp only [Dy] at hR
  refine ⟨_,Aq hl,_,if_pos (h4 _ (List.getElem_mem hl)),⟨λhe=>?_,λhe=>?_⟩⟩
  ·have he:(!Dc n.1 g[j])=true:=he
   rw [if_pos he] at hR
   exact hR
  ·have he:(!Dc n.1 g[j])=false:=he
   rw [if_neg (by rw [he];decide)] at hR
   rw [Ah (by omega)]
   exact hK hl _ rfl (by push_cast;exact hR)
 ·have:j=g.length:=by omega
  subst this
  rw [List.drop_length] at hR
  exact hR
theorem OG:Sound Tryz.prog 150 uX:=
 Sound.Cg Bi (Ae AZ Aj) mixed Tryz.func150 (by kernel_rfl) (by kernel_rfl) λx h=>Aih x.1 x.2.1 h
theorem Aid (g:List (List Int)) (n:Int×Unit) (h:Ff g):fnW Cd (look [(150,uX)]) uV Tryz.f135 (g,n,()) (λ(z:Bool)=>z=List.any g (λp=>!Dc n.1 p)):=by
 refine Eq.mp (Aj1 g n _) ⟨_,if_pos h,?_⟩
 rw [Bool.eq_iff_iff,decide_eq_true_iff]
 exact np _ g 0 (Int.le_refl 0)
theorem OE:Sound Tryz.prog 135 uV:=
 Sound.Cg Bi (Ae OG Aj) mixed Tryz.func135 (by kernel_rfl) (by kernel_rfl) λx h=>Aid x.1 x.2.1 h
theorem wP (n:Int) (g:List (List Int)) (h:Ff g):fnW Cd (look [(90,Bm),(135,uV)]) Ig Tryz.f110 (n,g,()) (λ(z:Bool)=>z=Mr n g):=by
 refine Eq.mp (xR n g _) ⟨_,if_pos trivial,⟨λhp=>?_,λhp=>?_⟩⟩
 ·have hp:Ke n 1 20=true:=hp
  rw [Cs] at hp
  refine Br.dec (λhl=>⟨_,if_pos h,?_⟩) λhl=>?_
  ·show (!List.any g (λp=>!Dc n p))=Mr n g
   cases ha:List.any g (λp=>!Dc n p) with
   |true=>
    obtain ⟨p,uk,JV⟩:=List.any_eq_true.1 ha
    exact Bl λhh=>by rw [hh.2.2 p uk] at JV;cases JV
   |false=>
    refine Ka ⟨hp,by omega,λp hm=>?_⟩
    have:=List.any_eq_false.1 ha p hm
    simpa using this
  ·exact Bl λhh=>by have:=hh.2.1;omega
 ·refine Bl λhh=>?_
  have:Ke n 1 20=true:=Cs.2 hh.1
  have hp:Ke n 1 20=false:=hp
  rw [this] at hp;cases hp
theorem mA:Sound Tryz.prog 110 Ig:=
 Sound.Cg Bi (Ae Rj (Ae OE Aj)) mixed Tryz.func110 (by kernel_rfl) (by kernel_rfl) λx h=>wP x.1 x.2.1 h
theorem Ii {s:ByteArray} {k:Nat} (h:k<s.size):s[k]?=some s[k]:=getElem?_pos s k h
theorem UA (s:ByteArray) (i:Int) (h:0<=i/\i<s.size/\s.size<=4294967296):fnW Cd (look []) aY Tryz.f124 (s,i,()) (λ(z:Bool)=>z=kl s i):=by
 obtain ⟨h1,h2,h3⟩:=h
 have hi:i.toNat<s.size:=by omega
 refine Eq.mp (WA s i _) ⟨h1,_,Ii hi,Br.dec (λhq=>?_) λhq=>⟨h1,_,Ii hi,Br.dec (λhr=>?_) λhr=>?_⟩⟩
 ·refine Bl λ⟨c,hc,XQ,_⟩=>?_
  rw [Ii hi] at hc;cases hc;omega
 ·refine Bl λ⟨c,hc,_,XQ,_⟩=>?_
  rw [Ii hi] at hc;cases hc;omega
 ·refine Ag i.toNat (λv=>v.1) (λj _=> ∀k,k<j->s[k]?≠some s[i.toNat]) rfl (λk hk=>absurd hk (Nat.not_lt_zero _)) ?_
  rintro j ⟨i',⟨⟩⟩ K hj jV hR hK
  dsimp only at jV⊢
  subst jV
  refine Br.dec (λhl=>?_) λhl=>?_
  ·have hl:j<i.toNat:=by omega
   have hj:j<s.size:=by omega
   rw [Int.toNat_natCast]
   refine ⟨by omega,_,Ii hj,h1,_,Ii hi,⟨λhe=>?_,λhe=>?_⟩⟩
   ·simp only [beq_iff_eq,Int.natCast_inj] at he
    refine Bl λ⟨c,hc,_,_,XQ⟩=>?_
    rw [Ii hi] at hc;cases hc
    exact XQ j hl (by rw [Ii hj,UInt8.toNat_inj.1 he])
   ·simp only [beq_eq_false_iff_ne,ne_eq,Int.natCast_inj] at he
    rw [Ah (by omega)]
    refine hK hl _ rfl λk hk=>?_
    by_cases e:k=j
    ·subst e
     rw [Ii hj]
     exact λe=>he (by rw [Option.some.inj e])
    ·exact hR k (by omega)
  ·have:j=i.toNat:=by omega
   subst this
   exact Ka ⟨_,Ii hi,by omega,by omega,hR⟩
theorem xr:Sound Tryz.prog 124 aY:=
 Sound.Cg Bi Aj mixed Tryz.func124 (by kernel_rfl) (by kernel_rfl) λx h=>UA x.1 x.2.1 h
theorem NB (s:ByteArray) (h:s.size<=4294967296):fnW Cd (look [(90,Bm)]) Wr Tryz.f111 (s,()) (λ(z:Bool)=>z=aP s):=by
 refine Eq.mp (OZ s _) ?_
 refine Ag s.size (λv=>v.1) (λj _=> ∀k,k<j->vC s k) rfl (λk hk=>absurd hk (Nat.not_lt_zero _)) ?_
 rintro j ⟨i,⟨⟩⟩ K hj hi hR hK
 dsimp only at hi⊢
 subst hi
 refine Br.dec (λhl=>?_) λhl=>?_
 ·have hl:j<s.size:=by omega
  rw [Int.toNat_natCast]
  have hb:=(s[j]).toNat_lt
  refine ⟨by omega,_,Ii hl,_,if_pos trivial,⟨λhq=>?_,λhq=>?_⟩⟩
  ·have hq:=Ed hq
   rw [Cs] at hq
   dsimp only at hq
   rw [Bn (by omega) (by omega)] at hq
   refine Bl λhh=>?_
   obtain ⟨c,hc,XQ,hc2,_⟩:=hh.2 j hl
   rw [Ii hl] at hc;cases hc
   exact hq ⟨by omega,by omega⟩
  ·have hq:=Dk hq
   rw [Cs] at hq
   dsimp only at hq
   rw [Bn (by omega) (by omega)] at hq
   refine Ag j (λv=>v.1) (λm _=> ∀k,k<m->s[k]?≠some s[j]) rfl (λk hk=>absurd hk (Nat.not_lt_zero _)) ?_
   rintro m ⟨i',⟨⟩⟩ K' hm jV hR' XL
   dsimp only at jV⊢
   subst jV
   refine Br.dec (λGt=>?_) λGt=>?_
   ·have Gt:m<j:=by omega
    have zf:m<s.size:=by omega
    rw [Int.toNat_natCast]
    refine ⟨by omega,_,Ii zf,by omega,_,Ii hl,⟨λhe=>?_,λhe=>?_⟩⟩
    ·simp only [beq_iff_eq,Int.natCast_inj] at he
     refine Bl λhh=>?_
     obtain ⟨c,hc,_,_,XQ⟩:=hh.2 j hl
     rw [Ii hl] at hc;cases hc
     exact XQ m Gt (by rw [Ii zf,UInt8.toNat_inj.1 he])
    ·simp only [beq_eq_false_iff_ne,ne_eq,Int.natCast_inj] at he
     rw [Ah (by omega)]
     refine XL Gt _ rfl λk hk=>?_
     by_cases e:k=m
     ·subst e
      rw [Ii zf]
      exact λe=>he (by rw [Option.some.inj e])
     ·exact hR' k (by omega)
   ·have:m=j:=by omega
    subst this
    rw [Ah (by omega)]
    refine hK hl _ rfl λk hk=>?_
    by_cases e:k=m
    ·subst e
     exact ⟨_,Ii hl,by omega,by omega,hR'⟩
    ·exact hR k (by omega)
 ·have:j=s.size:=by omega
  subst this
  refine ⟨_,if_pos trivial,?_⟩
  show Ke s.size 1 8=_
  cases hr:Ke s.size 1 8 with
  |true=>rw [Cs] at hr;exact Ka ⟨by omega,hR⟩
  |false=>refine Bl λhh=>?_;rw [Cs.2 ⟨by omega,by omega⟩] at hr;cases hr
theorem tb:Sound Tryz.prog 111 Wr:=
 Sound.Cg Bi (Ae Rj Aj) mixed Tryz.func111 (by kernel_rfl) (by kernel_rfl) λx h=>NB x.1 h
theorem HW {p:PP} (h:Bx p=true):1<=p.1/\p.1<=20/\1<=p.2.2.1.length/\p.2.2.1.length<=8:=by
 obtain ⟨h1,h2,h3⟩:=Dw.1 h
 obtain ⟨h4,h5,_⟩:=Dw.1 h1
 obtain ⟨h6,_⟩:=Dw.1 h2
 omega
theorem wX (p:PP) (h:Ck p):fnW Cd (look [(123,Ig),(124,aY)]) Eb Tryz.f93 (p,()) (λ(z:Bool)=>z=Bx p):=by
 obtain ⟨hn,hg⟩:=h
 refine Eq.mp (xZ p _) ⟨λh0=>?_,λh0=>⟨λh1=>?_,λh1=>⟨_,if_pos hg,⟨λh2=>?_,λh2=>?_⟩⟩⟩⟩
 ·simp only [beq_iff_eq] at h0
  exact Bl λhh=>by obtain ⟨_,h2,h3⟩:=hh;have:=(Dw.1 h2).1;omega
 ·simp only [bne_iff_ne,ne_eq,Int.natCast_inj] at h1
  exact Bl λhh=>h1 hh.2.2
 ·have h2:=Ed h2
  exact Bl λhh=>h2 hh.1
 ·simp only [beq_eq_false_iff_ne,ne_eq] at h0
  simp only [bne_eq_false_iff_eq,Int.natCast_inj] at h1
  have h2:Mr p.1 p.2.2.1=true:=Dk h2
  refine Ag p.2.1.size (λv=>v.1) (λj v=>v.2=(p.1,p.2.1,p.2.2.1,())/\ ∀k,k<j->vC p.2.1 k) rfl ⟨rfl,λk hk=>absurd hk (Nat.not_lt_zero _)⟩ ?_
  rintro j ⟨i,v⟩ K hj hi ⟨hv,hR⟩ hK
  dsimp only at hi hv⊢
  subst hi hv
  dsimp only
  refine Br.dec (λhl=>?_) λhl=>?_
  ·have hl:j<p.2.1.size:=by omega
   refine ⟨_,if_pos ⟨Int.natCast_nonneg j,Int.ofNat_lt.2 hl,hn⟩,⟨λhq=>?_,λhq=>?_⟩⟩
   ·have hq: ¬kl p.2.1 j=true:=Ed hq
    refine Bl λhh=>hq (Dw.2 ?_)
    rw [Int.toNat_natCast]
    exact (Dw.1 hh.2.1).2 j hl
   ·have hq:kl p.2.1 j=true:=Dk hq
    have hq:=Dw.1 hq
    rw [Int.toNat_natCast] at hq
    rw [Ah (by omega)]
    refine hK hl _ rfl ⟨rfl,λk hk=>?_⟩
    by_cases e:k=j
    ·subst e;exact hq
    ·exact hR k (by omega)
  ·have:j=p.2.1.size:=by omega
   subst this
   have:=(Dw.1 h2).2.1
   exact Ka ⟨h2,Dw.2 ⟨⟨by omega,by omega⟩,hR⟩,h1⟩
theorem Tn:Sound Tryz.prog 93 Eb:=
 Sound.Cg Bi (Ae bf (Ae xr Aj)) mixed Tryz.func93 (by kernel_rfl) (by kernel_rfl) λx h=>wX x.1 h
theorem wS (p:PP) (h:Ck p):fnW Cd (look [(110,Ig),(111,Wr)]) Eb Tryz.f84 (p,()) (λ(z:Bool)=>z=Bx p):=by
 obtain ⟨hn,hg⟩:=h
 refine Eq.mp (xU p _) ⟨_,if_pos hg,⟨λh1=>⟨_,if_pos hn,⟨λh2=>?_,λh2=>?_⟩⟩,λh1=>?_⟩⟩
 ·have h1:Mr p.1 p.2.2.1=true:=h1
  have h2:aP p.2.1=true:=h2
  by_cases e:p.2.1.size=p.2.2.1.length
  ·rw [e,beq_self_eq_true];exact Ka ⟨h1,h2,e⟩
  ·rw [show ((p.2.1.size:Int)==(p.2.2.1.length:Int))=false from beq_eq_false_iff_ne.2 (by omega)];exact Bl λhh=>e hh.2.2
 ·have h2:aP p.2.1=false:=h2
  exact Bl λhh=>by rw [hh.2.1] at h2;cases h2
 ·have h1:Mr p.1 p.2.2.1=false:=h1
  exact Bl λhh=>by rw [hh.1] at h1;cases h1
theorem Tm:Sound Tryz.prog 84 Eb:=
 Sound.Cg Bi (Ae mA (Ae tb Aj)) mixed Tryz.func84 (by kernel_rfl) (by kernel_rfl) λx h=>wS x.1 h
theorem Aik (p:PP) (room:Int) (h:Ck p/\roomy room):fnW Cd (look [(45,c8)]) uY Tryz.f13 (p,room,()) (λ(z:Int)=>z=qk p room):=by
 obtain ⟨⟨h1,h2⟩,h3,h4⟩:=h
 refine Eq.mp (Aj8 p room _) ?_
 rw [Bn (by omega) (by omega)]
 refine Br.dec (λhn=>?_) λhn=>⟨_,if_pos ⟨h2,by dsimp only;omega,by dsimp only;omega⟩,Br.dec (λhm=>?_) λhm=>?_⟩
 ·simp only [qk,if_pos hn]
 ·exact ((if_neg hn).trans (if_pos hm)).symm
 ·exact ((if_neg hn).trans (if_neg hm)).symm
theorem OI:Sound Tryz.prog 13 uY:=
 Sound.Cg Bi (Ae rC Aj) mixed Tryz.func13 (by kernel_rfl) (by kernel_rfl) λx h=>Aik x.1 x.2.1 h
theorem Aim (p:PP) (h:Ck p):fnW Cd (look [(49,c9)]) nG Tryz.f16 (p,()) (λ(z:PP)=>z=p):=Eq.mp (Aja p _) ⟨_,if_pos h.2,rfl⟩
theorem OJ:Sound Tryz.prog 16 nG:=
 Sound.Cg Bi (Ae rE Aj) mixed Tryz.func16 (by kernel_rfl) (by kernel_rfl) λx h=>Aim x.1 h
theorem yF {a b:ByteArray} :(a.toList==b.toList)=decide (a=b):=by
 rw [Bool.eq_iff_iff,beq_iff_eq,decide_eq_true_iff,ByteArray.toList_eq,ByteArray.toList_eq]
 exact ⟨λh=>ByteArray.ext (Array.toList_inj.1 h),λh=>by rw [h]⟩
theorem Aif (a b:PP) (h:Ck a):fnW Cd (look [(53,Pl)]) uW Tryz.f20 (a,b,()) (λ(z:Bool)=>z=nm a b):=by
 refine Eq.mp (Aj3 a b _) ⟨λh1=>?_,λh1=>⟨λh2=>?_,λh2=>⟨_,if_pos h.2,⟨λh3=>?_,λh3=>?_⟩⟩⟩⟩
 ·simp only [bne_iff_ne,ne_eq] at h1
  unfold nm
  rw [decide_eq_false h1];rfl
 ·rw [yF] at h2
  unfold nm
  cases hd:decide (a.2.1=b.2.1)<;>simp_all
 ·have h3:(!Mp a.2.2.1 b.2.2.1)=true:=h3
  simp only [Mp,Bool.not_eq_true'] at h3
  unfold nm
  rw [h3];simp
 ·have h3:(!Mp a.2.2.1 b.2.2.1)=false:=h3
  rw [yF] at h2
  simp only [Mp] at h3
  simp only [bne_eq_false_iff_eq] at h1
  unfold nm
  simp_all
theorem OF:Sound Tryz.prog 20 uW:=
 Sound.Cg Bi (Ae rk Aj) mixed Tryz.func20 (by kernel_rfl) (by kernel_rfl) λx h=>Aif x.1 x.2.1 h
theorem FC (p:PP):nm p p=true:=by simp [nm]
theorem qw {b:Bool} {P:Prop} (h1:b=true) (h:(!b)=true):P:=by rw [h1] at h;cases h
theorem GD (t:TT) (xs:List Int) (h:Le t/\short xs):fnW Cd (look [(101,Ap)]) Pn Tryz.f77 (t,xs,()) (λ(z:Int)=>z=Dy (λp=>decide (p=xs)) t.2.1 0):=by
 obtain ⟨⟨_,⟨h,h4⟩,_⟩,_⟩:=h
 refine Eq.mp (IL t xs _) ?_
 refine Ag t.2.1.length (λv=>v.1) (λj v=>v.2=(t.1,t.2.1,t.2.2.1,())/\Dy (λp=>decide (p=xs)) (t.2.1.drop j) j=Dy (λp=>decide (p=xs)) t.2.1 0) rfl ⟨rfl,by simp⟩ ?_
 rintro j ⟨i,v⟩ K hj hi ⟨hv,hR⟩ hK
 dsimp only at hi hv⊢
 subst hi hv
 dsimp only
 refine Br.dec (λhl=>?_) λhl=>?_
 ·have hl:j<t.2.1.length:=by omega
  rw [List.drop_eq_getElem_cons hl] at hR
  simp only [Dy] at hR
  refine ⟨_,Aq hl,_,if_pos (h4 _ (List.getElem_mem hl)),⟨λhe=>?_,λhe=>?_⟩⟩
  ·have he:decide (t.2.1[j]=xs)=true:=he
   rw [if_pos he] at hR
   exact hR
  ·have he:decide (t.2.1[j]=xs)=false:=he
   rw [if_neg (by rw [he];decide)] at hR
   rw [Ah (by omega)]
   exact hK hl _ rfl ⟨rfl,by push_cast;exact hR⟩
 ·have:j=t.2.1.length:=by omega
  subst this
  rw [List.drop_length] at hR
  exact hR
theorem rD:Sound Tryz.prog 77 Pn:=
 Sound.Cg Bi (Ae Ox Aj) mixed Tryz.func77 (by kernel_rfl) (by kernel_rfl) λx h=>GD x.1 x.2.1 h
end Go.Proofs.YtfolipnappekaaaGreat

namespace Go.Proofs.YtfolipnappekaaaGreat
open Go.RowKit
noncomputable abbrev aZ:Spec:=Cg (.pair tI (.pair tL .unit)) .bool false true (λx=>short x.2.1) (λx=>Dc x.1 x.2.1)
noncomputable abbrev Te:Spec:=Cg (.pair Cp (.pair tL .unit)) .bool false true (λx=>short x.2.1) (λx=>Dc x.1.1 x.2.1)
noncomputable abbrev Iz:Spec:=Cg (.pair Cp (.pair tL .unit)) .bool false true (λx=>Ck x.1/\short x.2.1) (λx=>Bx x.1&&Dc x.1.1 x.2.1)
theorem WB (n:Int) (s:List Int) (P:Bool->Prop):(Br ((↑s.length:Int)==n) (∃(y3:Bool),Ea.fn (s,())=some y3/\P y3) (P false))=fnW Cd (look [(75,Ea)]) aZ Tryz.f127 (n,s,()) P:=by kernel_rfl
theorem rU (p:Int×ByteArray×List (List Int)×Unit) (s:List Int) (P:Bool->Prop):(∃(y3:Int),Nx.fn (s,())=some y3/\Br (y3==p.1) (∃(y4:Bool),Ea.fn (s,())=some y4/\P y4) (P false))=fnW Cd (look [(119,Nx),(134,Ea)]) Te Tryz.f109 (p,s,()) P:=by kernel_rfl
theorem tP (p:Int×ByteArray×List (List Int)×Unit) (s:List Int) (P:Bool->Prop):(∃(y3:Bool),Eb.fn ((p.1,p.2.1,p.2.2.1,()),())=some y3/\Br y3 (∃(y4:Bool),aZ.fn (p.1,s,())=some y4/\P y4) (P false))=fnW Cd (look [(93,Eb),(127,aZ)]) Iz Tryz.f95 (p,s,()) P:=by kernel_rfl
theorem tG (p:Int×ByteArray×List (List Int)×Unit) (s:List Int) (P:Bool->Prop):(∃(y3:Bool),Eb.fn ((p.1,p.2.1,p.2.2.1,()),())=some y3/\Br y3 (∃(y4:Bool),Te.fn ((p.1,p.2.1,p.2.2.1,()),s,())=some y4/\P y4) (P false))=fnW Cd (look [(84,Eb),(109,Te)]) Iz Tryz.f97 (p,s,()) P:=by kernel_rfl
theorem UB (n:Int) (s:List Int) (h:short s):fnW Cd (look [(75,Ea)]) aZ Tryz.f127 (n,s,()) (λ(z:Bool)=>z=Dc n s):=by
 refine Eq.mp (WB n s _) ⟨λhe=>⟨_,if_pos h,?_⟩,λhe=>?_⟩
 ·simp only [beq_iff_eq] at he
  show Fl s=_
  cases hp:Fl s with
  |true=>exact Ka ⟨he,hp⟩
  |false=>exact Bl λhh=>by rw [hh.2] at hp;cases hp
 ·simp only [beq_eq_false_iff_ne,ne_eq] at he
  exact Bl λhh=>he hh.1
theorem xt:Sound Tryz.prog 127 aZ:=
 Sound.Cg Bi (Ae Nn Aj) mixed Tryz.func127 (by kernel_rfl) (by kernel_rfl) λx h=>UB x.1 x.2.1 h
theorem qD (p:PP) (s:List Int) (h:short s):fnW Cd (look [(119,Nx),(134,Ea)]) Te Tryz.f109 (p,s,()) (λ(z:Bool)=>z=Dc p.1 s):=by
 refine Eq.mp (rU p s _) ⟨_,if_pos trivial,⟨λhe=>⟨_,if_pos h,?_⟩,λhe=>?_⟩⟩
 ·simp only [beq_iff_eq] at he
  show Fl s=_
  cases hp:Fl s with
  |true=>exact Ka ⟨he,hp⟩
  |false=>exact Bl λhh=>by rw [hh.2] at hp;cases hp
 ·simp only [beq_eq_false_iff_ne,ne_eq] at he
  exact Bl λhh=>he hh.1
theorem jc:Sound Tryz.prog 109 Te:=
 Sound.Cg Bi (Ae ca (Ae bd Aj)) mixed Tryz.func109 (by kernel_rfl) (by kernel_rfl) λx h=>qD x.1 x.2.1 h
theorem sR (p:PP) (s:List Int) (h:Ck p/\short s):fnW Cd (look [(93,Eb),(127,aZ)]) Iz Tryz.f95 (p,s,()) (λ(z:Bool)=>z=(Bx p&&Dc p.1 s)):=by
 refine Eq.mp (tP p s _) ⟨_,if_pos h.1,⟨λhe=>⟨_,if_pos h.2,?_⟩,λhe=>?_⟩⟩
 ·have he:Bx p=true:=he
  rw [he];rfl
 ·have he:Bx p=false:=he
  rw [he];rfl
theorem kT:Sound Tryz.prog 95 Iz:=
 Sound.Cg Bi (Ae Tn (Ae xt Aj)) mixed Tryz.func95 (by kernel_rfl) (by kernel_rfl) λx h=>sR x.1 x.2.1 h
theorem sL (p:PP) (s:List Int) (h:Ck p/\short s):fnW Cd (look [(84,Eb),(109,Te)]) Iz Tryz.f97 (p,s,()) (λ(z:Bool)=>z=(Bx p&&Dc p.1 s)):=by
 refine Eq.mp (tG p s _) ⟨_,if_pos h.1,⟨λhe=>⟨_,if_pos h.2,?_⟩,λhe=>?_⟩⟩
 ·have he:Bx p=true:=he
  rw [he];rfl
 ·have he:Bx p=false:=he
  rw [he];rfl
theorem kP:Sound Tryz.prog 97 Iz:=
 Sound.Cg Bi (Ae Tm (Ae jc Aj)) mixed Tryz.func97 (by kernel_rfl) (by kernel_rfl) λx h=>sL x.1 x.2.1 h
end Go.Proofs.YtfolipnappekaaaGreat

namespace Go.Proofs.YtfolipnappekaaaGreat
open Go.RowKit
def Ja (xs:List Int) (i:Int):Int:=xs.getD i.toNat 0
def Ab (p q:List Int):List Int:=p.map (Ja q)
def Yv (f:Nat->Nat) (g:Nat->Int) (m:Nat) (init:List Int):List Int:=(List.range m).foldl (λ(out:List Int) (i:Nat)=>out.set (f i) (g i)) init
def Ai (p:List Int):List Int:=Yv (λi=>(Ja p (i:Int)).toNat) (λi=>(i:Int)) p.length (List.replicate p.length 0)
def Hz (n:Nat) (p:List Int):Prop:= ∀y∈p,0<=y/\y<n
noncomputable abbrev Ix:Spec:=Cg (.pair tL (.pair tL .unit)) tL false true (λx=>List.length x.1<=20/\Hz (List.length x.2.1) x.1) (λx=>Ab x.1 x.2.1)
noncomputable abbrev Co:Spec:=Cg (.pair tL .unit) tL false true (λx=>List.length x.1<=20/\Hz (List.length x.1) x.1) (λx=>Ai x.1)
noncomputable abbrev Tc:Spec:=Cg (.pair tI .unit) tL false true (λx=>0<=x.1/\x.1<=20) (λx=>upto x.1.toNat)
noncomputable abbrev Lq:Spec:=Cg (.pair tL .unit) tL false true (λx=>Fl x.1=true) (λx=>Ai x.1)
def An (g:List (List Int)) (l:Int):List Int:=if l>0 then g.getD (l-1).toNat [] else Ai (g.getD (-l-1).toNat [])
def Es (n:Int) (l:Int):Prop:=l≠0/\ -n<=l/\l<=n
noncomputable abbrev Gx:Spec:=Cg (.pair cZ (.pair tI .unit)) tL false false (λx=>Es (List.length x.1) x.2.1/\List.length x.1<=8/\ ∀p∈x.1,Fl p=true) (λx=>An x.1 x.2.1)
def Af (n:Nat):List Int:=(List.range n).flatMap λ(k:Nat)=> [(k:Int)+1,-((k:Int)+1)]
noncomputable abbrev Hs:Spec:=Cg (.pair tI .unit) tL false true (λx=>0<=x.1/\x.1<=8) (λx=>Af x.1.toNat)
noncomputable abbrev Ic:Spec:=Cg (.pair Cp (.pair tL (.pair tI .unit))) tL false true (λx=>Bx x.1=true/\List.length x.2.1<=20/\(∀y∈x.2.1,0<=y/\y<x.1.1)/\Es (List.length x.1.2.2.1) x.2.2.1) (λx=>Ab x.2.1 (An x.1.2.2.1 x.2.2.1))
theorem tE (p q:List Int) (P:List Int->Prop):(((0:Int)<=(↑p.length:Int)/\(↑p.length:Int)<(↑Be:Int)+(1:Int))/\(↑p.length:Int)=(↑p.length:Int)/\0=0/\(List.replicate (↑p.length:Int).toNat (Int.ofNat (nat_lit 0))).length=(List.replicate (↑p.length:Int).toNat (Int.ofNat (nat_lit 0))).length/\Bk (λ(v3:Int×List Int×PUnit) (k4:Int×List Int×PUnit->Prop)=>Br (decide (v3.1<(↑p.length:Int))) (∃(y5:Int),idx p v3.1=some y5/\ ∃(y6:Int),idx q y5=some y6/\((0:Int)<=v3.1/\v3.1<(↑v3.2.1.length:Int))/\0+v3.1.toNat<v3.2.1.length/\0=0/\v3.2.1.length=(v3.2.1.set (0+v3.1.toNat) y6).length/\k4 (IntKind.i64.wrap (v3.1+(1:Int)),v3.2.1.set (0+v3.1.toNat) y6,())) (P (List.take v3.2.1.length (List.drop 0 v3.2.1)))) ((0:Int),List.replicate (↑p.length:Int).toNat (Int.ofNat (nat_lit 0)),PUnit.unit))=fnW Cd (look []) Ix Tryz.f121 (p,q,()) P:=by kernel_rfl
theorem tF (p:List Int) (P:List Int->Prop):(((0:Int)<=(↑p.length:Int)/\(↑p.length:Int)<(↑Be:Int)+(1:Int))/\(↑p.length:Int)=(↑p.length:Int)/\0=0/\(List.replicate (↑p.length:Int).toNat (Int.ofNat (nat_lit 0))).length=(List.replicate (↑p.length:Int).toNat (Int.ofNat (nat_lit 0))).length/\Bk (λ(v2:Int×List Int×PUnit) (k3:Int×List Int×PUnit->Prop)=>Br (decide (v2.1<(↑p.length:Int))) (∃(y4:Int),idx p v2.1=some y4/\((0:Int)<=y4/\y4<(↑v2.2.1.length:Int))/\0+y4.toNat<v2.2.1.length/\0=0/\v2.2.1.length=(v2.2.1.set (0+y4.toNat) v2.1).length/\k3 (IntKind.i64.wrap (v2.1+(1:Int)),v2.2.1.set (0+y4.toNat) v2.1,())) (P (List.take v2.2.1.length (List.drop 0 v2.2.1)))) ((0:Int),List.replicate (↑p.length:Int).toNat (Int.ofNat (nat_lit 0)),PUnit.unit))=fnW Cd (look []) Co Tryz.f56 (p,()) P:=by kernel_rfl
theorem PH (p:List Int) (P:List Int->Prop):(((0:Int)<=(↑p.length:Int)/\(↑p.length:Int)<(↑Be:Int)+(1:Int))/\(↑p.length:Int)=(↑p.length:Int)/\0=0/\(List.replicate (↑p.length:Int).toNat (Int.ofNat (nat_lit 0))).length=(List.replicate (↑p.length:Int).toNat (Int.ofNat (nat_lit 0))).length/\Bk (λ(v2:Int×List Int×PUnit) (k3:Int×List Int×PUnit->Prop)=>Br (decide (v2.1<(↑p.length:Int))) (∃(y4:Int),idx p v2.1=some y4/\((0:Int)<=y4/\y4<(↑v2.2.1.length:Int))/\0+y4.toNat<v2.2.1.length/\0=0/\v2.2.1.length=(v2.2.1.set (0+y4.toNat) v2.1).length/\k3 (IntKind.i64.wrap (v2.1+(1:Int)),v2.2.1.set (0+y4.toNat) v2.1,())) (P (List.take v2.2.1.length (List.drop 0 v2.2.1)))) ((0:Int),List.replicate (↑p.length:Int).toNat (Int.ofNat (nat_lit 0)),PUnit.unit))=fnW Cd (look []) Co Tryz.f76 (p,()) P:=by kernel_rfl
theorem tN (p:List Int) (P:List Int->Prop):(∃(y2:Bool),Ea.fn (p,())=some y2/\Br (!y2) (P (List.take 0 (List.drop 0 []))) (∃(y3:List Int),Co.fn (p,())=some y3/\P y3))=fnW Cd (look [(75,Ea),(76,Co)]) Lq Tryz.f55 (p,()) P:=by kernel_rfl
theorem IC (n:Int) (P:List Int->Prop):(0=0/\0=([]:List Int).length/\Bk (λ(v2:Int×List Int×PUnit) (k3:Int×List Int×PUnit->Prop)=>Br (decide (v2.1<n)) (0=0/\v2.2.1.length=v2.2.1.length/\v2.2.1.length+(List.take 1 (List.drop 0 [v2.1])).length<=Be/\0=0/\(v2.2.1++List.take 1 (List.drop 0 [v2.1])).length=(v2.2.1++List.take 1 (List.drop 0 [v2.1])).length/\k3 (IntKind.i64.wrap (v2.1+(1:Int)),v2.2.1++List.take 1 (List.drop 0 [v2.1]),())) (P (List.take v2.2.1.length (List.drop 0 v2.2.1)))) ((0:Int),[],PUnit.unit))=fnW Cd (look []) Tc Tryz.f115 (n,()) P:=by kernel_rfl
theorem IE (g:List (List Int)) (l:Int) (P:List Int->Prop):(Br (decide (l>(0:Int))) (∃(y3:List Int),idx g (IntKind.i64.wrap (l-(1:Int)))=some y3/\P y3) (∃(y3:List Int),idx g (IntKind.i64.wrap (IntKind.i64.wrap ((0:Int)-l)-(1:Int)))=some y3/\ ∃(y4:List Int),Co.fn (y3,())=some y4/\P y4))=fnW Cd (look [(56,Co)]) Gx Tryz.f122 (g,l,()) P:=by kernel_rfl
theorem PB (n:Int) (P:List Int->Prop):(0=0/\0=([]:List Int).length/\Bk (λ(v2:Int×List Int×PUnit) (k3:Int×List Int×PUnit->Prop)=>Br (decide (v2.1<n)) (0=0/\v2.2.1.length=v2.2.1.length/\v2.2.1.length+(List.take 2 (List.drop 0 [IntKind.i64.wrap (v2.1+(1:Int)),IntKind.i64.wrap ((0:Int)-IntKind.i64.wrap (v2.1+(1:Int)))])).length<=Be/\0=0/\(v2.2.1++List.take 2 (List.drop 0 [IntKind.i64.wrap (v2.1+(1:Int)),IntKind.i64.wrap ((0:Int)-IntKind.i64.wrap (v2.1+(1:Int)))])).length=(v2.2.1++List.take 2 (List.drop 0 [IntKind.i64.wrap (v2.1+(1:Int)),IntKind.i64.wrap ((0:Int)-IntKind.i64.wrap (v2.1+(1:Int)))])).length/\k3 (IntKind.i64.wrap (v2.1+(1:Int)),v2.2.1++List.take 2 (List.drop 0 [IntKind.i64.wrap (v2.1+(1:Int)),IntKind.i64.wrap ((0:Int)-IntKind.i64.wrap (v2.1+(1:Int)))]),())) (P (List.take v2.2.1.length (List.drop 0 v2.2.1)))) ((0:Int),[],PUnit.unit))=fnW Cd (look []) Hs Tryz.f106 (n,()) P:=by kernel_rfl
theorem VX (p:Int×ByteArray×List (List Int)×Unit) (s:List Int) (l:Int) (P:List Int->Prop):(∃(y4:List Int),idx p.2.2.1 (IntKind.i64.wrap ((if true=true then if IntKind.i64.wrap ((0:Int)-l)>l then IntKind.i64.wrap ((0:Int)-l) else l else if IntKind.i64.wrap ((0:Int)-l)<l then IntKind.i64.wrap ((0:Int)-l) else l)-(1:Int)))=some y4/\Br (decide (l<(0:Int))) (∃(y5:List Int),Lq.fn (y4,())=some y5/\0=0/\0=([]:List Int).length/\Bk (λ(v6:Int×List Int×PUnit) (k7:Int×List Int×PUnit->Prop)=>Br (decide (v6.1<(↑s.length:Int))) (∃(y8:Int),idx s v6.1=some y8/\ ∃(y9:Int),idx y5 y8=some y9/\0=0/\v6.2.1.length=v6.2.1.length/\v6.2.1.length+(List.take 1 (List.drop 0 [y9])).length<=Be/\0=0/\(v6.2.1++List.take 1 (List.drop 0 [y9])).length=(v6.2.1++List.take 1 (List.drop 0 [y9])).length/\k7 (IntKind.i64.wrap (v6.1+(1:Int)),v6.2.1++List.take 1 (List.drop 0 [y9]),())) (P (List.take v6.2.1.length (List.drop 0 v6.2.1)))) ((0:Int),[],PUnit.unit)) (0=0/\0=([]:List Int).length/\Bk (λ(v5:Int×List Int×PUnit) (k6:Int×List Int×PUnit->Prop)=>Br (decide (v5.1<(↑s.length:Int))) (∃(y7:Int),idx s v5.1=some y7/\ ∃(y8:Int),idx y4 y7=some y8/\0=0/\v5.2.1.length=v5.2.1.length/\v5.2.1.length+(List.take 1 (List.drop 0 [y8])).length<=Be/\0=0/\(v5.2.1++List.take 1 (List.drop 0 [y8])).length=(v5.2.1++List.take 1 (List.drop 0 [y8])).length/\k6 (IntKind.i64.wrap (v5.1+(1:Int)),v5.2.1++List.take 1 (List.drop 0 [y8]),())) (P (List.take v5.2.1.length (List.drop 0 v5.2.1)))) ((0:Int),[],PUnit.unit)))=fnW Cd (look [(55,Lq)]) Ic Tryz.f118 (p,s,l,()) P:=by kernel_rfl
theorem Hx {xs:List Int} {i:Nat} (h:i<xs.length):Ja xs (i:Int)=xs[i]:=by
 unfold Ja
 rw [Int.toNat_natCast,List.getD_eq_getElem?_getD,List.getElem?_eq_getElem h];rfl
theorem dS {xs:List Int} {y:Int} (h0:0<=y) (h:y<xs.length):idx xs y=some (Ja xs y):=by
 have hy:y.toNat<xs.length:=by omega
 have e:y=(y.toNat:Int):=by omega
 rw [e,Aq hy,Hx hy]
theorem Wb (f:Nat->Nat) (g:Nat->Int) (m:Nat) (init:List Int):Yv f g (m+1) init=(Yv f g m init).set (f m) (g m):=by simp [Yv,List.range_succ]
theorem Yw (f:Nat->Nat) (g:Nat->Int) (m:Nat) (init:List Int):(Yv f g m init).length=init.length:=by
 induction m with
 |zero=>rfl
 |succ m ih=>rw [Wb,List.length_set,ih]
theorem mV (f:Nat->Nat) (g:Nat->Int) (init:List Int): ∀(m:Nat),(∀i j,i<m->j<m->f i=f j->i=j)-> ∀i,i<m->f i<init.length->(Yv f g m init)[f i]?=some (g i)
 |0,_,i,h,_=>absurd h (Nat.not_lt_zero _)
 |m+1,hf,i,hi,hl=>by
  rw [Wb]
  by_cases e:i=m
  ·subst e
   exact List.getElem?_set_self (by rw [Yw];exact hl)
  ·rw [List.getElem?_set_ne (λh=>e (hf i m hi (by omega) h.symm))]
   exact mV f g init m (λa b ha hb=>hf a b (by omega) (by omega)) i (by omega) hl
structure Xb (p:List Int):Prop where
 pos:1<=p.length
 len:p.length<=20
 row:Hz p.length p
 nodup:p.Nodup
theorem bR {p:List Int} (h:Fl p=true):Xb p:=by
 obtain ⟨h1,h2,h3⟩:=Dw.1 h
 refine ⟨h1,h2,λy hy=>?_,dZ λj hj=>(h3 j hj hj).2.2⟩
 obtain ⟨j,hj,rfl⟩:=List.mem_iff_getElem.1 hy
 have:=h3 j hj hj
 omega
theorem Xb.inj {p:List Int} (h:Xb p) (i j:Nat) (hi:i<p.length) (hj:j<p.length) (e:(Ja p (i:Int)).toNat=(Ja p (j:Int)).toNat):i=j:=by
 rw [Hx hi,Hx hj] at e
 have h1:=h.row _ (List.getElem_mem hi)
 have h2:=h.row _ (List.getElem_mem hj)
 have e:p[i]=p[j]:=by omega
 refine Classical.byContradiction λEk=>?_
 rcases Nat.lt_or_gt_of_ne Ek with hl|hl
 ·exact List.pairwise_iff_getElem.1 h.nodup i j hi hj hl e
 ·exact List.pairwise_iff_getElem.1 h.nodup j i hj hi hl e.symm
theorem Xb.TV {p:List Int} (h:Xb p) (k:Nat) (hk:k<p.length): ∃i,i<p.length/\(Ja p (i:Int)).toNat=k:=by
 have hm:=(Zw (xs:=p) h.row).2 (rP h.nodup) k hk
 obtain ⟨i,hi,e⟩:=List.mem_iff_getElem.1 hm
 exact ⟨i,hi,by rw [Hx hi,e];exact Int.toNat_natCast k⟩
theorem Xb.lt {p:List Int} (h:Xb p) {i:Nat} (hi:i<p.length):(Ja p (i:Int)).toNat<p.length:=by
 rw [Hx hi]
 have:=h.row _ (List.getElem_mem hi)
 omega
theorem jZ (p:List Int):(Ai p).length=p.length:=by unfold Ai;rw [Yw,List.length_replicate]
theorem SV {p:List Int} (h:Xb p) {i:Nat} (hi:i<p.length):(Ai p)[(Ja p (i:Int)).toNat]?=some (i:Int):=
 mV (λi=>(Ja p (i:Int)).toNat) (λi=>(i:Int)) _ p.length (λi j hi hj=>h.inj i j hi hj) i hi (by rw [List.length_replicate];exact h.lt hi)
theorem YI {p:List Int} (h:Xb p):Hz p.length (Ai p):=by
 intro y hy
 obtain ⟨k,hk,rfl⟩:=List.mem_iff_getElem.1 hy
 have pV:k<p.length:=by rw [jZ] at hk;exact hk
 obtain ⟨i,hi,rfl⟩:=h.TV k pV
 have:=SV h hi
 rw [List.getElem?_eq_getElem hk] at this
 rw [Option.some.inj this]
 omega
theorem Kl (p q:List Int):(Ab p q).length=p.length:=by simp [Ab]
theorem yI {p q:List Int} {n:Nat} (hp:Hz q.length p) (hq:Hz n q):Hz n (Ab p q):=by
 intro y hy
 obtain ⟨x,hx,rfl⟩:=List.mem_map.1 hy
 have h1:=hp x hx
 rw [show x=(x.toNat:Int) by omega,Hx (by omega)]
 exact hq _ (List.getElem_mem _)
theorem sJ (p q:List Int) (h:p.length<=20/\Hz q.length p):fnW Cd (look []) Ix Tryz.f121 (p,q,()) (λ(z:List Int)=>z=Ab p q):=by
 obtain ⟨h,hr⟩:=h
 refine Eq.mp (tE p q _) ?_
 refine ⟨⟨by omega,by show (p.length:Int)<(4294967296:Int)+1;omega⟩,rfl,rfl,rfl,?_⟩
 have Ky:=Kl p q
 refine Ag p.length (λv=>v.1) (λj v=>v.2.1.length=(Ab p q).length/\v.2.1.take j=(Ab p q).take j) rfl ⟨by rw [Ky];simp,by simp⟩ ?_
 rintro j ⟨i,ys,⟨⟩⟩ K hj hi ⟨h1,h2⟩ hK
 dsimp only at hi h1 h2⊢
 subst hi
 refine Br.dec (λhl=>?_) λhl=>?_
 ·have hl:j<p.length:=by omega
  have hy:=hr _ (List.getElem_mem hl)
  refine ⟨_,Aq hl,_,dS hy.1 hy.2,⟨by omega,by omega⟩,by rw [Int.toNat_natCast];omega,rfl,by rw [List.length_set],?_⟩
  rw [Ah (by omega),Int.toNat_natCast,Nat.zero_add]
  have Gt:j<(Ab p q).length:=by rw [Ky];exact hl
  have e:Ja q p[j]=(Ab p q)[j]:=by simp [Ab]
  rw [e]
  exact hK hl _ rfl ⟨by rw [List.length_set];exact h1,Ls Gt h1 h2⟩
 ·have:j=p.length:=by omega
  subst this
  rw [<-Ky,List.take_length,<-h1,List.take_length] at h2
  rw [List.drop_zero,List.take_length]
  exact h2
theorem Rh:Sound Tryz.prog 121 Ix:=
 Sound.Cg Bi Aj mixed Tryz.func121 (by kernel_rfl) (by kernel_rfl) λx h=>sJ x.1 x.2.1 h
theorem sK (p:List Int) (h:p.length<=20/\Hz p.length p):fnW Cd (look []) Co Tryz.f56 (p,()) (λ(z:List Int)=>z=Ai p):=by
 obtain ⟨h,hr⟩:=h
 refine Eq.mp (tF p _) ?_
 refine ⟨⟨by omega,by show (p.length:Int)<(4294967296:Int)+1;omega⟩,rfl,rfl,rfl,?_⟩
 refine Ag p.length (λv=>v.1) (λj v=>v.2.1=Yv (λi=>(Ja p (i:Int)).toNat) (λi=>(i:Int)) j (List.replicate p.length 0)) rfl rfl ?_
 rintro j ⟨i,ys,⟨⟩⟩ K hj hi h1 hK
 dsimp only at hi h1⊢
 subst hi
 have hlen:ys.length=p.length:=by rw [h1,Yw,List.length_replicate]
 refine Br.dec (λhl=>?_) λhl=>?_
 ·have hl:j<p.length:=by omega
  have hy:=hr _ (List.getElem_mem hl)
  refine ⟨_,Aq hl,⟨by omega,by omega⟩,by omega,rfl,by rw [List.length_set],?_⟩
  rw [Ah (by omega),Nat.zero_add]
  refine hK hl _ rfl ?_
  rw [Wb,<-h1,Hx hl]
 ·have:j=p.length:=by omega
  subst this
  rw [List.drop_zero,List.take_length]
  exact h1
theorem Ri:Sound Tryz.prog 56 Co:=
 Sound.Cg Bi Aj mixed Tryz.func56 (by kernel_rfl) (by kernel_rfl) λx h=>sK x.1 h
theorem NJ (p:List Int) (h:p.length<=20/\Hz p.length p):fnW Cd (look []) Co Tryz.f76 (p,()) (λ(z:List Int)=>z=Ai p):=by
 obtain ⟨h,hr⟩:=h
 refine Eq.mp (PH p _) ?_
 refine ⟨⟨by omega,by show (p.length:Int)<(4294967296:Int)+1;omega⟩,rfl,rfl,rfl,?_⟩
 refine Ag p.length (λv=>v.1) (λj v=>v.2.1=Yv (λi=>(Ja p (i:Int)).toNat) (λi=>(i:Int)) j (List.replicate p.length 0)) rfl rfl ?_
 rintro j ⟨i,ys,⟨⟩⟩ K hj hi h1 hK
 dsimp only at hi h1⊢
 subst hi
 have hlen:ys.length=p.length:=by rw [h1,Yw,List.length_replicate]
 refine Br.dec (λhl=>?_) λhl=>?_
 ·have hl:j<p.length:=by omega
  have hy:=hr _ (List.getElem_mem hl)
  refine ⟨_,Aq hl,⟨by omega,by omega⟩,by omega,rfl,by rw [List.length_set],?_⟩
  rw [Ah (by omega),Nat.zero_add]
  refine hK hl _ rfl ?_
  rw [Wb,<-h1,Hx hl]
 ·have:j=p.length:=by omega
  subst this
  rw [List.drop_zero,List.take_length]
  exact h1
theorem Ub:Sound Tryz.prog 76 Co:=
 Sound.Cg Bi Aj mixed Tryz.func76 (by kernel_rfl) (by kernel_rfl) λx h=>NJ x.1 h
theorem sQ (p:List Int) (h:Fl p=true):fnW Cd (look [(75,Ea),(76,Co)]) Lq Tryz.f55 (p,()) (λ(z:List Int)=>z=Ai p):=by
 have hp:=bR h
 have hs:short p:=by have:=hp.len;unfold short;omega
 refine Eq.mp (tN p _) ⟨_,if_pos hs,⟨λhe=>?_,λ_=>⟨_,if_pos ⟨hp.len,hp.row⟩,rfl⟩⟩⟩
 exact absurd h (Ed he)
theorem kS:Sound Tryz.prog 55 Lq:=
 Sound.Cg Bi (Ae Nn (Ae Ub Aj)) mixed Tryz.func55 (by kernel_rfl) (by kernel_rfl) λx h=>sQ x.1 h
theorem fU (j:Nat):upto (j+1)=upto j++ [(j:Int)]:=by simp [upto,List.range_succ]
theorem FV (n:Int) (h:0<=n/\n<=20):fnW Cd (look []) Tc Tryz.f115 (n,()) (λ(z:List Int)=>z=upto n.toNat):=by
 refine Eq.mp (IC n _) ⟨rfl,rfl,?_⟩
 refine Ag n.toNat (λv=>v.1) (λj v=>v.2.1=upto j) rfl rfl ?_
 rintro j ⟨i,ys,⟨⟩⟩ K hj hi h1 hK
 dsimp only at hi h1⊢
 subst hi h1
 refine Br.dec (λhl=>?_) λhl=>?_
 ·refine ⟨rfl,rfl,?_,rfl,rfl,?_⟩
  ·show (upto j).length+1<=4294967296
   rw [eT];omega
  ·rw [Ah (by omega)]
   exact hK (by omega) _ rfl (fU j).symm
 ·have:j=n.toNat:=by omega
  subst this
  rw [List.drop_zero,List.take_length]
theorem eF:Sound Tryz.prog 115 Tc:=
 Sound.Cg Bi Aj mixed Tryz.func115 (by kernel_rfl) (by kernel_rfl) λx h=>FV x.1 h
theorem Pe {g:List (List Int)} {k:Nat} (h:k<g.length):An g ((k:Int)+1)=g[k]:=by
 unfold An
 rw [if_pos (by omega),show ((k:Int)+1-1).toNat=k by omega,List.getD_eq_getElem?_getD,List.getElem?_eq_getElem h];rfl
theorem Pd {g:List (List Int)} {k:Nat} (h:k<g.length):An g (-((k:Int)+1))=Ai g[k]:=by
 unfold An
 rw [if_neg (by omega),show (-(-((k:Int)+1))-1).toNat=k by omega,List.getD_eq_getElem?_getD,List.getElem?_eq_getElem h];rfl
theorem Ni {n:Nat} {l:Int} (h:Es n l): ∃k:Nat,k<n/\(l=(k:Int)+1\/l= -((k:Int)+1)):=by
 obtain ⟨h1,h2,h3⟩:=h
 by_cases h0:0<l
 ·exact ⟨(l-1).toNat,by omega, .inl (by omega)⟩
 ·exact ⟨(-l-1).toNat,by omega, .inr (by omega)⟩
theorem FX (g:List (List Int)) (l:Int) (h:Es (List.length g) l/\List.length g<=8/\ ∀p∈g,Fl p=true):fnW Cd (look [(56,Co)]) Gx Tryz.f122 (g,l,()) (λ(z:List Int)=>z=An g l):=by
 obtain ⟨hl,h8,hp⟩:=h
 refine Eq.mp (IE g l _) ?_
 obtain ⟨k,hk,rfl|rfl⟩:=Ni hl
 ·refine Br.dec (λ_=>?_) λhn=>by omega
  rw [Bn (by omega) (by omega),show (k:Int)+1-1=(k:Int) by omega]
  exact ⟨_,Aq hk,(Pe hk).symm⟩
 ·refine Br.dec (λhn=>by omega) λ_=>?_
  rw [Bn (n:=0- -((k:Int)+1)) (by omega) (by omega),Bn (by omega) (by omega),show (0:Int)- -((k:Int)+1)-1=(k:Int) by omega]
  have:=bR (hp _ (List.getElem_mem hk))
  exact ⟨_,Aq hk,_,if_pos ⟨this.len,this.row⟩,(Pd hk).symm⟩
theorem eG:Sound Tryz.prog 122 Gx:=
 Sound.Cg Bi (Ae Ri Aj) mixed Tryz.func122 (by kernel_rfl) (by kernel_rfl) λx h=>FX x.1 x.2.1 h
theorem Xs (j:Nat):Af (j+1)=Af j++ [(j:Int)+1,-((j:Int)+1)]:=by simp [Af,List.range_succ,List.flatMap_append]
theorem Jn (j:Nat):(Af j).length=2*j:=by
 induction j with
 |zero=>rfl
 |succ j ih=>rw [Xs,List.length_append,ih];simp only [List.length_cons,List.length_nil];omega
theorem Kr {n:Nat} {l:Int} (h:l∈Af n):Es n l:=by
 unfold Af at h
 obtain ⟨k,hk,hl⟩:=List.mem_flatMap.1 h
 have hk:=List.mem_range.1 hk
 simp only [List.mem_cons,List.not_mem_nil,or_false] at hl
 unfold Es
 omega
theorem ND (n:Int) (h:0<=n/\n<=8):fnW Cd (look []) Hs Tryz.f106 (n,()) (λ(z:List Int)=>z=Af n.toNat):=by
 refine Eq.mp (PB n _) ⟨rfl,rfl,?_⟩
 refine Ag n.toNat (λv=>v.1) (λj v=>v.2.1=Af j) rfl rfl ?_
 rintro j ⟨i,ys,⟨⟩⟩ K hj hi h1 hK
 dsimp only at hi h1⊢
 subst hi h1
 refine Br.dec (λhl=>?_) λhl=>?_
 ·refine ⟨rfl,rfl,?_,rfl,rfl,?_⟩
  ·show (Af j).length+2<=4294967296
   rw [Jn];omega
  ·have e1:IntKind.i64.wrap ((j:Int)+1)=(j:Int)+1:=Bn (by omega) (by omega)
   have e2:IntKind.i64.wrap ((0:Int)-((j:Int)+1))= -((j:Int)+1):=by rw [Bn (by omega) (by omega)];omega
   rw [e1,e2]
   exact hK (by omega) _ rfl (Xs j).symm
 ·have:j=n.toNat:=by omega
  subst this
  rw [List.drop_zero,List.take_length]
theorem gY:Sound Tryz.prog 106 Hs:=
 Sound.Cg Bi Aj mixed Tryz.func106 (by kernel_rfl) (by kernel_rfl) λx h=>ND x.1 h
structure Valid (p:PP):Prop where
 n:1<=p.1/\p.1<=20
 so:1<=p.2.2.1.length/\p.2.2.1.length<=8
 perm: ∀m∈p.2.2.1,Fl m=true
 len: ∀m∈p.2.2.1,(m.length:Int)=p.1
theorem valid {p:PP} (h:Bx p=true):Valid p:=by
 have h0:=HW h
 obtain ⟨h1,_,_⟩:=Dw.1 h
 obtain ⟨_,_,h4⟩:=Dw.1 h1
 exact ⟨⟨h0.1,h0.2.1⟩,h0.2.2,λm hm=>(Dw.1 (h4 m hm)).2,λm hm=>(Dw.1 (h4 m hm)).1⟩
theorem fz {p:PP} (h:Valid p) {l:Int} (hl:Es (List.length p.2.2.1) l):((An p.2.2.1 l).length:Int)=p.1/\Hz (An p.2.2.1 l).length (An p.2.2.1 l):=by
 obtain ⟨k,hk,rfl|rfl⟩:=Ni hl
 ·rw [Pe hk]
  exact ⟨h.len _ (List.getElem_mem hk),(bR (h.perm _ (List.getElem_mem hk))).row⟩
 ·rw [Pd hk,jZ]
  exact ⟨h.len _ (List.getElem_mem hk),YI (bR (h.perm _ (List.getElem_mem hk)))⟩
theorem yu (s y:List Int) (P:List Int->Prop) (h1:s.length<=20) (h2:Hz y.length s) (h3:P (Ab s y)):
  Bk
   (λ(v5:Int×List Int×PUnit) (k6:Int×List Int×PUnit->Prop)=>
    Br (decide (v5.1<(↑s.length:Int)))
     (∃(y7:Int),
      idx s v5.1=some y7/\
       ∃(y8:Int),
        idx y y7=some y8/\
         (0:Nat)=(0:Nat)/\
          v5.2.1.length=v5.2.1.length/\
           v5.2.1.length+(List.take (1:Nat) (List.drop (0:Nat) [y8])).length<=Be/\
            (0:Nat)=(0:Nat)/\
             (v5.2.1++List.take (1:Nat) (List.drop (0:Nat) [y8])).length=(v5.2.1++List.take (1:Nat) (List.drop (0:Nat) [y8])).length/\
              k6 (IntKind.i64.wrap (v5.1+(1:Int)),v5.2.1++List.take (1:Nat) (List.drop (0:Nat) [y8]),()))
     (P (List.take v5.2.1.length (List.drop (0:Nat) v5.2.1))))
   ((0:Int),([]:List Int),PUnit.unit):=by
 refine Ag s.length (λv=>v.1) (λj v=>v.2.1=(s.take j).map (Ja y)) rfl (by simp) ?_
 rintro j ⟨i,ys,⟨⟩⟩ K hj hi hR hK
 dsimp only at hi hR⊢
 subst hi hR
 refine Br.dec (λhl=>?_) λhl=>?_
 ·have hl:j<s.length:=by omega
  have hy:=h2 _ (List.getElem_mem hl)
  refine ⟨_,Aq hl,_,dS hy.1 hy.2,rfl,rfl,?_,rfl,rfl,?_⟩
  ·show ((s.take j).map (Ja y)).length+1<=4294967296
   rw [List.length_map,List.length_take];omega
  ·rw [Ah (by omega)]
   refine hK hl _ rfl ?_
   dsimp only
   rw [List.take_succ_eq_append_getElem hl,List.map_append]
   rfl
 ·have:j=s.length:=by omega
  subst this
  rw [List.drop_zero,List.take_length,List.take_length]
  exact h3
theorem TX (p:PP) (s:List Int) (l:Int) (h:Bx p=true/\List.length s<=20/\(∀y∈s,0<=y/\y<p.1)/\Es (List.length p.2.2.1) l):fnW Cd (look [(55,Lq)]) Ic Tryz.f118 (p,s,l,()) (λ(z:List Int)=>z=Ab s (An p.2.2.1 l)):=by
 obtain ⟨hv,hs,hr,hl⟩:=h
 have hv:=valid hv
 have hf:=hv.so
 refine Eq.mp (VX p s l _) ?_
 have LY:=fz hv hl
 have Gj:Hz (An p.2.2.1 l).length s:= λy hy=>by have:=hr y hy;omega
 obtain ⟨k,hk,rfl|rfl⟩:=Ni hl
 ·rw [if_pos rfl,Bn (n:=0-((k:Int)+1)) (by omega) (by omega),if_neg (by omega),Bn (by omega) (by omega),show (k:Int)+1-1=(k:Int) by omega]
  refine ⟨_,Aq hk,Br.dec (λhn=>by omega) λ_=>⟨rfl,rfl,?_⟩⟩
  rw [Pe hk] at Gj⊢
  exact yu s _ (λz=>z=Ab s p.2.2.1[k]) hs Gj rfl
 ·rw [if_pos rfl,Bn (n:=0- -((k:Int)+1)) (by omega) (by omega),if_pos (by omega),Bn (by omega) (by omega),show (0:Int)- -((k:Int)+1)-1=(k:Int) by omega]
  refine ⟨_,Aq hk,Br.dec (λ_=>⟨_,if_pos (hv.perm _ (List.getElem_mem hk)),rfl,rfl,?_⟩) λhn=>by omega⟩
  rw [Pd hk] at Gj⊢
  exact yu s (Ai p.2.2.1[k]) (λz=>z=Ab s (Ai p.2.2.1[k])) hs Gj rfl
theorem kL:Sound Tryz.prog 118 Ic:=
 Sound.Cg Bi (Ae kS Aj) mixed Tryz.func118 (by kernel_rfl) (by kernel_rfl) λx h=>TX x.1 x.2.1 x.2.2.1 h
end Go.Proofs.YtfolipnappekaaaGreat

namespace Go.Proofs.YtfolipnappekaaaGreat
open Go.RowKit
abbrev rL:CK:= .row tI 2
abbrev xLL:CK:= .Du tL 26
def fE:List (List Int)->Nat
 | []=>0
 |r::rs=>r.length+fE rs
def low (k:Int):Prop:=0<=k/\k<=1099511627776
theorem Bb {α:Type} (xs:List α):List.take xs.length (List.drop 0 xs)=xs:=by rw [List.drop_zero,List.take_length]
end Go.Proofs.YtfolipnappekaaaGreat

namespace Go.Proofs.YtfolipnappekaaaGreat
open Go.RowKit
theorem gG: ∀(xs:List Int) (a:Int),xs.foldl max a=a\/xs.foldl max a∈xs
 | [],a=> .inl rfl
 |y::xs,a=>by
  simp only [List.foldl_cons]
  rcases gG xs (max a y) with h|h
  ·rw [h]
   rcases Int.le_total a y with h1|h1
   ·rw [Int.max_eq_right h1];exact .inr (by simp)
   ·rw [Int.max_eq_left h1];exact .inl rfl
  ·exact .inr (List.mem_cons_of_mem _ h)
theorem lS (a:List Int):At a a=true:=by simp [At]
theorem UY {n:Nat} {room:Int} (h: ¬lT n room<0):lT n room=room-n/\(n:Int)<=room:=by
 unfold lT at*
 split at h
 ·exact absurd (show (-1:Int)<0 by decide) h
 ·rename_i h1;rw [if_neg h1];exact ⟨rfl,by omega⟩
theorem BJ: ∀(xs:List (List Int)) (room:Int),0<=room-> ¬rK xs room<0->rK xs room=room-fE xs
 | [],room,_,_=>by simp [rK,fE]
 |r::xs,room,h0,h=>by
  simp only [rK,fE] at h⊢
  split at h
  ·exact absurd (show (-1:Int)<0 by decide) h
  ·rename_i h1
   rw [if_neg h1]
   have e1:=UY (n:=r.length) h1
   have e1:Xu r room=room-r.length/\(r.length:Int)<=room:=e1
   rw [BJ xs _ (by rw [e1.1];omega) h,e1.1]
   omega
theorem UW {xs:List (List Int)} {room:Int} (h: ¬Nv xs room<0):Nv xs room=room-xs.length-fE xs:=by
 unfold Nv at*
 split at h
 ·exact absurd (show (-1:Int)<0 by decide) h
 ·rename_i h1
  rw [if_neg h1]
  have e1:=UY h1
  rw [BJ xs _ (by rw [e1.1];omega) h,e1.1]
end Go.Proofs.YtfolipnappekaaaGreat

namespace Go.Proofs.YtfolipnappekaaaGreat
open Go.RowKit
theorem LK {b:Bool} {P:Prop} (h:(!(b==b))=true):P:=by simp at h
end Go.Proofs.YtfolipnappekaaaGreat

namespace Go.Proofs.YtfolipnappekaaaGreat
open Go.RowKit
noncomputable abbrev qV:MSpec:=jn [none] [(false, .Dm (.oslice tI))] false [none] [rL] (λx=>short (x.1.getD [])) (λx=>((x.1.getD [],()),()))
noncomputable abbrev Xz:MSpec:=jn [none] [(false, .Dm tL)] false [none] [rL] (λx=>short x.1) (λx=>((x.1,()),()))
noncomputable abbrev Fo:Spec:=Cg (.pair tL .unit) tL false true (λx=>short x.1) (λx=>x.1)
theorem VY (xs:Option (List Int)) (P:((List Int×Unit)×Unit)->Prop):(Br xs.isNone (P ((List.take 0 (List.drop 0 []),()),())) (0=0/\0=([]:List Int).length/\0+(xs.getD []).length<=Be/\P ((List.take ([]++xs.getD []).length (List.drop 0 ([]++xs.getD [])),()),())))=fnMW jh (look []) qV Tryz.f138 (xs,()) P:=by kernel_rfl
theorem IA (xs:List Int) (P:List Int->Prop):(0=0/\0=([]:List Int).length/\0+xs.length<=Be/\P (List.take ([]++xs).length (List.drop 0 ([]++xs))))=fnW Cd (look []) Fo Tryz.f116 (xs,()) P:=by kernel_rfl
theorem TY (xs:Option (List Int)) (h:short (xs.getD [])):fnMW jh (look []) qV Tryz.f138 (xs,()) (λ(z:(List Int×Unit)×Unit)=>z=((xs.getD [],()),())):=by
 unfold short at h
 refine Eq.mp (VY xs _) ⟨λhn=>?_,λ_=>⟨rfl,rfl,by show 0+(xs.getD []).length<=4294967296;omega,?_⟩⟩
 ·cases xs with
  |none=>rfl
  |some y=>cases hn
 ·simp only [Bb,List.nil_append]
theorem xp:Ay Tryz.prog 138 qV:=
 Ay.jn eN Aj mixed Tryz.func138 (by kernel_rfl) (by kernel_rfl) λx h=>TY x.1 h
theorem kN:Ay Tryz.prog 138 Xz:=Ay.ofO xp λ_ _ h=>⟨h,rfl⟩
theorem FT (xs:List Int) (h:short xs):fnW Cd (look []) Fo Tryz.f116 (xs,()) (λ(z:List Int)=>z=xs):=by
 unfold short at h
 refine Eq.mp (IA xs _) ⟨rfl,rfl,by show 0+xs.length<=4294967296;omega,?_⟩
 simp only [Bb,List.nil_append]
theorem Rg:Sound Tryz.prog 116 Fo:=
 Sound.Cg Bi Aj mixed Tryz.func116 (by kernel_rfl) (by kernel_rfl) λx h=>FT x.1 h
end Go.Proofs.YtfolipnappekaaaGreat

namespace Go.Proofs.YtfolipnappekaaaGreat
open Go.RowKit
def Cb (xs is:List Int):List Int:=is.map (Ja xs)
noncomputable abbrev Wt:MSpec:=jn [none,none] [(false, .Dm tL),(false, .Dm tL)] false [none] [rL] (λx=>short x.2.1/\Hz (List.length x.1) x.2.1) (λx=>((Cb x.1 x.2.1,()),()))
noncomputable abbrev Wv:Spec:=Cg (.pair tL (.pair tL .unit)) tL false true (λx=>short x.1/\Hz (List.length x.2.1) x.1) (λx=>Cb x.2.1 x.1)
def Rx (xs:List Int):ByteArray:=bytesOf (xs.map λx=>IntKind.u8.wrap x)
noncomputable abbrev Ge:Spec:=Cg (.pair tL .unit) .str false true (λx=>short x.1) (λx=>Rx x.1)
def ky (ps:List (List Int)) (p:List Int):Int:=Dy (λq=>decide (q=p)) ps 0
theorem PD (xs is:List Int) (P:((List Int×Unit)×Unit)->Prop):(((0:Int)<=(↑is.length:Int)/\(↑is.length:Int)<(↑Be:Int)+(1:Int))/\(↑is.length:Int)=(↑is.length:Int)/\0=0/\(List.replicate (↑is.length:Int).toNat (Int.ofNat (nat_lit 0))).length=(List.replicate (↑is.length:Int).toNat (Int.ofNat (nat_lit 0))).length/\Bk (λ(v3:Int×List Int×PUnit) (k4:Int×List Int×PUnit->Prop)=>Br (decide (v3.1<(↑is.length:Int))) (∃(y5:Int),idx is v3.1=some y5/\ ∃(y6:Int),idx xs y5=some y6/\((0:Int)<=v3.1/\v3.1<(↑v3.2.1.length:Int))/\0+v3.1.toNat<v3.2.1.length/\0=0/\v3.2.1.length=(v3.2.1.set (0+v3.1.toNat) y6).length/\k4 (IntKind.i64.wrap (v3.1+(1:Int)),v3.2.1.set (0+v3.1.toNat) y6,())) (P ((List.take v3.2.1.length (List.drop 0 v3.2.1),()),()))) ((0:Int),List.replicate (↑is.length:Int).toNat (Int.ofNat (nat_lit 0)),PUnit.unit))=fnMW jh (look []) Wt Tryz.f80 (xs,is,()) P:=by kernel_rfl
theorem PF (is xs:List Int) (P:List Int->Prop):(0=0/\0=([]:List Int).length/\Bk (λ(v3:Int×List Int×PUnit) (k4:Int×List Int×PUnit->Prop)=>Br (decide (v3.1<(↑is.length:Int))) (∃(y5:Int),idx is v3.1=some y5/\ ∃(y6:Int),idx xs y5=some y6/\0=0/\v3.2.1.length=v3.2.1.length/\v3.2.1.length+(List.take 1 (List.drop 0 [y6])).length<=Be/\0=0/\(v3.2.1++List.take 1 (List.drop 0 [y6])).length=(v3.2.1++List.take 1 (List.drop 0 [y6])).length/\k4 (IntKind.i64.wrap (v3.1+(1:Int)),v3.2.1++List.take 1 (List.drop 0 [y6]),())) (P (List.take v3.2.1.length (List.drop 0 v3.2.1)))) ((0:Int),[],PUnit.unit))=fnW Cd (look []) Wv Tryz.f78 (is,xs,()) P:=by kernel_rfl
theorem IK (xs:List Int) (P:ByteArray->Prop):(((0:Int)<=(↑xs.length:Int)/\(↑xs.length:Int)<(↑Be:Int)+(1:Int))/\(↑xs.length:Int)=(↑xs.length:Int)/\0=0/\(List.replicate (↑xs.length:Int).toNat (Int.ofNat (nat_lit 0))).length=(List.replicate (↑xs.length:Int).toNat (Int.ofNat (nat_lit 0))).length/\Bk (λ(v2:Int×List Int×PUnit) (k3:Int×List Int×PUnit->Prop)=>Br (decide (v2.1<(↑xs.length:Int))) (∃(y4:Int),idx xs v2.1=some y4/\((0:Int)<=v2.1/\v2.1<(↑v2.2.1.length:Int))/\0+v2.1.toNat<v2.2.1.length/\0=0/\v2.2.1.length=(v2.2.1.set (0+v2.1.toNat) (IntKind.u8.wrap y4)).length/\k3 (IntKind.i64.wrap (v2.1+(1:Int)),v2.2.1.set (0+v2.1.toNat) (IntKind.u8.wrap y4),())) (P (bytesOf (List.take v2.2.1.length (List.drop 0 v2.2.1))))) ((0:Int),List.replicate (↑xs.length:Int).toNat (Int.ofNat (nat_lit 0)),PUnit.unit))=fnW Cd (look []) Ge Tryz.f79 (xs,()) P:=by kernel_rfl
theorem qH (xs is:List Int):(Cb xs is).length=is.length:=by simp [Cb]
theorem YN {α:Type} (y:α):List.take 1 (List.drop 0 [y])= [y]:=rfl
theorem NG (xs is:List Int) (h:short is/\Hz xs.length is):fnMW jh (look []) Wt Tryz.f80 (xs,is,()) (λ(z:(List Int×Unit)×Unit)=>z=((Cb xs is,()),())):=by
 obtain ⟨h,hr⟩:=h
 unfold short at h
 refine Eq.mp (PD xs is _) ?_
 refine ⟨⟨by omega,by show (is.length:Int)<(4294967296:Int)+1;omega⟩,rfl,rfl,rfl,?_⟩
 have Ky:=qH xs is
 refine Ag is.length (λv=>v.1) (λj v=>v.2.1.length=(Cb xs is).length/\v.2.1.take j=(Cb xs is).take j) rfl ⟨by rw [Ky];simp,by simp⟩ ?_
 rintro j ⟨i,ys,⟨⟩⟩ K hj hi ⟨h1,h2⟩ hK
 dsimp only at hi h1 h2⊢
 subst hi
 refine Br.dec (λhl=>?_) λhl=>?_
 ·have hl:j<is.length:=by omega
  have hy:=hr _ (List.getElem_mem hl)
  refine ⟨_,Aq hl,_,dS hy.1 hy.2,⟨by omega,by omega⟩,by rw [Int.toNat_natCast];omega,rfl,by rw [List.length_set],?_⟩
  rw [Ah (by omega),Int.toNat_natCast,Nat.zero_add]
  have Gt:j<(Cb xs is).length:=by rw [Ky];exact hl
  have e:Ja xs is[j]=(Cb xs is)[j]:=by simp [Cb]
  rw [e]
  exact hK hl _ rfl ⟨by rw [List.length_set];exact h1,Ls Gt h1 h2⟩
 ·have:j=is.length:=by omega
  subst this
  rw [<-Ky,List.take_length,<-h1,List.take_length] at h2
  rw [List.drop_zero,List.take_length,h2]
theorem th:Ay Tryz.prog 80 Wt:=
 Ay.jn eN Aj mixed Tryz.func80 (by kernel_rfl) (by kernel_rfl) λx h=>NG x.1 x.2.1 h
theorem NI (is xs:List Int) (h:short is/\Hz xs.length is):fnW Cd (look []) Wv Tryz.f78 (is,xs,()) (λ(z:List Int)=>z=Cb xs is):=by
 obtain ⟨h,hr⟩:=h
 unfold short at h
 refine Eq.mp (PF is xs _) ⟨rfl,rfl,?_⟩
 have Ky:=qH xs is
 refine Ag is.length (λv=>v.1) (λj v=>v.2.1=(Cb xs is).take j) rfl rfl ?_
 rintro j ⟨i,ys,⟨⟩⟩ K hj hi h1 hK
 dsimp only at hi h1⊢
 subst hi
 refine Br.dec (λhl=>?_) λhl=>?_
 ·have hl:j<is.length:=by omega
  have hy:=hr _ (List.getElem_mem hl)
  have Gt:j<(Cb xs is).length:=by rw [Ky];exact hl
  refine ⟨_,Aq hl,_,dS hy.1 hy.2,rfl,rfl,?_,rfl,rfl,?_⟩
  ·show ys.length+1<=4294967296
   rw [h1,List.length_take];omega
  ·rw [Ah (by omega),YN]
   refine hK hl _ rfl ?_
   dsimp only
   rw [h1,List.take_succ_eq_append_getElem Gt]
   simp [Cb]
 ·have:j=is.length:=by omega
  subst this
  rw [Bb,h1,<-Ky,List.take_length]
theorem tm:Sound Tryz.prog 78 Wv:=
 Sound.Cg Bi Aj mixed Tryz.func78 (by kernel_rfl) (by kernel_rfl) λx h=>NI x.1 x.2.1 h
theorem GC (xs:List Int) (h:short xs):fnW Cd (look []) Ge Tryz.f79 (xs,()) (λ(z:ByteArray)=>z=Rx xs):=by
 unfold short at h
 refine Eq.mp (IK xs _) ?_
 refine ⟨⟨by omega,by show (xs.length:Int)<(4294967296:Int)+1;omega⟩,rfl,rfl,rfl,?_⟩
 have Ky:(xs.map λx=>IntKind.u8.wrap x).length=xs.length:=by simp
 refine Ag xs.length (λv=>v.1) (λj v=>v.2.1.length=(xs.map λx=>IntKind.u8.wrap x).length/\v.2.1.take j=(xs.map λx=>IntKind.u8.wrap x).take j) rfl ⟨by rw [Ky];simp,by simp⟩ ?_
 rintro j ⟨i,ys,⟨⟩⟩ K hj hi ⟨h1,h2⟩ hK
 dsimp only at hi h1 h2⊢
 subst hi
 refine Br.dec (λhl=>?_) λhl=>?_
 ·have hl:j<xs.length:=by omega
  refine ⟨_,Aq hl,⟨by omega,by omega⟩,by rw [Int.toNat_natCast];omega,rfl,by rw [List.length_set],?_⟩
  rw [Ah (by omega),Int.toNat_natCast,Nat.zero_add]
  have Gt:j<(xs.map λx=>IntKind.u8.wrap x).length:=by rw [Ky];exact hl
  have e:IntKind.u8.wrap xs[j]=(xs.map λx=>IntKind.u8.wrap x)[j]:=by simp
  rw [e]
  exact hK hl _ rfl ⟨by rw [List.length_set];exact h1,Ls Gt h1 h2⟩
 ·have:j=xs.length:=by omega
  subst this
  rw [<-Ky,List.take_length,<-h1,List.take_length] at h2
  rw [List.drop_zero,List.take_length,h2];rfl
theorem Ye:Sound Tryz.prog 79 Ge:=
 Sound.Cg Bi Aj mixed Tryz.func79 (by kernel_rfl) (by kernel_rfl) λx h=>GC x.1 h
theorem cI {α:Type} (P:α->Bool) (y:α): ∀(l:List α) (i:Int),0<=i->Dy P (l++ [y]) i=if Dy P l i<0 then (if P y=true then i+l.length else-1) else Dy P l i
 | [],i,_=>by simp [Dy]
 |x::r,i,h=>by
  simp only [List.cons_append,Dy,List.length_cons]
  split
  ·rw [if_neg (by omega)]
  ·rw [cI P y r (i+1) (by omega),show i+1+(r.length:Int)=i+((r.length+1:Nat):Int) by push_cast;omega]
theorem x5 (ps:List (List Int)) (q p:List Int):ky (ps++ [q]) p=if ky ps p<0 then (if q=p then (ps.length:Int) else-1) else ky ps p:=by
 unfold ky
 rw [cI _ _ _ _ (Int.le_refl 0)]
 simp only [decide_eq_true_eq,Int.zero_add]
def cy (p:List Int):Prop:= ∀x∈p,0<=x/\x<256
theorem QT {x y:Int} (hx:0<=x/\x<256) (hy:0<=y/\y<256) (h:UInt8.ofNat (IntKind.u8.wrap x).toNat=UInt8.ofNat (IntKind.u8.wrap y).toNat):x=y:=by
 have h:=congrArg UInt8.toNat h
 simp only [IntKind.wrap_u8,UInt8.toNat_ofNat'] at h
 omega
theorem bytes_inj: ∀(p q:List Int),cy p->cy q->(p.map λx=>UInt8.ofNat (IntKind.u8.wrap x).toNat)=(q.map λx=>UInt8.ofNat (IntKind.u8.wrap x).toNat)->p=q
 | [],[],_,_,_=>rfl
 | [],_::_,_,_,h=>by simp at h
 |_::_,[],_,_,h=>by simp at h
 |x::p,y::q,hp,hq,h=>by
  simp only [List.map_cons,List.cons.injEq] at h
  rw [QT (hp x (by simp)) (hq y (by simp)) h.1,bytes_inj p q (λz hz=>hp z (by simp [hz])) (λz hz=>hq z (by simp [hz])) h.2]
theorem key_inj {p q:List Int} (hp:cy p) (hq:cy q) (h:Rx p=Rx q):p=q:=by
 refine bytes_inj p q hp hq ?_
 simp only [Rx,bytesOf,ByteArray.mk.injEq,List.map_map] at h
 have h:=congrArg Array.toList h
 simpa [Function.comp_def] using h
def KM (m:ByteArray->Option Int) (ps:List (List Int)):Prop:= ∀p,cy p->m (Rx p)=if ky ps p<0 then none else some (ky ps p)
theorem KM.nil:KM (λ_=>none) []:= λp _=>by
 rw [if_pos (by unfold ky;simp [Dy])]
theorem KM.add {m:ByteArray->Option Int} {ps:List (List Int)} {q:List Int} (h:KM m ps) (hq:cy q) (hn:ky ps q<0):KM (eQ m (Rx q) (ps.length:Int)) (ps++ [q]):=by
 intro p hp
 rw [x5]
 unfold eQ
 by_cases e:p=q
 ·subst e
  rw [if_pos rfl,if_pos hn,if_pos rfl,if_neg (by omega)]
 ·rw [if_neg (λhk=>e (key_inj hp hq hk)),h p hp]
  have e': ¬q=p:= λh=>e h.symm
  rw [if_neg e']
  by_cases MD:ky ps p<0
  ·rw [if_pos MD,if_pos MD,if_pos (by decide)]
  ·rw [if_neg MD,if_neg MD,if_neg MD]
end Go.Proofs.YtfolipnappekaaaGreat

namespace Go.Proofs.YtfolipnappekaaaGreat
open Go.RowKit
def fC (n:Nat) (last:Int):List Int:=(Af n).filter λl=>!(l== -last)
noncomputable abbrev Jg:Spec:=Cg (.pair Cp .unit) tL false true (λx=>List.length x.1.2.2.1<=8) (λx=>Af (List.length x.1.2.2.1))
noncomputable abbrev Zi:Spec:=Cg (.pair Cp (.pair tI .unit)) tL false true (λx=>List.length x.1.2.2.1<=8/\ -8<=x.2.1/\x.2.1<=8) (λx=>fC (List.length x.1.2.2.1) x.2.1)
abbrev kX:Type:=Int×Int×ByteArray×List (List Int)×List Int×PUnit
theorem CD (p:Int×ByteArray×List (List Int)×Unit) (P:List Int->Prop):(0=0/\0=([]:List Int).length/\Bk (λ(v2:kX) (k3:kX->Prop)=>Br (decide (v2.1<=(↑v2.2.2.2.1.length:Int))) (0=0/\v2.2.2.2.2.1.length=v2.2.2.2.2.1.length/\v2.2.2.2.2.1.length+(List.take 2 (List.drop 0 [v2.1,IntKind.i64.wrap ((0:Int)-v2.1)])).length<=Be/\0=0/\(v2.2.2.2.2.1++List.take 2 (List.drop 0 [v2.1,IntKind.i64.wrap ((0:Int)-v2.1)])).length=(v2.2.2.2.2.1++List.take 2 (List.drop 0 [v2.1,IntKind.i64.wrap ((0:Int)-v2.1)])).length/\k3 (IntKind.i64.wrap (v2.1+(1:Int)),v2.2.1,v2.2.2.1,v2.2.2.2.1,v2.2.2.2.2.1++List.take 2 (List.drop 0 [v2.1,IntKind.i64.wrap ((0:Int)-v2.1)]),())) (P (List.take v2.2.2.2.2.1.length (List.drop 0 v2.2.2.2.2.1)))) ((1:Int),p.1,p.2.1,p.2.2.1,[],PUnit.unit))=fnW Cd (look []) Jg Tryz.f141 (p,()) P:=by kernel_rfl
theorem ZK (p:Int×ByteArray×List (List Int)×Unit) (l:Int) (P:List Int->Prop):(∃(y3:List Int),Jg.fn ((p.1,p.2.1,p.2.2.1,()),())=some y3/\0=0/\0=([]:List Int).length/\Bk (λ(v4:Int×List Int×PUnit) (k5:Int×List Int×PUnit->Prop)=>Br (decide (v4.1<(↑y3.length:Int))) (Br (l==(0:Int)) (∃(y6:Int),idx y3 v4.1=some y6/\0=0/\v4.2.1.length=v4.2.1.length/\v4.2.1.length+(List.take 1 (List.drop 0 [y6])).length<=Be/\0=0/\(v4.2.1++List.take 1 (List.drop 0 [y6])).length=(v4.2.1++List.take 1 (List.drop 0 [y6])).length/\k5 (IntKind.i64.wrap (v4.1+(1:Int)),v4.2.1++List.take 1 (List.drop 0 [y6]),())) (∃(y6:Int),idx y3 v4.1=some y6/\Br (y6 !=IntKind.i64.wrap ((0:Int)-l)) (∃(y7:Int),idx y3 v4.1=some y7/\0=0/\v4.2.1.length=v4.2.1.length/\v4.2.1.length+(List.take 1 (List.drop 0 [y7])).length<=Be/\0=0/\(v4.2.1++List.take 1 (List.drop 0 [y7])).length=(v4.2.1++List.take 1 (List.drop 0 [y7])).length/\k5 (IntKind.i64.wrap (v4.1+(1:Int)),v4.2.1++List.take 1 (List.drop 0 [y7]),())) (0=0/\v4.2.1.length=v4.2.1.length/\k5 (IntKind.i64.wrap (v4.1+(1:Int)),v4.2.1,())))) (P (List.take v4.2.1.length (List.drop 0 v4.2.1)))) ((0:Int),[],PUnit.unit))=fnW Cd (look [(141,Jg)]) Zi Tryz.f117 (p,l,()) P:=by kernel_rfl
theorem AF (p:PP) (h:List.length p.2.2.1<=8):fnW Cd (look []) Jg Tryz.f141 (p,()) (λ(z:List Int)=>z=Af (List.length p.2.2.1)):=by
 refine Eq.mp (CD p _) ⟨rfl,rfl,?_⟩
 refine Bk.mk (λv=> ∃j:Nat,j<=List.length p.2.2.1/\v=((j:Int)+1,p.1,p.2.1,p.2.2.1,Af j,())) (λv=>List.length p.2.2.1+1-v.1.toNat) ⟨0,Nat.zero_le _,rfl⟩ ?_
 rintro _ ⟨j,hj,rfl⟩
 dsimp only
 refine Br.dec (λhl=>?_) λhl=>?_
 ·refine ⟨rfl,rfl,?_,rfl,rfl,⟨j+1,by omega,?_⟩,?_⟩
  ·show (Af j).length+2<=4294967296
   rw [Jn];omega
  ·rw [Xs,Bn (n:=(j:Int)+1+1) (by omega) (by omega),Bn (n:=0-((j:Int)+1)) (by omega) (by omega),Int.zero_sub]
   rfl
  ·rw [Bn (by omega) (by omega)];omega
 ·have:j=List.length p.2.2.1:=by omega
  subst this
  rw [Bb]
theorem cP:Sound Tryz.prog 141 Jg:=
 Sound.Cg Bi Aj mixed Tryz.func141 (by kernel_rfl) (by kernel_rfl) λx h=>AF x.1 h
theorem YQ (p:PP) (l:Int) (h:List.length p.2.2.1<=8/\ -8<=l/\l<=8):fnW Cd (look [(141,Jg)]) Zi Tryz.f117 (p,l,()) (λ(z:List Int)=>z=fC (List.length p.2.2.1) l):=by
 refine Eq.mp (ZK p l _) ⟨_,if_pos h.1,rfl,rfl,?_⟩
 dsimp only
 unfold fC
 have h0: ∀y∈Af (List.length p.2.2.1),y≠0:= λy hy=>(Kr hy).1
 have hlen:(Af (List.length p.2.2.1)).length<=16:=by rw [Jn];omega
 refine Ag (Af (List.length p.2.2.1)).length (λv=>v.1) (λj v=>v.2.1=((Af (List.length p.2.2.1)).take j).filter λy=>!(y== -l)) rfl (by simp) ?_
 rintro j ⟨i,ys,⟨⟩⟩ K hj hi h1 hK
 dsimp only at hi h1⊢
 subst hi h1
 have PT:=List.length_filter_le (λy=>!(y== -l)) ((Af (List.length p.2.2.1)).take j)
 rw [List.length_take] at PT
 refine Br.dec (λhl=>?_) λhl=>?_
 ·have hl:j<(Af (List.length p.2.2.1)).length:=by omega
  have gN: ∀b:Bool,((Af (List.length p.2.2.1))[j]== -l)=b->((Af (List.length p.2.2.1)).take (j+1)).filter (λy=>!(y== -l))=((Af (List.length p.2.2.1)).take j).filter (λy=>!(y== -l))++(if b then [] else [(Af (List.length p.2.2.1))[j]]):= λb hb=>by
   rw [List.take_succ_eq_append_getElem hl,List.filter_append]
   cases b<;>simp [hb]
  rw [Ah (by omega)]
  have grow:((Af (List.length p.2.2.1))[j]== -l)=false->((0:Nat)=0/\(((Af (List.length p.2.2.1)).take j).filter λy=>!(y== -l)).length=(((Af (List.length p.2.2.1)).take j).filter λy=>!(y== -l)).length/\(((Af (List.length p.2.2.1)).take j).filter λy=>!(y== -l)).length+(List.take 1 (List.drop 0 [(Af (List.length p.2.2.1))[j]])).length<=Be/\(0:Nat)=0/\
    ((((Af (List.length p.2.2.1)).take j).filter λy=>!(y== -l))++List.take 1 (List.drop 0 [(Af (List.length p.2.2.1))[j]])).length=((((Af (List.length p.2.2.1)).take j).filter λy=>!(y== -l))++List.take 1 (List.drop 0 [(Af (List.length p.2.2.1))[j]])).length/\K (((j+1:Nat):Int),(((Af (List.length p.2.2.1)).take j).filter λy=>!(y== -l))++List.take 1 (List.drop 0 [(Af (List.length p.2.2.1))[j]]),())):= λhb=>by
   refine ⟨rfl,rfl,?_,rfl,rfl,?_⟩
   ·show _+1<=4294967296
    omega
   ·exact hK hl _ rfl (by have:=gN false hb;simpa using this.symm)
  refine ⟨λhz=>⟨_,Aq hl,grow ?_⟩,λhz=>⟨_,Aq hl,⟨λEk=>⟨_,Aq hl,grow ?_⟩,λEk=>⟨rfl,rfl,?_⟩⟩⟩⟩
  ·simp only [beq_iff_eq] at hz
   have:=h0 _ (List.getElem_mem hl)
   simp only [beq_eq_false_iff_ne]
   omega
  ·rw [Bn (by omega) (by omega)] at Ek
   simp only [bne_iff_ne,ne_eq] at Ek
   simp only [beq_eq_false_iff_ne]
   omega
  ·rw [Bn (by omega) (by omega)] at Ek
   simp only [bne_eq_false_iff_eq] at Ek
   exact hK hl _ rfl (by have:=gN true (by simp only [beq_iff_eq];omega);simpa using this.symm)
 ·have:j=(Af (List.length p.2.2.1)).length:=by omega
  subst this
  rw [Bb,List.take_length]
theorem AY:Sound Tryz.prog 117 Zi:=
 Sound.Cg Bi (Ae cP Aj) mixed Tryz.func117 (by kernel_rfl) (by kernel_rfl) λx h=>YQ x.1 x.2.1 h
theorem UX {p:PP} {room:Int} (hr:roomy room) (h: ¬qk p room<0):(fE p.2.2.1:Int)<=room-qk p room/\roomy (qk p room):=by
 unfold qk at h⊢
 split at h
 ·exact absurd (show (-1:Int)<0 by decide) h
 ·rename_i h1
  rw [if_neg h1]
  split at h
  ·exact absurd (show (-1:Int)<0 by decide) h
  ·rename_i h2
   rw [if_neg h2]
   have e2:=UW h2
   obtain ⟨r1,r2⟩:=hr
   unfold roomy
   omega
end Go.Proofs.YtfolipnappekaaaGreat

namespace Go.Proofs.YtfolipnappekaaaGreat
open Go.RowKit
def wF (v:Int):List Int->Nat
 | []=>0
 |x::r=>if x>v then wF v r+1 else 0
def YJ (v:Int) (t:List Int):Option (List Int):=if wF v t=0 then none else some (Ja t ((wF v t-1:Nat):Int)::(t.set (wF v t-1) v).reverse)
def dX:List Int->Option (List Int)
 | []=>none
 |v::t=>match dX t with
  |some t'=>some (v::t')
  |none=>YJ v t
noncomputable abbrev Eg:MSpec:=jn [none] [(false, .Dm tL)] false [none] [rL] (λx=>short x.1) (λx=>((x.1,()),()))
theorem BV (xs:List Int) (P:((List Int×Unit)×Unit)->Prop):(0=0/\0=([]:List Int).length/\0+xs.length<=Be/\P ((List.take ([]++xs).length (List.drop 0 ([]++xs)),()),()))=fnMW jh (look []) Eg Tryz.f116 (xs,()) P:=by kernel_rfl
theorem zO {s s':List Int} (h:dX s=some s'): ∀pre:List Int,dX (pre++s)=some (pre++s')
 | []=>h
 |v::p=>by rw [List.cons_append,dX,zO h p];rfl
theorem YZ {α:Type} (pre:List α) (v a:α) (t:List α):(pre++v::t).set pre.length a=pre++a::t:=by
 rw [List.set_append,if_neg (by omega)];simp
theorem zW (xs:List Int) (h:short xs):fnMW jh (look []) Eg Tryz.f116 (xs,()) (λ(z:(List Int×Unit)×Unit)=>z=((xs,()),())):=by
 unfold short at h
 refine Eq.mp (BV xs _) ⟨rfl,rfl,by show 0+xs.length<=4294967296;omega,?_⟩
 simp only [Bb,List.nil_append]
theorem oa:Ay Tryz.prog 116 Eg:=
 Ay.jn eN Aj mixed Tryz.func116 (by kernel_rfl) (by kernel_rfl) λx h=>zW x.1 h
inductive IQ:List Int->List (List Int)->List Int->Prop where
 |one (a:List Int):IQ a [a] a
 |more {a c b:List Int} {L:List (List Int)} :dX a=some c->IQ c L b->IQ a (a::L) b
theorem IQ.cons {a b:List Int} {L:List (List Int)} (h:IQ a L b) (v:Int):IQ (v::a) (L.map (v:: ·)) (v::b):=by
 induction h with
 |one a=>exact .one _
 |more h3 _ ih=>exact .more (zO h3 [v]) ih
theorem IQ.head {a b:List Int} {L:List (List Int)} (h:IQ a L b): ∃M,L=a::M:=by
 cases h with
 |one=>exact ⟨_,rfl⟩
 |more _ _=>exact ⟨_,rfl⟩
theorem IQ.at {a b:List Int} {L:List (List Int)} (h:IQ a L b): ∀j (hj:j<L.length),(∀h2:j+1<L.length,dX L[j]=some L[j+1])/\(j+1=L.length->L[j]=b):=by
 induction h with
 |one a=>
  intro j hj
  simp only [List.length_singleton] at hj
  have:j=0:=by omega
  subst this
  exact ⟨λh2=>by simp at h2,λ_=>rfl⟩
 |more h3 h4 ih=>
  intro j hj
  rcases j with _|j
  ·obtain ⟨M,hM⟩:=h4.head
   refine ⟨λh2=>?_,λh2=>?_⟩
   ·simp only [List.getElem_cons_zero,List.getElem_cons_succ]
    subst hM
    exact h3
   ·subst hM;simp at h2
  ·have:=ih j (by simpa using hj)
   refine ⟨λh2=>?_,λh2=>?_⟩
   ·simp only [List.getElem_cons_succ]
    exact this.1 (by simpa using h2)
   ·simp only [List.getElem_cons_succ]
    exact this.2 (by simpa using h2)
theorem IQ.distinct {a b:List Int} {L:List (List Int)} (h:IQ a L b) (hb:dX b=none): ∀k i j (hi:i<L.length) (hj:j<L.length),L.length-j=k->i<j->L[i]≠L[j]:=by
 intro k
 induction k with
 |zero=>intro i j hi hj hk;omega
 |succ k ih=>
  intro i j hi hj hk dN he
  by_cases e:j+1<L.length
  ·have h1:=(h.at i hi).1 (by omega)
   have h2:=(h.at j hj).1 e
   rw [he,h2] at h1
   exact ih (i+1) (j+1) (by omega) e (by omega) (by omega) (Option.some.inj h1).symm
  ·have h1:=(h.at i hi).1 (by omega)
   have h2:=(h.at j hj).2 (by omega)
   rw [he,h2,hb] at h1
   cases h1
theorem IQ.idx {a b:List Int} {L:List (List Int)} (h:IQ a L b) (hb:dX b=none) {j:Nat} (hj:j<L.length):L.idxOf L[j]=j:=by
 have h1:L.idxOf L[j]<L.length:=List.idxOf_lt_length_of_mem (List.getElem_mem _)
 have h2:L[L.idxOf L[j]]=L[j]:=List.getElem_idxOf h1
 rcases Nat.lt_trichotomy (L.idxOf L[j]) j with h3|h3|h3
 ·exact absurd h2 (h.distinct hb _ _ _ h1 hj rfl h3)
 ·exact h3
 ·exact absurd h2.symm (h.distinct hb _ _ _ hj h1 rfl h3)
end Go.Proofs.YtfolipnappekaaaGreat

namespace Go.Proofs.YtfolipnappekaaaGreat
open Go.RowKit
def Cl:List Int->List Int->Int
 | [],[]=>0
 | [],_::_=> -1
 |_::_,[]=>1
 |x::a,y::b=>if x<y then-1 else if x>y then 1 else Cl a b
def bK (a b:List Int):Bool:=decide (Cl a b<0)
noncomputable abbrev Ti:Spec:=Cg (.pair tL (.pair tL .unit)) .bool false true (λx=>short x.1/\List.length x.1=List.length x.2.1) (λx=>bK x.1 x.2.1)
theorem IG (a b:List Int) (P:Bool->Prop):(Bk (λ(v3:Int×PUnit) (k4:Int×PUnit->Prop)=>Br (decide (v3.1<(↑a.length:Int))) (∃(y5:Int),idx a v3.1=some y5/\ ∃(y6:Int),idx b v3.1=some y6/\Br (y5 !=y6) (∃(y7:Int),idx a v3.1=some y7/\ ∃(y8:Int),idx b v3.1=some y8/\P (decide (y7<y8))) (k4 (IntKind.i64.wrap (v3.1+(1:Int)),()))) (P false)) ((0:Int),PUnit.unit))=fnW Cd (look []) Ti Tryz.f158 (a,b,()) P:=by kernel_rfl
theorem Sound.ofO {P:Program} {f:FuncId} {e:Ty} {r res:Ty} {Ct fresh:Bool} {pre:(Ty.pair (.oslice e) r).den->Prop} {val:(Ty.pair (.oslice e) r).den->res.den} {ee:(Ty.pair (.slice e) r).den->Prop} {rS:(Ty.pair (.slice e) r).den->res.den}
  (h:Sound P f (Go.Proofs.YtfolipnappekaaaGreat.Cg (.pair (.oslice e) r) res Ct fresh pre val))
  (hp: ∀(o:Option (List e.den)) (y:r.den),ee (o.getD [],y)->pre (o,y)/\val (o,y)=rS (o.getD [],y)):Sound P f (Go.Proofs.YtfolipnappekaaaGreat.Cg (.pair (.slice e) r) res Ct fresh ee rS):=by
 refine ⟨h.enter,λw S vs x y hS h2 h5=>?_⟩
 obtain ⟨xs,rest⟩:=x
 cases vs with
 |nil=>exact h2.elim
 |cons u us=>
  obtain ⟨h7,h8⟩:=h2
  obtain ⟨ox,h9,rfl⟩:=h7.told
  have a5:ee (ox.getD [],rest):=Classical.byContradiction λhn=>by
   have:(Go.Proofs.YtfolipnappekaaaGreat.Cg (.pair (.slice e) r) res Ct fresh ee rS).fn (ox.getD [],rest)=none:=if_neg hn
   rw [this] at h5;cases h5
  obtain ⟨k1,k2⟩:=hp ox rest a5
  have hv:(Go.Proofs.YtfolipnappekaaaGreat.Cg (.pair (.slice e) r) res Ct fresh ee rS).fn (ox.getD [],rest)=some (rS (ox.getD [],rest)):=if_pos a5
  rw [hv] at h5
  have h5:=Option.some.inj h5
  exact h.calls w S (u::us) (ox,rest) y hS ⟨h9,h8⟩ ((if_pos k1).trans (by rw [k2];exact congrArg some h5))
theorem FZ (a b:List Int) (h:short a/\a.length=b.length):fnW Cd (look []) Ti Tryz.f158 (a,b,()) (λ(z:Bool)=>z=bK a b):=by
 obtain ⟨ha,hb⟩:=h
 unfold short at ha
 refine Eq.mp (IG a b _) ?_
 refine Ag a.length (λv=>v.1) (λj _=>Cl (a.drop j) (b.drop j)=Cl a b) rfl (by simp) ?_
 rintro j ⟨i,⟨⟩⟩ K hj hi hR2 hK
 dsimp only at hi⊢
 subst hi
 refine Br.dec (λhl=>?_) λhl=>?_
 ·have hl:j<a.length:=by omega
  have XV:j<b.length:=by omega
  rw [List.drop_eq_getElem_cons hl,List.drop_eq_getElem_cons XV] at hR2
  simp only [Cl] at hR2
  refine ⟨_,Aq hl,_,Aq XV,⟨λEk=>?_,λEk=>?_⟩⟩
  ·refine ⟨_,Aq hl,_,Aq XV,?_⟩
   have Ek:a[j]≠b[j]:=by simpa using Ek
   unfold bK
   rw [<-hR2]
   by_cases h1:a[j]<b[j]
   ·rw [if_pos h1];simp [h1]
   ·rw [if_neg h1,if_pos (by omega)];simp [h1]
  ·have Ek:a[j]=b[j]:=by simpa using Ek
   rw [if_neg (by omega),if_neg (by omega)] at hR2
   rw [Ah (by omega)]
   exact hK hl _ rfl hR2
 ·have:j=a.length:=by omega
  subst this
  rw [List.drop_length,List.drop_eq_nil_of_le (by omega)] at hR2
  unfold bK
  rw [<-hR2]
  rfl
theorem ru:Sound Tryz.prog 158 Ti:=
 Sound.Cg Bi Aj mixed Tryz.func158 (by kernel_rfl) (by kernel_rfl) λx h=>FZ x.1 x.2.1 h
end Go.Proofs.YtfolipnappekaaaGreat

namespace Go.Proofs.YtfolipnappekaaaGreat
open Go.RowKit
abbrev SS:Type:=List (List Int)×List Int×List Int×Bool×Unit
abbrev rLS:CK:= .row tL 26
abbrev rN:CK:= .row tI 3
def Db (L:List (List Int)) (Il:List Int) (s:List Int):Nat:=(Il.takeWhile λi=>bK (L.getD i.toNat []) s).length
structure Dn (m:Nat) (L:List (List Int)) (Il:List Int):Prop where
 so:L.length<=3000
 len: ∀x∈L,x.length=m
 short:m<=20
 perm:Il.Perm (upto L.length)
 sorted:Il.Pairwise λi j=>bK (L.getD i.toNat []) (L.getD j.toNat [])=true
def nt (L:List (List Int)) (s:List Int):Int:=if s∈L then (L.idxOf s:Int) else-1
def Rw (Il:List Int) (k:Nat) (x:Int):List Int:=Il.take k++x::Il.drop k
noncomputable abbrev c7:Spec:=Cg (.pair fS (.pair tL .unit)) tI false true (λx=>Dn (List.length x.2.1) x.1.1 x.1.2.2.1) (λx=>(Db x.1.1 x.1.2.2.1 x.2.1:Int))
noncomputable abbrev ba:Spec:=Cg (.pair fS (.pair tL .unit)) tI false true (λx=>Dn (List.length x.2.1) x.1.1 x.1.2.2.1) (λx=>nt x.1.1 x.2.1)
noncomputable abbrev jb:MSpec:=jn [some 4,none,none] [(false,rLS),(false,rL),(false,rN),(false, .Dm .bool),(false, .Dm tL),(false, .Dm tI)] false [some 4] [rLS,rL,rN, .Dm .bool]
 (λx=>Dn (List.length x.2.2.2.2.1) x.1 x.2.2.1/\List.length x.2.1<=3000) (λx=>((x.1++ [x.2.2.2.2.1],x.2.1++ [x.2.2.2.2.2.1],Rw x.2.2.1 (Db x.1 x.2.2.1 x.2.2.2.2.1) (List.length x.1),x.2.2.2.1,()),()))
def Zn (L:List (List Int)):List Int:=(List.range L.length).foldl (λ(S:List Int) (i:Nat)=>Rw S (Db (L.take i) S (L.getD i [])) (i:Int)) []
def Ht (g:List (List Int)) (x:List Int) (d:Int):List Int->List (List Int)->List Int->List (List Int)×List Int×Bool
 | [],L,D=>(L,D,true)
 |l::ls,L,D=>if Ab x (An g l)∈L then Ht g x d ls L D else if L.length=3000 then (L,D,false) else Ht g x d ls (L++ [Ab x (An g l)]) (D++ [d+1])
def Mh (g:List (List Int)) (ls:List Int):Nat->Nat->List (List Int)->List Int->List (List Int)×List Int×Bool
 |0,_,L,D=>(L,D,true)
 |f+1,k,L,D=>if k<L.length then (match Ht g (L.getD k []) (D.getD k 0) ls L D with
  |(L',D',true)=>Mh g ls f (k+1) L' D'
  |(L',D',false)=>(L',D',false)) else (L,D,true)
def Gk (g:List (List Int)) (s:List Int):List (List Int)×List Int×Bool:=Mh g (Af g.length) 3001 0 [s] [0]
def Ms (g:List (List Int)) (s:List Int):SS:=((Gk g s).1,(Gk g s).2.1,Zn (Gk g s).1,(Gk g s).2.2,())
noncomputable abbrev fP:Spec:=Cg (.pair Cp (.pair tL .unit)) fS false false (λx=>Bx x.1=true/\List.length x.2.1<=20/\ ∀y∈x.2.1,0<=y/\y<x.1.1) (λx=>Ms x.1.2.2.1 x.2.1)
abbrev KU:Type:=Int×Int×List (List Int)×List Int×List Int×Bool×PUnit
theorem Aex (f:List (List Int)×List Int×List Int×Bool×Unit) (s:List Int) (P:Int->Prop):(Bk (λ(v3:KU) (k4:KU->Prop)=>Br (decide (v3.1<v3.2.1)) ((2:Int)≠(0:Int)/\ ∃(y5:Int),idx v3.2.2.2.2.1 (IntKind.i64.wrap ((IntKind.i64.wrap (v3.1+v3.2.1)).tdiv (2:Int)))=some y5/\ ∃(y6:List Int),idx v3.2.2.1 y5=some y6/\ ∃(y7:Bool),Ti.fn (y6,s,())=some y7/\Br y7 (k4 (IntKind.i64.wrap (IntKind.i64.wrap ((IntKind.i64.wrap (v3.1+v3.2.1)).tdiv (2:Int))+(1:Int)),v3.2.1,v3.2.2.1,v3.2.2.2.1,v3.2.2.2.2.1,v3.2.2.2.2.2.1,())) (k4 (v3.1,IntKind.i64.wrap ((IntKind.i64.wrap (v3.1+v3.2.1)).tdiv (2:Int)),v3.2.2.1,v3.2.2.2.1,v3.2.2.2.2.1,v3.2.2.2.2.2.1,()))) (P v3.1)) ((0:Int),(↑f.2.2.1.length:Int),f.1,f.2.1,f.2.2.1,f.2.2.2.1,PUnit.unit))=fnW Cd (look [(158,Ti)]) c7 Tryz.f149 (f,s,()) P:=by kernel_rfl
theorem WC (f:List (List Int)×List Int×List Int×Bool×Unit) (s:List Int) (P:Int->Prop):(∃(y3:Int),c7.fn ((f.1,f.2.1,f.2.2.1,f.2.2.2.1,()),s,())=some y3/\Br (decide (y3<(↑f.2.2.1.length:Int))) (∃(y4:Int),idx f.2.2.1 y3=some y4/\ ∃(y5:List Int),idx f.1 y4=some y5/\ ∃(y6:Bool),Ap.fn (y5,s,())=some y6/\Br y6 (∃(y7:Int),idx f.2.2.1 y3=some y7/\P y7) (P (-1:Int))) (P (-1:Int)))=fnW Cd (look [(149,c7),(101,Ap)]) ba Tryz.f132 (f,s,()) P:=by kernel_rfl
theorem Aev (L:List (List Int)) (D S:List Int) (b:Bool) (s:List Int) (d:Int) (P:((List (List Int)×List Int×List Int×Bool×Unit)×Unit)->Prop):(∃(y7:Int),c7.fn ((List.take L.length (List.drop 0 L),List.take D.length (List.drop 0 D),List.take S.length (List.drop 0 S),b,()),s,())=some y7/\0=0/\S.length=S.length/\S.length+(List.take 1 (List.drop 0 [(0:Int)])).length<=Be/\((0:Int)<=IntKind.i64.wrap (y7+(1:Int))/\IntKind.i64.wrap (y7+(1:Int))<=(↑(S++List.take 1 (List.drop 0 [(0:Int)])).length:Int)/\(↑(S++List.take 1 (List.drop 0 [(0:Int)])).length:Int)<=(↑(S++List.take 1 (List.drop 0 [(0:Int)])).length:Int))/\((0:Int)<=y7/\y7<=(↑(S++List.take 1 (List.drop 0 [(0:Int)])).length:Int)/\(↑(S++List.take 1 (List.drop 0 [(0:Int)])).length:Int)<=(↑(S++List.take 1 (List.drop 0 [(0:Int)])).length:Int))/\((0:Int)<=y7/\y7<(↑(S++List.take 1 (List.drop 0 [(0:Int)])).length:Int))/\0+y7.toNat<(Bs (S++List.take 1 (List.drop 0 [(0:Int)])) (0+(IntKind.i64.wrap (y7+(1:Int))).toNat) (List.take ((↑(S++List.take 1 (List.drop 0 [(0:Int)])).length:Int).toNat-(IntKind.i64.wrap (y7+(1:Int))).toNat) (List.take ((↑(S++List.take 1 (List.drop 0 [(0:Int)])).length:Int).toNat-y7.toNat) (List.drop (0+y7.toNat) (S++List.take 1 (List.drop 0 [(0:Int)])))))).length/\0=0/\L.length=L.length/\L.length+(List.take 1 (List.drop 0 [s])).length<=Be/\0=0/\D.length=D.length/\D.length+(List.take 1 (List.drop 0 [d])).length<=Be/\P ((List.take (L++List.take 1 (List.drop 0 [s])).length (List.drop 0 (L++List.take 1 (List.drop 0 [s]))),List.take (D++List.take 1 (List.drop 0 [d])).length (List.drop 0 (D++List.take 1 (List.drop 0 [d]))),List.take (S++List.take 1 (List.drop 0 [(0:Int)])).length (List.drop 0 ((Bs (S++List.take 1 (List.drop 0 [(0:Int)])) (0+(IntKind.i64.wrap (y7+(1:Int))).toNat) (List.take ((↑(S++List.take 1 (List.drop 0 [(0:Int)])).length:Int).toNat-(IntKind.i64.wrap (y7+(1:Int))).toNat) (List.take ((↑(S++List.take 1 (List.drop 0 [(0:Int)])).length:Int).toNat-y7.toNat) (List.drop (0+y7.toNat) (S++List.take 1 (List.drop 0 [(0:Int)])))))).set (0+y7.toNat) (↑L.length:Int))),b,()),()))=fnMW jh (look [(149,c7)]) jb Tryz.f148 (L,D,S,b,s,d,()) P:=by kernel_rfl
abbrev kZ:Type:=Int×Int×ByteArray×List (List Int)×Bool×Bool×List (List Int)×List Int×List Int×List (List Int)×List Int×List Int×PUnit
abbrev BL:Type:=(List (List Int)×List Int×List Int×Bool×PUnit)×PUnit
theorem ZO (p:Int×ByteArray×List (List Int)×Unit) (s:List Int) (P:(List (List Int)×List Int×List Int×Bool×Unit)->Prop):(∃(y3:List Int),Fo.fn (s,())=some y3/\ ∃(y4:BL),jb.fn ([],[],[],false,y3,(0:Int),())=some y4/\ ∃(y5:List Int),Jg.fn ((p.1,p.2.1,p.2.2.1,()),())=some y5/\0=0/\0=([]:List Int).length/\0=0/\0=([]:List Int).length/\0=0/\0=([]:List Int).length/\0=0/\y4.1.1.length=y4.1.1.length/\0=0/\y4.1.2.1.length=y4.1.2.1.length/\0=0/\y4.1.2.2.1.length=y4.1.2.2.1.length/\Bk (λ(v6:kZ) (k7:kZ->Prop)=>Br (decide (v6.1<(↑v6.2.2.2.2.2.2.2.2.2.1.length:Int))) (0=0/\v6.2.2.2.2.2.2.1.length=v6.2.2.2.2.2.2.1.length/\0=0/\v6.2.2.2.2.2.2.2.1.length=v6.2.2.2.2.2.2.2.1.length/\0=0/\v6.2.2.2.2.2.2.2.2.1.length=v6.2.2.2.2.2.2.2.2.1.length/\0=0/\v6.2.2.2.2.2.2.2.2.2.1.length=v6.2.2.2.2.2.2.2.2.2.1.length/\0=0/\v6.2.2.2.2.2.2.2.2.2.2.1.length=v6.2.2.2.2.2.2.2.2.2.2.1.length/\0=0/\v6.2.2.2.2.2.2.2.2.2.2.2.1.length=v6.2.2.2.2.2.2.2.2.2.2.2.1.length/\Bk (λ(v8:kZ) (k9:kZ->Prop)=>Br (decide (v8.1<(↑y5.length:Int))) (((0:Int)<=v6.1/\v6.1<(↑v8.2.2.2.2.2.2.2.2.2.1.length:Int))/\ ∃(Iu:List Int),v8.2.2.2.2.2.2.2.2.2.1[0+v6.1.toNat]?=some Iu/\ ∃(ir:Int),idx y5 v8.1=some ir/\ ∃(fW:List Int),Ic.fn ((v8.2.1,v8.2.2.1,v8.2.2.2.1,()),Iu,ir,())=some fW/\ ∃(Iv:Int),ba.fn ((List.take v8.2.2.2.2.2.2.2.2.2.1.length (List.drop 0 v8.2.2.2.2.2.2.2.2.2.1),List.take v8.2.2.2.2.2.2.2.2.2.2.1.length (List.drop 0 v8.2.2.2.2.2.2.2.2.2.2.1),List.take v8.2.2.2.2.2.2.2.2.2.2.2.1.length (List.drop 0 v8.2.2.2.2.2.2.2.2.2.2.2.1),v8.2.2.2.2.2.1,()),fW,())=some Iv/\Br (decide (Iv>=(0:Int))) (0=0/\v8.2.2.2.2.2.2.1.length=v8.2.2.2.2.2.2.1.length/\0=0/\v8.2.2.2.2.2.2.2.1.length=v8.2.2.2.2.2.2.2.1.length/\0=0/\v8.2.2.2.2.2.2.2.2.1.length=v8.2.2.2.2.2.2.2.2.1.length/\0=0/\v8.2.2.2.2.2.2.2.2.2.1.length=v8.2.2.2.2.2.2.2.2.2.1.length/\0=0/\v8.2.2.2.2.2.2.2.2.2.2.1.length=v8.2.2.2.2.2.2.2.2.2.2.1.length/\0=0/\v8.2.2.2.2.2.2.2.2.2.2.2.1.length=v8.2.2.2.2.2.2.2.2.2.2.2.1.length/\k9 (IntKind.i64.wrap (v8.1+(1:Int)),v8.2.1,v8.2.2.1,v8.2.2.2.1,v8.2.2.2.2.1,v8.2.2.2.2.2.1,v8.2.2.2.2.2.2.1,v8.2.2.2.2.2.2.2.1,v8.2.2.2.2.2.2.2.2.1,v8.2.2.2.2.2.2.2.2.2.1,v8.2.2.2.2.2.2.2.2.2.2.1,v8.2.2.2.2.2.2.2.2.2.2.2.1,())) (Br ((↑v8.2.2.2.2.2.2.2.2.2.1.length:Int)==(3000:Int)) (P (List.take v8.2.2.2.2.2.2.2.2.2.1.length (List.drop 0 v8.2.2.2.2.2.2.2.2.2.1),List.take v8.2.2.2.2.2.2.2.2.2.2.1.length (List.drop 0 v8.2.2.2.2.2.2.2.2.2.2.1),List.take v8.2.2.2.2.2.2.2.2.2.2.2.1.length (List.drop 0 v8.2.2.2.2.2.2.2.2.2.2.2.1),v8.2.2.2.2.2.1,())) (((0:Int)<=v6.1/\v6.1<(↑v8.2.2.2.2.2.2.2.2.2.2.1.length:Int))/\ ∃(Ga:Int),v8.2.2.2.2.2.2.2.2.2.2.1[0+v6.1.toNat]?=some Ga/\0=0/\v8.2.2.2.2.2.2.2.2.2.1.length=v8.2.2.2.2.2.2.2.2.2.1.length/\0=0/\v8.2.2.2.2.2.2.2.2.2.2.1.length=v8.2.2.2.2.2.2.2.2.2.2.1.length/\0=0/\v8.2.2.2.2.2.2.2.2.2.2.2.1.length=v8.2.2.2.2.2.2.2.2.2.2.2.1.length/\ ∃(Lu:BL),jb.fn (v8.2.2.2.2.2.2.2.2.2.1,v8.2.2.2.2.2.2.2.2.2.2.1,v8.2.2.2.2.2.2.2.2.2.2.2.1,v8.2.2.2.2.2.1,fW,IntKind.i64.wrap (Ga+(1:Int)),())=some Lu/\0=0/\v8.2.2.2.2.2.2.1.length=v8.2.2.2.2.2.2.1.length/\0=0/\v8.2.2.2.2.2.2.2.1.length=v8.2.2.2.2.2.2.2.1.length/\0=0/\v8.2.2.2.2.2.2.2.2.1.length=v8.2.2.2.2.2.2.2.2.1.length/\0=0/\Lu.1.1.length=Lu.1.1.length/\0=0/\Lu.1.2.1.length=Lu.1.2.1.length/\0=0/\Lu.1.2.2.1.length=Lu.1.2.2.1.length/\k9 (IntKind.i64.wrap (v8.1+(1:Int)),v8.2.1,v8.2.2.1,v8.2.2.2.1,v8.2.2.2.2.1,Lu.1.2.2.2.1,v8.2.2.2.2.2.2.1,v8.2.2.2.2.2.2.2.1,v8.2.2.2.2.2.2.2.2.1,Lu.1.1,Lu.1.2.1,Lu.1.2.2.1,())))) (0=0/\v8.2.2.2.2.2.2.1.length=v8.2.2.2.2.2.2.1.length/\0=0/\v8.2.2.2.2.2.2.2.1.length=v8.2.2.2.2.2.2.2.1.length/\0=0/\v8.2.2.2.2.2.2.2.2.1.length=v8.2.2.2.2.2.2.2.2.1.length/\0=0/\v8.2.2.2.2.2.2.2.2.2.1.length=v8.2.2.2.2.2.2.2.2.2.1.length/\0=0/\v8.2.2.2.2.2.2.2.2.2.2.1.length=v8.2.2.2.2.2.2.2.2.2.2.1.length/\0=0/\v8.2.2.2.2.2.2.2.2.2.2.2.1.length=v8.2.2.2.2.2.2.2.2.2.2.2.1.length/\k7 (IntKind.i64.wrap (v6.1+(1:Int)),v8.2.1,v8.2.2.1,v8.2.2.2.1,v8.2.2.2.2.1,v8.2.2.2.2.2.1,v8.2.2.2.2.2.2.1,v8.2.2.2.2.2.2.2.1,v8.2.2.2.2.2.2.2.2.1,v8.2.2.2.2.2.2.2.2.2.1,v8.2.2.2.2.2.2.2.2.2.2.1,v8.2.2.2.2.2.2.2.2.2.2.2.1,()))) ((0:Int),v6.2.1,v6.2.2.1,v6.2.2.2.1,v6.2.2.2.2.1,v6.2.2.2.2.2.1,v6.2.2.2.2.2.2.1,v6.2.2.2.2.2.2.2.1,v6.2.2.2.2.2.2.2.2.1,v6.2.2.2.2.2.2.2.2.2.1,v6.2.2.2.2.2.2.2.2.2.2.1,v6.2.2.2.2.2.2.2.2.2.2.2.1,PUnit.unit)) (P (List.take v6.2.2.2.2.2.2.2.2.2.1.length (List.drop 0 v6.2.2.2.2.2.2.2.2.2.1),List.take v6.2.2.2.2.2.2.2.2.2.2.1.length (List.drop 0 v6.2.2.2.2.2.2.2.2.2.2.1),List.take v6.2.2.2.2.2.2.2.2.2.2.2.1.length (List.drop 0 v6.2.2.2.2.2.2.2.2.2.2.2.1),true,()))) ((0:Int),p.1,p.2.1,p.2.2.1,false,y4.1.2.2.2.1,[],[],[],y4.1.1,y4.1.2.1,y4.1.2.2.1,PUnit.unit))=fnW VN (look [(116,Fo),(148,jb),(141,Jg),(118,Ic),(132,ba)]) fP Tryz.f131 (p,s,()) P:=by kernel_rfl
theorem pw: ∀ {a b:List Int},Cl a b=0↔a=b
 | [],[]=>by simp [Cl]
 | [],_::_=>by simp [Cl]
 |_::_,[]=>by simp [Cl]
 |x::a,y::b=>by
  simp only [Cl,List.cons.injEq]
  by_cases h1:x<y
  ·rw [if_pos h1]
   exact ⟨λh=>by omega,λh=>by omega⟩
  ·rw [if_neg h1]
   by_cases h2:x>y
   ·rw [if_pos h2]
    exact ⟨λh=>by omega,λh=>by omega⟩
   ·rw [if_neg h2,pw]
    exact ⟨λh=>⟨by omega,h⟩,λh=>h.2⟩
theorem JC: ∀(a b:List Int),Cl b a= -Cl a b
 | [],[]=>by simp [Cl]
 | [],_::_=>by simp [Cl]
 |_::_,[]=>by simp [Cl]
 |x::a,y::b=>by
  simp only [Cl]
  rcases Int.lt_trichotomy x y with h1|h1|h1
  ·simp [h1,show ¬y<x by omega]
  ·subst h1
   simp [JC a b]
  ·simp [h1,show ¬x<y by omega]
theorem u6: ∀ {a b c:List Int},Cl a b<0->Cl b c<0->Cl a c<0
 | [],[],_,h,_=>by simp [Cl] at h
 |_::_,[],_,h,_=>by simp [Cl] at h
 |_,_::_,[],_,h=>by simp [Cl] at h
 | [],_::_,_::_,_,_=>by simp [Cl]
 |x::a,y::b,z::c,h1,h2=>by
  simp only [Cl] at h1 h2⊢
  by_cases e1:x<y
  ·by_cases e2:y<z
   ·rw [if_pos (by omega)];omega
   ·rw [if_neg e2] at h2
    by_cases e3:y>z
    ·rw [if_pos e3] at h2;omega
    ·rw [if_pos (by omega)];omega
  ·rw [if_neg e1] at h1
   by_cases e2:x>y
   ·rw [if_pos e2] at h1;omega
   ·rw [if_neg e2] at h1
    by_cases e3:y<z
    ·rw [if_pos (by omega)];omega
    ·rw [if_neg e3] at h2
     by_cases e4:y>z
     ·rw [if_pos e4] at h2;omega
     ·rw [if_neg e4] at h2
      rw [if_neg (by omega),if_neg (by omega)]
      exact u6 h1 h2
theorem lt_iff {a b:List Int} :bK a b=true↔Cl a b<0:=decide_eq_true_iff
theorem MS {a b c:List Int} (h1:bK a b=true) (h2:bK b c=true):bK a c=true:=lt_iff.2 (u6 (lt_iff.1 h1) (lt_iff.1 h2))
theorem iW (a:List Int):bK a a=false:=by
 have:Cl a a=0:=pw.2 rfl
 unfold bK;rw [this];rfl
theorem TH {a b:List Int} (h:bK a b=false) (Ek:a≠b):bK b a=true:=by
 rw [lt_iff,JC a b]
 have h1: ¬Cl a b<0:= λh'=>by rw [lt_iff.2 h'] at h;cases h
 have h2:Cl a b≠0:= λh'=>Ek (pw.1 h')
 omega
theorem ic {α:Type} (q:α->Bool): ∀(l:List α),l.Pairwise (λi j=>q j=true->q i=true)-> ∀k (hk:k<l.length),k<(l.takeWhile q).length↔q l[k]=true
 | [],_,k,hk=>by simp at hk
 |a::l,h,k,hk=>by
  obtain ⟨h1,h2⟩:=List.pairwise_cons.1 h
  by_cases ha:q a=true
  ·rw [List.takeWhile_cons_of_pos ha]
   rcases k with _|k
   ·simpa using ha
   ·simp only [List.length_cons,List.getElem_cons_succ,Nat.add_lt_add_iff_right]
    exact ic q l h2 k (by simpa using hk)
  ·rw [List.takeWhile_cons_of_neg ha]
   simp only [List.length_nil,Nat.not_lt_zero,false_iff]
   rcases k with _|k
   ·exact ha
   ·simp only [List.getElem_cons_succ]
    exact λhq=>ha (h1 _ (List.getElem_mem _) hq)
theorem Dn.qh {m:Nat} {L:List (List Int)} {Il:List Int} (h:Dn m L Il):Il.length=L.length:=by rw [h.perm.length_eq,eT]
theorem Dn.idx {m:Nat} {L:List (List Int)} {Il:List Int} (h:Dn m L Il) {k:Nat} (hk:k<Il.length):0<=Il[k]/\Il[k]<L.length:=Un.1 (h.perm.mem_iff.1 (List.getElem_mem hk))
theorem Dn.bb {m:Nat} {L:List (List Int)} {Il:List Int} (h:Dn m L Il) (s:List Int) {k:Nat} (hk:k<Il.length):k<Db L Il s↔bK (L.getD Il[k].toNat []) s=true:=
 ic _ Il (h.sorted.imp λdN hj=>MS dN hj) k hk
theorem KP (L:List (List Int)) (Il s:List Int):Db L Il s<=Il.length:=(List.takeWhile_sublist _).length_le
theorem Dn.inj {m:Nat} {L:List (List Int)} {Il:List Int} (h:Dn m L Il) {i j:Nat} (hi:i<L.length) (hj:j<L.length) (e:L[i]=L[j]):i=j:=by
 have mem: ∀i,i<L.length->(i:Int)∈Il:= λi hi=>h.perm.mem_iff.2 (Un.2 ⟨by omega,by omega⟩)
 obtain ⟨p,hp,ep⟩:=List.mem_iff_getElem.1 (mem i hi)
 obtain ⟨q,hq,eq⟩:=List.mem_iff_getElem.1 (mem j hj)
 have get: ∀i (hi:i<L.length),L.getD ((i:Int)).toNat []=L[i]:= λi hi=>by rw [Int.toNat_natCast,List.getD_eq_getElem?_getD,List.getElem?_eq_getElem hi];rfl
 rcases Nat.lt_trichotomy p q with h1|h1|h1
 ·have:=List.pairwise_iff_getElem.1 h.sorted p q hp hq h1
  rw [ep,eq,get i hi,get j hj,e,iW] at this
  cases this
 ·subst h1
  rw [ep] at eq
  omega
 ·have:=List.pairwise_iff_getElem.1 h.sorted q p hq hp h1
  rw [ep,eq,get i hi,get j hj,e,iW] at this
  cases this
theorem Ug {L:List (List Int)} {k:Nat} (h:k<L.length):L.getD k []=L[k]:=by rw [List.getD_eq_getElem?_getD,List.getElem?_eq_getElem h];rfl
theorem Dn.vM {m:Nat} {L:List (List Int)} {Il:List Int} (h:Dn m L Il) {s:List Int} :
  (∃hk:Db L Il s<Il.length,L.getD Il[Db L Il s].toNat []=s/\nt L s=Il[Db L Il s])\/(nt L s= -1/\ ∀hk:Db L Il s<Il.length,L.getD Il[Db L Il s].toNat []≠s):=by
 by_cases hm:s∈L
 ·left
  obtain ⟨j,hj,rfl⟩:=List.mem_iff_getElem.1 hm
  obtain ⟨p,hp,ep⟩:=List.mem_iff_getElem.1 (h.perm.mem_iff.2 (Un.2 ⟨by omega,by omega⟩):(j:Int)∈Il)
  have gj:L.getD Il[p].toNat []=L[j]:=by rw [ep,Int.toNat_natCast,Ug hj]
  have hs:Db L Il L[j]=p:=by
   have h1: ¬p<Db L Il L[j]:= λh1=>by
    have:=(h.bb L[j] hp).1 h1
    rw [gj,iW] at this;cases this
   have h2: ¬Db L Il L[j]<p:= λh2=>by
    have h3:=(h.bb L[j] (k:=Db L Il L[j]) (by omega)).2 (by
     have:=List.pairwise_iff_getElem.1 h.sorted (Db L Il L[j]) p (by omega) hp h2
     rw [gj] at this;exact this)
    omega
   omega
  have hx:L.idxOf L[j]=j:=by
   have h1:L.idxOf L[j]<L.length:=List.idxOf_lt_length_of_mem hm
   exact h.inj h1 hj (List.getElem_idxOf h1)
  refine ⟨by omega,?_,?_⟩
  ·simp only [hs];exact gj
  ·unfold nt
   rw [if_pos hm,hx]
   simp only [hs];exact ep.symm
 ·right
  refine ⟨by unfold nt;rw [if_neg hm],λhk e=>hm ?_⟩
  have hi:=h.idx hk
  rw [Ug (by omega)] at e
  rw [<-e]
  exact List.getElem_mem _
theorem SU (Il:List Int) (k:Nat) (x:Int):(Rw Il k x).Perm (x::Il):=by
 unfold Rw
 refine List.perm_middle.trans (List.Perm.cons x ?_)
 rw [List.take_append_drop]
theorem Dn.add {m:Nat} {L:List (List Int)} {Il s:List Int} (h:Dn m L Il) (hn:s∉L) (hl:s.length=m) (hr:L.length<3000):Dn m (L++ [s]) (Rw Il (Db L Il s) L.length):=by
 have yX: ∀i∈Il,(L++ [s]).getD i.toNat []=L.getD i.toNat []:= λi hi=>by
  have:=Un.1 (h.perm.mem_iff.1 hi)
  rw [List.getD_eq_getElem?_getD,List.getD_eq_getElem?_getD,List.getElem?_append_left (by omega)]
 have Afx:(L++ [s]).getD ((L.length:Int)).toNat []=s:=by
  rw [Int.toNat_natCast,List.getD_eq_getElem?_getD,List.getElem?_append_right (by omega),Nat.sub_self];rfl
 refine ⟨by rw [List.length_append,List.length_singleton];omega,λx hx=>?_,h.short,?_,?_⟩
 ·rcases List.mem_append.1 hx with hx|hx
  ·exact h.len x hx
  ·rw [List.mem_singleton.1 hx];exact hl
 ·refine (SU _ _ _).trans ?_
  rw [List.length_append,List.length_singleton,fU]
  exact (List.Perm.cons _ h.perm).trans (List.perm_append_singleton _ _).symm
 ·unfold Rw
  have hs:=h.sorted
  rw [<-List.take_append_drop (Db L Il s) Il] at hs
  obtain ⟨s1,s2,s3⟩:=List.pairwise_append.1 hs
  have mt: ∀i∈Il.take (Db L Il s),i∈Il/\bK (L.getD i.toNat []) s=true:= λi hi=>by
   obtain ⟨k,hk,rfl⟩:=List.mem_iff_getElem.1 hi
   have RQ:k<Db L Il s:=by rw [List.length_take] at hk;omega
   have hk3:k<Il.length:=by rw [List.length_take] at hk;omega
   rw [List.getElem_take]
   exact ⟨List.getElem_mem _,(h.bb s hk3).1 RQ⟩
  have md: ∀i∈Il.drop (Db L Il s),i∈Il/\bK s (L.getD i.toNat [])=true:= λi hi=>by
   obtain ⟨k,hk,rfl⟩:=List.mem_iff_getElem.1 hi
   rw [List.length_drop] at hk
   have hk3:Db L Il s+k<Il.length:=by omega
   rw [List.getElem_drop]
   refine ⟨List.getElem_mem _,TH ?_ λe=>hn ?_⟩
   ·exact Bool.eq_false_iff.2 λhh=>by
     have:=(h.bb s hk3).2 hh
     omega
   ·have hi:=h.idx hk3
    rw [Ug (by omega)] at e
    rw [<-e];exact List.getElem_mem _
  refine List.pairwise_append.2 ⟨s1.imp_of_mem λ {a b} ha hb iL=>?_,List.pairwise_cons.2 ⟨λb hb=>?_,s2.imp_of_mem λ {a b} ha hb iL=>?_⟩,λa ha b hb=>?_⟩
  ·rw [yX a (mt a ha).1,yX b (mt b hb).1];exact iL
  ·rw [Afx,yX b (md b hb).1];exact (md b hb).2
  ·rw [yX a (md a ha).1,yX b (md b hb).1];exact iL
  ·rcases List.mem_cons.1 hb with rfl|hb
   ·rw [Afx,yX a (mt a ha).1];exact (mt a ha).2
   ·rw [yX a (mt a ha).1,yX b (md b hb).1];exact s3 a ha b hb
theorem cb (L:List (List Int)) (s:List Int):Zn (L++ [s])=Rw (Zn L) (Db L (Zn L) s) L.length:=by
 unfold Zn
 rw [List.length_append,List.length_singleton,List.range_succ,List.foldl_append]
 have e: ∀(is:List Nat) (S:List Int),(∀i∈is,i<L.length)->is.foldl (λ(S:List Int) (i:Nat)=>Rw S (Db ((L++ [s]).take i) S ((L++ [s]).getD i [])) (i:Int)) S=is.foldl (λ(S:List Int) (i:Nat)=>Rw S (Db (L.take i) S (L.getD i [])) (i:Int)) S:=by
  intro is
  induction is with
  |nil=>intro S _;rfl
  |cons i is ih=>
   intro S h
   have hi:=h i (by simp)
   rw [List.foldl_cons,List.foldl_cons,ih _ λj hj=>h j (List.mem_cons_of_mem _ hj)]
   congr 2
   rw [List.take_append_of_le_length (by omega),List.getD_eq_getElem?_getD,List.getElem?_append_left hi,<-List.getD_eq_getElem?_getD]
 rw [e _ _ λi hi=>List.mem_range.1 hi]
 simp only [List.foldl_cons,List.foldl_nil]
 congr 2
 ·rw [List.take_append_of_le_length (Nat.le_refl _),List.take_length]
 ·rw [List.getD_eq_getElem?_getD,List.getElem?_append_right (by omega),Nat.sub_self];rfl
theorem kI {m:Nat} (h:m<=20):Dn m [] []:=⟨by simp,λx hx=>(by cases hx),h,by simp [upto],List.Pairwise.nil⟩
theorem SO {α:Type} {xs:List α} {y:Int} (h0:0<=y) (h:y.toNat<xs.length):idx xs y=some xs[y.toNat]:=by
 unfold idx
 rw [if_pos h0,List.getElem?_eq_getElem h]
theorem Ae4 (f:SS) (s:List Int) (h:Dn s.length f.1 f.2.2.1):fnW Cd (look [(158,Ti)]) c7 Tryz.f149 (f,s,()) (λ(z:Int)=>z=(Db f.1 f.2.2.1 s:Int)):=by
 obtain ⟨L,D,Il,b,⟨⟩⟩:=f
 dsimp only at h⊢
 have hle:=KP L Il s
 have s8:=h.qh
 have gf:=h.so
 refine Eq.mp (Aex (L,D,Il,b,()) s _) ?_
 refine Bk.mk (λv=>v.2.2.1=L/\v.2.2.2.2.1=Il/\ ∃lo hi:Nat,v.1=lo/\v.2.1=hi/\lo<=hi/\hi<=Il.length/\lo<=Db L Il s/\Db L Il s<=hi) (λv=>(v.2.1-v.1).toNat)
  ⟨rfl,rfl,0,Il.length,rfl,rfl,by omega,by omega,by omega,hle⟩ ?_
 rintro ⟨lo',jV,L',D',OM,b',⟨⟩⟩ ⟨h1,h2,lo,hi,h3,h4,h5,h6,h7,h8⟩
 dsimp only at h1 h2 h3 h4⊢
 subst h1 h2 h3 h4
 refine Br.dec (λhl=>?_) λhl=>?_
 ·have em:IntKind.i64.wrap ((IntKind.i64.wrap ((lo:Int)+(hi:Int))).tdiv 2)=(((lo+hi)/2:Nat):Int):=by
   rw [Bn (n:=(lo:Int)+(hi:Int)) (by omega) (by omega),Int.tdiv_eq_ediv_of_nonneg (by omega),Bn (by omega) (by omega)]
   omega
  rw [em]
  have hm1:(lo+hi)/2<OM.length:=by omega
  have XS:=h.idx hm1
  have XT:OM[(lo+hi)/2].toNat<L'.length:=by omega
  have WM:=Ug XT
  have hlen:=h.len _ (List.getElem_mem XT)
  have CT:short L'[OM[(lo+hi)/2].toNat]:=by
   unfold short
   have:=h.short;omega
  refine ⟨by decide,_,Aq hm1,_,SO XS.1 XT,_,if_pos ⟨CT,hlen⟩,⟨λhc=>?_,λhc=>?_⟩⟩
  ·have hc:bK L'[OM[(lo+hi)/2].toNat] s=true:=hc
   have hs:=(h.bb s hm1).2 (by rw [WM];exact hc)
   rw [Ah (by omega)]
   exact ⟨⟨rfl,rfl,(lo+hi)/2+1,hi,rfl,rfl,by omega,h6,by omega,h8⟩,by omega⟩
  ·have hc:bK L'[OM[(lo+hi)/2].toNat] s=false:=hc
   have hs: ¬(lo+hi)/2<Db L' OM s:= λhh=>by
    have:=(h.bb s hm1).1 hh
    rw [WM,hc] at this;cases this
   exact ⟨⟨rfl,rfl,lo,(lo+hi)/2,rfl,rfl,by omega,by omega,h7,by omega⟩,by omega⟩
 ·show (lo:Int)=_
  omega
theorem rz:Sound Tryz.prog 149 c7:=
 Sound.Cg Bi (Ae ru Aj) mixed Tryz.func149 (by kernel_rfl) (by kernel_rfl) λx h=>Ae4 x.1 x.2.1 h
theorem UC (f:SS) (s:List Int) (h:Dn s.length f.1 f.2.2.1):fnW Cd (look [(149,c7),(101,Ap)]) ba Tryz.f132 (f,s,()) (λ(z:Int)=>z=nt f.1 s):=by
 obtain ⟨L,D,Il,b,⟨⟩⟩:=f
 dsimp only at h⊢
 refine Eq.mp (WC (L,D,Il,b,()) s _) ⟨_,if_pos h,Br.dec (λhl=>?_) λhl=>?_⟩
 ·have hl:Db L Il s<Il.length:=by
   have hl:((Db L Il s:Nat):Int)<(Il.length:Int):=hl
   omega
  have XS:=h.idx hl
  have XT:Il[Db L Il s].toNat<L.length:=by omega
  have WM:=Ug XT
  have hlen:=h.len _ (List.getElem_mem XT)
  have CT:short L[Il[Db L Il s].toNat]:=by
   unfold short
   have:=h.short;omega
  refine ⟨_,Aq hl,_,SO XS.1 XT,_,if_pos CT,⟨λhc=>⟨_,Aq hl,?_⟩,λhc=>?_⟩⟩
  ·have hc:L[Il[Db L Il s].toNat]=s:=of_decide_eq_true hc
   rcases h.vM (s:=s) with ⟨hk,_,e⟩|⟨_,Ek⟩
   ·exact e.symm
   ·exact absurd (by rw [WM];exact hc) (Ek hl)
  ·have hc: ¬L[Il[Db L Il s].toNat]=s:=of_decide_eq_false hc
   rcases h.vM (s:=s) with ⟨hk,e,_⟩|⟨e,_⟩
   ·rw [WM] at e;exact absurd e hc
   ·exact e.symm
 ·have hl: ¬Db L Il s<Il.length:=by
   have hl: ¬((Db L Il s:Nat):Int)<(Il.length:Int):=hl
   omega
  rcases h.vM (s:=s) with ⟨hk,e,_⟩|⟨e,_⟩
  ·exact absurd hk hl
  ·exact e.symm
theorem xu:Sound Tryz.prog 132 ba:=
 Sound.Cg Bi (Ae rz (Ae Ox Aj)) mixed Tryz.func132 (by kernel_rfl) (by kernel_rfl) λx h=>UC x.1 x.2.1 h
theorem ER {S:List Int} {k:Nat} (h:k<=S.length) (n:Int):
  (Bs (S++ [0]) (k+1) (List.take ((S++ [0]).length-(k+1)) (List.take ((S++ [0]).length-k) (List.drop k (S++ [0]))))).set k n=Rw S k n:=by
 obtain ⟨A,B,rfl,hA⟩: ∃A B,S=A++B/\A.length=k:=⟨S.take k,S.drop k,(List.take_append_drop k S).symm,by rw [List.length_take];omega⟩
 subst hA
 have e1:List.drop A.length (A++B++ [0])=B++ [0]:=by rw [List.append_assoc,List.drop_left]
 have e2:List.take ((A++B++ [0]).length-A.length) (B++ [0])=B++ [0]:=List.take_of_length_le (by simp only [List.length_append,List.length_singleton];omega)
 have e3:List.take ((A++B++ [0]).length-(A.length+1)) (B++ [0])=B:=by
  have:(A++B++ [(0:Int)]).length-(A.length+1)=B.length:=by simp only [List.length_append,List.length_singleton];omega
  rw [this,List.take_left]
 rw [e1,e2,e3]
 unfold Bs Rw
 have e4:List.drop (A.length+1+B.length) (A++B++ [0])= []:=List.drop_eq_nil_of_le (by simp only [List.length_append,List.length_singleton];omega)
 obtain ⟨c,hc⟩: ∃c,List.take (A.length+1) (A++B++ [0])=A++ [c]:=by
  rw [List.append_assoc,List.take_append,List.take_of_length_le (by omega)]
  cases B with
  |nil=>exact ⟨0,by simp⟩
  |cons b B=>exact ⟨b,by simp⟩
 rw [e4,hc,List.append_nil,List.append_assoc,List.singleton_append,YZ,List.take_left,List.drop_left]
theorem Ae2 (L:List (List Int)) (D S:List Int) (b:Bool) (s:List Int) (d:Int) (h:Dn s.length L S/\D.length<=3000):
  fnMW jh (look [(149,c7)]) jb Tryz.f148 (L,D,S,b,s,d,()) (λ(z:(List (List Int)×List Int×List Int×Bool×Unit)×Unit)=>z=((L++ [s],D++ [d],Rw S (Db L S s) L.length,b,()),())):=by
 obtain ⟨h,hD⟩:=h
 have hle:=KP L S s
 have s8:=h.qh
 have gf:=h.so
 refine Eq.mp (Aev L D S b s d _) ?_
 rw [Bb L,Bb D,Bb S]
 refine ⟨_,if_pos h,?_⟩
 dsimp only
 have es:List.take 1 (List.drop 0 [(0:Int)])= [0]:=rfl
 have el:(S++ [(0:Int)]).length=S.length+1:=by simp
 rw [es,Ah (by omega),Nat.zero_add,Nat.zero_add,Int.toNat_natCast,Int.toNat_natCast,Int.toNat_natCast]
 refine ⟨rfl,rfl,by show S.length+1<=4294967296;omega,⟨by omega,by omega,by omega⟩,⟨by omega,by omega,by omega⟩,⟨by omega,by omega⟩,?_,rfl,rfl,by show L.length+1<=4294967296;omega,rfl,rfl,by show D.length+1<=4294967296;omega,?_⟩
 ·unfold Bs
  simp only [List.length_append,List.length_take,List.length_drop,List.length_singleton]
  omega
 ·rw [ER hle,Bb,Bb]
  have e5:List.take (S++ [(0:Int)]).length (List.drop 0 (Rw S (Db L S s) (L.length:Int)))=Rw S (Db L S s) (L.length:Int):=by
   rw [List.drop_zero,List.take_of_length_le]
   unfold Rw
   simp only [List.length_append,List.length_cons,List.length_take,List.length_drop,List.length_nil]
   omega
  rw [e5]
  rfl
theorem HJ:Ay Tryz.prog 148 jb:=
 Ay.jn eN (Ae rz Aj) mixed Tryz.func148 (by kernel_rfl) (by kernel_rfl) λx h=>Ae2 x.1 x.2.1 x.2.2.1 x.2.2.2.1 x.2.2.2.2.1 x.2.2.2.2.2.1 h
structure Vl (p:PP) (m:Nat) (L:List (List Int)) (D:List Int):Prop where
 ok:Dn m L (Zn L)
 len:D.length=L.length
 row: ∀x∈L,∀y∈x,0<=y/\y<p.1
 dep: ∀j (h:j<D.length),0<=D[j]/\D[j]<=j
theorem wM {p:PP} (hv:Valid p) {x:List Int} {l:Int} (hx: ∀y∈x,0<=y/\y<p.1) (hl:Es (List.length p.2.2.1) l):
  (Ab x (An p.2.2.1 l)).length=x.length/\ ∀y∈Ab x (An p.2.2.1 l),0<=y/\y<p.1:=by
 obtain ⟨h1,h2⟩:=fz hv hl
 refine ⟨Kl _ _,λy hy=>?_⟩
 have:=yI (n:=(An p.2.2.1 l).length) (λz hz=>by have:=hx z hz;omega) h2 y hy
 omega
theorem Vl.add {p:PP} {m:Nat} {L:List (List Int)} {D:List Int} (h:Vl p m L D) {y:List Int} {d:Int} (hn:y∉L) (hl:y.length=m) (hr:L.length<3000) (hy: ∀z∈y,0<=z/\z<p.1) (hd:0<=d/\d<=L.length):Vl p m (L++ [y]) (D++ [d]):=by
 have hlen:=h.len
 refine ⟨by rw [cb];exact h.ok.add hn hl hr,by simp [hlen],λx hx=>?_,λj hj=>?_⟩
 ·rcases List.mem_append.1 hx with hx|hx
  ·exact h.row x hx
  ·rw [List.mem_singleton.1 hx];exact hy
 ·by_cases e:j<D.length
  ·rw [List.getElem_append_left e];exact h.dep j e
  ·simp only [List.length_append,List.length_singleton] at hj
   have:j=D.length:=by omega
   subst this
   rw [List.getElem_append_right (by omega)]
   simp only [Nat.sub_self,List.getElem_cons_zero]
   omega
theorem ly {p:PP} {s:List Int} (hs:s.length<=20) (hr: ∀y∈s,0<=y/\y<p.1):Vl p s.length [s] [0]:=by
 refine ⟨?_,rfl,λx hx=>by rw [List.mem_singleton.1 hx];exact hr,λj hj=>?_⟩
 ·have:=(kI hs).add (s:=s) (by simp) rfl (by simp)
  have e:Zn [s]=Rw [] (Db [] [] s) 0:=cb [] s
  rw [e];exact this
 ·simp only [List.length_singleton] at hj
  have:j=0:=by omega
  subst this
  simp
theorem uE {L:List (List Int)} {s:List Int} :nt L s>=0↔s∈L:=by
 unfold nt
 split
 ·rename_i h;exact ⟨λ_=>h,λ_=>by omega⟩
 ·rename_i h;exact ⟨λhh=>by omega,λhh=>absurd hh h⟩
theorem YU (p:PP) (s:List Int) (h:Bx p=true/\s.length<=20/\ ∀y∈s,0<=y/\y<p.1):fnW VN (look [(116,Fo),(148,jb),(141,Jg),(118,Ic),(132,ba)]) fP Tryz.f131 (p,s,()) (λ(z:SS)=>z=Ms p.2.2.1 s):=by
 obtain ⟨hv,hs,hr⟩:=h
 have hV:=valid hv
 have gf:=hV.so
 have hb0:=ly hs hr
 have CT:short s:=by unfold short;omega
 obtain ⟨ls,nf⟩: ∃ls,Af (List.length p.2.2.1)=ls:=⟨_,rfl⟩
 refine Eq.mp (ZO p s _) ⟨_,if_pos CT,_,if_pos ⟨kI hs,by show 0<=3000;omega⟩,ls,(if_pos (by show List.length p.2.2.1<=8;exact gf.2)).trans (congrArg some nf),rfl,rfl,rfl,rfl,rfl,rfl,rfl,rfl,rfl,rfl,rfl,rfl,?_⟩
 have e0:Rw [] (Db [] [] s) ((([]:List (List Int)).length:Nat):Int)=Zn [s]:=(cb [] s).symm
 show Bk _ ((0:Int),p.1,p.2.1,p.2.2.1,false,false,[],[],[],[s],[(0:Int)],Rw [] (Db [] [] s) ((([]:List (List Int)).length:Nat):Int),PUnit.unit)
 rw [e0]
 have WT:ls.length<=16:=by rw [<-nf,Jn];omega
 have jW: ∀l∈ls,Es (List.length p.2.2.1) l:= λl hl=>Kr (nf▸hl)
 have EK:Mh p.2.2.1 ls 3001 0 [s] [0]=Gk p.2.2.1 s:=by unfold Gk;rw [nf]
 refine Bk.mk (λv=>v.2.1=p.1/\v.2.2.1=p.2.1/\v.2.2.2.1=p.2.2.1/\v.2.2.2.2.2.1=false/\ ∃k:Nat,v.1=k/\k<=v.2.2.2.2.2.2.2.2.2.1.length/\
   Vl p s.length v.2.2.2.2.2.2.2.2.2.1 v.2.2.2.2.2.2.2.2.2.2.1/\v.2.2.2.2.2.2.2.2.2.2.2.1=Zn v.2.2.2.2.2.2.2.2.2.1/\
   Mh p.2.2.1 ls (3001-k) k v.2.2.2.2.2.2.2.2.2.1 v.2.2.2.2.2.2.2.2.2.2.1=Gk p.2.2.1 s) (λv=>3001-v.1.toNat)
  ⟨rfl,rfl,rfl,rfl,0,rfl,by simp,hb0,rfl,EK⟩ ?_
 rintro ⟨k',n1,n2,n3,b0,wh,x1,x2,x3,L0,D0,S0,⟨⟩⟩ ⟨h1,h2,h3,h4,k,h5,h6,h7,h8,h9⟩
 dsimp only at h1 h2 h3 h4 h5 h6 h7 h8 h9
 subst h1 h2 h3 h4 h5 h8
 dsimp only
 have WJ:=h7.ok.so
 have hD0:=h7.len
 refine Br.dec (λhl=>⟨rfl,rfl,rfl,rfl,rfl,rfl,rfl,rfl,rfl,rfl,rfl,rfl,?_⟩) λhl=>?_
 ·have hk:k<L0.length:=by omega
  have WN:k<D0.length:=by omega
  have hx: ∀y∈L0[k],0<=y/\y<p.1:=h7.row _ (List.getElem_mem hk)
  have SI:L0[k].length=s.length:=h7.ok.len _ (List.getElem_mem hk)
  have hdk:=h7.dep k WN
  obtain ⟨f,hf⟩: ∃f,3001-k=f+1:=⟨3000-k,by omega⟩
  have hgo: ∀L' D' ok,Ht p.2.2.1 L0[k] D0[k] ls L0 D0=(L',D',ok)->Gk p.2.2.1 s=if ok=true then Mh p.2.2.1 ls f (k+1) L' D' else (L',D',false):=by
   intro L' D' ok he
   rw [<-h9,hf,Mh,if_pos hk,Ug hk,List.getD_eq_getElem?_getD,List.getElem?_eq_getElem WN]
   simp only [Option.getD_some]
   rw [he]
   cases ok<;>rfl
  refine Bk.mk (λv=>v.2.1=p.1/\v.2.2.1=p.2.1/\v.2.2.2.1=p.2.2.1/\v.2.2.2.2.2.1=false/\ ∃i:Nat,v.1=i/\i<=ls.length/\Vl p s.length v.2.2.2.2.2.2.2.2.2.1 v.2.2.2.2.2.2.2.2.2.2.1/\
    v.2.2.2.2.2.2.2.2.2.2.2.1=Zn v.2.2.2.2.2.2.2.2.2.1/\(∃A,v.2.2.2.2.2.2.2.2.2.1=L0++A)/\(∃A,v.2.2.2.2.2.2.2.2.2.2.1=D0++A)/\
    Ht p.2.2.1 L0[k] D0[k] (ls.drop i) v.2.2.2.2.2.2.2.2.2.1 v.2.2.2.2.2.2.2.2.2.2.1=Ht p.2.2.1 L0[k] D0[k] ls L0 D0) (λv=>ls.length-v.1.toNat)
   ⟨rfl,rfl,rfl,rfl,0,rfl,Nat.zero_le _,h7,rfl,⟨[],by simp⟩,⟨[],by simp⟩,rfl⟩ ?_
  rintro ⟨i',m1,m2,m3,b1,wh1,y1,y2,y3,L,D,S,⟨⟩⟩ ⟨g1,g2,g3,g4,i,g5,g6,g7,g8,⟨A,g9⟩,⟨A',XH⟩,nZ⟩
  dsimp only at g1 g2 g3 g4 g5 g6 g7 g8 g9 XH nZ
  subst g1 g2 g3 g4 g5 g8
  dsimp only
  have hLf:=g7.ok.so
  have hDl:=g7.len
  rw [Bb L,Bb D,Bb (Zn L)]
  refine Br.dec (λhli=>?_) λhli=>?_
  ·have hi:i<ls.length:=by omega
   have hkL:k<L.length:=by rw [g9,List.length_append];omega
   have hLk:L[k]=L0[k]:=by simp only [g9];exact List.getElem_append_left hk
   have Aci:k<D.length:=by rw [hDl];exact hkL
   have hDk:D[k]=D0[k]:=by simp only [XH];exact List.getElem_append_left WN
   have lO:=jW _ (List.getElem_mem hi)
   obtain ⟨nl,nr⟩:=wM hV hx lO
   rw [List.drop_eq_getElem_cons hi] at nZ
   simp only [Ht] at nZ
   refine ⟨⟨by omega,by omega⟩,L0[k],by rw [Int.toNat_natCast,Nat.zero_add,List.getElem?_eq_getElem hkL,hLk],_,Aq hi,_,if_pos ⟨hv,by show L0[k].length<=20;omega,hx,lO⟩,?_⟩
   dsimp only
   have hyl:(Ab L0[k] (An p.2.2.1 ls[i])).length=s.length:=by rw [nl,SI]
   refine ⟨_,if_pos (by show Dn (Ab L0[k] (An p.2.2.1 ls[i])).length L (Zn L);rw [hyl];exact g7.ok),Br.dec (λdO=>?_) λdO=>?_⟩
   ·have dO:Ab L0[k] (An p.2.2.1 ls[i])∈L:=uE.1 dO
    rw [if_pos dO] at nZ
    rw [Ah (by omega)]
    exact ⟨rfl,rfl,rfl,rfl,rfl,rfl,rfl,rfl,rfl,rfl,rfl,rfl,⟨rfl,rfl,rfl,rfl,i+1,rfl,hi,g7,rfl,⟨A,g9⟩,⟨A',XH⟩,nZ⟩,by omega⟩
   ·have dO:Ab L0[k] (An p.2.2.1 ls[i])∉L:= λhh=>dO (uE.2 hh)
    rw [if_neg dO] at nZ
    refine ⟨λUk=>?_,λUk=>⟨⟨by omega,by omega⟩,D0[k],by rw [Int.toNat_natCast,Nat.zero_add,List.getElem?_eq_getElem Aci,hDk],rfl,rfl,rfl,rfl,rfl,rfl,?_⟩⟩
    ·have Uk:L.length=3000:=by
      have:(L.length:Int)=3000:=by simpa using Uk
      omega
     rw [if_pos Uk] at nZ
     have:=hgo _ _ _ nZ.symm
     rw [if_neg (by decide)] at this
     unfold Ms
     rw [this]
    ·have Uk:L.length≠3000:=by
      have:(L.length:Int)≠3000:=by simpa using Uk
      omega
     rw [if_neg Uk] at nZ
     rw [Bn (n:=D0[k]+1) (by omega) (by omega)]
     refine ⟨_,if_pos ⟨by show Dn (Ab L0[k] (An p.2.2.1 ls[i])).length L (Zn L);rw [hyl];exact g7.ok,by show D.length<=3000;omega⟩,?_⟩
     dsimp only
     rw [Ah (by omega),<-cb]
     refine ⟨rfl,rfl,rfl,rfl,rfl,rfl,rfl,rfl,rfl,rfl,rfl,rfl,⟨rfl,rfl,rfl,rfl,i+1,rfl,hi,g7.add dO hyl (by omega) nr ⟨by omega,by omega⟩,rfl,⟨A++ [Ab L0[k] (An p.2.2.1 ls[i])],by rw [g9,List.append_assoc]⟩,⟨A'++ [D0[k]+1],by rw [XH,List.append_assoc]⟩,nZ⟩,by omega⟩
  ·have:i=ls.length:=by omega
   subst this
   rw [List.drop_length,Ht] at nZ
   have:=hgo _ _ _ nZ.symm
   rw [if_pos rfl] at this
   rw [Ah (by omega)]
   refine ⟨rfl,rfl,rfl,rfl,rfl,rfl,rfl,rfl,rfl,rfl,rfl,rfl,⟨rfl,rfl,rfl,rfl,k+1,rfl,by rw [g9,List.length_append];omega,g7,rfl,?_⟩,by omega⟩
   rw [show 3001-(k+1)=f by omega]
   exact this.symm
 ·have hk:k=L0.length:=by omega
  rw [Bb L0,Bb D0,Bb (Zn L0)]
  obtain ⟨f,hf⟩: ∃f,3001-k=f+1:=⟨3000-k,by omega⟩
  rw [hf,Mh,if_neg (by omega)] at h9
  unfold Ms
  rw [<-h9]
theorem BD:Sound Tryz.prog 131 fP:=
 Sound.Cg VO (Ae Rg (Er HJ (Ae cP (Ae kL (Ae xu Aj))))) mixed Tryz.func131 (by kernel_rfl) (by kernel_rfl) λx h=>YU x.1 x.2.1 h
end Go.Proofs.YtfolipnappekaaaGreat

namespace Go.Proofs.YtfolipnappekaaaGreat
open Go.RowKit
noncomputable def Cz (p:PP) (t:List Int):Bool:=Bx p&&Um p.1 t
noncomputable def Dh (p:PP) (t:List Int):Bool:=Cz p t&&(Gk p.2.2.1 t).2.2
noncomputable abbrev Ev:Spec:=Cg (.pair Cp (.pair tL .unit)) .bool false true (λx=>Ck x.1/\short x.2.1) (λx=>Cz x.1 x.2.1)
noncomputable def Kq (p:PP) (t:List Int):SS:=if Cz p t=true then Ms p.2.2.1 t else ([],[],[],false,())
noncomputable abbrev Qd:Spec:=Cg (.pair Cp (.pair tL .unit)) (.pair fS (.pair .bool .unit)) true false (λx=>Ck x.1/\short x.2.1) (λx=>(Kq x.1 x.2.1,Dh x.1 x.2.1,()))
noncomputable abbrev Mx:Spec:=Cg (.pair cZ .unit) cZ false true (λx=>Ff x.1) (λx=>x.1)
noncomputable def Dx (p:PP) (t:List Int):TT:=if Dh p t=true then (t,(Gk p.2.2.1 t).1,(Gk p.2.2.1 t).2.1,()) else ([],[],[],())
noncomputable abbrev Qe:Spec:=Cg (.pair Cp (.pair tL .unit)) (.pair Gz (.pair .bool .unit)) true true (λx=>Ck x.1/\short x.2.1) (λx=>(Dx x.1 x.2.1,Dh x.1 x.2.1,()))
noncomputable abbrev Th:MSpec:=jn [some 3,none] [(false, .Dm tI),(false, .Dm .str),(false, .Dm cZ),(false, .Dm tL)] true [none,none,none] [xLL,rL, .Dm .bool]
 (λx=>Cz (x.1,x.2.1,x.2.2.1,()) x.2.2.2.1=true) (λx=>(((Dx (x.1,x.2.1,x.2.2.1,()) x.2.2.2.1).2.1,(Dx (x.1,x.2.1,x.2.2.1,()) x.2.2.2.1).2.2.1,Dh (x.1,x.2.1,x.2.2.1,()) x.2.2.2.1,()),()))
noncomputable abbrev Tj:MSpec:=jn [some 3,none] [(false, .Dm tI),(false, .Dm .str),(false, .Dm cZ),(false, .Dm tL)] true [none,none,none] [xLL,rL, .Dm .bool]
 (λx=>Ck (x.1,x.2.1,x.2.2.1,())/\short x.2.2.2.1) (λx=>(((Dx (x.1,x.2.1,x.2.2.1,()) x.2.2.2.1).2.1,(Dx (x.1,x.2.1,x.2.2.1,()) x.2.2.2.1).2.2.1,Dh (x.1,x.2.1,x.2.2.1,()) x.2.2.2.1,()),()))
noncomputable abbrev Qb:MSpec:=jn [some 3,none] [(false, .Dm tI),(false, .Dm .str),(false, .Dm cZ),(false, .Dm tL)] true [some 3,none] [rL,xLL,rL, .Dm .bool]
 (λx=>Ck (x.1,x.2.1,x.2.2.1,())/\short x.2.2.2.1) (λx=>(((Dx (x.1,x.2.1,x.2.2.1,()) x.2.2.2.1).1,(Dx (x.1,x.2.1,x.2.2.1,()) x.2.2.2.1).2.1,(Dx (x.1,x.2.1,x.2.2.1,()) x.2.2.2.1).2.2.1,Dh (x.1,x.2.1,x.2.2.1,()) x.2.2.2.1,()),()))
noncomputable def Dj (p:PP) (t:TT):Bool:=Dh p t.1&&Kp (Dx p t.1) t
noncomputable abbrev Lj:Spec:=Cg (.pair Cp (.pair Gz .unit)) .bool false true (λx=>Ck x.1/\Le x.2.1) (λx=>Dj x.1 x.2.1)
abbrev tv:Ty:= .slice Gz
def Ew (ts:List TT):Prop:=ts.length<=4294967296/\ ∀t∈ts,Le t
noncomputable def De (p:PP) (ts:List TT):Bool:=Bx p&&decide (ts.length<=4)&&List.all ts (Dj p)
noncomputable abbrev Gy:Spec:=Cg (.pair Cp (.pair tv .unit)) .bool false true (λx=>Ck x.1/\Ew x.2.1) (λx=>De x.1 x.2.1)
abbrev Aiv:Ty:= .clo 86 (.pair (.ptr Cp) .unit)
noncomputable abbrev uZ:Spec:=Cg (.pair Gz (.pair (.ptr Cp) .unit)) .bool false true (λx=>Le x.1/\Ck x.2.1) (λx=>!Dj x.2.1 x.1)
def Mq (q:TT->Bool):List TT->Int->Int
 | [],_=> -1
 |t::ts,k=>if q t=true then k else Mq q ts (k+1)
noncomputable abbrev mi:Spec:=Cg (.pair tv (.pair Aiv .unit)) tI false true (λx=>Ew x.1/\Ck x.2.1.1) (λx=>Mq (λt=>!Dj x.2.1.1 t) x.1 0)
noncomputable abbrev me:Spec:=Cg (.pair tv (.pair Aiv .unit)) .bool false true (λx=>Ew x.1/\Ck x.2.1.1) (λx=>List.any x.1 (λt=>!Dj x.2.1.1 t))
def mH:List TT->Int->Int
 | [],room=>room
 |t::ts,room=>if Nj t room<0 then-1 else mH ts (Nj t room)
def FD (ts:List TT) (room:Int):Int:=if room-ts.length<0 then-1 else mH ts (room-ts.length)
noncomputable abbrev mn:Spec:=Cg (.pair tv (.pair tI .unit)) tI false true (λx=>Ew x.1/\roomy x.2.1) (λx=>FD x.1 x.2.1)
noncomputable abbrev eD:Spec:=Cg (.pair tv .unit) tv false true (λx=>Ew x.1) (λx=>x.1)
noncomputable abbrev mf:Spec:=Cg (.pair tv (.pair tv .unit)) .bool false true (λx=>Ew x.1) (λx=>decide (x.1=x.2.1))
theorem tH (p:Int×ByteArray×List (List Int)×Unit) (t:List Int) (P:Bool->Prop):(∃(y3:Bool),Eb.fn ((p.1,p.2.1,p.2.2.1,()),())=some y3/\Br y3 (∃(y4:Bool),Fw.fn (p.1,t,())=some y4/\P y4) (P false))=fnW Cd (look [(84,Eb),(159,Fw)]) Ev Tryz.f151 (p,t,()) P:=by kernel_rfl
theorem tQ (p:Int×ByteArray×List (List Int)×Unit) (t:List Int) (P:Bool->Prop):(∃(y3:Bool),Eb.fn ((p.1,p.2.1,p.2.2.1,()),())=some y3/\Br y3 (∃(y4:Bool),Fw.fn (p.1,t,())=some y4/\P y4) (P false))=fnW Cd (look [(93,Eb),(160,Fw)]) Ev Tryz.f155 (p,t,()) P:=by kernel_rfl
theorem CG (p:Int×ByteArray×List (List Int)×Unit) (t:List Int) (P:((List (List Int)×List Int×List Int×Bool×Unit)×Bool×Unit)->Prop):(∃(y3:Bool),Ev.fn ((p.1,p.2.1,p.2.2.1,()),t,())=some y3/\Br (!y3) (P ((List.take 0 (List.drop 0 []),List.take 0 (List.drop 0 []),List.take 0 (List.drop 0 []),false,()),false,())) (∃(y4:List (List Int)×List Int×List Int×Bool×PUnit),fP.fn ((p.1,p.2.1,p.2.2.1,()),t,())=some y4/\((P ((y4.1,y4.2.1,y4.2.2.1,y4.2.2.2.1,()),y4.2.2.2.1,())/\P ((y4.1,y4.2.1,y4.2.2.1,y4.2.2.2.1,()),y4.2.2.2.1,()))/\P ((y4.1,y4.2.1,y4.2.2.1,y4.2.2.2.1,()),y4.2.2.2.1,()))/\(P ((y4.1,y4.2.1,y4.2.2.1,y4.2.2.2.1,()),y4.2.2.2.1,())/\P ((y4.1,y4.2.1,y4.2.2.1,y4.2.2.2.1,()),y4.2.2.2.1,()))/\P ((y4.1,y4.2.1,y4.2.2.1,y4.2.2.2.1,()),y4.2.2.2.1,())))=fnW Cd (look [(155,Ev),(131,fP)]) Qd Tryz.f142 (p,t,()) P:=by kernel_rfl
theorem BW (l:List (List Int)) (P:List (List Int)->Prop):(0=0/\0=([]:List Int).length/\Bk (λ(v2:Int×List (List Int)×PUnit) (k3:Int×List (List Int)×PUnit->Prop)=>Br (decide (v2.1<(↑l.length:Int))) (∃(y4:List Int),idx l v2.1=some y4/\ ∃(y5:List Int),Fo.fn (y4,())=some y5/\0=0/\v2.2.1.length=v2.2.1.length/\v2.2.1.length+(List.take 1 (List.drop 0 [y5])).length<=Be/\0=0/\(v2.2.1++List.take 1 (List.drop 0 [y5])).length=(v2.2.1++List.take 1 (List.drop 0 [y5])).length/\k3 (IntKind.i64.wrap (v2.1+(1:Int)),v2.2.1++List.take 1 (List.drop 0 [y5]),())) (P (List.take v2.2.1.length (List.drop 0 v2.2.1)))) ((0:Int),[],PUnit.unit))=fnW Cd (look [(116,Fo)]) Mx Tryz.f143 (l,()) P:=by kernel_rfl
theorem CH (p:Int×ByteArray×List (List Int)×Unit) (t:List Int) (P:((List Int×List (List Int)×List Int×Unit)×Bool×Unit)->Prop):(∃(y3:(List (List Int)×List Int×List Int×Bool×PUnit)×Bool×PUnit),Qd.fn ((p.1,p.2.1,p.2.2.1,()),t,())=some y3/\Br (!y3.2.1) (P ((List.take 0 (List.drop 0 []),List.take 0 (List.drop 0 []),List.take 0 (List.drop 0 []),()),false,())) (∃(y4:List Int),Fo.fn (t,())=some y4/\ ∃(y5:List (List Int)),Mx.fn (y3.1.1,())=some y5/\ ∃(y6:List Int),Fo.fn (y3.1.2.1,())=some y6/\P ((y4,y5,y6,()),true,())))=fnW Cd (look [(142,Qd),(116,Fo),(143,Mx)]) Qe Tryz.f125 (p,t,()) P:=by kernel_rfl
abbrev Zp:Type:=Int×List (List Int)×List (List Int)×List Int×(ByteArray->Option Bool)×PUnit
abbrev nN:Type:=Int×Int×ByteArray×List (List Int)×List (List Int)×List (List Int)×List Int×(ByteArray->Option Bool)×PUnit
theorem IF (n:Int) (str:ByteArray) (g:List (List Int)) (t:List Int) (P:((List (List Int)×List Int×Bool×Unit)×Unit)->Prop):(∃(y5:(List Int×PUnit)×PUnit),Xz.fn (t,())=some y5/\ ∃(y6:ByteArray),Ge.fn (t,())=some y6/\ ∃(y7:List Int),Hs.fn ((↑g.length:Int),())=some y7/\0=0/\1= [List.take y5.1.1.length (List.drop 0 y5.1.1)].length/\0=0/\1= [(0:Int)].length/\0=0/\0=([]:List Int).length/\Bk (λ(v8:nN) (k9:nN->Prop)=>Br (decide (v8.1<(↑y7.length:Int))) (∃(Iu:Int),idx y7 v8.1=some Iu/\ ∃(ir:List Int),Gx.fn (v8.2.2.2.1,Iu,())=some ir/\0=0/\v8.2.2.2.2.1.length=v8.2.2.2.2.1.length/\v8.2.2.2.2.1.length+(List.take 1 (List.drop 0 [ir])).length<=Be/\0=0/\v8.2.2.2.2.2.1.length=v8.2.2.2.2.2.1.length/\0=0/\v8.2.2.2.2.2.2.1.length=v8.2.2.2.2.2.2.1.length/\0=0/\(v8.2.2.2.2.1++List.take 1 (List.drop 0 [ir])).length=(v8.2.2.2.2.1++List.take 1 (List.drop 0 [ir])).length/\k9 (IntKind.i64.wrap (v8.1+(1:Int)),v8.2.1,v8.2.2.1,v8.2.2.2.1,v8.2.2.2.2.1++List.take 1 (List.drop 0 [ir]),v8.2.2.2.2.2.1,v8.2.2.2.2.2.2.1,v8.2.2.2.2.2.2.2.1,())) (0=0/\v8.2.2.2.2.2.1.length=v8.2.2.2.2.2.1.length/\0=0/\v8.2.2.2.2.2.2.1.length=v8.2.2.2.2.2.2.1.length/\0=0/\v8.2.2.2.2.1.length=v8.2.2.2.2.1.length/\Bk (λ(v10:Zp) (k11:Zp->Prop)=>Br (decide (v10.1<(↑v10.2.2.1.length:Int))) (0=0/\v10.2.2.1.length=v10.2.2.1.length/\0=0/\v10.2.2.2.1.length=v10.2.2.2.1.length/\0=0/\v10.2.1.length=v10.2.1.length/\0=0/\v10.2.1.length=v10.2.1.length/\Bk (λ(Jq:Zp) (k13:Zp->Prop)=>Br (decide (Jq.1<(↑v10.2.1.length:Int))) (((0:Int)<=Jq.1/\Jq.1<(↑Jq.2.1.length:Int))/\ ∃(Ga:List Int),Jq.2.1[0+Jq.1.toNat]?=some Ga/\((0:Int)<=v10.1/\v10.1<(↑Jq.2.2.1.length:Int))/\ ∃(Lu:List Int),Jq.2.2.1[0+v10.1.toNat]?=some Lu/\ ∃(Ru:(List Int×PUnit)×PUnit),Wt.fn (Ga,Lu,())=some Ru/\ ∃(Vk:ByteArray),Ge.fn (List.take Ru.1.1.length (List.drop 0 Ru.1.1),())=some Vk/\Br (!(Jq.2.2.2.2.1 Vk).getD false) (Br ((↑Jq.2.2.1.length:Int)==(3000:Int)) (P ((List.take 0 (List.drop 0 []),List.take 0 (List.drop 0 []),false,()),())) (0=0/\Jq.2.2.1.length=Jq.2.2.1.length/\Jq.2.2.1.length+(List.take 1 (List.drop 0 [List.take Ru.1.1.length (List.drop 0 Ru.1.1)])).length<=Be/\((0:Int)<=v10.1/\v10.1<(↑Jq.2.2.2.1.length:Int))/\ ∃(Ry:Int),Jq.2.2.2.1[0+v10.1.toNat]?=some Ry/\0=0/\Jq.2.2.2.1.length=Jq.2.2.2.1.length/\Jq.2.2.2.1.length+(List.take 1 (List.drop 0 [IntKind.i64.wrap (Ry+(1:Int))])).length<=Be/\0=0/\(Jq.2.2.1++List.take 1 (List.drop 0 [List.take Ru.1.1.length (List.drop 0 Ru.1.1)])).length=(Jq.2.2.1++List.take 1 (List.drop 0 [List.take Ru.1.1.length (List.drop 0 Ru.1.1)])).length/\0=0/\(Jq.2.2.2.1++List.take 1 (List.drop 0 [IntKind.i64.wrap (Ry+(1:Int))])).length=(Jq.2.2.2.1++List.take 1 (List.drop 0 [IntKind.i64.wrap (Ry+(1:Int))])).length/\0=0/\Jq.2.1.length=Jq.2.1.length/\0=0/\Jq.2.1.length=Jq.2.1.length/\k13 (IntKind.i64.wrap (Jq.1+(1:Int)),Jq.2.1,Jq.2.2.1++List.take 1 (List.drop 0 [List.take Ru.1.1.length (List.drop 0 Ru.1.1)]),Jq.2.2.2.1++List.take 1 (List.drop 0 [IntKind.i64.wrap (Ry+(1:Int))]),eQ Jq.2.2.2.2.1 Vk true,()))) (0=0/\Jq.2.2.1.length=Jq.2.2.1.length/\0=0/\Jq.2.2.2.1.length=Jq.2.2.2.1.length/\0=0/\Jq.2.1.length=Jq.2.1.length/\0=0/\Jq.2.1.length=Jq.2.1.length/\k13 (IntKind.i64.wrap (Jq.1+(1:Int)),Jq.2.1,Jq.2.2.1,Jq.2.2.2.1,Jq.2.2.2.2.1,()))) (0=0/\Jq.2.2.1.length=Jq.2.2.1.length/\0=0/\Jq.2.2.2.1.length=Jq.2.2.2.1.length/\0=0/\Jq.2.1.length=Jq.2.1.length/\k11 (IntKind.i64.wrap (v10.1+(1:Int)),Jq.2.1,Jq.2.2.1,Jq.2.2.2.1,Jq.2.2.2.2.1,()))) ((0:Int),v10.2.1,v10.2.2.1,v10.2.2.2.1,v10.2.2.2.2.1,PUnit.unit)) (P ((List.take v10.2.2.1.length (List.drop 0 v10.2.2.1),List.take v10.2.2.2.1.length (List.drop 0 v10.2.2.2.1),true,()),()))) ((0:Int),v8.2.2.2.2.1,v8.2.2.2.2.2.1,v8.2.2.2.2.2.2.1,v8.2.2.2.2.2.2.2.1,PUnit.unit))) ((0:Int),n,str,g,[],[List.take y5.1.1.length (List.drop 0 y5.1.1)],[(0:Int)],eQ (λ(_:ByteArray)=>none) y6 true,PUnit.unit))=fnMW (HS [Ux+10]) (look [(138,Xz),(79,Ge),(106,Hs),(122,Gx),(80,Wt)]) Th Tryz.f152 (n,str,g,t,()) P:=by kernel_rfl
theorem II (n:Int) (str:ByteArray) (g:List (List Int)) (t:List Int) (P:((List (List Int)×List Int×Bool×Unit)×Unit)->Prop):(∃(y5:Bool),Ev.fn ((n,str,g,()),t,())=some y5/\Br (!y5) (P ((List.take 0 (List.drop 0 []),List.take 0 (List.drop 0 []),false,()),())) (∃(y6:(List (List Int)×List Int×Bool×PUnit)×PUnit),Th.fn (n,str,g,t,())=some y6/\P ((List.take y6.1.1.length (List.drop 0 y6.1.1),List.take y6.1.2.1.length (List.drop 0 y6.1.2.1),y6.1.2.2.1,()),())))=fnMW jh (look [(151,Ev),(152,Th)]) Tj Tryz.f137 (n,str,g,t,()) P:=by kernel_rfl
theorem BZ (n:Int) (str:ByteArray) (g:List (List Int)) (t:List Int) (P:((List Int×List (List Int)×List Int×Bool×Unit)×Unit)->Prop):(∃(y5:(List (List Int)×List Int×Bool×PUnit)×PUnit),Tj.fn (n,str,g,t,())=some y5/\Br (!y5.1.2.2.1) (P ((List.take 0 (List.drop 0 []),List.take 0 (List.drop 0 []),List.take 0 (List.drop 0 []),false,()),())) (∃(y6:(List Int×PUnit)×PUnit),Xz.fn (t,())=some y6/\P ((List.take y6.1.1.length (List.drop 0 y6.1.1),List.take y5.1.1.length (List.drop 0 y5.1.1),List.take y5.1.2.1.length (List.drop 0 y5.1.2.1),true,()),())))=fnMW jh (look [(137,Tj),(138,Xz)]) Qb Tryz.f113 (n,str,g,t,()) P:=by kernel_rfl
theorem xV (p:Int×ByteArray×List (List Int)×Unit) (t:List Int×List (List Int)×List Int×Unit) (P:Bool->Prop):(∃(y3:(List Int×List (List Int)×List Int×Bool×PUnit)×PUnit),Qb.fn (p.1,p.2.1,p.2.2.1,t.1,())=some y3/\Br y3.1.2.2.2.1 (∃(y4:Bool),Ep.fn ((List.take y3.1.1.length (List.drop 0 y3.1.1),List.take y3.1.2.1.length (List.drop 0 y3.1.2.1),List.take y3.1.2.2.1.length (List.drop 0 y3.1.2.2.1),()),(t.1,t.2.1,t.2.2.1,()),())=some y4/\P y4) (P false))=fnW Cd (look [(113,Qb),(114,Ep)]) Lj Tryz.f87 (p,t,()) P:=by kernel_rfl
theorem ya (p:Int×ByteArray×List (List Int)×Unit) (t:List Int×List (List Int)×List Int×Unit) (P:Bool->Prop):(∃(y3:(List Int×List (List Int)×List Int×PUnit)×Bool×PUnit),Qe.fn ((p.1,p.2.1,p.2.2.1,()),t.1,())=some y3/\Br y3.2.1 (∃(y4:Bool),Ep.fn ((y3.1.1,y3.1.2.1,y3.1.2.2.1,()),(t.1,t.2.1,t.2.2.1,()),())=some y4/\P y4) (P false))=fnW Cd (look [(125,Qe),(126,Ep)]) Lj Tryz.f94 (p,t,()) P:=by kernel_rfl
theorem Ajb (t:List Int×List (List Int)×List Int×Unit) (p:Int×ByteArray×List (List Int)×Unit) (P:Bool->Prop):(∃(y3:Bool),Lj.fn (p,(t.1,t.2.1,t.2.2.1,()),())=some y3/\P !y3)=fnW Cd (look [(87,Lj)]) uZ Tryz.f86 (t,p,()) P:=by kernel_rfl
theorem Aet (ts:List (List Int×List (List Int)×List Int×Unit)) (c:(Int×ByteArray×List (List Int)×Unit)×Unit) (P:Int->Prop):(Bk (λ(v3:Int×PUnit) (k4:Int×PUnit->Prop)=>Br (decide (v3.1<(↑ts.length:Int))) (∃(y5:List Int×List (List Int)×List Int×PUnit),idx ts v3.1=some y5/\ ∃(y6:Bool),uZ.fn (y5,c.1,())=some y6/\Br y6 (P v3.1) (k4 (IntKind.i64.wrap (v3.1+(1:Int)),()))) (P (-1:Int))) ((0:Int),PUnit.unit))=fnW Cd (look [(86,uZ)]) mi Tryz.f112 (ts,c,()) P:=by kernel_rfl
theorem Aen (ts:List (List Int×List (List Int)×List Int×Unit)) (c:(Int×ByteArray×List (List Int)×Unit)×Unit) (P:Bool->Prop):(∃(y3:Int),mi.fn (ts,c,())=some y3/\P (decide (y3>=(0:Int))))=fnW Cd (look [(112,mi)]) me Tryz.f85 (ts,c,()) P:=by kernel_rfl
theorem rV (p:Int×ByteArray×List (List Int)×Unit) (ts:List (List Int×List (List Int)×List Int×Unit)) (P:Bool->Prop):(∃(y3:Bool),Eb.fn ((p.1,p.2.1,p.2.2.1,()),())=some y3/\Br y3 (Br (decide ((↑ts.length:Int)<=(4:Int))) (∃(y4:Bool),me.fn (ts,((p.1,p.2.1,p.2.2.1,()),()),())=some y4/\P !y4) (P false)) (P false))=fnW Cd (look [(84,Eb),(85,me)]) Gy Tryz.f63 (p,ts,()) P:=by kernel_rfl
abbrev cQ:Type:=Int×Int×ByteArray×List (List Int)×PUnit
theorem rW (p:Int×ByteArray×List (List Int)×Unit) (ts:List (List Int×List (List Int)×List Int×Unit)) (P:Bool->Prop):(∃(y3:Bool),Eb.fn ((p.1,p.2.1,p.2.2.1,()),())=some y3/\Br (!y3) (P false) (Br (decide ((↑ts.length:Int)>(4:Int))) (P false) (Bk (λ(v4:cQ) (k5:cQ->Prop)=>Br (decide (v4.1<(↑ts.length:Int))) (∃(y6:List Int×List (List Int)×List Int×PUnit),idx ts v4.1=some y6/\ ∃(y7:Bool),Lj.fn ((v4.2.1,v4.2.2.1,v4.2.2.2.1,()),y6,())=some y7/\Br (!y7) (P false) (k5 (IntKind.i64.wrap (v4.1+(1:Int)),v4.2.1,v4.2.2.1,v4.2.2.2.1,()))) (P true)) ((0:Int),p.1,p.2.1,p.2.2.1,PUnit.unit))))=fnW Cd (look [(93,Eb),(94,Lj)]) Gy Tryz.f72 (p,ts,()) P:=by kernel_rfl
theorem Aez (ts:List (List Int×List (List Int)×List Int×Unit)) (k:Int) (P:Int->Prop):(Br (decide (IntKind.i64.wrap (k-(↑ts.length:Int))<(0:Int))) (P (-1:Int)) (Bk (λ(v3:Int×Int×PUnit) (k4:Int×Int×PUnit->Prop)=>Br (decide (v3.2.1<(↑ts.length:Int))) (∃(y5:List Int×List (List Int)×List Int×PUnit),idx ts v3.2.1=some y5/\ ∃(y6:Int),Ww.fn (y5,v3.1,())=some y6/\Br (decide (y6<(0:Int))) (P (-1:Int)) (k4 (y6,IntKind.i64.wrap (v3.2.1+(1:Int)),()))) (P v3.1)) (IntKind.i64.wrap (k-(↑ts.length:Int)),(0:Int),PUnit.unit)))=fnW Cd (look [(46,Ww)]) mn Tryz.f14 (ts,k,()) P:=by kernel_rfl
abbrev KV:Type:=Int×List (List Int×List (List Int)×List Int×PUnit)×PUnit
abbrev KW:Type:=List Int×List (List Int)×List Int×PUnit
theorem Af1 (ts:List (List Int×List (List Int)×List Int×Unit)) (P:List (List Int×List (List Int)×List Int×Unit)->Prop):(((0:Int)<=(↑ts.length:Int)/\(↑ts.length:Int)<(↑Be:Int)+(1:Int))/\(↑ts.length:Int)=(↑ts.length:Int)/\0=0/\(List.replicate (↑ts.length:Int).toNat (([]:List Int),([]:List (List Int)),([]:List Int),())).length=(List.replicate (↑ts.length:Int).toNat (([]:List Int),([]:List (List Int)),([]:List Int),())).length/\Bk (λ(v2:KV) (k3:KV->Prop)=>Br (decide (v2.1<(↑ts.length:Int))) (∃(y4:KW),idx ts v2.1=some y4/\ ∃(y5:KW),Wy.fn (y4,())=some y5/\((0:Int)<=v2.1/\v2.1<(↑v2.2.1.length:Int))/\0+v2.1.toNat<v2.2.1.length/\0=0/\v2.2.1.length=(v2.2.1.set (0+v2.1.toNat) y5).length/\k3 (IntKind.i64.wrap (v2.1+(1:Int)),v2.2.1.set (0+v2.1.toNat) y5,())) (P (List.take v2.2.1.length (List.drop 0 v2.2.1)))) ((0:Int),List.replicate (↑ts.length:Int).toNat (([]:List Int),([]:List (List Int)),([]:List Int),()),PUnit.unit))=fnW Cd (look [(50,Wy)]) eD Tryz.f17 (ts,()) P:=by kernel_rfl
abbrev KT:Type:=List Int×List (List Int)×List Int×PUnit
theorem Aeq (a b:List (List Int×List (List Int)×List Int×Unit)) (P:Bool->Prop):(Br ((↑a.length:Int) !=(↑b.length:Int)) (P false) (Bk (λ(v3:Int×PUnit) (k4:Int×PUnit->Prop)=>Br (decide (v3.1<(↑a.length:Int))) (∃(y5:KT),idx a v3.1=some y5/\ ∃(y6:KT),idx b v3.1=some y6/\ ∃(y7:Bool),Ep.fn (y5,y6,())=some y7/\Br (!y7) (P false) (k4 (IntKind.i64.wrap (v3.1+(1:Int)),()))) (P true)) ((0:Int),PUnit.unit)))=fnW Cd (look [(54,Ep)]) mf Tryz.f21 (a,b,()) P:=by kernel_rfl
theorem pn {p:PP} (hV:Valid p) {m:Nat} {x:List Int} {d:Int} (hx: ∀y∈x,0<=y/\y<p.1) (SI:x.length=m): ∀(ls:List Int) (L:List (List Int)) (D:List Int),(∀l∈ls,Es (List.length p.2.2.1) l)->
  Vl p m L D->(0<=d/\d<L.length)->Vl p m (Ht p.2.2.1 x d ls L D).1 (Ht p.2.2.1 x d ls L D).2.1/\(∃A,(Ht p.2.2.1 x d ls L D).1=L++A)/\(∃A,(Ht p.2.2.1 x d ls L D).2.1=D++A)
 | [],L,D,_,h,_=>⟨h,⟨[],by simp [Ht]⟩,⟨[],by simp [Ht]⟩⟩
 |l::ls,L,D,hl,h,hd=>by
  obtain ⟨n1,n2⟩:=wM hV hx (hl l (by simp))
  have Gt: ∀l∈ls,Es (List.length p.2.2.1) l:= λl' h'=>hl l' (List.mem_cons_of_mem _ h')
  simp only [Ht]
  split
  ·exact pn hV hx SI ls L D Gt h hd
  ·rename_i hn
   split
   ·exact ⟨h,⟨[],by simp⟩,⟨[],by simp⟩⟩
   ·rename_i hf
    have gf:=h.ok.so
    obtain ⟨k1,⟨A,k2⟩,⟨A',k3⟩⟩:=pn hV hx SI ls (L++ [Ab x (An p.2.2.1 l)]) (D++ [d+1]) Gt (h.add hn (by rw [n1,SI]) (by omega) n2 ⟨by omega,by omega⟩) ⟨hd.1,by rw [List.length_append];omega⟩
    exact ⟨k1,⟨_::A,by rw [k2,List.append_assoc];rfl⟩,⟨_::A',by rw [k3,List.append_assoc];rfl⟩⟩
theorem yB {p:PP} (hV:Valid p) {m:Nat} {ls:List Int} (hl: ∀l∈ls,Es (List.length p.2.2.1) l): ∀(f k:Nat) (L:List (List Int)) (D:List Int),Vl p m L D->
  Vl p m (Mh p.2.2.1 ls f k L D).1 (Mh p.2.2.1 ls f k L D).2.1/\(∃A,(Mh p.2.2.1 ls f k L D).1=L++A)
 |0,k,L,D,h=>⟨h,⟨[],by simp [Mh]⟩⟩
 |f+1,k,L,D,h=>by
  simp only [Mh]
  split
  ·rename_i hk
   have WN:k<D.length:=by rw [h.len];exact hk
   have hd:=h.dep k WN
   have e:D.getD k 0=D[k]:=by rw [List.getD_eq_getElem?_getD,List.getElem?_eq_getElem WN];rfl
   rw [Ug hk,e]
   obtain ⟨k1,⟨A,k2⟩,_⟩:=pn hV (h.row _ (List.getElem_mem hk)) (h.ok.len _ (List.getElem_mem hk)) (d:=D[k]) ls L D hl h ⟨by omega,by omega⟩
   split
   ·rename_i L' D' he
    rw [he] at k1 k2
    obtain ⟨g1,⟨B,g2⟩⟩:=yB hV hl f (k+1) L' D' k1
    have k2:L'=L++A:=k2
    exact ⟨g1,⟨A++B,by rw [g2,k2,List.append_assoc]⟩⟩
   ·rename_i L' D' he
    rw [he] at k1 k2
    exact ⟨k1,⟨A,k2⟩⟩
  ·exact ⟨h,⟨[],by simp⟩⟩
theorem DF {p:PP} {s:List Int} (hv:Bx p=true) (hs:s.length<=20) (hr: ∀y∈s,0<=y/\y<p.1):Vl p s.length (Gk p.2.2.1 s).1 (Gk p.2.2.1 s).2.1/\ ∃A,(Gk p.2.2.1 s).1=s::A:=
 yB (valid hv) (λ_ hl=>Kr hl) _ _ _ _ (ly hs hr)
theorem My {p:PP} {t:List Int} :Cz p t=true↔Bx p=true/\Um p.1 t=true:=by
 unfold Cz;rw [Bool.and_eq_true]
theorem Fe {p:PP} {t:List Int} (h:Cz p t=true):t.length<=20/\ ∀y∈t,0<=y/\y<p.1:=by
 obtain ⟨h1,h2⟩:=My.1 h
 have hn:=(valid h1).n
 obtain ⟨h3,h4⟩:=Dw.1 h2
 have hy: ∀y∈t,0<=y/\y<p.1:= λy hy=>by
  obtain ⟨j,hj,rfl⟩:=List.mem_iff_getElem.1 hy
  have:=h4 j hj hj
  omega
 refine ⟨?_,hy⟩
 have h5:=GF h4 (t.length-1) (by omega)
 have h6:=hy _ (List.getElem_mem (show t.length-1<t.length by omega))
 omega
theorem x4 {p:PP} {t:List Int} (h:Cz p t=true):Vl p t.length (Gk p.2.2.1 t).1 (Gk p.2.2.1 t).2.1:=(DF (My.1 h).1 (Fe h).1 (Fe h).2).1
theorem aR {p:PP} {t:List Int} :Dh p t=true↔Cz p t=true/\(Gk p.2.2.1 t).2.2=true:=by
 unfold Dh;rw [Bool.and_eq_true]
theorem tW {p:PP} {m:Nat} {L:List (List Int)} {D:List Int} (h:Vl p m L D):Ff L/\short D:=by
 have h1:=h.ok.so
 have h2:=h.ok.short
 have h3:=h.len
 refine ⟨⟨by omega,λx hx=>?_⟩,by unfold short;omega⟩
 have:=h.ok.len x hx
 unfold short;omega
theorem mQ {p:PP} {t:List Int} :Le (Dx p t):=by
 unfold Dx
 split
 ·rename_i h
  have h1:=(aR.1 h).1
  have h2:=tW (x4 h1)
  have h3:=(Fe h1).1
  exact ⟨show t.length<=4294967296 by omega,h2.1,h2.2⟩
 ·exact ⟨by simp [short],⟨by simp,λr hr=>by cases hr⟩,by simp [short]⟩
theorem sM (p:PP) (t:List Int) (h:Ck p/\short t):fnW Cd (look [(84,Eb),(159,Fw)]) Ev Tryz.f151 (p,t,()) (λ(z:Bool)=>z=Cz p t):=by
 refine Eq.mp (tH p t _) ⟨_,if_pos h.1,⟨λhv=>?_,λhv=>?_⟩⟩
 ·have hv:Bx p=true:=hv
  have hn:=(valid hv).n
  refine ⟨_,if_pos ⟨⟨by show 0<=p.1;omega,by show p.1<=4294967296;omega⟩,h.2⟩,?_⟩
  unfold Cz;rw [hv];rfl
 ·have hv:Bx p=false:=hv
  unfold Cz;rw [hv];rfl
theorem kQ:Sound Tryz.prog 151 Ev:=
 Sound.Cg Bi (Ae Tm (Ae oo Aj)) mixed Tryz.func151 (by kernel_rfl) (by kernel_rfl) λx h=>sM x.1 x.2.1 h
theorem sS (p:PP) (t:List Int) (h:Ck p/\short t):fnW Cd (look [(93,Eb),(160,Fw)]) Ev Tryz.f155 (p,t,()) (λ(z:Bool)=>z=Cz p t):=by
 refine Eq.mp (tQ p t _) ⟨_,if_pos h.1,⟨λhv=>?_,λhv=>?_⟩⟩
 ·have hv:Bx p=true:=hv
  have hn:=(valid hv).n
  refine ⟨_,if_pos ⟨⟨by show 0<=p.1;omega,by show p.1<=4294967296;omega⟩,h.2⟩,?_⟩
  unfold Cz;rw [hv];rfl
 ·have hv:Bx p=false:=hv
  unfold Cz;rw [hv];rfl
theorem kU:Sound Tryz.prog 155 Ev:=
 Sound.Cg Bi (Ae Tn (Ae kR Aj)) mixed Tryz.func155 (by kernel_rfl) (by kernel_rfl) λx h=>sS x.1 x.2.1 h
theorem AI (p:PP) (t:List Int) (h:Ck p/\short t):fnW Cd (look [(155,Ev),(131,fP)]) Qd Tryz.f142 (p,t,()) (λ(z:SS×Bool×Unit)=>z=(Kq p t,Dh p t,())):=by
 refine Eq.mp (CG p t _) ⟨_,if_pos h,⟨λhn=>?_,λhn=>?_⟩⟩
 ·have hn:=Ed hn
  have e:Dh p t=false:=Bool.eq_false_iff.2 λhh=>hn (aR.1 hh).1
  unfold Kq
  rw [if_neg hn,e]
  rfl
 ·have hn:Cz p t=true:=Dk hn
  have e:Dh p t=(Gk p.2.2.1 t).2.2:=by unfold Dh;rw [hn,Bool.true_and]
  refine ⟨_,if_pos ⟨(My.1 hn).1,(Fe hn).1,(Fe hn).2⟩,?_⟩
  have key:(((Ms p.2.2.1 t).1,(Ms p.2.2.1 t).2.1,(Ms p.2.2.1 t).2.2.1,(Ms p.2.2.1 t).2.2.2.1,()),(Ms p.2.2.1 t).2.2.2.1,())=(Kq p t,Dh p t,()):=by
   unfold Kq
   rw [if_pos hn,e]
   rfl
  exact ⟨⟨⟨key,key⟩,key⟩,⟨key,key⟩,key⟩
theorem ow:Sound Tryz.prog 142 Qd:=
 Sound.Cg Bi (Ae kU (Ae BD Aj)) mixed Tryz.func142 (by kernel_rfl) (by kernel_rfl) λx h=>AI x.1 x.2.1 h
theorem zX (l:List (List Int)) (h:Ff l):fnW Cd (look [(116,Fo)]) Mx Tryz.f143 (l,()) (λ(z:List (List Int))=>z=l):=by
 obtain ⟨h1,h2⟩:=h
 refine Eq.mp (BW l _) ⟨rfl,rfl,?_⟩
 refine Ag l.length (λv=>v.1) (λj v=>v.2.1=l.take j) rfl (by simp) ?_
 rintro j ⟨i,ys,⟨⟩⟩ K hj hi hR hK
 dsimp only at hi hR⊢
 subst hi hR
 refine Br.dec (λhl=>?_) λhl=>?_
 ·have hl:j<l.length:=by omega
  refine ⟨_,Aq hl,_,if_pos (h2 _ (List.getElem_mem hl)),rfl,rfl,?_,rfl,rfl,?_⟩
  ·show (List.take j l).length+1<=4294967296
   rw [List.length_take];omega
  ·rw [Ah (by omega)]
   refine hK hl _ rfl ?_
   show List.take j l++ [l[j]]=_
   rw [List.take_add_one,List.getElem?_eq_getElem hl];rfl
 ·have:j=l.length:=by omega
  subst this
  rw [Bb,List.take_length]
theorem od:Sound Tryz.prog 143 Mx:=
 Sound.Cg Bi (Ae Rg Aj) mixed Tryz.func143 (by kernel_rfl) (by kernel_rfl) λx h=>zX x.1 h
theorem AJ (p:PP) (t:List Int) (h:Ck p/\short t):fnW Cd (look [(142,Qd),(116,Fo),(143,Mx)]) Qe Tryz.f125 (p,t,()) (λ(z:TT×Bool×Unit)=>z=(Dx p t,Dh p t,())):=by
 refine Eq.mp (CH p t _) ⟨_,if_pos h,⟨λhn=>?_,λhn=>?_⟩⟩
 ·have hn:=Ed hn
  have hn: ¬Dh p t=true:=hn
  unfold Dx
  rw [if_neg hn,Bool.eq_false_iff.2 hn]
  rfl
 ·have hn:Dh p t=true:=Dk hn
  obtain ⟨h1,h2⟩:=aR.1 hn
  have h3:=tW (x4 h1)
  have e:Kq p t=Ms p.2.2.1 t:=if_pos h1
  refine ⟨_,if_pos h.2,?_⟩
  show ∃y5:List (List Int),Mx.fn ((Kq p t).1,())=some y5/\ ∃y6:List Int,Fo.fn ((Kq p t).2.1,())=some y6/\((t,y5,y6,()),true,())=(Dx p t,Dh p t,())
  rw [e]
  refine ⟨_,if_pos h3.1,_,if_pos h3.2,?_⟩
  unfold Dx
  rw [if_pos hn,hn]
  rfl
theorem oz:Sound Tryz.prog 125 Qe:=
 Sound.Cg Bi (Ae ow (Ae Rg (Ae od Aj))) mixed Tryz.func125 (by kernel_rfl) (by kernel_rfl) λx h=>AJ x.1 x.2.1 h
def ll (m:ByteArray->Option Bool) (L:List (List Int)):Prop:= ∀q,cy q->(m (Rx q)).getD false=decide (q∈L)
theorem ll.add {m:ByteArray->Option Bool} {L:List (List Int)} {y:List Int} (h:ll m L) (hy:cy y):ll (eQ m (Rx y) true) (L++ [y]):=by
 intro q hq
 unfold eQ
 by_cases e:q=y
 ·subst e
  rw [if_pos rfl];simp
 ·rw [if_neg λhk=>e (key_inj hq hy hk),h q hq]
  simp [e]
theorem FY (n:Int) (str:ByteArray) (g:List (List Int)) (t:List Int) (h:Cz (n,str,g,()) t=true):
  fnMW (HS [Ux+10]) (look [(138,Xz),(79,Ge),(106,Hs),(122,Gx),(80,Wt)]) Th Tryz.f152 (n,str,g,t,()) (λ(z:(List (List Int)×List Int×Bool×Unit)×Unit)=>z=(((Dx (n,str,g,()) t).2.1,(Dx (n,str,g,()) t).2.2.1,Dh (n,str,g,()) t,()),())):=by
 obtain ⟨hv,_⟩:=My.1 h
 obtain ⟨ht,hr⟩:=Fe h
 have hV:=valid hv
 have gf:=hV.so
 have hn:=hV.n
 dsimp only at gf hn hr
 have hb0:=ly (p:=(n,str,g,())) ht hr
 have CT:short t:=by unfold short;omega
 obtain ⟨ls,nf⟩: ∃ls,Af g.length=ls:=⟨_,rfl⟩
 have WT:ls.length<=16:=by rw [<-nf,Jn];omega
 have jW: ∀l∈ls,Es (List.length g) l:= λl hl=>Kr (nf▸hl)
 have EK:Mh g ls 3001 0 [t] [0]=Gk g t:=by unfold Gk;rw [nf]
 have Aa9: ∀x:List Int,(∀y∈x,0<=y/\y<n)->cy x:= λx hx y hy=>by have:=hx y hy;omega
 have Agl: ∀L D ok,Gk g t=(L,D,ok)->(if ok=true then ((L,D,true,()),()) else ((([]:List (List Int)),([]:List Int),false,()),()))=(((Dx (n,str,g,()) t).2.1,(Dx (n,str,g,()) t).2.2.1,Dh (n,str,g,()) t,()),()):=by
  intro L D ok he
  have e1:Dh (n,str,g,()) t=ok:=by unfold Dh;rw [h,Bool.true_and];show (Gk g t).2.2=ok;rw [he]
  unfold Dx
  rw [e1]
  cases ok with
  |true=>rw [if_pos rfl,if_pos rfl];show ((L,D,true,()),())=(((Gk g t).1,(Gk g t).2.1,true,()),());rw [he]
  |false=>rw [if_neg (by decide),if_neg (by decide)]
 refine Eq.mp (IF n str g t _) ⟨_,if_pos CT,_,if_pos CT,ls,(if_pos ⟨by show (0:Int)<=((g.length:Nat):Int);omega,by show ((g.length:Nat):Int)<=8;omega⟩).trans (congrArg some (by show Af (((g.length:Nat):Int)).toNat=ls;rw [Int.toNat_natCast];exact nf)),rfl,rfl,rfl,rfl,rfl,rfl,?_⟩
 rw [Bb]
 refine Ag ls.length (λv=>v.1) (λj v=>v.2.1=n/\v.2.2.1=str/\v.2.2.2.1=g/\v.2.2.2.2.1=(ls.take j).map (An g)/\v.2.2.2.2.2.1= [t]/\v.2.2.2.2.2.2.1= [0]/\ll v.2.2.2.2.2.2.2.1 [t]) rfl
  ⟨rfl,rfl,rfl,by simp,rfl,rfl,λq hq=>?_⟩ ?_
 ·show (eQ (λ_=>none) (Rx t) true (Rx q)).getD false=_
  unfold eQ
  by_cases e:q=t
  ·subst e;rw [if_pos rfl];simp
  ·rw [if_neg λhk=>e (key_inj hq (Aa9 t hr) hk)];simp [e]
 rintro j ⟨i,n',Ais,g',mv,L1,D1,m1,⟨⟩⟩ K hj hi ⟨h1,h2,h3,h4,h5,h6,h7⟩ hK
 dsimp only at hi h1 h2 h3 h4 h5 h6 h7⊢
 subst hi h1 h2 h3 h4 h5 h6
 refine Br.dec (λhl=>?_) λhl=>⟨rfl,rfl,rfl,rfl,rfl,rfl,?_⟩
 ·have hl:j<ls.length:=by omega
  have lO:=jW _ (List.getElem_mem hl)
  refine ⟨_,Aq hl,_,if_pos ⟨lO,gf.2,hV.perm⟩,rfl,rfl,?_,rfl,rfl,rfl,rfl,rfl,rfl,?_⟩
  ·show (List.map (An g') (List.take j ls)).length+1<=4294967296
   rw [List.length_map,List.length_take];omega
  ·rw [Ah (by omega)]
   refine hK hl _ rfl ⟨rfl,rfl,rfl,?_,rfl,rfl,h7⟩
   show List.map (An g') (List.take j ls)++ [An g' ls[j]]=_
   rw [List.take_add_one,List.getElem?_eq_getElem hl,List.map_append];rfl
 ·have:j=ls.length:=by omega
  subst this
  rw [List.take_length]
  obtain ⟨ms,JR⟩: ∃ms,ls.map (An g')=ms:=⟨_,rfl⟩
  have Arh:ms.length=ls.length:=by rw [<-JR,List.length_map]
  have Amj: ∀i (h:i<ls.length),ms[i]'(by omega)=An g' ls[i]:= λi h=>by simp only [<-JR,List.getElem_map]
  rw [JR]
  refine Bk.mk (λv=>v.2.1=ms/\ ∃k:Nat,v.1=k/\k<=v.2.2.1.length/\Vl (n',Ais,g',()) t.length v.2.2.1 v.2.2.2.1/\ll v.2.2.2.2.1 v.2.2.1/\Mh g' ls (3001-k) k v.2.2.1 v.2.2.2.1=Gk g' t) (λv=>3001-v.1.toNat)
   ⟨rfl,0,rfl,by simp,hb0,h7,EK⟩ ?_
  rintro ⟨k',mv,L0,D0,mp,⟨⟩⟩ ⟨h1,k,h5,h6,h7,h8,h9⟩
  dsimp only at h1 h5 h6 h7 h8 h9
  subst h1 h5
  dsimp only
  have WJ:=h7.ok.so
  have hD0:=h7.len
  refine Br.dec (λhl=>⟨rfl,rfl,rfl,rfl,rfl,rfl,rfl,rfl,?_⟩) λhl=>?_
  ·have hk:k<L0.length:=by omega
   have WN:k<D0.length:=by omega
   have hx: ∀y∈L0[k],0<=y/\y<n':=h7.row _ (List.getElem_mem hk)
   have SI:L0[k].length=t.length:=h7.ok.len _ (List.getElem_mem hk)
   have hdk:=h7.dep k WN
   obtain ⟨f,hf⟩: ∃f,3001-k=f+1:=⟨3000-k,by omega⟩
   have hgo: ∀L' D' ok,Ht g' L0[k] D0[k] ls L0 D0=(L',D',ok)->Gk g' t=if ok=true then Mh g' ls f (k+1) L' D' else (L',D',false):=by
    intro L' D' ok he
    rw [<-h9,hf,Mh,if_pos hk,Ug hk,List.getD_eq_getElem?_getD,List.getElem?_eq_getElem WN]
    simp only [Option.getD_some]
    rw [he]
    cases ok<;>rfl
   refine Bk.mk (λv=>v.2.1=mv/\ ∃i:Nat,v.1=i/\i<=ls.length/\Vl (n',Ais,g',()) t.length v.2.2.1 v.2.2.2.1/\ll v.2.2.2.2.1 v.2.2.1/\(∃A,v.2.2.1=L0++A)/\(∃A,v.2.2.2.1=D0++A)/\
     Ht g' L0[k] D0[k] (ls.drop i) v.2.2.1 v.2.2.2.1=Ht g' L0[k] D0[k] ls L0 D0) (λv=>ls.length-v.1.toNat)
    ⟨rfl,0,rfl,Nat.zero_le _,h7,h8,⟨[],by simp⟩,⟨[],by simp⟩,rfl⟩ ?_
   rintro ⟨i',mv',L,D,mp2,⟨⟩⟩ ⟨g1,i,g5,g6,g7,g8,⟨A,g9⟩,⟨A',XH⟩,nZ⟩
   dsimp only at g1 g5 g6 g7 g8 g9 XH nZ
   subst g1 g5
   dsimp only
   have hLf:=g7.ok.so
   have hDl:=g7.len
   refine Br.dec (λhli=>?_) λhli=>?_
   ·have hi:i<ls.length:=by omega
    have hkL:k<L.length:=by rw [g9,List.length_append];omega
    have hLk:L[k]=L0[k]:=by simp only [g9];exact List.getElem_append_left hk
    have Aci:k<D.length:=by rw [hDl];exact hkL
    have hDk:D[k]=D0[k]:=by simp only [XH];exact List.getElem_append_left WN
    have lO:=jW _ (List.getElem_mem hi)
    obtain ⟨nl,nr⟩:=wM hV hx lO
    dsimp only at nl nr
    have LY:=fz hV lO
    dsimp only at LY
    rw [List.drop_eq_getElem_cons hi] at nZ
    simp only [Ht] at nZ
    have hyb:=Aa9 _ nr
    refine ⟨⟨by omega,by omega⟩,An g' ls[i],by rw [Int.toNat_natCast,Nat.zero_add,List.getElem?_eq_getElem (by omega),Amj i hi],⟨by omega,by omega⟩,L0[k],by rw [Int.toNat_natCast,Nat.zero_add,List.getElem?_eq_getElem hkL,hLk],
     _,if_pos ⟨by show short L0[k];unfold short;omega,by show Hz (An g' ls[i]).length L0[k];intro y hy;have:=hx y hy;omega⟩,?_⟩
    dsimp only
    rw [show Cb (An g' ls[i]) L0[k]=Ab L0[k] (An g' ls[i]) from rfl,Bb]
    generalize hyv:Ab L0[k] (An g' ls[i])=yv at*
    refine ⟨_,if_pos (by show short yv;unfold short;rw [nl];omega),?_⟩
    dsimp only
    rw [g8 _ hyb]
    refine ⟨λdO=>?_,λdO=>⟨rfl,rfl,rfl,rfl,rfl,rfl,rfl,rfl,?_⟩⟩
    ·have dO:yv∉L:=by simpa using dO
     rw [if_neg dO] at nZ
     refine ⟨λUk=>?_,λUk=>⟨rfl,rfl,by show L.length+1<=4294967296;omega,⟨by omega,by omega⟩,D0[k],by rw [Int.toNat_natCast,Nat.zero_add,List.getElem?_eq_getElem Aci,hDk],rfl,rfl,by show D.length+1<=4294967296;omega,rfl,rfl,rfl,rfl,rfl,rfl,rfl,rfl,?_⟩⟩
     ·have Uk:L.length=3000:=by
       have:(L.length:Int)=3000:=by simpa using Uk
       omega
      rw [if_pos Uk] at nZ
      have:=hgo _ _ _ nZ.symm
      rw [if_neg (by decide)] at this
      have:=Agl _ _ _ this
      rw [if_neg (by decide)] at this
      exact this
     ·have Uk:L.length≠3000:=by
       have:(L.length:Int)≠3000:=by simpa using Uk
       omega
      rw [if_neg Uk] at nZ
      rw [Bn (n:=D0[k]+1) (by omega) (by omega),Ah (by omega)]
      refine ⟨⟨rfl,i+1,rfl,hi,g7.add dO (by rw [nl,SI]) (by omega) nr ⟨by omega,by omega⟩,g8.add hyb,⟨A++ [yv],by rw [g9,List.append_assoc];rfl⟩,⟨A'++ [D0[k]+1],by rw [XH,List.append_assoc];rfl⟩,nZ⟩,by omega⟩
    ·have dO:yv∈L:=by simpa using dO
     rw [if_pos dO] at nZ
     rw [Ah (by omega)]
     exact ⟨⟨rfl,i+1,rfl,hi,g7,g8,⟨A,g9⟩,⟨A',XH⟩,nZ⟩,by omega⟩
   ·have:i=ls.length:=by omega
    subst this
    rw [List.drop_length,Ht] at nZ
    have:=hgo _ _ _ nZ.symm
    rw [if_pos rfl] at this
    rw [Ah (by omega)]
    refine ⟨rfl,rfl,rfl,rfl,rfl,rfl,⟨rfl,k+1,rfl,by rw [g9,List.length_append];omega,g7,g8,?_⟩,by omega⟩
    rw [show 3001-(k+1)=f by omega]
    exact this.symm
  ·have hk:k=L0.length:=by omega
   rw [Bb L0,Bb D0]
   obtain ⟨f,hf⟩: ∃f,3001-k=f+1:=⟨3000-k,by omega⟩
   rw [hf,Mh,if_neg (by omega)] at h9
   have:=Agl _ _ _ h9.symm
   rw [if_pos rfl] at this
   exact this
theorem rq:Ay Tryz.prog 152 Th:=
 Ay.jn (HT [Ux+10]) (Er kN (Ae Ye (Ae gY (Ae eG (Er th Aj))))) mixed Tryz.func152 (by kernel_rfl) (by kernel_rfl) λx h=>FY x.1 x.2.1 x.2.2.1 x.2.2.2.1 h
theorem po {p:PP} {t:List Int} (h: ¬Dh p t=true):Dx p t=([],[],[],()):=if_neg h
theorem GA (n:Int) (str:ByteArray) (g:List (List Int)) (t:List Int) (h:Ck (n,str,g,())/\short t):
  fnMW jh (look [(151,Ev),(152,Th)]) Tj Tryz.f137 (n,str,g,t,()) (λ(z:(List (List Int)×List Int×Bool×Unit)×Unit)=>z=(((Dx (n,str,g,()) t).2.1,(Dx (n,str,g,()) t).2.2.1,Dh (n,str,g,()) t,()),())):=by
 refine Eq.mp (II n str g t _) ⟨_,if_pos h,⟨λhn=>?_,λhn=>?_⟩⟩
 ·have hn: ¬Cz (n,str,g,()) t=true:=Ed hn
  have e: ¬Dh (n,str,g,()) t=true:= λhh=>hn (aR.1 hh).1
  rw [po e,Bool.eq_false_iff.2 e]
  rfl
 ·have hn:Cz (n,str,g,()) t=true:=Dk hn
  refine ⟨_,if_pos hn,?_⟩
  rw [Bb,Bb]
theorem rv:Ay Tryz.prog 137 Tj:=
 Ay.jn eN (Ae kQ (Er rq Aj)) mixed Tryz.func137 (by kernel_rfl) (by kernel_rfl) λx h=>GA x.1 x.2.1 x.2.2.1 x.2.2.2.1 h
theorem AA (n:Int) (str:ByteArray) (g:List (List Int)) (t:List Int) (h:Ck (n,str,g,())/\short t):
  fnMW jh (look [(137,Tj),(138,Xz)]) Qb Tryz.f113 (n,str,g,t,()) (λ(z:(List Int×List (List Int)×List Int×Bool×Unit)×Unit)=>z=(((Dx (n,str,g,()) t).1,(Dx (n,str,g,()) t).2.1,(Dx (n,str,g,()) t).2.2.1,Dh (n,str,g,()) t,()),())):=by
 refine Eq.mp (BZ n str g t _) ⟨_,if_pos h,⟨λhn=>?_,λhn=>?_⟩⟩
 ·have e: ¬Dh (n,str,g,()) t=true:=Ed hn
  rw [po e,Bool.eq_false_iff.2 e]
  rfl
 ·have e:Dh (n,str,g,()) t=true:=Dk hn
  refine ⟨_,if_pos h.2,?_⟩
  rw [Bb,Bb,Bb,e]
  have e2:(Dx (n,str,g,()) t).1=t:=by unfold Dx;rw [if_pos e]
  rw [e2]
theorem oh:Ay Tryz.prog 113 Qb:=
 Ay.jn eN (Er rv (Er kN Aj)) mixed Tryz.func113 (by kernel_rfl) (by kernel_rfl) λx h=>AA x.1 x.2.1 x.2.2.1 x.2.2.2.1 h
theorem wT (p:PP) (t:TT) (h:Ck p/\Le t):fnW Cd (look [(113,Qb),(114,Ep)]) Lj Tryz.f87 (p,t,()) (λ(z:Bool)=>z=Dj p t):=by
 refine Eq.mp (xV p t _) ⟨_,if_pos ⟨h.1,h.2.1⟩,⟨λhn=>?_,λhn=>?_⟩⟩
 ·have e:Dh p t.1=true:=hn
  rw [Bb,Bb,Bb]
  refine ⟨_,if_pos mQ,?_⟩
  unfold Dj
  rw [e];rfl
 ·have e:Dh p t.1=false:=hn
  unfold Dj
  rw [e];rfl
theorem mC:Sound Tryz.prog 87 Lj:=
 Sound.Cg Bi (Er oh (Ae gm Aj)) mixed Tryz.func87 (by kernel_rfl) (by kernel_rfl) λx h=>wT x.1 x.2.1 h
theorem wY (p:PP) (t:TT) (h:Ck p/\Le t):fnW Cd (look [(125,Qe),(126,Ep)]) Lj Tryz.f94 (p,t,()) (λ(z:Bool)=>z=Dj p t):=by
 refine Eq.mp (ya p t _) ⟨_,if_pos ⟨h.1,h.2.1⟩,⟨λhn=>?_,λhn=>?_⟩⟩
 ·have e:Dh p t.1=true:=hn
  refine ⟨_,if_pos mQ,?_⟩
  unfold Dj
  rw [e];rfl
 ·have e:Dh p t.1=false:=hn
  unfold Dj
  rw [e];rfl
theorem mE:Sound Tryz.prog 94 Lj:=
 Sound.Cg Bi (Ae oz (Ae gr Aj)) mixed Tryz.func94 (by kernel_rfl) (by kernel_rfl) λx h=>wY x.1 x.2.1 h
theorem Ain (t:TT) (p:PP) (h:Le t/\Ck p):fnW Cd (look [(87,Lj)]) uZ Tryz.f86 (t,p,()) (λ(z:Bool)=>z=!Dj p t):=by
 exact Eq.mp (Ajb t p _) ⟨_,if_pos ⟨h.2,h.1⟩,rfl⟩
theorem OL:Sound Tryz.prog 86 uZ:=
 Sound.Cg Bi (Ae mC Aj) mixed Tryz.func86 (by kernel_rfl) (by kernel_rfl) λx h=>Ain x.1 x.2.1 h
theorem Ae0 (ts:List TT) (c:PP×Unit) (h:Ew ts/\Ck c.1):fnW Cd (look [(86,uZ)]) mi Tryz.f112 (ts,c,()) (λ(z:Int)=>z=Mq (λt=>!Dj c.1 t) ts 0):=by
 obtain ⟨⟨h1,h2⟩,h3⟩:=h
 refine Eq.mp (Aet ts c _) ?_
 refine Ag ts.length (λv=>v.1) (λj _=>Mq (λt=>!Dj c.1 t) (ts.drop j) j=Mq (λt=>!Dj c.1 t) ts 0) rfl (by simp) ?_
 rintro j ⟨i,⟨⟩⟩ K hj hi hR hK
 dsimp only at hi⊢
 subst hi
 refine Br.dec (λhl=>?_) λhl=>?_
 ·have hl:j<ts.length:=by omega
  rw [List.drop_eq_getElem_cons hl] at hR
  simp only [Mq] at hR
  refine ⟨_,Aq hl,_,if_pos ⟨h2 _ (List.getElem_mem hl),h3⟩,⟨λhe=>?_,λhe=>?_⟩⟩
  ·have he:(!Dj c.1 ts[j])=true:=he
   rw [if_pos he] at hR
   exact hR
  ·have he:(!Dj c.1 ts[j])=false:=he
   rw [if_neg (by rw [he];decide)] at hR
   rw [Ah (by omega)]
   exact hK hl _ rfl (by push_cast;exact hR)
 ·have:j=ts.length:=by omega
  subst this
  rw [List.drop_length] at hR
  exact hR
theorem HI:Sound Tryz.prog 112 mi:=
 Sound.Cg Bi (Ae OL Aj) mixed Tryz.func112 (by kernel_rfl) (by kernel_rfl) λx h=>Ae0 x.1 x.2.1 h
theorem q9 (q:TT->Bool): ∀(ts:List TT) (k:Int),0<=k->decide (Mq q ts k>=0)=ts.any q
 | [],k,_=>by simp [Mq]
 |t::ts,k,hk=>by
  have ih:=q9 q ts (k+1) (by omega)
  rw [List.any_cons]
  by_cases e:q t=true
  ·have e2:Mq q (t::ts) k=k:=if_pos e
   rw [e]
   exact decide_eq_true (by rw [e2];exact hk)
  ·have e2:Mq q (t::ts) k=Mq q ts (k+1):=if_neg e
   rw [Bool.eq_false_iff.2 e,Bool.false_or,<-ih]
   exact decide_eq_decide.2 (by rw [e2])
theorem Adu (ts:List TT) (c:PP×Unit) (h:Ew ts/\Ck c.1):fnW Cd (look [(112,mi)]) me Tryz.f85 (ts,c,()) (λ(z:Bool)=>z=List.any ts (λt=>!Dj c.1 t)):=by
 exact Eq.mp (Aen ts c _) ⟨_,if_pos h,q9 _ ts 0 (Int.le_refl 0)⟩
theorem HD:Sound Tryz.prog 85 me:=
 Sound.Cg Bi (Ae HI Aj) mixed Tryz.func85 (by kernel_rfl) (by kernel_rfl) λx h=>Adu x.1 x.2.1 h
theorem yt (q:TT->Bool) (ts:List TT):(!List.any ts λt=>!q t)=List.all ts q:=by
 induction ts with
 |nil=>rfl
 |cons t ts ih=>simp only [List.any_cons,List.all_cons,<-ih];cases q t<;>simp
theorem qE (p:PP) (ts:List TT) (h:Ck p/\Ew ts):fnW Cd (look [(84,Eb),(85,me)]) Gy Tryz.f63 (p,ts,()) (λ(z:Bool)=>z=De p ts):=by
 refine Eq.mp (rV p ts _) ⟨_,if_pos h.1,⟨λhv=>Br.dec (λhl=>⟨_,if_pos ⟨h.2,h.1⟩,?_⟩) λhl=>?_,λhv=>?_⟩⟩
 ·have hv:Bx p=true:=hv
  have hl:ts.length<=4:=by omega
  show (!List.any ts λt=>!Dj p t)=_
  rw [yt]
  unfold De
  rw [hv,decide_eq_true hl];rfl
 ·unfold De
  rw [decide_eq_false (by omega),Bool.and_false];rfl
 ·have hv:Bx p=false:=hv
  unfold De
  rw [hv];rfl
theorem jd:Sound Tryz.prog 63 Gy:=
 Sound.Cg Bi (Ae Tm (Ae HD Aj)) mixed Tryz.func63 (by kernel_rfl) (by kernel_rfl) λx h=>qE x.1 x.2.1 h
theorem qF (p:PP) (ts:List TT) (h:Ck p/\Ew ts):fnW Cd (look [(93,Eb),(94,Lj)]) Gy Tryz.f72 (p,ts,()) (λ(z:Bool)=>z=De p ts):=by
 refine Eq.mp (rW p ts _) ⟨_,if_pos h.1,⟨λhv=>?_,λhv=>Br.dec (λhl=>?_) λhl=>?_⟩⟩
 ·have hv:Bx p=false:=Bool.eq_false_iff.2 (Ed hv)
  unfold De
  rw [hv];rfl
 ·unfold De
  rw [decide_eq_false (by omega),Bool.and_false];rfl
 ·have hv:Bx p=true:=Dk hv
  have hl:ts.length<=4:=by omega
  have e:De p ts=List.all ts (Dj p):=by
   unfold De
   rw [hv,decide_eq_true hl];rfl
  rw [e]
  refine Ag ts.length (λv=>v.1) (λj v=>v.2.1=p.1/\v.2.2.1=p.2.1/\v.2.2.2.1=p.2.2.1/\List.all (ts.drop j) (Dj p)=List.all ts (Dj p)) rfl ⟨rfl,rfl,rfl,by simp⟩ ?_
  rintro j ⟨i,n1,n2,n3,⟨⟩⟩ K hj hi ⟨h1,h2,h3,hR⟩ hK
  dsimp only at hi h1 h2 h3 hR⊢
  subst hi h1 h2 h3
  refine Br.dec (λhl=>?_) λhl=>?_
  ·have hl:j<ts.length:=by omega
   rw [List.drop_eq_getElem_cons hl,List.all_cons] at hR
   refine ⟨_,Aq hl,_,if_pos ⟨h.1,h.2.2 _ (List.getElem_mem hl)⟩,⟨λhe=>?_,λhe=>?_⟩⟩
   ·have he:Dj p ts[j]=false:=Bool.eq_false_iff.2 (Ed he)
    rw [he,Bool.false_and] at hR
    exact hR
   ·have he:Dj p ts[j]=true:=Dk he
    rw [he,Bool.true_and] at hR
    rw [Ah (by omega)]
    exact hK hl _ rfl ⟨rfl,rfl,rfl,hR⟩
  ·have:j=ts.length:=by omega
   subst this
   rw [List.drop_length] at hR
   exact hR
theorem je:Sound Tryz.prog 72 Gy:=
 Sound.Cg Bi (Ae Tn (Ae mE Aj)) mixed Tryz.func72 (by kernel_rfl) (by kernel_rfl) λx h=>qF x.1 x.2.1 h
theorem Ae6 (ts:List TT) (k:Int) (h:Ew ts/\roomy k):fnW Cd (look [(46,Ww)]) mn Tryz.f14 (ts,k,()) (λ(z:Int)=>z=FD ts k):=by
 obtain ⟨⟨h1,h2⟩,h3,h4⟩:=h
 refine Eq.mp (Aez ts k _) ?_
 rw [Bn (by omega) (by omega)]
 refine Br.dec (λhn=>?_) λhn=>?_
 ·exact (if_pos hn).symm
 ·have e:FD ts k=mH ts (k-ts.length):=if_neg hn
  rw [e]
  refine Ag ts.length (λv=>v.2.1) (λj v=>roomy v.1/\mH (ts.drop j) v.1=mH ts (k-ts.length)) rfl ⟨⟨by omega,by omega⟩,by simp⟩ ?_
  rintro j ⟨r,i,⟨⟩⟩ K hj hi ⟨hr,hR⟩ hK
  dsimp only at hi hr hR⊢
  subst hi
  refine Br.dec (λhl=>?_) λhl=>?_
  ·have hl:j<ts.length:=by omega
   rw [List.drop_eq_getElem_cons hl] at hR
   simp only [mH] at hR
   refine ⟨_,Aq hl,_,if_pos ⟨h2 _ (List.getElem_mem hl),hr⟩,Br.dec (λhm=>?_) λhm=>?_⟩
   ·have hm:Nj ts[j] r<0:=hm
    rw [if_pos hm] at hR
    exact hR
   ·have hm: ¬Nj ts[j] r<0:=hm
    rw [if_neg hm] at hR
    rw [Ah (by omega)]
    exact hK hl _ rfl ⟨ql hr hm,hR⟩
  ·have:j=ts.length:=by omega
   subst this
   rw [List.drop_length] at hR
   exact hR
theorem HL:Sound Tryz.prog 14 mn:=
 Sound.Cg Bi (Ae tn Aj) mixed Tryz.func14 (by kernel_rfl) (by kernel_rfl) λx h=>Ae6 x.1 x.2.1 h
theorem Ae8 (ts:List TT) (h:Ew ts):fnW Cd (look [(50,Wy)]) eD Tryz.f17 (ts,()) (λ(z:List TT)=>z=ts):=by
 obtain ⟨h,h4⟩:=h
 refine Eq.mp (Af1 ts _) ?_
 refine ⟨⟨by omega,by show (ts.length:Int)<(4294967296:Int)+1;omega⟩,rfl,rfl,rfl,?_⟩
 refine Ag ts.length (λv=>v.1) (λj v=>v.2.1.length=ts.length/\v.2.1.take j=ts.take j) rfl ⟨by simp,by simp⟩ ?_
 rintro j ⟨i,ys,⟨⟩⟩ K hj hi ⟨h1,h2⟩ hK
 dsimp only at hi h1 h2⊢
 subst hi
 refine Br.dec (λhl=>?_) λhl=>?_
 ·have hl:j<ts.length:=by omega
  refine ⟨_,Aq hl,_,if_pos (h4 _ (List.getElem_mem hl)),⟨by omega,by omega⟩,by rw [Int.toNat_natCast];omega,rfl,by rw [List.length_set],?_⟩
  rw [Ah (by omega),Int.toNat_natCast,Nat.zero_add]
  exact hK hl _ rfl ⟨by rw [List.length_set];exact h1,Ls hl h1 h2⟩
 ·have:j=ts.length:=by omega
  subst this
  rw [List.take_length,<-h1,List.take_length] at h2
  rw [List.drop_zero,List.take_length]
  exact h2
theorem HM:Sound Tryz.prog 17 eD:=
 Sound.Cg Bi (Ae tq Aj) mixed Tryz.func17 (by kernel_rfl) (by kernel_rfl) λx h=>Ae8 x.1 h
theorem lR {a b:TT} :Kp a b=true↔a=b:=by
 obtain ⟨a1,a2,a3,⟨⟩⟩:=a
 obtain ⟨b1,b2,b3,⟨⟩⟩:=b
 simp [Kp]
theorem Adx (a b:List TT) (h:Ew a):fnW Cd (look [(54,Ep)]) mf Tryz.f21 (a,b,()) (λ(z:Bool)=>z=decide (a=b)):=by
 obtain ⟨h1,h2⟩:=h
 refine Eq.mp (Aeq a b _) ⟨λhl=>?_,λhl=>?_⟩
 ·have hl:a.length≠b.length:=by
   have:(a.length:Int)≠b.length:=by simpa using hl
   omega
  exact (decide_eq_false λe=>hl (by rw [e])).symm
 ·have hl:a.length=b.length:=by
   have:(a.length:Int)=b.length:=by simpa using hl
   omega
  refine Ag a.length (λv=>v.1) (λj _=>(a=b↔a.drop j=b.drop j)) rfl (by simp) ?_
  rintro j ⟨i,⟨⟩⟩ K hj hi hR hK
  dsimp only at hi⊢
  subst hi
  refine Br.dec (λhla=>?_) λhla=>?_
  ·have hla:j<a.length:=by omega
   have XV:j<b.length:=by omega
   rw [List.drop_eq_getElem_cons hla,List.drop_eq_getElem_cons XV] at hR
   refine ⟨_,Aq hla,_,Aq XV,_,if_pos (h2 _ (List.getElem_mem hla)),⟨λhe=>?_,λhe=>?_⟩⟩
   ·have he: ¬Kp a[j] b[j]=true:=Ed he
    refine (decide_eq_false λe=>he (lR.2 ?_)).symm
    have:=hR.1 e
    simp only [List.cons.injEq] at this
    exact this.1
   ·have he:Kp a[j] b[j]=true:=Dk he
    rw [lR.1 he] at hR
    rw [Ah (by omega)]
    exact hK hla _ rfl (hR.trans ⟨λe=>(List.cons.inj e).2,λe=>by rw [e]⟩)
  ·have:j=a.length:=by omega
   subst this
   rw [List.drop_length,hl,List.drop_length] at hR
   exact (decide_eq_true (hR.2 rfl)).symm
theorem HF:Sound Tryz.prog 21 mf:=
 Sound.Cg Bi (Ae sZ Aj) mixed Tryz.func21 (by kernel_rfl) (by kernel_rfl) λx h=>Adx x.1 x.2.1 h
end Go.Proofs.YtfolipnappekaaaGreat
