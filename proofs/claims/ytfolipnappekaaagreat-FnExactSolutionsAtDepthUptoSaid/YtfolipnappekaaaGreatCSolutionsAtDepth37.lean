/-
  Part 38 of the proof that the statement FnExactSolutionsAtDepth holds.
-/
import Derived.Test.YtfolipnappekaaaGreatCSolutionsAtDepth36
import Derived.KernelRfl
namespace Go.Proofs.YtfolipnappekaaaGreat
open Go.RowKit
def Kc (x a b:Int):Bool:=decide (a<=x/\x<=b)
def fy (n x:Int):Bool:=decide (0<=x/\x<=IntKind.i64.wrap (n-1))
def At (a b:List Int):Bool:=decide (a=b)
def gP (xs:List Int) (x:Int):Bool:=decide (x∈xs)
def short (xs:List Int):Prop:=xs.length<=4294967296
noncomputable abbrev Bm:Spec:=Cg (.pair tI (.pair tI (.pair tI .unit))) .bool false true (λ_=>True) (λx=>Kc x.1 x.2.1 x.2.2.1)
noncomputable abbrev Wn:Spec:=Cg (.pair tI (.pair tI .unit)) .bool false true (λ_=>True) (λx=>fy x.1 x.2.1)
noncomputable abbrev Ap:Spec:=Cg (.pair tL (.pair tL .unit)) .bool false true (λx=>short x.1) (λx=>At x.1 x.2.1)
noncomputable abbrev Lm:Spec:=Cg (.pair tL (.pair tI .unit)) .bool false true (λx=>short x.1) (λx=>gP x.1 x.2.1)
theorem ON (x a b:Int) (P:Bool->Prop):(Br (decide (x>=a)) (P (decide (x<=b))) (P false))=fnW Cd (look []) Bm Tryz.f88 (x,a,b,()) P:=by kernel_rfl
theorem VT (x a b:Int) (P:Bool->Prop):(Br (decide (x>=a)) (P (decide (x<=b))) (P false))=fnW Cd (look []) Bm Tryz.f90 (x,a,b,()) P:=by kernel_rfl
theorem OQ (n x:Int) (P:Bool->Prop):(∃(y3:Bool),Bm.fn (x,0,IntKind.i64.wrap (n-1),())=some y3/\P y3)=fnW Cd (look [(90,Bm)]) Wn Tryz.f161 (n,x,()) P:=by kernel_rfl
theorem BN (a b:List Int) (P:Bool->Prop):(Br ((↑a.length:Int) !=(↑b.length:Int)) (P false) (Bk (λ(v3:Int×PUnit) (k4:Int×PUnit->Prop)=>Br (decide (v3.1<(↑a.length:Int))) (∃(y5:Int),idx a v3.1=some y5/\ ∃(y6:Int),idx b v3.1=some y6/\Br (y5 !=y6) (P false) (k4 (IntKind.i64.wrap (v3.1+1),()))) (P true)) (0,PUnit.unit)))=fnW Cd (look []) Ap Tryz.f101 (a,b,()) P:=by kernel_rfl
theorem tB (a b:List Int) (P:Bool->Prop):(Br ((↑a.length:Int) !=(↑b.length:Int)) (P false) (Bk (λ(v3:Int×PUnit) (k4:Int×PUnit->Prop)=>Br (decide (v3.1<(↑a.length:Int))) (∃(y5:Int),idx a v3.1=some y5/\ ∃(y6:Int),idx b v3.1=some y6/\Br (y5 !=y6) (P false) (k4 (IntKind.i64.wrap (v3.1+1),()))) (P true)) (0,PUnit.unit)))=fnW Cd (look []) Ap Tryz.f139 (a,b,()) P:=by kernel_rfl
theorem tt (xs:List Int) (x:Int) (P:Bool->Prop):(Bk (λ(v3:Int×PUnit) (k4:Int×PUnit->Prop)=>Br (decide (v3.1<(↑xs.length:Int))) (∃(y5:Int),idx xs v3.1=some y5/\Br (y5==x) (P true) (k4 (IntKind.i64.wrap (v3.1+1),()))) (P false)) (0,PUnit.unit))=fnW Cd (look []) Lm Tryz.f100 (xs,x,()) P:=by kernel_rfl
theorem MP (x a b:Int) (_:True):fnW Cd (look []) Bm Tryz.f88 (x,a,b,()) (λ(z:Bool)=>z=Kc x a b):=by
 refine Eq.mp (ON x a b _) ?_
 refine Br.dec (λh=>?_) λh=>?_
 ·have h:a<=x:=h
  simp [Kc,h]
 ·exact (decide_eq_false λhh=>h hh.1).symm
theorem Tv:Sound Tryz.prog 88 Bm:=
 Sound.Cg Bi Ai mixed Tryz.func88 (by kernel_rfl) (by kernel_rfl) λx h=>MP x.1 x.2.1 x.2.2.1 h
theorem TS (x a b:Int) (_:True):fnW Cd (look []) Bm Tryz.f90 (x,a,b,()) (λ(z:Bool)=>z=Kc x a b):=by
 refine Eq.mp (VT x a b _) ?_
 refine Br.dec (λh=>?_) λh=>?_
 ·have h:a<=x:=h
  simp [Kc,h]
 ·exact (decide_eq_false λhh=>h hh.1).symm
theorem Ri:Sound Tryz.prog 90 Bm:=
 Sound.Cg Bi Ai mixed Tryz.func90 (by kernel_rfl) (by kernel_rfl) λx h=>TS x.1 x.2.1 x.2.2.1 h
theorem MS (n x:Int) (_:True):fnW Cd (look [(90,Bm)]) Wn Tryz.f161 (n,x,()) (λ(z:Bool)=>z=fy n x):=
 Eq.mp (OQ n x _) ⟨_,if_pos trivial,rfl⟩
theorem sU:Sound Tryz.prog 161 Wn:=
 Sound.Cg Bi (Ae Ri Ai) mixed Tryz.func161 (by kernel_rfl) (by kernel_rfl) λx h=>MS x.1 x.2.1 h
theorem sA (xs:List Int) (x:Int) (h:short xs):fnW Cd (look []) Lm Tryz.f100 (xs,x,()) (λ(z:Bool)=>z=gP xs x):=by
 refine Eq.mp (tt xs x _) ?_
 unfold short at h
 refine Aj xs.length (λv=>v.1) (λj _=>x∉xs.take j) rfl (by simp) ?_
 rintro j ⟨i,⟨⟩⟩ K hj hi hR hK
 dsimp only at hi⊢
 subst hi
 refine Br.dec (λhl=>?_) λhl=>?_
 ·have hl:j<xs.length:=by omega
  refine ⟨_,Aq hl,⟨λhe=>?_,λhe=>?_⟩⟩
  ·have hm:=List.getElem_mem hl
   simp only [beq_iff_eq] at he
   rw [he] at hm
   exact (decide_eq_true hm).symm
  ·rw [Ag (by omega)]
   refine hK hl _ rfl ?_
   simp only [beq_eq_false_iff_ne,ne_eq] at he
   rw [List.take_succ_eq_append_getElem hl]
   simp only [List.mem_append,List.mem_singleton,not_or]
   exact ⟨hR,λhx=>he hx.symm⟩
 ·have:j=xs.length:=by omega
  subst this
  rw [List.take_length] at hR
  exact (decide_eq_false hR).symm
theorem kF:Sound Tryz.prog 100 Lm:=
 Sound.Cg Bi Ai mixed Tryz.func100 (by kernel_rfl) (by kernel_rfl) λx h=>sA x.1 x.2.1 h
theorem vM (a b:List Int) (hlen:a.length=b.length) (h:short a):
  Bk (λ(v3:Int×PUnit) (k4:Int×PUnit->Prop)=>
   Br (decide (v3.1<(↑a.length:Int))) (∃(y5:Int),idx a v3.1=some y5/\ ∃(y6:Int),idx b v3.1=some y6/\Br (y5 !=y6) (false=At a b) (k4 (IntKind.i64.wrap (v3.1+1),())))
    (true=At a b))
  (0,PUnit.unit):=by
 unfold short at h
 refine Aj a.length (λv=>v.1) (λj _=>a.take j=b.take j) rfl (by simp) ?_
 rintro j ⟨i,⟨⟩⟩ K hj hi hR hK
 dsimp only at hi⊢
 subst hi
 refine Br.dec (λhl=>?_) λhl=>?_
 ·have fm:j<a.length:=by omega
  have rS:j<b.length:=by omega
  refine ⟨_,Aq fm,_,Aq rS,⟨λhe=>?_,λhe=>?_⟩⟩
  ·simp only [bne_iff_ne,ne_eq] at he
   refine (decide_eq_false λiE=>he ?_).symm
   subst iE
   rfl
  ·rw [Ag (by omega)]
   refine hK fm _ rfl ?_
   simp only [bne_eq_false_iff_eq] at he
   rw [List.take_succ_eq_append_getElem fm,List.take_succ_eq_append_getElem rS,hR,he]
 ·have w5:j=a.length:=by omega
  subst w5
  rw [List.take_length,hlen,List.take_length] at hR
  exact (decide_eq_true hR).symm
theorem zN (a b:List Int) (h:short a):fnW Cd (look []) Ap Tryz.f101 (a,b,()) (λ(z:Bool)=>z=At a b):=by
 refine Eq.mp (BN a b _) ⟨λhl=>?_,λhl=>?_⟩
 ·simp only [bne_iff_ne,ne_eq,Int.natCast_inj] at hl
  exact (decide_eq_false λiE=>hl (by rw [iE])).symm
 ·simp only [bne_eq_false_iff_eq,Int.natCast_inj] at hl
  exact vM a b hl h
theorem Ow:Sound Tryz.prog 101 Ap:=
 Sound.Cg Bi Ai mixed Tryz.func101 (by kernel_rfl) (by kernel_rfl) λx h=>zN x.1 x.2.1 h
theorem sG (a b:List Int) (h:short a):fnW Cd (look []) Ap Tryz.f139 (a,b,()) (λ(z:Bool)=>z=At a b):=by
 refine Eq.mp (tB a b _) ⟨λhl=>?_,λhl=>?_⟩
 ·simp only [bne_iff_ne,ne_eq,Int.natCast_inj] at hl
  exact (decide_eq_false λiE=>hl (by rw [iE])).symm
 ·simp only [bne_eq_false_iff_eq,Int.natCast_inj] at hl
  exact vM a b hl h
theorem Zg:Sound Tryz.prog 139 Ap:=
 Sound.Cg Bi Ai mixed Tryz.func139 (by kernel_rfl) (by kernel_rfl) λx h=>sG x.1 x.2.1 h
end Go.Proofs.YtfolipnappekaaaGreat

namespace Go.Proofs.YtfolipnappekaaaGreat
open Go.RowKit
abbrev TT:Type:=List Int×List (List Int)×List Int×Unit
def Ff (xs:List (List Int)):Prop:=xs.length<=4294967296/\ ∀r∈xs,short r
def Lc (t:TT):Prop:=short t.1/\Ff t.2.1/\short t.2.2.1
def roomy (room:Int):Prop:=0<=room/\room<=4294967296
def lM (n:Nat) (room:Int):Int:=if room-n<0 then-1 else room-n
def Xp (xs:List Int) (room:Int):Int:=lM xs.length room
def rC:List (List Int)->Int->Int
 | [],room=>room
 |r::rs,room=>if Xp r room<0 then-1 else rC rs (Xp r room)
def Nt (xs:List (List Int)) (room:Int):Int:=if lM xs.length room<0 then-1 else rC xs (lM xs.length room)
def Nh (t:TT) (room:Int):Int:=
 if Xp t.1 room<0 then-1 else if Nt t.2.1 (Xp t.1 room)<0 then-1 else
 if Xp t.2.2.1 (Nt t.2.1 (Xp t.1 room))<0 then-1 else Xp t.2.2.1 (Nt t.2.1 (Xp t.1 room))
def Mn (a b:List (List Int)):Bool:=decide (a=b)
def Kn (a b:TT):Bool:=decide (a.1=b.1)&&(decide (a.2.1=b.2.1)&&decide (a.2.2.1=b.2.2.1))
noncomputable abbrev gT:Spec:=Cg (.pair tL (.pair tI .unit)) tI false true (λx=>short x.1/\roomy x.2.1) (λx=>Xp x.1 x.2.1)
noncomputable abbrev c5:Spec:=Cg (.pair cU (.pair tI .unit)) tI false true (λx=>Ff x.1/\roomy x.2.1) (λx=>Nt x.1 x.2.1)
noncomputable abbrev Wr:Spec:=Cg (.pair Gz (.pair tI .unit)) tI false true (λx=>Lc x.1/\roomy x.2.1) (λx=>Nh x.1 x.2.1)
noncomputable abbrev Xv:Spec:=Cg (.pair tL .unit) tL false true (λx=>short x.1) (λx=>x.1)
noncomputable abbrev c6:Spec:=Cg (.pair cU .unit) cU false true (λx=>Ff x.1) (λx=>x.1)
noncomputable abbrev Wt:Spec:=Cg (.pair Gz .unit) Gz false true (λx=>Lc x.1) (λx=>x.1)
noncomputable abbrev Pk:Spec:=Cg (.pair cU (.pair cU .unit)) .bool false true (λx=>Ff x.1) (λx=>Mn x.1 x.2.1)
noncomputable abbrev Ep:Spec:=Cg (.pair Gz (.pair Gz .unit)) .bool false true (λx=>Lc x.1) (λx=>Kn x.1 x.2.1)
theorem Aiy (xs:List Int) (room:Int) (P:Int->Prop):(Br (decide (IntKind.i64.wrap (room-(↑xs.length:Int))<0)) (P (-1)) (P (IntKind.i64.wrap (room-(↑xs.length:Int)))))=fnW Cd (look []) gT Tryz.f71 (xs,room,()) P:=by kernel_rfl
theorem Aep (xs:List (List Int)) (room:Int) (P:Int->Prop):(Br (decide (IntKind.i64.wrap (room-(↑xs.length:Int))<0)) (P (-1)) (Bk (λ(v3:Int×Int×PUnit) (k4:Int×Int×PUnit->Prop)=>Br (decide (v3.2.1<(↑xs.length:Int))) (∃(y5:List Int),idx xs v3.2.1=some y5/\ ∃(y6:Int),gT.fn (y5,v3.1,())=some y6/\Br (decide (y6<0)) (P (-1)) (k4 (y6,IntKind.i64.wrap (v3.2.1+1),()))) (P v3.1)) (IntKind.i64.wrap (room-(↑xs.length:Int)),0,PUnit.unit)))=fnW Cd (look [(71,gT)]) c5 Tryz.f45 (xs,room,()) P:=by kernel_rfl
theorem OX (t:List Int×List (List Int)×List Int×Unit) (room:Int) (P:Int->Prop):(∃(y3:Int),gT.fn (t.1,room,())=some y3/\Br (decide (y3<0)) (P (-1)) (∃(y4:Int),c5.fn (t.2.1,y3,())=some y4/\Br (decide (y4<0)) (P (-1)) (∃(y5:Int),gT.fn (t.2.2.1,y4,())=some y5/\Br (decide (y5<0)) (P (-1)) (P y5))))=fnW Cd (look [(71,gT),(45,c5)]) Wr Tryz.f46 (t,room,()) P:=by kernel_rfl
theorem Aj0 (xs:List Int) (P:List Int->Prop):((0<=(↑xs.length:Int)/\(↑xs.length:Int)<(↑Be:Int)+1)/\(↑xs.length:Int)=(↑xs.length:Int)/\0=0/\(List.replicate (↑xs.length:Int).toNat (Int.ofNat 0)).length=(List.replicate (↑xs.length:Int).toNat (Int.ofNat 0)).length/\Bk (λ(v2:Int×List Int×PUnit) (k3:Int×List Int×PUnit->Prop)=>Br (decide (v2.1<(↑xs.length:Int))) (∃(y4:Int),idx xs v2.1=some y4/\(0<=v2.1/\v2.1<(↑v2.2.1.length:Int))/\0+v2.1.toNat<v2.2.1.length/\0=0/\v2.2.1.length=(v2.2.1.set (0+v2.1.toNat) y4).length/\k3 (IntKind.i64.wrap (v2.1+1),v2.2.1.set (0+v2.1.toNat) y4,())) (P (List.take v2.2.1.length (List.drop 0 v2.2.1)))) (0,List.replicate (↑xs.length:Int).toNat (Int.ofNat 0),PUnit.unit))=fnW Cd (look []) Xv Tryz.f18 (xs,()) P:=by kernel_rfl
theorem Aer (xs:List (List Int)) (P:List (List Int)->Prop):((0<=(↑xs.length:Int)/\(↑xs.length:Int)<(↑Be:Int)+1)/\(↑xs.length:Int)=(↑xs.length:Int)/\0=0/\(List.replicate (↑xs.length:Int).toNat ([]:List Int)).length=(List.replicate (↑xs.length:Int).toNat ([]:List Int)).length/\Bk (λ(v2:Int×List (List Int)×PUnit) (k3:Int×List (List Int)×PUnit->Prop)=>Br (decide (v2.1<(↑xs.length:Int))) (∃(y4:List Int),idx xs v2.1=some y4/\ ∃(y5:List Int),Xv.fn (y4,())=some y5/\(0<=v2.1/\v2.1<(↑v2.2.1.length:Int))/\0+v2.1.toNat<v2.2.1.length/\0=0/\v2.2.1.length=(v2.2.1.set (0+v2.1.toNat) y5).length/\k3 (IntKind.i64.wrap (v2.1+1),v2.2.1.set (0+v2.1.toNat) y5,())) (P (List.take v2.2.1.length (List.drop 0 v2.2.1)))) (0,List.replicate (↑xs.length:Int).toNat ([]:List Int),PUnit.unit))=fnW Cd (look [(18,Xv)]) c6 Tryz.f49 (xs,()) P:=by kernel_rfl
theorem OZ (t:List Int×List (List Int)×List Int×Unit) (P:(List Int×List (List Int)×List Int×Unit)->Prop):(∃(y2:List Int),Xv.fn (t.1,())=some y2/\ ∃(y3:List (List Int)),c6.fn (t.2.1,())=some y3/\ ∃(y4:List Int),Xv.fn (t.2.2.1,())=some y4/\P (y2,y3,y4,()))=fnW Cd (look [(18,Xv),(49,c6)]) Wt Tryz.f50 (t,()) P:=by kernel_rfl
theorem Ait (a b:List Int) (P:Bool->Prop):(Br ((↑a.length:Int) !=(↑b.length:Int)) (P false) (Bk (λ(v3:Int×PUnit) (k4:Int×PUnit->Prop)=>Br (decide (v3.1<(↑a.length:Int))) (∃(y5:Int),idx a v3.1=some y5/\ ∃(y6:Int),idx b v3.1=some y6/\Br (y5 !=y6) (P false) (k4 (IntKind.i64.wrap (v3.1+1),()))) (P true)) (0,PUnit.unit)))=fnW Cd (look []) Ap Tryz.f22 (a,b,()) P:=by kernel_rfl
theorem Aeg (a b:List (List Int)) (P:Bool->Prop):(Br ((↑a.length:Int) !=(↑b.length:Int)) (P false) (Bk (λ(v3:Int×PUnit) (k4:Int×PUnit->Prop)=>Br (decide (v3.1<(↑a.length:Int))) (∃(y5:List Int),idx a v3.1=some y5/\ ∃(y6:List Int),idx b v3.1=some y6/\ ∃(y7:Bool),Ap.fn (y5,y6,())=some y7/\Br (!y7) (P false) (k4 (IntKind.i64.wrap (v3.1+1),()))) (P true)) (0,PUnit.unit)))=fnW Cd (look [(22,Ap)]) Pk Tryz.f53 (a,b,()) P:=by kernel_rfl
theorem OM (a b:List Int×List (List Int)×List Int×Unit) (P:Bool->Prop):(∃(y3:Bool),Ap.fn (a.1,b.1,())=some y3/\Br (!y3) (P false) (∃(y4:Bool),Pk.fn (a.2.1,b.2.1,())=some y4/\Br (!y4) (P false) (∃(y5:Bool),Ap.fn (a.2.2.1,b.2.2.1,())=some y5/\Br (!y5) (P false) (P true))))=fnW Cd (look [(22,Ap),(53,Pk)]) Ep Tryz.f54 (a,b,()) P:=by kernel_rfl
theorem Wj {n:Nat} {room:Int} (h:roomy room) (h2: ¬lM n room<0):roomy (lM n room):=by
 unfold lM roomy at*
 split at h2<;>simp_all
 omega
theorem Aia (xs:List Int) (room:Int) (h:short xs/\roomy room):fnW Cd (look []) gT Tryz.f71 (xs,room,()) (λ(z:Int)=>z=Xp xs room):=by
 obtain ⟨h1,h2,h3⟩:=h
 unfold short at h1
 refine Eq.mp (Aiy xs room _) ?_
 rw [Bo (by omega) (by omega)]
 refine Br.dec (λh=>?_) λh=>?_
 ·simp only [Xp,lM,if_pos h]
 ·simp only [Xp,lM,if_neg h]
theorem uY:Sound Tryz.prog 71 gT:=
 Sound.Cg Bi Ai mixed Tryz.func71 (by kernel_rfl) (by kernel_rfl) λx h=>Aia x.1 x.2.1 h
theorem Adw (xs:List (List Int)) (room:Int) (h:Ff xs/\roomy room):fnW Cd (look [(71,gT)]) c5 Tryz.f45 (xs,room,()) (λ(z:Int)=>z=Nt xs room):=by
 obtain ⟨⟨h1,h4⟩,h2,h3⟩:=h
 refine Eq.mp (Aep xs room _) ?_
 rw [Bo (by omega) (by omega)]
 refine Br.dec (λh=>?_) λh=>?_
 ·simp only [Nt,lM,if_pos h];rfl
 ·refine Aj xs.length (λv=>v.2.1) (λj v=>roomy v.1/\rC (xs.drop j) v.1=Nt xs room) rfl ?_ ?_
  ·refine ⟨by unfold roomy;omega,?_⟩
   simp only [Nt,lM,if_neg h,List.drop_zero]
  ·rintro j ⟨r,i,⟨⟩⟩ K hj hi ⟨hr,hR⟩ hK
   dsimp only at hi hr hR⊢
   subst hi
   refine Br.dec (λhl=>?_) λhl=>?_
   ·have hl:j<xs.length:=by omega
    have hd:xs.drop j=xs[j]::xs.drop (j+1):=List.drop_eq_getElem_cons hl
    refine ⟨_,Aq hl,_,if_pos ⟨h4 _ (List.getElem_mem hl),hr⟩,?_⟩
    rw [hd] at hR
    simp only [rC] at hR
    refine Br.dec (λhn=>?_) λhn=>?_
    ·have hn:Xp xs[j] r<0:=hn
     rw [if_pos hn] at hR
     exact hR
    ·have hn: ¬Xp xs[j] r<0:=hn
     rw [if_neg hn] at hR
     rw [Ag (by omega)]
     exact hK hl _ rfl ⟨Wj hr hn,hR⟩
   ·have:j=xs.length:=by omega
    subst this
    rw [List.drop_length] at hR
    exact hR
theorem rk:Sound Tryz.prog 45 c5:=
 Sound.Cg Bi (Ae uY Ai) mixed Tryz.func45 (by kernel_rfl) (by kernel_rfl) λx h=>Adw x.1 x.2.1 h
theorem v7: ∀(xs:List (List Int)) (room:Int),roomy room-> ¬rC xs room<0->roomy (rC xs room)
 | [],room,h,_=>h
 |r::rs,room,h,h2=>by
  simp only [rC] at h2⊢
  split
  ·rename_i hn;rw [if_pos hn] at h2;exact absurd (show (-1:Int)<0 by decide) h2
  ·rename_i hn;rw [if_neg hn] at h2;exact v7 rs _ (Wj h hn) h2
theorem ng {xs:List (List Int)} {room:Int} (h:roomy room) (h2: ¬Nt xs room<0):roomy (Nt xs room):=by
 unfold Nt at*
 split
 ·rename_i hn;rw [if_pos hn] at h2;exact absurd (show (-1:Int)<0 by decide) h2
 ·rename_i hn;rw [if_neg hn] at h2;exact v7 _ _ (Wj h hn) h2
theorem MZ (t:TT) (room:Int) (h:Lc t/\roomy room):fnW Cd (look [(71,gT),(45,c5)]) Wr Tryz.f46 (t,room,()) (λ(z:Int)=>z=Nh t room):=by
 obtain ⟨⟨h1,h2,h3⟩,hr⟩:=h
 refine Eq.mp (OX t room _) ?_
 refine ⟨_,if_pos ⟨h1,hr⟩,Br.dec (λhn=>?_) λhn=>?_⟩
 ·exact (if_pos hn).symm
 ·have r1:=Wj hr hn
  refine ⟨_,if_pos ⟨h2,r1⟩,Br.dec (λhm=>?_) λhm=>?_⟩
  ·exact ((if_neg hn).trans (if_pos hm)).symm
  ·have r2:=ng r1 hm
   refine ⟨_,if_pos ⟨h3,r2⟩,Br.dec (λhk=>?_) λhk=>?_⟩
   ·exact ((if_neg hn).trans ((if_neg hm).trans (if_pos hk))).symm
   ·exact ((if_neg hn).trans ((if_neg hm).trans (if_neg hk))).symm
theorem sZ:Sound Tryz.prog 46 Wr:=
 Sound.Cg Bi (Ae uY (Ae rk Ai)) mixed Tryz.func46 (by kernel_rfl) (by kernel_rfl) λx h=>MZ x.1 x.2.1 h
theorem Lp {α:Type} {ys xs:List α} {j:Nat} (h:j<xs.length) (hl:ys.length=xs.length) (ht:ys.take j=xs.take j):(ys.set j xs[j]).take (j+1)=xs.take (j+1):=by
 have h1:j<(ys.set j xs[j]).length:=by rw [List.length_set];omega
 rw [List.take_succ_eq_append_getElem h1,List.take_succ_eq_append_getElem h,List.getElem_set_self,List.take_set_of_le (Nat.le_refl j),ht]
theorem Aic (xs:List Int) (h:short xs):fnW Cd (look []) Xv Tryz.f18 (xs,()) (λ(z:List Int)=>z=xs):=by
 unfold short at h
 refine Eq.mp (Aj0 xs _) ?_
 refine ⟨⟨by omega,by show (xs.length:Int)<(4294967296:Int)+1;omega⟩,rfl,rfl,rfl,?_⟩
 refine Aj xs.length (λv=>v.1) (λj v=>v.2.1.length=xs.length/\v.2.1.take j=xs.take j) rfl ⟨by simp,by simp⟩ ?_
 rintro j ⟨i,ys,⟨⟩⟩ K hj hi ⟨h1,h2⟩ hK
 dsimp only at hi h1 h2⊢
 subst hi
 refine Br.dec (λhl=>?_) λhl=>?_
 ·have hl:j<xs.length:=by omega
  refine ⟨_,Aq hl,⟨by omega,by omega⟩,by rw [Int.toNat_natCast];omega,rfl,by rw [List.length_set],?_⟩
  rw [Ag (by omega),Int.toNat_natCast,Nat.zero_add]
  exact hK hl _ rfl ⟨by rw [List.length_set];exact h1,Lp hl h1 h2⟩
 ·have:j=xs.length:=by omega
  subst this
  rw [List.take_length,<-h1,List.take_length] at h2
  rw [List.drop_zero,List.take_length]
  exact h2
theorem mr:Sound Tryz.prog 18 Xv:=
 Sound.Cg Bi Ai mixed Tryz.func18 (by kernel_rfl) (by kernel_rfl) λx h=>Aic x.1 h
theorem Ady (xs:List (List Int)) (h:Ff xs):fnW Cd (look [(18,Xv)]) c6 Tryz.f49 (xs,()) (λ(z:List (List Int))=>z=xs):=by
 obtain ⟨h,h4⟩:=h
 refine Eq.mp (Aer xs _) ?_
 refine ⟨⟨by omega,by show (xs.length:Int)<(4294967296:Int)+1;omega⟩,rfl,rfl,rfl,?_⟩
 refine Aj xs.length (λv=>v.1) (λj v=>v.2.1.length=xs.length/\v.2.1.take j=xs.take j) rfl ⟨by simp,by simp⟩ ?_
 rintro j ⟨i,ys,⟨⟩⟩ K hj hi ⟨h1,h2⟩ hK
 dsimp only at hi h1 h2⊢
 subst hi
 refine Br.dec (λhl=>?_) λhl=>?_
 ·have hl:j<xs.length:=by omega
  refine ⟨_,Aq hl,_,if_pos (h4 _ (List.getElem_mem hl)),⟨by omega,by omega⟩,by rw [Int.toNat_natCast];omega,rfl,by rw [List.length_set],?_⟩
  rw [Ag (by omega),Int.toNat_natCast,Nat.zero_add]
  exact hK hl _ rfl ⟨by rw [List.length_set];exact h1,Lp hl h1 h2⟩
 ·have:j=xs.length:=by omega
  subst this
  rw [List.take_length,<-h1,List.take_length] at h2
  rw [List.drop_zero,List.take_length]
  exact h2
theorem rn:Sound Tryz.prog 49 c6:=
 Sound.Cg Bi (Ae mr Ai) mixed Tryz.func49 (by kernel_rfl) (by kernel_rfl) λx h=>Ady x.1 h
theorem NB (t:TT) (h:Lc t):fnW Cd (look [(18,Xv),(49,c6)]) Wt Tryz.f50 (t,()) (λ(z:TT)=>z=t):=by
 refine Eq.mp (OZ t _) ?_
 exact ⟨_,if_pos h.1,_,if_pos h.2.1,_,if_pos h.2.2,rfl⟩
theorem tb:Sound Tryz.prog 50 Wt:=
 Sound.Cg Bi (Ae mr (Ae rn Ai)) mixed Tryz.func50 (by kernel_rfl) (by kernel_rfl) λx h=>NB x.1 h
theorem Ai5 (a b:List Int) (h:short a):fnW Cd (look []) Ap Tryz.f22 (a,b,()) (λ(z:Bool)=>z=At a b):=by
 refine Eq.mp (Ait a b _) ⟨λhl=>?_,λhl=>?_⟩
 ·simp only [bne_iff_ne,ne_eq,Int.natCast_inj] at hl
  exact (decide_eq_false λiE=>hl (by rw [iE])).symm
 ·simp only [bne_eq_false_iff_eq,Int.natCast_inj] at hl
  exact vM a b hl h
theorem mj:Sound Tryz.prog 22 Ap:=
 Sound.Cg Bi Ai mixed Tryz.func22 (by kernel_rfl) (by kernel_rfl) λx h=>Ai5 x.1 x.2.1 h
theorem Adn (a b:List (List Int)) (h:Ff a):fnW Cd (look [(22,Ap)]) Pk Tryz.f53 (a,b,()) (λ(z:Bool)=>z=Mn a b):=by
 obtain ⟨h,h4⟩:=h
 refine Eq.mp (Aeg a b _) ⟨λhl=>?_,λhl=>?_⟩
 ·simp only [bne_iff_ne,ne_eq,Int.natCast_inj] at hl
  exact (decide_eq_false λiE=>hl (by rw [iE])).symm
 ·simp only [bne_eq_false_iff_eq,Int.natCast_inj] at hl
  refine Aj a.length (λv=>v.1) (λj _=>a.take j=b.take j) rfl (by simp) ?_
  rintro j ⟨i,⟨⟩⟩ K hj hi hR hK
  dsimp only at hi⊢
  subst hi
  refine Br.dec (λEy=>?_) λEy=>?_
  ·have fm:j<a.length:=by omega
   have rS:j<b.length:=by omega
   refine ⟨_,Aq fm,_,Aq rS,_,if_pos (h4 _ (List.getElem_mem fm)),⟨λhe=>?_,λhe=>?_⟩⟩
   ·refine (decide_eq_false λiE=>?_).symm
    subst iE
    simp [At] at he
   ·rw [Ag (by omega)]
    refine hK fm _ rfl ?_
    simp only [At,Bool.not_eq_false',decide_eq_true_eq] at he
    rw [List.take_succ_eq_append_getElem fm,List.take_succ_eq_append_getElem rS,hR]
    exact congrArg (λx=>List.take j b++ [x]) he
  ·have w5:j=a.length:=by omega
   subst w5
   rw [List.take_length,hl,List.take_length] at hR
   exact (decide_eq_true hR).symm
theorem r6:Sound Tryz.prog 53 Pk:=
 Sound.Cg Bi (Ae mj Ai) mixed Tryz.func53 (by kernel_rfl) (by kernel_rfl) λx h=>Adn x.1 x.2.1 h
theorem MO (a b:TT) (h:Lc a):fnW Cd (look [(22,Ap),(53,Pk)]) Ep Tryz.f54 (a,b,()) (λ(z:Bool)=>z=Kn a b):=by
 refine Eq.mp (OM a b _) ?_
 refine ⟨_,if_pos h.1,⟨λh1=>?_,λh1=>?_⟩⟩
 ·have h1:(!At a.1 b.1)=true:=h1
  simp only [At] at h1
  unfold Kn
  cases hd:decide (a.1=b.1)<;>simp_all
 ·have h1:(!At a.1 b.1)=false:=h1
  simp only [At] at h1
  refine ⟨_,if_pos h.2.1,⟨λh2=>?_,λh2=>?_⟩⟩
  ·have h2:(!Mn a.2.1 b.2.1)=true:=h2
   simp only [Mn] at h2
   unfold Kn
   cases hd:decide (a.2.1=b.2.1)<;>simp_all
  ·have h2:(!Mn a.2.1 b.2.1)=false:=h2
   simp only [Mn] at h2
   refine ⟨_,if_pos h.2.2,⟨λh3=>?_,λh3=>?_⟩⟩
   ·have h3:(!At a.2.2.1 b.2.2.1)=true:=h3
    simp only [At] at h3
    unfold Kn
    cases hd:decide (a.2.2.1=b.2.2.1)<;>simp_all
   ·have h3:(!At a.2.2.1 b.2.2.1)=false:=h3
    simp only [At] at h3
    unfold Kn
    simp_all
theorem sR:Sound Tryz.prog 54 Ep:=
 Sound.Cg Bi (Ae mj (Ae r6 Ai)) mixed Tryz.func54 (by kernel_rfl) (by kernel_rfl) λx h=>MO x.1 x.2.1 h
end Go.Proofs.YtfolipnappekaaaGreat

namespace Go.Proofs.YtfolipnappekaaaGreat
open Go.RowKit
def PL (n:Int) (xs:List Int) (k:Nat):Prop:= ∀j (h:j<xs.length),j<k->0<=xs[j]/\xs[j]<=n-1/\(0<j->xs[j-1]<xs[j])
def DL (n:Int) (xs:List Int) (k:Nat):Prop:= ∀j (h:j<xs.length),j<k->0<=xs[j]/\xs[j]<=n-1/\xs[j]∉xs.take j
noncomputable def dec (p:Prop):Bool:= @decide p (Classical.propDecidable p)
theorem Jy {p:Prop} (h:p):true=dec p:=(@decide_eq_true p (Classical.propDecidable p) h).symm
theorem Bl {p:Prop} (h: ¬p):false=dec p:=(@decide_eq_false p (Classical.propDecidable p) h).symm
theorem Dx {p:Prop} :dec p=true↔p:= @decide_eq_true_iff p (Classical.propDecidable p)
theorem WV {p:Prop} :dec p=false↔ ¬p:= @decide_eq_false_iff_not p (Classical.propDecidable p)
def nOK (n:Int):Prop:=0<=n/\n<=4294967296
noncomputable def Ui (n:Int) (xs:List Int):Bool:=dec (0<xs.length/\PL n xs xs.length)
noncomputable abbrev Fv:Spec:=Cg (.pair tI (.pair tL .unit)) .bool false true (λx=>nOK x.1/\short x.2.1) (λx=>Ui x.1 x.2.1)
theorem tA (n:Int) (xs:List Int) (P:Bool->Prop):(∃(y3:Bool),Bm.fn ((↑xs.length:Int),(1:Int),n,())=some y3/\Br (!y3) (P false) (Bk (λ(v4:Int×PUnit) (k5:Int×PUnit->Prop)=>Br (decide (v4.1<(↑xs.length:Int))) (∃(y6:Int),idx xs v4.1=some y6/\ ∃(y7:Bool),Bm.fn (y6,(0:Int),IntKind.i64.wrap (n-(1:Int)),())=some y7/\Br (!y7) (P false) (Br (decide (v4.1>(0:Int))) (∃(y8:Int),idx xs v4.1=some y8/\ ∃(y9:Int),idx xs (IntKind.i64.wrap (v4.1-(1:Int)))=some y9/\Br (decide (y8<=y9)) (P false) (k5 (IntKind.i64.wrap (v4.1+(1:Int)),()))) (k5 (IntKind.i64.wrap (v4.1+(1:Int)),())))) (P true)) ((0:Int),PUnit.unit)))=fnW Cd (look [(88,Bm)]) Fv Tryz.f160 (n,xs,()) P:=by kernel_rfl
theorem BS (n:Int) (xs:List Int) (P:Bool->Prop):(Bk (λ(v3:Int×PUnit) (k4:Int×PUnit->Prop)=>Br (decide (v3.1<(↑xs.length:Int))) (∃(y5:Int),idx xs v3.1=some y5/\ ∃(y6:Bool),Wn.fn (n,y5,())=some y6/\Br (!y6) (P false) (Br (decide (v3.1>(0:Int))) (∃(y7:Int),idx xs (IntKind.i64.wrap (v3.1-(1:Int)))=some y7/\Br (decide (y7>=y5)) (P false) (k4 (IntKind.i64.wrap (v3.1+(1:Int)),()))) (k4 (IntKind.i64.wrap (v3.1+(1:Int)),())))) (P (decide ((↑xs.length:Int)>(0:Int))))) ((0:Int),PUnit.unit))=fnW Cd (look [(161,Wn)]) Fv Tryz.f159 (n,xs,()) P:=by kernel_rfl
theorem nd {n x:Int} (hn:nOK n):fy n x=true↔0<=x/\x<=n-1:=by
 unfold fy nOK at*
 rw [Bo (by omega) (by omega),decide_eq_true_iff]
theorem Cr {x a b:Int} :Kc x a b=true↔a<=x/\x<=b:=decide_eq_true_iff
theorem Dk {b:Bool} (h:(!b)=true): ¬b=true:=by cases b<;>simp_all
theorem Dl {b:Bool} (h:(!b)=false):b=true:=by cases b<;>simp_all
theorem FW {n:Int} {xs:List Int} (h:PL n xs xs.length): ∀j (hj:j<xs.length),(j:Int)<=xs[j]
 |0,hj=>(h 0 hj hj).1
 |j+1,hj=>by
  have h1:=FW h j (by omega)
  have h2:=(h (j+1) hj hj).2.2 (by omega)
  simp only [Nat.add_sub_cancel] at h2
  omega
theorem oJ {n:Int} {xs:List Int} {j:Nat} (hl:j<xs.length) (h:PL n xs j) (h1:0<=xs[j]) (h2:xs[j]<=n-1) (h3:0<j->xs[j-1]<xs[j]):PL n xs (j+1):=by
 intro i hi dI
 by_cases e:i=j
 ·subst e;exact ⟨h1,h2,h3⟩
 ·exact h i hi (by omega)
theorem zS (n:Int) (xs:List Int) (h:nOK n/\short xs):fnW Cd (look [(161,Wn)]) Fv Tryz.f159 (n,xs,()) (λ(z:Bool)=>z=Ui n xs):=by
 obtain ⟨hn,h⟩:=h
 unfold short at h
 refine Eq.mp (BS n xs _) ?_
 refine Aj xs.length (λv=>v.1) (λj _=>PL n xs j) rfl (λj _ hj=>absurd hj (Nat.not_lt_zero _)) ?_
 rintro j ⟨i,⟨⟩⟩ K hj hi hR hK
 dsimp only at hi⊢
 subst hi
 refine Br.dec (λhl=>?_) λhl=>?_
 ·have hl:j<xs.length:=by omega
  refine ⟨_,Aq hl,_,if_pos trivial,⟨λhp=>?_,λhp=>?_⟩⟩
  ·have hp:=Dk hp
   rw [nd hn] at hp
   exact Bl λhh=>hp ⟨(hh.2 j hl hl).1,(hh.2 j hl hl).2.1⟩
  ·have hp:=Dl hp
   rw [nd hn] at hp
   refine Br.dec (λh0=>?_) λh0=>?_
   ·have h0:0<j:=by omega
    rw [Bo (by omega) (by omega),show (j:Int)-1=((j-1:Nat):Int) by omega]
    refine ⟨_,Aq (by omega),Br.dec (λhg=>?_) λhg=>?_⟩
    ·exact Bl λhh=>by have:=(hh.2 j hl hl).2.2 h0;omega
    ·rw [Ag (by omega)]
     exact hK hl _ rfl (oJ hl hR hp.1 hp.2 λ_=>by omega)
   ·have h0:j=0:=by omega
    rw [Ag (by omega)]
    exact hK hl _ rfl (oJ hl hR hp.1 hp.2 λh=>by omega)
 ·have:j=xs.length:=by omega
  subst this
  by_cases h0:0<xs.length
  ·rw [decide_eq_true (show (xs.length:Int)>0 by omega)];exact Jy ⟨h0,hR⟩
  ·rw [decide_eq_false (show ¬(xs.length:Int)>0 by omega)];exact Bl λhh=>h0 hh.1
theorem o9:Sound Tryz.prog 159 Fv:=
 Sound.Cg Bi (Ae sU Ai) mixed Tryz.func159 (by kernel_rfl) (by kernel_rfl) λx h=>zS x.1 x.2.1 h
theorem sF (n:Int) (xs:List Int) (h:nOK n/\short xs):fnW Cd (look [(88,Bm)]) Fv Tryz.f160 (n,xs,()) (λ(z:Bool)=>z=Ui n xs):=by
 obtain ⟨hn,h⟩:=h
 unfold short at h
 refine Eq.mp (tA n xs _) ⟨_,if_pos trivial,⟨λhp=>?_,λhp=>?_⟩⟩
 ·have hp:=Dk hp
  rw [Cr] at hp
  dsimp only at hp
  refine Bl λhh=>hp ⟨by omega,?_⟩
  have:=FW hh.2 (xs.length-1) (by omega)
  have:=(hh.2 (xs.length-1) (by omega) (by omega)).2.1
  omega
 ·have hp:=Dl hp
  rw [Cr] at hp
  dsimp only at hp
  refine Aj xs.length (λv=>v.1) (λj _=>PL n xs j) rfl (λj _ hj=>absurd hj (Nat.not_lt_zero _)) ?_
  rintro j ⟨i,⟨⟩⟩ K hj hi hR hK
  dsimp only at hi⊢
  subst hi
  refine Br.dec (λhl=>?_) λhl=>?_
  ·have hl:j<xs.length:=by omega
   refine ⟨_,Aq hl,_,if_pos trivial,⟨λhq=>?_,λhq=>?_⟩⟩
   ·have hq:=Dk hq
    unfold nOK at hn
    rw [Cr,Bo (by omega) (by omega)] at hq
    exact Bl λhh=>hq ⟨(hh.2 j hl hl).1,(hh.2 j hl hl).2.1⟩
   ·have hq:=Dl hq
    unfold nOK at hn
    rw [Cr,Bo (by omega) (by omega)] at hq
    refine Br.dec (λh0=>?_) λh0=>?_
    ·have h0:0<j:=by omega
     rw [Bo (by omega) (by omega),show (j:Int)-1=((j-1:Nat):Int) by omega]
     refine ⟨_,Aq hl,_,Aq (by omega),Br.dec (λhg=>?_) λhg=>?_⟩
     ·exact Bl λhh=>by have:=(hh.2 j hl hl).2.2 h0;omega
     ·rw [Ag (by omega)]
      exact hK hl _ rfl (oJ hl hR hq.1 hq.2 λ_=>by omega)
    ·rw [Ag (by omega)]
     exact hK hl _ rfl (oJ hl hR hq.1 hq.2 λh=>by omega)
  ·have:j=xs.length:=by omega
   subst this
   exact Jy ⟨by omega,hR⟩
theorem kI:Sound Tryz.prog 160 Fv:=
 Sound.Cg Bi (Ae Tv Ai) mixed Tryz.func160 (by kernel_rfl) (by kernel_rfl) λx h=>sF x.1 x.2.1 h
theorem WW {n:Int} {xs:List Int} {j:Nat} (hl:j<xs.length) (h:DL n xs j) (h1:0<=xs[j]) (h2:xs[j]<=n-1) (h3:xs[j]∉xs.take j):DL n xs (j+1):=by
 intro i hi dI
 by_cases e:i=j
 ·subst e;exact ⟨h1,h2,h3⟩
 ·exact h i hi (by omega)
theorem GN {xs:List Int} (h:short xs) (j:Nat):short (xs.take j):=by
 unfold short at*
 rw [List.length_take]
 omega
end Go.Proofs.YtfolipnappekaaaGreat

namespace Go.Proofs.YtfolipnappekaaaGreat
open Go.RowKit
noncomputable abbrev Sx:Spec:=Cg (.pair cU (.pair cU (.pair (.clo 154 .unit) .unit))) .bool false true (λx=>Ff x.1) (λx=>Mn x.1 x.2.1)
theorem Aix (a b:List Int) (P:Bool->Prop):(∃(y3:Bool),Ap.fn (a,b,())=some y3/\P y3)=fnW Cd (look [(139,Ap)]) Ap Tryz.f154 (a,b,()) P:=by kernel_rfl
theorem HT (a b:List (List Int)) (c:Unit) (P:Bool->Prop):(Br ((↑a.length:Int) !=(↑b.length:Int)) (P false) (Bk (λ(v4:Int×PUnit) (k5:Int×PUnit->Prop)=>Br (decide (v4.1<(↑a.length:Int))) (∃(y6:List Int),idx a v4.1=some y6/\ ∃(y7:List Int),idx b v4.1=some y7/\ ∃(y8:Bool),Ap.fn (y6,y7,())=some y8/\Br (!y8) (P false) (k5 (IntKind.i64.wrap (v4.1+(1:Int)),()))) (P true)) ((0:Int),PUnit.unit)))=fnW Cd (look [(154,Ap)]) Sx Tryz.f153 (a,b,c,()) P:=by kernel_rfl
theorem oq (a b:List (List Int)) (P:Bool->Prop):(∃(y3:Bool),Sx.fn (a,b,(),())=some y3/\P y3)=fnW Cd (look [(153,Sx)]) Pk Tryz.f140 (a,b,()) P:=by kernel_rfl
theorem oo (a b:List Int×List (List Int)×List Int×Unit) (P:Bool->Prop):(∃(y3:Bool),Ap.fn (a.1,b.1,())=some y3/\Br y3 (∃(y4:Bool),Pk.fn (a.2.1,b.2.1,())=some y4/\Br y4 (∃(y5:Bool),Ap.fn (a.2.2.1,b.2.2.1,())=some y5/\P y5) (P false)) (P false))=fnW Cd (look [(139,Ap),(140,Pk)]) Ep Tryz.f114 (a,b,()) P:=by kernel_rfl
abbrev bb:Type:=Int×List Int×List (List Int)×List Int×List Int×List (List Int)×List Int×PUnit
theorem ou (a b:List Int×List (List Int)×List Int×Unit) (P:Bool->Prop):(∃(y3:Bool),Ap.fn (a.1,b.1,())=some y3/\Br (!y3) (P false) (∃(y4:Bool),Ap.fn (a.2.2.1,b.2.2.1,())=some y4/\Br (!y4) (P false) (Br ((↑a.2.1.length:Int) !=(↑b.2.1.length:Int)) (P false) (Bk (λ(v5:bb) (k6:bb->Prop)=>Br (decide (v5.1<(↑v5.2.2.1.length:Int))) (∃(y7:List Int),idx v5.2.2.1 v5.1=some y7/\ ∃(y8:List Int),idx v5.2.2.2.2.2.1 v5.1=some y8/\ ∃(y9:Bool),Ap.fn (y7,y8,())=some y9/\Br (!y9) (P false) (k6 (IntKind.i64.wrap (v5.1+(1:Int)),v5.2.1,v5.2.2.1,v5.2.2.2.1,v5.2.2.2.2.1,v5.2.2.2.2.2.1,v5.2.2.2.2.2.2.1,()))) (P true)) ((0:Int),a.1,a.2.1,a.2.2.1,b.1,b.2.1,b.2.2.1,PUnit.unit)))))=fnW Cd (look [(101,Ap)]) Ep Tryz.f126 (a,b,()) P:=by kernel_rfl
theorem Ai9 (a b:List Int) (h:short a):fnW Cd (look [(139,Ap)]) Ap Tryz.f154 (a,b,()) (λ(z:Bool)=>z=At a b):=by
 refine Eq.mp (Aix a b _) ⟨_,if_pos h,rfl⟩
theorem NW:Sound Tryz.prog 154 Ap:=
 Sound.Cg Bi (Ae Zg Ai) mixed Tryz.func154 (by kernel_rfl) (by kernel_rfl) λx h=>Ai9 x.1 x.2.1 h
theorem FK (a b:List (List Int)) (c:Unit) (h:Ff a):fnW Cd (look [(154,Ap)]) Sx Tryz.f153 (a,b,c,()) (λ(z:Bool)=>z=Mn a b):=by
 obtain ⟨h,h4⟩:=h
 refine Eq.mp (HT a b c _) ⟨λhl=>?_,λhl=>?_⟩
 ·simp only [bne_iff_ne,ne_eq,Int.natCast_inj] at hl
  exact (decide_eq_false λiE=>hl (by rw [iE])).symm
 ·simp only [bne_eq_false_iff_eq,Int.natCast_inj] at hl
  refine Aj a.length (λv=>v.1) (λj _=>a.take j=b.take j) rfl (by simp) ?_
  rintro j ⟨i,⟨⟩⟩ K hj hi hR hK
  dsimp only at hi⊢
  subst hi
  refine Br.dec (λEy=>?_) λEy=>?_
  ·have fm:j<a.length:=by omega
   have rS:j<b.length:=by omega
   refine ⟨_,Aq fm,_,Aq rS,_,if_pos (h4 _ (List.getElem_mem fm)),⟨λhe=>?_,λhe=>?_⟩⟩
   ·refine (decide_eq_false λiE=>?_).symm
    subst iE
    simp [At] at he
   ·rw [Ag (by omega)]
    refine hK fm _ rfl ?_
    simp only [At,Bool.not_eq_false',decide_eq_true_eq] at he
    rw [List.take_succ_eq_append_getElem fm,List.take_succ_eq_append_getElem rS,hR]
    exact congrArg (λx=>List.take j b++ [x]) he
  ·have w5:j=a.length:=by omega
   subst w5
   rw [List.take_length,hl,List.take_length] at hR
   exact (decide_eq_true hR).symm
theorem qZ:Sound Tryz.prog 153 Sx:=
 Sound.Cg Bi (Ae NW Ai) mixed Tryz.func153 (by kernel_rfl) (by kernel_rfl) λx h=>FK x.1 x.2.1 x.2.2.1 h
theorem nX (a b:List (List Int)) (h:Ff a):fnW Cd (look [(153,Sx)]) Pk Tryz.f140 (a,b,()) (λ(z:Bool)=>z=Mn a b):=by
 refine Eq.mp (oq a b _) ⟨_,if_pos h,rfl⟩
theorem gi:Sound Tryz.prog 140 Pk:=
 Sound.Cg Bi (Ae qZ Ai) mixed Tryz.func140 (by kernel_rfl) (by kernel_rfl) λx h=>nX x.1 x.2.1 h
theorem nW (a b:TT) (h:Lc a):fnW Cd (look [(139,Ap),(140,Pk)]) Ep Tryz.f114 (a,b,()) (λ(z:Bool)=>z=Kn a b):=by
 refine Eq.mp (oo a b _) ⟨_,if_pos h.1,⟨λh1=>⟨_,if_pos h.2.1,⟨λh2=>⟨_,if_pos h.2.2,?_⟩,λh2=>?_⟩⟩,λh1=>?_⟩⟩
 ·have h1:At a.1 b.1=true:=h1
  have h2:Mn a.2.1 b.2.1=true:=h2
  simp only [At,Mn] at h1 h2
  show At a.2.2.1 b.2.2.1=_
  unfold Kn At
  rw [h1,h2];rfl
 ·have h1:At a.1 b.1=true:=h1
  have h2:Mn a.2.1 b.2.1=false:=h2
  simp only [At,Mn] at h1 h2
  unfold Kn
  rw [h1,h2];rfl
 ·have h1:At a.1 b.1=false:=h1
  simp only [At] at h1
  unfold Kn
  rw [h1];rfl
theorem gh:Sound Tryz.prog 114 Ep:=
 Sound.Cg Bi (Ae Zg (Ae gi Ai)) mixed Tryz.func114 (by kernel_rfl) (by kernel_rfl) λx h=>nW x.1 x.2.1 h
theorem nY (a b:TT) (h:Lc a):fnW Cd (look [(101,Ap)]) Ep Tryz.f126 (a,b,()) (λ(z:Bool)=>z=Kn a b):=by
 obtain ⟨bz,⟨jd,hs4⟩,hs3⟩:=h
 refine Eq.mp (ou a b _) ⟨_,if_pos bz,⟨λh1=>?_,λh1=>⟨_,if_pos hs3,⟨λh2=>?_,λh2=>⟨λh3=>?_,λh3=>?_⟩⟩⟩⟩⟩
 ·have h1:(!At a.1 b.1)=true:=h1
  simp only [At,Bool.not_eq_true'] at h1
  show _=Kn a b
  unfold Kn
  rw [h1];rfl
 ·have h2:(!At a.2.2.1 b.2.2.1)=true:=h2
  simp only [At,Bool.not_eq_true'] at h2
  show _=Kn a b
  unfold Kn
  rw [h2];simp
 ·simp only [bne_iff_ne,ne_eq,Int.natCast_inj] at h3
  show _=Kn a b
  unfold Kn
  rw [decide_eq_false (show ¬a.2.1=b.2.1 from λiE=>h3 (by rw [iE]))];simp
 ·simp only [bne_eq_false_iff_eq,Int.natCast_inj] at h3
  have h1:(!At a.1 b.1)=false:=h1
  have h2:(!At a.2.2.1 b.2.2.1)=false:=h2
  simp only [At,Bool.not_eq_false',decide_eq_true_eq] at h1 h2
  have hE:Kn a b=decide (a.2.1=b.2.1):=by
   unfold Kn
   rw [decide_eq_true h1,decide_eq_true h2];simp
  refine Aj a.2.1.length (λv=>v.1) (λj v=>v.2=(a.1,a.2.1,a.2.2.1,b.1,b.2.1,b.2.2.1,())/\a.2.1.take j=b.2.1.take j) rfl ⟨rfl,by simp⟩ ?_
  rintro j ⟨i,v⟩ K hj hi ⟨hv,hR⟩ hK
  dsimp only at hi hv⊢
  subst hi hv
  dsimp only
  refine Br.dec (λEy=>?_) λEy=>?_
  ·have fm:j<a.2.1.length:=by omega
   have rS:j<b.2.1.length:=by omega
   refine ⟨_,Aq fm,_,Aq rS,_,if_pos (hs4 _ (List.getElem_mem fm)),⟨λhe=>?_,λhe=>?_⟩⟩
   ·show _=Kn a b
    rw [hE]
    refine (decide_eq_false λiE=>?_).symm
    simp [iE,At] at he
   ·rw [Ag (by omega)]
    refine hK fm _ rfl ⟨rfl,?_⟩
    simp only [At,Bool.not_eq_false',decide_eq_true_eq] at he
    rw [List.take_succ_eq_append_getElem fm,List.take_succ_eq_append_getElem rS,hR]
    exact congrArg (λx=>List.take j b.2.1++ [x]) he
  ·have w5:j=a.2.1.length:=by omega
   subst w5
   rw [List.take_length,h3,List.take_length] at hR
   show _=Kn a b
   rw [hE]
   exact (decide_eq_true hR).symm
theorem gm:Sound Tryz.prog 126 Ep:=
 Sound.Cg Bi (Ae Ow Ai) mixed Tryz.func126 (by kernel_rfl) (by kernel_rfl) λx h=>nY x.1 x.2.1 h
theorem qc {t:TT} {room:Int} (h:roomy room) (h2: ¬Nh t room<0):roomy (Nh t room):=by
 have hm: ¬((-1:Int)<0)->False:= λh=>h (by decide)
 unfold Nh at h2⊢
 split
 ·rename_i h3;rw [if_pos h3] at h2;exact (hm h2).elim
 ·rename_i h3;rw [if_neg h3] at h2
  split
  ·rename_i h4;rw [if_pos h4] at h2;exact (hm h2).elim
  ·rename_i h4;rw [if_neg h4] at h2
   split
   ·rename_i h5;rw [if_pos h5] at h2;exact (hm h2).elim
   ·rename_i h5
    exact Wj (ng (Wj h h3) h4) h5
theorem AF:roomy 1048576:=⟨by decide,by decide⟩
end Go.Proofs.YtfolipnappekaaaGreat

namespace Go.Proofs.YtfolipnappekaaaGreat
open Go.RowKit
abbrev PP:Type:=Int×ByteArray×List (List Int)×Unit
noncomputable def Fk (p:List Int):Bool:=dec (1<=p.length/\p.length<=20/\DL p.length p p.length)
noncomputable def Dc (n:Int) (p:List Int):Bool:=dec ((p.length:Int)=n/\Fk p=true)
noncomputable def Mp (n:Int) (g:List (List Int)):Bool:=dec ((1<=n/\n<=20)/\g.length<=8/\ ∀p∈g,Dc n p=true)
def Dz {α:Type} (P:α->Bool):List α->Int->Int
 | [],_=> -1
 |y::r,i=>if P y=true then i else Dz P r (i+1)
abbrev tG1:Ty:= .clo 136 (.pair (.ptr tI) .unit)
def vo (s:ByteArray) (i:Nat):Prop:= ∃c:UInt8,s[i]?=some c/\65<=c.toNat/\c.toNat<=90/\ ∀k,k<i->s[k]?≠some c
noncomputable def jZ (s:ByteArray) (i:Int):Bool:=dec (vo s i.toNat)
noncomputable def aL (s:ByteArray):Bool:=dec ((1<=s.size/\s.size<=8)/\ ∀j,j<s.size->vo s j)
noncomputable def Bx (p:PP):Bool:=dec (Mp p.1 p.2.2.1=true/\aL p.2.1=true/\p.2.1.size=p.2.2.1.length)
def Ck (p:PP):Prop:=p.2.1.size<=4294967296/\Ff p.2.2.1
noncomputable abbrev Nv:Spec:=Cg (.pair tL .unit) tI false true (λ_=>True) (λx=>(List.length x.1:Int))
noncomputable abbrev Eb:Spec:=Cg (.pair tL .unit) .bool false true (λx=>short x.1) (λx=>Fk x.1)
noncomputable abbrev Ig:Spec:=Cg (.pair tI (.pair cU .unit)) .bool false true (λx=>Ff x.2.1) (λx=>Mp x.1 x.2.1)
noncomputable abbrev fJ:Spec:=Cg (.pair tL (.pair (.ptr tI) .unit)) .bool false true (λx=>short x.1) (λx=>!Dc x.2.1 x.1)
noncomputable abbrev uR:Spec:=Cg (.pair cU (.pair tG1 .unit)) tI false true (λx=>Ff x.1) (λx=>Dz (λp=>!Dc x.2.1.1 p) x.1 0)
noncomputable abbrev uP:Spec:=Cg (.pair cU (.pair tG1 .unit)) .bool false true (λx=>Ff x.1) (λx=>List.any x.1 (λp=>!Dc x.2.1.1 p))
noncomputable abbrev aU:Spec:=Cg (.pair .str (.pair tI .unit)) .bool false true (λx=>0<=x.2.1/\x.2.1<x.1.size/\x.1.size<=4294967296) (λx=>jZ x.1 x.2.1)
noncomputable abbrev Wm:Spec:=Cg (.pair .str .unit) .bool false true (λx=>x.1.size<=4294967296) (λx=>aL x.1)
noncomputable abbrev Ec:Spec:=Cg (.pair Cp .unit) .bool false true (λx=>Ck x.1) (λx=>Bx x.1)
def qb (p:PP) (room:Int):Int:=if room-p.2.1.size<0 then-1 else if Nt p.2.2.1 (room-p.2.1.size)<0 then-1 else Nt p.2.2.1 (room-p.2.1.size)
def nb (a b:PP):Bool:=decide (a.1=b.1)&&(decide (a.2.1=b.2.1)&&decide (a.2.2.1=b.2.2.1))
noncomputable abbrev uS:Spec:=Cg (.pair Cp (.pair tI .unit)) tI false true (λx=>Ck x.1/\roomy x.2.1) (λx=>qb x.1 x.2.1)
noncomputable abbrev nw:Spec:=Cg (.pair Cp .unit) Cp false true (λx=>Ck x.1) (λx=>x.1)
noncomputable abbrev uQ:Spec:=Cg (.pair Cp (.pair Cp .unit)) .bool false true (λx=>Ck x.1) (λx=>nb x.1 x.2.1)
noncomputable abbrev Pl:Spec:=Cg (.pair Gz (.pair tL .unit)) tI false true (λx=>Lc x.1/\short x.2.1) (λx=>Dz (λp=>decide (p=x.2.1)) x.1.2.1 0)
theorem Ael (xs:List Int) (P:Int->Prop):(P (↑xs.length:Int))=fnW Cd (look []) Nv Tryz.f119 (xs,()) P:=by kernel_rfl
theorem xN (p:List Int) (P:Bool->Prop):(∃(y2:Bool),Bm.fn ((↑p.length:Int),(1:Int),(20:Int),())=some y2/\Br (!y2) (P false) (Bk (λ(v3:Int×PUnit) (k4:Int×PUnit->Prop)=>Br (decide (v3.1<(↑p.length:Int))) (∃(y5:Int),idx p v3.1=some y5/\ ∃(y6:Bool),Bm.fn (y5,(0:Int),IntKind.i64.wrap ((↑p.length:Int)-(1:Int)),())=some y6/\Br (!y6) (P false) (((0:Int)<=(0:Int)/\(0:Int)<=v3.1/\v3.1<=(↑p.length:Int))/\ ∃(y7:Int),idx p v3.1=some y7/\ ∃(y8:Bool),Lm.fn (List.drop (Int.toNat (0:Int)) (List.take v3.1.toNat p),y7,())=some y8/\Br y8 (P false) (k4 (IntKind.i64.wrap (v3.1+(1:Int)),())))) (P true)) ((0:Int),PUnit.unit)))=fnW Cd (look [(88,Bm),(100,Lm)]) Eb Tryz.f75 (p,()) P:=by kernel_rfl
theorem xJ (p:List Int) (P:Bool->Prop):(∃(y2:Int),Nv.fn (p,())=some y2/\ ∃(y3:Bool),Bm.fn (y2,(1:Int),(20:Int),())=some y3/\Br (!y3) (P false) (Bk (λ(v4:Int×Int×PUnit) (k5:Int×Int×PUnit->Prop)=>Br (decide (v4.2.1<(↑p.length:Int))) (∃(y6:Int),idx p v4.2.1=some y6/\ ∃(y7:Int),Nv.fn (p,())=some y7/\ ∃(y8:Bool),Bm.fn (y6,(0:Int),IntKind.i64.wrap (y7-(1:Int)),())=some y8/\Br (!y8) (P false) (¬y6<(0:Int)/\k5 (IntKind.i64.wrap (↑(BitVec.ofInt IntKind.i64.bits v4.1|||BitVec.ofInt IntKind.i64.bits (IntKind.i64.wrap ((1:Int)*(2:Int)^min y6.toNat IntKind.i64.bits))).toNat:Int),IntKind.i64.wrap (v4.2.1+(1:Int)),()))) (¬(↑p.length:Int)<(0:Int)/\P (v4.1==IntKind.i64.wrap (IntKind.i64.wrap ((1:Int)*(2:Int)^min (↑p.length:Int).toNat IntKind.i64.bits)-(1:Int))))) ((0:Int),(0:Int),PUnit.unit)))=fnW Cd (look [(90,Bm),(119,Nv)]) Eb Tryz.f134 (p,()) P:=by kernel_rfl
theorem xM (n:Int) (g:List (List Int)) (P:Bool->Prop):(∃(y3:Bool),Bm.fn (n,(1:Int),(20:Int),())=some y3/\Br (!y3) (P false) (Br (decide ((↑g.length:Int)>(8:Int))) (P false) (Bk (λ(v4:Int×PUnit) (k5:Int×PUnit->Prop)=>Br (decide (v4.1<(↑g.length:Int))) (∃(y6:List Int),idx g v4.1=some y6/\Br ((↑y6.length:Int) !=n) (P false) (∃(y7:List Int),idx g v4.1=some y7/\ ∃(y8:Bool),Eb.fn (y7,())=some y8/\Br (!y8) (P false) (k5 (IntKind.i64.wrap (v4.1+(1:Int)),())))) (P true)) ((0:Int),PUnit.unit))))=fnW Cd (look [(88,Bm),(75,Eb)]) Ig Tryz.f123 (n,g,()) P:=by kernel_rfl
theorem ZC (p:List Int) (n:Int) (P:Bool->Prop):(∃(y3:Int),Nv.fn (p,())=some y3/\Br (y3 !=n) (P true) (∃(y4:Bool),Eb.fn (p,())=some y4/\P !y4))=fnW Cd (look [(119,Nv),(134,Eb)]) fJ Tryz.f136 (p,n,()) P:=by kernel_rfl
theorem Aiw (g:List (List Int)) (n:Int×Unit) (P:Int->Prop):(Bk (λ(v3:Int×PUnit) (k4:Int×PUnit->Prop)=>Br (decide (v3.1<(↑g.length:Int))) (∃(y5:List Int),idx g v3.1=some y5/\ ∃(y6:Bool),fJ.fn (y5,n.1,())=some y6/\Br y6 (P v3.1) (k4 (IntKind.i64.wrap (v3.1+(1:Int)),()))) (P (-1:Int))) ((0:Int),PUnit.unit))=fnW Cd (look [(136,fJ)]) uR Tryz.f150 (g,n,()) P:=by kernel_rfl
theorem Ais (g:List (List Int)) (n:Int×Unit) (P:Bool->Prop):(∃(y3:Int),uR.fn (g,n,())=some y3/\P (decide (y3>=(0:Int))))=fnW Cd (look [(150,uR)]) uP Tryz.f135 (g,n,()) P:=by kernel_rfl
theorem xI (n:Int) (g:List (List Int)) (P:Bool->Prop):(∃(y3:Bool),Bm.fn (n,(1:Int),(20:Int),())=some y3/\Br y3 (Br (decide ((↑g.length:Int)<=(8:Int))) (∃(y4:Bool),uP.fn (g,(n,()),())=some y4/\P !y4) (P false)) (P false))=fnW Cd (look [(90,Bm),(135,uP)]) Ig Tryz.f110 (n,g,()) P:=by kernel_rfl
theorem VQ (s:ByteArray) (i:Int) (P:Bool->Prop):((0:Int)<=i/\ ∃(y3:UInt8),s[i.toNat]?=some y3/\Br (decide ((↑y3.toNat:Int)<(65:Int))) (P false) ((0:Int)<=i/\ ∃(y4:UInt8),s[i.toNat]?=some y4/\Br (decide ((↑y4.toNat:Int)>(90:Int))) (P false) (Bk (λ(v5:Int×PUnit) (k6:Int×PUnit->Prop)=>Br (decide (v5.1<i)) ((0:Int)<=v5.1/\ ∃(y7:UInt8),s[v5.1.toNat]?=some y7/\(0:Int)<=i/\ ∃(y8:UInt8),s[i.toNat]?=some y8/\Br ((↑y7.toNat:Int)==(↑y8.toNat:Int)) (P false) (k6 (IntKind.i64.wrap (v5.1+(1:Int)),()))) (P true)) ((0:Int),PUnit.unit))))=fnW Cd (look []) aU Tryz.f124 (s,i,()) P:=by kernel_rfl
theorem OP (s:ByteArray) (P:Bool->Prop):(Bk (λ(v2:Int×PUnit) (k3:Int×PUnit->Prop)=>Br (decide (v2.1<(↑s.size:Int))) ((0:Int)<=v2.1/\ ∃(y4:UInt8),s[v2.1.toNat]?=some y4/\ ∃(y5:Bool),Bm.fn (IntKind.i64.wrap (↑y4.toNat:Int),(65:Int),(90:Int),())=some y5/\Br (!y5) (P false) (Bk (λ(v6:Int×PUnit) (k7:Int×PUnit->Prop)=>Br (decide (v6.1<v2.1)) ((0:Int)<=v6.1/\ ∃(y8:UInt8),s[v6.1.toNat]?=some y8/\(0:Int)<=v2.1/\ ∃(y9:UInt8),s[v2.1.toNat]?=some y9/\Br ((↑y8.toNat:Int)==(↑y9.toNat:Int)) (P false) (k7 (IntKind.i64.wrap (v6.1+(1:Int)),()))) (k3 (IntKind.i64.wrap (v2.1+(1:Int)),()))) ((0:Int),PUnit.unit))) (∃(y4:Bool),Bm.fn ((↑s.size:Int),(1:Int),(8:Int),())=some y4/\P y4)) ((0:Int),PUnit.unit))=fnW Cd (look [(90,Bm)]) Wm Tryz.f111 (s,()) P:=by kernel_rfl
abbrev gY:Type:=Int×Int×ByteArray×List (List Int)×PUnit
theorem xO (p:Int×ByteArray×List (List Int)×Unit) (P:Bool->Prop):(Br ((↑p.2.2.1.length:Int)==(0:Int)) (P false) (Br ((↑p.2.1.size:Int) !=(↑p.2.2.1.length:Int)) (P false) (∃(y2:Bool),Ig.fn (p.1,p.2.2.1,())=some y2/\Br (!y2) (P false) (Bk (λ(v3:gY) (k4:gY->Prop)=>Br (decide (v3.1<(↑v3.2.2.1.size:Int))) (∃(y5:Bool),aU.fn (v3.2.2.1,v3.1,())=some y5/\Br (!y5) (P false) (k4 (IntKind.i64.wrap (v3.1+(1:Int)),v3.2.1,v3.2.2.1,v3.2.2.2.1,()))) (P true)) ((0:Int),p.1,p.2.1,p.2.2.1,PUnit.unit)))))=fnW Cd (look [(123,Ig),(124,aU)]) Ec Tryz.f93 (p,()) P:=by kernel_rfl
theorem xK (p:Int×ByteArray×List (List Int)×Unit) (P:Bool->Prop):(∃(y2:Bool),Ig.fn (p.1,p.2.2.1,())=some y2/\Br y2 (∃(y3:Bool),Wm.fn (p.2.1,())=some y3/\Br y3 (P ((↑p.2.1.size:Int)==(↑p.2.2.1.length:Int))) (P false)) (P false))=fnW Cd (look [(110,Ig),(111,Wm)]) Ec Tryz.f84 (p,()) P:=by kernel_rfl
theorem Aiz (p:Int×ByteArray×List (List Int)×Unit) (room:Int) (P:Int->Prop):(Br (decide (IntKind.i64.wrap (room-(↑p.2.1.size:Int))<(0:Int))) (P (-1:Int)) (∃(y3:Int),c5.fn (p.2.2.1,IntKind.i64.wrap (room-(↑p.2.1.size:Int)),())=some y3/\Br (decide (y3<(0:Int))) (P (-1:Int)) (P y3)))=fnW Cd (look [(45,c5)]) uS Tryz.f13 (p,room,()) P:=by kernel_rfl
theorem Aj1 (p:Int×ByteArray×List (List Int)×Unit) (P:(Int×ByteArray×List (List Int)×Unit)->Prop):(∃(y2:List (List Int)),c6.fn (p.2.2.1,())=some y2/\P (p.1,p.2.1,y2,()))=fnW Cd (look [(49,c6)]) nw Tryz.f16 (p,()) P:=by kernel_rfl
theorem Aiu (a b:Int×ByteArray×List (List Int)×Unit) (P:Bool->Prop):(Br (a.1 !=b.1) (P false) (Br (!a.2.1.toList==b.2.1.toList) (P false) (∃(y3:Bool),Pk.fn (a.2.2.1,b.2.2.1,())=some y3/\Br (!y3) (P false) (P true))))=fnW Cd (look [(53,Pk)]) uQ Tryz.f20 (a,b,()) P:=by kernel_rfl
abbrev nD:Type:=Int×List Int×List (List Int)×List Int×PUnit
theorem ID (t:List Int×List (List Int)×List Int×Unit) (xs:List Int) (P:Int->Prop):(Bk (λ(v3:nD) (k4:nD->Prop)=>Br (decide (v3.1<(↑v3.2.2.1.length:Int))) (∃(y5:List Int),idx v3.2.2.1 v3.1=some y5/\ ∃(y6:Bool),Ap.fn (y5,xs,())=some y6/\Br y6 (P v3.1) (k4 (IntKind.i64.wrap (v3.1+(1:Int)),v3.2.1,v3.2.2.1,v3.2.2.2.1,()))) (P (-1:Int))) ((0:Int),t.1,t.2.1,t.2.2.1,PUnit.unit))=fnW Cd (look [(101,Ap)]) Pl Tryz.f77 (t,xs,()) P:=by kernel_rfl
theorem Ads (xs:List Int) (_:True):fnW Cd (look []) Nv Tryz.f119 (xs,()) (λ(z:Int)=>z=(xs.length:Int)):=Eq.mp (Ael xs _) rfl
theorem c7:Sound Tryz.prog 119 Nv:=
 Sound.Cg Bi Ai mixed Tryz.func119 (by kernel_rfl) (by kernel_rfl) λx h=>Ads x.1 h
theorem xu {α:Type} [DecidableEq α]: ∀(l m:List α),l.Nodup->(∀x∈l,x∈m)->l.length<=m.length
 | [],m,_,_=>Nat.zero_le _
 |a::l,m,hn,hs=>by
  have ha:a∈m:=hs a (List.mem_cons_self ..)
  have hn:=List.nodup_cons.1 hn
  have:=xu l (m.erase a) hn.2 λx hx=>(List.mem_erase_of_ne (λ(e:x=a)=>hn.1 (by rw [<-e];exact hx))).2 (hs x (List.mem_cons_of_mem _ hx))
  rw [List.length_erase_of_mem ha] at this
  have:0<m.length:=List.length_pos_of_mem ha
  simp only [List.length_cons]
  omega
def upto (n:Nat):List Int:=(List.range n).map Int.ofNat
theorem HN (n:Nat):(upto n).Nodup:=by
 unfold upto
 exact List.Pairwise.map _ (λa b iE e=>iE (Int.ofNat.inj e)) List.nodup_range
theorem Uj {n:Nat} {x:Int} :x∈upto n↔0<=x/\x<n:=by
 unfold upto
 simp only [List.mem_map,List.mem_range]
 constructor
 ·rintro ⟨a,ha,rfl⟩;exact ⟨Int.natCast_nonneg _,Int.ofNat_lt.2 ha⟩
 ·rintro ⟨h1,h2⟩;exact ⟨x.toNat,by omega,by simp only [Int.ofNat_eq_natCast];omega⟩
theorem eQ (n:Nat):(upto n).length=n:=by simp [upto]
theorem dU {xs:List Int} (h: ∀j (hj:j<xs.length),xs[j]∉xs.take j):xs.Nodup:=by
 refine List.pairwise_iff_getElem.2 λi j hi hj dI e=>h j hj ?_
 rw [<-e]
 exact List.mem_take_iff_getElem.2 ⟨i,by omega,rfl⟩
theorem rF {xs:List Int} (h:xs.Nodup): ∀j (hj:j<xs.length),xs[j]∉xs.take j:=by
 intro j hj hm
 obtain ⟨i,hi,e⟩:=List.mem_take_iff_getElem.1 hm
 exact List.pairwise_iff_getElem.1 h i j (by omega) hj (by omega) e
theorem Zr {xs:List Int} (h: ∀x∈xs,0<=x/\x<xs.length):(∀k:Nat,k<xs.length->(k:Int)∈xs)↔ ∀j (hj:j<xs.length),xs[j]∉xs.take j:=by
 constructor
 ·intro ha j hj hm
  have h1:=xu (upto xs.length) (xs.take j++xs.drop (j+1)) (HN _) λx hx=>by
   obtain ⟨h1,h2⟩:=Uj.1 hx
   have hx:=ha x.toNat (by omega)
   rw [show ((x.toNat:Nat):Int)=x by omega] at hx
   rw [<-List.take_append_drop j xs,List.mem_append,List.drop_eq_getElem_cons hj,List.mem_cons] at hx
   rcases hx with hx|rfl|hx
   ·exact List.mem_append_left _ hx
   ·exact List.mem_append_left _ hm
   ·exact List.mem_append_right _ hx
  rw [eQ,List.length_append,List.length_take,List.length_drop] at h1
  omega
 ·intro hn k hk
  refine Classical.byContradiction λhc=>?_
  have h1:=xu xs ((upto xs.length).erase (k:Int)) (dU hn) λx hx=>by
   refine (List.mem_erase_of_ne λ(e:x=(k:Int))=>hc (by rw [<-e];exact hx)).2 (Uj.2 (h x hx))
  rw [List.length_erase_of_mem (Uj.2 ⟨by omega,by omega⟩),eQ] at h1
  omega
def mask (xs:List Int):Nat:=xs.foldl (λm x=>m|||2^x.toNat) 0
theorem MJ (xs:List Int) (x:Int):mask (xs++ [x])=mask xs|||2^x.toNat:=by simp [mask]
theorem wE (xs:List Int) (k:Nat): ∀a:Nat,(xs.foldl (λm x=>m|||2^x.toNat) a).testBit k=(a.testBit k||xs.any λx=>decide (x.toNat=k)):=by
 induction xs with
 |nil=>simp
 |cons x xs ih=>
  intro a
  rw [List.foldl_cons,ih,Nat.testBit_or,Nat.testBit_two_pow,List.any_cons,Bool.or_assoc]
theorem qd (xs:List Int) (k:Nat):(mask xs).testBit k=xs.any λx=>decide (x.toNat=k):=by
 unfold mask
 rw [wE,Nat.zero_testBit,Bool.false_or]
theorem YA {xs:List Int} {n:Nat} (h: ∀x∈xs,x.toNat<n):mask xs<2^n:=by
 refine Nat.lt_pow_two_of_testBit _ λk hk=>?_
 rw [qd]
 refine Bool.eq_false_iff.2 λht=>?_
 obtain ⟨x,hx,he⟩:=List.any_eq_true.1 ht
 have:=h x hx
 have:=of_decide_eq_true he
 omega
theorem ux {xs:List Int} (h: ∀x∈xs,0<=x/\x<xs.length):mask xs=2^xs.length-1↔ ∀k:Nat,k<xs.length->(k:Int)∈xs:=by
 constructor
 ·intro e k hk
  have h1:=qd xs k
  rw [e,Nat.testBit_two_pow_sub_one,decide_eq_true hk] at h1
  obtain ⟨x,hx,he⟩:=List.any_eq_true.1 h1.symm
  have:=(h x hx).1
  have:=of_decide_eq_true he
  have e:x=(k:Int):=by omega
  exact e▸hx
 ·intro ha
  refine Nat.eq_of_testBit_eq λk=>?_
  rw [qd,Nat.testBit_two_pow_sub_one]
  by_cases hk:k<xs.length
  ·rw [decide_eq_true hk]
   exact List.any_eq_true.2 ⟨k,ha k hk,by simp⟩
  ·rw [decide_eq_false hk]
   refine Bool.eq_false_iff.2 λht=>?_
   obtain ⟨x,hx,he⟩:=List.any_eq_true.1 ht
   have:=h x hx
   have:=of_decide_eq_true he
   omega
theorem YF {m:Nat} {x:Int} (hm:m<2^20) (h0:0<=x) (h1:x<20):
  IntKind.i64.wrap (((BitVec.ofInt IntKind.i64.bits (m:Int)|||BitVec.ofInt IntKind.i64.bits (IntKind.i64.wrap ((1:Int)*(2:Int)^min x.toNat IntKind.i64.bits))).toNat:Nat):Int)=((m|||2^x.toNat:Nat):Int):=by
 have hx:(2:Nat)^x.toNat<2^20:=Nat.pow_lt_pow_right (by omega) (by omega)
 have e1:min x.toNat IntKind.i64.bits=x.toNat:=by show min x.toNat 64=_;omega
 have e2:(1:Int)*(2:Int)^x.toNat=((2^x.toNat:Nat):Int):=by rw [Int.one_mul];exact (Int.natCast_pow 2 _).symm
 rw [e1,e2,Bo (n:=((2^x.toNat:Nat):Int)) (by have:(0:Int)<=((2^x.toNat:Nat):Int):=Int.natCast_nonneg _;omega) (by omega)]
 show IntKind.i64.wrap (((BitVec.ofInt 64 (m:Int)|||BitVec.ofInt 64 ((2^x.toNat:Nat):Int)).toNat:Nat):Int)=_
 rw [BitVec.ofInt_natCast,BitVec.ofInt_natCast,BitVec.toNat_or,BitVec.toNat_ofNat,BitVec.toNat_ofNat,Nat.mod_eq_of_lt (by omega),Nat.mod_eq_of_lt (by omega)]
 have:=Nat.or_lt_two_pow hm hx
 exact Bo (by omega) (by omega)
theorem wN (p:List Int) (h:short p):fnW Cd (look [(88,Bm),(100,Lm)]) Eb Tryz.f75 (p,()) (λ(z:Bool)=>z=Fk p):=by
 have hs:=h
 unfold short at h
 refine Eq.mp (xN p _) ⟨_,if_pos trivial,⟨λhp=>?_,λhp=>?_⟩⟩
 ·have hp:=Dk hp
  rw [Cr] at hp
  dsimp only at hp
  exact Bl λhh=>hp ⟨by omega,by omega⟩
 ·have hp:=Dl hp
  rw [Cr] at hp
  dsimp only at hp
  refine Aj p.length (λv=>v.1) (λj _=>DL p.length p j) rfl (λj _ hj=>absurd hj (Nat.not_lt_zero _)) ?_
  rintro j ⟨i,⟨⟩⟩ K hj hi hR hK
  dsimp only at hi⊢
  subst hi
  refine Br.dec (λhl=>?_) λhl=>?_
  ·have hl:j<p.length:=by omega
   refine ⟨_,Aq hl,_,if_pos trivial,⟨λhq=>?_,λhq=>?_⟩⟩
   ·have hq:=Dk hq
    rw [Cr,Bo (by omega) (by omega)] at hq
    exact Bl λhh=>hq ⟨(hh.2.2 j hl hl).1,(hh.2.2 j hl hl).2.1⟩
   ·have hq:=Dl hq
    rw [Cr,Bo (by omega) (by omega)] at hq
    refine ⟨⟨by omega,by omega,by omega⟩,_,Aq hl,?_⟩
    rw [show (Int.toNat 0)=0 from rfl,List.drop_zero,Int.toNat_natCast]
    refine ⟨_,if_pos (GN hs j),⟨λhc=>?_,λhc=>?_⟩⟩
    ·have hc:decide (p[j]∈p.take j)=true:=hc
     rw [decide_eq_true_iff] at hc
     exact Bl λhh=>(hh.2.2 j hl hl).2.2 hc
    ·have hc:decide (p[j]∈p.take j)=false:=hc
     rw [decide_eq_false_iff_not] at hc
     rw [Ag (by omega)]
     exact hK hl _ rfl (WW hl hR hq.1 hq.2 hc)
  ·have:j=p.length:=by omega
   subst this
   exact Jy ⟨by omega,by omega,hR⟩
theorem Nl:Sound Tryz.prog 75 Eb:=
 Sound.Cg Bi (Ae Tv (Ae kF Ai)) mixed Tryz.func75 (by kernel_rfl) (by kernel_rfl) λx h=>wN x.1 h
theorem wJ (p:List Int) (h:short p):fnW Cd (look [(90,Bm),(119,Nv)]) Eb Tryz.f134 (p,()) (λ(z:Bool)=>z=Fk p):=by
 unfold short at h
 refine Eq.mp (xJ p _) ⟨_,if_pos trivial,_,if_pos trivial,⟨λhp=>?_,λhp=>?_⟩⟩
 ·have hp:=Dk hp
  rw [Cr] at hp
  dsimp only at hp
  exact Bl λhh=>hp ⟨by omega,by omega⟩
 ·have hp:=Dl hp
  rw [Cr] at hp
  dsimp only at hp
  refine Aj p.length (λv=>v.2.1) (λj v=>v.1=(mask (p.take j):Int)/\ ∀x∈p.take j,0<=x/\x<p.length) rfl ⟨rfl,by simp⟩ ?_
  rintro j ⟨m,i,⟨⟩⟩ K hj hi ⟨hm,hR⟩ hK
  dsimp only at hi hm⊢
  subst hi hm
  refine Br.dec (λhl=>?_) λhl=>?_
  ·have hl:j<p.length:=by omega
   refine ⟨_,Aq hl,_,if_pos trivial,_,if_pos trivial,⟨λhq=>?_,λhq=>?_⟩⟩
   ·have hq:=Dk hq
    rw [Cr] at hq
    dsimp only at hq
    rw [Bo (by omega) (by omega)] at hq
    exact Bl λhh=>hq ⟨(hh.2.2 j hl hl).1,(hh.2.2 j hl hl).2.1⟩
   ·have hq:=Dl hq
    rw [Cr] at hq
    dsimp only at hq
    rw [Bo (by omega) (by omega)] at hq
    refine ⟨by omega,?_⟩
    rw [Ag (by omega)]
    have hb:mask (p.take j)<2^20:=YA λx hx=>by have:=hR x hx;omega
    refine hK hl _ rfl ⟨?_,?_⟩
    ·dsimp only
     rw [YF hb hq.1 (by omega),List.take_succ_eq_append_getElem hl,MJ]
    ·rw [List.take_succ_eq_append_getElem hl]
     intro x hx
     rcases List.mem_append.1 hx with hx|hx
     ·exact hR x hx
     ·rw [List.mem_singleton.1 hx];omega
  ·have:j=p.length:=by omega
   subst this
   rw [List.take_length] at hR⊢
   refine ⟨by omega,?_⟩
   have hx:(2:Nat)^p.length<=2^20:=Nat.pow_le_pow_right (by omega) (by omega)
   have LU:0<(2:Nat)^p.length:=Nat.two_pow_pos _
   have e1:min (p.length:Int).toNat IntKind.i64.bits=p.length:=by show min (p.length:Int).toNat 64=_;omega
   have e2:(1:Int)*(2:Int)^p.length=((2^p.length:Nat):Int):=by rw [Int.one_mul];exact (Int.natCast_pow 2 _).symm
   rw [e1,e2,Bo (n:=((2^p.length:Nat):Int)) (by omega) (by omega),Bo (by omega) (by omega)]
   have hE:((mask p:Int)==((2^p.length:Nat):Int)-1)=decide (mask p=2^p.length-1):=by
    rw [Bool.eq_iff_iff,beq_iff_eq,decide_eq_true_iff]
    omega
   show ((mask p:Int)==((2^p.length:Nat):Int)-1)=Fk p
   rw [hE]
   by_cases hf:mask p=2^p.length-1
   ·rw [decide_eq_true hf]
    have hn:=(Zr hR).1 ((ux hR).1 hf)
    refine Jy ⟨by omega,by omega,λj hj _=>?_⟩
    have:=hR _ (List.getElem_mem hj)
    exact ⟨this.1,by omega,hn j hj⟩
   ·rw [decide_eq_false hf]
    refine Bl λhh=>hf ((ux hR).2 ((Zr hR).2 λj hj=>(hh.2.2 j hj hj).2.2))
theorem aY:Sound Tryz.prog 134 Eb:=
 Sound.Cg Bi (Ae Ri (Ae c7 Ai)) mixed Tryz.func134 (by kernel_rfl) (by kernel_rfl) λx h=>wJ x.1 h
theorem wM (n:Int) (g:List (List Int)) (h:Ff g):fnW Cd (look [(88,Bm),(75,Eb)]) Ig Tryz.f123 (n,g,()) (λ(z:Bool)=>z=Mp n g):=by
 obtain ⟨h,h4⟩:=h
 refine Eq.mp (xM n g _) ⟨_,if_pos trivial,⟨λhp=>?_,λhp=>?_⟩⟩
 ·have hp:=Dk hp
  rw [Cr] at hp
  exact Bl λhh=>hp hh.1
 ·have hp:=Dl hp
  rw [Cr] at hp
  refine Br.dec (λhg=>?_) λhg=>?_
  ·exact Bl λhh=>by have:=hh.2.1;omega
  ·refine Aj g.length (λv=>v.1) (λj _=> ∀p∈g.take j,Dc n p=true) rfl (by simp) ?_
   rintro j ⟨i,⟨⟩⟩ K hj hi hR hK
   dsimp only at hi⊢
   subst hi
   refine Br.dec (λhl=>?_) λhl=>?_
   ·have hl:j<g.length:=by omega
    have hm:g[j]∈g:=List.getElem_mem hl
    refine ⟨_,Aq hl,⟨λhe=>?_,λhe=>?_⟩⟩
    ·simp only [bne_iff_ne,ne_eq] at he
     exact Bl λhh=>he (Dx.1 (hh.2.2 _ hm)).1
    ·simp only [bne_eq_false_iff_eq] at he
     refine ⟨_,Aq hl,_,if_pos (h4 _ hm),⟨λhq=>?_,λhq=>?_⟩⟩
     ·have hq:=Dk hq
      exact Bl λhh=>hq (Dx.1 (hh.2.2 _ hm)).2
     ·have hq:=Dl hq
      rw [Ag (by omega)]
      refine hK hl _ rfl ?_
      rw [List.take_succ_eq_append_getElem hl]
      intro x hx
      rcases List.mem_append.1 hx with hx|hx
      ·exact hR x hx
      ·rw [List.mem_singleton.1 hx];exact Dx.2 ⟨he,hq⟩
   ·have:j=g.length:=by omega
    subst this
    rw [List.take_length] at hR
    exact Jy ⟨hp,by omega,hR⟩
theorem aZ:Sound Tryz.prog 123 Ig:=
 Sound.Cg Bi (Ae Tv (Ae Nl Ai)) mixed Tryz.func123 (by kernel_rfl) (by kernel_rfl) λx h=>wM x.1 x.2.1 h
theorem YH (p:List Int) (n:Int) (h:short p):fnW Cd (look [(119,Nv),(134,Eb)]) fJ Tryz.f136 (p,n,()) (λ(z:Bool)=>z=!Dc n p):=by
 refine Eq.mp (ZC p n _) ⟨_,if_pos trivial,⟨λhe=>?_,λhe=>⟨_,if_pos h,?_⟩⟩⟩
 ·simp only [bne_iff_ne,ne_eq] at he
  have:Dc n p=false:=WV.2 λhh=>he hh.1
  rw [this];rfl
 ·simp only [bne_eq_false_iff_eq] at he
  show (!Fk p)=_
  congr 1
  cases hp:Fk p with
  |true=>exact Jy ⟨he,hp⟩
  |false=>exact Bl λhh=>by rw [hh.2] at hp;cases hp
theorem AO:Sound Tryz.prog 136 fJ:=
 Sound.Cg Bi (Ae c7 (Ae aY Ai)) mixed Tryz.func136 (by kernel_rfl) (by kernel_rfl) λx h=>YH x.1 x.2.1 h
theorem nc {α:Type} (P:α->Bool): ∀(l:List α) (i:Int),0<=i->(0<=Dz P l i↔l.any P=true)
 | [],i,_=>by simp [Dz]
 |y::r,i,h=>by
  simp only [Dz,List.any_cons,Bool.or_eq_true]
  split
  ·rename_i hy;simp [hy,h]
  ·rename_i hy;rw [nc P r (i+1) (by omega)];simp [hy]
theorem Ai8 (g:List (List Int)) (n:Int×Unit) (h:Ff g):fnW Cd (look [(136,fJ)]) uR Tryz.f150 (g,n,()) (λ(z:Int)=>z=Dz (λp=>!Dc n.1 p) g 0):=by
 obtain ⟨h,h4⟩:=h
 refine Eq.mp (Aiw g n _) ?_
 refine Aj g.length (λv=>v.1) (λj _=>Dz (λp=>!Dc n.1 p) (g.drop j) j=Dz (λp=>!Dc n.1 p) g 0) rfl (by simp) ?_
 rintro j ⟨i,⟨⟩⟩ K hj hi hR hK
 dsimp only at hi⊢
 subst hi
 refine Br.dec (λhl=>?_) λhl=>?_
 ·have hl:j<g.length:=by omega
  rw [List.drop_eq_getElem_cons hl] at hR
  simp only [Dz] at hR
  refine ⟨_,Aq hl,_,if_pos (h4 _ (List.getElem_mem hl)),⟨λhe=>?_,λhe=>?_⟩⟩
  ·have he:(!Dc n.1 g[j])=true:=he
   rw [if_pos he] at hR
   exact hR
  ·have he:(!Dc n.1 g[j])=false:=he
   rw [if_neg (by rw [he];decide)] at hR
   rw [Ag (by omega)]
   exact hK hl _ rfl (by push_cast;exact hR)
 ·have:j=g.length:=by omega
  subst this
  rw [List.drop_length] at hR
  exact hR
theorem NV:Sound Tryz.prog 150 uR:=
 Sound.Cg Bi (Ae AO Ai) mixed Tryz.func150 (by kernel_rfl) (by kernel_rfl) λx h=>Ai8 x.1 x.2.1 h
theorem Ai4 (g:List (List Int)) (n:Int×Unit) (h:Ff g):fnW Cd (look [(150,uR)]) uP Tryz.f135 (g,n,()) (λ(z:Bool)=>z=List.any g (λp=>!Dc n.1 p)):=by
 refine Eq.mp (Ais g n _) ⟨_,if_pos h,?_⟩
 rw [Bool.eq_iff_iff,decide_eq_true_iff]
 exact nc _ g 0 (Int.le_refl 0)
theorem NT:Sound Tryz.prog 135 uP:=
 Sound.Cg Bi (Ae NV Ai) mixed Tryz.func135 (by kernel_rfl) (by kernel_rfl) λx h=>Ai4 x.1 x.2.1 h
theorem wI (n:Int) (g:List (List Int)) (h:Ff g):fnW Cd (look [(90,Bm),(135,uP)]) Ig Tryz.f110 (n,g,()) (λ(z:Bool)=>z=Mp n g):=by
 refine Eq.mp (xI n g _) ⟨_,if_pos trivial,⟨λhp=>?_,λhp=>?_⟩⟩
 ·have hp:Kc n 1 20=true:=hp
  rw [Cr] at hp
  refine Br.dec (λhl=>⟨_,if_pos h,?_⟩) λhl=>?_
  ·show (!List.any g (λp=>!Dc n p))=Mp n g
   cases ha:List.any g (λp=>!Dc n p) with
   |true=>
    obtain ⟨p,uc,JN⟩:=List.any_eq_true.1 ha
    exact Bl λhh=>by rw [hh.2.2 p uc] at JN;cases JN
   |false=>
    refine Jy ⟨hp,by omega,λp hm=>?_⟩
    have:=List.any_eq_false.1 ha p hm
    simpa using this
  ·exact Bl λhh=>by have:=hh.2.1;omega
 ·refine Bl λhh=>?_
  have:Kc n 1 20=true:=Cr.2 hh.1
  have hp:Kc n 1 20=false:=hp
  rw [this] at hp;cases hp
theorem mn:Sound Tryz.prog 110 Ig:=
 Sound.Cg Bi (Ae Ri (Ae NT Ai)) mixed Tryz.func110 (by kernel_rfl) (by kernel_rfl) λx h=>wI x.1 x.2.1 h
theorem Ii {s:ByteArray} {k:Nat} (h:k<s.size):s[k]?=some s[k]:=getElem?_pos s k h
theorem TP (s:ByteArray) (i:Int) (h:0<=i/\i<s.size/\s.size<=4294967296):fnW Cd (look []) aU Tryz.f124 (s,i,()) (λ(z:Bool)=>z=jZ s i):=by
 obtain ⟨h1,h2,h3⟩:=h
 have hi:i.toNat<s.size:=by omega
 refine Eq.mp (VQ s i _) ⟨h1,_,Ii hi,Br.dec (λhq=>?_) λhq=>⟨h1,_,Ii hi,Br.dec (λhr=>?_) λhr=>?_⟩⟩
 ·refine Bl λ⟨c,hc,XG,_⟩=>?_
  rw [Ii hi] at hc;cases hc;omega
 ·refine Bl λ⟨c,hc,_,XG,_⟩=>?_
  rw [Ii hi] at hc;cases hc;omega
 ·refine Aj i.toNat (λv=>v.1) (λj _=> ∀k,k<j->s[k]?≠some s[i.toNat]) rfl (λk hk=>absurd hk (Nat.not_lt_zero _)) ?_
  rintro j ⟨i',⟨⟩⟩ K hj jN hR hK
  dsimp only at jN⊢
  subst jN
  refine Br.dec (λhl=>?_) λhl=>?_
  ·have hl:j<i.toNat:=by omega
   have hj:j<s.size:=by omega
   rw [Int.toNat_natCast]
   refine ⟨by omega,_,Ii hj,h1,_,Ii hi,⟨λhe=>?_,λhe=>?_⟩⟩
   ·simp only [beq_iff_eq,Int.natCast_inj] at he
    refine Bl λ⟨c,hc,_,_,XG⟩=>?_
    rw [Ii hi] at hc;cases hc
    exact XG j hl (by rw [Ii hj,UInt8.toNat_inj.1 he])
   ·simp only [beq_eq_false_iff_ne,ne_eq,Int.natCast_inj] at he
    rw [Ag (by omega)]
    refine hK hl _ rfl λk hk=>?_
    by_cases e:k=j
    ·subst e
     rw [Ii hj]
     exact λe=>he (by rw [Option.some.inj e])
    ·exact hR k (by omega)
  ·have:j=i.toNat:=by omega
   subst this
   exact Jy ⟨_,Ii hi,by omega,by omega,hR⟩
theorem xg:Sound Tryz.prog 124 aU:=
 Sound.Cg Bi Ai mixed Tryz.func124 (by kernel_rfl) (by kernel_rfl) λx h=>TP x.1 x.2.1 h
theorem MR (s:ByteArray) (h:s.size<=4294967296):fnW Cd (look [(90,Bm)]) Wm Tryz.f111 (s,()) (λ(z:Bool)=>z=aL s):=by
 refine Eq.mp (OP s _) ?_
 refine Aj s.size (λv=>v.1) (λj _=> ∀k,k<j->vo s k) rfl (λk hk=>absurd hk (Nat.not_lt_zero _)) ?_
 rintro j ⟨i,⟨⟩⟩ K hj hi hR hK
 dsimp only at hi⊢
 subst hi
 refine Br.dec (λhl=>?_) λhl=>?_
 ·have hl:j<s.size:=by omega
  rw [Int.toNat_natCast]
  have hb:=(s[j]).toNat_lt
  refine ⟨by omega,_,Ii hl,_,if_pos trivial,⟨λhq=>?_,λhq=>?_⟩⟩
  ·have hq:=Dk hq
   rw [Cr] at hq
   dsimp only at hq
   rw [Bo (by omega) (by omega)] at hq
   refine Bl λhh=>?_
   obtain ⟨c,hc,XG,hc2,_⟩:=hh.2 j hl
   rw [Ii hl] at hc;cases hc
   exact hq ⟨by omega,by omega⟩
  ·have hq:=Dl hq
   rw [Cr] at hq
   dsimp only at hq
   rw [Bo (by omega) (by omega)] at hq
   refine Aj j (λv=>v.1) (λm _=> ∀k,k<m->s[k]?≠some s[j]) rfl (λk hk=>absurd hk (Nat.not_lt_zero _)) ?_
   rintro m ⟨i',⟨⟩⟩ K' hm jN hR' XB
   dsimp only at jN⊢
   subst jN
   refine Br.dec (λGt=>?_) λGt=>?_
   ·have Gt:m<j:=by omega
    have yZ:m<s.size:=by omega
    rw [Int.toNat_natCast]
    refine ⟨by omega,_,Ii yZ,by omega,_,Ii hl,⟨λhe=>?_,λhe=>?_⟩⟩
    ·simp only [beq_iff_eq,Int.natCast_inj] at he
     refine Bl λhh=>?_
     obtain ⟨c,hc,_,_,XG⟩:=hh.2 j hl
     rw [Ii hl] at hc;cases hc
     exact XG m Gt (by rw [Ii yZ,UInt8.toNat_inj.1 he])
    ·simp only [beq_eq_false_iff_ne,ne_eq,Int.natCast_inj] at he
     rw [Ag (by omega)]
     refine XB Gt _ rfl λk hk=>?_
     by_cases e:k=m
     ·subst e
      rw [Ii yZ]
      exact λe=>he (by rw [Option.some.inj e])
     ·exact hR' k (by omega)
   ·have:m=j:=by omega
    subst this
    rw [Ag (by omega)]
    refine hK hl _ rfl λk hk=>?_
    by_cases e:k=m
    ·subst e
     exact ⟨_,Ii hl,by omega,by omega,hR'⟩
    ·exact hR k (by omega)
 ·have:j=s.size:=by omega
  subst this
  refine ⟨_,if_pos trivial,?_⟩
  show Kc s.size 1 8=_
  cases hr:Kc s.size 1 8 with
  |true=>rw [Cr] at hr;exact Jy ⟨by omega,hR⟩
  |false=>refine Bl λhh=>?_;rw [Cr.2 ⟨by omega,by omega⟩] at hr;cases hr
theorem sT:Sound Tryz.prog 111 Wm:=
 Sound.Cg Bi (Ae Ri Ai) mixed Tryz.func111 (by kernel_rfl) (by kernel_rfl) λx h=>MR x.1 h
theorem HO {p:PP} (h:Bx p=true):1<=p.1/\p.1<=20/\1<=p.2.2.1.length/\p.2.2.1.length<=8:=by
 obtain ⟨h1,h2,h3⟩:=Dx.1 h
 obtain ⟨h4,h5,_⟩:=Dx.1 h1
 obtain ⟨h6,_⟩:=Dx.1 h2
 omega
theorem wO (p:PP) (h:Ck p):fnW Cd (look [(123,Ig),(124,aU)]) Ec Tryz.f93 (p,()) (λ(z:Bool)=>z=Bx p):=by
 obtain ⟨hn,hg⟩:=h
 refine Eq.mp (xO p _) ⟨λh0=>?_,λh0=>⟨λh1=>?_,λh1=>⟨_,if_pos hg,⟨λh2=>?_,λh2=>?_⟩⟩⟩⟩
 ·simp only [beq_iff_eq] at h0
  exact Bl λhh=>by obtain ⟨_,h2,h3⟩:=hh;have:=(Dx.1 h2).1;omega
 ·simp only [bne_iff_ne,ne_eq,Int.natCast_inj] at h1
  exact Bl λhh=>h1 hh.2.2
 ·have h2:=Dk h2
  exact Bl λhh=>h2 hh.1
 ·simp only [beq_eq_false_iff_ne,ne_eq] at h0
  simp only [bne_eq_false_iff_eq,Int.natCast_inj] at h1
  have h2:Mp p.1 p.2.2.1=true:=Dl h2
  refine Aj p.2.1.size (λv=>v.1) (λj v=>v.2=(p.1,p.2.1,p.2.2.1,())/\ ∀k,k<j->vo p.2.1 k) rfl ⟨rfl,λk hk=>absurd hk (Nat.not_lt_zero _)⟩ ?_
  rintro j ⟨i,v⟩ K hj hi ⟨hv,hR⟩ hK
  dsimp only at hi hv⊢
  subst hi hv
  dsimp only
  refine Br.dec (λhl=>?_) λhl=>?_
  ·have hl:j<p.2.1.size:=by omega
   refine ⟨_,if_pos ⟨Int.natCast_nonneg j,Int.ofNat_lt.2 hl,hn⟩,⟨λhq=>?_,λhq=>?_⟩⟩
   ·have hq: ¬jZ p.2.1 j=true:=Dk hq
    refine Bl λhh=>hq (Dx.2 ?_)
    rw [Int.toNat_natCast]
    exact (Dx.1 hh.2.1).2 j hl
   ·have hq:jZ p.2.1 j=true:=Dl hq
    have hq:=Dx.1 hq
    rw [Int.toNat_natCast] at hq
    rw [Ag (by omega)]
    refine hK hl _ rfl ⟨rfl,λk hk=>?_⟩
    by_cases e:k=j
    ·subst e;exact hq
    ·exact hR k (by omega)
  ·have:j=p.2.1.size:=by omega
   subst this
   have:=(Dx.1 h2).2.1
   exact Jy ⟨h2,Dx.2 ⟨⟨by omega,by omega⟩,hR⟩,h1⟩
theorem Tj:Sound Tryz.prog 93 Ec:=
 Sound.Cg Bi (Ae aZ (Ae xg Ai)) mixed Tryz.func93 (by kernel_rfl) (by kernel_rfl) λx h=>wO x.1 h
theorem wK (p:PP) (h:Ck p):fnW Cd (look [(110,Ig),(111,Wm)]) Ec Tryz.f84 (p,()) (λ(z:Bool)=>z=Bx p):=by
 obtain ⟨hn,hg⟩:=h
 refine Eq.mp (xK p _) ⟨_,if_pos hg,⟨λh1=>⟨_,if_pos hn,⟨λh2=>?_,λh2=>?_⟩⟩,λh1=>?_⟩⟩
 ·have h1:Mp p.1 p.2.2.1=true:=h1
  have h2:aL p.2.1=true:=h2
  by_cases e:p.2.1.size=p.2.2.1.length
  ·rw [e,beq_self_eq_true];exact Jy ⟨h1,h2,e⟩
  ·rw [show ((p.2.1.size:Int)==(p.2.2.1.length:Int))=false from beq_eq_false_iff_ne.2 (by omega)];exact Bl λhh=>e hh.2.2
 ·have h2:aL p.2.1=false:=h2
  exact Bl λhh=>by rw [hh.2.1] at h2;cases h2
 ·have h1:Mp p.1 p.2.2.1=false:=h1
  exact Bl λhh=>by rw [hh.1] at h1;cases h1
theorem Ti:Sound Tryz.prog 84 Ec:=
 Sound.Cg Bi (Ae mn (Ae sT Ai)) mixed Tryz.func84 (by kernel_rfl) (by kernel_rfl) λx h=>wK x.1 h
theorem Aib (p:PP) (room:Int) (h:Ck p/\roomy room):fnW Cd (look [(45,c5)]) uS Tryz.f13 (p,room,()) (λ(z:Int)=>z=qb p room):=by
 obtain ⟨⟨h1,h2⟩,h3,h4⟩:=h
 refine Eq.mp (Aiz p room _) ?_
 rw [Bo (by omega) (by omega)]
 refine Br.dec (λhn=>?_) λhn=>⟨_,if_pos ⟨h2,by dsimp only;omega,by dsimp only;omega⟩,Br.dec (λhm=>?_) λhm=>?_⟩
 ·simp only [qb,if_pos hn]
 ·exact ((if_neg hn).trans (if_pos hm)).symm
 ·exact ((if_neg hn).trans (if_neg hm)).symm
theorem NX:Sound Tryz.prog 13 uS:=
 Sound.Cg Bi (Ae rk Ai) mixed Tryz.func13 (by kernel_rfl) (by kernel_rfl) λx h=>Aib x.1 x.2.1 h
theorem Aid (p:PP) (h:Ck p):fnW Cd (look [(49,c6)]) nw Tryz.f16 (p,()) (λ(z:PP)=>z=p):=Eq.mp (Aj1 p _) ⟨_,if_pos h.2,rfl⟩
theorem NY:Sound Tryz.prog 16 nw:=
 Sound.Cg Bi (Ae rn Ai) mixed Tryz.func16 (by kernel_rfl) (by kernel_rfl) λx h=>Aid x.1 h
theorem yt {a b:ByteArray} :(a.toList==b.toList)=decide (a=b):=by
 rw [Bool.eq_iff_iff,beq_iff_eq,decide_eq_true_iff,ByteArray.toList_eq,ByteArray.toList_eq]
 exact ⟨λh=>ByteArray.ext (Array.toList_inj.1 h),λh=>by rw [h]⟩
theorem Ai6 (a b:PP) (h:Ck a):fnW Cd (look [(53,Pk)]) uQ Tryz.f20 (a,b,()) (λ(z:Bool)=>z=nb a b):=by
 refine Eq.mp (Aiu a b _) ⟨λh1=>?_,λh1=>⟨λh2=>?_,λh2=>⟨_,if_pos h.2,⟨λh3=>?_,λh3=>?_⟩⟩⟩⟩
 ·simp only [bne_iff_ne,ne_eq] at h1
  unfold nb
  rw [decide_eq_false h1];rfl
 ·rw [yt] at h2
  unfold nb
  cases hd:decide (a.2.1=b.2.1)<;>simp_all
 ·have h3:(!Mn a.2.2.1 b.2.2.1)=true:=h3
  simp only [Mn,Bool.not_eq_true'] at h3
  unfold nb
  rw [h3];simp
 ·have h3:(!Mn a.2.2.1 b.2.2.1)=false:=h3
  rw [yt] at h2
  simp only [Mn] at h3
  simp only [bne_eq_false_iff_eq] at h1
  unfold nb
  simp_all
theorem NU:Sound Tryz.prog 20 uQ:=
 Sound.Cg Bi (Ae r6 Ai) mixed Tryz.func20 (by kernel_rfl) (by kernel_rfl) λx h=>Ai6 x.1 x.2.1 h
theorem ET (p:PP):nb p p=true:=by simp [nb]
theorem qi {b:Bool} {P:Prop} (h1:b=true) (h:(!b)=true):P:=by rw [h1] at h;cases h
theorem FV (t:TT) (xs:List Int) (h:Lc t/\short xs):fnW Cd (look [(101,Ap)]) Pl Tryz.f77 (t,xs,()) (λ(z:Int)=>z=Dz (λp=>decide (p=xs)) t.2.1 0):=by
 obtain ⟨⟨_,⟨h,h4⟩,_⟩,_⟩:=h
 refine Eq.mp (ID t xs _) ?_
 refine Aj t.2.1.length (λv=>v.1) (λj v=>v.2=(t.1,t.2.1,t.2.2.1,())/\Dz (λp=>decide (p=xs)) (t.2.1.drop j) j=Dz (λp=>decide (p=xs)) t.2.1 0) rfl ⟨rfl,by simp⟩ ?_
 rintro j ⟨i,v⟩ K hj hi ⟨hv,hR⟩ hK
 dsimp only at hi hv⊢
 subst hi hv
 dsimp only
 refine Br.dec (λhl=>?_) λhl=>?_
 ·have hl:j<t.2.1.length:=by omega
  rw [List.drop_eq_getElem_cons hl] at hR
  simp only [Dz] at hR
  refine ⟨_,Aq hl,_,if_pos (h4 _ (List.getElem_mem hl)),⟨λhe=>?_,λhe=>?_⟩⟩
  ·have he:decide (t.2.1[j]=xs)=true:=he
   rw [if_pos he] at hR
   exact hR
  ·have he:decide (t.2.1[j]=xs)=false:=he
   rw [if_neg (by rw [he];decide)] at hR
   rw [Ag (by omega)]
   exact hK hl _ rfl ⟨rfl,by push_cast;exact hR⟩
 ·have:j=t.2.1.length:=by omega
  subst this
  rw [List.drop_length] at hR
  exact hR
theorem rm:Sound Tryz.prog 77 Pl:=
 Sound.Cg Bi (Ae Ow Ai) mixed Tryz.func77 (by kernel_rfl) (by kernel_rfl) λx h=>FV x.1 x.2.1 h
end Go.Proofs.YtfolipnappekaaaGreat

namespace Go.Proofs.YtfolipnappekaaaGreat
open Go.RowKit
noncomputable abbrev aV:Spec:=Cg (.pair tI (.pair tL .unit)) .bool false true (λx=>short x.2.1) (λx=>Dc x.1 x.2.1)
noncomputable abbrev Ta:Spec:=Cg (.pair Cp (.pair tL .unit)) .bool false true (λx=>short x.2.1) (λx=>Dc x.1.1 x.2.1)
noncomputable abbrev Ix:Spec:=Cg (.pair Cp (.pair tL .unit)) .bool false true (λx=>Ck x.1/\short x.2.1) (λx=>Bx x.1&&Dc x.1.1 x.2.1)
theorem VR (n:Int) (s:List Int) (P:Bool->Prop):(Br ((↑s.length:Int)==n) (∃(y3:Bool),Eb.fn (s,())=some y3/\P y3) (P false))=fnW Cd (look [(75,Eb)]) aV Tryz.f127 (n,s,()) P:=by kernel_rfl
theorem rK (p:Int×ByteArray×List (List Int)×Unit) (s:List Int) (P:Bool->Prop):(∃(y3:Int),Nv.fn (s,())=some y3/\Br (y3==p.1) (∃(y4:Bool),Eb.fn (s,())=some y4/\P y4) (P false))=fnW Cd (look [(119,Nv),(134,Eb)]) Ta Tryz.f109 (p,s,()) P:=by kernel_rfl
theorem tE (p:Int×ByteArray×List (List Int)×Unit) (s:List Int) (P:Bool->Prop):(∃(y3:Bool),Ec.fn ((p.1,p.2.1,p.2.2.1,()),())=some y3/\Br y3 (∃(y4:Bool),aV.fn (p.1,s,())=some y4/\P y4) (P false))=fnW Cd (look [(93,Ec),(127,aV)]) Ix Tryz.f95 (p,s,()) P:=by kernel_rfl
theorem tw (p:Int×ByteArray×List (List Int)×Unit) (s:List Int) (P:Bool->Prop):(∃(y3:Bool),Ec.fn ((p.1,p.2.1,p.2.2.1,()),())=some y3/\Br y3 (∃(y4:Bool),Ta.fn ((p.1,p.2.1,p.2.2.1,()),s,())=some y4/\P y4) (P false))=fnW Cd (look [(84,Ec),(109,Ta)]) Ix Tryz.f97 (p,s,()) P:=by kernel_rfl
theorem TQ (n:Int) (s:List Int) (h:short s):fnW Cd (look [(75,Eb)]) aV Tryz.f127 (n,s,()) (λ(z:Bool)=>z=Dc n s):=by
 refine Eq.mp (VR n s _) ⟨λhe=>⟨_,if_pos h,?_⟩,λhe=>?_⟩
 ·simp only [beq_iff_eq] at he
  show Fk s=_
  cases hp:Fk s with
  |true=>exact Jy ⟨he,hp⟩
  |false=>exact Bl λhh=>by rw [hh.2] at hp;cases hp
 ·simp only [beq_eq_false_iff_ne,ne_eq] at he
  exact Bl λhh=>he hh.1
theorem xh:Sound Tryz.prog 127 aV:=
 Sound.Cg Bi (Ae Nl Ai) mixed Tryz.func127 (by kernel_rfl) (by kernel_rfl) λx h=>TQ x.1 x.2.1 h
theorem qt (p:PP) (s:List Int) (h:short s):fnW Cd (look [(119,Nv),(134,Eb)]) Ta Tryz.f109 (p,s,()) (λ(z:Bool)=>z=Dc p.1 s):=by
 refine Eq.mp (rK p s _) ⟨_,if_pos trivial,⟨λhe=>⟨_,if_pos h,?_⟩,λhe=>?_⟩⟩
 ·simp only [beq_iff_eq] at he
  show Fk s=_
  cases hp:Fk s with
  |true=>exact Jy ⟨he,hp⟩
  |false=>exact Bl λhh=>by rw [hh.2] at hp;cases hp
 ·simp only [beq_eq_false_iff_ne,ne_eq] at he
  exact Bl λhh=>he hh.1
theorem j4:Sound Tryz.prog 109 Ta:=
 Sound.Cg Bi (Ae c7 (Ae aY Ai)) mixed Tryz.func109 (by kernel_rfl) (by kernel_rfl) λx h=>qt x.1 x.2.1 h
theorem sJ (p:PP) (s:List Int) (h:Ck p/\short s):fnW Cd (look [(93,Ec),(127,aV)]) Ix Tryz.f95 (p,s,()) (λ(z:Bool)=>z=(Bx p&&Dc p.1 s)):=by
 refine Eq.mp (tE p s _) ⟨_,if_pos h.1,⟨λhe=>⟨_,if_pos h.2,?_⟩,λhe=>?_⟩⟩
 ·have he:Bx p=true:=he
  rw [he];rfl
 ·have he:Bx p=false:=he
  rw [he];rfl
theorem kK:Sound Tryz.prog 95 Ix:=
 Sound.Cg Bi (Ae Tj (Ae xh Ai)) mixed Tryz.func95 (by kernel_rfl) (by kernel_rfl) λx h=>sJ x.1 x.2.1 h
theorem sD (p:PP) (s:List Int) (h:Ck p/\short s):fnW Cd (look [(84,Ec),(109,Ta)]) Ix Tryz.f97 (p,s,()) (λ(z:Bool)=>z=(Bx p&&Dc p.1 s)):=by
 refine Eq.mp (tw p s _) ⟨_,if_pos h.1,⟨λhe=>⟨_,if_pos h.2,?_⟩,λhe=>?_⟩⟩
 ·have he:Bx p=true:=he
  rw [he];rfl
 ·have he:Bx p=false:=he
  rw [he];rfl
theorem kG:Sound Tryz.prog 97 Ix:=
 Sound.Cg Bi (Ae Ti (Ae j4 Ai)) mixed Tryz.func97 (by kernel_rfl) (by kernel_rfl) λx h=>sD x.1 x.2.1 h
end Go.Proofs.YtfolipnappekaaaGreat

namespace Go.Proofs.YtfolipnappekaaaGreat
open Go.RowKit
def Iy (xs:List Int) (i:Int):Int:=xs.getD i.toNat 0
def Ab (p q:List Int):List Int:=p.map (Iy q)
def Yq (f:Nat->Nat) (g:Nat->Int) (m:Nat) (init:List Int):List Int:=(List.range m).foldl (λ(out:List Int) (i:Nat)=>out.set (f i) (g i)) init
def Ah (p:List Int):List Int:=Yq (λi=>(Iy p (i:Int)).toNat) (λi=>(i:Int)) p.length (List.replicate p.length 0)
def Hz (n:Nat) (p:List Int):Prop:= ∀y∈p,0<=y/\y<n
noncomputable abbrev Iv:Spec:=Cg (.pair tL (.pair tL .unit)) tL false true (λx=>List.length x.1<=20/\Hz (List.length x.2.1) x.1) (λx=>Ab x.1 x.2.1)
noncomputable abbrev Co:Spec:=Cg (.pair tL .unit) tL false true (λx=>List.length x.1<=20/\Hz (List.length x.1) x.1) (λx=>Ah x.1)
noncomputable abbrev Sy:Spec:=Cg (.pair tI .unit) tL false true (λx=>0<=x.1/\x.1<=20) (λx=>upto x.1.toNat)
noncomputable abbrev Ln:Spec:=Cg (.pair tL .unit) tL false true (λx=>Fk x.1=true) (λx=>Ah x.1)
def An (g:List (List Int)) (l:Int):List Int:=if l>0 then g.getD (l-1).toNat [] else Ah (g.getD (-l-1).toNat [])
def Es (n:Int) (l:Int):Prop:=l≠0/\ -n<=l/\l<=n
noncomputable abbrev Gx:Spec:=Cg (.pair cU (.pair tI .unit)) tL false false (λx=>Es (List.length x.1) x.2.1/\List.length x.1<=8/\ ∀p∈x.1,Fk p=true) (λx=>An x.1 x.2.1)
def Af (n:Nat):List Int:=(List.range n).flatMap λ(k:Nat)=> [(k:Int)+1,-((k:Int)+1)]
noncomputable abbrev Hs:Spec:=Cg (.pair tI .unit) tL false true (λx=>0<=x.1/\x.1<=8) (λx=>Af x.1.toNat)
noncomputable abbrev Ic:Spec:=Cg (.pair Cp (.pair tL (.pair tI .unit))) tL false true (λx=>Bx x.1=true/\List.length x.2.1<=20/\(∀y∈x.2.1,0<=y/\y<x.1.1)/\Es (List.length x.1.2.2.1) x.2.2.1) (λx=>Ab x.2.1 (An x.1.2.2.1 x.2.2.1))
theorem tu (p q:List Int) (P:List Int->Prop):(((0:Int)<=(↑p.length:Int)/\(↑p.length:Int)<(↑Be:Int)+(1:Int))/\(↑p.length:Int)=(↑p.length:Int)/\0=0/\(List.replicate (↑p.length:Int).toNat (Int.ofNat (nat_lit 0))).length=(List.replicate (↑p.length:Int).toNat (Int.ofNat (nat_lit 0))).length/\Bk (λ(v3:Int×List Int×PUnit) (k4:Int×List Int×PUnit->Prop)=>Br (decide (v3.1<(↑p.length:Int))) (∃(y5:Int),idx p v3.1=some y5/\ ∃(y6:Int),idx q y5=some y6/\((0:Int)<=v3.1/\v3.1<(↑v3.2.1.length:Int))/\0+v3.1.toNat<v3.2.1.length/\0=0/\v3.2.1.length=(v3.2.1.set (0+v3.1.toNat) y6).length/\k4 (IntKind.i64.wrap (v3.1+(1:Int)),v3.2.1.set (0+v3.1.toNat) y6,())) (P (List.take v3.2.1.length (List.drop 0 v3.2.1)))) ((0:Int),List.replicate (↑p.length:Int).toNat (Int.ofNat (nat_lit 0)),PUnit.unit))=fnW Cd (look []) Iv Tryz.f121 (p,q,()) P:=by kernel_rfl
theorem tv (p:List Int) (P:List Int->Prop):(((0:Int)<=(↑p.length:Int)/\(↑p.length:Int)<(↑Be:Int)+(1:Int))/\(↑p.length:Int)=(↑p.length:Int)/\0=0/\(List.replicate (↑p.length:Int).toNat (Int.ofNat (nat_lit 0))).length=(List.replicate (↑p.length:Int).toNat (Int.ofNat (nat_lit 0))).length/\Bk (λ(v2:Int×List Int×PUnit) (k3:Int×List Int×PUnit->Prop)=>Br (decide (v2.1<(↑p.length:Int))) (∃(y4:Int),idx p v2.1=some y4/\((0:Int)<=y4/\y4<(↑v2.2.1.length:Int))/\0+y4.toNat<v2.2.1.length/\0=0/\v2.2.1.length=(v2.2.1.set (0+y4.toNat) v2.1).length/\k3 (IntKind.i64.wrap (v2.1+(1:Int)),v2.2.1.set (0+y4.toNat) v2.1,())) (P (List.take v2.2.1.length (List.drop 0 v2.2.1)))) ((0:Int),List.replicate (↑p.length:Int).toNat (Int.ofNat (nat_lit 0)),PUnit.unit))=fnW Cd (look []) Co Tryz.f56 (p,()) P:=by kernel_rfl
theorem OW (p:List Int) (P:List Int->Prop):(((0:Int)<=(↑p.length:Int)/\(↑p.length:Int)<(↑Be:Int)+(1:Int))/\(↑p.length:Int)=(↑p.length:Int)/\0=0/\(List.replicate (↑p.length:Int).toNat (Int.ofNat (nat_lit 0))).length=(List.replicate (↑p.length:Int).toNat (Int.ofNat (nat_lit 0))).length/\Bk (λ(v2:Int×List Int×PUnit) (k3:Int×List Int×PUnit->Prop)=>Br (decide (v2.1<(↑p.length:Int))) (∃(y4:Int),idx p v2.1=some y4/\((0:Int)<=y4/\y4<(↑v2.2.1.length:Int))/\0+y4.toNat<v2.2.1.length/\0=0/\v2.2.1.length=(v2.2.1.set (0+y4.toNat) v2.1).length/\k3 (IntKind.i64.wrap (v2.1+(1:Int)),v2.2.1.set (0+y4.toNat) v2.1,())) (P (List.take v2.2.1.length (List.drop 0 v2.2.1)))) ((0:Int),List.replicate (↑p.length:Int).toNat (Int.ofNat (nat_lit 0)),PUnit.unit))=fnW Cd (look []) Co Tryz.f76 (p,()) P:=by kernel_rfl
theorem tD (p:List Int) (P:List Int->Prop):(∃(y2:Bool),Eb.fn (p,())=some y2/\Br (!y2) (P (List.take 0 (List.drop 0 []))) (∃(y3:List Int),Co.fn (p,())=some y3/\P y3))=fnW Cd (look [(75,Eb),(76,Co)]) Ln Tryz.f55 (p,()) P:=by kernel_rfl
theorem HU (n:Int) (P:List Int->Prop):(0=0/\0=([]:List Int).length/\Bk (λ(v2:Int×List Int×PUnit) (k3:Int×List Int×PUnit->Prop)=>Br (decide (v2.1<n)) (0=0/\v2.2.1.length=v2.2.1.length/\v2.2.1.length+(List.take 1 (List.drop 0 [v2.1])).length<=Be/\0=0/\(v2.2.1++List.take 1 (List.drop 0 [v2.1])).length=(v2.2.1++List.take 1 (List.drop 0 [v2.1])).length/\k3 (IntKind.i64.wrap (v2.1+(1:Int)),v2.2.1++List.take 1 (List.drop 0 [v2.1]),())) (P (List.take v2.2.1.length (List.drop 0 v2.2.1)))) ((0:Int),[],PUnit.unit))=fnW Cd (look []) Sy Tryz.f115 (n,()) P:=by kernel_rfl
theorem HX (g:List (List Int)) (l:Int) (P:List Int->Prop):(Br (decide (l>(0:Int))) (∃(y3:List Int),idx g (IntKind.i64.wrap (l-(1:Int)))=some y3/\P y3) (∃(y3:List Int),idx g (IntKind.i64.wrap (IntKind.i64.wrap ((0:Int)-l)-(1:Int)))=some y3/\ ∃(y4:List Int),Co.fn (y3,())=some y4/\P y4))=fnW Cd (look [(56,Co)]) Gx Tryz.f122 (g,l,()) P:=by kernel_rfl
theorem OR (n:Int) (P:List Int->Prop):(0=0/\0=([]:List Int).length/\Bk (λ(v2:Int×List Int×PUnit) (k3:Int×List Int×PUnit->Prop)=>Br (decide (v2.1<n)) (0=0/\v2.2.1.length=v2.2.1.length/\v2.2.1.length+(List.take 2 (List.drop 0 [IntKind.i64.wrap (v2.1+(1:Int)),IntKind.i64.wrap ((0:Int)-IntKind.i64.wrap (v2.1+(1:Int)))])).length<=Be/\0=0/\(v2.2.1++List.take 2 (List.drop 0 [IntKind.i64.wrap (v2.1+(1:Int)),IntKind.i64.wrap ((0:Int)-IntKind.i64.wrap (v2.1+(1:Int)))])).length=(v2.2.1++List.take 2 (List.drop 0 [IntKind.i64.wrap (v2.1+(1:Int)),IntKind.i64.wrap ((0:Int)-IntKind.i64.wrap (v2.1+(1:Int)))])).length/\k3 (IntKind.i64.wrap (v2.1+(1:Int)),v2.2.1++List.take 2 (List.drop 0 [IntKind.i64.wrap (v2.1+(1:Int)),IntKind.i64.wrap ((0:Int)-IntKind.i64.wrap (v2.1+(1:Int)))]),())) (P (List.take v2.2.1.length (List.drop 0 v2.2.1)))) ((0:Int),[],PUnit.unit))=fnW Cd (look []) Hs Tryz.f106 (n,()) P:=by kernel_rfl
theorem VN (p:Int×ByteArray×List (List Int)×Unit) (s:List Int) (l:Int) (P:List Int->Prop):(∃(y4:List Int),idx p.2.2.1 (IntKind.i64.wrap ((if true=true then if IntKind.i64.wrap ((0:Int)-l)>l then IntKind.i64.wrap ((0:Int)-l) else l else if IntKind.i64.wrap ((0:Int)-l)<l then IntKind.i64.wrap ((0:Int)-l) else l)-(1:Int)))=some y4/\Br (decide (l<(0:Int))) (∃(y5:List Int),Ln.fn (y4,())=some y5/\0=0/\0=([]:List Int).length/\Bk (λ(v6:Int×List Int×PUnit) (k7:Int×List Int×PUnit->Prop)=>Br (decide (v6.1<(↑s.length:Int))) (∃(y8:Int),idx s v6.1=some y8/\ ∃(y9:Int),idx y5 y8=some y9/\0=0/\v6.2.1.length=v6.2.1.length/\v6.2.1.length+(List.take 1 (List.drop 0 [y9])).length<=Be/\0=0/\(v6.2.1++List.take 1 (List.drop 0 [y9])).length=(v6.2.1++List.take 1 (List.drop 0 [y9])).length/\k7 (IntKind.i64.wrap (v6.1+(1:Int)),v6.2.1++List.take 1 (List.drop 0 [y9]),())) (P (List.take v6.2.1.length (List.drop 0 v6.2.1)))) ((0:Int),[],PUnit.unit)) (0=0/\0=([]:List Int).length/\Bk (λ(v5:Int×List Int×PUnit) (k6:Int×List Int×PUnit->Prop)=>Br (decide (v5.1<(↑s.length:Int))) (∃(y7:Int),idx s v5.1=some y7/\ ∃(y8:Int),idx y4 y7=some y8/\0=0/\v5.2.1.length=v5.2.1.length/\v5.2.1.length+(List.take 1 (List.drop 0 [y8])).length<=Be/\0=0/\(v5.2.1++List.take 1 (List.drop 0 [y8])).length=(v5.2.1++List.take 1 (List.drop 0 [y8])).length/\k6 (IntKind.i64.wrap (v5.1+(1:Int)),v5.2.1++List.take 1 (List.drop 0 [y8]),())) (P (List.take v5.2.1.length (List.drop 0 v5.2.1)))) ((0:Int),[],PUnit.unit)))=fnW Cd (look [(55,Ln)]) Ic Tryz.f118 (p,s,l,()) P:=by kernel_rfl
theorem Hx {xs:List Int} {i:Nat} (h:i<xs.length):Iy xs (i:Int)=xs[i]:=by
 unfold Iy
 rw [Int.toNat_natCast,List.getD_eq_getElem?_getD,List.getElem?_eq_getElem h];rfl
theorem dN {xs:List Int} {y:Int} (h0:0<=y) (h:y<xs.length):idx xs y=some (Iy xs y):=by
 have hy:y.toNat<xs.length:=by omega
 have e:y=(y.toNat:Int):=by omega
 rw [e,Aq hy,Hx hy]
theorem Vx (f:Nat->Nat) (g:Nat->Int) (m:Nat) (init:List Int):Yq f g (m+1) init=(Yq f g m init).set (f m) (g m):=by simp [Yq,List.range_succ]
theorem Yr (f:Nat->Nat) (g:Nat->Int) (m:Nat) (init:List Int):(Yq f g m init).length=init.length:=by
 induction m with
 |zero=>rfl
 |succ m ih=>rw [Vx,List.length_set,ih]
theorem mM (f:Nat->Nat) (g:Nat->Int) (init:List Int): ∀(m:Nat),(∀i j,i<m->j<m->f i=f j->i=j)-> ∀i,i<m->f i<init.length->(Yq f g m init)[f i]?=some (g i)
 |0,_,i,h,_=>absurd h (Nat.not_lt_zero _)
 |m+1,hf,i,hi,hl=>by
  rw [Vx]
  by_cases e:i=m
  ·subst e
   exact List.getElem?_set_self (by rw [Yr];exact hl)
  ·rw [List.getElem?_set_ne (λh=>e (hf i m hi (by omega) h.symm))]
   exact mM f g init m (λa b ha hb=>hf a b (by omega) (by omega)) i (by omega) hl
structure Ww (p:List Int):Prop where
 pos:1<=p.length
 len:p.length<=20
 row:Hz p.length p
 nodup:p.Nodup
theorem bO {p:List Int} (h:Fk p=true):Ww p:=by
 obtain ⟨h1,h2,h3⟩:=Dx.1 h
 refine ⟨h1,h2,λy hy=>?_,dU λj hj=>(h3 j hj hj).2.2⟩
 obtain ⟨j,hj,rfl⟩:=List.mem_iff_getElem.1 hy
 have:=h3 j hj hj
 omega
theorem Ww.inj {p:List Int} (h:Ww p) (i j:Nat) (hi:i<p.length) (hj:j<p.length) (e:(Iy p (i:Int)).toNat=(Iy p (j:Int)).toNat):i=j:=by
 rw [Hx hi,Hx hj] at e
 have h1:=h.row _ (List.getElem_mem hi)
 have h2:=h.row _ (List.getElem_mem hj)
 have e:p[i]=p[j]:=by omega
 refine Classical.byContradiction λEk=>?_
 rcases Nat.lt_or_gt_of_ne Ek with hl|hl
 ·exact List.pairwise_iff_getElem.1 h.nodup i j hi hj hl e
 ·exact List.pairwise_iff_getElem.1 h.nodup j i hj hi hl e.symm
theorem Ww.TK {p:List Int} (h:Ww p) (k:Nat) (hk:k<p.length): ∃i,i<p.length/\(Iy p (i:Int)).toNat=k:=by
 have hm:=(Zr (xs:=p) h.row).2 (rF h.nodup) k hk
 obtain ⟨i,hi,e⟩:=List.mem_iff_getElem.1 hm
 exact ⟨i,hi,by rw [Hx hi,e];exact Int.toNat_natCast k⟩
theorem Ww.lt {p:List Int} (h:Ww p) {i:Nat} (hi:i<p.length):(Iy p (i:Int)).toNat<p.length:=by
 rw [Hx hi]
 have:=h.row _ (List.getElem_mem hi)
 omega
theorem jR (p:List Int):(Ah p).length=p.length:=by unfold Ah;rw [Yr,List.length_replicate]
theorem SI {p:List Int} (h:Ww p) {i:Nat} (hi:i<p.length):(Ah p)[(Iy p (i:Int)).toNat]?=some (i:Int):=
 mM (λi=>(Iy p (i:Int)).toNat) (λi=>(i:Int)) _ p.length (λi j hi hj=>h.inj i j hi hj) i hi (by rw [List.length_replicate];exact h.lt hi)
theorem XY {p:List Int} (h:Ww p):Hz p.length (Ah p):=by
 intro y hy
 obtain ⟨k,hk,rfl⟩:=List.mem_iff_getElem.1 hy
 have pN:k<p.length:=by rw [jR] at hk;exact hk
 obtain ⟨i,hi,rfl⟩:=h.TK k pN
 have:=SI h hi
 rw [List.getElem?_eq_getElem hk] at this
 rw [Option.some.inj this]
 omega
theorem Kj (p q:List Int):(Ab p q).length=p.length:=by simp [Ab]
theorem yx {p q:List Int} {n:Nat} (hp:Hz q.length p) (hq:Hz n q):Hz n (Ab p q):=by
 intro y hy
 obtain ⟨x,hx,rfl⟩:=List.mem_map.1 hy
 have h1:=hp x hx
 rw [show x=(x.toNat:Int) by omega,Hx (by omega)]
 exact hq _ (List.getElem_mem _)
theorem sB (p q:List Int) (h:p.length<=20/\Hz q.length p):fnW Cd (look []) Iv Tryz.f121 (p,q,()) (λ(z:List Int)=>z=Ab p q):=by
 obtain ⟨h,hr⟩:=h
 refine Eq.mp (tu p q _) ?_
 refine ⟨⟨by omega,by show (p.length:Int)<(4294967296:Int)+1;omega⟩,rfl,rfl,rfl,?_⟩
 have Kw:=Kj p q
 refine Aj p.length (λv=>v.1) (λj v=>v.2.1.length=(Ab p q).length/\v.2.1.take j=(Ab p q).take j) rfl ⟨by rw [Kw];simp,by simp⟩ ?_
 rintro j ⟨i,ys,⟨⟩⟩ K hj hi ⟨h1,h2⟩ hK
 dsimp only at hi h1 h2⊢
 subst hi
 refine Br.dec (λhl=>?_) λhl=>?_
 ·have hl:j<p.length:=by omega
  have hy:=hr _ (List.getElem_mem hl)
  refine ⟨_,Aq hl,_,dN hy.1 hy.2,⟨by omega,by omega⟩,by rw [Int.toNat_natCast];omega,rfl,by rw [List.length_set],?_⟩
  rw [Ag (by omega),Int.toNat_natCast,Nat.zero_add]
  have Gt:j<(Ab p q).length:=by rw [Kw];exact hl
  have e:Iy q p[j]=(Ab p q)[j]:=by simp [Ab]
  rw [e]
  exact hK hl _ rfl ⟨by rw [List.length_set];exact h1,Lp Gt h1 h2⟩
 ·have:j=p.length:=by omega
  subst this
  rw [<-Kw,List.take_length,<-h1,List.take_length] at h2
  rw [List.drop_zero,List.take_length]
  exact h2
theorem Rg:Sound Tryz.prog 121 Iv:=
 Sound.Cg Bi Ai mixed Tryz.func121 (by kernel_rfl) (by kernel_rfl) λx h=>sB x.1 x.2.1 h
theorem sC (p:List Int) (h:p.length<=20/\Hz p.length p):fnW Cd (look []) Co Tryz.f56 (p,()) (λ(z:List Int)=>z=Ah p):=by
 obtain ⟨h,hr⟩:=h
 refine Eq.mp (tv p _) ?_
 refine ⟨⟨by omega,by show (p.length:Int)<(4294967296:Int)+1;omega⟩,rfl,rfl,rfl,?_⟩
 refine Aj p.length (λv=>v.1) (λj v=>v.2.1=Yq (λi=>(Iy p (i:Int)).toNat) (λi=>(i:Int)) j (List.replicate p.length 0)) rfl rfl ?_
 rintro j ⟨i,ys,⟨⟩⟩ K hj hi h1 hK
 dsimp only at hi h1⊢
 subst hi
 have hlen:ys.length=p.length:=by rw [h1,Yr,List.length_replicate]
 refine Br.dec (λhl=>?_) λhl=>?_
 ·have hl:j<p.length:=by omega
  have hy:=hr _ (List.getElem_mem hl)
  refine ⟨_,Aq hl,⟨by omega,by omega⟩,by omega,rfl,by rw [List.length_set],?_⟩
  rw [Ag (by omega),Nat.zero_add]
  refine hK hl _ rfl ?_
  rw [Vx,<-h1,Hx hl]
 ·have:j=p.length:=by omega
  subst this
  rw [List.drop_zero,List.take_length]
  exact h1
theorem Rh:Sound Tryz.prog 56 Co:=
 Sound.Cg Bi Ai mixed Tryz.func56 (by kernel_rfl) (by kernel_rfl) λx h=>sC x.1 h
theorem MY (p:List Int) (h:p.length<=20/\Hz p.length p):fnW Cd (look []) Co Tryz.f76 (p,()) (λ(z:List Int)=>z=Ah p):=by
 obtain ⟨h,hr⟩:=h
 refine Eq.mp (OW p _) ?_
 refine ⟨⟨by omega,by show (p.length:Int)<(4294967296:Int)+1;omega⟩,rfl,rfl,rfl,?_⟩
 refine Aj p.length (λv=>v.1) (λj v=>v.2.1=Yq (λi=>(Iy p (i:Int)).toNat) (λi=>(i:Int)) j (List.replicate p.length 0)) rfl rfl ?_
 rintro j ⟨i,ys,⟨⟩⟩ K hj hi h1 hK
 dsimp only at hi h1⊢
 subst hi
 have hlen:ys.length=p.length:=by rw [h1,Yr,List.length_replicate]
 refine Br.dec (λhl=>?_) λhl=>?_
 ·have hl:j<p.length:=by omega
  have hy:=hr _ (List.getElem_mem hl)
  refine ⟨_,Aq hl,⟨by omega,by omega⟩,by omega,rfl,by rw [List.length_set],?_⟩
  rw [Ag (by omega),Nat.zero_add]
  refine hK hl _ rfl ?_
  rw [Vx,<-h1,Hx hl]
 ·have:j=p.length:=by omega
  subst this
  rw [List.drop_zero,List.take_length]
  exact h1
theorem Tw:Sound Tryz.prog 76 Co:=
 Sound.Cg Bi Ai mixed Tryz.func76 (by kernel_rfl) (by kernel_rfl) λx h=>MY x.1 h
theorem sI (p:List Int) (h:Fk p=true):fnW Cd (look [(75,Eb),(76,Co)]) Ln Tryz.f55 (p,()) (λ(z:List Int)=>z=Ah p):=by
 have hp:=bO h
 have hs:short p:=by have:=hp.len;unfold short;omega
 refine Eq.mp (tD p _) ⟨_,if_pos hs,⟨λhe=>?_,λ_=>⟨_,if_pos ⟨hp.len,hp.row⟩,rfl⟩⟩⟩
 exact absurd h (Dk he)
theorem kJ:Sound Tryz.prog 55 Ln:=
 Sound.Cg Bi (Ae Nl (Ae Tw Ai)) mixed Tryz.func55 (by kernel_rfl) (by kernel_rfl) λx h=>sI x.1 h
theorem fR (j:Nat):upto (j+1)=upto j++ [(j:Int)]:=by simp [upto,List.range_succ]
theorem FL (n:Int) (h:0<=n/\n<=20):fnW Cd (look []) Sy Tryz.f115 (n,()) (λ(z:List Int)=>z=upto n.toNat):=by
 refine Eq.mp (HU n _) ⟨rfl,rfl,?_⟩
 refine Aj n.toNat (λv=>v.1) (λj v=>v.2.1=upto j) rfl rfl ?_
 rintro j ⟨i,ys,⟨⟩⟩ K hj hi h1 hK
 dsimp only at hi h1⊢
 subst hi h1
 refine Br.dec (λhl=>?_) λhl=>?_
 ·refine ⟨rfl,rfl,?_,rfl,rfl,?_⟩
  ·show (upto j).length+1<=4294967296
   rw [eQ];omega
  ·rw [Ag (by omega)]
   exact hK (by omega) _ rfl (fR j).symm
 ·have:j=n.toNat:=by omega
  subst this
  rw [List.drop_zero,List.take_length]
theorem eA:Sound Tryz.prog 115 Sy:=
 Sound.Cg Bi Ai mixed Tryz.func115 (by kernel_rfl) (by kernel_rfl) λx h=>FL x.1 h
theorem Pd {g:List (List Int)} {k:Nat} (h:k<g.length):An g ((k:Int)+1)=g[k]:=by
 unfold An
 rw [if_pos (by omega),show ((k:Int)+1-1).toNat=k by omega,List.getD_eq_getElem?_getD,List.getElem?_eq_getElem h];rfl
theorem Pc {g:List (List Int)} {k:Nat} (h:k<g.length):An g (-((k:Int)+1))=Ah g[k]:=by
 unfold An
 rw [if_neg (by omega),show (-(-((k:Int)+1))-1).toNat=k by omega,List.getD_eq_getElem?_getD,List.getElem?_eq_getElem h];rfl
theorem Ng {n:Nat} {l:Int} (h:Es n l): ∃k:Nat,k<n/\(l=(k:Int)+1\/l= -((k:Int)+1)):=by
 obtain ⟨h1,h2,h3⟩:=h
 by_cases h0:0<l
 ·exact ⟨(l-1).toNat,by omega, .inl (by omega)⟩
 ·exact ⟨(-l-1).toNat,by omega, .inr (by omega)⟩
theorem FO (g:List (List Int)) (l:Int) (h:Es (List.length g) l/\List.length g<=8/\ ∀p∈g,Fk p=true):fnW Cd (look [(56,Co)]) Gx Tryz.f122 (g,l,()) (λ(z:List Int)=>z=An g l):=by
 obtain ⟨hl,h8,hp⟩:=h
 refine Eq.mp (HX g l _) ?_
 obtain ⟨k,hk,rfl|rfl⟩:=Ng hl
 ·refine Br.dec (λ_=>?_) λhn=>by omega
  rw [Bo (by omega) (by omega),show (k:Int)+1-1=(k:Int) by omega]
  exact ⟨_,Aq hk,(Pd hk).symm⟩
 ·refine Br.dec (λhn=>by omega) λ_=>?_
  rw [Bo (n:=0- -((k:Int)+1)) (by omega) (by omega),Bo (by omega) (by omega),show (0:Int)- -((k:Int)+1)-1=(k:Int) by omega]
  have:=bO (hp _ (List.getElem_mem hk))
  exact ⟨_,Aq hk,_,if_pos ⟨this.len,this.row⟩,(Pc hk).symm⟩
theorem eB:Sound Tryz.prog 122 Gx:=
 Sound.Cg Bi (Ae Rh Ai) mixed Tryz.func122 (by kernel_rfl) (by kernel_rfl) λx h=>FO x.1 x.2.1 h
theorem Xn (j:Nat):Af (j+1)=Af j++ [(j:Int)+1,-((j:Int)+1)]:=by simp [Af,List.range_succ,List.flatMap_append]
theorem Jl (j:Nat):(Af j).length=2*j:=by
 induction j with
 |zero=>rfl
 |succ j ih=>rw [Xn,List.length_append,ih];simp only [List.length_cons,List.length_nil];omega
theorem Kp {n:Nat} {l:Int} (h:l∈Af n):Es n l:=by
 unfold Af at h
 obtain ⟨k,hk,hl⟩:=List.mem_flatMap.1 h
 have hk:=List.mem_range.1 hk
 simp only [List.mem_cons,List.not_mem_nil,or_false] at hl
 unfold Es
 omega
theorem MT (n:Int) (h:0<=n/\n<=8):fnW Cd (look []) Hs Tryz.f106 (n,()) (λ(z:List Int)=>z=Af n.toNat):=by
 refine Eq.mp (OR n _) ⟨rfl,rfl,?_⟩
 refine Aj n.toNat (λv=>v.1) (λj v=>v.2.1=Af j) rfl rfl ?_
 rintro j ⟨i,ys,⟨⟩⟩ K hj hi h1 hK
 dsimp only at hi h1⊢
 subst hi h1
 refine Br.dec (λhl=>?_) λhl=>?_
 ·refine ⟨rfl,rfl,?_,rfl,rfl,?_⟩
  ·show (Af j).length+2<=4294967296
   rw [Jl];omega
  ·have e1:IntKind.i64.wrap ((j:Int)+1)=(j:Int)+1:=Bo (by omega) (by omega)
   have e2:IntKind.i64.wrap ((0:Int)-((j:Int)+1))= -((j:Int)+1):=by rw [Bo (by omega) (by omega)];omega
   rw [e1,e2]
   exact hK (by omega) _ rfl (Xn j).symm
 ·have:j=n.toNat:=by omega
  subst this
  rw [List.drop_zero,List.take_length]
theorem gV:Sound Tryz.prog 106 Hs:=
 Sound.Cg Bi Ai mixed Tryz.func106 (by kernel_rfl) (by kernel_rfl) λx h=>MT x.1 h
structure Valid (p:PP):Prop where
 n:1<=p.1/\p.1<=20
 se:1<=p.2.2.1.length/\p.2.2.1.length<=8
 perm: ∀m∈p.2.2.1,Fk m=true
 len: ∀m∈p.2.2.1,(m.length:Int)=p.1
theorem valid {p:PP} (h:Bx p=true):Valid p:=by
 have h0:=HO h
 obtain ⟨h1,_,_⟩:=Dx.1 h
 obtain ⟨_,_,h4⟩:=Dx.1 h1
 exact ⟨⟨h0.1,h0.2.1⟩,h0.2.2,λm hm=>(Dx.1 (h4 m hm)).2,λm hm=>(Dx.1 (h4 m hm)).1⟩
theorem fv {p:PP} (h:Valid p) {l:Int} (hl:Es (List.length p.2.2.1) l):((An p.2.2.1 l).length:Int)=p.1/\Hz (An p.2.2.1 l).length (An p.2.2.1 l):=by
 obtain ⟨k,hk,rfl|rfl⟩:=Ng hl
 ·rw [Pd hk]
  exact ⟨h.len _ (List.getElem_mem hk),(bO (h.perm _ (List.getElem_mem hk))).row⟩
 ·rw [Pc hk,jR]
  exact ⟨h.len _ (List.getElem_mem hk),XY (bO (h.perm _ (List.getElem_mem hk)))⟩
theorem yh (s y:List Int) (P:List Int->Prop) (h1:s.length<=20) (h2:Hz y.length s) (h3:P (Ab s y)):
  Bk
   (λ(v5:Int×List Int×PUnit) (k6:Int×List Int×PUnit->Prop)=>
    Br (decide (v5.1<(↑s.length:Int)))
     (∃(y7:Int),
      idx s v5.1=some y7/\
       ∃(y8:Int),
        idx y y7=some y8/\
         (0:Nat)=(0:Nat)/\
          v5.2.1.length=v5.2.1.length/\
           v5.2.1.length+(List.take (1:Nat) (List.drop (0:Nat) [y8])).length<=Be/\
            (0:Nat)=(0:Nat)/\
             (v5.2.1++List.take (1:Nat) (List.drop (0:Nat) [y8])).length=(v5.2.1++List.take (1:Nat) (List.drop (0:Nat) [y8])).length/\
              k6 (IntKind.i64.wrap (v5.1+(1:Int)),v5.2.1++List.take (1:Nat) (List.drop (0:Nat) [y8]),()))
     (P (List.take v5.2.1.length (List.drop (0:Nat) v5.2.1))))
   ((0:Int),([]:List Int),PUnit.unit):=by
 refine Aj s.length (λv=>v.1) (λj v=>v.2.1=(s.take j).map (Iy y)) rfl (by simp) ?_
 rintro j ⟨i,ys,⟨⟩⟩ K hj hi hR hK
 dsimp only at hi hR⊢
 subst hi hR
 refine Br.dec (λhl=>?_) λhl=>?_
 ·have hl:j<s.length:=by omega
  have hy:=h2 _ (List.getElem_mem hl)
  refine ⟨_,Aq hl,_,dN hy.1 hy.2,rfl,rfl,?_,rfl,rfl,?_⟩
  ·show ((s.take j).map (Iy y)).length+1<=4294967296
   rw [List.length_map,List.length_take];omega
  ·rw [Ag (by omega)]
   refine hK hl _ rfl ?_
   dsimp only
   rw [List.take_succ_eq_append_getElem hl,List.map_append]
   rfl
 ·have:j=s.length:=by omega
  subst this
  rw [List.drop_zero,List.take_length,List.take_length]
  exact h3
theorem TM (p:PP) (s:List Int) (l:Int) (h:Bx p=true/\List.length s<=20/\(∀y∈s,0<=y/\y<p.1)/\Es (List.length p.2.2.1) l):fnW Cd (look [(55,Ln)]) Ic Tryz.f118 (p,s,l,()) (λ(z:List Int)=>z=Ab s (An p.2.2.1 l)):=by
 obtain ⟨hv,hs,hr,hl⟩:=h
 have hv:=valid hv
 have hf:=hv.se
 refine Eq.mp (VN p s l _) ?_
 have LN:=fv hv hl
 have Gj:Hz (An p.2.2.1 l).length s:= λy hy=>by have:=hr y hy;omega
 obtain ⟨k,hk,rfl|rfl⟩:=Ng hl
 ·rw [if_pos rfl,Bo (n:=0-((k:Int)+1)) (by omega) (by omega),if_neg (by omega),Bo (by omega) (by omega),show (k:Int)+1-1=(k:Int) by omega]
  refine ⟨_,Aq hk,Br.dec (λhn=>by omega) λ_=>⟨rfl,rfl,?_⟩⟩
  rw [Pd hk] at Gj⊢
  exact yh s _ (λz=>z=Ab s p.2.2.1[k]) hs Gj rfl
 ·rw [if_pos rfl,Bo (n:=0- -((k:Int)+1)) (by omega) (by omega),if_pos (by omega),Bo (by omega) (by omega),show (0:Int)- -((k:Int)+1)-1=(k:Int) by omega]
  refine ⟨_,Aq hk,Br.dec (λ_=>⟨_,if_pos (hv.perm _ (List.getElem_mem hk)),rfl,rfl,?_⟩) λhn=>by omega⟩
  rw [Pc hk] at Gj⊢
  exact yh s (Ah p.2.2.1[k]) (λz=>z=Ab s (Ah p.2.2.1[k])) hs Gj rfl
theorem kC:Sound Tryz.prog 118 Ic:=
 Sound.Cg Bi (Ae kJ Ai) mixed Tryz.func118 (by kernel_rfl) (by kernel_rfl) λx h=>TM x.1 x.2.1 x.2.2.1 h
end Go.Proofs.YtfolipnappekaaaGreat

namespace Go.Proofs.YtfolipnappekaaaGreat
open Go.RowKit
abbrev rL:CK:= .row tI 2
abbrev xLL:CK:= .Dv tL 26
def fz:List (List Int)->Nat
 | []=>0
 |r::rs=>r.length+fz rs
def low (k:Int):Prop:=0<=k/\k<=1099511627776
theorem Bb {α:Type} (xs:List α):List.take xs.length (List.drop 0 xs)=xs:=by rw [List.drop_zero,List.take_length]
end Go.Proofs.YtfolipnappekaaaGreat

namespace Go.Proofs.YtfolipnappekaaaGreat
open Go.RowKit
theorem gD: ∀(xs:List Int) (a:Int),xs.foldl max a=a\/xs.foldl max a∈xs
 | [],a=> .inl rfl
 |y::xs,a=>by
  simp only [List.foldl_cons]
  rcases gD xs (max a y) with h|h
  ·rw [h]
   rcases Int.le_total a y with h1|h1
   ·rw [Int.max_eq_right h1];exact .inr (by simp)
   ·rw [Int.max_eq_left h1];exact .inl rfl
  ·exact .inr (List.mem_cons_of_mem _ h)
theorem lL (a:List Int):At a a=true:=by simp [At]
theorem UN {n:Nat} {room:Int} (h: ¬lM n room<0):lM n room=room-n/\(n:Int)<=room:=by
 unfold lM at*
 split at h
 ·exact absurd (show (-1:Int)<0 by decide) h
 ·rename_i h1;rw [if_neg h1];exact ⟨rfl,by omega⟩
theorem AY: ∀(xs:List (List Int)) (room:Int),0<=room-> ¬rC xs room<0->rC xs room=room-fz xs
 | [],room,_,_=>by simp [rC,fz]
 |r::xs,room,h0,h=>by
  simp only [rC,fz] at h⊢
  split at h
  ·exact absurd (show (-1:Int)<0 by decide) h
  ·rename_i h1
   rw [if_neg h1]
   have e1:=UN (n:=r.length) h1
   have e1:Xp r room=room-r.length/\(r.length:Int)<=room:=e1
   rw [AY xs _ (by rw [e1.1];omega) h,e1.1]
   omega
theorem UL {xs:List (List Int)} {room:Int} (h: ¬Nt xs room<0):Nt xs room=room-xs.length-fz xs:=by
 unfold Nt at*
 split at h
 ·exact absurd (show (-1:Int)<0 by decide) h
 ·rename_i h1
  rw [if_neg h1]
  have e1:=UN h1
  rw [AY xs _ (by rw [e1.1];omega) h,e1.1]
end Go.Proofs.YtfolipnappekaaaGreat

namespace Go.Proofs.YtfolipnappekaaaGreat
open Go.RowKit
noncomputable abbrev qM:MSpec:=jf [none] [(false, .Dn (.oslice tI))] false [none] [rL] (λx=>short (x.1.getD [])) (λx=>((x.1.getD [],()),()))
noncomputable abbrev Xu:MSpec:=jf [none] [(false, .Dn tL)] false [none] [rL] (λx=>short x.1) (λx=>((x.1,()),()))
noncomputable abbrev Fm:Spec:=Cg (.pair tL .unit) tL false true (λx=>short x.1) (λx=>x.1)
theorem VO (xs:Option (List Int)) (P:((List Int×Unit)×Unit)->Prop):(Br xs.isNone (P ((List.take 0 (List.drop 0 []),()),())) (0=0/\0=([]:List Int).length/\0+(xs.getD []).length<=Be/\P ((List.take ([]++xs.getD []).length (List.drop 0 ([]++xs.getD [])),()),())))=fnMW j9 (look []) qM Tryz.f138 (xs,()) P:=by kernel_rfl
theorem HS (xs:List Int) (P:List Int->Prop):(0=0/\0=([]:List Int).length/\0+xs.length<=Be/\P (List.take ([]++xs).length (List.drop 0 ([]++xs))))=fnW Cd (look []) Fm Tryz.f116 (xs,()) P:=by kernel_rfl
theorem TN (xs:Option (List Int)) (h:short (xs.getD [])):fnMW j9 (look []) qM Tryz.f138 (xs,()) (λ(z:(List Int×Unit)×Unit)=>z=((xs.getD [],()),())):=by
 unfold short at h
 refine Eq.mp (VO xs _) ⟨λhn=>?_,λ_=>⟨rfl,rfl,by show 0+(xs.getD []).length<=4294967296;omega,?_⟩⟩
 ·cases xs with
  |none=>rfl
  |some y=>cases hn
 ·simp only [Bb,List.nil_append]
theorem xe:Ay Tryz.prog 138 qM:=
 Ay.jf eK Ai mixed Tryz.func138 (by kernel_rfl) (by kernel_rfl) λx h=>TN x.1 h
theorem kE:Ay Tryz.prog 138 Xu:=Ay.ofO xe λ_ _ h=>⟨h,rfl⟩
theorem FJ (xs:List Int) (h:short xs):fnW Cd (look []) Fm Tryz.f116 (xs,()) (λ(z:List Int)=>z=xs):=by
 unfold short at h
 refine Eq.mp (HS xs _) ⟨rfl,rfl,by show 0+xs.length<=4294967296;omega,?_⟩
 simp only [Bb,List.nil_append]
theorem Rf:Sound Tryz.prog 116 Fm:=
 Sound.Cg Bi Ai mixed Tryz.func116 (by kernel_rfl) (by kernel_rfl) λx h=>FJ x.1 h
end Go.Proofs.YtfolipnappekaaaGreat

namespace Go.Proofs.YtfolipnappekaaaGreat
open Go.RowKit
def Cb (xs is:List Int):List Int:=is.map (Iy xs)
noncomputable abbrev Wo:MSpec:=jf [none,none] [(false, .Dn tL),(false, .Dn tL)] false [none] [rL] (λx=>short x.2.1/\Hz (List.length x.1) x.2.1) (λx=>((Cb x.1 x.2.1,()),()))
noncomputable abbrev Wq:Spec:=Cg (.pair tL (.pair tL .unit)) tL false true (λx=>short x.1/\Hz (List.length x.2.1) x.1) (λx=>Cb x.2.1 x.1)
def Rw (xs:List Int):ByteArray:=bytesOf (xs.map λx=>IntKind.u8.wrap x)
noncomputable abbrev Ge:Spec:=Cg (.pair tL .unit) .str false true (λx=>short x.1) (λx=>Rw x.1)
def ki (ps:List (List Int)) (p:List Int):Int:=Dz (λq=>decide (q=p)) ps 0
theorem OT (xs is:List Int) (P:((List Int×Unit)×Unit)->Prop):(((0:Int)<=(↑is.length:Int)/\(↑is.length:Int)<(↑Be:Int)+(1:Int))/\(↑is.length:Int)=(↑is.length:Int)/\0=0/\(List.replicate (↑is.length:Int).toNat (Int.ofNat (nat_lit 0))).length=(List.replicate (↑is.length:Int).toNat (Int.ofNat (nat_lit 0))).length/\Bk (λ(v3:Int×List Int×PUnit) (k4:Int×List Int×PUnit->Prop)=>Br (decide (v3.1<(↑is.length:Int))) (∃(y5:Int),idx is v3.1=some y5/\ ∃(y6:Int),idx xs y5=some y6/\((0:Int)<=v3.1/\v3.1<(↑v3.2.1.length:Int))/\0+v3.1.toNat<v3.2.1.length/\0=0/\v3.2.1.length=(v3.2.1.set (0+v3.1.toNat) y6).length/\k4 (IntKind.i64.wrap (v3.1+(1:Int)),v3.2.1.set (0+v3.1.toNat) y6,())) (P ((List.take v3.2.1.length (List.drop 0 v3.2.1),()),()))) ((0:Int),List.replicate (↑is.length:Int).toNat (Int.ofNat (nat_lit 0)),PUnit.unit))=fnMW j9 (look []) Wo Tryz.f80 (xs,is,()) P:=by kernel_rfl
theorem OV (is xs:List Int) (P:List Int->Prop):(0=0/\0=([]:List Int).length/\Bk (λ(v3:Int×List Int×PUnit) (k4:Int×List Int×PUnit->Prop)=>Br (decide (v3.1<(↑is.length:Int))) (∃(y5:Int),idx is v3.1=some y5/\ ∃(y6:Int),idx xs y5=some y6/\0=0/\v3.2.1.length=v3.2.1.length/\v3.2.1.length+(List.take 1 (List.drop 0 [y6])).length<=Be/\0=0/\(v3.2.1++List.take 1 (List.drop 0 [y6])).length=(v3.2.1++List.take 1 (List.drop 0 [y6])).length/\k4 (IntKind.i64.wrap (v3.1+(1:Int)),v3.2.1++List.take 1 (List.drop 0 [y6]),())) (P (List.take v3.2.1.length (List.drop 0 v3.2.1)))) ((0:Int),[],PUnit.unit))=fnW Cd (look []) Wq Tryz.f78 (is,xs,()) P:=by kernel_rfl
theorem IC (xs:List Int) (P:ByteArray->Prop):(((0:Int)<=(↑xs.length:Int)/\(↑xs.length:Int)<(↑Be:Int)+(1:Int))/\(↑xs.length:Int)=(↑xs.length:Int)/\0=0/\(List.replicate (↑xs.length:Int).toNat (Int.ofNat (nat_lit 0))).length=(List.replicate (↑xs.length:Int).toNat (Int.ofNat (nat_lit 0))).length/\Bk (λ(v2:Int×List Int×PUnit) (k3:Int×List Int×PUnit->Prop)=>Br (decide (v2.1<(↑xs.length:Int))) (∃(y4:Int),idx xs v2.1=some y4/\((0:Int)<=v2.1/\v2.1<(↑v2.2.1.length:Int))/\0+v2.1.toNat<v2.2.1.length/\0=0/\v2.2.1.length=(v2.2.1.set (0+v2.1.toNat) (IntKind.u8.wrap y4)).length/\k3 (IntKind.i64.wrap (v2.1+(1:Int)),v2.2.1.set (0+v2.1.toNat) (IntKind.u8.wrap y4),())) (P (bytesOf (List.take v2.2.1.length (List.drop 0 v2.2.1))))) ((0:Int),List.replicate (↑xs.length:Int).toNat (Int.ofNat (nat_lit 0)),PUnit.unit))=fnW Cd (look []) Ge Tryz.f79 (xs,()) P:=by kernel_rfl
theorem qy (xs is:List Int):(Cb xs is).length=is.length:=by simp [Cb]
theorem YD {α:Type} (y:α):List.take 1 (List.drop 0 [y])= [y]:=rfl
theorem MV (xs is:List Int) (h:short is/\Hz xs.length is):fnMW j9 (look []) Wo Tryz.f80 (xs,is,()) (λ(z:(List Int×Unit)×Unit)=>z=((Cb xs is,()),())):=by
 obtain ⟨h,hr⟩:=h
 unfold short at h
 refine Eq.mp (OT xs is _) ?_
 refine ⟨⟨by omega,by show (is.length:Int)<(4294967296:Int)+1;omega⟩,rfl,rfl,rfl,?_⟩
 have Kw:=qy xs is
 refine Aj is.length (λv=>v.1) (λj v=>v.2.1.length=(Cb xs is).length/\v.2.1.take j=(Cb xs is).take j) rfl ⟨by rw [Kw];simp,by simp⟩ ?_
 rintro j ⟨i,ys,⟨⟩⟩ K hj hi ⟨h1,h2⟩ hK
 dsimp only at hi h1 h2⊢
 subst hi
 refine Br.dec (λhl=>?_) λhl=>?_
 ·have hl:j<is.length:=by omega
  have hy:=hr _ (List.getElem_mem hl)
  refine ⟨_,Aq hl,_,dN hy.1 hy.2,⟨by omega,by omega⟩,by rw [Int.toNat_natCast];omega,rfl,by rw [List.length_set],?_⟩
  rw [Ag (by omega),Int.toNat_natCast,Nat.zero_add]
  have Gt:j<(Cb xs is).length:=by rw [Kw];exact hl
  have e:Iy xs is[j]=(Cb xs is)[j]:=by simp [Cb]
  rw [e]
  exact hK hl _ rfl ⟨by rw [List.length_set];exact h1,Lp Gt h1 h2⟩
 ·have:j=is.length:=by omega
  subst this
  rw [<-Kw,List.take_length,<-h1,List.take_length] at h2
  rw [List.drop_zero,List.take_length,h2]
theorem sW:Ay Tryz.prog 80 Wo:=
 Ay.jf eK Ai mixed Tryz.func80 (by kernel_rfl) (by kernel_rfl) λx h=>MV x.1 x.2.1 h
theorem MX (is xs:List Int) (h:short is/\Hz xs.length is):fnW Cd (look []) Wq Tryz.f78 (is,xs,()) (λ(z:List Int)=>z=Cb xs is):=by
 obtain ⟨h,hr⟩:=h
 unfold short at h
 refine Eq.mp (OV is xs _) ⟨rfl,rfl,?_⟩
 have Kw:=qy xs is
 refine Aj is.length (λv=>v.1) (λj v=>v.2.1=(Cb xs is).take j) rfl rfl ?_
 rintro j ⟨i,ys,⟨⟩⟩ K hj hi h1 hK
 dsimp only at hi h1⊢
 subst hi
 refine Br.dec (λhl=>?_) λhl=>?_
 ·have hl:j<is.length:=by omega
  have hy:=hr _ (List.getElem_mem hl)
  have Gt:j<(Cb xs is).length:=by rw [Kw];exact hl
  refine ⟨_,Aq hl,_,dN hy.1 hy.2,rfl,rfl,?_,rfl,rfl,?_⟩
  ·show ys.length+1<=4294967296
   rw [h1,List.length_take];omega
  ·rw [Ag (by omega),YD]
   refine hK hl _ rfl ?_
   dsimp only
   rw [h1,List.take_succ_eq_append_getElem Gt]
   simp [Cb]
 ·have:j=is.length:=by omega
  subst this
  rw [Bb,h1,<-Kw,List.take_length]
theorem sY:Sound Tryz.prog 78 Wq:=
 Sound.Cg Bi Ai mixed Tryz.func78 (by kernel_rfl) (by kernel_rfl) λx h=>MX x.1 x.2.1 h
theorem FU (xs:List Int) (h:short xs):fnW Cd (look []) Ge Tryz.f79 (xs,()) (λ(z:ByteArray)=>z=Rw xs):=by
 unfold short at h
 refine Eq.mp (IC xs _) ?_
 refine ⟨⟨by omega,by show (xs.length:Int)<(4294967296:Int)+1;omega⟩,rfl,rfl,rfl,?_⟩
 have Kw:(xs.map λx=>IntKind.u8.wrap x).length=xs.length:=by simp
 refine Aj xs.length (λv=>v.1) (λj v=>v.2.1.length=(xs.map λx=>IntKind.u8.wrap x).length/\v.2.1.take j=(xs.map λx=>IntKind.u8.wrap x).take j) rfl ⟨by rw [Kw];simp,by simp⟩ ?_
 rintro j ⟨i,ys,⟨⟩⟩ K hj hi ⟨h1,h2⟩ hK
 dsimp only at hi h1 h2⊢
 subst hi
 refine Br.dec (λhl=>?_) λhl=>?_
 ·have hl:j<xs.length:=by omega
  refine ⟨_,Aq hl,⟨by omega,by omega⟩,by rw [Int.toNat_natCast];omega,rfl,by rw [List.length_set],?_⟩
  rw [Ag (by omega),Int.toNat_natCast,Nat.zero_add]
  have Gt:j<(xs.map λx=>IntKind.u8.wrap x).length:=by rw [Kw];exact hl
  have e:IntKind.u8.wrap xs[j]=(xs.map λx=>IntKind.u8.wrap x)[j]:=by simp
  rw [e]
  exact hK hl _ rfl ⟨by rw [List.length_set];exact h1,Lp Gt h1 h2⟩
 ·have:j=xs.length:=by omega
  subst this
  rw [<-Kw,List.take_length,<-h1,List.take_length] at h2
  rw [List.drop_zero,List.take_length,h2];rfl
theorem Xz:Sound Tryz.prog 79 Ge:=
 Sound.Cg Bi Ai mixed Tryz.func79 (by kernel_rfl) (by kernel_rfl) λx h=>FU x.1 h
theorem cD {α:Type} (P:α->Bool) (y:α): ∀(l:List α) (i:Int),0<=i->Dz P (l++ [y]) i=if Dz P l i<0 then (if P y=true then i+l.length else-1) else Dz P l i
 | [],i,_=>by simp [Dz]
 |x::r,i,h=>by
  simp only [List.cons_append,Dz,List.length_cons]
  split
  ·rw [if_neg (by omega)]
  ·rw [cD P y r (i+1) (by omega),show i+1+(r.length:Int)=i+((r.length+1:Nat):Int) by push_cast;omega]
theorem wS (ps:List (List Int)) (q p:List Int):ki (ps++ [q]) p=if ki ps p<0 then (if q=p then (ps.length:Int) else-1) else ki ps p:=by
 unfold ki
 rw [cD _ _ _ _ (Int.le_refl 0)]
 simp only [decide_eq_true_eq,Int.zero_add]
def cq (p:List Int):Prop:= ∀x∈p,0<=x/\x<256
theorem QI {x y:Int} (hx:0<=x/\x<256) (hy:0<=y/\y<256) (h:UInt8.ofNat (IntKind.u8.wrap x).toNat=UInt8.ofNat (IntKind.u8.wrap y).toNat):x=y:=by
 have h:=congrArg UInt8.toNat h
 simp only [IntKind.wrap_u8,UInt8.toNat_ofNat'] at h
 omega
theorem bytes_inj: ∀(p q:List Int),cq p->cq q->(p.map λx=>UInt8.ofNat (IntKind.u8.wrap x).toNat)=(q.map λx=>UInt8.ofNat (IntKind.u8.wrap x).toNat)->p=q
 | [],[],_,_,_=>rfl
 | [],_::_,_,_,h=>by simp at h
 |_::_,[],_,_,h=>by simp at h
 |x::p,y::q,hp,hq,h=>by
  simp only [List.map_cons,List.cons.injEq] at h
  rw [QI (hp x (by simp)) (hq y (by simp)) h.1,bytes_inj p q (λz hz=>hp z (by simp [hz])) (λz hz=>hq z (by simp [hz])) h.2]
theorem key_inj {p q:List Int} (hp:cq p) (hq:cq q) (h:Rw p=Rw q):p=q:=by
 refine bytes_inj p q hp hq ?_
 simp only [Rw,bytesOf,ByteArray.mk.injEq,List.map_map] at h
 have h:=congrArg Array.toList h
 simpa [Function.comp_def] using h
def KM (m:ByteArray->Option Int) (ps:List (List Int)):Prop:= ∀p,cq p->m (Rw p)=if ki ps p<0 then none else some (ki ps p)
theorem KM.nil:KM (λ_=>none) []:= λp _=>by
 rw [if_pos (by unfold ki;simp [Dz])]
theorem KM.add {m:ByteArray->Option Int} {ps:List (List Int)} {q:List Int} (h:KM m ps) (hq:cq q) (hn:ki ps q<0):KM (eN m (Rw q) (ps.length:Int)) (ps++ [q]):=by
 intro p hp
 rw [wS]
 unfold eN
 by_cases e:p=q
 ·subst e
  rw [if_pos rfl,if_pos hn,if_pos rfl,if_neg (by omega)]
 ·rw [if_neg (λhk=>e (key_inj hp hq hk)),h p hp]
  have e': ¬q=p:= λh=>e h.symm
  rw [if_neg e']
  by_cases LS:ki ps p<0
  ·rw [if_pos LS,if_pos LS,if_pos (by decide)]
  ·rw [if_neg LS,if_neg LS,if_neg LS]
end Go.Proofs.YtfolipnappekaaaGreat

namespace Go.Proofs.YtfolipnappekaaaGreat
open Go.RowKit
def fw (n:Nat) (last:Int):List Int:=(Af n).filter λl=>!(l== -last)
noncomputable abbrev Jd:Spec:=Cg (.pair Cp .unit) tL false true (λx=>List.length x.1.2.2.1<=8) (λx=>Af (List.length x.1.2.2.1))
noncomputable abbrev Zd:Spec:=Cg (.pair Cp (.pair tI .unit)) tL false true (λx=>List.length x.1.2.2.1<=8/\ -8<=x.2.1/\x.2.1<=8) (λx=>fw (List.length x.1.2.2.1) x.2.1)
abbrev kP:Type:=Int×Int×ByteArray×List (List Int)×List Int×PUnit
theorem BT (p:Int×ByteArray×List (List Int)×Unit) (P:List Int->Prop):(0=0/\0=([]:List Int).length/\Bk (λ(v2:kP) (k3:kP->Prop)=>Br (decide (v2.1<=(↑v2.2.2.2.1.length:Int))) (0=0/\v2.2.2.2.2.1.length=v2.2.2.2.2.1.length/\v2.2.2.2.2.1.length+(List.take 2 (List.drop 0 [v2.1,IntKind.i64.wrap ((0:Int)-v2.1)])).length<=Be/\0=0/\(v2.2.2.2.2.1++List.take 2 (List.drop 0 [v2.1,IntKind.i64.wrap ((0:Int)-v2.1)])).length=(v2.2.2.2.2.1++List.take 2 (List.drop 0 [v2.1,IntKind.i64.wrap ((0:Int)-v2.1)])).length/\k3 (IntKind.i64.wrap (v2.1+(1:Int)),v2.2.1,v2.2.2.1,v2.2.2.2.1,v2.2.2.2.2.1++List.take 2 (List.drop 0 [v2.1,IntKind.i64.wrap ((0:Int)-v2.1)]),())) (P (List.take v2.2.2.2.2.1.length (List.drop 0 v2.2.2.2.2.1)))) ((1:Int),p.1,p.2.1,p.2.2.1,[],PUnit.unit))=fnW Cd (look []) Jd Tryz.f141 (p,()) P:=by kernel_rfl
theorem ZB (p:Int×ByteArray×List (List Int)×Unit) (l:Int) (P:List Int->Prop):(∃(y3:List Int),Jd.fn ((p.1,p.2.1,p.2.2.1,()),())=some y3/\0=0/\0=([]:List Int).length/\Bk (λ(v4:Int×List Int×PUnit) (k5:Int×List Int×PUnit->Prop)=>Br (decide (v4.1<(↑y3.length:Int))) (Br (l==(0:Int)) (∃(y6:Int),idx y3 v4.1=some y6/\0=0/\v4.2.1.length=v4.2.1.length/\v4.2.1.length+(List.take 1 (List.drop 0 [y6])).length<=Be/\0=0/\(v4.2.1++List.take 1 (List.drop 0 [y6])).length=(v4.2.1++List.take 1 (List.drop 0 [y6])).length/\k5 (IntKind.i64.wrap (v4.1+(1:Int)),v4.2.1++List.take 1 (List.drop 0 [y6]),())) (∃(y6:Int),idx y3 v4.1=some y6/\Br (y6 !=IntKind.i64.wrap ((0:Int)-l)) (∃(y7:Int),idx y3 v4.1=some y7/\0=0/\v4.2.1.length=v4.2.1.length/\v4.2.1.length+(List.take 1 (List.drop 0 [y7])).length<=Be/\0=0/\(v4.2.1++List.take 1 (List.drop 0 [y7])).length=(v4.2.1++List.take 1 (List.drop 0 [y7])).length/\k5 (IntKind.i64.wrap (v4.1+(1:Int)),v4.2.1++List.take 1 (List.drop 0 [y7]),())) (0=0/\v4.2.1.length=v4.2.1.length/\k5 (IntKind.i64.wrap (v4.1+(1:Int)),v4.2.1,())))) (P (List.take v4.2.1.length (List.drop 0 v4.2.1)))) ((0:Int),[],PUnit.unit))=fnW Cd (look [(141,Jd)]) Zd Tryz.f117 (p,l,()) P:=by kernel_rfl
theorem zT (p:PP) (h:List.length p.2.2.1<=8):fnW Cd (look []) Jd Tryz.f141 (p,()) (λ(z:List Int)=>z=Af (List.length p.2.2.1)):=by
 refine Eq.mp (BT p _) ⟨rfl,rfl,?_⟩
 refine Bk.mk (λv=> ∃j:Nat,j<=List.length p.2.2.1/\v=((j:Int)+1,p.1,p.2.1,p.2.2.1,Af j,())) (λv=>List.length p.2.2.1+1-v.1.toNat) ⟨0,Nat.zero_le _,rfl⟩ ?_
 rintro _ ⟨j,hj,rfl⟩
 dsimp only
 refine Br.dec (λhl=>?_) λhl=>?_
 ·refine ⟨rfl,rfl,?_,rfl,rfl,⟨j+1,by omega,?_⟩,?_⟩
  ·show (Af j).length+2<=4294967296
   rw [Jl];omega
  ·rw [Xn,Bo (n:=(j:Int)+1+1) (by omega) (by omega),Bo (n:=0-((j:Int)+1)) (by omega) (by omega),Int.zero_sub]
   rfl
  ·rw [Bo (by omega) (by omega)];omega
 ·have:j=List.length p.2.2.1:=by omega
  subst this
  rw [Bb]
theorem cK:Sound Tryz.prog 141 Jd:=
 Sound.Cg Bi Ai mixed Tryz.func141 (by kernel_rfl) (by kernel_rfl) λx h=>zT x.1 h
theorem YG (p:PP) (l:Int) (h:List.length p.2.2.1<=8/\ -8<=l/\l<=8):fnW Cd (look [(141,Jd)]) Zd Tryz.f117 (p,l,()) (λ(z:List Int)=>z=fw (List.length p.2.2.1) l):=by
 refine Eq.mp (ZB p l _) ⟨_,if_pos h.1,rfl,rfl,?_⟩
 dsimp only
 unfold fw
 have h0: ∀y∈Af (List.length p.2.2.1),y≠0:= λy hy=>(Kp hy).1
 have hlen:(Af (List.length p.2.2.1)).length<=16:=by rw [Jl];omega
 refine Aj (Af (List.length p.2.2.1)).length (λv=>v.1) (λj v=>v.2.1=((Af (List.length p.2.2.1)).take j).filter λy=>!(y== -l)) rfl (by simp) ?_
 rintro j ⟨i,ys,⟨⟩⟩ K hj hi h1 hK
 dsimp only at hi h1⊢
 subst hi h1
 have PF:=List.length_filter_le (λy=>!(y== -l)) ((Af (List.length p.2.2.1)).take j)
 rw [List.length_take] at PF
 refine Br.dec (λhl=>?_) λhl=>?_
 ·have hl:j<(Af (List.length p.2.2.1)).length:=by omega
  have gK: ∀b:Bool,((Af (List.length p.2.2.1))[j]== -l)=b->((Af (List.length p.2.2.1)).take (j+1)).filter (λy=>!(y== -l))=((Af (List.length p.2.2.1)).take j).filter (λy=>!(y== -l))++(if b then [] else [(Af (List.length p.2.2.1))[j]]):= λb hb=>by
   rw [List.take_succ_eq_append_getElem hl,List.filter_append]
   cases b<;>simp [hb]
  rw [Ag (by omega)]
  have grow:((Af (List.length p.2.2.1))[j]== -l)=false->((0:Nat)=0/\(((Af (List.length p.2.2.1)).take j).filter λy=>!(y== -l)).length=(((Af (List.length p.2.2.1)).take j).filter λy=>!(y== -l)).length/\(((Af (List.length p.2.2.1)).take j).filter λy=>!(y== -l)).length+(List.take 1 (List.drop 0 [(Af (List.length p.2.2.1))[j]])).length<=Be/\(0:Nat)=0/\
    ((((Af (List.length p.2.2.1)).take j).filter λy=>!(y== -l))++List.take 1 (List.drop 0 [(Af (List.length p.2.2.1))[j]])).length=((((Af (List.length p.2.2.1)).take j).filter λy=>!(y== -l))++List.take 1 (List.drop 0 [(Af (List.length p.2.2.1))[j]])).length/\K (((j+1:Nat):Int),(((Af (List.length p.2.2.1)).take j).filter λy=>!(y== -l))++List.take 1 (List.drop 0 [(Af (List.length p.2.2.1))[j]]),())):= λhb=>by
   refine ⟨rfl,rfl,?_,rfl,rfl,?_⟩
   ·show _+1<=4294967296
    omega
   ·exact hK hl _ rfl (by have:=gK false hb;simpa using this.symm)
  refine ⟨λhz=>⟨_,Aq hl,grow ?_⟩,λhz=>⟨_,Aq hl,⟨λEk=>⟨_,Aq hl,grow ?_⟩,λEk=>⟨rfl,rfl,?_⟩⟩⟩⟩
  ·simp only [beq_iff_eq] at hz
   have:=h0 _ (List.getElem_mem hl)
   simp only [beq_eq_false_iff_ne]
   omega
  ·rw [Bo (by omega) (by omega)] at Ek
   simp only [bne_iff_ne,ne_eq] at Ek
   simp only [beq_eq_false_iff_ne]
   omega
  ·rw [Bo (by omega) (by omega)] at Ek
   simp only [bne_eq_false_iff_eq] at Ek
   exact hK hl _ rfl (by have:=gK true (by simp only [beq_iff_eq];omega);simpa using this.symm)
 ·have:j=(Af (List.length p.2.2.1)).length:=by omega
  subst this
  rw [Bb,List.take_length]
theorem AN:Sound Tryz.prog 117 Zd:=
 Sound.Cg Bi (Ae cK Ai) mixed Tryz.func117 (by kernel_rfl) (by kernel_rfl) λx h=>YG x.1 x.2.1 h
theorem SH {a:Int} {P:Prop} (h:(a !=a)=true):P:=by simp at h
theorem UM {p:PP} {room:Int} (hr:roomy room) (h: ¬qb p room<0):(fz p.2.2.1:Int)<=room-qb p room/\roomy (qb p room):=by
 unfold qb at h⊢
 split at h
 ·exact absurd (show (-1:Int)<0 by decide) h
 ·rename_i h1
  rw [if_neg h1]
  split at h
  ·exact absurd (show (-1:Int)<0 by decide) h
  ·rename_i h2
   rw [if_neg h2]
   have e2:=UL h2
   obtain ⟨r1,r2⟩:=hr
   unfold roomy
   omega
end Go.Proofs.YtfolipnappekaaaGreat

namespace Go.Proofs.YtfolipnappekaaaGreat
open Go.RowKit
def wy (v:Int):List Int->Nat
 | []=>0
 |x::r=>if x>v then wy v r+1 else 0
def XZ (v:Int) (t:List Int):Option (List Int):=if wy v t=0 then none else some (Iy t ((wy v t-1:Nat):Int)::(t.set (wy v t-1) v).reverse)
def dS:List Int->Option (List Int)
 | []=>none
 |v::t=>match dS t with
  |some t'=>some (v::t')
  |none=>XZ v t
noncomputable abbrev Eg:MSpec:=jf [none] [(false, .Dn tL)] false [none] [rL] (λx=>short x.1) (λx=>((x.1,()),()))
theorem BL (xs:List Int) (P:((List Int×Unit)×Unit)->Prop):(0=0/\0=([]:List Int).length/\0+xs.length<=Be/\P ((List.take ([]++xs).length (List.drop 0 ([]++xs)),()),()))=fnMW j9 (look []) Eg Tryz.f116 (xs,()) P:=by kernel_rfl
theorem zD {s s':List Int} (h:dS s=some s'): ∀pre:List Int,dS (pre++s)=some (pre++s')
 | []=>h
 |v::p=>by rw [List.cons_append,dS,zD h p];rfl
theorem YP {α:Type} (pre:List α) (v a:α) (t:List α):(pre++v::t).set pre.length a=pre++a::t:=by
 rw [List.set_append,if_neg (by omega)];simp
theorem zL (xs:List Int) (h:short xs):fnMW j9 (look []) Eg Tryz.f116 (xs,()) (λ(z:(List Int×Unit)×Unit)=>z=((xs,()),())):=by
 unfold short at h
 refine Eq.mp (BL xs _) ⟨rfl,rfl,by show 0+xs.length<=4294967296;omega,?_⟩
 simp only [Bb,List.nil_append]
theorem o0:Ay Tryz.prog 116 Eg:=
 Ay.jf eK Ai mixed Tryz.func116 (by kernel_rfl) (by kernel_rfl) λx h=>zL x.1 h
inductive II:List Int->List (List Int)->List Int->Prop where
 |one (a:List Int):II a [a] a
 |more {a c b:List Int} {L:List (List Int)} :dS a=some c->II c L b->II a (a::L) b
theorem II.cons {a b:List Int} {L:List (List Int)} (h:II a L b) (v:Int):II (v::a) (L.map (v:: ·)) (v::b):=by
 induction h with
 |one a=>exact .one _
 |more h3 _ ih=>exact .more (zD h3 [v]) ih
theorem II.head {a b:List Int} {L:List (List Int)} (h:II a L b): ∃M,L=a::M:=by
 cases h with
 |one=>exact ⟨_,rfl⟩
 |more _ _=>exact ⟨_,rfl⟩
theorem II.at {a b:List Int} {L:List (List Int)} (h:II a L b): ∀j (hj:j<L.length),(∀h2:j+1<L.length,dS L[j]=some L[j+1])/\(j+1=L.length->L[j]=b):=by
 induction h with
 |one a=>
  intro j hj
  simp only [List.length_singleton] at hj
  have:j=0:=by omega
  subst this
  exact ⟨λh2=>by simp at h2,λ_=>rfl⟩
 |more h3 h4 ih=>
  intro j hj
  rcases j with _|j
  ·obtain ⟨M,hM⟩:=h4.head
   refine ⟨λh2=>?_,λh2=>?_⟩
   ·simp only [List.getElem_cons_zero,List.getElem_cons_succ]
    subst hM
    exact h3
   ·subst hM;simp at h2
  ·have:=ih j (by simpa using hj)
   refine ⟨λh2=>?_,λh2=>?_⟩
   ·simp only [List.getElem_cons_succ]
    exact this.1 (by simpa using h2)
   ·simp only [List.getElem_cons_succ]
    exact this.2 (by simpa using h2)
theorem II.distinct {a b:List Int} {L:List (List Int)} (h:II a L b) (hb:dS b=none): ∀k i j (hi:i<L.length) (hj:j<L.length),L.length-j=k->i<j->L[i]≠L[j]:=by
 intro k
 induction k with
 |zero=>intro i j hi hj hk;omega
 |succ k ih=>
  intro i j hi hj hk dI he
  by_cases e:j+1<L.length
  ·have h1:=(h.at i hi).1 (by omega)
   have h2:=(h.at j hj).1 e
   rw [he,h2] at h1
   exact ih (i+1) (j+1) (by omega) e (by omega) (by omega) (Option.some.inj h1).symm
  ·have h1:=(h.at i hi).1 (by omega)
   have h2:=(h.at j hj).2 (by omega)
   rw [he,h2,hb] at h1
   cases h1
theorem II.idx {a b:List Int} {L:List (List Int)} (h:II a L b) (hb:dS b=none) {j:Nat} (hj:j<L.length):L.idxOf L[j]=j:=by
 have h1:L.idxOf L[j]<L.length:=List.idxOf_lt_length_of_mem (List.getElem_mem _)
 have h2:L[L.idxOf L[j]]=L[j]:=List.getElem_idxOf h1
 rcases Nat.lt_trichotomy (L.idxOf L[j]) j with h3|h3|h3
 ·exact absurd h2 (h.distinct hb _ _ _ h1 hj rfl h3)
 ·exact h3
 ·exact absurd h2.symm (h.distinct hb _ _ _ hj h1 rfl h3)
end Go.Proofs.YtfolipnappekaaaGreat

namespace Go.Proofs.YtfolipnappekaaaGreat
open Go.RowKit
def Cl:List Int->List Int->Int
 | [],[]=>0
 | [],_::_=> -1
 |_::_,[]=>1
 |x::a,y::b=>if x<y then-1 else if x>y then 1 else Cl a b
def bH (a b:List Int):Bool:=decide (Cl a b<0)
noncomputable abbrev Te:Spec:=Cg (.pair tL (.pair tL .unit)) .bool false true (λx=>short x.1/\List.length x.1=List.length x.2.1) (λx=>bH x.1 x.2.1)
theorem HZ (a b:List Int) (P:Bool->Prop):(Bk (λ(v3:Int×PUnit) (k4:Int×PUnit->Prop)=>Br (decide (v3.1<(↑a.length:Int))) (∃(y5:Int),idx a v3.1=some y5/\ ∃(y6:Int),idx b v3.1=some y6/\Br (y5 !=y6) (∃(y7:Int),idx a v3.1=some y7/\ ∃(y8:Int),idx b v3.1=some y8/\P (decide (y7<y8))) (k4 (IntKind.i64.wrap (v3.1+(1:Int)),()))) (P false)) ((0:Int),PUnit.unit))=fnW Cd (look []) Te Tryz.f158 (a,b,()) P:=by kernel_rfl
theorem Sound.ofO {P:Program} {f:FuncId} {e:Ty} {r res:Ty} {Cs fresh:Bool} {pre:(Ty.pair (.oslice e) r).den->Prop} {val:(Ty.pair (.oslice e) r).den->res.den} {dZ:(Ty.pair (.slice e) r).den->Prop} {rI:(Ty.pair (.slice e) r).den->res.den}
  (h:Sound P f (Go.Proofs.YtfolipnappekaaaGreat.Cg (.pair (.oslice e) r) res Cs fresh pre val))
  (hp: ∀(o:Option (List e.den)) (y:r.den),dZ (o.getD [],y)->pre (o,y)/\val (o,y)=rI (o.getD [],y)):Sound P f (Go.Proofs.YtfolipnappekaaaGreat.Cg (.pair (.slice e) r) res Cs fresh dZ rI):=by
 refine ⟨h.enter,λw S vs x y hS h2 h5=>?_⟩
 obtain ⟨xs,rest⟩:=x
 cases vs with
 |nil=>exact h2.elim
 |cons u us=>
  obtain ⟨h7,h8⟩:=h2
  obtain ⟨ox,h9,rfl⟩:=h7.told
  have Zw:dZ (ox.getD [],rest):=Classical.byContradiction λhn=>by
   have:(Go.Proofs.YtfolipnappekaaaGreat.Cg (.pair (.slice e) r) res Cs fresh dZ rI).fn (ox.getD [],rest)=none:=if_neg hn
   rw [this] at h5;cases h5
  obtain ⟨k1,k2⟩:=hp ox rest Zw
  have hv:(Go.Proofs.YtfolipnappekaaaGreat.Cg (.pair (.slice e) r) res Cs fresh dZ rI).fn (ox.getD [],rest)=some (rI (ox.getD [],rest)):=if_pos Zw
  rw [hv] at h5
  have h5:=Option.some.inj h5
  exact h.calls w S (u::us) (ox,rest) y hS ⟨h9,h8⟩ ((if_pos k1).trans (by rw [k2];exact congrArg some h5))
theorem FQ (a b:List Int) (h:short a/\a.length=b.length):fnW Cd (look []) Te Tryz.f158 (a,b,()) (λ(z:Bool)=>z=bH a b):=by
 obtain ⟨ha,hb⟩:=h
 unfold short at ha
 refine Eq.mp (HZ a b _) ?_
 refine Aj a.length (λv=>v.1) (λj _=>Cl (a.drop j) (b.drop j)=Cl a b) rfl (by simp) ?_
 rintro j ⟨i,⟨⟩⟩ K hj hi hR2 hK
 dsimp only at hi⊢
 subst hi
 refine Br.dec (λhl=>?_) λhl=>?_
 ·have hl:j<a.length:=by omega
  have XL:j<b.length:=by omega
  rw [List.drop_eq_getElem_cons hl,List.drop_eq_getElem_cons XL] at hR2
  simp only [Cl] at hR2
  refine ⟨_,Aq hl,_,Aq XL,⟨λEk=>?_,λEk=>?_⟩⟩
  ·refine ⟨_,Aq hl,_,Aq XL,?_⟩
   have Ek:a[j]≠b[j]:=by simpa using Ek
   unfold bH
   rw [<-hR2]
   by_cases h1:a[j]<b[j]
   ·rw [if_pos h1];simp [h1]
   ·rw [if_neg h1,if_pos (by omega)];simp [h1]
  ·have Ek:a[j]=b[j]:=by simpa using Ek
   rw [if_neg (by omega),if_neg (by omega)] at hR2
   rw [Ag (by omega)]
   exact hK hl _ rfl hR2
 ·have:j=a.length:=by omega
  subst this
  rw [List.drop_length,List.drop_eq_nil_of_le (by omega)] at hR2
  unfold bH
  rw [<-hR2]
  rfl
theorem rf:Sound Tryz.prog 158 Te:=
 Sound.Cg Bi Ai mixed Tryz.func158 (by kernel_rfl) (by kernel_rfl) λx h=>FQ x.1 x.2.1 h
end Go.Proofs.YtfolipnappekaaaGreat

namespace Go.Proofs.YtfolipnappekaaaGreat
open Go.RowKit
abbrev SS:Type:=List (List Int)×List Int×List Int×Bool×Unit
abbrev rLS:CK:= .row tL 26
abbrev rN:CK:= .row tI 3
def Db (L:List (List Int)) (Il:List Int) (s:List Int):Nat:=(Il.takeWhile λi=>bH (L.getD i.toNat []) s).length
structure Dp (m:Nat) (L:List (List Int)) (Il:List Int):Prop where
 se:L.length<=3000
 len: ∀x∈L,x.length=m
 short:m<=20
 perm:Il.Perm (upto L.length)
 sorted:Il.Pairwise λi j=>bH (L.getD i.toNat []) (L.getD j.toNat [])=true
def nf (L:List (List Int)) (s:List Int):Int:=if s∈L then (L.idxOf s:Int) else-1
def Rv (Il:List Int) (k:Nat) (x:Int):List Int:=Il.take k++x::Il.drop k
noncomputable abbrev bZ:Spec:=Cg (.pair fP (.pair tL .unit)) tI false true (λx=>Dp (List.length x.2.1) x.1.1 x.1.2.2.1) (λx=>(Db x.1.1 x.1.2.2.1 x.2.1:Int))
noncomputable abbrev aW:Spec:=Cg (.pair fP (.pair tL .unit)) tI false true (λx=>Dp (List.length x.2.1) x.1.1 x.1.2.2.1) (λx=>nf x.1.1 x.2.1)
noncomputable abbrev j0:MSpec:=jf [some 4,none,none] [(false,rLS),(false,rL),(false,rN),(false, .Dn .bool),(false, .Dn tL),(false, .Dn tI)] false [some 4] [rLS,rL,rN, .Dn .bool]
 (λx=>Dp (List.length x.2.2.2.2.1) x.1 x.2.2.1/\List.length x.2.1<=3000) (λx=>((x.1++ [x.2.2.2.2.1],x.2.1++ [x.2.2.2.2.2.1],Rv x.2.2.1 (Db x.1 x.2.2.1 x.2.2.2.2.1) (List.length x.1),x.2.2.2.1,()),()))
def Zi (L:List (List Int)):List Int:=(List.range L.length).foldl (λ(S:List Int) (i:Nat)=>Rv S (Db (L.take i) S (L.getD i [])) (i:Int)) []
def Ht (g:List (List Int)) (x:List Int) (d:Int):List Int->List (List Int)->List Int->List (List Int)×List Int×Bool
 | [],L,D=>(L,D,true)
 |l::ls,L,D=>if Ab x (An g l)∈L then Ht g x d ls L D else if L.length=3000 then (L,D,false) else Ht g x d ls (L++ [Ab x (An g l)]) (D++ [d+1])
def Me (g:List (List Int)) (ls:List Int):Nat->Nat->List (List Int)->List Int->List (List Int)×List Int×Bool
 |0,_,L,D=>(L,D,true)
 |f+1,k,L,D=>if k<L.length then (match Ht g (L.getD k []) (D.getD k 0) ls L D with
  |(L',D',true)=>Me g ls f (k+1) L' D'
  |(L',D',false)=>(L',D',false)) else (L,D,true)
def Gk (g:List (List Int)) (s:List Int):List (List Int)×List Int×Bool:=Me g (Af g.length) 3001 0 [s] [0]
def Mq (g:List (List Int)) (s:List Int):SS:=((Gk g s).1,(Gk g s).2.1,Zi (Gk g s).1,(Gk g s).2.2,())
noncomputable abbrev fM:Spec:=Cg (.pair Cp (.pair tL .unit)) fP false false (λx=>Bx x.1=true/\List.length x.2.1<=20/\ ∀y∈x.2.1,0<=y/\y<x.1.1) (λx=>Mq x.1.2.2.1 x.2.1)
abbrev KK:Type:=Int×Int×List (List Int)×List Int×List Int×Bool×PUnit
theorem Aeo (f:List (List Int)×List Int×List Int×Bool×Unit) (s:List Int) (P:Int->Prop):(Bk (λ(v3:KK) (k4:KK->Prop)=>Br (decide (v3.1<v3.2.1)) ((2:Int)≠(0:Int)/\ ∃(y5:Int),idx v3.2.2.2.2.1 (IntKind.i64.wrap ((IntKind.i64.wrap (v3.1+v3.2.1)).tdiv (2:Int)))=some y5/\ ∃(y6:List Int),idx v3.2.2.1 y5=some y6/\ ∃(y7:Bool),Te.fn (y6,s,())=some y7/\Br y7 (k4 (IntKind.i64.wrap (IntKind.i64.wrap ((IntKind.i64.wrap (v3.1+v3.2.1)).tdiv (2:Int))+(1:Int)),v3.2.1,v3.2.2.1,v3.2.2.2.1,v3.2.2.2.2.1,v3.2.2.2.2.2.1,())) (k4 (v3.1,IntKind.i64.wrap ((IntKind.i64.wrap (v3.1+v3.2.1)).tdiv (2:Int)),v3.2.2.1,v3.2.2.2.1,v3.2.2.2.2.1,v3.2.2.2.2.2.1,()))) (P v3.1)) ((0:Int),(↑f.2.2.1.length:Int),f.1,f.2.1,f.2.2.1,f.2.2.2.1,PUnit.unit))=fnW Cd (look [(158,Te)]) bZ Tryz.f149 (f,s,()) P:=by kernel_rfl
theorem VS (f:List (List Int)×List Int×List Int×Bool×Unit) (s:List Int) (P:Int->Prop):(∃(y3:Int),bZ.fn ((f.1,f.2.1,f.2.2.1,f.2.2.2.1,()),s,())=some y3/\Br (decide (y3<(↑f.2.2.1.length:Int))) (∃(y4:Int),idx f.2.2.1 y3=some y4/\ ∃(y5:List Int),idx f.1 y4=some y5/\ ∃(y6:Bool),Ap.fn (y5,s,())=some y6/\Br y6 (∃(y7:Int),idx f.2.2.1 y3=some y7/\P y7) (P (-1:Int))) (P (-1:Int)))=fnW Cd (look [(149,bZ),(101,Ap)]) aW Tryz.f132 (f,s,()) P:=by kernel_rfl
theorem Aem (L:List (List Int)) (D S:List Int) (b:Bool) (s:List Int) (d:Int) (P:((List (List Int)×List Int×List Int×Bool×Unit)×Unit)->Prop):(∃(y7:Int),bZ.fn ((List.take L.length (List.drop 0 L),List.take D.length (List.drop 0 D),List.take S.length (List.drop 0 S),b,()),s,())=some y7/\0=0/\S.length=S.length/\S.length+(List.take 1 (List.drop 0 [(0:Int)])).length<=Be/\((0:Int)<=IntKind.i64.wrap (y7+(1:Int))/\IntKind.i64.wrap (y7+(1:Int))<=(↑(S++List.take 1 (List.drop 0 [(0:Int)])).length:Int)/\(↑(S++List.take 1 (List.drop 0 [(0:Int)])).length:Int)<=(↑(S++List.take 1 (List.drop 0 [(0:Int)])).length:Int))/\((0:Int)<=y7/\y7<=(↑(S++List.take 1 (List.drop 0 [(0:Int)])).length:Int)/\(↑(S++List.take 1 (List.drop 0 [(0:Int)])).length:Int)<=(↑(S++List.take 1 (List.drop 0 [(0:Int)])).length:Int))/\((0:Int)<=y7/\y7<(↑(S++List.take 1 (List.drop 0 [(0:Int)])).length:Int))/\0+y7.toNat<(Bs (S++List.take 1 (List.drop 0 [(0:Int)])) (0+(IntKind.i64.wrap (y7+(1:Int))).toNat) (List.take ((↑(S++List.take 1 (List.drop 0 [(0:Int)])).length:Int).toNat-(IntKind.i64.wrap (y7+(1:Int))).toNat) (List.take ((↑(S++List.take 1 (List.drop 0 [(0:Int)])).length:Int).toNat-y7.toNat) (List.drop (0+y7.toNat) (S++List.take 1 (List.drop 0 [(0:Int)])))))).length/\0=0/\L.length=L.length/\L.length+(List.take 1 (List.drop 0 [s])).length<=Be/\0=0/\D.length=D.length/\D.length+(List.take 1 (List.drop 0 [d])).length<=Be/\P ((List.take (L++List.take 1 (List.drop 0 [s])).length (List.drop 0 (L++List.take 1 (List.drop 0 [s]))),List.take (D++List.take 1 (List.drop 0 [d])).length (List.drop 0 (D++List.take 1 (List.drop 0 [d]))),List.take (S++List.take 1 (List.drop 0 [(0:Int)])).length (List.drop 0 ((Bs (S++List.take 1 (List.drop 0 [(0:Int)])) (0+(IntKind.i64.wrap (y7+(1:Int))).toNat) (List.take ((↑(S++List.take 1 (List.drop 0 [(0:Int)])).length:Int).toNat-(IntKind.i64.wrap (y7+(1:Int))).toNat) (List.take ((↑(S++List.take 1 (List.drop 0 [(0:Int)])).length:Int).toNat-y7.toNat) (List.drop (0+y7.toNat) (S++List.take 1 (List.drop 0 [(0:Int)])))))).set (0+y7.toNat) (↑L.length:Int))),b,()),()))=fnMW j9 (look [(149,bZ)]) j0 Tryz.f148 (L,D,S,b,s,d,()) P:=by kernel_rfl
abbrev kR:Type:=Int×Int×ByteArray×List (List Int)×Bool×Bool×List (List Int)×List Int×List Int×List (List Int)×List Int×List Int×PUnit
abbrev BA:Type:=(List (List Int)×List Int×List Int×Bool×PUnit)×PUnit
theorem ZF (p:Int×ByteArray×List (List Int)×Unit) (s:List Int) (P:(List (List Int)×List Int×List Int×Bool×Unit)->Prop):(∃(y3:List Int),Fm.fn (s,())=some y3/\ ∃(y4:BA),j0.fn ([],[],[],false,y3,(0:Int),())=some y4/\ ∃(y5:List Int),Jd.fn ((p.1,p.2.1,p.2.2.1,()),())=some y5/\0=0/\0=([]:List Int).length/\0=0/\0=([]:List Int).length/\0=0/\0=([]:List Int).length/\0=0/\y4.1.1.length=y4.1.1.length/\0=0/\y4.1.2.1.length=y4.1.2.1.length/\0=0/\y4.1.2.2.1.length=y4.1.2.2.1.length/\Bk (λ(v6:kR) (k7:kR->Prop)=>Br (decide (v6.1<(↑v6.2.2.2.2.2.2.2.2.2.1.length:Int))) (0=0/\v6.2.2.2.2.2.2.1.length=v6.2.2.2.2.2.2.1.length/\0=0/\v6.2.2.2.2.2.2.2.1.length=v6.2.2.2.2.2.2.2.1.length/\0=0/\v6.2.2.2.2.2.2.2.2.1.length=v6.2.2.2.2.2.2.2.2.1.length/\0=0/\v6.2.2.2.2.2.2.2.2.2.1.length=v6.2.2.2.2.2.2.2.2.2.1.length/\0=0/\v6.2.2.2.2.2.2.2.2.2.2.1.length=v6.2.2.2.2.2.2.2.2.2.2.1.length/\0=0/\v6.2.2.2.2.2.2.2.2.2.2.2.1.length=v6.2.2.2.2.2.2.2.2.2.2.2.1.length/\Bk (λ(v8:kR) (k9:kR->Prop)=>Br (decide (v8.1<(↑y5.length:Int))) (((0:Int)<=v6.1/\v6.1<(↑v8.2.2.2.2.2.2.2.2.2.1.length:Int))/\ ∃(Jf:List Int),v8.2.2.2.2.2.2.2.2.2.1[0+v6.1.toNat]?=some Jf/\ ∃(kZ:Int),idx y5 v8.1=some kZ/\ ∃(fT:List Int),Ic.fn ((v8.2.1,v8.2.2.1,v8.2.2.2.1,()),Jf,kZ,())=some fT/\ ∃(It:Int),aW.fn ((List.take v8.2.2.2.2.2.2.2.2.2.1.length (List.drop 0 v8.2.2.2.2.2.2.2.2.2.1),List.take v8.2.2.2.2.2.2.2.2.2.2.1.length (List.drop 0 v8.2.2.2.2.2.2.2.2.2.2.1),List.take v8.2.2.2.2.2.2.2.2.2.2.2.1.length (List.drop 0 v8.2.2.2.2.2.2.2.2.2.2.2.1),v8.2.2.2.2.2.1,()),fT,())=some It/\Br (decide (It>=(0:Int))) (0=0/\v8.2.2.2.2.2.2.1.length=v8.2.2.2.2.2.2.1.length/\0=0/\v8.2.2.2.2.2.2.2.1.length=v8.2.2.2.2.2.2.2.1.length/\0=0/\v8.2.2.2.2.2.2.2.2.1.length=v8.2.2.2.2.2.2.2.2.1.length/\0=0/\v8.2.2.2.2.2.2.2.2.2.1.length=v8.2.2.2.2.2.2.2.2.2.1.length/\0=0/\v8.2.2.2.2.2.2.2.2.2.2.1.length=v8.2.2.2.2.2.2.2.2.2.2.1.length/\0=0/\v8.2.2.2.2.2.2.2.2.2.2.2.1.length=v8.2.2.2.2.2.2.2.2.2.2.2.1.length/\k9 (IntKind.i64.wrap (v8.1+(1:Int)),v8.2.1,v8.2.2.1,v8.2.2.2.1,v8.2.2.2.2.1,v8.2.2.2.2.2.1,v8.2.2.2.2.2.2.1,v8.2.2.2.2.2.2.2.1,v8.2.2.2.2.2.2.2.2.1,v8.2.2.2.2.2.2.2.2.2.1,v8.2.2.2.2.2.2.2.2.2.2.1,v8.2.2.2.2.2.2.2.2.2.2.2.1,())) (Br ((↑v8.2.2.2.2.2.2.2.2.2.1.length:Int)==(3000:Int)) (P (List.take v8.2.2.2.2.2.2.2.2.2.1.length (List.drop 0 v8.2.2.2.2.2.2.2.2.2.1),List.take v8.2.2.2.2.2.2.2.2.2.2.1.length (List.drop 0 v8.2.2.2.2.2.2.2.2.2.2.1),List.take v8.2.2.2.2.2.2.2.2.2.2.2.1.length (List.drop 0 v8.2.2.2.2.2.2.2.2.2.2.2.1),v8.2.2.2.2.2.1,())) (((0:Int)<=v6.1/\v6.1<(↑v8.2.2.2.2.2.2.2.2.2.2.1.length:Int))/\ ∃(Fz:Int),v8.2.2.2.2.2.2.2.2.2.2.1[0+v6.1.toNat]?=some Fz/\0=0/\v8.2.2.2.2.2.2.2.2.2.1.length=v8.2.2.2.2.2.2.2.2.2.1.length/\0=0/\v8.2.2.2.2.2.2.2.2.2.2.1.length=v8.2.2.2.2.2.2.2.2.2.2.1.length/\0=0/\v8.2.2.2.2.2.2.2.2.2.2.2.1.length=v8.2.2.2.2.2.2.2.2.2.2.2.1.length/\ ∃(Lr:BA),j0.fn (v8.2.2.2.2.2.2.2.2.2.1,v8.2.2.2.2.2.2.2.2.2.2.1,v8.2.2.2.2.2.2.2.2.2.2.2.1,v8.2.2.2.2.2.1,fT,IntKind.i64.wrap (Fz+(1:Int)),())=some Lr/\0=0/\v8.2.2.2.2.2.2.1.length=v8.2.2.2.2.2.2.1.length/\0=0/\v8.2.2.2.2.2.2.2.1.length=v8.2.2.2.2.2.2.2.1.length/\0=0/\v8.2.2.2.2.2.2.2.2.1.length=v8.2.2.2.2.2.2.2.2.1.length/\0=0/\Lr.1.1.length=Lr.1.1.length/\0=0/\Lr.1.2.1.length=Lr.1.2.1.length/\0=0/\Lr.1.2.2.1.length=Lr.1.2.2.1.length/\k9 (IntKind.i64.wrap (v8.1+(1:Int)),v8.2.1,v8.2.2.1,v8.2.2.2.1,v8.2.2.2.2.1,Lr.1.2.2.2.1,v8.2.2.2.2.2.2.1,v8.2.2.2.2.2.2.2.1,v8.2.2.2.2.2.2.2.2.1,Lr.1.1,Lr.1.2.1,Lr.1.2.2.1,())))) (0=0/\v8.2.2.2.2.2.2.1.length=v8.2.2.2.2.2.2.1.length/\0=0/\v8.2.2.2.2.2.2.2.1.length=v8.2.2.2.2.2.2.2.1.length/\0=0/\v8.2.2.2.2.2.2.2.2.1.length=v8.2.2.2.2.2.2.2.2.1.length/\0=0/\v8.2.2.2.2.2.2.2.2.2.1.length=v8.2.2.2.2.2.2.2.2.2.1.length/\0=0/\v8.2.2.2.2.2.2.2.2.2.2.1.length=v8.2.2.2.2.2.2.2.2.2.2.1.length/\0=0/\v8.2.2.2.2.2.2.2.2.2.2.2.1.length=v8.2.2.2.2.2.2.2.2.2.2.2.1.length/\k7 (IntKind.i64.wrap (v6.1+(1:Int)),v8.2.1,v8.2.2.1,v8.2.2.2.1,v8.2.2.2.2.1,v8.2.2.2.2.2.1,v8.2.2.2.2.2.2.1,v8.2.2.2.2.2.2.2.1,v8.2.2.2.2.2.2.2.2.1,v8.2.2.2.2.2.2.2.2.2.1,v8.2.2.2.2.2.2.2.2.2.2.1,v8.2.2.2.2.2.2.2.2.2.2.2.1,()))) ((0:Int),v6.2.1,v6.2.2.1,v6.2.2.2.1,v6.2.2.2.2.1,v6.2.2.2.2.2.1,v6.2.2.2.2.2.2.1,v6.2.2.2.2.2.2.2.1,v6.2.2.2.2.2.2.2.2.1,v6.2.2.2.2.2.2.2.2.2.1,v6.2.2.2.2.2.2.2.2.2.2.1,v6.2.2.2.2.2.2.2.2.2.2.2.1,PUnit.unit)) (P (List.take v6.2.2.2.2.2.2.2.2.2.1.length (List.drop 0 v6.2.2.2.2.2.2.2.2.2.1),List.take v6.2.2.2.2.2.2.2.2.2.2.1.length (List.drop 0 v6.2.2.2.2.2.2.2.2.2.2.1),List.take v6.2.2.2.2.2.2.2.2.2.2.2.1.length (List.drop 0 v6.2.2.2.2.2.2.2.2.2.2.2.1),true,()))) ((0:Int),p.1,p.2.1,p.2.2.1,false,y4.1.2.2.2.1,[],[],[],y4.1.1,y4.1.2.1,y4.1.2.2.1,PUnit.unit))=fnW VD (look [(116,Fm),(148,j0),(141,Jd),(118,Ic),(132,aW)]) fM Tryz.f131 (p,s,()) P:=by kernel_rfl
theorem ph: ∀ {a b:List Int},Cl a b=0↔a=b
 | [],[]=>by simp [Cl]
 | [],_::_=>by simp [Cl]
 |_::_,[]=>by simp [Cl]
 |x::a,y::b=>by
  simp only [Cl,List.cons.injEq]
  by_cases h1:x<y
  ·rw [if_pos h1]
   exact ⟨λh=>by omega,λh=>by omega⟩
  ·rw [if_neg h1]
   by_cases h2:x>y
   ·rw [if_pos h2]
    exact ⟨λh=>by omega,λh=>by omega⟩
   ·rw [if_neg h2,ph]
    exact ⟨λh=>⟨by omega,h⟩,λh=>h.2⟩
theorem IV: ∀(a b:List Int),Cl b a= -Cl a b
 | [],[]=>by simp [Cl]
 | [],_::_=>by simp [Cl]
 |_::_,[]=>by simp [Cl]
 |x::a,y::b=>by
  simp only [Cl]
  rcases Int.lt_trichotomy x y with h1|h1|h1
  ·simp [h1,show ¬y<x by omega]
  ·subst h1
   simp [IV a b]
  ·simp [h1,show ¬x<y by omega]
theorem tT: ∀ {a b c:List Int},Cl a b<0->Cl b c<0->Cl a c<0
 | [],[],_,h,_=>by simp [Cl] at h
 |_::_,[],_,h,_=>by simp [Cl] at h
 |_,_::_,[],_,h=>by simp [Cl] at h
 | [],_::_,_::_,_,_=>by simp [Cl]
 |x::a,y::b,z::c,h1,h2=>by
  simp only [Cl] at h1 h2⊢
  by_cases e1:x<y
  ·by_cases e2:y<z
   ·rw [if_pos (by omega)];omega
   ·rw [if_neg e2] at h2
    by_cases e3:y>z
    ·rw [if_pos e3] at h2;omega
    ·rw [if_pos (by omega)];omega
  ·rw [if_neg e1] at h1
   by_cases e2:x>y
   ·rw [if_pos e2] at h1;omega
   ·rw [if_neg e2] at h1
    by_cases e3:y<z
    ·rw [if_pos (by omega)];omega
    ·rw [if_neg e3] at h2
     by_cases e4:y>z
     ·rw [if_pos e4] at h2;omega
     ·rw [if_neg e4] at h2
      rw [if_neg (by omega),if_neg (by omega)]
      exact tT h1 h2
theorem lt_iff {a b:List Int} :bH a b=true↔Cl a b<0:=decide_eq_true_iff
theorem MI {a b c:List Int} (h1:bH a b=true) (h2:bH b c=true):bH a c=true:=lt_iff.2 (tT (lt_iff.1 h1) (lt_iff.1 h2))
theorem iP (a:List Int):bH a a=false:=by
 have:Cl a a=0:=ph.2 rfl
 unfold bH;rw [this];rfl
theorem SX {a b:List Int} (h:bH a b=false) (Ek:a≠b):bH b a=true:=by
 rw [lt_iff,IV a b]
 have h1: ¬Cl a b<0:= λh'=>by rw [lt_iff.2 h'] at h;cases h
 have h2:Cl a b≠0:= λh'=>Ek (ph.1 h')
 omega
theorem hI {α:Type} (q:α->Bool): ∀(l:List α),l.Pairwise (λi j=>q j=true->q i=true)-> ∀k (hk:k<l.length),k<(l.takeWhile q).length↔q l[k]=true
 | [],_,k,hk=>by simp at hk
 |a::l,h,k,hk=>by
  obtain ⟨h1,h2⟩:=List.pairwise_cons.1 h
  by_cases ha:q a=true
  ·rw [List.takeWhile_cons_of_pos ha]
   rcases k with _|k
   ·simpa using ha
   ·simp only [List.length_cons,List.getElem_cons_succ,Nat.add_lt_add_iff_right]
    exact hI q l h2 k (by simpa using hk)
  ·rw [List.takeWhile_cons_of_neg ha]
   simp only [List.length_nil,Nat.not_lt_zero,false_iff]
   rcases k with _|k
   ·exact ha
   ·simp only [List.getElem_cons_succ]
    exact λhq=>ha (h1 _ (List.getElem_mem _) hq)
theorem Dp.q9 {m:Nat} {L:List (List Int)} {Il:List Int} (h:Dp m L Il):Il.length=L.length:=by rw [h.perm.length_eq,eQ]
theorem Dp.idx {m:Nat} {L:List (List Int)} {Il:List Int} (h:Dp m L Il) {k:Nat} (hk:k<Il.length):0<=Il[k]/\Il[k]<L.length:=Uj.1 (h.perm.mem_iff.1 (List.getElem_mem hk))
theorem Dp.aX {m:Nat} {L:List (List Int)} {Il:List Int} (h:Dp m L Il) (s:List Int) {k:Nat} (hk:k<Il.length):k<Db L Il s↔bH (L.getD Il[k].toNat []) s=true:=
 hI _ Il (h.sorted.imp λdI hj=>MI dI hj) k hk
theorem KG (L:List (List Int)) (Il s:List Int):Db L Il s<=Il.length:=(List.takeWhile_sublist _).length_le
theorem Dp.inj {m:Nat} {L:List (List Int)} {Il:List Int} (h:Dp m L Il) {i j:Nat} (hi:i<L.length) (hj:j<L.length) (e:L[i]=L[j]):i=j:=by
 have mem: ∀i,i<L.length->(i:Int)∈Il:= λi hi=>h.perm.mem_iff.2 (Uj.2 ⟨by omega,by omega⟩)
 obtain ⟨p,hp,ep⟩:=List.mem_iff_getElem.1 (mem i hi)
 obtain ⟨q,hq,eq⟩:=List.mem_iff_getElem.1 (mem j hj)
 have get: ∀i (hi:i<L.length),L.getD ((i:Int)).toNat []=L[i]:= λi hi=>by rw [Int.toNat_natCast,List.getD_eq_getElem?_getD,List.getElem?_eq_getElem hi];rfl
 rcases Nat.lt_trichotomy p q with h1|h1|h1
 ·have:=List.pairwise_iff_getElem.1 h.sorted p q hp hq h1
  rw [ep,eq,get i hi,get j hj,e,iP] at this
  cases this
 ·subst h1
  rw [ep] at eq
  omega
 ·have:=List.pairwise_iff_getElem.1 h.sorted q p hq hp h1
  rw [ep,eq,get i hi,get j hj,e,iP] at this
  cases this
theorem Uc {L:List (List Int)} {k:Nat} (h:k<L.length):L.getD k []=L[k]:=by rw [List.getD_eq_getElem?_getD,List.getElem?_eq_getElem h];rfl
theorem Dp.vF {m:Nat} {L:List (List Int)} {Il:List Int} (h:Dp m L Il) {s:List Int} :
  (∃hk:Db L Il s<Il.length,L.getD Il[Db L Il s].toNat []=s/\nf L s=Il[Db L Il s])\/(nf L s= -1/\ ∀hk:Db L Il s<Il.length,L.getD Il[Db L Il s].toNat []≠s):=by
 by_cases hm:s∈L
 ·left
  obtain ⟨j,hj,rfl⟩:=List.mem_iff_getElem.1 hm
  obtain ⟨p,hp,ep⟩:=List.mem_iff_getElem.1 (h.perm.mem_iff.2 (Uj.2 ⟨by omega,by omega⟩):(j:Int)∈Il)
  have gj:L.getD Il[p].toNat []=L[j]:=by rw [ep,Int.toNat_natCast,Uc hj]
  have hs:Db L Il L[j]=p:=by
   have h1: ¬p<Db L Il L[j]:= λh1=>by
    have:=(h.aX L[j] hp).1 h1
    rw [gj,iP] at this;cases this
   have h2: ¬Db L Il L[j]<p:= λh2=>by
    have h3:=(h.aX L[j] (k:=Db L Il L[j]) (by omega)).2 (by
     have:=List.pairwise_iff_getElem.1 h.sorted (Db L Il L[j]) p (by omega) hp h2
     rw [gj] at this;exact this)
    omega
   omega
  have hx:L.idxOf L[j]=j:=by
   have h1:L.idxOf L[j]<L.length:=List.idxOf_lt_length_of_mem hm
   exact h.inj h1 hj (List.getElem_idxOf h1)
  refine ⟨by omega,?_,?_⟩
  ·simp only [hs];exact gj
  ·unfold nf
   rw [if_pos hm,hx]
   simp only [hs];exact ep.symm
 ·right
  refine ⟨by unfold nf;rw [if_neg hm],λhk e=>hm ?_⟩
  have hi:=h.idx hk
  rw [Uc (by omega)] at e
  rw [<-e]
  exact List.getElem_mem _
theorem SG (Il:List Int) (k:Nat) (x:Int):(Rv Il k x).Perm (x::Il):=by
 unfold Rv
 refine List.perm_middle.trans (List.Perm.cons x ?_)
 rw [List.take_append_drop]
theorem Dp.add {m:Nat} {L:List (List Int)} {Il s:List Int} (h:Dp m L Il) (hn:s∉L) (hl:s.length=m) (hr:L.length<3000):Dp m (L++ [s]) (Rv Il (Db L Il s) L.length):=by
 have yM: ∀i∈Il,(L++ [s]).getD i.toNat []=L.getD i.toNat []:= λi hi=>by
  have:=Uj.1 (h.perm.mem_iff.1 hi)
  rw [List.getD_eq_getElem?_getD,List.getD_eq_getElem?_getD,List.getElem?_append_left (by omega)]
 have Afo:(L++ [s]).getD ((L.length:Int)).toNat []=s:=by
  rw [Int.toNat_natCast,List.getD_eq_getElem?_getD,List.getElem?_append_right (by omega),Nat.sub_self];rfl
 refine ⟨by rw [List.length_append,List.length_singleton];omega,λx hx=>?_,h.short,?_,?_⟩
 ·rcases List.mem_append.1 hx with hx|hx
  ·exact h.len x hx
  ·rw [List.mem_singleton.1 hx];exact hl
 ·refine (SG _ _ _).trans ?_
  rw [List.length_append,List.length_singleton,fR]
  exact (List.Perm.cons _ h.perm).trans (List.perm_append_singleton _ _).symm
 ·unfold Rv
  have hs:=h.sorted
  rw [<-List.take_append_drop (Db L Il s) Il] at hs
  obtain ⟨s1,s2,s3⟩:=List.pairwise_append.1 hs
  have mt: ∀i∈Il.take (Db L Il s),i∈Il/\bH (L.getD i.toNat []) s=true:= λi hi=>by
   obtain ⟨k,hk,rfl⟩:=List.mem_iff_getElem.1 hi
   have RF:k<Db L Il s:=by rw [List.length_take] at hk;omega
   have hk3:k<Il.length:=by rw [List.length_take] at hk;omega
   rw [List.getElem_take]
   exact ⟨List.getElem_mem _,(h.aX s hk3).1 RF⟩
  have md: ∀i∈Il.drop (Db L Il s),i∈Il/\bH s (L.getD i.toNat [])=true:= λi hi=>by
   obtain ⟨k,hk,rfl⟩:=List.mem_iff_getElem.1 hi
   rw [List.length_drop] at hk
   have hk3:Db L Il s+k<Il.length:=by omega
   rw [List.getElem_drop]
   refine ⟨List.getElem_mem _,SX ?_ λe=>hn ?_⟩
   ·exact Bool.eq_false_iff.2 λhh=>by
     have:=(h.aX s hk3).2 hh
     omega
   ·have hi:=h.idx hk3
    rw [Uc (by omega)] at e
    rw [<-e];exact List.getElem_mem _
  refine List.pairwise_append.2 ⟨s1.imp_of_mem λ {a b} ha hb iE=>?_,List.pairwise_cons.2 ⟨λb hb=>?_,s2.imp_of_mem λ {a b} ha hb iE=>?_⟩,λa ha b hb=>?_⟩
  ·rw [yM a (mt a ha).1,yM b (mt b hb).1];exact iE
  ·rw [Afo,yM b (md b hb).1];exact (md b hb).2
  ·rw [yM a (md a ha).1,yM b (md b hb).1];exact iE
  ·rcases List.mem_cons.1 hb with rfl|hb
   ·rw [Afo,yM a (mt a ha).1];exact (mt a ha).2
   ·rw [yM a (mt a ha).1,yM b (md b hb).1];exact s3 a ha b hb
theorem c8 (L:List (List Int)) (s:List Int):Zi (L++ [s])=Rv (Zi L) (Db L (Zi L) s) L.length:=by
 unfold Zi
 rw [List.length_append,List.length_singleton,List.range_succ,List.foldl_append]
 have e: ∀(is:List Nat) (S:List Int),(∀i∈is,i<L.length)->is.foldl (λ(S:List Int) (i:Nat)=>Rv S (Db ((L++ [s]).take i) S ((L++ [s]).getD i [])) (i:Int)) S=is.foldl (λ(S:List Int) (i:Nat)=>Rv S (Db (L.take i) S (L.getD i [])) (i:Int)) S:=by
  intro is
  induction is with
  |nil=>intro S _;rfl
  |cons i is ih=>
   intro S h
   have hi:=h i (by simp)
   rw [List.foldl_cons,List.foldl_cons,ih _ λj hj=>h j (List.mem_cons_of_mem _ hj)]
   congr 2
   rw [List.take_append_of_le_length (by omega),List.getD_eq_getElem?_getD,List.getElem?_append_left hi,<-List.getD_eq_getElem?_getD]
 rw [e _ _ λi hi=>List.mem_range.1 hi]
 simp only [List.foldl_cons,List.foldl_nil]
 congr 2
 ·rw [List.take_append_of_le_length (Nat.le_refl _),List.take_length]
 ·rw [List.getD_eq_getElem?_getD,List.getElem?_append_right (by omega),Nat.sub_self];rfl
theorem kz {m:Nat} (h:m<=20):Dp m [] []:=⟨by simp,λx hx=>(by cases hx),h,by simp [upto],List.Pairwise.nil⟩
theorem SD {α:Type} {xs:List α} {y:Int} (h0:0<=y) (h:y.toNat<xs.length):idx xs y=some xs[y.toNat]:=by
 unfold idx
 rw [if_pos h0,List.getElem?_eq_getElem h]
theorem Adv (f:SS) (s:List Int) (h:Dp s.length f.1 f.2.2.1):fnW Cd (look [(158,Te)]) bZ Tryz.f149 (f,s,()) (λ(z:Int)=>z=(Db f.1 f.2.2.1 s:Int)):=by
 obtain ⟨L,D,Il,b,⟨⟩⟩:=f
 dsimp only at h⊢
 have hle:=KG L Il s
 have rS:=h.q9
 have fY:=h.se
 refine Eq.mp (Aeo (L,D,Il,b,()) s _) ?_
 refine Bk.mk (λv=>v.2.2.1=L/\v.2.2.2.2.1=Il/\ ∃lo hi:Nat,v.1=lo/\v.2.1=hi/\lo<=hi/\hi<=Il.length/\lo<=Db L Il s/\Db L Il s<=hi) (λv=>(v.2.1-v.1).toNat)
  ⟨rfl,rfl,0,Il.length,rfl,rfl,by omega,by omega,by omega,hle⟩ ?_
 rintro ⟨lo',jN,L',D',OA,b',⟨⟩⟩ ⟨h1,h2,lo,hi,h3,h4,h5,h6,h7,h8⟩
 dsimp only at h1 h2 h3 h4⊢
 subst h1 h2 h3 h4
 refine Br.dec (λhl=>?_) λhl=>?_
 ·have em:IntKind.i64.wrap ((IntKind.i64.wrap ((lo:Int)+(hi:Int))).tdiv 2)=(((lo+hi)/2:Nat):Int):=by
   rw [Bo (n:=(lo:Int)+(hi:Int)) (by omega) (by omega),Int.tdiv_eq_ediv_of_nonneg (by omega),Bo (by omega) (by omega)]
   omega
  rw [em]
  have hm1:(lo+hi)/2<OA.length:=by omega
  have XI:=h.idx hm1
  have XJ:OA[(lo+hi)/2].toNat<L'.length:=by omega
  have WB:=Uc XJ
  have hlen:=h.len _ (List.getElem_mem XJ)
  have CJ:short L'[OA[(lo+hi)/2].toNat]:=by
   unfold short
   have:=h.short;omega
  refine ⟨by decide,_,Aq hm1,_,SD XI.1 XJ,_,if_pos ⟨CJ,hlen⟩,⟨λhc=>?_,λhc=>?_⟩⟩
  ·have hc:bH L'[OA[(lo+hi)/2].toNat] s=true:=hc
   have hs:=(h.aX s hm1).2 (by rw [WB];exact hc)
   rw [Ag (by omega)]
   exact ⟨⟨rfl,rfl,(lo+hi)/2+1,hi,rfl,rfl,by omega,h6,by omega,h8⟩,by omega⟩
  ·have hc:bH L'[OA[(lo+hi)/2].toNat] s=false:=hc
   have hs: ¬(lo+hi)/2<Db L' OA s:= λhh=>by
    have:=(h.aX s hm1).1 hh
    rw [WB,hc] at this;cases this
   exact ⟨⟨rfl,rfl,lo,(lo+hi)/2,rfl,rfl,by omega,by omega,h7,by omega⟩,by omega⟩
 ·show (lo:Int)=_
  omega
theorem rj:Sound Tryz.prog 149 bZ:=
 Sound.Cg Bi (Ae rf Ai) mixed Tryz.func149 (by kernel_rfl) (by kernel_rfl) λx h=>Adv x.1 x.2.1 h
theorem TR (f:SS) (s:List Int) (h:Dp s.length f.1 f.2.2.1):fnW Cd (look [(149,bZ),(101,Ap)]) aW Tryz.f132 (f,s,()) (λ(z:Int)=>z=nf f.1 s):=by
 obtain ⟨L,D,Il,b,⟨⟩⟩:=f
 dsimp only at h⊢
 refine Eq.mp (VS (L,D,Il,b,()) s _) ⟨_,if_pos h,Br.dec (λhl=>?_) λhl=>?_⟩
 ·have hl:Db L Il s<Il.length:=by
   have hl:((Db L Il s:Nat):Int)<(Il.length:Int):=hl
   omega
  have XI:=h.idx hl
  have XJ:Il[Db L Il s].toNat<L.length:=by omega
  have WB:=Uc XJ
  have hlen:=h.len _ (List.getElem_mem XJ)
  have CJ:short L[Il[Db L Il s].toNat]:=by
   unfold short
   have:=h.short;omega
  refine ⟨_,Aq hl,_,SD XI.1 XJ,_,if_pos CJ,⟨λhc=>⟨_,Aq hl,?_⟩,λhc=>?_⟩⟩
  ·have hc:L[Il[Db L Il s].toNat]=s:=of_decide_eq_true hc
   rcases h.vF (s:=s) with ⟨hk,_,e⟩|⟨_,Ek⟩
   ·exact e.symm
   ·exact absurd (by rw [WB];exact hc) (Ek hl)
  ·have hc: ¬L[Il[Db L Il s].toNat]=s:=of_decide_eq_false hc
   rcases h.vF (s:=s) with ⟨hk,e,_⟩|⟨e,_⟩
   ·rw [WB] at e;exact absurd e hc
   ·exact e.symm
 ·have hl: ¬Db L Il s<Il.length:=by
   have hl: ¬((Db L Il s:Nat):Int)<(Il.length:Int):=hl
   omega
  rcases h.vF (s:=s) with ⟨hk,e,_⟩|⟨e,_⟩
  ·exact absurd hk hl
  ·exact e.symm
theorem xj:Sound Tryz.prog 132 aW:=
 Sound.Cg Bi (Ae rj (Ae Ow Ai)) mixed Tryz.func132 (by kernel_rfl) (by kernel_rfl) λx h=>TR x.1 x.2.1 h
theorem EH {S:List Int} {k:Nat} (h:k<=S.length) (n:Int):
  (Bs (S++ [0]) (k+1) (List.take ((S++ [0]).length-(k+1)) (List.take ((S++ [0]).length-k) (List.drop k (S++ [0]))))).set k n=Rv S k n:=by
 obtain ⟨A,B,rfl,hA⟩: ∃A B,S=A++B/\A.length=k:=⟨S.take k,S.drop k,(List.take_append_drop k S).symm,by rw [List.length_take];omega⟩
 subst hA
 have e1:List.drop A.length (A++B++ [0])=B++ [0]:=by rw [List.append_assoc,List.drop_left]
 have e2:List.take ((A++B++ [0]).length-A.length) (B++ [0])=B++ [0]:=List.take_of_length_le (by simp only [List.length_append,List.length_singleton];omega)
 have e3:List.take ((A++B++ [0]).length-(A.length+1)) (B++ [0])=B:=by
  have:(A++B++ [(0:Int)]).length-(A.length+1)=B.length:=by simp only [List.length_append,List.length_singleton];omega
  rw [this,List.take_left]
 rw [e1,e2,e3]
 unfold Bs Rv
 have e4:List.drop (A.length+1+B.length) (A++B++ [0])= []:=List.drop_eq_nil_of_le (by simp only [List.length_append,List.length_singleton];omega)
 obtain ⟨c,hc⟩: ∃c,List.take (A.length+1) (A++B++ [0])=A++ [c]:=by
  rw [List.append_assoc,List.take_append,List.take_of_length_le (by omega)]
  cases B with
  |nil=>exact ⟨0,by simp⟩
  |cons b B=>exact ⟨b,by simp⟩
 rw [e4,hc,List.append_nil,List.append_assoc,List.singleton_append,YP,List.take_left,List.drop_left]
theorem Adt (L:List (List Int)) (D S:List Int) (b:Bool) (s:List Int) (d:Int) (h:Dp s.length L S/\D.length<=3000):
  fnMW j9 (look [(149,bZ)]) j0 Tryz.f148 (L,D,S,b,s,d,()) (λ(z:(List (List Int)×List Int×List Int×Bool×Unit)×Unit)=>z=((L++ [s],D++ [d],Rv S (Db L S s) L.length,b,()),())):=by
 obtain ⟨h,hD⟩:=h
 have hle:=KG L S s
 have rS:=h.q9
 have fY:=h.se
 refine Eq.mp (Aem L D S b s d _) ?_
 rw [Bb L,Bb D,Bb S]
 refine ⟨_,if_pos h,?_⟩
 dsimp only
 have es:List.take 1 (List.drop 0 [(0:Int)])= [0]:=rfl
 have el:(S++ [(0:Int)]).length=S.length+1:=by simp
 rw [es,Ag (by omega),Nat.zero_add,Nat.zero_add,Int.toNat_natCast,Int.toNat_natCast,Int.toNat_natCast]
 refine ⟨rfl,rfl,by show S.length+1<=4294967296;omega,⟨by omega,by omega,by omega⟩,⟨by omega,by omega,by omega⟩,⟨by omega,by omega⟩,?_,rfl,rfl,by show L.length+1<=4294967296;omega,rfl,rfl,by show D.length+1<=4294967296;omega,?_⟩
 ·unfold Bs
  simp only [List.length_append,List.length_take,List.length_drop,List.length_singleton]
  omega
 ·rw [EH hle,Bb,Bb]
  have e5:List.take (S++ [(0:Int)]).length (List.drop 0 (Rv S (Db L S s) (L.length:Int)))=Rv S (Db L S s) (L.length:Int):=by
   rw [List.drop_zero,List.take_of_length_le]
   unfold Rv
   simp only [List.length_append,List.length_cons,List.length_take,List.length_drop,List.length_nil]
   omega
  rw [e5]
  rfl
theorem HB:Ay Tryz.prog 148 j0:=
 Ay.jf eK (Ae rj Ai) mixed Tryz.func148 (by kernel_rfl) (by kernel_rfl) λx h=>Adt x.1 x.2.1 x.2.2.1 x.2.2.2.1 x.2.2.2.2.1 x.2.2.2.2.2.1 h
structure Vh (p:PP) (m:Nat) (L:List (List Int)) (D:List Int):Prop where
 ok:Dp m L (Zi L)
 len:D.length=L.length
 row: ∀x∈L,∀y∈x,0<=y/\y<p.1
 dep: ∀j (h:j<D.length),0<=D[j]/\D[j]<=j
theorem wF {p:PP} (hv:Valid p) {x:List Int} {l:Int} (hx: ∀y∈x,0<=y/\y<p.1) (hl:Es (List.length p.2.2.1) l):
  (Ab x (An p.2.2.1 l)).length=x.length/\ ∀y∈Ab x (An p.2.2.1 l),0<=y/\y<p.1:=by
 obtain ⟨h1,h2⟩:=fv hv hl
 refine ⟨Kj _ _,λy hy=>?_⟩
 have:=yx (n:=(An p.2.2.1 l).length) (λz hz=>by have:=hx z hz;omega) h2 y hy
 omega
theorem Vh.add {p:PP} {m:Nat} {L:List (List Int)} {D:List Int} (h:Vh p m L D) {y:List Int} {d:Int} (hn:y∉L) (hl:y.length=m) (hr:L.length<3000) (hy: ∀z∈y,0<=z/\z<p.1) (hd:0<=d/\d<=L.length):Vh p m (L++ [y]) (D++ [d]):=by
 have hlen:=h.len
 refine ⟨by rw [c8];exact h.ok.add hn hl hr,by simp [hlen],λx hx=>?_,λj hj=>?_⟩
 ·rcases List.mem_append.1 hx with hx|hx
  ·exact h.row x hx
  ·rw [List.mem_singleton.1 hx];exact hy
 ·by_cases e:j<D.length
  ·rw [List.getElem_append_left e];exact h.dep j e
  ·simp only [List.length_append,List.length_singleton] at hj
   have:j=D.length:=by omega
   subst this
   rw [List.getElem_append_right (by omega)]
   simp only [Nat.sub_self,List.getElem_cons_zero]
   omega
theorem lk {p:PP} {s:List Int} (hs:s.length<=20) (hr: ∀y∈s,0<=y/\y<p.1):Vh p s.length [s] [0]:=by
 refine ⟨?_,rfl,λx hx=>by rw [List.mem_singleton.1 hx];exact hr,λj hj=>?_⟩
 ·have:=(kz hs).add (s:=s) (by simp) rfl (by simp)
  have e:Zi [s]=Rv [] (Db [] [] s) 0:=c8 [] s
  rw [e];exact this
 ·simp only [List.length_singleton] at hj
  have:j=0:=by omega
  subst this
  simp
theorem uv {L:List (List Int)} {s:List Int} :nf L s>=0↔s∈L:=by
 unfold nf
 split
 ·rename_i h;exact ⟨λ_=>h,λ_=>by omega⟩
 ·rename_i h;exact ⟨λhh=>by omega,λhh=>absurd hh h⟩
theorem YK (p:PP) (s:List Int) (h:Bx p=true/\s.length<=20/\ ∀y∈s,0<=y/\y<p.1):fnW VD (look [(116,Fm),(148,j0),(141,Jd),(118,Ic),(132,aW)]) fM Tryz.f131 (p,s,()) (λ(z:SS)=>z=Mq p.2.2.1 s):=by
 obtain ⟨hv,hs,hr⟩:=h
 have hV:=valid hv
 have fY:=hV.se
 have hb0:=lk hs hr
 have CJ:short s:=by unfold short;omega
 obtain ⟨ls,mU⟩: ∃ls,Af (List.length p.2.2.1)=ls:=⟨_,rfl⟩
 refine Eq.mp (ZF p s _) ⟨_,if_pos CJ,_,if_pos ⟨kz hs,by show 0<=3000;omega⟩,ls,(if_pos (by show List.length p.2.2.1<=8;exact fY.2)).trans (congrArg some mU),rfl,rfl,rfl,rfl,rfl,rfl,rfl,rfl,rfl,rfl,rfl,rfl,?_⟩
 have e0:Rv [] (Db [] [] s) ((([]:List (List Int)).length:Nat):Int)=Zi [s]:=(c8 [] s).symm
 show Bk _ ((0:Int),p.1,p.2.1,p.2.2.1,false,false,[],[],[],[s],[(0:Int)],Rv [] (Db [] [] s) ((([]:List (List Int)).length:Nat):Int),PUnit.unit)
 rw [e0]
 have WH:ls.length<=16:=by rw [<-mU,Jl];omega
 have jO: ∀l∈ls,Es (List.length p.2.2.1) l:= λl hl=>Kp (mU▸hl)
 have EB:Me p.2.2.1 ls 3001 0 [s] [0]=Gk p.2.2.1 s:=by unfold Gk;rw [mU]
 refine Bk.mk (λv=>v.2.1=p.1/\v.2.2.1=p.2.1/\v.2.2.2.1=p.2.2.1/\v.2.2.2.2.2.1=false/\ ∃k:Nat,v.1=k/\k<=v.2.2.2.2.2.2.2.2.2.1.length/\
   Vh p s.length v.2.2.2.2.2.2.2.2.2.1 v.2.2.2.2.2.2.2.2.2.2.1/\v.2.2.2.2.2.2.2.2.2.2.2.1=Zi v.2.2.2.2.2.2.2.2.2.1/\
   Me p.2.2.1 ls (3001-k) k v.2.2.2.2.2.2.2.2.2.1 v.2.2.2.2.2.2.2.2.2.2.1=Gk p.2.2.1 s) (λv=>3001-v.1.toNat)
  ⟨rfl,rfl,rfl,rfl,0,rfl,by simp,hb0,rfl,EB⟩ ?_
 rintro ⟨k',n1,n2,n3,b0,wh,x1,x2,x3,L0,D0,S0,⟨⟩⟩ ⟨h1,h2,h3,h4,k,h5,h6,h7,h8,h9⟩
 dsimp only at h1 h2 h3 h4 h5 h6 h7 h8 h9
 subst h1 h2 h3 h4 h5 h8
 dsimp only
 have VY:=h7.ok.se
 have hD0:=h7.len
 refine Br.dec (λhl=>⟨rfl,rfl,rfl,rfl,rfl,rfl,rfl,rfl,rfl,rfl,rfl,rfl,?_⟩) λhl=>?_
 ·have hk:k<L0.length:=by omega
  have WC:k<D0.length:=by omega
  have hx: ∀y∈L0[k],0<=y/\y<p.1:=h7.row _ (List.getElem_mem hk)
  have RX:L0[k].length=s.length:=h7.ok.len _ (List.getElem_mem hk)
  have hdk:=h7.dep k WC
  obtain ⟨f,hf⟩: ∃f,3001-k=f+1:=⟨3000-k,by omega⟩
  have hgo: ∀L' D' ok,Ht p.2.2.1 L0[k] D0[k] ls L0 D0=(L',D',ok)->Gk p.2.2.1 s=if ok=true then Me p.2.2.1 ls f (k+1) L' D' else (L',D',false):=by
   intro L' D' ok he
   rw [<-h9,hf,Me,if_pos hk,Uc hk,List.getD_eq_getElem?_getD,List.getElem?_eq_getElem WC]
   simp only [Option.getD_some]
   rw [he]
   cases ok<;>rfl
  refine Bk.mk (λv=>v.2.1=p.1/\v.2.2.1=p.2.1/\v.2.2.2.1=p.2.2.1/\v.2.2.2.2.2.1=false/\ ∃i:Nat,v.1=i/\i<=ls.length/\Vh p s.length v.2.2.2.2.2.2.2.2.2.1 v.2.2.2.2.2.2.2.2.2.2.1/\
    v.2.2.2.2.2.2.2.2.2.2.2.1=Zi v.2.2.2.2.2.2.2.2.2.1/\(∃A,v.2.2.2.2.2.2.2.2.2.1=L0++A)/\(∃A,v.2.2.2.2.2.2.2.2.2.2.1=D0++A)/\
    Ht p.2.2.1 L0[k] D0[k] (ls.drop i) v.2.2.2.2.2.2.2.2.2.1 v.2.2.2.2.2.2.2.2.2.2.1=Ht p.2.2.1 L0[k] D0[k] ls L0 D0) (λv=>ls.length-v.1.toNat)
   ⟨rfl,rfl,rfl,rfl,0,rfl,Nat.zero_le _,h7,rfl,⟨[],by simp⟩,⟨[],by simp⟩,rfl⟩ ?_
  rintro ⟨i',m1,m2,m3,b1,wh1,y1,y2,y3,L,D,S,⟨⟩⟩ ⟨g1,g2,g3,g4,i,g5,g6,g7,g8,⟨A,g9⟩,⟨A',WX⟩,nQ⟩
  dsimp only at g1 g2 g3 g4 g5 g6 g7 g8 g9 WX nQ
  subst g1 g2 g3 g4 g5 g8
  dsimp only
  have hLf:=g7.ok.se
  have ZU:=g7.len
  rw [Bb L,Bb D,Bb (Zi L)]
  refine Br.dec (λhli=>?_) λhli=>?_
  ·have hi:i<ls.length:=by omega
   have hkL:k<L.length:=by rw [g9,List.length_append];omega
   have hLk:L[k]=L0[k]:=by simp only [g9];exact List.getElem_append_left hk
   have Ac8:k<D.length:=by rw [ZU];exact hkL
   have hDk:D[k]=D0[k]:=by simp only [WX];exact List.getElem_append_left WC
   have lG:=jO _ (List.getElem_mem hi)
   obtain ⟨nl,nr⟩:=wF hV hx lG
   rw [List.drop_eq_getElem_cons hi] at nQ
   simp only [Ht] at nQ
   refine ⟨⟨by omega,by omega⟩,L0[k],by rw [Int.toNat_natCast,Nat.zero_add,List.getElem?_eq_getElem hkL,hLk],_,Aq hi,_,if_pos ⟨hv,by show L0[k].length<=20;omega,hx,lG⟩,?_⟩
   dsimp only
   have hyl:(Ab L0[k] (An p.2.2.1 ls[i])).length=s.length:=by rw [nl,RX]
   refine ⟨_,if_pos (by show Dp (Ab L0[k] (An p.2.2.1 ls[i])).length L (Zi L);rw [hyl];exact g7.ok),Br.dec (λdJ=>?_) λdJ=>?_⟩
   ·have dJ:Ab L0[k] (An p.2.2.1 ls[i])∈L:=uv.1 dJ
    rw [if_pos dJ] at nQ
    rw [Ag (by omega)]
    exact ⟨rfl,rfl,rfl,rfl,rfl,rfl,rfl,rfl,rfl,rfl,rfl,rfl,⟨rfl,rfl,rfl,rfl,i+1,rfl,hi,g7,rfl,⟨A,g9⟩,⟨A',WX⟩,nQ⟩,by omega⟩
   ·have dJ:Ab L0[k] (An p.2.2.1 ls[i])∉L:= λhh=>dJ (uv.2 hh)
    rw [if_neg dJ] at nQ
    refine ⟨λUg=>?_,λUg=>⟨⟨by omega,by omega⟩,D0[k],by rw [Int.toNat_natCast,Nat.zero_add,List.getElem?_eq_getElem Ac8,hDk],rfl,rfl,rfl,rfl,rfl,rfl,?_⟩⟩
    ·have Ug:L.length=3000:=by
      have:(L.length:Int)=3000:=by simpa using Ug
      omega
     rw [if_pos Ug] at nQ
     have:=hgo _ _ _ nQ.symm
     rw [if_neg (by decide)] at this
     unfold Mq
     rw [this]
    ·have Ug:L.length≠3000:=by
      have:(L.length:Int)≠3000:=by simpa using Ug
      omega
     rw [if_neg Ug] at nQ
     rw [Bo (n:=D0[k]+1) (by omega) (by omega)]
     refine ⟨_,if_pos ⟨by show Dp (Ab L0[k] (An p.2.2.1 ls[i])).length L (Zi L);rw [hyl];exact g7.ok,by show D.length<=3000;omega⟩,?_⟩
     dsimp only
     rw [Ag (by omega),<-c8]
     refine ⟨rfl,rfl,rfl,rfl,rfl,rfl,rfl,rfl,rfl,rfl,rfl,rfl,⟨rfl,rfl,rfl,rfl,i+1,rfl,hi,g7.add dJ hyl (by omega) nr ⟨by omega,by omega⟩,rfl,⟨A++ [Ab L0[k] (An p.2.2.1 ls[i])],by rw [g9,List.append_assoc]⟩,⟨A'++ [D0[k]+1],by rw [WX,List.append_assoc]⟩,nQ⟩,by omega⟩
  ·have:i=ls.length:=by omega
   subst this
   rw [List.drop_length,Ht] at nQ
   have:=hgo _ _ _ nQ.symm
   rw [if_pos rfl] at this
   rw [Ag (by omega)]
   refine ⟨rfl,rfl,rfl,rfl,rfl,rfl,rfl,rfl,rfl,rfl,rfl,rfl,⟨rfl,rfl,rfl,rfl,k+1,rfl,by rw [g9,List.length_append];omega,g7,rfl,?_⟩,by omega⟩
   rw [show 3001-(k+1)=f by omega]
   exact this.symm
 ·have hk:k=L0.length:=by omega
  rw [Bb L0,Bb D0,Bb (Zi L0)]
  obtain ⟨f,hf⟩: ∃f,3001-k=f+1:=⟨3000-k,by omega⟩
  rw [hf,Me,if_neg (by omega)] at h9
  unfold Mq
  rw [<-h9]
theorem AR:Sound Tryz.prog 131 fM:=
 Sound.Cg VE (Ae Rf (Er HB (Ae cK (Ae kC (Ae xj Ai))))) mixed Tryz.func131 (by kernel_rfl) (by kernel_rfl) λx h=>YK x.1 x.2.1 h
end Go.Proofs.YtfolipnappekaaaGreat

namespace Go.Proofs.YtfolipnappekaaaGreat
open Go.RowKit
noncomputable def Cz (p:PP) (t:List Int):Bool:=Bx p&&Ui p.1 t
noncomputable def Dh (p:PP) (t:List Int):Bool:=Cz p t&&(Gk p.2.2.1 t).2.2
noncomputable abbrev Ev:Spec:=Cg (.pair Cp (.pair tL .unit)) .bool false true (λx=>Ck x.1/\short x.2.1) (λx=>Cz x.1 x.2.1)
noncomputable def Ko (p:PP) (t:List Int):SS:=if Cz p t=true then Mq p.2.2.1 t else ([],[],[],false,())
noncomputable abbrev Qc:Spec:=Cg (.pair Cp (.pair tL .unit)) (.pair fP (.pair .bool .unit)) true false (λx=>Ck x.1/\short x.2.1) (λx=>(Ko x.1 x.2.1,Dh x.1 x.2.1,()))
noncomputable abbrev Mv:Spec:=Cg (.pair cU .unit) cU false true (λx=>Ff x.1) (λx=>x.1)
noncomputable def Dy (p:PP) (t:List Int):TT:=if Dh p t=true then (t,(Gk p.2.2.1 t).1,(Gk p.2.2.1 t).2.1,()) else ([],[],[],())
noncomputable abbrev Qd:Spec:=Cg (.pair Cp (.pair tL .unit)) (.pair Gz (.pair .bool .unit)) true true (λx=>Ck x.1/\short x.2.1) (λx=>(Dy x.1 x.2.1,Dh x.1 x.2.1,()))
noncomputable abbrev Td:MSpec:=jf [some 3,none] [(false, .Dn tI),(false, .Dn .str),(false, .Dn cU),(false, .Dn tL)] true [none,none,none] [xLL,rL, .Dn .bool]
 (λx=>Cz (x.1,x.2.1,x.2.2.1,()) x.2.2.2.1=true) (λx=>(((Dy (x.1,x.2.1,x.2.2.1,()) x.2.2.2.1).2.1,(Dy (x.1,x.2.1,x.2.2.1,()) x.2.2.2.1).2.2.1,Dh (x.1,x.2.1,x.2.2.1,()) x.2.2.2.1,()),()))
noncomputable abbrev Tf:MSpec:=jf [some 3,none] [(false, .Dn tI),(false, .Dn .str),(false, .Dn cU),(false, .Dn tL)] true [none,none,none] [xLL,rL, .Dn .bool]
 (λx=>Ck (x.1,x.2.1,x.2.2.1,())/\short x.2.2.2.1) (λx=>(((Dy (x.1,x.2.1,x.2.2.1,()) x.2.2.2.1).2.1,(Dy (x.1,x.2.1,x.2.2.1,()) x.2.2.2.1).2.2.1,Dh (x.1,x.2.1,x.2.2.1,()) x.2.2.2.1,()),()))
noncomputable abbrev Qa:MSpec:=jf [some 3,none] [(false, .Dn tI),(false, .Dn .str),(false, .Dn cU),(false, .Dn tL)] true [some 3,none] [rL,xLL,rL, .Dn .bool]
 (λx=>Ck (x.1,x.2.1,x.2.2.1,())/\short x.2.2.2.1) (λx=>(((Dy (x.1,x.2.1,x.2.2.1,()) x.2.2.2.1).1,(Dy (x.1,x.2.1,x.2.2.1,()) x.2.2.2.1).2.1,(Dy (x.1,x.2.1,x.2.2.1,()) x.2.2.2.1).2.2.1,Dh (x.1,x.2.1,x.2.2.1,()) x.2.2.2.1,()),()))
noncomputable def Dj (p:PP) (t:TT):Bool:=Dh p t.1&&Kn (Dy p t.1) t
noncomputable abbrev Lg:Spec:=Cg (.pair Cp (.pair Gz .unit)) .bool false true (λx=>Ck x.1/\Lc x.2.1) (λx=>Dj x.1 x.2.1)
abbrev th:Ty:= .slice Gz
def Ew (ts:List TT):Prop:=ts.length<=4294967296/\ ∀t∈ts,Lc t
noncomputable def De (p:PP) (ts:List TT):Bool:=Bx p&&decide (ts.length<=4)&&List.all ts (Dj p)
noncomputable abbrev Gy:Spec:=Cg (.pair Cp (.pair th .unit)) .bool false true (λx=>Ck x.1/\Ew x.2.1) (λx=>De x.1 x.2.1)
abbrev Aim:Ty:= .clo 86 (.pair (.ptr Cp) .unit)
noncomputable abbrev uT:Spec:=Cg (.pair Gz (.pair (.ptr Cp) .unit)) .bool false true (λx=>Lc x.1/\Ck x.2.1) (λx=>!Dj x.2.1 x.1)
def Mo (q:TT->Bool):List TT->Int->Int
 | [],_=> -1
 |t::ts,k=>if q t=true then k else Mo q ts (k+1)
noncomputable abbrev ma:Spec:=Cg (.pair th (.pair Aim .unit)) tI false true (λx=>Ew x.1/\Ck x.2.1.1) (λx=>Mo (λt=>!Dj x.2.1.1 t) x.1 0)
noncomputable abbrev m6:Spec:=Cg (.pair th (.pair Aim .unit)) .bool false true (λx=>Ew x.1/\Ck x.2.1.1) (λx=>List.any x.1 (λt=>!Dj x.2.1.1 t))
def my:List TT->Int->Int
 | [],room=>room
 |t::ts,room=>if Nh t room<0 then-1 else my ts (Nh t room)
def EU (ts:List TT) (room:Int):Int:=if room-ts.length<0 then-1 else my ts (room-ts.length)
noncomputable abbrev mc:Spec:=Cg (.pair th (.pair tI .unit)) tI false true (λx=>Ew x.1/\roomy x.2.1) (λx=>EU x.1 x.2.1)
noncomputable abbrev ey:Spec:=Cg (.pair th .unit) th false true (λx=>Ew x.1) (λx=>x.1)
noncomputable abbrev m7:Spec:=Cg (.pair th (.pair th .unit)) .bool false true (λx=>Ew x.1) (λx=>decide (x.1=x.2.1))
theorem tz (p:Int×ByteArray×List (List Int)×Unit) (t:List Int) (P:Bool->Prop):(∃(y3:Bool),Ec.fn ((p.1,p.2.1,p.2.2.1,()),())=some y3/\Br y3 (∃(y4:Bool),Fv.fn (p.1,t,())=some y4/\P y4) (P false))=fnW Cd (look [(84,Ec),(159,Fv)]) Ev Tryz.f151 (p,t,()) P:=by kernel_rfl
theorem tF (p:Int×ByteArray×List (List Int)×Unit) (t:List Int) (P:Bool->Prop):(∃(y3:Bool),Ec.fn ((p.1,p.2.1,p.2.2.1,()),())=some y3/\Br y3 (∃(y4:Bool),Fv.fn (p.1,t,())=some y4/\P y4) (P false))=fnW Cd (look [(93,Ec),(160,Fv)]) Ev Tryz.f155 (p,t,()) P:=by kernel_rfl
theorem BW (p:Int×ByteArray×List (List Int)×Unit) (t:List Int) (P:((List (List Int)×List Int×List Int×Bool×Unit)×Bool×Unit)->Prop):(∃(y3:Bool),Ev.fn ((p.1,p.2.1,p.2.2.1,()),t,())=some y3/\Br (!y3) (P ((List.take 0 (List.drop 0 []),List.take 0 (List.drop 0 []),List.take 0 (List.drop 0 []),false,()),false,())) (∃(y4:List (List Int)×List Int×List Int×Bool×PUnit),fM.fn ((p.1,p.2.1,p.2.2.1,()),t,())=some y4/\((P ((y4.1,y4.2.1,y4.2.2.1,y4.2.2.2.1,()),y4.2.2.2.1,())/\P ((y4.1,y4.2.1,y4.2.2.1,y4.2.2.2.1,()),y4.2.2.2.1,()))/\P ((y4.1,y4.2.1,y4.2.2.1,y4.2.2.2.1,()),y4.2.2.2.1,()))/\(P ((y4.1,y4.2.1,y4.2.2.1,y4.2.2.2.1,()),y4.2.2.2.1,())/\P ((y4.1,y4.2.1,y4.2.2.1,y4.2.2.2.1,()),y4.2.2.2.1,()))/\P ((y4.1,y4.2.1,y4.2.2.1,y4.2.2.2.1,()),y4.2.2.2.1,())))=fnW Cd (look [(155,Ev),(131,fM)]) Qc Tryz.f142 (p,t,()) P:=by kernel_rfl
theorem BM (l:List (List Int)) (P:List (List Int)->Prop):(0=0/\0=([]:List Int).length/\Bk (λ(v2:Int×List (List Int)×PUnit) (k3:Int×List (List Int)×PUnit->Prop)=>Br (decide (v2.1<(↑l.length:Int))) (∃(y4:List Int),idx l v2.1=some y4/\ ∃(y5:List Int),Fm.fn (y4,())=some y5/\0=0/\v2.2.1.length=v2.2.1.length/\v2.2.1.length+(List.take 1 (List.drop 0 [y5])).length<=Be/\0=0/\(v2.2.1++List.take 1 (List.drop 0 [y5])).length=(v2.2.1++List.take 1 (List.drop 0 [y5])).length/\k3 (IntKind.i64.wrap (v2.1+(1:Int)),v2.2.1++List.take 1 (List.drop 0 [y5]),())) (P (List.take v2.2.1.length (List.drop 0 v2.2.1)))) ((0:Int),[],PUnit.unit))=fnW Cd (look [(116,Fm)]) Mv Tryz.f143 (l,()) P:=by kernel_rfl
theorem BX (p:Int×ByteArray×List (List Int)×Unit) (t:List Int) (P:((List Int×List (List Int)×List Int×Unit)×Bool×Unit)->Prop):(∃(y3:(List (List Int)×List Int×List Int×Bool×PUnit)×Bool×PUnit),Qc.fn ((p.1,p.2.1,p.2.2.1,()),t,())=some y3/\Br (!y3.2.1) (P ((List.take 0 (List.drop 0 []),List.take 0 (List.drop 0 []),List.take 0 (List.drop 0 []),()),false,())) (∃(y4:List Int),Fm.fn (t,())=some y4/\ ∃(y5:List (List Int)),Mv.fn (y3.1.1,())=some y5/\ ∃(y6:List Int),Fm.fn (y3.1.2.1,())=some y6/\P ((y4,y5,y6,()),true,())))=fnW Cd (look [(142,Qc),(116,Fm),(143,Mv)]) Qd Tryz.f125 (p,t,()) P:=by kernel_rfl
abbrev Zk:Type:=Int×List (List Int)×List (List Int)×List Int×(ByteArray->Option Bool)×PUnit
abbrev nE:Type:=Int×Int×ByteArray×List (List Int)×List (List Int)×List (List Int)×List Int×(ByteArray->Option Bool)×PUnit
theorem HY (n:Int) (str:ByteArray) (g:List (List Int)) (t:List Int) (P:((List (List Int)×List Int×Bool×Unit)×Unit)->Prop):(∃(y5:(List Int×PUnit)×PUnit),Xu.fn (t,())=some y5/\ ∃(y6:ByteArray),Ge.fn (t,())=some y6/\ ∃(y7:List Int),Hs.fn ((↑g.length:Int),())=some y7/\0=0/\1= [List.take y5.1.1.length (List.drop 0 y5.1.1)].length/\0=0/\1= [(0:Int)].length/\0=0/\0=([]:List Int).length/\Bk (λ(v8:nE) (k9:nE->Prop)=>Br (decide (v8.1<(↑y7.length:Int))) (∃(Jf:Int),idx y7 v8.1=some Jf/\ ∃(kZ:List Int),Gx.fn (v8.2.2.2.1,Jf,())=some kZ/\0=0/\v8.2.2.2.2.1.length=v8.2.2.2.2.1.length/\v8.2.2.2.2.1.length+(List.take 1 (List.drop 0 [kZ])).length<=Be/\0=0/\v8.2.2.2.2.2.1.length=v8.2.2.2.2.2.1.length/\0=0/\v8.2.2.2.2.2.2.1.length=v8.2.2.2.2.2.2.1.length/\0=0/\(v8.2.2.2.2.1++List.take 1 (List.drop 0 [kZ])).length=(v8.2.2.2.2.1++List.take 1 (List.drop 0 [kZ])).length/\k9 (IntKind.i64.wrap (v8.1+(1:Int)),v8.2.1,v8.2.2.1,v8.2.2.2.1,v8.2.2.2.2.1++List.take 1 (List.drop 0 [kZ]),v8.2.2.2.2.2.1,v8.2.2.2.2.2.2.1,v8.2.2.2.2.2.2.2.1,())) (0=0/\v8.2.2.2.2.2.1.length=v8.2.2.2.2.2.1.length/\0=0/\v8.2.2.2.2.2.2.1.length=v8.2.2.2.2.2.2.1.length/\0=0/\v8.2.2.2.2.1.length=v8.2.2.2.2.1.length/\Bk (λ(v10:Zk) (k11:Zk->Prop)=>Br (decide (v10.1<(↑v10.2.2.1.length:Int))) (0=0/\v10.2.2.1.length=v10.2.2.1.length/\0=0/\v10.2.2.2.1.length=v10.2.2.2.1.length/\0=0/\v10.2.1.length=v10.2.1.length/\0=0/\v10.2.1.length=v10.2.1.length/\Bk (λ(Jo:Zk) (k13:Zk->Prop)=>Br (decide (Jo.1<(↑v10.2.1.length:Int))) (((0:Int)<=Jo.1/\Jo.1<(↑Jo.2.1.length:Int))/\ ∃(Fz:List Int),Jo.2.1[0+Jo.1.toNat]?=some Fz/\((0:Int)<=v10.1/\v10.1<(↑Jo.2.2.1.length:Int))/\ ∃(Lr:List Int),Jo.2.2.1[0+v10.1.toNat]?=some Lr/\ ∃(Rt:(List Int×PUnit)×PUnit),Wo.fn (Fz,Lr,())=some Rt/\ ∃(Vg:ByteArray),Ge.fn (List.take Rt.1.1.length (List.drop 0 Rt.1.1),())=some Vg/\Br (!(Jo.2.2.2.2.1 Vg).getD false) (Br ((↑Jo.2.2.1.length:Int)==(3000:Int)) (P ((List.take 0 (List.drop 0 []),List.take 0 (List.drop 0 []),false,()),())) (0=0/\Jo.2.2.1.length=Jo.2.2.1.length/\Jo.2.2.1.length+(List.take 1 (List.drop 0 [List.take Rt.1.1.length (List.drop 0 Rt.1.1)])).length<=Be/\((0:Int)<=v10.1/\v10.1<(↑Jo.2.2.2.1.length:Int))/\ ∃(Rx:Int),Jo.2.2.2.1[0+v10.1.toNat]?=some Rx/\0=0/\Jo.2.2.2.1.length=Jo.2.2.2.1.length/\Jo.2.2.2.1.length+(List.take 1 (List.drop 0 [IntKind.i64.wrap (Rx+(1:Int))])).length<=Be/\0=0/\(Jo.2.2.1++List.take 1 (List.drop 0 [List.take Rt.1.1.length (List.drop 0 Rt.1.1)])).length=(Jo.2.2.1++List.take 1 (List.drop 0 [List.take Rt.1.1.length (List.drop 0 Rt.1.1)])).length/\0=0/\(Jo.2.2.2.1++List.take 1 (List.drop 0 [IntKind.i64.wrap (Rx+(1:Int))])).length=(Jo.2.2.2.1++List.take 1 (List.drop 0 [IntKind.i64.wrap (Rx+(1:Int))])).length/\0=0/\Jo.2.1.length=Jo.2.1.length/\0=0/\Jo.2.1.length=Jo.2.1.length/\k13 (IntKind.i64.wrap (Jo.1+(1:Int)),Jo.2.1,Jo.2.2.1++List.take 1 (List.drop 0 [List.take Rt.1.1.length (List.drop 0 Rt.1.1)]),Jo.2.2.2.1++List.take 1 (List.drop 0 [IntKind.i64.wrap (Rx+(1:Int))]),eN Jo.2.2.2.2.1 Vg true,()))) (0=0/\Jo.2.2.1.length=Jo.2.2.1.length/\0=0/\Jo.2.2.2.1.length=Jo.2.2.2.1.length/\0=0/\Jo.2.1.length=Jo.2.1.length/\0=0/\Jo.2.1.length=Jo.2.1.length/\k13 (IntKind.i64.wrap (Jo.1+(1:Int)),Jo.2.1,Jo.2.2.1,Jo.2.2.2.1,Jo.2.2.2.2.1,()))) (0=0/\Jo.2.2.1.length=Jo.2.2.1.length/\0=0/\Jo.2.2.2.1.length=Jo.2.2.2.1.length/\0=0/\Jo.2.1.length=Jo.2.1.length/\k11 (IntKind.i64.wrap (v10.1+(1:Int)),Jo.2.1,Jo.2.2.1,Jo.2.2.2.1,Jo.2.2.2.2.1,()))) ((0:Int),v10.2.1,v10.2.2.1,v10.2.2.2.1,v10.2.2.2.2.1,PUnit.unit)) (P ((List.take v10.2.2.1.length (List.drop 0 v10.2.2.1),List.take v10.2.2.2.1.length (List.drop 0 v10.2.2.2.1),true,()),()))) ((0:Int),v8.2.2.2.2.1,v8.2.2.2.2.2.1,v8.2.2.2.2.2.2.1,v8.2.2.2.2.2.2.2.1,PUnit.unit))) ((0:Int),n,str,g,[],[List.take y5.1.1.length (List.drop 0 y5.1.1)],[(0:Int)],eN (λ(_:ByteArray)=>none) y6 true,PUnit.unit))=fnMW (HK [Ut+10]) (look [(138,Xu),(79,Ge),(106,Hs),(122,Gx),(80,Wo)]) Td Tryz.f152 (n,str,g,t,()) P:=by kernel_rfl
theorem IA (n:Int) (str:ByteArray) (g:List (List Int)) (t:List Int) (P:((List (List Int)×List Int×Bool×Unit)×Unit)->Prop):(∃(y5:Bool),Ev.fn ((n,str,g,()),t,())=some y5/\Br (!y5) (P ((List.take 0 (List.drop 0 []),List.take 0 (List.drop 0 []),false,()),())) (∃(y6:(List (List Int)×List Int×Bool×PUnit)×PUnit),Td.fn (n,str,g,t,())=some y6/\P ((List.take y6.1.1.length (List.drop 0 y6.1.1),List.take y6.1.2.1.length (List.drop 0 y6.1.2.1),y6.1.2.2.1,()),())))=fnMW j9 (look [(151,Ev),(152,Td)]) Tf Tryz.f137 (n,str,g,t,()) P:=by kernel_rfl
theorem BP (n:Int) (str:ByteArray) (g:List (List Int)) (t:List Int) (P:((List Int×List (List Int)×List Int×Bool×Unit)×Unit)->Prop):(∃(y5:(List (List Int)×List Int×Bool×PUnit)×PUnit),Tf.fn (n,str,g,t,())=some y5/\Br (!y5.1.2.2.1) (P ((List.take 0 (List.drop 0 []),List.take 0 (List.drop 0 []),List.take 0 (List.drop 0 []),false,()),())) (∃(y6:(List Int×PUnit)×PUnit),Xu.fn (t,())=some y6/\P ((List.take y6.1.1.length (List.drop 0 y6.1.1),List.take y5.1.1.length (List.drop 0 y5.1.1),List.take y5.1.2.1.length (List.drop 0 y5.1.2.1),true,()),())))=fnMW j9 (look [(137,Tf),(138,Xu)]) Qa Tryz.f113 (n,str,g,t,()) P:=by kernel_rfl
theorem xL (p:Int×ByteArray×List (List Int)×Unit) (t:List Int×List (List Int)×List Int×Unit) (P:Bool->Prop):(∃(y3:(List Int×List (List Int)×List Int×Bool×PUnit)×PUnit),Qa.fn (p.1,p.2.1,p.2.2.1,t.1,())=some y3/\Br y3.1.2.2.2.1 (∃(y4:Bool),Ep.fn ((List.take y3.1.1.length (List.drop 0 y3.1.1),List.take y3.1.2.1.length (List.drop 0 y3.1.2.1),List.take y3.1.2.2.1.length (List.drop 0 y3.1.2.2.1),()),(t.1,t.2.1,t.2.2.1,()),())=some y4/\P y4) (P false))=fnW Cd (look [(113,Qa),(114,Ep)]) Lg Tryz.f87 (p,t,()) P:=by kernel_rfl
theorem xP (p:Int×ByteArray×List (List Int)×Unit) (t:List Int×List (List Int)×List Int×Unit) (P:Bool->Prop):(∃(y3:(List Int×List (List Int)×List Int×PUnit)×Bool×PUnit),Qd.fn ((p.1,p.2.1,p.2.2.1,()),t.1,())=some y3/\Br y3.2.1 (∃(y4:Bool),Ep.fn ((y3.1.1,y3.1.2.1,y3.1.2.2.1,()),(t.1,t.2.1,t.2.2.1,()),())=some y4/\P y4) (P false))=fnW Cd (look [(125,Qd),(126,Ep)]) Lg Tryz.f94 (p,t,()) P:=by kernel_rfl
theorem Aj2 (t:List Int×List (List Int)×List Int×Unit) (p:Int×ByteArray×List (List Int)×Unit) (P:Bool->Prop):(∃(y3:Bool),Lg.fn (p,(t.1,t.2.1,t.2.2.1,()),())=some y3/\P !y3)=fnW Cd (look [(87,Lg)]) uT Tryz.f86 (t,p,()) P:=by kernel_rfl
theorem Aek (ts:List (List Int×List (List Int)×List Int×Unit)) (c:(Int×ByteArray×List (List Int)×Unit)×Unit) (P:Int->Prop):(Bk (λ(v3:Int×PUnit) (k4:Int×PUnit->Prop)=>Br (decide (v3.1<(↑ts.length:Int))) (∃(y5:List Int×List (List Int)×List Int×PUnit),idx ts v3.1=some y5/\ ∃(y6:Bool),uT.fn (y5,c.1,())=some y6/\Br y6 (P v3.1) (k4 (IntKind.i64.wrap (v3.1+(1:Int)),()))) (P (-1:Int))) ((0:Int),PUnit.unit))=fnW Cd (look [(86,uT)]) ma Tryz.f112 (ts,c,()) P:=by kernel_rfl
theorem Aee (ts:List (List Int×List (List Int)×List Int×Unit)) (c:(Int×ByteArray×List (List Int)×Unit)×Unit) (P:Bool->Prop):(∃(y3:Int),ma.fn (ts,c,())=some y3/\P (decide (y3>=(0:Int))))=fnW Cd (look [(112,ma)]) m6 Tryz.f85 (ts,c,()) P:=by kernel_rfl
theorem rM (p:Int×ByteArray×List (List Int)×Unit) (ts:List (List Int×List (List Int)×List Int×Unit)) (P:Bool->Prop):(∃(y3:Bool),Ec.fn ((p.1,p.2.1,p.2.2.1,()),())=some y3/\Br y3 (Br (decide ((↑ts.length:Int)<=(4:Int))) (∃(y4:Bool),m6.fn (ts,((p.1,p.2.1,p.2.2.1,()),()),())=some y4/\P !y4) (P false)) (P false))=fnW Cd (look [(84,Ec),(85,m6)]) Gy Tryz.f63 (p,ts,()) P:=by kernel_rfl
abbrev cL:Type:=Int×Int×ByteArray×List (List Int)×PUnit
theorem rO (p:Int×ByteArray×List (List Int)×Unit) (ts:List (List Int×List (List Int)×List Int×Unit)) (P:Bool->Prop):(∃(y3:Bool),Ec.fn ((p.1,p.2.1,p.2.2.1,()),())=some y3/\Br (!y3) (P false) (Br (decide ((↑ts.length:Int)>(4:Int))) (P false) (Bk (λ(v4:cL) (k5:cL->Prop)=>Br (decide (v4.1<(↑ts.length:Int))) (∃(y6:List Int×List (List Int)×List Int×PUnit),idx ts v4.1=some y6/\ ∃(y7:Bool),Lg.fn ((v4.2.1,v4.2.2.1,v4.2.2.2.1,()),y6,())=some y7/\Br (!y7) (P false) (k5 (IntKind.i64.wrap (v4.1+(1:Int)),v4.2.1,v4.2.2.1,v4.2.2.2.1,()))) (P true)) ((0:Int),p.1,p.2.1,p.2.2.1,PUnit.unit))))=fnW Cd (look [(93,Ec),(94,Lg)]) Gy Tryz.f72 (p,ts,()) P:=by kernel_rfl
theorem Aeq (ts:List (List Int×List (List Int)×List Int×Unit)) (k:Int) (P:Int->Prop):(Br (decide (IntKind.i64.wrap (k-(↑ts.length:Int))<(0:Int))) (P (-1:Int)) (Bk (λ(v3:Int×Int×PUnit) (k4:Int×Int×PUnit->Prop)=>Br (decide (v3.2.1<(↑ts.length:Int))) (∃(y5:List Int×List (List Int)×List Int×PUnit),idx ts v3.2.1=some y5/\ ∃(y6:Int),Wr.fn (y5,v3.1,())=some y6/\Br (decide (y6<(0:Int))) (P (-1:Int)) (k4 (y6,IntKind.i64.wrap (v3.2.1+(1:Int)),()))) (P v3.1)) (IntKind.i64.wrap (k-(↑ts.length:Int)),(0:Int),PUnit.unit)))=fnW Cd (look [(46,Wr)]) mc Tryz.f14 (ts,k,()) P:=by kernel_rfl
abbrev KL:Type:=Int×List (List Int×List (List Int)×List Int×PUnit)×PUnit
abbrev KN:Type:=List Int×List (List Int)×List Int×PUnit
theorem Aes (ts:List (List Int×List (List Int)×List Int×Unit)) (P:List (List Int×List (List Int)×List Int×Unit)->Prop):(((0:Int)<=(↑ts.length:Int)/\(↑ts.length:Int)<(↑Be:Int)+(1:Int))/\(↑ts.length:Int)=(↑ts.length:Int)/\0=0/\(List.replicate (↑ts.length:Int).toNat (([]:List Int),([]:List (List Int)),([]:List Int),())).length=(List.replicate (↑ts.length:Int).toNat (([]:List Int),([]:List (List Int)),([]:List Int),())).length/\Bk (λ(v2:KL) (k3:KL->Prop)=>Br (decide (v2.1<(↑ts.length:Int))) (∃(y4:KN),idx ts v2.1=some y4/\ ∃(y5:KN),Wt.fn (y4,())=some y5/\((0:Int)<=v2.1/\v2.1<(↑v2.2.1.length:Int))/\0+v2.1.toNat<v2.2.1.length/\0=0/\v2.2.1.length=(v2.2.1.set (0+v2.1.toNat) y5).length/\k3 (IntKind.i64.wrap (v2.1+(1:Int)),v2.2.1.set (0+v2.1.toNat) y5,())) (P (List.take v2.2.1.length (List.drop 0 v2.2.1)))) ((0:Int),List.replicate (↑ts.length:Int).toNat (([]:List Int),([]:List (List Int)),([]:List Int),()),PUnit.unit))=fnW Cd (look [(50,Wt)]) ey Tryz.f17 (ts,()) P:=by kernel_rfl
abbrev KJ:Type:=List Int×List (List Int)×List Int×PUnit
theorem Aeh (a b:List (List Int×List (List Int)×List Int×Unit)) (P:Bool->Prop):(Br ((↑a.length:Int) !=(↑b.length:Int)) (P false) (Bk (λ(v3:Int×PUnit) (k4:Int×PUnit->Prop)=>Br (decide (v3.1<(↑a.length:Int))) (∃(y5:KJ),idx a v3.1=some y5/\ ∃(y6:KJ),idx b v3.1=some y6/\ ∃(y7:Bool),Ep.fn (y5,y6,())=some y7/\Br (!y7) (P false) (k4 (IntKind.i64.wrap (v3.1+(1:Int)),()))) (P true)) ((0:Int),PUnit.unit)))=fnW Cd (look [(54,Ep)]) m7 Tryz.f21 (a,b,()) P:=by kernel_rfl
theorem pb {p:PP} (hV:Valid p) {m:Nat} {x:List Int} {d:Int} (hx: ∀y∈x,0<=y/\y<p.1) (RX:x.length=m): ∀(ls:List Int) (L:List (List Int)) (D:List Int),(∀l∈ls,Es (List.length p.2.2.1) l)->
  Vh p m L D->(0<=d/\d<L.length)->Vh p m (Ht p.2.2.1 x d ls L D).1 (Ht p.2.2.1 x d ls L D).2.1/\(∃A,(Ht p.2.2.1 x d ls L D).1=L++A)/\(∃A,(Ht p.2.2.1 x d ls L D).2.1=D++A)
 | [],L,D,_,h,_=>⟨h,⟨[],by simp [Ht]⟩,⟨[],by simp [Ht]⟩⟩
 |l::ls,L,D,hl,h,hd=>by
  obtain ⟨n1,n2⟩:=wF hV hx (hl l (by simp))
  have Gt: ∀l∈ls,Es (List.length p.2.2.1) l:= λl' h'=>hl l' (List.mem_cons_of_mem _ h')
  simp only [Ht]
  split
  ·exact pb hV hx RX ls L D Gt h hd
  ·rename_i hn
   split
   ·exact ⟨h,⟨[],by simp⟩,⟨[],by simp⟩⟩
   ·rename_i hf
    have fY:=h.ok.se
    obtain ⟨k1,⟨A,k2⟩,⟨A',k3⟩⟩:=pb hV hx RX ls (L++ [Ab x (An p.2.2.1 l)]) (D++ [d+1]) Gt (h.add hn (by rw [n1,RX]) (by omega) n2 ⟨by omega,by omega⟩) ⟨hd.1,by rw [List.length_append];omega⟩
    exact ⟨k1,⟨_::A,by rw [k2,List.append_assoc];rfl⟩,⟨_::A',by rw [k3,List.append_assoc];rfl⟩⟩
theorem yo {p:PP} (hV:Valid p) {m:Nat} {ls:List Int} (hl: ∀l∈ls,Es (List.length p.2.2.1) l): ∀(f k:Nat) (L:List (List Int)) (D:List Int),Vh p m L D->
  Vh p m (Me p.2.2.1 ls f k L D).1 (Me p.2.2.1 ls f k L D).2.1/\(∃A,(Me p.2.2.1 ls f k L D).1=L++A)
 |0,k,L,D,h=>⟨h,⟨[],by simp [Me]⟩⟩
 |f+1,k,L,D,h=>by
  simp only [Me]
  split
  ·rename_i hk
   have WC:k<D.length:=by rw [h.len];exact hk
   have hd:=h.dep k WC
   have e:D.getD k 0=D[k]:=by rw [List.getD_eq_getElem?_getD,List.getElem?_eq_getElem WC];rfl
   rw [Uc hk,e]
   obtain ⟨k1,⟨A,k2⟩,_⟩:=pb hV (h.row _ (List.getElem_mem hk)) (h.ok.len _ (List.getElem_mem hk)) (d:=D[k]) ls L D hl h ⟨by omega,by omega⟩
   split
   ·rename_i L' D' he
    rw [he] at k1 k2
    obtain ⟨g1,⟨B,g2⟩⟩:=yo hV hl f (k+1) L' D' k1
    have k2:L'=L++A:=k2
    exact ⟨g1,⟨A++B,by rw [g2,k2,List.append_assoc]⟩⟩
   ·rename_i L' D' he
    rw [he] at k1 k2
    exact ⟨k1,⟨A,k2⟩⟩
  ·exact ⟨h,⟨[],by simp⟩⟩
theorem CW {p:PP} {s:List Int} (hv:Bx p=true) (hs:s.length<=20) (hr: ∀y∈s,0<=y/\y<p.1):Vh p s.length (Gk p.2.2.1 s).1 (Gk p.2.2.1 s).2.1/\ ∃A,(Gk p.2.2.1 s).1=s::A:=
 yo (valid hv) (λ_ hl=>Kp hl) _ _ _ _ (lk hs hr)
theorem Mw {p:PP} {t:List Int} :Cz p t=true↔Bx p=true/\Ui p.1 t=true:=by
 unfold Cz;rw [Bool.and_eq_true]
theorem Fe {p:PP} {t:List Int} (h:Cz p t=true):t.length<=20/\ ∀y∈t,0<=y/\y<p.1:=by
 obtain ⟨h1,h2⟩:=Mw.1 h
 have hn:=(valid h1).n
 obtain ⟨h3,h4⟩:=Dx.1 h2
 have hy: ∀y∈t,0<=y/\y<p.1:= λy hy=>by
  obtain ⟨j,hj,rfl⟩:=List.mem_iff_getElem.1 hy
  have:=h4 j hj hj
  omega
 refine ⟨?_,hy⟩
 have h5:=FW h4 (t.length-1) (by omega)
 have h6:=hy _ (List.getElem_mem (show t.length-1<t.length by omega))
 omega
theorem wR {p:PP} {t:List Int} (h:Cz p t=true):Vh p t.length (Gk p.2.2.1 t).1 (Gk p.2.2.1 t).2.1:=(CW (Mw.1 h).1 (Fe h).1 (Fe h).2).1
theorem aN {p:PP} {t:List Int} :Dh p t=true↔Cz p t=true/\(Gk p.2.2.1 t).2.2=true:=by
 unfold Dh;rw [Bool.and_eq_true]
theorem tN {p:PP} {m:Nat} {L:List (List Int)} {D:List Int} (h:Vh p m L D):Ff L/\short D:=by
 have h1:=h.ok.se
 have h2:=h.ok.short
 have h3:=h.len
 refine ⟨⟨by omega,λx hx=>?_⟩,by unfold short;omega⟩
 have:=h.ok.len x hx
 unfold short;omega
theorem mH {p:PP} {t:List Int} :Lc (Dy p t):=by
 unfold Dy
 split
 ·rename_i h
  have h1:=(aN.1 h).1
  have h2:=tN (wR h1)
  have h3:=(Fe h1).1
  exact ⟨show t.length<=4294967296 by omega,h2.1,h2.2⟩
 ·exact ⟨by simp [short],⟨by simp,λr hr=>by cases hr⟩,by simp [short]⟩
theorem sE (p:PP) (t:List Int) (h:Ck p/\short t):fnW Cd (look [(84,Ec),(159,Fv)]) Ev Tryz.f151 (p,t,()) (λ(z:Bool)=>z=Cz p t):=by
 refine Eq.mp (tz p t _) ⟨_,if_pos h.1,⟨λhv=>?_,λhv=>?_⟩⟩
 ·have hv:Bx p=true:=hv
  have hn:=(valid hv).n
  refine ⟨_,if_pos ⟨⟨by show 0<=p.1;omega,by show p.1<=4294967296;omega⟩,h.2⟩,?_⟩
  unfold Cz;rw [hv];rfl
 ·have hv:Bx p=false:=hv
  unfold Cz;rw [hv];rfl
theorem kH:Sound Tryz.prog 151 Ev:=
 Sound.Cg Bi (Ae Ti (Ae o9 Ai)) mixed Tryz.func151 (by kernel_rfl) (by kernel_rfl) λx h=>sE x.1 x.2.1 h
theorem sK (p:PP) (t:List Int) (h:Ck p/\short t):fnW Cd (look [(93,Ec),(160,Fv)]) Ev Tryz.f155 (p,t,()) (λ(z:Bool)=>z=Cz p t):=by
 refine Eq.mp (tF p t _) ⟨_,if_pos h.1,⟨λhv=>?_,λhv=>?_⟩⟩
 ·have hv:Bx p=true:=hv
  have hn:=(valid hv).n
  refine ⟨_,if_pos ⟨⟨by show 0<=p.1;omega,by show p.1<=4294967296;omega⟩,h.2⟩,?_⟩
  unfold Cz;rw [hv];rfl
 ·have hv:Bx p=false:=hv
  unfold Cz;rw [hv];rfl
theorem kL:Sound Tryz.prog 155 Ev:=
 Sound.Cg Bi (Ae Tj (Ae kI Ai)) mixed Tryz.func155 (by kernel_rfl) (by kernel_rfl) λx h=>sK x.1 x.2.1 h
theorem zW (p:PP) (t:List Int) (h:Ck p/\short t):fnW Cd (look [(155,Ev),(131,fM)]) Qc Tryz.f142 (p,t,()) (λ(z:SS×Bool×Unit)=>z=(Ko p t,Dh p t,())):=by
 refine Eq.mp (BW p t _) ⟨_,if_pos h,⟨λhn=>?_,λhn=>?_⟩⟩
 ·have hn:=Dk hn
  have e:Dh p t=false:=Bool.eq_false_iff.2 λhh=>hn (aN.1 hh).1
  unfold Ko
  rw [if_neg hn,e]
  rfl
 ·have hn:Cz p t=true:=Dl hn
  have e:Dh p t=(Gk p.2.2.1 t).2.2:=by unfold Dh;rw [hn,Bool.true_and]
  refine ⟨_,if_pos ⟨(Mw.1 hn).1,(Fe hn).1,(Fe hn).2⟩,?_⟩
  have key:(((Mq p.2.2.1 t).1,(Mq p.2.2.1 t).2.1,(Mq p.2.2.1 t).2.2.1,(Mq p.2.2.1 t).2.2.2.1,()),(Mq p.2.2.1 t).2.2.2.1,())=(Ko p t,Dh p t,()):=by
   unfold Ko
   rw [if_pos hn,e]
   rfl
  exact ⟨⟨⟨key,key⟩,key⟩,⟨key,key⟩,key⟩
theorem od:Sound Tryz.prog 142 Qc:=
 Sound.Cg Bi (Ae kL (Ae AR Ai)) mixed Tryz.func142 (by kernel_rfl) (by kernel_rfl) λx h=>zW x.1 x.2.1 h
theorem zM (l:List (List Int)) (h:Ff l):fnW Cd (look [(116,Fm)]) Mv Tryz.f143 (l,()) (λ(z:List (List Int))=>z=l):=by
 obtain ⟨h1,h2⟩:=h
 refine Eq.mp (BM l _) ⟨rfl,rfl,?_⟩
 refine Aj l.length (λv=>v.1) (λj v=>v.2.1=l.take j) rfl (by simp) ?_
 rintro j ⟨i,ys,⟨⟩⟩ K hj hi hR hK
 dsimp only at hi hR⊢
 subst hi hR
 refine Br.dec (λhl=>?_) λhl=>?_
 ·have hl:j<l.length:=by omega
  refine ⟨_,Aq hl,_,if_pos (h2 _ (List.getElem_mem hl)),rfl,rfl,?_,rfl,rfl,?_⟩
  ·show (List.take j l).length+1<=4294967296
   rw [List.length_take];omega
  ·rw [Ag (by omega)]
   refine hK hl _ rfl ?_
   show List.take j l++ [l[j]]=_
   rw [List.take_add_one,List.getElem?_eq_getElem hl];rfl
 ·have:j=l.length:=by omega
  subst this
  rw [Bb,List.take_length]
theorem o3:Sound Tryz.prog 143 Mv:=
 Sound.Cg Bi (Ae Rf Ai) mixed Tryz.func143 (by kernel_rfl) (by kernel_rfl) λx h=>zM x.1 h
theorem zX (p:PP) (t:List Int) (h:Ck p/\short t):fnW Cd (look [(142,Qc),(116,Fm),(143,Mv)]) Qd Tryz.f125 (p,t,()) (λ(z:TT×Bool×Unit)=>z=(Dy p t,Dh p t,())):=by
 refine Eq.mp (BX p t _) ⟨_,if_pos h,⟨λhn=>?_,λhn=>?_⟩⟩
 ·have hn:=Dk hn
  have hn: ¬Dh p t=true:=hn
  unfold Dy
  rw [if_neg hn,Bool.eq_false_iff.2 hn]
  rfl
 ·have hn:Dh p t=true:=Dl hn
  obtain ⟨h1,h2⟩:=aN.1 hn
  have h3:=tN (wR h1)
  have e:Ko p t=Mq p.2.2.1 t:=if_pos h1
  refine ⟨_,if_pos h.2,?_⟩
  show ∃y5:List (List Int),Mv.fn ((Ko p t).1,())=some y5/\ ∃y6:List Int,Fm.fn ((Ko p t).2.1,())=some y6/\((t,y5,y6,()),true,())=(Dy p t,Dh p t,())
  rw [e]
  refine ⟨_,if_pos h3.1,_,if_pos h3.2,?_⟩
  unfold Dy
  rw [if_pos hn,hn]
  rfl
theorem oe:Sound Tryz.prog 125 Qd:=
 Sound.Cg Bi (Ae od (Ae Rf (Ae o3 Ai))) mixed Tryz.func125 (by kernel_rfl) (by kernel_rfl) λx h=>zX x.1 x.2.1 h
def lb (m:ByteArray->Option Bool) (L:List (List Int)):Prop:= ∀q,cq q->(m (Rw q)).getD false=decide (q∈L)
theorem lb.add {m:ByteArray->Option Bool} {L:List (List Int)} {y:List Int} (h:lb m L) (hy:cq y):lb (eN m (Rw y) true) (L++ [y]):=by
 intro q hq
 unfold eN
 by_cases e:q=y
 ·subst e
  rw [if_pos rfl];simp
 ·rw [if_neg λhk=>e (key_inj hq hy hk),h q hq]
  simp [e]
theorem FP (n:Int) (str:ByteArray) (g:List (List Int)) (t:List Int) (h:Cz (n,str,g,()) t=true):
  fnMW (HK [Ut+10]) (look [(138,Xu),(79,Ge),(106,Hs),(122,Gx),(80,Wo)]) Td Tryz.f152 (n,str,g,t,()) (λ(z:(List (List Int)×List Int×Bool×Unit)×Unit)=>z=(((Dy (n,str,g,()) t).2.1,(Dy (n,str,g,()) t).2.2.1,Dh (n,str,g,()) t,()),())):=by
 obtain ⟨hv,_⟩:=Mw.1 h
 obtain ⟨ht,hr⟩:=Fe h
 have hV:=valid hv
 have fY:=hV.se
 have hn:=hV.n
 dsimp only at fY hn hr
 have hb0:=lk (p:=(n,str,g,())) ht hr
 have CJ:short t:=by unfold short;omega
 obtain ⟨ls,mU⟩: ∃ls,Af g.length=ls:=⟨_,rfl⟩
 have WH:ls.length<=16:=by rw [<-mU,Jl];omega
 have jO: ∀l∈ls,Es (List.length g) l:= λl hl=>Kp (mU▸hl)
 have EB:Me g ls 3001 0 [t] [0]=Gk g t:=by unfold Gk;rw [mU]
 have Aa0: ∀x:List Int,(∀y∈x,0<=y/\y<n)->cq x:= λx hx y hy=>by have:=hx y hy;omega
 have Agc: ∀L D ok,Gk g t=(L,D,ok)->(if ok=true then ((L,D,true,()),()) else ((([]:List (List Int)),([]:List Int),false,()),()))=(((Dy (n,str,g,()) t).2.1,(Dy (n,str,g,()) t).2.2.1,Dh (n,str,g,()) t,()),()):=by
  intro L D ok he
  have e1:Dh (n,str,g,()) t=ok:=by unfold Dh;rw [h,Bool.true_and];show (Gk g t).2.2=ok;rw [he]
  unfold Dy
  rw [e1]
  cases ok with
  |true=>rw [if_pos rfl,if_pos rfl];show ((L,D,true,()),())=(((Gk g t).1,(Gk g t).2.1,true,()),());rw [he]
  |false=>rw [if_neg (by decide),if_neg (by decide)]
 refine Eq.mp (HY n str g t _) ⟨_,if_pos CJ,_,if_pos CJ,ls,(if_pos ⟨by show (0:Int)<=((g.length:Nat):Int);omega,by show ((g.length:Nat):Int)<=8;omega⟩).trans (congrArg some (by show Af (((g.length:Nat):Int)).toNat=ls;rw [Int.toNat_natCast];exact mU)),rfl,rfl,rfl,rfl,rfl,rfl,?_⟩
 rw [Bb]
 refine Aj ls.length (λv=>v.1) (λj v=>v.2.1=n/\v.2.2.1=str/\v.2.2.2.1=g/\v.2.2.2.2.1=(ls.take j).map (An g)/\v.2.2.2.2.2.1= [t]/\v.2.2.2.2.2.2.1= [0]/\lb v.2.2.2.2.2.2.2.1 [t]) rfl
  ⟨rfl,rfl,rfl,by simp,rfl,rfl,λq hq=>?_⟩ ?_
 ·show (eN (λ_=>none) (Rw t) true (Rw q)).getD false=_
  unfold eN
  by_cases e:q=t
  ·subst e;rw [if_pos rfl];simp
  ·rw [if_neg λhk=>e (key_inj hq (Aa0 t hr) hk)];simp [e]
 rintro j ⟨i,n',Aij,g',mv,L1,D1,m1,⟨⟩⟩ K hj hi ⟨h1,h2,h3,h4,h5,h6,h7⟩ hK
 dsimp only at hi h1 h2 h3 h4 h5 h6 h7⊢
 subst hi h1 h2 h3 h4 h5 h6
 refine Br.dec (λhl=>?_) λhl=>⟨rfl,rfl,rfl,rfl,rfl,rfl,?_⟩
 ·have hl:j<ls.length:=by omega
  have lG:=jO _ (List.getElem_mem hl)
  refine ⟨_,Aq hl,_,if_pos ⟨lG,fY.2,hV.perm⟩,rfl,rfl,?_,rfl,rfl,rfl,rfl,rfl,rfl,?_⟩
  ·show (List.map (An g') (List.take j ls)).length+1<=4294967296
   rw [List.length_map,List.length_take];omega
  ·rw [Ag (by omega)]
   refine hK hl _ rfl ⟨rfl,rfl,rfl,?_,rfl,rfl,h7⟩
   show List.map (An g') (List.take j ls)++ [An g' ls[j]]=_
   rw [List.take_add_one,List.getElem?_eq_getElem hl,List.map_append];rfl
 ·have:j=ls.length:=by omega
  subst this
  rw [List.take_length]
  obtain ⟨ms,JJ⟩: ∃ms,ls.map (An g')=ms:=⟨_,rfl⟩
  have Ar7:ms.length=ls.length:=by rw [<-JJ,List.length_map]
  have Ama: ∀i (h:i<ls.length),ms[i]'(by omega)=An g' ls[i]:= λi h=>by simp only [<-JJ,List.getElem_map]
  rw [JJ]
  refine Bk.mk (λv=>v.2.1=ms/\ ∃k:Nat,v.1=k/\k<=v.2.2.1.length/\Vh (n',Aij,g',()) t.length v.2.2.1 v.2.2.2.1/\lb v.2.2.2.2.1 v.2.2.1/\Me g' ls (3001-k) k v.2.2.1 v.2.2.2.1=Gk g' t) (λv=>3001-v.1.toNat)
   ⟨rfl,0,rfl,by simp,hb0,h7,EB⟩ ?_
  rintro ⟨k',mv,L0,D0,mp,⟨⟩⟩ ⟨h1,k,h5,h6,h7,h8,h9⟩
  dsimp only at h1 h5 h6 h7 h8 h9
  subst h1 h5
  dsimp only
  have VY:=h7.ok.se
  have hD0:=h7.len
  refine Br.dec (λhl=>⟨rfl,rfl,rfl,rfl,rfl,rfl,rfl,rfl,?_⟩) λhl=>?_
  ·have hk:k<L0.length:=by omega
   have WC:k<D0.length:=by omega
   have hx: ∀y∈L0[k],0<=y/\y<n':=h7.row _ (List.getElem_mem hk)
   have RX:L0[k].length=t.length:=h7.ok.len _ (List.getElem_mem hk)
   have hdk:=h7.dep k WC
   obtain ⟨f,hf⟩: ∃f,3001-k=f+1:=⟨3000-k,by omega⟩
   have hgo: ∀L' D' ok,Ht g' L0[k] D0[k] ls L0 D0=(L',D',ok)->Gk g' t=if ok=true then Me g' ls f (k+1) L' D' else (L',D',false):=by
    intro L' D' ok he
    rw [<-h9,hf,Me,if_pos hk,Uc hk,List.getD_eq_getElem?_getD,List.getElem?_eq_getElem WC]
    simp only [Option.getD_some]
    rw [he]
    cases ok<;>rfl
   refine Bk.mk (λv=>v.2.1=mv/\ ∃i:Nat,v.1=i/\i<=ls.length/\Vh (n',Aij,g',()) t.length v.2.2.1 v.2.2.2.1/\lb v.2.2.2.2.1 v.2.2.1/\(∃A,v.2.2.1=L0++A)/\(∃A,v.2.2.2.1=D0++A)/\
     Ht g' L0[k] D0[k] (ls.drop i) v.2.2.1 v.2.2.2.1=Ht g' L0[k] D0[k] ls L0 D0) (λv=>ls.length-v.1.toNat)
    ⟨rfl,0,rfl,Nat.zero_le _,h7,h8,⟨[],by simp⟩,⟨[],by simp⟩,rfl⟩ ?_
   rintro ⟨i',mv',L,D,mp2,⟨⟩⟩ ⟨g1,i,g5,g6,g7,g8,⟨A,g9⟩,⟨A',WX⟩,nQ⟩
   dsimp only at g1 g5 g6 g7 g8 g9 WX nQ
   subst g1 g5
   dsimp only
   have hLf:=g7.ok.se
   have ZU:=g7.len
   refine Br.dec (λhli=>?_) λhli=>?_
   ·have hi:i<ls.length:=by omega
    have hkL:k<L.length:=by rw [g9,List.length_append];omega
    have hLk:L[k]=L0[k]:=by simp only [g9];exact List.getElem_append_left hk
    have Ac8:k<D.length:=by rw [ZU];exact hkL
    have hDk:D[k]=D0[k]:=by simp only [WX];exact List.getElem_append_left WC
    have lG:=jO _ (List.getElem_mem hi)
    obtain ⟨nl,nr⟩:=wF hV hx lG
    dsimp only at nl nr
    have LN:=fv hV lG
    dsimp only at LN
    rw [List.drop_eq_getElem_cons hi] at nQ
    simp only [Ht] at nQ
    have hyb:=Aa0 _ nr
    refine ⟨⟨by omega,by omega⟩,An g' ls[i],by rw [Int.toNat_natCast,Nat.zero_add,List.getElem?_eq_getElem (by omega),Ama i hi],⟨by omega,by omega⟩,L0[k],by rw [Int.toNat_natCast,Nat.zero_add,List.getElem?_eq_getElem hkL,hLk],
     _,if_pos ⟨by show short L0[k];unfold short;omega,by show Hz (An g' ls[i]).length L0[k];intro y hy;have:=hx y hy;omega⟩,?_⟩
    dsimp only
    rw [show Cb (An g' ls[i]) L0[k]=Ab L0[k] (An g' ls[i]) from rfl,Bb]
    generalize hyv:Ab L0[k] (An g' ls[i])=yv at*
    refine ⟨_,if_pos (by show short yv;unfold short;rw [nl];omega),?_⟩
    dsimp only
    rw [g8 _ hyb]
    refine ⟨λdJ=>?_,λdJ=>⟨rfl,rfl,rfl,rfl,rfl,rfl,rfl,rfl,?_⟩⟩
    ·have dJ:yv∉L:=by simpa using dJ
     rw [if_neg dJ] at nQ
     refine ⟨λUg=>?_,λUg=>⟨rfl,rfl,by show L.length+1<=4294967296;omega,⟨by omega,by omega⟩,D0[k],by rw [Int.toNat_natCast,Nat.zero_add,List.getElem?_eq_getElem Ac8,hDk],rfl,rfl,by show D.length+1<=4294967296;omega,rfl,rfl,rfl,rfl,rfl,rfl,rfl,rfl,?_⟩⟩
     ·have Ug:L.length=3000:=by
       have:(L.length:Int)=3000:=by simpa using Ug
       omega
      rw [if_pos Ug] at nQ
      have:=hgo _ _ _ nQ.symm
      rw [if_neg (by decide)] at this
      have:=Agc _ _ _ this
      rw [if_neg (by decide)] at this
      exact this
     ·have Ug:L.length≠3000:=by
       have:(L.length:Int)≠3000:=by simpa using Ug
       omega
      rw [if_neg Ug] at nQ
      rw [Bo (n:=D0[k]+1) (by omega) (by omega),Ag (by omega)]
      refine ⟨⟨rfl,i+1,rfl,hi,g7.add dJ (by rw [nl,RX]) (by omega) nr ⟨by omega,by omega⟩,g8.add hyb,⟨A++ [yv],by rw [g9,List.append_assoc];rfl⟩,⟨A'++ [D0[k]+1],by rw [WX,List.append_assoc];rfl⟩,nQ⟩,by omega⟩
    ·have dJ:yv∈L:=by simpa using dJ
     rw [if_pos dJ] at nQ
     rw [Ag (by omega)]
     exact ⟨⟨rfl,i+1,rfl,hi,g7,g8,⟨A,g9⟩,⟨A',WX⟩,nQ⟩,by omega⟩
   ·have:i=ls.length:=by omega
    subst this
    rw [List.drop_length,Ht] at nQ
    have:=hgo _ _ _ nQ.symm
    rw [if_pos rfl] at this
    rw [Ag (by omega)]
    refine ⟨rfl,rfl,rfl,rfl,rfl,rfl,⟨rfl,k+1,rfl,by rw [g9,List.length_append];omega,g7,g8,?_⟩,by omega⟩
    rw [show 3001-(k+1)=f by omega]
    exact this.symm
  ·have hk:k=L0.length:=by omega
   rw [Bb L0,Bb D0]
   obtain ⟨f,hf⟩: ∃f,3001-k=f+1:=⟨3000-k,by omega⟩
   rw [hf,Me,if_neg (by omega)] at h9
   have:=Agc _ _ _ h9.symm
   rw [if_pos rfl] at this
   exact this
theorem re:Ay Tryz.prog 152 Td:=
 Ay.jf (HL [Ut+10]) (Er kE (Ae Xz (Ae gV (Ae eB (Er sW Ai))))) mixed Tryz.func152 (by kernel_rfl) (by kernel_rfl) λx h=>FP x.1 x.2.1 x.2.2.1 x.2.2.2.1 h
theorem pc {p:PP} {t:List Int} (h: ¬Dh p t=true):Dy p t=([],[],[],()):=if_neg h
theorem FR (n:Int) (str:ByteArray) (g:List (List Int)) (t:List Int) (h:Ck (n,str,g,())/\short t):
  fnMW j9 (look [(151,Ev),(152,Td)]) Tf Tryz.f137 (n,str,g,t,()) (λ(z:(List (List Int)×List Int×Bool×Unit)×Unit)=>z=(((Dy (n,str,g,()) t).2.1,(Dy (n,str,g,()) t).2.2.1,Dh (n,str,g,()) t,()),())):=by
 refine Eq.mp (IA n str g t _) ⟨_,if_pos h,⟨λhn=>?_,λhn=>?_⟩⟩
 ·have hn: ¬Cz (n,str,g,()) t=true:=Dk hn
  have e: ¬Dh (n,str,g,()) t=true:= λhh=>hn (aN.1 hh).1
  rw [pc e,Bool.eq_false_iff.2 e]
  rfl
 ·have hn:Cz (n,str,g,()) t=true:=Dl hn
  refine ⟨_,if_pos hn,?_⟩
  rw [Bb,Bb]
theorem rh:Ay Tryz.prog 137 Tf:=
 Ay.jf eK (Ae kH (Er re Ai)) mixed Tryz.func137 (by kernel_rfl) (by kernel_rfl) λx h=>FR x.1 x.2.1 x.2.2.1 x.2.2.2.1 h
theorem zP (n:Int) (str:ByteArray) (g:List (List Int)) (t:List Int) (h:Ck (n,str,g,())/\short t):
  fnMW j9 (look [(137,Tf),(138,Xu)]) Qa Tryz.f113 (n,str,g,t,()) (λ(z:(List Int×List (List Int)×List Int×Bool×Unit)×Unit)=>z=(((Dy (n,str,g,()) t).1,(Dy (n,str,g,()) t).2.1,(Dy (n,str,g,()) t).2.2.1,Dh (n,str,g,()) t,()),())):=by
 refine Eq.mp (BP n str g t _) ⟨_,if_pos h,⟨λhn=>?_,λhn=>?_⟩⟩
 ·have e: ¬Dh (n,str,g,()) t=true:=Dk hn
  rw [pc e,Bool.eq_false_iff.2 e]
  rfl
 ·have e:Dh (n,str,g,()) t=true:=Dl hn
  refine ⟨_,if_pos h.2,?_⟩
  rw [Bb,Bb,Bb,e]
  have e2:(Dy (n,str,g,()) t).1=t:=by unfold Dy;rw [if_pos e]
  rw [e2]
theorem o6:Ay Tryz.prog 113 Qa:=
 Ay.jf eK (Er rh (Er kE Ai)) mixed Tryz.func113 (by kernel_rfl) (by kernel_rfl) λx h=>zP x.1 x.2.1 x.2.2.1 x.2.2.2.1 h
theorem wL (p:PP) (t:TT) (h:Ck p/\Lc t):fnW Cd (look [(113,Qa),(114,Ep)]) Lg Tryz.f87 (p,t,()) (λ(z:Bool)=>z=Dj p t):=by
 refine Eq.mp (xL p t _) ⟨_,if_pos ⟨h.1,h.2.1⟩,⟨λhn=>?_,λhn=>?_⟩⟩
 ·have e:Dh p t.1=true:=hn
  rw [Bb,Bb,Bb]
  refine ⟨_,if_pos mH,?_⟩
  unfold Dj
  rw [e];rfl
 ·have e:Dh p t.1=false:=hn
  unfold Dj
  rw [e];rfl
theorem mo:Sound Tryz.prog 87 Lg:=
 Sound.Cg Bi (Er o6 (Ae gh Ai)) mixed Tryz.func87 (by kernel_rfl) (by kernel_rfl) λx h=>wL x.1 x.2.1 h
theorem wP (p:PP) (t:TT) (h:Ck p/\Lc t):fnW Cd (look [(125,Qd),(126,Ep)]) Lg Tryz.f94 (p,t,()) (λ(z:Bool)=>z=Dj p t):=by
 refine Eq.mp (xP p t _) ⟨_,if_pos ⟨h.1,h.2.1⟩,⟨λhn=>?_,λhn=>?_⟩⟩
 ·have e:Dh p t.1=true:=hn
  refine ⟨_,if_pos mH,?_⟩
  unfold Dj
  rw [e];rfl
 ·have e:Dh p t.1=false:=hn
  unfold Dj
  rw [e];rfl
theorem mq:Sound Tryz.prog 94 Lg:=
 Sound.Cg Bi (Ae oe (Ae gm Ai)) mixed Tryz.func94 (by kernel_rfl) (by kernel_rfl) λx h=>wP x.1 x.2.1 h
theorem Aie (t:TT) (p:PP) (h:Lc t/\Ck p):fnW Cd (look [(87,Lg)]) uT Tryz.f86 (t,p,()) (λ(z:Bool)=>z=!Dj p t):=by
 exact Eq.mp (Aj2 t p _) ⟨_,if_pos ⟨h.2,h.1⟩,rfl⟩
theorem NZ:Sound Tryz.prog 86 uT:=
 Sound.Cg Bi (Ae mo Ai) mixed Tryz.func86 (by kernel_rfl) (by kernel_rfl) λx h=>Aie x.1 x.2.1 h
theorem Adr (ts:List TT) (c:PP×Unit) (h:Ew ts/\Ck c.1):fnW Cd (look [(86,uT)]) ma Tryz.f112 (ts,c,()) (λ(z:Int)=>z=Mo (λt=>!Dj c.1 t) ts 0):=by
 obtain ⟨⟨h1,h2⟩,h3⟩:=h
 refine Eq.mp (Aek ts c _) ?_
 refine Aj ts.length (λv=>v.1) (λj _=>Mo (λt=>!Dj c.1 t) (ts.drop j) j=Mo (λt=>!Dj c.1 t) ts 0) rfl (by simp) ?_
 rintro j ⟨i,⟨⟩⟩ K hj hi hR hK
 dsimp only at hi⊢
 subst hi
 refine Br.dec (λhl=>?_) λhl=>?_
 ·have hl:j<ts.length:=by omega
  rw [List.drop_eq_getElem_cons hl] at hR
  simp only [Mo] at hR
  refine ⟨_,Aq hl,_,if_pos ⟨h2 _ (List.getElem_mem hl),h3⟩,⟨λhe=>?_,λhe=>?_⟩⟩
  ·have he:(!Dj c.1 ts[j])=true:=he
   rw [if_pos he] at hR
   exact hR
  ·have he:(!Dj c.1 ts[j])=false:=he
   rw [if_neg (by rw [he];decide)] at hR
   rw [Ag (by omega)]
   exact hK hl _ rfl (by push_cast;exact hR)
 ·have:j=ts.length:=by omega
  subst this
  rw [List.drop_length] at hR
  exact hR
theorem GZ:Sound Tryz.prog 112 ma:=
 Sound.Cg Bi (Ae NZ Ai) mixed Tryz.func112 (by kernel_rfl) (by kernel_rfl) λx h=>Adr x.1 x.2.1 h
theorem pU (q:TT->Bool): ∀(ts:List TT) (k:Int),0<=k->decide (Mo q ts k>=0)=ts.any q
 | [],k,_=>by simp [Mo]
 |t::ts,k,hk=>by
  have ih:=pU q ts (k+1) (by omega)
  rw [List.any_cons]
  by_cases e:q t=true
  ·have e2:Mo q (t::ts) k=k:=if_pos e
   rw [e]
   exact decide_eq_true (by rw [e2];exact hk)
  ·have e2:Mo q (t::ts) k=Mo q ts (k+1):=if_neg e
   rw [Bool.eq_false_iff.2 e,Bool.false_or,<-ih]
   exact decide_eq_decide.2 (by rw [e2])
theorem Adl (ts:List TT) (c:PP×Unit) (h:Ew ts/\Ck c.1):fnW Cd (look [(112,ma)]) m6 Tryz.f85 (ts,c,()) (λ(z:Bool)=>z=List.any ts (λt=>!Dj c.1 t)):=by
 exact Eq.mp (Aee ts c _) ⟨_,if_pos h,pU _ ts 0 (Int.le_refl 0)⟩
theorem GU:Sound Tryz.prog 85 m6:=
 Sound.Cg Bi (Ae GZ Ai) mixed Tryz.func85 (by kernel_rfl) (by kernel_rfl) λx h=>Adl x.1 x.2.1 h
theorem yg (q:TT->Bool) (ts:List TT):(!List.any ts λt=>!q t)=List.all ts q:=by
 induction ts with
 |nil=>rfl
 |cons t ts ih=>simp only [List.any_cons,List.all_cons,<-ih];cases q t<;>simp
theorem qv (p:PP) (ts:List TT) (h:Ck p/\Ew ts):fnW Cd (look [(84,Ec),(85,m6)]) Gy Tryz.f63 (p,ts,()) (λ(z:Bool)=>z=De p ts):=by
 refine Eq.mp (rM p ts _) ⟨_,if_pos h.1,⟨λhv=>Br.dec (λhl=>⟨_,if_pos ⟨h.2,h.1⟩,?_⟩) λhl=>?_,λhv=>?_⟩⟩
 ·have hv:Bx p=true:=hv
  have hl:ts.length<=4:=by omega
  show (!List.any ts λt=>!Dj p t)=_
  rw [yg]
  unfold De
  rw [hv,decide_eq_true hl];rfl
 ·unfold De
  rw [decide_eq_false (by omega),Bool.and_false];rfl
 ·have hv:Bx p=false:=hv
  unfold De
  rw [hv];rfl
theorem j5:Sound Tryz.prog 63 Gy:=
 Sound.Cg Bi (Ae Ti (Ae GU Ai)) mixed Tryz.func63 (by kernel_rfl) (by kernel_rfl) λx h=>qv x.1 x.2.1 h
theorem qw (p:PP) (ts:List TT) (h:Ck p/\Ew ts):fnW Cd (look [(93,Ec),(94,Lg)]) Gy Tryz.f72 (p,ts,()) (λ(z:Bool)=>z=De p ts):=by
 refine Eq.mp (rO p ts _) ⟨_,if_pos h.1,⟨λhv=>?_,λhv=>Br.dec (λhl=>?_) λhl=>?_⟩⟩
 ·have hv:Bx p=false:=Bool.eq_false_iff.2 (Dk hv)
  unfold De
  rw [hv];rfl
 ·unfold De
  rw [decide_eq_false (by omega),Bool.and_false];rfl
 ·have hv:Bx p=true:=Dl hv
  have hl:ts.length<=4:=by omega
  have e:De p ts=List.all ts (Dj p):=by
   unfold De
   rw [hv,decide_eq_true hl];rfl
  rw [e]
  refine Aj ts.length (λv=>v.1) (λj v=>v.2.1=p.1/\v.2.2.1=p.2.1/\v.2.2.2.1=p.2.2.1/\List.all (ts.drop j) (Dj p)=List.all ts (Dj p)) rfl ⟨rfl,rfl,rfl,by simp⟩ ?_
  rintro j ⟨i,n1,n2,n3,⟨⟩⟩ K hj hi ⟨h1,h2,h3,hR⟩ hK
  dsimp only at hi h1 h2 h3 hR⊢
  subst hi h1 h2 h3
  refine Br.dec (λhl=>?_) λhl=>?_
  ·have hl:j<ts.length:=by omega
   rw [List.drop_eq_getElem_cons hl,List.all_cons] at hR
   refine ⟨_,Aq hl,_,if_pos ⟨h.1,h.2.2 _ (List.getElem_mem hl)⟩,⟨λhe=>?_,λhe=>?_⟩⟩
   ·have he:Dj p ts[j]=false:=Bool.eq_false_iff.2 (Dk he)
    rw [he,Bool.false_and] at hR
    exact hR
   ·have he:Dj p ts[j]=true:=Dl he
    rw [he,Bool.true_and] at hR
    rw [Ag (by omega)]
    exact hK hl _ rfl ⟨rfl,rfl,rfl,hR⟩
  ·have:j=ts.length:=by omega
   subst this
   rw [List.drop_length] at hR
   exact hR
theorem j6:Sound Tryz.prog 72 Gy:=
 Sound.Cg Bi (Ae Tj (Ae mq Ai)) mixed Tryz.func72 (by kernel_rfl) (by kernel_rfl) λx h=>qw x.1 x.2.1 h
theorem Adx (ts:List TT) (k:Int) (h:Ew ts/\roomy k):fnW Cd (look [(46,Wr)]) mc Tryz.f14 (ts,k,()) (λ(z:Int)=>z=EU ts k):=by
 obtain ⟨⟨h1,h2⟩,h3,h4⟩:=h
 refine Eq.mp (Aeq ts k _) ?_
 rw [Bo (by omega) (by omega)]
 refine Br.dec (λhn=>?_) λhn=>?_
 ·exact (if_pos hn).symm
 ·have e:EU ts k=my ts (k-ts.length):=if_neg hn
  rw [e]
  refine Aj ts.length (λv=>v.2.1) (λj v=>roomy v.1/\my (ts.drop j) v.1=my ts (k-ts.length)) rfl ⟨⟨by omega,by omega⟩,by simp⟩ ?_
  rintro j ⟨r,i,⟨⟩⟩ K hj hi ⟨hr,hR⟩ hK
  dsimp only at hi hr hR⊢
  subst hi
  refine Br.dec (λhl=>?_) λhl=>?_
  ·have hl:j<ts.length:=by omega
   rw [List.drop_eq_getElem_cons hl] at hR
   simp only [my] at hR
   refine ⟨_,Aq hl,_,if_pos ⟨h2 _ (List.getElem_mem hl),hr⟩,Br.dec (λhm=>?_) λhm=>?_⟩
   ·have hm:Nh ts[j] r<0:=hm
    rw [if_pos hm] at hR
    exact hR
   ·have hm: ¬Nh ts[j] r<0:=hm
    rw [if_neg hm] at hR
    rw [Ag (by omega)]
    exact hK hl _ rfl ⟨qc hr hm,hR⟩
  ·have:j=ts.length:=by omega
   subst this
   rw [List.drop_length] at hR
   exact hR
theorem HD:Sound Tryz.prog 14 mc:=
 Sound.Cg Bi (Ae sZ Ai) mixed Tryz.func14 (by kernel_rfl) (by kernel_rfl) λx h=>Adx x.1 x.2.1 h
theorem Adz (ts:List TT) (h:Ew ts):fnW Cd (look [(50,Wt)]) ey Tryz.f17 (ts,()) (λ(z:List TT)=>z=ts):=by
 obtain ⟨h,h4⟩:=h
 refine Eq.mp (Aes ts _) ?_
 refine ⟨⟨by omega,by show (ts.length:Int)<(4294967296:Int)+1;omega⟩,rfl,rfl,rfl,?_⟩
 refine Aj ts.length (λv=>v.1) (λj v=>v.2.1.length=ts.length/\v.2.1.take j=ts.take j) rfl ⟨by simp,by simp⟩ ?_
 rintro j ⟨i,ys,⟨⟩⟩ K hj hi ⟨h1,h2⟩ hK
 dsimp only at hi h1 h2⊢
 subst hi
 refine Br.dec (λhl=>?_) λhl=>?_
 ·have hl:j<ts.length:=by omega
  refine ⟨_,Aq hl,_,if_pos (h4 _ (List.getElem_mem hl)),⟨by omega,by omega⟩,by rw [Int.toNat_natCast];omega,rfl,by rw [List.length_set],?_⟩
  rw [Ag (by omega),Int.toNat_natCast,Nat.zero_add]
  exact hK hl _ rfl ⟨by rw [List.length_set];exact h1,Lp hl h1 h2⟩
 ·have:j=ts.length:=by omega
  subst this
  rw [List.take_length,<-h1,List.take_length] at h2
  rw [List.drop_zero,List.take_length]
  exact h2
theorem HE:Sound Tryz.prog 17 ey:=
 Sound.Cg Bi (Ae tb Ai) mixed Tryz.func17 (by kernel_rfl) (by kernel_rfl) λx h=>Adz x.1 h
theorem lK {a b:TT} :Kn a b=true↔a=b:=by
 obtain ⟨a1,a2,a3,⟨⟩⟩:=a
 obtain ⟨b1,b2,b3,⟨⟩⟩:=b
 simp [Kn]
theorem Ado (a b:List TT) (h:Ew a):fnW Cd (look [(54,Ep)]) m7 Tryz.f21 (a,b,()) (λ(z:Bool)=>z=decide (a=b)):=by
 obtain ⟨h1,h2⟩:=h
 refine Eq.mp (Aeh a b _) ⟨λhl=>?_,λhl=>?_⟩
 ·have hl:a.length≠b.length:=by
   have:(a.length:Int)≠b.length:=by simpa using hl
   omega
  exact (decide_eq_false λe=>hl (by rw [e])).symm
 ·have hl:a.length=b.length:=by
   have:(a.length:Int)=b.length:=by simpa using hl
   omega
  refine Aj a.length (λv=>v.1) (λj _=>(a=b↔a.drop j=b.drop j)) rfl (by simp) ?_
  rintro j ⟨i,⟨⟩⟩ K hj hi hR hK
  dsimp only at hi⊢
  subst hi
  refine Br.dec (λhla=>?_) λhla=>?_
  ·have hla:j<a.length:=by omega
   have XL:j<b.length:=by omega
   rw [List.drop_eq_getElem_cons hla,List.drop_eq_getElem_cons XL] at hR
   refine ⟨_,Aq hla,_,Aq XL,_,if_pos (h2 _ (List.getElem_mem hla)),⟨λhe=>?_,λhe=>?_⟩⟩
   ·have he: ¬Kn a[j] b[j]=true:=Dk he
    refine (decide_eq_false λe=>he (lK.2 ?_)).symm
    have:=hR.1 e
    simp only [List.cons.injEq] at this
    exact this.1
   ·have he:Kn a[j] b[j]=true:=Dl he
    rw [lK.1 he] at hR
    rw [Ag (by omega)]
    exact hK hla _ rfl (hR.trans ⟨λe=>(List.cons.inj e).2,λe=>by rw [e]⟩)
  ·have:j=a.length:=by omega
   subst this
   rw [List.drop_length,hl,List.drop_length] at hR
   exact (decide_eq_true (hR.2 rfl)).symm
theorem GW:Sound Tryz.prog 21 m7:=
 Sound.Cg Bi (Ae sR Ai) mixed Tryz.func21 (by kernel_rfl) (by kernel_rfl) λx h=>Ado x.1 x.2.1 h
end Go.Proofs.YtfolipnappekaaaGreat
