/-
  Part 38 of the proof that the statement FnExactBestTableIndex holds.
-/
import Derived.Test.YtfolipnappekaaaGreatCBestTableIndex36
import Derived.KernelRfl
namespace Go.Proofs.YtfolipnappekaaaGreat
open Go.RowKit
def Jg (x a b:Int):Bool:=decide (a<=x/\x<=b)
def dN (n x:Int):Bool:=decide (0<=x/\x<=IntKind.i64.wrap (n-1))
def At (a b:List Int):Bool:=decide (a=b)
def eV (xs:List Int) (x:Int):Bool:=decide (x∈xs)
def short (xs:List Int):Prop:=xs.length<=4294967296
noncomputable abbrev Bw:Spec:=Co (.pair tI (.pair tI (.pair tI .unit))) .bool false true (λ_=>True) (λx=>Jg x.1 x.2.1 x.2.2.1)
noncomputable abbrev Uf:Spec:=Co (.pair tI (.pair tI .unit)) .bool false true (λ_=>True) (λx=>dN x.1 x.2.1)
noncomputable abbrev Ao:Spec:=Co (.pair tL (.pair tL .unit)) .bool false true (λx=>short x.1) (λx=>At x.1 x.2.1)
noncomputable abbrev Ko:Spec:=Co (.pair tL (.pair tI .unit)) .bool false true (λx=>short x.1) (λx=>eV x.1 x.2.1)
theorem HZ (x a b:Int) (P:Bool->Prop):(Br (decide (x>=a)) (P (decide (x<=b))) (P false))=fnW Cc (look []) Bw Tryz.f88 (x,a,b,()) P:=by kernel_rfl
theorem OI (x a b:Int) (P:Bool->Prop):(Br (decide (x>=a)) (P (decide (x<=b))) (P false))=fnW Cc (look []) Bw Tryz.f90 (x,a,b,()) P:=by kernel_rfl
theorem IB (n x:Int) (P:Bool->Prop):(∃(y3:Bool),Bw.fn (x,0,IntKind.i64.wrap (n-1),())=some y3/\P y3)=fnW Cc (look [(90,Bw)]) Uf Tryz.f161 (n,x,()) P:=by kernel_rfl
theorem ym (a b:List Int) (P:Bool->Prop):(Br ((↑a.length:Int) !=(↑b.length:Int)) (P false) (Bk (λ(v3:Int×PUnit) (k4:Int×PUnit->Prop)=>Br (decide (v3.1<(↑a.length:Int))) (∃(y5:Int),idx a v3.1=some y5/\ ∃(y6:Int),idx b v3.1=some y6/\Br (y5 !=y6) (P false) (k4 (IntKind.i64.wrap (v3.1+1),()))) (P true)) (0,PUnit.unit)))=fnW Cc (look []) Ao Tryz.f101 (a,b,()) P:=by kernel_rfl
theorem qP (a b:List Int) (P:Bool->Prop):(Br ((↑a.length:Int) !=(↑b.length:Int)) (P false) (Bk (λ(v3:Int×PUnit) (k4:Int×PUnit->Prop)=>Br (decide (v3.1<(↑a.length:Int))) (∃(y5:Int),idx a v3.1=some y5/\ ∃(y6:Int),idx b v3.1=some y6/\Br (y5 !=y6) (P false) (k4 (IntKind.i64.wrap (v3.1+1),()))) (P true)) (0,PUnit.unit)))=fnW Cc (look []) Ao Tryz.f139 (a,b,()) P:=by kernel_rfl
theorem qJ (xs:List Int) (x:Int) (P:Bool->Prop):(Bk (λ(v3:Int×PUnit) (k4:Int×PUnit->Prop)=>Br (decide (v3.1<(↑xs.length:Int))) (∃(y5:Int),idx xs v3.1=some y5/\Br (y5==x) (P true) (k4 (IntKind.i64.wrap (v3.1+1),()))) (P false)) (0,PUnit.unit))=fnW Cc (look []) Ko Tryz.f100 (xs,x,()) P:=by kernel_rfl
theorem GF (x a b:Int) (_:True):fnW Cc (look []) Bw Tryz.f88 (x,a,b,()) (λ(z:Bool)=>z=Jg x a b):=by
 refine Eq.mp (HZ x a b _) ?_
 refine Br.dec (λh=>?_) λh=>?_
 ·have h:a<=x:=h
  simp [Jg,h]
 ·exact (decide_eq_false λhh=>h hh.1).symm
theorem Xv:Sound Tryz.prog 88 Bw:=
 Sound.Co Bg Al mixed Tryz.func88 (by kernel_rfl) (by kernel_rfl) λx h=>GF x.1 x.2.1 x.2.2.1 h
theorem MK (x a b:Int) (_:True):fnW Cc (look []) Bw Tryz.f90 (x,a,b,()) (λ(z:Bool)=>z=Jg x a b):=by
 refine Eq.mp (OI x a b _) ?_
 refine Br.dec (λh=>?_) λh=>?_
 ·have h:a<=x:=h
  simp [Jg,h]
 ·exact (decide_eq_false λhh=>h hh.1).symm
theorem Tw:Sound Tryz.prog 90 Bw:=
 Sound.Co Bg Al mixed Tryz.func90 (by kernel_rfl) (by kernel_rfl) λx h=>MK x.1 x.2.1 x.2.2.1 h
theorem GH (n x:Int) (_:True):fnW Cc (look [(90,Bw)]) Uf Tryz.f161 (n,x,()) (λ(z:Bool)=>z=dN n x):=
 Eq.mp (IB n x _) ⟨_,if_pos trivial,rfl⟩
theorem qt:Sound Tryz.prog 161 Uf:=
 Sound.Co Bg (Ae Tw Al) mixed Tryz.func161 (by kernel_rfl) (by kernel_rfl) λx h=>GH x.1 x.2.1 h
theorem pZ (xs:List Int) (x:Int) (h:short xs):fnW Cc (look []) Ko Tryz.f100 (xs,x,()) (λ(z:Bool)=>z=eV xs x):=by
 refine Eq.mp (qJ xs x _) ?_
 unfold short at h
 refine Ah xs.length (λv=>v.1) (λj _=>x∉xs.take j) rfl (by simp) ?_
 rintro j ⟨i,⟨⟩⟩ K hj hi hR hK
 dsimp only at hi⊢
 subst hi
 refine Br.dec (λhl=>?_) λhl=>?_
 ·have hl:j<xs.length:=by omega
  refine ⟨_,Ap hl,⟨λhe=>?_,λhe=>?_⟩⟩
  ·have hm:=List.getElem_mem hl
   simp only [beq_iff_eq] at he
   rw [he] at hm
   exact (decide_eq_true hm).symm
  ·rw [Ag (by omega)]
   refine hK hl _ rfl ?_
   simp only [beq_eq_false_iff_ne,ne_eq] at he
   rw [List.take_succ_eq_append_getElem hl]
   simp only [List.mem_append,List.mem_singleton,not_or]
   exact ⟨hR,λhx=>he hx.symm⟩
 ·have:j=xs.length:=by omega
  subst this
  rw [List.take_length] at hR
  exact (decide_eq_false hR).symm
theorem iS:Sound Tryz.prog 100 Ko:=
 Sound.Co Bg Al mixed Tryz.func100 (by kernel_rfl) (by kernel_rfl) λx h=>pZ x.1 x.2.1 h
theorem sQ (a b:List Int) (hlen:a.length=b.length) (h:short a):
  Bk (λ(v3:Int×PUnit) (k4:Int×PUnit->Prop)=>
   Br (decide (v3.1<(↑a.length:Int))) (∃(y5:Int),idx a v3.1=some y5/\ ∃(y6:Int),idx b v3.1=some y6/\Br (y5 !=y6) (false=At a b) (k4 (IntKind.i64.wrap (v3.1+1),())))
    (true=At a b))
  (0,PUnit.unit):=by
 unfold short at h
 refine Ah a.length (λv=>v.1) (λj _=>a.take j=b.take j) rfl (by simp) ?_
 rintro j ⟨i,⟨⟩⟩ K hj hi hR hK
 dsimp only at hi⊢
 subst hi
 refine Br.dec (λhl=>?_) λhl=>?_
 ·have dJ:j<a.length:=by omega
  have pv:j<b.length:=by omega
  refine ⟨_,Ap dJ,_,Ap pv,⟨λhe=>?_,λhe=>?_⟩⟩
  ·simp only [bne_iff_ne,ne_eq] at he
   refine (decide_eq_false λfP=>he ?_).symm
   subst fP
   rfl
  ·rw [Ag (by omega)]
   refine hK dJ _ rfl ?_
   simp only [bne_eq_false_iff_eq] at he
   rw [List.take_succ_eq_append_getElem dJ,List.take_succ_eq_append_getElem pv,hR,he]
 ·have th:j=a.length:=by omega
  subst th
  rw [List.take_length,hlen,List.take_length] at hR
  exact (decide_eq_true hR).symm
theorem xr (a b:List Int) (h:short a):fnW Cc (look []) Ao Tryz.f101 (a,b,()) (λ(z:Bool)=>z=At a b):=by
 refine Eq.mp (ym a b _) ⟨λhl=>?_,λhl=>?_⟩
 ·simp only [bne_iff_ne,ne_eq,Int.natCast_inj] at hl
  exact (decide_eq_false λfP=>hl (by rw [fP])).symm
 ·simp only [bne_eq_false_iff_eq,Int.natCast_inj] at hl
  exact sQ a b hl h
theorem Sz:Sound Tryz.prog 101 Ao:=
 Sound.Co Bg Al mixed Tryz.func101 (by kernel_rfl) (by kernel_rfl) λx h=>xr x.1 x.2.1 h
theorem qc (a b:List Int) (h:short a):fnW Cc (look []) Ao Tryz.f139 (a,b,()) (λ(z:Bool)=>z=At a b):=by
 refine Eq.mp (qP a b _) ⟨λhl=>?_,λhl=>?_⟩
 ·simp only [bne_iff_ne,ne_eq,Int.natCast_inj] at hl
  exact (decide_eq_false λfP=>hl (by rw [fP])).symm
 ·simp only [bne_eq_false_iff_eq,Int.natCast_inj] at hl
  exact sQ a b hl h
theorem Xb:Sound Tryz.prog 139 Ao:=
 Sound.Co Bg Al mixed Tryz.func139 (by kernel_rfl) (by kernel_rfl) λx h=>qc x.1 x.2.1 h
end Go.Proofs.YtfolipnappekaaaGreat

namespace Go.Proofs.YtfolipnappekaaaGreat
open Go.RowKit
abbrev TT:Type:=List Int×List (List Int)×List Int×Unit
def Ev (xs:List (List Int)):Prop:=xs.length<=4294967296/\ ∀r∈xs,short r
def Kf (t:TT):Prop:=short t.1/\Ev t.2.1/\short t.2.2.1
def roomy (room:Int):Prop:=0<=room/\room<=4294967296
def jL (n:Nat) (room:Int):Int:=if room-n<0 then-1 else room-n
def Vk (xs:List Int) (room:Int):Int:=jL xs.length room
def p7:List (List Int)->Int->Int
 | [],room=>room
 |r::rs,room=>if Vk r room<0 then-1 else p7 rs (Vk r room)
def Mm (xs:List (List Int)) (room:Int):Int:=if jL xs.length room<0 then-1 else p7 xs (jL xs.length room)
def Ma (t:TT) (room:Int):Int:=
 if Vk t.1 room<0 then-1 else if Mm t.2.1 (Vk t.1 room)<0 then-1 else
 if Vk t.2.2.1 (Mm t.2.1 (Vk t.1 room))<0 then-1 else Vk t.2.2.1 (Mm t.2.1 (Vk t.1 room))
def Lj (a b:List (List Int)):Bool:=decide (a=b)
def Jq (a b:TT):Bool:=decide (a.1=b.1)&&(decide (a.2.1=b.2.1)&&decide (a.2.2.1=b.2.2.1))
noncomputable abbrev fa:Spec:=Co (.pair tL (.pair tI .unit)) tI false true (λx=>short x.1/\roomy x.2.1) (λx=>Vk x.1 x.2.1)
noncomputable abbrev aI:Spec:=Co (.pair e8 (.pair tI .unit)) tI false true (λx=>Ev x.1/\roomy x.2.1) (λx=>Mm x.1 x.2.1)
noncomputable abbrev Uk:Spec:=Co (.pair Gy (.pair tI .unit)) tI false true (λx=>Kf x.1/\roomy x.2.1) (λx=>Ma x.1 x.2.1)
noncomputable abbrev Vq:Spec:=Co (.pair tL .unit) tL false true (λx=>short x.1) (λx=>x.1)
noncomputable abbrev aJ:Spec:=Co (.pair e8 .unit) e8 false true (λx=>Ev x.1) (λx=>x.1)
noncomputable abbrev Ul:Spec:=Co (.pair Gy .unit) Gy false true (λx=>Kf x.1) (λx=>x.1)
noncomputable abbrev Nq:Spec:=Co (.pair e8 (.pair e8 .unit)) .bool false true (λx=>Ev x.1) (λx=>Lj x.1 x.2.1)
noncomputable abbrev Ei:Spec:=Co (.pair Gy (.pair Gy .unit)) .bool false true (λx=>Kf x.1) (λx=>Jq x.1 x.2.1)
theorem Acw (xs:List Int) (room:Int) (P:Int->Prop):(Br (decide (IntKind.i64.wrap (room-(↑xs.length:Int))<0)) (P (-1)) (P (IntKind.i64.wrap (room-(↑xs.length:Int)))))=fnW Cc (look []) fa Tryz.f71 (xs,room,()) P:=by kernel_rfl
theorem YT (xs:List (List Int)) (room:Int) (P:Int->Prop):(Br (decide (IntKind.i64.wrap (room-(↑xs.length:Int))<0)) (P (-1)) (Bk (λ(v3:Int×Int×PUnit) (k4:Int×Int×PUnit->Prop)=>Br (decide (v3.2.1<(↑xs.length:Int))) (∃(y5:List Int),idx xs v3.2.1=some y5/\ ∃(y6:Int),fa.fn (y5,v3.1,())=some y6/\Br (decide (y6<0)) (P (-1)) (k4 (y6,IntKind.i64.wrap (v3.2.1+1),()))) (P v3.1)) (IntKind.i64.wrap (room-(↑xs.length:Int)),0,PUnit.unit)))=fnW Cc (look [(71,fa)]) aI Tryz.f45 (xs,room,()) P:=by kernel_rfl
theorem IJ (t:List Int×List (List Int)×List Int×Unit) (room:Int) (P:Int->Prop):(∃(y3:Int),fa.fn (t.1,room,())=some y3/\Br (decide (y3<0)) (P (-1)) (∃(y4:Int),aI.fn (t.2.1,y3,())=some y4/\Br (decide (y4<0)) (P (-1)) (∃(y5:Int),fa.fn (t.2.2.1,y4,())=some y5/\Br (decide (y5<0)) (P (-1)) (P y5))))=fnW Cc (look [(71,fa),(45,aI)]) Uk Tryz.f46 (t,room,()) P:=by kernel_rfl
theorem Acy (xs:List Int) (P:List Int->Prop):((0<=(↑xs.length:Int)/\(↑xs.length:Int)<(↑Bj:Int)+1)/\(↑xs.length:Int)=(↑xs.length:Int)/\0=0/\(List.replicate (↑xs.length:Int).toNat (Int.ofNat 0)).length=(List.replicate (↑xs.length:Int).toNat (Int.ofNat 0)).length/\Bk (λ(v2:Int×List Int×PUnit) (k3:Int×List Int×PUnit->Prop)=>Br (decide (v2.1<(↑xs.length:Int))) (∃(y4:Int),idx xs v2.1=some y4/\(0<=v2.1/\v2.1<(↑v2.2.1.length:Int))/\0+v2.1.toNat<v2.2.1.length/\0=0/\v2.2.1.length=(v2.2.1.set (0+v2.1.toNat) y4).length/\k3 (IntKind.i64.wrap (v2.1+1),v2.2.1.set (0+v2.1.toNat) y4,())) (P (List.take v2.2.1.length (List.drop 0 v2.2.1)))) (0,List.replicate (↑xs.length:Int).toNat (Int.ofNat 0),PUnit.unit))=fnW Cc (look []) Vq Tryz.f18 (xs,()) P:=by kernel_rfl
theorem YV (xs:List (List Int)) (P:List (List Int)->Prop):((0<=(↑xs.length:Int)/\(↑xs.length:Int)<(↑Bj:Int)+1)/\(↑xs.length:Int)=(↑xs.length:Int)/\0=0/\(List.replicate (↑xs.length:Int).toNat ([]:List Int)).length=(List.replicate (↑xs.length:Int).toNat ([]:List Int)).length/\Bk (λ(v2:Int×List (List Int)×PUnit) (k3:Int×List (List Int)×PUnit->Prop)=>Br (decide (v2.1<(↑xs.length:Int))) (∃(y4:List Int),idx xs v2.1=some y4/\ ∃(y5:List Int),Vq.fn (y4,())=some y5/\(0<=v2.1/\v2.1<(↑v2.2.1.length:Int))/\0+v2.1.toNat<v2.2.1.length/\0=0/\v2.2.1.length=(v2.2.1.set (0+v2.1.toNat) y5).length/\k3 (IntKind.i64.wrap (v2.1+1),v2.2.1.set (0+v2.1.toNat) y5,())) (P (List.take v2.2.1.length (List.drop 0 v2.2.1)))) (0,List.replicate (↑xs.length:Int).toNat ([]:List Int),PUnit.unit))=fnW Cc (look [(18,Vq)]) aJ Tryz.f49 (xs,()) P:=by kernel_rfl
theorem IK (t:List Int×List (List Int)×List Int×Unit) (P:(List Int×List (List Int)×List Int×Unit)->Prop):(∃(y2:List Int),Vq.fn (t.1,())=some y2/\ ∃(y3:List (List Int)),aJ.fn (t.2.1,())=some y3/\ ∃(y4:List Int),Vq.fn (t.2.2.1,())=some y4/\P (y2,y3,y4,()))=fnW Cc (look [(18,Vq),(49,aJ)]) Ul Tryz.f50 (t,()) P:=by kernel_rfl
theorem Acq (a b:List Int) (P:Bool->Prop):(Br ((↑a.length:Int) !=(↑b.length:Int)) (P false) (Bk (λ(v3:Int×PUnit) (k4:Int×PUnit->Prop)=>Br (decide (v3.1<(↑a.length:Int))) (∃(y5:Int),idx a v3.1=some y5/\ ∃(y6:Int),idx b v3.1=some y6/\Br (y5 !=y6) (P false) (k4 (IntKind.i64.wrap (v3.1+1),()))) (P true)) (0,PUnit.unit)))=fnW Cc (look []) Ao Tryz.f22 (a,b,()) P:=by kernel_rfl
theorem YL (a b:List (List Int)) (P:Bool->Prop):(Br ((↑a.length:Int) !=(↑b.length:Int)) (P false) (Bk (λ(v3:Int×PUnit) (k4:Int×PUnit->Prop)=>Br (decide (v3.1<(↑a.length:Int))) (∃(y5:List Int),idx a v3.1=some y5/\ ∃(y6:List Int),idx b v3.1=some y6/\ ∃(y7:Bool),Ao.fn (y5,y6,())=some y7/\Br (!y7) (P false) (k4 (IntKind.i64.wrap (v3.1+1),()))) (P true)) (0,PUnit.unit)))=fnW Cc (look [(22,Ao)]) Nq Tryz.f53 (a,b,()) P:=by kernel_rfl
theorem HY (a b:List Int×List (List Int)×List Int×Unit) (P:Bool->Prop):(∃(y3:Bool),Ao.fn (a.1,b.1,())=some y3/\Br (!y3) (P false) (∃(y4:Bool),Nq.fn (a.2.1,b.2.1,())=some y4/\Br (!y4) (P false) (∃(y5:Bool),Ao.fn (a.2.2.1,b.2.2.1,())=some y5/\Br (!y5) (P false) (P true))))=fnW Cc (look [(22,Ao),(53,Nq)]) Ei Tryz.f54 (a,b,()) P:=by kernel_rfl
theorem Ub {n:Nat} {room:Int} (h:roomy room) (h2: ¬jL n room<0):roomy (jL n room):=by
 unfold jL roomy at*
 split at h2<;>simp_all
 omega
theorem Ac6 (xs:List Int) (room:Int) (h:short xs/\roomy room):fnW Cc (look []) fa Tryz.f71 (xs,room,()) (λ(z:Int)=>z=Vk xs room):=by
 obtain ⟨h1,h2,h3⟩:=h
 unfold short at h1
 refine Eq.mp (Acw xs room _) ?_
 rw [Cp (by omega) (by omega)]
 refine Br.dec (λh=>?_) λh=>?_
 ·simp only [Vk,jL,if_pos h]
 ·simp only [Vk,jL,if_neg h]
theorem su:Sound Tryz.prog 71 fa:=
 Sound.Co Bg Al mixed Tryz.func71 (by kernel_rfl) (by kernel_rfl) λx h=>Ac6 x.1 x.2.1 h
theorem XU (xs:List (List Int)) (room:Int) (h:Ev xs/\roomy room):fnW Cc (look [(71,fa)]) aI Tryz.f45 (xs,room,()) (λ(z:Int)=>z=Mm xs room):=by
 obtain ⟨⟨h1,h4⟩,h2,h3⟩:=h
 refine Eq.mp (YT xs room _) ?_
 rw [Cp (by omega) (by omega)]
 refine Br.dec (λh=>?_) λh=>?_
 ·simp only [Mm,jL,if_pos h];rfl
 ·refine Ah xs.length (λv=>v.2.1) (λj v=>roomy v.1/\p7 (xs.drop j) v.1=Mm xs room) rfl ?_ ?_
  ·refine ⟨by unfold roomy;omega,?_⟩
   simp only [Mm,jL,if_neg h,List.drop_zero]
  ·rintro j ⟨r,i,⟨⟩⟩ K hj hi ⟨hr,hR⟩ hK
   dsimp only at hi hr hR⊢
   subst hi
   refine Br.dec (λhl=>?_) λhl=>?_
   ·have hl:j<xs.length:=by omega
    have hd:xs.drop j=xs[j]::xs.drop (j+1):=List.drop_eq_getElem_cons hl
    refine ⟨_,Ap hl,_,if_pos ⟨h4 _ (List.getElem_mem hl),hr⟩,?_⟩
    rw [hd] at hR
    simp only [p7] at hR
    refine Br.dec (λhn=>?_) λhn=>?_
    ·have hn:Vk xs[j] r<0:=hn
     rw [if_pos hn] at hR
     exact hR
    ·have hn: ¬Vk xs[j] r<0:=hn
     rw [if_neg hn] at hR
     rw [Ag (by omega)]
     exact hK hl _ rfl ⟨Ub hr hn,hR⟩
   ·have:j=xs.length:=by omega
    subst this
    rw [List.drop_length] at hR
    exact hR
theorem oT:Sound Tryz.prog 45 aI:=
 Sound.Co Bg (Ae su Al) mixed Tryz.func45 (by kernel_rfl) (by kernel_rfl) λx h=>XU x.1 x.2.1 h
theorem sv: ∀(xs:List (List Int)) (room:Int),roomy room-> ¬p7 xs room<0->roomy (p7 xs room)
 | [],room,h,_=>h
 |r::rs,room,h,h2=>by
  simp only [p7] at h2⊢
  split
  ·rename_i hn;rw [if_pos hn] at h2;exact absurd (show (-1:Int)<0 by decide) h2
  ·rename_i hn;rw [if_neg hn] at h2;exact sv rs _ (Ub h hn) h2
theorem kZ {xs:List (List Int)} {room:Int} (h:roomy room) (h2: ¬Mm xs room<0):roomy (Mm xs room):=by
 unfold Mm at*
 split
 ·rename_i hn;rw [if_pos hn] at h2;exact absurd (show (-1:Int)<0 by decide) h2
 ·rename_i hn;rw [if_neg hn] at h2;exact sv _ _ (Ub h hn) h2
theorem GO (t:TT) (room:Int) (h:Kf t/\roomy room):fnW Cc (look [(71,fa),(45,aI)]) Uk Tryz.f46 (t,room,()) (λ(z:Int)=>z=Ma t room):=by
 obtain ⟨⟨h1,h2,h3⟩,hr⟩:=h
 refine Eq.mp (IJ t room _) ?_
 refine ⟨_,if_pos ⟨h1,hr⟩,Br.dec (λhn=>?_) λhn=>?_⟩
 ·exact (if_pos hn).symm
 ·have r1:=Ub hr hn
  refine ⟨_,if_pos ⟨h2,r1⟩,Br.dec (λhm=>?_) λhm=>?_⟩
  ·exact ((if_neg hn).trans (if_pos hm)).symm
  ·have r2:=kZ r1 hm
   refine ⟨_,if_pos ⟨h3,r2⟩,Br.dec (λhk=>?_) λhk=>?_⟩
   ·exact ((if_neg hn).trans ((if_neg hm).trans (if_pos hk))).symm
   ·exact ((if_neg hn).trans ((if_neg hm).trans (if_neg hk))).symm
theorem qA:Sound Tryz.prog 46 Uk:=
 Sound.Co Bg (Ae su (Ae oT Al)) mixed Tryz.func46 (by kernel_rfl) (by kernel_rfl) λx h=>GO x.1 x.2.1 h
theorem Kq {α:Type} {ys xs:List α} {j:Nat} (h:j<xs.length) (hl:ys.length=xs.length) (ht:ys.take j=xs.take j):(ys.set j xs[j]).take (j+1)=xs.take (j+1):=by
 have h1:j<(ys.set j xs[j]).length:=by rw [List.length_set];omega
 rw [List.take_succ_eq_append_getElem h1,List.take_succ_eq_append_getElem h,List.getElem_set_self,List.take_set_of_le (Nat.le_refl j),ht]
theorem Ac8 (xs:List Int) (h:short xs):fnW Cc (look []) Vq Tryz.f18 (xs,()) (λ(z:List Int)=>z=xs):=by
 unfold short at h
 refine Eq.mp (Acy xs _) ?_
 refine ⟨⟨by omega,by show (xs.length:Int)<(4294967296:Int)+1;omega⟩,rfl,rfl,rfl,?_⟩
 refine Ah xs.length (λv=>v.1) (λj v=>v.2.1.length=xs.length/\v.2.1.take j=xs.take j) rfl ⟨by simp,by simp⟩ ?_
 rintro j ⟨i,ys,⟨⟩⟩ K hj hi ⟨h1,h2⟩ hK
 dsimp only at hi h1 h2⊢
 subst hi
 refine Br.dec (λhl=>?_) λhl=>?_
 ·have hl:j<xs.length:=by omega
  refine ⟨_,Ap hl,⟨by omega,by omega⟩,by rw [Int.toNat_natCast];omega,rfl,by rw [List.length_set],?_⟩
  rw [Ag (by omega),Int.toNat_natCast,Nat.zero_add]
  exact hK hl _ rfl ⟨by rw [List.length_set];exact h1,Kq hl h1 h2⟩
 ·have:j=xs.length:=by omega
  subst this
  rw [List.take_length,<-h1,List.take_length] at h2
  rw [List.drop_zero,List.take_length]
  exact h2
theorem kv:Sound Tryz.prog 18 Vq:=
 Sound.Co Bg Al mixed Tryz.func18 (by kernel_rfl) (by kernel_rfl) λx h=>Ac8 x.1 h
theorem XW (xs:List (List Int)) (h:Ev xs):fnW Cc (look [(18,Vq)]) aJ Tryz.f49 (xs,()) (λ(z:List (List Int))=>z=xs):=by
 obtain ⟨h,h4⟩:=h
 refine Eq.mp (YV xs _) ?_
 refine ⟨⟨by omega,by show (xs.length:Int)<(4294967296:Int)+1;omega⟩,rfl,rfl,rfl,?_⟩
 refine Ah xs.length (λv=>v.1) (λj v=>v.2.1.length=xs.length/\v.2.1.take j=xs.take j) rfl ⟨by simp,by simp⟩ ?_
 rintro j ⟨i,ys,⟨⟩⟩ K hj hi ⟨h1,h2⟩ hK
 dsimp only at hi h1 h2⊢
 subst hi
 refine Br.dec (λhl=>?_) λhl=>?_
 ·have hl:j<xs.length:=by omega
  refine ⟨_,Ap hl,_,if_pos (h4 _ (List.getElem_mem hl)),⟨by omega,by omega⟩,by rw [Int.toNat_natCast];omega,rfl,by rw [List.length_set],?_⟩
  rw [Ag (by omega),Int.toNat_natCast,Nat.zero_add]
  exact hK hl _ rfl ⟨by rw [List.length_set];exact h1,Kq hl h1 h2⟩
 ·have:j=xs.length:=by omega
  subst this
  rw [List.take_length,<-h1,List.take_length] at h2
  rw [List.drop_zero,List.take_length]
  exact h2
theorem oV:Sound Tryz.prog 49 aJ:=
 Sound.Co Bg (Ae kv Al) mixed Tryz.func49 (by kernel_rfl) (by kernel_rfl) λx h=>XW x.1 h
theorem GP (t:TT) (h:Kf t):fnW Cc (look [(18,Vq),(49,aJ)]) Ul Tryz.f50 (t,()) (λ(z:TT)=>z=t):=by
 refine Eq.mp (IK t _) ?_
 exact ⟨_,if_pos h.1,_,if_pos h.2.1,_,if_pos h.2.2,rfl⟩
theorem qB:Sound Tryz.prog 50 Ul:=
 Sound.Co Bg (Ae kv (Ae oV Al)) mixed Tryz.func50 (by kernel_rfl) (by kernel_rfl) λx h=>GP x.1 h
theorem Ac1 (a b:List Int) (h:short a):fnW Cc (look []) Ao Tryz.f22 (a,b,()) (λ(z:Bool)=>z=At a b):=by
 refine Eq.mp (Acq a b _) ⟨λhl=>?_,λhl=>?_⟩
 ·simp only [bne_iff_ne,ne_eq,Int.natCast_inj] at hl
  exact (decide_eq_false λfP=>hl (by rw [fP])).symm
 ·simp only [bne_eq_false_iff_eq,Int.natCast_inj] at hl
  exact sQ a b hl h
theorem ko:Sound Tryz.prog 22 Ao:=
 Sound.Co Bg Al mixed Tryz.func22 (by kernel_rfl) (by kernel_rfl) λx h=>Ac1 x.1 x.2.1 h
theorem XM (a b:List (List Int)) (h:Ev a):fnW Cc (look [(22,Ao)]) Nq Tryz.f53 (a,b,()) (λ(z:Bool)=>z=Lj a b):=by
 obtain ⟨h,h4⟩:=h
 refine Eq.mp (YL a b _) ⟨λhl=>?_,λhl=>?_⟩
 ·simp only [bne_iff_ne,ne_eq,Int.natCast_inj] at hl
  exact (decide_eq_false λfP=>hl (by rw [fP])).symm
 ·simp only [bne_eq_false_iff_eq,Int.natCast_inj] at hl
  refine Ah a.length (λv=>v.1) (λj _=>a.take j=b.take j) rfl (by simp) ?_
  rintro j ⟨i,⟨⟩⟩ K hj hi hR hK
  dsimp only at hi⊢
  subst hi
  refine Br.dec (λFg=>?_) λFg=>?_
  ·have dJ:j<a.length:=by omega
   have pv:j<b.length:=by omega
   refine ⟨_,Ap dJ,_,Ap pv,_,if_pos (h4 _ (List.getElem_mem dJ)),⟨λhe=>?_,λhe=>?_⟩⟩
   ·refine (decide_eq_false λfP=>?_).symm
    subst fP
    simp [At] at he
   ·rw [Ag (by omega)]
    refine hK dJ _ rfl ?_
    simp only [At,Bool.not_eq_false',decide_eq_true_eq] at he
    rw [List.take_succ_eq_append_getElem dJ,List.take_succ_eq_append_getElem pv,hR]
    exact congrArg (λx=>List.take j b++ [x]) he
  ·have th:j=a.length:=by omega
   subst th
   rw [List.take_length,hl,List.take_length] at hR
   exact (decide_eq_true hR).symm
theorem oJ:Sound Tryz.prog 53 Nq:=
 Sound.Co Bg (Ae ko Al) mixed Tryz.func53 (by kernel_rfl) (by kernel_rfl) λx h=>XM x.1 x.2.1 h
theorem GD (a b:TT) (h:Kf a):fnW Cc (look [(22,Ao),(53,Nq)]) Ei Tryz.f54 (a,b,()) (λ(z:Bool)=>z=Jq a b):=by
 refine Eq.mp (HY a b _) ?_
 refine ⟨_,if_pos h.1,⟨λh1=>?_,λh1=>?_⟩⟩
 ·have h1:(!At a.1 b.1)=true:=h1
  simp only [At] at h1
  unfold Jq
  cases hd:decide (a.1=b.1)<;>simp_all
 ·have h1:(!At a.1 b.1)=false:=h1
  simp only [At] at h1
  refine ⟨_,if_pos h.2.1,⟨λh2=>?_,λh2=>?_⟩⟩
  ·have h2:(!Lj a.2.1 b.2.1)=true:=h2
   simp only [Lj] at h2
   unfold Jq
   cases hd:decide (a.2.1=b.2.1)<;>simp_all
  ·have h2:(!Lj a.2.1 b.2.1)=false:=h2
   simp only [Lj] at h2
   refine ⟨_,if_pos h.2.2,⟨λh3=>?_,λh3=>?_⟩⟩
   ·have h3:(!At a.2.2.1 b.2.2.1)=true:=h3
    simp only [At] at h3
    unfold Jq
    cases hd:decide (a.2.2.1=b.2.2.1)<;>simp_all
   ·have h3:(!At a.2.2.1 b.2.2.1)=false:=h3
    simp only [At] at h3
    unfold Jq
    simp_all
theorem qo:Sound Tryz.prog 54 Ei:=
 Sound.Co Bg (Ae ko (Ae oJ Al)) mixed Tryz.func54 (by kernel_rfl) (by kernel_rfl) λx h=>GD x.1 x.2.1 h
end Go.Proofs.YtfolipnappekaaaGreat

namespace Go.Proofs.YtfolipnappekaaaGreat
open Go.RowKit
def Rn:List Int->Int->Int->Int
 | [],_,_=> -1
 |y::r,x,i=>if y=x then i else Rn r x (i+1)
noncomputable abbrev dU:Spec:=Co (.pair tL (.pair tI .unit)) tI false true (λx=>short x.1) (λx=>Rn x.1 x.2.1 0)
def PL (n:Int) (xs:List Int) (k:Nat):Prop:= ∀j (h:j<xs.length),j<k->0<=xs[j]/\xs[j]<=n-1/\(0<j->xs[j-1]<xs[j])
def DL (n:Int) (xs:List Int) (k:Nat):Prop:= ∀j (h:j<xs.length),j<k->0<=xs[j]/\xs[j]<=n-1/\xs[j]∉xs.take j
noncomputable def dec (p:Prop):Bool:= @decide p (Classical.propDecidable p)
theorem Jc {p:Prop} (h:p):true=dec p:=(@decide_eq_true p (Classical.propDecidable p) h).symm
theorem Bh {p:Prop} (h: ¬p):false=dec p:=(@decide_eq_false p (Classical.propDecidable p) h).symm
theorem Eb {p:Prop} :dec p=true↔p:= @decide_eq_true_iff p (Classical.propDecidable p)
theorem PM {p:Prop} :dec p=false↔ ¬p:= @decide_eq_false_iff_not p (Classical.propDecidable p)
def XG (n:Int):Prop:=0<=n/\n<=4294967296
noncomputable def Se (n:Int) (xs:List Int):Bool:=dec (0<xs.length/\PL n xs xs.length)
noncomputable abbrev Fm:Spec:=Co (.pair tI (.pair tL .unit)) .bool false true (λx=>XG x.1/\short x.2.1) (λx=>Se x.1 x.2.1)
theorem RS (xs:List Int) (x:Int) (P:Int->Prop):(Bk (λ(v3:Int×PUnit) (k4:Int×PUnit->Prop)=>Br (decide (v3.1<(↑xs.length:Int))) (∃(y5:Int),idx xs v3.1=some y5/\Br (x==y5) (P v3.1) (k4 (IntKind.i64.wrap (v3.1+(1:Int)),()))) (P (-1:Int))) ((0:Int),PUnit.unit))=fnW Cc (look []) dU Tryz.f58 (xs,x,()) P:=by kernel_rfl
theorem qO (n:Int) (xs:List Int) (P:Bool->Prop):(∃(y3:Bool),Bw.fn ((↑xs.length:Int),(1:Int),n,())=some y3/\Br (!y3) (P false) (Bk (λ(v4:Int×PUnit) (k5:Int×PUnit->Prop)=>Br (decide (v4.1<(↑xs.length:Int))) (∃(y6:Int),idx xs v4.1=some y6/\ ∃(y7:Bool),Bw.fn (y6,(0:Int),IntKind.i64.wrap (n-(1:Int)),())=some y7/\Br (!y7) (P false) (Br (decide (v4.1>(0:Int))) (∃(y8:Int),idx xs v4.1=some y8/\ ∃(y9:Int),idx xs (IntKind.i64.wrap (v4.1-(1:Int)))=some y9/\Br (decide (y8<=y9)) (P false) (k5 (IntKind.i64.wrap (v4.1+(1:Int)),()))) (k5 (IntKind.i64.wrap (v4.1+(1:Int)),())))) (P true)) ((0:Int),PUnit.unit)))=fnW Cc (look [(88,Bw)]) Fm Tryz.f160 (n,xs,()) P:=by kernel_rfl
theorem yt (n:Int) (xs:List Int) (P:Bool->Prop):(Bk (λ(v3:Int×PUnit) (k4:Int×PUnit->Prop)=>Br (decide (v3.1<(↑xs.length:Int))) (∃(y5:Int),idx xs v3.1=some y5/\ ∃(y6:Bool),Uf.fn (n,y5,())=some y6/\Br (!y6) (P false) (Br (decide (v3.1>(0:Int))) (∃(y7:Int),idx xs (IntKind.i64.wrap (v3.1-(1:Int)))=some y7/\Br (decide (y7>=y5)) (P false) (k4 (IntKind.i64.wrap (v3.1+(1:Int)),()))) (k4 (IntKind.i64.wrap (v3.1+(1:Int)),())))) (P (decide ((↑xs.length:Int)>(0:Int))))) ((0:Int),PUnit.unit))=fnW Cc (look [(161,Uf)]) Fm Tryz.f159 (n,xs,()) P:=by kernel_rfl
theorem QX (xs:List Int) (x:Int) (h:short xs):fnW Cc (look []) dU Tryz.f58 (xs,x,()) (λ(z:Int)=>z=Rn xs x 0):=by
 unfold short at h
 refine Eq.mp (RS xs x _) ?_
 refine Ah xs.length (λv=>v.1) (λj _=>Rn (xs.drop j) x j=Rn xs x 0) rfl (by simp) ?_
 rintro j ⟨i,⟨⟩⟩ K hj hi hR hK
 dsimp only at hi⊢
 subst hi
 refine Br.dec (λhl=>?_) λhl=>?_
 ·have hl:j<xs.length:=by omega
  rw [List.drop_eq_getElem_cons hl] at hR
  simp only [Rn] at hR
  refine ⟨_,Ap hl,⟨λhe=>?_,λhe=>?_⟩⟩
  ·simp only [beq_iff_eq] at he
   rw [if_pos he.symm] at hR
   exact hR
  ·simp only [beq_eq_false_iff_ne,ne_eq] at he
   rw [if_neg (λe=>he e.symm)] at hR
   rw [Ag (by omega)]
   exact hK hl _ rfl (by push_cast;exact hR)
 ·have:j=xs.length:=by omega
  subst this
  rw [List.drop_length] at hR
  exact hR
theorem xT:Sound Tryz.prog 58 dU:=
 Sound.Co Bg Al mixed Tryz.func58 (by kernel_rfl) (by kernel_rfl) λx h=>QX x.1 x.2.1 h
theorem kX {n x:Int} (hn:XG n):dN n x=true↔0<=x/\x<=n-1:=by
 unfold dN XG at*
 rw [Cp (by omega) (by omega),decide_eq_true_iff]
theorem Cm {x a b:Int} :Jg x a b=true↔a<=x/\x<=b:=decide_eq_true_iff
theorem Dj {b:Bool} (h:(!b)=true): ¬b=true:=by cases b<;>simp_all
theorem De {b:Bool} (h:(!b)=false):b=true:=by cases b<;>simp_all
theorem AN {n:Int} {xs:List Int} (h:PL n xs xs.length): ∀j (hj:j<xs.length),(j:Int)<=xs[j]
 |0,hj=>(h 0 hj hj).1
 |j+1,hj=>by
  have h1:=AN h j (by omega)
  have h2:=(h (j+1) hj hj).2.2 (by omega)
  simp only [Nat.add_sub_cancel] at h2
  omega
theorem mo {n:Int} {xs:List Int} {j:Nat} (hl:j<xs.length) (h:PL n xs j) (h1:0<=xs[j]) (h2:xs[j]<=n-1) (h3:0<j->xs[j-1]<xs[j]):PL n xs (j+1):=by
 intro i hi jF
 by_cases e:i=j
 ·subst e;exact ⟨h1,h2,h3⟩
 ·exact h i hi (by omega)
theorem xy (n:Int) (xs:List Int) (h:XG n/\short xs):fnW Cc (look [(161,Uf)]) Fm Tryz.f159 (n,xs,()) (λ(z:Bool)=>z=Se n xs):=by
 obtain ⟨hn,h⟩:=h
 unfold short at h
 refine Eq.mp (yt n xs _) ?_
 refine Ah xs.length (λv=>v.1) (λj _=>PL n xs j) rfl (λj _ hj=>absurd hj (Nat.not_lt_zero _)) ?_
 rintro j ⟨i,⟨⟩⟩ K hj hi hR hK
 dsimp only at hi⊢
 subst hi
 refine Br.dec (λhl=>?_) λhl=>?_
 ·have hl:j<xs.length:=by omega
  refine ⟨_,Ap hl,_,if_pos trivial,⟨λhp=>?_,λhp=>?_⟩⟩
  ·have hp:=Dj hp
   rw [kX hn] at hp
   exact Bh λhh=>hp ⟨(hh.2 j hl hl).1,(hh.2 j hl hl).2.1⟩
  ·have hp:=De hp
   rw [kX hn] at hp
   refine Br.dec (λh0=>?_) λh0=>?_
   ·have h0:0<j:=by omega
    rw [Cp (by omega) (by omega),show (j:Int)-1=((j-1:Nat):Int) by omega]
    refine ⟨_,Ap (by omega),Br.dec (λhg=>?_) λhg=>?_⟩
    ·exact Bh λhh=>by have:=(hh.2 j hl hl).2.2 h0;omega
    ·rw [Ag (by omega)]
     exact hK hl _ rfl (mo hl hR hp.1 hp.2 λ_=>by omega)
   ·have h0:j=0:=by omega
    rw [Ag (by omega)]
    exact hK hl _ rfl (mo hl hR hp.1 hp.2 λh=>by omega)
 ·have:j=xs.length:=by omega
  subst this
  by_cases h0:0<xs.length
  ·rw [decide_eq_true (show (xs.length:Int)>0 by omega)];exact Jc ⟨h0,hR⟩
  ·rw [decide_eq_false (show ¬(xs.length:Int)>0 by omega)];exact Bh λhh=>h0 hh.1
theorem lS:Sound Tryz.prog 159 Fm:=
 Sound.Co Bg (Ae qt Al) mixed Tryz.func159 (by kernel_rfl) (by kernel_rfl) λx h=>xy x.1 x.2.1 h
theorem qb (n:Int) (xs:List Int) (h:XG n/\short xs):fnW Cc (look [(88,Bw)]) Fm Tryz.f160 (n,xs,()) (λ(z:Bool)=>z=Se n xs):=by
 obtain ⟨hn,h⟩:=h
 unfold short at h
 refine Eq.mp (qO n xs _) ⟨_,if_pos trivial,⟨λhp=>?_,λhp=>?_⟩⟩
 ·have hp:=Dj hp
  rw [Cm] at hp
  dsimp only at hp
  refine Bh λhh=>hp ⟨by omega,?_⟩
  have:=AN hh.2 (xs.length-1) (by omega)
  have:=(hh.2 (xs.length-1) (by omega) (by omega)).2.1
  omega
 ·have hp:=De hp
  rw [Cm] at hp
  dsimp only at hp
  refine Ah xs.length (λv=>v.1) (λj _=>PL n xs j) rfl (λj _ hj=>absurd hj (Nat.not_lt_zero _)) ?_
  rintro j ⟨i,⟨⟩⟩ K hj hi hR hK
  dsimp only at hi⊢
  subst hi
  refine Br.dec (λhl=>?_) λhl=>?_
  ·have hl:j<xs.length:=by omega
   refine ⟨_,Ap hl,_,if_pos trivial,⟨λhq=>?_,λhq=>?_⟩⟩
   ·have hq:=Dj hq
    unfold XG at hn
    rw [Cm,Cp (by omega) (by omega)] at hq
    exact Bh λhh=>hq ⟨(hh.2 j hl hl).1,(hh.2 j hl hl).2.1⟩
   ·have hq:=De hq
    unfold XG at hn
    rw [Cm,Cp (by omega) (by omega)] at hq
    refine Br.dec (λh0=>?_) λh0=>?_
    ·have h0:0<j:=by omega
     rw [Cp (by omega) (by omega),show (j:Int)-1=((j-1:Nat):Int) by omega]
     refine ⟨_,Ap hl,_,Ap (by omega),Br.dec (λhg=>?_) λhg=>?_⟩
     ·exact Bh λhh=>by have:=(hh.2 j hl hl).2.2 h0;omega
     ·rw [Ag (by omega)]
      exact hK hl _ rfl (mo hl hR hq.1 hq.2 λ_=>by omega)
    ·rw [Ag (by omega)]
     exact hK hl _ rfl (mo hl hR hq.1 hq.2 λh=>by omega)
  ·have:j=xs.length:=by omega
   subst this
   exact Jc ⟨by omega,hR⟩
theorem iV:Sound Tryz.prog 160 Fm:=
 Sound.Co Bg (Ae Xv Al) mixed Tryz.func160 (by kernel_rfl) (by kernel_rfl) λx h=>qb x.1 x.2.1 h
theorem PN {n:Int} {xs:List Int} {j:Nat} (hl:j<xs.length) (h:DL n xs j) (h1:0<=xs[j]) (h2:xs[j]<=n-1) (h3:xs[j]∉xs.take j):DL n xs (j+1):=by
 intro i hi jF
 by_cases e:i=j
 ·subst e;exact ⟨h1,h2,h3⟩
 ·exact h i hi (by omega)
theorem BD {xs:List Int} (h:short xs) (j:Nat):short (xs.take j):=by
 unfold short at*
 rw [List.length_take]
 omega
end Go.Proofs.YtfolipnappekaaaGreat

namespace Go.Proofs.YtfolipnappekaaaGreat
open Go.RowKit
noncomputable abbrev Qt:Spec:=Co (.pair e8 (.pair e8 (.pair (.clo 154 .unit) .unit))) .bool false true (λx=>Ev x.1) (λx=>Lj x.1 x.2.1)
theorem Acv (a b:List Int) (P:Bool->Prop):(∃(y3:Bool),Ao.fn (a,b,())=some y3/\P y3)=fnW Cc (look [(139,Ao)]) Ao Tryz.f154 (a,b,()) P:=by kernel_rfl
theorem CB (a b:List (List Int)) (c:Unit) (P:Bool->Prop):(Br ((↑a.length:Int) !=(↑b.length:Int)) (P false) (Bk (λ(v4:Int×PUnit) (k5:Int×PUnit->Prop)=>Br (decide (v4.1<(↑a.length:Int))) (∃(y6:List Int),idx a v4.1=some y6/\ ∃(y7:List Int),idx b v4.1=some y7/\ ∃(y8:Bool),Ao.fn (y6,y7,())=some y8/\Br (!y8) (P false) (k5 (IntKind.i64.wrap (v4.1+(1:Int)),()))) (P true)) ((0:Int),PUnit.unit)))=fnW Cc (look [(154,Ao)]) Qt Tryz.f153 (a,b,c,()) P:=by kernel_rfl
theorem m6 (a b:List (List Int)) (P:Bool->Prop):(∃(y3:Bool),Qt.fn (a,b,(),())=some y3/\P y3)=fnW Cc (look [(153,Qt)]) Nq Tryz.f140 (a,b,()) P:=by kernel_rfl
theorem m5 (a b:List Int×List (List Int)×List Int×Unit) (P:Bool->Prop):(∃(y3:Bool),Ao.fn (a.1,b.1,())=some y3/\Br y3 (∃(y4:Bool),Nq.fn (a.2.1,b.2.1,())=some y4/\Br y4 (∃(y5:Bool),Ao.fn (a.2.2.1,b.2.2.1,())=some y5/\P y5) (P false)) (P false))=fnW Cc (look [(139,Ao),(140,Nq)]) Ei Tryz.f114 (a,b,()) P:=by kernel_rfl
abbrev Zj:Type:=Int×List Int×List (List Int)×List Int×List Int×List (List Int)×List Int×PUnit
theorem m7 (a b:List Int×List (List Int)×List Int×Unit) (P:Bool->Prop):(∃(y3:Bool),Ao.fn (a.1,b.1,())=some y3/\Br (!y3) (P false) (∃(y4:Bool),Ao.fn (a.2.2.1,b.2.2.1,())=some y4/\Br (!y4) (P false) (Br ((↑a.2.1.length:Int) !=(↑b.2.1.length:Int)) (P false) (Bk (λ(v5:Zj) (k6:Zj->Prop)=>Br (decide (v5.1<(↑v5.2.2.1.length:Int))) (∃(y7:List Int),idx v5.2.2.1 v5.1=some y7/\ ∃(y8:List Int),idx v5.2.2.2.2.2.1 v5.1=some y8/\ ∃(y9:Bool),Ao.fn (y7,y8,())=some y9/\Br (!y9) (P false) (k6 (IntKind.i64.wrap (v5.1+(1:Int)),v5.2.1,v5.2.2.1,v5.2.2.2.1,v5.2.2.2.2.1,v5.2.2.2.2.2.1,v5.2.2.2.2.2.2.1,()))) (P true)) ((0:Int),a.1,a.2.1,a.2.2.1,b.1,b.2.1,b.2.2.1,PUnit.unit)))))=fnW Cc (look [(101,Ao)]) Ei Tryz.f126 (a,b,()) P:=by kernel_rfl
theorem Ac5 (a b:List Int) (h:short a):fnW Cc (look [(139,Ao)]) Ao Tryz.f154 (a,b,()) (λ(z:Bool)=>z=At a b):=by
 refine Eq.mp (Acv a b _) ⟨_,if_pos h,rfl⟩
theorem HK:Sound Tryz.prog 154 Ao:=
 Sound.Co Bg (Ae Xb Al) mixed Tryz.func154 (by kernel_rfl) (by kernel_rfl) λx h=>Ac5 x.1 x.2.1 h
theorem AD (a b:List (List Int)) (c:Unit) (h:Ev a):fnW Cc (look [(154,Ao)]) Qt Tryz.f153 (a,b,c,()) (λ(z:Bool)=>z=Lj a b):=by
 obtain ⟨h,h4⟩:=h
 refine Eq.mp (CB a b c _) ⟨λhl=>?_,λhl=>?_⟩
 ·simp only [bne_iff_ne,ne_eq,Int.natCast_inj] at hl
  exact (decide_eq_false λfP=>hl (by rw [fP])).symm
 ·simp only [bne_eq_false_iff_eq,Int.natCast_inj] at hl
  refine Ah a.length (λv=>v.1) (λj _=>a.take j=b.take j) rfl (by simp) ?_
  rintro j ⟨i,⟨⟩⟩ K hj hi hR hK
  dsimp only at hi⊢
  subst hi
  refine Br.dec (λFg=>?_) λFg=>?_
  ·have dJ:j<a.length:=by omega
   have pv:j<b.length:=by omega
   refine ⟨_,Ap dJ,_,Ap pv,_,if_pos (h4 _ (List.getElem_mem dJ)),⟨λhe=>?_,λhe=>?_⟩⟩
   ·refine (decide_eq_false λfP=>?_).symm
    subst fP
    simp [At] at he
   ·rw [Ag (by omega)]
    refine hK dJ _ rfl ?_
    simp only [At,Bool.not_eq_false',decide_eq_true_eq] at he
    rw [List.take_succ_eq_append_getElem dJ,List.take_succ_eq_append_getElem pv,hR]
    exact congrArg (λx=>List.take j b++ [x]) he
  ·have th:j=a.length:=by omega
   subst th
   rw [List.take_length,hl,List.take_length] at hR
   exact (decide_eq_true hR).symm
theorem oI:Sound Tryz.prog 153 Qt:=
 Sound.Co Bg (Ae HK Al) mixed Tryz.func153 (by kernel_rfl) (by kernel_rfl) λx h=>AD x.1 x.2.1 x.2.2.1 h
theorem lI (a b:List (List Int)) (h:Ev a):fnW Cc (look [(153,Qt)]) Nq Tryz.f140 (a,b,()) (λ(z:Bool)=>z=Lj a b):=by
 refine Eq.mp (m6 a b _) ⟨_,if_pos h,rfl⟩
theorem ew:Sound Tryz.prog 140 Nq:=
 Sound.Co Bg (Ae oI Al) mixed Tryz.func140 (by kernel_rfl) (by kernel_rfl) λx h=>lI x.1 x.2.1 h
theorem lH (a b:TT) (h:Kf a):fnW Cc (look [(139,Ao),(140,Nq)]) Ei Tryz.f114 (a,b,()) (λ(z:Bool)=>z=Jq a b):=by
 refine Eq.mp (m5 a b _) ⟨_,if_pos h.1,⟨λh1=>⟨_,if_pos h.2.1,⟨λh2=>⟨_,if_pos h.2.2,?_⟩,λh2=>?_⟩⟩,λh1=>?_⟩⟩
 ·have h1:At a.1 b.1=true:=h1
  have h2:Lj a.2.1 b.2.1=true:=h2
  simp only [At,Lj] at h1 h2
  show At a.2.2.1 b.2.2.1=_
  unfold Jq At
  rw [h1,h2];rfl
 ·have h1:At a.1 b.1=true:=h1
  have h2:Lj a.2.1 b.2.1=false:=h2
  simp only [At,Lj] at h1 h2
  unfold Jq
  rw [h1,h2];rfl
 ·have h1:At a.1 b.1=false:=h1
  simp only [At] at h1
  unfold Jq
  rw [h1];rfl
theorem eu:Sound Tryz.prog 114 Ei:=
 Sound.Co Bg (Ae Xb (Ae ew Al)) mixed Tryz.func114 (by kernel_rfl) (by kernel_rfl) λx h=>lH x.1 x.2.1 h
theorem lJ (a b:TT) (h:Kf a):fnW Cc (look [(101,Ao)]) Ei Tryz.f126 (a,b,()) (λ(z:Bool)=>z=Jq a b):=by
 obtain ⟨gD,⟨px,hs4⟩,hs3⟩:=h
 refine Eq.mp (m7 a b _) ⟨_,if_pos gD,⟨λh1=>?_,λh1=>⟨_,if_pos hs3,⟨λh2=>?_,λh2=>⟨λh3=>?_,λh3=>?_⟩⟩⟩⟩⟩
 ·have h1:(!At a.1 b.1)=true:=h1
  simp only [At,Bool.not_eq_true'] at h1
  show _=Jq a b
  unfold Jq
  rw [h1];rfl
 ·have h2:(!At a.2.2.1 b.2.2.1)=true:=h2
  simp only [At,Bool.not_eq_true'] at h2
  show _=Jq a b
  unfold Jq
  rw [h2];simp
 ·simp only [bne_iff_ne,ne_eq,Int.natCast_inj] at h3
  show _=Jq a b
  unfold Jq
  rw [decide_eq_false (show ¬a.2.1=b.2.1 from λfP=>h3 (by rw [fP]))];simp
 ·simp only [bne_eq_false_iff_eq,Int.natCast_inj] at h3
  have h1:(!At a.1 b.1)=false:=h1
  have h2:(!At a.2.2.1 b.2.2.1)=false:=h2
  simp only [At,Bool.not_eq_false',decide_eq_true_eq] at h1 h2
  have hE:Jq a b=decide (a.2.1=b.2.1):=by
   unfold Jq
   rw [decide_eq_true h1,decide_eq_true h2];simp
  refine Ah a.2.1.length (λv=>v.1) (λj v=>v.2=(a.1,a.2.1,a.2.2.1,b.1,b.2.1,b.2.2.1,())/\a.2.1.take j=b.2.1.take j) rfl ⟨rfl,by simp⟩ ?_
  rintro j ⟨i,v⟩ K hj hi ⟨hv,hR⟩ hK
  dsimp only at hi hv⊢
  subst hi hv
  dsimp only
  refine Br.dec (λFg=>?_) λFg=>?_
  ·have dJ:j<a.2.1.length:=by omega
   have pv:j<b.2.1.length:=by omega
   refine ⟨_,Ap dJ,_,Ap pv,_,if_pos (hs4 _ (List.getElem_mem dJ)),⟨λhe=>?_,λhe=>?_⟩⟩
   ·show _=Jq a b
    rw [hE]
    refine (decide_eq_false λfP=>?_).symm
    simp [fP,At] at he
   ·rw [Ag (by omega)]
    refine hK dJ _ rfl ⟨rfl,?_⟩
    simp only [At,Bool.not_eq_false',decide_eq_true_eq] at he
    rw [List.take_succ_eq_append_getElem dJ,List.take_succ_eq_append_getElem pv,hR]
    exact congrArg (λx=>List.take j b.2.1++ [x]) he
  ·have th:j=a.2.1.length:=by omega
   subst th
   rw [List.take_length,h3,List.take_length] at hR
   show _=Jq a b
   rw [hE]
   exact (decide_eq_true hR).symm
theorem ez:Sound Tryz.prog 126 Ei:=
 Sound.Co Bg (Ae Sz Al) mixed Tryz.func126 (by kernel_rfl) (by kernel_rfl) λx h=>lJ x.1 x.2.1 h
theorem nO {t:TT} {room:Int} (h:roomy room) (h2: ¬Ma t room<0):roomy (Ma t room):=by
 have hm: ¬((-1:Int)<0)->False:= λh=>h (by decide)
 unfold Ma at h2⊢
 split
 ·rename_i h3;rw [if_pos h3] at h2;exact (hm h2).elim
 ·rename_i h3;rw [if_neg h3] at h2
  split
  ·rename_i h4;rw [if_pos h4] at h2;exact (hm h2).elim
  ·rename_i h4;rw [if_neg h4] at h2
   split
   ·rename_i h5;rw [if_pos h5] at h2;exact (hm h2).elim
   ·rename_i h5
    exact Ub (kZ (Ub h h3) h4) h5
theorem xJ:roomy 1048576:=⟨by decide,by decide⟩
end Go.Proofs.YtfolipnappekaaaGreat

namespace Go.Proofs.YtfolipnappekaaaGreat
open Go.RowKit
abbrev PP:Type:=Int×ByteArray×List (List Int)×Unit
noncomputable def Ft (p:List Int):Bool:=dec (1<=p.length/\p.length<=20/\DL p.length p p.length)
noncomputable def Da (n:Int) (p:List Int):Bool:=dec ((p.length:Int)=n/\Ft p=true)
noncomputable def Ll (n:Int) (g:List (List Int)):Bool:=dec ((1<=n/\n<=20)/\g.length<=8/\ ∀p∈g,Da n p=true)
def Ds {α:Type} (P:α->Bool):List α->Int->Int
 | [],_=> -1
 |y::r,i=>if P y=true then i else Ds P r (i+1)
abbrev tG1:Ty:= .clo 136 (.pair (.ptr tI) .unit)
def sA (s:ByteArray) (i:Nat):Prop:= ∃c:UInt8,s[i]?=some c/\65<=c.toNat/\c.toNat<=90/\ ∀k,k<i->s[k]?≠some c
noncomputable def iA (s:ByteArray) (i:Int):Bool:=dec (sA s i.toNat)
noncomputable def Yw (s:ByteArray):Bool:=dec ((1<=s.size/\s.size<=8)/\ ∀j,j<s.size->sA s j)
noncomputable def Bv (p:PP):Bool:=dec (Ll p.1 p.2.2.1=true/\Yw p.2.1=true/\p.2.1.size=p.2.2.1.length)
def Cl (p:PP):Prop:=p.2.1.size<=4294967296/\Ev p.2.2.1
noncomputable abbrev Qw:Spec:=Co (.pair tL .unit) tI false true (λ_=>True) (λx=>(List.length x.1:Int))
noncomputable abbrev Dt:Spec:=Co (.pair tL .unit) .bool false true (λx=>short x.1) (λx=>Ft x.1)
noncomputable abbrev Hs:Spec:=Co (.pair tI (.pair e8 .unit)) .bool false true (λx=>Ev x.2.1) (λx=>Ll x.1 x.2.1)
noncomputable abbrev dT:Spec:=Co (.pair tL (.pair (.ptr tI) .unit)) .bool false true (λx=>short x.1) (λx=>!Da x.2.1 x.1)
noncomputable abbrev sk:Spec:=Co (.pair e8 (.pair tG1 .unit)) tI false true (λx=>Ev x.1) (λx=>Ds (λp=>!Da x.2.1.1 p) x.1 0)
noncomputable abbrev si:Spec:=Co (.pair e8 (.pair tG1 .unit)) .bool false true (λx=>Ev x.1) (λx=>List.any x.1 (λp=>!Da x.2.1.1 p))
noncomputable abbrev Zd:Spec:=Co (.pair .str (.pair tI .unit)) .bool false true (λx=>0<=x.2.1/\x.2.1<x.1.size/\x.1.size<=4294967296) (λx=>iA x.1 x.2.1)
noncomputable abbrev Ue:Spec:=Co (.pair .str .unit) .bool false true (λx=>x.1.size<=4294967296) (λx=>Yw x.1)
noncomputable abbrev Du:Spec:=Co (.pair Dc .unit) .bool false true (λx=>Cl x.1) (λx=>Bv x.1)
def nN (p:PP) (room:Int):Int:=if room-p.2.1.size<0 then-1 else if Mm p.2.2.1 (room-p.2.1.size)<0 then-1 else Mm p.2.2.1 (room-p.2.1.size)
def kV (a b:PP):Bool:=decide (a.1=b.1)&&(decide (a.2.1=b.2.1)&&decide (a.2.2.1=b.2.2.1))
noncomputable abbrev sl:Spec:=Co (.pair Dc (.pair tI .unit)) tI false true (λx=>Cl x.1/\roomy x.2.1) (λx=>nN x.1 x.2.1)
noncomputable abbrev lf:Spec:=Co (.pair Dc .unit) Dc false true (λx=>Cl x.1) (λx=>x.1)
noncomputable abbrev sj:Spec:=Co (.pair Dc (.pair Dc .unit)) .bool false true (λx=>Cl x.1) (λx=>kV x.1 x.2.1)
noncomputable abbrev Nr:Spec:=Co (.pair Gy (.pair tL .unit)) tI false true (λx=>Kf x.1/\short x.2.1) (λx=>Ds (λp=>decide (p=x.2.1)) x.1.2.1 0)
theorem YP (xs:List Int) (P:Int->Prop):(P (↑xs.length:Int))=fnW Cc (look []) Qw Tryz.f119 (xs,()) P:=by kernel_rfl
theorem vd (p:List Int) (P:Bool->Prop):(∃(y2:Bool),Bw.fn ((↑p.length:Int),(1:Int),(20:Int),())=some y2/\Br (!y2) (P false) (Bk (λ(v3:Int×PUnit) (k4:Int×PUnit->Prop)=>Br (decide (v3.1<(↑p.length:Int))) (∃(y5:Int),idx p v3.1=some y5/\ ∃(y6:Bool),Bw.fn (y5,(0:Int),IntKind.i64.wrap ((↑p.length:Int)-(1:Int)),())=some y6/\Br (!y6) (P false) (((0:Int)<=(0:Int)/\(0:Int)<=v3.1/\v3.1<=(↑p.length:Int))/\ ∃(y7:Int),idx p v3.1=some y7/\ ∃(y8:Bool),Ko.fn (List.drop (Int.toNat (0:Int)) (List.take v3.1.toNat p),y7,())=some y8/\Br y8 (P false) (k4 (IntKind.i64.wrap (v3.1+(1:Int)),())))) (P true)) ((0:Int),PUnit.unit)))=fnW Cc (look [(88,Bw),(100,Ko)]) Dt Tryz.f75 (p,()) P:=by kernel_rfl
theorem uX (p:List Int) (P:Bool->Prop):(∃(y2:Int),Qw.fn (p,())=some y2/\ ∃(y3:Bool),Bw.fn (y2,(1:Int),(20:Int),())=some y3/\Br (!y3) (P false) (Bk (λ(v4:Int×Int×PUnit) (k5:Int×Int×PUnit->Prop)=>Br (decide (v4.2.1<(↑p.length:Int))) (∃(y6:Int),idx p v4.2.1=some y6/\ ∃(y7:Int),Qw.fn (p,())=some y7/\ ∃(y8:Bool),Bw.fn (y6,(0:Int),IntKind.i64.wrap (y7-(1:Int)),())=some y8/\Br (!y8) (P false) (¬y6<(0:Int)/\k5 (IntKind.i64.wrap (↑(BitVec.ofInt IntKind.i64.bits v4.1|||BitVec.ofInt IntKind.i64.bits (IntKind.i64.wrap ((1:Int)*(2:Int)^min y6.toNat IntKind.i64.bits))).toNat:Int),IntKind.i64.wrap (v4.2.1+(1:Int)),()))) (¬(↑p.length:Int)<(0:Int)/\P (v4.1==IntKind.i64.wrap (IntKind.i64.wrap ((1:Int)*(2:Int)^min (↑p.length:Int).toNat IntKind.i64.bits)-(1:Int))))) ((0:Int),(0:Int),PUnit.unit)))=fnW Cc (look [(90,Bw),(119,Qw)]) Dt Tryz.f134 (p,()) P:=by kernel_rfl
theorem v7 (n:Int) (g:List (List Int)) (P:Bool->Prop):(∃(y3:Bool),Bw.fn (n,(1:Int),(20:Int),())=some y3/\Br (!y3) (P false) (Br (decide ((↑g.length:Int)>(8:Int))) (P false) (Bk (λ(v4:Int×PUnit) (k5:Int×PUnit->Prop)=>Br (decide (v4.1<(↑g.length:Int))) (∃(y6:List Int),idx g v4.1=some y6/\Br ((↑y6.length:Int) !=n) (P false) (∃(y7:List Int),idx g v4.1=some y7/\ ∃(y8:Bool),Dt.fn (y7,())=some y8/\Br (!y8) (P false) (k5 (IntKind.i64.wrap (v4.1+(1:Int)),())))) (P true)) ((0:Int),PUnit.unit))))=fnW Cc (look [(88,Bw),(75,Dt)]) Hs Tryz.f123 (n,g,()) P:=by kernel_rfl
theorem RR (p:List Int) (n:Int) (P:Bool->Prop):(∃(y3:Int),Qw.fn (p,())=some y3/\Br (y3 !=n) (P true) (∃(y4:Bool),Dt.fn (p,())=some y4/\P !y4))=fnW Cc (look [(119,Qw),(134,Dt)]) dT Tryz.f136 (p,n,()) P:=by kernel_rfl
theorem Acu (g:List (List Int)) (n:Int×Unit) (P:Int->Prop):(Bk (λ(v3:Int×PUnit) (k4:Int×PUnit->Prop)=>Br (decide (v3.1<(↑g.length:Int))) (∃(y5:List Int),idx g v3.1=some y5/\ ∃(y6:Bool),dT.fn (y5,n.1,())=some y6/\Br y6 (P v3.1) (k4 (IntKind.i64.wrap (v3.1+(1:Int)),()))) (P (-1:Int))) ((0:Int),PUnit.unit))=fnW Cc (look [(136,dT)]) sk Tryz.f150 (g,n,()) P:=by kernel_rfl
theorem Acp (g:List (List Int)) (n:Int×Unit) (P:Bool->Prop):(∃(y3:Int),sk.fn (g,n,())=some y3/\P (decide (y3>=(0:Int))))=fnW Cc (look [(150,sk)]) si Tryz.f135 (g,n,()) P:=by kernel_rfl
theorem uW (n:Int) (g:List (List Int)) (P:Bool->Prop):(∃(y3:Bool),Bw.fn (n,(1:Int),(20:Int),())=some y3/\Br y3 (Br (decide ((↑g.length:Int)<=(8:Int))) (∃(y4:Bool),si.fn (g,(n,()),())=some y4/\P !y4) (P false)) (P false))=fnW Cc (look [(90,Bw),(135,si)]) Hs Tryz.f110 (n,g,()) P:=by kernel_rfl
theorem OF (s:ByteArray) (i:Int) (P:Bool->Prop):((0:Int)<=i/\ ∃(y3:UInt8),s[i.toNat]?=some y3/\Br (decide ((↑y3.toNat:Int)<(65:Int))) (P false) ((0:Int)<=i/\ ∃(y4:UInt8),s[i.toNat]?=some y4/\Br (decide ((↑y4.toNat:Int)>(90:Int))) (P false) (Bk (λ(v5:Int×PUnit) (k6:Int×PUnit->Prop)=>Br (decide (v5.1<i)) ((0:Int)<=v5.1/\ ∃(y7:UInt8),s[v5.1.toNat]?=some y7/\(0:Int)<=i/\ ∃(y8:UInt8),s[i.toNat]?=some y8/\Br ((↑y7.toNat:Int)==(↑y8.toNat:Int)) (P false) (k6 (IntKind.i64.wrap (v5.1+(1:Int)),()))) (P true)) ((0:Int),PUnit.unit))))=fnW Cc (look []) Zd Tryz.f124 (s,i,()) P:=by kernel_rfl
theorem IA (s:ByteArray) (P:Bool->Prop):(Bk (λ(v2:Int×PUnit) (k3:Int×PUnit->Prop)=>Br (decide (v2.1<(↑s.size:Int))) ((0:Int)<=v2.1/\ ∃(y4:UInt8),s[v2.1.toNat]?=some y4/\ ∃(y5:Bool),Bw.fn (IntKind.i64.wrap (↑y4.toNat:Int),(65:Int),(90:Int),())=some y5/\Br (!y5) (P false) (Bk (λ(v6:Int×PUnit) (k7:Int×PUnit->Prop)=>Br (decide (v6.1<v2.1)) ((0:Int)<=v6.1/\ ∃(y8:UInt8),s[v6.1.toNat]?=some y8/\(0:Int)<=v2.1/\ ∃(y9:UInt8),s[v2.1.toNat]?=some y9/\Br ((↑y8.toNat:Int)==(↑y9.toNat:Int)) (P false) (k7 (IntKind.i64.wrap (v6.1+(1:Int)),()))) (k3 (IntKind.i64.wrap (v2.1+(1:Int)),()))) ((0:Int),PUnit.unit))) (∃(y4:Bool),Bw.fn ((↑s.size:Int),(1:Int),(8:Int),())=some y4/\P y4)) ((0:Int),PUnit.unit))=fnW Cc (look [(90,Bw)]) Ue Tryz.f111 (s,()) P:=by kernel_rfl
abbrev fg:Type:=Int×Int×ByteArray×List (List Int)×PUnit
theorem ve (p:Int×ByteArray×List (List Int)×Unit) (P:Bool->Prop):(Br ((↑p.2.2.1.length:Int)==(0:Int)) (P false) (Br ((↑p.2.1.size:Int) !=(↑p.2.2.1.length:Int)) (P false) (∃(y2:Bool),Hs.fn (p.1,p.2.2.1,())=some y2/\Br (!y2) (P false) (Bk (λ(v3:fg) (k4:fg->Prop)=>Br (decide (v3.1<(↑v3.2.2.1.size:Int))) (∃(y5:Bool),Zd.fn (v3.2.2.1,v3.1,())=some y5/\Br (!y5) (P false) (k4 (IntKind.i64.wrap (v3.1+(1:Int)),v3.2.1,v3.2.2.1,v3.2.2.2.1,()))) (P true)) ((0:Int),p.1,p.2.1,p.2.2.1,PUnit.unit)))))=fnW Cc (look [(123,Hs),(124,Zd)]) Du Tryz.f93 (p,()) P:=by kernel_rfl
theorem uY (p:Int×ByteArray×List (List Int)×Unit) (P:Bool->Prop):(∃(y2:Bool),Hs.fn (p.1,p.2.2.1,())=some y2/\Br y2 (∃(y3:Bool),Ue.fn (p.2.1,())=some y3/\Br y3 (P ((↑p.2.1.size:Int)==(↑p.2.2.1.length:Int))) (P false)) (P false))=fnW Cc (look [(110,Hs),(111,Ue)]) Du Tryz.f84 (p,()) P:=by kernel_rfl
theorem Acx (p:Int×ByteArray×List (List Int)×Unit) (room:Int) (P:Int->Prop):(Br (decide (IntKind.i64.wrap (room-(↑p.2.1.size:Int))<(0:Int))) (P (-1:Int)) (∃(y3:Int),aI.fn (p.2.2.1,IntKind.i64.wrap (room-(↑p.2.1.size:Int)),())=some y3/\Br (decide (y3<(0:Int))) (P (-1:Int)) (P y3)))=fnW Cc (look [(45,aI)]) sl Tryz.f13 (p,room,()) P:=by kernel_rfl
theorem Acz (p:Int×ByteArray×List (List Int)×Unit) (P:(Int×ByteArray×List (List Int)×Unit)->Prop):(∃(y2:List (List Int)),aJ.fn (p.2.2.1,())=some y2/\P (p.1,p.2.1,y2,()))=fnW Cc (look [(49,aJ)]) lf Tryz.f16 (p,()) P:=by kernel_rfl
theorem Acr (a b:Int×ByteArray×List (List Int)×Unit) (P:Bool->Prop):(Br (a.1 !=b.1) (P false) (Br (!a.2.1.toList==b.2.1.toList) (P false) (∃(y3:Bool),Nq.fn (a.2.2.1,b.2.2.1,())=some y3/\Br (!y3) (P false) (P true))))=fnW Cc (look [(53,Nq)]) sj Tryz.f20 (a,b,()) P:=by kernel_rfl
abbrev ll:Type:=Int×List Int×List (List Int)×List Int×PUnit
theorem CL (t:List Int×List (List Int)×List Int×Unit) (xs:List Int) (P:Int->Prop):(Bk (λ(v3:ll) (k4:ll->Prop)=>Br (decide (v3.1<(↑v3.2.2.1.length:Int))) (∃(y5:List Int),idx v3.2.2.1 v3.1=some y5/\ ∃(y6:Bool),Ao.fn (y5,xs,())=some y6/\Br y6 (P v3.1) (k4 (IntKind.i64.wrap (v3.1+(1:Int)),v3.2.1,v3.2.2.1,v3.2.2.2.1,()))) (P (-1:Int))) ((0:Int),t.1,t.2.1,t.2.2.1,PUnit.unit))=fnW Cc (look [(101,Ao)]) Nr Tryz.f77 (t,xs,()) P:=by kernel_rfl
theorem XQ (xs:List Int) (_:True):fnW Cc (look []) Qw Tryz.f119 (xs,()) (λ(z:Int)=>z=(xs.length:Int)):=Eq.mp (YP xs _) rfl
theorem gu:Sound Tryz.prog 119 Qw:=
 Sound.Co Bg Al mixed Tryz.func119 (by kernel_rfl) (by kernel_rfl) λx h=>XQ x.1 h
theorem uJ {α:Type} [DecidableEq α]: ∀(l m:List α),l.Nodup->(∀x∈l,x∈m)->l.length<=m.length
 | [],m,_,_=>Nat.zero_le _
 |a::l,m,hn,hs=>by
  have ha:a∈m:=hs a (List.mem_cons_self ..)
  have hn:=List.nodup_cons.1 hn
  have:=uJ l (m.erase a) hn.2 λx hx=>(List.mem_erase_of_ne (λ(e:x=a)=>hn.1 (by rw [<-e];exact hx))).2 (hs x (List.mem_cons_of_mem _ hx))
  rw [List.length_erase_of_mem ha] at this
  have:0<m.length:=List.length_pos_of_mem ha
  simp only [List.length_cons]
  omega
def upto (n:Nat):List Int:=(List.range n).map Int.ofNat
theorem BV (n:Nat):(upto n).Nodup:=by
 unfold upto
 exact List.Pairwise.map _ (λa b fP e=>fP (Int.ofNat.inj e)) List.nodup_range
theorem Sf {n:Nat} {x:Int} :x∈upto n↔0<=x/\x<n:=by
 unfold upto
 simp only [List.mem_map,List.mem_range]
 constructor
 ·rintro ⟨a,ha,rfl⟩;exact ⟨Int.natCast_nonneg _,Int.ofNat_lt.2 ha⟩
 ·rintro ⟨h1,h2⟩;exact ⟨x.toNat,by omega,by simp only [Int.ofNat_eq_natCast];omega⟩
theorem ja (n:Nat):(upto n).length=n:=by simp [upto]
theorem cE {xs:List Int} (h: ∀j (hj:j<xs.length),xs[j]∉xs.take j):xs.Nodup:=by
 refine List.pairwise_iff_getElem.2 λi j hi hj jF e=>h j hj ?_
 rw [<-e]
 exact List.mem_take_iff_getElem.2 ⟨i,by omega,rfl⟩
theorem pa {xs:List Int} (h:xs.Nodup): ∀j (hj:j<xs.length),xs[j]∉xs.take j:=by
 intro j hj hm
 obtain ⟨i,hi,e⟩:=List.mem_take_iff_getElem.1 hm
 exact List.pairwise_iff_getElem.1 h i j (by omega) hj (by omega) e
theorem Xk {xs:List Int} (h: ∀x∈xs,0<=x/\x<xs.length):(∀k:Nat,k<xs.length->(k:Int)∈xs)↔ ∀j (hj:j<xs.length),xs[j]∉xs.take j:=by
 constructor
 ·intro ha j hj hm
  have h1:=uJ (upto xs.length) (xs.take j++xs.drop (j+1)) (BV _) λx hx=>by
   obtain ⟨h1,h2⟩:=Sf.1 hx
   have hx:=ha x.toNat (by omega)
   rw [show ((x.toNat:Nat):Int)=x by omega] at hx
   rw [<-List.take_append_drop j xs,List.mem_append,List.drop_eq_getElem_cons hj,List.mem_cons] at hx
   rcases hx with hx|rfl|hx
   ·exact List.mem_append_left _ hx
   ·exact List.mem_append_left _ hm
   ·exact List.mem_append_right _ hx
  rw [ja,List.length_append,List.length_take,List.length_drop] at h1
  omega
 ·intro hn k hk
  refine Classical.byContradiction λhc=>?_
  have h1:=uJ xs ((upto xs.length).erase (k:Int)) (cE hn) λx hx=>by
   refine (List.mem_erase_of_ne λ(e:x=(k:Int))=>hc (by rw [<-e];exact hx)).2 (Sf.2 (h x hx))
  rw [List.length_erase_of_mem (Sf.2 ⟨by omega,by omega⟩),ja] at h1
  omega
def mask (xs:List Int):Nat:=xs.foldl (λm x=>m|||2^x.toNat) 0
theorem FY (xs:List Int) (x:Int):mask (xs++ [x])=mask xs|||2^x.toNat:=by simp [mask]
theorem tR (xs:List Int) (k:Nat): ∀a:Nat,(xs.foldl (λm x=>m|||2^x.toNat) a).testBit k=(a.testBit k||xs.any λx=>decide (x.toNat=k)):=by
 induction xs with
 |nil=>simp
 |cons x xs ih=>
  intro a
  rw [List.foldl_cons,ih,Nat.testBit_or,Nat.testBit_two_pow,List.any_cons,Bool.or_assoc]
theorem nP (xs:List Int) (k:Nat):(mask xs).testBit k=xs.any λx=>decide (x.toNat=k):=by
 unfold mask
 rw [tR,Nat.zero_testBit,Bool.false_or]
theorem QR {xs:List Int} {n:Nat} (h: ∀x∈xs,x.toNat<n):mask xs<2^n:=by
 refine Nat.lt_pow_two_of_testBit _ λk hk=>?_
 rw [nP]
 refine Bool.eq_false_iff.2 λht=>?_
 obtain ⟨x,hx,he⟩:=List.any_eq_true.1 ht
 have:=h x hx
 have:=of_decide_eq_true he
 omega
theorem rT {xs:List Int} (h: ∀x∈xs,0<=x/\x<xs.length):mask xs=2^xs.length-1↔ ∀k:Nat,k<xs.length->(k:Int)∈xs:=by
 constructor
 ·intro e k hk
  have h1:=nP xs k
  rw [e,Nat.testBit_two_pow_sub_one,decide_eq_true hk] at h1
  obtain ⟨x,hx,he⟩:=List.any_eq_true.1 h1.symm
  have:=(h x hx).1
  have:=of_decide_eq_true he
  have e:x=(k:Int):=by omega
  exact e▸hx
 ·intro ha
  refine Nat.eq_of_testBit_eq λk=>?_
  rw [nP,Nat.testBit_two_pow_sub_one]
  by_cases hk:k<xs.length
  ·rw [decide_eq_true hk]
   exact List.any_eq_true.2 ⟨k,ha k hk,by simp⟩
  ·rw [decide_eq_false hk]
   refine Bool.eq_false_iff.2 λht=>?_
   obtain ⟨x,hx,he⟩:=List.any_eq_true.1 ht
   have:=h x hx
   have:=of_decide_eq_true he
   omega
theorem QV {m:Nat} {x:Int} (hm:m<2^20) (h0:0<=x) (h1:x<20):
  IntKind.i64.wrap (((BitVec.ofInt IntKind.i64.bits (m:Int)|||BitVec.ofInt IntKind.i64.bits (IntKind.i64.wrap ((1:Int)*(2:Int)^min x.toNat IntKind.i64.bits))).toNat:Nat):Int)=((m|||2^x.toNat:Nat):Int):=by
 have hx:(2:Nat)^x.toNat<2^20:=Nat.pow_lt_pow_right (by omega) (by omega)
 have e1:min x.toNat IntKind.i64.bits=x.toNat:=by show min x.toNat 64=_;omega
 have e2:(1:Int)*(2:Int)^x.toNat=((2^x.toNat:Nat):Int):=by rw [Int.one_mul];exact (Int.natCast_pow 2 _).symm
 rw [e1,e2,Cp (n:=((2^x.toNat:Nat):Int)) (by have:(0:Int)<=((2^x.toNat:Nat):Int):=Int.natCast_nonneg _;omega) (by omega)]
 show IntKind.i64.wrap (((BitVec.ofInt 64 (m:Int)|||BitVec.ofInt 64 ((2^x.toNat:Nat):Int)).toNat:Nat):Int)=_
 rw [BitVec.ofInt_natCast,BitVec.ofInt_natCast,BitVec.toNat_or,BitVec.toNat_ofNat,BitVec.toNat_ofNat,Nat.mod_eq_of_lt (by omega),Nat.mod_eq_of_lt (by omega)]
 have:=Nat.or_lt_two_pow hm hx
 exact Cp (by omega) (by omega)
theorem u5 (p:List Int) (h:short p):fnW Cc (look [(88,Bw),(100,Ko)]) Dt Tryz.f75 (p,()) (λ(z:Bool)=>z=Ft p):=by
 have hs:=h
 unfold short at h
 refine Eq.mp (vd p _) ⟨_,if_pos trivial,⟨λhp=>?_,λhp=>?_⟩⟩
 ·have hp:=Dj hp
  rw [Cm] at hp
  dsimp only at hp
  exact Bh λhh=>hp ⟨by omega,by omega⟩
 ·have hp:=De hp
  rw [Cm] at hp
  dsimp only at hp
  refine Ah p.length (λv=>v.1) (λj _=>DL p.length p j) rfl (λj _ hj=>absurd hj (Nat.not_lt_zero _)) ?_
  rintro j ⟨i,⟨⟩⟩ K hj hi hR hK
  dsimp only at hi⊢
  subst hi
  refine Br.dec (λhl=>?_) λhl=>?_
  ·have hl:j<p.length:=by omega
   refine ⟨_,Ap hl,_,if_pos trivial,⟨λhq=>?_,λhq=>?_⟩⟩
   ·have hq:=Dj hq
    rw [Cm,Cp (by omega) (by omega)] at hq
    exact Bh λhh=>hq ⟨(hh.2.2 j hl hl).1,(hh.2.2 j hl hl).2.1⟩
   ·have hq:=De hq
    rw [Cm,Cp (by omega) (by omega)] at hq
    refine ⟨⟨by omega,by omega,by omega⟩,_,Ap hl,?_⟩
    rw [show (Int.toNat 0)=0 from rfl,List.drop_zero,Int.toNat_natCast]
    refine ⟨_,if_pos (BD hs j),⟨λhc=>?_,λhc=>?_⟩⟩
    ·have hc:decide (p[j]∈p.take j)=true:=hc
     rw [decide_eq_true_iff] at hc
     exact Bh λhh=>(hh.2.2 j hl hl).2.2 hc
    ·have hc:decide (p[j]∈p.take j)=false:=hc
     rw [decide_eq_false_iff_not] at hc
     rw [Ag (by omega)]
     exact hK hl _ rfl (PN hl hR hq.1 hq.2 hc)
  ·have:j=p.length:=by omega
   subst this
   exact Jc ⟨by omega,by omega,hR⟩
theorem Md:Sound Tryz.prog 75 Dt:=
 Sound.Co Bg (Ae Xv (Ae iS Al)) mixed Tryz.func75 (by kernel_rfl) (by kernel_rfl) λx h=>u5 x.1 h
theorem tW (p:List Int) (h:short p):fnW Cc (look [(90,Bw),(119,Qw)]) Dt Tryz.f134 (p,()) (λ(z:Bool)=>z=Ft p):=by
 unfold short at h
 refine Eq.mp (uX p _) ⟨_,if_pos trivial,_,if_pos trivial,⟨λhp=>?_,λhp=>?_⟩⟩
 ·have hp:=Dj hp
  rw [Cm] at hp
  dsimp only at hp
  exact Bh λhh=>hp ⟨by omega,by omega⟩
 ·have hp:=De hp
  rw [Cm] at hp
  dsimp only at hp
  refine Ah p.length (λv=>v.2.1) (λj v=>v.1=(mask (p.take j):Int)/\ ∀x∈p.take j,0<=x/\x<p.length) rfl ⟨rfl,by simp⟩ ?_
  rintro j ⟨m,i,⟨⟩⟩ K hj hi ⟨hm,hR⟩ hK
  dsimp only at hi hm⊢
  subst hi hm
  refine Br.dec (λhl=>?_) λhl=>?_
  ·have hl:j<p.length:=by omega
   refine ⟨_,Ap hl,_,if_pos trivial,_,if_pos trivial,⟨λhq=>?_,λhq=>?_⟩⟩
   ·have hq:=Dj hq
    rw [Cm] at hq
    dsimp only at hq
    rw [Cp (by omega) (by omega)] at hq
    exact Bh λhh=>hq ⟨(hh.2.2 j hl hl).1,(hh.2.2 j hl hl).2.1⟩
   ·have hq:=De hq
    rw [Cm] at hq
    dsimp only at hq
    rw [Cp (by omega) (by omega)] at hq
    refine ⟨by omega,?_⟩
    rw [Ag (by omega)]
    have hb:mask (p.take j)<2^20:=QR λx hx=>by have:=hR x hx;omega
    refine hK hl _ rfl ⟨?_,?_⟩
    ·dsimp only
     rw [QV hb hq.1 (by omega),List.take_succ_eq_append_getElem hl,FY]
    ·rw [List.take_succ_eq_append_getElem hl]
     intro x hx
     rcases List.mem_append.1 hx with hx|hx
     ·exact hR x hx
     ·rw [List.mem_singleton.1 hx];omega
  ·have:j=p.length:=by omega
   subst this
   rw [List.take_length] at hR⊢
   refine ⟨by omega,?_⟩
   have hx:(2:Nat)^p.length<=2^20:=Nat.pow_le_pow_right (by omega) (by omega)
   have FL:0<(2:Nat)^p.length:=Nat.two_pow_pos _
   have e1:min (p.length:Int).toNat IntKind.i64.bits=p.length:=by show min (p.length:Int).toNat 64=_;omega
   have e2:(1:Int)*(2:Int)^p.length=((2^p.length:Nat):Int):=by rw [Int.one_mul];exact (Int.natCast_pow 2 _).symm
   rw [e1,e2,Cp (n:=((2^p.length:Nat):Int)) (by omega) (by omega),Cp (by omega) (by omega)]
   have hE:((mask p:Int)==((2^p.length:Nat):Int)-1)=decide (mask p=2^p.length-1):=by
    rw [Bool.eq_iff_iff,beq_iff_eq,decide_eq_true_iff]
    omega
   show ((mask p:Int)==((2^p.length:Nat):Int)-1)=Ft p
   rw [hE]
   by_cases hf:mask p=2^p.length-1
   ·rw [decide_eq_true hf]
    have hn:=(Xk hR).1 ((rT hR).1 hf)
    refine Jc ⟨by omega,by omega,λj hj _=>?_⟩
    have:=hR _ (List.getElem_mem hj)
    exact ⟨this.1,by omega,hn j hj⟩
   ·rw [decide_eq_false hf]
    refine Bh λhh=>hf ((rT hR).2 ((Xk hR).2 λj hj=>(hh.2.2 j hj hj).2.2))
theorem Zh:Sound Tryz.prog 134 Dt:=
 Sound.Co Bg (Ae Tw (Ae gu Al)) mixed Tryz.func134 (by kernel_rfl) (by kernel_rfl) λx h=>tW x.1 h
theorem tZ (n:Int) (g:List (List Int)) (h:Ev g):fnW Cc (look [(88,Bw),(75,Dt)]) Hs Tryz.f123 (n,g,()) (λ(z:Bool)=>z=Ll n g):=by
 obtain ⟨h,h4⟩:=h
 refine Eq.mp (v7 n g _) ⟨_,if_pos trivial,⟨λhp=>?_,λhp=>?_⟩⟩
 ·have hp:=Dj hp
  rw [Cm] at hp
  exact Bh λhh=>hp hh.1
 ·have hp:=De hp
  rw [Cm] at hp
  refine Br.dec (λhg=>?_) λhg=>?_
  ·exact Bh λhh=>by have:=hh.2.1;omega
  ·refine Ah g.length (λv=>v.1) (λj _=> ∀p∈g.take j,Da n p=true) rfl (by simp) ?_
   rintro j ⟨i,⟨⟩⟩ K hj hi hR hK
   dsimp only at hi⊢
   subst hi
   refine Br.dec (λhl=>?_) λhl=>?_
   ·have hl:j<g.length:=by omega
    have hm:g[j]∈g:=List.getElem_mem hl
    refine ⟨_,Ap hl,⟨λhe=>?_,λhe=>?_⟩⟩
    ·simp only [bne_iff_ne,ne_eq] at he
     exact Bh λhh=>he (Eb.1 (hh.2.2 _ hm)).1
    ·simp only [bne_eq_false_iff_eq] at he
     refine ⟨_,Ap hl,_,if_pos (h4 _ hm),⟨λhq=>?_,λhq=>?_⟩⟩
     ·have hq:=Dj hq
      exact Bh λhh=>hq (Eb.1 (hh.2.2 _ hm)).2
     ·have hq:=De hq
      rw [Ag (by omega)]
      refine hK hl _ rfl ?_
      rw [List.take_succ_eq_append_getElem hl]
      intro x hx
      rcases List.mem_append.1 hx with hx|hx
      ·exact hR x hx
      ·rw [List.mem_singleton.1 hx];exact Eb.2 ⟨he,hq⟩
   ·have:j=g.length:=by omega
    subst this
    rw [List.take_length] at hR
    exact Jc ⟨hp,by omega,hR⟩
theorem Zi:Sound Tryz.prog 123 Hs:=
 Sound.Co Bg (Ae Xv (Ae Md Al)) mixed Tryz.func123 (by kernel_rfl) (by kernel_rfl) λx h=>tZ x.1 x.2.1 h
theorem QW (p:List Int) (n:Int) (h:short p):fnW Cc (look [(119,Qw),(134,Dt)]) dT Tryz.f136 (p,n,()) (λ(z:Bool)=>z=!Da n p):=by
 refine Eq.mp (RR p n _) ⟨_,if_pos trivial,⟨λhe=>?_,λhe=>⟨_,if_pos h,?_⟩⟩⟩
 ·simp only [bne_iff_ne,ne_eq] at he
  have:Da n p=false:=PM.2 λhh=>he hh.1
  rw [this];rfl
 ·simp only [bne_eq_false_iff_eq] at he
  show (!Ft p)=_
  congr 1
  cases hp:Ft p with
  |true=>exact Jc ⟨he,hp⟩
  |false=>exact Bh λhh=>by rw [hh.2] at hp;cases hp
theorem xS:Sound Tryz.prog 136 dT:=
 Sound.Co Bg (Ae gu (Ae Zh Al)) mixed Tryz.func136 (by kernel_rfl) (by kernel_rfl) λx h=>QW x.1 x.2.1 h
theorem kW {α:Type} (P:α->Bool): ∀(l:List α) (i:Int),0<=i->(0<=Ds P l i↔l.any P=true)
 | [],i,_=>by simp [Ds]
 |y::r,i,h=>by
  simp only [Ds,List.any_cons,Bool.or_eq_true]
  split
  ·rename_i hy;simp [hy,h]
  ·rename_i hy;rw [kW P r (i+1) (by omega)];simp [hy]
theorem Ac4 (g:List (List Int)) (n:Int×Unit) (h:Ev g):fnW Cc (look [(136,dT)]) sk Tryz.f150 (g,n,()) (λ(z:Int)=>z=Ds (λp=>!Da n.1 p) g 0):=by
 obtain ⟨h,h4⟩:=h
 refine Eq.mp (Acu g n _) ?_
 refine Ah g.length (λv=>v.1) (λj _=>Ds (λp=>!Da n.1 p) (g.drop j) j=Ds (λp=>!Da n.1 p) g 0) rfl (by simp) ?_
 rintro j ⟨i,⟨⟩⟩ K hj hi hR hK
 dsimp only at hi⊢
 subst hi
 refine Br.dec (λhl=>?_) λhl=>?_
 ·have hl:j<g.length:=by omega
  rw [List.drop_eq_getElem_cons hl] at hR
  simp only [Ds] at hR
  refine ⟨_,Ap hl,_,if_pos (h4 _ (List.getElem_mem hl)),⟨λhe=>?_,λhe=>?_⟩⟩
  ·have he:(!Da n.1 g[j])=true:=he
   rw [if_pos he] at hR
   exact hR
  ·have he:(!Da n.1 g[j])=false:=he
   rw [if_neg (by rw [he];decide)] at hR
   rw [Ag (by omega)]
   exact hK hl _ rfl (by push_cast;exact hR)
 ·have:j=g.length:=by omega
  subst this
  rw [List.drop_length] at hR
  exact hR
theorem HJ:Sound Tryz.prog 150 sk:=
 Sound.Co Bg (Ae xS Al) mixed Tryz.func150 (by kernel_rfl) (by kernel_rfl) λx h=>Ac4 x.1 x.2.1 h
theorem Ac0 (g:List (List Int)) (n:Int×Unit) (h:Ev g):fnW Cc (look [(150,sk)]) si Tryz.f135 (g,n,()) (λ(z:Bool)=>z=List.any g (λp=>!Da n.1 p)):=by
 refine Eq.mp (Acp g n _) ⟨_,if_pos h,?_⟩
 rw [Bool.eq_iff_iff,decide_eq_true_iff]
 exact kW _ g 0 (Int.le_refl 0)
theorem HH:Sound Tryz.prog 135 si:=
 Sound.Co Bg (Ae HJ Al) mixed Tryz.func135 (by kernel_rfl) (by kernel_rfl) λx h=>Ac0 x.1 x.2.1 h
theorem tV (n:Int) (g:List (List Int)) (h:Ev g):fnW Cc (look [(90,Bw),(135,si)]) Hs Tryz.f110 (n,g,()) (λ(z:Bool)=>z=Ll n g):=by
 refine Eq.mp (uW n g _) ⟨_,if_pos trivial,⟨λhp=>?_,λhp=>?_⟩⟩
 ·have hp:Jg n 1 20=true:=hp
  rw [Cm] at hp
  refine Br.dec (λhl=>⟨_,if_pos h,?_⟩) λhl=>?_
  ·show (!List.any g (λp=>!Da n p))=Ll n g
   cases ha:List.any g (λp=>!Da n p) with
   |true=>
    obtain ⟨p,vr,FG⟩:=List.any_eq_true.1 ha
    exact Bh λhh=>by rw [hh.2.2 p vr] at FG;cases FG
   |false=>
    refine Jc ⟨hp,by omega,λp hm=>?_⟩
    have:=List.any_eq_false.1 ha p hm
    simpa using this
  ·exact Bh λhh=>by have:=hh.2.1;omega
 ·refine Bh λhh=>?_
  have:Jg n 1 20=true:=Cm.2 hh.1
  have hp:Jg n 1 20=false:=hp
  rw [this] at hp;cases hp
theorem kq:Sound Tryz.prog 110 Hs:=
 Sound.Co Bg (Ae Tw (Ae HH Al)) mixed Tryz.func110 (by kernel_rfl) (by kernel_rfl) λx h=>tV x.1 x.2.1 h
theorem Hu {s:ByteArray} {k:Nat} (h:k<s.size):s[k]?=some s[k]:=getElem?_pos s k h
theorem MH (s:ByteArray) (i:Int) (h:0<=i/\i<s.size/\s.size<=4294967296):fnW Cc (look []) Zd Tryz.f124 (s,i,()) (λ(z:Bool)=>z=iA s i):=by
 obtain ⟨h1,h2,h3⟩:=h
 have hi:i.toNat<s.size:=by omega
 refine Eq.mp (OF s i _) ⟨h1,_,Hu hi,Br.dec (λhq=>?_) λhq=>⟨h1,_,Hu hi,Br.dec (λhr=>?_) λhr=>?_⟩⟩
 ·refine Bh λ⟨c,hc,PY,_⟩=>?_
  rw [Hu hi] at hc;cases hc;omega
 ·refine Bh λ⟨c,hc,_,PY,_⟩=>?_
  rw [Hu hi] at hc;cases hc;omega
 ·refine Ah i.toNat (λv=>v.1) (λj _=> ∀k,k<j->s[k]?≠some s[i.toNat]) rfl (λk hk=>absurd hk (Nat.not_lt_zero _)) ?_
  rintro j ⟨i',⟨⟩⟩ K hj mf hR hK
  dsimp only at mf⊢
  subst mf
  refine Br.dec (λhl=>?_) λhl=>?_
  ·have hl:j<i.toNat:=by omega
   have hj:j<s.size:=by omega
   rw [Int.toNat_natCast]
   refine ⟨by omega,_,Hu hj,h1,_,Hu hi,⟨λhe=>?_,λhe=>?_⟩⟩
   ·simp only [beq_iff_eq,Int.natCast_inj] at he
    refine Bh λ⟨c,hc,_,_,PY⟩=>?_
    rw [Hu hi] at hc;cases hc
    exact PY j hl (by rw [Hu hj,UInt8.toNat_inj.1 he])
   ·simp only [beq_eq_false_iff_ne,ne_eq,Int.natCast_inj] at he
    rw [Ag (by omega)]
    refine hK hl _ rfl λk hk=>?_
    by_cases e:k=j
    ·subst e
     rw [Hu hj]
     exact λe=>he (by rw [Option.some.inj e])
    ·exact hR k (by omega)
  ·have:j=i.toNat:=by omega
   subst this
   exact Jc ⟨_,Hu hi,by omega,by omega,hR⟩
theorem uy:Sound Tryz.prog 124 Zd:=
 Sound.Co Bg Al mixed Tryz.func124 (by kernel_rfl) (by kernel_rfl) λx h=>MH x.1 x.2.1 h
theorem GG (s:ByteArray) (h:s.size<=4294967296):fnW Cc (look [(90,Bw)]) Ue Tryz.f111 (s,()) (λ(z:Bool)=>z=Yw s):=by
 refine Eq.mp (IA s _) ?_
 refine Ah s.size (λv=>v.1) (λj _=> ∀k,k<j->sA s k) rfl (λk hk=>absurd hk (Nat.not_lt_zero _)) ?_
 rintro j ⟨i,⟨⟩⟩ K hj hi hR hK
 dsimp only at hi⊢
 subst hi
 refine Br.dec (λhl=>?_) λhl=>?_
 ·have hl:j<s.size:=by omega
  rw [Int.toNat_natCast]
  have hb:=(s[j]).toNat_lt
  refine ⟨by omega,_,Hu hl,_,if_pos trivial,⟨λhq=>?_,λhq=>?_⟩⟩
  ·have hq:=Dj hq
   rw [Cm] at hq
   dsimp only at hq
   rw [Cp (by omega) (by omega)] at hq
   refine Bh λhh=>?_
   obtain ⟨c,hc,PY,ZD,_⟩:=hh.2 j hl
   rw [Hu hl] at hc;cases hc
   exact hq ⟨by omega,by omega⟩
  ·have hq:=De hq
   rw [Cm] at hq
   dsimp only at hq
   rw [Cp (by omega) (by omega)] at hq
   refine Ah j (λv=>v.1) (λm _=> ∀k,k<m->s[k]?≠some s[j]) rfl (λk hk=>absurd hk (Nat.not_lt_zero _)) ?_
   rintro m ⟨i',⟨⟩⟩ K' hm mf hR' PU
   dsimp only at mf⊢
   subst mf
   refine Br.dec (λFz=>?_) λFz=>?_
   ·have Fz:m<j:=by omega
    have wF:m<s.size:=by omega
    rw [Int.toNat_natCast]
    refine ⟨by omega,_,Hu wF,by omega,_,Hu hl,⟨λhe=>?_,λhe=>?_⟩⟩
    ·simp only [beq_iff_eq,Int.natCast_inj] at he
     refine Bh λhh=>?_
     obtain ⟨c,hc,_,_,PY⟩:=hh.2 j hl
     rw [Hu hl] at hc;cases hc
     exact PY m Fz (by rw [Hu wF,UInt8.toNat_inj.1 he])
    ·simp only [beq_eq_false_iff_ne,ne_eq,Int.natCast_inj] at he
     rw [Ag (by omega)]
     refine PU Fz _ rfl λk hk=>?_
     by_cases e:k=m
     ·subst e
      rw [Hu wF]
      exact λe=>he (by rw [Option.some.inj e])
     ·exact hR' k (by omega)
   ·have:m=j:=by omega
    subst this
    rw [Ag (by omega)]
    refine hK hl _ rfl λk hk=>?_
    by_cases e:k=m
    ·subst e
     exact ⟨_,Hu hl,by omega,by omega,hR'⟩
    ·exact hR k (by omega)
 ·have:j=s.size:=by omega
  subst this
  refine ⟨_,if_pos trivial,?_⟩
  show Jg s.size 1 8=_
  cases hr:Jg s.size 1 8 with
  |true=>rw [Cm] at hr;exact Jc ⟨by omega,hR⟩
  |false=>refine Bh λhh=>?_;rw [Cm.2 ⟨by omega,by omega⟩] at hr;cases hr
theorem qp:Sound Tryz.prog 111 Ue:=
 Sound.Co Bg (Ae Tw Al) mixed Tryz.func111 (by kernel_rfl) (by kernel_rfl) λx h=>GG x.1 h
theorem BW {p:PP} (h:Bv p=true):1<=p.1/\p.1<=20/\1<=p.2.2.1.length/\p.2.2.1.length<=8:=by
 obtain ⟨h1,h2,h3⟩:=Eb.1 h
 obtain ⟨h4,h5,_⟩:=Eb.1 h1
 obtain ⟨h6,_⟩:=Eb.1 h2
 omega
theorem u6 (p:PP) (h:Cl p):fnW Cc (look [(123,Hs),(124,Zd)]) Du Tryz.f93 (p,()) (λ(z:Bool)=>z=Bv p):=by
 obtain ⟨hn,hg⟩:=h
 refine Eq.mp (ve p _) ⟨λh0=>?_,λh0=>⟨λh1=>?_,λh1=>⟨_,if_pos hg,⟨λh2=>?_,λh2=>?_⟩⟩⟩⟩
 ·simp only [beq_iff_eq] at h0
  exact Bh λhh=>by obtain ⟨_,h2,h3⟩:=hh;have:=(Eb.1 h2).1;omega
 ·simp only [bne_iff_ne,ne_eq,Int.natCast_inj] at h1
  exact Bh λhh=>h1 hh.2.2
 ·have h2:=Dj h2
  exact Bh λhh=>h2 hh.1
 ·simp only [beq_eq_false_iff_ne,ne_eq] at h0
  simp only [bne_eq_false_iff_eq,Int.natCast_inj] at h1
  have h2:Ll p.1 p.2.2.1=true:=De h2
  refine Ah p.2.1.size (λv=>v.1) (λj v=>v.2=(p.1,p.2.1,p.2.2.1,())/\ ∀k,k<j->sA p.2.1 k) rfl ⟨rfl,λk hk=>absurd hk (Nat.not_lt_zero _)⟩ ?_
  rintro j ⟨i,v⟩ K hj hi ⟨hv,hR⟩ hK
  dsimp only at hi hv⊢
  subst hi hv
  dsimp only
  refine Br.dec (λhl=>?_) λhl=>?_
  ·have hl:j<p.2.1.size:=by omega
   refine ⟨_,if_pos ⟨Int.natCast_nonneg j,Int.ofNat_lt.2 hl,hn⟩,⟨λhq=>?_,λhq=>?_⟩⟩
   ·have hq: ¬iA p.2.1 j=true:=Dj hq
    refine Bh λhh=>hq (Eb.2 ?_)
    rw [Int.toNat_natCast]
    exact (Eb.1 hh.2.1).2 j hl
   ·have hq:iA p.2.1 j=true:=De hq
    have hq:=Eb.1 hq
    rw [Int.toNat_natCast] at hq
    rw [Ag (by omega)]
    refine hK hl _ rfl ⟨rfl,λk hk=>?_⟩
    by_cases e:k=j
    ·subst e;exact hq
    ·exact hR k (by omega)
  ·have:j=p.2.1.size:=by omega
   subst this
   have:=(Eb.1 h2).2.1
   exact Jc ⟨h2,Eb.2 ⟨⟨by omega,by omega⟩,hR⟩,h1⟩
theorem Re:Sound Tryz.prog 93 Du:=
 Sound.Co Bg (Ae Zi (Ae uy Al)) mixed Tryz.func93 (by kernel_rfl) (by kernel_rfl) λx h=>u6 x.1 h
theorem tX (p:PP) (h:Cl p):fnW Cc (look [(110,Hs),(111,Ue)]) Du Tryz.f84 (p,()) (λ(z:Bool)=>z=Bv p):=by
 obtain ⟨hn,hg⟩:=h
 refine Eq.mp (uY p _) ⟨_,if_pos hg,⟨λh1=>⟨_,if_pos hn,⟨λh2=>?_,λh2=>?_⟩⟩,λh1=>?_⟩⟩
 ·have h1:Ll p.1 p.2.2.1=true:=h1
  have h2:Yw p.2.1=true:=h2
  by_cases e:p.2.1.size=p.2.2.1.length
  ·rw [e,beq_self_eq_true];exact Jc ⟨h1,h2,e⟩
  ·rw [show ((p.2.1.size:Int)==(p.2.2.1.length:Int))=false from beq_eq_false_iff_ne.2 (by omega)];exact Bh λhh=>e hh.2.2
 ·have h2:Yw p.2.1=false:=h2
  exact Bh λhh=>by rw [hh.2.1] at h2;cases h2
 ·have h1:Ll p.1 p.2.2.1=false:=h1
  exact Bh λhh=>by rw [hh.1] at h1;cases h1
theorem Rd:Sound Tryz.prog 84 Du:=
 Sound.Co Bg (Ae kq (Ae qp Al)) mixed Tryz.func84 (by kernel_rfl) (by kernel_rfl) λx h=>tX x.1 h
theorem Ac7 (p:PP) (room:Int) (h:Cl p/\roomy room):fnW Cc (look [(45,aI)]) sl Tryz.f13 (p,room,()) (λ(z:Int)=>z=nN p room):=by
 obtain ⟨⟨h1,h2⟩,h3,h4⟩:=h
 refine Eq.mp (Acx p room _) ?_
 rw [Cp (by omega) (by omega)]
 refine Br.dec (λhn=>?_) λhn=>⟨_,if_pos ⟨h2,by dsimp only;omega,by dsimp only;omega⟩,Br.dec (λhm=>?_) λhm=>?_⟩
 ·simp only [nN,if_pos hn]
 ·exact ((if_neg hn).trans (if_pos hm)).symm
 ·exact ((if_neg hn).trans (if_neg hm)).symm
theorem HL:Sound Tryz.prog 13 sl:=
 Sound.Co Bg (Ae oT Al) mixed Tryz.func13 (by kernel_rfl) (by kernel_rfl) λx h=>Ac7 x.1 x.2.1 h
theorem Ac9 (p:PP) (h:Cl p):fnW Cc (look [(49,aJ)]) lf Tryz.f16 (p,()) (λ(z:PP)=>z=p):=Eq.mp (Acz p _) ⟨_,if_pos h.2,rfl⟩
theorem HM:Sound Tryz.prog 16 lf:=
 Sound.Co Bg (Ae oV Al) mixed Tryz.func16 (by kernel_rfl) (by kernel_rfl) λx h=>Ac9 x.1 h
theorem vW {a b:ByteArray} :(a.toList==b.toList)=decide (a=b):=by
 rw [Bool.eq_iff_iff,beq_iff_eq,decide_eq_true_iff,ByteArray.toList_eq,ByteArray.toList_eq]
 exact ⟨λh=>ByteArray.ext (Array.toList_inj.1 h),λh=>by rw [h]⟩
theorem Ac2 (a b:PP) (h:Cl a):fnW Cc (look [(53,Nq)]) sj Tryz.f20 (a,b,()) (λ(z:Bool)=>z=kV a b):=by
 refine Eq.mp (Acr a b _) ⟨λh1=>?_,λh1=>⟨λh2=>?_,λh2=>⟨_,if_pos h.2,⟨λh3=>?_,λh3=>?_⟩⟩⟩⟩
 ·simp only [bne_iff_ne,ne_eq] at h1
  unfold kV
  rw [decide_eq_false h1];rfl
 ·rw [vW] at h2
  unfold kV
  cases hd:decide (a.2.1=b.2.1)<;>simp_all
 ·have h3:(!Lj a.2.2.1 b.2.2.1)=true:=h3
  simp only [Lj,Bool.not_eq_true'] at h3
  unfold kV
  rw [h3];simp
 ·have h3:(!Lj a.2.2.1 b.2.2.1)=false:=h3
  rw [vW] at h2
  simp only [Lj] at h3
  simp only [bne_eq_false_iff_eq] at h1
  unfold kV
  simp_all
theorem HI:Sound Tryz.prog 20 sj:=
 Sound.Co Bg (Ae oJ Al) mixed Tryz.func20 (by kernel_rfl) (by kernel_rfl) λx h=>Ac2 x.1 x.2.1 h
theorem zK (p:PP):kV p p=true:=by simp [kV]
theorem nU {b:Bool} {P:Prop} (h1:b=true) (h:(!b)=true):P:=by rw [h1] at h;cases h
theorem AM (t:TT) (xs:List Int) (h:Kf t/\short xs):fnW Cc (look [(101,Ao)]) Nr Tryz.f77 (t,xs,()) (λ(z:Int)=>z=Ds (λp=>decide (p=xs)) t.2.1 0):=by
 obtain ⟨⟨_,⟨h,h4⟩,_⟩,_⟩:=h
 refine Eq.mp (CL t xs _) ?_
 refine Ah t.2.1.length (λv=>v.1) (λj v=>v.2=(t.1,t.2.1,t.2.2.1,())/\Ds (λp=>decide (p=xs)) (t.2.1.drop j) j=Ds (λp=>decide (p=xs)) t.2.1 0) rfl ⟨rfl,by simp⟩ ?_
 rintro j ⟨i,v⟩ K hj hi ⟨hv,hR⟩ hK
 dsimp only at hi hv⊢
 subst hi hv
 dsimp only
 refine Br.dec (λhl=>?_) λhl=>?_
 ·have hl:j<t.2.1.length:=by omega
  rw [List.drop_eq_getElem_cons hl] at hR
  simp only [Ds] at hR
  refine ⟨_,Ap hl,_,if_pos (h4 _ (List.getElem_mem hl)),⟨λhe=>?_,λhe=>?_⟩⟩
  ·have he:decide (t.2.1[j]=xs)=true:=he
   rw [if_pos he] at hR
   exact hR
  ·have he:decide (t.2.1[j]=xs)=false:=he
   rw [if_neg (by rw [he];decide)] at hR
   rw [Ag (by omega)]
   exact hK hl _ rfl ⟨rfl,by push_cast;exact hR⟩
 ·have:j=t.2.1.length:=by omega
  subst this
  rw [List.drop_length] at hR
  exact hR
theorem oU:Sound Tryz.prog 77 Nr:=
 Sound.Co Bg (Ae Sz Al) mixed Tryz.func77 (by kernel_rfl) (by kernel_rfl) λx h=>AM x.1 x.2.1 h
end Go.Proofs.YtfolipnappekaaaGreat

namespace Go.Proofs.YtfolipnappekaaaGreat
open Go.RowKit
noncomputable abbrev Ze:Spec:=Co (.pair tI (.pair tL .unit)) .bool false true (λx=>short x.2.1) (λx=>Da x.1 x.2.1)
noncomputable abbrev Qv:Spec:=Co (.pair Dc (.pair tL .unit)) .bool false true (λx=>short x.2.1) (λx=>Da x.1.1 x.2.1)
noncomputable abbrev Ie:Spec:=Co (.pair Dc (.pair tL .unit)) .bool false true (λx=>Cl x.1/\short x.2.1) (λx=>Bv x.1&&Da x.1.1 x.2.1)
theorem OG (n:Int) (s:List Int) (P:Bool->Prop):(Br ((↑s.length:Int)==n) (∃(y3:Bool),Dt.fn (s,())=some y3/\P y3) (P false))=fnW Cc (look [(75,Dt)]) Ze Tryz.f127 (n,s,()) P:=by kernel_rfl
theorem pj (p:Int×ByteArray×List (List Int)×Unit) (s:List Int) (P:Bool->Prop):(∃(y3:Int),Qw.fn (s,())=some y3/\Br (y3==p.1) (∃(y4:Bool),Dt.fn (s,())=some y4/\P y4) (P false))=fnW Cc (look [(119,Qw),(134,Dt)]) Qv Tryz.f109 (p,s,()) P:=by kernel_rfl
theorem qS (p:Int×ByteArray×List (List Int)×Unit) (s:List Int) (P:Bool->Prop):(∃(y3:Bool),Du.fn ((p.1,p.2.1,p.2.2.1,()),())=some y3/\Br y3 (∃(y4:Bool),Ze.fn (p.1,s,())=some y4/\P y4) (P false))=fnW Cc (look [(93,Du),(127,Ze)]) Ie Tryz.f95 (p,s,()) P:=by kernel_rfl
theorem qM (p:Int×ByteArray×List (List Int)×Unit) (s:List Int) (P:Bool->Prop):(∃(y3:Bool),Du.fn ((p.1,p.2.1,p.2.2.1,()),())=some y3/\Br y3 (∃(y4:Bool),Qv.fn ((p.1,p.2.1,p.2.2.1,()),s,())=some y4/\P y4) (P false))=fnW Cc (look [(84,Du),(109,Qv)]) Ie Tryz.f97 (p,s,()) P:=by kernel_rfl
theorem MI (n:Int) (s:List Int) (h:short s):fnW Cc (look [(75,Dt)]) Ze Tryz.f127 (n,s,()) (λ(z:Bool)=>z=Da n s):=by
 refine Eq.mp (OG n s _) ⟨λhe=>⟨_,if_pos h,?_⟩,λhe=>?_⟩
 ·simp only [beq_iff_eq] at he
  show Ft s=_
  cases hp:Ft s with
  |true=>exact Jc ⟨he,hp⟩
  |false=>exact Bh λhh=>by rw [hh.2] at hp;cases hp
 ·simp only [beq_eq_false_iff_ne,ne_eq] at he
  exact Bh λhh=>he hh.1
theorem uz:Sound Tryz.prog 127 Ze:=
 Sound.Co Bg (Ae Md Al) mixed Tryz.func127 (by kernel_rfl) (by kernel_rfl) λx h=>MI x.1 x.2.1 h
theorem o1 (p:PP) (s:List Int) (h:short s):fnW Cc (look [(119,Qw),(134,Dt)]) Qv Tryz.f109 (p,s,()) (λ(z:Bool)=>z=Da p.1 s):=by
 refine Eq.mp (pj p s _) ⟨_,if_pos trivial,⟨λhe=>⟨_,if_pos h,?_⟩,λhe=>?_⟩⟩
 ·simp only [beq_iff_eq] at he
  show Ft s=_
  cases hp:Ft s with
  |true=>exact Jc ⟨he,hp⟩
  |false=>exact Bh λhh=>by rw [hh.2] at hp;cases hp
 ·simp only [beq_eq_false_iff_ne,ne_eq] at he
  exact Bh λhh=>he hh.1
theorem gq:Sound Tryz.prog 109 Qv:=
 Sound.Co Bg (Ae gu (Ae Zh Al)) mixed Tryz.func109 (by kernel_rfl) (by kernel_rfl) λx h=>o1 x.1 x.2.1 h
theorem qf (p:PP) (s:List Int) (h:Cl p/\short s):fnW Cc (look [(93,Du),(127,Ze)]) Ie Tryz.f95 (p,s,()) (λ(z:Bool)=>z=(Bv p&&Da p.1 s)):=by
 refine Eq.mp (qS p s _) ⟨_,if_pos h.1,⟨λhe=>⟨_,if_pos h.2,?_⟩,λhe=>?_⟩⟩
 ·have he:Bv p=true:=he
  rw [he];rfl
 ·have he:Bv p=false:=he
  rw [he];rfl
theorem iY:Sound Tryz.prog 95 Ie:=
 Sound.Co Bg (Ae Re (Ae uz Al)) mixed Tryz.func95 (by kernel_rfl) (by kernel_rfl) λx h=>qf x.1 x.2.1 h
theorem q9 (p:PP) (s:List Int) (h:Cl p/\short s):fnW Cc (look [(84,Du),(109,Qv)]) Ie Tryz.f97 (p,s,()) (λ(z:Bool)=>z=(Bv p&&Da p.1 s)):=by
 refine Eq.mp (qM p s _) ⟨_,if_pos h.1,⟨λhe=>⟨_,if_pos h.2,?_⟩,λhe=>?_⟩⟩
 ·have he:Bv p=true:=he
  rw [he];rfl
 ·have he:Bv p=false:=he
  rw [he];rfl
theorem iT:Sound Tryz.prog 97 Ie:=
 Sound.Co Bg (Ae Rd (Ae gq Al)) mixed Tryz.func97 (by kernel_rfl) (by kernel_rfl) λx h=>q9 x.1 x.2.1 h
end Go.Proofs.YtfolipnappekaaaGreat

namespace Go.Proofs.YtfolipnappekaaaGreat
open Go.RowKit
def Ig (xs:List Int) (i:Int):Int:=xs.getD i.toNat 0
def Aa (p q:List Int):List Int:=p.map (Ig q)
def Wi (f:Nat->Nat) (g:Nat->Int) (m:Nat) (init:List Int):List Int:=(List.range m).foldl (λ(out:List Int) (i:Nat)=>out.set (f i) (g i)) init
def Af (p:List Int):List Int:=Wi (λi=>(Ig p (i:Int)).toNat) (λi=>(i:Int)) p.length (List.replicate p.length 0)
def Ho (n:Nat) (p:List Int):Prop:= ∀y∈p,0<=y/\y<n
noncomputable abbrev Ud:Spec:=Co (.pair tL (.pair tL .unit)) tL false true (λx=>List.length x.1<=20/\Ho (List.length x.2.1) x.1) (λx=>Aa x.1 x.2.1)
noncomputable abbrev Ck:Spec:=Co (.pair tL .unit) tL false true (λx=>List.length x.1<=20/\Ho (List.length x.1) x.1) (λx=>Af x.1)
noncomputable abbrev gm:Spec:=Co (.pair tI .unit) tL false true (λx=>0<=x.1/\x.1<=20) (λx=>upto x.1.toNat)
noncomputable abbrev Kp:Spec:=Co (.pair tL .unit) tL false true (λx=>Ft x.1=true) (λx=>Af x.1)
def An (g:List (List Int)) (l:Int):List Int:=if l>0 then g.getD (l-1).toNat [] else Af (g.getD (-l-1).toNat [])
def Ik (n:Int) (l:Int):Prop:=l≠0/\ -n<=l/\l<=n
noncomputable abbrev Qx:Spec:=Co (.pair e8 (.pair tI .unit)) tL false false (λx=>Ik (List.length x.1) x.2.1/\List.length x.1<=8/\ ∀p∈x.1,Ft p=true) (λx=>An x.1 x.2.1)
def Cj (n:Nat):List Int:=(List.range n).flatMap λ(k:Nat)=> [(k:Int)+1,-((k:Int)+1)]
noncomputable abbrev Ug:Spec:=Co (.pair tI .unit) tL false true (λx=>0<=x.1/\x.1<=8) (λx=>Cj x.1.toNat)
noncomputable abbrev Zc:Spec:=Co (.pair Dc (.pair tL (.pair tI .unit))) tL false true (λx=>Bv x.1=true/\List.length x.2.1<=20/\(∀y∈x.2.1,0<=y/\y<x.1.1)/\Ik (List.length x.1.2.2.1) x.2.2.1) (λx=>Aa x.2.1 (An x.1.2.2.1 x.2.2.1))
theorem qK (p q:List Int) (P:List Int->Prop):(((0:Int)<=(↑p.length:Int)/\(↑p.length:Int)<(↑Bj:Int)+(1:Int))/\(↑p.length:Int)=(↑p.length:Int)/\0=0/\(List.replicate (↑p.length:Int).toNat (Int.ofNat (nat_lit 0))).length=(List.replicate (↑p.length:Int).toNat (Int.ofNat (nat_lit 0))).length/\Bk (λ(v3:Int×List Int×PUnit) (k4:Int×List Int×PUnit->Prop)=>Br (decide (v3.1<(↑p.length:Int))) (∃(y5:Int),idx p v3.1=some y5/\ ∃(y6:Int),idx q y5=some y6/\((0:Int)<=v3.1/\v3.1<(↑v3.2.1.length:Int))/\0+v3.1.toNat<v3.2.1.length/\0=0/\v3.2.1.length=(v3.2.1.set (0+v3.1.toNat) y6).length/\k4 (IntKind.i64.wrap (v3.1+(1:Int)),v3.2.1.set (0+v3.1.toNat) y6,())) (P (List.take v3.2.1.length (List.drop 0 v3.2.1)))) ((0:Int),List.replicate (↑p.length:Int).toNat (Int.ofNat (nat_lit 0)),PUnit.unit))=fnW Cc (look []) Ud Tryz.f121 (p,q,()) P:=by kernel_rfl
theorem qL (p:List Int) (P:List Int->Prop):(((0:Int)<=(↑p.length:Int)/\(↑p.length:Int)<(↑Bj:Int)+(1:Int))/\(↑p.length:Int)=(↑p.length:Int)/\0=0/\(List.replicate (↑p.length:Int).toNat (Int.ofNat (nat_lit 0))).length=(List.replicate (↑p.length:Int).toNat (Int.ofNat (nat_lit 0))).length/\Bk (λ(v2:Int×List Int×PUnit) (k3:Int×List Int×PUnit->Prop)=>Br (decide (v2.1<(↑p.length:Int))) (∃(y4:Int),idx p v2.1=some y4/\((0:Int)<=y4/\y4<(↑v2.2.1.length:Int))/\0+y4.toNat<v2.2.1.length/\0=0/\v2.2.1.length=(v2.2.1.set (0+y4.toNat) v2.1).length/\k3 (IntKind.i64.wrap (v2.1+(1:Int)),v2.2.1.set (0+y4.toNat) v2.1,())) (P (List.take v2.2.1.length (List.drop 0 v2.2.1)))) ((0:Int),List.replicate (↑p.length:Int).toNat (Int.ofNat (nat_lit 0)),PUnit.unit))=fnW Cc (look []) Ck Tryz.f56 (p,()) P:=by kernel_rfl
theorem II (p:List Int) (P:List Int->Prop):(((0:Int)<=(↑p.length:Int)/\(↑p.length:Int)<(↑Bj:Int)+(1:Int))/\(↑p.length:Int)=(↑p.length:Int)/\0=0/\(List.replicate (↑p.length:Int).toNat (Int.ofNat (nat_lit 0))).length=(List.replicate (↑p.length:Int).toNat (Int.ofNat (nat_lit 0))).length/\Bk (λ(v2:Int×List Int×PUnit) (k3:Int×List Int×PUnit->Prop)=>Br (decide (v2.1<(↑p.length:Int))) (∃(y4:Int),idx p v2.1=some y4/\((0:Int)<=y4/\y4<(↑v2.2.1.length:Int))/\0+y4.toNat<v2.2.1.length/\0=0/\v2.2.1.length=(v2.2.1.set (0+y4.toNat) v2.1).length/\k3 (IntKind.i64.wrap (v2.1+(1:Int)),v2.2.1.set (0+y4.toNat) v2.1,())) (P (List.take v2.2.1.length (List.drop 0 v2.2.1)))) ((0:Int),List.replicate (↑p.length:Int).toNat (Int.ofNat (nat_lit 0)),PUnit.unit))=fnW Cc (look []) Ck Tryz.f76 (p,()) P:=by kernel_rfl
theorem qR (p:List Int) (P:List Int->Prop):(∃(y2:Bool),Dt.fn (p,())=some y2/\Br (!y2) (P (List.take 0 (List.drop 0 []))) (∃(y3:List Int),Ck.fn (p,())=some y3/\P y3))=fnW Cc (look [(75,Dt),(76,Ck)]) Kp Tryz.f55 (p,()) P:=by kernel_rfl
theorem CC (n:Int) (P:List Int->Prop):(0=0/\0=([]:List Int).length/\Bk (λ(v2:Int×List Int×PUnit) (k3:Int×List Int×PUnit->Prop)=>Br (decide (v2.1<n)) (0=0/\v2.2.1.length=v2.2.1.length/\v2.2.1.length+(List.take 1 (List.drop 0 [v2.1])).length<=Bj/\0=0/\(v2.2.1++List.take 1 (List.drop 0 [v2.1])).length=(v2.2.1++List.take 1 (List.drop 0 [v2.1])).length/\k3 (IntKind.i64.wrap (v2.1+(1:Int)),v2.2.1++List.take 1 (List.drop 0 [v2.1]),())) (P (List.take v2.2.1.length (List.drop 0 v2.2.1)))) ((0:Int),[],PUnit.unit))=fnW Cc (look []) gm Tryz.f115 (n,()) P:=by kernel_rfl
theorem CF (g:List (List Int)) (l:Int) (P:List Int->Prop):(Br (decide (l>(0:Int))) (∃(y3:List Int),idx g (IntKind.i64.wrap (l-(1:Int)))=some y3/\P y3) (∃(y3:List Int),idx g (IntKind.i64.wrap (IntKind.i64.wrap ((0:Int)-l)-(1:Int)))=some y3/\ ∃(y4:List Int),Ck.fn (y3,())=some y4/\P y4))=fnW Cc (look [(56,Ck)]) Qx Tryz.f122 (g,l,()) P:=by kernel_rfl
theorem IC (n:Int) (P:List Int->Prop):(0=0/\0=([]:List Int).length/\Bk (λ(v2:Int×List Int×PUnit) (k3:Int×List Int×PUnit->Prop)=>Br (decide (v2.1<n)) (0=0/\v2.2.1.length=v2.2.1.length/\v2.2.1.length+(List.take 2 (List.drop 0 [IntKind.i64.wrap (v2.1+(1:Int)),IntKind.i64.wrap ((0:Int)-IntKind.i64.wrap (v2.1+(1:Int)))])).length<=Bj/\0=0/\(v2.2.1++List.take 2 (List.drop 0 [IntKind.i64.wrap (v2.1+(1:Int)),IntKind.i64.wrap ((0:Int)-IntKind.i64.wrap (v2.1+(1:Int)))])).length=(v2.2.1++List.take 2 (List.drop 0 [IntKind.i64.wrap (v2.1+(1:Int)),IntKind.i64.wrap ((0:Int)-IntKind.i64.wrap (v2.1+(1:Int)))])).length/\k3 (IntKind.i64.wrap (v2.1+(1:Int)),v2.2.1++List.take 2 (List.drop 0 [IntKind.i64.wrap (v2.1+(1:Int)),IntKind.i64.wrap ((0:Int)-IntKind.i64.wrap (v2.1+(1:Int)))]),())) (P (List.take v2.2.1.length (List.drop 0 v2.2.1)))) ((0:Int),[],PUnit.unit))=fnW Cc (look []) Ug Tryz.f106 (n,()) P:=by kernel_rfl
theorem OC (p:Int×ByteArray×List (List Int)×Unit) (s:List Int) (l:Int) (P:List Int->Prop):(∃(y4:List Int),idx p.2.2.1 (IntKind.i64.wrap ((if true=true then if IntKind.i64.wrap ((0:Int)-l)>l then IntKind.i64.wrap ((0:Int)-l) else l else if IntKind.i64.wrap ((0:Int)-l)<l then IntKind.i64.wrap ((0:Int)-l) else l)-(1:Int)))=some y4/\Br (decide (l<(0:Int))) (∃(y5:List Int),Kp.fn (y4,())=some y5/\0=0/\0=([]:List Int).length/\Bk (λ(v6:Int×List Int×PUnit) (k7:Int×List Int×PUnit->Prop)=>Br (decide (v6.1<(↑s.length:Int))) (∃(y8:Int),idx s v6.1=some y8/\ ∃(y9:Int),idx y5 y8=some y9/\0=0/\v6.2.1.length=v6.2.1.length/\v6.2.1.length+(List.take 1 (List.drop 0 [y9])).length<=Bj/\0=0/\(v6.2.1++List.take 1 (List.drop 0 [y9])).length=(v6.2.1++List.take 1 (List.drop 0 [y9])).length/\k7 (IntKind.i64.wrap (v6.1+(1:Int)),v6.2.1++List.take 1 (List.drop 0 [y9]),())) (P (List.take v6.2.1.length (List.drop 0 v6.2.1)))) ((0:Int),[],PUnit.unit)) (0=0/\0=([]:List Int).length/\Bk (λ(v5:Int×List Int×PUnit) (k6:Int×List Int×PUnit->Prop)=>Br (decide (v5.1<(↑s.length:Int))) (∃(y7:Int),idx s v5.1=some y7/\ ∃(y8:Int),idx y4 y7=some y8/\0=0/\v5.2.1.length=v5.2.1.length/\v5.2.1.length+(List.take 1 (List.drop 0 [y8])).length<=Bj/\0=0/\(v5.2.1++List.take 1 (List.drop 0 [y8])).length=(v5.2.1++List.take 1 (List.drop 0 [y8])).length/\k6 (IntKind.i64.wrap (v5.1+(1:Int)),v5.2.1++List.take 1 (List.drop 0 [y8]),())) (P (List.take v5.2.1.length (List.drop 0 v5.2.1)))) ((0:Int),[],PUnit.unit)))=fnW Cc (look [(55,Kp)]) Zc Tryz.f118 (p,s,l,()) P:=by kernel_rfl
theorem Hl {xs:List Int} {i:Nat} (h:i<xs.length):Ig xs (i:Int)=xs[i]:=by
 unfold Ig
 rw [Int.toNat_natCast,List.getD_eq_getElem?_getD,List.getElem?_eq_getElem h];rfl
theorem cv {xs:List Int} {y:Int} (h0:0<=y) (h:y<xs.length):idx xs y=some (Ig xs y):=by
 have hy:y.toNat<xs.length:=by omega
 have e:y=(y.toNat:Int):=by omega
 rw [e,Ap hy,Hl hy]
theorem Tp (f:Nat->Nat) (g:Nat->Int) (m:Nat) (init:List Int):Wi f g (m+1) init=(Wi f g m init).set (f m) (g m):=by simp [Wi,List.range_succ]
theorem Wj (f:Nat->Nat) (g:Nat->Int) (m:Nat) (init:List Int):(Wi f g m init).length=init.length:=by
 induction m with
 |zero=>rfl
 |succ m ih=>rw [Tp,List.length_set,ih]
theorem kK (f:Nat->Nat) (g:Nat->Int) (init:List Int): ∀(m:Nat),(∀i j,i<m->j<m->f i=f j->i=j)-> ∀i,i<m->f i<init.length->(Wi f g m init)[f i]?=some (g i)
 |0,_,i,h,_=>absurd h (Nat.not_lt_zero _)
 |m+1,hf,i,hi,hl=>by
  rw [Tp]
  by_cases e:i=m
  ·subst e
   exact List.getElem?_set_self (by rw [Wj];exact hl)
  ·rw [List.getElem?_set_ne (λh=>e (hf i m hi (by omega) h.symm))]
   exact kK f g init m (λa b ha hb=>hf a b (by omega) (by omega)) i (by omega) hl
structure Xj (p:List Int):Prop where
 pos:1<=p.length
 len:p.length<=20
 row:Ho p.length p
 nodup:p.Nodup
theorem aw {p:List Int} (h:Ft p=true):Xj p:=by
 obtain ⟨h1,h2,h3⟩:=Eb.1 h
 refine ⟨h1,h2,λy hy=>?_,cE λj hj=>(h3 j hj hj).2.2⟩
 obtain ⟨j,hj,rfl⟩:=List.mem_iff_getElem.1 hy
 have:=h3 j hj hj
 omega
theorem Xj.inj {p:List Int} (h:Xj p) (i j:Nat) (hi:i<p.length) (hj:j<p.length) (e:(Ig p (i:Int)).toNat=(Ig p (j:Int)).toNat):i=j:=by
 rw [Hl hi,Hl hj] at e
 have h1:=h.row _ (List.getElem_mem hi)
 have h2:=h.row _ (List.getElem_mem hj)
 have e:p[i]=p[j]:=by omega
 refine Classical.byContradiction λEx=>?_
 rcases Nat.lt_or_gt_of_ne Ex with hl|hl
 ·exact List.pairwise_iff_getElem.1 h.nodup i j hi hj hl e
 ·exact List.pairwise_iff_getElem.1 h.nodup j i hj hi hl e.symm
theorem Xj.MC {p:List Int} (h:Xj p) (k:Nat) (hk:k<p.length): ∃i,i<p.length/\(Ig p (i:Int)).toNat=k:=by
 have hm:=(Xk (xs:=p) h.row).2 (pa h.nodup) k hk
 obtain ⟨i,hi,e⟩:=List.mem_iff_getElem.1 hm
 exact ⟨i,hi,by rw [Hl hi,e];exact Int.toNat_natCast k⟩
theorem Xj.lt {p:List Int} (h:Xj p) {i:Nat} (hi:i<p.length):(Ig p (i:Int)).toNat<p.length:=by
 rw [Hl hi]
 have:=h.row _ (List.getElem_mem hi)
 omega
theorem il (p:List Int):(Af p).length=p.length:=by unfold Af;rw [Wj,List.length_replicate]
theorem LC {p:List Int} (h:Xj p) {i:Nat} (hi:i<p.length):(Af p)[(Ig p (i:Int)).toNat]?=some (i:Int):=
 kK (λi=>(Ig p (i:Int)).toNat) (λi=>(i:Int)) _ p.length (λi j hi hj=>h.inj i j hi hj) i hi (by rw [List.length_replicate];exact h.lt hi)
theorem QP {p:List Int} (h:Xj p):Ho p.length (Af p):=by
 intro y hy
 obtain ⟨k,hk,rfl⟩:=List.mem_iff_getElem.1 hy
 have nv:k<p.length:=by rw [il] at hk;exact hk
 obtain ⟨i,hi,rfl⟩:=h.MC k nv
 have:=LC h hi
 rw [List.getElem?_eq_getElem hk] at this
 rw [Option.some.inj this]
 omega
theorem Jn (p q:List Int):(Aa p q).length=p.length:=by simp [Aa]
theorem w5 {p q:List Int} {n:Nat} (hp:Ho q.length p) (hq:Ho n q):Ho n (Aa p q):=by
 intro y hy
 obtain ⟨x,hx,rfl⟩:=List.mem_map.1 hy
 have h1:=hp x hx
 rw [show x=(x.toNat:Int) by omega,Hl (by omega)]
 exact hq _ (List.getElem_mem _)
theorem q7 (p q:List Int) (h:p.length<=20/\Ho q.length p):fnW Cc (look []) Ud Tryz.f121 (p,q,()) (λ(z:List Int)=>z=Aa p q):=by
 obtain ⟨h,hr⟩:=h
 refine Eq.mp (qK p q _) ?_
 refine ⟨⟨by omega,by show (p.length:Int)<(4294967296:Int)+1;omega⟩,rfl,rfl,rfl,?_⟩
 have Ly:=Jn p q
 refine Ah p.length (λv=>v.1) (λj v=>v.2.1.length=(Aa p q).length/\v.2.1.take j=(Aa p q).take j) rfl ⟨by rw [Ly];simp,by simp⟩ ?_
 rintro j ⟨i,ys,⟨⟩⟩ K hj hi ⟨h1,h2⟩ hK
 dsimp only at hi h1 h2⊢
 subst hi
 refine Br.dec (λhl=>?_) λhl=>?_
 ·have hl:j<p.length:=by omega
  have hy:=hr _ (List.getElem_mem hl)
  refine ⟨_,Ap hl,_,cv hy.1 hy.2,⟨by omega,by omega⟩,by rw [Int.toNat_natCast];omega,rfl,by rw [List.length_set],?_⟩
  rw [Ag (by omega),Int.toNat_natCast,Nat.zero_add]
  have Fz:j<(Aa p q).length:=by rw [Ly];exact hl
  have e:Ig q p[j]=(Aa p q)[j]:=by simp [Aa]
  rw [e]
  exact hK hl _ rfl ⟨by rw [List.length_set];exact h1,Kq Fz h1 h2⟩
 ·have:j=p.length:=by omega
  subst this
  rw [<-Ly,List.take_length,<-h1,List.take_length] at h2
  rw [List.drop_zero,List.take_length]
  exact h2
theorem Xa:Sound Tryz.prog 121 Ud:=
 Sound.Co Bg Al mixed Tryz.func121 (by kernel_rfl) (by kernel_rfl) λx h=>q7 x.1 x.2.1 h
theorem q8 (p:List Int) (h:p.length<=20/\Ho p.length p):fnW Cc (look []) Ck Tryz.f56 (p,()) (λ(z:List Int)=>z=Af p):=by
 obtain ⟨h,hr⟩:=h
 refine Eq.mp (qL p _) ?_
 refine ⟨⟨by omega,by show (p.length:Int)<(4294967296:Int)+1;omega⟩,rfl,rfl,rfl,?_⟩
 refine Ah p.length (λv=>v.1) (λj v=>v.2.1=Wi (λi=>(Ig p (i:Int)).toNat) (λi=>(i:Int)) j (List.replicate p.length 0)) rfl rfl ?_
 rintro j ⟨i,ys,⟨⟩⟩ K hj hi h1 hK
 dsimp only at hi h1⊢
 subst hi
 have hlen:ys.length=p.length:=by rw [h1,Wj,List.length_replicate]
 refine Br.dec (λhl=>?_) λhl=>?_
 ·have hl:j<p.length:=by omega
  have hy:=hr _ (List.getElem_mem hl)
  refine ⟨_,Ap hl,⟨by omega,by omega⟩,by omega,rfl,by rw [List.length_set],?_⟩
  rw [Ag (by omega),Nat.zero_add]
  refine hK hl _ rfl ?_
  rw [Tp,<-h1,Hl hl]
 ·have:j=p.length:=by omega
  subst this
  rw [List.drop_zero,List.take_length]
  exact h1
theorem Pl:Sound Tryz.prog 56 Ck:=
 Sound.Co Bg Al mixed Tryz.func56 (by kernel_rfl) (by kernel_rfl) λx h=>q8 x.1 h
theorem GN (p:List Int) (h:p.length<=20/\Ho p.length p):fnW Cc (look []) Ck Tryz.f76 (p,()) (λ(z:List Int)=>z=Af p):=by
 obtain ⟨h,hr⟩:=h
 refine Eq.mp (II p _) ?_
 refine ⟨⟨by omega,by show (p.length:Int)<(4294967296:Int)+1;omega⟩,rfl,rfl,rfl,?_⟩
 refine Ah p.length (λv=>v.1) (λj v=>v.2.1=Wi (λi=>(Ig p (i:Int)).toNat) (λi=>(i:Int)) j (List.replicate p.length 0)) rfl rfl ?_
 rintro j ⟨i,ys,⟨⟩⟩ K hj hi h1 hK
 dsimp only at hi h1⊢
 subst hi
 have hlen:ys.length=p.length:=by rw [h1,Wj,List.length_replicate]
 refine Br.dec (λhl=>?_) λhl=>?_
 ·have hl:j<p.length:=by omega
  have hy:=hr _ (List.getElem_mem hl)
  refine ⟨_,Ap hl,⟨by omega,by omega⟩,by omega,rfl,by rw [List.length_set],?_⟩
  rw [Ag (by omega),Nat.zero_add]
  refine hK hl _ rfl ?_
  rw [Tp,<-h1,Hl hl]
 ·have:j=p.length:=by omega
  subst this
  rw [List.drop_zero,List.take_length]
  exact h1
theorem Rr:Sound Tryz.prog 76 Ck:=
 Sound.Co Bg Al mixed Tryz.func76 (by kernel_rfl) (by kernel_rfl) λx h=>GN x.1 h
theorem qe (p:List Int) (h:Ft p=true):fnW Cc (look [(75,Dt),(76,Ck)]) Kp Tryz.f55 (p,()) (λ(z:List Int)=>z=Af p):=by
 have hp:=aw h
 have hs:short p:=by have:=hp.len;unfold short;omega
 refine Eq.mp (qR p _) ⟨_,if_pos hs,⟨λhe=>?_,λ_=>⟨_,if_pos ⟨hp.len,hp.row⟩,rfl⟩⟩⟩
 exact absurd h (Dj he)
theorem iX:Sound Tryz.prog 55 Kp:=
 Sound.Co Bg (Ae Md (Ae Rr Al)) mixed Tryz.func55 (by kernel_rfl) (by kernel_rfl) λx h=>qe x.1 h
theorem ed (j:Nat):upto (j+1)=upto j++ [(j:Int)]:=by simp [upto,List.range_succ]
theorem AE (n:Int) (h:0<=n/\n<=20):fnW Cc (look []) gm Tryz.f115 (n,()) (λ(z:List Int)=>z=upto n.toNat):=by
 refine Eq.mp (CC n _) ⟨rfl,rfl,?_⟩
 refine Ah n.toNat (λv=>v.1) (λj v=>v.2.1=upto j) rfl rfl ?_
 rintro j ⟨i,ys,⟨⟩⟩ K hj hi h1 hK
 dsimp only at hi h1⊢
 subst hi h1
 refine Br.dec (λhl=>?_) λhl=>?_
 ·refine ⟨rfl,rfl,?_,rfl,rfl,?_⟩
  ·show (upto j).length+1<=4294967296
   rw [ja];omega
  ·rw [Ag (by omega)]
   exact hK (by omega) _ rfl (ed j).symm
 ·have:j=n.toNat:=by omega
  subst this
  rw [List.drop_zero,List.take_length]
theorem oK:Sound Tryz.prog 115 gm:=
 Sound.Co Bg Al mixed Tryz.func115 (by kernel_rfl) (by kernel_rfl) λx h=>AE x.1 h
theorem Qn {g:List (List Int)} {k:Nat} (h:k<g.length):An g ((k:Int)+1)=g[k]:=by
 unfold An
 rw [if_pos (by omega),show ((k:Int)+1-1).toNat=k by omega,List.getD_eq_getElem?_getD,List.getElem?_eq_getElem h];rfl
theorem Qm {g:List (List Int)} {k:Nat} (h:k<g.length):An g (-((k:Int)+1))=Af g[k]:=by
 unfold An
 rw [if_neg (by omega),show (-(-((k:Int)+1))-1).toNat=k by omega,List.getD_eq_getElem?_getD,List.getElem?_eq_getElem h];rfl
theorem Tt {n:Nat} {l:Int} (h:Ik n l): ∃k:Nat,k<n/\(l=(k:Int)+1\/l= -((k:Int)+1)):=by
 obtain ⟨h1,h2,h3⟩:=h
 by_cases h0:0<l
 ·exact ⟨(l-1).toNat,by omega, .inl (by omega)⟩
 ·exact ⟨(-l-1).toNat,by omega, .inr (by omega)⟩
theorem AH (g:List (List Int)) (l:Int) (h:Ik (List.length g) l/\List.length g<=8/\ ∀p∈g,Ft p=true):fnW Cc (look [(56,Ck)]) Qx Tryz.f122 (g,l,()) (λ(z:List Int)=>z=An g l):=by
 obtain ⟨hl,h8,hp⟩:=h
 refine Eq.mp (CF g l _) ?_
 obtain ⟨k,hk,rfl|rfl⟩:=Tt hl
 ·refine Br.dec (λ_=>?_) λhn=>by omega
  rw [Cp (by omega) (by omega),show (k:Int)+1-1=(k:Int) by omega]
  exact ⟨_,Ap hk,(Qn hk).symm⟩
 ·refine Br.dec (λhn=>by omega) λ_=>?_
  rw [Cp (n:=0- -((k:Int)+1)) (by omega) (by omega),Cp (by omega) (by omega),show (0:Int)- -((k:Int)+1)-1=(k:Int) by omega]
  have:=aw (hp _ (List.getElem_mem hk))
  exact ⟨_,Ap hk,_,if_pos ⟨this.len,this.row⟩,(Qm hk).symm⟩
theorem oN:Sound Tryz.prog 122 Qx:=
 Sound.Co Bg (Ae Pl Al) mixed Tryz.func122 (by kernel_rfl) (by kernel_rfl) λx h=>AH x.1 x.2.1 h
theorem Vj (j:Nat):Cj (j+1)=Cj j++ [(j:Int)+1,-((j:Int)+1)]:=by simp [Cj,List.range_succ,List.flatMap_append]
theorem Ro (j:Nat):(Cj j).length=2*j:=by
 induction j with
 |zero=>rfl
 |succ j ih=>rw [Vj,List.length_append,ih];simp only [List.length_cons,List.length_nil];omega
theorem Wt {n:Nat} {l:Int} (h:l∈Cj n):Ik n l:=by
 unfold Cj at h
 obtain ⟨k,hk,hl⟩:=List.mem_flatMap.1 h
 have hk:=List.mem_range.1 hk
 simp only [List.mem_cons,List.not_mem_nil,or_false] at hl
 unfold Ik
 omega
theorem GI (n:Int) (h:0<=n/\n<=8):fnW Cc (look []) Ug Tryz.f106 (n,()) (λ(z:List Int)=>z=Cj n.toNat):=by
 refine Eq.mp (IC n _) ⟨rfl,rfl,?_⟩
 refine Ah n.toNat (λv=>v.1) (λj v=>v.2.1=Cj j) rfl rfl ?_
 rintro j ⟨i,ys,⟨⟩⟩ K hj hi h1 hK
 dsimp only at hi h1⊢
 subst hi h1
 refine Br.dec (λhl=>?_) λhl=>?_
 ·refine ⟨rfl,rfl,?_,rfl,rfl,?_⟩
  ·show (Cj j).length+2<=4294967296
   rw [Ro];omega
  ·have e1:IntKind.i64.wrap ((j:Int)+1)=(j:Int)+1:=Cp (by omega) (by omega)
   have e2:IntKind.i64.wrap ((0:Int)-((j:Int)+1))= -((j:Int)+1):=by rw [Cp (by omega) (by omega)];omega
   rw [e1,e2]
   exact hK (by omega) _ rfl (Vj j).symm
 ·have:j=n.toNat:=by omega
  subst this
  rw [List.drop_zero,List.take_length]
theorem qv:Sound Tryz.prog 106 Ug:=
 Sound.Co Bg Al mixed Tryz.func106 (by kernel_rfl) (by kernel_rfl) λx h=>GI x.1 h
structure Valid (p:PP):Prop where
 n:1<=p.1/\p.1<=20
 sX:1<=p.2.2.1.length/\p.2.2.1.length<=8
 perm: ∀m∈p.2.2.1,Ft m=true
 len: ∀m∈p.2.2.1,(m.length:Int)=p.1
theorem valid {p:PP} (h:Bv p=true):Valid p:=by
 have h0:=BW h
 obtain ⟨h1,_,_⟩:=Eb.1 h
 obtain ⟨_,_,h4⟩:=Eb.1 h1
 exact ⟨⟨h0.1,h0.2.1⟩,h0.2.2,λm hm=>(Eb.1 (h4 m hm)).2,λm hm=>(Eb.1 (h4 m hm)).1⟩
theorem jI {p:PP} (h:Valid p) {l:Int} (hl:Ik (List.length p.2.2.1) l):((An p.2.2.1 l).length:Int)=p.1/\Ho (An p.2.2.1 l).length (An p.2.2.1 l):=by
 obtain ⟨k,hk,rfl|rfl⟩:=Tt hl
 ·rw [Qn hk]
  exact ⟨h.len _ (List.getElem_mem hk),(aw (h.perm _ (List.getElem_mem hk))).row⟩
 ·rw [Qm hk,il]
  exact ⟨h.len _ (List.getElem_mem hk),QP (aw (h.perm _ (List.getElem_mem hk)))⟩
theorem vM (s y:List Int) (P:List Int->Prop) (h1:s.length<=20) (h2:Ho y.length s) (h3:P (Aa s y)):
  Bk
   (λ(v5:Int×List Int×PUnit) (k6:Int×List Int×PUnit->Prop)=>
    Br (decide (v5.1<(↑s.length:Int)))
     (∃(y7:Int),
      idx s v5.1=some y7/\
       ∃(y8:Int),
        idx y y7=some y8/\
         (0:Nat)=(0:Nat)/\
          v5.2.1.length=v5.2.1.length/\
           v5.2.1.length+(List.take (1:Nat) (List.drop (0:Nat) [y8])).length<=Bj/\
            (0:Nat)=(0:Nat)/\
             (v5.2.1++List.take (1:Nat) (List.drop (0:Nat) [y8])).length=(v5.2.1++List.take (1:Nat) (List.drop (0:Nat) [y8])).length/\
              k6 (IntKind.i64.wrap (v5.1+(1:Int)),v5.2.1++List.take (1:Nat) (List.drop (0:Nat) [y8]),()))
     (P (List.take v5.2.1.length (List.drop (0:Nat) v5.2.1))))
   ((0:Int),([]:List Int),PUnit.unit):=by
 refine Ah s.length (λv=>v.1) (λj v=>v.2.1=(s.take j).map (Ig y)) rfl (by simp) ?_
 rintro j ⟨i,ys,⟨⟩⟩ K hj hi hR hK
 dsimp only at hi hR⊢
 subst hi hR
 refine Br.dec (λhl=>?_) λhl=>?_
 ·have hl:j<s.length:=by omega
  have hy:=h2 _ (List.getElem_mem hl)
  refine ⟨_,Ap hl,_,cv hy.1 hy.2,rfl,rfl,?_,rfl,rfl,?_⟩
  ·show ((s.take j).map (Ig y)).length+1<=4294967296
   rw [List.length_map,List.length_take];omega
  ·rw [Ag (by omega)]
   refine hK hl _ rfl ?_
   dsimp only
   rw [List.take_succ_eq_append_getElem hl,List.map_append]
   rfl
 ·have:j=s.length:=by omega
  subst this
  rw [List.drop_zero,List.take_length,List.take_length]
  exact h3
theorem ME (p:PP) (s:List Int) (l:Int) (h:Bv p=true/\List.length s<=20/\(∀y∈s,0<=y/\y<p.1)/\Ik (List.length p.2.2.1) l):fnW Cc (look [(55,Kp)]) Zc Tryz.f118 (p,s,l,()) (λ(z:List Int)=>z=Aa s (An p.2.2.1 l)):=by
 obtain ⟨hv,hs,hr,hl⟩:=h
 have hv:=valid hv
 have hf:=hv.sX
 refine Eq.mp (OC p s l _) ?_
 have FE:=jI hv hl
 have Ge:Ho (An p.2.2.1 l).length s:= λy hy=>by have:=hr y hy;omega
 obtain ⟨k,hk,rfl|rfl⟩:=Tt hl
 ·rw [if_pos rfl,Cp (n:=0-((k:Int)+1)) (by omega) (by omega),if_neg (by omega),Cp (by omega) (by omega),show (k:Int)+1-1=(k:Int) by omega]
  refine ⟨_,Ap hk,Br.dec (λhn=>by omega) λ_=>⟨rfl,rfl,?_⟩⟩
  rw [Qn hk] at Ge⊢
  exact vM s _ (λz=>z=Aa s p.2.2.1[k]) hs Ge rfl
 ·rw [if_pos rfl,Cp (n:=0- -((k:Int)+1)) (by omega) (by omega),if_pos (by omega),Cp (by omega) (by omega),show (0:Int)- -((k:Int)+1)-1=(k:Int) by omega]
  refine ⟨_,Ap hk,Br.dec (λ_=>⟨_,if_pos (hv.perm _ (List.getElem_mem hk)),rfl,rfl,?_⟩) λhn=>by omega⟩
  rw [Qm hk] at Ge⊢
  exact vM s (Af p.2.2.1[k]) (λz=>z=Aa s (Af p.2.2.1[k])) hs Ge rfl
theorem uw:Sound Tryz.prog 118 Zc:=
 Sound.Co Bg (Ae iX Al) mixed Tryz.func118 (by kernel_rfl) (by kernel_rfl) λx h=>ME x.1 x.2.1 x.2.2.1 h
end Go.Proofs.YtfolipnappekaaaGreat

namespace Go.Proofs.YtfolipnappekaaaGreat
open Go.RowKit
abbrev rL:CK:= .row tI 2
abbrev xLL:CK:= .Dp tL 26
def dO:List (List Int)->Nat
 | []=>0
 |r::rs=>r.length+dO rs
def low (k:Int):Prop:=0<=k/\k<=1099511627776
theorem Bi {α:Type} (xs:List α):List.take xs.length (List.drop 0 xs)=xs:=by rw [List.drop_zero,List.take_length]
end Go.Proofs.YtfolipnappekaaaGreat

namespace Go.Proofs.YtfolipnappekaaaGreat
open Go.RowKit
theorem jK (a:List Int):At a a=true:=by simp [At]
theorem NF {n:Nat} {room:Int} (h: ¬jL n room<0):jL n room=room-n/\(n:Int)<=room:=by
 unfold jL at*
 split at h
 ·exact absurd (show (-1:Int)<0 by decide) h
 ·rename_i h1;rw [if_neg h1];exact ⟨rfl,by omega⟩
theorem y0: ∀(xs:List (List Int)) (room:Int),0<=room-> ¬p7 xs room<0->p7 xs room=room-dO xs
 | [],room,_,_=>by simp [p7,dO]
 |r::xs,room,h0,h=>by
  simp only [p7,dO] at h⊢
  split at h
  ·exact absurd (show (-1:Int)<0 by decide) h
  ·rename_i h1
   rw [if_neg h1]
   have e1:=NF (n:=r.length) h1
   have e1:Vk r room=room-r.length/\(r.length:Int)<=room:=e1
   rw [y0 xs _ (by rw [e1.1];omega) h,e1.1]
   omega
theorem NC {xs:List (List Int)} {room:Int} (h: ¬Mm xs room<0):Mm xs room=room-xs.length-dO xs:=by
 unfold Mm at*
 split at h
 ·exact absurd (show (-1:Int)<0 by decide) h
 ·rename_i h1
  rw [if_neg h1]
  have e1:=NF h1
  rw [y0 xs _ (by rw [e1.1];omega) h,e1.1]
end Go.Proofs.YtfolipnappekaaaGreat

namespace Go.Proofs.YtfolipnappekaaaGreat
open Go.RowKit
noncomputable abbrev ou:MSpec:=mn [none] [(false, .Ee (.oslice tI))] false [none] [rL] (λx=>short (x.1.getD [])) (λx=>((x.1.getD [],()),()))
noncomputable abbrev Vp:MSpec:=mn [none] [(false, .Ee tL)] false [none] [rL] (λx=>short x.1) (λx=>((x.1,()),()))
noncomputable abbrev Fa:Spec:=Co (.pair tL .unit) tL false true (λx=>short x.1) (λx=>x.1)
theorem OD (xs:Option (List Int)) (P:((List Int×Unit)×Unit)->Prop):(Br xs.isNone (P ((List.take 0 (List.drop 0 []),()),())) (0=0/\0=([]:List Int).length/\0+(xs.getD []).length<=Bj/\P ((List.take ([]++xs.getD []).length (List.drop 0 ([]++xs.getD [])),()),())))=fnMW kA (look []) ou Tryz.f138 (xs,()) P:=by kernel_rfl
theorem CA (xs:List Int) (P:List Int->Prop):(0=0/\0=([]:List Int).length/\0+xs.length<=Bj/\P (List.take ([]++xs).length (List.drop 0 ([]++xs))))=fnW Cc (look []) Fa Tryz.f116 (xs,()) P:=by kernel_rfl
theorem MF (xs:Option (List Int)) (h:short (xs.getD [])):fnMW kA (look []) ou Tryz.f138 (xs,()) (λ(z:(List Int×Unit)×Unit)=>z=((xs.getD [],()),())):=by
 unfold short at h
 refine Eq.mp (OD xs _) ⟨λhn=>?_,λ_=>⟨rfl,rfl,by show 0+(xs.getD []).length<=4294967296;omega,?_⟩⟩
 ·cases xs with
  |none=>rfl
  |some y=>cases hn
 ·simp only [Bi,List.nil_append]
theorem ux:Bf Tryz.prog 138 ou:=
 Bf.mn gz Al mixed Tryz.func138 (by kernel_rfl) (by kernel_rfl) λx h=>MF x.1 h
theorem iR:Bf Tryz.prog 138 Vp:=Bf.ofO ux λ_ _ h=>⟨h,rfl⟩
theorem AB (xs:List Int) (h:short xs):fnW Cc (look []) Fa Tryz.f116 (xs,()) (λ(z:List Int)=>z=xs):=by
 unfold short at h
 refine Eq.mp (CA xs _) ⟨rfl,rfl,by show 0+xs.length<=4294967296;omega,?_⟩
 simp only [Bi,List.nil_append]
theorem Pk:Sound Tryz.prog 116 Fa:=
 Sound.Co Bg Al mixed Tryz.func116 (by kernel_rfl) (by kernel_rfl) λx h=>AB x.1 h
end Go.Proofs.YtfolipnappekaaaGreat

namespace Go.Proofs.YtfolipnappekaaaGreat
open Go.RowKit
def Bx (xs is:List Int):List Int:=is.map (Ig xs)
noncomputable abbrev Uh:MSpec:=mn [none,none] [(false, .Ee tL),(false, .Ee tL)] false [none] [rL] (λx=>short x.2.1/\Ho (List.length x.1) x.2.1) (λx=>((Bx x.1 x.2.1,()),()))
noncomputable abbrev Uj:Spec:=Co (.pair tL (.pair tL .unit)) tL false true (λx=>short x.1/\Ho (List.length x.2.1) x.1) (λx=>Bx x.2.1 x.1)
def Pw (xs:List Int):ByteArray:=bytesOf (xs.map λx=>IntKind.u8.wrap x)
noncomputable abbrev Fy:Spec:=Co (.pair tL .unit) .str false true (λx=>short x.1) (λx=>Pw x.1)
def iF (ps:List (List Int)) (p:List Int):Int:=Ds (λq=>decide (q=p)) ps 0
theorem IE (xs is:List Int) (P:((List Int×Unit)×Unit)->Prop):(((0:Int)<=(↑is.length:Int)/\(↑is.length:Int)<(↑Bj:Int)+(1:Int))/\(↑is.length:Int)=(↑is.length:Int)/\0=0/\(List.replicate (↑is.length:Int).toNat (Int.ofNat (nat_lit 0))).length=(List.replicate (↑is.length:Int).toNat (Int.ofNat (nat_lit 0))).length/\Bk (λ(v3:Int×List Int×PUnit) (k4:Int×List Int×PUnit->Prop)=>Br (decide (v3.1<(↑is.length:Int))) (∃(y5:Int),idx is v3.1=some y5/\ ∃(y6:Int),idx xs y5=some y6/\((0:Int)<=v3.1/\v3.1<(↑v3.2.1.length:Int))/\0+v3.1.toNat<v3.2.1.length/\0=0/\v3.2.1.length=(v3.2.1.set (0+v3.1.toNat) y6).length/\k4 (IntKind.i64.wrap (v3.1+(1:Int)),v3.2.1.set (0+v3.1.toNat) y6,())) (P ((List.take v3.2.1.length (List.drop 0 v3.2.1),()),()))) ((0:Int),List.replicate (↑is.length:Int).toNat (Int.ofNat (nat_lit 0)),PUnit.unit))=fnMW kA (look []) Uh Tryz.f80 (xs,is,()) P:=by kernel_rfl
theorem IG (is xs:List Int) (P:List Int->Prop):(0=0/\0=([]:List Int).length/\Bk (λ(v3:Int×List Int×PUnit) (k4:Int×List Int×PUnit->Prop)=>Br (decide (v3.1<(↑is.length:Int))) (∃(y5:Int),idx is v3.1=some y5/\ ∃(y6:Int),idx xs y5=some y6/\0=0/\v3.2.1.length=v3.2.1.length/\v3.2.1.length+(List.take 1 (List.drop 0 [y6])).length<=Bj/\0=0/\(v3.2.1++List.take 1 (List.drop 0 [y6])).length=(v3.2.1++List.take 1 (List.drop 0 [y6])).length/\k4 (IntKind.i64.wrap (v3.1+(1:Int)),v3.2.1++List.take 1 (List.drop 0 [y6]),())) (P (List.take v3.2.1.length (List.drop 0 v3.2.1)))) ((0:Int),[],PUnit.unit))=fnW Cc (look []) Uj Tryz.f78 (is,xs,()) P:=by kernel_rfl
theorem CJ (xs:List Int) (P:ByteArray->Prop):(((0:Int)<=(↑xs.length:Int)/\(↑xs.length:Int)<(↑Bj:Int)+(1:Int))/\(↑xs.length:Int)=(↑xs.length:Int)/\0=0/\(List.replicate (↑xs.length:Int).toNat (Int.ofNat (nat_lit 0))).length=(List.replicate (↑xs.length:Int).toNat (Int.ofNat (nat_lit 0))).length/\Bk (λ(v2:Int×List Int×PUnit) (k3:Int×List Int×PUnit->Prop)=>Br (decide (v2.1<(↑xs.length:Int))) (∃(y4:Int),idx xs v2.1=some y4/\((0:Int)<=v2.1/\v2.1<(↑v2.2.1.length:Int))/\0+v2.1.toNat<v2.2.1.length/\0=0/\v2.2.1.length=(v2.2.1.set (0+v2.1.toNat) (IntKind.u8.wrap y4)).length/\k3 (IntKind.i64.wrap (v2.1+(1:Int)),v2.2.1.set (0+v2.1.toNat) (IntKind.u8.wrap y4),())) (P (bytesOf (List.take v2.2.1.length (List.drop 0 v2.2.1))))) ((0:Int),List.replicate (↑xs.length:Int).toNat (Int.ofNat (nat_lit 0)),PUnit.unit))=fnW Cc (look []) Fy Tryz.f79 (xs,()) P:=by kernel_rfl
theorem o6 (xs is:List Int):(Bx xs is).length=is.length:=by simp [Bx]
theorem QU {α:Type} (y:α):List.take 1 (List.drop 0 [y])= [y]:=rfl
theorem GK (xs is:List Int) (h:short is/\Ho xs.length is):fnMW kA (look []) Uh Tryz.f80 (xs,is,()) (λ(z:(List Int×Unit)×Unit)=>z=((Bx xs is,()),())):=by
 obtain ⟨h,hr⟩:=h
 unfold short at h
 refine Eq.mp (IE xs is _) ?_
 refine ⟨⟨by omega,by show (is.length:Int)<(4294967296:Int)+1;omega⟩,rfl,rfl,rfl,?_⟩
 have Ly:=o6 xs is
 refine Ah is.length (λv=>v.1) (λj v=>v.2.1.length=(Bx xs is).length/\v.2.1.take j=(Bx xs is).take j) rfl ⟨by rw [Ly];simp,by simp⟩ ?_
 rintro j ⟨i,ys,⟨⟩⟩ K hj hi ⟨h1,h2⟩ hK
 dsimp only at hi h1 h2⊢
 subst hi
 refine Br.dec (λhl=>?_) λhl=>?_
 ·have hl:j<is.length:=by omega
  have hy:=hr _ (List.getElem_mem hl)
  refine ⟨_,Ap hl,_,cv hy.1 hy.2,⟨by omega,by omega⟩,by rw [Int.toNat_natCast];omega,rfl,by rw [List.length_set],?_⟩
  rw [Ag (by omega),Int.toNat_natCast,Nat.zero_add]
  have Fz:j<(Bx xs is).length:=by rw [Ly];exact hl
  have e:Ig xs is[j]=(Bx xs is)[j]:=by simp [Bx]
  rw [e]
  exact hK hl _ rfl ⟨by rw [List.length_set];exact h1,Kq Fz h1 h2⟩
 ·have:j=is.length:=by omega
  subst this
  rw [<-Ly,List.take_length,<-h1,List.take_length] at h2
  rw [List.drop_zero,List.take_length,h2]
theorem qx:Bf Tryz.prog 80 Uh:=
 Bf.mn gz Al mixed Tryz.func80 (by kernel_rfl) (by kernel_rfl) λx h=>GK x.1 x.2.1 h
theorem GM (is xs:List Int) (h:short is/\Ho xs.length is):fnW Cc (look []) Uj Tryz.f78 (is,xs,()) (λ(z:List Int)=>z=Bx xs is):=by
 obtain ⟨h,hr⟩:=h
 unfold short at h
 refine Eq.mp (IG is xs _) ⟨rfl,rfl,?_⟩
 have Ly:=o6 xs is
 refine Ah is.length (λv=>v.1) (λj v=>v.2.1=(Bx xs is).take j) rfl rfl ?_
 rintro j ⟨i,ys,⟨⟩⟩ K hj hi h1 hK
 dsimp only at hi h1⊢
 subst hi
 refine Br.dec (λhl=>?_) λhl=>?_
 ·have hl:j<is.length:=by omega
  have hy:=hr _ (List.getElem_mem hl)
  have Fz:j<(Bx xs is).length:=by rw [Ly];exact hl
  refine ⟨_,Ap hl,_,cv hy.1 hy.2,rfl,rfl,?_,rfl,rfl,?_⟩
  ·show ys.length+1<=4294967296
   rw [h1,List.length_take];omega
  ·rw [Ag (by omega),QU]
   refine hK hl _ rfl ?_
   dsimp only
   rw [h1,List.take_succ_eq_append_getElem Fz]
   simp [Bx]
 ·have:j=is.length:=by omega
  subst this
  rw [Bi,h1,<-Ly,List.take_length]
theorem qz:Sound Tryz.prog 78 Uj:=
 Sound.Co Bg Al mixed Tryz.func78 (by kernel_rfl) (by kernel_rfl) λx h=>GM x.1 x.2.1 h
theorem AL (xs:List Int) (h:short xs):fnW Cc (look []) Fy Tryz.f79 (xs,()) (λ(z:ByteArray)=>z=Pw xs):=by
 unfold short at h
 refine Eq.mp (CJ xs _) ?_
 refine ⟨⟨by omega,by show (xs.length:Int)<(4294967296:Int)+1;omega⟩,rfl,rfl,rfl,?_⟩
 have Ly:(xs.map λx=>IntKind.u8.wrap x).length=xs.length:=by simp
 refine Ah xs.length (λv=>v.1) (λj v=>v.2.1.length=(xs.map λx=>IntKind.u8.wrap x).length/\v.2.1.take j=(xs.map λx=>IntKind.u8.wrap x).take j) rfl ⟨by rw [Ly];simp,by simp⟩ ?_
 rintro j ⟨i,ys,⟨⟩⟩ K hj hi ⟨h1,h2⟩ hK
 dsimp only at hi h1 h2⊢
 subst hi
 refine Br.dec (λhl=>?_) λhl=>?_
 ·have hl:j<xs.length:=by omega
  refine ⟨_,Ap hl,⟨by omega,by omega⟩,by rw [Int.toNat_natCast];omega,rfl,by rw [List.length_set],?_⟩
  rw [Ag (by omega),Int.toNat_natCast,Nat.zero_add]
  have Fz:j<(xs.map λx=>IntKind.u8.wrap x).length:=by rw [Ly];exact hl
  have e:IntKind.u8.wrap xs[j]=(xs.map λx=>IntKind.u8.wrap x)[j]:=by simp
  rw [e]
  exact hK hl _ rfl ⟨by rw [List.length_set];exact h1,Kq Fz h1 h2⟩
 ·have:j=xs.length:=by omega
  subst this
  rw [<-Ly,List.take_length,<-h1,List.take_length] at h2
  rw [List.drop_zero,List.take_length,h2];rfl
theorem Vu:Sound Tryz.prog 79 Fy:=
 Sound.Co Bg Al mixed Tryz.func79 (by kernel_rfl) (by kernel_rfl) λx h=>AL x.1 h
theorem bk {α:Type} (P:α->Bool) (y:α): ∀(l:List α) (i:Int),0<=i->Ds P (l++ [y]) i=if Ds P l i<0 then (if P y=true then i+l.length else-1) else Ds P l i
 | [],i,_=>by simp [Ds]
 |x::r,i,h=>by
  simp only [List.cons_append,Ds,List.length_cons]
  split
  ·rw [if_neg (by omega)]
  ·rw [bk P y r (i+1) (by omega),show i+1+(r.length:Int)=i+((r.length+1:Nat):Int) by push_cast;omega]
theorem ua (ps:List (List Int)) (q p:List Int):iF (ps++ [q]) p=if iF ps p<0 then (if q=p then (ps.length:Int) else-1) else iF ps p:=by
 unfold iF
 rw [bk _ _ _ _ (Int.le_refl 0)]
 simp only [decide_eq_true_eq,Int.zero_add]
def aY (p:List Int):Prop:= ∀x∈p,0<=x/\x<256
theorem JM {x y:Int} (hx:0<=x/\x<256) (hy:0<=y/\y<256) (h:UInt8.ofNat (IntKind.u8.wrap x).toNat=UInt8.ofNat (IntKind.u8.wrap y).toNat):x=y:=by
 have h:=congrArg UInt8.toNat h
 simp only [IntKind.wrap_u8,UInt8.toNat_ofNat'] at h
 omega
theorem bytes_inj: ∀(p q:List Int),aY p->aY q->(p.map λx=>UInt8.ofNat (IntKind.u8.wrap x).toNat)=(q.map λx=>UInt8.ofNat (IntKind.u8.wrap x).toNat)->p=q
 | [],[],_,_,_=>rfl
 | [],_::_,_,_,h=>by simp at h
 |_::_,[],_,_,h=>by simp at h
 |x::p,y::q,hp,hq,h=>by
  simp only [List.map_cons,List.cons.injEq] at h
  rw [JM (hp x (by simp)) (hq y (by simp)) h.1,bytes_inj p q (λz hz=>hp z (by simp [hz])) (λz hz=>hq z (by simp [hz])) h.2]
theorem key_inj {p q:List Int} (hp:aY p) (hq:aY q) (h:Pw p=Pw q):p=q:=by
 refine bytes_inj p q hp hq ?_
 simp only [Pw,bytesOf,ByteArray.mk.injEq,List.map_map] at h
 have h:=congrArg Array.toList h
 simpa [Function.comp_def] using h
def KM (m:ByteArray->Option Int) (ps:List (List Int)):Prop:= ∀p,aY p->m (Pw p)=if iF ps p<0 then none else some (iF ps p)
theorem KM.nil:KM (λ_=>none) []:= λp _=>by
 rw [if_pos (by unfold iF;simp [Ds])]
theorem KM.add {m:ByteArray->Option Int} {ps:List (List Int)} {q:List Int} (h:KM m ps) (hq:aY q) (hn:iF ps q<0):KM (dp m (Pw q) (ps.length:Int)) (ps++ [q]):=by
 intro p hp
 rw [ua]
 unfold dp
 by_cases e:p=q
 ·subst e
  rw [if_pos rfl,if_pos hn,if_pos rfl,if_neg (by omega)]
 ·rw [if_neg (λhk=>e (key_inj hp hq hk)),h p hp]
  have e': ¬q=p:= λh=>e h.symm
  rw [if_neg e']
  by_cases FK:iF ps p<0
  ·rw [if_pos FK,if_pos FK,if_pos (by decide)]
  ·rw [if_neg FK,if_neg FK,if_neg FK]
end Go.Proofs.YtfolipnappekaaaGreat

namespace Go.Proofs.YtfolipnappekaaaGreat
open Go.RowKit
noncomputable abbrev Oe:Spec:=Co (.pair Dc .unit) tL false true (λx=>List.length x.1.2.2.1<=8) (λx=>Cj (List.length x.1.2.2.1))
abbrev j4:Type:=Int×Int×ByteArray×List (List Int)×List Int×PUnit
theorem yu (p:Int×ByteArray×List (List Int)×Unit) (P:List Int->Prop):(0=0/\0=([]:List Int).length/\Bk (λ(v2:j4) (k3:j4->Prop)=>Br (decide (v2.1<=(↑v2.2.2.2.1.length:Int))) (0=0/\v2.2.2.2.2.1.length=v2.2.2.2.2.1.length/\v2.2.2.2.2.1.length+(List.take 2 (List.drop 0 [v2.1,IntKind.i64.wrap ((0:Int)-v2.1)])).length<=Bj/\0=0/\(v2.2.2.2.2.1++List.take 2 (List.drop 0 [v2.1,IntKind.i64.wrap ((0:Int)-v2.1)])).length=(v2.2.2.2.2.1++List.take 2 (List.drop 0 [v2.1,IntKind.i64.wrap ((0:Int)-v2.1)])).length/\k3 (IntKind.i64.wrap (v2.1+(1:Int)),v2.2.1,v2.2.2.1,v2.2.2.2.1,v2.2.2.2.2.1++List.take 2 (List.drop 0 [v2.1,IntKind.i64.wrap ((0:Int)-v2.1)]),())) (P (List.take v2.2.2.2.2.1.length (List.drop 0 v2.2.2.2.2.1)))) ((1:Int),p.1,p.2.1,p.2.2.1,[],PUnit.unit))=fnW Cc (look []) Oe Tryz.f141 (p,()) P:=by kernel_rfl
theorem xz (p:PP) (h:List.length p.2.2.1<=8):fnW Cc (look []) Oe Tryz.f141 (p,()) (λ(z:List Int)=>z=Cj (List.length p.2.2.1)):=by
 refine Eq.mp (yu p _) ⟨rfl,rfl,?_⟩
 refine Bk.mk (λv=> ∃j:Nat,j<=List.length p.2.2.1/\v=((j:Int)+1,p.1,p.2.1,p.2.2.1,Cj j,())) (λv=>List.length p.2.2.1+1-v.1.toNat) ⟨0,Nat.zero_le _,rfl⟩ ?_
 rintro _ ⟨j,hj,rfl⟩
 dsimp only
 refine Br.dec (λhl=>?_) λhl=>?_
 ·refine ⟨rfl,rfl,?_,rfl,rfl,⟨j+1,by omega,?_⟩,?_⟩
  ·show (Cj j).length+2<=4294967296
   rw [Ro];omega
  ·rw [Vj,Cp (n:=(j:Int)+1+1) (by omega) (by omega),Cp (n:=0-((j:Int)+1)) (by omega) (by omega),Int.zero_sub]
   rfl
  ·rw [Cp (by omega) (by omega)];omega
 ·have:j=List.length p.2.2.1:=by omega
  subst this
  rw [Bi]
theorem lT:Sound Tryz.prog 141 Oe:=
 Sound.Co Bg Al mixed Tryz.func141 (by kernel_rfl) (by kernel_rfl) λx h=>xz x.1 h
theorem KZ {a:Int} {P:Prop} (h:(a !=a)=true):P:=by simp at h
theorem ND {p:PP} {room:Int} (hr:roomy room) (h: ¬nN p room<0):(dO p.2.2.1:Int)<=room-nN p room/\roomy (nN p room):=by
 unfold nN at h⊢
 split at h
 ·exact absurd (show (-1:Int)<0 by decide) h
 ·rename_i h1
  rw [if_neg h1]
  split at h
  ·exact absurd (show (-1:Int)<0 by decide) h
  ·rename_i h2
   rw [if_neg h2]
   have e2:=NC h2
   obtain ⟨r1,r2⟩:=hr
   unfold roomy
   omega
end Go.Proofs.YtfolipnappekaaaGreat

namespace Go.Proofs.YtfolipnappekaaaGreat
open Go.RowKit
def tJ (v:Int):List Int->Nat
 | []=>0
 |x::r=>if x>v then tJ v r+1 else 0
def QQ (v:Int) (t:List Int):Option (List Int):=if tJ v t=0 then none else some (Ig t ((tJ v t-1:Nat):Int)::(t.set (tJ v t-1) v).reverse)
def cD:List Int->Option (List Int)
 | []=>none
 |v::t=>match cD t with
  |some t'=>some (v::t')
  |none=>QQ v t
theorem xg {s s':List Int} (h:cD s=some s'): ∀pre:List Int,cD (pre++s)=some (pre++s')
 | []=>h
 |v::p=>by rw [List.cons_append,cD,xg h p];rfl
theorem RG {α:Type} (pre:List α) (v a:α) (t:List α):(pre++v::t).set pre.length a=pre++a::t:=by
 rw [List.set_append,if_neg (by omega)];simp
inductive CP:List Int->List (List Int)->List Int->Prop where
 |one (a:List Int):CP a [a] a
 |more {a c b:List Int} {L:List (List Int)} :cD a=some c->CP c L b->CP a (a::L) b
theorem CP.cons {a b:List Int} {L:List (List Int)} (h:CP a L b) (v:Int):CP (v::a) (L.map (v:: ·)) (v::b):=by
 induction h with
 |one a=>exact .one _
 |more h3 _ ih=>exact .more (xg h3 [v]) ih
theorem CP.head {a b:List Int} {L:List (List Int)} (h:CP a L b): ∃M,L=a::M:=by
 cases h with
 |one=>exact ⟨_,rfl⟩
 |more _ _=>exact ⟨_,rfl⟩
theorem CP.at {a b:List Int} {L:List (List Int)} (h:CP a L b): ∀j (hj:j<L.length),(∀h2:j+1<L.length,cD L[j]=some L[j+1])/\(j+1=L.length->L[j]=b):=by
 induction h with
 |one a=>
  intro j hj
  simp only [List.length_singleton] at hj
  have:j=0:=by omega
  subst this
  exact ⟨λh2=>by simp at h2,λ_=>rfl⟩
 |more h3 h4 ih=>
  intro j hj
  rcases j with _|j
  ·obtain ⟨M,hM⟩:=h4.head
   refine ⟨λh2=>?_,λh2=>?_⟩
   ·simp only [List.getElem_cons_zero,List.getElem_cons_succ]
    subst hM
    exact h3
   ·subst hM;simp at h2
  ·have:=ih j (by simpa using hj)
   refine ⟨λh2=>?_,λh2=>?_⟩
   ·simp only [List.getElem_cons_succ]
    exact this.1 (by simpa using h2)
   ·simp only [List.getElem_cons_succ]
    exact this.2 (by simpa using h2)
theorem CP.distinct {a b:List Int} {L:List (List Int)} (h:CP a L b) (hb:cD b=none): ∀k i j (hi:i<L.length) (hj:j<L.length),L.length-j=k->i<j->L[i]≠L[j]:=by
 intro k
 induction k with
 |zero=>intro i j hi hj hk;omega
 |succ k ih=>
  intro i j hi hj hk jF he
  by_cases e:j+1<L.length
  ·have h1:=(h.at i hi).1 (by omega)
   have h2:=(h.at j hj).1 e
   rw [he,h2] at h1
   exact ih (i+1) (j+1) (by omega) e (by omega) (by omega) (Option.some.inj h1).symm
  ·have h1:=(h.at i hi).1 (by omega)
   have h2:=(h.at j hj).2 (by omega)
   rw [he,h2,hb] at h1
   cases h1
theorem CP.idx {a b:List Int} {L:List (List Int)} (h:CP a L b) (hb:cD b=none) {j:Nat} (hj:j<L.length):L.idxOf L[j]=j:=by
 have h1:L.idxOf L[j]<L.length:=List.idxOf_lt_length_of_mem (List.getElem_mem _)
 have h2:L[L.idxOf L[j]]=L[j]:=List.getElem_idxOf h1
 rcases Nat.lt_trichotomy (L.idxOf L[j]) j with h3|h3|h3
 ·exact absurd h2 (h.distinct hb _ _ _ h1 hj rfl h3)
 ·exact h3
 ·exact absurd h2.symm (h.distinct hb _ _ _ hj h1 rfl h3)
end Go.Proofs.YtfolipnappekaaaGreat

namespace Go.Proofs.YtfolipnappekaaaGreat
open Go.RowKit
def Cf:List Int->List Int->Int
 | [],[]=>0
 | [],_::_=> -1
 |_::_,[]=>1
 |x::a,y::b=>if x<y then-1 else if x>y then 1 else Cf a b
def ak (a b:List Int):Bool:=decide (Cf a b<0)
noncomputable abbrev Rb:Spec:=Co (.pair tL (.pair tL .unit)) .bool false true (λx=>short x.1/\List.length x.1=List.length x.2.1) (λx=>ak x.1 x.2.1)
theorem CH (a b:List Int) (P:Bool->Prop):(Bk (λ(v3:Int×PUnit) (k4:Int×PUnit->Prop)=>Br (decide (v3.1<(↑a.length:Int))) (∃(y5:Int),idx a v3.1=some y5/\ ∃(y6:Int),idx b v3.1=some y6/\Br (y5 !=y6) (∃(y7:Int),idx a v3.1=some y7/\ ∃(y8:Int),idx b v3.1=some y8/\P (decide (y7<y8))) (k4 (IntKind.i64.wrap (v3.1+(1:Int)),()))) (P false)) ((0:Int),PUnit.unit))=fnW Cc (look []) Rb Tryz.f158 (a,b,()) P:=by kernel_rfl
theorem Sound.ofO {P:Program} {f:FuncId} {e:Ty} {r res:Ty} {Dh fresh:Bool} {pre:(Ty.pair (.oslice e) r).den->Prop} {val:(Ty.pair (.oslice e) r).den->res.den} {cK:(Ty.pair (.slice e) r).den->Prop} {pe:(Ty.pair (.slice e) r).den->res.den}
  (h:Sound P f (Go.Proofs.YtfolipnappekaaaGreat.Co (.pair (.oslice e) r) res Dh fresh pre val))
  (hp: ∀(o:Option (List e.den)) (y:r.den),cK (o.getD [],y)->pre (o,y)/\val (o,y)=pe (o.getD [],y)):Sound P f (Go.Proofs.YtfolipnappekaaaGreat.Co (.pair (.slice e) r) res Dh fresh cK pe):=by
 refine ⟨h.enter,λw S vs x y hS h2 h5=>?_⟩
 obtain ⟨xs,rest⟩:=x
 cases vs with
 |nil=>exact h2.elim
 |cons u us=>
  obtain ⟨h7,h8⟩:=h2
  obtain ⟨ox,h9,rfl⟩:=h7.told
  have Xo:cK (ox.getD [],rest):=Classical.byContradiction λhn=>by
   have:(Go.Proofs.YtfolipnappekaaaGreat.Co (.pair (.slice e) r) res Dh fresh cK pe).fn (ox.getD [],rest)=none:=if_neg hn
   rw [this] at h5;cases h5
  obtain ⟨k1,k2⟩:=hp ox rest Xo
  have hv:(Go.Proofs.YtfolipnappekaaaGreat.Co (.pair (.slice e) r) res Dh fresh cK pe).fn (ox.getD [],rest)=some (pe (ox.getD [],rest)):=if_pos Xo
  rw [hv] at h5
  have h5:=Option.some.inj h5
  exact h.calls w S (u::us) (ox,rest) y hS ⟨h9,h8⟩ ((if_pos k1).trans (by rw [k2];exact congrArg some h5))
theorem AJ (a b:List Int) (h:short a/\a.length=b.length):fnW Cc (look []) Rb Tryz.f158 (a,b,()) (λ(z:Bool)=>z=ak a b):=by
 obtain ⟨ha,hb⟩:=h
 unfold short at ha
 refine Eq.mp (CH a b _) ?_
 refine Ah a.length (λv=>v.1) (λj _=>Cf (a.drop j) (b.drop j)=Cf a b) rfl (by simp) ?_
 rintro j ⟨i,⟨⟩⟩ K hj hi VB hK
 dsimp only at hi⊢
 subst hi
 refine Br.dec (λhl=>?_) λhl=>?_
 ·have hl:j<a.length:=by omega
  have ZK:j<b.length:=by omega
  rw [List.drop_eq_getElem_cons hl,List.drop_eq_getElem_cons ZK] at VB
  simp only [Cf] at VB
  refine ⟨_,Ap hl,_,Ap ZK,⟨λEx=>?_,λEx=>?_⟩⟩
  ·refine ⟨_,Ap hl,_,Ap ZK,?_⟩
   have Ex:a[j]≠b[j]:=by simpa using Ex
   unfold ak
   rw [<-VB]
   by_cases h1:a[j]<b[j]
   ·rw [if_pos h1];simp [h1]
   ·rw [if_neg h1,if_pos (by omega)];simp [h1]
  ·have Ex:a[j]=b[j]:=by simpa using Ex
   rw [if_neg (by omega),if_neg (by omega)] at VB
   rw [Ag (by omega)]
   exact hK hl _ rfl VB
 ·have:j=a.length:=by omega
  subst this
  rw [List.drop_length,List.drop_eq_nil_of_le (by omega)] at VB
  unfold ak
  rw [<-VB]
  rfl
theorem oQ:Sound Tryz.prog 158 Rb:=
 Sound.Co Bg Al mixed Tryz.func158 (by kernel_rfl) (by kernel_rfl) λx h=>AJ x.1 x.2.1 h
end Go.Proofs.YtfolipnappekaaaGreat

namespace Go.Proofs.YtfolipnappekaaaGreat
open Go.RowKit
abbrev SS:Type:=List (List Int)×List Int×List Int×Bool×Unit
abbrev rLS:CK:= .row tL 26
abbrev rN:CK:= .row tI 3
def Cv (L:List (List Int)) (Hw:List Int) (s:List Int):Nat:=(Hw.takeWhile λi=>ak (L.getD i.toNat []) s).length
structure Dg (m:Nat) (L:List (List Int)) (Hw:List Int):Prop where
 sX:L.length<=3000
 len: ∀x∈L,x.length=m
 short:m<=20
 perm:Hw.Perm (upto L.length)
 sorted:Hw.Pairwise λi j=>ak (L.getD i.toNat []) (L.getD j.toNat [])=true
def kY (L:List (List Int)) (s:List Int):Int:=if s∈L then (L.idxOf s:Int) else-1
def Pv (Hw:List Int) (k:Nat) (x:Int):List Int:=Hw.take k++x::Hw.drop k
noncomputable abbrev aH:Spec:=Co (.pair eb (.pair tL .unit)) tI false true (λx=>Dg (List.length x.2.1) x.1.1 x.1.2.2.1) (λx=>(Cv x.1.1 x.1.2.2.1 x.2.1:Int))
noncomputable abbrev Zf:Spec:=Co (.pair eb (.pair tL .unit)) tI false true (λx=>Dg (List.length x.2.1) x.1.1 x.1.2.2.1) (λx=>kY x.1.1 x.2.1)
noncomputable abbrev gp:MSpec:=mn [some 4,none,none] [(false,rLS),(false,rL),(false,rN),(false, .Ee .bool),(false, .Ee tL),(false, .Ee tI)] false [some 4] [rLS,rL,rN, .Ee .bool]
 (λx=>Dg (List.length x.2.2.2.2.1) x.1 x.2.2.1/\List.length x.2.1<=3000) (λx=>((x.1++ [x.2.2.2.2.1],x.2.1++ [x.2.2.2.2.2.1],Pv x.2.2.1 (Cv x.1 x.2.2.1 x.2.2.2.2.1) (List.length x.1),x.2.2.2.1,()),()))
def Xd (L:List (List Int)):List Int:=(List.range L.length).foldl (λ(S:List Int) (i:Nat)=>Pv S (Cv (L.take i) S (L.getD i [])) (i:Int)) []
def Hg (g:List (List Int)) (x:List Int) (d:Int):List Int->List (List Int)->List Int->List (List Int)×List Int×Bool
 | [],L,D=>(L,D,true)
 |l::ls,L,D=>if Aa x (An g l)∈L then Hg g x d ls L D else if L.length=3000 then (L,D,false) else Hg g x d ls (L++ [Aa x (An g l)]) (D++ [d+1])
def Lb (g:List (List Int)) (ls:List Int):Nat->Nat->List (List Int)->List Int->List (List Int)×List Int×Bool
 |0,_,L,D=>(L,D,true)
 |f+1,k,L,D=>if k<L.length then (match Hg g (L.getD k []) (D.getD k 0) ls L D with
  |(L',D',true)=>Lb g ls f (k+1) L' D'
  |(L',D',false)=>(L',D',false)) else (L,D,true)
def Gf (g:List (List Int)) (s:List Int):List (List Int)×List Int×Bool:=Lb g (Cj g.length) 3001 0 [s] [0]
def Lm (g:List (List Int)) (s:List Int):SS:=((Gf g s).1,(Gf g s).2.1,Xd (Gf g s).1,(Gf g s).2.2,())
noncomputable abbrev dX:Spec:=Co (.pair Dc (.pair tL .unit)) eb false false (λx=>Bv x.1=true/\List.length x.2.1<=20/\ ∀y∈x.2.1,0<=y/\y<x.1.1) (λx=>Lm x.1.2.2.1 x.2.1)
abbrev EI:Type:=Int×Int×List (List Int)×List Int×List Int×Bool×PUnit
theorem YS (f:List (List Int)×List Int×List Int×Bool×Unit) (s:List Int) (P:Int->Prop):(Bk (λ(v3:EI) (k4:EI->Prop)=>Br (decide (v3.1<v3.2.1)) ((2:Int)≠(0:Int)/\ ∃(y5:Int),idx v3.2.2.2.2.1 (IntKind.i64.wrap ((IntKind.i64.wrap (v3.1+v3.2.1)).tdiv (2:Int)))=some y5/\ ∃(y6:List Int),idx v3.2.2.1 y5=some y6/\ ∃(y7:Bool),Rb.fn (y6,s,())=some y7/\Br y7 (k4 (IntKind.i64.wrap (IntKind.i64.wrap ((IntKind.i64.wrap (v3.1+v3.2.1)).tdiv (2:Int))+(1:Int)),v3.2.1,v3.2.2.1,v3.2.2.2.1,v3.2.2.2.2.1,v3.2.2.2.2.2.1,())) (k4 (v3.1,IntKind.i64.wrap ((IntKind.i64.wrap (v3.1+v3.2.1)).tdiv (2:Int)),v3.2.2.1,v3.2.2.2.1,v3.2.2.2.2.1,v3.2.2.2.2.2.1,()))) (P v3.1)) ((0:Int),(↑f.2.2.1.length:Int),f.1,f.2.1,f.2.2.1,f.2.2.2.1,PUnit.unit))=fnW Cc (look [(158,Rb)]) aH Tryz.f149 (f,s,()) P:=by kernel_rfl
theorem OH (f:List (List Int)×List Int×List Int×Bool×Unit) (s:List Int) (P:Int->Prop):(∃(y3:Int),aH.fn ((f.1,f.2.1,f.2.2.1,f.2.2.2.1,()),s,())=some y3/\Br (decide (y3<(↑f.2.2.1.length:Int))) (∃(y4:Int),idx f.2.2.1 y3=some y4/\ ∃(y5:List Int),idx f.1 y4=some y5/\ ∃(y6:Bool),Ao.fn (y5,s,())=some y6/\Br y6 (∃(y7:Int),idx f.2.2.1 y3=some y7/\P y7) (P (-1:Int))) (P (-1:Int)))=fnW Cc (look [(149,aH),(101,Ao)]) Zf Tryz.f132 (f,s,()) P:=by kernel_rfl
theorem YQ (L:List (List Int)) (D S:List Int) (b:Bool) (s:List Int) (d:Int) (P:((List (List Int)×List Int×List Int×Bool×Unit)×Unit)->Prop):(∃(y7:Int),aH.fn ((List.take L.length (List.drop 0 L),List.take D.length (List.drop 0 D),List.take S.length (List.drop 0 S),b,()),s,())=some y7/\0=0/\S.length=S.length/\S.length+(List.take 1 (List.drop 0 [(0:Int)])).length<=Bj/\((0:Int)<=IntKind.i64.wrap (y7+(1:Int))/\IntKind.i64.wrap (y7+(1:Int))<=(↑(S++List.take 1 (List.drop 0 [(0:Int)])).length:Int)/\(↑(S++List.take 1 (List.drop 0 [(0:Int)])).length:Int)<=(↑(S++List.take 1 (List.drop 0 [(0:Int)])).length:Int))/\((0:Int)<=y7/\y7<=(↑(S++List.take 1 (List.drop 0 [(0:Int)])).length:Int)/\(↑(S++List.take 1 (List.drop 0 [(0:Int)])).length:Int)<=(↑(S++List.take 1 (List.drop 0 [(0:Int)])).length:Int))/\((0:Int)<=y7/\y7<(↑(S++List.take 1 (List.drop 0 [(0:Int)])).length:Int))/\0+y7.toNat<(Bo (S++List.take 1 (List.drop 0 [(0:Int)])) (0+(IntKind.i64.wrap (y7+(1:Int))).toNat) (List.take ((↑(S++List.take 1 (List.drop 0 [(0:Int)])).length:Int).toNat-(IntKind.i64.wrap (y7+(1:Int))).toNat) (List.take ((↑(S++List.take 1 (List.drop 0 [(0:Int)])).length:Int).toNat-y7.toNat) (List.drop (0+y7.toNat) (S++List.take 1 (List.drop 0 [(0:Int)])))))).length/\0=0/\L.length=L.length/\L.length+(List.take 1 (List.drop 0 [s])).length<=Bj/\0=0/\D.length=D.length/\D.length+(List.take 1 (List.drop 0 [d])).length<=Bj/\P ((List.take (L++List.take 1 (List.drop 0 [s])).length (List.drop 0 (L++List.take 1 (List.drop 0 [s]))),List.take (D++List.take 1 (List.drop 0 [d])).length (List.drop 0 (D++List.take 1 (List.drop 0 [d]))),List.take (S++List.take 1 (List.drop 0 [(0:Int)])).length (List.drop 0 ((Bo (S++List.take 1 (List.drop 0 [(0:Int)])) (0+(IntKind.i64.wrap (y7+(1:Int))).toNat) (List.take ((↑(S++List.take 1 (List.drop 0 [(0:Int)])).length:Int).toNat-(IntKind.i64.wrap (y7+(1:Int))).toNat) (List.take ((↑(S++List.take 1 (List.drop 0 [(0:Int)])).length:Int).toNat-y7.toNat) (List.drop (0+y7.toNat) (S++List.take 1 (List.drop 0 [(0:Int)])))))).set (0+y7.toNat) (↑L.length:Int))),b,()),()))=fnMW kA (look [(149,aH)]) gp Tryz.f148 (L,D,S,b,s,d,()) P:=by kernel_rfl
abbrev j6:Type:=Int×Int×ByteArray×List (List Int)×Bool×Bool×List (List Int)×List Int×List Int×List (List Int)×List Int×List Int×PUnit
abbrev yb:Type:=(List (List Int)×List Int×List Int×Bool×PUnit)×PUnit
theorem RV (p:Int×ByteArray×List (List Int)×Unit) (s:List Int) (P:(List (List Int)×List Int×List Int×Bool×Unit)->Prop):(∃(y3:List Int),Fa.fn (s,())=some y3/\ ∃(y4:yb),gp.fn ([],[],[],false,y3,(0:Int),())=some y4/\ ∃(y5:List Int),Oe.fn ((p.1,p.2.1,p.2.2.1,()),())=some y5/\0=0/\0=([]:List Int).length/\0=0/\0=([]:List Int).length/\0=0/\0=([]:List Int).length/\0=0/\y4.1.1.length=y4.1.1.length/\0=0/\y4.1.2.1.length=y4.1.2.1.length/\0=0/\y4.1.2.2.1.length=y4.1.2.2.1.length/\Bk (λ(v6:j6) (k7:j6->Prop)=>Br (decide (v6.1<(↑v6.2.2.2.2.2.2.2.2.2.1.length:Int))) (0=0/\v6.2.2.2.2.2.2.1.length=v6.2.2.2.2.2.2.1.length/\0=0/\v6.2.2.2.2.2.2.2.1.length=v6.2.2.2.2.2.2.2.1.length/\0=0/\v6.2.2.2.2.2.2.2.2.1.length=v6.2.2.2.2.2.2.2.2.1.length/\0=0/\v6.2.2.2.2.2.2.2.2.2.1.length=v6.2.2.2.2.2.2.2.2.2.1.length/\0=0/\v6.2.2.2.2.2.2.2.2.2.2.1.length=v6.2.2.2.2.2.2.2.2.2.2.1.length/\0=0/\v6.2.2.2.2.2.2.2.2.2.2.2.1.length=v6.2.2.2.2.2.2.2.2.2.2.2.1.length/\Bk (λ(v8:j6) (k9:j6->Prop)=>Br (decide (v8.1<(↑y5.length:Int))) (((0:Int)<=v6.1/\v6.1<(↑v8.2.2.2.2.2.2.2.2.2.1.length:Int))/\ ∃(Xy:List Int),v8.2.2.2.2.2.2.2.2.2.1[0+v6.1.toNat]?=some Xy/\ ∃(qU:Int),idx y5 v8.1=some qU/\ ∃(vh:List Int),Zc.fn ((v8.2.1,v8.2.2.1,v8.2.2.2.1,()),Xy,qU,())=some vh/\ ∃(OM:Int),Zf.fn ((List.take v8.2.2.2.2.2.2.2.2.2.1.length (List.drop 0 v8.2.2.2.2.2.2.2.2.2.1),List.take v8.2.2.2.2.2.2.2.2.2.2.1.length (List.drop 0 v8.2.2.2.2.2.2.2.2.2.2.1),List.take v8.2.2.2.2.2.2.2.2.2.2.2.1.length (List.drop 0 v8.2.2.2.2.2.2.2.2.2.2.2.1),v8.2.2.2.2.2.1,()),vh,())=some OM/\Br (decide (OM>=(0:Int))) (0=0/\v8.2.2.2.2.2.2.1.length=v8.2.2.2.2.2.2.1.length/\0=0/\v8.2.2.2.2.2.2.2.1.length=v8.2.2.2.2.2.2.2.1.length/\0=0/\v8.2.2.2.2.2.2.2.2.1.length=v8.2.2.2.2.2.2.2.2.1.length/\0=0/\v8.2.2.2.2.2.2.2.2.2.1.length=v8.2.2.2.2.2.2.2.2.2.1.length/\0=0/\v8.2.2.2.2.2.2.2.2.2.2.1.length=v8.2.2.2.2.2.2.2.2.2.2.1.length/\0=0/\v8.2.2.2.2.2.2.2.2.2.2.2.1.length=v8.2.2.2.2.2.2.2.2.2.2.2.1.length/\k9 (IntKind.i64.wrap (v8.1+(1:Int)),v8.2.1,v8.2.2.1,v8.2.2.2.1,v8.2.2.2.2.1,v8.2.2.2.2.2.1,v8.2.2.2.2.2.2.1,v8.2.2.2.2.2.2.2.1,v8.2.2.2.2.2.2.2.2.1,v8.2.2.2.2.2.2.2.2.2.1,v8.2.2.2.2.2.2.2.2.2.2.1,v8.2.2.2.2.2.2.2.2.2.2.2.1,())) (Br ((↑v8.2.2.2.2.2.2.2.2.2.1.length:Int)==(3000:Int)) (P (List.take v8.2.2.2.2.2.2.2.2.2.1.length (List.drop 0 v8.2.2.2.2.2.2.2.2.2.1),List.take v8.2.2.2.2.2.2.2.2.2.2.1.length (List.drop 0 v8.2.2.2.2.2.2.2.2.2.2.1),List.take v8.2.2.2.2.2.2.2.2.2.2.2.1.length (List.drop 0 v8.2.2.2.2.2.2.2.2.2.2.2.1),v8.2.2.2.2.2.1,())) (((0:Int)<=v6.1/\v6.1<(↑v8.2.2.2.2.2.2.2.2.2.2.1.length:Int))/\ ∃(aS:Int),v8.2.2.2.2.2.2.2.2.2.2.1[0+v6.1.toNat]?=some aS/\0=0/\v8.2.2.2.2.2.2.2.2.2.1.length=v8.2.2.2.2.2.2.2.2.2.1.length/\0=0/\v8.2.2.2.2.2.2.2.2.2.2.1.length=v8.2.2.2.2.2.2.2.2.2.2.1.length/\0=0/\v8.2.2.2.2.2.2.2.2.2.2.2.1.length=v8.2.2.2.2.2.2.2.2.2.2.2.1.length/\ ∃(pA:yb),gp.fn (v8.2.2.2.2.2.2.2.2.2.1,v8.2.2.2.2.2.2.2.2.2.2.1,v8.2.2.2.2.2.2.2.2.2.2.2.1,v8.2.2.2.2.2.1,vh,IntKind.i64.wrap (aS+(1:Int)),())=some pA/\0=0/\v8.2.2.2.2.2.2.1.length=v8.2.2.2.2.2.2.1.length/\0=0/\v8.2.2.2.2.2.2.2.1.length=v8.2.2.2.2.2.2.2.1.length/\0=0/\v8.2.2.2.2.2.2.2.2.1.length=v8.2.2.2.2.2.2.2.2.1.length/\0=0/\pA.1.1.length=pA.1.1.length/\0=0/\pA.1.2.1.length=pA.1.2.1.length/\0=0/\pA.1.2.2.1.length=pA.1.2.2.1.length/\k9 (IntKind.i64.wrap (v8.1+(1:Int)),v8.2.1,v8.2.2.1,v8.2.2.2.1,v8.2.2.2.2.1,pA.1.2.2.2.1,v8.2.2.2.2.2.2.1,v8.2.2.2.2.2.2.2.1,v8.2.2.2.2.2.2.2.2.1,pA.1.1,pA.1.2.1,pA.1.2.2.1,())))) (0=0/\v8.2.2.2.2.2.2.1.length=v8.2.2.2.2.2.2.1.length/\0=0/\v8.2.2.2.2.2.2.2.1.length=v8.2.2.2.2.2.2.2.1.length/\0=0/\v8.2.2.2.2.2.2.2.2.1.length=v8.2.2.2.2.2.2.2.2.1.length/\0=0/\v8.2.2.2.2.2.2.2.2.2.1.length=v8.2.2.2.2.2.2.2.2.2.1.length/\0=0/\v8.2.2.2.2.2.2.2.2.2.2.1.length=v8.2.2.2.2.2.2.2.2.2.2.1.length/\0=0/\v8.2.2.2.2.2.2.2.2.2.2.2.1.length=v8.2.2.2.2.2.2.2.2.2.2.2.1.length/\k7 (IntKind.i64.wrap (v6.1+(1:Int)),v8.2.1,v8.2.2.1,v8.2.2.2.1,v8.2.2.2.2.1,v8.2.2.2.2.2.1,v8.2.2.2.2.2.2.1,v8.2.2.2.2.2.2.2.1,v8.2.2.2.2.2.2.2.2.1,v8.2.2.2.2.2.2.2.2.2.1,v8.2.2.2.2.2.2.2.2.2.2.1,v8.2.2.2.2.2.2.2.2.2.2.2.1,()))) ((0:Int),v6.2.1,v6.2.2.1,v6.2.2.2.1,v6.2.2.2.2.1,v6.2.2.2.2.2.1,v6.2.2.2.2.2.2.1,v6.2.2.2.2.2.2.2.1,v6.2.2.2.2.2.2.2.2.1,v6.2.2.2.2.2.2.2.2.2.1,v6.2.2.2.2.2.2.2.2.2.2.1,v6.2.2.2.2.2.2.2.2.2.2.2.1,PUnit.unit)) (P (List.take v6.2.2.2.2.2.2.2.2.2.1.length (List.drop 0 v6.2.2.2.2.2.2.2.2.2.1),List.take v6.2.2.2.2.2.2.2.2.2.2.1.length (List.drop 0 v6.2.2.2.2.2.2.2.2.2.2.1),List.take v6.2.2.2.2.2.2.2.2.2.2.2.1.length (List.drop 0 v6.2.2.2.2.2.2.2.2.2.2.2.1),true,()))) ((0:Int),p.1,p.2.1,p.2.2.1,false,y4.1.2.2.2.1,[],[],[],y4.1.1,y4.1.2.1,y4.1.2.2.1,PUnit.unit))=fnW YH (look [(116,Fa),(148,gp),(141,Oe),(118,Zc),(132,Zf)]) dX Tryz.f131 (p,s,()) P:=by kernel_rfl
theorem mS: ∀ {a b:List Int},Cf a b=0↔a=b
 | [],[]=>by simp [Cf]
 | [],_::_=>by simp [Cf]
 |_::_,[]=>by simp [Cf]
 |x::a,y::b=>by
  simp only [Cf,List.cons.injEq]
  by_cases h1:x<y
  ·rw [if_pos h1]
   exact ⟨λh=>by omega,λh=>by omega⟩
  ·rw [if_neg h1]
   by_cases h2:x>y
   ·rw [if_pos h2]
    exact ⟨λh=>by omega,λh=>by omega⟩
   ·rw [if_neg h2,mS]
    exact ⟨λh=>⟨by omega,h⟩,λh=>h.2⟩
theorem CZ: ∀(a b:List Int),Cf b a= -Cf a b
 | [],[]=>by simp [Cf]
 | [],_::_=>by simp [Cf]
 |_::_,[]=>by simp [Cf]
 |x::a,y::b=>by
  simp only [Cf]
  rcases Int.lt_trichotomy x y with h1|h1|h1
  ·simp [h1,show ¬y<x by omega]
  ·subst h1
   simp [CZ a b]
  ·simp [h1,show ¬x<y by omega]
theorem r9: ∀ {a b c:List Int},Cf a b<0->Cf b c<0->Cf a c<0
 | [],[],_,h,_=>by simp [Cf] at h
 |_::_,[],_,h,_=>by simp [Cf] at h
 |_,_::_,[],_,h=>by simp [Cf] at h
 | [],_::_,_::_,_,_=>by simp [Cf]
 |x::a,y::b,z::c,h1,h2=>by
  simp only [Cf] at h1 h2⊢
  by_cases e1:x<y
  ·by_cases e2:y<z
   ·rw [if_pos (by omega)];omega
   ·rw [if_neg e2] at h2
    by_cases e3:y>z
    ·rw [if_pos e3] at h2;omega
    ·rw [if_pos (by omega)];omega
  ·rw [if_neg e1] at h1
   by_cases e2:x>y
   ·rw [if_pos e2] at h1;omega
   ·rw [if_neg e2] at h1
    by_cases e3:y<z
    ·rw [if_pos (by omega)];omega
    ·rw [if_neg e3] at h2
     by_cases e4:y>z
     ·rw [if_pos e4] at h2;omega
     ·rw [if_neg e4] at h2
      rw [if_neg (by omega),if_neg (by omega)]
      exact r9 h1 h2
theorem lt_iff {a b:List Int} :ak a b=true↔Cf a b<0:=decide_eq_true_iff
theorem FX {a b c:List Int} (h1:ak a b=true) (h2:ak b c=true):ak a c=true:=lt_iff.2 (r9 (lt_iff.1 h1) (lt_iff.1 h2))
theorem fY (a:List Int):ak a a=false:=by
 have:Cf a a=0:=mS.2 rfl
 unfold ak;rw [this];rfl
theorem LP {a b:List Int} (h:ak a b=false) (Ex:a≠b):ak b a=true:=by
 rw [lt_iff,CZ a b]
 have h1: ¬Cf a b<0:= λh'=>by rw [lt_iff.2 h'] at h;cases h
 have h2:Cf a b≠0:= λh'=>Ex (mS.1 h')
 omega
theorem fi {α:Type} (q:α->Bool): ∀(l:List α),l.Pairwise (λi j=>q j=true->q i=true)-> ∀k (hk:k<l.length),k<(l.takeWhile q).length↔q l[k]=true
 | [],_,k,hk=>by simp at hk
 |a::l,h,k,hk=>by
  obtain ⟨h1,h2⟩:=List.pairwise_cons.1 h
  by_cases ha:q a=true
  ·rw [List.takeWhile_cons_of_pos ha]
   rcases k with _|k
   ·simpa using ha
   ·simp only [List.length_cons,List.getElem_cons_succ,Nat.add_lt_add_iff_right]
    exact fi q l h2 k (by simpa using hk)
  ·rw [List.takeWhile_cons_of_neg ha]
   simp only [List.length_nil,Nat.not_lt_zero,false_iff]
   rcases k with _|k
   ·exact ha
   ·simp only [List.getElem_cons_succ]
    exact λhq=>ha (h1 _ (List.getElem_mem _) hq)
theorem Dg.nL {m:Nat} {L:List (List Int)} {Hw:List Int} (h:Dg m L Hw):Hw.length=L.length:=by rw [h.perm.length_eq,ja]
theorem Dg.idx {m:Nat} {L:List (List Int)} {Hw:List Int} (h:Dg m L Hw) {k:Nat} (hk:k<Hw.length):0<=Hw[k]/\Hw[k]<L.length:=Sf.1 (h.perm.mem_iff.1 (List.getElem_mem hk))
theorem Dg.Zg {m:Nat} {L:List (List Int)} {Hw:List Int} (h:Dg m L Hw) (s:List Int) {k:Nat} (hk:k<Hw.length):k<Cv L Hw s↔ak (L.getD Hw[k].toNat []) s=true:=
 fi _ Hw (h.sorted.imp λjF hj=>FX jF hj) k hk
theorem EE (L:List (List Int)) (Hw s:List Int):Cv L Hw s<=Hw.length:=(List.takeWhile_sublist _).length_le
theorem Dg.inj {m:Nat} {L:List (List Int)} {Hw:List Int} (h:Dg m L Hw) {i j:Nat} (hi:i<L.length) (hj:j<L.length) (e:L[i]=L[j]):i=j:=by
 have mem: ∀i,i<L.length->(i:Int)∈Hw:= λi hi=>h.perm.mem_iff.2 (Sf.2 ⟨by omega,by omega⟩)
 obtain ⟨p,hp,ep⟩:=List.mem_iff_getElem.1 (mem i hi)
 obtain ⟨q,hq,eq⟩:=List.mem_iff_getElem.1 (mem j hj)
 have get: ∀i (hi:i<L.length),L.getD ((i:Int)).toNat []=L[i]:= λi hi=>by rw [Int.toNat_natCast,List.getD_eq_getElem?_getD,List.getElem?_eq_getElem hi];rfl
 rcases Nat.lt_trichotomy p q with h1|h1|h1
 ·have:=List.pairwise_iff_getElem.1 h.sorted p q hp hq h1
  rw [ep,eq,get i hi,get j hj,e,fY] at this
  cases this
 ·subst h1
  rw [ep] at eq
  omega
 ·have:=List.pairwise_iff_getElem.1 h.sorted q p hq hp h1
  rw [ep,eq,get i hi,get j hj,e,fY] at this
  cases this
theorem Rx {L:List (List Int)} {k:Nat} (h:k<L.length):L.getD k []=L[k]:=by rw [List.getD_eq_getElem?_getD,List.getElem?_eq_getElem h];rfl
theorem Dg.sJ {m:Nat} {L:List (List Int)} {Hw:List Int} (h:Dg m L Hw) {s:List Int} :
  (∃hk:Cv L Hw s<Hw.length,L.getD Hw[Cv L Hw s].toNat []=s/\kY L s=Hw[Cv L Hw s])\/(kY L s= -1/\ ∀hk:Cv L Hw s<Hw.length,L.getD Hw[Cv L Hw s].toNat []≠s):=by
 by_cases hm:s∈L
 ·left
  obtain ⟨j,hj,rfl⟩:=List.mem_iff_getElem.1 hm
  obtain ⟨p,hp,ep⟩:=List.mem_iff_getElem.1 (h.perm.mem_iff.2 (Sf.2 ⟨by omega,by omega⟩):(j:Int)∈Hw)
  have gj:L.getD Hw[p].toNat []=L[j]:=by rw [ep,Int.toNat_natCast,Rx hj]
  have hs:Cv L Hw L[j]=p:=by
   have h1: ¬p<Cv L Hw L[j]:= λh1=>by
    have:=(h.Zg L[j] hp).1 h1
    rw [gj,fY] at this;cases this
   have h2: ¬Cv L Hw L[j]<p:= λh2=>by
    have h3:=(h.Zg L[j] (k:=Cv L Hw L[j]) (by omega)).2 (by
     have:=List.pairwise_iff_getElem.1 h.sorted (Cv L Hw L[j]) p (by omega) hp h2
     rw [gj] at this;exact this)
    omega
   omega
  have hx:L.idxOf L[j]=j:=by
   have h1:L.idxOf L[j]<L.length:=List.idxOf_lt_length_of_mem hm
   exact h.inj h1 hj (List.getElem_idxOf h1)
  refine ⟨by omega,?_,?_⟩
  ·simp only [hs];exact gj
  ·unfold kY
   rw [if_pos hm,hx]
   simp only [hs];exact ep.symm
 ·right
  refine ⟨by unfold kY;rw [if_neg hm],λhk e=>hm ?_⟩
  have hi:=h.idx hk
  rw [Rx (by omega)] at e
  rw [<-e]
  exact List.getElem_mem _
theorem KY (Hw:List Int) (k:Nat) (x:Int):(Pv Hw k x).Perm (x::Hw):=by
 unfold Pv
 refine List.perm_middle.trans (List.Perm.cons x ?_)
 rw [List.take_append_drop]
theorem Dg.add {m:Nat} {L:List (List Int)} {Hw s:List Int} (h:Dg m L Hw) (hn:s∉L) (hl:s.length=m) (hr:L.length<3000):Dg m (L++ [s]) (Pv Hw (Cv L Hw s) L.length):=by
 have wq: ∀i∈Hw,(L++ [s]).getD i.toNat []=L.getD i.toNat []:= λi hi=>by
  have:=Sf.1 (h.perm.mem_iff.1 hi)
  rw [List.getD_eq_getElem?_getD,List.getD_eq_getElem?_getD,List.getElem?_append_left (by omega)]
 have ZX:(L++ [s]).getD ((L.length:Int)).toNat []=s:=by
  rw [Int.toNat_natCast,List.getD_eq_getElem?_getD,List.getElem?_append_right (by omega),Nat.sub_self];rfl
 refine ⟨by rw [List.length_append,List.length_singleton];omega,λx hx=>?_,h.short,?_,?_⟩
 ·rcases List.mem_append.1 hx with hx|hx
  ·exact h.len x hx
  ·rw [List.mem_singleton.1 hx];exact hl
 ·refine (KY _ _ _).trans ?_
  rw [List.length_append,List.length_singleton,ed]
  exact (List.Perm.cons _ h.perm).trans (List.perm_append_singleton _ _).symm
 ·unfold Pv
  have hs:=h.sorted
  rw [<-List.take_append_drop (Cv L Hw s) Hw] at hs
  obtain ⟨s1,s2,s3⟩:=List.pairwise_append.1 hs
  have mt: ∀i∈Hw.take (Cv L Hw s),i∈Hw/\ak (L.getD i.toNat []) s=true:= λi hi=>by
   obtain ⟨k,hk,rfl⟩:=List.mem_iff_getElem.1 hi
   have KE:k<Cv L Hw s:=by rw [List.length_take] at hk;omega
   have hk3:k<Hw.length:=by rw [List.length_take] at hk;omega
   rw [List.getElem_take]
   exact ⟨List.getElem_mem _,(h.Zg s hk3).1 KE⟩
  have md: ∀i∈Hw.drop (Cv L Hw s),i∈Hw/\ak s (L.getD i.toNat [])=true:= λi hi=>by
   obtain ⟨k,hk,rfl⟩:=List.mem_iff_getElem.1 hi
   rw [List.length_drop] at hk
   have hk3:Cv L Hw s+k<Hw.length:=by omega
   rw [List.getElem_drop]
   refine ⟨List.getElem_mem _,LP ?_ λe=>hn ?_⟩
   ·exact Bool.eq_false_iff.2 λhh=>by
     have:=(h.Zg s hk3).2 hh
     omega
   ·have hi:=h.idx hk3
    rw [Rx (by omega)] at e
    rw [<-e];exact List.getElem_mem _
  refine List.pairwise_append.2 ⟨s1.imp_of_mem λ {a b} ha hb fP=>?_,List.pairwise_cons.2 ⟨λb hb=>?_,s2.imp_of_mem λ {a b} ha hb fP=>?_⟩,λa ha b hb=>?_⟩
  ·rw [wq a (mt a ha).1,wq b (mt b hb).1];exact fP
  ·rw [ZX,wq b (md b hb).1];exact (md b hb).2
  ·rw [wq a (md a ha).1,wq b (md b hb).1];exact fP
  ·rcases List.mem_cons.1 hb with rfl|hb
   ·rw [ZX,wq a (mt a ha).1];exact (mt a ha).2
   ·rw [wq a (mt a ha).1,wq b (md b hb).1];exact s3 a ha b hb
theorem aK (L:List (List Int)) (s:List Int):Xd (L++ [s])=Pv (Xd L) (Cv L (Xd L) s) L.length:=by
 unfold Xd
 rw [List.length_append,List.length_singleton,List.range_succ,List.foldl_append]
 have e: ∀(is:List Nat) (S:List Int),(∀i∈is,i<L.length)->is.foldl (λ(S:List Int) (i:Nat)=>Pv S (Cv ((L++ [s]).take i) S ((L++ [s]).getD i [])) (i:Int)) S=is.foldl (λ(S:List Int) (i:Nat)=>Pv S (Cv (L.take i) S (L.getD i [])) (i:Int)) S:=by
  intro is
  induction is with
  |nil=>intro S _;rfl
  |cons i is ih=>
   intro S h
   have hi:=h i (by simp)
   rw [List.foldl_cons,List.foldl_cons,ih _ λj hj=>h j (List.mem_cons_of_mem _ hj)]
   congr 2
   rw [List.take_append_of_le_length (by omega),List.getD_eq_getElem?_getD,List.getElem?_append_left hi,<-List.getD_eq_getElem?_getD]
 rw [e _ _ λi hi=>List.mem_range.1 hi]
 simp only [List.foldl_cons,List.foldl_nil]
 congr 2
 ·rw [List.take_append_of_le_length (Nat.le_refl _),List.take_length]
 ·rw [List.getD_eq_getElem?_getD,List.getElem?_append_right (by omega),Nat.sub_self];rfl
theorem iO {m:Nat} (h:m<=20):Dg m [] []:=⟨by simp,λx hx=>(by cases hx),h,by simp [upto],List.Pairwise.nil⟩
theorem KW {α:Type} {xs:List α} {y:Int} (h0:0<=y) (h:y.toNat<xs.length):idx xs y=some xs[y.toNat]:=by
 unfold idx
 rw [if_pos h0,List.getElem?_eq_getElem h]
theorem XT (f:SS) (s:List Int) (h:Dg s.length f.1 f.2.2.1):fnW Cc (look [(158,Rb)]) aH Tryz.f149 (f,s,()) (λ(z:Int)=>z=(Cv f.1 f.2.2.1 s:Int)):=by
 obtain ⟨L,D,Hw,b,⟨⟩⟩:=f
 dsimp only at h⊢
 have hle:=EE L Hw s
 have pv:=h.nL
 have pJ:=h.sX
 refine Eq.mp (YS (L,D,Hw,b,()) s _) ?_
 refine Bk.mk (λv=>v.2.2.1=L/\v.2.2.2.2.1=Hw/\ ∃lo hi:Nat,v.1=lo/\v.2.1=hi/\lo<=hi/\hi<=Hw.length/\lo<=Cv L Hw s/\Cv L Hw s<=hi) (λv=>(v.2.1-v.1).toNat)
  ⟨rfl,rfl,0,Hw.length,rfl,rfl,by omega,by omega,by omega,hle⟩ ?_
 rintro ⟨lo',mf,L',D',HO,b',⟨⟩⟩ ⟨h1,h2,lo,hi,h3,h4,h5,h6,h7,h8⟩
 dsimp only at h1 h2 h3 h4⊢
 subst h1 h2 h3 h4
 refine Br.dec (λhl=>?_) λhl=>?_
 ·have em:IntKind.i64.wrap ((IntKind.i64.wrap ((lo:Int)+(hi:Int))).tdiv 2)=(((lo+hi)/2:Nat):Int):=by
   rw [Cp (n:=(lo:Int)+(hi:Int)) (by omega) (by omega),Int.tdiv_eq_ediv_of_nonneg (by omega),Cp (by omega) (by omega)]
   omega
  rw [em]
  have ZL:(lo+hi)/2<HO.length:=by omega
  have QA:=h.idx ZL
  have QB:HO[(lo+hi)/2].toNat<L'.length:=by omega
  have hgd:=Rx QB
  have hlen:=h.len _ (List.getElem_mem QB)
  have yL:short L'[HO[(lo+hi)/2].toNat]:=by
   unfold short
   have:=h.short;omega
  refine ⟨by decide,_,Ap ZL,_,KW QA.1 QB,_,if_pos ⟨yL,hlen⟩,⟨λhc=>?_,λhc=>?_⟩⟩
  ·have hc:ak L'[HO[(lo+hi)/2].toNat] s=true:=hc
   have hs:=(h.Zg s ZL).2 (by rw [hgd];exact hc)
   rw [Ag (by omega)]
   exact ⟨⟨rfl,rfl,(lo+hi)/2+1,hi,rfl,rfl,by omega,h6,by omega,h8⟩,by omega⟩
  ·have hc:ak L'[HO[(lo+hi)/2].toNat] s=false:=hc
   have hs: ¬(lo+hi)/2<Cv L' HO s:= λhh=>by
    have:=(h.Zg s ZL).1 hh
    rw [hgd,hc] at this;cases this
   exact ⟨⟨rfl,rfl,lo,(lo+hi)/2,rfl,rfl,by omega,by omega,h7,by omega⟩,by omega⟩
 ·show (lo:Int)=_
  omega
theorem oS:Sound Tryz.prog 149 aH:=
 Sound.Co Bg (Ae oQ Al) mixed Tryz.func149 (by kernel_rfl) (by kernel_rfl) λx h=>XT x.1 x.2.1 h
theorem MJ (f:SS) (s:List Int) (h:Dg s.length f.1 f.2.2.1):fnW Cc (look [(149,aH),(101,Ao)]) Zf Tryz.f132 (f,s,()) (λ(z:Int)=>z=kY f.1 s):=by
 obtain ⟨L,D,Hw,b,⟨⟩⟩:=f
 dsimp only at h⊢
 refine Eq.mp (OH (L,D,Hw,b,()) s _) ⟨_,if_pos h,Br.dec (λhl=>?_) λhl=>?_⟩
 ·have hl:Cv L Hw s<Hw.length:=by
   have hl:((Cv L Hw s:Nat):Int)<(Hw.length:Int):=hl
   omega
  have QA:=h.idx hl
  have QB:Hw[Cv L Hw s].toNat<L.length:=by omega
  have hgd:=Rx QB
  have hlen:=h.len _ (List.getElem_mem QB)
  have yL:short L[Hw[Cv L Hw s].toNat]:=by
   unfold short
   have:=h.short;omega
  refine ⟨_,Ap hl,_,KW QA.1 QB,_,if_pos yL,⟨λhc=>⟨_,Ap hl,?_⟩,λhc=>?_⟩⟩
  ·have hc:L[Hw[Cv L Hw s].toNat]=s:=of_decide_eq_true hc
   rcases h.sJ (s:=s) with ⟨hk,_,e⟩|⟨_,Ex⟩
   ·exact e.symm
   ·exact absurd (by rw [hgd];exact hc) (Ex hl)
  ·have hc: ¬L[Hw[Cv L Hw s].toNat]=s:=of_decide_eq_false hc
   rcases h.sJ (s:=s) with ⟨hk,e,_⟩|⟨e,_⟩
   ·rw [hgd] at e;exact absurd e hc
   ·exact e.symm
 ·have hl: ¬Cv L Hw s<Hw.length:=by
   have hl: ¬((Cv L Hw s:Nat):Int)<(Hw.length:Int):=hl
   omega
  rcases h.sJ (s:=s) with ⟨hk,e,_⟩|⟨e,_⟩
  ·exact absurd hk hl
  ·exact e.symm
theorem uC:Sound Tryz.prog 132 Zf:=
 Sound.Co Bg (Ae oS (Ae Sz Al)) mixed Tryz.func132 (by kernel_rfl) (by kernel_rfl) λx h=>MJ x.1 x.2.1 h
theorem zA {S:List Int} {k:Nat} (h:k<=S.length) (n:Int):
  (Bo (S++ [0]) (k+1) (List.take ((S++ [0]).length-(k+1)) (List.take ((S++ [0]).length-k) (List.drop k (S++ [0]))))).set k n=Pv S k n:=by
 obtain ⟨A,B,rfl,hA⟩: ∃A B,S=A++B/\A.length=k:=⟨S.take k,S.drop k,(List.take_append_drop k S).symm,by rw [List.length_take];omega⟩
 subst hA
 have e1:List.drop A.length (A++B++ [0])=B++ [0]:=by rw [List.append_assoc,List.drop_left]
 have e2:List.take ((A++B++ [0]).length-A.length) (B++ [0])=B++ [0]:=List.take_of_length_le (by simp only [List.length_append,List.length_singleton];omega)
 have e3:List.take ((A++B++ [0]).length-(A.length+1)) (B++ [0])=B:=by
  have:(A++B++ [(0:Int)]).length-(A.length+1)=B.length:=by simp only [List.length_append,List.length_singleton];omega
  rw [this,List.take_left]
 rw [e1,e2,e3]
 unfold Bo Pv
 have e4:List.drop (A.length+1+B.length) (A++B++ [0])= []:=List.drop_eq_nil_of_le (by simp only [List.length_append,List.length_singleton];omega)
 obtain ⟨c,hc⟩: ∃c,List.take (A.length+1) (A++B++ [0])=A++ [c]:=by
  rw [List.append_assoc,List.take_append,List.take_of_length_le (by omega)]
  cases B with
  |nil=>exact ⟨0,by simp⟩
  |cons b B=>exact ⟨b,by simp⟩
 rw [e4,hc,List.append_nil,List.append_assoc,List.singleton_append,RG,List.take_left,List.drop_left]
theorem XR (L:List (List Int)) (D S:List Int) (b:Bool) (s:List Int) (d:Int) (h:Dg s.length L S/\D.length<=3000):
  fnMW kA (look [(149,aH)]) gp Tryz.f148 (L,D,S,b,s,d,()) (λ(z:(List (List Int)×List Int×List Int×Bool×Unit)×Unit)=>z=((L++ [s],D++ [d],Pv S (Cv L S s) L.length,b,()),())):=by
 obtain ⟨h,hD⟩:=h
 have hle:=EE L S s
 have pv:=h.nL
 have pJ:=h.sX
 refine Eq.mp (YQ L D S b s d _) ?_
 rw [Bi L,Bi D,Bi S]
 refine ⟨_,if_pos h,?_⟩
 dsimp only
 have es:List.take 1 (List.drop 0 [(0:Int)])= [0]:=rfl
 have el:(S++ [(0:Int)]).length=S.length+1:=by simp
 rw [es,Ag (by omega),Nat.zero_add,Nat.zero_add,Int.toNat_natCast,Int.toNat_natCast,Int.toNat_natCast]
 refine ⟨rfl,rfl,by show S.length+1<=4294967296;omega,⟨by omega,by omega,by omega⟩,⟨by omega,by omega,by omega⟩,⟨by omega,by omega⟩,?_,rfl,rfl,by show L.length+1<=4294967296;omega,rfl,rfl,by show D.length+1<=4294967296;omega,?_⟩
 ·unfold Bo
  simp only [List.length_append,List.length_take,List.length_drop,List.length_singleton]
  omega
 ·rw [zA hle,Bi,Bi]
  have e5:List.take (S++ [(0:Int)]).length (List.drop 0 (Pv S (Cv L S s) (L.length:Int)))=Pv S (Cv L S s) (L.length:Int):=by
   rw [List.drop_zero,List.take_of_length_le]
   unfold Pv
   simp only [List.length_append,List.length_cons,List.length_take,List.length_drop,List.length_nil]
   omega
  rw [e5]
  rfl
theorem BM:Bf Tryz.prog 148 gp:=
 Bf.mn gz (Ae oS Al) mixed Tryz.func148 (by kernel_rfl) (by kernel_rfl) λx h=>XR x.1 x.2.1 x.2.2.1 x.2.2.2.1 x.2.2.2.2.1 x.2.2.2.2.2.1 h
structure Ta (p:PP) (m:Nat) (L:List (List Int)) (D:List Int):Prop where
 ok:Dg m L (Xd L)
 len:D.length=L.length
 row: ∀x∈L,∀y∈x,0<=y/\y<p.1
 dep: ∀j (h:j<D.length),0<=D[j]/\D[j]<=j
theorem tS {p:PP} (hv:Valid p) {x:List Int} {l:Int} (hx: ∀y∈x,0<=y/\y<p.1) (hl:Ik (List.length p.2.2.1) l):
  (Aa x (An p.2.2.1 l)).length=x.length/\ ∀y∈Aa x (An p.2.2.1 l),0<=y/\y<p.1:=by
 obtain ⟨h1,h2⟩:=jI hv hl
 refine ⟨Jn _ _,λy hy=>?_⟩
 have:=w5 (n:=(An p.2.2.1 l).length) (λz hz=>by have:=hx z hz;omega) h2 y hy
 omega
theorem Ta.add {p:PP} {m:Nat} {L:List (List Int)} {D:List Int} (h:Ta p m L D) {y:List Int} {d:Int} (hn:y∉L) (hl:y.length=m) (hr:L.length<3000) (hy: ∀z∈y,0<=z/\z<p.1) (hd:0<=d/\d<=L.length):Ta p m (L++ [y]) (D++ [d]):=by
 have hlen:=h.len
 refine ⟨by rw [aK];exact h.ok.add hn hl hr,by simp [hlen],λx hx=>?_,λj hj=>?_⟩
 ·rcases List.mem_append.1 hx with hx|hx
  ·exact h.row x hx
  ·rw [List.mem_singleton.1 hx];exact hy
 ·by_cases e:j<D.length
  ·rw [List.getElem_append_left e];exact h.dep j e
  ·simp only [List.length_append,List.length_singleton] at hj
   have:j=D.length:=by omega
   subst this
   rw [List.getElem_append_right (by omega)]
   simp only [Nat.sub_self,List.getElem_cons_zero]
   omega
theorem jn {p:PP} {s:List Int} (hs:s.length<=20) (hr: ∀y∈s,0<=y/\y<p.1):Ta p s.length [s] [0]:=by
 refine ⟨?_,rfl,λx hx=>by rw [List.mem_singleton.1 hx];exact hr,λj hj=>?_⟩
 ·have:=(iO hs).add (s:=s) (by simp) rfl (by simp)
  have e:Xd [s]=Pv [] (Cv [] [] s) 0:=aK [] s
  rw [e];exact this
 ·simp only [List.length_singleton] at hj
  have:j=0:=by omega
  subst this
  simp
theorem rS {L:List (List Int)} {s:List Int} :kY L s>=0↔s∈L:=by
 unfold kY
 split
 ·rename_i h;exact ⟨λ_=>h,λ_=>by omega⟩
 ·rename_i h;exact ⟨λhh=>by omega,λhh=>absurd hh h⟩
theorem RC (p:PP) (s:List Int) (h:Bv p=true/\s.length<=20/\ ∀y∈s,0<=y/\y<p.1):fnW YH (look [(116,Fa),(148,gp),(141,Oe),(118,Zc),(132,Zf)]) dX Tryz.f131 (p,s,()) (λ(z:SS)=>z=Lm p.2.2.1 s):=by
 obtain ⟨hv,hs,hr⟩:=h
 have hV:=valid hv
 have pJ:=hV.sX
 have VD:=jn hs hr
 have yL:short s:=by unfold short;omega
 obtain ⟨ls,vq⟩: ∃ls,Cj (List.length p.2.2.1)=ls:=⟨_,rfl⟩
 refine Eq.mp (RV p s _) ⟨_,if_pos yL,_,if_pos ⟨iO hs,by show 0<=3000;omega⟩,ls,(if_pos (by show List.length p.2.2.1<=8;exact pJ.2)).trans (congrArg some vq),rfl,rfl,rfl,rfl,rfl,rfl,rfl,rfl,rfl,rfl,rfl,rfl,?_⟩
 have e0:Pv [] (Cv [] [] s) ((([]:List (List Int)).length:Nat):Int)=Xd [s]:=(aK [] s).symm
 show Bk _ ((0:Int),p.1,p.2.1,p.2.2.1,false,false,[],[],[],[s],[(0:Int)],Pv [] (Cv [] [] s) ((([]:List (List Int)).length:Nat):Int),PUnit.unit)
 rw [e0]
 have OV:ls.length<=16:=by rw [<-vq,Ro];omega
 have lE: ∀l∈ls,Ik (List.length p.2.2.1) l:= λl hl=>Wt (vq▸hl)
 have zu:Lb p.2.2.1 ls 3001 0 [s] [0]=Gf p.2.2.1 s:=by unfold Gf;rw [vq]
 refine Bk.mk (λv=>v.2.1=p.1/\v.2.2.1=p.2.1/\v.2.2.2.1=p.2.2.1/\v.2.2.2.2.2.1=false/\ ∃k:Nat,v.1=k/\k<=v.2.2.2.2.2.2.2.2.2.1.length/\
   Ta p s.length v.2.2.2.2.2.2.2.2.2.1 v.2.2.2.2.2.2.2.2.2.2.1/\v.2.2.2.2.2.2.2.2.2.2.2.1=Xd v.2.2.2.2.2.2.2.2.2.1/\
   Lb p.2.2.1 ls (3001-k) k v.2.2.2.2.2.2.2.2.2.1 v.2.2.2.2.2.2.2.2.2.2.1=Gf p.2.2.1 s) (λv=>3001-v.1.toNat)
  ⟨rfl,rfl,rfl,rfl,0,rfl,by simp,VD,rfl,zu⟩ ?_
 rintro ⟨k',n1,n2,n3,b0,wh,x1,x2,x3,L0,D0,S0,⟨⟩⟩ ⟨h1,h2,h3,h4,k,h5,h6,h7,h8,h9⟩
 dsimp only at h1 h2 h3 h4 h5 h6 h7 h8 h9
 subst h1 h2 h3 h4 h5 h8
 dsimp only
 have hL0:=h7.ok.sX
 have hD0:=h7.len
 refine Br.dec (λhl=>⟨rfl,rfl,rfl,rfl,rfl,rfl,rfl,rfl,rfl,rfl,rfl,rfl,?_⟩) λhl=>?_
 ·have hk:k<L0.length:=by omega
  have OR:k<D0.length:=by omega
  have hx: ∀y∈L0[k],0<=y/\y<p.1:=h7.row _ (List.getElem_mem hk)
  have QN:L0[k].length=s.length:=h7.ok.len _ (List.getElem_mem hk)
  have hdk:=h7.dep k OR
  obtain ⟨f,hf⟩: ∃f,3001-k=f+1:=⟨3000-k,by omega⟩
  have SZ: ∀L' D' ok,Hg p.2.2.1 L0[k] D0[k] ls L0 D0=(L',D',ok)->Gf p.2.2.1 s=if ok=true then Lb p.2.2.1 ls f (k+1) L' D' else (L',D',false):=by
   intro L' D' ok he
   rw [<-h9,hf,Lb,if_pos hk,Rx hk,List.getD_eq_getElem?_getD,List.getElem?_eq_getElem OR]
   simp only [Option.getD_some]
   rw [he]
   cases ok<;>rfl
  refine Bk.mk (λv=>v.2.1=p.1/\v.2.2.1=p.2.1/\v.2.2.2.1=p.2.2.1/\v.2.2.2.2.2.1=false/\ ∃i:Nat,v.1=i/\i<=ls.length/\Ta p s.length v.2.2.2.2.2.2.2.2.2.1 v.2.2.2.2.2.2.2.2.2.2.1/\
    v.2.2.2.2.2.2.2.2.2.2.2.1=Xd v.2.2.2.2.2.2.2.2.2.1/\(∃A,v.2.2.2.2.2.2.2.2.2.1=L0++A)/\(∃A,v.2.2.2.2.2.2.2.2.2.2.1=D0++A)/\
    Hg p.2.2.1 L0[k] D0[k] (ls.drop i) v.2.2.2.2.2.2.2.2.2.1 v.2.2.2.2.2.2.2.2.2.2.1=Hg p.2.2.1 L0[k] D0[k] ls L0 D0) (λv=>ls.length-v.1.toNat)
   ⟨rfl,rfl,rfl,rfl,0,rfl,Nat.zero_le _,h7,rfl,⟨[],by simp⟩,⟨[],by simp⟩,rfl⟩ ?_
  rintro ⟨i',m1,m2,m3,b1,wh1,y1,y2,y3,L,D,S,⟨⟩⟩ ⟨g1,g2,g3,g4,i,g5,g6,g7,g8,⟨A,g9⟩,⟨A',PQ⟩,lC⟩
  dsimp only at g1 g2 g3 g4 g5 g6 g7 g8 g9 PQ lC
  subst g1 g2 g3 g4 g5 g8
  dsimp only
  have hLf:=g7.ok.sX
  have SJ:=g7.len
  rw [Bi L,Bi D,Bi (Xd L)]
  refine Br.dec (λhli=>?_) λhli=>?_
  ·have hi:i<ls.length:=by omega
   have VQ:k<L.length:=by rw [g9,List.length_append];omega
   have hLk:L[k]=L0[k]:=by simp only [g9];exact List.getElem_append_left hk
   have VP:k<D.length:=by rw [SJ];exact VQ
   have hDk:D[k]=D0[k]:=by simp only [PQ];exact List.getElem_append_left OR
   have zn:=lE _ (List.getElem_mem hi)
   obtain ⟨nl,nr⟩:=tS hV hx zn
   rw [List.drop_eq_getElem_cons hi] at lC
   simp only [Hg] at lC
   refine ⟨⟨by omega,by omega⟩,L0[k],by rw [Int.toNat_natCast,Nat.zero_add,List.getElem?_eq_getElem VQ,hLk],_,Ap hi,_,if_pos ⟨hv,by show L0[k].length<=20;omega,hx,zn⟩,?_⟩
   dsimp only
   have hyl:(Aa L0[k] (An p.2.2.1 ls[i])).length=s.length:=by rw [nl,QN]
   refine ⟨_,if_pos (by show Dg (Aa L0[k] (An p.2.2.1 ls[i])).length L (Xd L);rw [hyl];exact g7.ok),Br.dec (λcp=>?_) λcp=>?_⟩
   ·have cp:Aa L0[k] (An p.2.2.1 ls[i])∈L:=rS.1 cp
    rw [if_pos cp] at lC
    rw [Ag (by omega)]
    exact ⟨rfl,rfl,rfl,rfl,rfl,rfl,rfl,rfl,rfl,rfl,rfl,rfl,⟨rfl,rfl,rfl,rfl,i+1,rfl,hi,g7,rfl,⟨A,g9⟩,⟨A',PQ⟩,lC⟩,by omega⟩
   ·have cp:Aa L0[k] (An p.2.2.1 ls[i])∉L:= λhh=>cp (rS.2 hh)
    rw [if_neg cp] at lC
    refine ⟨λVc=>?_,λVc=>⟨⟨by omega,by omega⟩,D0[k],by rw [Int.toNat_natCast,Nat.zero_add,List.getElem?_eq_getElem VP,hDk],rfl,rfl,rfl,rfl,rfl,rfl,?_⟩⟩
    ·have Vc:L.length=3000:=by
      have:(L.length:Int)=3000:=by simpa using Vc
      omega
     rw [if_pos Vc] at lC
     have:=SZ _ _ _ lC.symm
     rw [if_neg (by decide)] at this
     unfold Lm
     rw [this]
    ·have Vc:L.length≠3000:=by
      have:(L.length:Int)≠3000:=by simpa using Vc
      omega
     rw [if_neg Vc] at lC
     rw [Cp (n:=D0[k]+1) (by omega) (by omega)]
     refine ⟨_,if_pos ⟨by show Dg (Aa L0[k] (An p.2.2.1 ls[i])).length L (Xd L);rw [hyl];exact g7.ok,by show D.length<=3000;omega⟩,?_⟩
     dsimp only
     rw [Ag (by omega),<-aK]
     refine ⟨rfl,rfl,rfl,rfl,rfl,rfl,rfl,rfl,rfl,rfl,rfl,rfl,⟨rfl,rfl,rfl,rfl,i+1,rfl,hi,g7.add cp hyl (by omega) nr ⟨by omega,by omega⟩,rfl,⟨A++ [Aa L0[k] (An p.2.2.1 ls[i])],by rw [g9,List.append_assoc]⟩,⟨A'++ [D0[k]+1],by rw [PQ,List.append_assoc]⟩,lC⟩,by omega⟩
  ·have:i=ls.length:=by omega
   subst this
   rw [List.drop_length,Hg] at lC
   have:=SZ _ _ _ lC.symm
   rw [if_pos rfl] at this
   rw [Ag (by omega)]
   refine ⟨rfl,rfl,rfl,rfl,rfl,rfl,rfl,rfl,rfl,rfl,rfl,rfl,⟨rfl,rfl,rfl,rfl,k+1,rfl,by rw [g9,List.length_append];omega,g7,rfl,?_⟩,by omega⟩
   rw [show 3001-(k+1)=f by omega]
   exact this.symm
 ·have hk:k=L0.length:=by omega
  rw [Bi L0,Bi D0,Bi (Xd L0)]
  obtain ⟨f,hf⟩: ∃f,3001-k=f+1:=⟨3000-k,by omega⟩
  rw [hf,Lb,if_neg (by omega)] at h9
  unfold Lm
  rw [<-h9]
theorem xW:Sound Tryz.prog 131 dX:=
 Sound.Co YI (Ae Pk (Fq BM (Ae lT (Ae uw (Ae uC Al))))) mixed Tryz.func131 (by kernel_rfl) (by kernel_rfl) λx h=>RC x.1 x.2.1 h
end Go.Proofs.YtfolipnappekaaaGreat

namespace Go.Proofs.YtfolipnappekaaaGreat
open Go.RowKit
noncomputable def Ct (p:PP) (t:List Int):Bool:=Bv p&&Se p.1 t
noncomputable def Db (p:PP) (t:List Int):Bool:=Ct p t&&(Gf p.2.2.1 t).2.2
noncomputable abbrev Em:Spec:=Co (.pair Dc (.pair tL .unit)) .bool false true (λx=>Cl x.1/\short x.2.1) (λx=>Ct x.1 x.2.1)
noncomputable def Jr (p:PP) (t:List Int):SS:=if Ct p t=true then Lm p.2.2.1 t else ([],[],[],false,())
noncomputable abbrev Og:Spec:=Co (.pair Dc (.pair tL .unit)) (.pair eb (.pair .bool .unit)) true false (λx=>Cl x.1/\short x.2.1) (λx=>(Jr x.1 x.2.1,Db x.1 x.2.1,()))
noncomputable abbrev Lp:Spec:=Co (.pair e8 .unit) e8 false true (λx=>Ev x.1) (λx=>x.1)
noncomputable def Dr (p:PP) (t:List Int):TT:=if Db p t=true then (t,(Gf p.2.2.1 t).1,(Gf p.2.2.1 t).2.1,()) else ([],[],[],())
noncomputable abbrev Oh:Spec:=Co (.pair Dc (.pair tL .unit)) (.pair Gy (.pair .bool .unit)) true true (λx=>Cl x.1/\short x.2.1) (λx=>(Dr x.1 x.2.1,Db x.1 x.2.1,()))
noncomputable abbrev Ra:MSpec:=mn [some 3,none] [(false, .Ee tI),(false, .Ee .str),(false, .Ee e8),(false, .Ee tL)] true [none,none,none] [xLL,rL, .Ee .bool]
 (λx=>Ct (x.1,x.2.1,x.2.2.1,()) x.2.2.2.1=true) (λx=>(((Dr (x.1,x.2.1,x.2.2.1,()) x.2.2.2.1).2.1,(Dr (x.1,x.2.1,x.2.2.1,()) x.2.2.2.1).2.2.1,Db (x.1,x.2.1,x.2.2.1,()) x.2.2.2.1,()),()))
noncomputable abbrev Rc:MSpec:=mn [some 3,none] [(false, .Ee tI),(false, .Ee .str),(false, .Ee e8),(false, .Ee tL)] true [none,none,none] [xLL,rL, .Ee .bool]
 (λx=>Cl (x.1,x.2.1,x.2.2.1,())/\short x.2.2.2.1) (λx=>(((Dr (x.1,x.2.1,x.2.2.1,()) x.2.2.2.1).2.1,(Dr (x.1,x.2.1,x.2.2.1,()) x.2.2.2.1).2.2.1,Db (x.1,x.2.1,x.2.2.1,()) x.2.2.2.1,()),()))
noncomputable abbrev Od:MSpec:=mn [some 3,none] [(false, .Ee tI),(false, .Ee .str),(false, .Ee e8),(false, .Ee tL)] true [some 3,none] [rL,xLL,rL, .Ee .bool]
 (λx=>Cl (x.1,x.2.1,x.2.2.1,())/\short x.2.2.2.1) (λx=>(((Dr (x.1,x.2.1,x.2.2.1,()) x.2.2.2.1).1,(Dr (x.1,x.2.1,x.2.2.1,()) x.2.2.2.1).2.1,(Dr (x.1,x.2.1,x.2.2.1,()) x.2.2.2.1).2.2.1,Db (x.1,x.2.1,x.2.2.1,()) x.2.2.2.1,()),()))
noncomputable def Dd (p:PP) (t:TT):Bool:=Db p t.1&&Jq (Dr p t.1) t
noncomputable abbrev Kj:Spec:=Co (.pair Dc (.pair Gy .unit)) .bool false true (λx=>Cl x.1/\Kf x.2.1) (λx=>Dd x.1 x.2.1)
abbrev yc:Ty:= .slice Gy
def Fc (ts:List TT):Prop:=ts.length<=4294967296/\ ∀t∈ts,Kf t
noncomputable def Cx (p:PP) (ts:List TT):Bool:=Bv p&&decide (ts.length<=4)&&List.all ts (Dd p)
noncomputable abbrev Gq:Spec:=Co (.pair Dc (.pair yc .unit)) .bool false true (λx=>Cl x.1/\Fc x.2.1) (λx=>Cx x.1 x.2.1)
abbrev Acj:Ty:= .clo 86 (.pair (.ptr Dc) .unit)
noncomputable abbrev sm:Spec:=Co (.pair Gy (.pair (.ptr Dc) .unit)) .bool false true (λx=>Kf x.1/\Cl x.2.1) (λx=>!Dd x.2.1 x.1)
def Lk (q:TT->Bool):List TT->Int->Int
 | [],_=> -1
 |t::ts,k=>if q t=true then k else Lk q ts (k+1)
noncomputable abbrev kb:Spec:=Co (.pair yc (.pair Acj .unit)) tI false true (λx=>Fc x.1/\Cl x.2.1.1) (λx=>Lk (λt=>!Dd x.2.1.1 t) x.1 0)
noncomputable abbrev jZ:Spec:=Co (.pair yc (.pair Acj .unit)) .bool false true (λx=>Fc x.1/\Cl x.2.1.1) (λx=>List.any x.1 (λt=>!Dd x.2.1.1 t))
def ky:List TT->Int->Int
 | [],room=>room
 |t::ts,room=>if Ma t room<0 then-1 else ky ts (Ma t room)
def zM (ts:List TT) (room:Int):Int:=if room-ts.length<0 then-1 else ky ts (room-ts.length)
noncomputable abbrev ke:Spec:=Co (.pair yc (.pair tI .unit)) tI false true (λx=>Fc x.1/\roomy x.2.1) (λx=>zM x.1 x.2.1)
noncomputable abbrev da:Spec:=Co (.pair yc .unit) yc false true (λx=>Fc x.1) (λx=>x.1)
noncomputable abbrev k8:Spec:=Co (.pair yc (.pair yc .unit)) .bool false true (λx=>Fc x.1) (λx=>decide (x.1=x.2.1))
theorem qN (p:Int×ByteArray×List (List Int)×Unit) (t:List Int) (P:Bool->Prop):(∃(y3:Bool),Du.fn ((p.1,p.2.1,p.2.2.1,()),())=some y3/\Br y3 (∃(y4:Bool),Fm.fn (p.1,t,())=some y4/\P y4) (P false))=fnW Cc (look [(84,Du),(159,Fm)]) Em Tryz.f151 (p,t,()) P:=by kernel_rfl
theorem qT (p:Int×ByteArray×List (List Int)×Unit) (t:List Int) (P:Bool->Prop):(∃(y3:Bool),Du.fn ((p.1,p.2.1,p.2.2.1,()),())=some y3/\Br y3 (∃(y4:Bool),Fm.fn (p.1,t,())=some y4/\P y4) (P false))=fnW Cc (look [(93,Du),(160,Fm)]) Em Tryz.f155 (p,t,()) P:=by kernel_rfl
theorem yy (p:Int×ByteArray×List (List Int)×Unit) (t:List Int) (P:((List (List Int)×List Int×List Int×Bool×Unit)×Bool×Unit)->Prop):(∃(y3:Bool),Em.fn ((p.1,p.2.1,p.2.2.1,()),t,())=some y3/\Br (!y3) (P ((List.take 0 (List.drop 0 []),List.take 0 (List.drop 0 []),List.take 0 (List.drop 0 []),false,()),false,())) (∃(y4:List (List Int)×List Int×List Int×Bool×PUnit),dX.fn ((p.1,p.2.1,p.2.2.1,()),t,())=some y4/\((P ((y4.1,y4.2.1,y4.2.2.1,y4.2.2.2.1,()),y4.2.2.2.1,())/\P ((y4.1,y4.2.1,y4.2.2.1,y4.2.2.2.1,()),y4.2.2.2.1,()))/\P ((y4.1,y4.2.1,y4.2.2.1,y4.2.2.2.1,()),y4.2.2.2.1,()))/\(P ((y4.1,y4.2.1,y4.2.2.1,y4.2.2.2.1,()),y4.2.2.2.1,())/\P ((y4.1,y4.2.1,y4.2.2.1,y4.2.2.2.1,()),y4.2.2.2.1,()))/\P ((y4.1,y4.2.1,y4.2.2.1,y4.2.2.2.1,()),y4.2.2.2.1,())))=fnW Cc (look [(155,Em),(131,dX)]) Og Tryz.f142 (p,t,()) P:=by kernel_rfl
theorem yl (l:List (List Int)) (P:List (List Int)->Prop):(0=0/\0=([]:List Int).length/\Bk (λ(v2:Int×List (List Int)×PUnit) (k3:Int×List (List Int)×PUnit->Prop)=>Br (decide (v2.1<(↑l.length:Int))) (∃(y4:List Int),idx l v2.1=some y4/\ ∃(y5:List Int),Fa.fn (y4,())=some y5/\0=0/\v2.2.1.length=v2.2.1.length/\v2.2.1.length+(List.take 1 (List.drop 0 [y5])).length<=Bj/\0=0/\(v2.2.1++List.take 1 (List.drop 0 [y5])).length=(v2.2.1++List.take 1 (List.drop 0 [y5])).length/\k3 (IntKind.i64.wrap (v2.1+(1:Int)),v2.2.1++List.take 1 (List.drop 0 [y5]),())) (P (List.take v2.2.1.length (List.drop 0 v2.2.1)))) ((0:Int),[],PUnit.unit))=fnW Cc (look [(116,Fa)]) Lp Tryz.f143 (l,()) P:=by kernel_rfl
theorem yA (p:Int×ByteArray×List (List Int)×Unit) (t:List Int) (P:((List Int×List (List Int)×List Int×Unit)×Bool×Unit)->Prop):(∃(y3:(List (List Int)×List Int×List Int×Bool×PUnit)×Bool×PUnit),Og.fn ((p.1,p.2.1,p.2.2.1,()),t,())=some y3/\Br (!y3.2.1) (P ((List.take 0 (List.drop 0 []),List.take 0 (List.drop 0 []),List.take 0 (List.drop 0 []),()),false,())) (∃(y4:List Int),Fa.fn (t,())=some y4/\ ∃(y5:List (List Int)),Lp.fn (y3.1.1,())=some y5/\ ∃(y6:List Int),Fa.fn (y3.1.2.1,())=some y6/\P ((y4,y5,y6,()),true,())))=fnW Cc (look [(142,Og),(116,Fa),(143,Lp)]) Oh Tryz.f125 (p,t,()) P:=by kernel_rfl
abbrev Xe:Type:=Int×List (List Int)×List (List Int)×List Int×(ByteArray->Option Bool)×PUnit
abbrev lp:Type:=Int×Int×ByteArray×List (List Int)×List (List Int)×List (List Int)×List Int×(ByteArray->Option Bool)×PUnit
theorem CG (n:Int) (str:ByteArray) (g:List (List Int)) (t:List Int) (P:((List (List Int)×List Int×Bool×Unit)×Unit)->Prop):(∃(y5:(List Int×PUnit)×PUnit),Vp.fn (t,())=some y5/\ ∃(y6:ByteArray),Fy.fn (t,())=some y6/\ ∃(y7:List Int),Ug.fn ((↑g.length:Int),())=some y7/\0=0/\1= [List.take y5.1.1.length (List.drop 0 y5.1.1)].length/\0=0/\1= [(0:Int)].length/\0=0/\0=([]:List Int).length/\Bk (λ(v8:lp) (k9:lp->Prop)=>Br (decide (v8.1<(↑y7.length:Int))) (∃(Xy:Int),idx y7 v8.1=some Xy/\ ∃(qU:List Int),Qx.fn (v8.2.2.2.1,Xy,())=some qU/\0=0/\v8.2.2.2.2.1.length=v8.2.2.2.2.1.length/\v8.2.2.2.2.1.length+(List.take 1 (List.drop 0 [qU])).length<=Bj/\0=0/\v8.2.2.2.2.2.1.length=v8.2.2.2.2.2.1.length/\0=0/\v8.2.2.2.2.2.2.1.length=v8.2.2.2.2.2.2.1.length/\0=0/\(v8.2.2.2.2.1++List.take 1 (List.drop 0 [qU])).length=(v8.2.2.2.2.1++List.take 1 (List.drop 0 [qU])).length/\k9 (IntKind.i64.wrap (v8.1+(1:Int)),v8.2.1,v8.2.2.1,v8.2.2.2.1,v8.2.2.2.2.1++List.take 1 (List.drop 0 [qU]),v8.2.2.2.2.2.1,v8.2.2.2.2.2.2.1,v8.2.2.2.2.2.2.2.1,())) (0=0/\v8.2.2.2.2.2.1.length=v8.2.2.2.2.2.1.length/\0=0/\v8.2.2.2.2.2.2.1.length=v8.2.2.2.2.2.2.1.length/\0=0/\v8.2.2.2.2.1.length=v8.2.2.2.2.1.length/\Bk (λ(v10:Xe) (k11:Xe->Prop)=>Br (decide (v10.1<(↑v10.2.2.1.length:Int))) (0=0/\v10.2.2.1.length=v10.2.2.1.length/\0=0/\v10.2.2.2.1.length=v10.2.2.2.1.length/\0=0/\v10.2.1.length=v10.2.1.length/\0=0/\v10.2.1.length=v10.2.1.length/\Bk (λ(It:Xe) (k13:Xe->Prop)=>Br (decide (It.1<(↑v10.2.1.length:Int))) (((0:Int)<=It.1/\It.1<(↑It.2.1.length:Int))/\ ∃(aS:List Int),It.2.1[0+It.1.toNat]?=some aS/\((0:Int)<=v10.1/\v10.1<(↑It.2.2.1.length:Int))/\ ∃(pA:List Int),It.2.2.1[0+v10.1.toNat]?=some pA/\ ∃(vz:(List Int×PUnit)×PUnit),Uh.fn (aS,pA,())=some vz/\ ∃(RX:ByteArray),Fy.fn (List.take vz.1.1.length (List.drop 0 vz.1.1),())=some RX/\Br (!(It.2.2.2.2.1 RX).getD false) (Br ((↑It.2.2.1.length:Int)==(3000:Int)) (P ((List.take 0 (List.drop 0 []),List.take 0 (List.drop 0 []),false,()),())) (0=0/\It.2.2.1.length=It.2.2.1.length/\It.2.2.1.length+(List.take 1 (List.drop 0 [List.take vz.1.1.length (List.drop 0 vz.1.1)])).length<=Bj/\((0:Int)<=v10.1/\v10.1<(↑It.2.2.2.1.length:Int))/\ ∃(IM:Int),It.2.2.2.1[0+v10.1.toNat]?=some IM/\0=0/\It.2.2.2.1.length=It.2.2.2.1.length/\It.2.2.2.1.length+(List.take 1 (List.drop 0 [IntKind.i64.wrap (IM+(1:Int))])).length<=Bj/\0=0/\(It.2.2.1++List.take 1 (List.drop 0 [List.take vz.1.1.length (List.drop 0 vz.1.1)])).length=(It.2.2.1++List.take 1 (List.drop 0 [List.take vz.1.1.length (List.drop 0 vz.1.1)])).length/\0=0/\(It.2.2.2.1++List.take 1 (List.drop 0 [IntKind.i64.wrap (IM+(1:Int))])).length=(It.2.2.2.1++List.take 1 (List.drop 0 [IntKind.i64.wrap (IM+(1:Int))])).length/\0=0/\It.2.1.length=It.2.1.length/\0=0/\It.2.1.length=It.2.1.length/\k13 (IntKind.i64.wrap (It.1+(1:Int)),It.2.1,It.2.2.1++List.take 1 (List.drop 0 [List.take vz.1.1.length (List.drop 0 vz.1.1)]),It.2.2.2.1++List.take 1 (List.drop 0 [IntKind.i64.wrap (IM+(1:Int))]),dp It.2.2.2.2.1 RX true,()))) (0=0/\It.2.2.1.length=It.2.2.1.length/\0=0/\It.2.2.2.1.length=It.2.2.2.1.length/\0=0/\It.2.1.length=It.2.1.length/\0=0/\It.2.1.length=It.2.1.length/\k13 (IntKind.i64.wrap (It.1+(1:Int)),It.2.1,It.2.2.1,It.2.2.2.1,It.2.2.2.2.1,()))) (0=0/\It.2.2.1.length=It.2.2.1.length/\0=0/\It.2.2.2.1.length=It.2.2.2.1.length/\0=0/\It.2.1.length=It.2.1.length/\k11 (IntKind.i64.wrap (v10.1+(1:Int)),It.2.1,It.2.2.1,It.2.2.2.1,It.2.2.2.2.1,()))) ((0:Int),v10.2.1,v10.2.2.1,v10.2.2.2.1,v10.2.2.2.2.1,PUnit.unit)) (P ((List.take v10.2.2.1.length (List.drop 0 v10.2.2.1),List.take v10.2.2.2.1.length (List.drop 0 v10.2.2.2.1),true,()),()))) ((0:Int),v8.2.2.2.2.1,v8.2.2.2.2.2.1,v8.2.2.2.2.2.2.1,v8.2.2.2.2.2.2.2.1,PUnit.unit))) ((0:Int),n,str,g,[],[List.take y5.1.1.length (List.drop 0 y5.1.1)],[(0:Int)],dp (λ(_:ByteArray)=>none) y6 true,PUnit.unit))=fnMW (NM [Sn+10]) (look [(138,Vp),(79,Fy),(106,Ug),(122,Qx),(80,Uh)]) Ra Tryz.f152 (n,str,g,t,()) P:=by kernel_rfl
theorem CI (n:Int) (str:ByteArray) (g:List (List Int)) (t:List Int) (P:((List (List Int)×List Int×Bool×Unit)×Unit)->Prop):(∃(y5:Bool),Em.fn ((n,str,g,()),t,())=some y5/\Br (!y5) (P ((List.take 0 (List.drop 0 []),List.take 0 (List.drop 0 []),false,()),())) (∃(y6:(List (List Int)×List Int×Bool×PUnit)×PUnit),Ra.fn (n,str,g,t,())=some y6/\P ((List.take y6.1.1.length (List.drop 0 y6.1.1),List.take y6.1.2.1.length (List.drop 0 y6.1.2.1),y6.1.2.2.1,()),())))=fnMW kA (look [(151,Em),(152,Ra)]) Rc Tryz.f137 (n,str,g,t,()) P:=by kernel_rfl
theorem yq (n:Int) (str:ByteArray) (g:List (List Int)) (t:List Int) (P:((List Int×List (List Int)×List Int×Bool×Unit)×Unit)->Prop):(∃(y5:(List (List Int)×List Int×Bool×PUnit)×PUnit),Rc.fn (n,str,g,t,())=some y5/\Br (!y5.1.2.2.1) (P ((List.take 0 (List.drop 0 []),List.take 0 (List.drop 0 []),List.take 0 (List.drop 0 []),false,()),())) (∃(y6:(List Int×PUnit)×PUnit),Vp.fn (t,())=some y6/\P ((List.take y6.1.1.length (List.drop 0 y6.1.1),List.take y5.1.1.length (List.drop 0 y5.1.1),List.take y5.1.2.1.length (List.drop 0 y5.1.2.1),true,()),())))=fnMW kA (look [(137,Rc),(138,Vp)]) Od Tryz.f113 (n,str,g,t,()) P:=by kernel_rfl
theorem uZ (p:Int×ByteArray×List (List Int)×Unit) (t:List Int×List (List Int)×List Int×Unit) (P:Bool->Prop):(∃(y3:(List Int×List (List Int)×List Int×Bool×PUnit)×PUnit),Od.fn (p.1,p.2.1,p.2.2.1,t.1,())=some y3/\Br y3.1.2.2.2.1 (∃(y4:Bool),Ei.fn ((List.take y3.1.1.length (List.drop 0 y3.1.1),List.take y3.1.2.1.length (List.drop 0 y3.1.2.1),List.take y3.1.2.2.1.length (List.drop 0 y3.1.2.2.1),()),(t.1,t.2.1,t.2.2.1,()),())=some y4/\P y4) (P false))=fnW Cc (look [(113,Od),(114,Ei)]) Kj Tryz.f87 (p,t,()) P:=by kernel_rfl
theorem vf (p:Int×ByteArray×List (List Int)×Unit) (t:List Int×List (List Int)×List Int×Unit) (P:Bool->Prop):(∃(y3:(List Int×List (List Int)×List Int×PUnit)×Bool×PUnit),Oh.fn ((p.1,p.2.1,p.2.2.1,()),t.1,())=some y3/\Br y3.2.1 (∃(y4:Bool),Ei.fn ((y3.1.1,y3.1.2.1,y3.1.2.2.1,()),(t.1,t.2.1,t.2.2.1,()),())=some y4/\P y4) (P false))=fnW Cc (look [(125,Oh),(126,Ei)]) Kj Tryz.f94 (p,t,()) P:=by kernel_rfl
theorem Ad0 (t:List Int×List (List Int)×List Int×Unit) (p:Int×ByteArray×List (List Int)×Unit) (P:Bool->Prop):(∃(y3:Bool),Kj.fn (p,(t.1,t.2.1,t.2.2.1,()),())=some y3/\P !y3)=fnW Cc (look [(87,Kj)]) sm Tryz.f86 (t,p,()) P:=by kernel_rfl
theorem YO (ts:List (List Int×List (List Int)×List Int×Unit)) (c:(Int×ByteArray×List (List Int)×Unit)×Unit) (P:Int->Prop):(Bk (λ(v3:Int×PUnit) (k4:Int×PUnit->Prop)=>Br (decide (v3.1<(↑ts.length:Int))) (∃(y5:List Int×List (List Int)×List Int×PUnit),idx ts v3.1=some y5/\ ∃(y6:Bool),sm.fn (y5,c.1,())=some y6/\Br y6 (P v3.1) (k4 (IntKind.i64.wrap (v3.1+(1:Int)),()))) (P (-1:Int))) ((0:Int),PUnit.unit))=fnW Cc (look [(86,sm)]) kb Tryz.f112 (ts,c,()) P:=by kernel_rfl
theorem YK (ts:List (List Int×List (List Int)×List Int×Unit)) (c:(Int×ByteArray×List (List Int)×Unit)×Unit) (P:Bool->Prop):(∃(y3:Int),kb.fn (ts,c,())=some y3/\P (decide (y3>=(0:Int))))=fnW Cc (look [(112,kb)]) jZ Tryz.f85 (ts,c,()) P:=by kernel_rfl
theorem pk (p:Int×ByteArray×List (List Int)×Unit) (ts:List (List Int×List (List Int)×List Int×Unit)) (P:Bool->Prop):(∃(y3:Bool),Du.fn ((p.1,p.2.1,p.2.2.1,()),())=some y3/\Br y3 (Br (decide ((↑ts.length:Int)<=(4:Int))) (∃(y4:Bool),jZ.fn (ts,((p.1,p.2.1,p.2.2.1,()),()),())=some y4/\P !y4) (P false)) (P false))=fnW Cc (look [(84,Du),(85,jZ)]) Gq Tryz.f63 (p,ts,()) P:=by kernel_rfl
abbrev bu:Type:=Int×Int×ByteArray×List (List Int)×PUnit
theorem pn (p:Int×ByteArray×List (List Int)×Unit) (ts:List (List Int×List (List Int)×List Int×Unit)) (P:Bool->Prop):(∃(y3:Bool),Du.fn ((p.1,p.2.1,p.2.2.1,()),())=some y3/\Br (!y3) (P false) (Br (decide ((↑ts.length:Int)>(4:Int))) (P false) (Bk (λ(v4:bu) (k5:bu->Prop)=>Br (decide (v4.1<(↑ts.length:Int))) (∃(y6:List Int×List (List Int)×List Int×PUnit),idx ts v4.1=some y6/\ ∃(y7:Bool),Kj.fn ((v4.2.1,v4.2.2.1,v4.2.2.2.1,()),y6,())=some y7/\Br (!y7) (P false) (k5 (IntKind.i64.wrap (v4.1+(1:Int)),v4.2.1,v4.2.2.1,v4.2.2.2.1,()))) (P true)) ((0:Int),p.1,p.2.1,p.2.2.1,PUnit.unit))))=fnW Cc (look [(93,Du),(94,Kj)]) Gq Tryz.f72 (p,ts,()) P:=by kernel_rfl
theorem YU (ts:List (List Int×List (List Int)×List Int×Unit)) (k:Int) (P:Int->Prop):(Br (decide (IntKind.i64.wrap (k-(↑ts.length:Int))<(0:Int))) (P (-1:Int)) (Bk (λ(v3:Int×Int×PUnit) (k4:Int×Int×PUnit->Prop)=>Br (decide (v3.2.1<(↑ts.length:Int))) (∃(y5:List Int×List (List Int)×List Int×PUnit),idx ts v3.2.1=some y5/\ ∃(y6:Int),Uk.fn (y5,v3.1,())=some y6/\Br (decide (y6<(0:Int))) (P (-1:Int)) (k4 (y6,IntKind.i64.wrap (v3.2.1+(1:Int)),()))) (P v3.1)) (IntKind.i64.wrap (k-(↑ts.length:Int)),(0:Int),PUnit.unit)))=fnW Cc (look [(46,Uk)]) ke Tryz.f14 (ts,k,()) P:=by kernel_rfl
abbrev EJ:Type:=Int×List (List Int×List (List Int)×List Int×PUnit)×PUnit
abbrev EK:Type:=List Int×List (List Int)×List Int×PUnit
theorem YW (ts:List (List Int×List (List Int)×List Int×Unit)) (P:List (List Int×List (List Int)×List Int×Unit)->Prop):(((0:Int)<=(↑ts.length:Int)/\(↑ts.length:Int)<(↑Bj:Int)+(1:Int))/\(↑ts.length:Int)=(↑ts.length:Int)/\0=0/\(List.replicate (↑ts.length:Int).toNat (([]:List Int),([]:List (List Int)),([]:List Int),())).length=(List.replicate (↑ts.length:Int).toNat (([]:List Int),([]:List (List Int)),([]:List Int),())).length/\Bk (λ(v2:EJ) (k3:EJ->Prop)=>Br (decide (v2.1<(↑ts.length:Int))) (∃(y4:EK),idx ts v2.1=some y4/\ ∃(y5:EK),Ul.fn (y4,())=some y5/\((0:Int)<=v2.1/\v2.1<(↑v2.2.1.length:Int))/\0+v2.1.toNat<v2.2.1.length/\0=0/\v2.2.1.length=(v2.2.1.set (0+v2.1.toNat) y5).length/\k3 (IntKind.i64.wrap (v2.1+(1:Int)),v2.2.1.set (0+v2.1.toNat) y5,())) (P (List.take v2.2.1.length (List.drop 0 v2.2.1)))) ((0:Int),List.replicate (↑ts.length:Int).toNat (([]:List Int),([]:List (List Int)),([]:List Int),()),PUnit.unit))=fnW Cc (look [(50,Ul)]) da Tryz.f17 (ts,()) P:=by kernel_rfl
abbrev EH:Type:=List Int×List (List Int)×List Int×PUnit
theorem YM (a b:List (List Int×List (List Int)×List Int×Unit)) (P:Bool->Prop):(Br ((↑a.length:Int) !=(↑b.length:Int)) (P false) (Bk (λ(v3:Int×PUnit) (k4:Int×PUnit->Prop)=>Br (decide (v3.1<(↑a.length:Int))) (∃(y5:EH),idx a v3.1=some y5/\ ∃(y6:EH),idx b v3.1=some y6/\ ∃(y7:Bool),Ei.fn (y5,y6,())=some y7/\Br (!y7) (P false) (k4 (IntKind.i64.wrap (v3.1+(1:Int)),()))) (P true)) ((0:Int),PUnit.unit)))=fnW Cc (look [(54,Ei)]) k8 Tryz.f21 (a,b,()) P:=by kernel_rfl
theorem mO {p:PP} (hV:Valid p) {m:Nat} {x:List Int} {d:Int} (hx: ∀y∈x,0<=y/\y<p.1) (QN:x.length=m): ∀(ls:List Int) (L:List (List Int)) (D:List Int),(∀l∈ls,Ik (List.length p.2.2.1) l)->
  Ta p m L D->(0<=d/\d<L.length)->Ta p m (Hg p.2.2.1 x d ls L D).1 (Hg p.2.2.1 x d ls L D).2.1/\(∃A,(Hg p.2.2.1 x d ls L D).1=L++A)/\(∃A,(Hg p.2.2.1 x d ls L D).2.1=D++A)
 | [],L,D,_,h,_=>⟨h,⟨[],by simp [Hg]⟩,⟨[],by simp [Hg]⟩⟩
 |l::ls,L,D,hl,h,hd=>by
  obtain ⟨n1,n2⟩:=tS hV hx (hl l (by simp))
  have Fz: ∀l∈ls,Ik (List.length p.2.2.1) l:= λl' h'=>hl l' (List.mem_cons_of_mem _ h')
  simp only [Hg]
  split
  ·exact mO hV hx QN ls L D Fz h hd
  ·rename_i hn
   split
   ·exact ⟨h,⟨[],by simp⟩,⟨[],by simp⟩⟩
   ·rename_i hf
    have pJ:=h.ok.sX
    obtain ⟨k1,⟨A,k2⟩,⟨A',k3⟩⟩:=mO hV hx QN ls (L++ [Aa x (An p.2.2.1 l)]) (D++ [d+1]) Fz (h.add hn (by rw [n1,QN]) (by omega) n2 ⟨by omega,by omega⟩) ⟨hd.1,by rw [List.length_append];omega⟩
    exact ⟨k1,⟨_::A,by rw [k2,List.append_assoc];rfl⟩,⟨_::A',by rw [k3,List.append_assoc];rfl⟩⟩
theorem vS {p:PP} (hV:Valid p) {m:Nat} {ls:List Int} (hl: ∀l∈ls,Ik (List.length p.2.2.1) l): ∀(f k:Nat) (L:List (List Int)) (D:List Int),Ta p m L D->
  Ta p m (Lb p.2.2.1 ls f k L D).1 (Lb p.2.2.1 ls f k L D).2.1/\(∃A,(Lb p.2.2.1 ls f k L D).1=L++A)
 |0,k,L,D,h=>⟨h,⟨[],by simp [Lb]⟩⟩
 |f+1,k,L,D,h=>by
  simp only [Lb]
  split
  ·rename_i hk
   have OR:k<D.length:=by rw [h.len];exact hk
   have hd:=h.dep k OR
   have e:D.getD k 0=D[k]:=by rw [List.getD_eq_getElem?_getD,List.getElem?_eq_getElem OR];rfl
   rw [Rx hk,e]
   obtain ⟨k1,⟨A,k2⟩,_⟩:=mO hV (h.row _ (List.getElem_mem hk)) (h.ok.len _ (List.getElem_mem hk)) (d:=D[k]) ls L D hl h ⟨by omega,by omega⟩
   split
   ·rename_i L' D' he
    rw [he] at k1 k2
    obtain ⟨g1,⟨B,g2⟩⟩:=vS hV hl f (k+1) L' D' k1
    have k2:L'=L++A:=k2
    exact ⟨g1,⟨A++B,by rw [g2,k2,List.append_assoc]⟩⟩
   ·rename_i L' D' he
    rw [he] at k1 k2
    exact ⟨k1,⟨A,k2⟩⟩
  ·exact ⟨h,⟨[],by simp⟩⟩
theorem yW {p:PP} {s:List Int} (hv:Bv p=true) (hs:s.length<=20) (hr: ∀y∈s,0<=y/\y<p.1):Ta p s.length (Gf p.2.2.1 s).1 (Gf p.2.2.1 s).2.1/\ ∃A,(Gf p.2.2.1 s).1=s::A:=
 vS (valid hv) (λ_ hl=>Wt hl) _ _ _ _ (jn hs hr)
theorem Lq {p:PP} {t:List Int} :Ct p t=true↔Bv p=true/\Se p.1 t=true:=by
 unfold Ct;rw [Bool.and_eq_true]
theorem Et {p:PP} {t:List Int} (h:Ct p t=true):t.length<=20/\ ∀y∈t,0<=y/\y<p.1:=by
 obtain ⟨h1,h2⟩:=Lq.1 h
 have hn:=(valid h1).n
 obtain ⟨h3,h4⟩:=Eb.1 h2
 have hy: ∀y∈t,0<=y/\y<p.1:= λy hy=>by
  obtain ⟨j,hj,rfl⟩:=List.mem_iff_getElem.1 hy
  have:=h4 j hj hj
  omega
 refine ⟨?_,hy⟩
 have h5:=AN h4 (t.length-1) (by omega)
 have h6:=hy _ (List.getElem_mem (show t.length-1<t.length by omega))
 omega
theorem u9 {p:PP} {t:List Int} (h:Ct p t=true):Ta p t.length (Gf p.2.2.1 t).1 (Gf p.2.2.1 t).2.1:=(yW (Lq.1 h).1 (Et h).1 (Et h).2).1
theorem Yy {p:PP} {t:List Int} :Db p t=true↔Ct p t=true/\(Gf p.2.2.1 t).2.2=true:=by
 unfold Db;rw [Bool.and_eq_true]
theorem qY {p:PP} {m:Nat} {L:List (List Int)} {D:List Int} (h:Ta p m L D):Ev L/\short D:=by
 have h1:=h.ok.sX
 have h2:=h.ok.short
 have h3:=h.len
 refine ⟨⟨by omega,λx hx=>?_⟩,by unfold short;omega⟩
 have:=h.ok.len x hx
 unfold short;omega
theorem kG {p:PP} {t:List Int} :Kf (Dr p t):=by
 unfold Dr
 split
 ·rename_i h
  have h1:=(Yy.1 h).1
  have h2:=qY (u9 h1)
  have h3:=(Et h1).1
  exact ⟨show t.length<=4294967296 by omega,h2.1,h2.2⟩
 ·exact ⟨by simp [short],⟨by simp,λr hr=>by cases hr⟩,by simp [short]⟩
theorem qa (p:PP) (t:List Int) (h:Cl p/\short t):fnW Cc (look [(84,Du),(159,Fm)]) Em Tryz.f151 (p,t,()) (λ(z:Bool)=>z=Ct p t):=by
 refine Eq.mp (qN p t _) ⟨_,if_pos h.1,⟨λhv=>?_,λhv=>?_⟩⟩
 ·have hv:Bv p=true:=hv
  have hn:=(valid hv).n
  refine ⟨_,if_pos ⟨⟨by show 0<=p.1;omega,by show p.1<=4294967296;omega⟩,h.2⟩,?_⟩
  unfold Ct;rw [hv];rfl
 ·have hv:Bv p=false:=hv
  unfold Ct;rw [hv];rfl
theorem iU:Sound Tryz.prog 151 Em:=
 Sound.Co Bg (Ae Rd (Ae lS Al)) mixed Tryz.func151 (by kernel_rfl) (by kernel_rfl) λx h=>qa x.1 x.2.1 h
theorem qg (p:PP) (t:List Int) (h:Cl p/\short t):fnW Cc (look [(93,Du),(160,Fm)]) Em Tryz.f155 (p,t,()) (λ(z:Bool)=>z=Ct p t):=by
 refine Eq.mp (qT p t _) ⟨_,if_pos h.1,⟨λhv=>?_,λhv=>?_⟩⟩
 ·have hv:Bv p=true:=hv
  have hn:=(valid hv).n
  refine ⟨_,if_pos ⟨⟨by show 0<=p.1;omega,by show p.1<=4294967296;omega⟩,h.2⟩,?_⟩
  unfold Ct;rw [hv];rfl
 ·have hv:Bv p=false:=hv
  unfold Ct;rw [hv];rfl
theorem iZ:Sound Tryz.prog 155 Em:=
 Sound.Co Bg (Ae Re (Ae iV Al)) mixed Tryz.func155 (by kernel_rfl) (by kernel_rfl) λx h=>qg x.1 x.2.1 h
theorem xC (p:PP) (t:List Int) (h:Cl p/\short t):fnW Cc (look [(155,Em),(131,dX)]) Og Tryz.f142 (p,t,()) (λ(z:SS×Bool×Unit)=>z=(Jr p t,Db p t,())):=by
 refine Eq.mp (yy p t _) ⟨_,if_pos h,⟨λhn=>?_,λhn=>?_⟩⟩
 ·have hn:=Dj hn
  have e:Db p t=false:=Bool.eq_false_iff.2 λhh=>hn (Yy.1 hh).1
  unfold Jr
  rw [if_neg hn,e]
  rfl
 ·have hn:Ct p t=true:=De hn
  have e:Db p t=(Gf p.2.2.1 t).2.2:=by unfold Db;rw [hn,Bool.true_and]
  refine ⟨_,if_pos ⟨(Lq.1 hn).1,(Et hn).1,(Et hn).2⟩,?_⟩
  have key:(((Lm p.2.2.1 t).1,(Lm p.2.2.1 t).2.1,(Lm p.2.2.1 t).2.2.1,(Lm p.2.2.1 t).2.2.2.1,()),(Lm p.2.2.1 t).2.2.2.1,())=(Jr p t,Db p t,()):=by
   unfold Jr
   rw [if_pos hn,e]
   rfl
  exact ⟨⟨⟨key,key⟩,key⟩,⟨key,key⟩,key⟩
theorem lW:Sound Tryz.prog 142 Og:=
 Sound.Co Bg (Ae iZ (Ae xW Al)) mixed Tryz.func142 (by kernel_rfl) (by kernel_rfl) λx h=>xC x.1 x.2.1 h
theorem xq (l:List (List Int)) (h:Ev l):fnW Cc (look [(116,Fa)]) Lp Tryz.f143 (l,()) (λ(z:List (List Int))=>z=l):=by
 obtain ⟨h1,h2⟩:=h
 refine Eq.mp (yl l _) ⟨rfl,rfl,?_⟩
 refine Ah l.length (λv=>v.1) (λj v=>v.2.1=l.take j) rfl (by simp) ?_
 rintro j ⟨i,ys,⟨⟩⟩ K hj hi hR hK
 dsimp only at hi hR⊢
 subst hi hR
 refine Br.dec (λhl=>?_) λhl=>?_
 ·have hl:j<l.length:=by omega
  refine ⟨_,Ap hl,_,if_pos (h2 _ (List.getElem_mem hl)),rfl,rfl,?_,rfl,rfl,?_⟩
  ·show (List.take j l).length+1<=4294967296
   rw [List.length_take];omega
  ·rw [Ag (by omega)]
   refine hK hl _ rfl ?_
   show List.take j l++ [l[j]]=_
   rw [List.take_add_one,List.getElem?_eq_getElem hl];rfl
 ·have:j=l.length:=by omega
  subst this
  rw [Bi,List.take_length]
theorem lM:Sound Tryz.prog 143 Lp:=
 Sound.Co Bg (Ae Pk Al) mixed Tryz.func143 (by kernel_rfl) (by kernel_rfl) λx h=>xq x.1 h
theorem xE (p:PP) (t:List Int) (h:Cl p/\short t):fnW Cc (look [(142,Og),(116,Fa),(143,Lp)]) Oh Tryz.f125 (p,t,()) (λ(z:TT×Bool×Unit)=>z=(Dr p t,Db p t,())):=by
 refine Eq.mp (yA p t _) ⟨_,if_pos h,⟨λhn=>?_,λhn=>?_⟩⟩
 ·have hn:=Dj hn
  have hn: ¬Db p t=true:=hn
  unfold Dr
  rw [if_neg hn,Bool.eq_false_iff.2 hn]
  rfl
 ·have hn:Db p t=true:=De hn
  obtain ⟨h1,h2⟩:=Yy.1 hn
  have h3:=qY (u9 h1)
  have e:Jr p t=Lm p.2.2.1 t:=if_pos h1
  refine ⟨_,if_pos h.2,?_⟩
  show ∃y5:List (List Int),Lp.fn ((Jr p t).1,())=some y5/\ ∃y6:List Int,Fa.fn ((Jr p t).2.1,())=some y6/\((t,y5,y6,()),true,())=(Dr p t,Db p t,())
  rw [e]
  refine ⟨_,if_pos h3.1,_,if_pos h3.2,?_⟩
  unfold Dr
  rw [if_pos hn,hn]
  rfl
theorem lY:Sound Tryz.prog 125 Oh:=
 Sound.Co Bg (Ae lW (Ae Pk (Ae lM Al))) mixed Tryz.func125 (by kernel_rfl) (by kernel_rfl) λx h=>xE x.1 x.2.1 h
def ji (m:ByteArray->Option Bool) (L:List (List Int)):Prop:= ∀q,aY q->(m (Pw q)).getD false=decide (q∈L)
theorem ji.add {m:ByteArray->Option Bool} {L:List (List Int)} {y:List Int} (h:ji m L) (hy:aY y):ji (dp m (Pw y) true) (L++ [y]):=by
 intro q hq
 unfold dp
 by_cases e:q=y
 ·subst e
  rw [if_pos rfl];simp
 ·rw [if_neg λhk=>e (key_inj hq hy hk),h q hq]
  simp [e]
theorem AI (n:Int) (str:ByteArray) (g:List (List Int)) (t:List Int) (h:Ct (n,str,g,()) t=true):
  fnMW (NM [Sn+10]) (look [(138,Vp),(79,Fy),(106,Ug),(122,Qx),(80,Uh)]) Ra Tryz.f152 (n,str,g,t,()) (λ(z:(List (List Int)×List Int×Bool×Unit)×Unit)=>z=(((Dr (n,str,g,()) t).2.1,(Dr (n,str,g,()) t).2.2.1,Db (n,str,g,()) t,()),())):=by
 obtain ⟨hv,_⟩:=Lq.1 h
 obtain ⟨ht,hr⟩:=Et h
 have hV:=valid hv
 have pJ:=hV.sX
 have hn:=hV.n
 dsimp only at pJ hn hr
 have VD:=jn (p:=(n,str,g,())) ht hr
 have yL:short t:=by unfold short;omega
 obtain ⟨ls,vq⟩: ∃ls,Cj g.length=ls:=⟨_,rfl⟩
 have OV:ls.length<=16:=by rw [<-vq,Ro];omega
 have lE: ∀l∈ls,Ik (List.length g) l:= λl hl=>Wt (vq▸hl)
 have zu:Lb g ls 3001 0 [t] [0]=Gf g t:=by unfold Gf;rw [vq]
 have SO: ∀x:List Int,(∀y∈x,0<=y/\y<n)->aY x:= λx hx y hy=>by have:=hx y hy;omega
 have Aag: ∀L D ok,Gf g t=(L,D,ok)->(if ok=true then ((L,D,true,()),()) else ((([]:List (List Int)),([]:List Int),false,()),()))=(((Dr (n,str,g,()) t).2.1,(Dr (n,str,g,()) t).2.2.1,Db (n,str,g,()) t,()),()):=by
  intro L D ok he
  have e1:Db (n,str,g,()) t=ok:=by unfold Db;rw [h,Bool.true_and];show (Gf g t).2.2=ok;rw [he]
  unfold Dr
  rw [e1]
  cases ok with
  |true=>rw [if_pos rfl,if_pos rfl];show ((L,D,true,()),())=(((Gf g t).1,(Gf g t).2.1,true,()),());rw [he]
  |false=>rw [if_neg (by decide),if_neg (by decide)]
 refine Eq.mp (CG n str g t _) ⟨_,if_pos yL,_,if_pos yL,ls,(if_pos ⟨by show (0:Int)<=((g.length:Nat):Int);omega,by show ((g.length:Nat):Int)<=8;omega⟩).trans (congrArg some (by show Cj (((g.length:Nat):Int)).toNat=ls;rw [Int.toNat_natCast];exact vq)),rfl,rfl,rfl,rfl,rfl,rfl,?_⟩
 rw [Bi]
 refine Ah ls.length (λv=>v.1) (λj v=>v.2.1=n/\v.2.2.1=str/\v.2.2.2.1=g/\v.2.2.2.2.1=(ls.take j).map (An g)/\v.2.2.2.2.2.1= [t]/\v.2.2.2.2.2.2.1= [0]/\ji v.2.2.2.2.2.2.2.1 [t]) rfl
  ⟨rfl,rfl,rfl,by simp,rfl,rfl,λq hq=>?_⟩ ?_
 ·show (dp (λ_=>none) (Pw t) true (Pw q)).getD false=_
  unfold dp
  by_cases e:q=t
  ·subst e;rw [if_pos rfl];simp
  ·rw [if_neg λhk=>e (key_inj hq (SO t hr) hk)];simp [e]
 rintro j ⟨i,n',Acg,g',mv,L1,D1,m1,⟨⟩⟩ K hj hi ⟨h1,h2,h3,h4,h5,h6,h7⟩ hK
 dsimp only at hi h1 h2 h3 h4 h5 h6 h7⊢
 subst hi h1 h2 h3 h4 h5 h6
 refine Br.dec (λhl=>?_) λhl=>⟨rfl,rfl,rfl,rfl,rfl,rfl,?_⟩
 ·have hl:j<ls.length:=by omega
  have zn:=lE _ (List.getElem_mem hl)
  refine ⟨_,Ap hl,_,if_pos ⟨zn,pJ.2,hV.perm⟩,rfl,rfl,?_,rfl,rfl,rfl,rfl,rfl,rfl,?_⟩
  ·show (List.map (An g') (List.take j ls)).length+1<=4294967296
   rw [List.length_map,List.length_take];omega
  ·rw [Ag (by omega)]
   refine hK hl _ rfl ⟨rfl,rfl,rfl,?_,rfl,rfl,h7⟩
   show List.map (An g') (List.take j ls)++ [An g' ls[j]]=_
   rw [List.take_add_one,List.getElem?_eq_getElem hl,List.map_append];rfl
 ·have:j=ls.length:=by omega
  subst this
  rw [List.take_length]
  obtain ⟨ms,DO⟩: ∃ms,ls.map (An g')=ms:=⟨_,rfl⟩
  have Akp:ms.length=ls.length:=by rw [<-DO,List.length_map]
  have Ag5: ∀i (h:i<ls.length),ms[i]'(by omega)=An g' ls[i]:= λi h=>by simp only [<-DO,List.getElem_map]
  rw [DO]
  refine Bk.mk (λv=>v.2.1=ms/\ ∃k:Nat,v.1=k/\k<=v.2.2.1.length/\Ta (n',Acg,g',()) t.length v.2.2.1 v.2.2.2.1/\ji v.2.2.2.2.1 v.2.2.1/\Lb g' ls (3001-k) k v.2.2.1 v.2.2.2.1=Gf g' t) (λv=>3001-v.1.toNat)
   ⟨rfl,0,rfl,by simp,VD,h7,zu⟩ ?_
  rintro ⟨k',mv,L0,D0,mp,⟨⟩⟩ ⟨h1,k,h5,h6,h7,h8,h9⟩
  dsimp only at h1 h5 h6 h7 h8 h9
  subst h1 h5
  dsimp only
  have hL0:=h7.ok.sX
  have hD0:=h7.len
  refine Br.dec (λhl=>⟨rfl,rfl,rfl,rfl,rfl,rfl,rfl,rfl,?_⟩) λhl=>?_
  ·have hk:k<L0.length:=by omega
   have OR:k<D0.length:=by omega
   have hx: ∀y∈L0[k],0<=y/\y<n':=h7.row _ (List.getElem_mem hk)
   have QN:L0[k].length=t.length:=h7.ok.len _ (List.getElem_mem hk)
   have hdk:=h7.dep k OR
   obtain ⟨f,hf⟩: ∃f,3001-k=f+1:=⟨3000-k,by omega⟩
   have SZ: ∀L' D' ok,Hg g' L0[k] D0[k] ls L0 D0=(L',D',ok)->Gf g' t=if ok=true then Lb g' ls f (k+1) L' D' else (L',D',false):=by
    intro L' D' ok he
    rw [<-h9,hf,Lb,if_pos hk,Rx hk,List.getD_eq_getElem?_getD,List.getElem?_eq_getElem OR]
    simp only [Option.getD_some]
    rw [he]
    cases ok<;>rfl
   refine Bk.mk (λv=>v.2.1=mv/\ ∃i:Nat,v.1=i/\i<=ls.length/\Ta (n',Acg,g',()) t.length v.2.2.1 v.2.2.2.1/\ji v.2.2.2.2.1 v.2.2.1/\(∃A,v.2.2.1=L0++A)/\(∃A,v.2.2.2.1=D0++A)/\
     Hg g' L0[k] D0[k] (ls.drop i) v.2.2.1 v.2.2.2.1=Hg g' L0[k] D0[k] ls L0 D0) (λv=>ls.length-v.1.toNat)
    ⟨rfl,0,rfl,Nat.zero_le _,h7,h8,⟨[],by simp⟩,⟨[],by simp⟩,rfl⟩ ?_
   rintro ⟨i',mv',L,D,mp2,⟨⟩⟩ ⟨g1,i,g5,g6,g7,g8,⟨A,g9⟩,⟨A',PQ⟩,lC⟩
   dsimp only at g1 g5 g6 g7 g8 g9 PQ lC
   subst g1 g5
   dsimp only
   have hLf:=g7.ok.sX
   have SJ:=g7.len
   refine Br.dec (λhli=>?_) λhli=>?_
   ·have hi:i<ls.length:=by omega
    have VQ:k<L.length:=by rw [g9,List.length_append];omega
    have hLk:L[k]=L0[k]:=by simp only [g9];exact List.getElem_append_left hk
    have VP:k<D.length:=by rw [SJ];exact VQ
    have hDk:D[k]=D0[k]:=by simp only [PQ];exact List.getElem_append_left OR
    have zn:=lE _ (List.getElem_mem hi)
    obtain ⟨nl,nr⟩:=tS hV hx zn
    dsimp only at nl nr
    have FE:=jI hV zn
    dsimp only at FE
    rw [List.drop_eq_getElem_cons hi] at lC
    simp only [Hg] at lC
    have hyb:=SO _ nr
    refine ⟨⟨by omega,by omega⟩,An g' ls[i],by rw [Int.toNat_natCast,Nat.zero_add,List.getElem?_eq_getElem (by omega),Ag5 i hi],⟨by omega,by omega⟩,L0[k],by rw [Int.toNat_natCast,Nat.zero_add,List.getElem?_eq_getElem VQ,hLk],
     _,if_pos ⟨by show short L0[k];unfold short;omega,by show Ho (An g' ls[i]).length L0[k];intro y hy;have:=hx y hy;omega⟩,?_⟩
    dsimp only
    rw [show Bx (An g' ls[i]) L0[k]=Aa L0[k] (An g' ls[i]) from rfl,Bi]
    generalize hyv:Aa L0[k] (An g' ls[i])=yv at*
    refine ⟨_,if_pos (by show short yv;unfold short;rw [nl];omega),?_⟩
    dsimp only
    rw [g8 _ hyb]
    refine ⟨λcp=>?_,λcp=>⟨rfl,rfl,rfl,rfl,rfl,rfl,rfl,rfl,?_⟩⟩
    ·have cp:yv∉L:=by simpa using cp
     rw [if_neg cp] at lC
     refine ⟨λVc=>?_,λVc=>⟨rfl,rfl,by show L.length+1<=4294967296;omega,⟨by omega,by omega⟩,D0[k],by rw [Int.toNat_natCast,Nat.zero_add,List.getElem?_eq_getElem VP,hDk],rfl,rfl,by show D.length+1<=4294967296;omega,rfl,rfl,rfl,rfl,rfl,rfl,rfl,rfl,?_⟩⟩
     ·have Vc:L.length=3000:=by
       have:(L.length:Int)=3000:=by simpa using Vc
       omega
      rw [if_pos Vc] at lC
      have:=SZ _ _ _ lC.symm
      rw [if_neg (by decide)] at this
      have:=Aag _ _ _ this
      rw [if_neg (by decide)] at this
      exact this
     ·have Vc:L.length≠3000:=by
       have:(L.length:Int)≠3000:=by simpa using Vc
       omega
      rw [if_neg Vc] at lC
      rw [Cp (n:=D0[k]+1) (by omega) (by omega),Ag (by omega)]
      refine ⟨⟨rfl,i+1,rfl,hi,g7.add cp (by rw [nl,QN]) (by omega) nr ⟨by omega,by omega⟩,g8.add hyb,⟨A++ [yv],by rw [g9,List.append_assoc];rfl⟩,⟨A'++ [D0[k]+1],by rw [PQ,List.append_assoc];rfl⟩,lC⟩,by omega⟩
    ·have cp:yv∈L:=by simpa using cp
     rw [if_pos cp] at lC
     rw [Ag (by omega)]
     exact ⟨⟨rfl,i+1,rfl,hi,g7,g8,⟨A,g9⟩,⟨A',PQ⟩,lC⟩,by omega⟩
   ·have:i=ls.length:=by omega
    subst this
    rw [List.drop_length,Hg] at lC
    have:=SZ _ _ _ lC.symm
    rw [if_pos rfl] at this
    rw [Ag (by omega)]
    refine ⟨rfl,rfl,rfl,rfl,rfl,rfl,⟨rfl,k+1,rfl,by rw [g9,List.length_append];omega,g7,g8,?_⟩,by omega⟩
    rw [show 3001-(k+1)=f by omega]
    exact this.symm
  ·have hk:k=L0.length:=by omega
   rw [Bi L0,Bi D0]
   obtain ⟨f,hf⟩: ∃f,3001-k=f+1:=⟨3000-k,by omega⟩
   rw [hf,Lb,if_neg (by omega)] at h9
   have:=Aag _ _ _ h9.symm
   rw [if_pos rfl] at this
   exact this
theorem oP:Bf Tryz.prog 152 Ra:=
 Bf.mn (NN [Sn+10]) (Fq iR (Ae Vu (Ae qv (Ae oN (Fq qx Al))))) mixed Tryz.func152 (by kernel_rfl) (by kernel_rfl) λx h=>AI x.1 x.2.1 x.2.2.1 x.2.2.2.1 h
theorem mP {p:PP} {t:List Int} (h: ¬Db p t=true):Dr p t=([],[],[],()):=if_neg h
theorem AK (n:Int) (str:ByteArray) (g:List (List Int)) (t:List Int) (h:Cl (n,str,g,())/\short t):
  fnMW kA (look [(151,Em),(152,Ra)]) Rc Tryz.f137 (n,str,g,t,()) (λ(z:(List (List Int)×List Int×Bool×Unit)×Unit)=>z=(((Dr (n,str,g,()) t).2.1,(Dr (n,str,g,()) t).2.2.1,Db (n,str,g,()) t,()),())):=by
 refine Eq.mp (CI n str g t _) ⟨_,if_pos h,⟨λhn=>?_,λhn=>?_⟩⟩
 ·have hn: ¬Ct (n,str,g,()) t=true:=Dj hn
  have e: ¬Db (n,str,g,()) t=true:= λhh=>hn (Yy.1 hh).1
  rw [mP e,Bool.eq_false_iff.2 e]
  rfl
 ·have hn:Ct (n,str,g,()) t=true:=De hn
  refine ⟨_,if_pos hn,?_⟩
  rw [Bi,Bi]
theorem oR:Bf Tryz.prog 137 Rc:=
 Bf.mn gz (Ae iU (Fq oP Al)) mixed Tryz.func137 (by kernel_rfl) (by kernel_rfl) λx h=>AK x.1 x.2.1 x.2.2.1 x.2.2.2.1 h
theorem xw (n:Int) (str:ByteArray) (g:List (List Int)) (t:List Int) (h:Cl (n,str,g,())/\short t):
  fnMW kA (look [(137,Rc),(138,Vp)]) Od Tryz.f113 (n,str,g,t,()) (λ(z:(List Int×List (List Int)×List Int×Bool×Unit)×Unit)=>z=(((Dr (n,str,g,()) t).1,(Dr (n,str,g,()) t).2.1,(Dr (n,str,g,()) t).2.2.1,Db (n,str,g,()) t,()),())):=by
 refine Eq.mp (yq n str g t _) ⟨_,if_pos h,⟨λhn=>?_,λhn=>?_⟩⟩
 ·have e: ¬Db (n,str,g,()) t=true:=Dj hn
  rw [mP e,Bool.eq_false_iff.2 e]
  rfl
 ·have e:Db (n,str,g,()) t=true:=De hn
  refine ⟨_,if_pos h.2,?_⟩
  rw [Bi,Bi,Bi,e]
  have e2:(Dr (n,str,g,()) t).1=t:=by unfold Dr;rw [if_pos e]
  rw [e2]
theorem lQ:Bf Tryz.prog 113 Od:=
 Bf.mn gz (Fq oR (Fq iR Al)) mixed Tryz.func113 (by kernel_rfl) (by kernel_rfl) λx h=>xw x.1 x.2.1 x.2.2.1 x.2.2.2.1 h
theorem tY (p:PP) (t:TT) (h:Cl p/\Kf t):fnW Cc (look [(113,Od),(114,Ei)]) Kj Tryz.f87 (p,t,()) (λ(z:Bool)=>z=Dd p t):=by
 refine Eq.mp (uZ p t _) ⟨_,if_pos ⟨h.1,h.2.1⟩,⟨λhn=>?_,λhn=>?_⟩⟩
 ·have e:Db p t.1=true:=hn
  rw [Bi,Bi,Bi]
  refine ⟨_,if_pos kG,?_⟩
  unfold Dd
  rw [e];rfl
 ·have e:Db p t.1=false:=hn
  unfold Dd
  rw [e];rfl
theorem kr:Sound Tryz.prog 87 Kj:=
 Sound.Co Bg (Fq lQ (Ae eu Al)) mixed Tryz.func87 (by kernel_rfl) (by kernel_rfl) λx h=>tY x.1 x.2.1 h
theorem u7 (p:PP) (t:TT) (h:Cl p/\Kf t):fnW Cc (look [(125,Oh),(126,Ei)]) Kj Tryz.f94 (p,t,()) (λ(z:Bool)=>z=Dd p t):=by
 refine Eq.mp (vf p t _) ⟨_,if_pos ⟨h.1,h.2.1⟩,⟨λhn=>?_,λhn=>?_⟩⟩
 ·have e:Db p t.1=true:=hn
  refine ⟨_,if_pos kG,?_⟩
  unfold Dd
  rw [e];rfl
 ·have e:Db p t.1=false:=hn
  unfold Dd
  rw [e];rfl
theorem ku:Sound Tryz.prog 94 Kj:=
 Sound.Co Bg (Ae lY (Ae ez Al)) mixed Tryz.func94 (by kernel_rfl) (by kernel_rfl) λx h=>u7 x.1 x.2.1 h
theorem Aca (t:TT) (p:PP) (h:Kf t/\Cl p):fnW Cc (look [(87,Kj)]) sm Tryz.f86 (t,p,()) (λ(z:Bool)=>z=!Dd p t):=by
 exact Eq.mp (Ad0 t p _) ⟨_,if_pos ⟨h.2,h.1⟩,rfl⟩
theorem HN:Sound Tryz.prog 86 sm:=
 Sound.Co Bg (Ae kr Al) mixed Tryz.func86 (by kernel_rfl) (by kernel_rfl) λx h=>Aca x.1 x.2.1 h
theorem XP (ts:List TT) (c:PP×Unit) (h:Fc ts/\Cl c.1):fnW Cc (look [(86,sm)]) kb Tryz.f112 (ts,c,()) (λ(z:Int)=>z=Lk (λt=>!Dd c.1 t) ts 0):=by
 obtain ⟨⟨h1,h2⟩,h3⟩:=h
 refine Eq.mp (YO ts c _) ?_
 refine Ah ts.length (λv=>v.1) (λj _=>Lk (λt=>!Dd c.1 t) (ts.drop j) j=Lk (λt=>!Dd c.1 t) ts 0) rfl (by simp) ?_
 rintro j ⟨i,⟨⟩⟩ K hj hi hR hK
 dsimp only at hi⊢
 subst hi
 refine Br.dec (λhl=>?_) λhl=>?_
 ·have hl:j<ts.length:=by omega
  rw [List.drop_eq_getElem_cons hl] at hR
  simp only [Lk] at hR
  refine ⟨_,Ap hl,_,if_pos ⟨h2 _ (List.getElem_mem hl),h3⟩,⟨λhe=>?_,λhe=>?_⟩⟩
  ·have he:(!Dd c.1 ts[j])=true:=he
   rw [if_pos he] at hR
   exact hR
  ·have he:(!Dd c.1 ts[j])=false:=he
   rw [if_neg (by rw [he];decide)] at hR
   rw [Ag (by omega)]
   exact hK hl _ rfl (by push_cast;exact hR)
 ·have:j=ts.length:=by omega
  subst this
  rw [List.drop_length] at hR
  exact hR
theorem BL:Sound Tryz.prog 112 kb:=
 Sound.Co Bg (Ae HN Al) mixed Tryz.func112 (by kernel_rfl) (by kernel_rfl) λx h=>XP x.1 x.2.1 h
theorem nE (q:TT->Bool): ∀(ts:List TT) (k:Int),0<=k->decide (Lk q ts k>=0)=ts.any q
 | [],k,_=>by simp [Lk]
 |t::ts,k,hk=>by
  have ih:=nE q ts (k+1) (by omega)
  rw [List.any_cons]
  by_cases e:q t=true
  ·have e2:Lk q (t::ts) k=k:=if_pos e
   rw [e]
   exact decide_eq_true (by rw [e2];exact hk)
  ·have e2:Lk q (t::ts) k=Lk q ts (k+1):=if_neg e
   rw [Bool.eq_false_iff.2 e,Bool.false_or,<-ih]
   exact decide_eq_decide.2 (by rw [e2])
theorem XL (ts:List TT) (c:PP×Unit) (h:Fc ts/\Cl c.1):fnW Cc (look [(112,kb)]) jZ Tryz.f85 (ts,c,()) (λ(z:Bool)=>z=List.any ts (λt=>!Dd c.1 t)):=by
 exact Eq.mp (YK ts c _) ⟨_,if_pos h,nE _ ts 0 (Int.le_refl 0)⟩
theorem BI:Sound Tryz.prog 85 jZ:=
 Sound.Co Bg (Ae BL Al) mixed Tryz.func85 (by kernel_rfl) (by kernel_rfl) λx h=>XL x.1 x.2.1 h
theorem vL (q:TT->Bool) (ts:List TT):(!List.any ts λt=>!q t)=List.all ts q:=by
 induction ts with
 |nil=>rfl
 |cons t ts ih=>simp only [List.any_cons,List.all_cons,<-ih];cases q t<;>simp
theorem o3 (p:PP) (ts:List TT) (h:Cl p/\Fc ts):fnW Cc (look [(84,Du),(85,jZ)]) Gq Tryz.f63 (p,ts,()) (λ(z:Bool)=>z=Cx p ts):=by
 refine Eq.mp (pk p ts _) ⟨_,if_pos h.1,⟨λhv=>Br.dec (λhl=>⟨_,if_pos ⟨h.2,h.1⟩,?_⟩) λhl=>?_,λhv=>?_⟩⟩
 ·have hv:Bv p=true:=hv
  have hl:ts.length<=4:=by omega
  show (!List.any ts λt=>!Dd p t)=_
  rw [vL]
  unfold Cx
  rw [hv,decide_eq_true hl];rfl
 ·unfold Cx
  rw [decide_eq_false (by omega),Bool.and_false];rfl
 ·have hv:Bv p=false:=hv
  unfold Cx
  rw [hv];rfl
theorem gr:Sound Tryz.prog 63 Gq:=
 Sound.Co Bg (Ae Rd (Ae BI Al)) mixed Tryz.func63 (by kernel_rfl) (by kernel_rfl) λx h=>o3 x.1 x.2.1 h
theorem o4 (p:PP) (ts:List TT) (h:Cl p/\Fc ts):fnW Cc (look [(93,Du),(94,Kj)]) Gq Tryz.f72 (p,ts,()) (λ(z:Bool)=>z=Cx p ts):=by
 refine Eq.mp (pn p ts _) ⟨_,if_pos h.1,⟨λhv=>?_,λhv=>Br.dec (λhl=>?_) λhl=>?_⟩⟩
 ·have hv:Bv p=false:=Bool.eq_false_iff.2 (Dj hv)
  unfold Cx
  rw [hv];rfl
 ·unfold Cx
  rw [decide_eq_false (by omega),Bool.and_false];rfl
 ·have hv:Bv p=true:=De hv
  have hl:ts.length<=4:=by omega
  have e:Cx p ts=List.all ts (Dd p):=by
   unfold Cx
   rw [hv,decide_eq_true hl];rfl
  rw [e]
  refine Ah ts.length (λv=>v.1) (λj v=>v.2.1=p.1/\v.2.2.1=p.2.1/\v.2.2.2.1=p.2.2.1/\List.all (ts.drop j) (Dd p)=List.all ts (Dd p)) rfl ⟨rfl,rfl,rfl,by simp⟩ ?_
  rintro j ⟨i,n1,n2,n3,⟨⟩⟩ K hj hi ⟨h1,h2,h3,hR⟩ hK
  dsimp only at hi h1 h2 h3 hR⊢
  subst hi h1 h2 h3
  refine Br.dec (λhl=>?_) λhl=>?_
  ·have hl:j<ts.length:=by omega
   rw [List.drop_eq_getElem_cons hl,List.all_cons] at hR
   refine ⟨_,Ap hl,_,if_pos ⟨h.1,h.2.2 _ (List.getElem_mem hl)⟩,⟨λhe=>?_,λhe=>?_⟩⟩
   ·have he:Dd p ts[j]=false:=Bool.eq_false_iff.2 (Dj he)
    rw [he,Bool.false_and] at hR
    exact hR
   ·have he:Dd p ts[j]=true:=De he
    rw [he,Bool.true_and] at hR
    rw [Ag (by omega)]
    exact hK hl _ rfl ⟨rfl,rfl,rfl,hR⟩
  ·have:j=ts.length:=by omega
   subst this
   rw [List.drop_length] at hR
   exact hR
theorem gw:Sound Tryz.prog 72 Gq:=
 Sound.Co Bg (Ae Re (Ae ku Al)) mixed Tryz.func72 (by kernel_rfl) (by kernel_rfl) λx h=>o4 x.1 x.2.1 h
theorem XV (ts:List TT) (k:Int) (h:Fc ts/\roomy k):fnW Cc (look [(46,Uk)]) ke Tryz.f14 (ts,k,()) (λ(z:Int)=>z=zM ts k):=by
 obtain ⟨⟨h1,h2⟩,h3,h4⟩:=h
 refine Eq.mp (YU ts k _) ?_
 rw [Cp (by omega) (by omega)]
 refine Br.dec (λhn=>?_) λhn=>?_
 ·exact (if_pos hn).symm
 ·have e:zM ts k=ky ts (k-ts.length):=if_neg hn
  rw [e]
  refine Ah ts.length (λv=>v.2.1) (λj v=>roomy v.1/\ky (ts.drop j) v.1=ky ts (k-ts.length)) rfl ⟨⟨by omega,by omega⟩,by simp⟩ ?_
  rintro j ⟨r,i,⟨⟩⟩ K hj hi ⟨hr,hR⟩ hK
  dsimp only at hi hr hR⊢
  subst hi
  refine Br.dec (λhl=>?_) λhl=>?_
  ·have hl:j<ts.length:=by omega
   rw [List.drop_eq_getElem_cons hl] at hR
   simp only [ky] at hR
   refine ⟨_,Ap hl,_,if_pos ⟨h2 _ (List.getElem_mem hl),hr⟩,Br.dec (λhm=>?_) λhm=>?_⟩
   ·have hm:Ma ts[j] r<0:=hm
    rw [if_pos hm] at hR
    exact hR
   ·have hm: ¬Ma ts[j] r<0:=hm
    rw [if_neg hm] at hR
    rw [Ag (by omega)]
    exact hK hl _ rfl ⟨nO hr hm,hR⟩
  ·have:j=ts.length:=by omega
   subst this
   rw [List.drop_length] at hR
   exact hR
theorem BO:Sound Tryz.prog 14 ke:=
 Sound.Co Bg (Ae qA Al) mixed Tryz.func14 (by kernel_rfl) (by kernel_rfl) λx h=>XV x.1 x.2.1 h
theorem XX (ts:List TT) (h:Fc ts):fnW Cc (look [(50,Ul)]) da Tryz.f17 (ts,()) (λ(z:List TT)=>z=ts):=by
 obtain ⟨h,h4⟩:=h
 refine Eq.mp (YW ts _) ?_
 refine ⟨⟨by omega,by show (ts.length:Int)<(4294967296:Int)+1;omega⟩,rfl,rfl,rfl,?_⟩
 refine Ah ts.length (λv=>v.1) (λj v=>v.2.1.length=ts.length/\v.2.1.take j=ts.take j) rfl ⟨by simp,by simp⟩ ?_
 rintro j ⟨i,ys,⟨⟩⟩ K hj hi ⟨h1,h2⟩ hK
 dsimp only at hi h1 h2⊢
 subst hi
 refine Br.dec (λhl=>?_) λhl=>?_
 ·have hl:j<ts.length:=by omega
  refine ⟨_,Ap hl,_,if_pos (h4 _ (List.getElem_mem hl)),⟨by omega,by omega⟩,by rw [Int.toNat_natCast];omega,rfl,by rw [List.length_set],?_⟩
  rw [Ag (by omega),Int.toNat_natCast,Nat.zero_add]
  exact hK hl _ rfl ⟨by rw [List.length_set];exact h1,Kq hl h1 h2⟩
 ·have:j=ts.length:=by omega
  subst this
  rw [List.take_length,<-h1,List.take_length] at h2
  rw [List.drop_zero,List.take_length]
  exact h2
theorem BP:Sound Tryz.prog 17 da:=
 Sound.Co Bg (Ae qB Al) mixed Tryz.func17 (by kernel_rfl) (by kernel_rfl) λx h=>XX x.1 h
theorem jJ {a b:TT} :Jq a b=true↔a=b:=by
 obtain ⟨a1,a2,a3,⟨⟩⟩:=a
 obtain ⟨b1,b2,b3,⟨⟩⟩:=b
 simp [Jq]
theorem XN (a b:List TT) (h:Fc a):fnW Cc (look [(54,Ei)]) k8 Tryz.f21 (a,b,()) (λ(z:Bool)=>z=decide (a=b)):=by
 obtain ⟨h1,h2⟩:=h
 refine Eq.mp (YM a b _) ⟨λhl=>?_,λhl=>?_⟩
 ·have hl:a.length≠b.length:=by
   have:(a.length:Int)≠b.length:=by simpa using hl
   omega
  exact (decide_eq_false λe=>hl (by rw [e])).symm
 ·have hl:a.length=b.length:=by
   have:(a.length:Int)=b.length:=by simpa using hl
   omega
  refine Ah a.length (λv=>v.1) (λj _=>(a=b↔a.drop j=b.drop j)) rfl (by simp) ?_
  rintro j ⟨i,⟨⟩⟩ K hj hi hR hK
  dsimp only at hi⊢
  subst hi
  refine Br.dec (λZJ=>?_) λZJ=>?_
  ·have ZJ:j<a.length:=by omega
   have ZK:j<b.length:=by omega
   rw [List.drop_eq_getElem_cons ZJ,List.drop_eq_getElem_cons ZK] at hR
   refine ⟨_,Ap ZJ,_,Ap ZK,_,if_pos (h2 _ (List.getElem_mem ZJ)),⟨λhe=>?_,λhe=>?_⟩⟩
   ·have he: ¬Jq a[j] b[j]=true:=Dj he
    refine (decide_eq_false λe=>he (jJ.2 ?_)).symm
    have:=hR.1 e
    simp only [List.cons.injEq] at this
    exact this.1
   ·have he:Jq a[j] b[j]=true:=De he
    rw [jJ.1 he] at hR
    rw [Ag (by omega)]
    exact hK ZJ _ rfl (hR.trans ⟨λe=>(List.cons.inj e).2,λe=>by rw [e]⟩)
  ·have:j=a.length:=by omega
   subst this
   rw [List.drop_length,hl,List.drop_length] at hR
   exact (decide_eq_true (hR.2 rfl)).symm
theorem BJ:Sound Tryz.prog 21 k8:=
 Sound.Co Bg (Ae qo Al) mixed Tryz.func21 (by kernel_rfl) (by kernel_rfl) λx h=>XN x.1 x.2.1 h
end Go.Proofs.YtfolipnappekaaaGreat
