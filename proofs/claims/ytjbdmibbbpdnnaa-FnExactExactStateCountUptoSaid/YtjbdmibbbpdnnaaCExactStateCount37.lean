/-
  Part 38 of the proof that the statement FnExactExactStateCount holds.
-/
import Derived.Test.YtjbdmibbbpdnnaaCExactStateCount36
import Derived.KernelRfl
namespace Go.Proofs.Ytjbdmibbbpdnnaa
open Go.RowKit
def Hc (x a b:Int):Bool:=decide (a<=x/\x<=b)
def de (n x:Int):Bool:=decide (0<=x/\x<=IntKind.i64.wrap (n-1))
def Av (a b:List Int):Bool:=decide (a=b)
def dX (xs:List Int) (x:Int):Bool:=decide (x∈xs)
def short (xs:List Int):Prop:=xs.length<=4294967296
noncomputable abbrev Bm:Spec:=Cu (.pair tI (.pair tI (.pair tI .unit))) .bool false true (λ_=>True) (λx=>Hc x.1 x.2.1 x.2.2.1)
noncomputable abbrev Tw:Spec:=Cu (.pair tI (.pair tI .unit)) .bool false true (λ_=>True) (λx=>de x.1 x.2.1)
noncomputable abbrev Aq:Spec:=Cu (.pair tL (.pair tL .unit)) .bool false true (λx=>short x.1) (λx=>Av x.1 x.2.1)
noncomputable abbrev Km:Spec:=Cu (.pair tL (.pair tI .unit)) .bool false true (λx=>short x.1) (λx=>dX x.1 x.2.1)
theorem EW (x a b:Int) (P:Bool->Prop):(Br (decide (x>=a)) (P (decide (x<=b))) (P false))=fnW Cj (look []) Bm Try.f93 (x,a,b,()) P:=by kernel_rfl
theorem KP (x a b:Int) (P:Bool->Prop):(Br (decide (x>=a)) (P (decide (x<=b))) (P false))=fnW Cj (look []) Bm Try.f97 (x,a,b,()) P:=by kernel_rfl
theorem EZ (n x:Int) (P:Bool->Prop):(∃(y3:Bool),Bm.fn (x,0,IntKind.i64.wrap (n-1),())=some y3/\P y3)=fnW Cj (look [(97,Bm)]) Tw Try.f116 (n,x,()) P:=by kernel_rfl
theorem wU (a b:List Int) (P:Bool->Prop):(Br ((↑a.length:Int) !=(↑b.length:Int)) (P false) (Bl (λ(v3:Int×PUnit) (k4:Int×PUnit->Prop)=>Br (decide (v3.1<(↑a.length:Int))) (∃(y5:Int),idx a v3.1=some y5/\ ∃(y6:Int),idx b v3.1=some y6/\Br (y5 !=y6) (P false) (k4 (IntKind.i64.wrap (v3.1+1),()))) (P true)) (0,PUnit.unit)))=fnW Cj (look []) Aq Try.f105 (a,b,()) P:=by kernel_rfl
theorem pI (a b:List Int) (P:Bool->Prop):(Br ((↑a.length:Int) !=(↑b.length:Int)) (P false) (Bl (λ(v3:Int×PUnit) (k4:Int×PUnit->Prop)=>Br (decide (v3.1<(↑a.length:Int))) (∃(y5:Int),idx a v3.1=some y5/\ ∃(y6:Int),idx b v3.1=some y6/\Br (y5 !=y6) (P false) (k4 (IntKind.i64.wrap (v3.1+1),()))) (P true)) (0,PUnit.unit)))=fnW Cj (look []) Aq Try.f181 (a,b,()) P:=by kernel_rfl
theorem pD (xs:List Int) (x:Int) (P:Bool->Prop):(Bl (λ(v3:Int×PUnit) (k4:Int×PUnit->Prop)=>Br (decide (v3.1<(↑xs.length:Int))) (∃(y5:Int),idx xs v3.1=some y5/\Br (y5==x) (P true) (k4 (IntKind.i64.wrap (v3.1+1),()))) (P false)) (0,PUnit.unit))=fnW Cj (look []) Km Try.f153 (xs,x,()) P:=by kernel_rfl
theorem CZ (x a b:Int) (_:True):fnW Cj (look []) Bm Try.f93 (x,a,b,()) (λ(z:Bool)=>z=Hc x a b):=by
 refine Eq.mp (EW x a b _) ?_
 refine Br.dec (λh=>?_) λh=>?_
 ·have h:a<=x:=h
  simp [Hc,h]
 ·exact (decide_eq_false λhh=>h hh.1).symm
theorem Wx:Sound Try.prog 93 Bm:=
 Sound.Cu Bj Ao mixed Try.func93 (by kernel_rfl) (by kernel_rfl) λx h=>CZ x.1 x.2.1 x.2.2.1 h
theorem JC (x a b:Int) (_:True):fnW Cj (look []) Bm Try.f97 (x,a,b,()) (λ(z:Bool)=>z=Hc x a b):=by
 refine Eq.mp (KP x a b _) ?_
 refine Br.dec (λh=>?_) λh=>?_
 ·have h:a<=x:=h
  simp [Hc,h]
 ·exact (decide_eq_false λhh=>h hh.1).symm
theorem Pl:Sound Try.prog 97 Bm:=
 Sound.Cu Bj Ao mixed Try.func97 (by kernel_rfl) (by kernel_rfl) λx h=>JC x.1 x.2.1 x.2.2.1 h
theorem DB (n x:Int) (_:True):fnW Cj (look [(97,Bm)]) Tw Try.f116 (n,x,()) (λ(z:Bool)=>z=de n x):=
 Eq.mp (EZ n x _) ⟨_,if_pos trivial,rfl⟩
theorem pj:Sound Try.prog 116 Tw:=
 Sound.Cu Bj (Ae Pl Ao) mixed Try.func116 (by kernel_rfl) (by kernel_rfl) λx h=>DB x.1 x.2.1 h
theorem oU (xs:List Int) (x:Int) (h:short xs):fnW Cj (look []) Km Try.f153 (xs,x,()) (λ(z:Bool)=>z=dX xs x):=by
 refine Eq.mp (pD xs x _) ?_
 unfold short at h
 refine Ai xs.length (λv=>v.1) (λj _=>x∉xs.take j) rfl (by simp) ?_
 rintro j ⟨i,⟨⟩⟩ K hj hi hR hK
 dsimp only at hi⊢
 subst hi
 refine Br.dec (λhl=>?_) λhl=>?_
 ·have hl:j<xs.length:=by omega
  refine ⟨_,An hl,⟨λhe=>?_,λhe=>?_⟩⟩
  ·have hm:=List.getElem_mem hl
   simp only [beq_iff_eq] at he
   rw [he] at hm
   exact (decide_eq_true hm).symm
  ·rw [Ag (by omega)]
   refine hK hl _ rfl ?_
   simp only [beq_eq_false_iff_ne,ne_eq] at he
   rw [List.take_succ_eq_append_getElem hl]
   simp only [List.mem_append,List.mem_singleton,not_or]
   exact ⟨hR,λhx=>he hx.symm⟩
 ·have:j=xs.length:=by omega
  subst this
  rw [List.take_length] at hR
  exact (decide_eq_false hR).symm
theorem gT:Sound Try.prog 153 Km:=
 Sound.Cu Bj Ao mixed Try.func153 (by kernel_rfl) (by kernel_rfl) λx h=>oU x.1 x.2.1 h
theorem rD (a b:List Int) (hlen:a.length=b.length) (h:short a):
  Bl (λ(v3:Int×PUnit) (k4:Int×PUnit->Prop)=>
   Br (decide (v3.1<(↑a.length:Int))) (∃(y5:Int),idx a v3.1=some y5/\ ∃(y6:Int),idx b v3.1=some y6/\Br (y5 !=y6) (false=Av a b) (k4 (IntKind.i64.wrap (v3.1+1),())))
    (true=Av a b))
  (0,PUnit.unit):=by
 unfold short at h
 refine Ai a.length (λv=>v.1) (λj _=>a.take j=b.take j) rfl (by simp) ?_
 rintro j ⟨i,⟨⟩⟩ K hj hi hR hK
 dsimp only at hi⊢
 subst hi
 refine Br.dec (λhl=>?_) λhl=>?_
 ·have cZ:j<a.length:=by omega
  have tS:j<b.length:=by omega
  refine ⟨_,An cZ,_,An tS,⟨λhe=>?_,λhe=>?_⟩⟩
  ·simp only [bne_iff_ne,ne_eq] at he
   refine (decide_eq_false λeT=>he ?_).symm
   subst eT
   rfl
  ·rw [Ag (by omega)]
   refine hK cZ _ rfl ?_
   simp only [bne_eq_false_iff_eq] at he
   rw [List.take_succ_eq_append_getElem cZ,List.take_succ_eq_append_getElem tS,hR,he]
 ·have tQ:j=a.length:=by omega
  subst tQ
  rw [List.take_length,hlen,List.take_length] at hR
  exact (decide_eq_true hR).symm
theorem w5 (a b:List Int) (h:short a):fnW Cj (look []) Aq Try.f105 (a,b,()) (λ(z:Bool)=>z=Av a b):=by
 refine Eq.mp (wU a b _) ⟨λhl=>?_,λhl=>?_⟩
 ·simp only [bne_iff_ne,ne_eq,Int.natCast_inj] at hl
  exact (decide_eq_false λeT=>hl (by rw [eT])).symm
 ·simp only [bne_eq_false_iff_eq,Int.natCast_inj] at hl
  exact rD a b hl h
theorem So:Sound Try.prog 105 Aq:=
 Sound.Cu Bj Ao mixed Try.func105 (by kernel_rfl) (by kernel_rfl) λx h=>w5 x.1 x.2.1 h
theorem oZ (a b:List Int) (h:short a):fnW Cj (look []) Aq Try.f181 (a,b,()) (λ(z:Bool)=>z=Av a b):=by
 refine Eq.mp (pI a b _) ⟨λhl=>?_,λhl=>?_⟩
 ·simp only [bne_iff_ne,ne_eq,Int.natCast_inj] at hl
  exact (decide_eq_false λeT=>hl (by rw [eT])).symm
 ·simp only [bne_eq_false_iff_eq,Int.natCast_inj] at hl
  exact rD a b hl h
theorem We:Sound Try.prog 181 Aq:=
 Sound.Cu Bj Ao mixed Try.func181 (by kernel_rfl) (by kernel_rfl) λx h=>oZ x.1 x.2.1 h
end Go.Proofs.Ytjbdmibbbpdnnaa

namespace Go.Proofs.Ytjbdmibbbpdnnaa
open Go.RowKit
abbrev TT:Type:=List Int×List (List Int)×List Int×Unit
def Fu (xs:List (List Int)):Prop:=xs.length<=4294967296/\ ∀r∈xs,short r
def Ka (t:TT):Prop:=short t.1/\Fu t.2.1/\short t.2.2.1
def roomy (room:Int):Prop:=0<=room/\room<=4294967296
def iS (n:Nat) (room:Int):Int:=if room-n<0 then-1 else room-n
def Uy (xs:List Int) (room:Int):Int:=iS xs.length room
def nY:List (List Int)->Int->Int
 | [],room=>room
 |r::rs,room=>if Uy r room<0 then-1 else nY rs (Uy r room)
def Mi (xs:List (List Int)) (room:Int):Int:=if iS xs.length room<0 then-1 else nY xs (iS xs.length room)
def Lw (t:TT) (room:Int):Int:=
 if Uy t.1 room<0 then-1 else if Mi t.2.1 (Uy t.1 room)<0 then-1 else
 if Uy t.2.2.1 (Mi t.2.1 (Uy t.1 room))<0 then-1 else Uy t.2.2.1 (Mi t.2.1 (Uy t.1 room))
def Lg (a b:List (List Int)):Bool:=decide (a=b)
def Jn (a b:TT):Bool:=decide (a.1=b.1)&&(decide (a.2.1=b.2.1)&&decide (a.2.2.1=b.2.2.1))
noncomputable abbrev eb:Spec:=Cu (.pair tL (.pair tI .unit)) tI false true (λx=>short x.1/\roomy x.2.1) (λx=>Uy x.1 x.2.1)
noncomputable abbrev ab:Spec:=Cu (.pair dt (.pair tI .unit)) tI false true (λx=>Fu x.1/\roomy x.2.1) (λx=>Mi x.1 x.2.1)
noncomputable abbrev Ub:Spec:=Cu (.pair Gx (.pair tI .unit)) tI false true (λx=>Ka x.1/\roomy x.2.1) (λx=>Lw x.1 x.2.1)
noncomputable abbrev ec:Spec:=Cu (.pair tL .unit) tL false true (λx=>short x.1) (λx=>x.1)
noncomputable abbrev ae:Spec:=Cu (.pair dt .unit) dt false true (λx=>Fu x.1) (λx=>x.1)
noncomputable abbrev Uc:Spec:=Cu (.pair Gx .unit) Gx false true (λx=>Ka x.1) (λx=>x.1)
noncomputable abbrev Nm:Spec:=Cu (.pair dt (.pair dt .unit)) .bool false true (λx=>Fu x.1) (λx=>Lg x.1 x.2.1)
noncomputable abbrev Em:Spec:=Cu (.pair Gx (.pair Gx .unit)) .bool false true (λx=>Ka x.1) (λx=>Jn x.1 x.2.1)
theorem ZU (xs:List Int) (room:Int) (P:Int->Prop):(Br (decide (IntKind.i64.wrap (room-(↑xs.length:Int))<0)) (P (-1)) (P (IntKind.i64.wrap (room-(↑xs.length:Int)))))=fnW Cj (look []) eb Try.f74 (xs,room,()) P:=by kernel_rfl
theorem UD (xs:List (List Int)) (room:Int) (P:Int->Prop):(Br (decide (IntKind.i64.wrap (room-(↑xs.length:Int))<0)) (P (-1)) (Bl (λ(v3:Int×Int×PUnit) (k4:Int×Int×PUnit->Prop)=>Br (decide (v3.2.1<(↑xs.length:Int))) (∃(y5:List Int),idx xs v3.2.1=some y5/\ ∃(y6:Int),eb.fn (y5,v3.1,())=some y6/\Br (decide (y6<0)) (P (-1)) (k4 (y6,IntKind.i64.wrap (v3.2.1+1),()))) (P v3.1)) (IntKind.i64.wrap (room-(↑xs.length:Int)),0,PUnit.unit)))=fnW Cj (look [(74,eb)]) ab Try.f34 (xs,room,()) P:=by kernel_rfl
theorem FG (t:List Int×List (List Int)×List Int×Unit) (room:Int) (P:Int->Prop):(∃(y3:Int),eb.fn (t.1,room,())=some y3/\Br (decide (y3<0)) (P (-1)) (∃(y4:Int),ab.fn (t.2.1,y3,())=some y4/\Br (decide (y4<0)) (P (-1)) (∃(y5:Int),eb.fn (t.2.2.1,y4,())=some y5/\Br (decide (y5<0)) (P (-1)) (P y5))))=fnW Cj (look [(74,eb),(34,ab)]) Ub Try.f85 (t,room,()) P:=by kernel_rfl
theorem ZW (xs:List Int) (P:List Int->Prop):((0<=(↑xs.length:Int)/\(↑xs.length:Int)<(↑Bh:Int)+1)/\(↑xs.length:Int)=(↑xs.length:Int)/\0=0/\(List.replicate (↑xs.length:Int).toNat (Int.ofNat 0)).length=(List.replicate (↑xs.length:Int).toNat (Int.ofNat 0)).length/\Bl (λ(v2:Int×List Int×PUnit) (k3:Int×List Int×PUnit->Prop)=>Br (decide (v2.1<(↑xs.length:Int))) (∃(y4:Int),idx xs v2.1=some y4/\(0<=v2.1/\v2.1<(↑v2.2.1.length:Int))/\0+v2.1.toNat<v2.2.1.length/\0=0/\v2.2.1.length=(v2.2.1.set (0+v2.1.toNat) y4).length/\k3 (IntKind.i64.wrap (v2.1+1),v2.2.1.set (0+v2.1.toNat) y4,())) (P (List.take v2.2.1.length (List.drop 0 v2.2.1)))) (0,List.replicate (↑xs.length:Int).toNat (Int.ofNat 0),PUnit.unit))=fnW Cj (look []) ec Try.f17 (xs,()) P:=by kernel_rfl
theorem UF (xs:List (List Int)) (P:List (List Int)->Prop):((0<=(↑xs.length:Int)/\(↑xs.length:Int)<(↑Bh:Int)+1)/\(↑xs.length:Int)=(↑xs.length:Int)/\0=0/\(List.replicate (↑xs.length:Int).toNat ([]:List Int)).length=(List.replicate (↑xs.length:Int).toNat ([]:List Int)).length/\Bl (λ(v2:Int×List (List Int)×PUnit) (k3:Int×List (List Int)×PUnit->Prop)=>Br (decide (v2.1<(↑xs.length:Int))) (∃(y4:List Int),idx xs v2.1=some y4/\ ∃(y5:List Int),ec.fn (y4,())=some y5/\(0<=v2.1/\v2.1<(↑v2.2.1.length:Int))/\0+v2.1.toNat<v2.2.1.length/\0=0/\v2.2.1.length=(v2.2.1.set (0+v2.1.toNat) y5).length/\k3 (IntKind.i64.wrap (v2.1+1),v2.2.1.set (0+v2.1.toNat) y5,())) (P (List.take v2.2.1.length (List.drop 0 v2.2.1)))) (0,List.replicate (↑xs.length:Int).toNat ([]:List Int),PUnit.unit))=fnW Cj (look [(17,ec)]) ae Try.f36 (xs,()) P:=by kernel_rfl
theorem FH (t:List Int×List (List Int)×List Int×Unit) (P:(List Int×List (List Int)×List Int×Unit)->Prop):(∃(y2:List Int),ec.fn (t.1,())=some y2/\ ∃(y3:List (List Int)),ae.fn (t.2.1,())=some y3/\ ∃(y4:List Int),ec.fn (t.2.2.1,())=some y4/\P (y2,y3,y4,()))=fnW Cj (look [(17,ec),(36,ae)]) Uc Try.f88 (t,()) P:=by kernel_rfl
theorem ZP (a b:List Int) (P:Bool->Prop):(Br ((↑a.length:Int) !=(↑b.length:Int)) (P false) (Bl (λ(v3:Int×PUnit) (k4:Int×PUnit->Prop)=>Br (decide (v3.1<(↑a.length:Int))) (∃(y5:Int),idx a v3.1=some y5/\ ∃(y6:Int),idx b v3.1=some y6/\Br (y5 !=y6) (P false) (k4 (IntKind.i64.wrap (v3.1+1),()))) (P true)) (0,PUnit.unit)))=fnW Cj (look []) Aq Try.f20 (a,b,()) P:=by kernel_rfl
theorem TX (a b:List (List Int)) (P:Bool->Prop):(Br ((↑a.length:Int) !=(↑b.length:Int)) (P false) (Bl (λ(v3:Int×PUnit) (k4:Int×PUnit->Prop)=>Br (decide (v3.1<(↑a.length:Int))) (∃(y5:List Int),idx a v3.1=some y5/\ ∃(y6:List Int),idx b v3.1=some y6/\ ∃(y7:Bool),Aq.fn (y5,y6,())=some y7/\Br (!y7) (P false) (k4 (IntKind.i64.wrap (v3.1+1),()))) (P true)) (0,PUnit.unit)))=fnW Cj (look [(20,Aq)]) Nm Try.f38 (a,b,()) P:=by kernel_rfl
theorem EU (a b:List Int×List (List Int)×List Int×Unit) (P:Bool->Prop):(∃(y3:Bool),Aq.fn (a.1,b.1,())=some y3/\Br (!y3) (P false) (∃(y4:Bool),Nm.fn (a.2.1,b.2.1,())=some y4/\Br (!y4) (P false) (∃(y5:Bool),Aq.fn (a.2.2.1,b.2.2.1,())=some y5/\Br (!y5) (P false) (P true))))=fnW Cj (look [(20,Aq),(38,Nm)]) Em Try.f92 (a,b,()) P:=by kernel_rfl
theorem Ts {n:Nat} {room:Int} (h:roomy room) (h2: ¬iS n room<0):roomy (iS n room):=by
 unfold iS roomy at*
 split at h2<;>simp_all
 omega
theorem YX (xs:List Int) (room:Int) (h:short xs/\roomy room):fnW Cj (look []) eb Try.f74 (xs,room,()) (λ(z:Int)=>z=Uy xs room):=by
 obtain ⟨h1,h2,h3⟩:=h
 unfold short at h1
 refine Eq.mp (ZU xs room _) ?_
 rw [Ci (by omega) (by omega)]
 refine Br.dec (λh=>?_) λh=>?_
 ·simp only [Uy,iS,if_pos h]
 ·simp only [Uy,iS,if_neg h]
theorem qS:Sound Try.prog 74 eb:=
 Sound.Cu Bj Ao mixed Try.func74 (by kernel_rfl) (by kernel_rfl) λx h=>YX x.1 x.2.1 h
theorem TF (xs:List (List Int)) (room:Int) (h:Fu xs/\roomy room):fnW Cj (look [(74,eb)]) ab Try.f34 (xs,room,()) (λ(z:Int)=>z=Mi xs room):=by
 obtain ⟨⟨h1,h4⟩,h2,h3⟩:=h
 refine Eq.mp (UD xs room _) ?_
 rw [Ci (by omega) (by omega)]
 refine Br.dec (λh=>?_) λh=>?_
 ·simp only [Mi,iS,if_pos h];rfl
 ·refine Ai xs.length (λv=>v.2.1) (λj v=>roomy v.1/\nY (xs.drop j) v.1=Mi xs room) rfl ?_ ?_
  ·refine ⟨by unfold roomy;omega,?_⟩
   simp only [Mi,iS,if_neg h,List.drop_zero]
  ·rintro j ⟨r,i,⟨⟩⟩ K hj hi ⟨hr,hR⟩ hK
   dsimp only at hi hr hR⊢
   subst hi
   refine Br.dec (λhl=>?_) λhl=>?_
   ·have hl:j<xs.length:=by omega
    have hd:xs.drop j=xs[j]::xs.drop (j+1):=List.drop_eq_getElem_cons hl
    refine ⟨_,An hl,_,if_pos ⟨h4 _ (List.getElem_mem hl),hr⟩,?_⟩
    rw [hd] at hR
    simp only [nY] at hR
    refine Br.dec (λhn=>?_) λhn=>?_
    ·have hn:Uy xs[j] r<0:=hn
     rw [if_pos hn] at hR
     exact hR
    ·have hn: ¬Uy xs[j] r<0:=hn
     rw [if_neg hn] at hR
     rw [Ag (by omega)]
     exact hK hl _ rfl ⟨Ts hr hn,hR⟩
   ·have:j=xs.length:=by omega
    subst this
    rw [List.drop_length] at hR
    exact hR
theorem nO:Sound Try.prog 34 ab:=
 Sound.Cu Bj (Ae qS Ao) mixed Try.func34 (by kernel_rfl) (by kernel_rfl) λx h=>TF x.1 x.2.1 h
theorem qV: ∀(xs:List (List Int)) (room:Int),roomy room-> ¬nY xs room<0->roomy (nY xs room)
 | [],room,h,_=>h
 |r::rs,room,h,h2=>by
  simp only [nY] at h2⊢
  split
  ·rename_i hn;rw [if_pos hn] at h2;exact absurd (show (-1:Int)<0 by decide) h2
  ·rename_i hn;rw [if_neg hn] at h2;exact qV rs _ (Ts h hn) h2
theorem jR {xs:List (List Int)} {room:Int} (h:roomy room) (h2: ¬Mi xs room<0):roomy (Mi xs room):=by
 unfold Mi at*
 split
 ·rename_i hn;rw [if_pos hn] at h2;exact absurd (show (-1:Int)<0 by decide) h2
 ·rename_i hn;rw [if_neg hn] at h2;exact qV _ _ (Ts h hn) h2
theorem DI (t:TT) (room:Int) (h:Ka t/\roomy room):fnW Cj (look [(74,eb),(34,ab)]) Ub Try.f85 (t,room,()) (λ(z:Int)=>z=Lw t room):=by
 obtain ⟨⟨h1,h2,h3⟩,hr⟩:=h
 refine Eq.mp (FG t room _) ?_
 refine ⟨_,if_pos ⟨h1,hr⟩,Br.dec (λhn=>?_) λhn=>?_⟩
 ·exact (if_pos hn).symm
 ·have r1:=Ts hr hn
  refine ⟨_,if_pos ⟨h2,r1⟩,Br.dec (λhm=>?_) λhm=>?_⟩
  ·exact ((if_neg hn).trans (if_pos hm)).symm
  ·have r2:=jR r1 hm
   refine ⟨_,if_pos ⟨h3,r2⟩,Br.dec (λhk=>?_) λhk=>?_⟩
   ·exact ((if_neg hn).trans ((if_neg hm).trans (if_pos hk))).symm
   ·exact ((if_neg hn).trans ((if_neg hm).trans (if_neg hk))).symm
theorem pv:Sound Try.prog 85 Ub:=
 Sound.Cu Bj (Ae qS (Ae nO Ao)) mixed Try.func85 (by kernel_rfl) (by kernel_rfl) λx h=>DI x.1 x.2.1 h
theorem Kp {α:Type} {ys xs:List α} {j:Nat} (h:j<xs.length) (hl:ys.length=xs.length) (ht:ys.take j=xs.take j):(ys.set j xs[j]).take (j+1)=xs.take (j+1):=by
 have h1:j<(ys.set j xs[j]).length:=by rw [List.length_set];omega
 rw [List.take_succ_eq_append_getElem h1,List.take_succ_eq_append_getElem h,List.getElem_set_self,List.take_set_of_le (Nat.le_refl j),ht]
theorem YZ (xs:List Int) (h:short xs):fnW Cj (look []) ec Try.f17 (xs,()) (λ(z:List Int)=>z=xs):=by
 unfold short at h
 refine Eq.mp (ZW xs _) ?_
 refine ⟨⟨by omega,by show (xs.length:Int)<(4294967296:Int)+1;omega⟩,rfl,rfl,rfl,?_⟩
 refine Ai xs.length (λv=>v.1) (λj v=>v.2.1.length=xs.length/\v.2.1.take j=xs.take j) rfl ⟨by simp,by simp⟩ ?_
 rintro j ⟨i,ys,⟨⟩⟩ K hj hi ⟨h1,h2⟩ hK
 dsimp only at hi h1 h2⊢
 subst hi
 refine Br.dec (λhl=>?_) λhl=>?_
 ·have hl:j<xs.length:=by omega
  refine ⟨_,An hl,⟨by omega,by omega⟩,by rw [Int.toNat_natCast];omega,rfl,by rw [List.length_set],?_⟩
  rw [Ag (by omega),Int.toNat_natCast,Nat.zero_add]
  exact hK hl _ rfl ⟨by rw [List.length_set];exact h1,Kp hl h1 h2⟩
 ·have:j=xs.length:=by omega
  subst this
  rw [List.take_length,<-h1,List.take_length] at h2
  rw [List.drop_zero,List.take_length]
  exact h2
theorem qT:Sound Try.prog 17 ec:=
 Sound.Cu Bj Ao mixed Try.func17 (by kernel_rfl) (by kernel_rfl) λx h=>YZ x.1 h
theorem TH (xs:List (List Int)) (h:Fu xs):fnW Cj (look [(17,ec)]) ae Try.f36 (xs,()) (λ(z:List (List Int))=>z=xs):=by
 obtain ⟨h,h4⟩:=h
 refine Eq.mp (UF xs _) ?_
 refine ⟨⟨by omega,by show (xs.length:Int)<(4294967296:Int)+1;omega⟩,rfl,rfl,rfl,?_⟩
 refine Ai xs.length (λv=>v.1) (λj v=>v.2.1.length=xs.length/\v.2.1.take j=xs.take j) rfl ⟨by simp,by simp⟩ ?_
 rintro j ⟨i,ys,⟨⟩⟩ K hj hi ⟨h1,h2⟩ hK
 dsimp only at hi h1 h2⊢
 subst hi
 refine Br.dec (λhl=>?_) λhl=>?_
 ·have hl:j<xs.length:=by omega
  refine ⟨_,An hl,_,if_pos (h4 _ (List.getElem_mem hl)),⟨by omega,by omega⟩,by rw [Int.toNat_natCast];omega,rfl,by rw [List.length_set],?_⟩
  rw [Ag (by omega),Int.toNat_natCast,Nat.zero_add]
  exact hK hl _ rfl ⟨by rw [List.length_set];exact h1,Kp hl h1 h2⟩
 ·have:j=xs.length:=by omega
  subst this
  rw [List.take_length,<-h1,List.take_length] at h2
  rw [List.drop_zero,List.take_length]
  exact h2
theorem nQ:Sound Try.prog 36 ae:=
 Sound.Cu Bj (Ae qT Ao) mixed Try.func36 (by kernel_rfl) (by kernel_rfl) λx h=>TH x.1 h
theorem DJ (t:TT) (h:Ka t):fnW Cj (look [(17,ec),(36,ae)]) Uc Try.f88 (t,()) (λ(z:TT)=>z=t):=by
 refine Eq.mp (FH t _) ?_
 exact ⟨_,if_pos h.1,_,if_pos h.2.1,_,if_pos h.2.2,rfl⟩
theorem pw:Sound Try.prog 88 Uc:=
 Sound.Cu Bj (Ae qT (Ae nQ Ao)) mixed Try.func88 (by kernel_rfl) (by kernel_rfl) λx h=>DJ x.1 h
theorem YS (a b:List Int) (h:short a):fnW Cj (look []) Aq Try.f20 (a,b,()) (λ(z:Bool)=>z=Av a b):=by
 refine Eq.mp (ZP a b _) ⟨λhl=>?_,λhl=>?_⟩
 ·simp only [bne_iff_ne,ne_eq,Int.natCast_inj] at hl
  exact (decide_eq_false λeT=>hl (by rw [eT])).symm
 ·simp only [bne_eq_false_iff_eq,Int.natCast_inj] at hl
  exact rD a b hl h
theorem qR:Sound Try.prog 20 Aq:=
 Sound.Cu Bj Ao mixed Try.func20 (by kernel_rfl) (by kernel_rfl) λx h=>YS x.1 x.2.1 h
theorem SZ (a b:List (List Int)) (h:Fu a):fnW Cj (look [(20,Aq)]) Nm Try.f38 (a,b,()) (λ(z:Bool)=>z=Lg a b):=by
 obtain ⟨h,h4⟩:=h
 refine Eq.mp (TX a b _) ⟨λhl=>?_,λhl=>?_⟩
 ·simp only [bne_iff_ne,ne_eq,Int.natCast_inj] at hl
  exact (decide_eq_false λeT=>hl (by rw [eT])).symm
 ·simp only [bne_eq_false_iff_eq,Int.natCast_inj] at hl
  refine Ai a.length (λv=>v.1) (λj _=>a.take j=b.take j) rfl (by simp) ?_
  rintro j ⟨i,⟨⟩⟩ K hj hi hR hK
  dsimp only at hi⊢
  subst hi
  refine Br.dec (λGu=>?_) λGu=>?_
  ·have cZ:j<a.length:=by omega
   have tS:j<b.length:=by omega
   refine ⟨_,An cZ,_,An tS,_,if_pos (h4 _ (List.getElem_mem cZ)),⟨λhe=>?_,λhe=>?_⟩⟩
   ·refine (decide_eq_false λeT=>?_).symm
    subst eT
    simp [Av] at he
   ·rw [Ag (by omega)]
    refine hK cZ _ rfl ?_
    simp only [Av,Bool.not_eq_false',decide_eq_true_eq] at he
    rw [List.take_succ_eq_append_getElem cZ,List.take_succ_eq_append_getElem tS,hR]
    exact congrArg (λx=>List.take j b++ [x]) he
  ·have tQ:j=a.length:=by omega
   subst tQ
   rw [List.take_length,hl,List.take_length] at hR
   exact (decide_eq_true hR).symm
theorem nF:Sound Try.prog 38 Nm:=
 Sound.Cu Bj (Ae qR Ao) mixed Try.func38 (by kernel_rfl) (by kernel_rfl) λx h=>SZ x.1 x.2.1 h
theorem CX (a b:TT) (h:Ka a):fnW Cj (look [(20,Aq),(38,Nm)]) Em Try.f92 (a,b,()) (λ(z:Bool)=>z=Jn a b):=by
 refine Eq.mp (EU a b _) ?_
 refine ⟨_,if_pos h.1,⟨λh1=>?_,λh1=>?_⟩⟩
 ·have h1:(!Av a.1 b.1)=true:=h1
  simp only [Av] at h1
  unfold Jn
  cases hd:decide (a.1=b.1)<;>simp_all
 ·have h1:(!Av a.1 b.1)=false:=h1
  simp only [Av] at h1
  refine ⟨_,if_pos h.2.1,⟨λh2=>?_,λh2=>?_⟩⟩
  ·have h2:(!Lg a.2.1 b.2.1)=true:=h2
   simp only [Lg] at h2
   unfold Jn
   cases hd:decide (a.2.1=b.2.1)<;>simp_all
  ·have h2:(!Lg a.2.1 b.2.1)=false:=h2
   simp only [Lg] at h2
   refine ⟨_,if_pos h.2.2,⟨λh3=>?_,λh3=>?_⟩⟩
   ·have h3:(!Av a.2.2.1 b.2.2.1)=true:=h3
    simp only [Av] at h3
    unfold Jn
    cases hd:decide (a.2.2.1=b.2.2.1)<;>simp_all
   ·have h3:(!Av a.2.2.1 b.2.2.1)=false:=h3
    simp only [Av] at h3
    unfold Jn
    simp_all
theorem pe:Sound Try.prog 92 Em:=
 Sound.Cu Bj (Ae qR (Ae nF Ao)) mixed Try.func92 (by kernel_rfl) (by kernel_rfl) λx h=>CX x.1 x.2.1 h
end Go.Proofs.Ytjbdmibbbpdnnaa

namespace Go.Proofs.Ytjbdmibbbpdnnaa
open Go.RowKit
def PL (n:Int) (xs:List Int) (k:Nat):Prop:= ∀j (h:j<xs.length),j<k->0<=xs[j]/\xs[j]<=n-1/\(0<j->xs[j-1]<xs[j])
def DL (n:Int) (xs:List Int) (k:Nat):Prop:= ∀j (h:j<xs.length),j<k->0<=xs[j]/\xs[j]<=n-1/\xs[j]∉xs.take j
noncomputable def dec (p:Prop):Bool:= @decide p (Classical.propDecidable p)
theorem Lb {p:Prop} (h:p):true=dec p:=(@decide_eq_true p (Classical.propDecidable p) h).symm
theorem Bt {p:Prop} (h: ¬p):false=dec p:=(@decide_eq_false p (Classical.propDecidable p) h).symm
theorem Ho {p:Prop} :dec p=true↔p:= @decide_eq_true_iff p (Classical.propDecidable p)
theorem LN {p:Prop} :dec p=false↔ ¬p:= @decide_eq_false_iff_not p (Classical.propDecidable p)
def SR (n:Int):Prop:=0<=n/\n<=4294967296
noncomputable def Rv (n:Int) (xs:List Int):Bool:=dec (0<xs.length/\PL n xs xs.length)
noncomputable abbrev Fp:Spec:=Cu (.pair tI (.pair tL .unit)) .bool false true (λx=>SR x.1/\short x.2.1) (λx=>Rv x.1 x.2.1)
noncomputable abbrev dk:Spec:=Cu (.pair dt .unit) tI false true (λ_=>True) (λx=>(List.length x.1:Int))
theorem pH (n:Int) (xs:List Int) (P:Bool->Prop):(∃(y3:Bool),Bm.fn ((↑xs.length:Int),(1:Int),n,())=some y3/\Br (!y3) (P false) (Bl (λ(v4:Int×PUnit) (k5:Int×PUnit->Prop)=>Br (decide (v4.1<(↑xs.length:Int))) (∃(y6:Int),idx xs v4.1=some y6/\ ∃(y7:Bool),Bm.fn (y6,(0:Int),IntKind.i64.wrap (n-(1:Int)),())=some y7/\Br (!y7) (P false) (Br (decide (v4.1>(0:Int))) (∃(y8:Int),idx xs v4.1=some y8/\ ∃(y9:Int),idx xs (IntKind.i64.wrap (v4.1-(1:Int)))=some y9/\Br (decide (y8<=y9)) (P false) (k5 (IntKind.i64.wrap (v4.1+(1:Int)),()))) (k5 (IntKind.i64.wrap (v4.1+(1:Int)),())))) (P true)) ((0:Int),PUnit.unit)))=fnW Cj (look [(93,Bm)]) Fp Try.f111 (n,xs,()) P:=by kernel_rfl
theorem wY (n:Int) (xs:List Int) (P:Bool->Prop):(Bl (λ(v3:Int×PUnit) (k4:Int×PUnit->Prop)=>Br (decide (v3.1<(↑xs.length:Int))) (∃(y5:Int),idx xs v3.1=some y5/\ ∃(y6:Bool),Tw.fn (n,y5,())=some y6/\Br (!y6) (P false) (Br (decide (v3.1>(0:Int))) (∃(y7:Int),idx xs (IntKind.i64.wrap (v3.1-(1:Int)))=some y7/\Br (decide (y7>=y5)) (P false) (k4 (IntKind.i64.wrap (v3.1+(1:Int)),()))) (k4 (IntKind.i64.wrap (v3.1+(1:Int)),())))) (P (decide ((↑xs.length:Int)>(0:Int))))) ((0:Int),PUnit.unit))=fnW Cj (look [(116,Tw)]) Fp Try.f66 (n,xs,()) P:=by kernel_rfl
theorem NU (xs:List (List Int)) (P:Int->Prop):(P (↑xs.length:Int))=fnW Cj (look []) dk Try.f58 (xs,()) P:=by kernel_rfl
theorem MZ (xs:List (List Int)) (_:True):fnW Cj (look []) dk Try.f58 (xs,()) (λ(z:Int)=>z=(xs.length:Int)):=Eq.mp (NU xs _) rfl
theorem wC:Sound Try.prog 58 dk:=
 Sound.Cu Bj Ao mixed Try.func58 (by kernel_rfl) (by kernel_rfl) λx h=>MZ x.1 h
theorem jP {n x:Int} (hn:SR n):de n x=true↔0<=x/\x<=n-1:=by
 unfold de SR at*
 rw [Ci (by omega) (by omega),decide_eq_true_iff]
theorem Cl {x a b:Int} :Hc x a b=true↔a<=x/\x<=b:=decide_eq_true_iff
theorem Dg {b:Bool} (h:(!b)=true): ¬b=true:=by cases b<;>simp_all
theorem Dh {b:Bool} (h:(!b)=false):b=true:=by cases b<;>simp_all
theorem yM {n:Int} {xs:List Int} (h:PL n xs xs.length): ∀j (hj:j<xs.length),(j:Int)<=xs[j]
 |0,hj=>(h 0 hj hj).1
 |j+1,hj=>by
  have h1:=yM h j (by omega)
  have h2:=(h (j+1) hj hj).2.2 (by omega)
  simp only [Nat.add_sub_cancel] at h2
  omega
theorem lu {n:Int} {xs:List Int} {j:Nat} (hl:j<xs.length) (h:PL n xs j) (h1:0<=xs[j]) (h2:xs[j]<=n-1) (h3:0<j->xs[j-1]<xs[j]):PL n xs (j+1):=by
 intro i hi iM
 by_cases e:i=j
 ·subst e;exact ⟨h1,h2,h3⟩
 ·exact h i hi (by omega)
theorem w9 (n:Int) (xs:List Int) (h:SR n/\short xs):fnW Cj (look [(116,Tw)]) Fp Try.f66 (n,xs,()) (λ(z:Bool)=>z=Rv n xs):=by
 obtain ⟨hn,h⟩:=h
 unfold short at h
 refine Eq.mp (wY n xs _) ?_
 refine Ai xs.length (λv=>v.1) (λj _=>PL n xs j) rfl (λj _ hj=>absurd hj (Nat.not_lt_zero _)) ?_
 rintro j ⟨i,⟨⟩⟩ K hj hi hR hK
 dsimp only at hi⊢
 subst hi
 refine Br.dec (λhl=>?_) λhl=>?_
 ·have hl:j<xs.length:=by omega
  refine ⟨_,An hl,_,if_pos trivial,⟨λhp=>?_,λhp=>?_⟩⟩
  ·have hp:=Dg hp
   rw [jP hn] at hp
   exact Bt λhh=>hp ⟨(hh.2 j hl hl).1,(hh.2 j hl hl).2.1⟩
  ·have hp:=Dh hp
   rw [jP hn] at hp
   refine Br.dec (λh0=>?_) λh0=>?_
   ·have h0:0<j:=by omega
    rw [Ci (by omega) (by omega),show (j:Int)-1=((j-1:Nat):Int) by omega]
    refine ⟨_,An (by omega),Br.dec (λhg=>?_) λhg=>?_⟩
    ·exact Bt λhh=>by have:=(hh.2 j hl hl).2.2 h0;omega
    ·rw [Ag (by omega)]
     exact hK hl _ rfl (lu hl hR hp.1 hp.2 λ_=>by omega)
   ·have h0:j=0:=by omega
    rw [Ag (by omega)]
    exact hK hl _ rfl (lu hl hR hp.1 hp.2 λh=>by omega)
 ·have:j=xs.length:=by omega
  subst this
  by_cases h0:0<xs.length
  ·rw [decide_eq_true (show (xs.length:Int)>0 by omega)];exact Lb ⟨h0,hR⟩
  ·rw [decide_eq_false (show ¬(xs.length:Int)>0 by omega)];exact Bt λhh=>h0 hh.1
theorem kT:Sound Try.prog 66 Fp:=
 Sound.Cu Bj (Ae pj Ao) mixed Try.func66 (by kernel_rfl) (by kernel_rfl) λx h=>w9 x.1 x.2.1 h
theorem oY (n:Int) (xs:List Int) (h:SR n/\short xs):fnW Cj (look [(93,Bm)]) Fp Try.f111 (n,xs,()) (λ(z:Bool)=>z=Rv n xs):=by
 obtain ⟨hn,h⟩:=h
 unfold short at h
 refine Eq.mp (pH n xs _) ⟨_,if_pos trivial,⟨λhp=>?_,λhp=>?_⟩⟩
 ·have hp:=Dg hp
  rw [Cl] at hp
  dsimp only at hp
  refine Bt λhh=>hp ⟨by omega,?_⟩
  have:=yM hh.2 (xs.length-1) (by omega)
  have:=(hh.2 (xs.length-1) (by omega) (by omega)).2.1
  omega
 ·have hp:=Dh hp
  rw [Cl] at hp
  dsimp only at hp
  refine Ai xs.length (λv=>v.1) (λj _=>PL n xs j) rfl (λj _ hj=>absurd hj (Nat.not_lt_zero _)) ?_
  rintro j ⟨i,⟨⟩⟩ K hj hi hR hK
  dsimp only at hi⊢
  subst hi
  refine Br.dec (λhl=>?_) λhl=>?_
  ·have hl:j<xs.length:=by omega
   refine ⟨_,An hl,_,if_pos trivial,⟨λhq=>?_,λhq=>?_⟩⟩
   ·have hq:=Dg hq
    unfold SR at hn
    rw [Cl,Ci (by omega) (by omega)] at hq
    exact Bt λhh=>hq ⟨(hh.2 j hl hl).1,(hh.2 j hl hl).2.1⟩
   ·have hq:=Dh hq
    unfold SR at hn
    rw [Cl,Ci (by omega) (by omega)] at hq
    refine Br.dec (λh0=>?_) λh0=>?_
    ·have h0:0<j:=by omega
     rw [Ci (by omega) (by omega),show (j:Int)-1=((j-1:Nat):Int) by omega]
     refine ⟨_,An hl,_,An (by omega),Br.dec (λhg=>?_) λhg=>?_⟩
     ·exact Bt λhh=>by have:=(hh.2 j hl hl).2.2 h0;omega
     ·rw [Ag (by omega)]
      exact hK hl _ rfl (lu hl hR hq.1 hq.2 λ_=>by omega)
    ·rw [Ag (by omega)]
     exact hK hl _ rfl (lu hl hR hq.1 hq.2 λh=>by omega)
  ·have:j=xs.length:=by omega
   subst this
   exact Lb ⟨by omega,hR⟩
theorem gV:Sound Try.prog 111 Fp:=
 Sound.Cu Bj (Ae Wx Ao) mixed Try.func111 (by kernel_rfl) (by kernel_rfl) λx h=>oY x.1 x.2.1 h
theorem LO {n:Int} {xs:List Int} {j:Nat} (hl:j<xs.length) (h:DL n xs j) (h1:0<=xs[j]) (h2:xs[j]<=n-1) (h3:xs[j]∉xs.take j):DL n xs (j+1):=by
 intro i hi iM
 by_cases e:i=j
 ·subst e;exact ⟨h1,h2,h3⟩
 ·exact h i hi (by omega)
theorem z6 {xs:List Int} (h:short xs) (j:Nat):short (xs.take j):=by
 unfold short at*
 rw [List.length_take]
 omega
end Go.Proofs.Ytjbdmibbbpdnnaa

namespace Go.Proofs.Ytjbdmibbbpdnnaa
open Go.RowKit
noncomputable abbrev Qq:Spec:=Cu (.pair dt (.pair dt (.pair (.clo 188 .unit) .unit))) .bool false true (λx=>Fu x.1) (λx=>Lg x.1 x.2.1)
theorem ZT (a b:List Int) (P:Bool->Prop):(∃(y3:Bool),Aq.fn (a,b,())=some y3/\P y3)=fnW Cj (look [(181,Aq)]) Aq Try.f188 (a,b,()) P:=by kernel_rfl
theorem zr (a b:List (List Int)) (c:Unit) (P:Bool->Prop):(Br ((↑a.length:Int) !=(↑b.length:Int)) (P false) (Bl (λ(v4:Int×PUnit) (k5:Int×PUnit->Prop)=>Br (decide (v4.1<(↑a.length:Int))) (∃(y6:List Int),idx a v4.1=some y6/\ ∃(y7:List Int),idx b v4.1=some y7/\ ∃(y8:Bool),Aq.fn (y6,y7,())=some y8/\Br (!y8) (P false) (k5 (IntKind.i64.wrap (v4.1+(1:Int)),()))) (P true)) ((0:Int),PUnit.unit)))=fnW Cj (look [(188,Aq)]) Qq Try.f187 (a,b,c,()) P:=by kernel_rfl
theorem l6 (a b:List (List Int)) (P:Bool->Prop):(∃(y3:Bool),Qq.fn (a,b,(),())=some y3/\P y3)=fnW Cj (look [(187,Qq)]) Nm Try.f182 (a,b,()) P:=by kernel_rfl
theorem l5 (a b:List Int×List (List Int)×List Int×Unit) (P:Bool->Prop):(∃(y3:Bool),Aq.fn (a.1,b.1,())=some y3/\Br y3 (∃(y4:Bool),Nm.fn (a.2.1,b.2.1,())=some y4/\Br y4 (∃(y5:Bool),Aq.fn (a.2.2.1,b.2.2.1,())=some y5/\P y5) (P false)) (P false))=fnW Cj (look [(181,Aq),(182,Nm)]) Em Try.f166 (a,b,()) P:=by kernel_rfl
abbrev Yn:Type:=Int×List Int×List (List Int)×List Int×List Int×List (List Int)×List Int×PUnit
theorem l7 (a b:List Int×List (List Int)×List Int×Unit) (P:Bool->Prop):(∃(y3:Bool),Aq.fn (a.1,b.1,())=some y3/\Br (!y3) (P false) (∃(y4:Bool),Aq.fn (a.2.2.1,b.2.2.1,())=some y4/\Br (!y4) (P false) (Br ((↑a.2.1.length:Int) !=(↑b.2.1.length:Int)) (P false) (Bl (λ(v5:Yn) (k6:Yn->Prop)=>Br (decide (v5.1<(↑v5.2.2.1.length:Int))) (∃(y7:List Int),idx v5.2.2.1 v5.1=some y7/\ ∃(y8:List Int),idx v5.2.2.2.2.2.1 v5.1=some y8/\ ∃(y9:Bool),Aq.fn (y7,y8,())=some y9/\Br (!y9) (P false) (k6 (IntKind.i64.wrap (v5.1+(1:Int)),v5.2.1,v5.2.2.1,v5.2.2.2.1,v5.2.2.2.2.1,v5.2.2.2.2.2.1,v5.2.2.2.2.2.2.1,()))) (P true)) ((0:Int),a.1,a.2.1,a.2.2.1,b.1,b.2.1,b.2.2.1,PUnit.unit)))))=fnW Cj (look [(105,Aq)]) Em Try.f162 (a,b,()) P:=by kernel_rfl
theorem YW (a b:List Int) (h:short a):fnW Cj (look [(181,Aq)]) Aq Try.f188 (a,b,()) (λ(z:Bool)=>z=Av a b):=by
 refine Eq.mp (ZT a b _) ⟨_,if_pos h,rfl⟩
theorem EE:Sound Try.prog 188 Aq:=
 Sound.Cu Bj (Ae We Ao) mixed Try.func188 (by kernel_rfl) (by kernel_rfl) λx h=>YW x.1 x.2.1 h
theorem yB (a b:List (List Int)) (c:Unit) (h:Fu a):fnW Cj (look [(188,Aq)]) Qq Try.f187 (a,b,c,()) (λ(z:Bool)=>z=Lg a b):=by
 obtain ⟨h,h4⟩:=h
 refine Eq.mp (zr a b c _) ⟨λhl=>?_,λhl=>?_⟩
 ·simp only [bne_iff_ne,ne_eq,Int.natCast_inj] at hl
  exact (decide_eq_false λeT=>hl (by rw [eT])).symm
 ·simp only [bne_eq_false_iff_eq,Int.natCast_inj] at hl
  refine Ai a.length (λv=>v.1) (λj _=>a.take j=b.take j) rfl (by simp) ?_
  rintro j ⟨i,⟨⟩⟩ K hj hi hR hK
  dsimp only at hi⊢
  subst hi
  refine Br.dec (λGu=>?_) λGu=>?_
  ·have cZ:j<a.length:=by omega
   have tS:j<b.length:=by omega
   refine ⟨_,An cZ,_,An tS,_,if_pos (h4 _ (List.getElem_mem cZ)),⟨λhe=>?_,λhe=>?_⟩⟩
   ·refine (decide_eq_false λeT=>?_).symm
    subst eT
    simp [Av] at he
   ·rw [Ag (by omega)]
    refine hK cZ _ rfl ?_
    simp only [Av,Bool.not_eq_false',decide_eq_true_eq] at he
    rw [List.take_succ_eq_append_getElem cZ,List.take_succ_eq_append_getElem tS,hR]
    exact congrArg (λx=>List.take j b++ [x]) he
  ·have tQ:j=a.length:=by omega
   subst tQ
   rw [List.take_length,hl,List.take_length] at hR
   exact (decide_eq_true hR).symm
theorem nE:Sound Try.prog 187 Qq:=
 Sound.Cu Bj (Ae EE Ao) mixed Try.func187 (by kernel_rfl) (by kernel_rfl) λx h=>yB x.1 x.2.1 x.2.2.1 h
theorem kM (a b:List (List Int)) (h:Fu a):fnW Cj (look [(187,Qq)]) Nm Try.f182 (a,b,()) (λ(z:Bool)=>z=Lg a b):=by
 refine Eq.mp (l6 a b _) ⟨_,if_pos h,rfl⟩
theorem dB:Sound Try.prog 182 Nm:=
 Sound.Cu Bj (Ae nE Ao) mixed Try.func182 (by kernel_rfl) (by kernel_rfl) λx h=>kM x.1 x.2.1 h
theorem kL (a b:TT) (h:Ka a):fnW Cj (look [(181,Aq),(182,Nm)]) Em Try.f166 (a,b,()) (λ(z:Bool)=>z=Jn a b):=by
 refine Eq.mp (l5 a b _) ⟨_,if_pos h.1,⟨λh1=>⟨_,if_pos h.2.1,⟨λh2=>⟨_,if_pos h.2.2,?_⟩,λh2=>?_⟩⟩,λh1=>?_⟩⟩
 ·have h1:Av a.1 b.1=true:=h1
  have h2:Lg a.2.1 b.2.1=true:=h2
  simp only [Av,Lg] at h1 h2
  show Av a.2.2.1 b.2.2.1=_
  unfold Jn Av
  rw [h1,h2];rfl
 ·have h1:Av a.1 b.1=true:=h1
  have h2:Lg a.2.1 b.2.1=false:=h2
  simp only [Av,Lg] at h1 h2
  unfold Jn
  rw [h1,h2];rfl
 ·have h1:Av a.1 b.1=false:=h1
  simp only [Av] at h1
  unfold Jn
  rw [h1];rfl
theorem dA:Sound Try.prog 166 Em:=
 Sound.Cu Bj (Ae We (Ae dB Ao)) mixed Try.func166 (by kernel_rfl) (by kernel_rfl) λx h=>kL x.1 x.2.1 h
theorem kN (a b:TT) (h:Ka a):fnW Cj (look [(105,Aq)]) Em Try.f162 (a,b,()) (λ(z:Bool)=>z=Jn a b):=by
 obtain ⟨fC,⟨oq,hs4⟩,hs3⟩:=h
 refine Eq.mp (l7 a b _) ⟨_,if_pos fC,⟨λh1=>?_,λh1=>⟨_,if_pos hs3,⟨λh2=>?_,λh2=>⟨λh3=>?_,λh3=>?_⟩⟩⟩⟩⟩
 ·have h1:(!Av a.1 b.1)=true:=h1
  simp only [Av,Bool.not_eq_true'] at h1
  show _=Jn a b
  unfold Jn
  rw [h1];rfl
 ·have h2:(!Av a.2.2.1 b.2.2.1)=true:=h2
  simp only [Av,Bool.not_eq_true'] at h2
  show _=Jn a b
  unfold Jn
  rw [h2];simp
 ·simp only [bne_iff_ne,ne_eq,Int.natCast_inj] at h3
  show _=Jn a b
  unfold Jn
  rw [decide_eq_false (show ¬a.2.1=b.2.1 from λeT=>h3 (by rw [eT]))];simp
 ·simp only [bne_eq_false_iff_eq,Int.natCast_inj] at h3
  have h1:(!Av a.1 b.1)=false:=h1
  have h2:(!Av a.2.2.1 b.2.2.1)=false:=h2
  simp only [Av,Bool.not_eq_false',decide_eq_true_eq] at h1 h2
  have hE:Jn a b=decide (a.2.1=b.2.1):=by
   unfold Jn
   rw [decide_eq_true h1,decide_eq_true h2];simp
  refine Ai a.2.1.length (λv=>v.1) (λj v=>v.2=(a.1,a.2.1,a.2.2.1,b.1,b.2.1,b.2.2.1,())/\a.2.1.take j=b.2.1.take j) rfl ⟨rfl,by simp⟩ ?_
  rintro j ⟨i,v⟩ K hj hi ⟨hv,hR⟩ hK
  dsimp only at hi hv⊢
  subst hi hv
  dsimp only
  refine Br.dec (λGu=>?_) λGu=>?_
  ·have cZ:j<a.2.1.length:=by omega
   have tS:j<b.2.1.length:=by omega
   refine ⟨_,An cZ,_,An tS,_,if_pos (hs4 _ (List.getElem_mem cZ)),⟨λhe=>?_,λhe=>?_⟩⟩
   ·show _=Jn a b
    rw [hE]
    refine (decide_eq_false λeT=>?_).symm
    simp [eT,Av] at he
   ·rw [Ag (by omega)]
    refine hK cZ _ rfl ⟨rfl,?_⟩
    simp only [Av,Bool.not_eq_false',decide_eq_true_eq] at he
    rw [List.take_succ_eq_append_getElem cZ,List.take_succ_eq_append_getElem tS,hR]
    exact congrArg (λx=>List.take j b.2.1++ [x]) he
  ·have tQ:j=a.2.1.length:=by omega
   subst tQ
   rw [List.take_length,h3,List.take_length] at hR
   show _=Jn a b
   rw [hE]
   exact (decide_eq_true hR).symm
theorem dC:Sound Try.prog 162 Em:=
 Sound.Cu Bj (Ae So Ao) mixed Try.func162 (by kernel_rfl) (by kernel_rfl) λx h=>kN x.1 x.2.1 h
theorem mI {t:TT} {room:Int} (h:roomy room) (h2: ¬Lw t room<0):roomy (Lw t room):=by
 have hm: ¬((-1:Int)<0)->False:= λh=>h (by decide)
 unfold Lw at h2⊢
 split
 ·rename_i h3;rw [if_pos h3] at h2;exact (hm h2).elim
 ·rename_i h3;rw [if_neg h3] at h2
  split
  ·rename_i h4;rw [if_pos h4] at h2;exact (hm h2).elim
  ·rename_i h4;rw [if_neg h4] at h2
   split
   ·rename_i h5;rw [if_pos h5] at h2;exact (hm h2).elim
   ·rename_i h5
    exact Ts (jR (Ts h h3) h4) h5
theorem wq:roomy 1048576:=⟨by decide,by decide⟩
end Go.Proofs.Ytjbdmibbbpdnnaa

namespace Go.Proofs.Ytjbdmibbbpdnnaa
open Go.RowKit
abbrev PP:Type:=Int×ByteArray×List (List Int)×Unit
noncomputable def Jf (p:List Int):Bool:=dec (1<=p.length/\p.length<=20/\DL p.length p p.length)
noncomputable def Jv (n:Int) (p:List Int):Bool:=dec ((p.length:Int)=n/\Jf p=true)
noncomputable def Ru (n:Int) (g:List (List Int)):Bool:=dec ((1<=n/\n<=20)/\g.length<=8/\ ∀p∈g,Jv n p=true)
def Du {α:Type} (P:α->Bool):List α->Int->Int
 | [],_=> -1
 |y::r,i=>if P y=true then i else Du P r (i+1)
abbrev tG1:Ty:= .clo 177 (.pair (.ptr tI) .unit)
def r7 (s:ByteArray) (i:Nat):Prop:= ∃c:UInt8,s[i]?=some c/\65<=c.toNat/\c.toNat<=90/\ ∀k,k<i->s[k]?≠some c
noncomputable def gF (s:ByteArray) (i:Int):Bool:=dec (r7 s i.toNat)
noncomputable def Yb (s:ByteArray):Bool:=dec ((1<=s.size/\s.size<=8)/\ ∀j,j<s.size->r7 s j)
noncomputable def Bg (p:PP):Bool:=dec (Ru p.1 p.2.2.1=true/\Yb p.2.1=true/\p.2.1.size=p.2.2.1.length)
def Cp (p:PP):Prop:=p.2.1.size<=4294967296/\Fu p.2.2.1
noncomputable abbrev Qr:Spec:=Cu (.pair tL .unit) tI false true (λ_=>True) (λx=>(List.length x.1:Int))
noncomputable abbrev Hl:Spec:=Cu (.pair tL .unit) .bool false true (λx=>short x.1) (λx=>Jf x.1)
noncomputable abbrev Kf:Spec:=Cu (.pair tI (.pair dt .unit)) .bool false true (λx=>Fu x.2.1) (λx=>Ru x.1 x.2.1)
noncomputable abbrev dj:Spec:=Cu (.pair tL (.pair (.ptr tI) .unit)) .bool false true (λx=>short x.1) (λx=>!Jv x.2.1 x.1)
noncomputable abbrev qL:Spec:=Cu (.pair dt (.pair tG1 .unit)) tI false true (λx=>Fu x.1) (λx=>Du (λp=>!Jv x.2.1.1 p) x.1 0)
noncomputable abbrev qI:Spec:=Cu (.pair dt (.pair tG1 .unit)) .bool false true (λx=>Fu x.1) (λx=>List.any x.1 (λp=>!Jv x.2.1.1 p))
noncomputable abbrev Yi:Spec:=Cu (.pair .str (.pair tI .unit)) .bool false true (λx=>0<=x.2.1/\x.2.1<x.1.size/\x.1.size<=4294967296) (λx=>gF x.1 x.2.1)
noncomputable abbrev Tv:Spec:=Cu (.pair .str .unit) .bool false true (λx=>x.1.size<=4294967296) (λx=>Yb x.1)
noncomputable abbrev Dv:Spec:=Cu (.pair Dm .unit) .bool false true (λx=>Cp x.1) (λx=>Bg x.1)
def mH (p:PP) (room:Int):Int:=if room-p.2.1.size<0 then-1 else if Mi p.2.2.1 (room-p.2.1.size)<0 then-1 else Mi p.2.2.1 (room-p.2.1.size)
def jN (a b:PP):Bool:=decide (a.1=b.1)&&(decide (a.2.1=b.2.1)&&decide (a.2.2.1=b.2.2.1))
noncomputable abbrev qM:Spec:=Cu (.pair Dm (.pair tI .unit)) tI false true (λx=>Cp x.1/\roomy x.2.1) (λx=>mH x.1 x.2.1)
noncomputable abbrev ka:Spec:=Cu (.pair Dm .unit) Dm false true (λx=>Cp x.1) (λx=>x.1)
noncomputable abbrev qJ:Spec:=Cu (.pair Dm (.pair Dm .unit)) .bool false true (λx=>Cp x.1) (λx=>jN x.1 x.2.1)
noncomputable abbrev Nn:Spec:=Cu (.pair Gx (.pair tL .unit)) tI false true (λx=>Ka x.1/\short x.2.1) (λx=>Du (λp=>decide (p=x.2.1)) x.1.2.1 0)
theorem UA (xs:List Int) (P:Int->Prop):(P (↑xs.length:Int))=fnW Cj (look []) Qr Try.f82 (xs,()) P:=by kernel_rfl
theorem tJ (p:List Int) (P:Bool->Prop):(∃(y2:Bool),Bm.fn ((↑p.length:Int),(1:Int),(20:Int),())=some y2/\Br (!y2) (P false) (Bl (λ(v3:Int×PUnit) (k4:Int×PUnit->Prop)=>Br (decide (v3.1<(↑p.length:Int))) (∃(y5:Int),idx p v3.1=some y5/\ ∃(y6:Bool),Bm.fn (y5,(0:Int),IntKind.i64.wrap ((↑p.length:Int)-(1:Int)),())=some y6/\Br (!y6) (P false) (((0:Int)<=(0:Int)/\(0:Int)<=v3.1/\v3.1<=(↑p.length:Int))/\ ∃(y7:Int),idx p v3.1=some y7/\ ∃(y8:Bool),Km.fn (List.drop (Int.toNat (0:Int)) (List.take v3.1.toNat p),y7,())=some y8/\Br y8 (P false) (k4 (IntKind.i64.wrap (v3.1+(1:Int)),())))) (P true)) ((0:Int),PUnit.unit)))=fnW Cj (look [(93,Bm),(153,Km)]) Hl Try.f169 (p,()) P:=by kernel_rfl
theorem tE (p:List Int) (P:Bool->Prop):(∃(y2:Int),Qr.fn (p,())=some y2/\ ∃(y3:Bool),Bm.fn (y2,(1:Int),(20:Int),())=some y3/\Br (!y3) (P false) (Bl (λ(v4:Int×Int×PUnit) (k5:Int×Int×PUnit->Prop)=>Br (decide (v4.2.1<(↑p.length:Int))) (∃(y6:Int),idx p v4.2.1=some y6/\ ∃(y7:Int),Qr.fn (p,())=some y7/\ ∃(y8:Bool),Bm.fn (y6,(0:Int),IntKind.i64.wrap (y7-(1:Int)),())=some y8/\Br (!y8) (P false) (¬y6<(0:Int)/\k5 (IntKind.i64.wrap (↑(BitVec.ofInt IntKind.i64.bits v4.1|||BitVec.ofInt IntKind.i64.bits (IntKind.i64.wrap ((1:Int)*(2:Int)^min y6.toNat IntKind.i64.bits))).toNat:Int),IntKind.i64.wrap (v4.2.1+(1:Int)),()))) (¬(↑p.length:Int)<(0:Int)/\P (v4.1==IntKind.i64.wrap (IntKind.i64.wrap ((1:Int)*(2:Int)^min (↑p.length:Int).toNat IntKind.i64.bits)-(1:Int))))) ((0:Int),(0:Int),PUnit.unit)))=fnW Cj (look [(97,Bm),(82,Qr)]) Hl Try.f168 (p,()) P:=by kernel_rfl
theorem tH (n:Int) (g:List (List Int)) (P:Bool->Prop):(∃(y3:Bool),Bm.fn (n,(1:Int),(20:Int),())=some y3/\Br (!y3) (P false) (Br (decide ((↑g.length:Int)>(8:Int))) (P false) (Bl (λ(v4:Int×PUnit) (k5:Int×PUnit->Prop)=>Br (decide (v4.1<(↑g.length:Int))) (∃(y6:List Int),idx g v4.1=some y6/\Br ((↑y6.length:Int) !=n) (P false) (∃(y7:List Int),idx g v4.1=some y7/\ ∃(y8:Bool),Hl.fn (y7,())=some y8/\Br (!y8) (P false) (k5 (IntKind.i64.wrap (v4.1+(1:Int)),())))) (P true)) ((0:Int),PUnit.unit))))=fnW Cj (look [(93,Bm),(169,Hl)]) Kf Try.f147 (n,g,()) P:=by kernel_rfl
theorem NT (p:List Int) (n:Int) (P:Bool->Prop):(∃(y3:Int),Qr.fn (p,())=some y3/\Br (y3 !=n) (P true) (∃(y4:Bool),Hl.fn (p,())=some y4/\P !y4))=fnW Cj (look [(82,Qr),(168,Hl)]) dj Try.f177 (p,n,()) P:=by kernel_rfl
theorem ZS (g:List (List Int)) (n:Int×Unit) (P:Int->Prop):(Bl (λ(v3:Int×PUnit) (k4:Int×PUnit->Prop)=>Br (decide (v3.1<(↑g.length:Int))) (∃(y5:List Int),idx g v3.1=some y5/\ ∃(y6:Bool),dj.fn (y5,n.1,())=some y6/\Br y6 (P v3.1) (k4 (IntKind.i64.wrap (v3.1+(1:Int)),()))) (P (-1:Int))) ((0:Int),PUnit.unit))=fnW Cj (look [(177,dj)]) qL Try.f184 (g,n,()) P:=by kernel_rfl
theorem ZO (g:List (List Int)) (n:Int×Unit) (P:Bool->Prop):(∃(y3:Int),qL.fn (g,n,())=some y3/\P (decide (y3>=(0:Int))))=fnW Cj (look [(184,qL)]) qI Try.f176 (g,n,()) P:=by kernel_rfl
theorem tD (n:Int) (g:List (List Int)) (P:Bool->Prop):(∃(y3:Bool),Bm.fn (n,(1:Int),(20:Int),())=some y3/\Br y3 (Br (decide ((↑g.length:Int)<=(8:Int))) (∃(y4:Bool),qI.fn (g,(n,()),())=some y4/\P !y4) (P false)) (P false))=fnW Cj (look [(97,Bm),(176,qI)]) Kf Try.f158 (n,g,()) P:=by kernel_rfl
theorem KN (s:ByteArray) (i:Int) (P:Bool->Prop):((0:Int)<=i/\ ∃(y3:UInt8),s[i.toNat]?=some y3/\Br (decide ((↑y3.toNat:Int)<(65:Int))) (P false) ((0:Int)<=i/\ ∃(y4:UInt8),s[i.toNat]?=some y4/\Br (decide ((↑y4.toNat:Int)>(90:Int))) (P false) (Bl (λ(v5:Int×PUnit) (k6:Int×PUnit->Prop)=>Br (decide (v5.1<i)) ((0:Int)<=v5.1/\ ∃(y7:UInt8),s[v5.1.toNat]?=some y7/\(0:Int)<=i/\ ∃(y8:UInt8),s[i.toNat]?=some y8/\Br ((↑y7.toNat:Int)==(↑y8.toNat:Int)) (P false) (k6 (IntKind.i64.wrap (v5.1+(1:Int)),()))) (P true)) ((0:Int),PUnit.unit))))=fnW Cj (look []) Yi Try.f148 (s,i,()) P:=by kernel_rfl
theorem EY (s:ByteArray) (P:Bool->Prop):(Bl (λ(v2:Int×PUnit) (k3:Int×PUnit->Prop)=>Br (decide (v2.1<(↑s.size:Int))) ((0:Int)<=v2.1/\ ∃(y4:UInt8),s[v2.1.toNat]?=some y4/\ ∃(y5:Bool),Bm.fn (IntKind.i64.wrap (↑y4.toNat:Int),(65:Int),(90:Int),())=some y5/\Br (!y5) (P false) (Bl (λ(v6:Int×PUnit) (k7:Int×PUnit->Prop)=>Br (decide (v6.1<v2.1)) ((0:Int)<=v6.1/\ ∃(y8:UInt8),s[v6.1.toNat]?=some y8/\(0:Int)<=v2.1/\ ∃(y9:UInt8),s[v2.1.toNat]?=some y9/\Br ((↑y8.toNat:Int)==(↑y9.toNat:Int)) (P false) (k7 (IntKind.i64.wrap (v6.1+(1:Int)),()))) (k3 (IntKind.i64.wrap (v2.1+(1:Int)),()))) ((0:Int),PUnit.unit))) (∃(y4:Bool),Bm.fn ((↑s.size:Int),(1:Int),(8:Int),())=some y4/\P y4)) ((0:Int),PUnit.unit))=fnW Cj (look [(97,Bm)]) Tv Try.f159 (s,()) P:=by kernel_rfl
abbrev eh:Type:=Int×Int×ByteArray×List (List Int)×PUnit
theorem tK (p:Int×ByteArray×List (List Int)×Unit) (P:Bool->Prop):(Br ((↑p.2.2.1.length:Int)==(0:Int)) (P false) (Br ((↑p.2.1.size:Int) !=(↑p.2.2.1.length:Int)) (P false) (∃(y2:Bool),Kf.fn (p.1,p.2.2.1,())=some y2/\Br (!y2) (P false) (Bl (λ(v3:eh) (k4:eh->Prop)=>Br (decide (v3.1<(↑v3.2.2.1.size:Int))) (∃(y5:Bool),Yi.fn (v3.2.2.1,v3.1,())=some y5/\Br (!y5) (P false) (k4 (IntKind.i64.wrap (v3.1+(1:Int)),v3.2.1,v3.2.2.1,v3.2.2.2.1,()))) (P true)) ((0:Int),p.1,p.2.1,p.2.2.1,PUnit.unit)))))=fnW Cj (look [(147,Kf),(148,Yi)]) Dv Try.f110 (p,()) P:=by kernel_rfl
theorem tF (p:Int×ByteArray×List (List Int)×Unit) (P:Bool->Prop):(∃(y2:Bool),Kf.fn (p.1,p.2.2.1,())=some y2/\Br y2 (∃(y3:Bool),Tv.fn (p.2.1,())=some y3/\Br y3 (P ((↑p.2.1.size:Int)==(↑p.2.2.1.length:Int))) (P false)) (P false))=fnW Cj (look [(158,Kf),(159,Tv)]) Dv Try.f130 (p,()) P:=by kernel_rfl
theorem ZV (p:Int×ByteArray×List (List Int)×Unit) (room:Int) (P:Int->Prop):(Br (decide (IntKind.i64.wrap (room-(↑p.2.1.size:Int))<(0:Int))) (P (-1:Int)) (∃(y3:Int),ab.fn (p.2.2.1,IntKind.i64.wrap (room-(↑p.2.1.size:Int)),())=some y3/\Br (decide (y3<(0:Int))) (P (-1:Int)) (P y3)))=fnW Cj (look [(34,ab)]) qM Try.f14 (p,room,()) P:=by kernel_rfl
theorem ZX (p:Int×ByteArray×List (List Int)×Unit) (P:(Int×ByteArray×List (List Int)×Unit)->Prop):(∃(y2:List (List Int)),ae.fn (p.2.2.1,())=some y2/\P (p.1,p.2.1,y2,()))=fnW Cj (look [(36,ae)]) ka Try.f16 (p,()) P:=by kernel_rfl
theorem ZQ (a b:Int×ByteArray×List (List Int)×Unit) (P:Bool->Prop):(Br (a.1 !=b.1) (P false) (Br (!a.2.1.toList==b.2.1.toList) (P false) (∃(y3:Bool),Nm.fn (a.2.2.1,b.2.2.1,())=some y3/\Br (!y3) (P false) (P true))))=fnW Cj (look [(38,Nm)]) qJ Try.f19 (a,b,()) P:=by kernel_rfl
abbrev ki:Type:=Int×List Int×List (List Int)×List Int×PUnit
theorem zB (t:List Int×List (List Int)×List Int×Unit) (xs:List Int) (P:Int->Prop):(Bl (λ(v3:ki) (k4:ki->Prop)=>Br (decide (v3.1<(↑v3.2.2.1.length:Int))) (∃(y5:List Int),idx v3.2.2.1 v3.1=some y5/\ ∃(y6:Bool),Aq.fn (y5,xs,())=some y6/\Br y6 (P v3.1) (k4 (IntKind.i64.wrap (v3.1+(1:Int)),v3.2.1,v3.2.2.1,v3.2.2.2.1,()))) (P (-1:Int))) ((0:Int),t.1,t.2.1,t.2.2.1,PUnit.unit))=fnW Cj (look [(105,Aq)]) Nn Try.f163 (t,xs,()) P:=by kernel_rfl
theorem TC (xs:List Int) (_:True):fnW Cj (look []) Qr Try.f82 (xs,()) (λ(z:Int)=>z=(xs.length:Int)):=Eq.mp (UA xs _) rfl
theorem fp:Sound Try.prog 82 Qr:=
 Sound.Cu Bj Ao mixed Try.func82 (by kernel_rfl) (by kernel_rfl) λx h=>TC x.1 h
theorem tn {α:Type} [DecidableEq α]: ∀(l m:List α),l.Nodup->(∀x∈l,x∈m)->l.length<=m.length
 | [],m,_,_=>Nat.zero_le _
 |a::l,m,hn,hs=>by
  have ha:a∈m:=hs a (List.mem_cons_self ..)
  have hn:=List.nodup_cons.1 hn
  have:=tn l (m.erase a) hn.2 λx hx=>(List.mem_erase_of_ne (λ(e:x=a)=>hn.1 (by rw [<-e];exact hx))).2 (hs x (List.mem_cons_of_mem _ hx))
  rw [List.length_erase_of_mem ha] at this
  have:0<m.length:=List.length_pos_of_mem ha
  simp only [List.length_cons]
  omega
def upto (n:Nat):List Int:=(List.range n).map Int.ofNat
theorem o7 (n:Nat):(upto n).Nodup:=by
 unfold upto
 exact List.Pairwise.map _ (λa b eT e=>eT (Int.ofNat.inj e)) List.nodup_range
theorem Ig {n:Nat} {x:Int} :x∈upto n↔0<=x/\x<n:=by
 unfold upto
 simp only [List.mem_map,List.mem_range]
 constructor
 ·rintro ⟨a,ha,rfl⟩;exact ⟨Int.natCast_nonneg _,Int.ofNat_lt.2 ha⟩
 ·rintro ⟨h1,h2⟩;exact ⟨x.toNat,by omega,by simp only [Int.ofNat_eq_natCast];omega⟩
theorem Po (n:Nat):(upto n).length=n:=by simp [upto]
theorem c7 {xs:List Int} (h: ∀j (hj:j<xs.length),xs[j]∉xs.take j):xs.Nodup:=by
 refine List.pairwise_iff_getElem.2 λi j hi hj iM e=>h j hj ?_
 rw [<-e]
 exact List.mem_take_iff_getElem.2 ⟨i,by omega,rfl⟩
theorem o4 {xs:List Int} (h:xs.Nodup): ∀j (hj:j<xs.length),xs[j]∉xs.take j:=by
 intro j hj hm
 obtain ⟨i,hi,e⟩:=List.mem_take_iff_getElem.1 hm
 exact List.pairwise_iff_getElem.1 h i j (by omega) hj (by omega) e
theorem Wo {xs:List Int} (h: ∀x∈xs,0<=x/\x<xs.length):(∀k:Nat,k<xs.length->(k:Int)∈xs)↔ ∀j (hj:j<xs.length),xs[j]∉xs.take j:=by
 constructor
 ·intro ha j hj hm
  have h1:=tn (upto xs.length) (xs.take j++xs.drop (j+1)) (o7 _) λx hx=>by
   obtain ⟨h1,h2⟩:=Ig.1 hx
   have hx:=ha x.toNat (by omega)
   rw [show ((x.toNat:Nat):Int)=x by omega] at hx
   rw [<-List.take_append_drop j xs,List.mem_append,List.drop_eq_getElem_cons hj,List.mem_cons] at hx
   rcases hx with hx|rfl|hx
   ·exact List.mem_append_left _ hx
   ·exact List.mem_append_left _ hm
   ·exact List.mem_append_right _ hx
  rw [Po,List.length_append,List.length_take,List.length_drop] at h1
  omega
 ·intro hn k hk
  refine Classical.byContradiction λhc=>?_
  have h1:=tn xs ((upto xs.length).erase (k:Int)) (c7 hn) λx hx=>by
   refine (List.mem_erase_of_ne λ(e:x=(k:Int))=>hc (by rw [<-e];exact hx)).2 (Ig.2 (h x hx))
  rw [List.length_erase_of_mem (Ig.2 ⟨by omega,by omega⟩),Po] at h1
  omega
def mask (xs:List Int):Nat:=xs.foldl (λm x=>m|||2^x.toNat) 0
theorem CQ (xs:List Int) (x:Int):mask (xs++ [x])=mask xs|||2^x.toNat:=by simp [mask]
theorem sq (xs:List Int) (k:Nat): ∀a:Nat,(xs.foldl (λm x=>m|||2^x.toNat) a).testBit k=(a.testBit k||xs.any λx=>decide (x.toNat=k)):=by
 induction xs with
 |nil=>simp
 |cons x xs ih=>
  intro a
  rw [List.foldl_cons,ih,Nat.testBit_or,Nat.testBit_two_pow,List.any_cons,Bool.or_assoc]
theorem mJ (xs:List Int) (k:Nat):(mask xs).testBit k=xs.any λx=>decide (x.toNat=k):=by
 unfold mask
 rw [sq,Nat.zero_testBit,Bool.false_or]
theorem MT {xs:List Int} {n:Nat} (h: ∀x∈xs,x.toNat<n):mask xs<2^n:=by
 refine Nat.lt_pow_two_of_testBit _ λk hk=>?_
 rw [mJ]
 refine Bool.eq_false_iff.2 λht=>?_
 obtain ⟨x,hx,he⟩:=List.any_eq_true.1 ht
 have:=h x hx
 have:=of_decide_eq_true he
 omega
theorem qn {xs:List Int} (h: ∀x∈xs,0<=x/\x<xs.length):mask xs=2^xs.length-1↔ ∀k:Nat,k<xs.length->(k:Int)∈xs:=by
 constructor
 ·intro e k hk
  have h1:=mJ xs k
  rw [e,Nat.testBit_two_pow_sub_one,decide_eq_true hk] at h1
  obtain ⟨x,hx,he⟩:=List.any_eq_true.1 h1.symm
  have:=(h x hx).1
  have:=of_decide_eq_true he
  have e:x=(k:Int):=by omega
  exact e▸hx
 ·intro ha
  refine Nat.eq_of_testBit_eq λk=>?_
  rw [mJ,Nat.testBit_two_pow_sub_one]
  by_cases hk:k<xs.length
  ·rw [decide_eq_true hk]
   exact List.any_eq_true.2 ⟨k,ha k hk,by simp⟩
  ·rw [decide_eq_false hk]
   refine Bool.eq_false_iff.2 λht=>?_
   obtain ⟨x,hx,he⟩:=List.any_eq_true.1 ht
   have:=h x hx
   have:=of_decide_eq_true he
   omega
theorem MW {m:Nat} {x:Int} (hm:m<2^20) (h0:0<=x) (h1:x<20):
  IntKind.i64.wrap (((BitVec.ofInt IntKind.i64.bits (m:Int)|||BitVec.ofInt IntKind.i64.bits (IntKind.i64.wrap ((1:Int)*(2:Int)^min x.toNat IntKind.i64.bits))).toNat:Nat):Int)=((m|||2^x.toNat:Nat):Int):=by
 have hx:(2:Nat)^x.toNat<2^20:=Nat.pow_lt_pow_right (by omega) (by omega)
 have e1:min x.toNat IntKind.i64.bits=x.toNat:=by show min x.toNat 64=_;omega
 have e2:(1:Int)*(2:Int)^x.toNat=((2^x.toNat:Nat):Int):=by rw [Int.one_mul];exact (Int.natCast_pow 2 _).symm
 rw [e1,e2,Ci (n:=((2^x.toNat:Nat):Int)) (by have:(0:Int)<=((2^x.toNat:Nat):Int):=Int.natCast_nonneg _;omega) (by omega)]
 show IntKind.i64.wrap (((BitVec.ofInt 64 (m:Int)|||BitVec.ofInt 64 ((2^x.toNat:Nat):Int)).toNat:Nat):Int)=_
 rw [BitVec.ofInt_natCast,BitVec.ofInt_natCast,BitVec.toNat_or,BitVec.toNat_ofNat,BitVec.toNat_ofNat,Nat.mod_eq_of_lt (by omega),Nat.mod_eq_of_lt (by omega)]
 have:=Nat.or_lt_two_pow hm hx
 exact Ci (by omega) (by omega)
theorem sy (p:List Int) (h:short p):fnW Cj (look [(93,Bm),(153,Km)]) Hl Try.f169 (p,()) (λ(z:Bool)=>z=Jf p):=by
 have hs:=h
 unfold short at h
 refine Eq.mp (tJ p _) ⟨_,if_pos trivial,⟨λhp=>?_,λhp=>?_⟩⟩
 ·have hp:=Dg hp
  rw [Cl] at hp
  dsimp only at hp
  exact Bt λhh=>hp ⟨by omega,by omega⟩
 ·have hp:=Dh hp
  rw [Cl] at hp
  dsimp only at hp
  refine Ai p.length (λv=>v.1) (λj _=>DL p.length p j) rfl (λj _ hj=>absurd hj (Nat.not_lt_zero _)) ?_
  rintro j ⟨i,⟨⟩⟩ K hj hi hR hK
  dsimp only at hi⊢
  subst hi
  refine Br.dec (λhl=>?_) λhl=>?_
  ·have hl:j<p.length:=by omega
   refine ⟨_,An hl,_,if_pos trivial,⟨λhq=>?_,λhq=>?_⟩⟩
   ·have hq:=Dg hq
    rw [Cl,Ci (by omega) (by omega)] at hq
    exact Bt λhh=>hq ⟨(hh.2.2 j hl hl).1,(hh.2.2 j hl hl).2.1⟩
   ·have hq:=Dh hq
    rw [Cl,Ci (by omega) (by omega)] at hq
    refine ⟨⟨by omega,by omega,by omega⟩,_,An hl,?_⟩
    rw [show (Int.toNat 0)=0 from rfl,List.drop_zero,Int.toNat_natCast]
    refine ⟨_,if_pos (z6 hs j),⟨λhc=>?_,λhc=>?_⟩⟩
    ·have hc:decide (p[j]∈p.take j)=true:=hc
     rw [decide_eq_true_iff] at hc
     exact Bt λhh=>(hh.2.2 j hl hl).2.2 hc
    ·have hc:decide (p[j]∈p.take j)=false:=hc
     rw [decide_eq_false_iff_not] at hc
     rw [Ag (by omega)]
     exact hK hl _ rfl (LO hl hR hq.1 hq.2 hc)
  ·have:j=p.length:=by omega
   subst this
   exact Lb ⟨by omega,by omega,hR⟩
theorem Yl:Sound Try.prog 169 Hl:=
 Sound.Cu Bj (Ae Wx (Ae gT Ao)) mixed Try.func169 (by kernel_rfl) (by kernel_rfl) λx h=>sy x.1 h
theorem su (p:List Int) (h:short p):fnW Cj (look [(97,Bm),(82,Qr)]) Hl Try.f168 (p,()) (λ(z:Bool)=>z=Jf p):=by
 unfold short at h
 refine Eq.mp (tE p _) ⟨_,if_pos trivial,_,if_pos trivial,⟨λhp=>?_,λhp=>?_⟩⟩
 ·have hp:=Dg hp
  rw [Cl] at hp
  dsimp only at hp
  exact Bt λhh=>hp ⟨by omega,by omega⟩
 ·have hp:=Dh hp
  rw [Cl] at hp
  dsimp only at hp
  refine Ai p.length (λv=>v.2.1) (λj v=>v.1=(mask (p.take j):Int)/\ ∀x∈p.take j,0<=x/\x<p.length) rfl ⟨rfl,by simp⟩ ?_
  rintro j ⟨m,i,⟨⟩⟩ K hj hi ⟨hm,hR⟩ hK
  dsimp only at hi hm⊢
  subst hi hm
  refine Br.dec (λhl=>?_) λhl=>?_
  ·have hl:j<p.length:=by omega
   refine ⟨_,An hl,_,if_pos trivial,_,if_pos trivial,⟨λhq=>?_,λhq=>?_⟩⟩
   ·have hq:=Dg hq
    rw [Cl] at hq
    dsimp only at hq
    rw [Ci (by omega) (by omega)] at hq
    exact Bt λhh=>hq ⟨(hh.2.2 j hl hl).1,(hh.2.2 j hl hl).2.1⟩
   ·have hq:=Dh hq
    rw [Cl] at hq
    dsimp only at hq
    rw [Ci (by omega) (by omega)] at hq
    refine ⟨by omega,?_⟩
    rw [Ag (by omega)]
    have hb:mask (p.take j)<2^20:=MT λx hx=>by have:=hR x hx;omega
    refine hK hl _ rfl ⟨?_,?_⟩
    ·dsimp only
     rw [MW hb hq.1 (by omega),List.take_succ_eq_append_getElem hl,CQ]
    ·rw [List.take_succ_eq_append_getElem hl]
     intro x hx
     rcases List.mem_append.1 hx with hx|hx
     ·exact hR x hx
     ·rw [List.mem_singleton.1 hx];omega
  ·have:j=p.length:=by omega
   subst this
   rw [List.take_length] at hR⊢
   refine ⟨by omega,?_⟩
   have hx:(2:Nat)^p.length<=2^20:=Nat.pow_le_pow_right (by omega) (by omega)
   have xT:0<(2:Nat)^p.length:=Nat.two_pow_pos _
   have e1:min (p.length:Int).toNat IntKind.i64.bits=p.length:=by show min (p.length:Int).toNat 64=_;omega
   have e2:(1:Int)*(2:Int)^p.length=((2^p.length:Nat):Int):=by rw [Int.one_mul];exact (Int.natCast_pow 2 _).symm
   rw [e1,e2,Ci (n:=((2^p.length:Nat):Int)) (by omega) (by omega),Ci (by omega) (by omega)]
   have hE:((mask p:Int)==((2^p.length:Nat):Int)-1)=decide (mask p=2^p.length-1):=by
    rw [Bool.eq_iff_iff,beq_iff_eq,decide_eq_true_iff]
    omega
   show ((mask p:Int)==((2^p.length:Nat):Int)-1)=Jf p
   rw [hE]
   by_cases hf:mask p=2^p.length-1
   ·rw [decide_eq_true hf]
    have hn:=(Wo hR).1 ((qn hR).1 hf)
    refine Lb ⟨by omega,by omega,λj hj _=>?_⟩
    have:=hR _ (List.getElem_mem hj)
    exact ⟨this.1,by omega,hn j hj⟩
   ·rw [decide_eq_false hf]
    refine Bt λhh=>hf ((qn hR).2 ((Wo hR).2 λj hj=>(hh.2.2 j hj hj).2.2))
theorem jg:Sound Try.prog 168 Hl:=
 Sound.Cu Bj (Ae Pl (Ae fp Ao)) mixed Try.func168 (by kernel_rfl) (by kernel_rfl) λx h=>su x.1 h
theorem sx (n:Int) (g:List (List Int)) (h:Fu g):fnW Cj (look [(93,Bm),(169,Hl)]) Kf Try.f147 (n,g,()) (λ(z:Bool)=>z=Ru n g):=by
 obtain ⟨h,h4⟩:=h
 refine Eq.mp (tH n g _) ⟨_,if_pos trivial,⟨λhp=>?_,λhp=>?_⟩⟩
 ·have hp:=Dg hp
  rw [Cl] at hp
  exact Bt λhh=>hp hh.1
 ·have hp:=Dh hp
  rw [Cl] at hp
  refine Br.dec (λhg=>?_) λhg=>?_
  ·exact Bt λhh=>by have:=hh.2.1;omega
  ·refine Ai g.length (λv=>v.1) (λj _=> ∀p∈g.take j,Jv n p=true) rfl (by simp) ?_
   rintro j ⟨i,⟨⟩⟩ K hj hi hR hK
   dsimp only at hi⊢
   subst hi
   refine Br.dec (λhl=>?_) λhl=>?_
   ·have hl:j<g.length:=by omega
    have hm:g[j]∈g:=List.getElem_mem hl
    refine ⟨_,An hl,⟨λhe=>?_,λhe=>?_⟩⟩
    ·simp only [bne_iff_ne,ne_eq] at he
     exact Bt λhh=>he (Ho.1 (hh.2.2 _ hm)).1
    ·simp only [bne_eq_false_iff_eq] at he
     refine ⟨_,An hl,_,if_pos (h4 _ hm),⟨λhq=>?_,λhq=>?_⟩⟩
     ·have hq:=Dg hq
      exact Bt λhh=>hq (Ho.1 (hh.2.2 _ hm)).2
     ·have hq:=Dh hq
      rw [Ag (by omega)]
      refine hK hl _ rfl ?_
      rw [List.take_succ_eq_append_getElem hl]
      intro x hx
      rcases List.mem_append.1 hx with hx|hx
      ·exact hR x hx
      ·rw [List.mem_singleton.1 hx];exact Ho.2 ⟨he,hq⟩
   ·have:j=g.length:=by omega
    subst this
    rw [List.take_length] at hR
    exact Lb ⟨hp,by omega,hR⟩
theorem ji:Sound Try.prog 147 Kf:=
 Sound.Cu Bj (Ae Wx (Ae Yl Ao)) mixed Try.func147 (by kernel_rfl) (by kernel_rfl) λx h=>sx x.1 x.2.1 h
theorem MY (p:List Int) (n:Int) (h:short p):fnW Cj (look [(82,Qr),(168,Hl)]) dj Try.f177 (p,n,()) (λ(z:Bool)=>z=!Jv n p):=by
 refine Eq.mp (NT p n _) ⟨_,if_pos trivial,⟨λhe=>?_,λhe=>⟨_,if_pos h,?_⟩⟩⟩
 ·simp only [bne_iff_ne,ne_eq] at he
  have:Jv n p=false:=LN.2 λhh=>he hh.1
  rw [this];rfl
 ·simp only [bne_eq_false_iff_eq] at he
  show (!Jf p)=_
  congr 1
  cases hp:Jf p with
  |true=>exact Lb ⟨he,hp⟩
  |false=>exact Bt λhh=>by rw [hh.2] at hp;cases hp
theorem wB:Sound Try.prog 177 dj:=
 Sound.Cu Bj (Ae fp (Ae jg Ao)) mixed Try.func177 (by kernel_rfl) (by kernel_rfl) λx h=>MY x.1 x.2.1 h
theorem jO {α:Type} (P:α->Bool): ∀(l:List α) (i:Int),0<=i->(0<=Du P l i↔l.any P=true)
 | [],i,_=>by simp [Du]
 |y::r,i,h=>by
  simp only [Du,List.any_cons,Bool.or_eq_true]
  split
  ·rename_i hy;simp [hy,h]
  ·rename_i hy;rw [jO P r (i+1) (by omega)];simp [hy]
theorem YV (g:List (List Int)) (n:Int×Unit) (h:Fu g):fnW Cj (look [(177,dj)]) qL Try.f184 (g,n,()) (λ(z:Int)=>z=Du (λp=>!Jv n.1 p) g 0):=by
 obtain ⟨h,h4⟩:=h
 refine Eq.mp (ZS g n _) ?_
 refine Ai g.length (λv=>v.1) (λj _=>Du (λp=>!Jv n.1 p) (g.drop j) j=Du (λp=>!Jv n.1 p) g 0) rfl (by simp) ?_
 rintro j ⟨i,⟨⟩⟩ K hj hi hR hK
 dsimp only at hi⊢
 subst hi
 refine Br.dec (λhl=>?_) λhl=>?_
 ·have hl:j<g.length:=by omega
  rw [List.drop_eq_getElem_cons hl] at hR
  simp only [Du] at hR
  refine ⟨_,An hl,_,if_pos (h4 _ (List.getElem_mem hl)),⟨λhe=>?_,λhe=>?_⟩⟩
  ·have he:(!Jv n.1 g[j])=true:=he
   rw [if_pos he] at hR
   exact hR
  ·have he:(!Jv n.1 g[j])=false:=he
   rw [if_neg (by rw [he];decide)] at hR
   rw [Ag (by omega)]
   exact hK hl _ rfl (by push_cast;exact hR)
 ·have:j=g.length:=by omega
  subst this
  rw [List.drop_length] at hR
  exact hR
theorem ED:Sound Try.prog 184 qL:=
 Sound.Cu Bj (Ae wB Ao) mixed Try.func184 (by kernel_rfl) (by kernel_rfl) λx h=>YV x.1 x.2.1 h
theorem YR (g:List (List Int)) (n:Int×Unit) (h:Fu g):fnW Cj (look [(184,qL)]) qI Try.f176 (g,n,()) (λ(z:Bool)=>z=List.any g (λp=>!Jv n.1 p)):=by
 refine Eq.mp (ZO g n _) ⟨_,if_pos h,?_⟩
 rw [Bool.eq_iff_iff,decide_eq_true_iff]
 exact jO _ g 0 (Int.le_refl 0)
theorem EA:Sound Try.prog 176 qI:=
 Sound.Cu Bj (Ae ED Ao) mixed Try.func176 (by kernel_rfl) (by kernel_rfl) λx h=>YR x.1 x.2.1 h
theorem ss (n:Int) (g:List (List Int)) (h:Fu g):fnW Cj (look [(97,Bm),(176,qI)]) Kf Try.f158 (n,g,()) (λ(z:Bool)=>z=Ru n g):=by
 refine Eq.mp (tD n g _) ⟨_,if_pos trivial,⟨λhp=>?_,λhp=>?_⟩⟩
 ·have hp:Hc n 1 20=true:=hp
  rw [Cl] at hp
  refine Br.dec (λhl=>⟨_,if_pos h,?_⟩) λhl=>?_
  ·show (!List.any g (λp=>!Jv n p))=Ru n g
   cases ha:List.any g (λp=>!Jv n p) with
   |true=>
    obtain ⟨p,tT,BY⟩:=List.any_eq_true.1 ha
    exact Bt λhh=>by rw [hh.2.2 p tT] at BY;cases BY
   |false=>
    refine Lb ⟨hp,by omega,λp hm=>?_⟩
    have:=List.any_eq_false.1 ha p hm
    simpa using this
  ·exact Bt λhh=>by have:=hh.2.1;omega
 ·refine Bt λhh=>?_
  have:Hc n 1 20=true:=Cl.2 hh.1
  have hp:Hc n 1 20=false:=hp
  rw [this] at hp;cases hp
theorem jf:Sound Try.prog 158 Kf:=
 Sound.Cu Bj (Ae Pl (Ae EA Ao)) mixed Try.func158 (by kernel_rfl) (by kernel_rfl) λx h=>ss x.1 x.2.1 h
theorem Hm {s:ByteArray} {k:Nat} (h:k<s.size):s[k]?=some s[k]:=getElem?_pos s k h
theorem JA (s:ByteArray) (i:Int) (h:0<=i/\i<s.size/\s.size<=4294967296):fnW Cj (look []) Yi Try.f148 (s,i,()) (λ(z:Bool)=>z=gF s i):=by
 obtain ⟨h1,h2,h3⟩:=h
 have hi:i.toNat<s.size:=by omega
 refine Eq.mp (KN s i _) ⟨h1,_,Hm hi,Br.dec (λhq=>?_) λhq=>⟨h1,_,Hm hi,Br.dec (λhr=>?_) λhr=>?_⟩⟩
 ·refine Bt λ⟨c,hc,LZ,_⟩=>?_
  rw [Hm hi] at hc;cases hc;omega
 ·refine Bt λ⟨c,hc,_,LZ,_⟩=>?_
  rw [Hm hi] at hc;cases hc;omega
 ·refine Ai i.toNat (λv=>v.1) (λj _=> ∀k,k<j->s[k]?≠some s[i.toNat]) rfl (λk hk=>absurd hk (Nat.not_lt_zero _)) ?_
  rintro j ⟨i',⟨⟩⟩ K hj om hR hK
  dsimp only at om⊢
  subst om
  refine Br.dec (λhl=>?_) λhl=>?_
  ·have hl:j<i.toNat:=by omega
   have hj:j<s.size:=by omega
   rw [Int.toNat_natCast]
   refine ⟨by omega,_,Hm hj,h1,_,Hm hi,⟨λhe=>?_,λhe=>?_⟩⟩
   ·simp only [beq_iff_eq,Int.natCast_inj] at he
    refine Bt λ⟨c,hc,_,_,LZ⟩=>?_
    rw [Hm hi] at hc;cases hc
    exact LZ j hl (by rw [Hm hj,UInt8.toNat_inj.1 he])
   ·simp only [beq_eq_false_iff_ne,ne_eq,Int.natCast_inj] at he
    rw [Ag (by omega)]
    refine hK hl _ rfl λk hk=>?_
    by_cases e:k=j
    ·subst e
     rw [Hm hj]
     exact λe=>he (by rw [Option.some.inj e])
    ·exact hR k (by omega)
  ·have:j=i.toNat:=by omega
   subst this
   exact Lb ⟨_,Hm hi,by omega,by omega,hR⟩
theorem sY:Sound Try.prog 148 Yi:=
 Sound.Cu Bj Ao mixed Try.func148 (by kernel_rfl) (by kernel_rfl) λx h=>JA x.1 x.2.1 h
theorem DA (s:ByteArray) (h:s.size<=4294967296):fnW Cj (look [(97,Bm)]) Tv Try.f159 (s,()) (λ(z:Bool)=>z=Yb s):=by
 refine Eq.mp (EY s _) ?_
 refine Ai s.size (λv=>v.1) (λj _=> ∀k,k<j->r7 s k) rfl (λk hk=>absurd hk (Nat.not_lt_zero _)) ?_
 rintro j ⟨i,⟨⟩⟩ K hj hi hR hK
 dsimp only at hi⊢
 subst hi
 refine Br.dec (λhl=>?_) λhl=>?_
 ·have hl:j<s.size:=by omega
  rw [Int.toNat_natCast]
  have hb:=(s[j]).toNat_lt
  refine ⟨by omega,_,Hm hl,_,if_pos trivial,⟨λhq=>?_,λhq=>?_⟩⟩
  ·have hq:=Dg hq
   rw [Cl] at hq
   dsimp only at hq
   rw [Ci (by omega) (by omega)] at hq
   refine Bt λhh=>?_
   obtain ⟨c,hc,LZ,UM,_⟩:=hh.2 j hl
   rw [Hm hl] at hc;cases hc
   exact hq ⟨by omega,by omega⟩
  ·have hq:=Dh hq
   rw [Cl] at hq
   dsimp only at hq
   rw [Ci (by omega) (by omega)] at hq
   refine Ai j (λv=>v.1) (λm _=> ∀k,k<m->s[k]?≠some s[j]) rfl (λk hk=>absurd hk (Nat.not_lt_zero _)) ?_
   rintro m ⟨i',⟨⟩⟩ K' hm om hR' VV
   dsimp only at om⊢
   subst om
   refine Br.dec (λGt=>?_) λGt=>?_
   ·have Gt:m<j:=by omega
    have hm':m<s.size:=by omega
    rw [Int.toNat_natCast]
    refine ⟨by omega,_,Hm hm',by omega,_,Hm hl,⟨λhe=>?_,λhe=>?_⟩⟩
    ·simp only [beq_iff_eq,Int.natCast_inj] at he
     refine Bt λhh=>?_
     obtain ⟨c,hc,_,_,LZ⟩:=hh.2 j hl
     rw [Hm hl] at hc;cases hc
     exact LZ m Gt (by rw [Hm hm',UInt8.toNat_inj.1 he])
    ·simp only [beq_eq_false_iff_ne,ne_eq,Int.natCast_inj] at he
     rw [Ag (by omega)]
     refine VV Gt _ rfl λk hk=>?_
     by_cases e:k=m
     ·subst e
      rw [Hm hm']
      exact λe=>he (by rw [Option.some.inj e])
     ·exact hR' k (by omega)
   ·have:m=j:=by omega
    subst this
    rw [Ag (by omega)]
    refine hK hl _ rfl λk hk=>?_
    by_cases e:k=m
    ·subst e
     exact ⟨_,Hm hl,by omega,by omega,hR'⟩
    ·exact hR k (by omega)
 ·have:j=s.size:=by omega
  subst this
  refine ⟨_,if_pos trivial,?_⟩
  show Hc s.size 1 8=_
  cases hr:Hc s.size 1 8 with
  |true=>rw [Cl] at hr;exact Lb ⟨by omega,hR⟩
  |false=>refine Bt λhh=>?_;rw [Cl.2 ⟨by omega,by omega⟩] at hr;cases hr
theorem ph:Sound Try.prog 159 Tv:=
 Sound.Cu Bj (Ae Pl Ao) mixed Try.func159 (by kernel_rfl) (by kernel_rfl) λx h=>DA x.1 h
theorem zo {p:PP} (h:Bg p=true):1<=p.1/\p.1<=20/\1<=p.2.2.1.length/\p.2.2.1.length<=8:=by
 obtain ⟨h1,h2,h3⟩:=Ho.1 h
 obtain ⟨h4,h5,_⟩:=Ho.1 h1
 obtain ⟨h6,_⟩:=Ho.1 h2
 omega
theorem sA (p:PP) (h:Cp p):fnW Cj (look [(147,Kf),(148,Yi)]) Dv Try.f110 (p,()) (λ(z:Bool)=>z=Bg p):=by
 obtain ⟨hn,hg⟩:=h
 refine Eq.mp (tK p _) ⟨λh0=>?_,λh0=>⟨λh1=>?_,λh1=>⟨_,if_pos hg,⟨λh2=>?_,λh2=>?_⟩⟩⟩⟩
 ·simp only [beq_iff_eq] at h0
  exact Bt λhh=>by obtain ⟨_,h2,h3⟩:=hh;have:=(Ho.1 h2).1;omega
 ·simp only [bne_iff_ne,ne_eq,Int.natCast_inj] at h1
  exact Bt λhh=>h1 hh.2.2
 ·have h2:=Dg h2
  exact Bt λhh=>h2 hh.1
 ·simp only [beq_eq_false_iff_ne,ne_eq] at h0
  simp only [bne_eq_false_iff_eq,Int.natCast_inj] at h1
  have h2:Ru p.1 p.2.2.1=true:=Dh h2
  refine Ai p.2.1.size (λv=>v.1) (λj v=>v.2=(p.1,p.2.1,p.2.2.1,())/\ ∀k,k<j->r7 p.2.1 k) rfl ⟨rfl,λk hk=>absurd hk (Nat.not_lt_zero _)⟩ ?_
  rintro j ⟨i,v⟩ K hj hi ⟨hv,hR⟩ hK
  dsimp only at hi hv⊢
  subst hi hv
  dsimp only
  refine Br.dec (λhl=>?_) λhl=>?_
  ·have hl:j<p.2.1.size:=by omega
   refine ⟨_,if_pos ⟨Int.natCast_nonneg j,Int.ofNat_lt.2 hl,hn⟩,⟨λhq=>?_,λhq=>?_⟩⟩
   ·have hq: ¬gF p.2.1 j=true:=Dg hq
    refine Bt λhh=>hq (Ho.2 ?_)
    rw [Int.toNat_natCast]
    exact (Ho.1 hh.2.1).2 j hl
   ·have hq:gF p.2.1 j=true:=Dh hq
    have hq:=Ho.1 hq
    rw [Int.toNat_natCast] at hq
    rw [Ag (by omega)]
    refine hK hl _ rfl ⟨rfl,λk hk=>?_⟩
    by_cases e:k=j
    ·subst e;exact hq
    ·exact hR k (by omega)
  ·have:j=p.2.1.size:=by omega
   subst this
   have:=(Ho.1 h2).2.1
   exact Lb ⟨h2,Ho.2 ⟨⟨by omega,by omega⟩,hR⟩,h1⟩
theorem Qx:Sound Try.prog 110 Dv:=
 Sound.Cu Bj (Ae ji (Ae sY Ao)) mixed Try.func110 (by kernel_rfl) (by kernel_rfl) λx h=>sA x.1 h
theorem sv (p:PP) (h:Cp p):fnW Cj (look [(158,Kf),(159,Tv)]) Dv Try.f130 (p,()) (λ(z:Bool)=>z=Bg p):=by
 obtain ⟨hn,hg⟩:=h
 refine Eq.mp (tF p _) ⟨_,if_pos hg,⟨λh1=>⟨_,if_pos hn,⟨λh2=>?_,λh2=>?_⟩⟩,λh1=>?_⟩⟩
 ·have h1:Ru p.1 p.2.2.1=true:=h1
  have h2:Yb p.2.1=true:=h2
  by_cases e:p.2.1.size=p.2.2.1.length
  ·rw [e,beq_self_eq_true];exact Lb ⟨h1,h2,e⟩
  ·rw [show ((p.2.1.size:Int)==(p.2.2.1.length:Int))=false from beq_eq_false_iff_ne.2 (by omega)];exact Bt λhh=>e hh.2.2
 ·have h2:Yb p.2.1=false:=h2
  exact Bt λhh=>by rw [hh.2.1] at h2;cases h2
 ·have h1:Ru p.1 p.2.2.1=false:=h1
  exact Bt λhh=>by rw [hh.1] at h1;cases h1
theorem Qw:Sound Try.prog 130 Dv:=
 Sound.Cu Bj (Ae jf (Ae ph Ao)) mixed Try.func130 (by kernel_rfl) (by kernel_rfl) λx h=>sv x.1 h
theorem YY (p:PP) (room:Int) (h:Cp p/\roomy room):fnW Cj (look [(34,ab)]) qM Try.f14 (p,room,()) (λ(z:Int)=>z=mH p room):=by
 obtain ⟨⟨h1,h2⟩,h3,h4⟩:=h
 refine Eq.mp (ZV p room _) ?_
 rw [Ci (by omega) (by omega)]
 refine Br.dec (λhn=>?_) λhn=>⟨_,if_pos ⟨h2,by dsimp only;omega,by dsimp only;omega⟩,Br.dec (λhm=>?_) λhm=>?_⟩
 ·simp only [mH,if_pos hn]
 ·exact ((if_neg hn).trans (if_pos hm)).symm
 ·exact ((if_neg hn).trans (if_neg hm)).symm
theorem EF:Sound Try.prog 14 qM:=
 Sound.Cu Bj (Ae nO Ao) mixed Try.func14 (by kernel_rfl) (by kernel_rfl) λx h=>YY x.1 x.2.1 h
theorem ZA (p:PP) (h:Cp p):fnW Cj (look [(36,ae)]) ka Try.f16 (p,()) (λ(z:PP)=>z=p):=Eq.mp (ZX p _) ⟨_,if_pos h.2,rfl⟩
theorem EG:Sound Try.prog 16 ka:=
 Sound.Cu Bj (Ae nQ Ao) mixed Try.func16 (by kernel_rfl) (by kernel_rfl) λx h=>ZA x.1 h
theorem uo {a b:ByteArray} :(a.toList==b.toList)=decide (a=b):=by
 rw [Bool.eq_iff_iff,beq_iff_eq,decide_eq_true_iff,ByteArray.toList_eq,ByteArray.toList_eq]
 exact ⟨λh=>ByteArray.ext (Array.toList_inj.1 h),λh=>by rw [h]⟩
theorem YT (a b:PP) (h:Cp a):fnW Cj (look [(38,Nm)]) qJ Try.f19 (a,b,()) (λ(z:Bool)=>z=jN a b):=by
 refine Eq.mp (ZQ a b _) ⟨λh1=>?_,λh1=>⟨λh2=>?_,λh2=>⟨_,if_pos h.2,⟨λh3=>?_,λh3=>?_⟩⟩⟩⟩
 ·simp only [bne_iff_ne,ne_eq] at h1
  unfold jN
  rw [decide_eq_false h1];rfl
 ·rw [uo] at h2
  unfold jN
  cases hd:decide (a.2.1=b.2.1)<;>simp_all
 ·have h3:(!Lg a.2.2.1 b.2.2.1)=true:=h3
  simp only [Lg,Bool.not_eq_true'] at h3
  unfold jN
  rw [h3];simp
 ·have h3:(!Lg a.2.2.1 b.2.2.1)=false:=h3
  rw [uo] at h2
  simp only [Lg] at h3
  simp only [bne_eq_false_iff_eq] at h1
  unfold jN
  simp_all
theorem EB:Sound Try.prog 19 qJ:=
 Sound.Cu Bj (Ae nF Ao) mixed Try.func19 (by kernel_rfl) (by kernel_rfl) λx h=>YT x.1 x.2.1 h
theorem yj (p:PP):jN p p=true:=by simp [jN]
theorem vT {b:Bool} {P:Prop} (h1:b=true) (h:(!b)=true):P:=by rw [h1] at h;cases h
theorem yK (t:TT) (xs:List Int) (h:Ka t/\short xs):fnW Cj (look [(105,Aq)]) Nn Try.f163 (t,xs,()) (λ(z:Int)=>z=Du (λp=>decide (p=xs)) t.2.1 0):=by
 obtain ⟨⟨_,⟨h,h4⟩,_⟩,_⟩:=h
 refine Eq.mp (zB t xs _) ?_
 refine Ai t.2.1.length (λv=>v.1) (λj v=>v.2=(t.1,t.2.1,t.2.2.1,())/\Du (λp=>decide (p=xs)) (t.2.1.drop j) j=Du (λp=>decide (p=xs)) t.2.1 0) rfl ⟨rfl,by simp⟩ ?_
 rintro j ⟨i,v⟩ K hj hi ⟨hv,hR⟩ hK
 dsimp only at hi hv⊢
 subst hi hv
 dsimp only
 refine Br.dec (λhl=>?_) λhl=>?_
 ·have hl:j<t.2.1.length:=by omega
  rw [List.drop_eq_getElem_cons hl] at hR
  simp only [Du] at hR
  refine ⟨_,An hl,_,if_pos (h4 _ (List.getElem_mem hl)),⟨λhe=>?_,λhe=>?_⟩⟩
  ·have he:decide (t.2.1[j]=xs)=true:=he
   rw [if_pos he] at hR
   exact hR
  ·have he:decide (t.2.1[j]=xs)=false:=he
   rw [if_neg (by rw [he];decide)] at hR
   rw [Ag (by omega)]
   exact hK hl _ rfl ⟨rfl,by push_cast;exact hR⟩
 ·have:j=t.2.1.length:=by omega
  subst this
  rw [List.drop_length] at hR
  exact hR
theorem nP:Sound Try.prog 163 Nn:=
 Sound.Cu Bj (Ae So Ao) mixed Try.func163 (by kernel_rfl) (by kernel_rfl) λx h=>yK x.1 x.2.1 h
end Go.Proofs.Ytjbdmibbbpdnnaa

namespace Go.Proofs.Ytjbdmibbbpdnnaa
open Go.RowKit
def Jd (xs:List Int) (i:Int):Int:=xs.getD i.toNat 0
def Aa (p q:List Int):List Int:=p.map (Jd q)
def Vp (f:Nat->Nat) (g:Nat->Int) (m:Nat) (init:List Int):List Int:=(List.range m).foldl (λ(out:List Int) (i:Nat)=>out.set (f i) (g i)) init
def Al (p:List Int):List Int:=Vp (λi=>(Jd p (i:Int)).toNat) (λi=>(i:Int)) p.length (List.replicate p.length 0)
def It (n:Nat) (p:List Int):Prop:= ∀y∈p,0<=y/\y<n
noncomputable abbrev Tu:Spec:=Cu (.pair tL (.pair tL .unit)) tL false true (λx=>List.length x.1<=20/\It (List.length x.2.1) x.1) (λx=>Aa x.1 x.2.1)
noncomputable abbrev En:Spec:=Cu (.pair tL .unit) tL false true (λx=>List.length x.1<=20/\It (List.length x.1) x.1) (λx=>Al x.1)
noncomputable abbrev Cb:Spec:=Cu (.pair tI .unit) tL false true (λx=>0<=x.1/\x.1<=20) (λx=>upto x.1.toNat)
noncomputable abbrev Ko:Spec:=Cu (.pair tL .unit) tL false true (λx=>Jf x.1=true) (λx=>Al x.1)
def Af (g:List (List Int)) (l:Int):List Int:=if l>0 then g.getD (l-1).toNat [] else Al (g.getD (-l-1).toNat [])
def Gq (n:Int) (l:Int):Prop:=l≠0/\ -n<=l/\l<=n
noncomputable abbrev Jz:Spec:=Cu (.pair dt (.pair tI .unit)) tL false false (λx=>Gq (List.length x.1) x.2.1/\List.length x.1<=8/\ ∀p∈x.1,Jf p=true) (λx=>Af x.1 x.2.1)
def Au (n:Nat):List Int:=(List.range n).flatMap λ(k:Nat)=> [(k:Int)+1,-((k:Int)+1)]
noncomputable abbrev Hy:Spec:=Cu (.pair tI .unit) tL false true (λx=>0<=x.1/\x.1<=8) (λx=>Au x.1.toNat)
noncomputable abbrev Yg:Spec:=Cu (.pair Dm (.pair tL (.pair tI .unit))) tL false true (λx=>Bg x.1=true/\List.length x.2.1<=20/\(∀y∈x.2.1,0<=y/\y<x.1.1)/\Gq (List.length x.1.2.2.1) x.2.2.1) (λx=>Aa x.2.1 (Af x.1.2.2.1 x.2.2.1))
theorem pE (p q:List Int) (P:List Int->Prop):(((0:Int)<=(↑p.length:Int)/\(↑p.length:Int)<(↑Bh:Int)+(1:Int))/\(↑p.length:Int)=(↑p.length:Int)/\0=0/\(List.replicate (↑p.length:Int).toNat (Int.ofNat (nat_lit 0))).length=(List.replicate (↑p.length:Int).toNat (Int.ofNat (nat_lit 0))).length/\Bl (λ(v3:Int×List Int×PUnit) (k4:Int×List Int×PUnit->Prop)=>Br (decide (v3.1<(↑p.length:Int))) (∃(y5:Int),idx p v3.1=some y5/\ ∃(y6:Int),idx q y5=some y6/\((0:Int)<=v3.1/\v3.1<(↑v3.2.1.length:Int))/\0+v3.1.toNat<v3.2.1.length/\0=0/\v3.2.1.length=(v3.2.1.set (0+v3.1.toNat) y6).length/\k4 (IntKind.i64.wrap (v3.1+(1:Int)),v3.2.1.set (0+v3.1.toNat) y6,())) (P (List.take v3.2.1.length (List.drop 0 v3.2.1)))) ((0:Int),List.replicate (↑p.length:Int).toNat (Int.ofNat (nat_lit 0)),PUnit.unit))=fnW Cj (look []) Tu Try.f156 (p,q,()) P:=by kernel_rfl
theorem pF (p:List Int) (P:List Int->Prop):(((0:Int)<=(↑p.length:Int)/\(↑p.length:Int)<(↑Bh:Int)+(1:Int))/\(↑p.length:Int)=(↑p.length:Int)/\0=0/\(List.replicate (↑p.length:Int).toNat (Int.ofNat (nat_lit 0))).length=(List.replicate (↑p.length:Int).toNat (Int.ofNat (nat_lit 0))).length/\Bl (λ(v2:Int×List Int×PUnit) (k3:Int×List Int×PUnit->Prop)=>Br (decide (v2.1<(↑p.length:Int))) (∃(y4:Int),idx p v2.1=some y4/\((0:Int)<=y4/\y4<(↑v2.2.1.length:Int))/\0+y4.toNat<v2.2.1.length/\0=0/\v2.2.1.length=(v2.2.1.set (0+y4.toNat) v2.1).length/\k3 (IntKind.i64.wrap (v2.1+(1:Int)),v2.2.1.set (0+y4.toNat) v2.1,())) (P (List.take v2.2.1.length (List.drop 0 v2.2.1)))) ((0:Int),List.replicate (↑p.length:Int).toNat (Int.ofNat (nat_lit 0)),PUnit.unit))=fnW Cj (look []) En Try.f175 (p,()) P:=by kernel_rfl
theorem FF (p:List Int) (P:List Int->Prop):(((0:Int)<=(↑p.length:Int)/\(↑p.length:Int)<(↑Bh:Int)+(1:Int))/\(↑p.length:Int)=(↑p.length:Int)/\0=0/\(List.replicate (↑p.length:Int).toNat (Int.ofNat (nat_lit 0))).length=(List.replicate (↑p.length:Int).toNat (Int.ofNat (nat_lit 0))).length/\Bl (λ(v2:Int×List Int×PUnit) (k3:Int×List Int×PUnit->Prop)=>Br (decide (v2.1<(↑p.length:Int))) (∃(y4:Int),idx p v2.1=some y4/\((0:Int)<=y4/\y4<(↑v2.2.1.length:Int))/\0+y4.toNat<v2.2.1.length/\0=0/\v2.2.1.length=(v2.2.1.set (0+y4.toNat) v2.1).length/\k3 (IntKind.i64.wrap (v2.1+(1:Int)),v2.2.1.set (0+y4.toNat) v2.1,())) (P (List.take v2.2.1.length (List.drop 0 v2.2.1)))) ((0:Int),List.replicate (↑p.length:Int).toNat (Int.ofNat (nat_lit 0)),PUnit.unit))=fnW Cj (look []) En Try.f170 (p,()) P:=by kernel_rfl
theorem pJ (p:List Int) (P:List Int->Prop):(∃(y2:Bool),Hl.fn (p,())=some y2/\Br (!y2) (P (List.take 0 (List.drop 0 []))) (∃(y3:List Int),En.fn (p,())=some y3/\P y3))=fnW Cj (look [(169,Hl),(170,En)]) Ko Try.f150 (p,()) P:=by kernel_rfl
theorem zt (n:Int) (P:List Int->Prop):(0=0/\0=([]:List Int).length/\Bl (λ(v2:Int×List Int×PUnit) (k3:Int×List Int×PUnit->Prop)=>Br (decide (v2.1<n)) (0=0/\v2.2.1.length=v2.2.1.length/\v2.2.1.length+(List.take 1 (List.drop 0 [v2.1])).length<=Bh/\0=0/\(v2.2.1++List.take 1 (List.drop 0 [v2.1])).length=(v2.2.1++List.take 1 (List.drop 0 [v2.1])).length/\k3 (IntKind.i64.wrap (v2.1+(1:Int)),v2.2.1++List.take 1 (List.drop 0 [v2.1]),())) (P (List.take v2.2.1.length (List.drop 0 v2.2.1)))) ((0:Int),[],PUnit.unit))=fnW Cj (look []) Cb Try.f124 (n,()) P:=by kernel_rfl
theorem zv (g:List (List Int)) (l:Int) (P:List Int->Prop):(Br (decide (l>(0:Int))) (∃(y3:List Int),idx g (IntKind.i64.wrap (l-(1:Int)))=some y3/\P y3) (∃(y3:List Int),idx g (IntKind.i64.wrap (IntKind.i64.wrap ((0:Int)-l)-(1:Int)))=some y3/\ ∃(y4:List Int),En.fn (y3,())=some y4/\P y4))=fnW Cj (look [(175,En)]) Jz Try.f157 (g,l,()) P:=by kernel_rfl
theorem FA (n:Int) (P:List Int->Prop):(0=0/\0=([]:List Int).length/\Bl (λ(v2:Int×List Int×PUnit) (k3:Int×List Int×PUnit->Prop)=>Br (decide (v2.1<n)) (0=0/\v2.2.1.length=v2.2.1.length/\v2.2.1.length+(List.take 2 (List.drop 0 [IntKind.i64.wrap (v2.1+(1:Int)),IntKind.i64.wrap ((0:Int)-IntKind.i64.wrap (v2.1+(1:Int)))])).length<=Bh/\0=0/\(v2.2.1++List.take 2 (List.drop 0 [IntKind.i64.wrap (v2.1+(1:Int)),IntKind.i64.wrap ((0:Int)-IntKind.i64.wrap (v2.1+(1:Int)))])).length=(v2.2.1++List.take 2 (List.drop 0 [IntKind.i64.wrap (v2.1+(1:Int)),IntKind.i64.wrap ((0:Int)-IntKind.i64.wrap (v2.1+(1:Int)))])).length/\k3 (IntKind.i64.wrap (v2.1+(1:Int)),v2.2.1++List.take 2 (List.drop 0 [IntKind.i64.wrap (v2.1+(1:Int)),IntKind.i64.wrap ((0:Int)-IntKind.i64.wrap (v2.1+(1:Int)))]),())) (P (List.take v2.2.1.length (List.drop 0 v2.2.1)))) ((0:Int),[],PUnit.unit))=fnW Cj (look []) Hy Try.f117 (n,()) P:=by kernel_rfl
theorem KJ (p:Int×ByteArray×List (List Int)×Unit) (s:List Int) (l:Int) (P:List Int->Prop):(∃(y4:List Int),idx p.2.2.1 (IntKind.i64.wrap ((if true=true then if IntKind.i64.wrap ((0:Int)-l)>l then IntKind.i64.wrap ((0:Int)-l) else l else if IntKind.i64.wrap ((0:Int)-l)<l then IntKind.i64.wrap ((0:Int)-l) else l)-(1:Int)))=some y4/\Br (decide (l<(0:Int))) (∃(y5:List Int),Ko.fn (y4,())=some y5/\0=0/\0=([]:List Int).length/\Bl (λ(v6:Int×List Int×PUnit) (k7:Int×List Int×PUnit->Prop)=>Br (decide (v6.1<(↑s.length:Int))) (∃(y8:Int),idx s v6.1=some y8/\ ∃(y9:Int),idx y5 y8=some y9/\0=0/\v6.2.1.length=v6.2.1.length/\v6.2.1.length+(List.take 1 (List.drop 0 [y9])).length<=Bh/\0=0/\(v6.2.1++List.take 1 (List.drop 0 [y9])).length=(v6.2.1++List.take 1 (List.drop 0 [y9])).length/\k7 (IntKind.i64.wrap (v6.1+(1:Int)),v6.2.1++List.take 1 (List.drop 0 [y9]),())) (P (List.take v6.2.1.length (List.drop 0 v6.2.1)))) ((0:Int),[],PUnit.unit)) (0=0/\0=([]:List Int).length/\Bl (λ(v5:Int×List Int×PUnit) (k6:Int×List Int×PUnit->Prop)=>Br (decide (v5.1<(↑s.length:Int))) (∃(y7:Int),idx s v5.1=some y7/\ ∃(y8:Int),idx y4 y7=some y8/\0=0/\v5.2.1.length=v5.2.1.length/\v5.2.1.length+(List.take 1 (List.drop 0 [y8])).length<=Bh/\0=0/\(v5.2.1++List.take 1 (List.drop 0 [y8])).length=(v5.2.1++List.take 1 (List.drop 0 [y8])).length/\k6 (IntKind.i64.wrap (v5.1+(1:Int)),v5.2.1++List.take 1 (List.drop 0 [y8]),())) (P (List.take v5.2.1.length (List.drop 0 v5.2.1)))) ((0:Int),[],PUnit.unit)))=fnW Cj (look [(150,Ko)]) Yg Try.f115 (p,s,l,()) P:=by kernel_rfl
theorem Hz {xs:List Int} {i:Nat} (h:i<xs.length):Jd xs (i:Int)=xs[i]:=by
 unfold Jd
 rw [Int.toNat_natCast,List.getD_eq_getElem?_getD,List.getElem?_eq_getElem h];rfl
theorem gr {xs:List Int} {y:Int} (h0:0<=y) (h:y<xs.length):idx xs y=some (Jd xs y):=by
 have hy:y.toNat<xs.length:=by omega
 have e:y=(y.toNat:Int):=by omega
 rw [e,An hy,Hz hy]
theorem Tg (f:Nat->Nat) (g:Nat->Int) (m:Nat) (init:List Int):Vp f g (m+1) init=(Vp f g m init).set (f m) (g m):=by simp [Vp,List.range_succ]
theorem Vq (f:Nat->Nat) (g:Nat->Int) (m:Nat) (init:List Int):(Vp f g m init).length=init.length:=by
 induction m with
 |zero=>rfl
 |succ m ih=>rw [Tg,List.length_set,ih]
theorem jC (f:Nat->Nat) (g:Nat->Int) (init:List Int): ∀(m:Nat),(∀i j,i<m->j<m->f i=f j->i=j)-> ∀i,i<m->f i<init.length->(Vp f g m init)[f i]?=some (g i)
 |0,_,i,h,_=>absurd h (Nat.not_lt_zero _)
 |m+1,hf,i,hi,hl=>by
  rw [Tg]
  by_cases e:i=m
  ·subst e
   exact List.getElem?_set_self (by rw [Vq];exact hl)
  ·rw [List.getElem?_set_ne (λh=>e (hf i m hi (by omega) h.symm))]
   exact jC f g init m (λa b ha hb=>hf a b (by omega) (by omega)) i (by omega) hl
structure Wn (p:List Int):Prop where
 pos:1<=p.length
 len:p.length<=20
 row:It p.length p
 nodup:p.Nodup
theorem j4 {p:List Int} (h:Jf p=true):Wn p:=by
 obtain ⟨h1,h2,h3⟩:=Ho.1 h
 refine ⟨h1,h2,λy hy=>?_,c7 λj hj=>(h3 j hj hj).2.2⟩
 obtain ⟨j,hj,rfl⟩:=List.mem_iff_getElem.1 hy
 have:=h3 j hj hj
 omega
theorem Wn.inj {p:List Int} (h:Wn p) (i j:Nat) (hi:i<p.length) (hj:j<p.length) (e:(Jd p (i:Int)).toNat=(Jd p (j:Int)).toNat):i=j:=by
 rw [Hz hi,Hz hj] at e
 have h1:=h.row _ (List.getElem_mem hi)
 have h2:=h.row _ (List.getElem_mem hj)
 have e:p[i]=p[j]:=by omega
 refine Classical.byContradiction λFe=>?_
 rcases Nat.lt_or_gt_of_ne Fe with hl|hl
 ·exact List.pairwise_iff_getElem.1 h.nodup i j hi hj hl e
 ·exact List.pairwise_iff_getElem.1 h.nodup j i hj hi hl e.symm
theorem Wn.IU {p:List Int} (h:Wn p) (k:Nat) (hk:k<p.length): ∃i,i<p.length/\(Jd p (i:Int)).toNat=k:=by
 have hm:=(Wo (xs:=p) h.row).2 (o4 h.nodup) k hk
 obtain ⟨i,hi,e⟩:=List.mem_iff_getElem.1 hm
 exact ⟨i,hi,by rw [Hz hi,e];exact Int.toNat_natCast k⟩
theorem Wn.lt {p:List Int} (h:Wn p) {i:Nat} (hi:i<p.length):(Jd p (i:Int)).toNat<p.length:=by
 rw [Hz hi]
 have:=h.row _ (List.getElem_mem hi)
 omega
theorem ll (p:List Int):(Al p).length=p.length:=by unfold Al;rw [Vq,List.length_replicate]
theorem HY {p:List Int} (h:Wn p) {i:Nat} (hi:i<p.length):(Al p)[(Jd p (i:Int)).toNat]?=some (i:Int):=
 jC (λi=>(Jd p (i:Int)).toNat) (λi=>(i:Int)) _ p.length (λi j hi hj=>h.inj i j hi hj) i hi (by rw [List.length_replicate];exact h.lt hi)
theorem MR {p:List Int} (h:Wn p):It p.length (Al p):=by
 intro y hy
 obtain ⟨k,hk,rfl⟩:=List.mem_iff_getElem.1 hy
 have mn:k<p.length:=by rw [ll] at hk;exact hk
 obtain ⟨i,hi,rfl⟩:=h.IU k mn
 have:=HY h hi
 rw [List.getElem?_eq_getElem hk] at this
 rw [Option.some.inj this]
 omega
theorem Nq (p q:List Int):(Aa p q).length=p.length:=by simp [Aa]
theorem uw {p q:List Int} {n:Nat} (hp:It q.length p) (hq:It n q):It n (Aa p q):=by
 intro y hy
 obtain ⟨x,hx,rfl⟩:=List.mem_map.1 hy
 have h1:=hp x hx
 rw [show x=(x.toNat:Int) by omega,Hz (by omega)]
 exact hq _ (List.getElem_mem _)
theorem oV (p q:List Int) (h:p.length<=20/\It q.length p):fnW Cj (look []) Tu Try.f156 (p,q,()) (λ(z:List Int)=>z=Aa p q):=by
 obtain ⟨h,hr⟩:=h
 refine Eq.mp (pE p q _) ?_
 refine ⟨⟨by omega,by show (p.length:Int)<(4294967296:Int)+1;omega⟩,rfl,rfl,rfl,?_⟩
 have Lt:=Nq p q
 refine Ai p.length (λv=>v.1) (λj v=>v.2.1.length=(Aa p q).length/\v.2.1.take j=(Aa p q).take j) rfl ⟨by rw [Lt];simp,by simp⟩ ?_
 rintro j ⟨i,ys,⟨⟩⟩ K hj hi ⟨h1,h2⟩ hK
 dsimp only at hi h1 h2⊢
 subst hi
 refine Br.dec (λhl=>?_) λhl=>?_
 ·have hl:j<p.length:=by omega
  have hy:=hr _ (List.getElem_mem hl)
  refine ⟨_,An hl,_,gr hy.1 hy.2,⟨by omega,by omega⟩,by rw [Int.toNat_natCast];omega,rfl,by rw [List.length_set],?_⟩
  rw [Ag (by omega),Int.toNat_natCast,Nat.zero_add]
  have Gt:j<(Aa p q).length:=by rw [Lt];exact hl
  have e:Jd q p[j]=(Aa p q)[j]:=by simp [Aa]
  rw [e]
  exact hK hl _ rfl ⟨by rw [List.length_set];exact h1,Kp Gt h1 h2⟩
 ·have:j=p.length:=by omega
  subst this
  rw [<-Lt,List.take_length,<-h1,List.take_length] at h2
  rw [List.drop_zero,List.take_length]
  exact h2
theorem Ph:Sound Try.prog 156 Tu:=
 Sound.Cu Bj Ao mixed Try.func156 (by kernel_rfl) (by kernel_rfl) λx h=>oV x.1 x.2.1 h
theorem oW (p:List Int) (h:p.length<=20/\It p.length p):fnW Cj (look []) En Try.f175 (p,()) (λ(z:List Int)=>z=Al p):=by
 obtain ⟨h,hr⟩:=h
 refine Eq.mp (pF p _) ?_
 refine ⟨⟨by omega,by show (p.length:Int)<(4294967296:Int)+1;omega⟩,rfl,rfl,rfl,?_⟩
 refine Ai p.length (λv=>v.1) (λj v=>v.2.1=Vp (λi=>(Jd p (i:Int)).toNat) (λi=>(i:Int)) j (List.replicate p.length 0)) rfl rfl ?_
 rintro j ⟨i,ys,⟨⟩⟩ K hj hi h1 hK
 dsimp only at hi h1⊢
 subst hi
 have hlen:ys.length=p.length:=by rw [h1,Vq,List.length_replicate]
 refine Br.dec (λhl=>?_) λhl=>?_
 ·have hl:j<p.length:=by omega
  have hy:=hr _ (List.getElem_mem hl)
  refine ⟨_,An hl,⟨by omega,by omega⟩,by omega,rfl,by rw [List.length_set],?_⟩
  rw [Ag (by omega),Nat.zero_add]
  refine hK hl _ rfl ?_
  rw [Tg,<-h1,Hz hl]
 ·have:j=p.length:=by omega
  subst this
  rw [List.drop_zero,List.take_length]
  exact h1
theorem Pj:Sound Try.prog 175 En:=
 Sound.Cu Bj Ao mixed Try.func175 (by kernel_rfl) (by kernel_rfl) λx h=>oW x.1 h
theorem DH (p:List Int) (h:p.length<=20/\It p.length p):fnW Cj (look []) En Try.f170 (p,()) (λ(z:List Int)=>z=Al p):=by
 obtain ⟨h,hr⟩:=h
 refine Eq.mp (FF p _) ?_
 refine ⟨⟨by omega,by show (p.length:Int)<(4294967296:Int)+1;omega⟩,rfl,rfl,rfl,?_⟩
 refine Ai p.length (λv=>v.1) (λj v=>v.2.1=Vp (λi=>(Jd p (i:Int)).toNat) (λi=>(i:Int)) j (List.replicate p.length 0)) rfl rfl ?_
 rintro j ⟨i,ys,⟨⟩⟩ K hj hi h1 hK
 dsimp only at hi h1⊢
 subst hi
 have hlen:ys.length=p.length:=by rw [h1,Vq,List.length_replicate]
 refine Br.dec (λhl=>?_) λhl=>?_
 ·have hl:j<p.length:=by omega
  have hy:=hr _ (List.getElem_mem hl)
  refine ⟨_,An hl,⟨by omega,by omega⟩,by omega,rfl,by rw [List.length_set],?_⟩
  rw [Ag (by omega),Nat.zero_add]
  refine hK hl _ rfl ?_
  rw [Tg,<-h1,Hz hl]
 ·have:j=p.length:=by omega
  subst this
  rw [List.drop_zero,List.take_length]
  exact h1
theorem pt:Sound Try.prog 170 En:=
 Sound.Cu Bj Ao mixed Try.func170 (by kernel_rfl) (by kernel_rfl) λx h=>DH x.1 h
theorem p6 (p:List Int) (h:Jf p=true):fnW Cj (look [(169,Hl),(170,En)]) Ko Try.f150 (p,()) (λ(z:List Int)=>z=Al p):=by
 have hp:=j4 h
 have hs:short p:=by have:=hp.len;unfold short;omega
 refine Eq.mp (pJ p _) ⟨_,if_pos hs,⟨λhe=>?_,λ_=>⟨_,if_pos ⟨hp.len,hp.row⟩,rfl⟩⟩⟩
 exact absurd h (Dg he)
theorem gW:Sound Try.prog 150 Ko:=
 Sound.Cu Bj (Ae Yl (Ae pt Ao)) mixed Try.func150 (by kernel_rfl) (by kernel_rfl) λx h=>p6 x.1 h
theorem Yo (j:Nat):upto (j+1)=upto j++ [(j:Int)]:=by simp [upto,List.range_succ]
theorem yC (n:Int) (h:0<=n/\n<=20):fnW Cj (look []) Cb Try.f124 (n,()) (λ(z:List Int)=>z=upto n.toNat):=by
 refine Eq.mp (zt n _) ⟨rfl,rfl,?_⟩
 refine Ai n.toNat (λv=>v.1) (λj v=>v.2.1=upto j) rfl rfl ?_
 rintro j ⟨i,ys,⟨⟩⟩ K hj hi h1 hK
 dsimp only at hi h1⊢
 subst hi h1
 refine Br.dec (λhl=>?_) λhl=>?_
 ·refine ⟨rfl,rfl,?_,rfl,rfl,?_⟩
  ·show (upto j).length+1<=4294967296
   rw [Po];omega
  ·rw [Ag (by omega)]
   exact hK (by omega) _ rfl (Yo j).symm
 ·have:j=n.toNat:=by omega
  subst this
  rw [List.drop_zero,List.take_length]
theorem nG:Sound Try.prog 124 Cb:=
 Sound.Cu Bj Ao mixed Try.func124 (by kernel_rfl) (by kernel_rfl) λx h=>yC x.1 h
theorem Nh {g:List (List Int)} {k:Nat} (h:k<g.length):Af g ((k:Int)+1)=g[k]:=by
 unfold Af
 rw [if_pos (by omega),show ((k:Int)+1-1).toNat=k by omega,List.getD_eq_getElem?_getD,List.getElem?_eq_getElem h];rfl
theorem Ng {g:List (List Int)} {k:Nat} (h:k<g.length):Af g (-((k:Int)+1))=Al g[k]:=by
 unfold Af
 rw [if_neg (by omega),show (-(-((k:Int)+1))-1).toNat=k by omega,List.getD_eq_getElem?_getD,List.getElem?_eq_getElem h];rfl
theorem Ov {n:Nat} {l:Int} (h:Gq n l): ∃k:Nat,k<n/\(l=(k:Int)+1\/l= -((k:Int)+1)):=by
 obtain ⟨h1,h2,h3⟩:=h
 by_cases h0:0<l
 ·exact ⟨(l-1).toNat,by omega, .inl (by omega)⟩
 ·exact ⟨(-l-1).toNat,by omega, .inr (by omega)⟩
theorem yE (g:List (List Int)) (l:Int) (h:Gq (List.length g) l/\List.length g<=8/\ ∀p∈g,Jf p=true):fnW Cj (look [(175,En)]) Jz Try.f157 (g,l,()) (λ(z:List Int)=>z=Af g l):=by
 obtain ⟨hl,h8,hp⟩:=h
 refine Eq.mp (zv g l _) ?_
 obtain ⟨k,hk,rfl|rfl⟩:=Ov hl
 ·refine Br.dec (λ_=>?_) λhn=>by omega
  rw [Ci (by omega) (by omega),show (k:Int)+1-1=(k:Int) by omega]
  exact ⟨_,An hk,(Nh hk).symm⟩
 ·refine Br.dec (λhn=>by omega) λ_=>?_
  rw [Ci (n:=0- -((k:Int)+1)) (by omega) (by omega),Ci (by omega) (by omega),show (0:Int)- -((k:Int)+1)-1=(k:Int) by omega]
  have:=j4 (hp _ (List.getElem_mem hk))
  exact ⟨_,An hk,_,if_pos ⟨this.len,this.row⟩,(Ng hk).symm⟩
theorem cA:Sound Try.prog 157 Jz:=
 Sound.Cu Bj (Ae Pj Ao) mixed Try.func157 (by kernel_rfl) (by kernel_rfl) λx h=>yE x.1 x.2.1 h
theorem Ux (j:Nat):Au (j+1)=Au j++ [(j:Int)+1,-((j:Int)+1)]:=by simp [Au,List.range_succ,List.flatMap_append]
theorem Kk (j:Nat):(Au j).length=2*j:=by
 induction j with
 |zero=>rfl
 |succ j ih=>rw [Ux,List.length_append,ih];simp only [List.length_cons,List.length_nil];omega
theorem Jp {n:Nat} {l:Int} (h:l∈Au n):Gq n l:=by
 unfold Au at h
 obtain ⟨k,hk,hl⟩:=List.mem_flatMap.1 h
 have hk:=List.mem_range.1 hk
 simp only [List.mem_cons,List.not_mem_nil,or_false] at hl
 unfold Gq
 omega
theorem DC (n:Int) (h:0<=n/\n<=8):fnW Cj (look []) Hy Try.f117 (n,()) (λ(z:List Int)=>z=Au n.toNat):=by
 refine Eq.mp (FA n _) ⟨rfl,rfl,?_⟩
 refine Ai n.toNat (λv=>v.1) (λj v=>v.2.1=Au j) rfl rfl ?_
 rintro j ⟨i,ys,⟨⟩⟩ K hj hi h1 hK
 dsimp only at hi h1⊢
 subst hi h1
 refine Br.dec (λhl=>?_) λhl=>?_
 ·refine ⟨rfl,rfl,?_,rfl,rfl,?_⟩
  ·show (Au j).length+2<=4294967296
   rw [Kk];omega
  ·have e1:IntKind.i64.wrap ((j:Int)+1)=(j:Int)+1:=Ci (by omega) (by omega)
   have e2:IntKind.i64.wrap ((0:Int)-((j:Int)+1))= -((j:Int)+1):=by rw [Ci (by omega) (by omega)];omega
   rw [e1,e2]
   exact hK (by omega) _ rfl (Ux j).symm
 ·have:j=n.toNat:=by omega
  subst this
  rw [List.drop_zero,List.take_length]
theorem Wy:Sound Try.prog 117 Hy:=
 Sound.Cu Bj Ao mixed Try.func117 (by kernel_rfl) (by kernel_rfl) λx h=>DC x.1 h
structure Valid (p:PP):Prop where
 n:1<=p.1/\p.1<=20
 kE:1<=p.2.2.1.length/\p.2.2.1.length<=8
 perm: ∀m∈p.2.2.1,Jf m=true
 len: ∀m∈p.2.2.1,(m.length:Int)=p.1
theorem valid {p:PP} (h:Bg p=true):Valid p:=by
 have h0:=zo h
 obtain ⟨h1,_,_⟩:=Ho.1 h
 obtain ⟨_,_,h4⟩:=Ho.1 h1
 exact ⟨⟨h0.1,h0.2.1⟩,h0.2.2,λm hm=>(Ho.1 (h4 m hm)).2,λm hm=>(Ho.1 (h4 m hm)).1⟩
theorem dd {p:PP} (h:Valid p) {l:Int} (hl:Gq (List.length p.2.2.1) l):((Af p.2.2.1 l).length:Int)=p.1/\It (Af p.2.2.1 l).length (Af p.2.2.1 l):=by
 obtain ⟨k,hk,rfl|rfl⟩:=Ov hl
 ·rw [Nh hk]
  exact ⟨h.len _ (List.getElem_mem hk),(j4 (h.perm _ (List.getElem_mem hk))).row⟩
 ·rw [Ng hk,ll]
  exact ⟨h.len _ (List.getElem_mem hk),MR (j4 (h.perm _ (List.getElem_mem hk)))⟩
theorem uc (s y:List Int) (P:List Int->Prop) (h1:s.length<=20) (h2:It y.length s) (h3:P (Aa s y)):
  Bl
   (λ(v5:Int×List Int×PUnit) (k6:Int×List Int×PUnit->Prop)=>
    Br (decide (v5.1<(↑s.length:Int)))
     (∃(y7:Int),
      idx s v5.1=some y7/\
       ∃(y8:Int),
        idx y y7=some y8/\
         (0:Nat)=(0:Nat)/\
          v5.2.1.length=v5.2.1.length/\
           v5.2.1.length+(List.take (1:Nat) (List.drop (0:Nat) [y8])).length<=Bh/\
            (0:Nat)=(0:Nat)/\
             (v5.2.1++List.take (1:Nat) (List.drop (0:Nat) [y8])).length=(v5.2.1++List.take (1:Nat) (List.drop (0:Nat) [y8])).length/\
              k6 (IntKind.i64.wrap (v5.1+(1:Int)),v5.2.1++List.take (1:Nat) (List.drop (0:Nat) [y8]),()))
     (P (List.take v5.2.1.length (List.drop (0:Nat) v5.2.1))))
   ((0:Int),([]:List Int),PUnit.unit):=by
 refine Ai s.length (λv=>v.1) (λj v=>v.2.1=(s.take j).map (Jd y)) rfl (by simp) ?_
 rintro j ⟨i,ys,⟨⟩⟩ K hj hi hR hK
 dsimp only at hi hR⊢
 subst hi hR
 refine Br.dec (λhl=>?_) λhl=>?_
 ·have hl:j<s.length:=by omega
  have hy:=h2 _ (List.getElem_mem hl)
  refine ⟨_,An hl,_,gr hy.1 hy.2,rfl,rfl,?_,rfl,rfl,?_⟩
  ·show ((s.take j).map (Jd y)).length+1<=4294967296
   rw [List.length_map,List.length_take];omega
  ·rw [Ag (by omega)]
   refine hK hl _ rfl ?_
   dsimp only
   rw [List.take_succ_eq_append_getElem hl,List.map_append]
   rfl
 ·have:j=s.length:=by omega
  subst this
  rw [List.drop_zero,List.take_length,List.take_length]
  exact h3
theorem IX (p:PP) (s:List Int) (l:Int) (h:Bg p=true/\List.length s<=20/\(∀y∈s,0<=y/\y<p.1)/\Gq (List.length p.2.2.1) l):fnW Cj (look [(150,Ko)]) Yg Try.f115 (p,s,l,()) (λ(z:List Int)=>z=Aa s (Af p.2.2.1 l)):=by
 obtain ⟨hv,hs,hr,hl⟩:=h
 have hv:=valid hv
 have hf:=hv.kE
 refine Eq.mp (KJ p s l _) ?_
 have BW:=dd hv hl
 have Tj:It (Af p.2.2.1 l).length s:= λy hy=>by have:=hr y hy;omega
 obtain ⟨k,hk,rfl|rfl⟩:=Ov hl
 ·rw [if_pos rfl,Ci (n:=0-((k:Int)+1)) (by omega) (by omega),if_neg (by omega),Ci (by omega) (by omega),show (k:Int)+1-1=(k:Int) by omega]
  refine ⟨_,An hk,Br.dec (λhn=>by omega) λ_=>⟨rfl,rfl,?_⟩⟩
  rw [Nh hk] at Tj⊢
  exact uc s _ (λz=>z=Aa s p.2.2.1[k]) hs Tj rfl
 ·rw [if_pos rfl,Ci (n:=0- -((k:Int)+1)) (by omega) (by omega),if_pos (by omega),Ci (by omega) (by omega),show (0:Int)- -((k:Int)+1)-1=(k:Int) by omega]
  refine ⟨_,An hk,Br.dec (λ_=>⟨_,if_pos (hv.perm _ (List.getElem_mem hk)),rfl,rfl,?_⟩) λhn=>by omega⟩
  rw [Ng hk] at Tj⊢
  exact uc s (Al p.2.2.1[k]) (λz=>z=Aa s (Al p.2.2.1[k])) hs Tj rfl
theorem sV:Sound Try.prog 115 Yg:=
 Sound.Cu Bj (Ae gW Ao) mixed Try.func115 (by kernel_rfl) (by kernel_rfl) λx h=>IX x.1 x.2.1 x.2.2.1 h
end Go.Proofs.Ytjbdmibbbpdnnaa

namespace Go.Proofs.Ytjbdmibbbpdnnaa
open Go.RowKit
abbrev rL:CK:= .row tI 2
abbrev xLL:CK:= .Ds tL 25
def df:List (List Int)->Nat
 | []=>0
 |r::rs=>r.length+df rs
def low (k:Int):Prop:=0<=k/\k<=1099511627776
theorem Bn {α:Type} (xs:List α):List.take xs.length (List.drop 0 xs)=xs:=by rw [List.drop_zero,List.take_length]
end Go.Proofs.Ytjbdmibbbpdnnaa

namespace Go.Proofs.Ytjbdmibbbpdnnaa
open Go.RowKit
theorem JR {n:Nat} {room:Int} (h: ¬iS n room<0):iS n room=room-n/\(n:Int)<=room:=by
 unfold iS at*
 split at h
 ·exact absurd (show (-1:Int)<0 by decide) h
 ·rename_i h1;rw [if_neg h1];exact ⟨rfl,by omega⟩
theorem wJ: ∀(xs:List (List Int)) (room:Int),0<=room-> ¬nY xs room<0->nY xs room=room-df xs
 | [],room,_,_=>by simp [nY,df]
 |r::xs,room,h0,h=>by
  simp only [nY,df] at h⊢
  split at h
  ·exact absurd (show (-1:Int)<0 by decide) h
  ·rename_i h1
   rw [if_neg h1]
   have e1:=JR (n:=r.length) h1
   have e1:Uy r room=room-r.length/\(r.length:Int)<=room:=e1
   rw [wJ xs _ (by rw [e1.1];omega) h,e1.1]
   omega
theorem JP {xs:List (List Int)} {room:Int} (h: ¬Mi xs room<0):Mi xs room=room-xs.length-df xs:=by
 unfold Mi at*
 split at h
 ·exact absurd (show (-1:Int)<0 by decide) h
 ·rename_i h1
  rw [if_neg h1]
  have e1:=JR h1
  rw [wJ xs _ (by rw [e1.1];omega) h,e1.1]
end Go.Proofs.Ytjbdmibbbpdnnaa

namespace Go.Proofs.Ytjbdmibbbpdnnaa
open Go.RowKit
noncomputable abbrev nt:MSpec:=lq [none] [(false, .Fm (.oslice tI))] false [none] [rL] (λx=>short (x.1.getD [])) (λx=>((x.1.getD [],()),()))
noncomputable abbrev Ve:MSpec:=lq [none] [(false, .Fm tL)] false [none] [rL] (λx=>short x.1) (λx=>((x.1,()),()))
noncomputable abbrev Fh:Spec:=Cu (.pair tL .unit) tL false true (λx=>short x.1) (λx=>x.1)
theorem KK (xs:Option (List Int)) (P:((List Int×Unit)×Unit)->Prop):(Br xs.isNone (P ((List.take 0 (List.drop 0 []),()),())) (0=0/\0=([]:List Int).length/\0+(xs.getD []).length<=Bh/\P ((List.take ([]++xs.getD []).length (List.drop 0 ([]++xs.getD [])),()),())))=fnMW jq (look []) nt Try.f145 (xs,()) P:=by kernel_rfl
theorem zq (xs:List Int) (P:List Int->Prop):(0=0/\0=([]:List Int).length/\0+xs.length<=Bh/\P (List.take ([]++xs).length (List.drop 0 ([]++xs))))=fnW Cj (look []) Fh Try.f123 (xs,()) P:=by kernel_rfl
theorem IY (xs:Option (List Int)) (h:short (xs.getD [])):fnMW jq (look []) nt Try.f145 (xs,()) (λ(z:(List Int×Unit)×Unit)=>z=((xs.getD [],()),())):=by
 unfold short at h
 refine Eq.mp (KK xs _) ⟨λhn=>?_,λ_=>⟨rfl,rfl,by show 0+(xs.getD []).length<=4294967296;omega,?_⟩⟩
 ·cases xs with
  |none=>rfl
  |some y=>cases hn
 ·simp only [Bn,List.nil_append]
theorem sW:Co Try.prog 145 nt:=
 Co.lq fv Ao mixed Try.func145 (by kernel_rfl) (by kernel_rfl) λx h=>IY x.1 h
theorem gS:Co Try.prog 145 Ve:=Co.ofO sW λ_ _ h=>⟨h,rfl⟩
theorem yA (xs:List Int) (h:short xs):fnW Cj (look []) Fh Try.f123 (xs,()) (λ(z:List Int)=>z=xs):=by
 unfold short at h
 refine Eq.mp (zq xs _) ⟨rfl,rfl,by show 0+xs.length<=4294967296;omega,?_⟩
 simp only [Bn,List.nil_append]
theorem Vg:Sound Try.prog 123 Fh:=
 Sound.Cu Bj Ao mixed Try.func123 (by kernel_rfl) (by kernel_rfl) λx h=>yA x.1 h
end Go.Proofs.Ytjbdmibbbpdnnaa

namespace Go.Proofs.Ytjbdmibbbpdnnaa
open Go.RowKit
def Bp (xs is:List Int):List Int:=is.map (Jd xs)
noncomputable abbrev Tx:MSpec:=lq [none,none] [(false, .Fm tL),(false, .Fm tL)] false [none] [rL] (λx=>short x.2.1/\It (List.length x.1) x.2.1) (λx=>((Bp x.1 x.2.1,()),()))
noncomputable abbrev Ua:Spec:=Cu (.pair tL (.pair tL .unit)) tL false true (λx=>short x.1/\It (List.length x.2.1) x.1) (λx=>Bp x.2.1 x.1)
def Ie (xs:List Int):ByteArray:=bytesOf (xs.map λx=>IntKind.u8.wrap x)
noncomputable abbrev Ck:Spec:=Cu (.pair tL .unit) .str false true (λx=>short x.1) (λx=>Ie x.1)
def gK (ps:List (List Int)) (p:List Int):Int:=Du (λq=>decide (q=p)) ps 0
theorem FC (xs is:List Int) (P:((List Int×Unit)×Unit)->Prop):(((0:Int)<=(↑is.length:Int)/\(↑is.length:Int)<(↑Bh:Int)+(1:Int))/\(↑is.length:Int)=(↑is.length:Int)/\0=0/\(List.replicate (↑is.length:Int).toNat (Int.ofNat (nat_lit 0))).length=(List.replicate (↑is.length:Int).toNat (Int.ofNat (nat_lit 0))).length/\Bl (λ(v3:Int×List Int×PUnit) (k4:Int×List Int×PUnit->Prop)=>Br (decide (v3.1<(↑is.length:Int))) (∃(y5:Int),idx is v3.1=some y5/\ ∃(y6:Int),idx xs y5=some y6/\((0:Int)<=v3.1/\v3.1<(↑v3.2.1.length:Int))/\0+v3.1.toNat<v3.2.1.length/\0=0/\v3.2.1.length=(v3.2.1.set (0+v3.1.toNat) y6).length/\k4 (IntKind.i64.wrap (v3.1+(1:Int)),v3.2.1.set (0+v3.1.toNat) y6,())) (P ((List.take v3.2.1.length (List.drop 0 v3.2.1),()),()))) ((0:Int),List.replicate (↑is.length:Int).toNat (Int.ofNat (nat_lit 0)),PUnit.unit))=fnMW jq (look []) Tx Try.f167 (xs,is,()) P:=by kernel_rfl
theorem FE (is xs:List Int) (P:List Int->Prop):(0=0/\0=([]:List Int).length/\Bl (λ(v3:Int×List Int×PUnit) (k4:Int×List Int×PUnit->Prop)=>Br (decide (v3.1<(↑is.length:Int))) (∃(y5:Int),idx is v3.1=some y5/\ ∃(y6:Int),idx xs y5=some y6/\0=0/\v3.2.1.length=v3.2.1.length/\v3.2.1.length+(List.take 1 (List.drop 0 [y6])).length<=Bh/\0=0/\(v3.2.1++List.take 1 (List.drop 0 [y6])).length=(v3.2.1++List.take 1 (List.drop 0 [y6])).length/\k4 (IntKind.i64.wrap (v3.1+(1:Int)),v3.2.1++List.take 1 (List.drop 0 [y6]),())) (P (List.take v3.2.1.length (List.drop 0 v3.2.1)))) ((0:Int),[],PUnit.unit))=fnW Cj (look []) Ua Try.f113 (is,xs,()) P:=by kernel_rfl
theorem zA (xs:List Int) (P:ByteArray->Prop):(((0:Int)<=(↑xs.length:Int)/\(↑xs.length:Int)<(↑Bh:Int)+(1:Int))/\(↑xs.length:Int)=(↑xs.length:Int)/\0=0/\(List.replicate (↑xs.length:Int).toNat (Int.ofNat (nat_lit 0))).length=(List.replicate (↑xs.length:Int).toNat (Int.ofNat (nat_lit 0))).length/\Bl (λ(v2:Int×List Int×PUnit) (k3:Int×List Int×PUnit->Prop)=>Br (decide (v2.1<(↑xs.length:Int))) (∃(y4:Int),idx xs v2.1=some y4/\((0:Int)<=v2.1/\v2.1<(↑v2.2.1.length:Int))/\0+v2.1.toNat<v2.2.1.length/\0=0/\v2.2.1.length=(v2.2.1.set (0+v2.1.toNat) (IntKind.u8.wrap y4)).length/\k3 (IntKind.i64.wrap (v2.1+(1:Int)),v2.2.1.set (0+v2.1.toNat) (IntKind.u8.wrap y4),())) (P (bytesOf (List.take v2.2.1.length (List.drop 0 v2.2.1))))) ((0:Int),List.replicate (↑xs.length:Int).toNat (Int.ofNat (nat_lit 0)),PUnit.unit))=fnW Cj (look []) Ck Try.f128 (xs,()) P:=by kernel_rfl
theorem nc (xs is:List Int):(Bp xs is).length=is.length:=by simp [Bp]
theorem MV {α:Type} (y:α):List.take 1 (List.drop 0 [y])= [y]:=rfl
theorem DE (xs is:List Int) (h:short is/\It xs.length is):fnMW jq (look []) Tx Try.f167 (xs,is,()) (λ(z:(List Int×Unit)×Unit)=>z=((Bp xs is,()),())):=by
 obtain ⟨h,hr⟩:=h
 unfold short at h
 refine Eq.mp (FC xs is _) ?_
 refine ⟨⟨by omega,by show (is.length:Int)<(4294967296:Int)+1;omega⟩,rfl,rfl,rfl,?_⟩
 have Lt:=nc xs is
 refine Ai is.length (λv=>v.1) (λj v=>v.2.1.length=(Bp xs is).length/\v.2.1.take j=(Bp xs is).take j) rfl ⟨by rw [Lt];simp,by simp⟩ ?_
 rintro j ⟨i,ys,⟨⟩⟩ K hj hi ⟨h1,h2⟩ hK
 dsimp only at hi h1 h2⊢
 subst hi
 refine Br.dec (λhl=>?_) λhl=>?_
 ·have hl:j<is.length:=by omega
  have hy:=hr _ (List.getElem_mem hl)
  refine ⟨_,An hl,_,gr hy.1 hy.2,⟨by omega,by omega⟩,by rw [Int.toNat_natCast];omega,rfl,by rw [List.length_set],?_⟩
  rw [Ag (by omega),Int.toNat_natCast,Nat.zero_add]
  have Gt:j<(Bp xs is).length:=by rw [Lt];exact hl
  have e:Jd xs is[j]=(Bp xs is)[j]:=by simp [Bp]
  rw [e]
  exact hK hl _ rfl ⟨by rw [List.length_set];exact h1,Kp Gt h1 h2⟩
 ·have:j=is.length:=by omega
  subst this
  rw [<-Lt,List.take_length,<-h1,List.take_length] at h2
  rw [List.drop_zero,List.take_length,h2]
theorem pk:Co Try.prog 167 Tx:=
 Co.lq fv Ao mixed Try.func167 (by kernel_rfl) (by kernel_rfl) λx h=>DE x.1 x.2.1 h
theorem DG (is xs:List Int) (h:short is/\It xs.length is):fnW Cj (look []) Ua Try.f113 (is,xs,()) (λ(z:List Int)=>z=Bp xs is):=by
 obtain ⟨h,hr⟩:=h
 unfold short at h
 refine Eq.mp (FE is xs _) ⟨rfl,rfl,?_⟩
 have Lt:=nc xs is
 refine Ai is.length (λv=>v.1) (λj v=>v.2.1=(Bp xs is).take j) rfl rfl ?_
 rintro j ⟨i,ys,⟨⟩⟩ K hj hi h1 hK
 dsimp only at hi h1⊢
 subst hi
 refine Br.dec (λhl=>?_) λhl=>?_
 ·have hl:j<is.length:=by omega
  have hy:=hr _ (List.getElem_mem hl)
  have Gt:j<(Bp xs is).length:=by rw [Lt];exact hl
  refine ⟨_,An hl,_,gr hy.1 hy.2,rfl,rfl,?_,rfl,rfl,?_⟩
  ·show ys.length+1<=4294967296
   rw [h1,List.length_take];omega
  ·rw [Ag (by omega),MV]
   refine hK hl _ rfl ?_
   dsimp only
   rw [h1,List.take_succ_eq_append_getElem Gt]
   simp [Bp]
 ·have:j=is.length:=by omega
  subst this
  rw [Bn,h1,<-Lt,List.take_length]
theorem pq:Sound Try.prog 113 Ua:=
 Sound.Cu Bj Ao mixed Try.func113 (by kernel_rfl) (by kernel_rfl) λx h=>DG x.1 x.2.1 h
theorem yJ (xs:List Int) (h:short xs):fnW Cj (look []) Ck Try.f128 (xs,()) (λ(z:ByteArray)=>z=Ie xs):=by
 unfold short at h
 refine Eq.mp (zA xs _) ?_
 refine ⟨⟨by omega,by show (xs.length:Int)<(4294967296:Int)+1;omega⟩,rfl,rfl,rfl,?_⟩
 have Lt:(xs.map λx=>IntKind.u8.wrap x).length=xs.length:=by simp
 refine Ai xs.length (λv=>v.1) (λj v=>v.2.1.length=(xs.map λx=>IntKind.u8.wrap x).length/\v.2.1.take j=(xs.map λx=>IntKind.u8.wrap x).take j) rfl ⟨by rw [Lt];simp,by simp⟩ ?_
 rintro j ⟨i,ys,⟨⟩⟩ K hj hi ⟨h1,h2⟩ hK
 dsimp only at hi h1 h2⊢
 subst hi
 refine Br.dec (λhl=>?_) λhl=>?_
 ·have hl:j<xs.length:=by omega
  refine ⟨_,An hl,⟨by omega,by omega⟩,by rw [Int.toNat_natCast];omega,rfl,by rw [List.length_set],?_⟩
  rw [Ag (by omega),Int.toNat_natCast,Nat.zero_add]
  have Gt:j<(xs.map λx=>IntKind.u8.wrap x).length:=by rw [Lt];exact hl
  have e:IntKind.u8.wrap xs[j]=(xs.map λx=>IntKind.u8.wrap x)[j]:=by simp
  rw [e]
  exact hK hl _ rfl ⟨by rw [List.length_set];exact h1,Kp Gt h1 h2⟩
 ·have:j=xs.length:=by omega
  subst this
  rw [<-Lt,List.take_length,<-h1,List.take_length] at h2
  rw [List.drop_zero,List.take_length,h2];rfl
theorem Pk:Sound Try.prog 128 Ck:=
 Sound.Cu Bj Ao mixed Try.func128 (by kernel_rfl) (by kernel_rfl) λx h=>yJ x.1 h
theorem aG {α:Type} (P:α->Bool) (y:α): ∀(l:List α) (i:Int),0<=i->Du P (l++ [y]) i=if Du P l i<0 then (if P y=true then i+l.length else-1) else Du P l i
 | [],i,_=>by simp [Du]
 |x::r,i,h=>by
  simp only [List.cons_append,Du,List.length_cons]
  split
  ·rw [if_neg (by omega)]
  ·rw [aG P y r (i+1) (by omega),show i+1+(r.length:Int)=i+((r.length+1:Nat):Int) by push_cast;omega]
theorem sE (ps:List (List Int)) (q p:List Int):gK (ps++ [q]) p=if gK ps p<0 then (if q=p then (ps.length:Int) else-1) else gK ps p:=by
 unfold gK
 rw [aG _ _ _ _ (Int.le_refl 0)]
 simp only [decide_eq_true_eq,Int.zero_add]
def Ol (p:List Int):Prop:= ∀x∈p,0<=x/\x<256
theorem GH {x y:Int} (hx:0<=x/\x<256) (hy:0<=y/\y<256) (h:UInt8.ofNat (IntKind.u8.wrap x).toNat=UInt8.ofNat (IntKind.u8.wrap y).toNat):x=y:=by
 have h:=congrArg UInt8.toNat h
 simp only [IntKind.wrap_u8,UInt8.toNat_ofNat'] at h
 omega
theorem bytes_inj: ∀(p q:List Int),Ol p->Ol q->(p.map λx=>UInt8.ofNat (IntKind.u8.wrap x).toNat)=(q.map λx=>UInt8.ofNat (IntKind.u8.wrap x).toNat)->p=q
 | [],[],_,_,_=>rfl
 | [],_::_,_,_,h=>by simp at h
 |_::_,[],_,_,h=>by simp at h
 |x::p,y::q,hp,hq,h=>by
  simp only [List.map_cons,List.cons.injEq] at h
  rw [GH (hp x (by simp)) (hq y (by simp)) h.1,bytes_inj p q (λz hz=>hp z (by simp [hz])) (λz hz=>hq z (by simp [hz])) h.2]
theorem key_inj {p q:List Int} (hp:Ol p) (hq:Ol q) (h:Ie p=Ie q):p=q:=by
 refine bytes_inj p q hp hq ?_
 simp only [Ie,bytesOf,ByteArray.mk.injEq,List.map_map] at h
 have h:=congrArg Array.toList h
 simpa [Function.comp_def] using h
def KM (m:ByteArray->Option Int) (ps:List (List Int)):Prop:= ∀p,Ol p->m (Ie p)=if gK ps p<0 then none else some (gK ps p)
theorem KM.nil:KM (λ_=>none) []:= λp _=>by
 rw [if_pos (by unfold gK;simp [Du])]
theorem KM.add {m:ByteArray->Option Int} {ps:List (List Int)} {q:List Int} (h:KM m ps) (hq:Ol q) (hn:gK ps q<0):KM (Sb m (Ie q) (ps.length:Int)) (ps++ [q]):=by
 intro p hp
 rw [sE]
 unfold Sb
 by_cases e:p=q
 ·subst e
  rw [if_pos rfl,if_pos hn,if_pos rfl,if_neg (by omega)]
 ·rw [if_neg (λhk=>e (key_inj hp hq hk)),h p hp]
  have e': ¬q=p:= λh=>e h.symm
  rw [if_neg e']
  by_cases CC:gK ps p<0
  ·rw [if_pos CC,if_pos CC,if_pos (by decide)]
  ·rw [if_neg CC,if_neg CC,if_neg CC]
end Go.Proofs.Ytjbdmibbbpdnnaa

namespace Go.Proofs.Ytjbdmibbbpdnnaa
open Go.RowKit
noncomputable abbrev Oa:Spec:=Cu (.pair Dm .unit) tL false true (λx=>List.length x.1.2.2.1<=8) (λx=>Au (List.length x.1.2.2.1))
abbrev hJ:Type:=Int×Int×ByteArray×List (List Int)×List Int×PUnit
theorem wZ (p:Int×ByteArray×List (List Int)×Unit) (P:List Int->Prop):(0=0/\0=([]:List Int).length/\Bl (λ(v2:hJ) (k3:hJ->Prop)=>Br (decide (v2.1<=(↑v2.2.2.2.1.length:Int))) (0=0/\v2.2.2.2.2.1.length=v2.2.2.2.2.1.length/\v2.2.2.2.2.1.length+(List.take 2 (List.drop 0 [v2.1,IntKind.i64.wrap ((0:Int)-v2.1)])).length<=Bh/\0=0/\(v2.2.2.2.2.1++List.take 2 (List.drop 0 [v2.1,IntKind.i64.wrap ((0:Int)-v2.1)])).length=(v2.2.2.2.2.1++List.take 2 (List.drop 0 [v2.1,IntKind.i64.wrap ((0:Int)-v2.1)])).length/\k3 (IntKind.i64.wrap (v2.1+(1:Int)),v2.2.1,v2.2.2.1,v2.2.2.2.1,v2.2.2.2.2.1++List.take 2 (List.drop 0 [v2.1,IntKind.i64.wrap ((0:Int)-v2.1)]),())) (P (List.take v2.2.2.2.2.1.length (List.drop 0 v2.2.2.2.2.1)))) ((1:Int),p.1,p.2.1,p.2.2.1,[],PUnit.unit))=fnW Cj (look []) Oa Try.f96 (p,()) P:=by kernel_rfl
theorem wa (p:PP) (h:List.length p.2.2.1<=8):fnW Cj (look []) Oa Try.f96 (p,()) (λ(z:List Int)=>z=Au (List.length p.2.2.1)):=by
 refine Eq.mp (wZ p _) ⟨rfl,rfl,?_⟩
 refine Bl.mk (λv=> ∃j:Nat,j<=List.length p.2.2.1/\v=((j:Int)+1,p.1,p.2.1,p.2.2.1,Au j,())) (λv=>List.length p.2.2.1+1-v.1.toNat) ⟨0,Nat.zero_le _,rfl⟩ ?_
 rintro _ ⟨j,hj,rfl⟩
 dsimp only
 refine Br.dec (λhl=>?_) λhl=>?_
 ·refine ⟨rfl,rfl,?_,rfl,rfl,⟨j+1,by omega,?_⟩,?_⟩
  ·show (Au j).length+2<=4294967296
   rw [Kk];omega
  ·rw [Ux,Ci (n:=(j:Int)+1+1) (by omega) (by omega),Ci (n:=0-((j:Int)+1)) (by omega) (by omega),Int.zero_sub]
   rfl
  ·rw [Ci (by omega) (by omega)];omega
 ·have:j=List.length p.2.2.1:=by omega
  subst this
  rw [Bn]
theorem kU:Sound Try.prog 96 Oa:=
 Sound.Cu Bj Ao mixed Try.func96 (by kernel_rfl) (by kernel_rfl) λx h=>wa x.1 h
theorem HX {a:Int} {P:Prop} (h:(a !=a)=true):P:=by simp at h
theorem JQ {p:PP} {room:Int} (hr:roomy room) (h: ¬mH p room<0):(df p.2.2.1:Int)<=room-mH p room/\roomy (mH p room):=by
 unfold mH at h⊢
 split at h
 ·exact absurd (show (-1:Int)<0 by decide) h
 ·rename_i h1
  rw [if_neg h1]
  split at h
  ·exact absurd (show (-1:Int)<0 by decide) h
  ·rename_i h2
   rw [if_neg h2]
   have e2:=JP h2
   obtain ⟨r1,r2⟩:=hr
   unfold roomy
   omega
end Go.Proofs.Ytjbdmibbbpdnnaa

namespace Go.Proofs.Ytjbdmibbbpdnnaa
open Go.RowKit
def si (v:Int):List Int->Nat
 | []=>0
 |x::r=>if x>v then si v r+1 else 0
def MS (v:Int) (t:List Int):Option (List Int):=if si v t=0 then none else some (Jd t ((si v t-1:Nat):Int)::(t.set (si v t-1) v).reverse)
def bZ:List Int->Option (List Int)
 | []=>none
 |v::t=>match bZ t with
  |some t'=>some (v::t')
  |none=>MS v t
theorem vO {s s':List Int} (h:bZ s=some s'): ∀pre:List Int,bZ (pre++s)=some (pre++s')
 | []=>h
 |v::p=>by rw [List.cons_append,bZ,vO h p];rfl
theorem NJ {α:Type} (pre:List α) (v a:α) (t:List α):(pre++v::t).set pre.length a=pre++a::t:=by
 rw [List.set_append,if_neg (by omega)];simp
inductive zH:List Int->List (List Int)->List Int->Prop where
 |one (a:List Int):zH a [a] a
 |more {a c b:List Int} {L:List (List Int)} :bZ a=some c->zH c L b->zH a (a::L) b
theorem zH.cons {a b:List Int} {L:List (List Int)} (h:zH a L b) (v:Int):zH (v::a) (L.map (v:: ·)) (v::b):=by
 induction h with
 |one a=>exact .one _
 |more h3 _ ih=>exact .more (vO h3 [v]) ih
theorem zH.head {a b:List Int} {L:List (List Int)} (h:zH a L b): ∃M,L=a::M:=by
 cases h with
 |one=>exact ⟨_,rfl⟩
 |more _ _=>exact ⟨_,rfl⟩
theorem zH.at {a b:List Int} {L:List (List Int)} (h:zH a L b): ∀j (hj:j<L.length),(∀h2:j+1<L.length,bZ L[j]=some L[j+1])/\(j+1=L.length->L[j]=b):=by
 induction h with
 |one a=>
  intro j hj
  simp only [List.length_singleton] at hj
  have:j=0:=by omega
  subst this
  exact ⟨λh2=>by simp at h2,λ_=>rfl⟩
 |more h3 h4 ih=>
  intro j hj
  rcases j with _|j
  ·obtain ⟨M,hM⟩:=h4.head
   refine ⟨λh2=>?_,λh2=>?_⟩
   ·simp only [List.getElem_cons_zero,List.getElem_cons_succ]
    subst hM
    exact h3
   ·subst hM;simp at h2
  ·have:=ih j (by simpa using hj)
   refine ⟨λh2=>?_,λh2=>?_⟩
   ·simp only [List.getElem_cons_succ]
    exact this.1 (by simpa using h2)
   ·simp only [List.getElem_cons_succ]
    exact this.2 (by simpa using h2)
theorem zH.distinct {a b:List Int} {L:List (List Int)} (h:zH a L b) (hb:bZ b=none): ∀k i j (hi:i<L.length) (hj:j<L.length),L.length-j=k->i<j->L[i]≠L[j]:=by
 intro k
 induction k with
 |zero=>intro i j hi hj hk;omega
 |succ k ih=>
  intro i j hi hj hk iM he
  by_cases e:j+1<L.length
  ·have h1:=(h.at i hi).1 (by omega)
   have h2:=(h.at j hj).1 e
   rw [he,h2] at h1
   exact ih (i+1) (j+1) (by omega) e (by omega) (by omega) (Option.some.inj h1).symm
  ·have h1:=(h.at i hi).1 (by omega)
   have h2:=(h.at j hj).2 (by omega)
   rw [he,h2,hb] at h1
   cases h1
theorem zH.idx {a b:List Int} {L:List (List Int)} (h:zH a L b) (hb:bZ b=none) {j:Nat} (hj:j<L.length):L.idxOf L[j]=j:=by
 have h1:L.idxOf L[j]<L.length:=List.idxOf_lt_length_of_mem (List.getElem_mem _)
 have h2:L[L.idxOf L[j]]=L[j]:=List.getElem_idxOf h1
 rcases Nat.lt_trichotomy (L.idxOf L[j]) j with h3|h3|h3
 ·exact absurd h2 (h.distinct hb _ _ _ h1 hj rfl h3)
 ·exact h3
 ·exact absurd h2.symm (h.distinct hb _ _ _ hj h1 rfl h3)
end Go.Proofs.Ytjbdmibbbpdnnaa

namespace Go.Proofs.Ytjbdmibbbpdnnaa
open Go.RowKit
def Cd:List Int->List Int->Int
 | [],[]=>0
 | [],_::_=> -1
 |_::_,[]=>1
 |x::a,y::b=>if x<y then-1 else if x>y then 1 else Cd a b
def Zo (a b:List Int):Bool:=decide (Cd a b<0)
noncomputable abbrev Qu:Spec:=Cu (.pair tL (.pair tL .unit)) .bool false true (λx=>short x.1/\List.length x.1=List.length x.2.1) (λx=>Zo x.1 x.2.1)
theorem zx (a b:List Int) (P:Bool->Prop):(Bl (λ(v3:Int×PUnit) (k4:Int×PUnit->Prop)=>Br (decide (v3.1<(↑a.length:Int))) (∃(y5:Int),idx a v3.1=some y5/\ ∃(y6:Int),idx b v3.1=some y6/\Br (y5 !=y6) (∃(y7:Int),idx a v3.1=some y7/\ ∃(y8:Int),idx b v3.1=some y8/\P (decide (y7<y8))) (k4 (IntKind.i64.wrap (v3.1+(1:Int)),()))) (P false)) ((0:Int),PUnit.unit))=fnW Cj (look []) Qu Try.f144 (a,b,()) P:=by kernel_rfl
theorem Sound.ofO {P:Program} {f:FuncId} {e:Ty} {r res:Ty} {Ef fresh:Bool} {pre:(Ty.pair (.oslice e) r).den->Prop} {val:(Ty.pair (.oslice e) r).den->res.den} {cb:(Ty.pair (.slice e) r).den->Prop} {o8:(Ty.pair (.slice e) r).den->res.den}
  (h:Sound P f (Go.Proofs.Ytjbdmibbbpdnnaa.Cu (.pair (.oslice e) r) res Ef fresh pre val))
  (hp: ∀(o:Option (List e.den)) (y:r.den),cb (o.getD [],y)->pre (o,y)/\val (o,y)=o8 (o.getD [],y)):Sound P f (Go.Proofs.Ytjbdmibbbpdnnaa.Cu (.pair (.slice e) r) res Ef fresh cb o8):=by
 refine ⟨h.enter,λw S vs x y hS h2 h5=>?_⟩
 obtain ⟨xs,rest⟩:=x
 cases vs with
 |nil=>exact h2.elim
 |cons u us=>
  obtain ⟨h7,h8⟩:=h2
  obtain ⟨ox,h9,rfl⟩:=h7.told
  have eW:cb (ox.getD [],rest):=Classical.byContradiction λhn=>by
   have:(Go.Proofs.Ytjbdmibbbpdnnaa.Cu (.pair (.slice e) r) res Ef fresh cb o8).fn (ox.getD [],rest)=none:=if_neg hn
   rw [this] at h5;cases h5
  obtain ⟨k1,k2⟩:=hp ox rest eW
  have hv:(Go.Proofs.Ytjbdmibbbpdnnaa.Cu (.pair (.slice e) r) res Ef fresh cb o8).fn (ox.getD [],rest)=some (o8 (ox.getD [],rest)):=if_pos eW
  rw [hv] at h5
  have h5:=Option.some.inj h5
  exact h.calls w S (u::us) (ox,rest) y hS ⟨h9,h8⟩ ((if_pos k1).trans (by rw [k2];exact congrArg some h5))
theorem yG (a b:List Int) (h:short a/\a.length=b.length):fnW Cj (look []) Qu Try.f144 (a,b,()) (λ(z:Bool)=>z=Zo a b):=by
 obtain ⟨ha,hb⟩:=h
 unfold short at ha
 refine Eq.mp (zx a b _) ?_
 refine Ai a.length (λv=>v.1) (λj _=>Cd (a.drop j) (b.drop j)=Cd a b) rfl (by simp) ?_
 rintro j ⟨i,⟨⟩⟩ K hj hi QW hK
 dsimp only at hi⊢
 subst hi
 refine Br.dec (λhl=>?_) λhl=>?_
 ·have hl:j<a.length:=by omega
  have US:j<b.length:=by omega
  rw [List.drop_eq_getElem_cons hl,List.drop_eq_getElem_cons US] at QW
  simp only [Cd] at QW
  refine ⟨_,An hl,_,An US,⟨λFe=>?_,λFe=>?_⟩⟩
  ·refine ⟨_,An hl,_,An US,?_⟩
   have Fe:a[j]≠b[j]:=by simpa using Fe
   unfold Zo
   rw [<-QW]
   by_cases h1:a[j]<b[j]
   ·rw [if_pos h1];simp [h1]
   ·rw [if_neg h1,if_pos (by omega)];simp [h1]
  ·have Fe:a[j]=b[j]:=by simpa using Fe
   rw [if_neg (by omega),if_neg (by omega)] at QW
   rw [Ag (by omega)]
   exact hK hl _ rfl QW
 ·have:j=a.length:=by omega
  subst this
  rw [List.drop_length,List.drop_eq_nil_of_le (by omega)] at QW
  unfold Zo
  rw [<-QW]
  rfl
theorem nK:Sound Try.prog 144 Qu:=
 Sound.Cu Bj Ao mixed Try.func144 (by kernel_rfl) (by kernel_rfl) λx h=>yG x.1 x.2.1 h
end Go.Proofs.Ytjbdmibbbpdnnaa

namespace Go.Proofs.Ytjbdmibbbpdnnaa
open Go.RowKit
abbrev SS:Type:=List (List Int)×List Int×List Int×Bool×Unit
abbrev rLS:CK:= .row tL 25
abbrev rN:CK:= .row tI 3
def Cw (L:List (List Int)) (Hq:List Int) (s:List Int):Nat:=(Hq.takeWhile λi=>Zo (L.getD i.toNat []) s).length
structure Dk (m:Nat) (L:List (List Int)) (Hq:List Int):Prop where
 kE:L.length<=3000
 len: ∀x∈L,x.length=m
 short:m<=20
 perm:Hq.Perm (upto L.length)
 sorted:Hq.Pairwise λi j=>Zo (L.getD i.toNat []) (L.getD j.toNat [])=true
def jQ (L:List (List Int)) (s:List Int):Int:=if s∈L then (L.idxOf s:Int) else-1
def Pu (Hq:List Int) (k:Nat) (x:Int):List Int:=Hq.take k++x::Hq.drop k
noncomputable abbrev aa:Spec:=Cu (.pair aj (.pair tL .unit)) tI false true (λx=>Dk (List.length x.2.1) x.1.1 x.1.2.2.1) (λx=>(Cw x.1.1 x.1.2.2.1 x.2.1:Int))
noncomputable abbrev Yj:Spec:=Cu (.pair aj (.pair tL .unit)) tI false true (λx=>Dk (List.length x.2.1) x.1.1 x.1.2.2.1) (λx=>jQ x.1.1 x.2.1)
noncomputable abbrev fm:MSpec:=lq [some 4,none,none] [(false,rLS),(false,rL),(false,rN),(false, .Fm .bool),(false, .Fm tL),(false, .Fm tI)] false [some 4] [rLS,rL,rN, .Fm .bool]
 (λx=>Dk (List.length x.2.2.2.2.1) x.1 x.2.2.1/\List.length x.2.1<=3000) (λx=>((x.1++ [x.2.2.2.2.1],x.2.1++ [x.2.2.2.2.2.1],Pu x.2.2.1 (Cw x.1 x.2.2.1 x.2.2.2.2.1) (List.length x.1),x.2.2.2.1,()),()))
def Wf (L:List (List Int)):List Int:=(List.range L.length).foldl (λ(S:List Int) (i:Nat)=>Pu S (Cw (L.take i) S (L.getD i [])) (i:Int)) []
def Ea (g:List (List Int)) (x:List Int) (d:Int):List Int->List (List Int)->List Int->List (List Int)×List Int×Bool
 | [],L,D=>(L,D,true)
 |l::ls,L,D=>if Aa x (Af g l)∈L then Ea g x d ls L D else if L.length=3000 then (L,D,false) else Ea g x d ls (L++ [Aa x (Af g l)]) (D++ [d+1])
def Ff (g:List (List Int)) (ls:List Int):Nat->Nat->List (List Int)->List Int->List (List Int)×List Int×Bool
 |0,_,L,D=>(L,D,true)
 |f+1,k,L,D=>if k<L.length then (match Ea g (L.getD k []) (D.getD k 0) ls L D with
  |(L',D',true)=>Ff g ls f (k+1) L' D'
  |(L',D',false)=>(L',D',false)) else (L,D,true)
def Ct (g:List (List Int)) (s:List Int):List (List Int)×List Int×Bool:=Ff g (Au g.length) 3001 0 [s] [0]
def Ey (g:List (List Int)) (s:List Int):SS:=((Ct g s).1,(Ct g s).2.1,Wf (Ct g s).1,(Ct g s).2.2,())
noncomputable abbrev Cy:Spec:=Cu (.pair Dm (.pair tL .unit)) aj false false (λx=>Bg x.1=true/\List.length x.2.1<=20/\ ∀y∈x.2.1,0<=y/\y<x.1.1) (λx=>Ey x.1.2.2.1 x.2.1)
abbrev BC:Type:=Int×Int×List (List Int)×List Int×List Int×Bool×PUnit
theorem UC (f:List (List Int)×List Int×List Int×Bool×Unit) (s:List Int) (P:Int->Prop):(Bl (λ(v3:BC) (k4:BC->Prop)=>Br (decide (v3.1<v3.2.1)) ((2:Int)≠(0:Int)/\ ∃(y5:Int),idx v3.2.2.2.2.1 (IntKind.i64.wrap ((IntKind.i64.wrap (v3.1+v3.2.1)).tdiv (2:Int)))=some y5/\ ∃(y6:List Int),idx v3.2.2.1 y5=some y6/\ ∃(y7:Bool),Qu.fn (y6,s,())=some y7/\Br y7 (k4 (IntKind.i64.wrap (IntKind.i64.wrap ((IntKind.i64.wrap (v3.1+v3.2.1)).tdiv (2:Int))+(1:Int)),v3.2.1,v3.2.2.1,v3.2.2.2.1,v3.2.2.2.2.1,v3.2.2.2.2.2.1,())) (k4 (v3.1,IntKind.i64.wrap ((IntKind.i64.wrap (v3.1+v3.2.1)).tdiv (2:Int)),v3.2.2.1,v3.2.2.2.1,v3.2.2.2.2.1,v3.2.2.2.2.2.1,()))) (P v3.1)) ((0:Int),(↑f.2.2.1.length:Int),f.1,f.2.1,f.2.2.1,f.2.2.2.1,PUnit.unit))=fnW Cj (look [(144,Qu)]) aa Try.f104 (f,s,()) P:=by kernel_rfl
theorem KO (f:List (List Int)×List Int×List Int×Bool×Unit) (s:List Int) (P:Int->Prop):(∃(y3:Int),aa.fn ((f.1,f.2.1,f.2.2.1,f.2.2.2.1,()),s,())=some y3/\Br (decide (y3<(↑f.2.2.1.length:Int))) (∃(y4:Int),idx f.2.2.1 y3=some y4/\ ∃(y5:List Int),idx f.1 y4=some y5/\ ∃(y6:Bool),Aq.fn (y5,s,())=some y6/\Br y6 (∃(y7:Int),idx f.2.2.1 y3=some y7/\P y7) (P (-1:Int))) (P (-1:Int)))=fnW Cj (look [(104,aa),(105,Aq)]) Yj Try.f54 (f,s,()) P:=by kernel_rfl
theorem UB (L:List (List Int)) (D S:List Int) (b:Bool) (s:List Int) (d:Int) (P:((List (List Int)×List Int×List Int×Bool×Unit)×Unit)->Prop):(∃(y7:Int),aa.fn ((List.take L.length (List.drop 0 L),List.take D.length (List.drop 0 D),List.take S.length (List.drop 0 S),b,()),s,())=some y7/\0=0/\S.length=S.length/\S.length+(List.take 1 (List.drop 0 [(0:Int)])).length<=Bh/\((0:Int)<=IntKind.i64.wrap (y7+(1:Int))/\IntKind.i64.wrap (y7+(1:Int))<=(↑(S++List.take 1 (List.drop 0 [(0:Int)])).length:Int)/\(↑(S++List.take 1 (List.drop 0 [(0:Int)])).length:Int)<=(↑(S++List.take 1 (List.drop 0 [(0:Int)])).length:Int))/\((0:Int)<=y7/\y7<=(↑(S++List.take 1 (List.drop 0 [(0:Int)])).length:Int)/\(↑(S++List.take 1 (List.drop 0 [(0:Int)])).length:Int)<=(↑(S++List.take 1 (List.drop 0 [(0:Int)])).length:Int))/\((0:Int)<=y7/\y7<(↑(S++List.take 1 (List.drop 0 [(0:Int)])).length:Int))/\0+y7.toNat<(Bq (S++List.take 1 (List.drop 0 [(0:Int)])) (0+(IntKind.i64.wrap (y7+(1:Int))).toNat) (List.take ((↑(S++List.take 1 (List.drop 0 [(0:Int)])).length:Int).toNat-(IntKind.i64.wrap (y7+(1:Int))).toNat) (List.take ((↑(S++List.take 1 (List.drop 0 [(0:Int)])).length:Int).toNat-y7.toNat) (List.drop (0+y7.toNat) (S++List.take 1 (List.drop 0 [(0:Int)])))))).length/\0=0/\L.length=L.length/\L.length+(List.take 1 (List.drop 0 [s])).length<=Bh/\0=0/\D.length=D.length/\D.length+(List.take 1 (List.drop 0 [d])).length<=Bh/\P ((List.take (L++List.take 1 (List.drop 0 [s])).length (List.drop 0 (L++List.take 1 (List.drop 0 [s]))),List.take (D++List.take 1 (List.drop 0 [d])).length (List.drop 0 (D++List.take 1 (List.drop 0 [d]))),List.take (S++List.take 1 (List.drop 0 [(0:Int)])).length (List.drop 0 ((Bq (S++List.take 1 (List.drop 0 [(0:Int)])) (0+(IntKind.i64.wrap (y7+(1:Int))).toNat) (List.take ((↑(S++List.take 1 (List.drop 0 [(0:Int)])).length:Int).toNat-(IntKind.i64.wrap (y7+(1:Int))).toNat) (List.take ((↑(S++List.take 1 (List.drop 0 [(0:Int)])).length:Int).toNat-y7.toNat) (List.drop (0+y7.toNat) (S++List.take 1 (List.drop 0 [(0:Int)])))))).set (0+y7.toNat) (↑L.length:Int))),b,()),()))=fnMW jq (look [(104,aa)]) fm Try.f149 (L,D,S,b,s,d,()) P:=by kernel_rfl
abbrev hZ:Type:=Int×Int×ByteArray×List (List Int)×Bool×Bool×List (List Int)×List Int×List Int×List (List Int)×List Int×List Int×PUnit
abbrev wL:Type:=(List (List Int)×List Int×List Int×Bool×PUnit)×PUnit
theorem NZ (p:Int×ByteArray×List (List Int)×Unit) (s:List Int) (P:(List (List Int)×List Int×List Int×Bool×Unit)->Prop):(∃(y3:List Int),Fh.fn (s,())=some y3/\ ∃(y4:wL),fm.fn ([],[],[],false,y3,(0:Int),())=some y4/\ ∃(y5:List Int),Oa.fn ((p.1,p.2.1,p.2.2.1,()),())=some y5/\0=0/\0=([]:List Int).length/\0=0/\0=([]:List Int).length/\0=0/\0=([]:List Int).length/\0=0/\y4.1.1.length=y4.1.1.length/\0=0/\y4.1.2.1.length=y4.1.2.1.length/\0=0/\y4.1.2.2.1.length=y4.1.2.2.1.length/\Bl (λ(v6:hZ) (k7:hZ->Prop)=>Br (decide (v6.1<(↑v6.2.2.2.2.2.2.2.2.2.1.length:Int))) (0=0/\v6.2.2.2.2.2.2.1.length=v6.2.2.2.2.2.2.1.length/\0=0/\v6.2.2.2.2.2.2.2.1.length=v6.2.2.2.2.2.2.2.1.length/\0=0/\v6.2.2.2.2.2.2.2.2.1.length=v6.2.2.2.2.2.2.2.2.1.length/\0=0/\v6.2.2.2.2.2.2.2.2.2.1.length=v6.2.2.2.2.2.2.2.2.2.1.length/\0=0/\v6.2.2.2.2.2.2.2.2.2.2.1.length=v6.2.2.2.2.2.2.2.2.2.2.1.length/\0=0/\v6.2.2.2.2.2.2.2.2.2.2.2.1.length=v6.2.2.2.2.2.2.2.2.2.2.2.1.length/\Bl (λ(v8:hZ) (k9:hZ->Prop)=>Br (decide (v8.1<(↑y5.length:Int))) (((0:Int)<=v6.1/\v6.1<(↑v8.2.2.2.2.2.2.2.2.2.1.length:Int))/\ ∃(fE:List Int),v8.2.2.2.2.2.2.2.2.2.1[0+v6.1.toNat]?=some fE/\ ∃(r6:Int),idx y5 v8.1=some r6/\ ∃(OA:List Int),Yg.fn ((v8.2.1,v8.2.2.1,v8.2.2.2.1,()),fE,r6,())=some OA/\ ∃(zC:Int),Yj.fn ((List.take v8.2.2.2.2.2.2.2.2.2.1.length (List.drop 0 v8.2.2.2.2.2.2.2.2.2.1),List.take v8.2.2.2.2.2.2.2.2.2.2.1.length (List.drop 0 v8.2.2.2.2.2.2.2.2.2.2.1),List.take v8.2.2.2.2.2.2.2.2.2.2.2.1.length (List.drop 0 v8.2.2.2.2.2.2.2.2.2.2.2.1),v8.2.2.2.2.2.1,()),OA,())=some zC/\Br (decide (zC>=(0:Int))) (0=0/\v8.2.2.2.2.2.2.1.length=v8.2.2.2.2.2.2.1.length/\0=0/\v8.2.2.2.2.2.2.2.1.length=v8.2.2.2.2.2.2.2.1.length/\0=0/\v8.2.2.2.2.2.2.2.2.1.length=v8.2.2.2.2.2.2.2.2.1.length/\0=0/\v8.2.2.2.2.2.2.2.2.2.1.length=v8.2.2.2.2.2.2.2.2.2.1.length/\0=0/\v8.2.2.2.2.2.2.2.2.2.2.1.length=v8.2.2.2.2.2.2.2.2.2.2.1.length/\0=0/\v8.2.2.2.2.2.2.2.2.2.2.2.1.length=v8.2.2.2.2.2.2.2.2.2.2.2.1.length/\k9 (IntKind.i64.wrap (v8.1+(1:Int)),v8.2.1,v8.2.2.1,v8.2.2.2.1,v8.2.2.2.2.1,v8.2.2.2.2.2.1,v8.2.2.2.2.2.2.1,v8.2.2.2.2.2.2.2.1,v8.2.2.2.2.2.2.2.2.1,v8.2.2.2.2.2.2.2.2.2.1,v8.2.2.2.2.2.2.2.2.2.2.1,v8.2.2.2.2.2.2.2.2.2.2.2.1,())) (Br ((↑v8.2.2.2.2.2.2.2.2.2.1.length:Int)==(3000:Int)) (P (List.take v8.2.2.2.2.2.2.2.2.2.1.length (List.drop 0 v8.2.2.2.2.2.2.2.2.2.1),List.take v8.2.2.2.2.2.2.2.2.2.2.1.length (List.drop 0 v8.2.2.2.2.2.2.2.2.2.2.1),List.take v8.2.2.2.2.2.2.2.2.2.2.2.1.length (List.drop 0 v8.2.2.2.2.2.2.2.2.2.2.2.1),v8.2.2.2.2.2.1,())) (((0:Int)<=v6.1/\v6.1<(↑v8.2.2.2.2.2.2.2.2.2.2.1.length:Int))/\ ∃(aT:Int),v8.2.2.2.2.2.2.2.2.2.2.1[0+v6.1.toNat]?=some aT/\0=0/\v8.2.2.2.2.2.2.2.2.2.1.length=v8.2.2.2.2.2.2.2.2.2.1.length/\0=0/\v8.2.2.2.2.2.2.2.2.2.2.1.length=v8.2.2.2.2.2.2.2.2.2.2.1.length/\0=0/\v8.2.2.2.2.2.2.2.2.2.2.2.1.length=v8.2.2.2.2.2.2.2.2.2.2.2.1.length/\ ∃(kv:wL),fm.fn (v8.2.2.2.2.2.2.2.2.2.1,v8.2.2.2.2.2.2.2.2.2.2.1,v8.2.2.2.2.2.2.2.2.2.2.2.1,v8.2.2.2.2.2.1,OA,IntKind.i64.wrap (aT+(1:Int)),())=some kv/\0=0/\v8.2.2.2.2.2.2.1.length=v8.2.2.2.2.2.2.1.length/\0=0/\v8.2.2.2.2.2.2.2.1.length=v8.2.2.2.2.2.2.2.1.length/\0=0/\v8.2.2.2.2.2.2.2.2.1.length=v8.2.2.2.2.2.2.2.2.1.length/\0=0/\kv.1.1.length=kv.1.1.length/\0=0/\kv.1.2.1.length=kv.1.2.1.length/\0=0/\kv.1.2.2.1.length=kv.1.2.2.1.length/\k9 (IntKind.i64.wrap (v8.1+(1:Int)),v8.2.1,v8.2.2.1,v8.2.2.2.1,v8.2.2.2.2.1,kv.1.2.2.2.1,v8.2.2.2.2.2.2.1,v8.2.2.2.2.2.2.2.1,v8.2.2.2.2.2.2.2.2.1,kv.1.1,kv.1.2.1,kv.1.2.2.1,())))) (0=0/\v8.2.2.2.2.2.2.1.length=v8.2.2.2.2.2.2.1.length/\0=0/\v8.2.2.2.2.2.2.2.1.length=v8.2.2.2.2.2.2.2.1.length/\0=0/\v8.2.2.2.2.2.2.2.2.1.length=v8.2.2.2.2.2.2.2.2.1.length/\0=0/\v8.2.2.2.2.2.2.2.2.2.1.length=v8.2.2.2.2.2.2.2.2.2.1.length/\0=0/\v8.2.2.2.2.2.2.2.2.2.2.1.length=v8.2.2.2.2.2.2.2.2.2.2.1.length/\0=0/\v8.2.2.2.2.2.2.2.2.2.2.2.1.length=v8.2.2.2.2.2.2.2.2.2.2.2.1.length/\k7 (IntKind.i64.wrap (v6.1+(1:Int)),v8.2.1,v8.2.2.1,v8.2.2.2.1,v8.2.2.2.2.1,v8.2.2.2.2.2.1,v8.2.2.2.2.2.2.1,v8.2.2.2.2.2.2.2.1,v8.2.2.2.2.2.2.2.2.1,v8.2.2.2.2.2.2.2.2.2.1,v8.2.2.2.2.2.2.2.2.2.2.1,v8.2.2.2.2.2.2.2.2.2.2.2.1,()))) ((0:Int),v6.2.1,v6.2.2.1,v6.2.2.2.1,v6.2.2.2.2.1,v6.2.2.2.2.2.1,v6.2.2.2.2.2.2.1,v6.2.2.2.2.2.2.2.1,v6.2.2.2.2.2.2.2.2.1,v6.2.2.2.2.2.2.2.2.2.1,v6.2.2.2.2.2.2.2.2.2.2.1,v6.2.2.2.2.2.2.2.2.2.2.2.1,PUnit.unit)) (P (List.take v6.2.2.2.2.2.2.2.2.2.1.length (List.drop 0 v6.2.2.2.2.2.2.2.2.2.1),List.take v6.2.2.2.2.2.2.2.2.2.2.1.length (List.drop 0 v6.2.2.2.2.2.2.2.2.2.2.1),List.take v6.2.2.2.2.2.2.2.2.2.2.2.1.length (List.drop 0 v6.2.2.2.2.2.2.2.2.2.2.2.1),true,()))) ((0:Int),p.1,p.2.1,p.2.2.1,false,y4.1.2.2.2.1,[],[],[],y4.1.1,y4.1.2.1,y4.1.2.2.1,PUnit.unit))=fnW TU (look [(123,Fh),(149,fm),(96,Oa),(115,Yg),(54,Yj)]) Cy Try.f112 (p,s,()) P:=by kernel_rfl
theorem lT: ∀ {a b:List Int},Cd a b=0↔a=b
 | [],[]=>by simp [Cd]
 | [],_::_=>by simp [Cd]
 |_::_,[]=>by simp [Cd]
 |x::a,y::b=>by
  simp only [Cd,List.cons.injEq]
  by_cases h1:x<y
  ·rw [if_pos h1]
   exact ⟨λh=>by omega,λh=>by omega⟩
  ·rw [if_neg h1]
   by_cases h2:x>y
   ·rw [if_pos h2]
    exact ⟨λh=>by omega,λh=>by omega⟩
   ·rw [if_neg h2,lT]
    exact ⟨λh=>⟨by omega,h⟩,λh=>h.2⟩
theorem zO: ∀(a b:List Int),Cd b a= -Cd a b
 | [],[]=>by simp [Cd]
 | [],_::_=>by simp [Cd]
 |_::_,[]=>by simp [Cd]
 |x::a,y::b=>by
  simp only [Cd]
  rcases Int.lt_trichotomy x y with h1|h1|h1
  ·simp [h1,show ¬y<x by omega]
  ·subst h1
   simp [zO a b]
  ·simp [h1,show ¬x<y by omega]
theorem pT: ∀ {a b c:List Int},Cd a b<0->Cd b c<0->Cd a c<0
 | [],[],_,h,_=>by simp [Cd] at h
 |_::_,[],_,h,_=>by simp [Cd] at h
 |_,_::_,[],_,h=>by simp [Cd] at h
 | [],_::_,_::_,_,_=>by simp [Cd]
 |x::a,y::b,z::c,h1,h2=>by
  simp only [Cd] at h1 h2⊢
  by_cases e1:x<y
  ·by_cases e2:y<z
   ·rw [if_pos (by omega)];omega
   ·rw [if_neg e2] at h2
    by_cases e3:y>z
    ·rw [if_pos e3] at h2;omega
    ·rw [if_pos (by omega)];omega
  ·rw [if_neg e1] at h1
   by_cases e2:x>y
   ·rw [if_pos e2] at h1;omega
   ·rw [if_neg e2] at h1
    by_cases e3:y<z
    ·rw [if_pos (by omega)];omega
    ·rw [if_neg e3] at h2
     by_cases e4:y>z
     ·rw [if_pos e4] at h2;omega
     ·rw [if_neg e4] at h2
      rw [if_neg (by omega),if_neg (by omega)]
      exact pT h1 h2
theorem lt_iff {a b:List Int} :Zo a b=true↔Cd a b<0:=decide_eq_true_iff
theorem CP {a b c:List Int} (h1:Zo a b=true) (h2:Zo b c=true):Zo a c=true:=lt_iff.2 (pT (lt_iff.1 h1) (lt_iff.1 h2))
theorem fc (a:List Int):Zo a a=false:=by
 have:Cd a a=0:=lT.2 rfl
 unfold Zo;rw [this];rfl
theorem IJ {a b:List Int} (h:Zo a b=false) (Fe:a≠b):Zo b a=true:=by
 rw [lt_iff,zO a b]
 have h1: ¬Cd a b<0:= λh'=>by rw [lt_iff.2 h'] at h;cases h
 have h2:Cd a b≠0:= λh'=>Fe (lT.1 h')
 omega
theorem ej {α:Type} (q:α->Bool): ∀(l:List α),l.Pairwise (λi j=>q j=true->q i=true)-> ∀k (hk:k<l.length),k<(l.takeWhile q).length↔q l[k]=true
 | [],_,k,hk=>by simp at hk
 |a::l,h,k,hk=>by
  obtain ⟨h1,h2⟩:=List.pairwise_cons.1 h
  by_cases ha:q a=true
  ·rw [List.takeWhile_cons_of_pos ha]
   rcases k with _|k
   ·simpa using ha
   ·simp only [List.length_cons,List.getElem_cons_succ,Nat.add_lt_add_iff_right]
    exact ej q l h2 k (by simpa using hk)
  ·rw [List.takeWhile_cons_of_neg ha]
   simp only [List.length_nil,Nat.not_lt_zero,false_iff]
   rcases k with _|k
   ·exact ha
   ·simp only [List.getElem_cons_succ]
    exact λhq=>ha (h1 _ (List.getElem_mem _) hq)
theorem Dk.mF {m:Nat} {L:List (List Int)} {Hq:List Int} (h:Dk m L Hq):Hq.length=L.length:=by rw [h.perm.length_eq,Po]
theorem Dk.idx {m:Nat} {L:List (List Int)} {Hq:List Int} (h:Dk m L Hq) {k:Nat} (hk:k<Hq.length):0<=Hq[k]/\Hq[k]<L.length:=Ig.1 (h.perm.mem_iff.1 (List.getElem_mem hk))
theorem Dk.Yk {m:Nat} {L:List (List Int)} {Hq:List Int} (h:Dk m L Hq) (s:List Int) {k:Nat} (hk:k<Hq.length):k<Cw L Hq s↔Zo (L.getD Hq[k].toNat []) s=true:=
 ej _ Hq (h.sorted.imp λiM hj=>CP iM hj) k hk
theorem AW (L:List (List Int)) (Hq s:List Int):Cw L Hq s<=Hq.length:=(List.takeWhile_sublist _).length_le
theorem Dk.inj {m:Nat} {L:List (List Int)} {Hq:List Int} (h:Dk m L Hq) {i j:Nat} (hi:i<L.length) (hj:j<L.length) (e:L[i]=L[j]):i=j:=by
 have mem: ∀i,i<L.length->(i:Int)∈Hq:= λi hi=>h.perm.mem_iff.2 (Ig.2 ⟨by omega,by omega⟩)
 obtain ⟨p,hp,ep⟩:=List.mem_iff_getElem.1 (mem i hi)
 obtain ⟨q,hq,eq⟩:=List.mem_iff_getElem.1 (mem j hj)
 have get: ∀i (hi:i<L.length),L.getD ((i:Int)).toNat []=L[i]:= λi hi=>by rw [Int.toNat_natCast,List.getD_eq_getElem?_getD,List.getElem?_eq_getElem hi];rfl
 rcases Nat.lt_trichotomy p q with h1|h1|h1
 ·have:=List.pairwise_iff_getElem.1 h.sorted p q hp hq h1
  rw [ep,eq,get i hi,get j hj,e,fc] at this
  cases this
 ·subst h1
  rw [ep] at eq
  omega
 ·have:=List.pairwise_iff_getElem.1 h.sorted q p hq hp h1
  rw [ep,eq,get i hi,get j hj,e,fc] at this
  cases this
theorem Mt {L:List (List Int)} {k:Nat} (h:k<L.length):L.getD k []=L[k]:=by rw [List.getD_eq_getElem?_getD,List.getElem?_eq_getElem h];rfl
theorem Dk.rk {m:Nat} {L:List (List Int)} {Hq:List Int} (h:Dk m L Hq) {s:List Int} :
  (∃hk:Cw L Hq s<Hq.length,L.getD Hq[Cw L Hq s].toNat []=s/\jQ L s=Hq[Cw L Hq s])\/(jQ L s= -1/\ ∀hk:Cw L Hq s<Hq.length,L.getD Hq[Cw L Hq s].toNat []≠s):=by
 by_cases hm:s∈L
 ·left
  obtain ⟨j,hj,rfl⟩:=List.mem_iff_getElem.1 hm
  obtain ⟨p,hp,ep⟩:=List.mem_iff_getElem.1 (h.perm.mem_iff.2 (Ig.2 ⟨by omega,by omega⟩):(j:Int)∈Hq)
  have gj:L.getD Hq[p].toNat []=L[j]:=by rw [ep,Int.toNat_natCast,Mt hj]
  have hs:Cw L Hq L[j]=p:=by
   have h1: ¬p<Cw L Hq L[j]:= λh1=>by
    have:=(h.Yk L[j] hp).1 h1
    rw [gj,fc] at this;cases this
   have h2: ¬Cw L Hq L[j]<p:= λh2=>by
    have h3:=(h.Yk L[j] (k:=Cw L Hq L[j]) (by omega)).2 (by
     have:=List.pairwise_iff_getElem.1 h.sorted (Cw L Hq L[j]) p (by omega) hp h2
     rw [gj] at this;exact this)
    omega
   omega
  have hx:L.idxOf L[j]=j:=by
   have h1:L.idxOf L[j]<L.length:=List.idxOf_lt_length_of_mem hm
   exact h.inj h1 hj (List.getElem_idxOf h1)
  refine ⟨by omega,?_,?_⟩
  ·simp only [hs];exact gj
  ·unfold jQ
   rw [if_pos hm,hx]
   simp only [hs];exact ep.symm
 ·right
  refine ⟨by unfold jQ;rw [if_neg hm],λhk e=>hm ?_⟩
  have hi:=h.idx hk
  rw [Mt (by omega)] at e
  rw [<-e]
  exact List.getElem_mem _
theorem HW (Hq:List Int) (k:Nat) (x:Int):(Pu Hq k x).Perm (x::Hq):=by
 unfold Pu
 refine List.perm_middle.trans (List.Perm.cons x ?_)
 rw [List.take_append_drop]
theorem Dk.add {m:Nat} {L:List (List Int)} {Hq s:List Int} (h:Dk m L Hq) (hn:s∉L) (hl:s.length=m) (hr:L.length<3000):Dk m (L++ [s]) (Pu Hq (Cw L Hq s) L.length):=by
 have uO: ∀i∈Hq,(L++ [s]).getD i.toNat []=L.getD i.toNat []:= λi hi=>by
  have:=Ig.1 (h.perm.mem_iff.1 hi)
  rw [List.getD_eq_getElem?_getD,List.getD_eq_getElem?_getD,List.getElem?_append_left (by omega)]
 have VN:(L++ [s]).getD ((L.length:Int)).toNat []=s:=by
  rw [Int.toNat_natCast,List.getD_eq_getElem?_getD,List.getElem?_append_right (by omega),Nat.sub_self];rfl
 refine ⟨by rw [List.length_append,List.length_singleton];omega,λx hx=>?_,h.short,?_,?_⟩
 ·rcases List.mem_append.1 hx with hx|hx
  ·exact h.len x hx
  ·rw [List.mem_singleton.1 hx];exact hl
 ·refine (HW _ _ _).trans ?_
  rw [List.length_append,List.length_singleton,Yo]
  exact (List.Perm.cons _ h.perm).trans (List.perm_append_singleton _ _).symm
 ·unfold Pu
  have hs:=h.sorted
  rw [<-List.take_append_drop (Cw L Hq s) Hq] at hs
  obtain ⟨s1,s2,s3⟩:=List.pairwise_append.1 hs
  have mt: ∀i∈Hq.take (Cw L Hq s),i∈Hq/\Zo (L.getD i.toNat []) s=true:= λi hi=>by
   obtain ⟨k,hk,rfl⟩:=List.mem_iff_getElem.1 hi
   have hk2:k<Cw L Hq s:=by rw [List.length_take] at hk;omega
   have hk3:k<Hq.length:=by rw [List.length_take] at hk;omega
   rw [List.getElem_take]
   exact ⟨List.getElem_mem _,(h.Yk s hk3).1 hk2⟩
  have md: ∀i∈Hq.drop (Cw L Hq s),i∈Hq/\Zo s (L.getD i.toNat [])=true:= λi hi=>by
   obtain ⟨k,hk,rfl⟩:=List.mem_iff_getElem.1 hi
   rw [List.length_drop] at hk
   have hk3:Cw L Hq s+k<Hq.length:=by omega
   rw [List.getElem_drop]
   refine ⟨List.getElem_mem _,IJ ?_ λe=>hn ?_⟩
   ·exact Bool.eq_false_iff.2 λhh=>by
     have:=(h.Yk s hk3).2 hh
     omega
   ·have hi:=h.idx hk3
    rw [Mt (by omega)] at e
    rw [<-e];exact List.getElem_mem _
  refine List.pairwise_append.2 ⟨s1.imp_of_mem λ {a b} ha hb eT=>?_,List.pairwise_cons.2 ⟨λb hb=>?_,s2.imp_of_mem λ {a b} ha hb eT=>?_⟩,λa ha b hb=>?_⟩
  ·rw [uO a (mt a ha).1,uO b (mt b hb).1];exact eT
  ·rw [VN,uO b (md b hb).1];exact (md b hb).2
  ·rw [uO a (md a ha).1,uO b (md b hb).1];exact eT
  ·rcases List.mem_cons.1 hb with rfl|hb
   ·rw [VN,uO a (mt a ha).1];exact (mt a ha).2
   ·rw [uO a (mt a ha).1,uO b (md b hb).1];exact s3 a ha b hb
theorem ag (L:List (List Int)) (s:List Int):Wf (L++ [s])=Pu (Wf L) (Cw L (Wf L) s) L.length:=by
 unfold Wf
 rw [List.length_append,List.length_singleton,List.range_succ,List.foldl_append]
 have e: ∀(is:List Nat) (S:List Int),(∀i∈is,i<L.length)->is.foldl (λ(S:List Int) (i:Nat)=>Pu S (Cw ((L++ [s]).take i) S ((L++ [s]).getD i [])) (i:Int)) S=is.foldl (λ(S:List Int) (i:Nat)=>Pu S (Cw (L.take i) S (L.getD i [])) (i:Int)) S:=by
  intro is
  induction is with
  |nil=>intro S _;rfl
  |cons i is ih=>
   intro S h
   have hi:=h i (by simp)
   rw [List.foldl_cons,List.foldl_cons,ih _ λj hj=>h j (List.mem_cons_of_mem _ hj)]
   congr 2
   rw [List.take_append_of_le_length (by omega),List.getD_eq_getElem?_getD,List.getElem?_append_left hi,<-List.getD_eq_getElem?_getD]
 rw [e _ _ λi hi=>List.mem_range.1 hi]
 simp only [List.foldl_cons,List.foldl_nil]
 congr 2
 ·rw [List.take_append_of_le_length (Nat.le_refl _),List.take_length]
 ·rw [List.getD_eq_getElem?_getD,List.getElem?_append_right (by omega),Nat.sub_self];rfl
theorem gP {m:Nat} (h:m<=20):Dk m [] []:=⟨by simp,λx hx=>(by cases hx),h,by simp [upto],List.Pairwise.nil⟩
theorem HU {α:Type} {xs:List α} {y:Int} (h0:0<=y) (h:y.toNat<xs.length):idx xs y=some xs[y.toNat]:=by
 unfold idx
 rw [if_pos h0,List.getElem?_eq_getElem h]
theorem TE (f:SS) (s:List Int) (h:Dk s.length f.1 f.2.2.1):fnW Cj (look [(144,Qu)]) aa Try.f104 (f,s,()) (λ(z:Int)=>z=(Cw f.1 f.2.2.1 s:Int)):=by
 obtain ⟨L,D,Hq,b,⟨⟩⟩:=f
 dsimp only at h⊢
 have hle:=AW L Hq s
 have tS:=h.mF
 have kG:=h.kE
 refine Eq.mp (UC (L,D,Hq,b,()) s _) ?_
 refine Bl.mk (λv=>v.2.2.1=L/\v.2.2.2.2.1=Hq/\ ∃lo hi:Nat,v.1=lo/\v.2.1=hi/\lo<=hi/\hi<=Hq.length/\lo<=Cw L Hq s/\Cw L Hq s<=hi) (λv=>(v.2.1-v.1).toNat)
  ⟨rfl,rfl,0,Hq.length,rfl,rfl,by omega,by omega,by omega,hle⟩ ?_
 rintro ⟨lo',om,L',D',EI,b',⟨⟩⟩ ⟨h1,h2,lo,hi,h3,h4,h5,h6,h7,h8⟩
 dsimp only at h1 h2 h3 h4⊢
 subst h1 h2 h3 h4
 refine Br.dec (λhl=>?_) λhl=>?_
 ·have em:IntKind.i64.wrap ((IntKind.i64.wrap ((lo:Int)+(hi:Int))).tdiv 2)=(((lo+hi)/2:Nat):Int):=by
   rw [Ci (n:=(lo:Int)+(hi:Int)) (by omega) (by omega),Int.tdiv_eq_ediv_of_nonneg (by omega),Ci (by omega) (by omega)]
   omega
  rw [em]
  have UT:(lo+hi)/2<EI.length:=by omega
  have MB:=h.idx UT
  have MC:EI[(lo+hi)/2].toNat<L'.length:=by omega
  have WL:=Mt MC
  have hlen:=h.len _ (List.getElem_mem MC)
  have xf:short L'[EI[(lo+hi)/2].toNat]:=by
   unfold short
   have:=h.short;omega
  refine ⟨by decide,_,An UT,_,HU MB.1 MC,_,if_pos ⟨xf,hlen⟩,⟨λhc=>?_,λhc=>?_⟩⟩
  ·have hc:Zo L'[EI[(lo+hi)/2].toNat] s=true:=hc
   have hs:=(h.Yk s UT).2 (by rw [WL];exact hc)
   rw [Ag (by omega)]
   exact ⟨⟨rfl,rfl,(lo+hi)/2+1,hi,rfl,rfl,by omega,h6,by omega,h8⟩,by omega⟩
  ·have hc:Zo L'[EI[(lo+hi)/2].toNat] s=false:=hc
   have hs: ¬(lo+hi)/2<Cw L' EI s:= λhh=>by
    have:=(h.Yk s UT).1 hh
    rw [WL,hc] at this;cases this
   exact ⟨⟨rfl,rfl,lo,(lo+hi)/2,rfl,rfl,by omega,by omega,h7,by omega⟩,by omega⟩
 ·show (lo:Int)=_
  omega
theorem nM:Sound Try.prog 104 aa:=
 Sound.Cu Bj (Ae nK Ao) mixed Try.func104 (by kernel_rfl) (by kernel_rfl) λx h=>TE x.1 x.2.1 h
theorem JB (f:SS) (s:List Int) (h:Dk s.length f.1 f.2.2.1):fnW Cj (look [(104,aa),(105,Aq)]) Yj Try.f54 (f,s,()) (λ(z:Int)=>z=jQ f.1 s):=by
 obtain ⟨L,D,Hq,b,⟨⟩⟩:=f
 dsimp only at h⊢
 refine Eq.mp (KO (L,D,Hq,b,()) s _) ⟨_,if_pos h,Br.dec (λhl=>?_) λhl=>?_⟩
 ·have hl:Cw L Hq s<Hq.length:=by
   have hl:((Cw L Hq s:Nat):Int)<(Hq.length:Int):=hl
   omega
  have MB:=h.idx hl
  have MC:Hq[Cw L Hq s].toNat<L.length:=by omega
  have WL:=Mt MC
  have hlen:=h.len _ (List.getElem_mem MC)
  have xf:short L[Hq[Cw L Hq s].toNat]:=by
   unfold short
   have:=h.short;omega
  refine ⟨_,An hl,_,HU MB.1 MC,_,if_pos xf,⟨λhc=>⟨_,An hl,?_⟩,λhc=>?_⟩⟩
  ·have hc:L[Hq[Cw L Hq s].toNat]=s:=of_decide_eq_true hc
   rcases h.rk (s:=s) with ⟨hk,_,e⟩|⟨_,Fe⟩
   ·exact e.symm
   ·exact absurd (by rw [WL];exact hc) (Fe hl)
  ·have hc: ¬L[Hq[Cw L Hq s].toNat]=s:=of_decide_eq_false hc
   rcases h.rk (s:=s) with ⟨hk,e,_⟩|⟨e,_⟩
   ·rw [WL] at e;exact absurd e hc
   ·exact e.symm
 ·have hl: ¬Cw L Hq s<Hq.length:=by
   have hl: ¬((Cw L Hq s:Nat):Int)<(Hq.length:Int):=hl
   omega
  rcases h.rk (s:=s) with ⟨hk,e,_⟩|⟨e,_⟩
  ·exact absurd hk hl
  ·exact e.symm
theorem sZ:Sound Try.prog 54 Yj:=
 Sound.Cu Bj (Ae nM (Ae So Ao)) mixed Try.func54 (by kernel_rfl) (by kernel_rfl) λx h=>JB x.1 x.2.1 h
theorem y0 {S:List Int} {k:Nat} (h:k<=S.length) (n:Int):
  (Bq (S++ [0]) (k+1) (List.take ((S++ [0]).length-(k+1)) (List.take ((S++ [0]).length-k) (List.drop k (S++ [0]))))).set k n=Pu S k n:=by
 obtain ⟨A,B,rfl,hA⟩: ∃A B,S=A++B/\A.length=k:=⟨S.take k,S.drop k,(List.take_append_drop k S).symm,by rw [List.length_take];omega⟩
 subst hA
 have e1:List.drop A.length (A++B++ [0])=B++ [0]:=by rw [List.append_assoc,List.drop_left]
 have e2:List.take ((A++B++ [0]).length-A.length) (B++ [0])=B++ [0]:=List.take_of_length_le (by simp only [List.length_append,List.length_singleton];omega)
 have e3:List.take ((A++B++ [0]).length-(A.length+1)) (B++ [0])=B:=by
  have:(A++B++ [(0:Int)]).length-(A.length+1)=B.length:=by simp only [List.length_append,List.length_singleton];omega
  rw [this,List.take_left]
 rw [e1,e2,e3]
 unfold Bq Pu
 have e4:List.drop (A.length+1+B.length) (A++B++ [0])= []:=List.drop_eq_nil_of_le (by simp only [List.length_append,List.length_singleton];omega)
 obtain ⟨c,hc⟩: ∃c,List.take (A.length+1) (A++B++ [0])=A++ [c]:=by
  rw [List.append_assoc,List.take_append,List.take_of_length_le (by omega)]
  cases B with
  |nil=>exact ⟨0,by simp⟩
  |cons b B=>exact ⟨b,by simp⟩
 rw [e4,hc,List.append_nil,List.append_assoc,List.singleton_append,NJ,List.take_left,List.drop_left]
theorem TD (L:List (List Int)) (D S:List Int) (b:Bool) (s:List Int) (d:Int) (h:Dk s.length L S/\D.length<=3000):
  fnMW jq (look [(104,aa)]) fm Try.f149 (L,D,S,b,s,d,()) (λ(z:(List (List Int)×List Int×List Int×Bool×Unit)×Unit)=>z=((L++ [s],D++ [d],Pu S (Cw L S s) L.length,b,()),())):=by
 obtain ⟨h,hD⟩:=h
 have hle:=AW L S s
 have tS:=h.mF
 have kG:=h.kE
 refine Eq.mp (UB L D S b s d _) ?_
 rw [Bn L,Bn D,Bn S]
 refine ⟨_,if_pos h,?_⟩
 dsimp only
 have es:List.take 1 (List.drop 0 [(0:Int)])= [0]:=rfl
 have el:(S++ [(0:Int)]).length=S.length+1:=by simp
 rw [es,Ag (by omega),Nat.zero_add,Nat.zero_add,Int.toNat_natCast,Int.toNat_natCast,Int.toNat_natCast]
 refine ⟨rfl,rfl,by show S.length+1<=4294967296;omega,⟨by omega,by omega,by omega⟩,⟨by omega,by omega,by omega⟩,⟨by omega,by omega⟩,?_,rfl,rfl,by show L.length+1<=4294967296;omega,rfl,rfl,by show D.length+1<=4294967296;omega,?_⟩
 ·unfold Bq
  simp only [List.length_append,List.length_take,List.length_drop,List.length_singleton]
  omega
 ·rw [y0 hle,Bn,Bn]
  have e5:List.take (S++ [(0:Int)]).length (List.drop 0 (Pu S (Cw L S s) (L.length:Int)))=Pu S (Cw L S s) (L.length:Int):=by
   rw [List.drop_zero,List.take_of_length_le]
   unfold Pu
   simp only [List.length_append,List.length_cons,List.length_take,List.length_drop,List.length_nil]
   omega
  rw [e5]
  rfl
theorem zd:Co Try.prog 149 fm:=
 Co.lq fv (Ae nM Ao) mixed Try.func149 (by kernel_rfl) (by kernel_rfl) λx h=>TD x.1 x.2.1 x.2.2.1 x.2.2.2.1 x.2.2.2.2.1 x.2.2.2.2.2.1 h
structure Mp (p:PP) (m:Nat) (L:List (List Int)) (D:List Int):Prop where
 ok:Dk m L (Wf L)
 len:D.length=L.length
 row: ∀x∈L,∀y∈x,0<=y/\y<p.1
 dep: ∀j (h:j<D.length),0<=D[j]/\D[j]<=j
theorem lr {p:PP} (hv:Valid p) {x:List Int} {l:Int} (hx: ∀y∈x,0<=y/\y<p.1) (hl:Gq (List.length p.2.2.1) l):
  (Aa x (Af p.2.2.1 l)).length=x.length/\ ∀y∈Aa x (Af p.2.2.1 l),0<=y/\y<p.1:=by
 obtain ⟨h1,h2⟩:=dd hv hl
 refine ⟨Nq _ _,λy hy=>?_⟩
 have:=uw (n:=(Af p.2.2.1 l).length) (λz hz=>by have:=hx z hz;omega) h2 y hy
 omega
theorem Mp.add {p:PP} {m:Nat} {L:List (List Int)} {D:List Int} (h:Mp p m L D) {y:List Int} {d:Int} (hn:y∉L) (hl:y.length=m) (hr:L.length<3000) (hy: ∀z∈y,0<=z/\z<p.1) (hd:0<=d/\d<=L.length):Mp p m (L++ [y]) (D++ [d]):=by
 have hlen:=h.len
 refine ⟨by rw [ag];exact h.ok.add hn hl hr,by simp [hlen],λx hx=>?_,λj hj=>?_⟩
 ·rcases List.mem_append.1 hx with hx|hx
  ·exact h.row x hx
  ·rw [List.mem_singleton.1 hx];exact hy
 ·by_cases e:j<D.length
  ·rw [List.getElem_append_left e];exact h.dep j e
  ·simp only [List.length_append,List.length_singleton] at hj
   have:j=D.length:=by omega
   subst this
   rw [List.getElem_append_right (by omega)]
   simp only [Nat.sub_self,List.getElem_cons_zero]
   omega
theorem Xe {p:PP} {s:List Int} (hs:s.length<=20) (hr: ∀y∈s,0<=y/\y<p.1):Mp p s.length [s] [0]:=by
 refine ⟨?_,rfl,λx hx=>by rw [List.mem_singleton.1 hx];exact hr,λj hj=>?_⟩
 ·have:=(gP hs).add (s:=s) (by simp) rfl (by simp)
  have e:Wf [s]=Pu [] (Cw [] [] s) 0:=ag [] s
  rw [e];exact this
 ·simp only [List.length_singleton] at hj
  have:j=0:=by omega
  subst this
  simp
theorem ql {L:List (List Int)} {s:List Int} :jQ L s>=0↔s∈L:=by
 unfold jQ
 split
 ·rename_i h;exact ⟨λ_=>h,λ_=>by omega⟩
 ·rename_i h;exact ⟨λhh=>by omega,λhh=>absurd hh h⟩
theorem NF (p:PP) (s:List Int) (h:Bg p=true/\s.length<=20/\ ∀y∈s,0<=y/\y<p.1):fnW TU (look [(123,Fh),(149,fm),(96,Oa),(115,Yg),(54,Yj)]) Cy Try.f112 (p,s,()) (λ(z:SS)=>z=Ey p.2.2.1 s):=by
 obtain ⟨hv,hs,hr⟩:=h
 have hV:=valid hv
 have kG:=hV.kE
 have LW:=Xe hs hr
 have xf:short s:=by unfold short;omega
 obtain ⟨ls,kI⟩: ∃ls,Au (List.length p.2.2.1)=ls:=⟨_,rfl⟩
 refine Eq.mp (NZ p s _) ⟨_,if_pos xf,_,if_pos ⟨gP hs,by show 0<=3000;omega⟩,ls,(if_pos (by show List.length p.2.2.1<=8;exact kG.2)).trans (congrArg some kI),rfl,rfl,rfl,rfl,rfl,rfl,rfl,rfl,rfl,rfl,rfl,rfl,?_⟩
 have e0:Pu [] (Cw [] [] s) ((([]:List (List Int)).length:Nat):Int)=Wf [s]:=(ag [] s).symm
 show Bl _ ((0:Int),p.1,p.2.1,p.2.2.1,false,false,[],[],[],[s],[(0:Int)],Pu [] (Cw [] [] s) ((([]:List (List Int)).length:Nat):Int),PUnit.unit)
 rw [e0]
 have HE:ls.length<=16:=by rw [<-kI,Kk];omega
 have gp: ∀l∈ls,Gq (List.length p.2.2.1) l:= λl hl=>Jp (kI▸hl)
 have mu:Ff p.2.2.1 ls 3001 0 [s] [0]=Ct p.2.2.1 s:=by unfold Ct;rw [kI]
 refine Bl.mk (λv=>v.2.1=p.1/\v.2.2.1=p.2.1/\v.2.2.2.1=p.2.2.1/\v.2.2.2.2.2.1=false/\ ∃k:Nat,v.1=k/\k<=v.2.2.2.2.2.2.2.2.2.1.length/\
   Mp p s.length v.2.2.2.2.2.2.2.2.2.1 v.2.2.2.2.2.2.2.2.2.2.1/\v.2.2.2.2.2.2.2.2.2.2.2.1=Wf v.2.2.2.2.2.2.2.2.2.1/\
   Ff p.2.2.1 ls (3001-k) k v.2.2.2.2.2.2.2.2.2.1 v.2.2.2.2.2.2.2.2.2.2.1=Ct p.2.2.1 s) (λv=>3001-v.1.toNat)
  ⟨rfl,rfl,rfl,rfl,0,rfl,by simp,LW,rfl,mu⟩ ?_
 rintro ⟨k',n1,n2,n3,b0,wh,x1,x2,x3,L0,D0,S0,⟨⟩⟩ ⟨h1,h2,h3,h4,k,h5,h6,h7,h8,h9⟩
 dsimp only at h1 h2 h3 h4 h5 h6 h7 h8 h9
 subst h1 h2 h3 h4 h5 h8
 dsimp only
 have hL0:=h7.ok.kE
 have hD0:=h7.len
 refine Br.dec (λhl=>⟨rfl,rfl,rfl,rfl,rfl,rfl,rfl,rfl,rfl,rfl,rfl,rfl,?_⟩) λhl=>?_
 ·have hk:k<L0.length:=by omega
  have uW:k<D0.length:=by omega
  have hx: ∀y∈L0[k],0<=y/\y<p.1:=h7.row _ (List.getElem_mem hk)
  have HO:L0[k].length=s.length:=h7.ok.len _ (List.getElem_mem hk)
  have hdk:=h7.dep k uW
  obtain ⟨f,hf⟩: ∃f,3001-k=f+1:=⟨3000-k,by omega⟩
  have PA: ∀L' D' ok,Ea p.2.2.1 L0[k] D0[k] ls L0 D0=(L',D',ok)->Ct p.2.2.1 s=if ok=true then Ff p.2.2.1 ls f (k+1) L' D' else (L',D',false):=by
   intro L' D' ok he
   rw [<-h9,hf,Ff,if_pos hk,Mt hk,List.getD_eq_getElem?_getD,List.getElem?_eq_getElem uW]
   simp only [Option.getD_some]
   rw [he]
   cases ok<;>rfl
  refine Bl.mk (λv=>v.2.1=p.1/\v.2.2.1=p.2.1/\v.2.2.2.1=p.2.2.1/\v.2.2.2.2.2.1=false/\ ∃i:Nat,v.1=i/\i<=ls.length/\Mp p s.length v.2.2.2.2.2.2.2.2.2.1 v.2.2.2.2.2.2.2.2.2.2.1/\
    v.2.2.2.2.2.2.2.2.2.2.2.1=Wf v.2.2.2.2.2.2.2.2.2.1/\(∃A,v.2.2.2.2.2.2.2.2.2.1=L0++A)/\(∃A,v.2.2.2.2.2.2.2.2.2.2.1=D0++A)/\
    Ea p.2.2.1 L0[k] D0[k] (ls.drop i) v.2.2.2.2.2.2.2.2.2.1 v.2.2.2.2.2.2.2.2.2.2.1=Ea p.2.2.1 L0[k] D0[k] ls L0 D0) (λv=>ls.length-v.1.toNat)
   ⟨rfl,rfl,rfl,rfl,0,rfl,Nat.zero_le _,h7,rfl,⟨[],by simp⟩,⟨[],by simp⟩,rfl⟩ ?_
  rintro ⟨i',m1,m2,m3,b1,wh1,y1,y2,y3,L,D,S,⟨⟩⟩ ⟨g1,g2,g3,g4,i,g5,g6,g7,g8,⟨A,g9⟩,⟨A',LP⟩,kF⟩
  dsimp only at g1 g2 g3 g4 g5 g6 g7 g8 g9 LP kF
  subst g1 g2 g3 g4 g5 g8
  dsimp only
  have hLf:=g7.ok.kE
  have KU:=g7.len
  rw [Bn L,Bn D,Bn (Wf L)]
  refine Br.dec (λWR=>?_) λWR=>?_
  ·have hi:i<ls.length:=by omega
   have HC:k<L.length:=by rw [g9,List.length_append];omega
   have hLk:L[k]=L0[k]:=by simp only [g9];exact List.getElem_append_left hk
   have HB:k<D.length:=by rw [KU];exact HC
   have VQ:D[k]=D0[k]:=by simp only [LP];exact List.getElem_append_left uW
   have rU:=gp _ (List.getElem_mem hi)
   obtain ⟨nl,nr⟩:=lr hV hx rU
   rw [List.drop_eq_getElem_cons hi] at kF
   simp only [Ea] at kF
   refine ⟨⟨by omega,by omega⟩,L0[k],by rw [Int.toNat_natCast,Nat.zero_add,List.getElem?_eq_getElem HC,hLk],_,An hi,_,if_pos ⟨hv,by show L0[k].length<=20;omega,hx,rU⟩,?_⟩
   dsimp only
   have hyl:(Aa L0[k] (Af p.2.2.1 ls[i])).length=s.length:=by rw [nl,HO]
   refine ⟨_,if_pos (by show Dk (Aa L0[k] (Af p.2.2.1 ls[i])).length L (Wf L);rw [hyl];exact g7.ok),Br.dec (λTi=>?_) λTi=>?_⟩
   ·have Ti:Aa L0[k] (Af p.2.2.1 ls[i])∈L:=ql.1 Ti
    rw [if_pos Ti] at kF
    rw [Ag (by omega)]
    exact ⟨rfl,rfl,rfl,rfl,rfl,rfl,rfl,rfl,rfl,rfl,rfl,rfl,⟨rfl,rfl,rfl,rfl,i+1,rfl,hi,g7,rfl,⟨A,g9⟩,⟨A',LP⟩,kF⟩,by omega⟩
   ·have Ti:Aa L0[k] (Af p.2.2.1 ls[i])∉L:= λhh=>Ti (ql.2 hh)
    rw [if_neg Ti] at kF
    refine ⟨λPr=>?_,λPr=>⟨⟨by omega,by omega⟩,D0[k],by rw [Int.toNat_natCast,Nat.zero_add,List.getElem?_eq_getElem HB,VQ],rfl,rfl,rfl,rfl,rfl,rfl,?_⟩⟩
    ·have Pr:L.length=3000:=by
      have:(L.length:Int)=3000:=by simpa using Pr
      omega
     rw [if_pos Pr] at kF
     have:=PA _ _ _ kF.symm
     rw [if_neg (by decide)] at this
     unfold Ey
     rw [this]
    ·have Pr:L.length≠3000:=by
      have:(L.length:Int)≠3000:=by simpa using Pr
      omega
     rw [if_neg Pr] at kF
     rw [Ci (n:=D0[k]+1) (by omega) (by omega)]
     refine ⟨_,if_pos ⟨by show Dk (Aa L0[k] (Af p.2.2.1 ls[i])).length L (Wf L);rw [hyl];exact g7.ok,by show D.length<=3000;omega⟩,?_⟩
     dsimp only
     rw [Ag (by omega),<-ag]
     refine ⟨rfl,rfl,rfl,rfl,rfl,rfl,rfl,rfl,rfl,rfl,rfl,rfl,⟨rfl,rfl,rfl,rfl,i+1,rfl,hi,g7.add Ti hyl (by omega) nr ⟨by omega,by omega⟩,rfl,⟨A++ [Aa L0[k] (Af p.2.2.1 ls[i])],by rw [g9,List.append_assoc]⟩,⟨A'++ [D0[k]+1],by rw [LP,List.append_assoc]⟩,kF⟩,by omega⟩
  ·have:i=ls.length:=by omega
   subst this
   rw [List.drop_length,Ea] at kF
   have:=PA _ _ _ kF.symm
   rw [if_pos rfl] at this
   rw [Ag (by omega)]
   refine ⟨rfl,rfl,rfl,rfl,rfl,rfl,rfl,rfl,rfl,rfl,rfl,rfl,⟨rfl,rfl,rfl,rfl,k+1,rfl,by rw [g9,List.length_append];omega,g7,rfl,?_⟩,by omega⟩
   rw [show 3001-(k+1)=f by omega]
   exact this.symm
 ·have hk:k=L0.length:=by omega
  rw [Bn L0,Bn D0,Bn (Wf L0)]
  obtain ⟨f,hf⟩: ∃f,3001-k=f+1:=⟨3000-k,by omega⟩
  rw [hf,Ff,if_neg (by omega)] at h9
  unfold Ey
  rw [<-h9]
theorem kc:Sound Try.prog 112 Cy:=
 Sound.Cu TV (Ae Vg (Kc zd (Ae kU (Ae sV (Ae sZ Ao))))) mixed Try.func112 (by kernel_rfl) (by kernel_rfl) λx h=>NF x.1 x.2.1 h
end Go.Proofs.Ytjbdmibbbpdnnaa

namespace Go.Proofs.Ytjbdmibbbpdnnaa
open Go.RowKit
noncomputable def Cm (p:PP) (t:List Int):Bool:=Bg p&&Rv p.1 t
noncomputable def Dd (p:PP) (t:List Int):Bool:=Cm p t&&(Ct p.2.2.1 t).2.2
noncomputable abbrev Es:Spec:=Cu (.pair Dm (.pair tL .unit)) .bool false true (λx=>Cp x.1/\short x.2.1) (λx=>Cm x.1 x.2.1)
noncomputable def Jo (p:PP) (t:List Int):SS:=if Cm p t=true then Ey p.2.2.1 t else ([],[],[],false,())
noncomputable abbrev Oc:Spec:=Cu (.pair Dm (.pair tL .unit)) (.pair aj (.pair .bool .unit)) true false (λx=>Cp x.1/\short x.2.1) (λx=>(Jo x.1 x.2.1,Dd x.1 x.2.1,()))
noncomputable abbrev Ll:Spec:=Cu (.pair dt .unit) dt false true (λx=>Fu x.1) (λx=>x.1)
noncomputable def Dt (p:PP) (t:List Int):TT:=if Dd p t=true then (t,(Ct p.2.2.1 t).1,(Ct p.2.2.1 t).2.1,()) else ([],[],[],())
noncomputable abbrev Od:Spec:=Cu (.pair Dm (.pair tL .unit)) (.pair Gx (.pair .bool .unit)) true true (λx=>Cp x.1/\short x.2.1) (λx=>(Dt x.1 x.2.1,Dd x.1 x.2.1,()))
noncomputable abbrev Qt:MSpec:=lq [some 3,none] [(false, .Fm tI),(false, .Fm .str),(false, .Fm dt),(false, .Fm tL)] true [none,none,none] [xLL,rL, .Fm .bool]
 (λx=>Cm (x.1,x.2.1,x.2.2.1,()) x.2.2.2.1=true) (λx=>(((Dt (x.1,x.2.1,x.2.2.1,()) x.2.2.2.1).2.1,(Dt (x.1,x.2.1,x.2.2.1,()) x.2.2.2.1).2.2.1,Dd (x.1,x.2.1,x.2.2.1,()) x.2.2.2.1,()),()))
noncomputable abbrev Qv:MSpec:=lq [some 3,none] [(false, .Fm tI),(false, .Fm .str),(false, .Fm dt),(false, .Fm tL)] true [none,none,none] [xLL,rL, .Fm .bool]
 (λx=>Cp (x.1,x.2.1,x.2.2.1,())/\short x.2.2.2.1) (λx=>(((Dt (x.1,x.2.1,x.2.2.1,()) x.2.2.2.1).2.1,(Dt (x.1,x.2.1,x.2.2.1,()) x.2.2.2.1).2.2.1,Dd (x.1,x.2.1,x.2.2.1,()) x.2.2.2.1,()),()))
noncomputable abbrev Nz:MSpec:=lq [some 3,none] [(false, .Fm tI),(false, .Fm .str),(false, .Fm dt),(false, .Fm tL)] true [some 3,none] [rL,xLL,rL, .Fm .bool]
 (λx=>Cp (x.1,x.2.1,x.2.2.1,())/\short x.2.2.2.1) (λx=>(((Dt (x.1,x.2.1,x.2.2.1,()) x.2.2.2.1).1,(Dt (x.1,x.2.1,x.2.2.1,()) x.2.2.2.1).2.1,(Dt (x.1,x.2.1,x.2.2.1,()) x.2.2.2.1).2.2.1,Dd (x.1,x.2.1,x.2.2.1,()) x.2.2.2.1,()),()))
noncomputable def Df (p:PP) (t:TT):Bool:=Dd p t.1&&Jn (Dt p t.1) t
noncomputable abbrev Kg:Spec:=Cu (.pair Dm (.pair Gx .unit)) .bool false true (λx=>Cp x.1/\Ka x.2.1) (λx=>Df x.1 x.2.1)
abbrev zl:Ty:= .slice Gx
def Gw (ts:List TT):Prop:=ts.length<=4294967296/\ ∀t∈ts,Ka t
noncomputable def Ei (p:PP) (ts:List TT):Bool:=Bg p&&decide (ts.length<=4)&&List.all ts (Df p)
noncomputable abbrev Gm:Spec:=Cu (.pair Dm (.pair zl .unit)) .bool false true (λx=>Cp x.1/\Gw x.2.1) (λx=>Ei x.1 x.2.1)
abbrev ZJ:Ty:= .clo 138 (.pair (.ptr Dm) .unit)
noncomputable abbrev qN:Spec:=Cu (.pair Gx (.pair (.ptr Dm) .unit)) .bool false true (λx=>Ka x.1/\Cp x.2.1) (λx=>!Df x.2.1 x.1)
def Lh (q:TT->Bool):List TT->Int->Int
 | [],_=> -1
 |t::ts,k=>if q t=true then k else Lh q ts (k+1)
noncomputable abbrev jb:Spec:=Cu (.pair zl (.pair ZJ .unit)) tI false true (λx=>Gw x.1/\Cp x.2.1.1) (λx=>Lh (λt=>!Df x.2.1.1 t) x.1 0)
noncomputable abbrev j9:Spec:=Cu (.pair zl (.pair ZJ .unit)) .bool false true (λx=>Gw x.1/\Cp x.2.1.1) (λx=>List.any x.1 (λt=>!Df x.2.1.1 t))
noncomputable abbrev nu:Spec:=Cu (.pair Dm (.pair zl .unit)) .bool false true (λx=>Cp x.1/\Gw x.2.1) (λ_=>true)
def jm:List TT->Int->Int
 | [],room=>room
 |t::ts,room=>if Lw t room<0 then-1 else jm ts (Lw t room)
def ym (ts:List TT) (room:Int):Int:=if room-ts.length<0 then-1 else jm ts (room-ts.length)
noncomputable abbrev jc:Spec:=Cu (.pair zl (.pair tI .unit)) tI false true (λx=>Gw x.1/\roomy x.2.1) (λx=>ym x.1 x.2.1)
noncomputable abbrev cy:Spec:=Cu (.pair zl .unit) zl false true (λx=>Gw x.1) (λx=>x.1)
noncomputable abbrev ja:Spec:=Cu (.pair zl (.pair zl .unit)) .bool false true (λx=>Gw x.1) (λx=>decide (x.1=x.2.1))
theorem pG (p:Int×ByteArray×List (List Int)×Unit) (t:List Int) (P:Bool->Prop):(∃(y3:Bool),Dv.fn ((p.1,p.2.1,p.2.2.1,()),())=some y3/\Br y3 (∃(y4:Bool),Fp.fn (p.1,t,())=some y4/\P y4) (P false))=fnW Cj (look [(130,Dv),(66,Fp)]) Es Try.f185 (p,t,()) P:=by kernel_rfl
theorem pK (p:Int×ByteArray×List (List Int)×Unit) (t:List Int) (P:Bool->Prop):(∃(y3:Bool),Dv.fn ((p.1,p.2.1,p.2.2.1,()),())=some y3/\Br y3 (∃(y4:Bool),Fp.fn (p.1,t,())=some y4/\P y4) (P false))=fnW Cj (look [(110,Dv),(111,Fp)]) Es Try.f62 (p,t,()) P:=by kernel_rfl
theorem x6 (p:Int×ByteArray×List (List Int)×Unit) (t:List Int) (P:((List (List Int)×List Int×List Int×Bool×Unit)×Bool×Unit)->Prop):(∃(y3:Bool),Es.fn ((p.1,p.2.1,p.2.2.1,()),t,())=some y3/\Br (!y3) (P ((List.take 0 (List.drop 0 []),List.take 0 (List.drop 0 []),List.take 0 (List.drop 0 []),false,()),false,())) (∃(y4:List (List Int)×List Int×List Int×Bool×PUnit),Cy.fn ((p.1,p.2.1,p.2.2.1,()),t,())=some y4/\((P ((y4.1,y4.2.1,y4.2.2.1,y4.2.2.2.1,()),y4.2.2.2.1,())/\P ((y4.1,y4.2.1,y4.2.2.1,y4.2.2.2.1,()),y4.2.2.2.1,()))/\P ((y4.1,y4.2.1,y4.2.2.1,y4.2.2.2.1,()),y4.2.2.2.1,()))/\(P ((y4.1,y4.2.1,y4.2.2.1,y4.2.2.2.1,()),y4.2.2.2.1,())/\P ((y4.1,y4.2.1,y4.2.2.1,y4.2.2.2.1,()),y4.2.2.2.1,()))/\P ((y4.1,y4.2.1,y4.2.2.1,y4.2.2.2.1,()),y4.2.2.2.1,())))=fnW Cj (look [(62,Es),(112,Cy)]) Oc Try.f178 (p,t,()) P:=by kernel_rfl
theorem wT (l:List (List Int)) (P:List (List Int)->Prop):(0=0/\0=([]:List Int).length/\Bl (λ(v2:Int×List (List Int)×PUnit) (k3:Int×List (List Int)×PUnit->Prop)=>Br (decide (v2.1<(↑l.length:Int))) (∃(y4:List Int),idx l v2.1=some y4/\ ∃(y5:List Int),Fh.fn (y4,())=some y5/\0=0/\v2.2.1.length=v2.2.1.length/\v2.2.1.length+(List.take 1 (List.drop 0 [y5])).length<=Bh/\0=0/\(v2.2.1++List.take 1 (List.drop 0 [y5])).length=(v2.2.1++List.take 1 (List.drop 0 [y5])).length/\k3 (IntKind.i64.wrap (v2.1+(1:Int)),v2.2.1++List.take 1 (List.drop 0 [y5]),())) (P (List.take v2.2.1.length (List.drop 0 v2.2.1)))) ((0:Int),[],PUnit.unit))=fnW Cj (look [(123,Fh)]) Ll Try.f179 (l,()) P:=by kernel_rfl
theorem x7 (p:Int×ByteArray×List (List Int)×Unit) (t:List Int) (P:((List Int×List (List Int)×List Int×Unit)×Bool×Unit)->Prop):(∃(y3:(List (List Int)×List Int×List Int×Bool×PUnit)×Bool×PUnit),Oc.fn ((p.1,p.2.1,p.2.2.1,()),t,())=some y3/\Br (!y3.2.1) (P ((List.take 0 (List.drop 0 []),List.take 0 (List.drop 0 []),List.take 0 (List.drop 0 []),()),false,())) (∃(y4:List Int),Fh.fn (t,())=some y4/\ ∃(y5:List (List Int)),Ll.fn (y3.1.1,())=some y5/\ ∃(y6:List Int),Fh.fn (y3.1.2.1,())=some y6/\P ((y4,y5,y6,()),true,())))=fnW Cj (look [(178,Oc),(123,Fh),(179,Ll)]) Od Try.f161 (p,t,()) P:=by kernel_rfl
abbrev Wg:Type:=Int×List (List Int)×List (List Int)×List Int×(ByteArray->Option Bool)×PUnit
abbrev kl:Type:=Int×Int×ByteArray×List (List Int)×List (List Int)×List (List Int)×List Int×(ByteArray->Option Bool)×PUnit
theorem zw (n:Int) (str:ByteArray) (g:List (List Int)) (t:List Int) (P:((List (List Int)×List Int×Bool×Unit)×Unit)->Prop):(∃(y5:(List Int×PUnit)×PUnit),Ve.fn (t,())=some y5/\ ∃(y6:ByteArray),Ck.fn (t,())=some y6/\ ∃(y7:List Int),Hy.fn ((↑g.length:Int),())=some y7/\0=0/\1= [List.take y5.1.1.length (List.drop 0 y5.1.1)].length/\0=0/\1= [(0:Int)].length/\0=0/\0=([]:List Int).length/\Bl (λ(v8:kl) (k9:kl->Prop)=>Br (decide (v8.1<(↑y7.length:Int))) (∃(fE:Int),idx y7 v8.1=some fE/\ ∃(r6:List Int),Jz.fn (v8.2.2.2.1,fE,())=some r6/\0=0/\v8.2.2.2.2.1.length=v8.2.2.2.2.1.length/\v8.2.2.2.2.1.length+(List.take 1 (List.drop 0 [r6])).length<=Bh/\0=0/\v8.2.2.2.2.2.1.length=v8.2.2.2.2.2.1.length/\0=0/\v8.2.2.2.2.2.2.1.length=v8.2.2.2.2.2.2.1.length/\0=0/\(v8.2.2.2.2.1++List.take 1 (List.drop 0 [r6])).length=(v8.2.2.2.2.1++List.take 1 (List.drop 0 [r6])).length/\k9 (IntKind.i64.wrap (v8.1+(1:Int)),v8.2.1,v8.2.2.1,v8.2.2.2.1,v8.2.2.2.2.1++List.take 1 (List.drop 0 [r6]),v8.2.2.2.2.2.1,v8.2.2.2.2.2.2.1,v8.2.2.2.2.2.2.2.1,())) (0=0/\v8.2.2.2.2.2.1.length=v8.2.2.2.2.2.1.length/\0=0/\v8.2.2.2.2.2.2.1.length=v8.2.2.2.2.2.2.1.length/\0=0/\v8.2.2.2.2.1.length=v8.2.2.2.2.1.length/\Bl (λ(v10:Wg) (k11:Wg->Prop)=>Br (decide (v10.1<(↑v10.2.2.1.length:Int))) (0=0/\v10.2.2.1.length=v10.2.2.1.length/\0=0/\v10.2.2.2.1.length=v10.2.2.2.1.length/\0=0/\v10.2.1.length=v10.2.1.length/\0=0/\v10.2.1.length=v10.2.1.length/\Bl (λ(Iu:Wg) (k13:Wg->Prop)=>Br (decide (Iu.1<(↑v10.2.1.length:Int))) (((0:Int)<=Iu.1/\Iu.1<(↑Iu.2.1.length:Int))/\ ∃(aT:List Int),Iu.2.1[0+Iu.1.toNat]?=some aT/\((0:Int)<=v10.1/\v10.1<(↑Iu.2.2.1.length:Int))/\ ∃(kv:List Int),Iu.2.2.1[0+v10.1.toNat]?=some kv/\ ∃(pL:(List Int×PUnit)×PUnit),Tx.fn (aT,kv,())=some pL/\ ∃(FQ:ByteArray),Ck.fn (List.take pL.1.1.length (List.drop 0 pL.1.1),())=some FQ/\Br (!(Iu.2.2.2.2.1 FQ).getD false) (Br ((↑Iu.2.2.1.length:Int)==(3000:Int)) (P ((List.take 0 (List.drop 0 []),List.take 0 (List.drop 0 []),false,()),())) (0=0/\Iu.2.2.1.length=Iu.2.2.1.length/\Iu.2.2.1.length+(List.take 1 (List.drop 0 [List.take pL.1.1.length (List.drop 0 pL.1.1)])).length<=Bh/\((0:Int)<=v10.1/\v10.1<(↑Iu.2.2.2.1.length:Int))/\ ∃(LF:Int),Iu.2.2.2.1[0+v10.1.toNat]?=some LF/\0=0/\Iu.2.2.2.1.length=Iu.2.2.2.1.length/\Iu.2.2.2.1.length+(List.take 1 (List.drop 0 [IntKind.i64.wrap (LF+(1:Int))])).length<=Bh/\0=0/\(Iu.2.2.1++List.take 1 (List.drop 0 [List.take pL.1.1.length (List.drop 0 pL.1.1)])).length=(Iu.2.2.1++List.take 1 (List.drop 0 [List.take pL.1.1.length (List.drop 0 pL.1.1)])).length/\0=0/\(Iu.2.2.2.1++List.take 1 (List.drop 0 [IntKind.i64.wrap (LF+(1:Int))])).length=(Iu.2.2.2.1++List.take 1 (List.drop 0 [IntKind.i64.wrap (LF+(1:Int))])).length/\0=0/\Iu.2.1.length=Iu.2.1.length/\0=0/\Iu.2.1.length=Iu.2.1.length/\k13 (IntKind.i64.wrap (Iu.1+(1:Int)),Iu.2.1,Iu.2.2.1++List.take 1 (List.drop 0 [List.take pL.1.1.length (List.drop 0 pL.1.1)]),Iu.2.2.2.1++List.take 1 (List.drop 0 [IntKind.i64.wrap (LF+(1:Int))]),Sb Iu.2.2.2.2.1 FQ true,()))) (0=0/\Iu.2.2.1.length=Iu.2.2.1.length/\0=0/\Iu.2.2.2.1.length=Iu.2.2.2.1.length/\0=0/\Iu.2.1.length=Iu.2.1.length/\0=0/\Iu.2.1.length=Iu.2.1.length/\k13 (IntKind.i64.wrap (Iu.1+(1:Int)),Iu.2.1,Iu.2.2.1,Iu.2.2.2.1,Iu.2.2.2.2.1,()))) (0=0/\Iu.2.2.1.length=Iu.2.2.1.length/\0=0/\Iu.2.2.2.1.length=Iu.2.2.2.1.length/\0=0/\Iu.2.1.length=Iu.2.1.length/\k11 (IntKind.i64.wrap (v10.1+(1:Int)),Iu.2.1,Iu.2.2.1,Iu.2.2.2.1,Iu.2.2.2.2.1,()))) ((0:Int),v10.2.1,v10.2.2.1,v10.2.2.2.1,v10.2.2.2.2.1,PUnit.unit)) (P ((List.take v10.2.2.1.length (List.drop 0 v10.2.2.1),List.take v10.2.2.2.1.length (List.drop 0 v10.2.2.2.1),true,()),()))) ((0:Int),v8.2.2.2.2.1,v8.2.2.2.2.2.1,v8.2.2.2.2.2.2.1,v8.2.2.2.2.2.2.2.1,PUnit.unit))) ((0:Int),n,str,g,[],[List.take y5.1.1.length (List.drop 0 y5.1.1)],[(0:Int)],Sb (λ(_:ByteArray)=>none) y6 true,PUnit.unit))=fnMW (JW [Sd+10]) (look [(145,Ve),(128,Ck),(117,Hy),(157,Jz),(167,Tx)]) Qt Try.f186 (n,str,g,t,()) P:=by kernel_rfl
theorem zy (n:Int) (str:ByteArray) (g:List (List Int)) (t:List Int) (P:((List (List Int)×List Int×Bool×Unit)×Unit)->Prop):(∃(y5:Bool),Es.fn ((n,str,g,()),t,())=some y5/\Br (!y5) (P ((List.take 0 (List.drop 0 []),List.take 0 (List.drop 0 []),false,()),())) (∃(y6:(List (List Int)×List Int×Bool×PUnit)×PUnit),Qt.fn (n,str,g,t,())=some y6/\P ((List.take y6.1.1.length (List.drop 0 y6.1.1),List.take y6.1.2.1.length (List.drop 0 y6.1.2.1),y6.1.2.2.1,()),())))=fnMW jq (look [(185,Es),(186,Qt)]) Qv Try.f180 (n,str,g,t,()) P:=by kernel_rfl
theorem wW (n:Int) (str:ByteArray) (g:List (List Int)) (t:List Int) (P:((List Int×List (List Int)×List Int×Bool×Unit)×Unit)->Prop):(∃(y5:(List (List Int)×List Int×Bool×PUnit)×PUnit),Qv.fn (n,str,g,t,())=some y5/\Br (!y5.1.2.2.1) (P ((List.take 0 (List.drop 0 []),List.take 0 (List.drop 0 []),List.take 0 (List.drop 0 []),false,()),())) (∃(y6:(List Int×PUnit)×PUnit),Ve.fn (t,())=some y6/\P ((List.take y6.1.1.length (List.drop 0 y6.1.1),List.take y5.1.1.length (List.drop 0 y5.1.1),List.take y5.1.2.1.length (List.drop 0 y5.1.2.1),true,()),())))=fnMW jq (look [(180,Qv),(145,Ve)]) Nz Try.f165 (n,str,g,t,()) P:=by kernel_rfl
theorem tG (p:Int×ByteArray×List (List Int)×Unit) (t:List Int×List (List Int)×List Int×Unit) (P:Bool->Prop):(∃(y3:(List Int×List (List Int)×List Int×Bool×PUnit)×PUnit),Nz.fn (p.1,p.2.1,p.2.2.1,t.1,())=some y3/\Br y3.1.2.2.2.1 (∃(y4:Bool),Em.fn ((List.take y3.1.1.length (List.drop 0 y3.1.1),List.take y3.1.2.1.length (List.drop 0 y3.1.2.1),List.take y3.1.2.2.1.length (List.drop 0 y3.1.2.2.1),()),(t.1,t.2.1,t.2.2.1,()),())=some y4/\P y4) (P false))=fnW Cj (look [(165,Nz),(166,Em)]) Kg Try.f139 (p,t,()) P:=by kernel_rfl
theorem tM (p:Int×ByteArray×List (List Int)×Unit) (t:List Int×List (List Int)×List Int×Unit) (P:Bool->Prop):(∃(y3:(List Int×List (List Int)×List Int×PUnit)×Bool×PUnit),Od.fn ((p.1,p.2.1,p.2.2.1,()),t.1,())=some y3/\Br y3.2.1 (∃(y4:Bool),Em.fn ((y3.1.1,y3.1.2.1,y3.1.2.2.1,()),(t.1,t.2.1,t.2.2.1,()),())=some y4/\P y4) (P false))=fnW Cj (look [(161,Od),(162,Em)]) Kg Try.f135 (p,t,()) P:=by kernel_rfl
theorem ZY (t:List Int×List (List Int)×List Int×Unit) (p:Int×ByteArray×List (List Int)×Unit) (P:Bool->Prop):(∃(y3:Bool),Kg.fn (p,(t.1,t.2.1,t.2.2.1,()),())=some y3/\P !y3)=fnW Cj (look [(139,Kg)]) qN Try.f138 (t,p,()) P:=by kernel_rfl
theorem TZ (ts:List (List Int×List (List Int)×List Int×Unit)) (c:(Int×ByteArray×List (List Int)×Unit)×Unit) (P:Int->Prop):(Bl (λ(v3:Int×PUnit) (k4:Int×PUnit->Prop)=>Br (decide (v3.1<(↑ts.length:Int))) (∃(y5:List Int×List (List Int)×List Int×PUnit),idx ts v3.1=some y5/\ ∃(y6:Bool),qN.fn (y5,c.1,())=some y6/\Br y6 (P v3.1) (k4 (IntKind.i64.wrap (v3.1+(1:Int)),()))) (P (-1:Int))) ((0:Int),PUnit.unit))=fnW Cj (look [(138,qN)]) jb Try.f164 (ts,c,()) P:=by kernel_rfl
theorem TW (ts:List (List Int×List (List Int)×List Int×Unit)) (c:(Int×ByteArray×List (List Int)×Unit)×Unit) (P:Bool->Prop):(∃(y3:Int),jb.fn (ts,c,())=some y3/\P (decide (y3>=(0:Int))))=fnW Cj (look [(164,jb)]) j9 Try.f137 (ts,c,()) P:=by kernel_rfl
theorem oc (p:Int×ByteArray×List (List Int)×Unit) (ts:List (List Int×List (List Int)×List Int×Unit)) (P:Bool->Prop):(∃(y3:Bool),Dv.fn ((p.1,p.2.1,p.2.2.1,()),())=some y3/\Br y3 (Br (decide ((↑ts.length:Int)<=(4:Int))) (∃(y4:Bool),j9.fn (ts,((p.1,p.2.1,p.2.2.1,()),()),())=some y4/\P !y4) (P false)) (P false))=fnW Cj (look [(130,Dv),(137,j9)]) Gm Try.f89 (p,ts,()) P:=by kernel_rfl
abbrev aP:Type:=Int×Int×ByteArray×List (List Int)×PUnit
theorem od (p:Int×ByteArray×List (List Int)×Unit) (ts:List (List Int×List (List Int)×List Int×Unit)) (P:Bool->Prop):(∃(y3:Bool),Dv.fn ((p.1,p.2.1,p.2.2.1,()),())=some y3/\Br (!y3) (P false) (Br (decide ((↑ts.length:Int)>(4:Int))) (P false) (Bl (λ(v4:aP) (k5:aP->Prop)=>Br (decide (v4.1<(↑ts.length:Int))) (∃(y6:List Int×List (List Int)×List Int×PUnit),idx ts v4.1=some y6/\ ∃(y7:Bool),Kg.fn ((v4.2.1,v4.2.2.1,v4.2.2.2.1,()),y6,())=some y7/\Br (!y7) (P false) (k5 (IntKind.i64.wrap (v4.1+(1:Int)),v4.2.1,v4.2.2.1,v4.2.2.2.1,()))) (P true)) ((0:Int),p.1,p.2.1,p.2.2.1,PUnit.unit))))=fnW Cj (look [(110,Dv),(135,Kg)]) Gm Try.f86 (p,ts,()) P:=by kernel_rfl
theorem UE (ts:List (List Int×List (List Int)×List Int×Unit)) (k:Int) (P:Int->Prop):(Br (decide (IntKind.i64.wrap (k-(↑ts.length:Int))<(0:Int))) (P (-1:Int)) (Bl (λ(v3:Int×Int×PUnit) (k4:Int×Int×PUnit->Prop)=>Br (decide (v3.2.1<(↑ts.length:Int))) (∃(y5:List Int×List (List Int)×List Int×PUnit),idx ts v3.2.1=some y5/\ ∃(y6:Int),Ub.fn (y5,v3.1,())=some y6/\Br (decide (y6<(0:Int))) (P (-1:Int)) (k4 (y6,IntKind.i64.wrap (v3.2.1+(1:Int)),()))) (P v3.1)) (IntKind.i64.wrap (k-(↑ts.length:Int)),(0:Int),PUnit.unit)))=fnW Cj (look [(85,Ub)]) jc Try.f45 (ts,k,()) P:=by kernel_rfl
abbrev BD:Type:=Int×List (List Int×List (List Int)×List Int×PUnit)×PUnit
abbrev BE:Type:=List Int×List (List Int)×List Int×PUnit
theorem UG (ts:List (List Int×List (List Int)×List Int×Unit)) (P:List (List Int×List (List Int)×List Int×Unit)->Prop):(((0:Int)<=(↑ts.length:Int)/\(↑ts.length:Int)<(↑Bh:Int)+(1:Int))/\(↑ts.length:Int)=(↑ts.length:Int)/\0=0/\(List.replicate (↑ts.length:Int).toNat (([]:List Int),([]:List (List Int)),([]:List Int),())).length=(List.replicate (↑ts.length:Int).toNat (([]:List Int),([]:List (List Int)),([]:List Int),())).length/\Bl (λ(v2:BD) (k3:BD->Prop)=>Br (decide (v2.1<(↑ts.length:Int))) (∃(y4:BE),idx ts v2.1=some y4/\ ∃(y5:BE),Uc.fn (y4,())=some y5/\((0:Int)<=v2.1/\v2.1<(↑v2.2.1.length:Int))/\0+v2.1.toNat<v2.2.1.length/\0=0/\v2.2.1.length=(v2.2.1.set (0+v2.1.toNat) y5).length/\k3 (IntKind.i64.wrap (v2.1+(1:Int)),v2.2.1.set (0+v2.1.toNat) y5,())) (P (List.take v2.2.1.length (List.drop 0 v2.2.1)))) ((0:Int),List.replicate (↑ts.length:Int).toNat (([]:List Int),([]:List (List Int)),([]:List Int),()),PUnit.unit))=fnW Cj (look [(88,Uc)]) cy Try.f47 (ts,()) P:=by kernel_rfl
abbrev BA:Type:=List Int×List (List Int)×List Int×PUnit
theorem TY (a b:List (List Int×List (List Int)×List Int×Unit)) (P:Bool->Prop):(Br ((↑a.length:Int) !=(↑b.length:Int)) (P false) (Bl (λ(v3:Int×PUnit) (k4:Int×PUnit->Prop)=>Br (decide (v3.1<(↑a.length:Int))) (∃(y5:BA),idx a v3.1=some y5/\ ∃(y6:BA),idx b v3.1=some y6/\ ∃(y7:Bool),Em.fn (y5,y6,())=some y7/\Br (!y7) (P false) (k4 (IntKind.i64.wrap (v3.1+(1:Int)),()))) (P true)) ((0:Int),PUnit.unit)))=fnW Cj (look [(92,Em)]) ja Try.f49 (a,b,()) P:=by kernel_rfl
theorem fL {p:PP} (hV:Valid p) {m:Nat} {x:List Int} {d:Int} (hx: ∀y∈x,0<=y/\y<p.1) (HO:x.length=m): ∀(ls:List Int) (L:List (List Int)) (D:List Int),(∀l∈ls,Gq (List.length p.2.2.1) l)->
  Mp p m L D->(0<=d/\d<L.length)->Mp p m (Ea p.2.2.1 x d ls L D).1 (Ea p.2.2.1 x d ls L D).2.1/\(∃A,(Ea p.2.2.1 x d ls L D).1=L++A)/\(∃A,(Ea p.2.2.1 x d ls L D).2.1=D++A)
 | [],L,D,_,h,_=>⟨h,⟨[],by simp [Ea]⟩,⟨[],by simp [Ea]⟩⟩
 |l::ls,L,D,hl,h,hd=>by
  obtain ⟨n1,n2⟩:=lr hV hx (hl l (by simp))
  have Gt: ∀l∈ls,Gq (List.length p.2.2.1) l:= λl' h'=>hl l' (List.mem_cons_of_mem _ h')
  simp only [Ea]
  split
  ·exact fL hV hx HO ls L D Gt h hd
  ·rename_i hn
   split
   ·exact ⟨h,⟨[],by simp⟩,⟨[],by simp⟩⟩
   ·rename_i hf
    have kG:=h.ok.kE
    obtain ⟨k1,⟨A,k2⟩,⟨A',k3⟩⟩:=fL hV hx HO ls (L++ [Aa x (Af p.2.2.1 l)]) (D++ [d+1]) Gt (h.add hn (by rw [n1,HO]) (by omega) n2 ⟨by omega,by omega⟩) ⟨hd.1,by rw [List.length_append];omega⟩
    exact ⟨k1,⟨_::A,by rw [k2,List.append_assoc];rfl⟩,⟨_::A',by rw [k3,List.append_assoc];rfl⟩⟩
theorem ui {p:PP} (hV:Valid p) {m:Nat} {ls:List Int} (hl: ∀l∈ls,Gq (List.length p.2.2.1) l): ∀(f k:Nat) (L:List (List Int)) (D:List Int),Mp p m L D->
  Mp p m (Ff p.2.2.1 ls f k L D).1 (Ff p.2.2.1 ls f k L D).2.1/\(∃A,(Ff p.2.2.1 ls f k L D).1=L++A)
 |0,k,L,D,h=>⟨h,⟨[],by simp [Ff]⟩⟩
 |f+1,k,L,D,h=>by
  simp only [Ff]
  split
  ·rename_i hk
   have uW:k<D.length:=by rw [h.len];exact hk
   have hd:=h.dep k uW
   have e:D.getD k 0=D[k]:=by rw [List.getD_eq_getElem?_getD,List.getElem?_eq_getElem uW];rfl
   rw [Mt hk,e]
   obtain ⟨k1,⟨A,k2⟩,_⟩:=fL hV (h.row _ (List.getElem_mem hk)) (h.ok.len _ (List.getElem_mem hk)) (d:=D[k]) ls L D hl h ⟨by omega,by omega⟩
   split
   ·rename_i L' D' he
    rw [he] at k1 k2
    obtain ⟨g1,⟨B,g2⟩⟩:=ui hV hl f (k+1) L' D' k1
    have k2:L'=L++A:=k2
    exact ⟨g1,⟨A++B,by rw [g2,k2,List.append_assoc]⟩⟩
   ·rename_i L' D' he
    rw [he] at k1 k2
    exact ⟨k1,⟨A,k2⟩⟩
  ·exact ⟨h,⟨[],by simp⟩⟩
theorem rn {p:PP} {s:List Int} (hv:Bg p=true) (hs:s.length<=20) (hr: ∀y∈s,0<=y/\y<p.1):Mp p s.length (Ct p.2.2.1 s).1 (Ct p.2.2.1 s).2.1/\ ∃A,(Ct p.2.2.1 s).1=s::A:=
 ui (valid hv) (λ_ hl=>Jp hl) _ _ _ _ (Xe hs hr)
theorem Ln {p:PP} {t:List Int} :Cm p t=true↔Bg p=true/\Rv p.1 t=true:=by
 unfold Cm;rw [Bool.and_eq_true]
theorem Ek {p:PP} {t:List Int} (h:Cm p t=true):t.length<=20/\ ∀y∈t,0<=y/\y<p.1:=by
 obtain ⟨h1,h2⟩:=Ln.1 h
 have hn:=(valid h1).n
 obtain ⟨h3,h4⟩:=Ho.1 h2
 have hy: ∀y∈t,0<=y/\y<p.1:= λy hy=>by
  obtain ⟨j,hj,rfl⟩:=List.mem_iff_getElem.1 hy
  have:=h4 j hj hj
  omega
 refine ⟨?_,hy⟩
 have h5:=yM h4 (t.length-1) (by omega)
 have h6:=hy _ (List.getElem_mem (show t.length-1<t.length by omega))
 omega
theorem mZ {p:PP} {t:List Int} (h:Cm p t=true):Mp p t.length (Ct p.2.2.1 t).1 (Ct p.2.2.1 t).2.1:=(rn (Ln.1 h).1 (Ek h).1 (Ek h).2).1
theorem Yd {p:PP} {t:List Int} :Dd p t=true↔Cm p t=true/\(Ct p.2.2.1 t).2.2=true:=by
 unfold Dd;rw [Bool.and_eq_true]
theorem pO {p:PP} {m:Nat} {L:List (List Int)} {D:List Int} (h:Mp p m L D):Fu L/\short D:=by
 have h1:=h.ok.kE
 have h2:=h.ok.short
 have h3:=h.len
 refine ⟨⟨by omega,λx hx=>?_⟩,by unfold short;omega⟩
 have:=h.ok.len x hx
 unfold short;omega
theorem jy {p:PP} {t:List Int} :Ka (Dt p t):=by
 unfold Dt
 split
 ·rename_i h
  have h1:=(Yd.1 h).1
  have h2:=pO (mZ h1)
  have h3:=(Ek h1).1
  exact ⟨show t.length<=4294967296 by omega,h2.1,h2.2⟩
 ·exact ⟨by simp [short],⟨by simp,λr hr=>by cases hr⟩,by simp [short]⟩
theorem oX (p:PP) (t:List Int) (h:Cp p/\short t):fnW Cj (look [(130,Dv),(66,Fp)]) Es Try.f185 (p,t,()) (λ(z:Bool)=>z=Cm p t):=by
 refine Eq.mp (pG p t _) ⟨_,if_pos h.1,⟨λhv=>?_,λhv=>?_⟩⟩
 ·have hv:Bg p=true:=hv
  have hn:=(valid hv).n
  refine ⟨_,if_pos ⟨⟨by show 0<=p.1;omega,by show p.1<=4294967296;omega⟩,h.2⟩,?_⟩
  unfold Cm;rw [hv];rfl
 ·have hv:Bg p=false:=hv
  unfold Cm;rw [hv];rfl
theorem gU:Sound Try.prog 185 Es:=
 Sound.Cu Bj (Ae Qw (Ae kT Ao)) mixed Try.func185 (by kernel_rfl) (by kernel_rfl) λx h=>oX x.1 x.2.1 h
theorem p7 (p:PP) (t:List Int) (h:Cp p/\short t):fnW Cj (look [(110,Dv),(111,Fp)]) Es Try.f62 (p,t,()) (λ(z:Bool)=>z=Cm p t):=by
 refine Eq.mp (pK p t _) ⟨_,if_pos h.1,⟨λhv=>?_,λhv=>?_⟩⟩
 ·have hv:Bg p=true:=hv
  have hn:=(valid hv).n
  refine ⟨_,if_pos ⟨⟨by show 0<=p.1;omega,by show p.1<=4294967296;omega⟩,h.2⟩,?_⟩
  unfold Cm;rw [hv];rfl
 ·have hv:Bg p=false:=hv
  unfold Cm;rw [hv];rfl
theorem gX:Sound Try.prog 62 Es:=
 Sound.Cu Bj (Ae Qx (Ae gV Ao)) mixed Try.func62 (by kernel_rfl) (by kernel_rfl) λx h=>p7 x.1 x.2.1 h
theorem we (p:PP) (t:List Int) (h:Cp p/\short t):fnW Cj (look [(62,Es),(112,Cy)]) Oc Try.f178 (p,t,()) (λ(z:SS×Bool×Unit)=>z=(Jo p t,Dd p t,())):=by
 refine Eq.mp (x6 p t _) ⟨_,if_pos h,⟨λhn=>?_,λhn=>?_⟩⟩
 ·have hn:=Dg hn
  have e:Dd p t=false:=Bool.eq_false_iff.2 λhh=>hn (Yd.1 hh).1
  unfold Jo
  rw [if_neg hn,e]
  rfl
 ·have hn:Cm p t=true:=Dh hn
  have e:Dd p t=(Ct p.2.2.1 t).2.2:=by unfold Dd;rw [hn,Bool.true_and]
  refine ⟨_,if_pos ⟨(Ln.1 hn).1,(Ek hn).1,(Ek hn).2⟩,?_⟩
  have key:(((Ey p.2.2.1 t).1,(Ey p.2.2.1 t).2.1,(Ey p.2.2.1 t).2.2.1,(Ey p.2.2.1 t).2.2.2.1,()),(Ey p.2.2.1 t).2.2.2.1,())=(Jo p t,Dd p t,()):=by
   unfold Jo
   rw [if_pos hn,e]
   rfl
  exact ⟨⟨⟨key,key⟩,key⟩,⟨key,key⟩,key⟩
theorem kX:Sound Try.prog 178 Oc:=
 Sound.Cu Bj (Ae gX (Ae kc Ao)) mixed Try.func178 (by kernel_rfl) (by kernel_rfl) λx h=>we x.1 x.2.1 h
theorem vZ (l:List (List Int)) (h:Fu l):fnW Cj (look [(123,Fh)]) Ll Try.f179 (l,()) (λ(z:List (List Int))=>z=l):=by
 obtain ⟨h1,h2⟩:=h
 refine Eq.mp (wT l _) ⟨rfl,rfl,?_⟩
 refine Ai l.length (λv=>v.1) (λj v=>v.2.1=l.take j) rfl (by simp) ?_
 rintro j ⟨i,ys,⟨⟩⟩ K hj hi hR hK
 dsimp only at hi hR⊢
 subst hi hR
 refine Br.dec (λhl=>?_) λhl=>?_
 ·have hl:j<l.length:=by omega
  refine ⟨_,An hl,_,if_pos (h2 _ (List.getElem_mem hl)),rfl,rfl,?_,rfl,rfl,?_⟩
  ·show (List.take j l).length+1<=4294967296
   rw [List.length_take];omega
  ·rw [Ag (by omega)]
   refine hK hl _ rfl ?_
   show List.take j l++ [l[j]]=_
   rw [List.take_add_one,List.getElem?_eq_getElem hl];rfl
 ·have:j=l.length:=by omega
  subst this
  rw [Bn,List.take_length]
theorem kP:Sound Try.prog 179 Ll:=
 Sound.Cu Bj (Ae Vg Ao) mixed Try.func179 (by kernel_rfl) (by kernel_rfl) λx h=>vZ x.1 h
theorem wg (p:PP) (t:List Int) (h:Cp p/\short t):fnW Cj (look [(178,Oc),(123,Fh),(179,Ll)]) Od Try.f161 (p,t,()) (λ(z:TT×Bool×Unit)=>z=(Dt p t,Dd p t,())):=by
 refine Eq.mp (x7 p t _) ⟨_,if_pos h,⟨λhn=>?_,λhn=>?_⟩⟩
 ·have hn:=Dg hn
  have hn: ¬Dd p t=true:=hn
  unfold Dt
  rw [if_neg hn,Bool.eq_false_iff.2 hn]
  rfl
 ·have hn:Dd p t=true:=Dh hn
  obtain ⟨h1,h2⟩:=Yd.1 hn
  have h3:=pO (mZ h1)
  have e:Jo p t=Ey p.2.2.1 t:=if_pos h1
  refine ⟨_,if_pos h.2,?_⟩
  show ∃y5:List (List Int),Ll.fn ((Jo p t).1,())=some y5/\ ∃y6:List Int,Fh.fn ((Jo p t).2.1,())=some y6/\((t,y5,y6,()),true,())=(Dt p t,Dd p t,())
  rw [e]
  refine ⟨_,if_pos h3.1,_,if_pos h3.2,?_⟩
  unfold Dt
  rw [if_pos hn,hn]
  rfl
theorem kY:Sound Try.prog 161 Od:=
 Sound.Cu Bj (Ae kX (Ae Vg (Ae kP Ao))) mixed Try.func161 (by kernel_rfl) (by kernel_rfl) λx h=>wg x.1 x.2.1 h
def ir (m:ByteArray->Option Bool) (L:List (List Int)):Prop:= ∀q,Ol q->(m (Ie q)).getD false=decide (q∈L)
theorem ir.add {m:ByteArray->Option Bool} {L:List (List Int)} {y:List Int} (h:ir m L) (hy:Ol y):ir (Sb m (Ie y) true) (L++ [y]):=by
 intro q hq
 unfold Sb
 by_cases e:q=y
 ·subst e
  rw [if_pos rfl];simp
 ·rw [if_neg λhk=>e (key_inj hq hy hk),h q hq]
  simp [e]
theorem yF (n:Int) (str:ByteArray) (g:List (List Int)) (t:List Int) (h:Cm (n,str,g,()) t=true):
  fnMW (JW [Sd+10]) (look [(145,Ve),(128,Ck),(117,Hy),(157,Jz),(167,Tx)]) Qt Try.f186 (n,str,g,t,()) (λ(z:(List (List Int)×List Int×Bool×Unit)×Unit)=>z=(((Dt (n,str,g,()) t).2.1,(Dt (n,str,g,()) t).2.2.1,Dd (n,str,g,()) t,()),())):=by
 obtain ⟨hv,_⟩:=Ln.1 h
 obtain ⟨ht,hr⟩:=Ek h
 have hV:=valid hv
 have kG:=hV.kE
 have hn:=hV.n
 dsimp only at kG hn hr
 have LW:=Xe (p:=(n,str,g,())) ht hr
 have xf:short t:=by unfold short;omega
 obtain ⟨ls,kI⟩: ∃ls,Au g.length=ls:=⟨_,rfl⟩
 have HE:ls.length<=16:=by rw [<-kI,Kk];omega
 have gp: ∀l∈ls,Gq (List.length g) l:= λl hl=>Jp (kI▸hl)
 have mu:Ff g ls 3001 0 [t] [0]=Ct g t:=by unfold Ct;rw [kI]
 have mf: ∀x:List Int,(∀y∈x,0<=y/\y<n)->Ol x:= λx hx y hy=>by have:=hx y hy;omega
 have WJ: ∀L D ok,Ct g t=(L,D,ok)->(if ok=true then ((L,D,true,()),()) else ((([]:List (List Int)),([]:List Int),false,()),()))=(((Dt (n,str,g,()) t).2.1,(Dt (n,str,g,()) t).2.2.1,Dd (n,str,g,()) t,()),()):=by
  intro L D ok he
  have e1:Dd (n,str,g,()) t=ok:=by unfold Dd;rw [h,Bool.true_and];show (Ct g t).2.2=ok;rw [he]
  unfold Dt
  rw [e1]
  cases ok with
  |true=>rw [if_pos rfl,if_pos rfl];show ((L,D,true,()),())=(((Ct g t).1,(Ct g t).2.1,true,()),());rw [he]
  |false=>rw [if_neg (by decide),if_neg (by decide)]
 refine Eq.mp (zw n str g t _) ⟨_,if_pos xf,_,if_pos xf,ls,(if_pos ⟨by show (0:Int)<=((g.length:Nat):Int);omega,by show ((g.length:Nat):Int)<=8;omega⟩).trans (congrArg some (by show Au (((g.length:Nat):Int)).toNat=ls;rw [Int.toNat_natCast];exact kI)),rfl,rfl,rfl,rfl,rfl,rfl,?_⟩
 rw [Bn]
 refine Ai ls.length (λv=>v.1) (λj v=>v.2.1=n/\v.2.2.1=str/\v.2.2.2.1=g/\v.2.2.2.2.1=(ls.take j).map (Af g)/\v.2.2.2.2.2.1= [t]/\v.2.2.2.2.2.2.1= [0]/\ir v.2.2.2.2.2.2.2.1 [t]) rfl
  ⟨rfl,rfl,rfl,by simp,rfl,rfl,λq hq=>?_⟩ ?_
 ·show (Sb (λ_=>none) (Ie t) true (Ie q)).getD false=_
  unfold Sb
  by_cases e:q=t
  ·subst e;rw [if_pos rfl];simp
  ·rw [if_neg λhk=>e (key_inj hq (mf t hr) hk)];simp [e]
 rintro j ⟨i,n',ZG,g',mv,L1,D1,m1,⟨⟩⟩ K hj hi ⟨h1,h2,h3,h4,h5,h6,h7⟩ hK
 dsimp only at hi h1 h2 h3 h4 h5 h6 h7⊢
 subst hi h1 h2 h3 h4 h5 h6
 refine Br.dec (λhl=>?_) λhl=>⟨rfl,rfl,rfl,rfl,rfl,rfl,?_⟩
 ·have hl:j<ls.length:=by omega
  have rU:=gp _ (List.getElem_mem hl)
  refine ⟨_,An hl,_,if_pos ⟨rU,kG.2,hV.perm⟩,rfl,rfl,?_,rfl,rfl,rfl,rfl,rfl,rfl,?_⟩
  ·show (List.map (Af g') (List.take j ls)).length+1<=4294967296
   rw [List.length_map,List.length_take];omega
  ·rw [Ag (by omega)]
   refine hK hl _ rfl ⟨rfl,rfl,rfl,?_,rfl,rfl,h7⟩
   show List.map (Af g') (List.take j ls)++ [Af g' ls[j]]=_
   rw [List.take_add_one,List.getElem?_eq_getElem hl,List.map_append];rfl
 ·have:j=ls.length:=by omega
  subst this
  rw [List.take_length]
  obtain ⟨ms,AF⟩: ∃ms,ls.map (Af g')=ms:=⟨_,rfl⟩
  have Ahl:ms.length=ls.length:=by rw [<-AF,List.length_map]
  have Ad8: ∀i (h:i<ls.length),ms[i]'(by omega)=Af g' ls[i]:= λi h=>by simp only [<-AF,List.getElem_map]
  rw [AF]
  refine Bl.mk (λv=>v.2.1=ms/\ ∃k:Nat,v.1=k/\k<=v.2.2.1.length/\Mp (n',ZG,g',()) t.length v.2.2.1 v.2.2.2.1/\ir v.2.2.2.2.1 v.2.2.1/\Ff g' ls (3001-k) k v.2.2.1 v.2.2.2.1=Ct g' t) (λv=>3001-v.1.toNat)
   ⟨rfl,0,rfl,by simp,LW,h7,mu⟩ ?_
  rintro ⟨k',mv,L0,D0,mp,⟨⟩⟩ ⟨h1,k,h5,h6,h7,h8,h9⟩
  dsimp only at h1 h5 h6 h7 h8 h9
  subst h1 h5
  dsimp only
  have hL0:=h7.ok.kE
  have hD0:=h7.len
  refine Br.dec (λhl=>⟨rfl,rfl,rfl,rfl,rfl,rfl,rfl,rfl,?_⟩) λhl=>?_
  ·have hk:k<L0.length:=by omega
   have uW:k<D0.length:=by omega
   have hx: ∀y∈L0[k],0<=y/\y<n':=h7.row _ (List.getElem_mem hk)
   have HO:L0[k].length=t.length:=h7.ok.len _ (List.getElem_mem hk)
   have hdk:=h7.dep k uW
   obtain ⟨f,hf⟩: ∃f,3001-k=f+1:=⟨3000-k,by omega⟩
   have PA: ∀L' D' ok,Ea g' L0[k] D0[k] ls L0 D0=(L',D',ok)->Ct g' t=if ok=true then Ff g' ls f (k+1) L' D' else (L',D',false):=by
    intro L' D' ok he
    rw [<-h9,hf,Ff,if_pos hk,Mt hk,List.getD_eq_getElem?_getD,List.getElem?_eq_getElem uW]
    simp only [Option.getD_some]
    rw [he]
    cases ok<;>rfl
   refine Bl.mk (λv=>v.2.1=mv/\ ∃i:Nat,v.1=i/\i<=ls.length/\Mp (n',ZG,g',()) t.length v.2.2.1 v.2.2.2.1/\ir v.2.2.2.2.1 v.2.2.1/\(∃A,v.2.2.1=L0++A)/\(∃A,v.2.2.2.1=D0++A)/\
     Ea g' L0[k] D0[k] (ls.drop i) v.2.2.1 v.2.2.2.1=Ea g' L0[k] D0[k] ls L0 D0) (λv=>ls.length-v.1.toNat)
    ⟨rfl,0,rfl,Nat.zero_le _,h7,h8,⟨[],by simp⟩,⟨[],by simp⟩,rfl⟩ ?_
   rintro ⟨i',mv',L,D,mp2,⟨⟩⟩ ⟨g1,i,g5,g6,g7,g8,⟨A,g9⟩,⟨A',LP⟩,kF⟩
   dsimp only at g1 g5 g6 g7 g8 g9 LP kF
   subst g1 g5
   dsimp only
   have hLf:=g7.ok.kE
   have KU:=g7.len
   refine Br.dec (λWR=>?_) λWR=>?_
   ·have hi:i<ls.length:=by omega
    have HC:k<L.length:=by rw [g9,List.length_append];omega
    have hLk:L[k]=L0[k]:=by simp only [g9];exact List.getElem_append_left hk
    have HB:k<D.length:=by rw [KU];exact HC
    have VQ:D[k]=D0[k]:=by simp only [LP];exact List.getElem_append_left uW
    have rU:=gp _ (List.getElem_mem hi)
    obtain ⟨nl,nr⟩:=lr hV hx rU
    dsimp only at nl nr
    have BW:=dd hV rU
    dsimp only at BW
    rw [List.drop_eq_getElem_cons hi] at kF
    simp only [Ea] at kF
    have YA:=mf _ nr
    refine ⟨⟨by omega,by omega⟩,Af g' ls[i],by rw [Int.toNat_natCast,Nat.zero_add,List.getElem?_eq_getElem (by omega),Ad8 i hi],⟨by omega,by omega⟩,L0[k],by rw [Int.toNat_natCast,Nat.zero_add,List.getElem?_eq_getElem HC,hLk],
     _,if_pos ⟨by show short L0[k];unfold short;omega,by show It (Af g' ls[i]).length L0[k];intro y hy;have:=hx y hy;omega⟩,?_⟩
    dsimp only
    rw [show Bp (Af g' ls[i]) L0[k]=Aa L0[k] (Af g' ls[i]) from rfl,Bn]
    generalize hyv:Aa L0[k] (Af g' ls[i])=yv at*
    refine ⟨_,if_pos (by show short yv;unfold short;rw [nl];omega),?_⟩
    dsimp only
    rw [g8 _ YA]
    refine ⟨λTi=>?_,λTi=>⟨rfl,rfl,rfl,rfl,rfl,rfl,rfl,rfl,?_⟩⟩
    ·have Ti:yv∉L:=by simpa using Ti
     rw [if_neg Ti] at kF
     refine ⟨λPr=>?_,λPr=>⟨rfl,rfl,by show L.length+1<=4294967296;omega,⟨by omega,by omega⟩,D0[k],by rw [Int.toNat_natCast,Nat.zero_add,List.getElem?_eq_getElem HB,VQ],rfl,rfl,by show D.length+1<=4294967296;omega,rfl,rfl,rfl,rfl,rfl,rfl,rfl,rfl,?_⟩⟩
     ·have Pr:L.length=3000:=by
       have:(L.length:Int)=3000:=by simpa using Pr
       omega
      rw [if_pos Pr] at kF
      have:=PA _ _ _ kF.symm
      rw [if_neg (by decide)] at this
      have:=WJ _ _ _ this
      rw [if_neg (by decide)] at this
      exact this
     ·have Pr:L.length≠3000:=by
       have:(L.length:Int)≠3000:=by simpa using Pr
       omega
      rw [if_neg Pr] at kF
      rw [Ci (n:=D0[k]+1) (by omega) (by omega),Ag (by omega)]
      refine ⟨⟨rfl,i+1,rfl,hi,g7.add Ti (by rw [nl,HO]) (by omega) nr ⟨by omega,by omega⟩,g8.add YA,⟨A++ [yv],by rw [g9,List.append_assoc];rfl⟩,⟨A'++ [D0[k]+1],by rw [LP,List.append_assoc];rfl⟩,kF⟩,by omega⟩
    ·have Ti:yv∈L:=by simpa using Ti
     rw [if_pos Ti] at kF
     rw [Ag (by omega)]
     exact ⟨⟨rfl,i+1,rfl,hi,g7,g8,⟨A,g9⟩,⟨A',LP⟩,kF⟩,by omega⟩
   ·have:i=ls.length:=by omega
    subst this
    rw [List.drop_length,Ea] at kF
    have:=PA _ _ _ kF.symm
    rw [if_pos rfl] at this
    rw [Ag (by omega)]
    refine ⟨rfl,rfl,rfl,rfl,rfl,rfl,⟨rfl,k+1,rfl,by rw [g9,List.length_append];omega,g7,g8,?_⟩,by omega⟩
    rw [show 3001-(k+1)=f by omega]
    exact this.symm
  ·have hk:k=L0.length:=by omega
   rw [Bn L0,Bn D0]
   obtain ⟨f,hf⟩: ∃f,3001-k=f+1:=⟨3000-k,by omega⟩
   rw [hf,Ff,if_neg (by omega)] at h9
   have:=WJ _ _ _ h9.symm
   rw [if_pos rfl] at this
   exact this
theorem nJ:Co Try.prog 186 Qt:=
 Co.lq (JX [Sd+10]) (Kc gS (Ae Pk (Ae Wy (Ae cA (Kc pk Ao))))) mixed Try.func186 (by kernel_rfl) (by kernel_rfl) λx h=>yF x.1 x.2.1 x.2.2.1 x.2.2.2.1 h
theorem lQ {p:PP} {t:List Int} (h: ¬Dd p t=true):Dt p t=([],[],[],()):=if_neg h
theorem yH (n:Int) (str:ByteArray) (g:List (List Int)) (t:List Int) (h:Cp (n,str,g,())/\short t):
  fnMW jq (look [(185,Es),(186,Qt)]) Qv Try.f180 (n,str,g,t,()) (λ(z:(List (List Int)×List Int×Bool×Unit)×Unit)=>z=(((Dt (n,str,g,()) t).2.1,(Dt (n,str,g,()) t).2.2.1,Dd (n,str,g,()) t,()),())):=by
 refine Eq.mp (zy n str g t _) ⟨_,if_pos h,⟨λhn=>?_,λhn=>?_⟩⟩
 ·have hn: ¬Cm (n,str,g,()) t=true:=Dg hn
  have e: ¬Dd (n,str,g,()) t=true:= λhh=>hn (Yd.1 hh).1
  rw [lQ e,Bool.eq_false_iff.2 e]
  rfl
 ·have hn:Cm (n,str,g,()) t=true:=Dh hn
  refine ⟨_,if_pos hn,?_⟩
  rw [Bn,Bn]
theorem nL:Co Try.prog 180 Qv:=
 Co.lq fv (Ae gU (Kc nJ Ao)) mixed Try.func180 (by kernel_rfl) (by kernel_rfl) λx h=>yH x.1 x.2.1 x.2.2.1 x.2.2.2.1 h
theorem w7 (n:Int) (str:ByteArray) (g:List (List Int)) (t:List Int) (h:Cp (n,str,g,())/\short t):
  fnMW jq (look [(180,Qv),(145,Ve)]) Nz Try.f165 (n,str,g,t,()) (λ(z:(List Int×List (List Int)×List Int×Bool×Unit)×Unit)=>z=(((Dt (n,str,g,()) t).1,(Dt (n,str,g,()) t).2.1,(Dt (n,str,g,()) t).2.2.1,Dd (n,str,g,()) t,()),())):=by
 refine Eq.mp (wW n str g t _) ⟨_,if_pos h,⟨λhn=>?_,λhn=>?_⟩⟩
 ·have e: ¬Dd (n,str,g,()) t=true:=Dg hn
  rw [lQ e,Bool.eq_false_iff.2 e]
  rfl
 ·have e:Dd (n,str,g,()) t=true:=Dh hn
  refine ⟨_,if_pos h.2,?_⟩
  rw [Bn,Bn,Bn,e]
  have e2:(Dt (n,str,g,()) t).1=t:=by unfold Dt;rw [if_pos e]
  rw [e2]
theorem kR:Co Try.prog 165 Nz:=
 Co.lq fv (Kc nL (Kc gS Ao)) mixed Try.func165 (by kernel_rfl) (by kernel_rfl) λx h=>w7 x.1 x.2.1 x.2.2.1 x.2.2.2.1 h
theorem sw (p:PP) (t:TT) (h:Cp p/\Ka t):fnW Cj (look [(165,Nz),(166,Em)]) Kg Try.f139 (p,t,()) (λ(z:Bool)=>z=Df p t):=by
 refine Eq.mp (tG p t _) ⟨_,if_pos ⟨h.1,h.2.1⟩,⟨λhn=>?_,λhn=>?_⟩⟩
 ·have e:Dd p t.1=true:=hn
  rw [Bn,Bn,Bn]
  refine ⟨_,if_pos jy,?_⟩
  unfold Df
  rw [e];rfl
 ·have e:Dd p t.1=false:=hn
  unfold Df
  rw [e];rfl
theorem jh:Sound Try.prog 139 Kg:=
 Sound.Cu Bj (Kc kR (Ae dA Ao)) mixed Try.func139 (by kernel_rfl) (by kernel_rfl) λx h=>sw x.1 x.2.1 h
theorem sB (p:PP) (t:TT) (h:Cp p/\Ka t):fnW Cj (look [(161,Od),(162,Em)]) Kg Try.f135 (p,t,()) (λ(z:Bool)=>z=Df p t):=by
 refine Eq.mp (tM p t _) ⟨_,if_pos ⟨h.1,h.2.1⟩,⟨λhn=>?_,λhn=>?_⟩⟩
 ·have e:Dd p t.1=true:=hn
  refine ⟨_,if_pos jy,?_⟩
  unfold Df
  rw [e];rfl
 ·have e:Dd p t.1=false:=hn
  unfold Df
  rw [e];rfl
theorem jj:Sound Try.prog 135 Kg:=
 Sound.Cu Bj (Ae kY (Ae dC Ao)) mixed Try.func135 (by kernel_rfl) (by kernel_rfl) λx h=>sB x.1 x.2.1 h
theorem ZB (t:TT) (p:PP) (h:Ka t/\Cp p):fnW Cj (look [(139,Kg)]) qN Try.f138 (t,p,()) (λ(z:Bool)=>z=!Df p t):=by
 exact Eq.mp (ZY t p _) ⟨_,if_pos ⟨h.2,h.1⟩,rfl⟩
theorem EH:Sound Try.prog 138 qN:=
 Sound.Cu Bj (Ae jh Ao) mixed Try.func138 (by kernel_rfl) (by kernel_rfl) λx h=>ZB x.1 x.2.1 h
theorem TB (ts:List TT) (c:PP×Unit) (h:Gw ts/\Cp c.1):fnW Cj (look [(138,qN)]) jb Try.f164 (ts,c,()) (λ(z:Int)=>z=Lh (λt=>!Df c.1 t) ts 0):=by
 obtain ⟨⟨h1,h2⟩,h3⟩:=h
 refine Eq.mp (TZ ts c _) ?_
 refine Ai ts.length (λv=>v.1) (λj _=>Lh (λt=>!Df c.1 t) (ts.drop j) j=Lh (λt=>!Df c.1 t) ts 0) rfl (by simp) ?_
 rintro j ⟨i,⟨⟩⟩ K hj hi hR hK
 dsimp only at hi⊢
 subst hi
 refine Br.dec (λhl=>?_) λhl=>?_
 ·have hl:j<ts.length:=by omega
  rw [List.drop_eq_getElem_cons hl] at hR
  simp only [Lh] at hR
  refine ⟨_,An hl,_,if_pos ⟨h2 _ (List.getElem_mem hl),h3⟩,⟨λhe=>?_,λhe=>?_⟩⟩
  ·have he:(!Df c.1 ts[j])=true:=he
   rw [if_pos he] at hR
   exact hR
  ·have he:(!Df c.1 ts[j])=false:=he
   rw [if_neg (by rw [he];decide)] at hR
   rw [Ag (by omega)]
   exact hK hl _ rfl (by push_cast;exact hR)
 ·have:j=ts.length:=by omega
  subst this
  rw [List.drop_length] at hR
  exact hR
theorem zc:Sound Try.prog 164 jb:=
 Sound.Cu Bj (Ae EH Ao) mixed Try.func164 (by kernel_rfl) (by kernel_rfl) λx h=>TB x.1 x.2.1 h
theorem my (q:TT->Bool): ∀(ts:List TT) (k:Int),0<=k->decide (Lh q ts k>=0)=ts.any q
 | [],k,_=>by simp [Lh]
 |t::ts,k,hk=>by
  have ih:=my q ts (k+1) (by omega)
  rw [List.any_cons]
  by_cases e:q t=true
  ·have e2:Lh q (t::ts) k=k:=if_pos e
   rw [e]
   exact decide_eq_true (by rw [e2];exact hk)
  ·have e2:Lh q (t::ts) k=Lh q ts (k+1):=if_neg e
   rw [Bool.eq_false_iff.2 e,Bool.false_or,<-ih]
   exact decide_eq_decide.2 (by rw [e2])
theorem SY (ts:List TT) (c:PP×Unit) (h:Gw ts/\Cp c.1):fnW Cj (look [(164,jb)]) j9 Try.f137 (ts,c,()) (λ(z:Bool)=>z=List.any ts (λt=>!Df c.1 t)):=by
 exact Eq.mp (TW ts c _) ⟨_,if_pos h,my _ ts 0 (Int.le_refl 0)⟩
theorem za:Sound Try.prog 137 j9:=
 Sound.Cu Bj (Ae zc Ao) mixed Try.func137 (by kernel_rfl) (by kernel_rfl) λx h=>SY x.1 x.2.1 h
theorem ub (q:TT->Bool) (ts:List TT):(!List.any ts λt=>!q t)=List.all ts q:=by
 induction ts with
 |nil=>rfl
 |cons t ts ih=>simp only [List.any_cons,List.all_cons,<-ih];cases q t<;>simp
theorem mW (p:PP) (ts:List TT) (h:Cp p/\Gw ts):fnW Cj (look [(130,Dv),(137,j9)]) Gm Try.f89 (p,ts,()) (λ(z:Bool)=>z=Ei p ts):=by
 refine Eq.mp (oc p ts _) ⟨_,if_pos h.1,⟨λhv=>Br.dec (λhl=>⟨_,if_pos ⟨h.2,h.1⟩,?_⟩) λhl=>?_,λhv=>?_⟩⟩
 ·have hv:Bg p=true:=hv
  have hl:ts.length<=4:=by omega
  show (!List.any ts λt=>!Df p t)=_
  rw [ub]
  unfold Ei
  rw [hv,decide_eq_true hl];rfl
 ·unfold Ei
  rw [decide_eq_false (by omega),Bool.and_false];rfl
 ·have hv:Bg p=false:=hv
  unfold Ei
  rw [hv];rfl
theorem fo:Sound Try.prog 89 Gm:=
 Sound.Cu Bj (Ae Qw (Ae za Ao)) mixed Try.func89 (by kernel_rfl) (by kernel_rfl) λx h=>mW x.1 x.2.1 h
theorem mX (p:PP) (ts:List TT) (h:Cp p/\Gw ts):fnW Cj (look [(110,Dv),(135,Kg)]) Gm Try.f86 (p,ts,()) (λ(z:Bool)=>z=Ei p ts):=by
 refine Eq.mp (od p ts _) ⟨_,if_pos h.1,⟨λhv=>?_,λhv=>Br.dec (λhl=>?_) λhl=>?_⟩⟩
 ·have hv:Bg p=false:=Bool.eq_false_iff.2 (Dg hv)
  unfold Ei
  rw [hv];rfl
 ·unfold Ei
  rw [decide_eq_false (by omega),Bool.and_false];rfl
 ·have hv:Bg p=true:=Dh hv
  have hl:ts.length<=4:=by omega
  have e:Ei p ts=List.all ts (Df p):=by
   unfold Ei
   rw [hv,decide_eq_true hl];rfl
  rw [e]
  refine Ai ts.length (λv=>v.1) (λj v=>v.2.1=p.1/\v.2.2.1=p.2.1/\v.2.2.2.1=p.2.2.1/\List.all (ts.drop j) (Df p)=List.all ts (Df p)) rfl ⟨rfl,rfl,rfl,by simp⟩ ?_
  rintro j ⟨i,n1,n2,n3,⟨⟩⟩ K hj hi ⟨h1,h2,h3,hR⟩ hK
  dsimp only at hi h1 h2 h3 hR⊢
  subst hi h1 h2 h3
  refine Br.dec (λhl=>?_) λhl=>?_
  ·have hl:j<ts.length:=by omega
   rw [List.drop_eq_getElem_cons hl,List.all_cons] at hR
   refine ⟨_,An hl,_,if_pos ⟨h.1,h.2.2 _ (List.getElem_mem hl)⟩,⟨λhe=>?_,λhe=>?_⟩⟩
   ·have he:Df p ts[j]=false:=Bool.eq_false_iff.2 (Dg he)
    rw [he,Bool.false_and] at hR
    exact hR
   ·have he:Df p ts[j]=true:=Dh he
    rw [he,Bool.true_and] at hR
    rw [Ag (by omega)]
    exact hK hl _ rfl ⟨rfl,rfl,rfl,hR⟩
  ·have:j=ts.length:=by omega
   subst this
   rw [List.drop_length] at hR
   exact hR
theorem fq:Sound Try.prog 86 Gm:=
 Sound.Cu Bj (Ae Qx (Ae jj Ao)) mixed Try.func86 (by kernel_rfl) (by kernel_rfl) λx h=>mX x.1 x.2.1 h
theorem TG (ts:List TT) (k:Int) (h:Gw ts/\roomy k):fnW Cj (look [(85,Ub)]) jc Try.f45 (ts,k,()) (λ(z:Int)=>z=ym ts k):=by
 obtain ⟨⟨h1,h2⟩,h3,h4⟩:=h
 refine Eq.mp (UE ts k _) ?_
 rw [Ci (by omega) (by omega)]
 refine Br.dec (λhn=>?_) λhn=>?_
 ·exact (if_pos hn).symm
 ·have e:ym ts k=jm ts (k-ts.length):=if_neg hn
  rw [e]
  refine Ai ts.length (λv=>v.2.1) (λj v=>roomy v.1/\jm (ts.drop j) v.1=jm ts (k-ts.length)) rfl ⟨⟨by omega,by omega⟩,by simp⟩ ?_
  rintro j ⟨r,i,⟨⟩⟩ K hj hi ⟨hr,hR⟩ hK
  dsimp only at hi hr hR⊢
  subst hi
  refine Br.dec (λhl=>?_) λhl=>?_
  ·have hl:j<ts.length:=by omega
   rw [List.drop_eq_getElem_cons hl] at hR
   simp only [jm] at hR
   refine ⟨_,An hl,_,if_pos ⟨h2 _ (List.getElem_mem hl),hr⟩,Br.dec (λhm=>?_) λhm=>?_⟩
   ·have hm:Lw ts[j] r<0:=hm
    rw [if_pos hm] at hR
    exact hR
   ·have hm: ¬Lw ts[j] r<0:=hm
    rw [if_neg hm] at hR
    rw [Ag (by omega)]
    exact hK hl _ rfl ⟨mI hr hm,hR⟩
  ·have:j=ts.length:=by omega
   subst this
   rw [List.drop_length] at hR
   exact hR
theorem ze:Sound Try.prog 45 jc:=
 Sound.Cu Bj (Ae pv Ao) mixed Try.func45 (by kernel_rfl) (by kernel_rfl) λx h=>TG x.1 x.2.1 h
theorem TI (ts:List TT) (h:Gw ts):fnW Cj (look [(88,Uc)]) cy Try.f47 (ts,()) (λ(z:List TT)=>z=ts):=by
 obtain ⟨h,h4⟩:=h
 refine Eq.mp (UG ts _) ?_
 refine ⟨⟨by omega,by show (ts.length:Int)<(4294967296:Int)+1;omega⟩,rfl,rfl,rfl,?_⟩
 refine Ai ts.length (λv=>v.1) (λj v=>v.2.1.length=ts.length/\v.2.1.take j=ts.take j) rfl ⟨by simp,by simp⟩ ?_
 rintro j ⟨i,ys,⟨⟩⟩ K hj hi ⟨h1,h2⟩ hK
 dsimp only at hi h1 h2⊢
 subst hi
 refine Br.dec (λhl=>?_) λhl=>?_
 ·have hl:j<ts.length:=by omega
  refine ⟨_,An hl,_,if_pos (h4 _ (List.getElem_mem hl)),⟨by omega,by omega⟩,by rw [Int.toNat_natCast];omega,rfl,by rw [List.length_set],?_⟩
  rw [Ag (by omega),Int.toNat_natCast,Nat.zero_add]
  exact hK hl _ rfl ⟨by rw [List.length_set];exact h1,Kp hl h1 h2⟩
 ·have:j=ts.length:=by omega
  subst this
  rw [List.take_length,<-h1,List.take_length] at h2
  rw [List.drop_zero,List.take_length]
  exact h2
theorem zf:Sound Try.prog 47 cy:=
 Sound.Cu Bj (Ae pw Ao) mixed Try.func47 (by kernel_rfl) (by kernel_rfl) λx h=>TI x.1 h
theorem iR {a b:TT} :Jn a b=true↔a=b:=by
 obtain ⟨a1,a2,a3,⟨⟩⟩:=a
 obtain ⟨b1,b2,b3,⟨⟩⟩:=b
 simp [Jn]
theorem TA (a b:List TT) (h:Gw a):fnW Cj (look [(92,Em)]) ja Try.f49 (a,b,()) (λ(z:Bool)=>z=decide (a=b)):=by
 obtain ⟨h1,h2⟩:=h
 refine Eq.mp (TY a b _) ⟨λhl=>?_,λhl=>?_⟩
 ·have hl:a.length≠b.length:=by
   have:(a.length:Int)≠b.length:=by simpa using hl
   omega
  exact (decide_eq_false λe=>hl (by rw [e])).symm
 ·have hl:a.length=b.length:=by
   have:(a.length:Int)=b.length:=by simpa using hl
   omega
  refine Ai a.length (λv=>v.1) (λj _=>(a=b↔a.drop j=b.drop j)) rfl (by simp) ?_
  rintro j ⟨i,⟨⟩⟩ K hj hi hR hK
  dsimp only at hi⊢
  subst hi
  refine Br.dec (λUR=>?_) λUR=>?_
  ·have UR:j<a.length:=by omega
   have US:j<b.length:=by omega
   rw [List.drop_eq_getElem_cons UR,List.drop_eq_getElem_cons US] at hR
   refine ⟨_,An UR,_,An US,_,if_pos (h2 _ (List.getElem_mem UR)),⟨λhe=>?_,λhe=>?_⟩⟩
   ·have he: ¬Jn a[j] b[j]=true:=Dg he
    refine (decide_eq_false λe=>he (iR.2 ?_)).symm
    have:=hR.1 e
    simp only [List.cons.injEq] at this
    exact this.1
   ·have he:Jn a[j] b[j]=true:=Dh he
    rw [iR.1 he] at hR
    rw [Ag (by omega)]
    exact hK UR _ rfl (hR.trans ⟨λe=>(List.cons.inj e).2,λe=>by rw [e]⟩)
  ·have:j=a.length:=by omega
   subst this
   rw [List.drop_length,hl,List.drop_length] at hR
   exact (decide_eq_true (hR.2 rfl)).symm
theorem zb:Sound Try.prog 49 ja:=
 Sound.Cu Bj (Ae pe Ao) mixed Try.func49 (by kernel_rfl) (by kernel_rfl) λx h=>TA x.1 x.2.1 h
end Go.Proofs.Ytjbdmibbbpdnnaa
