/-
  Part 38 of the proof that the statement FnExactIterationNodes holds.
-/
import Derived.Test.YtfolipnappekaaaGreatCIterationNodes36
import Derived.KernelRfl
namespace Go.Proofs.YtfolipnappekaaaGreat
open Go.RowKit
def Oy (x a b:Int):Bool:=decide (a<=x/\x<=b)
def kv (n x:Int):Bool:=decide (0<=x/\x<=IntKind.i64.wrap (n-1))
def Ci (a b:List Int):Bool:=decide (a=b)
def lA (xs:List Int) (x:Int):Bool:=decide (x∈xs)
def short (xs:List Int):Prop:=xs.length<=4294967296
noncomputable abbrev Dm:Spec:=En (.pair tI (.pair tI (.pair tI .unit))) .bool false true (λ_=>True) (λx=>Oy x.1 x.2.1 x.2.2.1)
noncomputable abbrev bC:Spec:=En (.pair tI (.pair tI .unit)) .bool false true (λ_=>True) (λx=>kv x.1 x.2.1)
noncomputable abbrev Bo:Spec:=En (.pair tL (.pair tL .unit)) .bool false true (λx=>short x.1) (λx=>Ci x.1 x.2.1)
noncomputable abbrev Qq:Spec:=En (.pair tL (.pair tI .unit)) .bool false true (λx=>short x.1) (λx=>lA x.1 x.2.1)
theorem XW (x a b:Int) (P:Bool->Prop):(Br (decide (x>=a)) (P (decide (x<=b))) (P false))=fnW Ej (look []) Dm Tryz.f88 (x,a,b,()) P:=by kernel_rfl
theorem Adk (x a b:Int) (P:Bool->Prop):(Br (decide (x>=a)) (P (decide (x<=b))) (P false))=fnW Ej (look []) Dm Tryz.f90 (x,a,b,()) P:=by kernel_rfl
theorem XZ (n x:Int) (P:Bool->Prop):(∃(y3:Bool),Dm.fn (x,0,IntKind.i64.wrap (n-1),())=some y3/\P y3)=fnW Ej (look [(90,Dm)]) bC Tryz.f161 (n,x,()) P:=by kernel_rfl
theorem KL (a b:List Int) (P:Bool->Prop):(Br ((↑a.length:Int) !=(↑b.length:Int)) (P false) (Cz (λ(v3:Int×PUnit) (k4:Int×PUnit->Prop)=>Br (decide (v3.1<(↑a.length:Int))) (∃(y5:Int),idx a v3.1=some y5/\ ∃(y6:Int),idx b v3.1=some y6/\Br (y5 !=y6) (P false) (k4 (IntKind.i64.wrap (v3.1+1),()))) (P true)) (0,PUnit.unit)))=fnW Ej (look []) Bo Tryz.f101 (a,b,()) P:=by kernel_rfl
theorem xX (a b:List Int) (P:Bool->Prop):(Br ((↑a.length:Int) !=(↑b.length:Int)) (P false) (Cz (λ(v3:Int×PUnit) (k4:Int×PUnit->Prop)=>Br (decide (v3.1<(↑a.length:Int))) (∃(y5:Int),idx a v3.1=some y5/\ ∃(y6:Int),idx b v3.1=some y6/\Br (y5 !=y6) (P false) (k4 (IntKind.i64.wrap (v3.1+1),()))) (P true)) (0,PUnit.unit)))=fnW Ej (look []) Bo Tryz.f139 (a,b,()) P:=by kernel_rfl
theorem xR (xs:List Int) (x:Int) (P:Bool->Prop):(Cz (λ(v3:Int×PUnit) (k4:Int×PUnit->Prop)=>Br (decide (v3.1<(↑xs.length:Int))) (∃(y5:Int),idx xs v3.1=some y5/\Br (y5==x) (P true) (k4 (IntKind.i64.wrap (v3.1+1),()))) (P false)) (0,PUnit.unit))=fnW Ej (look []) Qq Tryz.f100 (xs,x,()) P:=by kernel_rfl
theorem VV (x a b:Int) (_:True):fnW Ej (look []) Dm Tryz.f88 (x,a,b,()) (λ(z:Bool)=>z=Oy x a b):=by
 refine Eq.mp (XW x a b _) ?_
 refine Br.dec (λh=>?_) λh=>?_
 ·have h:a<=x:=h
  simp [Oy,h]
 ·exact (Dr λhh=>h hh.1).symm
theorem Zq:Sound Tryz.prog 88 Dm:=
 Sound.En Db Bg mixed Tryz.func88 (by kernel_rfl) (by kernel_rfl) λx h=>VV x.1 x.2.1 x.2.2.1 h
theorem Ac0 (x a b:Int) (_:True):fnW Ej (look []) Dm Tryz.f90 (x,a,b,()) (λ(z:Bool)=>z=Oy x a b):=by
 refine Eq.mp (Adk x a b _) ?_
 refine Br.dec (λh=>?_) λh=>?_
 ·have h:a<=x:=h
  simp [Oy,h]
 ·exact (Dr λhh=>h hh.1).symm
theorem Wx:Sound Tryz.prog 90 Dm:=
 Sound.En Db Bg mixed Tryz.func90 (by kernel_rfl) (by kernel_rfl) λx h=>Ac0 x.1 x.2.1 x.2.2.1 h
theorem VY (n x:Int) (_:True):fnW Ej (look [(90,Dm)]) bC Tryz.f161 (n,x,()) (λ(z:Bool)=>z=kv n x):=
 Eq.mp (XZ n x _) ⟨_,Ab trivial,rfl⟩
theorem xB:Sound Tryz.prog 161 bC:=
 Sound.En Db (Av Wx Bg) mixed Tryz.func161 (by kernel_rfl) (by kernel_rfl) λx h=>VY x.1 x.2.1 h
theorem xc (xs:List Int) (x:Int) (h:short xs):fnW Ej (look []) Qq Tryz.f100 (xs,x,()) (λ(z:Bool)=>z=lA xs x):=by
 refine Eq.mp (xR xs x _) ?_
 unfold short at h
 refine Bf xs.length (λv=>v.1) (λj _=>x∉xs.take j) rfl (by simp) ?_
 rintro j ⟨i,⟨⟩⟩ K hj hi hR hK
 dsimp only at hi⊢
 subst hi
 refine Br.dec (λhl=>?_) λhl=>?_
 ·have hl:j<xs.length:=by omega
  refine ⟨_,Bq hl,⟨λhe=>?_,λhe=>?_⟩⟩
  ·have hm:=Aj hl
   simp only [Xd] at he
   rw [he] at hm
   exact (Fu hm).symm
  ·rw [Bh (by omega)]
   refine hK hl _ rfl ?_
   simp only [Np,ne_eq] at he
   rw [Ay hl]
   simp only [Bb,Ae,not_or]
   exact ⟨hR,λhx=>he hx.symm⟩
 ·have:j=xs.length:=by omega
  subst this
  rw [Ap] at hR
  exact (Dr hR).symm
theorem oB:Sound Tryz.prog 100 Qq:=
 Sound.En Db Bg mixed Tryz.func100 (by kernel_rfl) (by kernel_rfl) λx h=>xc x.1 x.2.1 h
theorem zP (a b:List Int) (hlen:a.length=b.length) (h:short a):
  Cz (λ(v3:Int×PUnit) (k4:Int×PUnit->Prop)=>
   Br (decide (v3.1<(↑a.length:Int))) (∃(y5:Int),idx a v3.1=some y5/\ ∃(y6:Int),idx b v3.1=some y6/\Br (y5 !=y6) (false=Ci a b) (k4 (IntKind.i64.wrap (v3.1+1),())))
    (true=Ci a b))
  (0,PUnit.unit):=by
 unfold short at h
 refine Bf a.length (λv=>v.1) (λj _=>a.take j=b.take j) rfl (by simp) ?_
 rintro j ⟨i,⟨⟩⟩ K hj hi hR hK
 dsimp only at hi⊢
 subst hi
 refine Br.dec (λhl=>?_) λhl=>?_
 ·have kl:j<a.length:=by omega
  have wD:j<b.length:=by omega
  refine ⟨_,Bq kl,_,Bq wD,⟨λhe=>?_,λhe=>?_⟩⟩
  ·simp only [Xe,ne_eq] at he
   refine (Dr λiU=>he ?_).symm
   subst iU
   rfl
  ·rw [Bh (by omega)]
   refine hK kl _ rfl ?_
   simp only [Hf] at he
   rw [Ay kl,Ay wD,hR,he]
 ·have sd:j=a.length:=by omega
  subst sd
  rw [Ap,hlen,Ap] at hR
  exact (Fu hR).symm
theorem IG (a b:List Int) (h:short a):fnW Ej (look []) Bo Tryz.f101 (a,b,()) (λ(z:Bool)=>z=Ci a b):=by
 refine Eq.mp (KL a b _) ⟨λhl=>?_,λhl=>?_⟩
 ·simp only [Xe,ne_eq,Gb] at hl
  exact (Dr λiU=>hl (by rw [iU])).symm
 ·simp only [Hf,Gb] at hl
  exact zP a b hl h
theorem Um:Sound Tryz.prog 101 Bo:=
 Sound.En Db Bg mixed Tryz.func101 (by kernel_rfl) (by kernel_rfl) λx h=>IG x.1 x.2.1 h
theorem xj (a b:List Int) (h:short a):fnW Ej (look []) Bo Tryz.f139 (a,b,()) (λ(z:Bool)=>z=Ci a b):=by
 refine Eq.mp (xX a b _) ⟨λhl=>?_,λhl=>?_⟩
 ·simp only [Xe,ne_eq,Gb] at hl
  exact (Dr λiU=>hl (by rw [iU])).symm
 ·simp only [Hf,Gb] at hl
  exact zP a b hl h
theorem de:Sound Tryz.prog 139 Bo:=
 Sound.En Db Bg mixed Tryz.func139 (by kernel_rfl) (by kernel_rfl) λx h=>xj x.1 x.2.1 h
abbrev TT:Type:=List Int×List (List Int)×List Int×Unit
def Hc (xs:List (List Int)):Prop:=xs.length<=4294967296/\ ∀r∈xs,short r
def Oe (t:TT):Prop:=short t.1/\Hc t.2.1/\short t.2.2.1
def roomy (room:Int):Prop:=0<=room/\room<=4294967296
def pI (n:Nat) (room:Int):Int:=if room-n<0 then-1 else room-n
def Wl (xs:List Int) (room:Int):Int:=pI xs.length room
def wj:List (List Int)->Int->Int
 | [],room=>room
 |r::rs,room=>if Wl r room<0 then-1 else wj rs (Wl r room)
def Qy (xs:List (List Int)) (room:Int):Int:=if pI xs.length room<0 then-1 else wj xs (pI xs.length room)
def Mb (t:TT) (room:Int):Int:=
 if Wl t.1 room<0 then-1 else if Qy t.2.1 (Wl t.1 room)<0 then-1 else
 if Wl t.2.2.1 (Qy t.2.1 (Wl t.1 room))<0 then-1 else Wl t.2.2.1 (Qy t.2.1 (Wl t.1 room))
def Rr (a b:List (List Int)):Bool:=decide (a=b)
def Pp (a b:TT):Bool:=decide (a.1=b.1)&&(decide (a.2.1=b.2.1)&&decide (a.2.2.1=b.2.2.1))
noncomputable abbrev lH:Spec:=En (.pair tL (.pair tI .unit)) tI false true (λx=>short x.1/\roomy x.2.1) (λx=>Wl x.1 x.2.1)
noncomputable abbrev fR:Spec:=En (.pair dI (.pair tI .unit)) tI false true (λx=>Hc x.1/\roomy x.2.1) (λx=>Qy x.1 x.2.1)
noncomputable abbrev bH:Spec:=En (.pair Ku (.pair tI .unit)) tI false true (λx=>Oe x.1/\roomy x.2.1) (λx=>Mb x.1 x.2.1)
noncomputable abbrev gJ:Spec:=En (.pair tL .unit) tL false true (λx=>short x.1) (λx=>x.1)
noncomputable abbrev fS:Spec:=En (.pair dI .unit) dI false true (λx=>Hc x.1) (λx=>x.1)
noncomputable abbrev bJ:Spec:=En (.pair Ku .unit) Ku false true (λx=>Oe x.1) (λx=>x.1)
noncomputable abbrev Uy:Spec:=En (.pair dI (.pair dI .unit)) .bool false true (λx=>Hc x.1) (λx=>Rr x.1 x.2.1)
noncomputable abbrev Is:Spec:=En (.pair Ku (.pair Ku .unit)) .bool false true (λx=>Oe x.1) (λx=>Pp x.1 x.2.1)
theorem Aq6 (xs:List Int) (room:Int) (P:Int->Prop):(Br (decide (IntKind.i64.wrap (room-(↑xs.length:Int))<0)) (P (-1)) (P (IntKind.i64.wrap (room-(↑xs.length:Int)))))=fnW Ej (look []) lH Tryz.f71 (xs,room,()) P:=by kernel_rfl
theorem Alv (xs:List (List Int)) (room:Int) (P:Int->Prop):(Br (decide (IntKind.i64.wrap (room-(↑xs.length:Int))<0)) (P (-1)) (Cz (λ(v3:Int×Int×PUnit) (k4:Int×Int×PUnit->Prop)=>Br (decide (v3.2.1<(↑xs.length:Int))) (∃(y5:List Int),idx xs v3.2.1=some y5/\ ∃(y6:Int),lH.fn (y5,v3.1,())=some y6/\Br (decide (y6<0)) (P (-1)) (k4 (y6,IntKind.i64.wrap (v3.2.1+1),()))) (P v3.1)) (IntKind.i64.wrap (room-(↑xs.length:Int)),0,PUnit.unit)))=fnW Ej (look [(71,lH)]) fR Tryz.f45 (xs,room,()) P:=by kernel_rfl
theorem YH (t:List Int×List (List Int)×List Int×Unit) (room:Int) (P:Int->Prop):(∃(y3:Int),lH.fn (t.1,room,())=some y3/\Br (decide (y3<0)) (P (-1)) (∃(y4:Int),fR.fn (t.2.1,y3,())=some y4/\Br (decide (y4<0)) (P (-1)) (∃(y5:Int),lH.fn (t.2.2.1,y4,())=some y5/\Br (decide (y5<0)) (P (-1)) (P y5))))=fnW Ej (look [(71,lH),(45,fR)]) bH Tryz.f46 (t,room,()) P:=by kernel_rfl
theorem Aq8 (xs:List Int) (P:List Int->Prop):((0<=(↑xs.length:Int)/\(↑xs.length:Int)<(↑Cq:Int)+1)/\(↑xs.length:Int)=(↑xs.length:Int)/\0=0/\(List.replicate (↑xs.length:Int).toNat (Int.ofNat 0)).length=(List.replicate (↑xs.length:Int).toNat (Int.ofNat 0)).length/\Cz (λ(v2:Int×List Int×PUnit) (k3:Int×List Int×PUnit->Prop)=>Br (decide (v2.1<(↑xs.length:Int))) (∃(y4:Int),idx xs v2.1=some y4/\(0<=v2.1/\v2.1<(↑v2.2.1.length:Int))/\0+v2.1.toNat<v2.2.1.length/\0=0/\v2.2.1.length=(v2.2.1.set (0+v2.1.toNat) y4).length/\k3 (IntKind.i64.wrap (v2.1+1),v2.2.1.set (0+v2.1.toNat) y4,())) (P (List.take v2.2.1.length (List.drop 0 v2.2.1)))) (0,List.replicate (↑xs.length:Int).toNat (Int.ofNat 0),PUnit.unit))=fnW Ej (look []) gJ Tryz.f18 (xs,()) P:=by kernel_rfl
theorem Alx (xs:List (List Int)) (P:List (List Int)->Prop):((0<=(↑xs.length:Int)/\(↑xs.length:Int)<(↑Cq:Int)+1)/\(↑xs.length:Int)=(↑xs.length:Int)/\0=0/\(List.replicate (↑xs.length:Int).toNat ([]:List Int)).length=(List.replicate (↑xs.length:Int).toNat ([]:List Int)).length/\Cz (λ(v2:Int×List (List Int)×PUnit) (k3:Int×List (List Int)×PUnit->Prop)=>Br (decide (v2.1<(↑xs.length:Int))) (∃(y4:List Int),idx xs v2.1=some y4/\ ∃(y5:List Int),gJ.fn (y4,())=some y5/\(0<=v2.1/\v2.1<(↑v2.2.1.length:Int))/\0+v2.1.toNat<v2.2.1.length/\0=0/\v2.2.1.length=(v2.2.1.set (0+v2.1.toNat) y5).length/\k3 (IntKind.i64.wrap (v2.1+1),v2.2.1.set (0+v2.1.toNat) y5,())) (P (List.take v2.2.1.length (List.drop 0 v2.2.1)))) (0,List.replicate (↑xs.length:Int).toNat ([]:List Int),PUnit.unit))=fnW Ej (look [(18,gJ)]) fS Tryz.f49 (xs,()) P:=by kernel_rfl
theorem YJ (t:List Int×List (List Int)×List Int×Unit) (P:(List Int×List (List Int)×List Int×Unit)->Prop):(∃(y2:List Int),gJ.fn (t.1,())=some y2/\ ∃(y3:List (List Int)),fS.fn (t.2.1,())=some y3/\ ∃(y4:List Int),gJ.fn (t.2.2.1,())=some y4/\P (y2,y3,y4,()))=fnW Ej (look [(18,gJ),(49,fS)]) bJ Tryz.f50 (t,()) P:=by kernel_rfl
theorem Aq1 (a b:List Int) (P:Bool->Prop):(Br ((↑a.length:Int) !=(↑b.length:Int)) (P false) (Cz (λ(v3:Int×PUnit) (k4:Int×PUnit->Prop)=>Br (decide (v3.1<(↑a.length:Int))) (∃(y5:Int),idx a v3.1=some y5/\ ∃(y6:Int),idx b v3.1=some y6/\Br (y5 !=y6) (P false) (k4 (IntKind.i64.wrap (v3.1+1),()))) (P true)) (0,PUnit.unit)))=fnW Ej (look []) Bo Tryz.f22 (a,b,()) P:=by kernel_rfl
theorem All (a b:List (List Int)) (P:Bool->Prop):(Br ((↑a.length:Int) !=(↑b.length:Int)) (P false) (Cz (λ(v3:Int×PUnit) (k4:Int×PUnit->Prop)=>Br (decide (v3.1<(↑a.length:Int))) (∃(y5:List Int),idx a v3.1=some y5/\ ∃(y6:List Int),idx b v3.1=some y6/\ ∃(y7:Bool),Bo.fn (y5,y6,())=some y7/\Br (!y7) (P false) (k4 (IntKind.i64.wrap (v3.1+1),()))) (P true)) (0,PUnit.unit)))=fnW Ej (look [(22,Bo)]) Uy Tryz.f53 (a,b,()) P:=by kernel_rfl
theorem XU (a b:List Int×List (List Int)×List Int×Unit) (P:Bool->Prop):(∃(y3:Bool),Bo.fn (a.1,b.1,())=some y3/\Br (!y3) (P false) (∃(y4:Bool),Uy.fn (a.2.1,b.2.1,())=some y4/\Br (!y4) (P false) (∃(y5:Bool),Bo.fn (a.2.2.1,b.2.2.1,())=some y5/\Br (!y5) (P false) (P true))))=fnW Ej (look [(22,Bo),(53,Uy)]) Is Tryz.f54 (a,b,()) P:=by kernel_rfl
theorem bw {n:Nat} {room:Int} (h:roomy room) (h2: ¬pI n room<0):roomy (pI n room):=by
 unfold pI roomy at*
 split at h2<;>simp_all
 omega
theorem Aph (xs:List Int) (room:Int) (h:short xs/\roomy room):fnW Ej (look []) lH Tryz.f71 (xs,room,()) (λ(z:Int)=>z=Wl xs room):=by
 obtain ⟨h1,h2,h3⟩:=h
 unfold short at h1
 refine Eq.mp (Aq6 xs room _) ?_
 rw [Dk (by omega) (by omega)]
 refine Br.dec (λh=>?_) λh=>?_
 ·simp only [Wl,pI,Ab h]
 ·simp only [Wl,pI,Ag h]
theorem zn:Sound Tryz.prog 71 lH:=
 Sound.En Db Bg mixed Tryz.func71 (by kernel_rfl) (by kernel_rfl) λx h=>Aph x.1 x.2.1 h
theorem Al1 (xs:List (List Int)) (room:Int) (h:Hc xs/\roomy room):fnW Ej (look [(71,lH)]) fR Tryz.f45 (xs,room,()) (λ(z:Int)=>z=Qy xs room):=by
 obtain ⟨⟨h1,h4⟩,h2,h3⟩:=h
 refine Eq.mp (Alv xs room _) ?_
 rw [Dk (by omega) (by omega)]
 refine Br.dec (λh=>?_) λh=>?_
 ·simp only [Qy,pI,Ab h];rfl
 ·refine Bf xs.length (λv=>v.2.1) (λj v=>roomy v.1/\wj (xs.drop j) v.1=Qy xs room) rfl ?_ ?_
  ·refine ⟨by unfold roomy;omega,?_⟩
   simp only [Qy,pI,Ag h,Dn]
  ·rintro j ⟨r,i,⟨⟩⟩ K hj hi ⟨hr,hR⟩ hK
   dsimp only at hi hr hR⊢
   subst hi
   refine Br.dec (λhl=>?_) λhl=>?_
   ·have hl:j<xs.length:=by omega
    have hd:xs.drop j=xs[j]::xs.drop (j+1):=Cn hl
    refine ⟨_,Bq hl,_,Ab ⟨h4 _ (Aj hl),hr⟩,?_⟩
    rw [hd] at hR
    simp only [wj] at hR
    refine Br.dec (λhn=>?_) λhn=>?_
    ·have hn:Wl xs[j] r<0:=hn
     rw [Ab hn] at hR
     exact hR
    ·have hn: ¬Wl xs[j] r<0:=hn
     rw [Ag hn] at hR
     rw [Bh (by omega)]
     exact hK hl _ rfl ⟨bw hr hn,hR⟩
   ·have:j=xs.length:=by omega
    subst this
    rw [Ij] at hR
    exact hR
theorem w6:Sound Tryz.prog 45 fR:=
 Sound.En Db (Av zn Bg) mixed Tryz.func45 (by kernel_rfl) (by kernel_rfl) λx h=>Al1 x.1 x.2.1 h
theorem zp: ∀(xs:List (List Int)) (room:Int),roomy room-> ¬wj xs room<0->roomy (wj xs room)
 | [],room,h,_=>h
 |r::rs,room,h,h2=>by
  simp only [wj] at h2⊢
  split
  ·rename_i hn;rw [Ab hn] at h2;exact absurd (show (-1:Int)<0 by decide) h2
  ·rename_i hn;rw [Ag hn] at h2;exact zp rs _ (bw h hn) h2
theorem rh {xs:List (List Int)} {room:Int} (h:roomy room) (h2: ¬Qy xs room<0):roomy (Qy xs room):=by
 unfold Qy at*
 split
 ·rename_i hn;rw [Ab hn] at h2;exact absurd (show (-1:Int)<0 by decide) h2
 ·rename_i hn;rw [Ag hn] at h2;exact zp _ _ (bw h hn) h2
theorem WH (t:TT) (room:Int) (h:Oe t/\roomy room):fnW Ej (look [(71,lH),(45,fR)]) bH Tryz.f46 (t,room,()) (λ(z:Int)=>z=Mb t room):=by
 obtain ⟨⟨h1,h2,h3⟩,hr⟩:=h
 refine Eq.mp (YH t room _) ?_
 refine ⟨_,Ab ⟨h1,hr⟩,Br.dec (λhn=>?_) λhn=>?_⟩
 ·exact (Ab hn).symm
 ·have r1:=bw hr hn
  refine ⟨_,Ab ⟨h2,r1⟩,Br.dec (λhm=>?_) λhm=>?_⟩
  ·exact ((Ag hn).trans (Ab hm)).symm
  ·have r2:=rh r1 hm
   refine ⟨_,Ab ⟨h3,r2⟩,Br.dec (λhk=>?_) λhk=>?_⟩
   ·exact ((Ag hn).trans ((Ag hm).trans (Ab hk))).symm
   ·exact ((Ag hn).trans ((Ag hm).trans (Ag hk))).symm
theorem xH:Sound Tryz.prog 46 bH:=
 Sound.En Db (Av zn (Av w6 Bg)) mixed Tryz.func46 (by kernel_rfl) (by kernel_rfl) λx h=>WH x.1 x.2.1 h
theorem Km {α:Type} {ys xs:List α} {j:Nat} (h:j<xs.length) (hl:ys.length=xs.length) (ht:ys.take j=xs.take j):(ys.set j xs[j]).take (j+1)=xs.take (j+1):=by
 have h1:j<(ys.set j xs[j]).length:=by rw [Bi];omega
 rw [Ay h1,Ay h,List.getElem_set_self,List.take_set_of_le (Ao j),ht]
theorem Apj (xs:List Int) (h:short xs):fnW Ej (look []) gJ Tryz.f18 (xs,()) (λ(z:List Int)=>z=xs):=by
 unfold short at h
 refine Eq.mp (Aq8 xs _) ?_
 refine ⟨⟨by omega,by show (xs.length:Int)<(4294967296:Int)+1;omega⟩,rfl,rfl,rfl,?_⟩
 refine Bf xs.length (λv=>v.1) (λj v=>v.2.1.length=xs.length/\v.2.1.take j=xs.take j) rfl ⟨by simp,by simp⟩ ?_
 rintro j ⟨i,ys,⟨⟩⟩ K hj hi ⟨h1,h2⟩ hK
 dsimp only at hi h1 h2⊢
 subst hi
 refine Br.dec (λhl=>?_) λhl=>?_
 ·have hl:j<xs.length:=by omega
  refine ⟨_,Bq hl,⟨by omega,by omega⟩,by rw [Ai];omega,rfl,by rw [Bi],?_⟩
  rw [Bh (by omega),Ai,Bv]
  exact hK hl _ rfl ⟨by rw [Bi];exact h1,Km hl h1 h2⟩
 ·have:j=xs.length:=by omega
  subst this
  rw [Ap,<-h1,Ap] at h2
  rw [Dn,Ap]
  exact h2
theorem ql:Sound Tryz.prog 18 gJ:=
 Sound.En Db Bg mixed Tryz.func18 (by kernel_rfl) (by kernel_rfl) λx h=>Apj x.1 h
theorem Al3 (xs:List (List Int)) (h:Hc xs):fnW Ej (look [(18,gJ)]) fS Tryz.f49 (xs,()) (λ(z:List (List Int))=>z=xs):=by
 obtain ⟨h,h4⟩:=h
 refine Eq.mp (Alx xs _) ?_
 refine ⟨⟨by omega,by show (xs.length:Int)<(4294967296:Int)+1;omega⟩,rfl,rfl,rfl,?_⟩
 refine Bf xs.length (λv=>v.1) (λj v=>v.2.1.length=xs.length/\v.2.1.take j=xs.take j) rfl ⟨by simp,by simp⟩ ?_
 rintro j ⟨i,ys,⟨⟩⟩ K hj hi ⟨h1,h2⟩ hK
 dsimp only at hi h1 h2⊢
 subst hi
 refine Br.dec (λhl=>?_) λhl=>?_
 ·have hl:j<xs.length:=by omega
  refine ⟨_,Bq hl,_,Ab (h4 _ (Aj hl)),⟨by omega,by omega⟩,by rw [Ai];omega,rfl,by rw [Bi],?_⟩
  rw [Bh (by omega),Ai,Bv]
  exact hK hl _ rfl ⟨by rw [Bi];exact h1,Km hl h1 h2⟩
 ·have:j=xs.length:=by omega
  subst this
  rw [Ap,<-h1,Ap] at h2
  rw [Dn,Ap]
  exact h2
theorem w8:Sound Tryz.prog 49 fS:=
 Sound.En Db (Av ql Bg) mixed Tryz.func49 (by kernel_rfl) (by kernel_rfl) λx h=>Al3 x.1 h
theorem WJ (t:TT) (h:Oe t):fnW Ej (look [(18,gJ),(49,fS)]) bJ Tryz.f50 (t,()) (λ(z:TT)=>z=t):=by
 refine Eq.mp (YJ t _) ?_
 exact ⟨_,Ab h.1,_,Ab h.2.1,_,Ab h.2.2,rfl⟩
theorem xJ:Sound Tryz.prog 50 bJ:=
 Sound.En Db (Av ql (Av w8 Bg)) mixed Tryz.func50 (by kernel_rfl) (by kernel_rfl) λx h=>WJ x.1 h
theorem Apc (a b:List Int) (h:short a):fnW Ej (look []) Bo Tryz.f22 (a,b,()) (λ(z:Bool)=>z=Ci a b):=by
 refine Eq.mp (Aq1 a b _) ⟨λhl=>?_,λhl=>?_⟩
 ·simp only [Xe,ne_eq,Gb] at hl
  exact (Dr λiU=>hl (by rw [iU])).symm
 ·simp only [Hf,Gb] at hl
  exact zP a b hl h
theorem qg:Sound Tryz.prog 22 Bo:=
 Sound.En Db Bg mixed Tryz.func22 (by kernel_rfl) (by kernel_rfl) λx h=>Apc x.1 x.2.1 h
theorem Aks (a b:List (List Int)) (h:Hc a):fnW Ej (look [(22,Bo)]) Uy Tryz.f53 (a,b,()) (λ(z:Bool)=>z=Rr a b):=by
 obtain ⟨h,h4⟩:=h
 refine Eq.mp (All a b _) ⟨λhl=>?_,λhl=>?_⟩
 ·simp only [Xe,ne_eq,Gb] at hl
  exact (Dr λiU=>hl (by rw [iU])).symm
 ·simp only [Hf,Gb] at hl
  refine Bf a.length (λv=>v.1) (λj _=>a.take j=b.take j) rfl (by simp) ?_
  rintro j ⟨i,⟨⟩⟩ K hj hi hR hK
  dsimp only at hi⊢
  subst hi
  refine Br.dec (λIt=>?_) λIt=>?_
  ·have kl:j<a.length:=by omega
   have wD:j<b.length:=by omega
   refine ⟨_,Bq kl,_,Bq wD,_,Ab (h4 _ (Aj kl)),⟨λhe=>?_,λhe=>?_⟩⟩
   ·refine (Dr λiU=>?_).symm
    subst iU
    simp [Ci] at he
   ·rw [Bh (by omega)]
    refine hK kl _ rfl ?_
    simp only [Ci,Bool.not_eq_false',Nj] at he
    rw [Ay kl,Ay wD,hR]
    exact Mf (λx=>List.take j b++ [x]) he
  ·have sd:j=a.length:=by omega
   subst sd
   rw [Ap,hl,Ap] at hR
   exact (Fu hR).symm
theorem vT:Sound Tryz.prog 53 Uy:=
 Sound.En Db (Av qg Bg) mixed Tryz.func53 (by kernel_rfl) (by kernel_rfl) λx h=>Aks x.1 x.2.1 h
theorem VT (a b:TT) (h:Oe a):fnW Ej (look [(22,Bo),(53,Uy)]) Is Tryz.f54 (a,b,()) (λ(z:Bool)=>z=Pp a b):=by
 refine Eq.mp (XU a b _) ?_
 refine ⟨_,Ab h.1,⟨λh1=>?_,λh1=>?_⟩⟩
 ·have h1:(!Ci a.1 b.1)=true:=h1
  simp only [Ci] at h1
  unfold Pp
  cases hd:decide (a.1=b.1)<;>simp_all
 ·have h1:(!Ci a.1 b.1)=false:=h1
  simp only [Ci] at h1
  refine ⟨_,Ab h.2.1,⟨λh2=>?_,λh2=>?_⟩⟩
  ·have h2:(!Rr a.2.1 b.2.1)=true:=h2
   simp only [Rr] at h2
   unfold Pp
   cases hd:decide (a.2.1=b.2.1)<;>simp_all
  ·have h2:(!Rr a.2.1 b.2.1)=false:=h2
   simp only [Rr] at h2
   refine ⟨_,Ab h.2.2,⟨λh3=>?_,λh3=>?_⟩⟩
   ·have h3:(!Ci a.2.2.1 b.2.2.1)=true:=h3
    simp only [Ci] at h3
    unfold Pp
    cases hd:decide (a.2.2.1=b.2.2.1)<;>simp_all
   ·have h3:(!Ci a.2.2.1 b.2.2.1)=false:=h3
    simp only [Ci] at h3
    unfold Pp
    simp_all
theorem xx:Sound Tryz.prog 54 Is:=
 Sound.En Db (Av qg (Av vT Bg)) mixed Tryz.func54 (by kernel_rfl) (by kernel_rfl) λx h=>VT x.1 x.2.1 h
def PL (n:Int) (xs:List Int) (k:Nat):Prop:= ∀j (h:j<xs.length),j<k->0<=xs[j]/\xs[j]<=n-1/\(0<j->xs[j-1]<xs[j])
def DL (n:Int) (xs:List Int) (k:Nat):Prop:= ∀j (h:j<xs.length),j<k->0<=xs[j]/\xs[j]<=n-1/\xs[j]∉xs.take j
noncomputable def dec (p:Prop):Bool:= @decide p (Classical.propDecidable p)
theorem Ou {p:Prop} (h:p):true=dec p:=(@Fu p (Classical.propDecidable p) h).symm
theorem Dl {p:Prop} (h: ¬p):false=dec p:=(@Dr p (Classical.propDecidable p) h).symm
theorem Hq {p:Prop} :dec p=true↔p:= @Ka p (Classical.propDecidable p)
theorem Aeb {p:Prop} :dec p=false↔ ¬p:= @decide_eq_false_iff_not p (Classical.propDecidable p)
def nOK (n:Int):Prop:=0<=n/\n<=4294967296
noncomputable def a8 (n:Int) (xs:List Int):Bool:=dec (0<xs.length/\PL n xs xs.length)
noncomputable abbrev Jx:Spec:=En (.pair tI (.pair tL .unit)) .bool false true (λx=>nOK x.1/\short x.2.1) (λx=>a8 x.1 x.2.1)
theorem xW (n:Int) (xs:List Int) (P:Bool->Prop):(∃(y3:Bool),Dm.fn ((↑xs.length:Int),(1:Int),n,())=some y3/\Br (!y3) (P false) (Cz (λ(v4:Int×PUnit) (k5:Int×PUnit->Prop)=>Br (decide (v4.1<(↑xs.length:Int))) (∃(y6:Int),idx xs v4.1=some y6/\ ∃(y7:Bool),Dm.fn (y6,(0:Int),IntKind.i64.wrap (n-(1:Int)),())=some y7/\Br (!y7) (P false) (Br (decide (v4.1>(0:Int))) (∃(y8:Int),idx xs v4.1=some y8/\ ∃(y9:Int),idx xs (IntKind.i64.wrap (v4.1-(1:Int)))=some y9/\Br (decide (y8<=y9)) (P false) (k5 (IntKind.i64.wrap (v4.1+(1:Int)),()))) (k5 (IntKind.i64.wrap (v4.1+(1:Int)),())))) (P true)) ((0:Int),PUnit.unit)))=fnW Ej (look [(88,Dm)]) Jx Tryz.f160 (n,xs,()) P:=by kernel_rfl
theorem KQ (n:Int) (xs:List Int) (P:Bool->Prop):(Cz (λ(v3:Int×PUnit) (k4:Int×PUnit->Prop)=>Br (decide (v3.1<(↑xs.length:Int))) (∃(y5:Int),idx xs v3.1=some y5/\ ∃(y6:Bool),bC.fn (n,y5,())=some y6/\Br (!y6) (P false) (Br (decide (v3.1>(0:Int))) (∃(y7:Int),idx xs (IntKind.i64.wrap (v3.1-(1:Int)))=some y7/\Br (decide (y7>=y5)) (P false) (k4 (IntKind.i64.wrap (v3.1+(1:Int)),()))) (k4 (IntKind.i64.wrap (v3.1+(1:Int)),())))) (P (decide ((↑xs.length:Int)>(0:Int))))) ((0:Int),PUnit.unit))=fnW Ej (look [(161,bC)]) Jx Tryz.f159 (n,xs,()) P:=by kernel_rfl
theorem re {n x:Int} (hn:nOK n):kv n x=true↔0<=x/\x<=n-1:=by
 unfold kv nOK at*
 rw [Dk (by omega) (by omega),Ka]
theorem Fp {x a b:Int} :Oy x a b=true↔a<=x/\x<=b:=Ka
theorem Eu {b:Bool} (h:(!b)=true): ¬b=true:=by cases b<;>simp_all
theorem Ha {b:Bool} (h:(!b)=false):b=true:=by cases b<;>simp_all
theorem PC {n:Int} {xs:List Int} (h:PL n xs xs.length): ∀j (hj:j<xs.length),(j:Int)<=xs[j]
 |0,hj=>(h 0 hj hj).1
 |j+1,hj=>by
  have h1:=PC h j (by omega)
  have h2:=(h (j+1) hj hj).2.2 (by omega)
  simp only [Nat.add_sub_cancel] at h2
  omega
theorem sY {n:Int} {xs:List Int} {j:Nat} (hl:j<xs.length) (h:PL n xs j) (h1:0<=xs[j]) (h2:xs[j]<=n-1) (h3:0<j->xs[j-1]<xs[j]):PL n xs (j+1):=by
 intro i hi iW
 by_cases e:i=j
 ·subst e;exact ⟨h1,h2,h3⟩
 ·exact h i hi (by omega)
theorem IL (n:Int) (xs:List Int) (h:nOK n/\short xs):fnW Ej (look [(161,bC)]) Jx Tryz.f159 (n,xs,()) (λ(z:Bool)=>z=a8 n xs):=by
 obtain ⟨hn,h⟩:=h
 unfold short at h
 refine Eq.mp (KQ n xs _) ?_
 refine Bf xs.length (λv=>v.1) (λj _=>PL n xs j) rfl (λj _ hj=>absurd hj (Dq _)) ?_
 rintro j ⟨i,⟨⟩⟩ K hj hi hR hK
 dsimp only at hi⊢
 subst hi
 refine Br.dec (λhl=>?_) λhl=>?_
 ·have hl:j<xs.length:=by omega
  refine ⟨_,Bq hl,_,Ab trivial,⟨λhp=>?_,λhp=>?_⟩⟩
  ·have hp:=Eu hp
   rw [re hn] at hp
   exact Dl λhh=>hp ⟨(hh.2 j hl hl).1,(hh.2 j hl hl).2.1⟩
  ·have hp:=Ha hp
   rw [re hn] at hp
   refine Br.dec (λh0=>?_) λh0=>?_
   ·have h0:0<j:=by omega
    rw [Dk (by omega) (by omega),show (j:Int)-1=((j-1:Nat):Int) by omega]
    refine ⟨_,Bq (by omega),Br.dec (λhg=>?_) λhg=>?_⟩
    ·exact Dl λhh=>by have:=(hh.2 j hl hl).2.2 h0;omega
    ·rw [Bh (by omega)]
     exact hK hl _ rfl (sY hl hR hp.1 hp.2 λ_=>by omega)
   ·have h0:j=0:=by omega
    rw [Bh (by omega)]
    exact hK hl _ rfl (sY hl hR hp.1 hp.2 λh=>by omega)
 ·have:j=xs.length:=by omega
  subst this
  by_cases h0:0<xs.length
  ·rw [Fu (show (xs.length:Int)>0 by omega)];exact Ou ⟨h0,hR⟩
  ·rw [Dr (show ¬(xs.length:Int)>0 by omega)];exact Dl λhh=>h0 hh.1
theorem sx:Sound Tryz.prog 159 Jx:=
 Sound.En Db (Av xB Bg) mixed Tryz.func159 (by kernel_rfl) (by kernel_rfl) λx h=>IL x.1 x.2.1 h
theorem xh (n:Int) (xs:List Int) (h:nOK n/\short xs):fnW Ej (look [(88,Dm)]) Jx Tryz.f160 (n,xs,()) (λ(z:Bool)=>z=a8 n xs):=by
 obtain ⟨hn,h⟩:=h
 unfold short at h
 refine Eq.mp (xW n xs _) ⟨_,Ab trivial,⟨λhp=>?_,λhp=>?_⟩⟩
 ·have hp:=Eu hp
  rw [Fp] at hp
  dsimp only at hp
  refine Dl λhh=>hp ⟨by omega,?_⟩
  have:=PC hh.2 (xs.length-1) (by omega)
  have:=(hh.2 (xs.length-1) (by omega) (by omega)).2.1
  omega
 ·have hp:=Ha hp
  rw [Fp] at hp
  dsimp only at hp
  refine Bf xs.length (λv=>v.1) (λj _=>PL n xs j) rfl (λj _ hj=>absurd hj (Dq _)) ?_
  rintro j ⟨i,⟨⟩⟩ K hj hi hR hK
  dsimp only at hi⊢
  subst hi
  refine Br.dec (λhl=>?_) λhl=>?_
  ·have hl:j<xs.length:=by omega
   refine ⟨_,Bq hl,_,Ab trivial,⟨λhq=>?_,λhq=>?_⟩⟩
   ·have hq:=Eu hq
    unfold nOK at hn
    rw [Fp,Dk (by omega) (by omega)] at hq
    exact Dl λhh=>hq ⟨(hh.2 j hl hl).1,(hh.2 j hl hl).2.1⟩
   ·have hq:=Ha hq
    unfold nOK at hn
    rw [Fp,Dk (by omega) (by omega)] at hq
    refine Br.dec (λh0=>?_) λh0=>?_
    ·have h0:0<j:=by omega
     rw [Dk (by omega) (by omega),show (j:Int)-1=((j-1:Nat):Int) by omega]
     refine ⟨_,Bq hl,_,Bq (by omega),Br.dec (λhg=>?_) λhg=>?_⟩
     ·exact Dl λhh=>by have:=(hh.2 j hl hl).2.2 h0;omega
     ·rw [Bh (by omega)]
      exact hK hl _ rfl (sY hl hR hq.1 hq.2 λ_=>by omega)
    ·rw [Bh (by omega)]
     exact hK hl _ rfl (sY hl hR hq.1 hq.2 λh=>by omega)
  ·have:j=xs.length:=by omega
   subst this
   exact Ou ⟨by omega,hR⟩
theorem oE:Sound Tryz.prog 160 Jx:=
 Sound.En Db (Av Zq Bg) mixed Tryz.func160 (by kernel_rfl) (by kernel_rfl) λx h=>xh x.1 x.2.1 h
theorem Aec {n:Int} {xs:List Int} {j:Nat} (hl:j<xs.length) (h:DL n xs j) (h1:0<=xs[j]) (h2:xs[j]<=n-1) (h3:xs[j]∉xs.take j):DL n xs (j+1):=by
 intro i hi iW
 by_cases e:i=j
 ·subst e;exact ⟨h1,h2,h3⟩
 ·exact h i hi (by omega)
theorem PW {xs:List Int} (h:short xs) (j:Nat):short (xs.take j):=by
 unfold short at*
 rw [De]
 omega
noncomputable abbrev Yo:Spec:=En (.pair dI (.pair dI (.pair (.clo 154 .unit) .unit))) .bool false true (λx=>Hc x.1) (λx=>Rr x.1 x.2.1)
theorem Aq5 (a b:List Int) (P:Bool->Prop):(∃(y3:Bool),Bo.fn (a,b,())=some y3/\P y3)=fnW Ej (look [(139,Bo)]) Bo Tryz.f154 (a,b,()) P:=by kernel_rfl
theorem QY (a b:List (List Int)) (c:Unit) (P:Bool->Prop):(Br ((↑a.length:Int) !=(↑b.length:Int)) (P false) (Cz (λ(v4:Int×PUnit) (k5:Int×PUnit->Prop)=>Br (decide (v4.1<(↑a.length:Int))) (∃(y6:List Int),idx a v4.1=some y6/\ ∃(y7:List Int),idx b v4.1=some y7/\ ∃(y8:Bool),Bo.fn (y6,y7,())=some y8/\Br (!y8) (P false) (k5 (IntKind.i64.wrap (v4.1+(1:Int)),()))) (P true)) ((0:Int),PUnit.unit)))=fnW Ej (look [(154,Bo)]) Yo Tryz.f153 (a,b,c,()) P:=by kernel_rfl
theorem sH (a b:List (List Int)) (P:Bool->Prop):(∃(y3:Bool),Yo.fn (a,b,(),())=some y3/\P y3)=fnW Ej (look [(153,Yo)]) Uy Tryz.f140 (a,b,()) P:=by kernel_rfl
theorem sG (a b:List Int×List (List Int)×List Int×Unit) (P:Bool->Prop):(∃(y3:Bool),Bo.fn (a.1,b.1,())=some y3/\Br y3 (∃(y4:Bool),Uy.fn (a.2.1,b.2.1,())=some y4/\Br y4 (∃(y5:Bool),Bo.fn (a.2.2.1,b.2.2.1,())=some y5/\P y5) (P false)) (P false))=fnW Ej (look [(139,Bo),(140,Uy)]) Is Tryz.f114 (a,b,()) P:=by kernel_rfl
abbrev eN:Type:=Int×List Int×List (List Int)×List Int×List Int×List (List Int)×List Int×PUnit
theorem sI (a b:List Int×List (List Int)×List Int×Unit) (P:Bool->Prop):(∃(y3:Bool),Bo.fn (a.1,b.1,())=some y3/\Br (!y3) (P false) (∃(y4:Bool),Bo.fn (a.2.2.1,b.2.2.1,())=some y4/\Br (!y4) (P false) (Br ((↑a.2.1.length:Int) !=(↑b.2.1.length:Int)) (P false) (Cz (λ(v5:eN) (k6:eN->Prop)=>Br (decide (v5.1<(↑v5.2.2.1.length:Int))) (∃(y7:List Int),idx v5.2.2.1 v5.1=some y7/\ ∃(y8:List Int),idx v5.2.2.2.2.2.1 v5.1=some y8/\ ∃(y9:Bool),Bo.fn (y7,y8,())=some y9/\Br (!y9) (P false) (k6 (IntKind.i64.wrap (v5.1+(1:Int)),v5.2.1,v5.2.2.1,v5.2.2.2.1,v5.2.2.2.2.1,v5.2.2.2.2.2.1,v5.2.2.2.2.2.2.1,()))) (P true)) ((0:Int),a.1,a.2.1,a.2.2.1,b.1,b.2.1,b.2.2.1,PUnit.unit)))))=fnW Ej (look [(101,Bo)]) Is Tryz.f126 (a,b,()) P:=by kernel_rfl
theorem Apg (a b:List Int) (h:short a):fnW Ej (look [(139,Bo)]) Bo Tryz.f154 (a,b,()) (λ(z:Bool)=>z=Ci a b):=by
 refine Eq.mp (Aq5 a b _) ⟨_,Ab h,rfl⟩
theorem XF:Sound Tryz.prog 154 Bo:=
 Sound.En Db (Av de Bg) mixed Tryz.func154 (by kernel_rfl) (by kernel_rfl) λx h=>Apg x.1 x.2.1 h
theorem OR (a b:List (List Int)) (c:Unit) (h:Hc a):fnW Ej (look [(154,Bo)]) Yo Tryz.f153 (a,b,c,()) (λ(z:Bool)=>z=Rr a b):=by
 obtain ⟨h,h4⟩:=h
 refine Eq.mp (QY a b c _) ⟨λhl=>?_,λhl=>?_⟩
 ·simp only [Xe,ne_eq,Gb] at hl
  exact (Dr λiU=>hl (by rw [iU])).symm
 ·simp only [Hf,Gb] at hl
  refine Bf a.length (λv=>v.1) (λj _=>a.take j=b.take j) rfl (by simp) ?_
  rintro j ⟨i,⟨⟩⟩ K hj hi hR hK
  dsimp only at hi⊢
  subst hi
  refine Br.dec (λIt=>?_) λIt=>?_
  ·have kl:j<a.length:=by omega
   have wD:j<b.length:=by omega
   refine ⟨_,Bq kl,_,Bq wD,_,Ab (h4 _ (Aj kl)),⟨λhe=>?_,λhe=>?_⟩⟩
   ·refine (Dr λiU=>?_).symm
    subst iU
    simp [Ci] at he
   ·rw [Bh (by omega)]
    refine hK kl _ rfl ?_
    simp only [Ci,Bool.not_eq_false',Nj] at he
    rw [Ay kl,Ay wD,hR]
    exact Mf (λx=>List.take j b++ [x]) he
  ·have sd:j=a.length:=by omega
   subst sd
   rw [Ap,hl,Ap] at hR
   exact (Fu hR).symm
theorem vS:Sound Tryz.prog 153 Yo:=
 Sound.En Db (Av XF Bg) mixed Tryz.func153 (by kernel_rfl) (by kernel_rfl) λx h=>OR x.1 x.2.1 x.2.2.1 h
theorem sl (a b:List (List Int)) (h:Hc a):fnW Ej (look [(153,Yo)]) Uy Tryz.f140 (a,b,()) (λ(z:Bool)=>z=Rr a b):=by
 refine Eq.mp (sH a b _) ⟨_,Ab h,rfl⟩
theorem kX:Sound Tryz.prog 140 Uy:=
 Sound.En Db (Av vS Bg) mixed Tryz.func140 (by kernel_rfl) (by kernel_rfl) λx h=>sl x.1 x.2.1 h
theorem sk (a b:TT) (h:Oe a):fnW Ej (look [(139,Bo),(140,Uy)]) Is Tryz.f114 (a,b,()) (λ(z:Bool)=>z=Pp a b):=by
 refine Eq.mp (sG a b _) ⟨_,Ab h.1,⟨λh1=>⟨_,Ab h.2.1,⟨λh2=>⟨_,Ab h.2.2,?_⟩,λh2=>?_⟩⟩,λh1=>?_⟩⟩
 ·have h1:Ci a.1 b.1=true:=h1
  have h2:Rr a.2.1 b.2.1=true:=h2
  simp only [Ci,Rr] at h1 h2
  show Ci a.2.2.1 b.2.2.1=_
  unfold Pp Ci
  rw [h1,h2];rfl
 ·have h1:Ci a.1 b.1=true:=h1
  have h2:Rr a.2.1 b.2.1=false:=h2
  simp only [Ci,Rr] at h1 h2
  unfold Pp
  rw [h1,h2];rfl
 ·have h1:Ci a.1 b.1=false:=h1
  simp only [Ci] at h1
  unfold Pp
  rw [h1];rfl
theorem kW:Sound Tryz.prog 114 Is:=
 Sound.En Db (Av de (Av kX Bg)) mixed Tryz.func114 (by kernel_rfl) (by kernel_rfl) λx h=>sk x.1 x.2.1 h
theorem sm (a b:TT) (h:Oe a):fnW Ej (look [(101,Bo)]) Is Tryz.f126 (a,b,()) (λ(z:Bool)=>z=Pp a b):=by
 obtain ⟨fi,⟨mU,hs4⟩,hs3⟩:=h
 refine Eq.mp (sI a b _) ⟨_,Ab fi,⟨λh1=>?_,λh1=>⟨_,Ab hs3,⟨λh2=>?_,λh2=>⟨λh3=>?_,λh3=>?_⟩⟩⟩⟩⟩
 ·have h1:(!Ci a.1 b.1)=true:=h1
  simp only [Ci,Eg] at h1
  show _=Pp a b
  unfold Pp
  rw [h1];rfl
 ·have h2:(!Ci a.2.2.1 b.2.2.1)=true:=h2
  simp only [Ci,Eg] at h2
  show _=Pp a b
  unfold Pp
  rw [h2];simp
 ·simp only [Xe,ne_eq,Gb] at h3
  show _=Pp a b
  unfold Pp
  rw [Dr (show ¬a.2.1=b.2.1 from λiU=>h3 (by rw [iU]))];simp
 ·simp only [Hf,Gb] at h3
  have h1:(!Ci a.1 b.1)=false:=h1
  have h2:(!Ci a.2.2.1 b.2.2.1)=false:=h2
  simp only [Ci,Bool.not_eq_false',Nj] at h1 h2
  have hE:Pp a b=decide (a.2.1=b.2.1):=by
   unfold Pp
   rw [Fu h1,Fu h2];simp
  refine Bf a.2.1.length (λv=>v.1) (λj v=>v.2=(a.1,a.2.1,a.2.2.1,b.1,b.2.1,b.2.2.1,())/\a.2.1.take j=b.2.1.take j) rfl ⟨rfl,by simp⟩ ?_
  rintro j ⟨i,v⟩ K hj hi ⟨hv,hR⟩ hK
  dsimp only at hi hv⊢
  subst hi hv
  dsimp only
  refine Br.dec (λIt=>?_) λIt=>?_
  ·have kl:j<a.2.1.length:=by omega
   have wD:j<b.2.1.length:=by omega
   refine ⟨_,Bq kl,_,Bq wD,_,Ab (hs4 _ (Aj kl)),⟨λhe=>?_,λhe=>?_⟩⟩
   ·show _=Pp a b
    rw [hE]
    refine (Dr λiU=>?_).symm
    simp [iU,Ci] at he
   ·rw [Bh (by omega)]
    refine hK kl _ rfl ⟨rfl,?_⟩
    simp only [Ci,Bool.not_eq_false',Nj] at he
    rw [Ay kl,Ay wD,hR]
    exact Mf (λx=>List.take j b.2.1++ [x]) he
  ·have sd:j=a.2.1.length:=by omega
   subst sd
   rw [Ap,h3,Ap] at hR
   show _=Pp a b
   rw [hE]
   exact (Fu hR).symm
theorem kZ:Sound Tryz.prog 126 Is:=
 Sound.En Db (Av Um Bg) mixed Tryz.func126 (by kernel_rfl) (by kernel_rfl) λx h=>sm x.1 x.2.1 h
theorem ja {t:TT} {room:Int} (h:roomy room) (h2: ¬Mb t room<0):roomy (Mb t room):=by
 have hm: ¬((-1:Int)<0)->False:= λh=>h (by decide)
 unfold Mb at h2⊢
 split
 ·rename_i h3;rw [Ab h3] at h2;exact (hm h2).elim
 ·rename_i h3;rw [Ag h3] at h2
  split
  ·rename_i h4;rw [Ab h4] at h2;exact (hm h2).elim
  ·rename_i h4;rw [Ag h4] at h2
   split
   ·rename_i h5;rw [Ab h5] at h2;exact (hm h2).elim
   ·rename_i h5
    exact bw (rh (bw h h3) h4) h5
theorem JA:roomy 1048576:=⟨by decide,by decide⟩
abbrev PP:Type:=Int×ByteArray×List (List Int)×Unit
noncomputable def Jo (p:List Int):Bool:=dec (1<=p.length/\p.length<=20/\DL p.length p p.length)
noncomputable def Gl (n:Int) (p:List Int):Bool:=dec ((p.length:Int)=n/\Jo p=true)
noncomputable def Ru (n:Int) (g:List (List Int)):Bool:=dec ((1<=n/\n<=20)/\g.length<=8/\ ∀p∈g,Gl n p=true)
def Hs {α:Type} (P:α->Bool):List α->Int->Int
 | [],_=> -1
 |y::r,i=>if P y=true then i else Hs P r (i+1)
abbrev tG1:Ty:= .clo 136 (.pair (.ptr tI) .unit)
def zy (s:ByteArray) (i:Nat):Prop:= ∃c:UInt8,s[i]?=some c/\65<=c.toNat/\c.toNat<=90/\ ∀k,k<i->s[k]?≠some c
noncomputable def nY (s:ByteArray) (i:Int):Bool:=dec (zy s i.toNat)
noncomputable def eo (s:ByteArray):Bool:=dec ((1<=s.size/\s.size<=8)/\ ∀j,j<s.size->zy s j)
noncomputable def Ea (p:PP):Bool:=dec (Ru p.1 p.2.2.1=true/\eo p.2.1=true/\p.2.1.size=p.2.2.1.length)
def Ei (p:PP):Prop:=p.2.1.size<=4294967296/\Hc p.2.2.1
noncomputable abbrev Tg:Spec:=En (.pair tL .unit) tI false true (λ_=>True) (λx=>(List.length x.1:Int))
noncomputable abbrev Hu:Spec:=En (.pair tL .unit) .bool false true (λx=>short x.1) (λx=>Jo x.1)
noncomputable abbrev Mr:Spec:=En (.pair tI (.pair dI .unit)) .bool false true (λx=>Hc x.2.1) (λx=>Ru x.1 x.2.1)
noncomputable abbrev kE:Spec:=En (.pair tL (.pair (.ptr tI) .unit)) .bool false true (λx=>short x.1) (λx=>!Gl x.2.1 x.1)
noncomputable abbrev zf:Spec:=En (.pair dI (.pair tG1 .unit)) tI false true (λx=>Hc x.1) (λx=>Hs (λp=>!Gl x.2.1.1 p) x.1 0)
noncomputable abbrev zd:Spec:=En (.pair dI (.pair tG1 .unit)) .bool false true (λx=>Hc x.1) (λx=>List.any x.1 (λp=>!Gl x.2.1.1 p))
noncomputable abbrev eG:Spec:=En (.pair .str (.pair tI .unit)) .bool false true (λx=>0<=x.2.1/\x.2.1<x.1.size/\x.1.size<=4294967296) (λx=>nY x.1 x.2.1)
noncomputable abbrev bB:Spec:=En (.pair .str .unit) .bool false true (λx=>x.1.size<=4294967296) (λx=>eo x.1)
noncomputable abbrev Hv:Spec:=En (.pair Fb .unit) .bool false true (λx=>Ei x.1) (λx=>Ea x.1)
def aQ (p:PP) (room:Int):Int:=if room-p.2.1.size<0 then-1 else if Qy p.2.2.1 (room-p.2.1.size)<0 then-1 else Qy p.2.2.1 (room-p.2.1.size)
def r8 (a b:PP):Bool:=decide (a.1=b.1)&&(decide (a.2.1=b.2.1)&&decide (a.2.2.1=b.2.2.1))
noncomputable abbrev zg:Spec:=En (.pair Fb (.pair tI .unit)) tI false true (λx=>Ei x.1/\roomy x.2.1) (λx=>aQ x.1 x.2.1)
noncomputable abbrev zh:Spec:=En (.pair Fb .unit) Fb false true (λx=>Ei x.1) (λx=>x.1)
noncomputable abbrev ze:Spec:=En (.pair Fb (.pair Fb .unit)) .bool false true (λx=>Ei x.1) (λx=>r8 x.1 x.2.1)
noncomputable abbrev Uz:Spec:=En (.pair Ku (.pair tL .unit)) tI false true (λx=>Oe x.1/\short x.2.1) (λx=>Hs (λp=>decide (p=x.2.1)) x.1.2.1 0)
theorem Alq (xs:List Int) (P:Int->Prop):(P (↑xs.length:Int))=fnW Ej (look []) Tg Tryz.f119 (xs,()) P:=by kernel_rfl
theorem DZ (p:List Int) (P:Bool->Prop):(∃(y2:Bool),Dm.fn ((↑p.length:Int),(1:Int),(20:Int),())=some y2/\Br (!y2) (P false) (Cz (λ(v3:Int×PUnit) (k4:Int×PUnit->Prop)=>Br (decide (v3.1<(↑p.length:Int))) (∃(y5:Int),idx p v3.1=some y5/\ ∃(y6:Bool),Dm.fn (y5,(0:Int),IntKind.i64.wrap ((↑p.length:Int)-(1:Int)),())=some y6/\Br (!y6) (P false) (((0:Int)<=(0:Int)/\(0:Int)<=v3.1/\v3.1<=(↑p.length:Int))/\ ∃(y7:Int),idx p v3.1=some y7/\ ∃(y8:Bool),Qq.fn (List.drop (Int.toNat (0:Int)) (List.take v3.1.toNat p),y7,())=some y8/\Br y8 (P false) (k4 (IntKind.i64.wrap (v3.1+(1:Int)),())))) (P true)) ((0:Int),PUnit.unit)))=fnW Ej (look [(88,Dm),(100,Qq)]) Hu Tryz.f75 (p,()) P:=by kernel_rfl
theorem DU (p:List Int) (P:Bool->Prop):(∃(y2:Int),Tg.fn (p,())=some y2/\ ∃(y3:Bool),Dm.fn (y2,(1:Int),(20:Int),())=some y3/\Br (!y3) (P false) (Cz (λ(v4:Int×Int×PUnit) (k5:Int×Int×PUnit->Prop)=>Br (decide (v4.2.1<(↑p.length:Int))) (∃(y6:Int),idx p v4.2.1=some y6/\ ∃(y7:Int),Tg.fn (p,())=some y7/\ ∃(y8:Bool),Dm.fn (y6,(0:Int),IntKind.i64.wrap (y7-(1:Int)),())=some y8/\Br (!y8) (P false) (¬y6<(0:Int)/\k5 (IntKind.i64.wrap (↑(BitVec.ofInt IntKind.i64.bits v4.1|||BitVec.ofInt IntKind.i64.bits (IntKind.i64.wrap ((1:Int)*(2:Int)^min y6.toNat IntKind.i64.bits))).toNat:Int),IntKind.i64.wrap (v4.2.1+(1:Int)),()))) (¬(↑p.length:Int)<(0:Int)/\P (v4.1==IntKind.i64.wrap (IntKind.i64.wrap ((1:Int)*(2:Int)^min (↑p.length:Int).toNat IntKind.i64.bits)-(1:Int))))) ((0:Int),(0:Int),PUnit.unit)))=fnW Ej (look [(90,Dm),(119,Tg)]) Hu Tryz.f134 (p,()) P:=by kernel_rfl
theorem DY (n:Int) (g:List (List Int)) (P:Bool->Prop):(∃(y3:Bool),Dm.fn (n,(1:Int),(20:Int),())=some y3/\Br (!y3) (P false) (Br (decide ((↑g.length:Int)>(8:Int))) (P false) (Cz (λ(v4:Int×PUnit) (k5:Int×PUnit->Prop)=>Br (decide (v4.1<(↑g.length:Int))) (∃(y6:List Int),idx g v4.1=some y6/\Br ((↑y6.length:Int) !=n) (P false) (∃(y7:List Int),idx g v4.1=some y7/\ ∃(y8:Bool),Hu.fn (y7,())=some y8/\Br (!y8) (P false) (k5 (IntKind.i64.wrap (v4.1+(1:Int)),())))) (P true)) ((0:Int),PUnit.unit))))=fnW Ej (look [(88,Dm),(75,Hu)]) Mr Tryz.f123 (n,g,()) P:=by kernel_rfl
theorem Ag9 (p:List Int) (n:Int) (P:Bool->Prop):(∃(y3:Int),Tg.fn (p,())=some y3/\Br (y3 !=n) (P true) (∃(y4:Bool),Hu.fn (p,())=some y4/\P !y4))=fnW Ej (look [(119,Tg),(134,Hu)]) kE Tryz.f136 (p,n,()) P:=by kernel_rfl
theorem Aq4 (g:List (List Int)) (n:Int×Unit) (P:Int->Prop):(Cz (λ(v3:Int×PUnit) (k4:Int×PUnit->Prop)=>Br (decide (v3.1<(↑g.length:Int))) (∃(y5:List Int),idx g v3.1=some y5/\ ∃(y6:Bool),kE.fn (y5,n.1,())=some y6/\Br y6 (P v3.1) (k4 (IntKind.i64.wrap (v3.1+(1:Int)),()))) (P (-1:Int))) ((0:Int),PUnit.unit))=fnW Ej (look [(136,kE)]) zf Tryz.f150 (g,n,()) P:=by kernel_rfl
theorem Aq0 (g:List (List Int)) (n:Int×Unit) (P:Bool->Prop):(∃(y3:Int),zf.fn (g,n,())=some y3/\P (decide (y3>=(0:Int))))=fnW Ej (look [(150,zf)]) zd Tryz.f135 (g,n,()) P:=by kernel_rfl
theorem DT (n:Int) (g:List (List Int)) (P:Bool->Prop):(∃(y3:Bool),Dm.fn (n,(1:Int),(20:Int),())=some y3/\Br y3 (Br (decide ((↑g.length:Int)<=(8:Int))) (∃(y4:Bool),zd.fn (g,(n,()),())=some y4/\P !y4) (P false)) (P false))=fnW Ej (look [(90,Dm),(135,zd)]) Mr Tryz.f110 (n,g,()) P:=by kernel_rfl
theorem Adh (s:ByteArray) (i:Int) (P:Bool->Prop):((0:Int)<=i/\ ∃(y3:UInt8),s[i.toNat]?=some y3/\Br (decide ((↑y3.toNat:Int)<(65:Int))) (P false) ((0:Int)<=i/\ ∃(y4:UInt8),s[i.toNat]?=some y4/\Br (decide ((↑y4.toNat:Int)>(90:Int))) (P false) (Cz (λ(v5:Int×PUnit) (k6:Int×PUnit->Prop)=>Br (decide (v5.1<i)) ((0:Int)<=v5.1/\ ∃(y7:UInt8),s[v5.1.toNat]?=some y7/\(0:Int)<=i/\ ∃(y8:UInt8),s[i.toNat]?=some y8/\Br ((↑y7.toNat:Int)==(↑y8.toNat:Int)) (P false) (k6 (IntKind.i64.wrap (v5.1+(1:Int)),()))) (P true)) ((0:Int),PUnit.unit))))=fnW Ej (look []) eG Tryz.f124 (s,i,()) P:=by kernel_rfl
theorem XY (s:ByteArray) (P:Bool->Prop):(Cz (λ(v2:Int×PUnit) (k3:Int×PUnit->Prop)=>Br (decide (v2.1<(↑s.size:Int))) ((0:Int)<=v2.1/\ ∃(y4:UInt8),s[v2.1.toNat]?=some y4/\ ∃(y5:Bool),Dm.fn (IntKind.i64.wrap (↑y4.toNat:Int),(65:Int),(90:Int),())=some y5/\Br (!y5) (P false) (Cz (λ(v6:Int×PUnit) (k7:Int×PUnit->Prop)=>Br (decide (v6.1<v2.1)) ((0:Int)<=v6.1/\ ∃(y8:UInt8),s[v6.1.toNat]?=some y8/\(0:Int)<=v2.1/\ ∃(y9:UInt8),s[v2.1.toNat]?=some y9/\Br ((↑y8.toNat:Int)==(↑y9.toNat:Int)) (P false) (k7 (IntKind.i64.wrap (v6.1+(1:Int)),()))) (k3 (IntKind.i64.wrap (v2.1+(1:Int)),()))) ((0:Int),PUnit.unit))) (∃(y4:Bool),Dm.fn ((↑s.size:Int),(1:Int),(8:Int),())=some y4/\P y4)) ((0:Int),PUnit.unit))=fnW Ej (look [(90,Dm)]) bB Tryz.f111 (s,()) P:=by kernel_rfl
abbrev lM:Type:=Int×Int×ByteArray×List (List Int)×PUnit
theorem EA (p:Int×ByteArray×List (List Int)×Unit) (P:Bool->Prop):(Br ((↑p.2.2.1.length:Int)==(0:Int)) (P false) (Br ((↑p.2.1.size:Int) !=(↑p.2.2.1.length:Int)) (P false) (∃(y2:Bool),Mr.fn (p.1,p.2.2.1,())=some y2/\Br (!y2) (P false) (Cz (λ(v3:lM) (k4:lM->Prop)=>Br (decide (v3.1<(↑v3.2.2.1.size:Int))) (∃(y5:Bool),eG.fn (v3.2.2.1,v3.1,())=some y5/\Br (!y5) (P false) (k4 (IntKind.i64.wrap (v3.1+(1:Int)),v3.2.1,v3.2.2.1,v3.2.2.2.1,()))) (P true)) ((0:Int),p.1,p.2.1,p.2.2.1,PUnit.unit)))))=fnW Ej (look [(123,Mr),(124,eG)]) Hv Tryz.f93 (p,()) P:=by kernel_rfl
theorem DV (p:Int×ByteArray×List (List Int)×Unit) (P:Bool->Prop):(∃(y2:Bool),Mr.fn (p.1,p.2.2.1,())=some y2/\Br y2 (∃(y3:Bool),bB.fn (p.2.1,())=some y3/\Br y3 (P ((↑p.2.1.size:Int)==(↑p.2.2.1.length:Int))) (P false)) (P false))=fnW Ej (look [(110,Mr),(111,bB)]) Hv Tryz.f84 (p,()) P:=by kernel_rfl
theorem Aq7 (p:Int×ByteArray×List (List Int)×Unit) (room:Int) (P:Int->Prop):(Br (decide (IntKind.i64.wrap (room-(↑p.2.1.size:Int))<(0:Int))) (P (-1:Int)) (∃(y3:Int),fR.fn (p.2.2.1,IntKind.i64.wrap (room-(↑p.2.1.size:Int)),())=some y3/\Br (decide (y3<(0:Int))) (P (-1:Int)) (P y3)))=fnW Ej (look [(45,fR)]) zg Tryz.f13 (p,room,()) P:=by kernel_rfl
theorem Aq9 (p:Int×ByteArray×List (List Int)×Unit) (P:(Int×ByteArray×List (List Int)×Unit)->Prop):(∃(y2:List (List Int)),fS.fn (p.2.2.1,())=some y2/\P (p.1,p.2.1,y2,()))=fnW Ej (look [(49,fS)]) zh Tryz.f16 (p,()) P:=by kernel_rfl
theorem Aq2 (a b:Int×ByteArray×List (List Int)×Unit) (P:Bool->Prop):(Br (a.1 !=b.1) (P false) (Br (!a.2.1.toList==b.2.1.toList) (P false) (∃(y3:Bool),Uy.fn (a.2.2.1,b.2.2.1,())=some y3/\Br (!y3) (P false) (P true))))=fnW Ej (look [(53,Uy)]) ze Tryz.f20 (a,b,()) P:=by kernel_rfl
abbrev rM:Type:=Int×List Int×List (List Int)×List Int×PUnit
theorem RJ (t:List Int×List (List Int)×List Int×Unit) (xs:List Int) (P:Int->Prop):(Cz (λ(v3:rM) (k4:rM->Prop)=>Br (decide (v3.1<(↑v3.2.2.1.length:Int))) (∃(y5:List Int),idx v3.2.2.1 v3.1=some y5/\ ∃(y6:Bool),Bo.fn (y5,xs,())=some y6/\Br y6 (P v3.1) (k4 (IntKind.i64.wrap (v3.1+(1:Int)),v3.2.1,v3.2.2.1,v3.2.2.2.1,()))) (P (-1:Int))) ((0:Int),t.1,t.2.1,t.2.2.1,PUnit.unit))=fnW Ej (look [(101,Bo)]) Uz Tryz.f77 (t,xs,()) P:=by kernel_rfl
theorem Akx (xs:List Int) (_:True):fnW Ej (look []) Tg Tryz.f119 (xs,()) (λ(z:Int)=>z=(xs.length:Int)):=Eq.mp (Alq xs _) rfl
theorem fT:Sound Tryz.prog 119 Tg:=
 Sound.En Db Bg mixed Tryz.func119 (by kernel_rfl) (by kernel_rfl) λx h=>Akx x.1 h
theorem DD {α:Type} [DecidableEq α]: ∀(l m:List α),l.Nodup->(∀x∈l,x∈m)->l.length<=m.length
 | [],m,_,_=>Iq _
 |a::l,m,hn,hs=>by
  have ha:a∈m:=hs a (Iw ..)
  have hn:=Cd.1 hn
  have:=DD l (m.erase a) hn.2 λx hx=>(List.mem_erase_of_ne (λ(e:x=a)=>hn.1 (by rw [<-e];exact hx))).2 (hs x (At _ hx))
  rw [List.length_erase_of_mem ha] at this
  have:0<m.length:=List.length_pos_of_mem ha
  simp only [Az]
  omega
def upto (n:Nat):List Int:=(List.range n).map Int.ofNat
theorem QR (n:Nat):(upto n).Nodup:=by
 unfold upto
 exact List.Pairwise.map _ (λa b iU e=>iU (Int.ofNat.inj e)) List.nodup_range
theorem a9 {n:Nat} {x:Int} :x∈upto n↔0<=x/\x<n:=by
 unfold upto
 simp only [Bj,Gh]
 constructor
 ·rintro ⟨a,ha,rfl⟩;exact ⟨Int.natCast_nonneg _,Int.ofNat_lt.2 ha⟩
 ·rintro ⟨h1,h2⟩;exact ⟨x.toNat,by omega,by simp only [Int.ofNat_eq_natCast];omega⟩
theorem jO (n:Nat):(upto n).length=n:=by simp [upto]
theorem jd {xs:List Int} (h: ∀j (hj:j<xs.length),xs[j]∉xs.take j):xs.Nodup:=by
 refine Ey.2 λi j hi hj iW e=>h j hj ?_
 rw [<-e]
 exact List.mem_take_iff_getElem.2 ⟨i,by omega,rfl⟩
theorem wo {xs:List Int} (h:xs.Nodup): ∀j (hj:j<xs.length),xs[j]∉xs.take j:=by
 intro j hj hm
 obtain ⟨i,hi,e⟩:=List.mem_take_iff_getElem.1 hm
 exact Ey.1 h i j (by omega) hj (by omega) e
theorem dr {xs:List Int} (h: ∀x∈xs,0<=x/\x<xs.length):(∀k:Nat,k<xs.length->(k:Int)∈xs)↔ ∀j (hj:j<xs.length),xs[j]∉xs.take j:=by
 constructor
 ·intro ha j hj hm
  have h1:=DD (upto xs.length) (xs.take j++xs.drop (j+1)) (QR _) λx hx=>by
   obtain ⟨h1,h2⟩:=a9.1 hx
   have hx:=ha x.toNat (by omega)
   rw [show ((x.toNat:Nat):Int)=x by omega] at hx
   rw [<-Ie j xs,Bb,Cn hj,Be] at hx
   rcases hx with hx|rfl|hx
   ·exact Bc _ hx
   ·exact Bc _ hm
   ·exact Bu _ hx
  rw [jO,Ax,De,List.length_drop] at h1
  omega
 ·intro hn k hk
  refine Ce λhc=>?_
  have h1:=DD xs ((upto xs.length).erase (k:Int)) (jd hn) λx hx=>by
   refine (List.mem_erase_of_ne λ(e:x=(k:Int))=>hc (by rw [<-e];exact hx)).2 (a9.2 (h x hx))
  rw [List.length_erase_of_mem (a9.2 ⟨by omega,by omega⟩),jO] at h1
  omega
def mask (xs:List Int):Nat:=xs.foldl (λm x=>m|||2^x.toNat) 0
theorem VO (xs:List Int) (x:Int):mask (xs++ [x])=mask xs|||2^x.toNat:=by simp [mask]
theorem BF (xs:List Int) (k:Nat): ∀a:Nat,(xs.foldl (λm x=>m|||2^x.toNat) a).testBit k=(a.testBit k||xs.any λx=>decide (x.toNat=k)):=by
 induction xs with
 |nil=>simp
 |cons x xs ih=>
  intro a
  rw [Ig,ih,Nat.testBit_or,Nat.testBit_two_pow,List.any_cons,Bool.or_assoc]
theorem uJ (xs:List Int) (k:Nat):(mask xs).testBit k=xs.any λx=>decide (x.toNat=k):=by
 unfold mask
 rw [BF,Nat.zero_testBit,Pg]
theorem Af9 {xs:List Int} {n:Nat} (h: ∀x∈xs,x.toNat<n):mask xs<2^n:=by
 refine Nat.lt_pow_two_of_testBit _ λk hk=>?_
 rw [uJ]
 refine Jm.2 λht=>?_
 obtain ⟨x,hx,he⟩:=Kk.1 ht
 have:=h x hx
 have:=Gt he
 omega
theorem yS {xs:List Int} (h: ∀x∈xs,0<=x/\x<xs.length):mask xs=2^xs.length-1↔ ∀k:Nat,k<xs.length->(k:Int)∈xs:=by
 constructor
 ·intro e k hk
  have h1:=uJ xs k
  rw [e,Nat.testBit_two_pow_sub_one,Fu hk] at h1
  obtain ⟨x,hx,he⟩:=Kk.1 h1.symm
  have:=(h x hx).1
  have:=Gt he
  have e:x=(k:Int):=by omega
  exact e▸hx
 ·intro ha
  refine Nat.eq_of_testBit_eq λk=>?_
  rw [uJ,Nat.testBit_two_pow_sub_one]
  by_cases hk:k<xs.length
  ·rw [Fu hk]
   exact Kk.2 ⟨k,ha k hk,by simp⟩
  ·rw [Dr hk]
   refine Jm.2 λht=>?_
   obtain ⟨x,hx,he⟩:=Kk.1 ht
   have:=h x hx
   have:=Gt he
   omega
theorem Aff {m:Nat} {x:Int} (hm:m<2^20) (h0:0<=x) (h1:x<20):
  IntKind.i64.wrap (((BitVec.ofInt IntKind.i64.bits (m:Int)|||BitVec.ofInt IntKind.i64.bits (IntKind.i64.wrap ((1:Int)*(2:Int)^min x.toNat IntKind.i64.bits))).toNat:Nat):Int)=((m|||2^x.toNat:Nat):Int):=by
 have hx:(2:Nat)^x.toNat<2^20:=Nat.pow_lt_pow_right (by omega) (by omega)
 have e1:min x.toNat IntKind.i64.bits=x.toNat:=by show min x.toNat 64=_;omega
 have e2:(1:Int)*(2:Int)^x.toNat=((2^x.toNat:Nat):Int):=by rw [Int.one_mul];exact (Int.natCast_pow 2 _).symm
 rw [e1,e2,Dk (n:=((2^x.toNat:Nat):Int)) (by have:(0:Int)<=((2^x.toNat:Nat):Int):=Int.natCast_nonneg _;omega) (by omega)]
 show IntKind.i64.wrap (((BitVec.ofInt 64 (m:Int)|||BitVec.ofInt 64 ((2^x.toNat:Nat):Int)).toNat:Nat):Int)=_
 rw [BitVec.ofInt_natCast,BitVec.ofInt_natCast,BitVec.toNat_or,BitVec.toNat_ofNat,BitVec.toNat_ofNat,Nat.mod_eq_of_lt (by omega),Nat.mod_eq_of_lt (by omega)]
 have:=Nat.or_lt_two_pow hm hx
 exact Dk (by omega) (by omega)
theorem BQ (p:List Int) (h:short p):fnW Ej (look [(88,Dm),(100,Qq)]) Hu Tryz.f75 (p,()) (λ(z:Bool)=>z=Jo p):=by
 have hs:=h
 unfold short at h
 refine Eq.mp (DZ p _) ⟨_,Ab trivial,⟨λhp=>?_,λhp=>?_⟩⟩
 ·have hp:=Eu hp
  rw [Fp] at hp
  dsimp only at hp
  exact Dl λhh=>hp ⟨by omega,by omega⟩
 ·have hp:=Ha hp
  rw [Fp] at hp
  dsimp only at hp
  refine Bf p.length (λv=>v.1) (λj _=>DL p.length p j) rfl (λj _ hj=>absurd hj (Dq _)) ?_
  rintro j ⟨i,⟨⟩⟩ K hj hi hR hK
  dsimp only at hi⊢
  subst hi
  refine Br.dec (λhl=>?_) λhl=>?_
  ·have hl:j<p.length:=by omega
   refine ⟨_,Bq hl,_,Ab trivial,⟨λhq=>?_,λhq=>?_⟩⟩
   ·have hq:=Eu hq
    rw [Fp,Dk (by omega) (by omega)] at hq
    exact Dl λhh=>hq ⟨(hh.2.2 j hl hl).1,(hh.2.2 j hl hl).2.1⟩
   ·have hq:=Ha hq
    rw [Fp,Dk (by omega) (by omega)] at hq
    refine ⟨⟨by omega,by omega,by omega⟩,_,Bq hl,?_⟩
    rw [show (Int.toNat 0)=0 from rfl,Dn,Ai]
    refine ⟨_,Ab (PW hs j),⟨λhc=>?_,λhc=>?_⟩⟩
    ·have hc:decide (p[j]∈p.take j)=true:=hc
     rw [Ka] at hc
     exact Dl λhh=>(hh.2.2 j hl hl).2.2 hc
    ·have hc:decide (p[j]∈p.take j)=false:=hc
     rw [decide_eq_false_iff_not] at hc
     rw [Bh (by omega)]
     exact hK hl _ rfl (Aec hl hR hq.1 hq.2 hc)
  ·have:j=p.length:=by omega
   subst this
   exact Ou ⟨by omega,by omega,hR⟩
theorem Sv:Sound Tryz.prog 75 Hu:=
 Sound.En Db (Av Zq (Av oB Bg)) mixed Tryz.func75 (by kernel_rfl) (by kernel_rfl) λx h=>BQ x.1 h
theorem BL (p:List Int) (h:short p):fnW Ej (look [(90,Dm),(119,Tg)]) Hu Tryz.f134 (p,()) (λ(z:Bool)=>z=Jo p):=by
 unfold short at h
 refine Eq.mp (DU p _) ⟨_,Ab trivial,_,Ab trivial,⟨λhp=>?_,λhp=>?_⟩⟩
 ·have hp:=Eu hp
  rw [Fp] at hp
  dsimp only at hp
  exact Dl λhh=>hp ⟨by omega,by omega⟩
 ·have hp:=Ha hp
  rw [Fp] at hp
  dsimp only at hp
  refine Bf p.length (λv=>v.2.1) (λj v=>v.1=(mask (p.take j):Int)/\ ∀x∈p.take j,0<=x/\x<p.length) rfl ⟨rfl,by simp⟩ ?_
  rintro j ⟨m,i,⟨⟩⟩ K hj hi ⟨hm,hR⟩ hK
  dsimp only at hi hm⊢
  subst hi hm
  refine Br.dec (λhl=>?_) λhl=>?_
  ·have hl:j<p.length:=by omega
   refine ⟨_,Bq hl,_,Ab trivial,_,Ab trivial,⟨λhq=>?_,λhq=>?_⟩⟩
   ·have hq:=Eu hq
    rw [Fp] at hq
    dsimp only at hq
    rw [Dk (by omega) (by omega)] at hq
    exact Dl λhh=>hq ⟨(hh.2.2 j hl hl).1,(hh.2.2 j hl hl).2.1⟩
   ·have hq:=Ha hq
    rw [Fp] at hq
    dsimp only at hq
    rw [Dk (by omega) (by omega)] at hq
    refine ⟨by omega,?_⟩
    rw [Bh (by omega)]
    have hb:mask (p.take j)<2^20:=Af9 λx hx=>by have:=hR x hx;omega
    refine hK hl _ rfl ⟨?_,?_⟩
    ·dsimp only
     rw [Aff hb hq.1 (by omega),Ay hl,VO]
    ·rw [Ay hl]
     intro x hx
     rcases Bb.1 hx with hx|hx
     ·exact hR x hx
     ·rw [Ae.1 hx];omega
  ·have:j=p.length:=by omega
   subst this
   rw [Ap] at hR⊢
   refine ⟨by omega,?_⟩
   have hx:(2:Nat)^p.length<=2^20:=Nat.pow_le_pow_right (by omega) (by omega)
   have UZ:0<(2:Nat)^p.length:=Nat.two_pow_pos _
   have e1:min (p.length:Int).toNat IntKind.i64.bits=p.length:=by show min (p.length:Int).toNat 64=_;omega
   have e2:(1:Int)*(2:Int)^p.length=((2^p.length:Nat):Int):=by rw [Int.one_mul];exact (Int.natCast_pow 2 _).symm
   rw [e1,e2,Dk (n:=((2^p.length:Nat):Int)) (by omega) (by omega),Dk (by omega) (by omega)]
   have hE:((mask p:Int)==((2^p.length:Nat):Int)-1)=decide (mask p=2^p.length-1):=by
    rw [Bool.eq_iff_iff,Xd,Ka]
    omega
   show ((mask p:Int)==((2^p.length:Nat):Int)-1)=Jo p
   rw [hE]
   by_cases hf:mask p=2^p.length-1
   ·rw [Fu hf]
    have hn:=(dr hR).1 ((yS hR).1 hf)
    refine Ou ⟨by omega,by omega,λj hj _=>?_⟩
    have:=hR _ (Aj hj)
    exact ⟨this.1,by omega,hn j hj⟩
   ·rw [Dr hf]
    refine Dl λhh=>hf ((yS hR).2 ((dr hR).2 λj hj=>(hh.2.2 j hj hj).2.2))
theorem eK:Sound Tryz.prog 134 Hu:=
 Sound.En Db (Av Wx (Av fT Bg)) mixed Tryz.func134 (by kernel_rfl) (by kernel_rfl) λx h=>BL x.1 h
theorem BP (n:Int) (g:List (List Int)) (h:Hc g):fnW Ej (look [(88,Dm),(75,Hu)]) Mr Tryz.f123 (n,g,()) (λ(z:Bool)=>z=Ru n g):=by
 obtain ⟨h,h4⟩:=h
 refine Eq.mp (DY n g _) ⟨_,Ab trivial,⟨λhp=>?_,λhp=>?_⟩⟩
 ·have hp:=Eu hp
  rw [Fp] at hp
  exact Dl λhh=>hp hh.1
 ·have hp:=Ha hp
  rw [Fp] at hp
  refine Br.dec (λhg=>?_) λhg=>?_
  ·exact Dl λhh=>by have:=hh.2.1;omega
  ·refine Bf g.length (λv=>v.1) (λj _=> ∀p∈g.take j,Gl n p=true) rfl (by simp) ?_
   rintro j ⟨i,⟨⟩⟩ K hj hi hR hK
   dsimp only at hi⊢
   subst hi
   refine Br.dec (λhl=>?_) λhl=>?_
   ·have hl:j<g.length:=by omega
    have hm:g[j]∈g:=Aj hl
    refine ⟨_,Bq hl,⟨λhe=>?_,λhe=>?_⟩⟩
    ·simp only [Xe,ne_eq] at he
     exact Dl λhh=>he (Hq.1 (hh.2.2 _ hm)).1
    ·simp only [Hf] at he
     refine ⟨_,Bq hl,_,Ab (h4 _ hm),⟨λhq=>?_,λhq=>?_⟩⟩
     ·have hq:=Eu hq
      exact Dl λhh=>hq (Hq.1 (hh.2.2 _ hm)).2
     ·have hq:=Ha hq
      rw [Bh (by omega)]
      refine hK hl _ rfl ?_
      rw [Ay hl]
      intro x hx
      rcases Bb.1 hx with hx|hx
      ·exact hR x hx
      ·rw [Ae.1 hx];exact Hq.2 ⟨he,hq⟩
   ·have:j=g.length:=by omega
    subst this
    rw [Ap] at hR
    exact Ou ⟨hp,by omega,hR⟩
theorem eL:Sound Tryz.prog 123 Mr:=
 Sound.En Db (Av Zq (Av Sv Bg)) mixed Tryz.func123 (by kernel_rfl) (by kernel_rfl) λx h=>BP x.1 x.2.1 h
theorem Afh (p:List Int) (n:Int) (h:short p):fnW Ej (look [(119,Tg),(134,Hu)]) kE Tryz.f136 (p,n,()) (λ(z:Bool)=>z=!Gl n p):=by
 refine Eq.mp (Ag9 p n _) ⟨_,Ab trivial,⟨λhe=>?_,λhe=>⟨_,Ab h,?_⟩⟩⟩
 ·simp only [Xe,ne_eq] at he
  have:Gl n p=false:=Aeb.2 λhh=>he hh.1
  rw [this];rfl
 ·simp only [Hf] at he
  show (!Jo p)=_
  congr 1
  cases hp:Jo p with
  |true=>exact Ou ⟨he,hp⟩
  |false=>exact Dl λhh=>by rw [hh.2] at hp;cases hp
theorem JJ:Sound Tryz.prog 136 kE:=
 Sound.En Db (Av fT (Av eK Bg)) mixed Tryz.func136 (by kernel_rfl) (by kernel_rfl) λx h=>Afh x.1 x.2.1 h
theorem r9 {α:Type} (P:α->Bool): ∀(l:List α) (i:Int),0<=i->(0<=Hs P l i↔l.any P=true)
 | [],i,_=>by simp [Hs]
 |y::r,i,h=>by
  simp only [Hs,List.any_cons,Kb]
  split
  ·rename_i hy;simp [hy,h]
  ·rename_i hy;rw [r9 P r (i+1) (by omega)];simp [hy]
theorem Apf (g:List (List Int)) (n:Int×Unit) (h:Hc g):fnW Ej (look [(136,kE)]) zf Tryz.f150 (g,n,()) (λ(z:Int)=>z=Hs (λp=>!Gl n.1 p) g 0):=by
 obtain ⟨h,h4⟩:=h
 refine Eq.mp (Aq4 g n _) ?_
 refine Bf g.length (λv=>v.1) (λj _=>Hs (λp=>!Gl n.1 p) (g.drop j) j=Hs (λp=>!Gl n.1 p) g 0) rfl (by simp) ?_
 rintro j ⟨i,⟨⟩⟩ K hj hi hR hK
 dsimp only at hi⊢
 subst hi
 refine Br.dec (λhl=>?_) λhl=>?_
 ·have hl:j<g.length:=by omega
  rw [Cn hl] at hR
  simp only [Hs] at hR
  refine ⟨_,Bq hl,_,Ab (h4 _ (Aj hl)),⟨λhe=>?_,λhe=>?_⟩⟩
  ·have he:(!Gl n.1 g[j])=true:=he
   rw [Ab he] at hR
   exact hR
  ·have he:(!Gl n.1 g[j])=false:=he
   rw [Ag (by rw [he];decide)] at hR
   rw [Bh (by omega)]
   exact hK hl _ rfl (by push_cast;exact hR)
 ·have:j=g.length:=by omega
  subst this
  rw [Ij] at hR
  exact hR
theorem XE:Sound Tryz.prog 150 zf:=
 Sound.En Db (Av JJ Bg) mixed Tryz.func150 (by kernel_rfl) (by kernel_rfl) λx h=>Apf x.1 x.2.1 h
theorem Apb (g:List (List Int)) (n:Int×Unit) (h:Hc g):fnW Ej (look [(150,zf)]) zd Tryz.f135 (g,n,()) (λ(z:Bool)=>z=List.any g (λp=>!Gl n.1 p)):=by
 refine Eq.mp (Aq0 g n _) ⟨_,Ab h,?_⟩
 rw [Bool.eq_iff_iff,Ka]
 exact r9 _ g 0 (Nx 0)
theorem XC:Sound Tryz.prog 135 zd:=
 Sound.En Db (Av XE Bg) mixed Tryz.func135 (by kernel_rfl) (by kernel_rfl) λx h=>Apb x.1 x.2.1 h
theorem BK (n:Int) (g:List (List Int)) (h:Hc g):fnW Ej (look [(90,Dm),(135,zd)]) Mr Tryz.f110 (n,g,()) (λ(z:Bool)=>z=Ru n g):=by
 refine Eq.mp (DT n g _) ⟨_,Ab trivial,⟨λhp=>?_,λhp=>?_⟩⟩
 ·have hp:Oy n 1 20=true:=hp
  rw [Fp] at hp
  refine Br.dec (λhl=>⟨_,Ab h,?_⟩) λhl=>?_
  ·show (!List.any g (λp=>!Gl n p))=Ru n g
   cases ha:List.any g (λp=>!Gl n p) with
   |true=>
    obtain ⟨p,yE,SP⟩:=Kk.1 ha
    exact Dl λhh=>by rw [hh.2.2 p yE] at SP;cases SP
   |false=>
    refine Ou ⟨hp,by omega,λp hm=>?_⟩
    have:=List.any_eq_false.1 ha p hm
    simpa using this
  ·exact Dl λhh=>by have:=hh.2.1;omega
 ·refine Dl λhh=>?_
  have:Oy n 1 20=true:=Fp.2 hh.1
  have hp:Oy n 1 20=false:=hp
  rw [this] at hp;cases hp
theorem qh:Sound Tryz.prog 110 Mr:=
 Sound.En Db (Av Wx (Av XC Bg)) mixed Tryz.func110 (by kernel_rfl) (by kernel_rfl) λx h=>BK x.1 x.2.1 h
theorem Mu {s:ByteArray} {k:Nat} (h:k<s.size):s[k]?=some s[k]:=getElem?_pos s k h
theorem Abx (s:ByteArray) (i:Int) (h:0<=i/\i<s.size/\s.size<=4294967296):fnW Ej (look []) eG Tryz.f124 (s,i,()) (λ(z:Bool)=>z=nY s i):=by
 obtain ⟨h1,h2,h3⟩:=h
 have hi:i.toNat<s.size:=by omega
 refine Eq.mp (Adh s i _) ⟨h1,_,Mu hi,Br.dec (λhq=>?_) λhq=>⟨h1,_,Mu hi,Br.dec (λhr=>?_) λhr=>?_⟩⟩
 ·refine Dl λ⟨c,hc,hc1,_⟩=>?_
  rw [Mu hi] at hc;cases hc;omega
 ·refine Dl λ⟨c,hc,_,hc1,_⟩=>?_
  rw [Mu hi] at hc;cases hc;omega
 ·refine Bf i.toNat (λv=>v.1) (λj _=> ∀k,k<j->s[k]?≠some s[i.toNat]) rfl (λk hk=>absurd hk (Dq _)) ?_
  rintro j ⟨i',⟨⟩⟩ K hj nK hR hK
  dsimp only at nK⊢
  subst nK
  refine Br.dec (λhl=>?_) λhl=>?_
  ·have hl:j<i.toNat:=by omega
   have hj:j<s.size:=by omega
   rw [Ai]
   refine ⟨by omega,_,Mu hj,h1,_,Mu hi,⟨λhe=>?_,λhe=>?_⟩⟩
   ·simp only [Xd,Gb] at he
    refine Dl λ⟨c,hc,_,_,hc1⟩=>?_
    rw [Mu hi] at hc;cases hc
    exact hc1 j hl (by rw [Mu hj,UInt8.toNat_inj.1 he])
   ·simp only [Np,ne_eq,Gb] at he
    rw [Bh (by omega)]
    refine hK hl _ rfl λk hk=>?_
    by_cases e:k=j
    ·subst e
     rw [Mu hj]
     exact λe=>he (by rw [Ba e])
    ·exact hR k (by omega)
  ·have:j=i.toNat:=by omega
   subst this
   exact Ou ⟨_,Mu hi,by omega,by omega,hR⟩
theorem CS:Sound Tryz.prog 124 eG:=
 Sound.En Db Bg mixed Tryz.func124 (by kernel_rfl) (by kernel_rfl) λx h=>Abx x.1 x.2.1 h
theorem VX (s:ByteArray) (h:s.size<=4294967296):fnW Ej (look [(90,Dm)]) bB Tryz.f111 (s,()) (λ(z:Bool)=>z=eo s):=by
 refine Eq.mp (XY s _) ?_
 refine Bf s.size (λv=>v.1) (λj _=> ∀k,k<j->zy s k) rfl (λk hk=>absurd hk (Dq _)) ?_
 rintro j ⟨i,⟨⟩⟩ K hj hi hR hK
 dsimp only at hi⊢
 subst hi
 refine Br.dec (λhl=>?_) λhl=>?_
 ·have hl:j<s.size:=by omega
  rw [Ai]
  have hb:=(s[j]).toNat_lt
  refine ⟨by omega,_,Mu hl,_,Ab trivial,⟨λhq=>?_,λhq=>?_⟩⟩
  ·have hq:=Eu hq
   rw [Fp] at hq
   dsimp only at hq
   rw [Dk (by omega) (by omega)] at hq
   refine Dl λhh=>?_
   obtain ⟨c,hc,hc1,hc2,_⟩:=hh.2 j hl
   rw [Mu hl] at hc;cases hc
   exact hq ⟨by omega,by omega⟩
  ·have hq:=Ha hq
   rw [Fp] at hq
   dsimp only at hq
   rw [Dk (by omega) (by omega)] at hq
   refine Bf j (λv=>v.1) (λm _=> ∀k,k<m->s[k]?≠some s[j]) rfl (λk hk=>absurd hk (Dq _)) ?_
   rintro m ⟨i',⟨⟩⟩ K' hm nK hR' hK'
   dsimp only at nK⊢
   subst nK
   refine Br.dec (λKn=>?_) λKn=>?_
   ·have Kn:m<j:=by omega
    have GL:m<s.size:=by omega
    rw [Ai]
    refine ⟨by omega,_,Mu GL,by omega,_,Mu hl,⟨λhe=>?_,λhe=>?_⟩⟩
    ·simp only [Xd,Gb] at he
     refine Dl λhh=>?_
     obtain ⟨c,hc,_,_,hc1⟩:=hh.2 j hl
     rw [Mu hl] at hc;cases hc
     exact hc1 m Kn (by rw [Mu GL,UInt8.toNat_inj.1 he])
    ·simp only [Np,ne_eq,Gb] at he
     rw [Bh (by omega)]
     refine hK' Kn _ rfl λk hk=>?_
     by_cases e:k=m
     ·subst e
      rw [Mu GL]
      exact λe=>he (by rw [Ba e])
     ·exact hR' k (by omega)
   ·have:m=j:=by omega
    subst this
    rw [Bh (by omega)]
    refine hK hl _ rfl λk hk=>?_
    by_cases e:k=m
    ·subst e
     exact ⟨_,Mu hl,by omega,by omega,hR'⟩
    ·exact hR k (by omega)
 ·have:j=s.size:=by omega
  subst this
  refine ⟨_,Ab trivial,?_⟩
  show Oy s.size 1 8=_
  cases hr:Oy s.size 1 8 with
  |true=>rw [Fp] at hr;exact Ou ⟨by omega,hR⟩
  |false=>refine Dl λhh=>?_;rw [Fp.2 ⟨by omega,by omega⟩] at hr;cases hr
theorem xA:Sound Tryz.prog 111 bB:=
 Sound.En Db (Av Wx Bg) mixed Tryz.func111 (by kernel_rfl) (by kernel_rfl) λx h=>VX x.1 h
theorem QS {p:PP} (h:Ea p=true):1<=p.1/\p.1<=20/\1<=p.2.2.1.length/\p.2.2.1.length<=8:=by
 obtain ⟨h1,h2,h3⟩:=Hq.1 h
 obtain ⟨h4,h5,_⟩:=Hq.1 h1
 obtain ⟨h6,_⟩:=Hq.1 h2
 omega
theorem BR (p:PP) (h:Ei p):fnW Ej (look [(123,Mr),(124,eG)]) Hv Tryz.f93 (p,()) (λ(z:Bool)=>z=Ea p):=by
 obtain ⟨hn,hg⟩:=h
 refine Eq.mp (EA p _) ⟨λh0=>?_,λh0=>⟨λh1=>?_,λh1=>⟨_,Ab hg,⟨λh2=>?_,λh2=>?_⟩⟩⟩⟩
 ·simp only [Xd] at h0
  exact Dl λhh=>by obtain ⟨_,h2,h3⟩:=hh;have:=(Hq.1 h2).1;omega
 ·simp only [Xe,ne_eq,Gb] at h1
  exact Dl λhh=>h1 hh.2.2
 ·have h2:=Eu h2
  exact Dl λhh=>h2 hh.1
 ·simp only [Np,ne_eq] at h0
  simp only [Hf,Gb] at h1
  have h2:Ru p.1 p.2.2.1=true:=Ha h2
  refine Bf p.2.1.size (λv=>v.1) (λj v=>v.2=(p.1,p.2.1,p.2.2.1,())/\ ∀k,k<j->zy p.2.1 k) rfl ⟨rfl,λk hk=>absurd hk (Dq _)⟩ ?_
  rintro j ⟨i,v⟩ K hj hi ⟨hv,hR⟩ hK
  dsimp only at hi hv⊢
  subst hi hv
  dsimp only
  refine Br.dec (λhl=>?_) λhl=>?_
  ·have hl:j<p.2.1.size:=by omega
   refine ⟨_,Ab ⟨Int.natCast_nonneg j,Int.ofNat_lt.2 hl,hn⟩,⟨λhq=>?_,λhq=>?_⟩⟩
   ·have hq: ¬nY p.2.1 j=true:=Eu hq
    refine Dl λhh=>hq (Hq.2 ?_)
    rw [Ai]
    exact (Hq.1 hh.2.1).2 j hl
   ·have hq:nY p.2.1 j=true:=Ha hq
    have hq:=Hq.1 hq
    rw [Ai] at hq
    rw [Bh (by omega)]
    refine hK hl _ rfl ⟨rfl,λk hk=>?_⟩
    by_cases e:k=j
    ·subst e;exact hq
    ·exact hR k (by omega)
  ·have:j=p.2.1.size:=by omega
   subst this
   have:=(Hq.1 h2).2.1
   exact Ou ⟨h2,Hq.2 ⟨⟨by omega,by omega⟩,hR⟩,h1⟩
theorem Zc:Sound Tryz.prog 93 Hv:=
 Sound.En Db (Av eL (Av CS Bg)) mixed Tryz.func93 (by kernel_rfl) (by kernel_rfl) λx h=>BR x.1 h
theorem BM (p:PP) (h:Ei p):fnW Ej (look [(110,Mr),(111,bB)]) Hv Tryz.f84 (p,()) (λ(z:Bool)=>z=Ea p):=by
 obtain ⟨hn,hg⟩:=h
 refine Eq.mp (DV p _) ⟨_,Ab hg,⟨λh1=>⟨_,Ab hn,⟨λh2=>?_,λh2=>?_⟩⟩,λh1=>?_⟩⟩
 ·have h1:Ru p.1 p.2.2.1=true:=h1
  have h2:eo p.2.1=true:=h2
  by_cases e:p.2.1.size=p.2.2.1.length
  ·rw [e,beq_self_eq_true];exact Ou ⟨h1,h2,e⟩
  ·rw [show ((p.2.1.size:Int)==(p.2.2.1.length:Int))=false from Np.2 (by omega)];exact Dl λhh=>e hh.2.2
 ·have h2:eo p.2.1=false:=h2
  exact Dl λhh=>by rw [hh.2.1] at h2;cases h2
 ·have h1:Ru p.1 p.2.2.1=false:=h1
  exact Dl λhh=>by rw [hh.1] at h1;cases h1
theorem Zb:Sound Tryz.prog 84 Hv:=
 Sound.En Db (Av qh (Av xA Bg)) mixed Tryz.func84 (by kernel_rfl) (by kernel_rfl) λx h=>BM x.1 h
theorem Api (p:PP) (room:Int) (h:Ei p/\roomy room):fnW Ej (look [(45,fR)]) zg Tryz.f13 (p,room,()) (λ(z:Int)=>z=aQ p room):=by
 obtain ⟨⟨h1,h2⟩,h3,h4⟩:=h
 refine Eq.mp (Aq7 p room _) ?_
 rw [Dk (by omega) (by omega)]
 refine Br.dec (λhn=>?_) λhn=>⟨_,Ab ⟨h2,by dsimp only;omega,by dsimp only;omega⟩,Br.dec (λhm=>?_) λhm=>?_⟩
 ·simp only [aQ,Ab hn]
 ·exact ((Ag hn).trans (Ab hm)).symm
 ·exact ((Ag hn).trans (Ag hm)).symm
theorem XG:Sound Tryz.prog 13 zg:=
 Sound.En Db (Av w6 Bg) mixed Tryz.func13 (by kernel_rfl) (by kernel_rfl) λx h=>Api x.1 x.2.1 h
theorem Apk (p:PP) (h:Ei p):fnW Ej (look [(49,fS)]) zh Tryz.f16 (p,()) (λ(z:PP)=>z=p):=Eq.mp (Aq9 p _) ⟨_,Ab h.2,rfl⟩
theorem XH:Sound Tryz.prog 16 zh:=
 Sound.En Db (Av w8 Bg) mixed Tryz.func16 (by kernel_rfl) (by kernel_rfl) λx h=>Apk x.1 h
theorem FE {a b:ByteArray} :(a.toList==b.toList)=decide (a=b):=by
 rw [Bool.eq_iff_iff,Xd,Ka,ByteArray.toList_eq,ByteArray.toList_eq]
 exact ⟨λh=>ByteArray.ext (Array.toList_inj.1 h),λh=>by rw [h]⟩
theorem Apd (a b:PP) (h:Ei a):fnW Ej (look [(53,Uy)]) ze Tryz.f20 (a,b,()) (λ(z:Bool)=>z=r8 a b):=by
 refine Eq.mp (Aq2 a b _) ⟨λh1=>?_,λh1=>⟨λh2=>?_,λh2=>⟨_,Ab h.2,⟨λh3=>?_,λh3=>?_⟩⟩⟩⟩
 ·simp only [Xe,ne_eq] at h1
  unfold r8
  rw [Dr h1];rfl
 ·rw [FE] at h2
  unfold r8
  cases hd:decide (a.2.1=b.2.1)<;>simp_all
 ·have h3:(!Rr a.2.2.1 b.2.2.1)=true:=h3
  simp only [Rr,Eg] at h3
  unfold r8
  rw [h3];simp
 ·have h3:(!Rr a.2.2.1 b.2.2.1)=false:=h3
  rw [FE] at h2
  simp only [Rr] at h3
  simp only [Hf] at h1
  unfold r8
  simp_all
theorem XD:Sound Tryz.prog 20 ze:=
 Sound.En Db (Av vT Bg) mixed Tryz.func20 (by kernel_rfl) (by kernel_rfl) λx h=>Apd x.1 x.2.1 h
theorem NY (p:PP):r8 p p=true:=by simp [r8]
theorem PA (t:TT) (xs:List Int) (h:Oe t/\short xs):fnW Ej (look [(101,Bo)]) Uz Tryz.f77 (t,xs,()) (λ(z:Int)=>z=Hs (λp=>decide (p=xs)) t.2.1 0):=by
 obtain ⟨⟨_,⟨h,h4⟩,_⟩,_⟩:=h
 refine Eq.mp (RJ t xs _) ?_
 refine Bf t.2.1.length (λv=>v.1) (λj v=>v.2=(t.1,t.2.1,t.2.2.1,())/\Hs (λp=>decide (p=xs)) (t.2.1.drop j) j=Hs (λp=>decide (p=xs)) t.2.1 0) rfl ⟨rfl,by simp⟩ ?_
 rintro j ⟨i,v⟩ K hj hi ⟨hv,hR⟩ hK
 dsimp only at hi hv⊢
 subst hi hv
 dsimp only
 refine Br.dec (λhl=>?_) λhl=>?_
 ·have hl:j<t.2.1.length:=by omega
  rw [Cn hl] at hR
  simp only [Hs] at hR
  refine ⟨_,Bq hl,_,Ab (h4 _ (Aj hl)),⟨λhe=>?_,λhe=>?_⟩⟩
  ·have he:decide (t.2.1[j]=xs)=true:=he
   rw [Ab he] at hR
   exact hR
  ·have he:decide (t.2.1[j]=xs)=false:=he
   rw [Ag (by rw [he];decide)] at hR
   rw [Bh (by omega)]
   exact hK hl _ rfl ⟨rfl,by push_cast;exact hR⟩
 ·have:j=t.2.1.length:=by omega
  subst this
  rw [Ij] at hR
  exact hR
theorem w7:Sound Tryz.prog 77 Uz:=
 Sound.En Db (Av Um Bg) mixed Tryz.func77 (by kernel_rfl) (by kernel_rfl) λx h=>PA x.1 x.2.1 h
noncomputable abbrev eH:Spec:=En (.pair tI (.pair tL .unit)) .bool false true (λx=>short x.2.1) (λx=>Gl x.1 x.2.1)
noncomputable abbrev Ys:Spec:=En (.pair Fb (.pair tL .unit)) .bool false true (λx=>short x.2.1) (λx=>Gl x.1.1 x.2.1)
noncomputable abbrev Nn:Spec:=En (.pair Fb (.pair tL .unit)) .bool false true (λx=>Ei x.1/\short x.2.1) (λx=>Ea x.1&&Gl x.1.1 x.2.1)
theorem Adi (n:Int) (s:List Int) (P:Bool->Prop):(Br ((↑s.length:Int)==n) (∃(y3:Bool),Hu.fn (s,())=some y3/\P y3) (P false))=fnW Ej (look [(75,Hu)]) eH Tryz.f127 (n,s,()) P:=by kernel_rfl
theorem wy (p:Int×ByteArray×List (List Int)×Unit) (s:List Int) (P:Bool->Prop):(∃(y3:Int),Tg.fn (s,())=some y3/\Br (y3==p.1) (∃(y4:Bool),Hu.fn (s,())=some y4/\P y4) (P false))=fnW Ej (look [(119,Tg),(134,Hu)]) Ys Tryz.f109 (p,s,()) P:=by kernel_rfl
theorem ya (p:Int×ByteArray×List (List Int)×Unit) (s:List Int) (P:Bool->Prop):(∃(y3:Bool),Hv.fn ((p.1,p.2.1,p.2.2.1,()),())=some y3/\Br y3 (∃(y4:Bool),eH.fn (p.1,s,())=some y4/\P y4) (P false))=fnW Ej (look [(93,Hv),(127,eH)]) Nn Tryz.f95 (p,s,()) P:=by kernel_rfl
theorem xU (p:Int×ByteArray×List (List Int)×Unit) (s:List Int) (P:Bool->Prop):(∃(y3:Bool),Hv.fn ((p.1,p.2.1,p.2.2.1,()),())=some y3/\Br y3 (∃(y4:Bool),Ys.fn ((p.1,p.2.1,p.2.2.1,()),s,())=some y4/\P y4) (P false))=fnW Ej (look [(84,Hv),(109,Ys)]) Nn Tryz.f97 (p,s,()) P:=by kernel_rfl
theorem Aby (n:Int) (s:List Int) (h:short s):fnW Ej (look [(75,Hu)]) eH Tryz.f127 (n,s,()) (λ(z:Bool)=>z=Gl n s):=by
 refine Eq.mp (Adi n s _) ⟨λhe=>⟨_,Ab h,?_⟩,λhe=>?_⟩
 ·simp only [Xd] at he
  show Jo s=_
  cases hp:Jo s with
  |true=>exact Ou ⟨he,hp⟩
  |false=>exact Dl λhh=>by rw [hh.2] at hp;cases hp
 ·simp only [Np,ne_eq] at he
  exact Dl λhh=>he hh.1
theorem CT:Sound Tryz.prog 127 eH:=
 Sound.En Db (Av Sv Bg) mixed Tryz.func127 (by kernel_rfl) (by kernel_rfl) λx h=>Aby x.1 x.2.1 h
theorem uV (p:PP) (s:List Int) (h:short s):fnW Ej (look [(119,Tg),(134,Hu)]) Ys Tryz.f109 (p,s,()) (λ(z:Bool)=>z=Gl p.1 s):=by
 refine Eq.mp (wy p s _) ⟨_,Ab trivial,⟨λhe=>⟨_,Ab h,?_⟩,λhe=>?_⟩⟩
 ·simp only [Xd] at he
  show Jo s=_
  cases hp:Jo s with
  |true=>exact Ou ⟨he,hp⟩
  |false=>exact Dl λhh=>by rw [hh.2] at hp;cases hp
 ·simp only [Np,ne_eq] at he
  exact Dl λhh=>he hh.1
theorem mL:Sound Tryz.prog 109 Ys:=
 Sound.En Db (Av fT (Av eK Bg)) mixed Tryz.func109 (by kernel_rfl) (by kernel_rfl) λx h=>uV x.1 x.2.1 h
theorem xm (p:PP) (s:List Int) (h:Ei p/\short s):fnW Ej (look [(93,Hv),(127,eH)]) Nn Tryz.f95 (p,s,()) (λ(z:Bool)=>z=(Ea p&&Gl p.1 s)):=by
 refine Eq.mp (ya p s _) ⟨_,Ab h.1,⟨λhe=>⟨_,Ab h.2,?_⟩,λhe=>?_⟩⟩
 ·have he:Ea p=true:=he
  rw [he];rfl
 ·have he:Ea p=false:=he
  rw [he];rfl
theorem oH:Sound Tryz.prog 95 Nn:=
 Sound.En Db (Av Zc (Av CT Bg)) mixed Tryz.func95 (by kernel_rfl) (by kernel_rfl) λx h=>xm x.1 x.2.1 h
theorem xf (p:PP) (s:List Int) (h:Ei p/\short s):fnW Ej (look [(84,Hv),(109,Ys)]) Nn Tryz.f97 (p,s,()) (λ(z:Bool)=>z=(Ea p&&Gl p.1 s)):=by
 refine Eq.mp (xU p s _) ⟨_,Ab h.1,⟨λhe=>⟨_,Ab h.2,?_⟩,λhe=>?_⟩⟩
 ·have he:Ea p=true:=he
  rw [he];rfl
 ·have he:Ea p=false:=he
  rw [he];rfl
theorem oC:Sound Tryz.prog 97 Nn:=
 Sound.En Db (Av Zb (Av mL Bg)) mixed Tryz.func97 (by kernel_rfl) (by kernel_rfl) λx h=>xf x.1 x.2.1 h
def Nq (xs:List Int) (i:Int):Int:=xs.getD i.toNat 0
def Al (p q:List Int):List Int:=p.map (Nq q)
def cO (f:Nat->Nat) (g:Nat->Int) (m:Nat) (init:List Int):List Int:=(List.range m).foldl (λ(out:List Int) (i:Nat)=>out.set (f i) (g i)) init
def Bk (p:List Int):List Int:=cO (λi=>(Nq p (i:Int)).toNat) (λi=>(i:Int)) p.length (List.replicate p.length 0)
def Mm (n:Nat) (p:List Int):Prop:= ∀y∈p,0<=y/\y<n
noncomputable abbrev Nl:Spec:=En (.pair tL (.pair tL .unit)) tL false true (λx=>List.length x.1<=20/\Mm (List.length x.2.1) x.1) (λx=>Al x.1 x.2.1)
noncomputable abbrev Ff:Spec:=En (.pair tL .unit) tL false true (λx=>List.length x.1<=20/\Mm (List.length x.1) x.1) (λx=>Bk x.1)
noncomputable abbrev Yp:Spec:=En (.pair tI .unit) tL false true (λx=>0<=x.1/\x.1<=20) (λx=>upto x.1.toNat)
noncomputable abbrev Qr:Spec:=En (.pair tL .unit) tL false true (λx=>Jo x.1=true) (λx=>Bk x.1)
def Bt (g:List (List Int)) (l:Int):List Int:=if l>0 then g.getD (l-1).toNat [] else Bk (g.getD (-l-1).toNat [])
def Iu (n:Int) (l:Int):Prop:=l≠0/\ -n<=l/\l<=n
noncomputable abbrev Le:Spec:=En (.pair dI (.pair tI .unit)) tL false false (λx=>Iu (List.length x.1) x.2.1/\List.length x.1<=8/\ ∀p∈x.1,Jo p=true) (λx=>Bt x.1 x.2.1)
def Aw (n:Nat):List Int:=(List.range n).flatMap λ(k:Nat)=> [(k:Int)+1,-((k:Int)+1)]
noncomputable abbrev Mc:Spec:=En (.pair tI .unit) tL false true (λx=>0<=x.1/\x.1<=8) (λx=>Aw x.1.toNat)
noncomputable abbrev Mp:Spec:=En (.pair Fb (.pair tL (.pair tI .unit))) tL false true (λx=>Ea x.1=true/\List.length x.2.1<=20/\(∀y∈x.2.1,0<=y/\y<x.1.1)/\Iu (List.length x.1.2.2.1) x.2.2.1) (λx=>Al x.2.1 (Bt x.1.2.2.1 x.2.2.1))
theorem xS (p q:List Int) (P:List Int->Prop):(((0:Int)<=(↑p.length:Int)/\(↑p.length:Int)<(↑Cq:Int)+(1:Int))/\(↑p.length:Int)=(↑p.length:Int)/\0=0/\(List.replicate (↑p.length:Int).toNat (Int.ofNat (nat_lit 0))).length=(List.replicate (↑p.length:Int).toNat (Int.ofNat (nat_lit 0))).length/\Cz (λ(v3:Int×List Int×PUnit) (k4:Int×List Int×PUnit->Prop)=>Br (decide (v3.1<(↑p.length:Int))) (∃(y5:Int),idx p v3.1=some y5/\ ∃(y6:Int),idx q y5=some y6/\((0:Int)<=v3.1/\v3.1<(↑v3.2.1.length:Int))/\0+v3.1.toNat<v3.2.1.length/\0=0/\v3.2.1.length=(v3.2.1.set (0+v3.1.toNat) y6).length/\k4 (IntKind.i64.wrap (v3.1+(1:Int)),v3.2.1.set (0+v3.1.toNat) y6,())) (P (List.take v3.2.1.length (List.drop 0 v3.2.1)))) ((0:Int),List.replicate (↑p.length:Int).toNat (Int.ofNat (nat_lit 0)),PUnit.unit))=fnW Ej (look []) Nl Tryz.f121 (p,q,()) P:=by kernel_rfl
theorem xT (p:List Int) (P:List Int->Prop):(((0:Int)<=(↑p.length:Int)/\(↑p.length:Int)<(↑Cq:Int)+(1:Int))/\(↑p.length:Int)=(↑p.length:Int)/\0=0/\(List.replicate (↑p.length:Int).toNat (Int.ofNat (nat_lit 0))).length=(List.replicate (↑p.length:Int).toNat (Int.ofNat (nat_lit 0))).length/\Cz (λ(v2:Int×List Int×PUnit) (k3:Int×List Int×PUnit->Prop)=>Br (decide (v2.1<(↑p.length:Int))) (∃(y4:Int),idx p v2.1=some y4/\((0:Int)<=y4/\y4<(↑v2.2.1.length:Int))/\0+y4.toNat<v2.2.1.length/\0=0/\v2.2.1.length=(v2.2.1.set (0+y4.toNat) v2.1).length/\k3 (IntKind.i64.wrap (v2.1+(1:Int)),v2.2.1.set (0+y4.toNat) v2.1,())) (P (List.take v2.2.1.length (List.drop 0 v2.2.1)))) ((0:Int),List.replicate (↑p.length:Int).toNat (Int.ofNat (nat_lit 0)),PUnit.unit))=fnW Ej (look []) Ff Tryz.f56 (p,()) P:=by kernel_rfl
theorem YF (p:List Int) (P:List Int->Prop):(((0:Int)<=(↑p.length:Int)/\(↑p.length:Int)<(↑Cq:Int)+(1:Int))/\(↑p.length:Int)=(↑p.length:Int)/\0=0/\(List.replicate (↑p.length:Int).toNat (Int.ofNat (nat_lit 0))).length=(List.replicate (↑p.length:Int).toNat (Int.ofNat (nat_lit 0))).length/\Cz (λ(v2:Int×List Int×PUnit) (k3:Int×List Int×PUnit->Prop)=>Br (decide (v2.1<(↑p.length:Int))) (∃(y4:Int),idx p v2.1=some y4/\((0:Int)<=y4/\y4<(↑v2.2.1.length:Int))/\0+y4.toNat<v2.2.1.length/\0=0/\v2.2.1.length=(v2.2.1.set (0+y4.toNat) v2.1).length/\k3 (IntKind.i64.wrap (v2.1+(1:Int)),v2.2.1.set (0+y4.toNat) v2.1,())) (P (List.take v2.2.1.length (List.drop 0 v2.2.1)))) ((0:Int),List.replicate (↑p.length:Int).toNat (Int.ofNat (nat_lit 0)),PUnit.unit))=fnW Ej (look []) Ff Tryz.f76 (p,()) P:=by kernel_rfl
theorem xZ (p:List Int) (P:List Int->Prop):(∃(y2:Bool),Hu.fn (p,())=some y2/\Br (!y2) (P (List.take 0 (List.drop 0 []))) (∃(y3:List Int),Ff.fn (p,())=some y3/\P y3))=fnW Ej (look [(75,Hu),(76,Ff)]) Qr Tryz.f55 (p,()) P:=by kernel_rfl
theorem QZ (n:Int) (P:List Int->Prop):(0=0/\0=([]:List Int).length/\Cz (λ(v2:Int×List Int×PUnit) (k3:Int×List Int×PUnit->Prop)=>Br (decide (v2.1<n)) (0=0/\v2.2.1.length=v2.2.1.length/\v2.2.1.length+(List.take 1 (List.drop 0 [v2.1])).length<=Cq/\0=0/\(v2.2.1++List.take 1 (List.drop 0 [v2.1])).length=(v2.2.1++List.take 1 (List.drop 0 [v2.1])).length/\k3 (IntKind.i64.wrap (v2.1+(1:Int)),v2.2.1++List.take 1 (List.drop 0 [v2.1]),())) (P (List.take v2.2.1.length (List.drop 0 v2.2.1)))) ((0:Int),[],PUnit.unit))=fnW Ej (look []) Yp Tryz.f115 (n,()) P:=by kernel_rfl
theorem RD (g:List (List Int)) (l:Int) (P:List Int->Prop):(Br (decide (l>(0:Int))) (∃(y3:List Int),idx g (IntKind.i64.wrap (l-(1:Int)))=some y3/\P y3) (∃(y3:List Int),idx g (IntKind.i64.wrap (IntKind.i64.wrap ((0:Int)-l)-(1:Int)))=some y3/\ ∃(y4:List Int),Ff.fn (y3,())=some y4/\P y4))=fnW Ej (look [(56,Ff)]) Le Tryz.f122 (g,l,()) P:=by kernel_rfl
theorem YA (n:Int) (P:List Int->Prop):(0=0/\0=([]:List Int).length/\Cz (λ(v2:Int×List Int×PUnit) (k3:Int×List Int×PUnit->Prop)=>Br (decide (v2.1<n)) (0=0/\v2.2.1.length=v2.2.1.length/\v2.2.1.length+(List.take 2 (List.drop 0 [IntKind.i64.wrap (v2.1+(1:Int)),IntKind.i64.wrap ((0:Int)-IntKind.i64.wrap (v2.1+(1:Int)))])).length<=Cq/\0=0/\(v2.2.1++List.take 2 (List.drop 0 [IntKind.i64.wrap (v2.1+(1:Int)),IntKind.i64.wrap ((0:Int)-IntKind.i64.wrap (v2.1+(1:Int)))])).length=(v2.2.1++List.take 2 (List.drop 0 [IntKind.i64.wrap (v2.1+(1:Int)),IntKind.i64.wrap ((0:Int)-IntKind.i64.wrap (v2.1+(1:Int)))])).length/\k3 (IntKind.i64.wrap (v2.1+(1:Int)),v2.2.1++List.take 2 (List.drop 0 [IntKind.i64.wrap (v2.1+(1:Int)),IntKind.i64.wrap ((0:Int)-IntKind.i64.wrap (v2.1+(1:Int)))]),())) (P (List.take v2.2.1.length (List.drop 0 v2.2.1)))) ((0:Int),[],PUnit.unit))=fnW Ej (look []) Mc Tryz.f106 (n,()) P:=by kernel_rfl
theorem Adb (p:Int×ByteArray×List (List Int)×Unit) (s:List Int) (l:Int) (P:List Int->Prop):(∃(y4:List Int),idx p.2.2.1 (IntKind.i64.wrap ((if true=true then if IntKind.i64.wrap ((0:Int)-l)>l then IntKind.i64.wrap ((0:Int)-l) else l else if IntKind.i64.wrap ((0:Int)-l)<l then IntKind.i64.wrap ((0:Int)-l) else l)-(1:Int)))=some y4/\Br (decide (l<(0:Int))) (∃(y5:List Int),Qr.fn (y4,())=some y5/\0=0/\0=([]:List Int).length/\Cz (λ(v6:Int×List Int×PUnit) (k7:Int×List Int×PUnit->Prop)=>Br (decide (v6.1<(↑s.length:Int))) (∃(y8:Int),idx s v6.1=some y8/\ ∃(y9:Int),idx y5 y8=some y9/\0=0/\v6.2.1.length=v6.2.1.length/\v6.2.1.length+(List.take 1 (List.drop 0 [y9])).length<=Cq/\0=0/\(v6.2.1++List.take 1 (List.drop 0 [y9])).length=(v6.2.1++List.take 1 (List.drop 0 [y9])).length/\k7 (IntKind.i64.wrap (v6.1+(1:Int)),v6.2.1++List.take 1 (List.drop 0 [y9]),())) (P (List.take v6.2.1.length (List.drop 0 v6.2.1)))) ((0:Int),[],PUnit.unit)) (0=0/\0=([]:List Int).length/\Cz (λ(v5:Int×List Int×PUnit) (k6:Int×List Int×PUnit->Prop)=>Br (decide (v5.1<(↑s.length:Int))) (∃(y7:Int),idx s v5.1=some y7/\ ∃(y8:Int),idx y4 y7=some y8/\0=0/\v5.2.1.length=v5.2.1.length/\v5.2.1.length+(List.take 1 (List.drop 0 [y8])).length<=Cq/\0=0/\(v5.2.1++List.take 1 (List.drop 0 [y8])).length=(v5.2.1++List.take 1 (List.drop 0 [y8])).length/\k6 (IntKind.i64.wrap (v5.1+(1:Int)),v5.2.1++List.take 1 (List.drop 0 [y8]),())) (P (List.take v5.2.1.length (List.drop 0 v5.2.1)))) ((0:Int),[],PUnit.unit)))=fnW Ej (look [(55,Qr)]) Mp Tryz.f118 (p,s,l,()) P:=by kernel_rfl
theorem Mk {xs:List Int} {i:Nat} (h:i<xs.length):Nq xs (i:Int)=xs[i]:=by
 unfold Nq
 rw [Ai,Ak,Ac h];rfl
theorem j4 {xs:List Int} {y:Int} (h0:0<=y) (h:y<xs.length):idx xs y=some (Nq xs y):=by
 have hy:y.toNat<xs.length:=by omega
 have e:y=(y.toNat:Int):=by omega
 rw [e,Bq hy,Mk hy]
theorem ba (f:Nat->Nat) (g:Nat->Int) (m:Nat) (init:List Int):cO f g (m+1) init=(cO f g m init).set (f m) (g m):=by simp [cO,il]
theorem cP (f:Nat->Nat) (g:Nat->Int) (m:Nat) (init:List Int):(cO f g m init).length=init.length:=by
 induction m with
 |zero=>rfl
 |succ m ih=>rw [ba,Bi,ih]
theorem qL (f:Nat->Nat) (g:Nat->Int) (init:List Int): ∀(m:Nat),(∀i j,i<m->j<m->f i=f j->i=j)-> ∀i,i<m->f i<init.length->(cO f g m init)[f i]?=some (g i)
 |0,_,i,h,_=>absurd h (Dq _)
 |m+1,hf,i,hi,hl=>by
  rw [ba]
  by_cases e:i=m
  ·subst e
   exact List.getElem?_set_self (by rw [cP];exact hl)
  ·rw [List.getElem?_set_ne (λh=>e (hf i m hi (by omega) h.symm))]
   exact qL f g init m (λa b ha hb=>hf a b (by omega) (by omega)) i (by omega) hl
structure bN (p:List Int):Prop where
 pos:1<=p.length
 len:p.length<=20
 row:Mm p.length p
 nodup:p.Nodup
theorem fF {p:List Int} (h:Jo p=true):bN p:=by
 obtain ⟨h1,h2,h3⟩:=Hq.1 h
 refine ⟨h1,h2,λy hy=>?_,jd λj hj=>(h3 j hj hj).2.2⟩
 obtain ⟨j,hj,rfl⟩:=Cl.1 hy
 have:=h3 j hj hj
 omega
theorem bN.inj {p:List Int} (h:bN p) (i j:Nat) (hi:i<p.length) (hj:j<p.length) (e:(Nq p (i:Int)).toNat=(Nq p (j:Int)).toNat):i=j:=by
 rw [Mk hi,Mk hj] at e
 have h1:=h.row _ (Aj hi)
 have h2:=h.row _ (Aj hj)
 have e:p[i]=p[j]:=by omega
 refine Ce λIk=>?_
 rcases Nat.lt_or_gt_of_ne Ik with hl|hl
 ·exact Ey.1 h.nodup i j hi hj hl e
 ·exact Ey.1 h.nodup j i hj hi hl e.symm
theorem bN.Abq {p:List Int} (h:bN p) (k:Nat) (hk:k<p.length): ∃i,i<p.length/\(Nq p (i:Int)).toNat=k:=by
 have hm:=(dr (xs:=p) h.row).2 (wo h.nodup) k hk
 obtain ⟨i,hi,e⟩:=Cl.1 hm
 exact ⟨i,hi,by rw [Mk hi,e];exact Ai k⟩
theorem bN.lt {p:List Int} (h:bN p) {i:Nat} (hi:i<p.length):(Nq p (i:Int)).toNat<p.length:=by
 rw [Mk hi]
 have:=h.row _ (Aj hi)
 omega
theorem nO (p:List Int):(Bk p).length=p.length:=by unfold Bk;rw [cP,Fz]
theorem Ab1 {p:List Int} (h:bN p) {i:Nat} (hi:i<p.length):(Bk p)[(Nq p (i:Int)).toNat]?=some (i:Int):=
 qL (λi=>(Nq p (i:Int)).toNat) (λi=>(i:Int)) _ p.length (λi j hi hj=>h.inj i j hi hj) i hi (by rw [Fz];exact h.lt hi)
theorem Af7 {p:List Int} (h:bN p):Mm p.length (Bk p):=by
 intro y hy
 obtain ⟨k,hk,rfl⟩:=Cl.1 hy
 have uk:k<p.length:=by rw [nO] at hk;exact hk
 obtain ⟨i,hi,rfl⟩:=h.Abq k uk
 have:=Ab1 h hi
 rw [Ac hk] at this
 rw [Ba this]
 omega
theorem Pj (p q:List Int):(Al p q).length=p.length:=by simp [Al]
theorem FH {p q:List Int} {n:Nat} (hp:Mm q.length p) (hq:Mm n q):Mm n (Al p q):=by
 intro y hy
 obtain ⟨x,hx,rfl⟩:=Bj.1 hy
 have h1:=hp x hx
 rw [show x=(x.toNat:Int) by omega,Mk (by omega)]
 exact hq _ (Aj _)
theorem xd (p q:List Int) (h:p.length<=20/\Mm q.length p):fnW Ej (look []) Nl Tryz.f121 (p,q,()) (λ(z:List Int)=>z=Al p q):=by
 obtain ⟨h,hr⟩:=h
 refine Eq.mp (xS p q _) ?_
 refine ⟨⟨by omega,by show (p.length:Int)<(4294967296:Int)+1;omega⟩,rfl,rfl,rfl,?_⟩
 have Pe:=Pj p q
 refine Bf p.length (λv=>v.1) (λj v=>v.2.1.length=(Al p q).length/\v.2.1.take j=(Al p q).take j) rfl ⟨by rw [Pe];simp,by simp⟩ ?_
 rintro j ⟨i,ys,⟨⟩⟩ K hj hi ⟨h1,h2⟩ hK
 dsimp only at hi h1 h2⊢
 subst hi
 refine Br.dec (λhl=>?_) λhl=>?_
 ·have hl:j<p.length:=by omega
  have hy:=hr _ (Aj hl)
  refine ⟨_,Bq hl,_,j4 hy.1 hy.2,⟨by omega,by omega⟩,by rw [Ai];omega,rfl,by rw [Bi],?_⟩
  rw [Bh (by omega),Ai,Bv]
  have Kn:j<(Al p q).length:=by rw [Pe];exact hl
  have e:Nq q p[j]=(Al p q)[j]:=by simp [Al]
  rw [e]
  exact hK hl _ rfl ⟨by rw [Bi];exact h1,Km Kn h1 h2⟩
 ·have:j=p.length:=by omega
  subst this
  rw [<-Pe,Ap,<-h1,Ap] at h2
  rw [Dn,Ap]
  exact h2
theorem Wv:Sound Tryz.prog 121 Nl:=
 Sound.En Db Bg mixed Tryz.func121 (by kernel_rfl) (by kernel_rfl) λx h=>xd x.1 x.2.1 h
theorem xe (p:List Int) (h:p.length<=20/\Mm p.length p):fnW Ej (look []) Ff Tryz.f56 (p,()) (λ(z:List Int)=>z=Bk p):=by
 obtain ⟨h,hr⟩:=h
 refine Eq.mp (xT p _) ?_
 refine ⟨⟨by omega,by show (p.length:Int)<(4294967296:Int)+1;omega⟩,rfl,rfl,rfl,?_⟩
 refine Bf p.length (λv=>v.1) (λj v=>v.2.1=cO (λi=>(Nq p (i:Int)).toNat) (λi=>(i:Int)) j (List.replicate p.length 0)) rfl rfl ?_
 rintro j ⟨i,ys,⟨⟩⟩ K hj hi h1 hK
 dsimp only at hi h1⊢
 subst hi
 have hlen:ys.length=p.length:=by rw [h1,cP,Fz]
 refine Br.dec (λhl=>?_) λhl=>?_
 ·have hl:j<p.length:=by omega
  have hy:=hr _ (Aj hl)
  refine ⟨_,Bq hl,⟨by omega,by omega⟩,by omega,rfl,by rw [Bi],?_⟩
  rw [Bh (by omega),Bv]
  refine hK hl _ rfl ?_
  rw [ba,<-h1,Mk hl]
 ·have:j=p.length:=by omega
  subst this
  rw [Dn,Ap]
  exact h1
theorem Ww:Sound Tryz.prog 56 Ff:=
 Sound.En Db Bg mixed Tryz.func56 (by kernel_rfl) (by kernel_rfl) λx h=>xe x.1 h
theorem WE (p:List Int) (h:p.length<=20/\Mm p.length p):fnW Ej (look []) Ff Tryz.f76 (p,()) (λ(z:List Int)=>z=Bk p):=by
 obtain ⟨h,hr⟩:=h
 refine Eq.mp (YF p _) ?_
 refine ⟨⟨by omega,by show (p.length:Int)<(4294967296:Int)+1;omega⟩,rfl,rfl,rfl,?_⟩
 refine Bf p.length (λv=>v.1) (λj v=>v.2.1=cO (λi=>(Nq p (i:Int)).toNat) (λi=>(i:Int)) j (List.replicate p.length 0)) rfl rfl ?_
 rintro j ⟨i,ys,⟨⟩⟩ K hj hi h1 hK
 dsimp only at hi h1⊢
 subst hi
 have hlen:ys.length=p.length:=by rw [h1,cP,Fz]
 refine Br.dec (λhl=>?_) λhl=>?_
 ·have hl:j<p.length:=by omega
  have hy:=hr _ (Aj hl)
  refine ⟨_,Bq hl,⟨by omega,by omega⟩,by omega,rfl,by rw [Bi],?_⟩
  rw [Bh (by omega),Bv]
  refine hK hl _ rfl ?_
  rw [ba,<-h1,Mk hl]
 ·have:j=p.length:=by omega
  subst this
  rw [Dn,Ap]
  exact h1
theorem Zr:Sound Tryz.prog 76 Ff:=
 Sound.En Db Bg mixed Tryz.func76 (by kernel_rfl) (by kernel_rfl) λx h=>WE x.1 h
theorem xl (p:List Int) (h:Jo p=true):fnW Ej (look [(75,Hu),(76,Ff)]) Qr Tryz.f55 (p,()) (λ(z:List Int)=>z=Bk p):=by
 have hp:=fF h
 have hs:short p:=by have:=hp.len;unfold short;omega
 refine Eq.mp (xZ p _) ⟨_,Ab hs,⟨λhe=>?_,λ_=>⟨_,Ab ⟨hp.len,hp.row⟩,rfl⟩⟩⟩
 exact absurd h (Eu he)
theorem oG:Sound Tryz.prog 55 Qr:=
 Sound.En Db (Av Sv (Av Zr Bg)) mixed Tryz.func55 (by kernel_rfl) (by kernel_rfl) λx h=>xl x.1 h
theorem kM (j:Nat):upto (j+1)=upto j++ [(j:Int)]:=by simp [upto,il]
theorem OS (n:Int) (h:0<=n/\n<=20):fnW Ej (look []) Yp Tryz.f115 (n,()) (λ(z:List Int)=>z=upto n.toNat):=by
 refine Eq.mp (QZ n _) ⟨rfl,rfl,?_⟩
 refine Bf n.toNat (λv=>v.1) (λj v=>v.2.1=upto j) rfl rfl ?_
 rintro j ⟨i,ys,⟨⟩⟩ K hj hi h1 hK
 dsimp only at hi h1⊢
 subst hi h1
 refine Br.dec (λhl=>?_) λhl=>?_
 ·refine ⟨rfl,rfl,?_,rfl,rfl,?_⟩
  ·show (upto j).length+1<=4294967296
   rw [jO];omega
  ·rw [Bh (by omega)]
   exact hK (by omega) _ rfl (kM j).symm
 ·have:j=n.toNat:=by omega
  subst this
  rw [Dn,Ap]
theorem jz:Sound Tryz.prog 115 Yp:=
 Sound.En Db Bg mixed Tryz.func115 (by kernel_rfl) (by kernel_rfl) λx h=>OS x.1 h
theorem Ut {g:List (List Int)} {k:Nat} (h:k<g.length):Bt g ((k:Int)+1)=g[k]:=by
 unfold Bt
 rw [Ab (by omega),show ((k:Int)+1-1).toNat=k by omega,Ak,Ac h];rfl
theorem Us {g:List (List Int)} {k:Nat} (h:k<g.length):Bt g (-((k:Int)+1))=Bk g[k]:=by
 unfold Bt
 rw [Ag (by omega),show (-(-((k:Int)+1))-1).toNat=k by omega,Ak,Ac h];rfl
theorem So {n:Nat} {l:Int} (h:Iu n l): ∃k:Nat,k<n/\(l=(k:Int)+1\/l= -((k:Int)+1)):=by
 obtain ⟨h1,h2,h3⟩:=h
 by_cases h0:0<l
 ·exact ⟨(l-1).toNat,by omega, .inl (by omega)⟩
 ·exact ⟨(-l-1).toNat,by omega, .inr (by omega)⟩
theorem OU (g:List (List Int)) (l:Int) (h:Iu (List.length g) l/\List.length g<=8/\ ∀p∈g,Jo p=true):fnW Ej (look [(56,Ff)]) Le Tryz.f122 (g,l,()) (λ(z:List Int)=>z=Bt g l):=by
 obtain ⟨hl,h8,hp⟩:=h
 refine Eq.mp (RD g l _) ?_
 obtain ⟨k,hk,rfl|rfl⟩:=So hl
 ·refine Br.dec (λ_=>?_) λhn=>by omega
  rw [Dk (by omega) (by omega),show (k:Int)+1-1=(k:Int) by omega]
  exact ⟨_,Bq hk,(Ut hk).symm⟩
 ·refine Br.dec (λhn=>by omega) λ_=>?_
  rw [Dk (n:=0- -((k:Int)+1)) (by omega) (by omega),Dk (by omega) (by omega),show (0:Int)- -((k:Int)+1)-1=(k:Int) by omega]
  have:=fF (hp _ (Aj hk))
  exact ⟨_,Bq hk,_,Ab ⟨this.len,this.row⟩,(Us hk).symm⟩
theorem jA:Sound Tryz.prog 122 Le:=
 Sound.En Db (Av Ww Bg) mixed Tryz.func122 (by kernel_rfl) (by kernel_rfl) λx h=>OU x.1 x.2.1 h
theorem cb (j:Nat):Aw (j+1)=Aw j++ [(j:Int)+1,-((j:Int)+1)]:=by simp [Aw,il,List.flatMap_append]
theorem Od (j:Nat):(Aw j).length=2*j:=by
 induction j with
 |zero=>rfl
 |succ j ih=>rw [cb,Ax,ih];simp only [Az,Gd];omega
theorem Pr {n:Nat} {l:Int} (h:l∈Aw n):Iu n l:=by
 unfold Aw at h
 obtain ⟨k,hk,hl⟩:=Hl.1 h
 have hk:=Gh.1 hk
 simp only [Be,List.not_mem_nil,or_false] at hl
 unfold Iu
 omega
theorem VZ (n:Int) (h:0<=n/\n<=8):fnW Ej (look []) Mc Tryz.f106 (n,()) (λ(z:List Int)=>z=Aw n.toNat):=by
 refine Eq.mp (YA n _) ⟨rfl,rfl,?_⟩
 refine Bf n.toNat (λv=>v.1) (λj v=>v.2.1=Aw j) rfl rfl ?_
 rintro j ⟨i,ys,⟨⟩⟩ K hj hi h1 hK
 dsimp only at hi h1⊢
 subst hi h1
 refine Br.dec (λhl=>?_) λhl=>?_
 ·refine ⟨rfl,rfl,?_,rfl,rfl,?_⟩
  ·show (Aw j).length+2<=4294967296
   rw [Od];omega
  ·have e1:IntKind.i64.wrap ((j:Int)+1)=(j:Int)+1:=Dk (by omega) (by omega)
   have e2:IntKind.i64.wrap ((0:Int)-((j:Int)+1))= -((j:Int)+1):=by rw [Dk (by omega) (by omega)];omega
   rw [e1,e2]
   exact hK (by omega) _ rfl (cb j).symm
 ·have:j=n.toNat:=by omega
  subst this
  rw [Dn,Ap]
theorem lJ:Sound Tryz.prog 106 Mc:=
 Sound.En Db Bg mixed Tryz.func106 (by kernel_rfl) (by kernel_rfl) λx h=>VZ x.1 h
structure Valid (p:PP):Prop where
 n:1<=p.1/\p.1<=20
 wP:1<=p.2.2.1.length/\p.2.2.1.length<=8
 perm: ∀m∈p.2.2.1,Jo m=true
 len: ∀m∈p.2.2.1,(m.length:Int)=p.1
theorem valid {p:PP} (h:Ea p=true):Valid p:=by
 have h0:=QS h
 obtain ⟨h1,_,_⟩:=Hq.1 h
 obtain ⟨_,_,h4⟩:=Hq.1 h1
 exact ⟨⟨h0.1,h0.2.1⟩,h0.2.2,λm hm=>(Hq.1 (h4 m hm)).2,λm hm=>(Hq.1 (h4 m hm)).1⟩
theorem kr {p:PP} (h:Valid p) {l:Int} (hl:Iu (List.length p.2.2.1) l):((Bt p.2.2.1 l).length:Int)=p.1/\Mm (Bt p.2.2.1 l).length (Bt p.2.2.1 l):=by
 obtain ⟨k,hk,rfl|rfl⟩:=So hl
 ·rw [Ut hk]
  exact ⟨h.len _ (Aj hk),(fF (h.perm _ (Aj hk))).row⟩
 ·rw [Us hk,nO]
  exact ⟨h.len _ (Aj hk),Af7 (fF (h.perm _ (Aj hk)))⟩
theorem EU (s y:List Int) (P:List Int->Prop) (h1:s.length<=20) (h2:Mm y.length s) (h3:P (Al s y)):
  Cz
   (λ(v5:Int×List Int×PUnit) (k6:Int×List Int×PUnit->Prop)=>
    Br (decide (v5.1<(↑s.length:Int)))
     (∃(y7:Int),
      idx s v5.1=some y7/\
       ∃(y8:Int),
        idx y y7=some y8/\
         (0:Nat)=(0:Nat)/\
          v5.2.1.length=v5.2.1.length/\
           v5.2.1.length+(List.take (1:Nat) (List.drop (0:Nat) [y8])).length<=Cq/\
            (0:Nat)=(0:Nat)/\
             (v5.2.1++List.take (1:Nat) (List.drop (0:Nat) [y8])).length=(v5.2.1++List.take (1:Nat) (List.drop (0:Nat) [y8])).length/\
              k6 (IntKind.i64.wrap (v5.1+(1:Int)),v5.2.1++List.take (1:Nat) (List.drop (0:Nat) [y8]),()))
     (P (List.take v5.2.1.length (List.drop (0:Nat) v5.2.1))))
   ((0:Int),([]:List Int),PUnit.unit):=by
 refine Bf s.length (λv=>v.1) (λj v=>v.2.1=(s.take j).map (Nq y)) rfl (by simp) ?_
 rintro j ⟨i,ys,⟨⟩⟩ K hj hi hR hK
 dsimp only at hi hR⊢
 subst hi hR
 refine Br.dec (λhl=>?_) λhl=>?_
 ·have hl:j<s.length:=by omega
  have hy:=h2 _ (Aj hl)
  refine ⟨_,Bq hl,_,j4 hy.1 hy.2,rfl,rfl,?_,rfl,rfl,?_⟩
  ·show ((s.take j).map (Nq y)).length+1<=4294967296
   rw [Dj,De];omega
  ·rw [Bh (by omega)]
   refine hK hl _ rfl ?_
   dsimp only
   rw [Ay hl,Kc]
   rfl
 ·have:j=s.length:=by omega
  subst this
  rw [Dn,Ap,Ap]
  exact h3
theorem Abs (p:PP) (s:List Int) (l:Int) (h:Ea p=true/\List.length s<=20/\(∀y∈s,0<=y/\y<p.1)/\Iu (List.length p.2.2.1) l):fnW Ej (look [(55,Qr)]) Mp Tryz.f118 (p,s,l,()) (λ(z:List Int)=>z=Al s (Bt p.2.2.1 l)):=by
 obtain ⟨hv,hs,hr,hl⟩:=h
 have hv:=valid hv
 have hf:=hv.wP
 refine Eq.mp (Adb p s l _) ?_
 have US:=kr hv hl
 have Kq:Mm (Bt p.2.2.1 l).length s:= λy hy=>by have:=hr y hy;omega
 obtain ⟨k,hk,rfl|rfl⟩:=So hl
 ·rw [Ab rfl,Dk (n:=0-((k:Int)+1)) (by omega) (by omega),Ag (by omega),Dk (by omega) (by omega),show (k:Int)+1-1=(k:Int) by omega]
  refine ⟨_,Bq hk,Br.dec (λhn=>by omega) λ_=>⟨rfl,rfl,?_⟩⟩
  rw [Ut hk] at Kq⊢
  exact EU s _ (λz=>z=Al s p.2.2.1[k]) hs Kq rfl
 ·rw [Ab rfl,Dk (n:=0- -((k:Int)+1)) (by omega) (by omega),Ab (by omega),Dk (by omega) (by omega),show (0:Int)- -((k:Int)+1)-1=(k:Int) by omega]
  refine ⟨_,Bq hk,Br.dec (λ_=>⟨_,Ab (hv.perm _ (Aj hk)),rfl,rfl,?_⟩) λhn=>by omega⟩
  rw [Us hk] at Kq⊢
  exact EU s (Bk p.2.2.1[k]) (λz=>z=Al s (Bk p.2.2.1[k])) hs Kq rfl
theorem ow:Sound Tryz.prog 118 Mp:=
 Sound.En Db (Av oG Bg) mixed Tryz.func118 (by kernel_rfl) (by kernel_rfl) λx h=>Abs x.1 x.2.1 x.2.2.1 h
abbrev rL:CK:= .row tI 2
abbrev xLL:CK:= .Hk tL 26
def La (k:Int) (n:Nat):List Int:=(List.range n).map λi=>k+(i:Nat)
def Kg:Int->List (List Int)->List (List Int)
 |_,[]=> []
 |k,r::rs=>La k r.length::Kg (k+r.length) rs
def Ed:List (List Int)->Nat
 | []=>0
 |r::rs=>r.length+Ed rs
def low (k:Int):Prop:=0<=k/\k<=1099511627776
noncomputable abbrev Zp:MSpec:=cd [none,none] [(true,rL),(false, .Fm tI)] false [none] [.Fm tI] (λx=>short x.1/\low x.2.1) (λx=>((x.2.1+List.length x.1,()),(La x.2.1 (List.length x.1),())))
noncomputable abbrev eF:MSpec:=cd [none,none] [(true,xLL),(false, .Fm tI)] false [none] [.Fm tI] (λx=>Hc x.1/\low x.2.1/\low (x.2.1+Ed x.1)) (λx=>((x.2.1+Ed x.1,()),(Kg x.2.1 x.1,())))
noncomputable abbrev Ss:MSpec:=cd [some 3,none] [(false, .Fm tI),(false, .Fm .str),(true,xLL),(false, .Fm tI)] false [none] [.Fm tI]
 (λx=>Hc x.2.2.1/\low x.2.2.2.1/\low (x.2.2.2.1+Ed x.2.2.1)) (λx=>((x.2.2.2.1+Ed x.2.2.1,()),(Kg x.2.2.2.1 x.2.2.1,())))
def nW (xs:List Int) (k:Int):Int:=if xs=La k xs.length then k+xs.length else-1
noncomputable abbrev fP:Spec:=En (.pair tL (.pair tI .unit)) tI false true (λx=>short x.1/\low x.2.1) (λx=>nW x.1 x.2.1)
noncomputable abbrev Th:MSpec:=cd [none] [(false, .Fm tL)] false [none] [rL] (λx=>short x.1) (λx=>((x.1,()),()))
noncomputable abbrev bo:MSpec:=cd [none] [(false, .Fm dI)] false [none] [xLL] (λx=>Hc x.1) (λx=>((x.1,()),()))
noncomputable abbrev Yz:MSpec:=cd [some 3] [(false, .Fm tL),(false, .Fm dI),(false, .Fm tL)] false [some 3] [rL,xLL,rL] (λx=>Oe (x.1,x.2.1,x.2.2.1,())) (λx=>((x.1,x.2.1,x.2.2.1,()),()))
noncomputable abbrev Pw:MSpec:=cd [some 3] [(false, .Fm tI),(false, .Fm .str),(false, .Fm dI)] false [some 3] [.Fm tI, .Fm .str,xLL] (λx=>Ei (x.1,x.2.1,x.2.2.1,())) (λx=>((x.1,x.2.1,x.2.2.1,()),()))
theorem Age (xs:List Int) (k:Int) (P:((Int×Unit)×List Int×Unit)->Prop):(0=0/\xs.length=xs.length/\Cz (λ(v3:Int×Int×List Int×PUnit) (k4:Int×Int×List Int×PUnit->Prop)=>Br (decide (v3.2.1<(↑v3.2.2.1.length:Int))) (((0:Int)<=v3.2.1/\v3.2.1<(↑v3.2.2.1.length:Int))/\0+v3.2.1.toNat<v3.2.2.1.length/\0=0/\v3.2.2.1.length=(v3.2.2.1.set (0+v3.2.1.toNat) v3.1).length/\k4 (IntKind.i64.wrap (v3.1+(1:Int)),IntKind.i64.wrap (v3.2.1+(1:Int)),v3.2.2.1.set (0+v3.2.1.toNat) v3.1,())) (P ((v3.1,()),v3.2.2.1,()))) (k,(0:Int),xs,PUnit.unit))=fnMW Va (look []) Zp Tryz.f31 (xs,k,()) P:=by kernel_rfl
theorem Adg (xs:List (List Int)) (k:Int) (P:((Int×Unit)×List (List Int)×Unit)->Prop):(0=0/\xs.length=xs.length/\Cz (λ(v3:Int×Int×List (List Int)×PUnit) (k4:Int×Int×List (List Int)×PUnit->Prop)=>Br (decide (v3.2.1<(↑v3.2.2.1.length:Int))) (((0:Int)<=v3.2.1/\v3.2.1<(↑v3.2.2.1.length:Int))/\ ∃(y5:List Int),v3.2.2.1[0+v3.2.1.toNat]?=some y5/\ ∃(y6:List Int),v3.2.2.1[0+v3.2.1.toNat]?=some y6/\ ∃(y7:(Int×PUnit)×List Int×PUnit),Zp.fn (y6,v3.1,())=some y7/\ ∃(y8:List Int),v3.2.2.1[0+v3.2.1.toNat]?=some y8/\y7.2.1.length=y8.length/\0=0/\v3.2.2.1.length=(v3.2.2.1.set (0+v3.2.1.toNat) y7.2.1).length/\k4 (y7.1.1,IntKind.i64.wrap (v3.2.1+(1:Int)),v3.2.2.1.set (0+v3.2.1.toNat) y7.2.1,())) (P ((v3.1,()),v3.2.2.1,()))) (k,(0:Int),xs,PUnit.unit))=fnMW Va (look [(31,Zp)]) eF Tryz.f60 (xs,k,()) P:=by kernel_rfl
theorem DX (n:Int) (s:ByteArray) (b:List (List Int)) (k:Int) (P:((Int×Unit)×List (List Int)×Unit)->Prop):(0=0/\b.length=b.length/\ ∃(y5:(Int×PUnit)×List (List Int)×PUnit),eF.fn (b,k,())=some y5/\(y5.2.1.length=b.length/\b.length=b.length)/\P ((y5.1.1,()),y5.2.1,()))=fnMW Va (look [(60,eF)]) Ss Tryz.f29 (n,s,b,k,()) P:=by kernel_rfl
theorem Aga (xs:List Int) (k:Int) (P:Int->Prop):(Cz (λ(v3:Int×Int×PUnit) (k4:Int×Int×PUnit->Prop)=>Br (decide (v3.2.1<(↑xs.length:Int))) (∃(y5:Int),idx xs v3.2.1=some y5/\Br (y5 !=v3.1) (P (-1:Int)) (k4 (IntKind.i64.wrap (v3.1+(1:Int)),IntKind.i64.wrap (v3.2.1+(1:Int)),()))) (P v3.1)) (k,(0:Int),PUnit.unit))=fnW Ej (look []) fP Tryz.f32 (xs,k,()) P:=by kernel_rfl
theorem Aly (xs:List Int) (P:((List Int×Unit)×Unit)->Prop):(((0:Int)<=(↑xs.length:Int)/\(↑xs.length:Int)<(↑Cq:Int)+(1:Int))/\(↑xs.length:Int)=(↑xs.length:Int)/\0=0/\(List.replicate (↑xs.length:Int).toNat (Int.ofNat (nat_lit 0))).length=(List.replicate (↑xs.length:Int).toNat (Int.ofNat (nat_lit 0))).length/\Cz (λ(v2:Int×List Int×PUnit) (k3:Int×List Int×PUnit->Prop)=>Br (decide (v2.1<(↑xs.length:Int))) (∃(y4:Int),idx xs v2.1=some y4/\((0:Int)<=v2.1/\v2.1<(↑v2.2.1.length:Int))/\0+v2.1.toNat<v2.2.1.length/\0=0/\v2.2.1.length=(v2.2.1.set (0+v2.1.toNat) y4).length/\k3 (IntKind.i64.wrap (v2.1+(1:Int)),v2.2.1.set (0+v2.1.toNat) y4,())) (P ((List.take v2.2.1.length (List.drop 0 v2.2.1),()),()))) ((0:Int),List.replicate (↑xs.length:Int).toNat (Int.ofNat (nat_lit 0)),PUnit.unit))=fnMW Va (look []) Th Tryz.f18 (xs,()) P:=by kernel_rfl
theorem Agh (xs:List (List Int)) (P:((List (List Int)×Unit)×Unit)->Prop):(((0:Int)<=(↑xs.length:Int)/\(↑xs.length:Int)<(↑Cq:Int)+(1:Int))/\(↑xs.length:Int)=(↑xs.length:Int)/\0=0/\(List.replicate (↑xs.length:Int).toNat ([]:List Int)).length=(List.replicate (↑xs.length:Int).toNat ([]:List Int)).length/\Cz (λ(v2:Int×List (List Int)×PUnit) (k3:Int×List (List Int)×PUnit->Prop)=>Br (decide (v2.1<(↑xs.length:Int))) (∃(y4:List Int),idx xs v2.1=some y4/\ ∃(y5:(List Int×PUnit)×PUnit),Th.fn (y4,())=some y5/\((0:Int)<=v2.1/\v2.1<(↑v2.2.1.length:Int))/\0+v2.1.toNat<v2.2.1.length/\0=0/\v2.2.1.length=(v2.2.1.set (0+v2.1.toNat) (List.take y5.1.1.length (List.drop 0 y5.1.1))).length/\k3 (IntKind.i64.wrap (v2.1+(1:Int)),v2.2.1.set (0+v2.1.toNat) (List.take y5.1.1.length (List.drop 0 y5.1.1)),())) (P ((List.take v2.2.1.length (List.drop 0 v2.2.1),()),()))) ((0:Int),List.replicate (↑xs.length:Int).toNat ([]:List Int),PUnit.unit))=fnMW Va (look [(18,Th)]) bo Tryz.f49 (xs,()) P:=by kernel_rfl
theorem RK (a:List Int) (b:List (List Int)) (c:List Int) (P:((List Int×List (List Int)×List Int×Unit)×Unit)->Prop):(∃(y4:(List Int×PUnit)×PUnit),Th.fn (a,())=some y4/\ ∃(y5:(List (List Int)×PUnit)×PUnit),bo.fn (b,())=some y5/\ ∃(y6:(List Int×PUnit)×PUnit),Th.fn (c,())=some y6/\P ((List.take y4.1.1.length (List.drop 0 y4.1.1),List.take y5.1.1.length (List.drop 0 y5.1.1),List.take y6.1.1.length (List.drop 0 y6.1.1),()),()))=fnMW Va (look [(18,Th),(49,bo)]) Yz Tryz.f50 (a,b,c,()) P:=by kernel_rfl
theorem KX (n:Int) (s:ByteArray) (b:List (List Int)) (P:((Int×ByteArray×List (List Int)×Unit)×Unit)->Prop):(∃(y4:(List (List Int)×PUnit)×PUnit),bo.fn (b,())=some y4/\P ((n,s,List.take y4.1.1.length (List.drop 0 y4.1.1),()),()))=fnMW Va (look [(49,bo)]) Pw Tryz.f16 (n,s,b,()) P:=by kernel_rfl
theorem Bx {α:Type} (xs:List α):List.take xs.length (List.drop 0 xs)=xs:=by rw [Dn,Ap]
theorem Vi (k:Int) (n:Nat):(La k n).length=n:=by simp [La]
theorem nX (k:Int) (n:Nat):La k (n+1)=La k n++ [k+(n:Nat)]:=by simp [La,il]
theorem jb (a b:List (List Int)):Ed (a++b)=Ed a+Ed b:=by
 induction a with
 |nil=>simp [Ed]
 |cons r a ih=>simp only [Md,Ed,ih];omega
theorem er: ∀(a b:List (List Int)) (k:Int),Kg k (a++b)=Kg k a++Kg (k+Ed a) b
 | [],b,k=>by simp [Kg,Ed]
 |r::a,b,k=>by
  simp only [Md,Kg,Ed,er a b]
  congr 3
  omega
theorem dB: ∀(xs:List (List Int)) (k:Int),(Kg k xs).length=xs.length
 | [],_=>rfl
 |r::xs,k=>by simp [Kg,dB xs]
theorem BC {xs:List (List Int)} {j:Nat} (h:j<xs.length):Ed (xs.drop j)=xs[j].length+Ed (xs.drop (j+1)):=by
 rw [Cn h];rfl
theorem BD {xs:List (List Int)} {j:Nat} (h:j<xs.length):Ed (xs.take (j+1))=Ed (xs.take j)+xs[j].length:=by
 rw [Ay h,jb];simp [Ed]
theorem x6 (xs:List (List Int)) (j:Nat):Ed (xs.take j)+Ed (xs.drop j)=Ed xs:=by
 rw [<-jb,Ie]
theorem Afm (xs:List Int) (k:Int) (h:short xs/\low k):fnMW Va (look []) Zp Tryz.f31 (xs,k,()) (λ(z:(Int×Unit)×List Int×Unit)=>z=((k+xs.length,()),(La k xs.length,()))):=by
 obtain ⟨h1,h2,h3⟩:=h
 unfold short at h1
 refine Eq.mp (Age xs k _) ⟨rfl,rfl,?_⟩
 refine Bf xs.length (λv=>v.2.1) (λj v=>v.1=k+(j:Nat)/\v.2.2.1.length=xs.length/\v.2.2.1.take j=La k j) rfl ⟨by simp,rfl,by simp [La]⟩ ?_
 rintro j ⟨k',i,ys,⟨⟩⟩ K hj hi ⟨g1,g2,g3⟩ hK
 dsimp only at hi g1 g2 g3⊢
 subst hi;subst g1
 refine Br.dec (λhl=>?_) λhl=>?_
 ·have hl:j<ys.length:=by omega
  refine ⟨⟨by omega,by omega⟩,by rw [Ai];omega,rfl,by rw [Bi],?_⟩
  rw [Bh (by omega),Ai,Bv,Dk (by omega) (by omega)]
  refine hK (by omega) _ rfl ⟨by dsimp only;omega,by rw [Bi];exact g2,?_⟩
  rw [Ay (by rw [Bi];exact hl),List.take_set_of_le (Ao j),g3,List.getElem_set_self,nX]
 ·have sd:j=xs.length:=by omega
  subst sd
  rw [<-g2,Ap,g2] at g3
  rw [g3]
theorem jB:Ca Tryz.prog 31 Zp:=
 Ca.cd Tm Bg mixed Tryz.func31 (by kernel_rfl) (by kernel_rfl) λx h=>Afm x.1 x.2.1 h
theorem Abw (xs:List (List Int)) (k:Int) (h:Hc xs/\low k/\low (k+Ed xs)):fnMW Va (look [(31,Zp)]) eF Tryz.f60 (xs,k,()) (λ(z:(Int×Unit)×List (List Int)×Unit)=>z=((k+Ed xs,()),(Kg k xs,()))):=by
 obtain ⟨⟨h1,h4⟩,⟨h2,h3⟩,h5,h6⟩:=h
 refine Eq.mp (Adg xs k _) ⟨rfl,rfl,?_⟩
 refine Bf xs.length (λv=>v.2.1) (λj v=>v.1=k+(Ed (xs.take j):Nat)/\v.2.2.1.length=xs.length/\v.2.2.1.take j=Kg k (xs.take j)/\v.2.2.1.drop j=xs.drop j) rfl ⟨by simp [Ed],rfl,by simp [Kg],rfl⟩ ?_
 rintro j ⟨k',i,ys,⟨⟩⟩ K hj hi ⟨g1,g2,g3,g4⟩ hK
 dsimp only at hi g1 g2 g3 g4⊢
 subst hi;subst g1
 refine Br.dec (λhl=>?_) λhl=>?_
 ·have hl:j<ys.length:=by omega
  have hlx:j<xs.length:=by omega
  have hy:ys[j]?=some xs[j]:=by
   have:(ys.drop j)[0]?=(xs.drop j)[0]?:=by rw [g4]
   simpa [Cw,Ac hlx] using this
  have YU:=x6 xs j
  have htk:=BD hlx
  have hdr:=BC hlx
  refine ⟨⟨by omega,by omega⟩,?_⟩
  simp only [Ai,Bv]
  have MZ:low (k+(Ed (xs.take j):Nat)):=⟨by omega,by omega⟩
  refine ⟨_,hy,_,hy,_,Ab ⟨h4 _ (Aj hlx),MZ⟩,_,hy,Vi _ _,trivial,by rw [Bi],?_⟩
  rw [Bh (by omega)]
  refine hK hlx _ rfl ⟨by dsimp only;omega,by rw [Bi];exact g2,?_,?_⟩
  ·rw [Ay (by rw [Bi];exact hl),List.take_set_of_le (Ao j),g3,List.getElem_set_self,Ay hlx,er]
   rfl
  ·dsimp only
   rw [List.drop_set_of_lt (by omega)]
   have e1:ys.drop (j+1)=(ys.drop j).drop 1:=by rw [List.drop_drop]
   rw [e1,g4,List.drop_drop]
 ·have sd:j=xs.length:=by omega
  subst sd
  rw [<-g2,Ap,g2,Ap] at g3
  rw [g3,Ap]
theorem oF:Ca Tryz.prog 60 eF:=
 Ca.cd Tm (Ep jB Bg) mixed Tryz.func60 (by kernel_rfl) (by kernel_rfl) λx h=>Abw x.1 x.2.1 h
theorem BO (n:Int) (s:ByteArray) (b:List (List Int)) (k:Int) (h:Hc b/\low k/\low (k+Ed b)):fnMW Va (look [(60,eF)]) Ss Tryz.f29 (n,s,b,k,()) (λ(z:(Int×Unit)×List (List Int)×Unit)=>z=((k+Ed b,()),(Kg k b,()))):=by
 exact Eq.mp (DX n s b k _) ⟨rfl,rfl,_,Ab h,⟨dB _ _,rfl⟩,rfl⟩
theorem qj:Ca Tryz.prog 29 Ss:=
 Ca.cd Tm (Ep oF Bg) mixed Tryz.func29 (by kernel_rfl) (by kernel_rfl) λx h=>BO x.1 x.2.1 x.2.2.1 x.2.2.2.1 h
theorem Afi (xs:List Int) (k:Int) (h:short xs/\low k):fnW Ej (look []) fP Tryz.f32 (xs,k,()) (λ(z:Int)=>z=nW xs k):=by
 obtain ⟨h1,h2,h3⟩:=h
 unfold short at h1
 refine Eq.mp (Aga xs k _) ?_
 refine Bf xs.length (λv=>v.2.1) (λj v=>v.1=k+(j:Nat)/\xs.take j=La k j) rfl ⟨by simp,by simp [La]⟩ ?_
 rintro j ⟨k',i,⟨⟩⟩ K hj hi ⟨g1,g3⟩ hK
 dsimp only at hi g1 g3⊢
 subst hi;subst g1
 refine Br.dec (λhl=>?_) λhl=>?_
 ·have hl:j<xs.length:=by omega
  refine ⟨_,Bq hl,λIk=>?_,λhe=>?_⟩
  ·simp only [Xe,ne_eq] at Ik
   unfold nW
   rw [Ag]
   intro he
   refine Ik ?_
   have e1:xs[j]?=(La k xs.length)[j]?:=by rw [<-he]
   rw [Ac hl] at e1
   simpa [La,hl] using e1
  ·simp only [Hf] at he
   rw [Bh (by omega),Dk (by omega) (by omega)]
   refine hK hl _ rfl ⟨by dsimp only;omega,?_⟩
   rw [Ay hl,g3,he,nX]
 ·have sd:j=xs.length:=by omega
  subst sd
  rw [Ap] at g3
  exact (Ab g3).symm
theorem JK:Sound Tryz.prog 32 fP:=
 Sound.En Db Bg mixed Tryz.func32 (by kernel_rfl) (by kernel_rfl) λx h=>Afi x.1 x.2.1 h
theorem lC (k:Int) (n:Nat):nW (La k n) k=k+n:=by unfold nW;rw [Vi,Ab rfl]
theorem Al4 (xs:List Int) (h:short xs):fnMW Va (look []) Th Tryz.f18 (xs,()) (λ(z:(List Int×Unit)×Unit)=>z=((xs,()),())):=by
 unfold short at h
 refine Eq.mp (Aly xs _) ?_
 refine ⟨⟨by omega,by show (xs.length:Int)<(4294967296:Int)+1;omega⟩,rfl,rfl,rfl,?_⟩
 refine Bf xs.length (λv=>v.1) (λj v=>v.2.1.length=xs.length/\v.2.1.take j=xs.take j) rfl ⟨by simp,by simp⟩ ?_
 rintro j ⟨i,ys,⟨⟩⟩ K hj hi ⟨h1,h2⟩ hK
 dsimp only at hi h1 h2⊢
 subst hi
 refine Br.dec (λhl=>?_) λhl=>?_
 ·have hl:j<xs.length:=by omega
  refine ⟨_,Bq hl,⟨by omega,by omega⟩,by rw [Ai];omega,rfl,by rw [Bi],?_⟩
  rw [Bh (by omega),Ai,Bv]
  exact hK hl _ rfl ⟨by rw [Bi];exact h1,Km hl h1 h2⟩
 ·have:j=xs.length:=by omega
  subst this
  rw [Ap,<-h1,Ap] at h2
  rw [Bx,h2]
theorem mO:Ca Tryz.prog 18 Th:=
 Ca.cd Tm Bg mixed Tryz.func18 (by kernel_rfl) (by kernel_rfl) λx h=>Al4 x.1 h
theorem Afp (xs:List (List Int)) (h:Hc xs):fnMW Va (look [(18,Th)]) bo Tryz.f49 (xs,()) (λ(z:(List (List Int)×Unit)×Unit)=>z=((xs,()),())):=by
 obtain ⟨h,h4⟩:=h
 refine Eq.mp (Agh xs _) ?_
 refine ⟨⟨by omega,by show (xs.length:Int)<(4294967296:Int)+1;omega⟩,rfl,rfl,rfl,?_⟩
 refine Bf xs.length (λv=>v.1) (λj v=>v.2.1.length=xs.length/\v.2.1.take j=xs.take j) rfl ⟨by simp,by simp⟩ ?_
 rintro j ⟨i,ys,⟨⟩⟩ K hj hi ⟨h1,h2⟩ hK
 dsimp only at hi h1 h2⊢
 subst hi
 refine Br.dec (λhl=>?_) λhl=>?_
 ·have hl:j<xs.length:=by omega
  refine ⟨_,Bq hl,_,Ab (h4 _ (Aj hl)),⟨by omega,by omega⟩,by rw [Ai];omega,rfl,by rw [Bi],?_⟩
  rw [Bh (by omega),Ai,Bv]
  dsimp only
  rw [Bx]
  exact hK hl _ rfl ⟨by rw [Bi];exact h1,Km hl h1 h2⟩
 ·have:j=xs.length:=by omega
  subst this
  rw [Ap,<-h1,Ap] at h2
  rw [Bx,h2]
theorem rF:Ca Tryz.prog 49 bo:=
 Ca.cd Tm (Ep mO Bg) mixed Tryz.func49 (by kernel_rfl) (by kernel_rfl) λx h=>Afp x.1 h
theorem PB (a:List Int) (b:List (List Int)) (c:List Int) (h:Oe (a,b,c,())):fnMW Va (look [(18,Th),(49,bo)]) Yz Tryz.f50 (a,b,c,()) (λ(z:(List Int×List (List Int)×List Int×Unit)×Unit)=>z=((a,b,c,()),())):=by
 refine Eq.mp (RK a b c _) ⟨_,Ab h.1,_,Ab h.2.1,_,Ab h.2.2,?_⟩
 simp only [Bx]
theorem w9:Ca Tryz.prog 50 Yz:=
 Ca.cd Tm (Ep mO (Ep rF Bg)) mixed Tryz.func50 (by kernel_rfl) (by kernel_rfl) λx h=>PB x.1 x.2.1 x.2.2.1 h
theorem IV (n:Int) (s:ByteArray) (b:List (List Int)) (h:Ei (n,s,b,())):fnMW Va (look [(49,bo)]) Pw Tryz.f16 (n,s,b,()) (λ(z:(Int×ByteArray×List (List Int)×Unit)×Unit)=>z=((n,s,b,()),())):=by
 refine Eq.mp (KX n s b _) ⟨_,Ab h.2,?_⟩
 simp only [Bx]
theorem sE:Ca Tryz.prog 16 Pw:=
 Ca.cd Tm (Ep rF Bg) mixed Tryz.func16 (by kernel_rfl) (by kernel_rfl) λx h=>IV x.1 x.2.1 x.2.2.1 h
theorem lh: ∀(xs:List Int) (a:Int),xs.foldl max a=a\/xs.foldl max a∈xs
 | [],a=> .inl rfl
 |y::xs,a=>by
  simp only [Ig]
  rcases lh xs (max a y) with h|h
  ·rw [h]
   rcases Int.le_total a y with h1|h1
   ·rw [Int.max_eq_right h1];exact .inr (by simp)
   ·rw [Int.max_eq_left h1];exact .inl rfl
  ·exact .inr (At _ h)
theorem Sp (a:List Int):Ci a a=true:=by simp [Ci]
theorem DE {n:Nat} {room:Int} (h: ¬pI n room<0):pI n room=room-n/\(n:Int)<=room:=by
 unfold pI at*
 split at h
 ·exact absurd (show (-1:Int)<0 by decide) h
 ·rename_i h1;rw [Ag h1];exact ⟨rfl,by omega⟩
theorem JU: ∀(xs:List (List Int)) (room:Int),0<=room-> ¬wj xs room<0->wj xs room=room-Ed xs
 | [],room,_,_=>by simp [wj,Ed]
 |r::xs,room,h0,h=>by
  simp only [wj,Ed] at h⊢
  split at h
  ·exact absurd (show (-1:Int)<0 by decide) h
  ·rename_i h1
   rw [Ag h1]
   have e1:=DE (n:=r.length) h1
   have e1:Wl r room=room-r.length/\(r.length:Int)<=room:=e1
   rw [JU xs _ (by rw [e1.1];omega) h,e1.1]
   omega
theorem JV {xs:List (List Int)} {room:Int} (h: ¬Qy xs room<0):Qy xs room=room-xs.length-Ed xs:=by
 unfold Qy at*
 split at h
 ·exact absurd (show (-1:Int)<0 by decide) h
 ·rename_i h1
  rw [Ag h1]
  have e1:=DE h1
  rw [JU xs _ (by rw [e1.1];omega) h,e1.1]
theorem LF (k:Int) (n:Nat):List.take n (List.drop 0 (La k n))=La k n:=by rw [Dn,aK (by rw [Vi];exact Ao _)]
theorem sT:low 1:=⟨by decide,by decide⟩
noncomputable abbrev vC:MSpec:=cd [none] [(false, .Fm (.oslice tI))] false [none] [rL] (λx=>short (x.1.getD [])) (λx=>((x.1.getD [],()),()))
noncomputable abbrev cm:MSpec:=cd [none] [(false, .Fm tL)] false [none] [rL] (λx=>short x.1) (λx=>((x.1,()),()))
noncomputable abbrev Jr:Spec:=En (.pair tL .unit) tL false true (λx=>short x.1) (λx=>x.1)
theorem Adc (xs:Option (List Int)) (P:((List Int×Unit)×Unit)->Prop):(Br xs.isNone (P ((List.take 0 (List.drop 0 []),()),())) (0=0/\0=([]:List Int).length/\0+(xs.getD []).length<=Cq/\P ((List.take ([]++xs.getD []).length (List.drop 0 ([]++xs.getD [])),()),())))=fnMW Va (look []) vC Tryz.f138 (xs,()) P:=by kernel_rfl
theorem QW (xs:List Int) (P:List Int->Prop):(0=0/\0=([]:List Int).length/\0+xs.length<=Cq/\P (List.take ([]++xs).length (List.drop 0 ([]++xs))))=fnW Ej (look []) Jr Tryz.f116 (xs,()) P:=by kernel_rfl
theorem Abt (xs:Option (List Int)) (h:short (xs.getD [])):fnMW Va (look []) vC Tryz.f138 (xs,()) (λ(z:(List Int×Unit)×Unit)=>z=((xs.getD [],()),())):=by
 unfold short at h
 refine Eq.mp (Adc xs _) ⟨λhn=>?_,λ_=>⟨rfl,rfl,by show 0+(xs.getD []).length<=4294967296;omega,?_⟩⟩
 ·cases xs with
  |none=>rfl
  |some y=>cases hn
 ·simp only [Bx,ik]
theorem CO:Ca Tryz.prog 138 vC:=
 Ca.cd Tm Bg mixed Tryz.func138 (by kernel_rfl) (by kernel_rfl) λx h=>Abt x.1 h
theorem oA:Ca Tryz.prog 138 cm:=Ca.ofO CO λ_ _ h=>⟨h,rfl⟩
theorem OP (xs:List Int) (h:short xs):fnW Ej (look []) Jr Tryz.f116 (xs,()) (λ(z:List Int)=>z=xs):=by
 unfold short at h
 refine Eq.mp (QW xs _) ⟨rfl,rfl,by show 0+xs.length<=4294967296;omega,?_⟩
 simp only [Bx,ik]
theorem Wu:Sound Tryz.prog 116 Jr:=
 Sound.En Db Bg mixed Tryz.func116 (by kernel_rfl) (by kernel_rfl) λx h=>OP x.1 h
def Ef (xs is:List Int):List Int:=is.map (Nq xs)
noncomputable abbrev bD:MSpec:=cd [none,none] [(false, .Fm tL),(false, .Fm tL)] false [none] [rL] (λx=>short x.2.1/\Mm (List.length x.1) x.2.1) (λx=>((Ef x.1 x.2.1,()),()))
noncomputable abbrev bF:Spec:=En (.pair tL (.pair tL .unit)) tL false true (λx=>short x.1/\Mm (List.length x.2.1) x.1) (λx=>Ef x.2.1 x.1)
def Xn (xs:List Int):ByteArray:=bytesOf (xs.map λx=>IntKind.u8.wrap x)
noncomputable abbrev Ki:Spec:=En (.pair tL .unit) .str false true (λx=>short x.1) (λx=>Xn x.1)
def o8 (ps:List (List Int)) (p:List Int):Int:=Hs (λq=>decide (q=p)) ps 0
theorem YC (xs is:List Int) (P:((List Int×Unit)×Unit)->Prop):(((0:Int)<=(↑is.length:Int)/\(↑is.length:Int)<(↑Cq:Int)+(1:Int))/\(↑is.length:Int)=(↑is.length:Int)/\0=0/\(List.replicate (↑is.length:Int).toNat (Int.ofNat (nat_lit 0))).length=(List.replicate (↑is.length:Int).toNat (Int.ofNat (nat_lit 0))).length/\Cz (λ(v3:Int×List Int×PUnit) (k4:Int×List Int×PUnit->Prop)=>Br (decide (v3.1<(↑is.length:Int))) (∃(y5:Int),idx is v3.1=some y5/\ ∃(y6:Int),idx xs y5=some y6/\((0:Int)<=v3.1/\v3.1<(↑v3.2.1.length:Int))/\0+v3.1.toNat<v3.2.1.length/\0=0/\v3.2.1.length=(v3.2.1.set (0+v3.1.toNat) y6).length/\k4 (IntKind.i64.wrap (v3.1+(1:Int)),v3.2.1.set (0+v3.1.toNat) y6,())) (P ((List.take v3.2.1.length (List.drop 0 v3.2.1),()),()))) ((0:Int),List.replicate (↑is.length:Int).toNat (Int.ofNat (nat_lit 0)),PUnit.unit))=fnMW Va (look []) bD Tryz.f80 (xs,is,()) P:=by kernel_rfl
theorem YE (is xs:List Int) (P:List Int->Prop):(0=0/\0=([]:List Int).length/\Cz (λ(v3:Int×List Int×PUnit) (k4:Int×List Int×PUnit->Prop)=>Br (decide (v3.1<(↑is.length:Int))) (∃(y5:Int),idx is v3.1=some y5/\ ∃(y6:Int),idx xs y5=some y6/\0=0/\v3.2.1.length=v3.2.1.length/\v3.2.1.length+(List.take 1 (List.drop 0 [y6])).length<=Cq/\0=0/\(v3.2.1++List.take 1 (List.drop 0 [y6])).length=(v3.2.1++List.take 1 (List.drop 0 [y6])).length/\k4 (IntKind.i64.wrap (v3.1+(1:Int)),v3.2.1++List.take 1 (List.drop 0 [y6]),())) (P (List.take v3.2.1.length (List.drop 0 v3.2.1)))) ((0:Int),[],PUnit.unit))=fnW Ej (look []) bF Tryz.f78 (is,xs,()) P:=by kernel_rfl
theorem RI (xs:List Int) (P:ByteArray->Prop):(((0:Int)<=(↑xs.length:Int)/\(↑xs.length:Int)<(↑Cq:Int)+(1:Int))/\(↑xs.length:Int)=(↑xs.length:Int)/\0=0/\(List.replicate (↑xs.length:Int).toNat (Int.ofNat (nat_lit 0))).length=(List.replicate (↑xs.length:Int).toNat (Int.ofNat (nat_lit 0))).length/\Cz (λ(v2:Int×List Int×PUnit) (k3:Int×List Int×PUnit->Prop)=>Br (decide (v2.1<(↑xs.length:Int))) (∃(y4:Int),idx xs v2.1=some y4/\((0:Int)<=v2.1/\v2.1<(↑v2.2.1.length:Int))/\0+v2.1.toNat<v2.2.1.length/\0=0/\v2.2.1.length=(v2.2.1.set (0+v2.1.toNat) (IntKind.u8.wrap y4)).length/\k3 (IntKind.i64.wrap (v2.1+(1:Int)),v2.2.1.set (0+v2.1.toNat) (IntKind.u8.wrap y4),())) (P (bytesOf (List.take v2.2.1.length (List.drop 0 v2.2.1))))) ((0:Int),List.replicate (↑xs.length:Int).toNat (Int.ofNat (nat_lit 0)),PUnit.unit))=fnW Ej (look []) Ki Tryz.f79 (xs,()) P:=by kernel_rfl
theorem uZ (xs is:List Int):(Ef xs is).length=is.length:=by simp [Ef]
theorem Afd {α:Type} (y:α):List.take 1 (List.drop 0 [y])= [y]:=rfl
theorem WB (xs is:List Int) (h:short is/\Mm xs.length is):fnMW Va (look []) bD Tryz.f80 (xs,is,()) (λ(z:(List Int×Unit)×Unit)=>z=((Ef xs is,()),())):=by
 obtain ⟨h,hr⟩:=h
 unfold short at h
 refine Eq.mp (YC xs is _) ?_
 refine ⟨⟨by omega,by show (is.length:Int)<(4294967296:Int)+1;omega⟩,rfl,rfl,rfl,?_⟩
 have Pe:=uZ xs is
 refine Bf is.length (λv=>v.1) (λj v=>v.2.1.length=(Ef xs is).length/\v.2.1.take j=(Ef xs is).take j) rfl ⟨by rw [Pe];simp,by simp⟩ ?_
 rintro j ⟨i,ys,⟨⟩⟩ K hj hi ⟨h1,h2⟩ hK
 dsimp only at hi h1 h2⊢
 subst hi
 refine Br.dec (λhl=>?_) λhl=>?_
 ·have hl:j<is.length:=by omega
  have hy:=hr _ (Aj hl)
  refine ⟨_,Bq hl,_,j4 hy.1 hy.2,⟨by omega,by omega⟩,by rw [Ai];omega,rfl,by rw [Bi],?_⟩
  rw [Bh (by omega),Ai,Bv]
  have Kn:j<(Ef xs is).length:=by rw [Pe];exact hl
  have e:Nq xs is[j]=(Ef xs is)[j]:=by simp [Ef]
  rw [e]
  exact hK hl _ rfl ⟨by rw [Bi];exact h1,Km Kn h1 h2⟩
 ·have:j=is.length:=by omega
  subst this
  rw [<-Pe,Ap,<-h1,Ap] at h2
  rw [Dn,Ap,h2]
theorem xD:Ca Tryz.prog 80 bD:=
 Ca.cd Tm Bg mixed Tryz.func80 (by kernel_rfl) (by kernel_rfl) λx h=>WB x.1 x.2.1 h
theorem WD (is xs:List Int) (h:short is/\Mm xs.length is):fnW Ej (look []) bF Tryz.f78 (is,xs,()) (λ(z:List Int)=>z=Ef xs is):=by
 obtain ⟨h,hr⟩:=h
 unfold short at h
 refine Eq.mp (YE is xs _) ⟨rfl,rfl,?_⟩
 have Pe:=uZ xs is
 refine Bf is.length (λv=>v.1) (λj v=>v.2.1=(Ef xs is).take j) rfl rfl ?_
 rintro j ⟨i,ys,⟨⟩⟩ K hj hi h1 hK
 dsimp only at hi h1⊢
 subst hi
 refine Br.dec (λhl=>?_) λhl=>?_
 ·have hl:j<is.length:=by omega
  have hy:=hr _ (Aj hl)
  have Kn:j<(Ef xs is).length:=by rw [Pe];exact hl
  refine ⟨_,Bq hl,_,j4 hy.1 hy.2,rfl,rfl,?_,rfl,rfl,?_⟩
  ·show ys.length+1<=4294967296
   rw [h1,De];omega
  ·rw [Bh (by omega),Afd]
   refine hK hl _ rfl ?_
   dsimp only
   rw [h1,Ay Kn]
   simp [Ef]
 ·have:j=is.length:=by omega
  subst this
  rw [Bx,h1,<-Pe,Ap]
theorem xF:Sound Tryz.prog 78 bF:=
 Sound.En Db Bg mixed Tryz.func78 (by kernel_rfl) (by kernel_rfl) λx h=>WD x.1 x.2.1 h
theorem OZ (xs:List Int) (h:short xs):fnW Ej (look []) Ki Tryz.f79 (xs,()) (λ(z:ByteArray)=>z=Xn xs):=by
 unfold short at h
 refine Eq.mp (RI xs _) ?_
 refine ⟨⟨by omega,by show (xs.length:Int)<(4294967296:Int)+1;omega⟩,rfl,rfl,rfl,?_⟩
 have Pe:(xs.map λx=>IntKind.u8.wrap x).length=xs.length:=by simp
 refine Bf xs.length (λv=>v.1) (λj v=>v.2.1.length=(xs.map λx=>IntKind.u8.wrap x).length/\v.2.1.take j=(xs.map λx=>IntKind.u8.wrap x).take j) rfl ⟨by rw [Pe];simp,by simp⟩ ?_
 rintro j ⟨i,ys,⟨⟩⟩ K hj hi ⟨h1,h2⟩ hK
 dsimp only at hi h1 h2⊢
 subst hi
 refine Br.dec (λhl=>?_) λhl=>?_
 ·have hl:j<xs.length:=by omega
  refine ⟨_,Bq hl,⟨by omega,by omega⟩,by rw [Ai];omega,rfl,by rw [Bi],?_⟩
  rw [Bh (by omega),Ai,Bv]
  have Kn:j<(xs.map λx=>IntKind.u8.wrap x).length:=by rw [Pe];exact hl
  have e:IntKind.u8.wrap xs[j]=(xs.map λx=>IntKind.u8.wrap x)[j]:=by simp
  rw [e]
  exact hK hl _ rfl ⟨by rw [Bi];exact h1,Km Kn h1 h2⟩
 ·have:j=xs.length:=by omega
  subst this
  rw [<-Pe,Ap,<-h1,Ap] at h2
  rw [Dn,Ap,h2];rfl
theorem cr:Sound Tryz.prog 79 Ki:=
 Sound.En Db Bg mixed Tryz.func79 (by kernel_rfl) (by kernel_rfl) λx h=>OZ x.1 h
theorem gD {α:Type} (P:α->Bool) (y:α): ∀(l:List α) (i:Int),0<=i->Hs P (l++ [y]) i=if Hs P l i<0 then (if P y=true then i+l.length else-1) else Hs P l i
 | [],i,_=>by simp [Hs]
 |x::r,i,h=>by
  simp only [Md,Hs,Az]
  split
  ·rw [Ag (by omega)]
  ·rw [gD P y r (i+1) (by omega),show i+1+(r.length:Int)=i+((r.length+1:Nat):Int) by push_cast;omega]
theorem BV (ps:List (List Int)) (q p:List Int):o8 (ps++ [q]) p=if o8 ps p<0 then (if q=p then (ps.length:Int) else-1) else o8 ps p:=by
 unfold o8
 rw [gD _ _ _ _ (Nx 0)]
 simp only [Nj,Int.zero_add]
def gq (p:List Int):Prop:= ∀x∈p,0<=x/\x<256
theorem ZP {x y:Int} (hx:0<=x/\x<256) (hy:0<=y/\y<256) (h:UInt8.ofNat (IntKind.u8.wrap x).toNat=UInt8.ofNat (IntKind.u8.wrap y).toNat):x=y:=by
 have h:=Mf UInt8.toNat h
 simp only [IntKind.wrap_u8,UInt8.toNat_ofNat'] at h
 omega
theorem bytes_inj: ∀(p q:List Int),gq p->gq q->(p.map λx=>UInt8.ofNat (IntKind.u8.wrap x).toNat)=(q.map λx=>UInt8.ofNat (IntKind.u8.wrap x).toNat)->p=q
 | [],[],_,_,_=>rfl
 | [],_::_,_,_,h=>by simp at h
 |_::_,[],_,_,h=>by simp at h
 |x::p,y::q,hp,hq,h=>by
  simp only [Cc,Gc] at h
  rw [ZP (hp x (by simp)) (hq y (by simp)) h.1,bytes_inj p q (λz hz=>hp z (by simp [hz])) (λz hz=>hq z (by simp [hz])) h.2]
theorem key_inj {p q:List Int} (hp:gq p) (hq:gq q) (h:Xn p=Xn q):p=q:=by
 refine bytes_inj p q hp hq ?_
 simp only [Xn,bytesOf,ByteArray.mk.injEq,List.map_map] at h
 have h:=Mf Array.toList h
 simpa [Function.comp_def] using h
def KM (m:ByteArray->Option Int) (ps:List (List Int)):Prop:= ∀p,gq p->m (Xn p)=if o8 ps p<0 then none else some (o8 ps p)
theorem KM.nil:KM (λ_=>none) []:= λp _=>by
 rw [Ab (by unfold o8;simp [Hs])]
theorem KM.add {m:ByteArray->Option Int} {ps:List (List Int)} {q:List Int} (h:KM m ps) (hq:gq q) (hn:o8 ps q<0):KM (jL m (Xn q) (ps.length:Int)) (ps++ [q]):=by
 intro p hp
 rw [BV]
 unfold jL
 by_cases e:p=q
 ·subst e
  rw [Ab rfl,Ab hn,Ab rfl,Ag (by omega)]
 ·rw [Ag (λhk=>e (key_inj hp hq hk)),h p hp]
  have e': ¬q=p:= λh=>e h.symm
  rw [Ag e']
  by_cases UY:o8 ps p<0
  ·rw [Ab UY,Ab UY,Ab (by decide)]
  ·rw [Ag UY,Ag UY,Ag UY]
def ku (n:Nat) (last:Int):List Int:=(Aw n).filter λl=>!(l== -last)
noncomputable abbrev Nv:Spec:=En (.pair Fb .unit) tL false true (λx=>List.length x.1.2.2.1<=8) (λx=>Aw (List.length x.1.2.2.1))
noncomputable abbrev db:Spec:=En (.pair Fb (.pair tI .unit)) tL false true (λx=>List.length x.1.2.2.1<=8/\ -8<=x.2.1/\x.2.1<=8) (λx=>ku (List.length x.1.2.2.1) x.2.1)
abbrev oL:Type:=Int×Int×ByteArray×List (List Int)×List Int×PUnit
theorem KR (p:Int×ByteArray×List (List Int)×Unit) (P:List Int->Prop):(0=0/\0=([]:List Int).length/\Cz (λ(v2:oL) (k3:oL->Prop)=>Br (decide (v2.1<=(↑v2.2.2.2.1.length:Int))) (0=0/\v2.2.2.2.2.1.length=v2.2.2.2.2.1.length/\v2.2.2.2.2.1.length+(List.take 2 (List.drop 0 [v2.1,IntKind.i64.wrap ((0:Int)-v2.1)])).length<=Cq/\0=0/\(v2.2.2.2.2.1++List.take 2 (List.drop 0 [v2.1,IntKind.i64.wrap ((0:Int)-v2.1)])).length=(v2.2.2.2.2.1++List.take 2 (List.drop 0 [v2.1,IntKind.i64.wrap ((0:Int)-v2.1)])).length/\k3 (IntKind.i64.wrap (v2.1+(1:Int)),v2.2.1,v2.2.2.1,v2.2.2.2.1,v2.2.2.2.2.1++List.take 2 (List.drop 0 [v2.1,IntKind.i64.wrap ((0:Int)-v2.1)]),())) (P (List.take v2.2.2.2.2.1.length (List.drop 0 v2.2.2.2.2.1)))) ((1:Int),p.1,p.2.1,p.2.2.1,[],PUnit.unit))=fnW Ej (look []) Nv Tryz.f141 (p,()) P:=by kernel_rfl
theorem Ag8 (p:Int×ByteArray×List (List Int)×Unit) (l:Int) (P:List Int->Prop):(∃(y3:List Int),Nv.fn ((p.1,p.2.1,p.2.2.1,()),())=some y3/\0=0/\0=([]:List Int).length/\Cz (λ(v4:Int×List Int×PUnit) (k5:Int×List Int×PUnit->Prop)=>Br (decide (v4.1<(↑y3.length:Int))) (Br (l==(0:Int)) (∃(y6:Int),idx y3 v4.1=some y6/\0=0/\v4.2.1.length=v4.2.1.length/\v4.2.1.length+(List.take 1 (List.drop 0 [y6])).length<=Cq/\0=0/\(v4.2.1++List.take 1 (List.drop 0 [y6])).length=(v4.2.1++List.take 1 (List.drop 0 [y6])).length/\k5 (IntKind.i64.wrap (v4.1+(1:Int)),v4.2.1++List.take 1 (List.drop 0 [y6]),())) (∃(y6:Int),idx y3 v4.1=some y6/\Br (y6 !=IntKind.i64.wrap ((0:Int)-l)) (∃(y7:Int),idx y3 v4.1=some y7/\0=0/\v4.2.1.length=v4.2.1.length/\v4.2.1.length+(List.take 1 (List.drop 0 [y7])).length<=Cq/\0=0/\(v4.2.1++List.take 1 (List.drop 0 [y7])).length=(v4.2.1++List.take 1 (List.drop 0 [y7])).length/\k5 (IntKind.i64.wrap (v4.1+(1:Int)),v4.2.1++List.take 1 (List.drop 0 [y7]),())) (0=0/\v4.2.1.length=v4.2.1.length/\k5 (IntKind.i64.wrap (v4.1+(1:Int)),v4.2.1,())))) (P (List.take v4.2.1.length (List.drop 0 v4.2.1)))) ((0:Int),[],PUnit.unit))=fnW Ej (look [(141,Nv)]) db Tryz.f117 (p,l,()) P:=by kernel_rfl
theorem IM (p:PP) (h:List.length p.2.2.1<=8):fnW Ej (look []) Nv Tryz.f141 (p,()) (λ(z:List Int)=>z=Aw (List.length p.2.2.1)):=by
 refine Eq.mp (KR p _) ⟨rfl,rfl,?_⟩
 refine Cz.mk (λv=> ∃j:Nat,j<=List.length p.2.2.1/\v=((j:Int)+1,p.1,p.2.1,p.2.2.1,Aw j,())) (λv=>List.length p.2.2.1+1-v.1.toNat) ⟨0,Iq _,rfl⟩ ?_
 rintro _ ⟨j,hj,rfl⟩
 dsimp only
 refine Br.dec (λhl=>?_) λhl=>?_
 ·refine ⟨rfl,rfl,?_,rfl,rfl,⟨j+1,by omega,?_⟩,?_⟩
  ·show (Aw j).length+2<=4294967296
   rw [Od];omega
  ·rw [cb,Dk (n:=(j:Int)+1+1) (by omega) (by omega),Dk (n:=0-((j:Int)+1)) (by omega) (by omega),Int.zero_sub]
   rfl
  ·rw [Dk (by omega) (by omega)];omega
 ·have:j=List.length p.2.2.1:=by omega
  subst this
  rw [Bx]
theorem gL:Sound Tryz.prog 141 Nv:=
 Sound.En Db Bg mixed Tryz.func141 (by kernel_rfl) (by kernel_rfl) λx h=>IM x.1 h
theorem Afg (p:PP) (l:Int) (h:List.length p.2.2.1<=8/\ -8<=l/\l<=8):fnW Ej (look [(141,Nv)]) db Tryz.f117 (p,l,()) (λ(z:List Int)=>z=ku (List.length p.2.2.1) l):=by
 refine Eq.mp (Ag8 p l _) ⟨_,Ab h.1,rfl,rfl,?_⟩
 dsimp only
 unfold ku
 have h0: ∀y∈Aw (List.length p.2.2.1),y≠0:= λy hy=>(Pr hy).1
 have hlen:(Aw (List.length p.2.2.1)).length<=16:=by rw [Od];omega
 refine Bf (Aw (List.length p.2.2.1)).length (λv=>v.1) (λj v=>v.2.1=((Aw (List.length p.2.2.1)).take j).filter λy=>!(y== -l)) rfl (by simp) ?_
 rintro j ⟨i,ys,⟨⟩⟩ K hj hi h1 hK
 dsimp only at hi h1⊢
 subst hi h1
 have YP:=List.length_filter_le (λy=>!(y== -l)) ((Aw (List.length p.2.2.1)).take j)
 rw [De] at YP
 refine Br.dec (λhl=>?_) λhl=>?_
 ·have hl:j<(Aw (List.length p.2.2.1)).length:=by omega
  have lu: ∀b:Bool,((Aw (List.length p.2.2.1))[j]== -l)=b->((Aw (List.length p.2.2.1)).take (j+1)).filter (λy=>!(y== -l))=((Aw (List.length p.2.2.1)).take j).filter (λy=>!(y== -l))++(if b then [] else [(Aw (List.length p.2.2.1))[j]]):= λb hb=>by
   rw [Ay hl,List.filter_append]
   cases b<;>simp [hb]
  rw [Bh (by omega)]
  have grow:((Aw (List.length p.2.2.1))[j]== -l)=false->((0:Nat)=0/\(((Aw (List.length p.2.2.1)).take j).filter λy=>!(y== -l)).length=(((Aw (List.length p.2.2.1)).take j).filter λy=>!(y== -l)).length/\(((Aw (List.length p.2.2.1)).take j).filter λy=>!(y== -l)).length+(List.take 1 (List.drop 0 [(Aw (List.length p.2.2.1))[j]])).length<=Cq/\(0:Nat)=0/\
    ((((Aw (List.length p.2.2.1)).take j).filter λy=>!(y== -l))++List.take 1 (List.drop 0 [(Aw (List.length p.2.2.1))[j]])).length=((((Aw (List.length p.2.2.1)).take j).filter λy=>!(y== -l))++List.take 1 (List.drop 0 [(Aw (List.length p.2.2.1))[j]])).length/\K (((j+1:Nat):Int),(((Aw (List.length p.2.2.1)).take j).filter λy=>!(y== -l))++List.take 1 (List.drop 0 [(Aw (List.length p.2.2.1))[j]]),())):= λhb=>by
   refine ⟨rfl,rfl,?_,rfl,rfl,?_⟩
   ·show _+1<=4294967296
    omega
   ·exact hK hl _ rfl (by have:=lu false hb;simpa using this.symm)
  refine ⟨λhz=>⟨_,Bq hl,grow ?_⟩,λhz=>⟨_,Bq hl,⟨λIk=>⟨_,Bq hl,grow ?_⟩,λIk=>⟨rfl,rfl,?_⟩⟩⟩⟩
  ·simp only [Xd] at hz
   have:=h0 _ (Aj hl)
   simp only [Np]
   omega
  ·rw [Dk (by omega) (by omega)] at Ik
   simp only [Xe,ne_eq] at Ik
   simp only [Np]
   omega
  ·rw [Dk (by omega) (by omega)] at Ik
   simp only [Hf] at Ik
   exact hK hl _ rfl (by have:=lu true (by simp only [Xd];omega);simpa using this.symm)
 ·have:j=(Aw (List.length p.2.2.1)).length:=by omega
  subst this
  rw [Bx,Ap]
theorem JI:Sound Tryz.prog 117 db:=
 Sound.En Db (Av gL Bg) mixed Tryz.func117 (by kernel_rfl) (by kernel_rfl) λx h=>Afg x.1 x.2.1 h
theorem Acj {p:PP} {room:Int} (hr:roomy room) (h: ¬aQ p room<0):(Ed p.2.2.1:Int)<=room-aQ p room/\roomy (aQ p room):=by
 unfold aQ at h⊢
 split at h
 ·exact absurd (show (-1:Int)<0 by decide) h
 ·rename_i h1
  rw [Ag h1]
  split at h
  ·exact absurd (show (-1:Int)<0 by decide) h
  ·rename_i h2
   rw [Ag h2]
   have e2:=JV h2
   obtain ⟨r1,r2⟩:=hr
   unfold roomy
   omega
def AW (v:Int):List Int->Nat
 | []=>0
 |x::r=>if x>v then AW v r+1 else 0
def Af8 (v:Int) (t:List Int):Option (List Int):=if AW v t=0 then none else some (Nq t ((AW v t-1:Nat):Int)::(t.set (AW v t-1) v).reverse)
def pH:List Int->Option (List Int)
 | []=>none
 |v::t=>match pH t with
  |some t'=>some (v::t')
  |none=>Af8 v t
noncomputable abbrev Ia:MSpec:=cd [none] [(false, .Fm tL)] false [none] [rL] (λx=>short x.1) (λx=>((x.1,()),()))
theorem KJ (xs:List Int) (P:((List Int×Unit)×Unit)->Prop):(0=0/\0=([]:List Int).length/\0+xs.length<=Cq/\P ((List.take ([]++xs).length (List.drop 0 ([]++xs)),()),()))=fnMW Va (look []) Ia Tryz.f116 (xs,()) P:=by kernel_rfl
theorem HV {s s':List Int} (h:pH s=some s'): ∀pre:List Int,pH (pre++s)=some (pre++s')
 | []=>h
 |v::p=>by rw [Md,pH,HV h p];rfl
theorem Afu {α:Type} (pre:List α) (v a:α) (t:List α):(pre++v::t).set pre.length a=pre++a::t:=by
 rw [List.set_append,Ag (by omega)];simp
theorem IE (xs:List Int) (h:short xs):fnMW Va (look []) Ia Tryz.f116 (xs,()) (λ(z:(List Int×Unit)×Unit)=>z=((xs,()),())):=by
 unfold short at h
 refine Eq.mp (KJ xs _) ⟨rfl,rfl,by show 0+xs.length<=4294967296;omega,?_⟩
 simp only [Bx,ik]
theorem so:Ca Tryz.prog 116 Ia:=
 Ca.cd Tm Bg mixed Tryz.func116 (by kernel_rfl) (by kernel_rfl) λx h=>IE x.1 h
inductive Run:List Int->List (List Int)->List Int->Prop where
 |one (a:List Int):Run a [a] a
 |more {a c b:List Int} {L:List (List Int)} :pH a=some c->Run c L b->Run a (a::L) b
theorem Run.cons {a b:List Int} {L:List (List Int)} (h:Run a L b) (v:Int):Run (v::a) (L.map (v:: ·)) (v::b):=by
 induction h with
 |one a=>exact .one _
 |more h3 _ ih=>exact .more (HV h3 [v]) ih
theorem Run.head {a b:List Int} {L:List (List Int)} (h:Run a L b): ∃M,L=a::M:=by
 cases h with
 |one=>exact ⟨_,rfl⟩
 |more _ _=>exact ⟨_,rfl⟩
theorem Run.at {a b:List Int} {L:List (List Int)} (h:Run a L b): ∀j (hj:j<L.length),(∀h2:j+1<L.length,pH L[j]=some L[j+1])/\(j+1=L.length->L[j]=b):=by
 induction h with
 |one a=>
  intro j hj
  simp only [By] at hj
  have:j=0:=by omega
  subst this
  exact ⟨λh2=>by simp at h2,λ_=>rfl⟩
 |more h3 h4 ih=>
  intro j hj
  rcases j with _|j
  ·obtain ⟨M,hM⟩:=h4.head
   refine ⟨λh2=>?_,λh2=>?_⟩
   ·simp only [List.getElem_cons_zero,aJ]
    subst hM
    exact h3
   ·subst hM;simp at h2
  ·have:=ih j (by simpa using hj)
   refine ⟨λh2=>?_,λh2=>?_⟩
   ·simp only [aJ]
    exact this.1 (by simpa using h2)
   ·simp only [aJ]
    exact this.2 (by simpa using h2)
theorem Ack {t:TT} {room:Int} (hr:roomy room) (h: ¬Mb t room<0):((List.length t.1+Ed t.2.1+List.length t.2.2.1:Nat):Int)<=room-Mb t room/\roomy (Mb t room):=by
 have qU:=ja hr h
 refine ⟨?_,qU⟩
 clear qU
 unfold Mb at h⊢
 split at h
 ·exact absurd (show (-1:Int)<0 by decide) h
 ·rename_i h1
  rw [Ag h1]
  split at h
  ·exact absurd (show (-1:Int)<0 by decide) h
  ·rename_i h2
   rw [Ag h2]
   split at h
   ·exact absurd (show (-1:Int)<0 by decide) h
   ·rename_i h3
    rw [Ag h3]
    have e1:Wl t.1 room=room-t.1.length/\_:=DE (n:=t.1.length) h1
    have e2:=JV h2
    have e3:Wl t.2.2.1 (Qy t.2.1 (Wl t.1 room))=Qy t.2.1 (Wl t.1 room)-t.2.2.1.length/\_:=DE (n:=t.2.2.1.length) h3
    omega
def Ev:List Int->List Int->Int
 | [],[]=>0
 | [],_::_=> -1
 |_::_,[]=>1
 |x::a,y::b=>if x<y then-1 else if x>y then 1 else Ev a b
def fv (a b:List Int):Bool:=decide (Ev a b<0)
noncomputable abbrev Yw:Spec:=En (.pair tL (.pair tL .unit)) .bool false true (λx=>short x.1/\List.length x.1=List.length x.2.1) (λx=>fv x.1 x.2.1)
theorem RF (a b:List Int) (P:Bool->Prop):(Cz (λ(v3:Int×PUnit) (k4:Int×PUnit->Prop)=>Br (decide (v3.1<(↑a.length:Int))) (∃(y5:Int),idx a v3.1=some y5/\ ∃(y6:Int),idx b v3.1=some y6/\Br (y5 !=y6) (∃(y7:Int),idx a v3.1=some y7/\ ∃(y8:Int),idx b v3.1=some y8/\P (decide (y7<y8))) (k4 (IntKind.i64.wrap (v3.1+(1:Int)),()))) (P false)) ((0:Int),PUnit.unit))=fnW Ej (look []) Yw Tryz.f158 (a,b,()) P:=by kernel_rfl
theorem OW (a b:List Int) (h:short a/\a.length=b.length):fnW Ej (look []) Yw Tryz.f158 (a,b,()) (λ(z:Bool)=>z=fv a b):=by
 obtain ⟨ha,hb⟩:=h
 unfold short at ha
 refine Eq.mp (RF a b _) ?_
 refine Bf a.length (λv=>v.1) (λj _=>Ev (a.drop j) (b.drop j)=Ev a b) rfl (by simp) ?_
 rintro j ⟨i,⟨⟩⟩ K hj hi hR2 hK
 dsimp only at hi⊢
 subst hi
 refine Br.dec (λhl=>?_) λhl=>?_
 ·have hl:j<a.length:=by omega
  have hlb:j<b.length:=by omega
  rw [Cn hl,Cn hlb] at hR2
  simp only [Ev] at hR2
  refine ⟨_,Bq hl,_,Bq hlb,⟨λIk=>?_,λIk=>?_⟩⟩
  ·refine ⟨_,Bq hl,_,Bq hlb,?_⟩
   have Ik:a[j]≠b[j]:=by simpa using Ik
   unfold fv
   rw [<-hR2]
   by_cases h1:a[j]<b[j]
   ·rw [Ab h1];simp [h1]
   ·rw [Ag h1,Ab (by omega)];simp [h1]
  ·have Ik:a[j]=b[j]:=by simpa using Ik
   rw [Ag (by omega),Ag (by omega)] at hR2
   rw [Bh (by omega)]
   exact hK hl _ rfl hR2
 ·have:j=a.length:=by omega
  subst this
  rw [Ij,List.drop_eq_nil_of_le (by omega)] at hR2
  unfold fv
  rw [<-hR2]
  rfl
theorem vX:Sound Tryz.prog 158 Yw:=
 Sound.En Db Bg mixed Tryz.func158 (by kernel_rfl) (by kernel_rfl) λx h=>OW x.1 x.2.1 h
abbrev SS:Type:=List (List Int)×List Int×List Int×Bool×Unit
abbrev rLS:CK:= .row tL 26
abbrev rN:CK:= .row tI 3
def Gk (L:List (List Int)) (Mw:List Int) (s:List Int):Nat:=(Mw.takeWhile λi=>fv (L.getD i.toNat []) s).length
structure Hg (m:Nat) (L:List (List Int)) (Mw:List Int):Prop where
 wP:L.length<=3000
 len: ∀x∈L,x.length=m
 short:m<=20
 perm:Mw.Perm (upto L.length)
 sorted:Mw.Pairwise λi j=>fv (L.getD i.toNat []) (L.getD j.toNat [])=true
def rf (L:List (List Int)) (s:List Int):Int:=if s∈L then (L.idxOf s:Int) else-1
def Xm (Mw:List Int) (k:Nat) (x:Int):List Int:=Mw.take k++x::Mw.drop k
noncomputable abbrev fQ:Spec:=En (.pair kK (.pair tL .unit)) tI false true (λx=>Hg (List.length x.2.1) x.1.1 x.1.2.2.1) (λx=>(Gk x.1.1 x.1.2.2.1 x.2.1:Int))
noncomputable abbrev eI:Spec:=En (.pair kK (.pair tL .unit)) tI false true (λx=>Hg (List.length x.2.1) x.1.1 x.1.2.2.1) (λx=>rf x.1.1 x.2.1)
noncomputable abbrev mK:MSpec:=cd [some 4,none,none] [(false,rLS),(false,rL),(false,rN),(false, .Fm .bool),(false, .Fm tL),(false, .Fm tI)] false [some 4] [rLS,rL,rN, .Fm .bool]
 (λx=>Hg (List.length x.2.2.2.2.1) x.1 x.2.2.1/\List.length x.2.1<=3000) (λx=>((x.1++ [x.2.2.2.2.1],x.2.1++ [x.2.2.2.2.2.1],Xm x.2.2.1 (Gk x.1 x.2.2.1 x.2.2.2.2.1) (List.length x.1),x.2.2.2.1,()),()))
def dg (L:List (List Int)):List Int:=(List.range L.length).foldl (λ(S:List Int) (i:Nat)=>Xm S (Gk (L.take i) S (L.getD i [])) (i:Int)) []
def Mg (g:List (List Int)) (x:List Int) (d:Int):List Int->List (List Int)->List Int->List (List Int)×List Int×Bool
 | [],L,D=>(L,D,true)
 |l::ls,L,D=>if Al x (Bt g l)∈L then Mg g x d ls L D else if L.length=3000 then (L,D,false) else Mg g x d ls (L++ [Al x (Bt g l)]) (D++ [d+1])
def Ri (g:List (List Int)) (ls:List Int):Nat->Nat->List (List Int)->List Int->List (List Int)×List Int×Bool
 |0,_,L,D=>(L,D,true)
 |f+1,k,L,D=>if k<L.length then (match Mg g (L.getD k []) (D.getD k 0) ls L D with
  |(L',D',true)=>Ri g ls f (k+1) L' D'
  |(L',D',false)=>(L',D',false)) else (L,D,true)
def Kr (g:List (List Int)) (s:List Int):List (List Int)×List Int×Bool:=Ri g (Aw g.length) 3001 0 [s] [0]
def Rv (g:List (List Int)) (s:List Int):SS:=((Kr g s).1,(Kr g s).2.1,dg (Kr g s).1,(Kr g s).2.2,())
noncomputable abbrev kG:Spec:=En (.pair Fb (.pair tL .unit)) kK false false (λx=>Ea x.1=true/\List.length x.2.1<=20/\ ∀y∈x.2.1,0<=y/\y<x.1.1) (λx=>Rv x.1.2.2.1 x.2.1)
abbrev TQ:Type:=Int×Int×List (List Int)×List Int×List Int×Bool×PUnit
theorem Alu (f:List (List Int)×List Int×List Int×Bool×Unit) (s:List Int) (P:Int->Prop):(Cz (λ(v3:TQ) (k4:TQ->Prop)=>Br (decide (v3.1<v3.2.1)) ((2:Int)≠(0:Int)/\ ∃(y5:Int),idx v3.2.2.2.2.1 (IntKind.i64.wrap ((IntKind.i64.wrap (v3.1+v3.2.1)).tdiv (2:Int)))=some y5/\ ∃(y6:List Int),idx v3.2.2.1 y5=some y6/\ ∃(y7:Bool),Yw.fn (y6,s,())=some y7/\Br y7 (k4 (IntKind.i64.wrap (IntKind.i64.wrap ((IntKind.i64.wrap (v3.1+v3.2.1)).tdiv (2:Int))+(1:Int)),v3.2.1,v3.2.2.1,v3.2.2.2.1,v3.2.2.2.2.1,v3.2.2.2.2.2.1,())) (k4 (v3.1,IntKind.i64.wrap ((IntKind.i64.wrap (v3.1+v3.2.1)).tdiv (2:Int)),v3.2.2.1,v3.2.2.2.1,v3.2.2.2.2.1,v3.2.2.2.2.2.1,()))) (P v3.1)) ((0:Int),(↑f.2.2.1.length:Int),f.1,f.2.1,f.2.2.1,f.2.2.2.1,PUnit.unit))=fnW Ej (look [(158,Yw)]) fQ Tryz.f149 (f,s,()) P:=by kernel_rfl
theorem Adj (f:List (List Int)×List Int×List Int×Bool×Unit) (s:List Int) (P:Int->Prop):(∃(y3:Int),fQ.fn ((f.1,f.2.1,f.2.2.1,f.2.2.2.1,()),s,())=some y3/\Br (decide (y3<(↑f.2.2.1.length:Int))) (∃(y4:Int),idx f.2.2.1 y3=some y4/\ ∃(y5:List Int),idx f.1 y4=some y5/\ ∃(y6:Bool),Bo.fn (y5,s,())=some y6/\Br y6 (∃(y7:Int),idx f.2.2.1 y3=some y7/\P y7) (P (-1:Int))) (P (-1:Int)))=fnW Ej (look [(149,fQ),(101,Bo)]) eI Tryz.f132 (f,s,()) P:=by kernel_rfl
theorem Alr (L:List (List Int)) (D S:List Int) (b:Bool) (s:List Int) (d:Int) (P:((List (List Int)×List Int×List Int×Bool×Unit)×Unit)->Prop):(∃(y7:Int),fQ.fn ((List.take L.length (List.drop 0 L),List.take D.length (List.drop 0 D),List.take S.length (List.drop 0 S),b,()),s,())=some y7/\0=0/\S.length=S.length/\S.length+(List.take 1 (List.drop 0 [(0:Int)])).length<=Cq/\((0:Int)<=IntKind.i64.wrap (y7+(1:Int))/\IntKind.i64.wrap (y7+(1:Int))<=(↑(S++List.take 1 (List.drop 0 [(0:Int)])).length:Int)/\(↑(S++List.take 1 (List.drop 0 [(0:Int)])).length:Int)<=(↑(S++List.take 1 (List.drop 0 [(0:Int)])).length:Int))/\((0:Int)<=y7/\y7<=(↑(S++List.take 1 (List.drop 0 [(0:Int)])).length:Int)/\(↑(S++List.take 1 (List.drop 0 [(0:Int)])).length:Int)<=(↑(S++List.take 1 (List.drop 0 [(0:Int)])).length:Int))/\((0:Int)<=y7/\y7<(↑(S++List.take 1 (List.drop 0 [(0:Int)])).length:Int))/\0+y7.toNat<(Dw (S++List.take 1 (List.drop 0 [(0:Int)])) (0+(IntKind.i64.wrap (y7+(1:Int))).toNat) (List.take ((↑(S++List.take 1 (List.drop 0 [(0:Int)])).length:Int).toNat-(IntKind.i64.wrap (y7+(1:Int))).toNat) (List.take ((↑(S++List.take 1 (List.drop 0 [(0:Int)])).length:Int).toNat-y7.toNat) (List.drop (0+y7.toNat) (S++List.take 1 (List.drop 0 [(0:Int)])))))).length/\0=0/\L.length=L.length/\L.length+(List.take 1 (List.drop 0 [s])).length<=Cq/\0=0/\D.length=D.length/\D.length+(List.take 1 (List.drop 0 [d])).length<=Cq/\P ((List.take (L++List.take 1 (List.drop 0 [s])).length (List.drop 0 (L++List.take 1 (List.drop 0 [s]))),List.take (D++List.take 1 (List.drop 0 [d])).length (List.drop 0 (D++List.take 1 (List.drop 0 [d]))),List.take (S++List.take 1 (List.drop 0 [(0:Int)])).length (List.drop 0 ((Dw (S++List.take 1 (List.drop 0 [(0:Int)])) (0+(IntKind.i64.wrap (y7+(1:Int))).toNat) (List.take ((↑(S++List.take 1 (List.drop 0 [(0:Int)])).length:Int).toNat-(IntKind.i64.wrap (y7+(1:Int))).toNat) (List.take ((↑(S++List.take 1 (List.drop 0 [(0:Int)])).length:Int).toNat-y7.toNat) (List.drop (0+y7.toNat) (S++List.take 1 (List.drop 0 [(0:Int)])))))).set (0+y7.toNat) (↑L.length:Int))),b,()),()))=fnMW Va (look [(149,fQ)]) mK Tryz.f148 (L,D,S,b,s,d,()) P:=by kernel_rfl
abbrev oN:Type:=Int×Int×ByteArray×List (List Int)×Bool×Bool×List (List Int)×List Int×List Int×List (List Int)×List Int×List Int×PUnit
abbrev JZ:Type:=(List (List Int)×List Int×List Int×Bool×PUnit)×PUnit
theorem Agf (p:Int×ByteArray×List (List Int)×Unit) (s:List Int) (P:(List (List Int)×List Int×List Int×Bool×Unit)->Prop):(∃(y3:List Int),Jr.fn (s,())=some y3/\ ∃(y4:JZ),mK.fn ([],[],[],false,y3,(0:Int),())=some y4/\ ∃(y5:List Int),Nv.fn ((p.1,p.2.1,p.2.2.1,()),())=some y5/\0=0/\0=([]:List Int).length/\0=0/\0=([]:List Int).length/\0=0/\0=([]:List Int).length/\0=0/\y4.1.1.length=y4.1.1.length/\0=0/\y4.1.2.1.length=y4.1.2.1.length/\0=0/\y4.1.2.2.1.length=y4.1.2.2.1.length/\Cz (λ(v6:oN) (k7:oN->Prop)=>Br (decide (v6.1<(↑v6.2.2.2.2.2.2.2.2.2.1.length:Int))) (0=0/\v6.2.2.2.2.2.2.1.length=v6.2.2.2.2.2.2.1.length/\0=0/\v6.2.2.2.2.2.2.2.1.length=v6.2.2.2.2.2.2.2.1.length/\0=0/\v6.2.2.2.2.2.2.2.2.1.length=v6.2.2.2.2.2.2.2.2.1.length/\0=0/\v6.2.2.2.2.2.2.2.2.2.1.length=v6.2.2.2.2.2.2.2.2.2.1.length/\0=0/\v6.2.2.2.2.2.2.2.2.2.2.1.length=v6.2.2.2.2.2.2.2.2.2.2.1.length/\0=0/\v6.2.2.2.2.2.2.2.2.2.2.2.1.length=v6.2.2.2.2.2.2.2.2.2.2.2.1.length/\Cz (λ(v8:oN) (k9:oN->Prop)=>Br (decide (v8.1<(↑y5.length:Int))) (((0:Int)<=v6.1/\v6.1<(↑v8.2.2.2.2.2.2.2.2.2.1.length:Int))/\ ∃(Ly:List Int),v8.2.2.2.2.2.2.2.2.2.1[0+v6.1.toNat]?=some Ly/\ ∃(bu:Int),idx y5 v8.1=some bu/\ ∃(dN:List Int),Mp.fn ((v8.2.1,v8.2.2.1,v8.2.2.2.1,()),Ly,bu,())=some dN/\ ∃(Lg:Int),eI.fn ((List.take v8.2.2.2.2.2.2.2.2.2.1.length (List.drop 0 v8.2.2.2.2.2.2.2.2.2.1),List.take v8.2.2.2.2.2.2.2.2.2.2.1.length (List.drop 0 v8.2.2.2.2.2.2.2.2.2.2.1),List.take v8.2.2.2.2.2.2.2.2.2.2.2.1.length (List.drop 0 v8.2.2.2.2.2.2.2.2.2.2.2.1),v8.2.2.2.2.2.1,()),dN,())=some Lg/\Br (decide (Lg>=(0:Int))) (0=0/\v8.2.2.2.2.2.2.1.length=v8.2.2.2.2.2.2.1.length/\0=0/\v8.2.2.2.2.2.2.2.1.length=v8.2.2.2.2.2.2.2.1.length/\0=0/\v8.2.2.2.2.2.2.2.2.1.length=v8.2.2.2.2.2.2.2.2.1.length/\0=0/\v8.2.2.2.2.2.2.2.2.2.1.length=v8.2.2.2.2.2.2.2.2.2.1.length/\0=0/\v8.2.2.2.2.2.2.2.2.2.2.1.length=v8.2.2.2.2.2.2.2.2.2.2.1.length/\0=0/\v8.2.2.2.2.2.2.2.2.2.2.2.1.length=v8.2.2.2.2.2.2.2.2.2.2.2.1.length/\k9 (IntKind.i64.wrap (v8.1+(1:Int)),v8.2.1,v8.2.2.1,v8.2.2.2.1,v8.2.2.2.2.1,v8.2.2.2.2.2.1,v8.2.2.2.2.2.2.1,v8.2.2.2.2.2.2.2.1,v8.2.2.2.2.2.2.2.2.1,v8.2.2.2.2.2.2.2.2.2.1,v8.2.2.2.2.2.2.2.2.2.2.1,v8.2.2.2.2.2.2.2.2.2.2.2.1,())) (Br ((↑v8.2.2.2.2.2.2.2.2.2.1.length:Int)==(3000:Int)) (P (List.take v8.2.2.2.2.2.2.2.2.2.1.length (List.drop 0 v8.2.2.2.2.2.2.2.2.2.1),List.take v8.2.2.2.2.2.2.2.2.2.2.1.length (List.drop 0 v8.2.2.2.2.2.2.2.2.2.2.1),List.take v8.2.2.2.2.2.2.2.2.2.2.2.1.length (List.drop 0 v8.2.2.2.2.2.2.2.2.2.2.2.1),v8.2.2.2.2.2.1,())) (((0:Int)<=v6.1/\v6.1<(↑v8.2.2.2.2.2.2.2.2.2.2.1.length:Int))/\ ∃(Ji:Int),v8.2.2.2.2.2.2.2.2.2.2.1[0+v6.1.toNat]?=some Ji/\0=0/\v8.2.2.2.2.2.2.2.2.2.1.length=v8.2.2.2.2.2.2.2.2.2.1.length/\0=0/\v8.2.2.2.2.2.2.2.2.2.2.1.length=v8.2.2.2.2.2.2.2.2.2.2.1.length/\0=0/\v8.2.2.2.2.2.2.2.2.2.2.2.1.length=v8.2.2.2.2.2.2.2.2.2.2.2.1.length/\ ∃(Qu:JZ),mK.fn (v8.2.2.2.2.2.2.2.2.2.1,v8.2.2.2.2.2.2.2.2.2.2.1,v8.2.2.2.2.2.2.2.2.2.2.2.1,v8.2.2.2.2.2.1,dN,IntKind.i64.wrap (Ji+(1:Int)),())=some Qu/\0=0/\v8.2.2.2.2.2.2.1.length=v8.2.2.2.2.2.2.1.length/\0=0/\v8.2.2.2.2.2.2.2.1.length=v8.2.2.2.2.2.2.2.1.length/\0=0/\v8.2.2.2.2.2.2.2.2.1.length=v8.2.2.2.2.2.2.2.2.1.length/\0=0/\Qu.1.1.length=Qu.1.1.length/\0=0/\Qu.1.2.1.length=Qu.1.2.1.length/\0=0/\Qu.1.2.2.1.length=Qu.1.2.2.1.length/\k9 (IntKind.i64.wrap (v8.1+(1:Int)),v8.2.1,v8.2.2.1,v8.2.2.2.1,v8.2.2.2.2.1,Qu.1.2.2.2.1,v8.2.2.2.2.2.2.1,v8.2.2.2.2.2.2.2.1,v8.2.2.2.2.2.2.2.2.1,Qu.1.1,Qu.1.2.1,Qu.1.2.2.1,())))) (0=0/\v8.2.2.2.2.2.2.1.length=v8.2.2.2.2.2.2.1.length/\0=0/\v8.2.2.2.2.2.2.2.1.length=v8.2.2.2.2.2.2.2.1.length/\0=0/\v8.2.2.2.2.2.2.2.2.1.length=v8.2.2.2.2.2.2.2.2.1.length/\0=0/\v8.2.2.2.2.2.2.2.2.2.1.length=v8.2.2.2.2.2.2.2.2.2.1.length/\0=0/\v8.2.2.2.2.2.2.2.2.2.2.1.length=v8.2.2.2.2.2.2.2.2.2.2.1.length/\0=0/\v8.2.2.2.2.2.2.2.2.2.2.2.1.length=v8.2.2.2.2.2.2.2.2.2.2.2.1.length/\k7 (IntKind.i64.wrap (v6.1+(1:Int)),v8.2.1,v8.2.2.1,v8.2.2.2.1,v8.2.2.2.2.1,v8.2.2.2.2.2.1,v8.2.2.2.2.2.2.1,v8.2.2.2.2.2.2.2.1,v8.2.2.2.2.2.2.2.2.1,v8.2.2.2.2.2.2.2.2.2.1,v8.2.2.2.2.2.2.2.2.2.2.1,v8.2.2.2.2.2.2.2.2.2.2.2.1,()))) ((0:Int),v6.2.1,v6.2.2.1,v6.2.2.2.1,v6.2.2.2.2.1,v6.2.2.2.2.2.1,v6.2.2.2.2.2.2.1,v6.2.2.2.2.2.2.2.1,v6.2.2.2.2.2.2.2.2.1,v6.2.2.2.2.2.2.2.2.2.1,v6.2.2.2.2.2.2.2.2.2.2.1,v6.2.2.2.2.2.2.2.2.2.2.2.1,PUnit.unit)) (P (List.take v6.2.2.2.2.2.2.2.2.2.1.length (List.drop 0 v6.2.2.2.2.2.2.2.2.2.1),List.take v6.2.2.2.2.2.2.2.2.2.2.1.length (List.drop 0 v6.2.2.2.2.2.2.2.2.2.2.1),List.take v6.2.2.2.2.2.2.2.2.2.2.2.1.length (List.drop 0 v6.2.2.2.2.2.2.2.2.2.2.2.1),true,()))) ((0:Int),p.1,p.2.1,p.2.2.1,false,y4.1.2.2.2.1,[],[],[],y4.1.1,y4.1.2.1,y4.1.2.2.1,PUnit.unit))=fnW Acz (look [(116,Jr),(148,mK),(141,Nv),(118,Mp),(132,eI)]) kG Tryz.f131 (p,s,()) P:=by kernel_rfl
theorem tM: ∀ {a b:List Int},Ev a b=0↔a=b
 | [],[]=>by simp [Ev]
 | [],_::_=>by simp [Ev]
 |_::_,[]=>by simp [Ev]
 |x::a,y::b=>by
  simp only [Ev,Gc]
  by_cases h1:x<y
  ·rw [Ab h1]
   exact ⟨λh=>by omega,λh=>by omega⟩
  ·rw [Ag h1]
   by_cases h2:x>y
   ·rw [Ab h2]
    exact ⟨λh=>by omega,λh=>by omega⟩
   ·rw [Ag h2,tM]
    exact ⟨λh=>⟨by omega,h⟩,λh=>h.2⟩
theorem RX: ∀(a b:List Int),Ev b a= -Ev a b
 | [],[]=>by simp [Ev]
 | [],_::_=>by simp [Ev]
 |_::_,[]=>by simp [Ev]
 |x::a,y::b=>by
  simp only [Ev]
  rcases Int.lt_trichotomy x y with h1|h1|h1
  ·simp [h1,show ¬y<x by omega]
  ·subst h1
   simp [RX a b]
  ·simp [h1,show ¬x<y by omega]
theorem yo: ∀ {a b c:List Int},Ev a b<0->Ev b c<0->Ev a c<0
 | [],[],_,h,_=>by simp [Ev] at h
 |_::_,[],_,h,_=>by simp [Ev] at h
 |_,_::_,[],_,h=>by simp [Ev] at h
 | [],_::_,_::_,_,_=>by simp [Ev]
 |x::a,y::b,z::c,h1,h2=>by
  simp only [Ev] at h1 h2⊢
  by_cases e1:x<y
  ·by_cases e2:y<z
   ·rw [Ab (by omega)];omega
   ·rw [Ag e2] at h2
    by_cases e3:y>z
    ·rw [Ab e3] at h2;omega
    ·rw [Ab (by omega)];omega
  ·rw [Ag e1] at h1
   by_cases e2:x>y
   ·rw [Ab e2] at h1;omega
   ·rw [Ag e2] at h1
    by_cases e3:y<z
    ·rw [Ab (by omega)];omega
    ·rw [Ag e3] at h2
     by_cases e4:y>z
     ·rw [Ab e4] at h2;omega
     ·rw [Ag e4] at h2
      rw [Ag (by omega),Ag (by omega)]
      exact yo h1 h2
theorem lt_iff {a b:List Int} :fv a b=true↔Ev a b<0:=Ka
theorem VN {a b c:List Int} (h1:fv a b=true) (h2:fv b c=true):fv a c=true:=lt_iff.2 (yo (lt_iff.1 h1) (lt_iff.1 h2))
theorem mz (a:List Int):fv a a=false:=by
 have:Ev a a=0:=tM.2 rfl
 unfold fv;rw [this];rfl
theorem Abd {a b:List Int} (h:fv a b=false) (Ik:a≠b):fv b a=true:=by
 rw [lt_iff,RX a b]
 have h1: ¬Ev a b<0:= λh'=>by rw [lt_iff.2 h'] at h;cases h
 have h2:Ev a b≠0:= λh'=>Ik (tM.1 h')
 omega
theorem lO {α:Type} (q:α->Bool): ∀(l:List α),l.Pairwise (λi j=>q j=true->q i=true)-> ∀k (hk:k<l.length),k<(l.takeWhile q).length↔q l[k]=true
 | [],_,k,hk=>by simp at hk
 |a::l,h,k,hk=>by
  obtain ⟨h1,h2⟩:=List.pairwise_cons.1 h
  by_cases ha:q a=true
  ·rw [List.takeWhile_cons_of_pos ha]
   rcases k with _|k
   ·simpa using ha
   ·simp only [Az,aJ,Nat.add_lt_add_iff_right]
    exact lO q l h2 k (by simpa using hk)
  ·rw [List.takeWhile_cons_of_neg ha]
   simp only [Gd,Dq,false_iff]
   rcases k with _|k
   ·exact ha
   ·simp only [aJ]
    exact λhq=>ha (h1 _ (Aj _) hq)
theorem Hg.uH {m:Nat} {L:List (List Int)} {Mw:List Int} (h:Hg m L Mw):Mw.length=L.length:=by rw [h.perm.length_eq,jO]
theorem Hg.idx {m:Nat} {L:List (List Int)} {Mw:List Int} (h:Hg m L Mw) {k:Nat} (hk:k<Mw.length):0<=Mw[k]/\Mw[k]<L.length:=a9.1 (h.perm.mem_iff.1 (Aj hk))
theorem Hg.eJ {m:Nat} {L:List (List Int)} {Mw:List Int} (h:Hg m L Mw) (s:List Int) {k:Nat} (hk:k<Mw.length):k<Gk L Mw s↔fv (L.getD Mw[k].toNat []) s=true:=
 lO _ Mw (h.sorted.imp λiW hj=>VN iW hj) k hk
theorem TL (L:List (List Int)) (Mw s:List Int):Gk L Mw s<=Mw.length:=(List.takeWhile_sublist _).length_le
theorem Hg.inj {m:Nat} {L:List (List Int)} {Mw:List Int} (h:Hg m L Mw) {i j:Nat} (hi:i<L.length) (hj:j<L.length) (e:L[i]=L[j]):i=j:=by
 have mem: ∀i,i<L.length->(i:Int)∈Mw:= λi hi=>h.perm.mem_iff.2 (a9.2 ⟨by omega,by omega⟩)
 obtain ⟨p,hp,ep⟩:=Cl.1 (mem i hi)
 obtain ⟨q,hq,eq⟩:=Cl.1 (mem j hj)
 have get: ∀i (hi:i<L.length),L.getD ((i:Int)).toNat []=L[i]:= λi hi=>by rw [Ai,Ak,Ac hi];rfl
 rcases Nat.lt_trichotomy p q with h1|h1|h1
 ·have:=Ey.1 h.sorted p q hp hq h1
  rw [ep,eq,get i hi,get j hj,e,mz] at this
  cases this
 ·subst h1
  rw [ep] at eq
  omega
 ·have:=Ey.1 h.sorted q p hq hp h1
  rw [ep,eq,get i hi,get j hj,e,mz] at this
  cases this
theorem Zv {L:List (List Int)} {k:Nat} (h:k<L.length):L.getD k []=L[k]:=by rw [Ak,Ac h];rfl
theorem Hg.zI {m:Nat} {L:List (List Int)} {Mw:List Int} (h:Hg m L Mw) {s:List Int} :
  (∃hk:Gk L Mw s<Mw.length,L.getD Mw[Gk L Mw s].toNat []=s/\rf L s=Mw[Gk L Mw s])\/(rf L s= -1/\ ∀hk:Gk L Mw s<Mw.length,L.getD Mw[Gk L Mw s].toNat []≠s):=by
 by_cases hm:s∈L
 ·left
  obtain ⟨j,hj,rfl⟩:=Cl.1 hm
  obtain ⟨p,hp,ep⟩:=Cl.1 (h.perm.mem_iff.2 (a9.2 ⟨by omega,by omega⟩):(j:Int)∈Mw)
  have gj:L.getD Mw[p].toNat []=L[j]:=by rw [ep,Ai,Zv hj]
  have hs:Gk L Mw L[j]=p:=by
   have h1: ¬p<Gk L Mw L[j]:= λh1=>by
    have:=(h.eJ L[j] hp).1 h1
    rw [gj,mz] at this;cases this
   have h2: ¬Gk L Mw L[j]<p:= λh2=>by
    have h3:=(h.eJ L[j] (k:=Gk L Mw L[j]) (by omega)).2 (by
     have:=Ey.1 h.sorted (Gk L Mw L[j]) p (by omega) hp h2
     rw [gj] at this;exact this)
    omega
   omega
  have hx:L.idxOf L[j]=j:=by
   have h1:L.idxOf L[j]<L.length:=List.idxOf_lt_length_of_mem hm
   exact h.inj h1 hj (List.getElem_idxOf h1)
  refine ⟨by omega,?_,?_⟩
  ·simp only [hs];exact gj
  ·unfold rf
   rw [Ab hm,hx]
   simp only [hs];exact ep.symm
 ·right
  refine ⟨by unfold rf;rw [Ag hm],λhk e=>hm ?_⟩
  have hi:=h.idx hk
  rw [Zv (by omega)] at e
  rw [<-e]
  exact Aj _
theorem Ab0 (Mw:List Int) (k:Nat) (x:Int):(Xm Mw k x).Perm (x::Mw):=by
 unfold Xm
 refine List.perm_middle.trans (List.Perm.cons x ?_)
 rw [Ie]
theorem Hg.add {m:Nat} {L:List (List Int)} {Mw s:List Int} (h:Hg m L Mw) (hn:s∉L) (hl:s.length=m) (hr:L.length<3000):Hg m (L++ [s]) (Xm Mw (Gk L Mw s) L.length):=by
 have FX: ∀i∈Mw,(L++ [s]).getD i.toNat []=L.getD i.toNat []:= λi hi=>by
  have:=a9.1 (h.perm.mem_iff.1 hi)
  rw [Ak,Ak,As (by omega)]
 have Amx:(L++ [s]).getD ((L.length:Int)).toNat []=s:=by
  rw [Ai,Ak,Ar (by omega),Nat.sub_self];rfl
 refine ⟨by rw [Ax,By];omega,λx hx=>?_,h.short,?_,?_⟩
 ·rcases Bb.1 hx with hx|hx
  ·exact h.len x hx
  ·rw [Ae.1 hx];exact hl
 ·refine (Ab0 _ _ _).trans ?_
  rw [Ax,By,kM]
  exact (List.Perm.cons _ h.perm).trans (List.perm_append_singleton _ _).symm
 ·unfold Xm
  have hs:=h.sorted
  rw [<-Ie (Gk L Mw s) Mw] at hs
  obtain ⟨s1,s2,s3⟩:=List.pairwise_append.1 hs
  have mt: ∀i∈Mw.take (Gk L Mw s),i∈Mw/\fv (L.getD i.toNat []) s=true:= λi hi=>by
   obtain ⟨k,hk,rfl⟩:=Cl.1 hi
   have hk2:k<Gk L Mw s:=by rw [De] at hk;omega
   have hk3:k<Mw.length:=by rw [De] at hk;omega
   rw [List.getElem_take]
   exact ⟨Aj _,(h.eJ s hk3).1 hk2⟩
  have md: ∀i∈Mw.drop (Gk L Mw s),i∈Mw/\fv s (L.getD i.toNat [])=true:= λi hi=>by
   obtain ⟨k,hk,rfl⟩:=Cl.1 hi
   rw [List.length_drop] at hk
   have hk3:Gk L Mw s+k<Mw.length:=by omega
   rw [List.getElem_drop]
   refine ⟨Aj _,Abd ?_ λe=>hn ?_⟩
   ·exact Jm.2 λhh=>by
     have:=(h.eJ s hk3).2 hh
     omega
   ·have hi:=h.idx hk3
    rw [Zv (by omega)] at e
    rw [<-e];exact Aj _
  refine List.pairwise_append.2 ⟨s1.imp_of_mem λ {a b} ha hb iU=>?_,List.pairwise_cons.2 ⟨λb hb=>?_,s2.imp_of_mem λ {a b} ha hb iU=>?_⟩,λa ha b hb=>?_⟩
  ·rw [FX a (mt a ha).1,FX b (mt b hb).1];exact iU
  ·rw [Amx,FX b (md b hb).1];exact (md b hb).2
  ·rw [FX a (md a ha).1,FX b (md b hb).1];exact iU
  ·rcases Be.1 hb with rfl|hb
   ·rw [Amx,FX a (mt a ha).1];exact (mt a ha).2
   ·rw [FX a (mt a ha).1,FX b (md b hb).1];exact s3 a ha b hb
theorem fU (L:List (List Int)) (s:List Int):dg (L++ [s])=Xm (dg L) (Gk L (dg L) s) L.length:=by
 unfold dg
 rw [Ax,By,il,Vw]
 have e: ∀(is:List Nat) (S:List Int),(∀i∈is,i<L.length)->is.foldl (λ(S:List Int) (i:Nat)=>Xm S (Gk ((L++ [s]).take i) S ((L++ [s]).getD i [])) (i:Int)) S=is.foldl (λ(S:List Int) (i:Nat)=>Xm S (Gk (L.take i) S (L.getD i [])) (i:Int)) S:=by
  intro is
  induction is with
  |nil=>intro S _;rfl
  |cons i is ih=>
   intro S h
   have hi:=h i (by simp)
   rw [Ig,Ig,ih _ λj hj=>h j (At _ hj)]
   congr 2
   rw [List.take_append_of_le_length (by omega),Ak,As hi,<-Ak]
 rw [e _ _ λi hi=>Gh.1 hi]
 simp only [Ig,List.foldl_nil]
 congr 2
 ·rw [List.take_append_of_le_length (Ao _),Ap]
 ·rw [Ak,Ar (by omega),Nat.sub_self];rfl
theorem oq {m:Nat} (h:m<=20):Hg m [] []:=⟨by simp,λx hx=>(by cases hx),h,by simp [upto],List.Pairwise.nil⟩
theorem Aax {α:Type} {xs:List α} {y:Int} (h0:0<=y) (h:y.toNat<xs.length):idx xs y=some xs[y.toNat]:=by
 unfold idx
 rw [Ab h0,Ac h]
theorem Al0 (f:SS) (s:List Int) (h:Hg s.length f.1 f.2.2.1):fnW Ej (look [(158,Yw)]) fQ Tryz.f149 (f,s,()) (λ(z:Int)=>z=(Gk f.1 f.2.2.1 s:Int)):=by
 obtain ⟨L,D,Mw,b,⟨⟩⟩:=f
 dsimp only at h⊢
 have hle:=TL L Mw s
 have wD:=h.uH
 have kR:=h.wP
 refine Eq.mp (Alu (L,D,Mw,b,()) s _) ?_
 refine Cz.mk (λv=>v.2.2.1=L/\v.2.2.2.2.1=Mw/\ ∃lo hi:Nat,v.1=lo/\v.2.1=hi/\lo<=hi/\hi<=Mw.length/\lo<=Gk L Mw s/\Gk L Mw s<=hi) (λv=>(v.2.1-v.1).toNat)
  ⟨rfl,rfl,0,Mw.length,rfl,rfl,by omega,by omega,by omega,hle⟩ ?_
 rintro ⟨lo',nK,L',D',XJ,b',⟨⟩⟩ ⟨h1,h2,lo,hi,h3,h4,h5,h6,h7,h8⟩
 dsimp only at h1 h2 h3 h4⊢
 subst h1 h2 h3 h4
 refine Br.dec (λhl=>?_) λhl=>?_
 ·have em:IntKind.i64.wrap ((IntKind.i64.wrap ((lo:Int)+(hi:Int))).tdiv 2)=(((lo+hi)/2:Nat):Int):=by
   rw [Dk (n:=(lo:Int)+(hi:Int)) (by omega) (by omega),Int.tdiv_eq_ediv_of_nonneg (by omega),Dk (by omega) (by omega)]
   omega
  rw [em]
  have hm1:(lo+hi)/2<XJ.length:=by omega
  have hi1:=h.idx hm1
  have hi2:XJ[(lo+hi)/2].toNat<L'.length:=by omega
  have hgd:=Zv hi2
  have hlen:=h.len _ (Aj hi2)
  have LM:short L'[XJ[(lo+hi)/2].toNat]:=by
   unfold short
   have:=h.short;omega
  refine ⟨by decide,_,Bq hm1,_,Aax hi1.1 hi2,_,Ab ⟨LM,hlen⟩,⟨λhc=>?_,λhc=>?_⟩⟩
  ·have hc:fv L'[XJ[(lo+hi)/2].toNat] s=true:=hc
   have hs:=(h.eJ s hm1).2 (by rw [hgd];exact hc)
   rw [Bh (by omega)]
   exact ⟨⟨rfl,rfl,(lo+hi)/2+1,hi,rfl,rfl,by omega,h6,by omega,h8⟩,by omega⟩
  ·have hc:fv L'[XJ[(lo+hi)/2].toNat] s=false:=hc
   have hs: ¬(lo+hi)/2<Gk L' XJ s:= λhh=>by
    have:=(h.eJ s hm1).1 hh
    rw [hgd,hc] at this;cases this
   exact ⟨⟨rfl,rfl,lo,(lo+hi)/2,rfl,rfl,by omega,by omega,h7,by omega⟩,by omega⟩
 ·show (lo:Int)=_
  omega
theorem w5:Sound Tryz.prog 149 fQ:=
 Sound.En Db (Av vX Bg) mixed Tryz.func149 (by kernel_rfl) (by kernel_rfl) λx h=>Al0 x.1 x.2.1 h
theorem Abz (f:SS) (s:List Int) (h:Hg s.length f.1 f.2.2.1):fnW Ej (look [(149,fQ),(101,Bo)]) eI Tryz.f132 (f,s,()) (λ(z:Int)=>z=rf f.1 s):=by
 obtain ⟨L,D,Mw,b,⟨⟩⟩:=f
 dsimp only at h⊢
 refine Eq.mp (Adj (L,D,Mw,b,()) s _) ⟨_,Ab h,Br.dec (λhl=>?_) λhl=>?_⟩
 ·have hl:Gk L Mw s<Mw.length:=by
   have hl:((Gk L Mw s:Nat):Int)<(Mw.length:Int):=hl
   omega
  have hi1:=h.idx hl
  have hi2:Mw[Gk L Mw s].toNat<L.length:=by omega
  have hgd:=Zv hi2
  have hlen:=h.len _ (Aj hi2)
  have LM:short L[Mw[Gk L Mw s].toNat]:=by
   unfold short
   have:=h.short;omega
  refine ⟨_,Bq hl,_,Aax hi1.1 hi2,_,Ab LM,⟨λhc=>⟨_,Bq hl,?_⟩,λhc=>?_⟩⟩
  ·have hc:L[Mw[Gk L Mw s].toNat]=s:=Gt hc
   rcases h.zI (s:=s) with ⟨hk,_,e⟩|⟨_,Ik⟩
   ·exact e.symm
   ·exact absurd (by rw [hgd];exact hc) (Ik hl)
  ·have hc: ¬L[Mw[Gk L Mw s].toNat]=s:=of_decide_eq_false hc
   rcases h.zI (s:=s) with ⟨hk,e,_⟩|⟨e,_⟩
   ·rw [hgd] at e;exact absurd e hc
   ·exact e.symm
 ·have hl: ¬Gk L Mw s<Mw.length:=by
   have hl: ¬((Gk L Mw s:Nat):Int)<(Mw.length:Int):=hl
   omega
  rcases h.zI (s:=s) with ⟨hk,e,_⟩|⟨e,_⟩
  ·exact absurd hk hl
  ·exact e.symm
theorem CU:Sound Tryz.prog 132 eI:=
 Sound.En Db (Av w5 (Av Um Bg)) mixed Tryz.func132 (by kernel_rfl) (by kernel_rfl) λx h=>Abz x.1 x.2.1 h
theorem NN {S:List Int} {k:Nat} (h:k<=S.length) (n:Int):
  (Dw (S++ [0]) (k+1) (List.take ((S++ [0]).length-(k+1)) (List.take ((S++ [0]).length-k) (List.drop k (S++ [0]))))).set k n=Xm S k n:=by
 obtain ⟨A,B,rfl,hA⟩: ∃A B,S=A++B/\A.length=k:=⟨S.take k,S.drop k,(Ie k S).symm,by rw [De];omega⟩
 subst hA
 have e1:List.drop A.length (A++B++ [0])=B++ [0]:=by rw [Dg,List.drop_left]
 have e2:List.take ((A++B++ [0]).length-A.length) (B++ [0])=B++ [0]:=aK (by simp only [Ax,By];omega)
 have e3:List.take ((A++B++ [0]).length-(A.length+1)) (B++ [0])=B:=by
  have:(A++B++ [(0:Int)]).length-(A.length+1)=B.length:=by simp only [Ax,By];omega
  rw [this,List.take_left]
 rw [e1,e2,e3]
 unfold Dw Xm
 have e4:List.drop (A.length+1+B.length) (A++B++ [0])= []:=List.drop_eq_nil_of_le (by simp only [Ax,By];omega)
 obtain ⟨c,hc⟩: ∃c,List.take (A.length+1) (A++B++ [0])=A++ [c]:=by
  rw [Dg,List.take_append,aK (by omega)]
  cases B with
  |nil=>exact ⟨0,by simp⟩
  |cons b B=>exact ⟨b,by simp⟩
 rw [e4,hc,List.append_nil,Dg,List.singleton_append,Afu,List.take_left,List.drop_left]
theorem Aky (L:List (List Int)) (D S:List Int) (b:Bool) (s:List Int) (d:Int) (h:Hg s.length L S/\D.length<=3000):
  fnMW Va (look [(149,fQ)]) mK Tryz.f148 (L,D,S,b,s,d,()) (λ(z:(List (List Int)×List Int×List Int×Bool×Unit)×Unit)=>z=((L++ [s],D++ [d],Xm S (Gk L S s) L.length,b,()),())):=by
 obtain ⟨h,hD⟩:=h
 have hle:=TL L S s
 have wD:=h.uH
 have kR:=h.wP
 refine Eq.mp (Alr L D S b s d _) ?_
 rw [Bx L,Bx D,Bx S]
 refine ⟨_,Ab h,?_⟩
 dsimp only
 have es:List.take 1 (List.drop 0 [(0:Int)])= [0]:=rfl
 have el:(S++ [(0:Int)]).length=S.length+1:=by simp
 rw [es,Bh (by omega),Bv,Bv,Ai,Ai,Ai]
 refine ⟨rfl,rfl,by show S.length+1<=4294967296;omega,⟨by omega,by omega,by omega⟩,⟨by omega,by omega,by omega⟩,⟨by omega,by omega⟩,?_,rfl,rfl,by show L.length+1<=4294967296;omega,rfl,rfl,by show D.length+1<=4294967296;omega,?_⟩
 ·unfold Dw
  simp only [Ax,De,List.length_drop,By]
  omega
 ·rw [NN hle,Bx,Bx]
  have e5:List.take (S++ [(0:Int)]).length (List.drop 0 (Xm S (Gk L S s) (L.length:Int)))=Xm S (Gk L S s) (L.length:Int):=by
   rw [Dn,aK]
   unfold Xm
   simp only [Ax,Az,De,List.length_drop,Gd]
   omega
  rw [e5]
  rfl
theorem QH:Ca Tryz.prog 148 mK:=
 Ca.cd Tm (Av w5 Bg) mixed Tryz.func148 (by kernel_rfl) (by kernel_rfl) λx h=>Aky x.1 x.2.1 x.2.2.1 x.2.2.2.1 x.2.2.2.2.1 x.2.2.2.2.2.1 h
structure aH (p:PP) (m:Nat) (L:List (List Int)) (D:List Int):Prop where
 ok:Hg m L (dg L)
 len:D.length=L.length
 row: ∀x∈L,∀y∈x,0<=y/\y<p.1
 dep: ∀j (h:j<D.length),0<=D[j]/\D[j]<=j
theorem BH {p:PP} (hv:Valid p) {x:List Int} {l:Int} (hx: ∀y∈x,0<=y/\y<p.1) (hl:Iu (List.length p.2.2.1) l):
  (Al x (Bt p.2.2.1 l)).length=x.length/\ ∀y∈Al x (Bt p.2.2.1 l),0<=y/\y<p.1:=by
 obtain ⟨h1,h2⟩:=kr hv hl
 refine ⟨Pj _ _,λy hy=>?_⟩
 have:=FH (n:=(Bt p.2.2.1 l).length) (λz hz=>by have:=hx z hz;omega) h2 y hy
 omega
theorem aH.add {p:PP} {m:Nat} {L:List (List Int)} {D:List Int} (h:aH p m L D) {y:List Int} {d:Int} (hn:y∉L) (hl:y.length=m) (hr:L.length<3000) (hy: ∀z∈y,0<=z/\z<p.1) (hd:0<=d/\d<=L.length):aH p m (L++ [y]) (D++ [d]):=by
 have hlen:=h.len
 refine ⟨by rw [fU];exact h.ok.add hn hl hr,by simp [hlen],λx hx=>?_,λj hj=>?_⟩
 ·rcases Bb.1 hx with hx|hx
  ·exact h.row x hx
  ·rw [Ae.1 hx];exact hy
 ·by_cases e:j<D.length
  ·rw [gZ e];exact h.dep j e
  ·simp only [Ax,By] at hj
   have:j=D.length:=by omega
   subst this
   rw [List.getElem_append_right (by omega)]
   simp only [Nat.sub_self,List.getElem_cons_zero]
   omega
theorem pf {p:PP} {s:List Int} (hs:s.length<=20) (hr: ∀y∈s,0<=y/\y<p.1):aH p s.length [s] [0]:=by
 refine ⟨?_,rfl,λx hx=>by rw [Ae.1 hx];exact hr,λj hj=>?_⟩
 ·have:=(oq hs).add (s:=s) (by simp) rfl (by simp)
  have e:dg [s]=Xm [] (Gk [] [] s) 0:=fU [] s
  rw [e];exact this
 ·simp only [By] at hj
  have:j=0:=by omega
  subst this
  simp
theorem yR {L:List (List Int)} {s:List Int} :rf L s>=0↔s∈L:=by
 unfold rf
 split
 ·rename_i h;exact ⟨λ_=>h,λ_=>by omega⟩
 ·rename_i h;exact ⟨λhh=>by omega,λhh=>absurd hh h⟩
theorem Afn (p:PP) (s:List Int) (h:Ea p=true/\s.length<=20/\ ∀y∈s,0<=y/\y<p.1):fnW Acz (look [(116,Jr),(148,mK),(141,Nv),(118,Mp),(132,eI)]) kG Tryz.f131 (p,s,()) (λ(z:SS)=>z=Rv p.2.2.1 s):=by
 obtain ⟨hv,hs,hr⟩:=h
 have hV:=valid hv
 have kR:=hV.wP
 have hb0:=pf hs hr
 have LM:short s:=by unfold short;omega
 obtain ⟨ls,qT⟩: ∃ls,Aw (List.length p.2.2.1)=ls:=⟨_,rfl⟩
 refine Eq.mp (Agf p s _) ⟨_,Ab LM,_,Ab ⟨oq hs,by show 0<=3000;omega⟩,ls,(Ab (by show List.length p.2.2.1<=8;exact kR.2)).trans (Mf some qT),rfl,rfl,rfl,rfl,rfl,rfl,rfl,rfl,rfl,rfl,rfl,rfl,?_⟩
 have e0:Xm [] (Gk [] [] s) ((([]:List (List Int)).length:Nat):Int)=dg [s]:=(fU [] s).symm
 show Cz _ ((0:Int),p.1,p.2.1,p.2.2.1,false,false,[],[],[],[s],[(0:Int)],Xm [] (Gk [] [] s) ((([]:List (List Int)).length:Nat):Int),PUnit.unit)
 rw [e0]
 have hll:ls.length<=16:=by rw [<-qT,Od];omega
 have nL: ∀l∈ls,Iu (List.length p.2.2.1) l:= λl hl=>Pr (qT▸hl)
 have NH:Ri p.2.2.1 ls 3001 0 [s] [0]=Kr p.2.2.1 s:=by unfold Kr;rw [qT]
 refine Cz.mk (λv=>v.2.1=p.1/\v.2.2.1=p.2.1/\v.2.2.2.1=p.2.2.1/\v.2.2.2.2.2.1=false/\ ∃k:Nat,v.1=k/\k<=v.2.2.2.2.2.2.2.2.2.1.length/\
   aH p s.length v.2.2.2.2.2.2.2.2.2.1 v.2.2.2.2.2.2.2.2.2.2.1/\v.2.2.2.2.2.2.2.2.2.2.2.1=dg v.2.2.2.2.2.2.2.2.2.1/\
   Ri p.2.2.1 ls (3001-k) k v.2.2.2.2.2.2.2.2.2.1 v.2.2.2.2.2.2.2.2.2.2.1=Kr p.2.2.1 s) (λv=>3001-v.1.toNat)
  ⟨rfl,rfl,rfl,rfl,0,rfl,by simp,hb0,rfl,NH⟩ ?_
 rintro ⟨k',n1,n2,n3,b0,wh,x1,x2,x3,L0,D0,S0,⟨⟩⟩ ⟨h1,h2,h3,h4,k,h5,h6,h7,h8,h9⟩
 dsimp only at h1 h2 h3 h4 h5 h6 h7 h8 h9
 subst h1 h2 h3 h4 h5 h8
 dsimp only
 have hL0:=h7.ok.wP
 have hD0:=h7.len
 refine Br.dec (λhl=>⟨rfl,rfl,rfl,rfl,rfl,rfl,rfl,rfl,rfl,rfl,rfl,rfl,?_⟩) λhl=>?_
 ·have hk:k<L0.length:=by omega
  have hkD:k<D0.length:=by omega
  have hx: ∀y∈L0[k],0<=y/\y<p.1:=h7.row _ (Aj hk)
  have hxl:L0[k].length=s.length:=h7.ok.len _ (Aj hk)
  have hdk:=h7.dep k hkD
  obtain ⟨f,hf⟩: ∃f,3001-k=f+1:=⟨3000-k,by omega⟩
  have hgo: ∀L' D' ok,Mg p.2.2.1 L0[k] D0[k] ls L0 D0=(L',D',ok)->Kr p.2.2.1 s=if ok=true then Ri p.2.2.1 ls f (k+1) L' D' else (L',D',false):=by
   intro L' D' ok he
   rw [<-h9,hf,Ri,Ab hk,Zv hk,Ak,Ac hkD]
   simp only [Bz]
   rw [he]
   cases ok<;>rfl
  refine Cz.mk (λv=>v.2.1=p.1/\v.2.2.1=p.2.1/\v.2.2.2.1=p.2.2.1/\v.2.2.2.2.2.1=false/\ ∃i:Nat,v.1=i/\i<=ls.length/\aH p s.length v.2.2.2.2.2.2.2.2.2.1 v.2.2.2.2.2.2.2.2.2.2.1/\
    v.2.2.2.2.2.2.2.2.2.2.2.1=dg v.2.2.2.2.2.2.2.2.2.1/\(∃A,v.2.2.2.2.2.2.2.2.2.1=L0++A)/\(∃A,v.2.2.2.2.2.2.2.2.2.2.1=D0++A)/\
    Mg p.2.2.1 L0[k] D0[k] (ls.drop i) v.2.2.2.2.2.2.2.2.2.1 v.2.2.2.2.2.2.2.2.2.2.1=Mg p.2.2.1 L0[k] D0[k] ls L0 D0) (λv=>ls.length-v.1.toNat)
   ⟨rfl,rfl,rfl,rfl,0,rfl,Iq _,h7,rfl,⟨[],by simp⟩,⟨[],by simp⟩,rfl⟩ ?_
  rintro ⟨i',m1,m2,m3,b1,wh1,y1,y2,y3,L,D,S,⟨⟩⟩ ⟨g1,g2,g3,g4,i,g5,g6,g7,g8,⟨A,g9⟩,⟨A',g10⟩,s8⟩
  dsimp only at g1 g2 g3 g4 g5 g6 g7 g8 g9 g10 s8
  subst g1 g2 g3 g4 g5 g8
  dsimp only
  have hLf:=g7.ok.wP
  have hDl:=g7.len
  rw [Bx L,Bx D,Bx (dg L)]
  refine Br.dec (λhli=>?_) λhli=>?_
  ·have hi:i<ls.length:=by omega
   have hkL:k<L.length:=by rw [g9,Ax];omega
   have hLk:L[k]=L0[k]:=by simp only [g9];exact gZ hk
   have Aje:k<D.length:=by rw [hDl];exact hkL
   have hDk:D[k]=D0[k]:=by simp only [g10];exact gZ hkD
   have pC:=nL _ (Aj hi)
   obtain ⟨nl,nr⟩:=BH hV hx pC
   rw [Cn hi] at s8
   simp only [Mg] at s8
   refine ⟨⟨by omega,by omega⟩,L0[k],by rw [Ai,Bv,Ac hkL,hLk],_,Bq hi,_,Ab ⟨hv,by show L0[k].length<=20;omega,hx,pC⟩,?_⟩
   dsimp only
   have hyl:(Al L0[k] (Bt p.2.2.1 ls[i])).length=s.length:=by rw [nl,hxl]
   refine ⟨_,Ab (by show Hg (Al L0[k] (Bt p.2.2.1 ls[i])).length L (dg L);rw [hyl];exact g7.ok),Br.dec (λiX=>?_) λiX=>?_⟩
   ·have iX:Al L0[k] (Bt p.2.2.1 ls[i])∈L:=yR.1 iX
    rw [Ab iX] at s8
    rw [Bh (by omega)]
    exact ⟨rfl,rfl,rfl,rfl,rfl,rfl,rfl,rfl,rfl,rfl,rfl,rfl,⟨rfl,rfl,rfl,rfl,i+1,rfl,hi,g7,rfl,⟨A,g9⟩,⟨A',g10⟩,s8⟩,by omega⟩
   ·have iX:Al L0[k] (Bt p.2.2.1 ls[i])∉L:= λhh=>iX (yR.2 hh)
    rw [Ag iX] at s8
    refine ⟨λZz=>?_,λZz=>⟨⟨by omega,by omega⟩,D0[k],by rw [Ai,Bv,Ac Aje,hDk],rfl,rfl,rfl,rfl,rfl,rfl,?_⟩⟩
    ·have Zz:L.length=3000:=by
      have:(L.length:Int)=3000:=by simpa using Zz
      omega
     rw [Ab Zz] at s8
     have:=hgo _ _ _ s8.symm
     rw [Ag (by decide)] at this
     unfold Rv
     rw [this]
    ·have Zz:L.length≠3000:=by
      have:(L.length:Int)≠3000:=by simpa using Zz
      omega
     rw [Ag Zz] at s8
     rw [Dk (n:=D0[k]+1) (by omega) (by omega)]
     refine ⟨_,Ab ⟨by show Hg (Al L0[k] (Bt p.2.2.1 ls[i])).length L (dg L);rw [hyl];exact g7.ok,by show D.length<=3000;omega⟩,?_⟩
     dsimp only
     rw [Bh (by omega),<-fU]
     refine ⟨rfl,rfl,rfl,rfl,rfl,rfl,rfl,rfl,rfl,rfl,rfl,rfl,⟨rfl,rfl,rfl,rfl,i+1,rfl,hi,g7.add iX hyl (by omega) nr ⟨by omega,by omega⟩,rfl,⟨A++ [Al L0[k] (Bt p.2.2.1 ls[i])],by rw [g9,Dg]⟩,⟨A'++ [D0[k]+1],by rw [g10,Dg]⟩,s8⟩,by omega⟩
  ·have:i=ls.length:=by omega
   subst this
   rw [Ij,Mg] at s8
   have:=hgo _ _ _ s8.symm
   rw [Ab rfl] at this
   rw [Bh (by omega)]
   refine ⟨rfl,rfl,rfl,rfl,rfl,rfl,rfl,rfl,rfl,rfl,rfl,rfl,⟨rfl,rfl,rfl,rfl,k+1,rfl,by rw [g9,Ax];omega,g7,rfl,?_⟩,by omega⟩
   rw [show 3001-(k+1)=f by omega]
   exact this.symm
 ·have hk:k=L0.length:=by omega
  rw [Bx L0,Bx D0,Bx (dg L0)]
  obtain ⟨f,hf⟩: ∃f,3001-k=f+1:=⟨3000-k,by omega⟩
  rw [hf,Ri,Ag (by omega)] at h9
  unfold Rv
  rw [<-h9]
theorem JM:Sound Tryz.prog 131 kG:=
 Sound.En Ad0 (Av Wu (Ep QH (Av gL (Av ow (Av CU Bg))))) mixed Tryz.func131 (by kernel_rfl) (by kernel_rfl) λx h=>Afn x.1 x.2.1 h
end Go.Proofs.YtfolipnappekaaaGreat
