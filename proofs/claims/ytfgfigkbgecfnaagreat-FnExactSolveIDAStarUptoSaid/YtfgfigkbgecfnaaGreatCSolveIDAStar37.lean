/-
  Part 38 of the proof that the statement FnExactSolveIDAStar holds.
-/
import Derived.Test.YtfgfigkbgecfnaaGreatCSolveIDAStar36
import Derived.KernelRfl
namespace Go.Proofs.YtfgfigkbgecfnaaGreat
open Go.RowKit
def Pj (x a b:Int):Bool:=decide (a<=x/\x<=b)
def lg (n x:Int):Bool:=decide (0<=x/\x<=IntKind.i64.wrap (n-1))
def Ck (a b:List Int):Bool:=decide (a=b)
def mh (xs:List Int) (x:Int):Bool:=decide (x∈xs)
def short (xs:List Int):Prop:=xs.length<=4294967296
noncomputable abbrev Dn:Spec:=Fb (.pair tI (.pair tI (.pair tI .unit))) .bool false true (λ_=>True) (λx=>Pj x.1 x.2.1 x.2.2.1)
noncomputable abbrev c6:Spec:=Fb (.pair tI (.pair tI .unit)) .bool false true (λ_=>True) (λx=>lg x.1 x.2.1)
noncomputable abbrev Bq:Spec:=Fb (.pair tL (.pair tL .unit)) .bool false true (λx=>short x.1) (λx=>Ck x.1 x.2.1)
noncomputable abbrev Rf:Spec:=Fb (.pair tL (.pair tI .unit)) .bool false true (λx=>short x.1) (λx=>mh x.1 x.2.1)
theorem Aaj (x a b:Int) (P:Bool->Prop):(Br (decide (x>=a)) (P (decide (x<=b))) (P false))=fnW En (look []) Dn Tryz.f32 (x,a,b,()) P:=by kernel_rfl
theorem Afz (x a b:Int) (P:Bool->Prop):(Br (decide (x>=a)) (P (decide (x<=b))) (P false))=fnW En (look []) Dn Tryz.f39 (x,a,b,()) P:=by kernel_rfl
theorem Aam (n x:Int) (P:Bool->Prop):(∃(y3:Bool),Dn.fn (x,0,IntKind.i64.wrap (n-1),())=some y3/\P y3)=fnW En (look [(39,Dn)]) c6 Tryz.f120 (n,x,()) P:=by kernel_rfl
theorem NF (a b:List Int) (P:Bool->Prop):(Br ((↑a.length:Int) !=(↑b.length:Int)) (P false) (Db (λ(v3:Int×PUnit) (k4:Int×PUnit->Prop)=>Br (decide (v3.1<(↑a.length:Int))) (∃(y5:Int),idx a v3.1=some y5/\ ∃(y6:Int),idx b v3.1=some y6/\Br (y5 !=y6) (P false) (k4 (IntKind.i64.wrap (v3.1+1),()))) (P true)) (0,PUnit.unit)))=fnW En (look []) Bq Tryz.f62 (a,b,()) P:=by kernel_rfl
theorem yZ (a b:List Int) (P:Bool->Prop):(Br ((↑a.length:Int) !=(↑b.length:Int)) (P false) (Db (λ(v3:Int×PUnit) (k4:Int×PUnit->Prop)=>Br (decide (v3.1<(↑a.length:Int))) (∃(y5:Int),idx a v3.1=some y5/\ ∃(y6:Int),idx b v3.1=some y6/\Br (y5 !=y6) (P false) (k4 (IntKind.i64.wrap (v3.1+1),()))) (P true)) (0,PUnit.unit)))=fnW En (look []) Bq Tryz.f98 (a,b,()) P:=by kernel_rfl
theorem yT (xs:List Int) (x:Int) (P:Bool->Prop):(Db (λ(v3:Int×PUnit) (k4:Int×PUnit->Prop)=>Br (decide (v3.1<(↑xs.length:Int))) (∃(y5:Int),idx xs v3.1=some y5/\Br (y5==x) (P true) (k4 (IntKind.i64.wrap (v3.1+1),()))) (P false)) (0,PUnit.unit))=fnW En (look []) Rf Tryz.f102 (xs,x,()) P:=by kernel_rfl
theorem YU (x a b:Int) (_:True):fnW En (look []) Dn Tryz.f32 (x,a,b,()) (λ(z:Bool)=>z=Pj x a b):=by
 refine Eq.mp (Aaj x a b _) ?_
 refine Br.dec (λh=>?_) λh=>?_
 ·have h:a<=x:=h
  simp [Pj,h]
 ·exact (Dr λhh=>h hh.1).symm
theorem al:Sound Tryz.prog 32 Dn:=
 Sound.Fb De Bh mixed Tryz.func32 (by kernel_rfl) (by kernel_rfl) λx h=>YU x.1 x.2.1 x.2.2.1 h
theorem Aeg (x a b:Int) (_:True):fnW En (look []) Dn Tryz.f39 (x,a,b,()) (λ(z:Bool)=>z=Pj x a b):=by
 refine Eq.mp (Afz x a b _) ?_
 refine Br.dec (λh=>?_) λh=>?_
 ·have h:a<=x:=h
  simp [Pj,h]
 ·exact (Dr λhh=>h hh.1).symm
theorem Xr:Sound Tryz.prog 39 Dn:=
 Sound.Fb De Bh mixed Tryz.func39 (by kernel_rfl) (by kernel_rfl) λx h=>Aeg x.1 x.2.1 x.2.2.1 h
theorem YX (n x:Int) (_:True):fnW En (look [(39,Dn)]) c6 Tryz.f120 (n,x,()) (λ(z:Bool)=>z=lg n x):=
 Eq.mp (Aam n x _) ⟨_,Ab trivial,rfl⟩
theorem yE:Sound Tryz.prog 120 c6:=
 Sound.Fb De (Av Xr Bh) mixed Tryz.func120 (by kernel_rfl) (by kernel_rfl) λx h=>YX x.1 x.2.1 h
theorem yg (xs:List Int) (x:Int) (h:short xs):fnW En (look []) Rf Tryz.f102 (xs,x,()) (λ(z:Bool)=>z=mh xs x):=by
 refine Eq.mp (yT xs x _) ?_
 unfold short at h
 refine Bf xs.length (λv=>v.1) (λj _=>x∉xs.take j) rfl (by simp) ?_
 rintro j ⟨i,⟨⟩⟩ K hj hi hR hK
 dsimp only at hi⊢
 subst hi
 refine Br.dec (λhl=>?_) λhl=>?_
 ·have hl:j<xs.length:=by omega
  refine ⟨_,Bu hl,⟨λhe=>?_,λhe=>?_⟩⟩
  ·have hm:=Ak hl
   simp only [Xw] at he
   rw [he] at hm
   exact (Er hm).symm
  ·rw [Bg (by omega)]
   refine hK hl _ rfl ?_
   simp only [Nv,ne_eq] at he
   rw [Bb hl]
   simp only [Az,Ad,not_or]
   exact ⟨hR,λhx=>he hx.symm⟩
 ·have:j=xs.length:=by omega
  subst this
  rw [Ap] at hR
  exact (Dr hR).symm
theorem px:Sound Tryz.prog 102 Rf:=
 Sound.Fb De Bh mixed Tryz.func102 (by kernel_rfl) (by kernel_rfl) λx h=>yg x.1 x.2.1 h
theorem BT (a b:List Int) (hlen:a.length=b.length) (h:short a):
  Db (λ(v3:Int×PUnit) (k4:Int×PUnit->Prop)=>
   Br (decide (v3.1<(↑a.length:Int))) (∃(y5:Int),idx a v3.1=some y5/\ ∃(y6:Int),idx b v3.1=some y6/\Br (y5 !=y6) (false=Ck a b) (k4 (IntKind.i64.wrap (v3.1+1),())))
    (true=Ck a b))
  (0,PUnit.unit):=by
 unfold short at h
 refine Bf a.length (λv=>v.1) (λj _=>a.take j=b.take j) rfl (by simp) ?_
 rintro j ⟨i,⟨⟩⟩ K hj hi hR hK
 dsimp only at hi⊢
 subst hi
 refine Br.dec (λhl=>?_) λhl=>?_
 ·have l6:j<a.length:=by omega
  have xB:j<b.length:=by omega
  refine ⟨_,Bu l6,_,Bu xB,⟨λhe=>?_,λhe=>?_⟩⟩
  ·simp only [Xx,ne_eq] at he
   refine (Dr λfH=>he ?_).symm
   subst fH
   rfl
  ·rw [Bg (by omega)]
   refine hK l6 _ rfl ?_
   simp only [Hl] at he
   rw [Bb l6,Bb xB,hR,he]
 ·have sY:j=a.length:=by omega
  subst sY
  rw [Ap,hlen,Ap] at hR
  exact (Er hR).symm
theorem KS (a b:List Int) (h:short a):fnW En (look []) Bq Tryz.f62 (a,b,()) (λ(z:Bool)=>z=Ck a b):=by
 refine Eq.mp (NF a b _) ⟨λhl=>?_,λhl=>?_⟩
 ·simp only [Xx,ne_eq,Gi] at hl
  exact (Dr λfH=>hl (by rw [fH])).symm
 ·simp only [Hl,Gi] at hl
  exact BT a b hl h
theorem Vf:Sound Tryz.prog 62 Bq:=
 Sound.Fb De Bh mixed Tryz.func62 (by kernel_rfl) (by kernel_rfl) λx h=>KS x.1 x.2.1 h
theorem ym (a b:List Int) (h:short a):fnW En (look []) Bq Tryz.f98 (a,b,()) (λ(z:Bool)=>z=Ck a b):=by
 refine Eq.mp (yZ a b _) ⟨λhl=>?_,λhl=>?_⟩
 ·simp only [Xx,ne_eq,Gi] at hl
  exact (Dr λfH=>hl (by rw [fH])).symm
 ·simp only [Hl,Gi] at hl
  exact BT a b hl h
theorem dM:Sound Tryz.prog 98 Bq:=
 Sound.Fb De Bh mixed Tryz.func98 (by kernel_rfl) (by kernel_rfl) λx h=>ym x.1 x.2.1 h
abbrev TT:Type:=List Int×List (List Int)×List Int×Unit
def Hj (xs:List (List Int)):Prop:=xs.length<=4294967296/\ ∀r∈xs,short r
def Om (t:TT):Prop:=short t.1/\Hj t.2.1/\short t.2.2.1
def roomy (room:Int):Prop:=0<=room/\room<=4294967296
def qE (n:Nat) (room:Int):Int:=if room-n<0 then-1 else room-n
def Xe (xs:List Int) (room:Int):Int:=qE xs.length room
def xh:List (List Int)->Int->Int
 | [],room=>room
 |r::rs,room=>if Xe r room<0 then-1 else xh rs (Xe r room)
def Rl (xs:List (List Int)) (room:Int):Int:=if qE xs.length room<0 then-1 else xh xs (qE xs.length room)
def Ml (t:TT) (room:Int):Int:=
 if Xe t.1 room<0 then-1 else if Rl t.2.1 (Xe t.1 room)<0 then-1 else
 if Xe t.2.2.1 (Rl t.2.1 (Xe t.1 room))<0 then-1 else Xe t.2.2.1 (Rl t.2.1 (Xe t.1 room))
def Sk (a b:List (List Int)):Bool:=decide (a=b)
def Px (a b:TT):Bool:=decide (a.1=b.1)&&(decide (a.2.1=b.2.1)&&decide (a.2.2.1=b.2.2.1))
noncomputable abbrev mr:Spec:=Fb (.pair tL (.pair tI .unit)) tI false true (λx=>short x.1/\roomy x.2.1) (λx=>Xe x.1 x.2.1)
noncomputable abbrev gN:Spec:=Fb (.pair dS (.pair tI .unit)) tI false true (λx=>Hj x.1/\roomy x.2.1) (λx=>Rl x.1 x.2.1)
noncomputable abbrev ca:Spec:=Fb (.pair Ld (.pair tI .unit)) tI false true (λx=>Om x.1/\roomy x.2.1) (λx=>Ml x.1 x.2.1)
noncomputable abbrev iE:Spec:=Fb (.pair tL .unit) tL false true (λx=>short x.1) (λx=>x.1)
noncomputable abbrev gO:Spec:=Fb (.pair dS .unit) dS false true (λx=>Hj x.1) (λx=>x.1)
noncomputable abbrev cc:Spec:=Fb (.pair Ld .unit) Ld false true (λx=>Om x.1) (λx=>x.1)
noncomputable abbrev Vr:Spec:=Fb (.pair dS (.pair dS .unit)) .bool false true (λx=>Hj x.1) (λx=>Sk x.1 x.2.1)
noncomputable abbrev Iy:Spec:=Fb (.pair Ld (.pair Ld .unit)) .bool false true (λx=>Om x.1) (λx=>Px x.1 x.2.1)
theorem Asr (xs:List Int) (room:Int) (P:Int->Prop):(Br (decide (IntKind.i64.wrap (room-(↑xs.length:Int))<0)) (P (-1)) (P (IntKind.i64.wrap (room-(↑xs.length:Int)))))=fnW En (look []) mr Tryz.f30 (xs,room,()) P:=by kernel_rfl
theorem Aoi (xs:List (List Int)) (room:Int) (P:Int->Prop):(Br (decide (IntKind.i64.wrap (room-(↑xs.length:Int))<0)) (P (-1)) (Db (λ(v3:Int×Int×PUnit) (k4:Int×Int×PUnit->Prop)=>Br (decide (v3.2.1<(↑xs.length:Int))) (∃(y5:List Int),idx xs v3.2.1=some y5/\ ∃(y6:Int),mr.fn (y5,v3.1,())=some y6/\Br (decide (y6<0)) (P (-1)) (k4 (y6,IntKind.i64.wrap (v3.2.1+1),()))) (P v3.1)) (IntKind.i64.wrap (room-(↑xs.length:Int)),0,PUnit.unit)))=fnW En (look [(30,mr)]) gN Tryz.f18 (xs,room,()) P:=by kernel_rfl
theorem Aau (t:List Int×List (List Int)×List Int×Unit) (room:Int) (P:Int->Prop):(∃(y3:Int),mr.fn (t.1,room,())=some y3/\Br (decide (y3<0)) (P (-1)) (∃(y4:Int),gN.fn (t.2.1,y3,())=some y4/\Br (decide (y4<0)) (P (-1)) (∃(y5:Int),mr.fn (t.2.2.1,y4,())=some y5/\Br (decide (y5<0)) (P (-1)) (P y5))))=fnW En (look [(30,mr),(18,gN)]) ca Tryz.f19 (t,room,()) P:=by kernel_rfl
theorem Ast (xs:List Int) (P:List Int->Prop):((0<=(↑xs.length:Int)/\(↑xs.length:Int)<(↑Cr:Int)+1)/\(↑xs.length:Int)=(↑xs.length:Int)/\0=0/\(List.replicate (↑xs.length:Int).toNat (Int.ofNat 0)).length=(List.replicate (↑xs.length:Int).toNat (Int.ofNat 0)).length/\Db (λ(v2:Int×List Int×PUnit) (k3:Int×List Int×PUnit->Prop)=>Br (decide (v2.1<(↑xs.length:Int))) (∃(y4:Int),idx xs v2.1=some y4/\(0<=v2.1/\v2.1<(↑v2.2.1.length:Int))/\0+v2.1.toNat<v2.2.1.length/\0=0/\v2.2.1.length=(v2.2.1.set (0+v2.1.toNat) y4).length/\k3 (IntKind.i64.wrap (v2.1+1),v2.2.1.set (0+v2.1.toNat) y4,())) (P (List.take v2.2.1.length (List.drop 0 v2.2.1)))) (0,List.replicate (↑xs.length:Int).toNat (Int.ofNat 0),PUnit.unit))=fnW En (look []) iE Tryz.f9 (xs,()) P:=by kernel_rfl
theorem Aok (xs:List (List Int)) (P:List (List Int)->Prop):((0<=(↑xs.length:Int)/\(↑xs.length:Int)<(↑Cr:Int)+1)/\(↑xs.length:Int)=(↑xs.length:Int)/\0=0/\(List.replicate (↑xs.length:Int).toNat ([]:List Int)).length=(List.replicate (↑xs.length:Int).toNat ([]:List Int)).length/\Db (λ(v2:Int×List (List Int)×PUnit) (k3:Int×List (List Int)×PUnit->Prop)=>Br (decide (v2.1<(↑xs.length:Int))) (∃(y4:List Int),idx xs v2.1=some y4/\ ∃(y5:List Int),iE.fn (y4,())=some y5/\(0<=v2.1/\v2.1<(↑v2.2.1.length:Int))/\0+v2.1.toNat<v2.2.1.length/\0=0/\v2.2.1.length=(v2.2.1.set (0+v2.1.toNat) y5).length/\k3 (IntKind.i64.wrap (v2.1+1),v2.2.1.set (0+v2.1.toNat) y5,())) (P (List.take v2.2.1.length (List.drop 0 v2.2.1)))) (0,List.replicate (↑xs.length:Int).toNat ([]:List Int),PUnit.unit))=fnW En (look [(9,iE)]) gO Tryz.f22 (xs,()) P:=by kernel_rfl
theorem Aaw (t:List Int×List (List Int)×List Int×Unit) (P:(List Int×List (List Int)×List Int×Unit)->Prop):(∃(y2:List Int),iE.fn (t.1,())=some y2/\ ∃(y3:List (List Int)),gO.fn (t.2.1,())=some y3/\ ∃(y4:List Int),iE.fn (t.2.2.1,())=some y4/\P (y2,y3,y4,()))=fnW En (look [(9,iE),(22,gO)]) cc Tryz.f23 (t,()) P:=by kernel_rfl
theorem Asm (a b:List Int) (P:Bool->Prop):(Br ((↑a.length:Int) !=(↑b.length:Int)) (P false) (Db (λ(v3:Int×PUnit) (k4:Int×PUnit->Prop)=>Br (decide (v3.1<(↑a.length:Int))) (∃(y5:Int),idx a v3.1=some y5/\ ∃(y6:Int),idx b v3.1=some y6/\Br (y5 !=y6) (P false) (k4 (IntKind.i64.wrap (v3.1+1),()))) (P true)) (0,PUnit.unit)))=fnW En (look []) Bq Tryz.f11 (a,b,()) P:=by kernel_rfl
theorem Ao9 (a b:List (List Int)) (P:Bool->Prop):(Br ((↑a.length:Int) !=(↑b.length:Int)) (P false) (Db (λ(v3:Int×PUnit) (k4:Int×PUnit->Prop)=>Br (decide (v3.1<(↑a.length:Int))) (∃(y5:List Int),idx a v3.1=some y5/\ ∃(y6:List Int),idx b v3.1=some y6/\ ∃(y7:Bool),Bq.fn (y5,y6,())=some y7/\Br (!y7) (P false) (k4 (IntKind.i64.wrap (v3.1+1),()))) (P true)) (0,PUnit.unit)))=fnW En (look [(11,Bq)]) Vr Tryz.f27 (a,b,()) P:=by kernel_rfl
theorem Aah (a b:List Int×List (List Int)×List Int×Unit) (P:Bool->Prop):(∃(y3:Bool),Bq.fn (a.1,b.1,())=some y3/\Br (!y3) (P false) (∃(y4:Bool),Vr.fn (a.2.1,b.2.1,())=some y4/\Br (!y4) (P false) (∃(y5:Bool),Bq.fn (a.2.2.1,b.2.2.1,())=some y5/\Br (!y5) (P false) (P true))))=fnW En (look [(11,Bq),(27,Vr)]) Iy Tryz.f28 (a,b,()) P:=by kernel_rfl
theorem bV {n:Nat} {room:Int} (h:roomy room) (h2: ¬qE n room<0):roomy (qE n room):=by
 unfold qE roomy at*
 split at h2<;>simp_all
 omega
theorem As1 (xs:List Int) (room:Int) (h:short xs/\roomy room):fnW En (look []) mr Tryz.f30 (xs,room,()) (λ(z:Int)=>z=Xe xs room):=by
 obtain ⟨h1,h2,h3⟩:=h
 unfold short at h1
 refine Eq.mp (Asr xs room _) ?_
 rw [Di (by omega) (by omega)]
 refine Br.dec (λh=>?_) λh=>?_
 ·simp only [Xe,qE,Ab h]
 ·simp only [Xe,qE,Ag h]
theorem AP:Sound Tryz.prog 30 mr:=
 Sound.Fb De Bh mixed Tryz.func30 (by kernel_rfl) (by kernel_rfl) λx h=>As1 x.1 x.2.1 h
theorem Ano (xs:List (List Int)) (room:Int) (h:Hj xs/\roomy room):fnW En (look [(30,mr)]) gN Tryz.f18 (xs,room,()) (λ(z:Int)=>z=Rl xs room):=by
 obtain ⟨⟨h1,h4⟩,h2,h3⟩:=h
 refine Eq.mp (Aoi xs room _) ?_
 rw [Di (by omega) (by omega)]
 refine Br.dec (λh=>?_) λh=>?_
 ·simp only [Rl,qE,Ab h];rfl
 ·refine Bf xs.length (λv=>v.2.1) (λj v=>roomy v.1/\xh (xs.drop j) v.1=Rl xs room) rfl ?_ ?_
  ·refine ⟨by unfold roomy;omega,?_⟩
   simp only [Rl,qE,Ag h,Dp]
  ·rintro j ⟨r,i,⟨⟩⟩ K hj hi ⟨hr,hR⟩ hK
   dsimp only at hi hr hR⊢
   subst hi
   refine Br.dec (λhl=>?_) λhl=>?_
   ·have hl:j<xs.length:=by omega
    have hd:xs.drop j=xs[j]::xs.drop (j+1):=Co hl
    refine ⟨_,Bu hl,_,Ab ⟨h4 _ (Ak hl),hr⟩,?_⟩
    rw [hd] at hR
    simp only [xh] at hR
    refine Br.dec (λhn=>?_) λhn=>?_
    ·have hn:Xe xs[j] r<0:=hn
     rw [Ab hn] at hR
     exact hR
    ·have hn: ¬Xe xs[j] r<0:=hn
     rw [Ag hn] at hR
     rw [Bg (by omega)]
     exact hK hl _ rfl ⟨bV hr hn,hR⟩
   ·have:j=xs.length:=by omega
    subst this
    rw [Is] at hR
    exact hR
theorem x7:Sound Tryz.prog 18 gN:=
 Sound.Fb De (Av AP Bh) mixed Tryz.func18 (by kernel_rfl) (by kernel_rfl) λx h=>Ano x.1 x.2.1 h
theorem AR: ∀(xs:List (List Int)) (room:Int),roomy room-> ¬xh xs room<0->roomy (xh xs room)
 | [],room,h,_=>h
 |r::rs,room,h,h2=>by
  simp only [xh] at h2⊢
  split
  ·rename_i hn;rw [Ab hn] at h2;exact absurd (show (-1:Int)<0 by decide) h2
  ·rename_i hn;rw [Ag hn] at h2;exact AR rs _ (bV h hn) h2
theorem sk {xs:List (List Int)} {room:Int} (h:roomy room) (h2: ¬Rl xs room<0):roomy (Rl xs room):=by
 unfold Rl at*
 split
 ·rename_i hn;rw [Ab hn] at h2;exact absurd (show (-1:Int)<0 by decide) h2
 ·rename_i hn;rw [Ag hn] at h2;exact AR _ _ (bV h hn) h2
theorem ZF (t:TT) (room:Int) (h:Om t/\roomy room):fnW En (look [(30,mr),(18,gN)]) ca Tryz.f19 (t,room,()) (λ(z:Int)=>z=Ml t room):=by
 obtain ⟨⟨h1,h2,h3⟩,hr⟩:=h
 refine Eq.mp (Aau t room _) ?_
 refine ⟨_,Ab ⟨h1,hr⟩,Br.dec (λhn=>?_) λhn=>?_⟩
 ·exact (Ab hn).symm
 ·have r1:=bV hr hn
  refine ⟨_,Ab ⟨h2,r1⟩,Br.dec (λhm=>?_) λhm=>?_⟩
  ·exact ((Ag hn).trans (Ab hm)).symm
  ·have r2:=sk r1 hm
   refine ⟨_,Ab ⟨h3,r2⟩,Br.dec (λhk=>?_) λhk=>?_⟩
   ·exact ((Ag hn).trans ((Ag hm).trans (Ab hk))).symm
   ·exact ((Ag hn).trans ((Ag hm).trans (Ag hk))).symm
theorem yK:Sound Tryz.prog 19 ca:=
 Sound.Fb De (Av AP (Av x7 Bh)) mixed Tryz.func19 (by kernel_rfl) (by kernel_rfl) λx h=>ZF x.1 x.2.1 h
theorem Ky {α:Type} {ys xs:List α} {j:Nat} (h:j<xs.length) (hl:ys.length=xs.length) (ht:ys.take j=xs.take j):(ys.set j xs[j]).take (j+1)=xs.take (j+1):=by
 have h1:j<(ys.set j xs[j]).length:=by rw [Bj];omega
 rw [Bb h1,Bb h,List.getElem_set_self,List.take_set_of_le (Ao j),ht]
theorem As3 (xs:List Int) (h:short xs):fnW En (look []) iE Tryz.f9 (xs,()) (λ(z:List Int)=>z=xs):=by
 unfold short at h
 refine Eq.mp (Ast xs _) ?_
 refine ⟨⟨by omega,by show (xs.length:Int)<(4294967296:Int)+1;omega⟩,rfl,rfl,rfl,?_⟩
 refine Bf xs.length (λv=>v.1) (λj v=>v.2.1.length=xs.length/\v.2.1.take j=xs.take j) rfl ⟨by simp,by simp⟩ ?_
 rintro j ⟨i,ys,⟨⟩⟩ K hj hi ⟨h1,h2⟩ hK
 dsimp only at hi h1 h2⊢
 subst hi
 refine Br.dec (λhl=>?_) λhl=>?_
 ·have hl:j<xs.length:=by omega
  refine ⟨_,Bu hl,⟨by omega,by omega⟩,by rw [Ai];omega,rfl,by rw [Bj],?_⟩
  rw [Bg (by omega),Ai,Bo]
  exact hK hl _ rfl ⟨by rw [Bj];exact h1,Ky hl h1 h2⟩
 ·have:j=xs.length:=by omega
  subst this
  rw [Ap,<-h1,Ap] at h2
  rw [Dp,Ap]
  exact h2
theorem rn:Sound Tryz.prog 9 iE:=
 Sound.Fb De Bh mixed Tryz.func9 (by kernel_rfl) (by kernel_rfl) λx h=>As3 x.1 h
theorem Anq (xs:List (List Int)) (h:Hj xs):fnW En (look [(9,iE)]) gO Tryz.f22 (xs,()) (λ(z:List (List Int))=>z=xs):=by
 obtain ⟨h,h4⟩:=h
 refine Eq.mp (Aok xs _) ?_
 refine ⟨⟨by omega,by show (xs.length:Int)<(4294967296:Int)+1;omega⟩,rfl,rfl,rfl,?_⟩
 refine Bf xs.length (λv=>v.1) (λj v=>v.2.1.length=xs.length/\v.2.1.take j=xs.take j) rfl ⟨by simp,by simp⟩ ?_
 rintro j ⟨i,ys,⟨⟩⟩ K hj hi ⟨h1,h2⟩ hK
 dsimp only at hi h1 h2⊢
 subst hi
 refine Br.dec (λhl=>?_) λhl=>?_
 ·have hl:j<xs.length:=by omega
  refine ⟨_,Bu hl,_,Ab (h4 _ (Ak hl)),⟨by omega,by omega⟩,by rw [Ai];omega,rfl,by rw [Bj],?_⟩
  rw [Bg (by omega),Ai,Bo]
  exact hK hl _ rfl ⟨by rw [Bj];exact h1,Ky hl h1 h2⟩
 ·have:j=xs.length:=by omega
  subst this
  rw [Ap,<-h1,Ap] at h2
  rw [Dp,Ap]
  exact h2
theorem x9:Sound Tryz.prog 22 gO:=
 Sound.Fb De (Av rn Bh) mixed Tryz.func22 (by kernel_rfl) (by kernel_rfl) λx h=>Anq x.1 h
theorem ZH (t:TT) (h:Om t):fnW En (look [(9,iE),(22,gO)]) cc Tryz.f23 (t,()) (λ(z:TT)=>z=t):=by
 refine Eq.mp (Aaw t _) ?_
 exact ⟨_,Ab h.1,_,Ab h.2.1,_,Ab h.2.2,rfl⟩
theorem yM:Sound Tryz.prog 23 cc:=
 Sound.Fb De (Av rn (Av x9 Bh)) mixed Tryz.func23 (by kernel_rfl) (by kernel_rfl) λx h=>ZH x.1 h
theorem Arw (a b:List Int) (h:short a):fnW En (look []) Bq Tryz.f11 (a,b,()) (λ(z:Bool)=>z=Ck a b):=by
 refine Eq.mp (Asm a b _) ⟨λhl=>?_,λhl=>?_⟩
 ·simp only [Xx,ne_eq,Gi] at hl
  exact (Dr λfH=>hl (by rw [fH])).symm
 ·simp only [Hl,Gi] at hl
  exact BT a b hl h
theorem rh:Sound Tryz.prog 11 Bq:=
 Sound.Fb De Bh mixed Tryz.func11 (by kernel_rfl) (by kernel_rfl) λx h=>Arw x.1 x.2.1 h
theorem Anf (a b:List (List Int)) (h:Hj a):fnW En (look [(11,Bq)]) Vr Tryz.f27 (a,b,()) (λ(z:Bool)=>z=Sk a b):=by
 obtain ⟨h,h4⟩:=h
 refine Eq.mp (Ao9 a b _) ⟨λhl=>?_,λhl=>?_⟩
 ·simp only [Xx,ne_eq,Gi] at hl
  exact (Dr λfH=>hl (by rw [fH])).symm
 ·simp only [Hl,Gi] at hl
  refine Bf a.length (λv=>v.1) (λj _=>a.take j=b.take j) rfl (by simp) ?_
  rintro j ⟨i,⟨⟩⟩ K hj hi hR hK
  dsimp only at hi⊢
  subst hi
  refine Br.dec (λIz=>?_) λIz=>?_
  ·have l6:j<a.length:=by omega
   have xB:j<b.length:=by omega
   refine ⟨_,Bu l6,_,Bu xB,_,Ab (h4 _ (Ak l6)),⟨λhe=>?_,λhe=>?_⟩⟩
   ·refine (Dr λfH=>?_).symm
    subst fH
    simp [Ck] at he
   ·rw [Bg (by omega)]
    refine hK l6 _ rfl ?_
    simp only [Ck,Bool.not_eq_false',Nn] at he
    rw [Bb l6,Bb xB,hR]
    exact Lr (λx=>List.take j b++ [x]) he
  ·have sY:j=a.length:=by omega
   subst sY
   rw [Ap,hl,Ap] at hR
   exact (Er hR).symm
theorem wW:Sound Tryz.prog 27 Vr:=
 Sound.Fb De (Av rh Bh) mixed Tryz.func27 (by kernel_rfl) (by kernel_rfl) λx h=>Anf x.1 x.2.1 h
theorem YS (a b:TT) (h:Om a):fnW En (look [(11,Bq),(27,Vr)]) Iy Tryz.f28 (a,b,()) (λ(z:Bool)=>z=Px a b):=by
 refine Eq.mp (Aah a b _) ?_
 refine ⟨_,Ab h.1,⟨λh1=>?_,λh1=>?_⟩⟩
 ·have h1:(!Ck a.1 b.1)=true:=h1
  simp only [Ck] at h1
  unfold Px
  cases hd:decide (a.1=b.1)<;>simp_all
 ·have h1:(!Ck a.1 b.1)=false:=h1
  simp only [Ck] at h1
  refine ⟨_,Ab h.2.1,⟨λh2=>?_,λh2=>?_⟩⟩
  ·have h2:(!Sk a.2.1 b.2.1)=true:=h2
   simp only [Sk] at h2
   unfold Px
   cases hd:decide (a.2.1=b.2.1)<;>simp_all
  ·have h2:(!Sk a.2.1 b.2.1)=false:=h2
   simp only [Sk] at h2
   refine ⟨_,Ab h.2.2,⟨λh3=>?_,λh3=>?_⟩⟩
   ·have h3:(!Ck a.2.2.1 b.2.2.1)=true:=h3
    simp only [Ck] at h3
    unfold Px
    cases hd:decide (a.2.2.1=b.2.2.1)<;>simp_all
   ·have h3:(!Ck a.2.2.1 b.2.2.1)=false:=h3
    simp only [Ck] at h3
    unfold Px
    simp_all
theorem yA:Sound Tryz.prog 28 Iy:=
 Sound.Fb De (Av rh (Av wW Bh)) mixed Tryz.func28 (by kernel_rfl) (by kernel_rfl) λx h=>YS x.1 x.2.1 h
def PL (n:Int) (xs:List Int) (k:Nat):Prop:= ∀j (h:j<xs.length),j<k->0<=xs[j]/\xs[j]<=n-1/\(0<j->xs[j-1]<xs[j])
def DL (n:Int) (xs:List Int) (k:Nat):Prop:= ∀j (h:j<xs.length),j<k->0<=xs[j]/\xs[j]<=n-1/\xs[j]∉xs.take j
noncomputable def dec (p:Prop):Bool:= @decide p (Classical.propDecidable p)
theorem Pd {p:Prop} (h:p):true=dec p:=(@Er p (Classical.propDecidable p) h).symm
theorem Dm {p:Prop} (h: ¬p):false=dec p:=(@Dr p (Classical.propDecidable p) h).symm
theorem Hv {p:Prop} :dec p=true↔p:= @Je p (Classical.propDecidable p)
theorem Ags {p:Prop} :dec p=false↔ ¬p:= @decide_eq_false_iff_not p (Classical.propDecidable p)
def nOK (n:Int):Prop:=0<=n/\n<=4294967296
noncomputable def aG (n:Int) (xs:List Int):Bool:=dec (0<xs.length/\PL n xs xs.length)
noncomputable abbrev Kg:Spec:=Fb (.pair tI (.pair tL .unit)) .bool false true (λx=>nOK x.1/\short x.2.1) (λx=>aG x.1 x.2.1)
theorem yY (n:Int) (xs:List Int) (P:Bool->Prop):(∃(y3:Bool),Dn.fn ((↑xs.length:Int),(1:Int),n,())=some y3/\Br (!y3) (P false) (Db (λ(v4:Int×PUnit) (k5:Int×PUnit->Prop)=>Br (decide (v4.1<(↑xs.length:Int))) (∃(y6:Int),idx xs v4.1=some y6/\ ∃(y7:Bool),Dn.fn (y6,(0:Int),IntKind.i64.wrap (n-(1:Int)),())=some y7/\Br (!y7) (P false) (Br (decide (v4.1>(0:Int))) (∃(y8:Int),idx xs v4.1=some y8/\ ∃(y9:Int),idx xs (IntKind.i64.wrap (v4.1-(1:Int)))=some y9/\Br (decide (y8<=y9)) (P false) (k5 (IntKind.i64.wrap (v4.1+(1:Int)),()))) (k5 (IntKind.i64.wrap (v4.1+(1:Int)),())))) (P true)) ((0:Int),PUnit.unit)))=fnW En (look [(32,Dn)]) Kg Tryz.f117 (n,xs,()) P:=by kernel_rfl
theorem NJ (n:Int) (xs:List Int) (P:Bool->Prop):(Db (λ(v3:Int×PUnit) (k4:Int×PUnit->Prop)=>Br (decide (v3.1<(↑xs.length:Int))) (∃(y5:Int),idx xs v3.1=some y5/\ ∃(y6:Bool),c6.fn (n,y5,())=some y6/\Br (!y6) (P false) (Br (decide (v3.1>(0:Int))) (∃(y7:Int),idx xs (IntKind.i64.wrap (v3.1-(1:Int)))=some y7/\Br (decide (y7>=y5)) (P false) (k4 (IntKind.i64.wrap (v3.1+(1:Int)),()))) (k4 (IntKind.i64.wrap (v3.1+(1:Int)),())))) (P (decide ((↑xs.length:Int)>(0:Int))))) ((0:Int),PUnit.unit))=fnW En (look [(120,c6)]) Kg Tryz.f116 (n,xs,()) P:=by kernel_rfl
theorem si {n x:Int} (hn:nOK n):lg n x=true↔0<=x/\x<=n-1:=by
 unfold lg nOK at*
 rw [Di (by omega) (by omega),Je]
theorem Gb {x a b:Int} :Pj x a b=true↔a<=x/\x<=b:=Je
theorem Fc {b:Bool} (h:(!b)=true): ¬b=true:=by cases b<;>simp_all
theorem Hg {b:Bool} (h:(!b)=false):b=true:=by cases b<;>simp_all
theorem RY {n:Int} {xs:List Int} (h:PL n xs xs.length): ∀j (hj:j<xs.length),(j:Int)<=xs[j]
 |0,hj=>(h 0 hj hj).1
 |j+1,hj=>by
  have h1:=RY h j (by omega)
  have h2:=(h (j+1) hj hj).2.2 (by omega)
  simp only [Nat.add_sub_cancel] at h2
  omega
theorem ua {n:Int} {xs:List Int} {j:Nat} (hl:j<xs.length) (h:PL n xs j) (h1:0<=xs[j]) (h2:xs[j]<=n-1) (h3:0<j->xs[j-1]<xs[j]):PL n xs (j+1):=by
 intro i hi jC
 by_cases e:i=j
 ·subst e;exact ⟨h1,h2,h3⟩
 ·exact h i hi (by omega)
theorem KW (n:Int) (xs:List Int) (h:nOK n/\short xs):fnW En (look [(120,c6)]) Kg Tryz.f116 (n,xs,()) (λ(z:Bool)=>z=aG n xs):=by
 obtain ⟨hn,h⟩:=h
 unfold short at h
 refine Eq.mp (NJ n xs _) ?_
 refine Bf xs.length (λv=>v.1) (λj _=>PL n xs j) rfl (λj _ hj=>absurd hj (Dq _)) ?_
 rintro j ⟨i,⟨⟩⟩ K hj hi hR hK
 dsimp only at hi⊢
 subst hi
 refine Br.dec (λhl=>?_) λhl=>?_
 ·have hl:j<xs.length:=by omega
  refine ⟨_,Bu hl,_,Ab trivial,⟨λhp=>?_,λhp=>?_⟩⟩
  ·have hp:=Fc hp
   rw [si hn] at hp
   exact Dm λhh=>hp ⟨(hh.2 j hl hl).1,(hh.2 j hl hl).2.1⟩
  ·have hp:=Hg hp
   rw [si hn] at hp
   refine Br.dec (λh0=>?_) λh0=>?_
   ·have h0:0<j:=by omega
    rw [Di (by omega) (by omega),show (j:Int)-1=((j-1:Nat):Int) by omega]
    refine ⟨_,Bu (by omega),Br.dec (λhg=>?_) λhg=>?_⟩
    ·exact Dm λhh=>by have:=(hh.2 j hl hl).2.2 h0;omega
    ·rw [Bg (by omega)]
     exact hK hl _ rfl (ua hl hR hp.1 hp.2 λ_=>by omega)
   ·have h0:j=0:=by omega
    rw [Bg (by omega)]
    exact hK hl _ rfl (ua hl hR hp.1 hp.2 λh=>by omega)
 ·have:j=xs.length:=by omega
  subst this
  by_cases h0:0<xs.length
  ·rw [Er (show (xs.length:Int)>0 by omega)];exact Pd ⟨h0,hR⟩
  ·rw [Dr (show ¬(xs.length:Int)>0 by omega)];exact Dm λhh=>h0 hh.1
theorem tz:Sound Tryz.prog 116 Kg:=
 Sound.Fb De (Av yE Bh) mixed Tryz.func116 (by kernel_rfl) (by kernel_rfl) λx h=>KW x.1 x.2.1 h
theorem yl (n:Int) (xs:List Int) (h:nOK n/\short xs):fnW En (look [(32,Dn)]) Kg Tryz.f117 (n,xs,()) (λ(z:Bool)=>z=aG n xs):=by
 obtain ⟨hn,h⟩:=h
 unfold short at h
 refine Eq.mp (yY n xs _) ⟨_,Ab trivial,⟨λhp=>?_,λhp=>?_⟩⟩
 ·have hp:=Fc hp
  rw [Gb] at hp
  dsimp only at hp
  refine Dm λhh=>hp ⟨by omega,?_⟩
  have:=RY hh.2 (xs.length-1) (by omega)
  have:=(hh.2 (xs.length-1) (by omega) (by omega)).2.1
  omega
 ·have hp:=Hg hp
  rw [Gb] at hp
  dsimp only at hp
  refine Bf xs.length (λv=>v.1) (λj _=>PL n xs j) rfl (λj _ hj=>absurd hj (Dq _)) ?_
  rintro j ⟨i,⟨⟩⟩ K hj hi hR hK
  dsimp only at hi⊢
  subst hi
  refine Br.dec (λhl=>?_) λhl=>?_
  ·have hl:j<xs.length:=by omega
   refine ⟨_,Bu hl,_,Ab trivial,⟨λhq=>?_,λhq=>?_⟩⟩
   ·have hq:=Fc hq
    unfold nOK at hn
    rw [Gb,Di (by omega) (by omega)] at hq
    exact Dm λhh=>hq ⟨(hh.2 j hl hl).1,(hh.2 j hl hl).2.1⟩
   ·have hq:=Hg hq
    unfold nOK at hn
    rw [Gb,Di (by omega) (by omega)] at hq
    refine Br.dec (λh0=>?_) λh0=>?_
    ·have h0:0<j:=by omega
     rw [Di (by omega) (by omega),show (j:Int)-1=((j-1:Nat):Int) by omega]
     refine ⟨_,Bu hl,_,Bu (by omega),Br.dec (λhg=>?_) λhg=>?_⟩
     ·exact Dm λhh=>by have:=(hh.2 j hl hl).2.2 h0;omega
     ·rw [Bg (by omega)]
      exact hK hl _ rfl (ua hl hR hq.1 hq.2 λ_=>by omega)
    ·rw [Bg (by omega)]
     exact hK hl _ rfl (ua hl hR hq.1 hq.2 λh=>by omega)
  ·have:j=xs.length:=by omega
   subst this
   exact Pd ⟨by omega,hR⟩
theorem pA:Sound Tryz.prog 117 Kg:=
 Sound.Fb De (Av al Bh) mixed Tryz.func117 (by kernel_rfl) (by kernel_rfl) λx h=>yl x.1 x.2.1 h
theorem Agt {n:Int} {xs:List Int} {j:Nat} (hl:j<xs.length) (h:DL n xs j) (h1:0<=xs[j]) (h2:xs[j]<=n-1) (h3:xs[j]∉xs.take j):DL n xs (j+1):=by
 intro i hi jC
 by_cases e:i=j
 ·subst e;exact ⟨h1,h2,h3⟩
 ·exact h i hi (by omega)
theorem SP {xs:List Int} (h:short xs) (j:Nat):short (xs.take j):=by
 unfold short at*
 rw [Cq]
 omega
noncomputable abbrev Zf:Spec:=Fb (.pair dS (.pair dS (.pair (.clo 111 .unit) .unit))) .bool false true (λx=>Hj x.1) (λx=>Sk x.1 x.2.1)
theorem Asq (a b:List Int) (P:Bool->Prop):(∃(y3:Bool),Bq.fn (a,b,())=some y3/\P y3)=fnW En (look [(98,Bq)]) Bq Tryz.f111 (a,b,()) P:=by kernel_rfl
theorem TU (a b:List (List Int)) (c:Unit) (P:Bool->Prop):(Br ((↑a.length:Int) !=(↑b.length:Int)) (P false) (Db (λ(v4:Int×PUnit) (k5:Int×PUnit->Prop)=>Br (decide (v4.1<(↑a.length:Int))) (∃(y6:List Int),idx a v4.1=some y6/\ ∃(y7:List Int),idx b v4.1=some y7/\ ∃(y8:Bool),Bq.fn (y6,y7,())=some y8/\Br (!y8) (P false) (k5 (IntKind.i64.wrap (v4.1+(1:Int)),()))) (P true)) ((0:Int),PUnit.unit)))=fnW En (look [(111,Bq)]) Zf Tryz.f110 (a,b,c,()) P:=by kernel_rfl
theorem tK (a b:List (List Int)) (P:Bool->Prop):(∃(y3:Bool),Zf.fn (a,b,(),())=some y3/\P y3)=fnW En (look [(110,Zf)]) Vr Tryz.f99 (a,b,()) P:=by kernel_rfl
theorem tJ (a b:List Int×List (List Int)×List Int×Unit) (P:Bool->Prop):(∃(y3:Bool),Bq.fn (a.1,b.1,())=some y3/\Br y3 (∃(y4:Bool),Vr.fn (a.2.1,b.2.1,())=some y4/\Br y4 (∃(y5:Bool),Bq.fn (a.2.2.1,b.2.2.1,())=some y5/\P y5) (P false)) (P false))=fnW En (look [(98,Bq),(99,Vr)]) Iy Tryz.f76 (a,b,()) P:=by kernel_rfl
abbrev fF:Type:=Int×List Int×List (List Int)×List Int×List Int×List (List Int)×List Int×PUnit
theorem tM (a b:List Int×List (List Int)×List Int×Unit) (P:Bool->Prop):(∃(y3:Bool),Bq.fn (a.1,b.1,())=some y3/\Br (!y3) (P false) (∃(y4:Bool),Bq.fn (a.2.2.1,b.2.2.1,())=some y4/\Br (!y4) (P false) (Br ((↑a.2.1.length:Int) !=(↑b.2.1.length:Int)) (P false) (Db (λ(v5:fF) (k6:fF->Prop)=>Br (decide (v5.1<(↑v5.2.2.1.length:Int))) (∃(y7:List Int),idx v5.2.2.1 v5.1=some y7/\ ∃(y8:List Int),idx v5.2.2.2.2.2.1 v5.1=some y8/\ ∃(y9:Bool),Bq.fn (y7,y8,())=some y9/\Br (!y9) (P false) (k6 (IntKind.i64.wrap (v5.1+(1:Int)),v5.2.1,v5.2.2.1,v5.2.2.2.1,v5.2.2.2.2.1,v5.2.2.2.2.2.1,v5.2.2.2.2.2.2.1,()))) (P true)) ((0:Int),a.1,a.2.1,a.2.2.1,b.1,b.2.1,b.2.2.1,PUnit.unit)))))=fnW En (look [(62,Bq)]) Iy Tryz.f85 (a,b,()) P:=by kernel_rfl
theorem As0 (a b:List Int) (h:short a):fnW En (look [(98,Bq)]) Bq Tryz.f111 (a,b,()) (λ(z:Bool)=>z=Ck a b):=by
 refine Eq.mp (Asq a b _) ⟨_,Ab h,rfl⟩
theorem Aa1:Sound Tryz.prog 111 Bq:=
 Sound.Fb De (Av dM Bh) mixed Tryz.func111 (by kernel_rfl) (by kernel_rfl) λx h=>As0 x.1 x.2.1 h
theorem RO (a b:List (List Int)) (c:Unit) (h:Hj a):fnW En (look [(111,Bq)]) Zf Tryz.f110 (a,b,c,()) (λ(z:Bool)=>z=Sk a b):=by
 obtain ⟨h,h4⟩:=h
 refine Eq.mp (TU a b c _) ⟨λhl=>?_,λhl=>?_⟩
 ·simp only [Xx,ne_eq,Gi] at hl
  exact (Dr λfH=>hl (by rw [fH])).symm
 ·simp only [Hl,Gi] at hl
  refine Bf a.length (λv=>v.1) (λj _=>a.take j=b.take j) rfl (by simp) ?_
  rintro j ⟨i,⟨⟩⟩ K hj hi hR hK
  dsimp only at hi⊢
  subst hi
  refine Br.dec (λIz=>?_) λIz=>?_
  ·have l6:j<a.length:=by omega
   have xB:j<b.length:=by omega
   refine ⟨_,Bu l6,_,Bu xB,_,Ab (h4 _ (Ak l6)),⟨λhe=>?_,λhe=>?_⟩⟩
   ·refine (Dr λfH=>?_).symm
    subst fH
    simp [Ck] at he
   ·rw [Bg (by omega)]
    refine hK l6 _ rfl ?_
    simp only [Ck,Bool.not_eq_false',Nn] at he
    rw [Bb l6,Bb xB,hR]
    exact Lr (λx=>List.take j b++ [x]) he
  ·have sY:j=a.length:=by omega
   subst sY
   rw [Ap,hl,Ap] at hR
   exact (Er hR).symm
theorem wV:Sound Tryz.prog 110 Zf:=
 Sound.Fb De (Av Aa1 Bh) mixed Tryz.func110 (by kernel_rfl) (by kernel_rfl) λx h=>RO x.1 x.2.1 x.2.2.1 h
theorem th (a b:List (List Int)) (h:Hj a):fnW En (look [(110,Zf)]) Vr Tryz.f99 (a,b,()) (λ(z:Bool)=>z=Sk a b):=by
 refine Eq.mp (tK a b _) ⟨_,Ab h,rfl⟩
theorem lM:Sound Tryz.prog 99 Vr:=
 Sound.Fb De (Av wV Bh) mixed Tryz.func99 (by kernel_rfl) (by kernel_rfl) λx h=>th x.1 x.2.1 h
theorem tf (a b:TT) (h:Om a):fnW En (look [(98,Bq),(99,Vr)]) Iy Tryz.f76 (a,b,()) (λ(z:Bool)=>z=Px a b):=by
 refine Eq.mp (tJ a b _) ⟨_,Ab h.1,⟨λh1=>⟨_,Ab h.2.1,⟨λh2=>⟨_,Ab h.2.2,?_⟩,λh2=>?_⟩⟩,λh1=>?_⟩⟩
 ·have h1:Ck a.1 b.1=true:=h1
  have h2:Sk a.2.1 b.2.1=true:=h2
  simp only [Ck,Sk] at h1 h2
  show Ck a.2.2.1 b.2.2.1=_
  unfold Px Ck
  rw [h1,h2];rfl
 ·have h1:Ck a.1 b.1=true:=h1
  have h2:Sk a.2.1 b.2.1=false:=h2
  simp only [Ck,Sk] at h1 h2
  unfold Px
  rw [h1,h2];rfl
 ·have h1:Ck a.1 b.1=false:=h1
  simp only [Ck] at h1
  unfold Px
  rw [h1];rfl
theorem lL:Sound Tryz.prog 76 Iy:=
 Sound.Fb De (Av dM (Av lM Bh)) mixed Tryz.func76 (by kernel_rfl) (by kernel_rfl) λx h=>tf x.1 x.2.1 h
theorem tj (a b:TT) (h:Om a):fnW En (look [(62,Bq)]) Iy Tryz.f85 (a,b,()) (λ(z:Bool)=>z=Px a b):=by
 obtain ⟨eY,⟨lJ,hs4⟩,hs3⟩:=h
 refine Eq.mp (tM a b _) ⟨_,Ab eY,⟨λh1=>?_,λh1=>⟨_,Ab hs3,⟨λh2=>?_,λh2=>⟨λh3=>?_,λh3=>?_⟩⟩⟩⟩⟩
 ·have h1:(!Ck a.1 b.1)=true:=h1
  simp only [Ck,Ei] at h1
  show _=Px a b
  unfold Px
  rw [h1];rfl
 ·have h2:(!Ck a.2.2.1 b.2.2.1)=true:=h2
  simp only [Ck,Ei] at h2
  show _=Px a b
  unfold Px
  rw [h2];simp
 ·simp only [Xx,ne_eq,Gi] at h3
  show _=Px a b
  unfold Px
  rw [Dr (show ¬a.2.1=b.2.1 from λfH=>h3 (by rw [fH]))];simp
 ·simp only [Hl,Gi] at h3
  have h1:(!Ck a.1 b.1)=false:=h1
  have h2:(!Ck a.2.2.1 b.2.2.1)=false:=h2
  simp only [Ck,Bool.not_eq_false',Nn] at h1 h2
  have hE:Px a b=decide (a.2.1=b.2.1):=by
   unfold Px
   rw [Er h1,Er h2];simp
  refine Bf a.2.1.length (λv=>v.1) (λj v=>v.2=(a.1,a.2.1,a.2.2.1,b.1,b.2.1,b.2.2.1,())/\a.2.1.take j=b.2.1.take j) rfl ⟨rfl,by simp⟩ ?_
  rintro j ⟨i,v⟩ K hj hi ⟨hv,hR⟩ hK
  dsimp only at hi hv⊢
  subst hi hv
  dsimp only
  refine Br.dec (λIz=>?_) λIz=>?_
  ·have l6:j<a.2.1.length:=by omega
   have xB:j<b.2.1.length:=by omega
   refine ⟨_,Bu l6,_,Bu xB,_,Ab (hs4 _ (Ak l6)),⟨λhe=>?_,λhe=>?_⟩⟩
   ·show _=Px a b
    rw [hE]
    refine (Dr λfH=>?_).symm
    simp [fH,Ck] at he
   ·rw [Bg (by omega)]
    refine hK l6 _ rfl ⟨rfl,?_⟩
    simp only [Ck,Bool.not_eq_false',Nn] at he
    rw [Bb l6,Bb xB,hR]
    exact Lr (λx=>List.take j b.2.1++ [x]) he
  ·have sY:j=a.2.1.length:=by omega
   subst sY
   rw [Ap,h3,Ap] at hR
   show _=Px a b
   rw [hE]
   exact (Er hR).symm
theorem lO:Sound Tryz.prog 85 Iy:=
 Sound.Fb De (Av Vf Bh) mixed Tryz.func85 (by kernel_rfl) (by kernel_rfl) λx h=>tj x.1 x.2.1 h
theorem jO {t:TT} {room:Int} (h:roomy room) (h2: ¬Ml t room<0):roomy (Ml t room):=by
 have hm: ¬((-1:Int)<0)->False:= λh=>h (by decide)
 unfold Ml at h2⊢
 split
 ·rename_i h3;rw [Ab h3] at h2;exact (hm h2).elim
 ·rename_i h3;rw [Ag h3] at h2
  split
  ·rename_i h4;rw [Ab h4] at h2;exact (hm h2).elim
  ·rename_i h4;rw [Ag h4] at h2
   split
   ·rename_i h5;rw [Ab h5] at h2;exact (hm h2).elim
   ·rename_i h5
    exact bV (sk (bV h h3) h4) h5
theorem LN:roomy 1048576:=⟨by decide,by decide⟩
abbrev PP:Type:=Int×ByteArray×List (List Int)×Unit
noncomputable def Jv (p:List Int):Bool:=dec (1<=p.length/\p.length<=20/\DL p.length p p.length)
noncomputable def Gt (n:Int) (p:List Int):Bool:=dec ((p.length:Int)=n/\Jv p=true)
noncomputable def Sm (n:Int) (g:List (List Int)):Bool:=dec ((1<=n/\n<=20)/\g.length<=8/\ ∀p∈g,Gt n p=true)
def Hx {α:Type} (P:α->Bool):List α->Int->Int
 | [],_=> -1
 |y::r,i=>if P y=true then i else Hx P r (i+1)
abbrev tG1:Ty:= .clo 95 (.pair (.ptr tI) .unit)
def BC (s:ByteArray) (i:Nat):Prop:= ∃c:UInt8,s[i]?=some c/\65<=c.toNat/\c.toNat<=90/\ ∀k,k<i->s[k]?≠some c
noncomputable def oT (s:ByteArray) (i:Int):Bool:=dec (BC s i.toNat)
noncomputable def ff (s:ByteArray):Bool:=dec ((1<=s.size/\s.size<=8)/\ ∀j,j<s.size->BC s j)
noncomputable def Ds (p:PP):Bool:=dec (Sm p.1 p.2.2.1=true/\ff p.2.1=true/\p.2.1.size=p.2.2.1.length)
def Ek (p:PP):Prop:=p.2.1.size<=4294967296/\Hj p.2.2.1
noncomputable abbrev Tz:Spec:=Fb (.pair tL .unit) tI false true (λ_=>True) (λx=>(List.length x.1:Int))
noncomputable abbrev Hz:Spec:=Fb (.pair tL .unit) .bool false true (λx=>short x.1) (λx=>Jv x.1)
noncomputable abbrev Mz:Spec:=Fb (.pair tI (.pair dS .unit)) .bool false true (λx=>Hj x.2.1) (λx=>Sm x.1 x.2.1)
noncomputable abbrev lq:Spec:=Fb (.pair tL (.pair (.ptr tI) .unit)) .bool false true (λx=>short x.1) (λx=>!Gt x.2.1 x.1)
noncomputable abbrev AH:Spec:=Fb (.pair dS (.pair tG1 .unit)) tI false true (λx=>Hj x.1) (λx=>Hx (λp=>!Gt x.2.1.1 p) x.1 0)
noncomputable abbrev AE:Spec:=Fb (.pair dS (.pair tG1 .unit)) .bool false true (λx=>Hj x.1) (λx=>List.any x.1 (λp=>!Gt x.2.1.1 p))
noncomputable abbrev fw:Spec:=Fb (.pair .str (.pair tI .unit)) .bool false true (λx=>0<=x.2.1/\x.2.1<x.1.size/\x.1.size<=4294967296) (λx=>oT x.1 x.2.1)
noncomputable abbrev c5:Spec:=Fb (.pair .str .unit) .bool false true (λx=>x.1.size<=4294967296) (λx=>ff x.1)
noncomputable abbrev Ia:Spec:=Fb (.pair Ga .unit) .bool false true (λx=>Ek x.1) (λx=>Ds x.1)
def bp (p:PP) (room:Int):Int:=if room-p.2.1.size<0 then-1 else if Rl p.2.2.1 (room-p.2.1.size)<0 then-1 else Rl p.2.2.1 (room-p.2.1.size)
def se (a b:PP):Bool:=decide (a.1=b.1)&&(decide (a.2.1=b.2.1)&&decide (a.2.2.1=b.2.2.1))
noncomputable abbrev AI:Spec:=Fb (.pair Ga (.pair tI .unit)) tI false true (λx=>Ek x.1/\roomy x.2.1) (λx=>bp x.1 x.2.1)
noncomputable abbrev AJ:Spec:=Fb (.pair Ga .unit) Ga false true (λx=>Ek x.1) (λx=>x.1)
noncomputable abbrev AF:Spec:=Fb (.pair Ga (.pair Ga .unit)) .bool false true (λx=>Ek x.1) (λx=>se x.1 x.2.1)
noncomputable abbrev Vs:Spec:=Fb (.pair Ld (.pair tL .unit)) tI false true (λx=>Om x.1/\short x.2.1) (λx=>Hx (λp=>decide (p=x.2.1)) x.1.2.1 0)
theorem Aoe (xs:List Int) (P:Int->Prop):(P (↑xs.length:Int))=fnW En (look []) Tz Tryz.f78 (xs,()) P:=by kernel_rfl
theorem GC (p:List Int) (P:Bool->Prop):(∃(y2:Bool),Dn.fn ((↑p.length:Int),(1:Int),(20:Int),())=some y2/\Br (!y2) (P false) (Db (λ(v3:Int×PUnit) (k4:Int×PUnit->Prop)=>Br (decide (v3.1<(↑p.length:Int))) (∃(y5:Int),idx p v3.1=some y5/\ ∃(y6:Bool),Dn.fn (y5,(0:Int),IntKind.i64.wrap ((↑p.length:Int)-(1:Int)),())=some y6/\Br (!y6) (P false) (((0:Int)<=(0:Int)/\(0:Int)<=v3.1/\v3.1<=(↑p.length:Int))/\ ∃(y7:Int),idx p v3.1=some y7/\ ∃(y8:Bool),Rf.fn (List.drop (Int.toNat (0:Int)) (List.take v3.1.toNat p),y7,())=some y8/\Br y8 (P false) (k4 (IntKind.i64.wrap (v3.1+(1:Int)),())))) (P true)) ((0:Int),PUnit.unit)))=fnW En (look [(32,Dn),(102,Rf)]) Hz Tryz.f87 (p,()) P:=by kernel_rfl
theorem FX (p:List Int) (P:Bool->Prop):(∃(y2:Int),Tz.fn (p,())=some y2/\ ∃(y3:Bool),Dn.fn (y2,(1:Int),(20:Int),())=some y3/\Br (!y3) (P false) (Db (λ(v4:Int×Int×PUnit) (k5:Int×Int×PUnit->Prop)=>Br (decide (v4.2.1<(↑p.length:Int))) (∃(y6:Int),idx p v4.2.1=some y6/\ ∃(y7:Int),Tz.fn (p,())=some y7/\ ∃(y8:Bool),Dn.fn (y6,(0:Int),IntKind.i64.wrap (y7-(1:Int)),())=some y8/\Br (!y8) (P false) (¬y6<(0:Int)/\k5 (IntKind.i64.wrap (↑(BitVec.ofInt IntKind.i64.bits v4.1|||BitVec.ofInt IntKind.i64.bits (IntKind.i64.wrap ((1:Int)*(2:Int)^min y6.toNat IntKind.i64.bits))).toNat:Int),IntKind.i64.wrap (v4.2.1+(1:Int)),()))) (¬(↑p.length:Int)<(0:Int)/\P (v4.1==IntKind.i64.wrap (IntKind.i64.wrap ((1:Int)*(2:Int)^min (↑p.length:Int).toNat IntKind.i64.bits)-(1:Int))))) ((0:Int),(0:Int),PUnit.unit)))=fnW En (look [(39,Dn),(78,Tz)]) Hz Tryz.f92 (p,()) P:=by kernel_rfl
theorem GB (n:Int) (g:List (List Int)) (P:Bool->Prop):(∃(y3:Bool),Dn.fn (n,(1:Int),(20:Int),())=some y3/\Br (!y3) (P false) (Br (decide ((↑g.length:Int)>(8:Int))) (P false) (Db (λ(v4:Int×PUnit) (k5:Int×PUnit->Prop)=>Br (decide (v4.1<(↑g.length:Int))) (∃(y6:List Int),idx g v4.1=some y6/\Br ((↑y6.length:Int) !=n) (P false) (∃(y7:List Int),idx g v4.1=some y7/\ ∃(y8:Bool),Hz.fn (y7,())=some y8/\Br (!y8) (P false) (k5 (IntKind.i64.wrap (v4.1+(1:Int)),())))) (P true)) ((0:Int),PUnit.unit))))=fnW En (look [(32,Dn),(87,Hz)]) Mz Tryz.f82 (n,g,()) P:=by kernel_rfl
theorem Aiu (p:List Int) (n:Int) (P:Bool->Prop):(∃(y3:Int),Tz.fn (p,())=some y3/\Br (y3 !=n) (P true) (∃(y4:Bool),Hz.fn (p,())=some y4/\P !y4))=fnW En (look [(78,Tz),(92,Hz)]) lq Tryz.f95 (p,n,()) P:=by kernel_rfl
theorem Asp (g:List (List Int)) (n:Int×Unit) (P:Int->Prop):(Db (λ(v3:Int×PUnit) (k4:Int×PUnit->Prop)=>Br (decide (v3.1<(↑g.length:Int))) (∃(y5:List Int),idx g v3.1=some y5/\ ∃(y6:Bool),lq.fn (y5,n.1,())=some y6/\Br y6 (P v3.1) (k4 (IntKind.i64.wrap (v3.1+(1:Int)),()))) (P (-1:Int))) ((0:Int),PUnit.unit))=fnW En (look [(95,lq)]) AH Tryz.f107 (g,n,()) P:=by kernel_rfl
theorem Asl (g:List (List Int)) (n:Int×Unit) (P:Bool->Prop):(∃(y3:Int),AH.fn (g,n,())=some y3/\P (decide (y3>=(0:Int))))=fnW En (look [(107,AH)]) AE Tryz.f94 (g,n,()) P:=by kernel_rfl
theorem FW (n:Int) (g:List (List Int)) (P:Bool->Prop):(∃(y3:Bool),Dn.fn (n,(1:Int),(20:Int),())=some y3/\Br y3 (Br (decide ((↑g.length:Int)<=(8:Int))) (∃(y4:Bool),AE.fn (g,(n,()),())=some y4/\P !y4) (P false)) (P false))=fnW En (look [(39,Dn),(94,AE)]) Mz Tryz.f72 (n,g,()) P:=by kernel_rfl
theorem Afw (s:ByteArray) (i:Int) (P:Bool->Prop):((0:Int)<=i/\ ∃(y3:UInt8),s[i.toNat]?=some y3/\Br (decide ((↑y3.toNat:Int)<(65:Int))) (P false) ((0:Int)<=i/\ ∃(y4:UInt8),s[i.toNat]?=some y4/\Br (decide ((↑y4.toNat:Int)>(90:Int))) (P false) (Db (λ(v5:Int×PUnit) (k6:Int×PUnit->Prop)=>Br (decide (v5.1<i)) ((0:Int)<=v5.1/\ ∃(y7:UInt8),s[v5.1.toNat]?=some y7/\(0:Int)<=i/\ ∃(y8:UInt8),s[i.toNat]?=some y8/\Br ((↑y7.toNat:Int)==(↑y8.toNat:Int)) (P false) (k6 (IntKind.i64.wrap (v5.1+(1:Int)),()))) (P true)) ((0:Int),PUnit.unit))))=fnW En (look []) fw Tryz.f83 (s,i,()) P:=by kernel_rfl
theorem Aal (s:ByteArray) (P:Bool->Prop):(Db (λ(v2:Int×PUnit) (k3:Int×PUnit->Prop)=>Br (decide (v2.1<(↑s.size:Int))) ((0:Int)<=v2.1/\ ∃(y4:UInt8),s[v2.1.toNat]?=some y4/\ ∃(y5:Bool),Dn.fn (IntKind.i64.wrap (↑y4.toNat:Int),(65:Int),(90:Int),())=some y5/\Br (!y5) (P false) (Db (λ(v6:Int×PUnit) (k7:Int×PUnit->Prop)=>Br (decide (v6.1<v2.1)) ((0:Int)<=v6.1/\ ∃(y8:UInt8),s[v6.1.toNat]?=some y8/\(0:Int)<=v2.1/\ ∃(y9:UInt8),s[v2.1.toNat]?=some y9/\Br ((↑y8.toNat:Int)==(↑y9.toNat:Int)) (P false) (k7 (IntKind.i64.wrap (v6.1+(1:Int)),()))) (k3 (IntKind.i64.wrap (v2.1+(1:Int)),()))) ((0:Int),PUnit.unit))) (∃(y4:Bool),Dn.fn ((↑s.size:Int),(1:Int),(8:Int),())=some y4/\P y4)) ((0:Int),PUnit.unit))=fnW En (look [(39,Dn)]) c5 Tryz.f73 (s,()) P:=by kernel_rfl
abbrev mA:Type:=Int×Int×ByteArray×List (List Int)×PUnit
theorem GD (p:Int×ByteArray×List (List Int)×Unit) (P:Bool->Prop):(Br ((↑p.2.2.1.length:Int)==(0:Int)) (P false) (Br ((↑p.2.1.size:Int) !=(↑p.2.2.1.length:Int)) (P false) (∃(y2:Bool),Mz.fn (p.1,p.2.2.1,())=some y2/\Br (!y2) (P false) (Db (λ(v3:mA) (k4:mA->Prop)=>Br (decide (v3.1<(↑v3.2.2.1.size:Int))) (∃(y5:Bool),fw.fn (v3.2.2.1,v3.1,())=some y5/\Br (!y5) (P false) (k4 (IntKind.i64.wrap (v3.1+(1:Int)),v3.2.1,v3.2.2.1,v3.2.2.2.1,()))) (P true)) ((0:Int),p.1,p.2.1,p.2.2.1,PUnit.unit)))))=fnW En (look [(82,Mz),(83,fw)]) Ia Tryz.f56 (p,()) P:=by kernel_rfl
theorem FY (p:Int×ByteArray×List (List Int)×Unit) (P:Bool->Prop):(∃(y2:Bool),Mz.fn (p.1,p.2.2.1,())=some y2/\Br y2 (∃(y3:Bool),c5.fn (p.2.1,())=some y3/\Br y3 (P ((↑p.2.1.size:Int)==(↑p.2.2.1.length:Int))) (P false)) (P false))=fnW En (look [(72,Mz),(73,c5)]) Ia Tryz.f49 (p,()) P:=by kernel_rfl
theorem Ass (p:Int×ByteArray×List (List Int)×Unit) (room:Int) (P:Int->Prop):(Br (decide (IntKind.i64.wrap (room-(↑p.2.1.size:Int))<(0:Int))) (P (-1:Int)) (∃(y3:Int),gN.fn (p.2.2.1,IntKind.i64.wrap (room-(↑p.2.1.size:Int)),())=some y3/\Br (decide (y3<(0:Int))) (P (-1:Int)) (P y3)))=fnW En (look [(18,gN)]) AI Tryz.f4 (p,room,()) P:=by kernel_rfl
theorem Asu (p:Int×ByteArray×List (List Int)×Unit) (P:(Int×ByteArray×List (List Int)×Unit)->Prop):(∃(y2:List (List Int)),gO.fn (p.2.2.1,())=some y2/\P (p.1,p.2.1,y2,()))=fnW En (look [(22,gO)]) AJ Tryz.f7 (p,()) P:=by kernel_rfl
theorem Asn (a b:Int×ByteArray×List (List Int)×Unit) (P:Bool->Prop):(Br (a.1 !=b.1) (P false) (Br (!a.2.1.toList==b.2.1.toList) (P false) (∃(y3:Bool),Vr.fn (a.2.2.1,b.2.2.1,())=some y3/\Br (!y3) (P false) (P true))))=fnW En (look [(27,Vr)]) AF Tryz.f12 (a,b,()) P:=by kernel_rfl
abbrev sH:Type:=Int×List Int×List (List Int)×List Int×PUnit
theorem UC (t:List Int×List (List Int)×List Int×Unit) (xs:List Int) (P:Int->Prop):(Db (λ(v3:sH) (k4:sH->Prop)=>Br (decide (v3.1<(↑v3.2.2.1.length:Int))) (∃(y5:List Int),idx v3.2.2.1 v3.1=some y5/\ ∃(y6:Bool),Bq.fn (y5,xs,())=some y6/\Br y6 (P v3.1) (k4 (IntKind.i64.wrap (v3.1+(1:Int)),v3.2.1,v3.2.2.1,v3.2.2.2.1,()))) (P (-1:Int))) ((0:Int),t.1,t.2.1,t.2.2.1,PUnit.unit))=fnW En (look [(62,Bq)]) Vs Tryz.f60 (t,xs,()) P:=by kernel_rfl
theorem Ank (xs:List Int) (_:True):fnW En (look []) Tz Tryz.f78 (xs,()) (λ(z:Int)=>z=(xs.length:Int)):=Eq.mp (Aoe xs _) rfl
theorem gP:Sound Tryz.prog 78 Tz:=
 Sound.Fb De Bh mixed Tryz.func78 (by kernel_rfl) (by kernel_rfl) λx h=>Ank x.1 h
theorem FG {α:Type} [DecidableEq α]: ∀(l m:List α),l.Nodup->(∀x∈l,x∈m)->l.length<=m.length
 | [],m,_,_=>Ip _
 |a::l,m,hn,hs=>by
  have ha:a∈m:=hs a (Jc ..)
  have hn:=Cd.1 hn
  have:=FG l (m.erase a) hn.2 λx hx=>(List.mem_erase_of_ne (λ(e:x=a)=>hn.1 (by rw [<-e];exact hx))).2 (hs x (Ar _ hx))
  rw [List.length_erase_of_mem ha] at this
  have:0<m.length:=List.length_pos_of_mem ha
  simp only [Aw]
  omega
def upto (n:Nat):List Int:=(List.range n).map Int.ofNat
theorem TN (n:Nat):(upto n).Nodup:=by
 unfold upto
 exact List.Pairwise.map _ (λa b fH e=>fH (Int.ofNat.inj e)) List.nodup_range
theorem aH {n:Nat} {x:Int} :x∈upto n↔0<=x/\x<n:=by
 unfold upto
 simp only [Bi,Eo]
 constructor
 ·rintro ⟨a,ha,rfl⟩;exact ⟨Int.natCast_nonneg _,Int.ofNat_lt.2 ha⟩
 ·rintro ⟨h1,h2⟩;exact ⟨x.toNat,by omega,by simp only [Int.ofNat_eq_natCast];omega⟩
theorem kK (n:Nat):(upto n).length=n:=by simp [upto]
theorem jS {xs:List Int} (h: ∀j (hj:j<xs.length),xs[j]∉xs.take j):xs.Nodup:=by
 refine Fh.2 λi j hi hj jC e=>h j hj ?_
 rw [<-e]
 exact List.mem_take_iff_getElem.2 ⟨i,by omega,rfl⟩
theorem xo {xs:List Int} (h:xs.Nodup): ∀j (hj:j<xs.length),xs[j]∉xs.take j:=by
 intro j hj hm
 obtain ⟨i,hi,e⟩:=List.mem_take_iff_getElem.1 hm
 exact Fh.1 h i j (by omega) hj (by omega) e
theorem dX {xs:List Int} (h: ∀x∈xs,0<=x/\x<xs.length):(∀k:Nat,k<xs.length->(k:Int)∈xs)↔ ∀j (hj:j<xs.length),xs[j]∉xs.take j:=by
 constructor
 ·intro ha j hj hm
  have h1:=FG (upto xs.length) (xs.take j++xs.drop (j+1)) (TN _) λx hx=>by
   obtain ⟨h1,h2⟩:=aH.1 hx
   have hx:=ha x.toNat (by omega)
   rw [show ((x.toNat:Nat):Int)=x by omega] at hx
   rw [<-Io j xs,Az,Co hj,Be] at hx
   rcases hx with hx|rfl|hx
   ·exact Bd _ hx
   ·exact Bd _ hm
   ·exact Bx _ hx
  rw [kK,Ax,Cq,List.length_drop] at h1
  omega
 ·intro hn k hk
  refine Bw λhc=>?_
  have h1:=FG xs ((upto xs.length).erase (k:Int)) (jS hn) λx hx=>by
   refine (List.mem_erase_of_ne λ(e:x=(k:Int))=>hc (by rw [<-e];exact hx)).2 (aH.2 (h x hx))
  rw [List.length_erase_of_mem (aH.2 ⟨by omega,by omega⟩),kK] at h1
  omega
def mask (xs:List Int):Nat:=xs.foldl (λm x=>m|||2^x.toNat) 0
theorem YM (xs:List Int) (x:Int):mask (xs++ [x])=mask xs|||2^x.toNat:=by simp [mask]
theorem DH (xs:List Int) (k:Nat): ∀a:Nat,(xs.foldl (λm x=>m|||2^x.toNat) a).testBit k=(a.testBit k||xs.any λx=>decide (x.toNat=k)):=by
 induction xs with
 |nil=>simp
 |cons x xs ih=>
  intro a
  rw [Hr,ih,Nat.testBit_or,Nat.testBit_two_pow,List.any_cons,Bool.or_assoc]
theorem vY (xs:List Int) (k:Nat):(mask xs).testBit k=xs.any λx=>decide (x.toNat=k):=by
 unfold mask
 rw [DH,Nat.zero_testBit,Pq]
theorem Aht {xs:List Int} {n:Nat} (h: ∀x∈xs,x.toNat<n):mask xs<2^n:=by
 refine Nat.lt_pow_two_of_testBit _ λk hk=>?_
 rw [vY]
 refine Jt.2 λht=>?_
 obtain ⟨x,hx,he⟩:=Hq.1 ht
 have:=h x hx
 have:=Gx he
 omega
theorem zN {xs:List Int} (h: ∀x∈xs,0<=x/\x<xs.length):mask xs=2^xs.length-1↔ ∀k:Nat,k<xs.length->(k:Int)∈xs:=by
 constructor
 ·intro e k hk
  have h1:=vY xs k
  rw [e,Nat.testBit_two_pow_sub_one,Er hk] at h1
  obtain ⟨x,hx,he⟩:=Hq.1 h1.symm
  have:=(h x hx).1
  have:=Gx he
  have e:x=(k:Int):=by omega
  exact e▸hx
 ·intro ha
  refine Nat.eq_of_testBit_eq λk=>?_
  rw [vY,Nat.testBit_two_pow_sub_one]
  by_cases hk:k<xs.length
  ·rw [Er hk]
   exact Hq.2 ⟨k,ha k hk,by simp⟩
  ·rw [Dr hk]
   refine Jt.2 λht=>?_
   obtain ⟨x,hx,he⟩:=Hq.1 ht
   have:=h x hx
   have:=Gx he
   omega
theorem Ahz {m:Nat} {x:Int} (hm:m<2^20) (h0:0<=x) (h1:x<20):
  IntKind.i64.wrap (((BitVec.ofInt IntKind.i64.bits (m:Int)|||BitVec.ofInt IntKind.i64.bits (IntKind.i64.wrap ((1:Int)*(2:Int)^min x.toNat IntKind.i64.bits))).toNat:Nat):Int)=((m|||2^x.toNat:Nat):Int):=by
 have hx:(2:Nat)^x.toNat<2^20:=Nat.pow_lt_pow_right (by omega) (by omega)
 have e1:min x.toNat IntKind.i64.bits=x.toNat:=by show min x.toNat 64=_;omega
 have e2:(1:Int)*(2:Int)^x.toNat=((2^x.toNat:Nat):Int):=by rw [Int.one_mul];exact (Int.natCast_pow 2 _).symm
 rw [e1,e2,Di (n:=((2^x.toNat:Nat):Int)) (by have:(0:Int)<=((2^x.toNat:Nat):Int):=Int.natCast_nonneg _;omega) (by omega)]
 show IntKind.i64.wrap (((BitVec.ofInt 64 (m:Int)|||BitVec.ofInt 64 ((2^x.toNat:Nat):Int)).toNat:Nat):Int)=_
 rw [BitVec.ofInt_natCast,BitVec.ofInt_natCast,BitVec.toNat_or,BitVec.toNat_ofNat,BitVec.toNat_ofNat,Nat.mod_eq_of_lt (by omega),Nat.mod_eq_of_lt (by omega)]
 have:=Nat.or_lt_two_pow hm hx
 exact Di (by omega) (by omega)
theorem DU (p:List Int) (h:short p):fnW En (look [(32,Dn),(102,Rf)]) Hz Tryz.f87 (p,()) (λ(z:Bool)=>z=Jv p):=by
 have hs:=h
 unfold short at h
 refine Eq.mp (GC p _) ⟨_,Ab trivial,⟨λhp=>?_,λhp=>?_⟩⟩
 ·have hp:=Fc hp
  rw [Gb] at hp
  dsimp only at hp
  exact Dm λhh=>hp ⟨by omega,by omega⟩
 ·have hp:=Hg hp
  rw [Gb] at hp
  dsimp only at hp
  refine Bf p.length (λv=>v.1) (λj _=>DL p.length p j) rfl (λj _ hj=>absurd hj (Dq _)) ?_
  rintro j ⟨i,⟨⟩⟩ K hj hi hR hK
  dsimp only at hi⊢
  subst hi
  refine Br.dec (λhl=>?_) λhl=>?_
  ·have hl:j<p.length:=by omega
   refine ⟨_,Bu hl,_,Ab trivial,⟨λhq=>?_,λhq=>?_⟩⟩
   ·have hq:=Fc hq
    rw [Gb,Di (by omega) (by omega)] at hq
    exact Dm λhh=>hq ⟨(hh.2.2 j hl hl).1,(hh.2.2 j hl hl).2.1⟩
   ·have hq:=Hg hq
    rw [Gb,Di (by omega) (by omega)] at hq
    refine ⟨⟨by omega,by omega,by omega⟩,_,Bu hl,?_⟩
    rw [show (Int.toNat 0)=0 from rfl,Dp,Ai]
    refine ⟨_,Ab (SP hs j),⟨λhc=>?_,λhc=>?_⟩⟩
    ·have hc:decide (p[j]∈p.take j)=true:=hc
     rw [Je] at hc
     exact Dm λhh=>(hh.2.2 j hl hl).2.2 hc
    ·have hc:decide (p[j]∈p.take j)=false:=hc
     rw [decide_eq_false_iff_not] at hc
     rw [Bg (by omega)]
     exact hK hl _ rfl (Agt hl hR hq.1 hq.2 hc)
  ·have:j=p.length:=by omega
   subst this
   exact Pd ⟨by omega,by omega,hR⟩
theorem Tk:Sound Tryz.prog 87 Hz:=
 Sound.Fb De (Av al (Av px Bh)) mixed Tryz.func87 (by kernel_rfl) (by kernel_rfl) λx h=>DU x.1 h
theorem DO (p:List Int) (h:short p):fnW En (look [(39,Dn),(78,Tz)]) Hz Tryz.f92 (p,()) (λ(z:Bool)=>z=Jv p):=by
 unfold short at h
 refine Eq.mp (FX p _) ⟨_,Ab trivial,_,Ab trivial,⟨λhp=>?_,λhp=>?_⟩⟩
 ·have hp:=Fc hp
  rw [Gb] at hp
  dsimp only at hp
  exact Dm λhh=>hp ⟨by omega,by omega⟩
 ·have hp:=Hg hp
  rw [Gb] at hp
  dsimp only at hp
  refine Bf p.length (λv=>v.2.1) (λj v=>v.1=(mask (p.take j):Int)/\ ∀x∈p.take j,0<=x/\x<p.length) rfl ⟨rfl,by simp⟩ ?_
  rintro j ⟨m,i,⟨⟩⟩ K hj hi ⟨hm,hR⟩ hK
  dsimp only at hi hm⊢
  subst hi hm
  refine Br.dec (λhl=>?_) λhl=>?_
  ·have hl:j<p.length:=by omega
   refine ⟨_,Bu hl,_,Ab trivial,_,Ab trivial,⟨λhq=>?_,λhq=>?_⟩⟩
   ·have hq:=Fc hq
    rw [Gb] at hq
    dsimp only at hq
    rw [Di (by omega) (by omega)] at hq
    exact Dm λhh=>hq ⟨(hh.2.2 j hl hl).1,(hh.2.2 j hl hl).2.1⟩
   ·have hq:=Hg hq
    rw [Gb] at hq
    dsimp only at hq
    rw [Di (by omega) (by omega)] at hq
    refine ⟨by omega,?_⟩
    rw [Bg (by omega)]
    have hb:mask (p.take j)<2^20:=Aht λx hx=>by have:=hR x hx;omega
    refine hK hl _ rfl ⟨?_,?_⟩
    ·dsimp only
     rw [Ahz hb hq.1 (by omega),Bb hl,YM]
    ·rw [Bb hl]
     intro x hx
     rcases Az.1 hx with hx|hx
     ·exact hR x hx
     ·rw [Ad.1 hx];omega
  ·have:j=p.length:=by omega
   subst this
   rw [Ap] at hR⊢
   refine ⟨by omega,?_⟩
   have hx:(2:Nat)^p.length<=2^20:=Nat.pow_le_pow_right (by omega) (by omega)
   have XW:0<(2:Nat)^p.length:=Nat.two_pow_pos _
   have e1:min (p.length:Int).toNat IntKind.i64.bits=p.length:=by show min (p.length:Int).toNat 64=_;omega
   have e2:(1:Int)*(2:Int)^p.length=((2^p.length:Nat):Int):=by rw [Int.one_mul];exact (Int.natCast_pow 2 _).symm
   rw [e1,e2,Di (n:=((2^p.length:Nat):Int)) (by omega) (by omega),Di (by omega) (by omega)]
   have hE:((mask p:Int)==((2^p.length:Nat):Int)-1)=decide (mask p=2^p.length-1):=by
    rw [Bool.eq_iff_iff,Xw,Je]
    omega
   show ((mask p:Int)==((2^p.length:Nat):Int)-1)=Jv p
   rw [hE]
   by_cases hf:mask p=2^p.length-1
   ·rw [Er hf]
    have hn:=(dX hR).1 ((zN hR).1 hf)
    refine Pd ⟨by omega,by omega,λj hj _=>?_⟩
    have:=hR _ (Ak hj)
    exact ⟨this.1,by omega,hn j hj⟩
   ·rw [Dr hf]
    refine Dm λhh=>hf ((zN hR).2 ((dX hR).2 λj hj=>(hh.2.2 j hj hj).2.2))
theorem fD:Sound Tryz.prog 92 Hz:=
 Sound.Fb De (Av Xr (Av gP Bh)) mixed Tryz.func92 (by kernel_rfl) (by kernel_rfl) λx h=>DO x.1 h
theorem DT (n:Int) (g:List (List Int)) (h:Hj g):fnW En (look [(32,Dn),(87,Hz)]) Mz Tryz.f82 (n,g,()) (λ(z:Bool)=>z=Sm n g):=by
 obtain ⟨h,h4⟩:=h
 refine Eq.mp (GB n g _) ⟨_,Ab trivial,⟨λhp=>?_,λhp=>?_⟩⟩
 ·have hp:=Fc hp
  rw [Gb] at hp
  exact Dm λhh=>hp hh.1
 ·have hp:=Hg hp
  rw [Gb] at hp
  refine Br.dec (λhg=>?_) λhg=>?_
  ·exact Dm λhh=>by have:=hh.2.1;omega
  ·refine Bf g.length (λv=>v.1) (λj _=> ∀p∈g.take j,Gt n p=true) rfl (by simp) ?_
   rintro j ⟨i,⟨⟩⟩ K hj hi hR hK
   dsimp only at hi⊢
   subst hi
   refine Br.dec (λhl=>?_) λhl=>?_
   ·have hl:j<g.length:=by omega
    have hm:g[j]∈g:=Ak hl
    refine ⟨_,Bu hl,⟨λhe=>?_,λhe=>?_⟩⟩
    ·simp only [Xx,ne_eq] at he
     exact Dm λhh=>he (Hv.1 (hh.2.2 _ hm)).1
    ·simp only [Hl] at he
     refine ⟨_,Bu hl,_,Ab (h4 _ hm),⟨λhq=>?_,λhq=>?_⟩⟩
     ·have hq:=Fc hq
      exact Dm λhh=>hq (Hv.1 (hh.2.2 _ hm)).2
     ·have hq:=Hg hq
      rw [Bg (by omega)]
      refine hK hl _ rfl ?_
      rw [Bb hl]
      intro x hx
      rcases Az.1 hx with hx|hx
      ·exact hR x hx
      ·rw [Ad.1 hx];exact Hv.2 ⟨he,hq⟩
   ·have:j=g.length:=by omega
    subst this
    rw [Ap] at hR
    exact Pd ⟨hp,by omega,hR⟩
theorem fE:Sound Tryz.prog 82 Mz:=
 Sound.Fb De (Av al (Av Tk Bh)) mixed Tryz.func82 (by kernel_rfl) (by kernel_rfl) λx h=>DT x.1 x.2.1 h
theorem Ai2 (p:List Int) (n:Int) (h:short p):fnW En (look [(78,Tz),(92,Hz)]) lq Tryz.f95 (p,n,()) (λ(z:Bool)=>z=!Gt n p):=by
 refine Eq.mp (Aiu p n _) ⟨_,Ab trivial,⟨λhe=>?_,λhe=>⟨_,Ab h,?_⟩⟩⟩
 ·simp only [Xx,ne_eq] at he
  have:Gt n p=false:=Ags.2 λhh=>he hh.1
  rw [this];rfl
 ·simp only [Hl] at he
  show (!Jv p)=_
  congr 1
  cases hp:Jv p with
  |true=>exact Pd ⟨he,hp⟩
  |false=>exact Dm λhh=>by rw [hh.2] at hp;cases hp
theorem LY:Sound Tryz.prog 95 lq:=
 Sound.Fb De (Av gP (Av fD Bh)) mixed Tryz.func95 (by kernel_rfl) (by kernel_rfl) λx h=>Ai2 x.1 x.2.1 h
theorem sf {α:Type} (P:α->Bool): ∀(l:List α) (i:Int),0<=i->(0<=Hx P l i↔l.any P=true)
 | [],i,_=>by simp [Hx]
 |y::r,i,h=>by
  simp only [Hx,List.any_cons,Kj]
  split
  ·rename_i hy;simp [hy,h]
  ·rename_i hy;rw [sf P r (i+1) (by omega)];simp [hy]
theorem Arz (g:List (List Int)) (n:Int×Unit) (h:Hj g):fnW En (look [(95,lq)]) AH Tryz.f107 (g,n,()) (λ(z:Int)=>z=Hx (λp=>!Gt n.1 p) g 0):=by
 obtain ⟨h,h4⟩:=h
 refine Eq.mp (Asp g n _) ?_
 refine Bf g.length (λv=>v.1) (λj _=>Hx (λp=>!Gt n.1 p) (g.drop j) j=Hx (λp=>!Gt n.1 p) g 0) rfl (by simp) ?_
 rintro j ⟨i,⟨⟩⟩ K hj hi hR hK
 dsimp only at hi⊢
 subst hi
 refine Br.dec (λhl=>?_) λhl=>?_
 ·have hl:j<g.length:=by omega
  rw [Co hl] at hR
  simp only [Hx] at hR
  refine ⟨_,Bu hl,_,Ab (h4 _ (Ak hl)),⟨λhe=>?_,λhe=>?_⟩⟩
  ·have he:(!Gt n.1 g[j])=true:=he
   rw [Ab he] at hR
   exact hR
  ·have he:(!Gt n.1 g[j])=false:=he
   rw [Ag (by rw [he];decide)] at hR
   rw [Bg (by omega)]
   exact hK hl _ rfl (by push_cast;exact hR)
 ·have:j=g.length:=by omega
  subst this
  rw [Is] at hR
  exact hR
theorem Aa0:Sound Tryz.prog 107 AH:=
 Sound.Fb De (Av LY Bh) mixed Tryz.func107 (by kernel_rfl) (by kernel_rfl) λx h=>Arz x.1 x.2.1 h
theorem Arv (g:List (List Int)) (n:Int×Unit) (h:Hj g):fnW En (look [(107,AH)]) AE Tryz.f94 (g,n,()) (λ(z:Bool)=>z=List.any g (λp=>!Gt n.1 p)):=by
 refine Eq.mp (Asl g n _) ⟨_,Ab h,?_⟩
 rw [Bool.eq_iff_iff,Je]
 exact sf _ g 0 (Oe 0)
theorem ZY:Sound Tryz.prog 94 AE:=
 Sound.Fb De (Av Aa0 Bh) mixed Tryz.func94 (by kernel_rfl) (by kernel_rfl) λx h=>Arv x.1 x.2.1 h
theorem DN (n:Int) (g:List (List Int)) (h:Hj g):fnW En (look [(39,Dn),(94,AE)]) Mz Tryz.f72 (n,g,()) (λ(z:Bool)=>z=Sm n g):=by
 refine Eq.mp (FW n g _) ⟨_,Ab trivial,⟨λhp=>?_,λhp=>?_⟩⟩
 ·have hp:Pj n 1 20=true:=hp
  rw [Gb] at hp
  refine Br.dec (λhl=>⟨_,Ab h,?_⟩) λhl=>?_
  ·show (!List.any g (λp=>!Gt n p))=Sm n g
   cases ha:List.any g (λp=>!Gt n p) with
   |true=>
    obtain ⟨p,zA,VJ⟩:=Hq.1 ha
    exact Dm λhh=>by rw [hh.2.2 p zA] at VJ;cases VJ
   |false=>
    refine Pd ⟨hp,by omega,λp hm=>?_⟩
    have:=List.any_eq_false.1 ha p hm
    simpa using this
  ·exact Dm λhh=>by have:=hh.2.1;omega
 ·refine Dm λhh=>?_
  have:Pj n 1 20=true:=Gb.2 hh.1
  have hp:Pj n 1 20=false:=hp
  rw [this] at hp;cases hp
theorem ri:Sound Tryz.prog 72 Mz:=
 Sound.Fb De (Av Xr (Av ZY Bh)) mixed Tryz.func72 (by kernel_rfl) (by kernel_rfl) λx h=>DN x.1 x.2.1 h
theorem Nb {s:ByteArray} {k:Nat} (h:k<s.size):s[k]?=some s[k]:=getElem?_pos s k h
theorem Aed (s:ByteArray) (i:Int) (h:0<=i/\i<s.size/\s.size<=4294967296):fnW En (look []) fw Tryz.f83 (s,i,()) (λ(z:Bool)=>z=oT s i):=by
 obtain ⟨h1,h2,h3⟩:=h
 have hi:i.toNat<s.size:=by omega
 refine Eq.mp (Afw s i _) ⟨h1,_,Nb hi,Br.dec (λhq=>?_) λhq=>⟨h1,_,Nb hi,Br.dec (λhr=>?_) λhr=>?_⟩⟩
 ·refine Dm λ⟨c,hc,hc1,_⟩=>?_
  rw [Nb hi] at hc;cases hc;omega
 ·refine Dm λ⟨c,hc,_,hc1,_⟩=>?_
  rw [Nb hi] at hc;cases hc;omega
 ·refine Bf i.toNat (λv=>v.1) (λj _=> ∀k,k<j->s[k]?≠some s[i.toNat]) rfl (λk hk=>absurd hk (Dq _)) ?_
  rintro j ⟨i',⟨⟩⟩ K hj oD hR hK
  dsimp only at oD⊢
  subst oD
  refine Br.dec (λhl=>?_) λhl=>?_
  ·have hl:j<i.toNat:=by omega
   have hj:j<s.size:=by omega
   rw [Ai]
   refine ⟨by omega,_,Nb hj,h1,_,Nb hi,⟨λhe=>?_,λhe=>?_⟩⟩
   ·simp only [Xw,Gi] at he
    refine Dm λ⟨c,hc,_,_,hc1⟩=>?_
    rw [Nb hi] at hc;cases hc
    exact hc1 j hl (by rw [Nb hj,UInt8.toNat_inj.1 he])
   ·simp only [Nv,ne_eq,Gi] at he
    rw [Bg (by omega)]
    refine hK hl _ rfl λk hk=>?_
    by_cases e:k=j
    ·subst e
     rw [Nb hj]
     exact λe=>he (by rw [Ba e])
    ·exact hR k (by omega)
  ·have:j=i.toNat:=by omega
   subst this
   exact Pd ⟨_,Nb hi,by omega,by omega,hR⟩
theorem EV:Sound Tryz.prog 83 fw:=
 Sound.Fb De Bh mixed Tryz.func83 (by kernel_rfl) (by kernel_rfl) λx h=>Aed x.1 x.2.1 h
theorem YW (s:ByteArray) (h:s.size<=4294967296):fnW En (look [(39,Dn)]) c5 Tryz.f73 (s,()) (λ(z:Bool)=>z=ff s):=by
 refine Eq.mp (Aal s _) ?_
 refine Bf s.size (λv=>v.1) (λj _=> ∀k,k<j->BC s k) rfl (λk hk=>absurd hk (Dq _)) ?_
 rintro j ⟨i,⟨⟩⟩ K hj hi hR hK
 dsimp only at hi⊢
 subst hi
 refine Br.dec (λhl=>?_) λhl=>?_
 ·have hl:j<s.size:=by omega
  rw [Ai]
  have hb:=(s[j]).toNat_lt
  refine ⟨by omega,_,Nb hl,_,Ab trivial,⟨λhq=>?_,λhq=>?_⟩⟩
  ·have hq:=Fc hq
   rw [Gb] at hq
   dsimp only at hq
   rw [Di (by omega) (by omega)] at hq
   refine Dm λhh=>?_
   obtain ⟨c,hc,hc1,hc2,_⟩:=hh.2 j hl
   rw [Nb hl] at hc;cases hc
   exact hq ⟨by omega,by omega⟩
  ·have hq:=Hg hq
   rw [Gb] at hq
   dsimp only at hq
   rw [Di (by omega) (by omega)] at hq
   refine Bf j (λv=>v.1) (λm _=> ∀k,k<m->s[k]?≠some s[j]) rfl (λk hk=>absurd hk (Dq _)) ?_
   rintro m ⟨i',⟨⟩⟩ K' hm oD hR' hK'
   dsimp only at oD⊢
   subst oD
   refine Br.dec (λKp=>?_) λKp=>?_
   ·have Kp:m<j:=by omega
    have IQ:m<s.size:=by omega
    rw [Ai]
    refine ⟨by omega,_,Nb IQ,by omega,_,Nb hl,⟨λhe=>?_,λhe=>?_⟩⟩
    ·simp only [Xw,Gi] at he
     refine Dm λhh=>?_
     obtain ⟨c,hc,_,_,hc1⟩:=hh.2 j hl
     rw [Nb hl] at hc;cases hc
     exact hc1 m Kp (by rw [Nb IQ,UInt8.toNat_inj.1 he])
    ·simp only [Nv,ne_eq,Gi] at he
     rw [Bg (by omega)]
     refine hK' Kp _ rfl λk hk=>?_
     by_cases e:k=m
     ·subst e
      rw [Nb IQ]
      exact λe=>he (by rw [Ba e])
     ·exact hR' k (by omega)
   ·have:m=j:=by omega
    subst this
    rw [Bg (by omega)]
    refine hK hl _ rfl λk hk=>?_
    by_cases e:k=m
    ·subst e
     exact ⟨_,Nb hl,by omega,by omega,hR'⟩
    ·exact hR k (by omega)
 ·have:j=s.size:=by omega
  subst this
  refine ⟨_,Ab trivial,?_⟩
  show Pj s.size 1 8=_
  cases hr:Pj s.size 1 8 with
  |true=>rw [Gb] at hr;exact Pd ⟨by omega,hR⟩
  |false=>refine Dm λhh=>?_;rw [Gb.2 ⟨by omega,by omega⟩] at hr;cases hr
theorem yD:Sound Tryz.prog 73 c5:=
 Sound.Fb De (Av Xr Bh) mixed Tryz.func73 (by kernel_rfl) (by kernel_rfl) λx h=>YW x.1 h
theorem TO {p:PP} (h:Ds p=true):1<=p.1/\p.1<=20/\1<=p.2.2.1.length/\p.2.2.1.length<=8:=by
 obtain ⟨h1,h2,h3⟩:=Hv.1 h
 obtain ⟨h4,h5,_⟩:=Hv.1 h1
 obtain ⟨h6,_⟩:=Hv.1 h2
 omega
theorem DV (p:PP) (h:Ek p):fnW En (look [(82,Mz),(83,fw)]) Ia Tryz.f56 (p,()) (λ(z:Bool)=>z=Ds p):=by
 obtain ⟨hn,hg⟩:=h
 refine Eq.mp (GD p _) ⟨λh0=>?_,λh0=>⟨λh1=>?_,λh1=>⟨_,Ab hg,⟨λh2=>?_,λh2=>?_⟩⟩⟩⟩
 ·simp only [Xw] at h0
  exact Dm λhh=>by obtain ⟨_,h2,h3⟩:=hh;have:=(Hv.1 h2).1;omega
 ·simp only [Xx,ne_eq,Gi] at h1
  exact Dm λhh=>h1 hh.2.2
 ·have h2:=Fc h2
  exact Dm λhh=>h2 hh.1
 ·simp only [Nv,ne_eq] at h0
  simp only [Hl,Gi] at h1
  have h2:Sm p.1 p.2.2.1=true:=Hg h2
  refine Bf p.2.1.size (λv=>v.1) (λj v=>v.2=(p.1,p.2.1,p.2.2.1,())/\ ∀k,k<j->BC p.2.1 k) rfl ⟨rfl,λk hk=>absurd hk (Dq _)⟩ ?_
  rintro j ⟨i,v⟩ K hj hi ⟨hv,hR⟩ hK
  dsimp only at hi hv⊢
  subst hi hv
  dsimp only
  refine Br.dec (λhl=>?_) λhl=>?_
  ·have hl:j<p.2.1.size:=by omega
   refine ⟨_,Ab ⟨Int.natCast_nonneg j,Int.ofNat_lt.2 hl,hn⟩,⟨λhq=>?_,λhq=>?_⟩⟩
   ·have hq: ¬oT p.2.1 j=true:=Fc hq
    refine Dm λhh=>hq (Hv.2 ?_)
    rw [Ai]
    exact (Hv.1 hh.2.1).2 j hl
   ·have hq:oT p.2.1 j=true:=Hg hq
    have hq:=Hv.1 hq
    rw [Ai] at hq
    rw [Bg (by omega)]
    refine hK hl _ rfl ⟨rfl,λk hk=>?_⟩
    by_cases e:k=j
    ·subst e;exact hq
    ·exact hR k (by omega)
  ·have:j=p.2.1.size:=by omega
   subst this
   have:=(Hv.1 h2).2.1
   exact Pd ⟨h2,Hv.2 ⟨⟨by omega,by omega⟩,hR⟩,h1⟩
theorem Zs:Sound Tryz.prog 56 Ia:=
 Sound.Fb De (Av fE (Av EV Bh)) mixed Tryz.func56 (by kernel_rfl) (by kernel_rfl) λx h=>DV x.1 h
theorem DP (p:PP) (h:Ek p):fnW En (look [(72,Mz),(73,c5)]) Ia Tryz.f49 (p,()) (λ(z:Bool)=>z=Ds p):=by
 obtain ⟨hn,hg⟩:=h
 refine Eq.mp (FY p _) ⟨_,Ab hg,⟨λh1=>⟨_,Ab hn,⟨λh2=>?_,λh2=>?_⟩⟩,λh1=>?_⟩⟩
 ·have h1:Sm p.1 p.2.2.1=true:=h1
  have h2:ff p.2.1=true:=h2
  by_cases e:p.2.1.size=p.2.2.1.length
  ·rw [e,beq_self_eq_true];exact Pd ⟨h1,h2,e⟩
  ·rw [show ((p.2.1.size:Int)==(p.2.2.1.length:Int))=false from Nv.2 (by omega)];exact Dm λhh=>e hh.2.2
 ·have h2:ff p.2.1=false:=h2
  exact Dm λhh=>by rw [hh.2.1] at h2;cases h2
 ·have h1:Sm p.1 p.2.2.1=false:=h1
  exact Dm λhh=>by rw [hh.1] at h1;cases h1
theorem Zr:Sound Tryz.prog 49 Ia:=
 Sound.Fb De (Av ri (Av yD Bh)) mixed Tryz.func49 (by kernel_rfl) (by kernel_rfl) λx h=>DP x.1 h
theorem As2 (p:PP) (room:Int) (h:Ek p/\roomy room):fnW En (look [(18,gN)]) AI Tryz.f4 (p,room,()) (λ(z:Int)=>z=bp p room):=by
 obtain ⟨⟨h1,h2⟩,h3,h4⟩:=h
 refine Eq.mp (Ass p room _) ?_
 rw [Di (by omega) (by omega)]
 refine Br.dec (λhn=>?_) λhn=>⟨_,Ab ⟨h2,by dsimp only;omega,by dsimp only;omega⟩,Br.dec (λhm=>?_) λhm=>?_⟩
 ·simp only [bp,Ab hn]
 ·exact ((Ag hn).trans (Ab hm)).symm
 ·exact ((Ag hn).trans (Ag hm)).symm
theorem Aa2:Sound Tryz.prog 4 AI:=
 Sound.Fb De (Av x7 Bh) mixed Tryz.func4 (by kernel_rfl) (by kernel_rfl) λx h=>As2 x.1 x.2.1 h
theorem As4 (p:PP) (h:Ek p):fnW En (look [(22,gO)]) AJ Tryz.f7 (p,()) (λ(z:PP)=>z=p):=Eq.mp (Asu p _) ⟨_,Ab h.2,rfl⟩
theorem Aa3:Sound Tryz.prog 7 AJ:=
 Sound.Fb De (Av x9 Bh) mixed Tryz.func7 (by kernel_rfl) (by kernel_rfl) λx h=>As4 x.1 h
theorem HJ {a b:ByteArray} :(a.toList==b.toList)=decide (a=b):=by
 rw [Bool.eq_iff_iff,Xw,Je,ByteArray.toList_eq,ByteArray.toList_eq]
 exact ⟨λh=>ByteArray.ext (Array.toList_inj.1 h),λh=>by rw [h]⟩
theorem Arx (a b:PP) (h:Ek a):fnW En (look [(27,Vr)]) AF Tryz.f12 (a,b,()) (λ(z:Bool)=>z=se a b):=by
 refine Eq.mp (Asn a b _) ⟨λh1=>?_,λh1=>⟨λh2=>?_,λh2=>⟨_,Ab h.2,⟨λh3=>?_,λh3=>?_⟩⟩⟩⟩
 ·simp only [Xx,ne_eq] at h1
  unfold se
  rw [Dr h1];rfl
 ·rw [HJ] at h2
  unfold se
  cases hd:decide (a.2.1=b.2.1)<;>simp_all
 ·have h3:(!Sk a.2.2.1 b.2.2.1)=true:=h3
  simp only [Sk,Ei] at h3
  unfold se
  rw [h3];simp
 ·have h3:(!Sk a.2.2.1 b.2.2.1)=false:=h3
  rw [HJ] at h2
  simp only [Sk] at h3
  simp only [Hl] at h1
  unfold se
  simp_all
theorem ZZ:Sound Tryz.prog 12 AF:=
 Sound.Fb De (Av wW Bh) mixed Tryz.func12 (by kernel_rfl) (by kernel_rfl) λx h=>Arx x.1 x.2.1 h
theorem QW (p:PP):se p p=true:=by simp [se]
theorem RW (t:TT) (xs:List Int) (h:Om t/\short xs):fnW En (look [(62,Bq)]) Vs Tryz.f60 (t,xs,()) (λ(z:Int)=>z=Hx (λp=>decide (p=xs)) t.2.1 0):=by
 obtain ⟨⟨_,⟨h,h4⟩,_⟩,_⟩:=h
 refine Eq.mp (UC t xs _) ?_
 refine Bf t.2.1.length (λv=>v.1) (λj v=>v.2=(t.1,t.2.1,t.2.2.1,())/\Hx (λp=>decide (p=xs)) (t.2.1.drop j) j=Hx (λp=>decide (p=xs)) t.2.1 0) rfl ⟨rfl,by simp⟩ ?_
 rintro j ⟨i,v⟩ K hj hi ⟨hv,hR⟩ hK
 dsimp only at hi hv⊢
 subst hi hv
 dsimp only
 refine Br.dec (λhl=>?_) λhl=>?_
 ·have hl:j<t.2.1.length:=by omega
  rw [Co hl] at hR
  simp only [Hx] at hR
  refine ⟨_,Bu hl,_,Ab (h4 _ (Ak hl)),⟨λhe=>?_,λhe=>?_⟩⟩
  ·have he:decide (t.2.1[j]=xs)=true:=he
   rw [Ab he] at hR
   exact hR
  ·have he:decide (t.2.1[j]=xs)=false:=he
   rw [Ag (by rw [he];decide)] at hR
   rw [Bg (by omega)]
   exact hK hl _ rfl ⟨rfl,by push_cast;exact hR⟩
 ·have:j=t.2.1.length:=by omega
  subst this
  rw [Is] at hR
  exact hR
theorem x8:Sound Tryz.prog 60 Vs:=
 Sound.Fb De (Av Vf Bh) mixed Tryz.func60 (by kernel_rfl) (by kernel_rfl) λx h=>RW x.1 x.2.1 h
noncomputable abbrev fy:Spec:=Fb (.pair tI (.pair tL .unit)) .bool false true (λx=>short x.2.1) (λx=>Gt x.1 x.2.1)
noncomputable abbrev Zj:Spec:=Fb (.pair Ga (.pair tL .unit)) .bool false true (λx=>short x.2.1) (λx=>Gt x.1.1 x.2.1)
noncomputable abbrev Nr:Spec:=Fb (.pair Ga (.pair tL .unit)) .bool false true (λx=>Ek x.1/\short x.2.1) (λx=>Ds x.1&&Gt x.1.1 x.2.1)
theorem Afx (n:Int) (s:List Int) (P:Bool->Prop):(Br ((↑s.length:Int)==n) (∃(y3:Bool),Hz.fn (s,())=some y3/\P y3) (P false))=fnW En (look [(87,Hz)]) fy Tryz.f86 (n,s,()) P:=by kernel_rfl
theorem xw (p:Int×ByteArray×List (List Int)×Unit) (s:List Int) (P:Bool->Prop):(∃(y3:Int),Tz.fn (s,())=some y3/\Br (y3==p.1) (∃(y4:Bool),Hz.fn (s,())=some y4/\P y4) (P false))=fnW En (look [(78,Tz),(92,Hz)]) Zj Tryz.f67 (p,s,()) P:=by kernel_rfl
theorem z7 (p:Int×ByteArray×List (List Int)×Unit) (s:List Int) (P:Bool->Prop):(∃(y3:Bool),Ia.fn ((p.1,p.2.1,p.2.2.1,()),())=some y3/\Br y3 (∃(y4:Bool),fy.fn (p.1,s,())=some y4/\P y4) (P false))=fnW En (look [(56,Ia),(86,fy)]) Nr Tryz.f58 (p,s,()) P:=by kernel_rfl
theorem yW (p:Int×ByteArray×List (List Int)×Unit) (s:List Int) (P:Bool->Prop):(∃(y3:Bool),Ia.fn ((p.1,p.2.1,p.2.2.1,()),())=some y3/\Br y3 (∃(y4:Bool),Zj.fn ((p.1,p.2.1,p.2.2.1,()),s,())=some y4/\P y4) (P false))=fnW En (look [(49,Ia),(67,Zj)]) Nr Tryz.f46 (p,s,()) P:=by kernel_rfl
theorem Aee (n:Int) (s:List Int) (h:short s):fnW En (look [(87,Hz)]) fy Tryz.f86 (n,s,()) (λ(z:Bool)=>z=Gt n s):=by
 refine Eq.mp (Afx n s _) ⟨λhe=>⟨_,Ab h,?_⟩,λhe=>?_⟩
 ·simp only [Xw] at he
  show Jv s=_
  cases hp:Jv s with
  |true=>exact Pd ⟨he,hp⟩
  |false=>exact Dm λhh=>by rw [hh.2] at hp;cases hp
 ·simp only [Nv,ne_eq] at he
  exact Dm λhh=>he hh.1
theorem EW:Sound Tryz.prog 86 fy:=
 Sound.Fb De (Av Tk Bh) mixed Tryz.func86 (by kernel_rfl) (by kernel_rfl) λx h=>Aee x.1 x.2.1 h
theorem wg (p:PP) (s:List Int) (h:short s):fnW En (look [(78,Tz),(92,Hz)]) Zj Tryz.f67 (p,s,()) (λ(z:Bool)=>z=Gt p.1 s):=by
 refine Eq.mp (xw p s _) ⟨_,Ab trivial,⟨λhe=>⟨_,Ab h,?_⟩,λhe=>?_⟩⟩
 ·simp only [Xw] at he
  show Jv s=_
  cases hp:Jv s with
  |true=>exact Pd ⟨he,hp⟩
  |false=>exact Dm λhh=>by rw [hh.2] at hp;cases hp
 ·simp only [Nv,ne_eq] at he
  exact Dm λhh=>he hh.1
theorem nG:Sound Tryz.prog 67 Zj:=
 Sound.Fb De (Av gP (Av fD Bh)) mixed Tryz.func67 (by kernel_rfl) (by kernel_rfl) λx h=>wg x.1 x.2.1 h
theorem yq (p:PP) (s:List Int) (h:Ek p/\short s):fnW En (look [(56,Ia),(86,fy)]) Nr Tryz.f58 (p,s,()) (λ(z:Bool)=>z=(Ds p&&Gt p.1 s)):=by
 refine Eq.mp (z7 p s _) ⟨_,Ab h.1,⟨λhe=>⟨_,Ab h.2,?_⟩,λhe=>?_⟩⟩
 ·have he:Ds p=true:=he
  rw [he];rfl
 ·have he:Ds p=false:=he
  rw [he];rfl
theorem pD:Sound Tryz.prog 58 Nr:=
 Sound.Fb De (Av Zs (Av EW Bh)) mixed Tryz.func58 (by kernel_rfl) (by kernel_rfl) λx h=>yq x.1 x.2.1 h
theorem yj (p:PP) (s:List Int) (h:Ek p/\short s):fnW En (look [(49,Ia),(67,Zj)]) Nr Tryz.f46 (p,s,()) (λ(z:Bool)=>z=(Ds p&&Gt p.1 s)):=by
 refine Eq.mp (yW p s _) ⟨_,Ab h.1,⟨λhe=>⟨_,Ab h.2,?_⟩,λhe=>?_⟩⟩
 ·have he:Ds p=true:=he
  rw [he];rfl
 ·have he:Ds p=false:=he
  rw [he];rfl
theorem py:Sound Tryz.prog 46 Nr:=
 Sound.Fb De (Av Zr (Av nG Bh)) mixed Tryz.func46 (by kernel_rfl) (by kernel_rfl) λx h=>yj x.1 x.2.1 h
def Kb (xs:List Int) (i:Int):Int:=xs.getD i.toNat 0
def Al (p q:List Int):List Int:=p.map (Kb q)
def du (f:Nat->Nat) (g:Nat->Int) (m:Nat) (init:List Int):List Int:=(List.range m).foldl (λ(out:List Int) (i:Nat)=>out.set (f i) (g i)) init
def Bl (p:List Int):List Int:=du (λi=>(Kb p (i:Int)).toNat) (λi=>(i:Int)) p.length (List.replicate p.length 0)
def Mt (n:Nat) (p:List Int):Prop:= ∀y∈p,0<=y/\y<n
noncomputable abbrev Np:Spec:=Fb (.pair tL (.pair tL .unit)) tL false true (λx=>List.length x.1<=20/\Mt (List.length x.2.1) x.1) (λx=>Al x.1 x.2.1)
noncomputable abbrev Fp:Spec:=Fb (.pair tL .unit) tL false true (λx=>List.length x.1<=20/\Mt (List.length x.1) x.1) (λx=>Bl x.1)
noncomputable abbrev Zg:Spec:=Fb (.pair tI .unit) tL false true (λx=>0<=x.1/\x.1<=20) (λx=>upto x.1.toNat)
noncomputable abbrev Rg:Spec:=Fb (.pair tL .unit) tL false true (λx=>Jv x.1=true) (λx=>Bl x.1)
def Bm (g:List (List Int)) (l:Int):List Int:=if l>0 then g.getD (l-1).toNat [] else Bl (g.getD (-l-1).toNat [])
def Iu (n:Int) (l:Int):Prop:=l≠0/\ -n<=l/\l<=n
noncomputable abbrev Lp:Spec:=Fb (.pair dS (.pair tI .unit)) tL false false (λx=>Iu (List.length x.1) x.2.1/\List.length x.1<=8/\ ∀p∈x.1,Jv p=true) (λx=>Bm x.1 x.2.1)
def Ay (n:Nat):List Int:=(List.range n).flatMap λ(k:Nat)=> [(k:Int)+1,-((k:Int)+1)]
noncomputable abbrev Mm:Spec:=Fb (.pair tI .unit) tL false true (λx=>0<=x.1/\x.1<=8) (λx=>Ay x.1.toNat)
noncomputable abbrev Mx:Spec:=Fb (.pair Ga (.pair tL (.pair tI .unit))) tL false true (λx=>Ds x.1=true/\List.length x.2.1<=20/\(∀y∈x.2.1,0<=y/\y<x.1.1)/\Iu (List.length x.1.2.2.1) x.2.2.1) (λx=>Al x.2.1 (Bm x.1.2.2.1 x.2.2.1))
theorem yU (p q:List Int) (P:List Int->Prop):(((0:Int)<=(↑p.length:Int)/\(↑p.length:Int)<(↑Cr:Int)+(1:Int))/\(↑p.length:Int)=(↑p.length:Int)/\0=0/\(List.replicate (↑p.length:Int).toNat (Int.ofNat (nat_lit 0))).length=(List.replicate (↑p.length:Int).toNat (Int.ofNat (nat_lit 0))).length/\Db (λ(v3:Int×List Int×PUnit) (k4:Int×List Int×PUnit->Prop)=>Br (decide (v3.1<(↑p.length:Int))) (∃(y5:Int),idx p v3.1=some y5/\ ∃(y6:Int),idx q y5=some y6/\((0:Int)<=v3.1/\v3.1<(↑v3.2.1.length:Int))/\0+v3.1.toNat<v3.2.1.length/\0=0/\v3.2.1.length=(v3.2.1.set (0+v3.1.toNat) y6).length/\k4 (IntKind.i64.wrap (v3.1+(1:Int)),v3.2.1.set (0+v3.1.toNat) y6,())) (P (List.take v3.2.1.length (List.drop 0 v3.2.1)))) ((0:Int),List.replicate (↑p.length:Int).toNat (Int.ofNat (nat_lit 0)),PUnit.unit))=fnW En (look []) Np Tryz.f70 (p,q,()) P:=by kernel_rfl
theorem yV (p:List Int) (P:List Int->Prop):(((0:Int)<=(↑p.length:Int)/\(↑p.length:Int)<(↑Cr:Int)+(1:Int))/\(↑p.length:Int)=(↑p.length:Int)/\0=0/\(List.replicate (↑p.length:Int).toNat (Int.ofNat (nat_lit 0))).length=(List.replicate (↑p.length:Int).toNat (Int.ofNat (nat_lit 0))).length/\Db (λ(v2:Int×List Int×PUnit) (k3:Int×List Int×PUnit->Prop)=>Br (decide (v2.1<(↑p.length:Int))) (∃(y4:Int),idx p v2.1=some y4/\((0:Int)<=y4/\y4<(↑v2.2.1.length:Int))/\0+y4.toNat<v2.2.1.length/\0=0/\v2.2.1.length=(v2.2.1.set (0+y4.toNat) v2.1).length/\k3 (IntKind.i64.wrap (v2.1+(1:Int)),v2.2.1.set (0+y4.toNat) v2.1,())) (P (List.take v2.2.1.length (List.drop 0 v2.2.1)))) ((0:Int),List.replicate (↑p.length:Int).toNat (Int.ofNat (nat_lit 0)),PUnit.unit))=fnW En (look []) Fp Tryz.f71 (p,()) P:=by kernel_rfl
theorem Aat (p:List Int) (P:List Int->Prop):(((0:Int)<=(↑p.length:Int)/\(↑p.length:Int)<(↑Cr:Int)+(1:Int))/\(↑p.length:Int)=(↑p.length:Int)/\0=0/\(List.replicate (↑p.length:Int).toNat (Int.ofNat (nat_lit 0))).length=(List.replicate (↑p.length:Int).toNat (Int.ofNat (nat_lit 0))).length/\Db (λ(v2:Int×List Int×PUnit) (k3:Int×List Int×PUnit->Prop)=>Br (decide (v2.1<(↑p.length:Int))) (∃(y4:Int),idx p v2.1=some y4/\((0:Int)<=y4/\y4<(↑v2.2.1.length:Int))/\0+y4.toNat<v2.2.1.length/\0=0/\v2.2.1.length=(v2.2.1.set (0+y4.toNat) v2.1).length/\k3 (IntKind.i64.wrap (v2.1+(1:Int)),v2.2.1.set (0+y4.toNat) v2.1,())) (P (List.take v2.2.1.length (List.drop 0 v2.2.1)))) ((0:Int),List.replicate (↑p.length:Int).toNat (Int.ofNat (nat_lit 0)),PUnit.unit))=fnW En (look []) Fp Tryz.f106 (p,()) P:=by kernel_rfl
theorem z6 (p:List Int) (P:List Int->Prop):(∃(y2:Bool),Hz.fn (p,())=some y2/\Br (!y2) (P (List.take 0 (List.drop 0 []))) (∃(y3:List Int),Fp.fn (p,())=some y3/\P y3))=fnW En (look [(87,Hz),(106,Fp)]) Rg Tryz.f91 (p,()) P:=by kernel_rfl
theorem TV (n:Int) (P:List Int->Prop):(0=0/\0=([]:List Int).length/\Db (λ(v2:Int×List Int×PUnit) (k3:Int×List Int×PUnit->Prop)=>Br (decide (v2.1<n)) (0=0/\v2.2.1.length=v2.2.1.length/\v2.2.1.length+(List.take 1 (List.drop 0 [v2.1])).length<=Cr/\0=0/\(v2.2.1++List.take 1 (List.drop 0 [v2.1])).length=(v2.2.1++List.take 1 (List.drop 0 [v2.1])).length/\k3 (IntKind.i64.wrap (v2.1+(1:Int)),v2.2.1++List.take 1 (List.drop 0 [v2.1]),())) (P (List.take v2.2.1.length (List.drop 0 v2.2.1)))) ((0:Int),[],PUnit.unit))=fnW En (look []) Zg Tryz.f63 (n,()) P:=by kernel_rfl
theorem TX (g:List (List Int)) (l:Int) (P:List Int->Prop):(Br (decide (l>(0:Int))) (∃(y3:List Int),idx g (IntKind.i64.wrap (l-(1:Int)))=some y3/\P y3) (∃(y3:List Int),idx g (IntKind.i64.wrap (IntKind.i64.wrap ((0:Int)-l)-(1:Int)))=some y3/\ ∃(y4:List Int),Fp.fn (y3,())=some y4/\P y4))=fnW En (look [(71,Fp)]) Lp Tryz.f81 (g,l,()) P:=by kernel_rfl
theorem Aan (n:Int) (P:List Int->Prop):(0=0/\0=([]:List Int).length/\Db (λ(v2:Int×List Int×PUnit) (k3:Int×List Int×PUnit->Prop)=>Br (decide (v2.1<n)) (0=0/\v2.2.1.length=v2.2.1.length/\v2.2.1.length+(List.take 2 (List.drop 0 [IntKind.i64.wrap (v2.1+(1:Int)),IntKind.i64.wrap ((0:Int)-IntKind.i64.wrap (v2.1+(1:Int)))])).length<=Cr/\0=0/\(v2.2.1++List.take 2 (List.drop 0 [IntKind.i64.wrap (v2.1+(1:Int)),IntKind.i64.wrap ((0:Int)-IntKind.i64.wrap (v2.1+(1:Int)))])).length=(v2.2.1++List.take 2 (List.drop 0 [IntKind.i64.wrap (v2.1+(1:Int)),IntKind.i64.wrap ((0:Int)-IntKind.i64.wrap (v2.1+(1:Int)))])).length/\k3 (IntKind.i64.wrap (v2.1+(1:Int)),v2.2.1++List.take 2 (List.drop 0 [IntKind.i64.wrap (v2.1+(1:Int)),IntKind.i64.wrap ((0:Int)-IntKind.i64.wrap (v2.1+(1:Int)))]),())) (P (List.take v2.2.1.length (List.drop 0 v2.2.1)))) ((0:Int),[],PUnit.unit))=fnW En (look []) Mm Tryz.f80 (n,()) P:=by kernel_rfl
theorem Afr (p:Int×ByteArray×List (List Int)×Unit) (s:List Int) (l:Int) (P:List Int->Prop):(∃(y4:List Int),idx p.2.2.1 (IntKind.i64.wrap ((if true=true then if IntKind.i64.wrap ((0:Int)-l)>l then IntKind.i64.wrap ((0:Int)-l) else l else if IntKind.i64.wrap ((0:Int)-l)<l then IntKind.i64.wrap ((0:Int)-l) else l)-(1:Int)))=some y4/\Br (decide (l<(0:Int))) (∃(y5:List Int),Rg.fn (y4,())=some y5/\0=0/\0=([]:List Int).length/\Db (λ(v6:Int×List Int×PUnit) (k7:Int×List Int×PUnit->Prop)=>Br (decide (v6.1<(↑s.length:Int))) (∃(y8:Int),idx s v6.1=some y8/\ ∃(y9:Int),idx y5 y8=some y9/\0=0/\v6.2.1.length=v6.2.1.length/\v6.2.1.length+(List.take 1 (List.drop 0 [y9])).length<=Cr/\0=0/\(v6.2.1++List.take 1 (List.drop 0 [y9])).length=(v6.2.1++List.take 1 (List.drop 0 [y9])).length/\k7 (IntKind.i64.wrap (v6.1+(1:Int)),v6.2.1++List.take 1 (List.drop 0 [y9]),())) (P (List.take v6.2.1.length (List.drop 0 v6.2.1)))) ((0:Int),[],PUnit.unit)) (0=0/\0=([]:List Int).length/\Db (λ(v5:Int×List Int×PUnit) (k6:Int×List Int×PUnit->Prop)=>Br (decide (v5.1<(↑s.length:Int))) (∃(y7:Int),idx s v5.1=some y7/\ ∃(y8:Int),idx y4 y7=some y8/\0=0/\v5.2.1.length=v5.2.1.length/\v5.2.1.length+(List.take 1 (List.drop 0 [y8])).length<=Cr/\0=0/\(v5.2.1++List.take 1 (List.drop 0 [y8])).length=(v5.2.1++List.take 1 (List.drop 0 [y8])).length/\k6 (IntKind.i64.wrap (v5.1+(1:Int)),v5.2.1++List.take 1 (List.drop 0 [y8]),())) (P (List.take v5.2.1.length (List.drop 0 v5.2.1)))) ((0:Int),[],PUnit.unit)))=fnW En (look [(91,Rg)]) Mx Tryz.f66 (p,s,l,()) P:=by kernel_rfl
theorem Mr {xs:List Int} {i:Nat} (h:i<xs.length):Kb xs (i:Int)=xs[i]:=by
 unfold Kb
 rw [Ai,Aj,Ac h];rfl
theorem jH {xs:List Int} {y:Int} (h0:0<=y) (h:y<xs.length):idx xs y=some (Kb xs y):=by
 have hy:y.toNat<xs.length:=by omega
 have e:y=(y.toNat:Int):=by omega
 rw [e,Bu hy,Mr hy]
theorem bB (f:Nat->Nat) (g:Nat->Int) (m:Nat) (init:List Int):du f g (m+1) init=(du f g m init).set (f m) (g m):=by simp [du,j8]
theorem dv (f:Nat->Nat) (g:Nat->Int) (m:Nat) (init:List Int):(du f g m init).length=init.length:=by
 induction m with
 |zero=>rfl
 |succ m ih=>rw [bB,Bj,ih]
theorem rQ (f:Nat->Nat) (g:Nat->Int) (init:List Int): ∀(m:Nat),(∀i j,i<m->j<m->f i=f j->i=j)-> ∀i,i<m->f i<init.length->(du f g m init)[f i]?=some (g i)
 |0,_,i,h,_=>absurd h (Dq _)
 |m+1,hf,i,hi,hl=>by
  rw [bB]
  by_cases e:i=m
  ·subst e
   exact List.getElem?_set_self (by rw [dv];exact hl)
  ·rw [List.getElem?_set_ne (λh=>e (hf i m hi (by omega) h.symm))]
   exact rQ f g init m (λa b ha hb=>hf a b (by omega) (by omega)) i (by omega) hl
structure cj (p:List Int):Prop where
 pos:1<=p.length
 len:p.length<=20
 row:Mt p.length p
 nodup:p.Nodup
theorem ek {p:List Int} (h:Jv p=true):cj p:=by
 obtain ⟨h1,h2,h3⟩:=Hv.1 h
 refine ⟨h1,h2,λy hy=>?_,jS λj hj=>(h3 j hj hj).2.2⟩
 obtain ⟨j,hj,rfl⟩:=Cl.1 hy
 have:=h3 j hj hj
 omega
theorem cj.inj {p:List Int} (h:cj p) (i j:Nat) (hi:i<p.length) (hj:j<p.length) (e:(Kb p (i:Int)).toNat=(Kb p (j:Int)).toNat):i=j:=by
 rw [Mr hi,Mr hj] at e
 have h1:=h.row _ (Ak hi)
 have h2:=h.row _ (Ak hj)
 have e:p[i]=p[j]:=by omega
 refine Bw λIh=>?_
 rcases Nat.lt_or_gt_of_ne Ih with hl|hl
 ·exact Fh.1 h.nodup i j hi hj hl e
 ·exact Fh.1 h.nodup j i hj hi hl e.symm
theorem cj.YP {p:List Int} (h:cj p) (k:Nat) (hk:k<p.length): ∃i,i<p.length/\(Kb p (i:Int)).toNat=k:=by
 have hm:=(dX (xs:=p) h.row).2 (xo h.nodup) k hk
 obtain ⟨i,hi,e⟩:=Cl.1 hm
 exact ⟨i,hi,by rw [Mr hi,e];exact Ai k⟩
theorem cj.lt {p:List Int} (h:cj p) {i:Nat} (hi:i<p.length):(Kb p (i:Int)).toNat<p.length:=by
 rw [Mr hi]
 have:=h.row _ (Ak hi)
 omega
theorem oI (p:List Int):(Bl p).length=p.length:=by unfold Bl;rw [dv,Gg]
theorem Adg {p:List Int} (h:cj p) {i:Nat} (hi:i<p.length):(Bl p)[(Kb p (i:Int)).toNat]?=some (i:Int):=
 rQ (λi=>(Kb p (i:Int)).toNat) (λi=>(i:Int)) _ p.length (λi j hi hj=>h.inj i j hi hj) i hi (by rw [Gg];exact h.lt hi)
theorem Ahq {p:List Int} (h:cj p):Mt p.length (Bl p):=by
 intro y hy
 obtain ⟨k,hk,rfl⟩:=Cl.1 hy
 have oE:k<p.length:=by rw [oI] at hk;exact hk
 obtain ⟨i,hi,rfl⟩:=h.YP k oE
 have:=Adg h hi
 rw [Ac hk] at this
 rw [Ba this]
 omega
theorem Ps (p q:List Int):(Al p q).length=p.length:=by simp [Al]
theorem HM {p q:List Int} {n:Nat} (hp:Mt q.length p) (hq:Mt n q):Mt n (Al p q):=by
 intro y hy
 obtain ⟨x,hx,rfl⟩:=Bi.1 hy
 have h1:=hp x hx
 rw [show x=(x.toNat:Int) by omega,Mr (by omega)]
 exact hq _ (Ak _)
theorem yh (p q:List Int) (h:p.length<=20/\Mt q.length p):fnW En (look []) Np Tryz.f70 (p,q,()) (λ(z:List Int)=>z=Al p q):=by
 obtain ⟨h,hr⟩:=h
 refine Eq.mp (yU p q _) ?_
 refine ⟨⟨by omega,by show (p.length:Int)<(4294967296:Int)+1;omega⟩,rfl,rfl,rfl,?_⟩
 have Ox:=Ps p q
 refine Bf p.length (λv=>v.1) (λj v=>v.2.1.length=(Al p q).length/\v.2.1.take j=(Al p q).take j) rfl ⟨by rw [Ox];simp,by simp⟩ ?_
 rintro j ⟨i,ys,⟨⟩⟩ K hj hi ⟨h1,h2⟩ hK
 dsimp only at hi h1 h2⊢
 subst hi
 refine Br.dec (λhl=>?_) λhl=>?_
 ·have hl:j<p.length:=by omega
  have hy:=hr _ (Ak hl)
  refine ⟨_,Bu hl,_,jH hy.1 hy.2,⟨by omega,by omega⟩,by rw [Ai];omega,rfl,by rw [Bj],?_⟩
  rw [Bg (by omega),Ai,Bo]
  have Kp:j<(Al p q).length:=by rw [Ox];exact hl
  have e:Kb q p[j]=(Al p q)[j]:=by simp [Al]
  rw [e]
  exact hK hl _ rfl ⟨by rw [Bj];exact h1,Ky Kp h1 h2⟩
 ·have:j=p.length:=by omega
  subst this
  rw [<-Ox,Ap,<-h1,Ap] at h2
  rw [Dp,Ap]
  exact h2
theorem Xp:Sound Tryz.prog 70 Np:=
 Sound.Fb De Bh mixed Tryz.func70 (by kernel_rfl) (by kernel_rfl) λx h=>yh x.1 x.2.1 h
theorem yi (p:List Int) (h:p.length<=20/\Mt p.length p):fnW En (look []) Fp Tryz.f71 (p,()) (λ(z:List Int)=>z=Bl p):=by
 obtain ⟨h,hr⟩:=h
 refine Eq.mp (yV p _) ?_
 refine ⟨⟨by omega,by show (p.length:Int)<(4294967296:Int)+1;omega⟩,rfl,rfl,rfl,?_⟩
 refine Bf p.length (λv=>v.1) (λj v=>v.2.1=du (λi=>(Kb p (i:Int)).toNat) (λi=>(i:Int)) j (List.replicate p.length 0)) rfl rfl ?_
 rintro j ⟨i,ys,⟨⟩⟩ K hj hi h1 hK
 dsimp only at hi h1⊢
 subst hi
 have hlen:ys.length=p.length:=by rw [h1,dv,Gg]
 refine Br.dec (λhl=>?_) λhl=>?_
 ·have hl:j<p.length:=by omega
  have hy:=hr _ (Ak hl)
  refine ⟨_,Bu hl,⟨by omega,by omega⟩,by omega,rfl,by rw [Bj],?_⟩
  rw [Bg (by omega),Bo]
  refine hK hl _ rfl ?_
  rw [bB,<-h1,Mr hl]
 ·have:j=p.length:=by omega
  subst this
  rw [Dp,Ap]
  exact h1
theorem Xq:Sound Tryz.prog 71 Fp:=
 Sound.Fb De Bh mixed Tryz.func71 (by kernel_rfl) (by kernel_rfl) λx h=>yi x.1 h
theorem ZE (p:List Int) (h:p.length<=20/\Mt p.length p):fnW En (look []) Fp Tryz.f106 (p,()) (λ(z:List Int)=>z=Bl p):=by
 obtain ⟨h,hr⟩:=h
 refine Eq.mp (Aat p _) ?_
 refine ⟨⟨by omega,by show (p.length:Int)<(4294967296:Int)+1;omega⟩,rfl,rfl,rfl,?_⟩
 refine Bf p.length (λv=>v.1) (λj v=>v.2.1=du (λi=>(Kb p (i:Int)).toNat) (λi=>(i:Int)) j (List.replicate p.length 0)) rfl rfl ?_
 rintro j ⟨i,ys,⟨⟩⟩ K hj hi h1 hK
 dsimp only at hi h1⊢
 subst hi
 have hlen:ys.length=p.length:=by rw [h1,dv,Gg]
 refine Br.dec (λhl=>?_) λhl=>?_
 ·have hl:j<p.length:=by omega
  have hy:=hr _ (Ak hl)
  refine ⟨_,Bu hl,⟨by omega,by omega⟩,by omega,rfl,by rw [Bj],?_⟩
  rw [Bg (by omega),Bo]
  refine hK hl _ rfl ?_
  rw [bB,<-h1,Mr hl]
 ·have:j=p.length:=by omega
  subst this
  rw [Dp,Ap]
  exact h1
theorem an:Sound Tryz.prog 106 Fp:=
 Sound.Fb De Bh mixed Tryz.func106 (by kernel_rfl) (by kernel_rfl) λx h=>ZE x.1 h
theorem yp (p:List Int) (h:Jv p=true):fnW En (look [(87,Hz),(106,Fp)]) Rg Tryz.f91 (p,()) (λ(z:List Int)=>z=Bl p):=by
 have hp:=ek h
 have hs:short p:=by have:=hp.len;unfold short;omega
 refine Eq.mp (z6 p _) ⟨_,Ab hs,⟨λhe=>?_,λ_=>⟨_,Ab ⟨hp.len,hp.row⟩,rfl⟩⟩⟩
 exact absurd h (Fc he)
theorem pC:Sound Tryz.prog 91 Rg:=
 Sound.Fb De (Av Tk (Av an Bh)) mixed Tryz.func91 (by kernel_rfl) (by kernel_rfl) λx h=>yp x.1 h
theorem lA (j:Nat):upto (j+1)=upto j++ [(j:Int)]:=by simp [upto,j8]
theorem RP (n:Int) (h:0<=n/\n<=20):fnW En (look []) Zg Tryz.f63 (n,()) (λ(z:List Int)=>z=upto n.toNat):=by
 refine Eq.mp (TV n _) ⟨rfl,rfl,?_⟩
 refine Bf n.toNat (λv=>v.1) (λj v=>v.2.1=upto j) rfl rfl ?_
 rintro j ⟨i,ys,⟨⟩⟩ K hj hi h1 hK
 dsimp only at hi h1⊢
 subst hi h1
 refine Br.dec (λhl=>?_) λhl=>?_
 ·refine ⟨rfl,rfl,?_,rfl,rfl,?_⟩
  ·show (upto j).length+1<=4294967296
   rw [kK];omega
  ·rw [Bg (by omega)]
   exact hK (by omega) _ rfl (lA j).symm
 ·have:j=n.toNat:=by omega
  subst this
  rw [Dp,Ap]
theorem kv:Sound Tryz.prog 63 Zg:=
 Sound.Fb De Bh mixed Tryz.func63 (by kernel_rfl) (by kernel_rfl) λx h=>RP x.1 h
theorem Sj {g:List (List Int)} {k:Nat} (h:k<g.length):Bm g ((k:Int)+1)=g[k]:=by
 unfold Bm
 rw [Ab (by omega),show ((k:Int)+1-1).toNat=k by omega,Aj,Ac h];rfl
theorem Si {g:List (List Int)} {k:Nat} (h:k<g.length):Bm g (-((k:Int)+1))=Bl g[k]:=by
 unfold Bm
 rw [Ag (by omega),show (-(-((k:Int)+1))-1).toNat=k by omega,Aj,Ac h];rfl
theorem Qj {n:Nat} {l:Int} (h:Iu n l): ∃k:Nat,k<n/\(l=(k:Int)+1\/l= -((k:Int)+1)):=by
 obtain ⟨h1,h2,h3⟩:=h
 by_cases h0:0<l
 ·exact ⟨(l-1).toNat,by omega, .inl (by omega)⟩
 ·exact ⟨(-l-1).toNat,by omega, .inr (by omega)⟩
theorem RR (g:List (List Int)) (l:Int) (h:Iu (List.length g) l/\List.length g<=8/\ ∀p∈g,Jv p=true):fnW En (look [(71,Fp)]) Lp Tryz.f81 (g,l,()) (λ(z:List Int)=>z=Bm g l):=by
 obtain ⟨hl,h8,hp⟩:=h
 refine Eq.mp (TX g l _) ?_
 obtain ⟨k,hk,rfl|rfl⟩:=Qj hl
 ·refine Br.dec (λ_=>?_) λhn=>by omega
  rw [Di (by omega) (by omega),show (k:Int)+1-1=(k:Int) by omega]
  exact ⟨_,Bu hk,(Sj hk).symm⟩
 ·refine Br.dec (λhn=>by omega) λ_=>?_
  rw [Di (n:=0- -((k:Int)+1)) (by omega) (by omega),Di (by omega) (by omega),show (0:Int)- -((k:Int)+1)-1=(k:Int) by omega]
  have:=ek (hp _ (Ak hk))
  exact ⟨_,Bu hk,_,Ab ⟨this.len,this.row⟩,(Si hk).symm⟩
theorem kx:Sound Tryz.prog 81 Lp:=
 Sound.Fb De (Av Xq Bh) mixed Tryz.func81 (by kernel_rfl) (by kernel_rfl) λx h=>RR x.1 x.2.1 h
theorem cJ (j:Nat):Ay (j+1)=Ay j++ [(j:Int)+1,-((j:Int)+1)]:=by simp [Ay,j8,List.flatMap_append]
theorem Ol (j:Nat):(Ay j).length=2*j:=by
 induction j with
 |zero=>rfl
 |succ j ih=>rw [cJ,Ax,ih];simp only [Aw,Ex];omega
theorem Ob {n:Nat} {l:Int} (h:l∈Ay n):Iu n l:=by
 unfold Ay at h
 obtain ⟨k,hk,hl⟩:=Hs.1 h
 have hk:=Eo.1 hk
 simp only [Be,List.not_mem_nil,or_false] at hl
 unfold Iu
 omega
theorem YY (n:Int) (h:0<=n/\n<=8):fnW En (look []) Mm Tryz.f80 (n,()) (λ(z:List Int)=>z=Ay n.toNat):=by
 refine Eq.mp (Aan n _) ⟨rfl,rfl,?_⟩
 refine Bf n.toNat (λv=>v.1) (λj v=>v.2.1=Ay j) rfl rfl ?_
 rintro j ⟨i,ys,⟨⟩⟩ K hj hi h1 hK
 dsimp only at hi h1⊢
 subst hi h1
 refine Br.dec (λhl=>?_) λhl=>?_
 ·refine ⟨rfl,rfl,?_,rfl,rfl,?_⟩
  ·show (Ay j).length+2<=4294967296
   rw [Ol];omega
  ·have e1:IntKind.i64.wrap ((j:Int)+1)=(j:Int)+1:=Di (by omega) (by omega)
   have e2:IntKind.i64.wrap ((0:Int)-((j:Int)+1))= -((j:Int)+1):=by rw [Di (by omega) (by omega)];omega
   rw [e1,e2]
   exact hK (by omega) _ rfl (cJ j).symm
 ·have:j=n.toNat:=by omega
  subst this
  rw [Dp,Ap]
theorem mw:Sound Tryz.prog 80 Mm:=
 Sound.Fb De Bh mixed Tryz.func80 (by kernel_rfl) (by kernel_rfl) λx h=>YY x.1 h
structure Valid (p:PP):Prop where
 n:1<=p.1/\p.1<=20
 uX:1<=p.2.2.1.length/\p.2.2.1.length<=8
 perm: ∀m∈p.2.2.1,Jv m=true
 len: ∀m∈p.2.2.1,(m.length:Int)=p.1
theorem valid {p:PP} (h:Ds p=true):Valid p:=by
 have h0:=TO h
 obtain ⟨h1,_,_⟩:=Hv.1 h
 obtain ⟨_,_,h4⟩:=Hv.1 h1
 exact ⟨⟨h0.1,h0.2.1⟩,h0.2.2,λm hm=>(Hv.1 (h4 m hm)).2,λm hm=>(Hv.1 (h4 m hm)).1⟩
theorem lb {p:PP} (h:Valid p) {l:Int} (hl:Iu (List.length p.2.2.1) l):((Bm p.2.2.1 l).length:Int)=p.1/\Mt (Bm p.2.2.1 l).length (Bm p.2.2.1 l):=by
 obtain ⟨k,hk,rfl|rfl⟩:=Qj hl
 ·rw [Sj hk]
  exact ⟨h.len _ (Ak hk),(ek (h.perm _ (Ak hk))).row⟩
 ·rw [Si hk,oI]
  exact ⟨h.len _ (Ak hk),Ahq (ek (h.perm _ (Ak hk)))⟩
theorem GY (s y:List Int) (P:List Int->Prop) (h1:s.length<=20) (h2:Mt y.length s) (h3:P (Al s y)):
  Db
   (λ(v5:Int×List Int×PUnit) (k6:Int×List Int×PUnit->Prop)=>
    Br (decide (v5.1<(↑s.length:Int)))
     (∃(y7:Int),
      idx s v5.1=some y7/\
       ∃(y8:Int),
        idx y y7=some y8/\
         (0:Nat)=(0:Nat)/\
          v5.2.1.length=v5.2.1.length/\
           v5.2.1.length+(List.take (1:Nat) (List.drop (0:Nat) [y8])).length<=Cr/\
            (0:Nat)=(0:Nat)/\
             (v5.2.1++List.take (1:Nat) (List.drop (0:Nat) [y8])).length=(v5.2.1++List.take (1:Nat) (List.drop (0:Nat) [y8])).length/\
              k6 (IntKind.i64.wrap (v5.1+(1:Int)),v5.2.1++List.take (1:Nat) (List.drop (0:Nat) [y8]),()))
     (P (List.take v5.2.1.length (List.drop (0:Nat) v5.2.1))))
   ((0:Int),([]:List Int),PUnit.unit):=by
 refine Bf s.length (λv=>v.1) (λj v=>v.2.1=(s.take j).map (Kb y)) rfl (by simp) ?_
 rintro j ⟨i,ys,⟨⟩⟩ K hj hi hR hK
 dsimp only at hi hR⊢
 subst hi hR
 refine Br.dec (λhl=>?_) λhl=>?_
 ·have hl:j<s.length:=by omega
  have hy:=h2 _ (Ak hl)
  refine ⟨_,Bu hl,_,jH hy.1 hy.2,rfl,rfl,?_,rfl,rfl,?_⟩
  ·show ((s.take j).map (Kb y)).length+1<=4294967296
   rw [Dl,Cq];omega
  ·rw [Bg (by omega)]
   refine hK hl _ rfl ?_
   dsimp only
   rw [Bb hl,Kl]
   rfl
 ·have:j=s.length:=by omega
  subst this
  rw [Dp,Ap,Ap]
  exact h3
theorem Ae8 (p:PP) (s:List Int) (l:Int) (h:Ds p=true/\List.length s<=20/\(∀y∈s,0<=y/\y<p.1)/\Iu (List.length p.2.2.1) l):fnW En (look [(91,Rg)]) Mx Tryz.f66 (p,s,l,()) (λ(z:List Int)=>z=Al s (Bm p.2.2.1 l)):=by
 obtain ⟨hv,hs,hr,hl⟩:=h
 have hv:=valid hv
 have hf:=hv.uX
 refine Eq.mp (Afr p s l _) ?_
 have XQ:=lb hv hl
 have La:Mt (Bm p.2.2.1 l).length s:= λy hy=>by have:=hr y hy;omega
 obtain ⟨k,hk,rfl|rfl⟩:=Qj hl
 ·rw [Ab rfl,Di (n:=0-((k:Int)+1)) (by omega) (by omega),Ag (by omega),Di (by omega) (by omega),show (k:Int)+1-1=(k:Int) by omega]
  refine ⟨_,Bu hk,Br.dec (λhn=>by omega) λ_=>⟨rfl,rfl,?_⟩⟩
  rw [Sj hk] at La⊢
  exact GY s _ (λz=>z=Al s p.2.2.1[k]) hs La rfl
 ·rw [Ab rfl,Di (n:=0- -((k:Int)+1)) (by omega) (by omega),Ab (by omega),Di (by omega) (by omega),show (0:Int)- -((k:Int)+1)-1=(k:Int) by omega]
  refine ⟨_,Bu hk,Br.dec (λ_=>⟨_,Ab (hv.perm _ (Ak hk)),rfl,rfl,?_⟩) λhn=>by omega⟩
  rw [Si hk] at La⊢
  exact GY s (Bl p.2.2.1[k]) (λz=>z=Al s (Bl p.2.2.1[k])) hs La rfl
theorem pt:Sound Tryz.prog 66 Mx:=
 Sound.Fb De (Av pC Bh) mixed Tryz.func66 (by kernel_rfl) (by kernel_rfl) λx h=>Ae8 x.1 x.2.1 x.2.2.1 h
abbrev rL:CK:= .row tI 2
abbrev xLL:CK:= .Hp tL 26
def Lk (k:Int) (n:Nat):List Int:=(List.range n).map λi=>k+(i:Nat)
def Kq:Int->List (List Int)->List (List Int)
 |_,[]=> []
 |k,r::rs=>Lk k r.length::Kq (k+r.length) rs
def Ef:List (List Int)->Nat
 | []=>0
 |r::rs=>r.length+Ef rs
def low (k:Int):Prop:=0<=k/\k<=1099511627776
noncomputable abbrev ak:MSpec:=de [none,none] [(true,rL),(false, .Em tI)] false [none] [.Em tI] (λx=>short x.1/\low x.2.1) (λx=>((x.2.1+List.length x.1,()),(Lk x.2.1 (List.length x.1),())))
noncomputable abbrev fv:MSpec:=de [none,none] [(true,xLL),(false, .Em tI)] false [none] [.Em tI] (λx=>Hj x.1/\low x.2.1/\low (x.2.1+Ef x.1)) (λx=>((x.2.1+Ef x.1,()),(Kq x.2.1 x.1,())))
noncomputable abbrev Ti:MSpec:=de [some 3,none] [(false, .Em tI),(false, .Em .str),(true,xLL),(false, .Em tI)] false [none] [.Em tI]
 (λx=>Hj x.2.2.1/\low x.2.2.2.1/\low (x.2.2.2.1+Ef x.2.2.1)) (λx=>((x.2.2.2.1+Ef x.2.2.1,()),(Kq x.2.2.2.1 x.2.2.1,())))
def oR (xs:List Int) (k:Int):Int:=if xs=Lk k xs.length then k+xs.length else-1
noncomputable abbrev gK:Spec:=Fb (.pair tL (.pair tI .unit)) tI false true (λx=>short x.1/\low x.2.1) (λx=>oR x.1 x.2.1)
noncomputable abbrev Ua:MSpec:=de [none] [(false, .Em tL)] false [none] [rL] (λx=>short x.1) (λx=>((x.1,()),()))
noncomputable abbrev bM:MSpec:=de [none] [(false, .Em dS)] false [none] [xLL] (λx=>Hj x.1) (λx=>((x.1,()),()))
noncomputable abbrev Zp:MSpec:=de [some 3] [(false, .Em tL),(false, .Em dS),(false, .Em tL)] false [some 3] [rL,xLL,rL] (λx=>Om (x.1,x.2.1,x.2.2.1,())) (λx=>((x.1,x.2.1,x.2.2.1,()),()))
noncomputable abbrev Qc:MSpec:=de [some 3] [(false, .Em tI),(false, .Em .str),(false, .Em dS)] false [some 3] [.Em tI, .Em .str,xLL] (λx=>Ek (x.1,x.2.1,x.2.2.1,())) (λx=>((x.1,x.2.1,x.2.2.1,()),()))
theorem Aiz (xs:List Int) (k:Int) (P:((Int×Unit)×List Int×Unit)->Prop):(0=0/\xs.length=xs.length/\Db (λ(v3:Int×Int×List Int×PUnit) (k4:Int×Int×List Int×PUnit->Prop)=>Br (decide (v3.2.1<(↑v3.2.2.1.length:Int))) (((0:Int)<=v3.2.1/\v3.2.1<(↑v3.2.2.1.length:Int))/\0+v3.2.1.toNat<v3.2.2.1.length/\0=0/\v3.2.2.1.length=(v3.2.2.1.set (0+v3.2.1.toNat) v3.1).length/\k4 (IntKind.i64.wrap (v3.1+(1:Int)),IntKind.i64.wrap (v3.2.1+(1:Int)),v3.2.2.1.set (0+v3.2.1.toNat) v3.1,())) (P ((v3.1,()),v3.2.2.1,()))) (k,(0:Int),xs,PUnit.unit))=fnMW Uf (look []) ak Tryz.f16 (xs,k,()) P:=by kernel_rfl
theorem Afv (xs:List (List Int)) (k:Int) (P:((Int×Unit)×List (List Int)×Unit)->Prop):(0=0/\xs.length=xs.length/\Db (λ(v3:Int×Int×List (List Int)×PUnit) (k4:Int×Int×List (List Int)×PUnit->Prop)=>Br (decide (v3.2.1<(↑v3.2.2.1.length:Int))) (((0:Int)<=v3.2.1/\v3.2.1<(↑v3.2.2.1.length:Int))/\ ∃(y5:List Int),v3.2.2.1[0+v3.2.1.toNat]?=some y5/\ ∃(y6:List Int),v3.2.2.1[0+v3.2.1.toNat]?=some y6/\ ∃(y7:(Int×PUnit)×List Int×PUnit),ak.fn (y6,v3.1,())=some y7/\ ∃(y8:List Int),v3.2.2.1[0+v3.2.1.toNat]?=some y8/\y7.2.1.length=y8.length/\0=0/\v3.2.2.1.length=(v3.2.2.1.set (0+v3.2.1.toNat) y7.2.1).length/\k4 (y7.1.1,IntKind.i64.wrap (v3.2.1+(1:Int)),v3.2.2.1.set (0+v3.2.1.toNat) y7.2.1,())) (P ((v3.1,()),v3.2.2.1,()))) (k,(0:Int),xs,PUnit.unit))=fnMW Uf (look [(16,ak)]) fv Tryz.f29 (xs,k,()) P:=by kernel_rfl
theorem GA (n:Int) (s:ByteArray) (b:List (List Int)) (k:Int) (P:((Int×Unit)×List (List Int)×Unit)->Prop):(0=0/\b.length=b.length/\ ∃(y5:(Int×PUnit)×List (List Int)×PUnit),fv.fn (b,k,())=some y5/\(y5.2.1.length=b.length/\b.length=b.length)/\P ((y5.1.1,()),y5.2.1,()))=fnMW Uf (look [(29,fv)]) Ti Tryz.f14 (n,s,b,k,()) P:=by kernel_rfl
theorem Aiv (xs:List Int) (k:Int) (P:Int->Prop):(Db (λ(v3:Int×Int×PUnit) (k4:Int×Int×PUnit->Prop)=>Br (decide (v3.2.1<(↑xs.length:Int))) (∃(y5:Int),idx xs v3.2.1=some y5/\Br (y5 !=v3.1) (P (-1:Int)) (k4 (IntKind.i64.wrap (v3.1+(1:Int)),IntKind.i64.wrap (v3.2.1+(1:Int)),()))) (P v3.1)) (k,(0:Int),PUnit.unit))=fnW En (look []) gK Tryz.f17 (xs,k,()) P:=by kernel_rfl
theorem Aol (xs:List Int) (P:((List Int×Unit)×Unit)->Prop):(((0:Int)<=(↑xs.length:Int)/\(↑xs.length:Int)<(↑Cr:Int)+(1:Int))/\(↑xs.length:Int)=(↑xs.length:Int)/\0=0/\(List.replicate (↑xs.length:Int).toNat (Int.ofNat (nat_lit 0))).length=(List.replicate (↑xs.length:Int).toNat (Int.ofNat (nat_lit 0))).length/\Db (λ(v2:Int×List Int×PUnit) (k3:Int×List Int×PUnit->Prop)=>Br (decide (v2.1<(↑xs.length:Int))) (∃(y4:Int),idx xs v2.1=some y4/\((0:Int)<=v2.1/\v2.1<(↑v2.2.1.length:Int))/\0+v2.1.toNat<v2.2.1.length/\0=0/\v2.2.1.length=(v2.2.1.set (0+v2.1.toNat) y4).length/\k3 (IntKind.i64.wrap (v2.1+(1:Int)),v2.2.1.set (0+v2.1.toNat) y4,())) (P ((List.take v2.2.1.length (List.drop 0 v2.2.1),()),()))) ((0:Int),List.replicate (↑xs.length:Int).toNat (Int.ofNat (nat_lit 0)),PUnit.unit))=fnMW Uf (look []) Ua Tryz.f9 (xs,()) P:=by kernel_rfl
theorem Aj2 (xs:List (List Int)) (P:((List (List Int)×Unit)×Unit)->Prop):(((0:Int)<=(↑xs.length:Int)/\(↑xs.length:Int)<(↑Cr:Int)+(1:Int))/\(↑xs.length:Int)=(↑xs.length:Int)/\0=0/\(List.replicate (↑xs.length:Int).toNat ([]:List Int)).length=(List.replicate (↑xs.length:Int).toNat ([]:List Int)).length/\Db (λ(v2:Int×List (List Int)×PUnit) (k3:Int×List (List Int)×PUnit->Prop)=>Br (decide (v2.1<(↑xs.length:Int))) (∃(y4:List Int),idx xs v2.1=some y4/\ ∃(y5:(List Int×PUnit)×PUnit),Ua.fn (y4,())=some y5/\((0:Int)<=v2.1/\v2.1<(↑v2.2.1.length:Int))/\0+v2.1.toNat<v2.2.1.length/\0=0/\v2.2.1.length=(v2.2.1.set (0+v2.1.toNat) (List.take y5.1.1.length (List.drop 0 y5.1.1))).length/\k3 (IntKind.i64.wrap (v2.1+(1:Int)),v2.2.1.set (0+v2.1.toNat) (List.take y5.1.1.length (List.drop 0 y5.1.1)),())) (P ((List.take v2.2.1.length (List.drop 0 v2.2.1),()),()))) ((0:Int),List.replicate (↑xs.length:Int).toNat ([]:List Int),PUnit.unit))=fnMW Uf (look [(9,Ua)]) bM Tryz.f22 (xs,()) P:=by kernel_rfl
theorem UD (a:List Int) (b:List (List Int)) (c:List Int) (P:((List Int×List (List Int)×List Int×Unit)×Unit)->Prop):(∃(y4:(List Int×PUnit)×PUnit),Ua.fn (a,())=some y4/\ ∃(y5:(List (List Int)×PUnit)×PUnit),bM.fn (b,())=some y5/\ ∃(y6:(List Int×PUnit)×PUnit),Ua.fn (c,())=some y6/\P ((List.take y4.1.1.length (List.drop 0 y4.1.1),List.take y5.1.1.length (List.drop 0 y5.1.1),List.take y6.1.1.length (List.drop 0 y6.1.1),()),()))=fnMW Uf (look [(9,Ua),(22,bM)]) Zp Tryz.f23 (a,b,c,()) P:=by kernel_rfl
theorem NR (n:Int) (s:ByteArray) (b:List (List Int)) (P:((Int×ByteArray×List (List Int)×Unit)×Unit)->Prop):(∃(y4:(List (List Int)×PUnit)×PUnit),bM.fn (b,())=some y4/\P ((n,s,List.take y4.1.1.length (List.drop 0 y4.1.1),()),()))=fnMW Uf (look [(22,bM)]) Qc Tryz.f7 (n,s,b,()) P:=by kernel_rfl
theorem Bz {α:Type} (xs:List α):List.take xs.length (List.drop 0 xs)=xs:=by rw [Dp,Ap]
theorem Wa (k:Int) (n:Nat):(Lk k n).length=n:=by simp [Lk]
theorem oS (k:Int) (n:Nat):Lk k (n+1)=Lk k n++ [k+(n:Nat)]:=by simp [Lk,j8]
theorem jP (a b:List (List Int)):Ef (a++b)=Ef a+Ef b:=by
 induction a with
 |nil=>simp [Ef]
 |cons r a ih=>simp only [Mo,Ef,ih];omega
theorem fg: ∀(a b:List (List Int)) (k:Int),Kq k (a++b)=Kq k a++Kq (k+Ef a) b
 | [],b,k=>by simp [Kq,Ef]
 |r::a,b,k=>by
  simp only [Mo,Kq,Ef,fg a b]
  congr 3
  omega
theorem ei: ∀(xs:List (List Int)) (k:Int),(Kq k xs).length=xs.length
 | [],_=>rfl
 |r::xs,k=>by simp [Kq,ei xs]
theorem DE {xs:List (List Int)} {j:Nat} (h:j<xs.length):Ef (xs.drop j)=xs[j].length+Ef (xs.drop (j+1)):=by
 rw [Co h];rfl
theorem DF {xs:List (List Int)} {j:Nat} (h:j<xs.length):Ef (xs.take (j+1))=Ef (xs.take j)+xs[j].length:=by
 rw [Bb h,jP];simp [Ef]
theorem ya (xs:List (List Int)) (j:Nat):Ef (xs.take j)+Ef (xs.drop j)=Ef xs:=by
 rw [<-jP,Io]
theorem Ai7 (xs:List Int) (k:Int) (h:short xs/\low k):fnMW Uf (look []) ak Tryz.f16 (xs,k,()) (λ(z:(Int×Unit)×List Int×Unit)=>z=((k+xs.length,()),(Lk k xs.length,()))):=by
 obtain ⟨h1,h2,h3⟩:=h
 unfold short at h1
 refine Eq.mp (Aiz xs k _) ⟨rfl,rfl,?_⟩
 refine Bf xs.length (λv=>v.2.1) (λj v=>v.1=k+(j:Nat)/\v.2.2.1.length=xs.length/\v.2.2.1.take j=Lk k j) rfl ⟨by simp,rfl,by simp [Lk]⟩ ?_
 rintro j ⟨k',i,ys,⟨⟩⟩ K hj hi ⟨g1,g2,g3⟩ hK
 dsimp only at hi g1 g2 g3⊢
 subst hi;subst g1
 refine Br.dec (λhl=>?_) λhl=>?_
 ·have hl:j<ys.length:=by omega
  refine ⟨⟨by omega,by omega⟩,by rw [Ai];omega,rfl,by rw [Bj],?_⟩
  rw [Bg (by omega),Ai,Bo,Di (by omega) (by omega)]
  refine hK (by omega) _ rfl ⟨by dsimp only;omega,by rw [Bj];exact g2,?_⟩
  rw [Bb (by rw [Bj];exact hl),List.take_set_of_le (Ao j),g3,List.getElem_set_self,oS]
 ·have sY:j=xs.length:=by omega
  subst sY
  rw [<-g2,Ap,g2] at g3
  rw [g3]
theorem ky:Cb Tryz.prog 16 ak:=
 Cb.de Su Bh mixed Tryz.func16 (by kernel_rfl) (by kernel_rfl) λx h=>Ai7 x.1 x.2.1 h
theorem Aec (xs:List (List Int)) (k:Int) (h:Hj xs/\low k/\low (k+Ef xs)):fnMW Uf (look [(16,ak)]) fv Tryz.f29 (xs,k,()) (λ(z:(Int×Unit)×List (List Int)×Unit)=>z=((k+Ef xs,()),(Kq k xs,()))):=by
 obtain ⟨⟨h1,h4⟩,⟨h2,h3⟩,h5,h6⟩:=h
 refine Eq.mp (Afv xs k _) ⟨rfl,rfl,?_⟩
 refine Bf xs.length (λv=>v.2.1) (λj v=>v.1=k+(Ef (xs.take j):Nat)/\v.2.2.1.length=xs.length/\v.2.2.1.take j=Kq k (xs.take j)/\v.2.2.1.drop j=xs.drop j) rfl ⟨by simp [Ef],rfl,by simp [Kq],rfl⟩ ?_
 rintro j ⟨k',i,ys,⟨⟩⟩ K hj hi ⟨g1,g2,g3,g4⟩ hK
 dsimp only at hi g1 g2 g3 g4⊢
 subst hi;subst g1
 refine Br.dec (λhl=>?_) λhl=>?_
 ·have hl:j<ys.length:=by omega
  have hlx:j<xs.length:=by omega
  have hy:ys[j]?=some xs[j]:=by
   have:(ys.drop j)[0]?=(xs.drop j)[0]?:=by rw [g4]
   simpa [Cz,Ac hlx] using this
  have hsp:=ya xs j
  have htk:=DF hlx
  have hdr:=DE hlx
  refine ⟨⟨by omega,by omega⟩,?_⟩
  simp only [Ai,Bo]
  have PW:low (k+(Ef (xs.take j):Nat)):=⟨by omega,by omega⟩
  refine ⟨_,hy,_,hy,_,Ab ⟨h4 _ (Ak hlx),PW⟩,_,hy,Wa _ _,trivial,by rw [Bj],?_⟩
  rw [Bg (by omega)]
  refine hK hlx _ rfl ⟨by dsimp only;omega,by rw [Bj];exact g2,?_,?_⟩
  ·rw [Bb (by rw [Bj];exact hl),List.take_set_of_le (Ao j),g3,List.getElem_set_self,Bb hlx,fg]
   rfl
  ·dsimp only
   rw [List.drop_set_of_lt (by omega)]
   have e1:ys.drop (j+1)=(ys.drop j).drop 1:=by rw [List.drop_drop]
   rw [e1,g4,List.drop_drop]
 ·have sY:j=xs.length:=by omega
  subst sY
  rw [<-g2,Ap,g2,Ap] at g3
  rw [g3,Ap]
theorem pB:Cb Tryz.prog 29 fv:=
 Cb.de Su (Et ky Bh) mixed Tryz.func29 (by kernel_rfl) (by kernel_rfl) λx h=>Aec x.1 x.2.1 h
theorem DR (n:Int) (s:ByteArray) (b:List (List Int)) (k:Int) (h:Hj b/\low k/\low (k+Ef b)):fnMW Uf (look [(29,fv)]) Ti Tryz.f14 (n,s,b,k,()) (λ(z:(Int×Unit)×List (List Int)×Unit)=>z=((k+Ef b,()),(Kq k b,()))):=by
 exact Eq.mp (GA n s b k _) ⟨rfl,rfl,_,Ab h,⟨ei _ _,rfl⟩,rfl⟩
theorem rk:Cb Tryz.prog 14 Ti:=
 Cb.de Su (Et pB Bh) mixed Tryz.func14 (by kernel_rfl) (by kernel_rfl) λx h=>DR x.1 x.2.1 x.2.2.1 x.2.2.2.1 h
theorem Ai3 (xs:List Int) (k:Int) (h:short xs/\low k):fnW En (look []) gK Tryz.f17 (xs,k,()) (λ(z:Int)=>z=oR xs k):=by
 obtain ⟨h1,h2,h3⟩:=h
 unfold short at h1
 refine Eq.mp (Aiv xs k _) ?_
 refine Bf xs.length (λv=>v.2.1) (λj v=>v.1=k+(j:Nat)/\xs.take j=Lk k j) rfl ⟨by simp,by simp [Lk]⟩ ?_
 rintro j ⟨k',i,⟨⟩⟩ K hj hi ⟨g1,g3⟩ hK
 dsimp only at hi g1 g3⊢
 subst hi;subst g1
 refine Br.dec (λhl=>?_) λhl=>?_
 ·have hl:j<xs.length:=by omega
  refine ⟨_,Bu hl,λIh=>?_,λhe=>?_⟩
  ·simp only [Xx,ne_eq] at Ih
   unfold oR
   rw [Ag]
   intro he
   refine Ih ?_
   have e1:xs[j]?=(Lk k xs.length)[j]?:=by rw [<-he]
   rw [Ac hl] at e1
   simpa [Lk,hl] using e1
  ·simp only [Hl] at he
   rw [Bg (by omega),Di (by omega) (by omega)]
   refine hK hl _ rfl ⟨by dsimp only;omega,?_⟩
   rw [Bb hl,g3,he,oS]
 ·have sY:j=xs.length:=by omega
  subst sY
  rw [Ap] at g3
  exact (Ab g3).symm
theorem LZ:Sound Tryz.prog 17 gK:=
 Sound.Fb De Bh mixed Tryz.func17 (by kernel_rfl) (by kernel_rfl) λx h=>Ai3 x.1 x.2.1 h
theorem mi (k:Int) (n:Nat):oR (Lk k n) k=k+n:=by unfold oR;rw [Wa,Ab rfl]
theorem Anr (xs:List Int) (h:short xs):fnMW Uf (look []) Ua Tryz.f9 (xs,()) (λ(z:(List Int×Unit)×Unit)=>z=((xs,()),())):=by
 unfold short at h
 refine Eq.mp (Aol xs _) ?_
 refine ⟨⟨by omega,by show (xs.length:Int)<(4294967296:Int)+1;omega⟩,rfl,rfl,rfl,?_⟩
 refine Bf xs.length (λv=>v.1) (λj v=>v.2.1.length=xs.length/\v.2.1.take j=xs.take j) rfl ⟨by simp,by simp⟩ ?_
 rintro j ⟨i,ys,⟨⟩⟩ K hj hi ⟨h1,h2⟩ hK
 dsimp only at hi h1 h2⊢
 subst hi
 refine Br.dec (λhl=>?_) λhl=>?_
 ·have hl:j<xs.length:=by omega
  refine ⟨_,Bu hl,⟨by omega,by omega⟩,by rw [Ai];omega,rfl,by rw [Bj],?_⟩
  rw [Bg (by omega),Ai,Bo]
  exact hK hl _ rfl ⟨by rw [Bj];exact h1,Ky hl h1 h2⟩
 ·have:j=xs.length:=by omega
  subst this
  rw [Ap,<-h1,Ap] at h2
  rw [Bz,h2]
theorem nJ:Cb Tryz.prog 9 Ua:=
 Cb.de Su Bh mixed Tryz.func9 (by kernel_rfl) (by kernel_rfl) λx h=>Anr x.1 h
theorem Aia (xs:List (List Int)) (h:Hj xs):fnMW Uf (look [(9,Ua)]) bM Tryz.f22 (xs,()) (λ(z:(List (List Int)×Unit)×Unit)=>z=((xs,()),())):=by
 obtain ⟨h,h4⟩:=h
 refine Eq.mp (Aj2 xs _) ?_
 refine ⟨⟨by omega,by show (xs.length:Int)<(4294967296:Int)+1;omega⟩,rfl,rfl,rfl,?_⟩
 refine Bf xs.length (λv=>v.1) (λj v=>v.2.1.length=xs.length/\v.2.1.take j=xs.take j) rfl ⟨by simp,by simp⟩ ?_
 rintro j ⟨i,ys,⟨⟩⟩ K hj hi ⟨h1,h2⟩ hK
 dsimp only at hi h1 h2⊢
 subst hi
 refine Br.dec (λhl=>?_) λhl=>?_
 ·have hl:j<xs.length:=by omega
  refine ⟨_,Bu hl,_,Ab (h4 _ (Ak hl)),⟨by omega,by omega⟩,by rw [Ai];omega,rfl,by rw [Bj],?_⟩
  rw [Bg (by omega),Ai,Bo]
  dsimp only
  rw [Bz]
  exact hK hl _ rfl ⟨by rw [Bj];exact h1,Ky hl h1 h2⟩
 ·have:j=xs.length:=by omega
  subst this
  rw [Ap,<-h1,Ap] at h2
  rw [Bz,h2]
theorem sB:Cb Tryz.prog 22 bM:=
 Cb.de Su (Et nJ Bh) mixed Tryz.func22 (by kernel_rfl) (by kernel_rfl) λx h=>Aia x.1 h
theorem RX (a:List Int) (b:List (List Int)) (c:List Int) (h:Om (a,b,c,())):fnMW Uf (look [(9,Ua),(22,bM)]) Zp Tryz.f23 (a,b,c,()) (λ(z:(List Int×List (List Int)×List Int×Unit)×Unit)=>z=((a,b,c,()),())):=by
 refine Eq.mp (UD a b c _) ⟨_,Ab h.1,_,Ab h.2.1,_,Ab h.2.2,?_⟩
 simp only [Bz]
theorem xa:Cb Tryz.prog 23 Zp:=
 Cb.de Su (Et nJ (Et sB Bh)) mixed Tryz.func23 (by kernel_rfl) (by kernel_rfl) λx h=>RX x.1 x.2.1 x.2.2.1 h
theorem LH (n:Int) (s:ByteArray) (b:List (List Int)) (h:Ek (n,s,b,())):fnMW Uf (look [(22,bM)]) Qc Tryz.f7 (n,s,b,()) (λ(z:(Int×ByteArray×List (List Int)×Unit)×Unit)=>z=((n,s,b,()),())):=by
 refine Eq.mp (NR n s b _) ⟨_,Ab h.2,?_⟩
 simp only [Bz]
theorem tG:Cb Tryz.prog 7 Qc:=
 Cb.de Su (Et sB Bh) mixed Tryz.func7 (by kernel_rfl) (by kernel_rfl) λx h=>LH x.1 x.2.1 x.2.2.1 h
theorem m4: ∀(xs:List Int) (a:Int),xs.foldl max a=a\/xs.foldl max a∈xs
 | [],a=> .inl rfl
 |y::xs,a=>by
  simp only [Hr]
  rcases m4 xs (max a y) with h|h
  ·rw [h]
   rcases Int.le_total a y with h1|h1
   ·rw [Int.max_eq_right h1];exact .inr (by simp)
   ·rw [Int.max_eq_left h1];exact .inl rfl
  ·exact .inr (Ar _ h)
theorem Tf (a:List Int):Ck a a=true:=by simp [Ck]
theorem FH {n:Nat} {room:Int} (h: ¬qE n room<0):qE n room=room-n/\(n:Int)<=room:=by
 unfold qE at*
 split at h
 ·exact absurd (show (-1:Int)<0 by decide) h
 ·rename_i h1;rw [Ag h1];exact ⟨rfl,by omega⟩
theorem MK: ∀(xs:List (List Int)) (room:Int),0<=room-> ¬xh xs room<0->xh xs room=room-Ef xs
 | [],room,_,_=>by simp [xh,Ef]
 |r::xs,room,h0,h=>by
  simp only [xh,Ef] at h⊢
  split at h
  ·exact absurd (show (-1:Int)<0 by decide) h
  ·rename_i h1
   rw [Ag h1]
   have e1:=FH (n:=r.length) h1
   have e1:Xe r room=room-r.length/\(r.length:Int)<=room:=e1
   rw [MK xs _ (by rw [e1.1];omega) h,e1.1]
   omega
theorem ML {xs:List (List Int)} {room:Int} (h: ¬Rl xs room<0):Rl xs room=room-xs.length-Ef xs:=by
 unfold Rl at*
 split at h
 ·exact absurd (show (-1:Int)<0 by decide) h
 ·rename_i h1
  rw [Ag h1]
  have e1:=FH h1
  rw [MK xs _ (by rw [e1.1];omega) h,e1.1]
theorem NW (k:Int) (n:Nat):List.take n (List.drop 0 (Lk k n))=Lk k n:=by rw [Dp,bg (by rw [Wa];exact Ao _)]
theorem tY:low 1:=⟨by decide,by decide⟩
theorem qd {b:Bool} {P:Prop} (h:(!(b==b))=true):P:=by simp at h
noncomputable abbrev wH:MSpec:=de [none] [(false, .Em (.oslice tI))] false [none] [rL] (λx=>short (x.1.getD [])) (λx=>((x.1.getD [],()),()))
noncomputable abbrev cO:MSpec:=de [none] [(false, .Em tL)] false [none] [rL] (λx=>short x.1) (λx=>((x.1,()),()))
noncomputable abbrev Jy:Spec:=Fb (.pair tL .unit) tL false true (λx=>short x.1) (λx=>x.1)
theorem Afs (xs:Option (List Int)) (P:((List Int×Unit)×Unit)->Prop):(Br xs.isNone (P ((List.take 0 (List.drop 0 []),()),())) (0=0/\0=([]:List Int).length/\0+(xs.getD []).length<=Cr/\P ((List.take ([]++xs.getD []).length (List.drop 0 ([]++xs.getD [])),()),())))=fnMW Uf (look []) wH Tryz.f97 (xs,()) P:=by kernel_rfl
theorem TS (xs:List Int) (P:List Int->Prop):(0=0/\0=([]:List Int).length/\0+xs.length<=Cr/\P (List.take ([]++xs).length (List.drop 0 ([]++xs))))=fnW En (look []) Jy Tryz.f64 (xs,()) P:=by kernel_rfl
theorem Ae9 (xs:Option (List Int)) (h:short (xs.getD [])):fnMW Uf (look []) wH Tryz.f97 (xs,()) (λ(z:(List Int×Unit)×Unit)=>z=((xs.getD [],()),())):=by
 unfold short at h
 refine Eq.mp (Afs xs _) ⟨λhn=>?_,λ_=>⟨rfl,rfl,by show 0+(xs.getD []).length<=4294967296;omega,?_⟩⟩
 ·cases xs with
  |none=>rfl
  |some y=>cases hn
 ·simp only [Bz,j7]
theorem ER:Cb Tryz.prog 97 wH:=
 Cb.de Su Bh mixed Tryz.func97 (by kernel_rfl) (by kernel_rfl) λx h=>Ae9 x.1 h
theorem pw:Cb Tryz.prog 97 cO:=Cb.ofO ER λ_ _ h=>⟨h,rfl⟩
theorem RN (xs:List Int) (h:short xs):fnW En (look []) Jy Tryz.f64 (xs,()) (λ(z:List Int)=>z=xs):=by
 unfold short at h
 refine Eq.mp (TS xs _) ⟨rfl,rfl,by show 0+xs.length<=4294967296;omega,?_⟩
 simp only [Bz,j7]
theorem Xo:Sound Tryz.prog 64 Jy:=
 Sound.Fb De Bh mixed Tryz.func64 (by kernel_rfl) (by kernel_rfl) λx h=>RN x.1 h
def Eh (xs is:List Int):List Int:=is.map (Kb xs)
noncomputable abbrev c7:MSpec:=de [none,none] [(false, .Em tL),(false, .Em tL)] false [none] [rL] (λx=>short x.2.1/\Mt (List.length x.1) x.2.1) (λx=>((Eh x.1 x.2.1,()),()))
noncomputable abbrev c9:Spec:=Fb (.pair tL (.pair tL .unit)) tL false true (λx=>short x.1/\Mt (List.length x.2.1) x.1) (λx=>Eh x.2.1 x.1)
def Yg (xs:List Int):ByteArray:=bytesOf (xs.map λx=>IntKind.u8.wrap x)
noncomputable abbrev Kt:Spec:=Fb (.pair tL .unit) .str false true (λx=>short x.1) (λx=>Yg x.1)
def p9 (ps:List (List Int)) (p:List Int):Int:=Hx (λq=>decide (q=p)) ps 0
theorem Aap (xs is:List Int) (P:((List Int×Unit)×Unit)->Prop):(((0:Int)<=(↑is.length:Int)/\(↑is.length:Int)<(↑Cr:Int)+(1:Int))/\(↑is.length:Int)=(↑is.length:Int)/\0=0/\(List.replicate (↑is.length:Int).toNat (Int.ofNat (nat_lit 0))).length=(List.replicate (↑is.length:Int).toNat (Int.ofNat (nat_lit 0))).length/\Db (λ(v3:Int×List Int×PUnit) (k4:Int×List Int×PUnit->Prop)=>Br (decide (v3.1<(↑is.length:Int))) (∃(y5:Int),idx is v3.1=some y5/\ ∃(y6:Int),idx xs y5=some y6/\((0:Int)<=v3.1/\v3.1<(↑v3.2.1.length:Int))/\0+v3.1.toNat<v3.2.1.length/\0=0/\v3.2.1.length=(v3.2.1.set (0+v3.1.toNat) y6).length/\k4 (IntKind.i64.wrap (v3.1+(1:Int)),v3.2.1.set (0+v3.1.toNat) y6,())) (P ((List.take v3.2.1.length (List.drop 0 v3.2.1),()),()))) ((0:Int),List.replicate (↑is.length:Int).toNat (Int.ofNat (nat_lit 0)),PUnit.unit))=fnMW Uf (look []) c7 Tryz.f77 (xs,is,()) P:=by kernel_rfl
theorem Aar (is xs:List Int) (P:List Int->Prop):(0=0/\0=([]:List Int).length/\Db (λ(v3:Int×List Int×PUnit) (k4:Int×List Int×PUnit->Prop)=>Br (decide (v3.1<(↑is.length:Int))) (∃(y5:Int),idx is v3.1=some y5/\ ∃(y6:Int),idx xs y5=some y6/\0=0/\v3.2.1.length=v3.2.1.length/\v3.2.1.length+(List.take 1 (List.drop 0 [y6])).length<=Cr/\0=0/\(v3.2.1++List.take 1 (List.drop 0 [y6])).length=(v3.2.1++List.take 1 (List.drop 0 [y6])).length/\k4 (IntKind.i64.wrap (v3.1+(1:Int)),v3.2.1++List.take 1 (List.drop 0 [y6]),())) (P (List.take v3.2.1.length (List.drop 0 v3.2.1)))) ((0:Int),[],PUnit.unit))=fnW En (look []) c9 Tryz.f61 (is,xs,()) P:=by kernel_rfl
theorem UB (xs:List Int) (P:ByteArray->Prop):(((0:Int)<=(↑xs.length:Int)/\(↑xs.length:Int)<(↑Cr:Int)+(1:Int))/\(↑xs.length:Int)=(↑xs.length:Int)/\0=0/\(List.replicate (↑xs.length:Int).toNat (Int.ofNat (nat_lit 0))).length=(List.replicate (↑xs.length:Int).toNat (Int.ofNat (nat_lit 0))).length/\Db (λ(v2:Int×List Int×PUnit) (k3:Int×List Int×PUnit->Prop)=>Br (decide (v2.1<(↑xs.length:Int))) (∃(y4:Int),idx xs v2.1=some y4/\((0:Int)<=v2.1/\v2.1<(↑v2.2.1.length:Int))/\0+v2.1.toNat<v2.2.1.length/\0=0/\v2.2.1.length=(v2.2.1.set (0+v2.1.toNat) (IntKind.u8.wrap y4)).length/\k3 (IntKind.i64.wrap (v2.1+(1:Int)),v2.2.1.set (0+v2.1.toNat) (IntKind.u8.wrap y4),())) (P (bytesOf (List.take v2.2.1.length (List.drop 0 v2.2.1))))) ((0:Int),List.replicate (↑xs.length:Int).toNat (Int.ofNat (nat_lit 0)),PUnit.unit))=fnW En (look []) Kt Tryz.f53 (xs,()) P:=by kernel_rfl
theorem wm (xs is:List Int):(Eh xs is).length=is.length:=by simp [Eh]
theorem Ahx {α:Type} (y:α):List.take 1 (List.drop 0 [y])= [y]:=rfl
theorem ZA (xs is:List Int) (h:short is/\Mt xs.length is):fnMW Uf (look []) c7 Tryz.f77 (xs,is,()) (λ(z:(List Int×Unit)×Unit)=>z=((Eh xs is,()),())):=by
 obtain ⟨h,hr⟩:=h
 unfold short at h
 refine Eq.mp (Aap xs is _) ?_
 refine ⟨⟨by omega,by show (is.length:Int)<(4294967296:Int)+1;omega⟩,rfl,rfl,rfl,?_⟩
 have Ox:=wm xs is
 refine Bf is.length (λv=>v.1) (λj v=>v.2.1.length=(Eh xs is).length/\v.2.1.take j=(Eh xs is).take j) rfl ⟨by rw [Ox];simp,by simp⟩ ?_
 rintro j ⟨i,ys,⟨⟩⟩ K hj hi ⟨h1,h2⟩ hK
 dsimp only at hi h1 h2⊢
 subst hi
 refine Br.dec (λhl=>?_) λhl=>?_
 ·have hl:j<is.length:=by omega
  have hy:=hr _ (Ak hl)
  refine ⟨_,Bu hl,_,jH hy.1 hy.2,⟨by omega,by omega⟩,by rw [Ai];omega,rfl,by rw [Bj],?_⟩
  rw [Bg (by omega),Ai,Bo]
  have Kp:j<(Eh xs is).length:=by rw [Ox];exact hl
  have e:Kb xs is[j]=(Eh xs is)[j]:=by simp [Eh]
  rw [e]
  exact hK hl _ rfl ⟨by rw [Bj];exact h1,Ky Kp h1 h2⟩
 ·have:j=is.length:=by omega
  subst this
  rw [<-Ox,Ap,<-h1,Ap] at h2
  rw [Dp,Ap,h2]
theorem yG:Cb Tryz.prog 77 c7:=
 Cb.de Su Bh mixed Tryz.func77 (by kernel_rfl) (by kernel_rfl) λx h=>ZA x.1 x.2.1 h
theorem ZC (is xs:List Int) (h:short is/\Mt xs.length is):fnW En (look []) c9 Tryz.f61 (is,xs,()) (λ(z:List Int)=>z=Eh xs is):=by
 obtain ⟨h,hr⟩:=h
 unfold short at h
 refine Eq.mp (Aar is xs _) ⟨rfl,rfl,?_⟩
 have Ox:=wm xs is
 refine Bf is.length (λv=>v.1) (λj v=>v.2.1=(Eh xs is).take j) rfl rfl ?_
 rintro j ⟨i,ys,⟨⟩⟩ K hj hi h1 hK
 dsimp only at hi h1⊢
 subst hi
 refine Br.dec (λhl=>?_) λhl=>?_
 ·have hl:j<is.length:=by omega
  have hy:=hr _ (Ak hl)
  have Kp:j<(Eh xs is).length:=by rw [Ox];exact hl
  refine ⟨_,Bu hl,_,jH hy.1 hy.2,rfl,rfl,?_,rfl,rfl,?_⟩
  ·show ys.length+1<=4294967296
   rw [h1,Cq];omega
  ·rw [Bg (by omega),Ahx]
   refine hK hl _ rfl ?_
   dsimp only
   rw [h1,Bb Kp]
   simp [Eh]
 ·have:j=is.length:=by omega
  subst this
  rw [Bz,h1,<-Ox,Ap]
theorem yI:Sound Tryz.prog 61 c9:=
 Sound.Fb De Bh mixed Tryz.func61 (by kernel_rfl) (by kernel_rfl) λx h=>ZC x.1 x.2.1 h
theorem RV (xs:List Int) (h:short xs):fnW En (look []) Kt Tryz.f53 (xs,()) (λ(z:ByteArray)=>z=Yg xs):=by
 unfold short at h
 refine Eq.mp (UB xs _) ?_
 refine ⟨⟨by omega,by show (xs.length:Int)<(4294967296:Int)+1;omega⟩,rfl,rfl,rfl,?_⟩
 have Ox:(xs.map λx=>IntKind.u8.wrap x).length=xs.length:=by simp
 refine Bf xs.length (λv=>v.1) (λj v=>v.2.1.length=(xs.map λx=>IntKind.u8.wrap x).length/\v.2.1.take j=(xs.map λx=>IntKind.u8.wrap x).take j) rfl ⟨by rw [Ox];simp,by simp⟩ ?_
 rintro j ⟨i,ys,⟨⟩⟩ K hj hi ⟨h1,h2⟩ hK
 dsimp only at hi h1 h2⊢
 subst hi
 refine Br.dec (λhl=>?_) λhl=>?_
 ·have hl:j<xs.length:=by omega
  refine ⟨_,Bu hl,⟨by omega,by omega⟩,by rw [Ai];omega,rfl,by rw [Bj],?_⟩
  rw [Bg (by omega),Ai,Bo]
  have Kp:j<(xs.map λx=>IntKind.u8.wrap x).length:=by rw [Ox];exact hl
  have e:IntKind.u8.wrap xs[j]=(xs.map λx=>IntKind.u8.wrap x)[j]:=by simp
  rw [e]
  exact hK hl _ rfl ⟨by rw [Bj];exact h1,Ky Kp h1 h2⟩
 ·have:j=xs.length:=by omega
  subst this
  rw [<-Ox,Ap,<-h1,Ap] at h2
  rw [Dp,Ap,h2];rfl
theorem cS:Sound Tryz.prog 53 Kt:=
 Sound.Fb De Bh mixed Tryz.func53 (by kernel_rfl) (by kernel_rfl) λx h=>RV x.1 h
theorem ix {α:Type} (P:α->Bool) (y:α): ∀(l:List α) (i:Int),0<=i->Hx P (l++ [y]) i=if Hx P l i<0 then (if P y=true then i+l.length else-1) else Hx P l i
 | [],i,_=>by simp [Hx]
 |x::r,i,h=>by
  simp only [Mo,Hx,Aw]
  split
  ·rw [Ag (by omega)]
  ·rw [ix P y r (i+1) (by omega),show i+1+(r.length:Int)=i+((r.length+1:Nat):Int) by push_cast;omega]
theorem DZ (ps:List (List Int)) (q p:List Int):p9 (ps++ [q]) p=if p9 ps p<0 then (if q=p then (ps.length:Int) else-1) else p9 ps p:=by
 unfold p9
 rw [ix _ _ _ _ (Oe 0)]
 simp only [Nn,Int.zero_add]
def ig (p:List Int):Prop:= ∀x∈p,0<=x/\x<256
theorem Abw {x y:Int} (hx:0<=x/\x<256) (hy:0<=y/\y<256) (h:UInt8.ofNat (IntKind.u8.wrap x).toNat=UInt8.ofNat (IntKind.u8.wrap y).toNat):x=y:=by
 have h:=Lr UInt8.toNat h
 simp only [IntKind.wrap_u8,UInt8.toNat_ofNat'] at h
 omega
theorem bytes_inj: ∀(p q:List Int),ig p->ig q->(p.map λx=>UInt8.ofNat (IntKind.u8.wrap x).toNat)=(q.map λx=>UInt8.ofNat (IntKind.u8.wrap x).toNat)->p=q
 | [],[],_,_,_=>rfl
 | [],_::_,_,_,h=>by simp at h
 |_::_,[],_,_,h=>by simp at h
 |x::p,y::q,hp,hq,h=>by
  simp only [Ce,Gj] at h
  rw [Abw (hp x (by simp)) (hq y (by simp)) h.1,bytes_inj p q (λz hz=>hp z (by simp [hz])) (λz hz=>hq z (by simp [hz])) h.2]
theorem key_inj {p q:List Int} (hp:ig p) (hq:ig q) (h:Yg p=Yg q):p=q:=by
 refine bytes_inj p q hp hq ?_
 simp only [Yg,bytesOf,ByteArray.mk.injEq,List.map_map] at h
 have h:=Lr Array.toList h
 simpa [Function.comp_def] using h
def KM (m:ByteArray->Option Int) (ps:List (List Int)):Prop:= ∀p,ig p->m (Yg p)=if p9 ps p<0 then none else some (p9 ps p)
theorem KM.nil:KM (λ_=>none) []:= λp _=>by
 rw [Ab (by unfold p9;simp [Hx])]
theorem KM.add {m:ByteArray->Option Int} {ps:List (List Int)} {q:List Int} (h:KM m ps) (hq:ig q) (hn:p9 ps q<0):KM (kH m (Yg q) (ps.length:Int)) (ps++ [q]):=by
 intro p hp
 rw [DZ]
 unfold kH
 by_cases e:p=q
 ·subst e
  rw [Ab rfl,Ab hn,Ab rfl,Ag (by omega)]
 ·rw [Ag (λhk=>e (key_inj hp hq hk)),h p hp]
  have e': ¬q=p:= λh=>e h.symm
  rw [Ag e']
  by_cases XV:p9 ps p<0
  ·rw [Ab XV,Ab XV,Ab (by decide)]
  ·rw [Ag XV,Ag XV,Ag XV]
def ld (n:Nat) (last:Int):List Int:=(Ay n).filter λl=>!(l== -last)
noncomputable abbrev Oc:Spec:=Fb (.pair Ga .unit) tL false true (λx=>List.length x.1.2.2.1<=8) (λx=>Ay (List.length x.1.2.2.1))
noncomputable abbrev dK:Spec:=Fb (.pair Ga (.pair tI .unit)) tL false true (λx=>List.length x.1.2.2.1<=8/\ -8<=x.2.1/\x.2.1<=8) (λx=>ld (List.length x.1.2.2.1) x.2.1)
abbrev pI:Type:=Int×Int×ByteArray×List (List Int)×List Int×PUnit
theorem NK (p:Int×ByteArray×List (List Int)×Unit) (P:List Int->Prop):(0=0/\0=([]:List Int).length/\Db (λ(v2:pI) (k3:pI->Prop)=>Br (decide (v2.1<=(↑v2.2.2.2.1.length:Int))) (0=0/\v2.2.2.2.2.1.length=v2.2.2.2.2.1.length/\v2.2.2.2.2.1.length+(List.take 2 (List.drop 0 [v2.1,IntKind.i64.wrap ((0:Int)-v2.1)])).length<=Cr/\0=0/\(v2.2.2.2.2.1++List.take 2 (List.drop 0 [v2.1,IntKind.i64.wrap ((0:Int)-v2.1)])).length=(v2.2.2.2.2.1++List.take 2 (List.drop 0 [v2.1,IntKind.i64.wrap ((0:Int)-v2.1)])).length/\k3 (IntKind.i64.wrap (v2.1+(1:Int)),v2.2.1,v2.2.2.1,v2.2.2.2.1,v2.2.2.2.2.1++List.take 2 (List.drop 0 [v2.1,IntKind.i64.wrap ((0:Int)-v2.1)]),())) (P (List.take v2.2.2.2.2.1.length (List.drop 0 v2.2.2.2.2.1)))) ((1:Int),p.1,p.2.1,p.2.2.1,[],PUnit.unit))=fnW En (look []) Oc Tryz.f90 (p,()) P:=by kernel_rfl
theorem Ais (p:Int×ByteArray×List (List Int)×Unit) (l:Int) (P:List Int->Prop):(∃(y3:List Int),Oc.fn ((p.1,p.2.1,p.2.2.1,()),())=some y3/\0=0/\0=([]:List Int).length/\Db (λ(v4:Int×List Int×PUnit) (k5:Int×List Int×PUnit->Prop)=>Br (decide (v4.1<(↑y3.length:Int))) (Br (l==(0:Int)) (∃(y6:Int),idx y3 v4.1=some y6/\0=0/\v4.2.1.length=v4.2.1.length/\v4.2.1.length+(List.take 1 (List.drop 0 [y6])).length<=Cr/\0=0/\(v4.2.1++List.take 1 (List.drop 0 [y6])).length=(v4.2.1++List.take 1 (List.drop 0 [y6])).length/\k5 (IntKind.i64.wrap (v4.1+(1:Int)),v4.2.1++List.take 1 (List.drop 0 [y6]),())) (∃(y6:Int),idx y3 v4.1=some y6/\Br (y6 !=IntKind.i64.wrap ((0:Int)-l)) (∃(y7:Int),idx y3 v4.1=some y7/\0=0/\v4.2.1.length=v4.2.1.length/\v4.2.1.length+(List.take 1 (List.drop 0 [y7])).length<=Cr/\0=0/\(v4.2.1++List.take 1 (List.drop 0 [y7])).length=(v4.2.1++List.take 1 (List.drop 0 [y7])).length/\k5 (IntKind.i64.wrap (v4.1+(1:Int)),v4.2.1++List.take 1 (List.drop 0 [y7]),())) (0=0/\v4.2.1.length=v4.2.1.length/\k5 (IntKind.i64.wrap (v4.1+(1:Int)),v4.2.1,())))) (P (List.take v4.2.1.length (List.drop 0 v4.2.1)))) ((0:Int),[],PUnit.unit))=fnW En (look [(90,Oc)]) dK Tryz.f65 (p,l,()) P:=by kernel_rfl
theorem KX (p:PP) (h:List.length p.2.2.1<=8):fnW En (look []) Oc Tryz.f90 (p,()) (λ(z:List Int)=>z=Ay (List.length p.2.2.1)):=by
 refine Eq.mp (NK p _) ⟨rfl,rfl,?_⟩
 refine Db.mk (λv=> ∃j:Nat,j<=List.length p.2.2.1/\v=((j:Int)+1,p.1,p.2.1,p.2.2.1,Ay j,())) (λv=>List.length p.2.2.1+1-v.1.toNat) ⟨0,Ip _,rfl⟩ ?_
 rintro _ ⟨j,hj,rfl⟩
 dsimp only
 refine Br.dec (λhl=>?_) λhl=>?_
 ·refine ⟨rfl,rfl,?_,rfl,rfl,⟨j+1,by omega,?_⟩,?_⟩
  ·show (Ay j).length+2<=4294967296
   rw [Ol];omega
  ·rw [cJ,Di (n:=(j:Int)+1+1) (by omega) (by omega),Di (n:=0-((j:Int)+1)) (by omega) (by omega),Int.zero_sub]
   rfl
  ·rw [Di (by omega) (by omega)];omega
 ·have:j=List.length p.2.2.1:=by omega
  subst this
  rw [Bz]
theorem iG:Sound Tryz.prog 90 Oc:=
 Sound.Fb De Bh mixed Tryz.func90 (by kernel_rfl) (by kernel_rfl) λx h=>KX x.1 h
theorem Ai0 (p:PP) (l:Int) (h:List.length p.2.2.1<=8/\ -8<=l/\l<=8):fnW En (look [(90,Oc)]) dK Tryz.f65 (p,l,()) (λ(z:List Int)=>z=ld (List.length p.2.2.1) l):=by
 refine Eq.mp (Ais p l _) ⟨_,Ab h.1,rfl,rfl,?_⟩
 dsimp only
 unfold ld
 have h0: ∀y∈Ay (List.length p.2.2.1),y≠0:= λy hy=>(Ob hy).1
 have hlen:(Ay (List.length p.2.2.1)).length<=16:=by rw [Ol];omega
 refine Bf (Ay (List.length p.2.2.1)).length (λv=>v.1) (λj v=>v.2.1=((Ay (List.length p.2.2.1)).take j).filter λy=>!(y== -l)) rfl (by simp) ?_
 rintro j ⟨i,ys,⟨⟩⟩ K hj hi h1 hK
 dsimp only at hi h1⊢
 subst hi h1
 have hfl:=List.length_filter_le (λy=>!(y== -l)) ((Ay (List.length p.2.2.1)).take j)
 rw [Cq] at hfl
 refine Br.dec (λhl=>?_) λhl=>?_
 ·have hl:j<(Ay (List.length p.2.2.1)).length:=by omega
  have ma: ∀b:Bool,((Ay (List.length p.2.2.1))[j]== -l)=b->((Ay (List.length p.2.2.1)).take (j+1)).filter (λy=>!(y== -l))=((Ay (List.length p.2.2.1)).take j).filter (λy=>!(y== -l))++(if b then [] else [(Ay (List.length p.2.2.1))[j]]):= λb hb=>by
   rw [Bb hl,List.filter_append]
   cases b<;>simp [hb]
  rw [Bg (by omega)]
  have grow:((Ay (List.length p.2.2.1))[j]== -l)=false->((0:Nat)=0/\(((Ay (List.length p.2.2.1)).take j).filter λy=>!(y== -l)).length=(((Ay (List.length p.2.2.1)).take j).filter λy=>!(y== -l)).length/\(((Ay (List.length p.2.2.1)).take j).filter λy=>!(y== -l)).length+(List.take 1 (List.drop 0 [(Ay (List.length p.2.2.1))[j]])).length<=Cr/\(0:Nat)=0/\
    ((((Ay (List.length p.2.2.1)).take j).filter λy=>!(y== -l))++List.take 1 (List.drop 0 [(Ay (List.length p.2.2.1))[j]])).length=((((Ay (List.length p.2.2.1)).take j).filter λy=>!(y== -l))++List.take 1 (List.drop 0 [(Ay (List.length p.2.2.1))[j]])).length/\K (((j+1:Nat):Int),(((Ay (List.length p.2.2.1)).take j).filter λy=>!(y== -l))++List.take 1 (List.drop 0 [(Ay (List.length p.2.2.1))[j]]),())):= λhb=>by
   refine ⟨rfl,rfl,?_,rfl,rfl,?_⟩
   ·show _+1<=4294967296
    omega
   ·exact hK hl _ rfl (by have:=ma false hb;simpa using this.symm)
  refine ⟨λhz=>⟨_,Bu hl,grow ?_⟩,λhz=>⟨_,Bu hl,⟨λIh=>⟨_,Bu hl,grow ?_⟩,λIh=>⟨rfl,rfl,?_⟩⟩⟩⟩
  ·simp only [Xw] at hz
   have:=h0 _ (Ak hl)
   simp only [Nv]
   omega
  ·rw [Di (by omega) (by omega)] at Ih
   simp only [Xx,ne_eq] at Ih
   simp only [Nv]
   omega
  ·rw [Di (by omega) (by omega)] at Ih
   simp only [Hl] at Ih
   exact hK hl _ rfl (by have:=ma true (by simp only [Xw];omega);simpa using this.symm)
 ·have:j=(Ay (List.length p.2.2.1)).length:=by omega
  subst this
  rw [Bz,Ap]
theorem LW:Sound Tryz.prog 65 dK:=
 Sound.Fb De (Av iG Bh) mixed Tryz.func65 (by kernel_rfl) (by kernel_rfl) λx h=>Ai0 x.1 x.2.1 h
theorem vM {a:Int} {P:Prop} (h:(a !=a)=true):P:=by simp at h
theorem Aey {p:PP} {room:Int} (hr:roomy room) (h: ¬bp p room<0):(Ef p.2.2.1:Int)<=room-bp p room/\roomy (bp p room):=by
 unfold bp at h⊢
 split at h
 ·exact absurd (show (-1:Int)<0 by decide) h
 ·rename_i h1
  rw [Ag h1]
  split at h
  ·exact absurd (show (-1:Int)<0 by decide) h
  ·rename_i h2
   rw [Ag h2]
   have e2:=ML h2
   obtain ⟨r1,r2⟩:=hr
   unfold roomy
   omega
def CY (v:Int):List Int->Nat
 | []=>0
 |x::r=>if x>v then CY v r+1 else 0
def Ahr (v:Int) (t:List Int):Option (List Int):=if CY v t=0 then none else some (Kb t ((CY v t-1:Nat):Int)::(t.set (CY v t-1) v).reverse)
def qD:List Int->Option (List Int)
 | []=>none
 |v::t=>match qD t with
  |some t'=>some (v::t')
  |none=>Ahr v t
noncomputable abbrev Ij:MSpec:=de [none] [(false, .Em tL)] false [none] [rL] (λx=>short x.1) (λx=>((x.1,()),()))
theorem NC (xs:List Int) (P:((List Int×Unit)×Unit)->Prop):(0=0/\0=([]:List Int).length/\0+xs.length<=Cr/\P ((List.take ([]++xs).length (List.drop 0 ([]++xs)),()),()))=fnMW Uf (look []) Ij Tryz.f64 (xs,()) P:=by kernel_rfl
theorem KC {s s':List Int} (h:qD s=some s'): ∀pre:List Int,qD (pre++s)=some (pre++s')
 | []=>h
 |v::p=>by rw [Mo,qD,KC h p];rfl
theorem Aif {α:Type} (pre:List α) (v a:α) (t:List α):(pre++v::t).set pre.length a=pre++a::t:=by
 rw [List.set_append,Ag (by omega)];simp
theorem KQ (xs:List Int) (h:short xs):fnMW Uf (look []) Ij Tryz.f64 (xs,()) (λ(z:(List Int×Unit)×Unit)=>z=((xs,()),())):=by
 unfold short at h
 refine Eq.mp (NC xs _) ⟨rfl,rfl,by show 0+xs.length<=4294967296;omega,?_⟩
 simp only [Bz,j7]
theorem tn:Cb Tryz.prog 64 Ij:=
 Cb.de Su Bh mixed Tryz.func64 (by kernel_rfl) (by kernel_rfl) λx h=>KQ x.1 h
inductive Run:List Int->List (List Int)->List Int->Prop where
 |one (a:List Int):Run a [a] a
 |more {a c b:List Int} {L:List (List Int)} :qD a=some c->Run c L b->Run a (a::L) b
theorem Run.cons {a b:List Int} {L:List (List Int)} (h:Run a L b) (v:Int):Run (v::a) (L.map (v:: ·)) (v::b):=by
 induction h with
 |one a=>exact .one _
 |more h3 _ ih=>exact .more (KC h3 [v]) ih
theorem Run.head {a b:List Int} {L:List (List Int)} (h:Run a L b): ∃M,L=a::M:=by
 cases h with
 |one=>exact ⟨_,rfl⟩
 |more _ _=>exact ⟨_,rfl⟩
theorem Run.at {a b:List Int} {L:List (List Int)} (h:Run a L b): ∀j (hj:j<L.length),(∀h2:j+1<L.length,qD L[j]=some L[j+1])/\(j+1=L.length->L[j]=b):=by
 induction h with
 |one a=>
  intro j hj
  simp only [Bt] at hj
  have:j=0:=by omega
  subst this
  exact ⟨λh2=>by simp at h2,λ_=>rfl⟩
 |more h3 h4 ih=>
  intro j hj
  rcases j with _|j
  ·obtain ⟨M,hM⟩:=h4.head
   refine ⟨λh2=>?_,λh2=>?_⟩
   ·simp only [List.getElem_cons_zero,bf]
    subst hM
    exact h3
   ·subst hM;simp at h2
  ·have:=ih j (by simpa using hj)
   refine ⟨λh2=>?_,λh2=>?_⟩
   ·simp only [bf]
    exact this.1 (by simpa using h2)
   ·simp only [bf]
    exact this.2 (by simpa using h2)
theorem Aez {t:TT} {room:Int} (hr:roomy room) (h: ¬Ml t room<0):((List.length t.1+Ef t.2.1+List.length t.2.2.1:Nat):Int)<=room-Ml t room/\roomy (Ml t room):=by
 have rY:=jO hr h
 refine ⟨?_,rY⟩
 clear rY
 unfold Ml at h⊢
 split at h
 ·exact absurd (show (-1:Int)<0 by decide) h
 ·rename_i h1
  rw [Ag h1]
  split at h
  ·exact absurd (show (-1:Int)<0 by decide) h
  ·rename_i h2
   rw [Ag h2]
   split at h
   ·exact absurd (show (-1:Int)<0 by decide) h
   ·rename_i h3
    rw [Ag h3]
    have e1:Xe t.1 room=room-t.1.length/\_:=FH (n:=t.1.length) h1
    have e2:=ML h2
    have e3:Xe t.2.2.1 (Rl t.2.1 (Xe t.1 room))=Rl t.2.1 (Xe t.1 room)-t.2.2.1.length/\_:=FH (n:=t.2.2.1.length) h3
    omega
def Fe:List Int->List Int->Int
 | [],[]=>0
 | [],_::_=> -1
 |_::_,[]=>1
 |x::a,y::b=>if x<y then-1 else if x>y then 1 else Fe a b
def gp (a b:List Int):Bool:=decide (Fe a b<0)
noncomputable abbrev Zn:Spec:=Fb (.pair tL (.pair tL .unit)) .bool false true (λx=>short x.1/\List.length x.1=List.length x.2.1) (λx=>gp x.1 x.2.1)
theorem TZ (a b:List Int) (P:Bool->Prop):(Db (λ(v3:Int×PUnit) (k4:Int×PUnit->Prop)=>Br (decide (v3.1<(↑a.length:Int))) (∃(y5:Int),idx a v3.1=some y5/\ ∃(y6:Int),idx b v3.1=some y6/\Br (y5 !=y6) (∃(y7:Int),idx a v3.1=some y7/\ ∃(y8:Int),idx b v3.1=some y8/\P (decide (y7<y8))) (k4 (IntKind.i64.wrap (v3.1+(1:Int)),()))) (P false)) ((0:Int),PUnit.unit))=fnW En (look []) Zn Tryz.f122 (a,b,()) P:=by kernel_rfl
theorem RT (a b:List Int) (h:short a/\a.length=b.length):fnW En (look []) Zn Tryz.f122 (a,b,()) (λ(z:Bool)=>z=gp a b):=by
 obtain ⟨ha,hb⟩:=h
 unfold short at ha
 refine Eq.mp (TZ a b _) ?_
 refine Bf a.length (λv=>v.1) (λj _=>Fe (a.drop j) (b.drop j)=Fe a b) rfl (by simp) ?_
 rintro j ⟨i,⟨⟩⟩ K hj hi hR2 hK
 dsimp only at hi⊢
 subst hi
 refine Br.dec (λhl=>?_) λhl=>?_
 ·have hl:j<a.length:=by omega
  have hlb:j<b.length:=by omega
  rw [Co hl,Co hlb] at hR2
  simp only [Fe] at hR2
  refine ⟨_,Bu hl,_,Bu hlb,⟨λIh=>?_,λIh=>?_⟩⟩
  ·refine ⟨_,Bu hl,_,Bu hlb,?_⟩
   have Ih:a[j]≠b[j]:=by simpa using Ih
   unfold gp
   rw [<-hR2]
   by_cases h1:a[j]<b[j]
   ·rw [Ab h1];simp [h1]
   ·rw [Ag h1,Ab (by omega)];simp [h1]
  ·have Ih:a[j]=b[j]:=by simpa using Ih
   rw [Ag (by omega),Ag (by omega)] at hR2
   rw [Bg (by omega)]
   exact hK hl _ rfl hR2
 ·have:j=a.length:=by omega
  subst this
  rw [Is,List.drop_eq_nil_of_le (by omega)] at hR2
  unfold gp
  rw [<-hR2]
  rfl
theorem x4:Sound Tryz.prog 122 Zn:=
 Sound.Fb De Bh mixed Tryz.func122 (by kernel_rfl) (by kernel_rfl) λx h=>RT x.1 x.2.1 h
abbrev SS:Type:=List (List Int)×List Int×List Int×Bool×Unit
abbrev rLS:CK:= .row tL 26
abbrev rN:CK:= .row tI 3
def Gs (L:List (List Int)) (Nd:List Int) (s:List Int):Nat:=(Nd.takeWhile λi=>gp (L.getD i.toNat []) s).length
structure Hm (m:Nat) (L:List (List Int)) (Nd:List Int):Prop where
 uX:L.length<=3000
 len: ∀x∈L,x.length=m
 short:m<=20
 perm:Nd.Perm (upto L.length)
 sorted:Nd.Pairwise λi j=>gp (L.getD i.toNat []) (L.getD j.toNat [])=true
def sj (L:List (List Int)) (s:List Int):Int:=if s∈L then (L.idxOf s:Int) else-1
def Yf (Nd:List Int) (k:Nat) (x:Int):List Int:=Nd.take k++x::Nd.drop k
noncomputable abbrev gM:Spec:=Fb (.pair ly (.pair tL .unit)) tI false true (λx=>Hm (List.length x.2.1) x.1.1 x.1.2.2.1) (λx=>(Gs x.1.1 x.1.2.2.1 x.2.1:Int))
noncomputable abbrev fz:Spec:=Fb (.pair ly (.pair tL .unit)) tI false true (λx=>Hm (List.length x.2.1) x.1.1 x.1.2.2.1) (λx=>sj x.1.1 x.2.1)
noncomputable abbrev nF:MSpec:=de [some 4,none,none] [(false,rLS),(false,rL),(false,rN),(false, .Em .bool),(false, .Em tL),(false, .Em tI)] false [some 4] [rLS,rL,rN, .Em .bool]
 (λx=>Hm (List.length x.2.2.2.2.1) x.1 x.2.2.1/\List.length x.2.1<=3000) (λx=>((x.1++ [x.2.2.2.2.1],x.2.1++ [x.2.2.2.2.2.1],Yf x.2.2.1 (Gs x.1 x.2.2.1 x.2.2.2.2.1) (List.length x.1),x.2.2.2.1,()),()))
def dO (L:List (List Int)):List Int:=(List.range L.length).foldl (λ(S:List Int) (i:Nat)=>Yf S (Gs (L.take i) S (L.getD i [])) (i:Int)) []
def Kv (g:List (List Int)) (x:List Int) (d:Int):List Int->List (List Int)->List Int->List (List Int)×List Int×Bool
 | [],L,D=>(L,D,true)
 |l::ls,L,D=>if Al x (Bm g l)∈L then Kv g x d ls L D else if L.length=3000 then (L,D,false) else Kv g x d ls (L++ [Al x (Bm g l)]) (D++ [d+1])
def Qr (g:List (List Int)) (ls:List Int):Nat->Nat->List (List Int)->List Int->List (List Int)×List Int×Bool
 |0,_,L,D=>(L,D,true)
 |f+1,k,L,D=>if k<L.length then (match Kv g (L.getD k []) (D.getD k 0) ls L D with
  |(L',D',true)=>Qr g ls f (k+1) L' D'
  |(L',D',false)=>(L',D',false)) else (L,D,true)
def Kf (g:List (List Int)) (s:List Int):List (List Int)×List Int×Bool:=Qr g (Ay g.length) 3001 0 [s] [0]
def Sn (g:List (List Int)) (s:List Int):SS:=((Kf g s).1,(Kf g s).2.1,dO (Kf g s).1,(Kf g s).2.2,())
noncomputable abbrev lr:Spec:=Fb (.pair Ga (.pair tL .unit)) ly false false (λx=>Ds x.1=true/\List.length x.2.1<=20/\ ∀y∈x.2.1,0<=y/\y<x.1.1) (λx=>Sn x.1.2.2.1 x.2.1)
abbrev WK:Type:=Int×Int×List (List Int)×List Int×List Int×Bool×PUnit
theorem Aoh (f:List (List Int)×List Int×List Int×Bool×Unit) (s:List Int) (P:Int->Prop):(Db (λ(v3:WK) (k4:WK->Prop)=>Br (decide (v3.1<v3.2.1)) ((2:Int)≠(0:Int)/\ ∃(y5:Int),idx v3.2.2.2.2.1 (IntKind.i64.wrap ((IntKind.i64.wrap (v3.1+v3.2.1)).tdiv (2:Int)))=some y5/\ ∃(y6:List Int),idx v3.2.2.1 y5=some y6/\ ∃(y7:Bool),Zn.fn (y6,s,())=some y7/\Br y7 (k4 (IntKind.i64.wrap (IntKind.i64.wrap ((IntKind.i64.wrap (v3.1+v3.2.1)).tdiv (2:Int))+(1:Int)),v3.2.1,v3.2.2.1,v3.2.2.2.1,v3.2.2.2.2.1,v3.2.2.2.2.2.1,())) (k4 (v3.1,IntKind.i64.wrap ((IntKind.i64.wrap (v3.1+v3.2.1)).tdiv (2:Int)),v3.2.2.1,v3.2.2.2.1,v3.2.2.2.2.1,v3.2.2.2.2.2.1,()))) (P v3.1)) ((0:Int),(↑f.2.2.1.length:Int),f.1,f.2.1,f.2.2.1,f.2.2.2.1,PUnit.unit))=fnW En (look [(122,Zn)]) gM Tryz.f121 (f,s,()) P:=by kernel_rfl
theorem Afy (f:List (List Int)×List Int×List Int×Bool×Unit) (s:List Int) (P:Int->Prop):(∃(y3:Int),gM.fn ((f.1,f.2.1,f.2.2.1,f.2.2.2.1,()),s,())=some y3/\Br (decide (y3<(↑f.2.2.1.length:Int))) (∃(y4:Int),idx f.2.2.1 y3=some y4/\ ∃(y5:List Int),idx f.1 y4=some y5/\ ∃(y6:Bool),Bq.fn (y5,s,())=some y6/\Br y6 (∃(y7:Int),idx f.2.2.1 y3=some y7/\P y7) (P (-1:Int))) (P (-1:Int)))=fnW En (look [(121,gM),(62,Bq)]) fz Tryz.f119 (f,s,()) P:=by kernel_rfl
theorem Aof (L:List (List Int)) (D S:List Int) (b:Bool) (s:List Int) (d:Int) (P:((List (List Int)×List Int×List Int×Bool×Unit)×Unit)->Prop):(∃(y7:Int),gM.fn ((List.take L.length (List.drop 0 L),List.take D.length (List.drop 0 D),List.take S.length (List.drop 0 S),b,()),s,())=some y7/\0=0/\S.length=S.length/\S.length+(List.take 1 (List.drop 0 [(0:Int)])).length<=Cr/\((0:Int)<=IntKind.i64.wrap (y7+(1:Int))/\IntKind.i64.wrap (y7+(1:Int))<=(↑(S++List.take 1 (List.drop 0 [(0:Int)])).length:Int)/\(↑(S++List.take 1 (List.drop 0 [(0:Int)])).length:Int)<=(↑(S++List.take 1 (List.drop 0 [(0:Int)])).length:Int))/\((0:Int)<=y7/\y7<=(↑(S++List.take 1 (List.drop 0 [(0:Int)])).length:Int)/\(↑(S++List.take 1 (List.drop 0 [(0:Int)])).length:Int)<=(↑(S++List.take 1 (List.drop 0 [(0:Int)])).length:Int))/\((0:Int)<=y7/\y7<(↑(S++List.take 1 (List.drop 0 [(0:Int)])).length:Int))/\0+y7.toNat<(Ea (S++List.take 1 (List.drop 0 [(0:Int)])) (0+(IntKind.i64.wrap (y7+(1:Int))).toNat) (List.take ((↑(S++List.take 1 (List.drop 0 [(0:Int)])).length:Int).toNat-(IntKind.i64.wrap (y7+(1:Int))).toNat) (List.take ((↑(S++List.take 1 (List.drop 0 [(0:Int)])).length:Int).toNat-y7.toNat) (List.drop (0+y7.toNat) (S++List.take 1 (List.drop 0 [(0:Int)])))))).length/\0=0/\L.length=L.length/\L.length+(List.take 1 (List.drop 0 [s])).length<=Cr/\0=0/\D.length=D.length/\D.length+(List.take 1 (List.drop 0 [d])).length<=Cr/\P ((List.take (L++List.take 1 (List.drop 0 [s])).length (List.drop 0 (L++List.take 1 (List.drop 0 [s]))),List.take (D++List.take 1 (List.drop 0 [d])).length (List.drop 0 (D++List.take 1 (List.drop 0 [d]))),List.take (S++List.take 1 (List.drop 0 [(0:Int)])).length (List.drop 0 ((Ea (S++List.take 1 (List.drop 0 [(0:Int)])) (0+(IntKind.i64.wrap (y7+(1:Int))).toNat) (List.take ((↑(S++List.take 1 (List.drop 0 [(0:Int)])).length:Int).toNat-(IntKind.i64.wrap (y7+(1:Int))).toNat) (List.take ((↑(S++List.take 1 (List.drop 0 [(0:Int)])).length:Int).toNat-y7.toNat) (List.drop (0+y7.toNat) (S++List.take 1 (List.drop 0 [(0:Int)])))))).set (0+y7.toNat) (↑L.length:Int))),b,()),()))=fnMW Uf (look [(121,gM)]) nF Tryz.f118 (L,D,S,b,s,d,()) P:=by kernel_rfl
abbrev pK:Type:=Int×Int×ByteArray×List (List Int)×Bool×Bool×List (List Int)×List Int×List Int×List (List Int)×List Int×List Int×PUnit
abbrev MQ:Type:=(List (List Int)×List Int×List Int×Bool×PUnit)×PUnit
theorem Aj0 (p:Int×ByteArray×List (List Int)×Unit) (s:List Int) (P:(List (List Int)×List Int×List Int×Bool×Unit)->Prop):(∃(y3:List Int),Jy.fn (s,())=some y3/\ ∃(y4:MQ),nF.fn ([],[],[],false,y3,(0:Int),())=some y4/\ ∃(y5:List Int),Oc.fn ((p.1,p.2.1,p.2.2.1,()),())=some y5/\0=0/\0=([]:List Int).length/\0=0/\0=([]:List Int).length/\0=0/\0=([]:List Int).length/\0=0/\y4.1.1.length=y4.1.1.length/\0=0/\y4.1.2.1.length=y4.1.2.1.length/\0=0/\y4.1.2.2.1.length=y4.1.2.2.1.length/\Db (λ(v6:pK) (k7:pK->Prop)=>Br (decide (v6.1<(↑v6.2.2.2.2.2.2.2.2.2.1.length:Int))) (0=0/\v6.2.2.2.2.2.2.1.length=v6.2.2.2.2.2.2.1.length/\0=0/\v6.2.2.2.2.2.2.2.1.length=v6.2.2.2.2.2.2.2.1.length/\0=0/\v6.2.2.2.2.2.2.2.2.1.length=v6.2.2.2.2.2.2.2.2.1.length/\0=0/\v6.2.2.2.2.2.2.2.2.2.1.length=v6.2.2.2.2.2.2.2.2.2.1.length/\0=0/\v6.2.2.2.2.2.2.2.2.2.2.1.length=v6.2.2.2.2.2.2.2.2.2.2.1.length/\0=0/\v6.2.2.2.2.2.2.2.2.2.2.2.1.length=v6.2.2.2.2.2.2.2.2.2.2.2.1.length/\Db (λ(v8:pK) (k9:pK->Prop)=>Br (decide (v8.1<(↑y5.length:Int))) (((0:Int)<=v6.1/\v6.1<(↑v8.2.2.2.2.2.2.2.2.2.1.length:Int))/\ ∃(Il:List Int),v8.2.2.2.2.2.2.2.2.2.1[0+v6.1.toNat]?=some Il/\ ∃(gZ:Int),idx y5 v8.1=some gZ/\ ∃(eF:List Int),Mx.fn ((v8.2.1,v8.2.2.1,v8.2.2.2.1,()),Il,gZ,())=some eF/\ ∃(Me:Int),fz.fn ((List.take v8.2.2.2.2.2.2.2.2.2.1.length (List.drop 0 v8.2.2.2.2.2.2.2.2.2.1),List.take v8.2.2.2.2.2.2.2.2.2.2.1.length (List.drop 0 v8.2.2.2.2.2.2.2.2.2.2.1),List.take v8.2.2.2.2.2.2.2.2.2.2.2.1.length (List.drop 0 v8.2.2.2.2.2.2.2.2.2.2.2.1),v8.2.2.2.2.2.1,()),eF,())=some Me/\Br (decide (Me>=(0:Int))) (0=0/\v8.2.2.2.2.2.2.1.length=v8.2.2.2.2.2.2.1.length/\0=0/\v8.2.2.2.2.2.2.2.1.length=v8.2.2.2.2.2.2.2.1.length/\0=0/\v8.2.2.2.2.2.2.2.2.1.length=v8.2.2.2.2.2.2.2.2.1.length/\0=0/\v8.2.2.2.2.2.2.2.2.2.1.length=v8.2.2.2.2.2.2.2.2.2.1.length/\0=0/\v8.2.2.2.2.2.2.2.2.2.2.1.length=v8.2.2.2.2.2.2.2.2.2.2.1.length/\0=0/\v8.2.2.2.2.2.2.2.2.2.2.2.1.length=v8.2.2.2.2.2.2.2.2.2.2.2.1.length/\k9 (IntKind.i64.wrap (v8.1+(1:Int)),v8.2.1,v8.2.2.1,v8.2.2.2.1,v8.2.2.2.2.1,v8.2.2.2.2.2.1,v8.2.2.2.2.2.2.1,v8.2.2.2.2.2.2.2.1,v8.2.2.2.2.2.2.2.2.1,v8.2.2.2.2.2.2.2.2.2.1,v8.2.2.2.2.2.2.2.2.2.2.1,v8.2.2.2.2.2.2.2.2.2.2.2.1,())) (Br ((↑v8.2.2.2.2.2.2.2.2.2.1.length:Int)==(3000:Int)) (P (List.take v8.2.2.2.2.2.2.2.2.2.1.length (List.drop 0 v8.2.2.2.2.2.2.2.2.2.1),List.take v8.2.2.2.2.2.2.2.2.2.2.1.length (List.drop 0 v8.2.2.2.2.2.2.2.2.2.2.1),List.take v8.2.2.2.2.2.2.2.2.2.2.2.1.length (List.drop 0 v8.2.2.2.2.2.2.2.2.2.2.2.1),v8.2.2.2.2.2.1,())) (((0:Int)<=v6.1/\v6.1<(↑v8.2.2.2.2.2.2.2.2.2.2.1.length:Int))/\ ∃(Jj:Int),v8.2.2.2.2.2.2.2.2.2.2.1[0+v6.1.toNat]?=some Jj/\0=0/\v8.2.2.2.2.2.2.2.2.2.1.length=v8.2.2.2.2.2.2.2.2.2.1.length/\0=0/\v8.2.2.2.2.2.2.2.2.2.2.1.length=v8.2.2.2.2.2.2.2.2.2.2.1.length/\0=0/\v8.2.2.2.2.2.2.2.2.2.2.2.1.length=v8.2.2.2.2.2.2.2.2.2.2.2.1.length/\ ∃(Ri:MQ),nF.fn (v8.2.2.2.2.2.2.2.2.2.1,v8.2.2.2.2.2.2.2.2.2.2.1,v8.2.2.2.2.2.2.2.2.2.2.2.1,v8.2.2.2.2.2.1,eF,IntKind.i64.wrap (Jj+(1:Int)),())=some Ri/\0=0/\v8.2.2.2.2.2.2.1.length=v8.2.2.2.2.2.2.1.length/\0=0/\v8.2.2.2.2.2.2.2.1.length=v8.2.2.2.2.2.2.2.1.length/\0=0/\v8.2.2.2.2.2.2.2.2.1.length=v8.2.2.2.2.2.2.2.2.1.length/\0=0/\Ri.1.1.length=Ri.1.1.length/\0=0/\Ri.1.2.1.length=Ri.1.2.1.length/\0=0/\Ri.1.2.2.1.length=Ri.1.2.2.1.length/\k9 (IntKind.i64.wrap (v8.1+(1:Int)),v8.2.1,v8.2.2.1,v8.2.2.2.1,v8.2.2.2.2.1,Ri.1.2.2.2.1,v8.2.2.2.2.2.2.1,v8.2.2.2.2.2.2.2.1,v8.2.2.2.2.2.2.2.2.1,Ri.1.1,Ri.1.2.1,Ri.1.2.2.1,())))) (0=0/\v8.2.2.2.2.2.2.1.length=v8.2.2.2.2.2.2.1.length/\0=0/\v8.2.2.2.2.2.2.2.1.length=v8.2.2.2.2.2.2.2.1.length/\0=0/\v8.2.2.2.2.2.2.2.2.1.length=v8.2.2.2.2.2.2.2.2.1.length/\0=0/\v8.2.2.2.2.2.2.2.2.2.1.length=v8.2.2.2.2.2.2.2.2.2.1.length/\0=0/\v8.2.2.2.2.2.2.2.2.2.2.1.length=v8.2.2.2.2.2.2.2.2.2.2.1.length/\0=0/\v8.2.2.2.2.2.2.2.2.2.2.2.1.length=v8.2.2.2.2.2.2.2.2.2.2.2.1.length/\k7 (IntKind.i64.wrap (v6.1+(1:Int)),v8.2.1,v8.2.2.1,v8.2.2.2.1,v8.2.2.2.2.1,v8.2.2.2.2.2.1,v8.2.2.2.2.2.2.1,v8.2.2.2.2.2.2.2.1,v8.2.2.2.2.2.2.2.2.1,v8.2.2.2.2.2.2.2.2.2.1,v8.2.2.2.2.2.2.2.2.2.2.1,v8.2.2.2.2.2.2.2.2.2.2.2.1,()))) ((0:Int),v6.2.1,v6.2.2.1,v6.2.2.2.1,v6.2.2.2.2.1,v6.2.2.2.2.2.1,v6.2.2.2.2.2.2.1,v6.2.2.2.2.2.2.2.1,v6.2.2.2.2.2.2.2.2.1,v6.2.2.2.2.2.2.2.2.2.1,v6.2.2.2.2.2.2.2.2.2.2.1,v6.2.2.2.2.2.2.2.2.2.2.2.1,PUnit.unit)) (P (List.take v6.2.2.2.2.2.2.2.2.2.1.length (List.drop 0 v6.2.2.2.2.2.2.2.2.2.1),List.take v6.2.2.2.2.2.2.2.2.2.2.1.length (List.drop 0 v6.2.2.2.2.2.2.2.2.2.2.1),List.take v6.2.2.2.2.2.2.2.2.2.2.2.1.length (List.drop 0 v6.2.2.2.2.2.2.2.2.2.2.2.1),true,()))) ((0:Int),p.1,p.2.1,p.2.2.1,false,y4.1.2.2.2.1,[],[],[],y4.1.1,y4.1.2.1,y4.1.2.2.1,PUnit.unit))=fnW Afd (look [(64,Jy),(118,nF),(90,Oc),(66,Mx),(119,fz)]) lr Tryz.f113 (p,s,()) P:=by kernel_rfl
theorem uN: ∀ {a b:List Int},Fe a b=0↔a=b
 | [],[]=>by simp [Fe]
 | [],_::_=>by simp [Fe]
 |_::_,[]=>by simp [Fe]
 |x::a,y::b=>by
  simp only [Fe,Gj]
  by_cases h1:x<y
  ·rw [Ab h1]
   exact ⟨λh=>by omega,λh=>by omega⟩
  ·rw [Ag h1]
   by_cases h2:x>y
   ·rw [Ab h2]
    exact ⟨λh=>by omega,λh=>by omega⟩
   ·rw [Ag h2,uN]
    exact ⟨λh=>⟨by omega,h⟩,λh=>h.2⟩
theorem UQ: ∀(a b:List Int),Fe b a= -Fe a b
 | [],[]=>by simp [Fe]
 | [],_::_=>by simp [Fe]
 |_::_,[]=>by simp [Fe]
 |x::a,y::b=>by
  simp only [Fe]
  rcases Int.lt_trichotomy x y with h1|h1|h1
  ·simp [h1,show ¬y<x by omega]
  ·subst h1
   simp [UQ a b]
  ·simp [h1,show ¬x<y by omega]
theorem zk: ∀ {a b c:List Int},Fe a b<0->Fe b c<0->Fe a c<0
 | [],[],_,h,_=>by simp [Fe] at h
 |_::_,[],_,h,_=>by simp [Fe] at h
 |_,_::_,[],_,h=>by simp [Fe] at h
 | [],_::_,_::_,_,_=>by simp [Fe]
 |x::a,y::b,z::c,h1,h2=>by
  simp only [Fe] at h1 h2⊢
  by_cases e1:x<y
  ·by_cases e2:y<z
   ·rw [Ab (by omega)];omega
   ·rw [Ag e2] at h2
    by_cases e3:y>z
    ·rw [Ab e3] at h2;omega
    ·rw [Ab (by omega)];omega
  ·rw [Ag e1] at h1
   by_cases e2:x>y
   ·rw [Ab e2] at h1;omega
   ·rw [Ag e2] at h1
    by_cases e3:y<z
    ·rw [Ab (by omega)];omega
    ·rw [Ag e3] at h2
     by_cases e4:y>z
     ·rw [Ab e4] at h2;omega
     ·rw [Ag e4] at h2
      rw [Ag (by omega),Ag (by omega)]
      exact zk h1 h2
theorem lt_iff {a b:List Int} :gp a b=true↔Fe a b<0:=Je
theorem YL {a b c:List Int} (h1:gp a b=true) (h2:gp b c=true):gp a c=true:=lt_iff.2 (zk (lt_iff.1 h1) (lt_iff.1 h2))
theorem np (a:List Int):gp a a=false:=by
 have:Fe a a=0:=uN.2 rfl
 unfold gp;rw [this];rfl
theorem Adt {a b:List Int} (h:gp a b=false) (Ih:a≠b):gp b a=true:=by
 rw [lt_iff,UQ a b]
 have h1: ¬Fe a b<0:= λh'=>by rw [lt_iff.2 h'] at h;cases h
 have h2:Fe a b≠0:= λh'=>Ih (uN.1 h')
 omega
theorem mC {α:Type} (q:α->Bool): ∀(l:List α),l.Pairwise (λi j=>q j=true->q i=true)-> ∀k (hk:k<l.length),k<(l.takeWhile q).length↔q l[k]=true
 | [],_,k,hk=>by simp at hk
 |a::l,h,k,hk=>by
  obtain ⟨h1,h2⟩:=List.pairwise_cons.1 h
  by_cases ha:q a=true
  ·rw [List.takeWhile_cons_of_pos ha]
   rcases k with _|k
   ·simpa using ha
   ·simp only [Aw,bf,Nat.add_lt_add_iff_right]
    exact mC q l h2 k (by simpa using hk)
  ·rw [List.takeWhile_cons_of_neg ha]
   simp only [Ex,Dq,false_iff]
   rcases k with _|k
   ·exact ha
   ·simp only [bf]
    exact λhq=>ha (h1 _ (Ak _) hq)
theorem Hm.vV {m:Nat} {L:List (List Int)} {Nd:List Int} (h:Hm m L Nd):Nd.length=L.length:=by rw [h.perm.length_eq,kK]
theorem Hm.idx {m:Nat} {L:List (List Int)} {Nd:List Int} (h:Hm m L Nd) {k:Nat} (hk:k<Nd.length):0<=Nd[k]/\Nd[k]<L.length:=aH.1 (h.perm.mem_iff.1 (Ak hk))
theorem Hm.fC {m:Nat} {L:List (List Int)} {Nd:List Int} (h:Hm m L Nd) (s:List Int) {k:Nat} (hk:k<Nd.length):k<Gs L Nd s↔gp (L.getD Nd[k].toNat []) s=true:=
 mC _ Nd (h.sorted.imp λjC hj=>YL jC hj) k hk
theorem WD (L:List (List Int)) (Nd s:List Int):Gs L Nd s<=Nd.length:=(List.takeWhile_sublist _).length_le
theorem Hm.inj {m:Nat} {L:List (List Int)} {Nd:List Int} (h:Hm m L Nd) {i j:Nat} (hi:i<L.length) (hj:j<L.length) (e:L[i]=L[j]):i=j:=by
 have mem: ∀i,i<L.length->(i:Int)∈Nd:= λi hi=>h.perm.mem_iff.2 (aH.2 ⟨by omega,by omega⟩)
 obtain ⟨p,hp,ep⟩:=Cl.1 (mem i hi)
 obtain ⟨q,hq,eq⟩:=Cl.1 (mem j hj)
 have get: ∀i (hi:i<L.length),L.getD ((i:Int)).toNat []=L[i]:= λi hi=>by rw [Ai,Aj,Ac hi];rfl
 rcases Nat.lt_trichotomy p q with h1|h1|h1
 ·have:=Fh.1 h.sorted p q hp hq h1
  rw [ep,eq,get i hi,get j hj,e,np] at this
  cases this
 ·subst h1
  rw [ep] at eq
  omega
 ·have:=Fh.1 h.sorted q p hq hp h1
  rw [ep,eq,get i hi,get j hj,e,np] at this
  cases this
theorem au {L:List (List Int)} {k:Nat} (h:k<L.length):L.getD k []=L[k]:=by rw [Aj,Ac h];rfl
theorem Hm.BM {m:Nat} {L:List (List Int)} {Nd:List Int} (h:Hm m L Nd) {s:List Int} :
  (∃hk:Gs L Nd s<Nd.length,L.getD Nd[Gs L Nd s].toNat []=s/\sj L s=Nd[Gs L Nd s])\/(sj L s= -1/\ ∀hk:Gs L Nd s<Nd.length,L.getD Nd[Gs L Nd s].toNat []≠s):=by
 by_cases hm:s∈L
 ·left
  obtain ⟨j,hj,rfl⟩:=Cl.1 hm
  obtain ⟨p,hp,ep⟩:=Cl.1 (h.perm.mem_iff.2 (aH.2 ⟨by omega,by omega⟩):(j:Int)∈Nd)
  have gj:L.getD Nd[p].toNat []=L[j]:=by rw [ep,Ai,au hj]
  have hs:Gs L Nd L[j]=p:=by
   have h1: ¬p<Gs L Nd L[j]:= λh1=>by
    have:=(h.fC L[j] hp).1 h1
    rw [gj,np] at this;cases this
   have h2: ¬Gs L Nd L[j]<p:= λh2=>by
    have h3:=(h.fC L[j] (k:=Gs L Nd L[j]) (by omega)).2 (by
     have:=Fh.1 h.sorted (Gs L Nd L[j]) p (by omega) hp h2
     rw [gj] at this;exact this)
    omega
   omega
  have hx:L.idxOf L[j]=j:=by
   have h1:L.idxOf L[j]<L.length:=List.idxOf_lt_length_of_mem hm
   exact h.inj h1 hj (List.getElem_idxOf h1)
  refine ⟨by omega,?_,?_⟩
  ·simp only [hs];exact gj
  ·unfold sj
   rw [Ab hm,hx]
   simp only [hs];exact ep.symm
 ·right
  refine ⟨by unfold sj;rw [Ag hm],λhk e=>hm ?_⟩
  have hi:=h.idx hk
  rw [au (by omega)] at e
  rw [<-e]
  exact Ak _
theorem Adf (Nd:List Int) (k:Nat) (x:Int):(Yf Nd k x).Perm (x::Nd):=by
 unfold Yf
 refine List.perm_middle.trans (List.Perm.cons x ?_)
 rw [Io]
theorem Hm.add {m:Nat} {L:List (List Int)} {Nd s:List Int} (h:Hm m L Nd) (hn:s∉L) (hl:s.length=m) (hr:L.length<3000):Hm m (L++ [s]) (Yf Nd (Gs L Nd s) L.length):=by
 have IB: ∀i∈Nd,(L++ [s]).getD i.toNat []=L.getD i.toNat []:= λi hi=>by
  have:=aH.1 (h.perm.mem_iff.1 hi)
  rw [Aj,Aj,At (by omega)]
 have Apj:(L++ [s]).getD ((L.length:Int)).toNat []=s:=by
  rw [Ai,Aj,As (by omega),Nat.sub_self];rfl
 refine ⟨by rw [Ax,Bt];omega,λx hx=>?_,h.short,?_,?_⟩
 ·rcases Az.1 hx with hx|hx
  ·exact h.len x hx
  ·rw [Ad.1 hx];exact hl
 ·refine (Adf _ _ _).trans ?_
  rw [Ax,Bt,lA]
  exact (List.Perm.cons _ h.perm).trans (List.perm_append_singleton _ _).symm
 ·unfold Yf
  have hs:=h.sorted
  rw [<-Io (Gs L Nd s) Nd] at hs
  obtain ⟨s1,s2,s3⟩:=List.pairwise_append.1 hs
  have mt: ∀i∈Nd.take (Gs L Nd s),i∈Nd/\gp (L.getD i.toNat []) s=true:= λi hi=>by
   obtain ⟨k,hk,rfl⟩:=Cl.1 hi
   have hk2:k<Gs L Nd s:=by rw [Cq] at hk;omega
   have hk3:k<Nd.length:=by rw [Cq] at hk;omega
   rw [List.getElem_take]
   exact ⟨Ak _,(h.fC s hk3).1 hk2⟩
  have md: ∀i∈Nd.drop (Gs L Nd s),i∈Nd/\gp s (L.getD i.toNat [])=true:= λi hi=>by
   obtain ⟨k,hk,rfl⟩:=Cl.1 hi
   rw [List.length_drop] at hk
   have hk3:Gs L Nd s+k<Nd.length:=by omega
   rw [List.getElem_drop]
   refine ⟨Ak _,Adt ?_ λe=>hn ?_⟩
   ·exact Jt.2 λhh=>by
     have:=(h.fC s hk3).2 hh
     omega
   ·have hi:=h.idx hk3
    rw [au (by omega)] at e
    rw [<-e];exact Ak _
  refine List.pairwise_append.2 ⟨s1.imp_of_mem λ {a b} ha hb fH=>?_,List.pairwise_cons.2 ⟨λb hb=>?_,s2.imp_of_mem λ {a b} ha hb fH=>?_⟩,λa ha b hb=>?_⟩
  ·rw [IB a (mt a ha).1,IB b (mt b hb).1];exact fH
  ·rw [Apj,IB b (md b hb).1];exact (md b hb).2
  ·rw [IB a (md a ha).1,IB b (md b hb).1];exact fH
  ·rcases Be.1 hb with rfl|hb
   ·rw [Apj,IB a (mt a ha).1];exact (mt a ha).2
   ·rw [IB a (mt a ha).1,IB b (md b hb).1];exact s3 a ha b hb
theorem gQ (L:List (List Int)) (s:List Int):dO (L++ [s])=Yf (dO L) (Gs L (dO L) s) L.length:=by
 unfold dO
 rw [Ax,Bt,j8,Nk]
 have e: ∀(is:List Nat) (S:List Int),(∀i∈is,i<L.length)->is.foldl (λ(S:List Int) (i:Nat)=>Yf S (Gs ((L++ [s]).take i) S ((L++ [s]).getD i [])) (i:Int)) S=is.foldl (λ(S:List Int) (i:Nat)=>Yf S (Gs (L.take i) S (L.getD i [])) (i:Int)) S:=by
  intro is
  induction is with
  |nil=>intro S _;rfl
  |cons i is ih=>
   intro S h
   have hi:=h i (by simp)
   rw [Hr,Hr,ih _ λj hj=>h j (Ar _ hj)]
   congr 2
   rw [List.take_append_of_le_length (by omega),Aj,At hi,<-Aj]
 rw [e _ _ λi hi=>Eo.1 hi]
 simp only [Hr,List.foldl_nil]
 congr 2
 ·rw [List.take_append_of_le_length (Ao _),Ap]
 ·rw [Aj,As (by omega),Nat.sub_self];rfl
theorem pn {m:Nat} (h:m<=20):Hm m [] []:=⟨by simp,λx hx=>(by cases hx),h,by simp [upto],List.Pairwise.nil⟩
theorem Adb {α:Type} {xs:List α} {y:Int} (h0:0<=y) (h:y.toNat<xs.length):idx xs y=some xs[y.toNat]:=by
 unfold idx
 rw [Ab h0,Ac h]
theorem Ann (f:SS) (s:List Int) (h:Hm s.length f.1 f.2.2.1):fnW En (look [(122,Zn)]) gM Tryz.f121 (f,s,()) (λ(z:Int)=>z=(Gs f.1 f.2.2.1 s:Int)):=by
 obtain ⟨L,D,Nd,b,⟨⟩⟩:=f
 dsimp only at h⊢
 have hle:=WD L Nd s
 have xB:=h.vV
 have lF:=h.uX
 refine Eq.mp (Aoh (L,D,Nd,b,()) s _) ?_
 refine Db.mk (λv=>v.2.2.1=L/\v.2.2.2.2.1=Nd/\ ∃lo hi:Nat,v.1=lo/\v.2.1=hi/\lo<=hi/\hi<=Nd.length/\lo<=Gs L Nd s/\Gs L Nd s<=hi) (λv=>(v.2.1-v.1).toNat)
  ⟨rfl,rfl,0,Nd.length,rfl,rfl,by omega,by omega,by omega,hle⟩ ?_
 rintro ⟨lo',oD,L',D',Aa5,b',⟨⟩⟩ ⟨h1,h2,lo,hi,h3,h4,h5,h6,h7,h8⟩
 dsimp only at h1 h2 h3 h4⊢
 subst h1 h2 h3 h4
 refine Br.dec (λhl=>?_) λhl=>?_
 ·have em:IntKind.i64.wrap ((IntKind.i64.wrap ((lo:Int)+(hi:Int))).tdiv 2)=(((lo+hi)/2:Nat):Int):=by
   rw [Di (n:=(lo:Int)+(hi:Int)) (by omega) (by omega),Int.tdiv_eq_ediv_of_nonneg (by omega),Di (by omega) (by omega)]
   omega
  rw [em]
  have hm1:(lo+hi)/2<Aa5.length:=by omega
  have hi1:=h.idx hm1
  have hi2:Aa5[(lo+hi)/2].toNat<L'.length:=by omega
  have hgd:=au hi2
  have hlen:=h.len _ (Ak hi2)
  have OE:short L'[Aa5[(lo+hi)/2].toNat]:=by
   unfold short
   have:=h.short;omega
  refine ⟨by decide,_,Bu hm1,_,Adb hi1.1 hi2,_,Ab ⟨OE,hlen⟩,⟨λhc=>?_,λhc=>?_⟩⟩
  ·have hc:gp L'[Aa5[(lo+hi)/2].toNat] s=true:=hc
   have hs:=(h.fC s hm1).2 (by rw [hgd];exact hc)
   rw [Bg (by omega)]
   exact ⟨⟨rfl,rfl,(lo+hi)/2+1,hi,rfl,rfl,by omega,h6,by omega,h8⟩,by omega⟩
  ·have hc:gp L'[Aa5[(lo+hi)/2].toNat] s=false:=hc
   have hs: ¬(lo+hi)/2<Gs L' Aa5 s:= λhh=>by
    have:=(h.fC s hm1).1 hh
    rw [hgd,hc] at this;cases this
   exact ⟨⟨rfl,rfl,lo,(lo+hi)/2,rfl,rfl,by omega,by omega,h7,by omega⟩,by omega⟩
 ·show (lo:Int)=_
  omega
theorem x6:Sound Tryz.prog 121 gM:=
 Sound.Fb De (Av x4 Bh) mixed Tryz.func121 (by kernel_rfl) (by kernel_rfl) λx h=>Ann x.1 x.2.1 h
theorem Aef (f:SS) (s:List Int) (h:Hm s.length f.1 f.2.2.1):fnW En (look [(121,gM),(62,Bq)]) fz Tryz.f119 (f,s,()) (λ(z:Int)=>z=sj f.1 s):=by
 obtain ⟨L,D,Nd,b,⟨⟩⟩:=f
 dsimp only at h⊢
 refine Eq.mp (Afy (L,D,Nd,b,()) s _) ⟨_,Ab h,Br.dec (λhl=>?_) λhl=>?_⟩
 ·have hl:Gs L Nd s<Nd.length:=by
   have hl:((Gs L Nd s:Nat):Int)<(Nd.length:Int):=hl
   omega
  have hi1:=h.idx hl
  have hi2:Nd[Gs L Nd s].toNat<L.length:=by omega
  have hgd:=au hi2
  have hlen:=h.len _ (Ak hi2)
  have OE:short L[Nd[Gs L Nd s].toNat]:=by
   unfold short
   have:=h.short;omega
  refine ⟨_,Bu hl,_,Adb hi1.1 hi2,_,Ab OE,⟨λhc=>⟨_,Bu hl,?_⟩,λhc=>?_⟩⟩
  ·have hc:L[Nd[Gs L Nd s].toNat]=s:=Gx hc
   rcases h.BM (s:=s) with ⟨hk,_,e⟩|⟨_,Ih⟩
   ·exact e.symm
   ·exact absurd (by rw [hgd];exact hc) (Ih hl)
  ·have hc: ¬L[Nd[Gs L Nd s].toNat]=s:=of_decide_eq_false hc
   rcases h.BM (s:=s) with ⟨hk,e,_⟩|⟨e,_⟩
   ·rw [hgd] at e;exact absurd e hc
   ·exact e.symm
 ·have hl: ¬Gs L Nd s<Nd.length:=by
   have hl: ¬((Gs L Nd s:Nat):Int)<(Nd.length:Int):=hl
   omega
  rcases h.BM (s:=s) with ⟨hk,e,_⟩|⟨e,_⟩
  ·exact absurd hk hl
  ·exact e.symm
theorem EX:Sound Tryz.prog 119 fz:=
 Sound.Fb De (Av x6 (Av Vf Bh)) mixed Tryz.func119 (by kernel_rfl) (by kernel_rfl) λx h=>Aef x.1 x.2.1 h
theorem QJ {S:List Int} {k:Nat} (h:k<=S.length) (n:Int):
  (Ea (S++ [0]) (k+1) (List.take ((S++ [0]).length-(k+1)) (List.take ((S++ [0]).length-k) (List.drop k (S++ [0]))))).set k n=Yf S k n:=by
 obtain ⟨A,B,rfl,hA⟩: ∃A B,S=A++B/\A.length=k:=⟨S.take k,S.drop k,(Io k S).symm,by rw [Cq];omega⟩
 subst hA
 have e1:List.drop A.length (A++B++ [0])=B++ [0]:=by rw [Dh,List.drop_left]
 have e2:List.take ((A++B++ [0]).length-A.length) (B++ [0])=B++ [0]:=bg (by simp only [Ax,Bt];omega)
 have e3:List.take ((A++B++ [0]).length-(A.length+1)) (B++ [0])=B:=by
  have:(A++B++ [(0:Int)]).length-(A.length+1)=B.length:=by simp only [Ax,Bt];omega
  rw [this,List.take_left]
 rw [e1,e2,e3]
 unfold Ea Yf
 have e4:List.drop (A.length+1+B.length) (A++B++ [0])= []:=List.drop_eq_nil_of_le (by simp only [Ax,Bt];omega)
 obtain ⟨c,hc⟩: ∃c,List.take (A.length+1) (A++B++ [0])=A++ [c]:=by
  rw [Dh,List.take_append,bg (by omega)]
  cases B with
  |nil=>exact ⟨0,by simp⟩
  |cons b B=>exact ⟨b,by simp⟩
 rw [e4,hc,List.append_nil,Dh,List.singleton_append,Aif,List.take_left,List.drop_left]
theorem Anl (L:List (List Int)) (D S:List Int) (b:Bool) (s:List Int) (d:Int) (h:Hm s.length L S/\D.length<=3000):
  fnMW Uf (look [(121,gM)]) nF Tryz.f118 (L,D,S,b,s,d,()) (λ(z:(List (List Int)×List Int×List Int×Bool×Unit)×Unit)=>z=((L++ [s],D++ [d],Yf S (Gs L S s) L.length,b,()),())):=by
 obtain ⟨h,hD⟩:=h
 have hle:=WD L S s
 have xB:=h.vV
 have lF:=h.uX
 refine Eq.mp (Aof L D S b s d _) ?_
 rw [Bz L,Bz D,Bz S]
 refine ⟨_,Ab h,?_⟩
 dsimp only
 have es:List.take 1 (List.drop 0 [(0:Int)])= [0]:=rfl
 have el:(S++ [(0:Int)]).length=S.length+1:=by simp
 rw [es,Bg (by omega),Bo,Bo,Ai,Ai,Ai]
 refine ⟨rfl,rfl,by show S.length+1<=4294967296;omega,⟨by omega,by omega,by omega⟩,⟨by omega,by omega,by omega⟩,⟨by omega,by omega⟩,?_,rfl,rfl,by show L.length+1<=4294967296;omega,rfl,rfl,by show D.length+1<=4294967296;omega,?_⟩
 ·unfold Ea
  simp only [Ax,Cq,List.length_drop,Bt]
  omega
 ·rw [QJ hle,Bz,Bz]
  have e5:List.take (S++ [(0:Int)]).length (List.drop 0 (Yf S (Gs L S s) (L.length:Int)))=Yf S (Gs L S s) (L.length:Int):=by
   rw [Dp,bg]
   unfold Yf
   simp only [Ax,Aw,Cq,List.length_drop,Ex]
   omega
  rw [e5]
  rfl
theorem TD:Cb Tryz.prog 118 nF:=
 Cb.de Su (Av x6 Bh) mixed Tryz.func118 (by kernel_rfl) (by kernel_rfl) λx h=>Anl x.1 x.2.1 x.2.2.1 x.2.2.2.1 x.2.2.2.2.1 x.2.2.2.2.2.1 h
structure bb (p:PP) (m:Nat) (L:List (List Int)) (D:List Int):Prop where
 ok:Hm m L (dO L)
 len:D.length=L.length
 row: ∀x∈L,∀y∈x,0<=y/\y<p.1
 dep: ∀j (h:j<D.length),0<=D[j]/\D[j]<=j
theorem DJ {p:PP} (hv:Valid p) {x:List Int} {l:Int} (hx: ∀y∈x,0<=y/\y<p.1) (hl:Iu (List.length p.2.2.1) l):
  (Al x (Bm p.2.2.1 l)).length=x.length/\ ∀y∈Al x (Bm p.2.2.1 l),0<=y/\y<p.1:=by
 obtain ⟨h1,h2⟩:=lb hv hl
 refine ⟨Ps _ _,λy hy=>?_⟩
 have:=HM (n:=(Bm p.2.2.1 l).length) (λz hz=>by have:=hx z hz;omega) h2 y hy
 omega
theorem bb.add {p:PP} {m:Nat} {L:List (List Int)} {D:List Int} (h:bb p m L D) {y:List Int} {d:Int} (hn:y∉L) (hl:y.length=m) (hr:L.length<3000) (hy: ∀z∈y,0<=z/\z<p.1) (hd:0<=d/\d<=L.length):bb p m (L++ [y]) (D++ [d]):=by
 have hlen:=h.len
 refine ⟨by rw [gQ];exact h.ok.add hn hl hr,by simp [hlen],λx hx=>?_,λj hj=>?_⟩
 ·rcases Az.1 hx with hx|hx
  ·exact h.row x hx
  ·rw [Ad.1 hx];exact hy
 ·by_cases e:j<D.length
  ·rw [iU e];exact h.dep j e
  ·simp only [Ax,Bt] at hj
   have:j=D.length:=by omega
   subst this
   rw [List.getElem_append_right (by omega)]
   simp only [Nat.sub_self,List.getElem_cons_zero]
   omega
theorem qc {p:PP} {s:List Int} (hs:s.length<=20) (hr: ∀y∈s,0<=y/\y<p.1):bb p s.length [s] [0]:=by
 refine ⟨?_,rfl,λx hx=>by rw [Ad.1 hx];exact hr,λj hj=>?_⟩
 ·have:=(pn hs).add (s:=s) (by simp) rfl (by simp)
  have e:dO [s]=Yf [] (Gs [] [] s) 0:=gQ [] s
  rw [e];exact this
 ·simp only [Bt] at hj
  have:j=0:=by omega
  subst this
  simp
theorem zM {L:List (List Int)} {s:List Int} :sj L s>=0↔s∈L:=by
 unfold sj
 split
 ·rename_i h;exact ⟨λ_=>h,λ_=>by omega⟩
 ·rename_i h;exact ⟨λhh=>by omega,λhh=>absurd hh h⟩
theorem Ai8 (p:PP) (s:List Int) (h:Ds p=true/\s.length<=20/\ ∀y∈s,0<=y/\y<p.1):fnW Afd (look [(64,Jy),(118,nF),(90,Oc),(66,Mx),(119,fz)]) lr Tryz.f113 (p,s,()) (λ(z:SS)=>z=Sn p.2.2.1 s):=by
 obtain ⟨hv,hs,hr⟩:=h
 have hV:=valid hv
 have lF:=hV.uX
 have hb0:=qc hs hr
 have OE:short s:=by unfold short;omega
 obtain ⟨ls,rX⟩: ∃ls,Ay (List.length p.2.2.1)=ls:=⟨_,rfl⟩
 refine Eq.mp (Aj0 p s _) ⟨_,Ab OE,_,Ab ⟨pn hs,by show 0<=3000;omega⟩,ls,(Ab (by show List.length p.2.2.1<=8;exact lF.2)).trans (Lr some rX),rfl,rfl,rfl,rfl,rfl,rfl,rfl,rfl,rfl,rfl,rfl,rfl,?_⟩
 have e0:Yf [] (Gs [] [] s) ((([]:List (List Int)).length:Nat):Int)=dO [s]:=(gQ [] s).symm
 show Db _ ((0:Int),p.1,p.2.1,p.2.2.1,false,false,[],[],[],[s],[(0:Int)],Yf [] (Gs [] [] s) ((([]:List (List Int)).length:Nat):Int),PUnit.unit)
 rw [e0]
 have hll:ls.length<=16:=by rw [<-rX,Ol];omega
 have oF: ∀l∈ls,Iu (List.length p.2.2.1) l:= λl hl=>Ob (rX▸hl)
 have QD:Qr p.2.2.1 ls 3001 0 [s] [0]=Kf p.2.2.1 s:=by unfold Kf;rw [rX]
 refine Db.mk (λv=>v.2.1=p.1/\v.2.2.1=p.2.1/\v.2.2.2.1=p.2.2.1/\v.2.2.2.2.2.1=false/\ ∃k:Nat,v.1=k/\k<=v.2.2.2.2.2.2.2.2.2.1.length/\
   bb p s.length v.2.2.2.2.2.2.2.2.2.1 v.2.2.2.2.2.2.2.2.2.2.1/\v.2.2.2.2.2.2.2.2.2.2.2.1=dO v.2.2.2.2.2.2.2.2.2.1/\
   Qr p.2.2.1 ls (3001-k) k v.2.2.2.2.2.2.2.2.2.1 v.2.2.2.2.2.2.2.2.2.2.1=Kf p.2.2.1 s) (λv=>3001-v.1.toNat)
  ⟨rfl,rfl,rfl,rfl,0,rfl,by simp,hb0,rfl,QD⟩ ?_
 rintro ⟨k',n1,n2,n3,b0,wh,x1,x2,x3,L0,D0,S0,⟨⟩⟩ ⟨h1,h2,h3,h4,k,h5,h6,h7,h8,h9⟩
 dsimp only at h1 h2 h3 h4 h5 h6 h7 h8 h9
 subst h1 h2 h3 h4 h5 h8
 dsimp only
 have hL0:=h7.ok.uX
 have hD0:=h7.len
 refine Br.dec (λhl=>⟨rfl,rfl,rfl,rfl,rfl,rfl,rfl,rfl,rfl,rfl,rfl,rfl,?_⟩) λhl=>?_
 ·have hk:k<L0.length:=by omega
  have hkD:k<D0.length:=by omega
  have hx: ∀y∈L0[k],0<=y/\y<p.1:=h7.row _ (Ak hk)
  have hxl:L0[k].length=s.length:=h7.ok.len _ (Ak hk)
  have hdk:=h7.dep k hkD
  obtain ⟨f,hf⟩: ∃f,3001-k=f+1:=⟨3000-k,by omega⟩
  have hgo: ∀L' D' ok,Kv p.2.2.1 L0[k] D0[k] ls L0 D0=(L',D',ok)->Kf p.2.2.1 s=if ok=true then Qr p.2.2.1 ls f (k+1) L' D' else (L',D',false):=by
   intro L' D' ok he
   rw [<-h9,hf,Qr,Ab hk,au hk,Aj,Ac hkD]
   simp only [Cc]
   rw [he]
   cases ok<;>rfl
  refine Db.mk (λv=>v.2.1=p.1/\v.2.2.1=p.2.1/\v.2.2.2.1=p.2.2.1/\v.2.2.2.2.2.1=false/\ ∃i:Nat,v.1=i/\i<=ls.length/\bb p s.length v.2.2.2.2.2.2.2.2.2.1 v.2.2.2.2.2.2.2.2.2.2.1/\
    v.2.2.2.2.2.2.2.2.2.2.2.1=dO v.2.2.2.2.2.2.2.2.2.1/\(∃A,v.2.2.2.2.2.2.2.2.2.1=L0++A)/\(∃A,v.2.2.2.2.2.2.2.2.2.2.1=D0++A)/\
    Kv p.2.2.1 L0[k] D0[k] (ls.drop i) v.2.2.2.2.2.2.2.2.2.1 v.2.2.2.2.2.2.2.2.2.2.1=Kv p.2.2.1 L0[k] D0[k] ls L0 D0) (λv=>ls.length-v.1.toNat)
   ⟨rfl,rfl,rfl,rfl,0,rfl,Ip _,h7,rfl,⟨[],by simp⟩,⟨[],by simp⟩,rfl⟩ ?_
  rintro ⟨i',m1,m2,m3,b1,wh1,y1,y2,y3,L,D,S,⟨⟩⟩ ⟨g1,g2,g3,g4,i,g5,g6,g7,g8,⟨A,g9⟩,⟨A',g10⟩,sV⟩
  dsimp only at g1 g2 g3 g4 g5 g6 g7 g8 g9 g10 sV
  subst g1 g2 g3 g4 g5 g8
  dsimp only
  have hLf:=g7.ok.uX
  have hDl:=g7.len
  rw [Bz L,Bz D,Bz (dO L)]
  refine Br.dec (λhli=>?_) λhli=>?_
  ·have hi:i<ls.length:=by omega
   have hkL:k<L.length:=by rw [g9,Ax];omega
   have hLk:L[k]=L0[k]:=by simp only [g9];exact iU hk
   have Aly:k<D.length:=by rw [hDl];exact hkL
   have hDk:D[k]=D0[k]:=by simp only [g10];exact iU hkD
   have qx:=oF _ (Ak hi)
   obtain ⟨nl,nr⟩:=DJ hV hx qx
   rw [Co hi] at sV
   simp only [Kv] at sV
   refine ⟨⟨by omega,by omega⟩,L0[k],by rw [Ai,Bo,Ac hkL,hLk],_,Bu hi,_,Ab ⟨hv,by show L0[k].length<=20;omega,hx,qx⟩,?_⟩
   dsimp only
   have hyl:(Al L0[k] (Bm p.2.2.1 ls[i])).length=s.length:=by rw [nl,hxl]
   refine ⟨_,Ab (by show Hm (Al L0[k] (Bm p.2.2.1 ls[i])).length L (dO L);rw [hyl];exact g7.ok),Br.dec (λjD=>?_) λjD=>?_⟩
   ·have jD:Al L0[k] (Bm p.2.2.1 ls[i])∈L:=zM.1 jD
    rw [Ab jD] at sV
    rw [Bg (by omega)]
    exact ⟨rfl,rfl,rfl,rfl,rfl,rfl,rfl,rfl,rfl,rfl,rfl,rfl,⟨rfl,rfl,rfl,rfl,i+1,rfl,hi,g7,rfl,⟨A,g9⟩,⟨A',g10⟩,sV⟩,by omega⟩
   ·have jD:Al L0[k] (Bm p.2.2.1 ls[i])∉L:= λhh=>jD (zM.2 hh)
    rw [Ag jD] at sV
    refine ⟨λaA=>?_,λaA=>⟨⟨by omega,by omega⟩,D0[k],by rw [Ai,Bo,Ac Aly,hDk],rfl,rfl,rfl,rfl,rfl,rfl,?_⟩⟩
    ·have aA:L.length=3000:=by
      have:(L.length:Int)=3000:=by simpa using aA
      omega
     rw [Ab aA] at sV
     have:=hgo _ _ _ sV.symm
     rw [Ag (by decide)] at this
     unfold Sn
     rw [this]
    ·have aA:L.length≠3000:=by
      have:(L.length:Int)≠3000:=by simpa using aA
      omega
     rw [Ag aA] at sV
     rw [Di (n:=D0[k]+1) (by omega) (by omega)]
     refine ⟨_,Ab ⟨by show Hm (Al L0[k] (Bm p.2.2.1 ls[i])).length L (dO L);rw [hyl];exact g7.ok,by show D.length<=3000;omega⟩,?_⟩
     dsimp only
     rw [Bg (by omega),<-gQ]
     refine ⟨rfl,rfl,rfl,rfl,rfl,rfl,rfl,rfl,rfl,rfl,rfl,rfl,⟨rfl,rfl,rfl,rfl,i+1,rfl,hi,g7.add jD hyl (by omega) nr ⟨by omega,by omega⟩,rfl,⟨A++ [Al L0[k] (Bm p.2.2.1 ls[i])],by rw [g9,Dh]⟩,⟨A'++ [D0[k]+1],by rw [g10,Dh]⟩,sV⟩,by omega⟩
  ·have:i=ls.length:=by omega
   subst this
   rw [Is,Kv] at sV
   have:=hgo _ _ _ sV.symm
   rw [Ab rfl] at this
   rw [Bg (by omega)]
   refine ⟨rfl,rfl,rfl,rfl,rfl,rfl,rfl,rfl,rfl,rfl,rfl,rfl,⟨rfl,rfl,rfl,rfl,k+1,rfl,by rw [g9,Ax];omega,g7,rfl,?_⟩,by omega⟩
   rw [show 3001-(k+1)=f by omega]
   exact this.symm
 ·have hk:k=L0.length:=by omega
  rw [Bz L0,Bz D0,Bz (dO L0)]
  obtain ⟨f,hf⟩: ∃f,3001-k=f+1:=⟨3000-k,by omega⟩
  rw [hf,Qr,Ag (by omega)] at h9
  unfold Sn
  rw [<-h9]
theorem MB:Sound Tryz.prog 113 lr:=
 Sound.Fb Afe (Av Xo (Et TD (Av iG (Av pt (Av EX Bh))))) mixed Tryz.func113 (by kernel_rfl) (by kernel_rfl) λx h=>Ai8 x.1 x.2.1 h
end Go.Proofs.YtfgfigkbgecfnaaGreat
