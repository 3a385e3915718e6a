/-
  Part 38 of the proof that the statement FnExactSearchDepth holds.
-/
import Derived.Test.YtfolipnappekaaaGreatCSearchDepth36
import Derived.KernelRfl
namespace Go.Proofs.YtfolipnappekaaaGreat
open Go.RowKit
def Ov (x a b:Int):Bool:=decide (a<=x/\x<=b)
def kb (n x:Int):Bool:=decide (0<=x/\x<=IntKind.i64.wrap (n-1))
def Ch (a b:List Int):Bool:=decide (a=b)
def lh (xs:List Int) (x:Int):Bool:=decide (x∈xs)
def short (xs:List Int):Prop:=xs.length<=4294967296
noncomputable abbrev Dk:Spec:=Ev (.pair tI (.pair tI (.pair tI .unit))) .bool false true (λ_=>True) (λx=>Ov x.1 x.2.1 x.2.2.1)
noncomputable abbrev bo:Spec:=Ev (.pair tI (.pair tI .unit)) .bool false true (λ_=>True) (λx=>kb x.1 x.2.1)
noncomputable abbrev Bo:Spec:=Ev (.pair tL (.pair tL .unit)) .bool false true (λx=>short x.1) (λx=>Ch x.1 x.2.1)
noncomputable abbrev Qm:Spec:=Ev (.pair tL (.pair tI .unit)) .bool false true (λx=>short x.1) (λx=>lh x.1 x.2.1)
theorem WU (x a b:Int) (P:Bool->Prop):(Br (decide (x>=a)) (P (decide (x<=b))) (P false))=fnW Ei (look []) Dk Tryz.f88 (x,a,b,()) P:=by kernel_rfl
theorem Acq (x a b:Int) (P:Bool->Prop):(Br (decide (x>=a)) (P (decide (x<=b))) (P false))=fnW Ei (look []) Dk Tryz.f90 (x,a,b,()) P:=by kernel_rfl
theorem WX (n x:Int) (P:Bool->Prop):(∃(y3:Bool),Dk.fn (x,0,IntKind.i64.wrap (n-1),())=some y3/\P y3)=fnW Ei (look [(90,Dk)]) bo Tryz.f161 (n,x,()) P:=by kernel_rfl
theorem JQ (a b:List Int) (P:Bool->Prop):(Br ((↑a.length:Int) !=(↑b.length:Int)) (P false) (Df (λ(v3:Int×PUnit) (k4:Int×PUnit->Prop)=>Br (decide (v3.1<(↑a.length:Int))) (∃(y5:Int),idx a v3.1=some y5/\ ∃(y6:Int),idx b v3.1=some y6/\Br (y5 !=y6) (P false) (k4 (IntKind.i64.wrap (v3.1+1),()))) (P true)) (0,PUnit.unit)))=fnW Ei (look []) Bo Tryz.f101 (a,b,()) P:=by kernel_rfl
theorem xy (a b:List Int) (P:Bool->Prop):(Br ((↑a.length:Int) !=(↑b.length:Int)) (P false) (Df (λ(v3:Int×PUnit) (k4:Int×PUnit->Prop)=>Br (decide (v3.1<(↑a.length:Int))) (∃(y5:Int),idx a v3.1=some y5/\ ∃(y6:Int),idx b v3.1=some y6/\Br (y5 !=y6) (P false) (k4 (IntKind.i64.wrap (v3.1+1),()))) (P true)) (0,PUnit.unit)))=fnW Ei (look []) Bo Tryz.f139 (a,b,()) P:=by kernel_rfl
theorem xq (xs:List Int) (x:Int) (P:Bool->Prop):(Df (λ(v3:Int×PUnit) (k4:Int×PUnit->Prop)=>Br (decide (v3.1<(↑xs.length:Int))) (∃(y5:Int),idx xs v3.1=some y5/\Br (y5==x) (P true) (k4 (IntKind.i64.wrap (v3.1+1),()))) (P false)) (0,PUnit.unit))=fnW Ei (look []) Qm Tryz.f100 (xs,x,()) P:=by kernel_rfl
theorem UU (x a b:Int) (_:True):fnW Ei (look []) Dk Tryz.f88 (x,a,b,()) (λ(z:Bool)=>z=Ov x a b):=by
 refine Eq.mp (WU x a b _) ?_
 refine Br.dec (λh=>?_) λh=>?_
 ·have h:a<=x:=h
  simp [Ov,h]
 ·exact (Dq λhh=>h hh.1).symm
theorem Zh:Sound Tryz.prog 88 Dk:=
 Sound.Ev Db Bh mixed Tryz.func88 (by kernel_rfl) (by kernel_rfl) λx h=>UU x.1 x.2.1 x.2.2.1 h
theorem Ab7 (x a b:Int) (_:True):fnW Ei (look []) Dk Tryz.f90 (x,a,b,()) (λ(z:Bool)=>z=Ov x a b):=by
 refine Eq.mp (Acq x a b _) ?_
 refine Br.dec (λh=>?_) λh=>?_
 ·have h:a<=x:=h
  simp [Ov,h]
 ·exact (Dq λhh=>h hh.1).symm
theorem Ws:Sound Tryz.prog 90 Dk:=
 Sound.Ev Db Bh mixed Tryz.func90 (by kernel_rfl) (by kernel_rfl) λx h=>Ab7 x.1 x.2.1 x.2.2.1 h
theorem UY (n x:Int) (_:True):fnW Ei (look [(90,Dk)]) bo Tryz.f161 (n,x,()) (λ(z:Bool)=>z=kb n x):=
 Eq.mp (WX n x _) ⟨_,Ab trivial,rfl⟩
theorem x9:Sound Tryz.prog 161 bo:=
 Sound.Ev Db (Av Ws Bh) mixed Tryz.func161 (by kernel_rfl) (by kernel_rfl) λx h=>UY x.1 x.2.1 h
theorem wL (xs:List Int) (x:Int) (h:short xs):fnW Ei (look []) Qm Tryz.f100 (xs,x,()) (λ(z:Bool)=>z=lh xs x):=by
 refine Eq.mp (xq xs x _) ?_
 unfold short at h
 refine Bf xs.length (λv=>v.1) (λj _=>x∉xs.take j) rfl (by simp) ?_
 rintro j ⟨i,⟨⟩⟩ K hj hi hR hK
 dsimp only at hi⊢
 subst hi
 refine Br.dec (λhl=>?_) λhl=>?_
 ·have hl:j<xs.length:=by omega
  refine ⟨_,Bp hl,⟨λhe=>?_,λhe=>?_⟩⟩
  ·have hm:=Aj hl
   simp only [Ww] at he
   rw [he] at hm
   exact (Fa hm).symm
  ·rw [Bg (by omega)]
   refine hK hl _ rfl ?_
   simp only [Nl,ne_eq] at he
   rw [Ay hl]
   simp only [Bb,Ae,not_or]
   exact ⟨hR,λhx=>he hx.symm⟩
 ·have:j=xs.length:=by omega
  subst this
  rw [Ap] at hR
  exact (Dq hR).symm
theorem og:Sound Tryz.prog 100 Qm:=
 Sound.Ev Db Bh mixed Tryz.func100 (by kernel_rfl) (by kernel_rfl) λx h=>wL x.1 x.2.1 h
theorem zp (a b:List Int) (hlen:a.length=b.length) (h:short a):
  Df (λ(v3:Int×PUnit) (k4:Int×PUnit->Prop)=>
   Br (decide (v3.1<(↑a.length:Int))) (∃(y5:Int),idx a v3.1=some y5/\ ∃(y6:Int),idx b v3.1=some y6/\Br (y5 !=y6) (false=Ch a b) (k4 (IntKind.i64.wrap (v3.1+1),())))
    (true=Ch a b))
  (0,PUnit.unit):=by
 unfold short at h
 refine Bf a.length (λv=>v.1) (λj _=>a.take j=b.take j) rfl (by simp) ?_
 rintro j ⟨i,⟨⟩⟩ K hj hi hR hK
 dsimp only at hi⊢
 subst hi
 refine Br.dec (λhl=>?_) λhl=>?_
 ·have jV:j<a.length:=by omega
  have w7:j<b.length:=by omega
  refine ⟨_,Bp jV,_,Bp w7,⟨λhe=>?_,λhe=>?_⟩⟩
  ·simp only [Wx,ne_eq] at he
   refine (Dq λlY=>he ?_).symm
   subst lY
   rfl
  ·rw [Bg (by omega)]
   refine hK jV _ rfl ?_
   simp only [Hc] at he
   rw [Ay jV,Ay w7,hR,he]
 ·have rM:j=a.length:=by omega
  subst rM
  rw [Ap,hlen,Ap] at hR
  exact (Fa hR).symm
theorem HJ (a b:List Int) (h:short a):fnW Ei (look []) Bo Tryz.f101 (a,b,()) (λ(z:Bool)=>z=Ch a b):=by
 refine Eq.mp (JQ a b _) ⟨λhl=>?_,λhl=>?_⟩
 ·simp only [Wx,ne_eq,Ga] at hl
  exact (Dq λlY=>hl (by rw [lY])).symm
 ·simp only [Hc,Ga] at hl
  exact zp a b hl h
theorem Uj:Sound Tryz.prog 101 Bo:=
 Sound.Ev Db Bh mixed Tryz.func101 (by kernel_rfl) (by kernel_rfl) λx h=>HJ x.1 x.2.1 h
theorem wR (a b:List Int) (h:short a):fnW Ei (look []) Bo Tryz.f139 (a,b,()) (λ(z:Bool)=>z=Ch a b):=by
 refine Eq.mp (xy a b _) ⟨λhl=>?_,λhl=>?_⟩
 ·simp only [Wx,ne_eq,Ga] at hl
  exact (Dq λlY=>hl (by rw [lY])).symm
 ·simp only [Hc,Ga] at hl
  exact zp a b hl h
theorem cU:Sound Tryz.prog 139 Bo:=
 Sound.Ev Db Bh mixed Tryz.func139 (by kernel_rfl) (by kernel_rfl) λx h=>wR x.1 x.2.1 h
abbrev TT:Type:=List Int×List (List Int)×List Int×Unit
def Hb (xs:List (List Int)):Prop:=xs.length<=4294967296/\ ∀r∈xs,short r
def Ob (t:TT):Prop:=short t.1/\Hb t.2.1/\short t.2.2.1
def roomy (room:Int):Prop:=0<=room/\room<=4294967296
def pz (n:Nat) (room:Int):Int:=if room-n<0 then-1 else room-n
def Wg (xs:List Int) (room:Int):Int:=pz xs.length room
def vO:List (List Int)->Int->Int
 | [],room=>room
 |r::rs,room=>if Wg r room<0 then-1 else vO rs (Wg r room)
def Qu (xs:List (List Int)) (room:Int):Int:=if pz xs.length room<0 then-1 else vO xs (pz xs.length room)
def Lx (t:TT) (room:Int):Int:=
 if Wg t.1 room<0 then-1 else if Qu t.2.1 (Wg t.1 room)<0 then-1 else
 if Wg t.2.2.1 (Qu t.2.1 (Wg t.1 room))<0 then-1 else Wg t.2.2.1 (Qu t.2.1 (Wg t.1 room))
def Rn (a b:List (List Int)):Bool:=decide (a=b)
def Pk (a b:TT):Bool:=decide (a.1=b.1)&&(decide (a.2.1=b.2.1)&&decide (a.2.2.1=b.2.2.1))
noncomputable abbrev lq:Spec:=Ev (.pair tL (.pair tI .unit)) tI false true (λx=>short x.1/\roomy x.2.1) (λx=>Wg x.1 x.2.1)
noncomputable abbrev fF:Spec:=Ev (.pair da (.pair tI .unit)) tI false true (λx=>Hb x.1/\roomy x.2.1) (λx=>Qu x.1 x.2.1)
noncomputable abbrev bt:Spec:=Ev (.pair Kt (.pair tI .unit)) tI false true (λx=>Ob x.1/\roomy x.2.1) (λx=>Lx x.1 x.2.1)
noncomputable abbrev gA:Spec:=Ev (.pair tL .unit) tL false true (λx=>short x.1) (λx=>x.1)
noncomputable abbrev fG:Spec:=Ev (.pair da .unit) da false true (λx=>Hb x.1) (λx=>x.1)
noncomputable abbrev bw:Spec:=Ev (.pair Kt .unit) Kt false true (λx=>Ob x.1) (λx=>x.1)
noncomputable abbrev Uv:Spec:=Ev (.pair da (.pair da .unit)) .bool false true (λx=>Hb x.1) (λx=>Rn x.1 x.2.1)
noncomputable abbrev Is:Spec:=Ev (.pair Kt (.pair Kt .unit)) .bool false true (λx=>Ob x.1) (λx=>Pk x.1 x.2.1)
theorem Apf (xs:List Int) (room:Int) (P:Int->Prop):(Br (decide (IntKind.i64.wrap (room-(↑xs.length:Int))<0)) (P (-1)) (P (IntKind.i64.wrap (room-(↑xs.length:Int)))))=fnW Ei (look []) lq Tryz.f71 (xs,room,()) P:=by kernel_rfl
theorem Al4 (xs:List (List Int)) (room:Int) (P:Int->Prop):(Br (decide (IntKind.i64.wrap (room-(↑xs.length:Int))<0)) (P (-1)) (Df (λ(v3:Int×Int×PUnit) (k4:Int×Int×PUnit->Prop)=>Br (decide (v3.2.1<(↑xs.length:Int))) (∃(y5:List Int),idx xs v3.2.1=some y5/\ ∃(y6:Int),lq.fn (y5,v3.1,())=some y6/\Br (decide (y6<0)) (P (-1)) (k4 (y6,IntKind.i64.wrap (v3.2.1+1),()))) (P v3.1)) (IntKind.i64.wrap (room-(↑xs.length:Int)),0,PUnit.unit)))=fnW Ei (look [(71,lq)]) fF Tryz.f45 (xs,room,()) P:=by kernel_rfl
theorem XE (t:List Int×List (List Int)×List Int×Unit) (room:Int) (P:Int->Prop):(∃(y3:Int),lq.fn (t.1,room,())=some y3/\Br (decide (y3<0)) (P (-1)) (∃(y4:Int),fF.fn (t.2.1,y3,())=some y4/\Br (decide (y4<0)) (P (-1)) (∃(y5:Int),lq.fn (t.2.2.1,y4,())=some y5/\Br (decide (y5<0)) (P (-1)) (P y5))))=fnW Ei (look [(71,lq),(45,fF)]) bt Tryz.f46 (t,room,()) P:=by kernel_rfl
theorem Aph (xs:List Int) (P:List Int->Prop):((0<=(↑xs.length:Int)/\(↑xs.length:Int)<(↑Cr:Int)+1)/\(↑xs.length:Int)=(↑xs.length:Int)/\0=0/\(List.replicate (↑xs.length:Int).toNat (Int.ofNat 0)).length=(List.replicate (↑xs.length:Int).toNat (Int.ofNat 0)).length/\Df (λ(v2:Int×List Int×PUnit) (k3:Int×List Int×PUnit->Prop)=>Br (decide (v2.1<(↑xs.length:Int))) (∃(y4:Int),idx xs v2.1=some y4/\(0<=v2.1/\v2.1<(↑v2.2.1.length:Int))/\0+v2.1.toNat<v2.2.1.length/\0=0/\v2.2.1.length=(v2.2.1.set (0+v2.1.toNat) y4).length/\k3 (IntKind.i64.wrap (v2.1+1),v2.2.1.set (0+v2.1.toNat) y4,())) (P (List.take v2.2.1.length (List.drop 0 v2.2.1)))) (0,List.replicate (↑xs.length:Int).toNat (Int.ofNat 0),PUnit.unit))=fnW Ei (look []) gA Tryz.f18 (xs,()) P:=by kernel_rfl
theorem Al6 (xs:List (List Int)) (P:List (List Int)->Prop):((0<=(↑xs.length:Int)/\(↑xs.length:Int)<(↑Cr:Int)+1)/\(↑xs.length:Int)=(↑xs.length:Int)/\0=0/\(List.replicate (↑xs.length:Int).toNat ([]:List Int)).length=(List.replicate (↑xs.length:Int).toNat ([]:List Int)).length/\Df (λ(v2:Int×List (List Int)×PUnit) (k3:Int×List (List Int)×PUnit->Prop)=>Br (decide (v2.1<(↑xs.length:Int))) (∃(y4:List Int),idx xs v2.1=some y4/\ ∃(y5:List Int),gA.fn (y4,())=some y5/\(0<=v2.1/\v2.1<(↑v2.2.1.length:Int))/\0+v2.1.toNat<v2.2.1.length/\0=0/\v2.2.1.length=(v2.2.1.set (0+v2.1.toNat) y5).length/\k3 (IntKind.i64.wrap (v2.1+1),v2.2.1.set (0+v2.1.toNat) y5,())) (P (List.take v2.2.1.length (List.drop 0 v2.2.1)))) (0,List.replicate (↑xs.length:Int).toNat ([]:List Int),PUnit.unit))=fnW Ei (look [(18,gA)]) fG Tryz.f49 (xs,()) P:=by kernel_rfl
theorem XG (t:List Int×List (List Int)×List Int×Unit) (P:(List Int×List (List Int)×List Int×Unit)->Prop):(∃(y2:List Int),gA.fn (t.1,())=some y2/\ ∃(y3:List (List Int)),fG.fn (t.2.1,())=some y3/\ ∃(y4:List Int),gA.fn (t.2.2.1,())=some y4/\P (y2,y3,y4,()))=fnW Ei (look [(18,gA),(49,fG)]) bw Tryz.f50 (t,()) P:=by kernel_rfl
theorem Apa (a b:List Int) (P:Bool->Prop):(Br ((↑a.length:Int) !=(↑b.length:Int)) (P false) (Df (λ(v3:Int×PUnit) (k4:Int×PUnit->Prop)=>Br (decide (v3.1<(↑a.length:Int))) (∃(y5:Int),idx a v3.1=some y5/\ ∃(y6:Int),idx b v3.1=some y6/\Br (y5 !=y6) (P false) (k4 (IntKind.i64.wrap (v3.1+1),()))) (P true)) (0,PUnit.unit)))=fnW Ei (look []) Bo Tryz.f22 (a,b,()) P:=by kernel_rfl
theorem Akv (a b:List (List Int)) (P:Bool->Prop):(Br ((↑a.length:Int) !=(↑b.length:Int)) (P false) (Df (λ(v3:Int×PUnit) (k4:Int×PUnit->Prop)=>Br (decide (v3.1<(↑a.length:Int))) (∃(y5:List Int),idx a v3.1=some y5/\ ∃(y6:List Int),idx b v3.1=some y6/\ ∃(y7:Bool),Bo.fn (y5,y6,())=some y7/\Br (!y7) (P false) (k4 (IntKind.i64.wrap (v3.1+1),()))) (P true)) (0,PUnit.unit)))=fnW Ei (look [(22,Bo)]) Uv Tryz.f53 (a,b,()) P:=by kernel_rfl
theorem WT (a b:List Int×List (List Int)×List Int×Unit) (P:Bool->Prop):(∃(y3:Bool),Bo.fn (a.1,b.1,())=some y3/\Br (!y3) (P false) (∃(y4:Bool),Uv.fn (a.2.1,b.2.1,())=some y4/\Br (!y4) (P false) (∃(y5:Bool),Bo.fn (a.2.2.1,b.2.2.1,())=some y5/\Br (!y5) (P false) (P true))))=fnW Ei (look [(22,Bo),(53,Uv)]) Is Tryz.f54 (a,b,()) P:=by kernel_rfl
theorem bj {n:Nat} {room:Int} (h:roomy room) (h2: ¬pz n room<0):roomy (pz n room):=by
 unfold pz roomy at*
 split at h2<;>simp_all
 omega
theorem Aor (xs:List Int) (room:Int) (h:short xs/\roomy room):fnW Ei (look []) lq Tryz.f71 (xs,room,()) (λ(z:Int)=>z=Wg xs room):=by
 obtain ⟨h1,h2,h3⟩:=h
 unfold short at h1
 refine Eq.mp (Apf xs room _) ?_
 rw [Dl (by omega) (by omega)]
 refine Br.dec (λh=>?_) λh=>?_
 ·simp only [Wg,pz,Ab h]
 ·simp only [Wg,pz,Ag h]
theorem yT:Sound Tryz.prog 71 lq:=
 Sound.Ev Db Bh mixed Tryz.func71 (by kernel_rfl) (by kernel_rfl) λx h=>Aor x.1 x.2.1 h
theorem Akb (xs:List (List Int)) (room:Int) (h:Hb xs/\roomy room):fnW Ei (look [(71,lq)]) fF Tryz.f45 (xs,room,()) (λ(z:Int)=>z=Qu xs room):=by
 obtain ⟨⟨h1,h4⟩,h2,h3⟩:=h
 refine Eq.mp (Al4 xs room _) ?_
 rw [Dl (by omega) (by omega)]
 refine Br.dec (λh=>?_) λh=>?_
 ·simp only [Qu,pz,Ab h];rfl
 ·refine Bf xs.length (λv=>v.2.1) (λj v=>roomy v.1/\vO (xs.drop j) v.1=Qu xs room) rfl ?_ ?_
  ·refine ⟨by unfold roomy;omega,?_⟩
   simp only [Qu,pz,Ag h,Dm]
  ·rintro j ⟨r,i,⟨⟩⟩ K hj hi ⟨hr,hR⟩ hK
   dsimp only at hi hr hR⊢
   subst hi
   refine Br.dec (λhl=>?_) λhl=>?_
   ·have hl:j<xs.length:=by omega
    have hd:xs.drop j=xs[j]::xs.drop (j+1):=Cn hl
    refine ⟨_,Bp hl,_,Ab ⟨h4 _ (Aj hl),hr⟩,?_⟩
    rw [hd] at hR
    simp only [vO] at hR
    refine Br.dec (λhn=>?_) λhn=>?_
    ·have hn:Wg xs[j] r<0:=hn
     rw [Ab hn] at hR
     exact hR
    ·have hn: ¬Wg xs[j] r<0:=hn
     rw [Ag hn] at hR
     rw [Bg (by omega)]
     exact hK hl _ rfl ⟨bj hr hn,hR⟩
   ·have:j=xs.length:=by omega
    subst this
    rw [Ij] at hR
    exact hR
theorem vD:Sound Tryz.prog 45 fF:=
 Sound.Ev Db (Av yT Bh) mixed Tryz.func45 (by kernel_rfl) (by kernel_rfl) λx h=>Akb x.1 x.2.1 h
theorem yV: ∀(xs:List (List Int)) (room:Int),roomy room-> ¬vO xs room<0->roomy (vO xs room)
 | [],room,h,_=>h
 |r::rs,room,h,h2=>by
  simp only [vO] at h2⊢
  split
  ·rename_i hn;rw [Ab hn] at h2;exact absurd (show (-1:Int)<0 by decide) h2
  ·rename_i hn;rw [Ag hn] at h2;exact yV rs _ (bj h hn) h2
theorem qR {xs:List (List Int)} {room:Int} (h:roomy room) (h2: ¬Qu xs room<0):roomy (Qu xs room):=by
 unfold Qu at*
 split
 ·rename_i hn;rw [Ab hn] at h2;exact absurd (show (-1:Int)<0 by decide) h2
 ·rename_i hn;rw [Ag hn] at h2;exact yV _ _ (bj h hn) h2
theorem VF (t:TT) (room:Int) (h:Ob t/\roomy room):fnW Ei (look [(71,lq),(45,fF)]) bt Tryz.f46 (t,room,()) (λ(z:Int)=>z=Lx t room):=by
 obtain ⟨⟨h1,h2,h3⟩,hr⟩:=h
 refine Eq.mp (XE t room _) ?_
 refine ⟨_,Ab ⟨h1,hr⟩,Br.dec (λhn=>?_) λhn=>?_⟩
 ·exact (Ab hn).symm
 ·have r1:=bj hr hn
  refine ⟨_,Ab ⟨h2,r1⟩,Br.dec (λhm=>?_) λhm=>?_⟩
  ·exact ((Ag hn).trans (Ab hm)).symm
  ·have r2:=qR r1 hm
   refine ⟨_,Ab ⟨h3,r2⟩,Br.dec (λhk=>?_) λhk=>?_⟩
   ·exact ((Ag hn).trans ((Ag hm).trans (Ab hk))).symm
   ·exact ((Ag hn).trans ((Ag hm).trans (Ag hk))).symm
theorem xe:Sound Tryz.prog 46 bt:=
 Sound.Ev Db (Av yT (Av vD Bh)) mixed Tryz.func46 (by kernel_rfl) (by kernel_rfl) λx h=>VF x.1 x.2.1 h
theorem Kl {α:Type} {ys xs:List α} {j:Nat} (h:j<xs.length) (hl:ys.length=xs.length) (ht:ys.take j=xs.take j):(ys.set j xs[j]).take (j+1)=xs.take (j+1):=by
 have h1:j<(ys.set j xs[j]).length:=by rw [Bi];omega
 rw [Ay h1,Ay h,List.getElem_set_self,List.take_set_of_le (Ao j),ht]
theorem Aot (xs:List Int) (h:short xs):fnW Ei (look []) gA Tryz.f18 (xs,()) (λ(z:List Int)=>z=xs):=by
 unfold short at h
 refine Eq.mp (Aph xs _) ?_
 refine ⟨⟨by omega,by show (xs.length:Int)<(4294967296:Int)+1;omega⟩,rfl,rfl,rfl,?_⟩
 refine Bf xs.length (λv=>v.1) (λj v=>v.2.1.length=xs.length/\v.2.1.take j=xs.take j) rfl ⟨by simp,by simp⟩ ?_
 rintro j ⟨i,ys,⟨⟩⟩ K hj hi ⟨h1,h2⟩ hK
 dsimp only at hi h1 h2⊢
 subst hi
 refine Br.dec (λhl=>?_) λhl=>?_
 ·have hl:j<xs.length:=by omega
  refine ⟨_,Bp hl,⟨by omega,by omega⟩,by rw [Ai];omega,rfl,by rw [Bi],?_⟩
  rw [Bg (by omega),Ai,Bv]
  exact hK hl _ rfl ⟨by rw [Bi];exact h1,Kl hl h1 h2⟩
 ·have:j=xs.length:=by omega
  subst this
  rw [Ap,<-h1,Ap] at h2
  rw [Dm,Ap]
  exact h2
theorem qd:Sound Tryz.prog 18 gA:=
 Sound.Ev Db Bh mixed Tryz.func18 (by kernel_rfl) (by kernel_rfl) λx h=>Aot x.1 h
theorem Akd (xs:List (List Int)) (h:Hb xs):fnW Ei (look [(18,gA)]) fG Tryz.f49 (xs,()) (λ(z:List (List Int))=>z=xs):=by
 obtain ⟨h,h4⟩:=h
 refine Eq.mp (Al6 xs _) ?_
 refine ⟨⟨by omega,by show (xs.length:Int)<(4294967296:Int)+1;omega⟩,rfl,rfl,rfl,?_⟩
 refine Bf xs.length (λv=>v.1) (λj v=>v.2.1.length=xs.length/\v.2.1.take j=xs.take j) rfl ⟨by simp,by simp⟩ ?_
 rintro j ⟨i,ys,⟨⟩⟩ K hj hi ⟨h1,h2⟩ hK
 dsimp only at hi h1 h2⊢
 subst hi
 refine Br.dec (λhl=>?_) λhl=>?_
 ·have hl:j<xs.length:=by omega
  refine ⟨_,Bp hl,_,Ab (h4 _ (Aj hl)),⟨by omega,by omega⟩,by rw [Ai];omega,rfl,by rw [Bi],?_⟩
  rw [Bg (by omega),Ai,Bv]
  exact hK hl _ rfl ⟨by rw [Bi];exact h1,Kl hl h1 h2⟩
 ·have:j=xs.length:=by omega
  subst this
  rw [Ap,<-h1,Ap] at h2
  rw [Dm,Ap]
  exact h2
theorem vF:Sound Tryz.prog 49 fG:=
 Sound.Ev Db (Av qd Bh) mixed Tryz.func49 (by kernel_rfl) (by kernel_rfl) λx h=>Akd x.1 h
theorem VH (t:TT) (h:Ob t):fnW Ei (look [(18,gA),(49,fG)]) bw Tryz.f50 (t,()) (λ(z:TT)=>z=t):=by
 refine Eq.mp (XG t _) ?_
 exact ⟨_,Ab h.1,_,Ab h.2.1,_,Ab h.2.2,rfl⟩
theorem xg:Sound Tryz.prog 50 bw:=
 Sound.Ev Db (Av qd (Av vF Bh)) mixed Tryz.func50 (by kernel_rfl) (by kernel_rfl) λx h=>VH x.1 h
theorem Aom (a b:List Int) (h:short a):fnW Ei (look []) Bo Tryz.f22 (a,b,()) (λ(z:Bool)=>z=Ch a b):=by
 refine Eq.mp (Apa a b _) ⟨λhl=>?_,λhl=>?_⟩
 ·simp only [Wx,ne_eq,Ga] at hl
  exact (Dq λlY=>hl (by rw [lY])).symm
 ·simp only [Hc,Ga] at hl
  exact zp a b hl h
theorem q8:Sound Tryz.prog 22 Bo:=
 Sound.Ev Db Bh mixed Tryz.func22 (by kernel_rfl) (by kernel_rfl) λx h=>Aom x.1 x.2.1 h
theorem Ak2 (a b:List (List Int)) (h:Hb a):fnW Ei (look [(22,Bo)]) Uv Tryz.f53 (a,b,()) (λ(z:Bool)=>z=Rn a b):=by
 obtain ⟨h,h4⟩:=h
 refine Eq.mp (Akv a b _) ⟨λhl=>?_,λhl=>?_⟩
 ·simp only [Wx,ne_eq,Ga] at hl
  exact (Dq λlY=>hl (by rw [lY])).symm
 ·simp only [Hc,Ga] at hl
  refine Bf a.length (λv=>v.1) (λj _=>a.take j=b.take j) rfl (by simp) ?_
  rintro j ⟨i,⟨⟩⟩ K hj hi hR hK
  dsimp only at hi⊢
  subst hi
  refine Br.dec (λIt=>?_) λIt=>?_
  ·have jV:j<a.length:=by omega
   have w7:j<b.length:=by omega
   refine ⟨_,Bp jV,_,Bp w7,_,Ab (h4 _ (Aj jV)),⟨λhe=>?_,λhe=>?_⟩⟩
   ·refine (Dq λlY=>?_).symm
    subst lY
    simp [Ch] at he
   ·rw [Bg (by omega)]
    refine hK jV _ rfl ?_
    simp only [Ch,Bool.not_eq_false',Nf] at he
    rw [Ay jV,Ay w7,hR]
    exact Mc (λx=>List.take j b++ [x]) he
  ·have rM:j=a.length:=by omega
   subst rM
   rw [Ap,hl,Ap] at hR
   exact (Fa hR).symm
theorem vq:Sound Tryz.prog 53 Uv:=
 Sound.Ev Db (Av q8 Bh) mixed Tryz.func53 (by kernel_rfl) (by kernel_rfl) λx h=>Ak2 x.1 x.2.1 h
theorem UT (a b:TT) (h:Ob a):fnW Ei (look [(22,Bo),(53,Uv)]) Is Tryz.f54 (a,b,()) (λ(z:Bool)=>z=Pk a b):=by
 refine Eq.mp (WT a b _) ?_
 refine ⟨_,Ab h.1,⟨λh1=>?_,λh1=>?_⟩⟩
 ·have h1:(!Ch a.1 b.1)=true:=h1
  simp only [Ch] at h1
  unfold Pk
  cases hd:decide (a.1=b.1)<;>simp_all
 ·have h1:(!Ch a.1 b.1)=false:=h1
  simp only [Ch] at h1
  refine ⟨_,Ab h.2.1,⟨λh2=>?_,λh2=>?_⟩⟩
  ·have h2:(!Rn a.2.1 b.2.1)=true:=h2
   simp only [Rn] at h2
   unfold Pk
   cases hd:decide (a.2.1=b.2.1)<;>simp_all
  ·have h2:(!Rn a.2.1 b.2.1)=false:=h2
   simp only [Rn] at h2
   refine ⟨_,Ab h.2.2,⟨λh3=>?_,λh3=>?_⟩⟩
   ·have h3:(!Ch a.2.2.1 b.2.2.1)=true:=h3
    simp only [Ch] at h3
    unfold Pk
    cases hd:decide (a.2.2.1=b.2.2.1)<;>simp_all
   ·have h3:(!Ch a.2.2.1 b.2.2.1)=false:=h3
    simp only [Ch] at h3
    unfold Pk
    simp_all
theorem x6:Sound Tryz.prog 54 Is:=
 Sound.Ev Db (Av q8 (Av vq Bh)) mixed Tryz.func54 (by kernel_rfl) (by kernel_rfl) λx h=>UT x.1 x.2.1 h
def PL (n:Int) (xs:List Int) (k:Nat):Prop:= ∀j (h:j<xs.length),j<k->0<=xs[j]/\xs[j]<=n-1/\(0<j->xs[j-1]<xs[j])
def DL (n:Int) (xs:List Int) (k:Nat):Prop:= ∀j (h:j<xs.length),j<k->0<=xs[j]/\xs[j]<=n-1/\xs[j]∉xs.take j
noncomputable def dec (p:Prop):Bool:= @decide p (Classical.propDecidable p)
theorem Oo {p:Prop} (h:p):true=dec p:=(@Fa p (Classical.propDecidable p) h).symm
theorem Dj {p:Prop} (h: ¬p):false=dec p:=(@Dq p (Classical.propDecidable p) h).symm
theorem Hq {p:Prop} :dec p=true↔p:= @Jz p (Classical.propDecidable p)
theorem Adj {p:Prop} :dec p=false↔ ¬p:= @decide_eq_false_iff_not p (Classical.propDecidable p)
def nOK (n:Int):Prop:=0<=n/\n<=4294967296
noncomputable def Zt (n:Int) (xs:List Int):Bool:=dec (0<xs.length/\PL n xs xs.length)
noncomputable abbrev Jx:Spec:=Ev (.pair tI (.pair tL .unit)) .bool false true (λx=>nOK x.1/\short x.2.1) (λx=>Zt x.1 x.2.1)
theorem xx (n:Int) (xs:List Int) (P:Bool->Prop):(∃(y3:Bool),Dk.fn ((↑xs.length:Int),(1:Int),n,())=some y3/\Br (!y3) (P false) (Df (λ(v4:Int×PUnit) (k5:Int×PUnit->Prop)=>Br (decide (v4.1<(↑xs.length:Int))) (∃(y6:Int),idx xs v4.1=some y6/\ ∃(y7:Bool),Dk.fn (y6,(0:Int),IntKind.i64.wrap (n-(1:Int)),())=some y7/\Br (!y7) (P false) (Br (decide (v4.1>(0:Int))) (∃(y8:Int),idx xs v4.1=some y8/\ ∃(y9:Int),idx xs (IntKind.i64.wrap (v4.1-(1:Int)))=some y9/\Br (decide (y8<=y9)) (P false) (k5 (IntKind.i64.wrap (v4.1+(1:Int)),()))) (k5 (IntKind.i64.wrap (v4.1+(1:Int)),())))) (P true)) ((0:Int),PUnit.unit)))=fnW Ei (look [(88,Dk)]) Jx Tryz.f160 (n,xs,()) P:=by kernel_rfl
theorem JU (n:Int) (xs:List Int) (P:Bool->Prop):(Df (λ(v3:Int×PUnit) (k4:Int×PUnit->Prop)=>Br (decide (v3.1<(↑xs.length:Int))) (∃(y5:Int),idx xs v3.1=some y5/\ ∃(y6:Bool),bo.fn (n,y5,())=some y6/\Br (!y6) (P false) (Br (decide (v3.1>(0:Int))) (∃(y7:Int),idx xs (IntKind.i64.wrap (v3.1-(1:Int)))=some y7/\Br (decide (y7>=y5)) (P false) (k4 (IntKind.i64.wrap (v3.1+(1:Int)),()))) (k4 (IntKind.i64.wrap (v3.1+(1:Int)),())))) (P (decide ((↑xs.length:Int)>(0:Int))))) ((0:Int),PUnit.unit))=fnW Ei (look [(161,bo)]) Jx Tryz.f159 (n,xs,()) P:=by kernel_rfl
theorem qP {n x:Int} (hn:nOK n):kb n x=true↔0<=x/\x<=n-1:=by
 unfold kb nOK at*
 rw [Dl (by omega) (by omega),Jz]
theorem Fo {x a b:Int} :Ov x a b=true↔a<=x/\x<=b:=Jz
theorem Es {b:Bool} (h:(!b)=true): ¬b=true:=by cases b<;>simp_all
theorem Gz {b:Bool} (h:(!b)=false):b=true:=by cases b<;>simp_all
theorem OF {n:Int} {xs:List Int} (h:PL n xs xs.length): ∀j (hj:j<xs.length),(j:Int)<=xs[j]
 |0,hj=>(h 0 hj hj).1
 |j+1,hj=>by
  have h1:=OF h j (by omega)
  have h2:=(h (j+1) hj hj).2.2 (by omega)
  simp only [Nat.add_sub_cancel] at h2
  omega
theorem sI {n:Int} {xs:List Int} {j:Nat} (hl:j<xs.length) (h:PL n xs j) (h1:0<=xs[j]) (h2:xs[j]<=n-1) (h3:0<j->xs[j-1]<xs[j]):PL n xs (j+1):=by
 intro i hi iK
 by_cases e:i=j
 ·subst e;exact ⟨h1,h2,h3⟩
 ·exact h i hi (by omega)
theorem HN (n:Int) (xs:List Int) (h:nOK n/\short xs):fnW Ei (look [(161,bo)]) Jx Tryz.f159 (n,xs,()) (λ(z:Bool)=>z=Zt n xs):=by
 obtain ⟨hn,h⟩:=h
 unfold short at h
 refine Eq.mp (JU n xs _) ?_
 refine Bf xs.length (λv=>v.1) (λj _=>PL n xs j) rfl (λj _ hj=>absurd hj (Dp _)) ?_
 rintro j ⟨i,⟨⟩⟩ K hj hi hR hK
 dsimp only at hi⊢
 subst hi
 refine Br.dec (λhl=>?_) λhl=>?_
 ·have hl:j<xs.length:=by omega
  refine ⟨_,Bp hl,_,Ab trivial,⟨λhp=>?_,λhp=>?_⟩⟩
  ·have hp:=Es hp
   rw [qP hn] at hp
   exact Dj λhh=>hp ⟨(hh.2 j hl hl).1,(hh.2 j hl hl).2.1⟩
  ·have hp:=Gz hp
   rw [qP hn] at hp
   refine Br.dec (λh0=>?_) λh0=>?_
   ·have h0:0<j:=by omega
    rw [Dl (by omega) (by omega),show (j:Int)-1=((j-1:Nat):Int) by omega]
    refine ⟨_,Bp (by omega),Br.dec (λhg=>?_) λhg=>?_⟩
    ·exact Dj λhh=>by have:=(hh.2 j hl hl).2.2 h0;omega
    ·rw [Bg (by omega)]
     exact hK hl _ rfl (sI hl hR hp.1 hp.2 λ_=>by omega)
   ·have h0:j=0:=by omega
    rw [Bg (by omega)]
    exact hK hl _ rfl (sI hl hR hp.1 hp.2 λh=>by omega)
 ·have:j=xs.length:=by omega
  subst this
  by_cases h0:0<xs.length
  ·rw [Fa (show (xs.length:Int)>0 by omega)];exact Oo ⟨h0,hR⟩
  ·rw [Dq (show ¬(xs.length:Int)>0 by omega)];exact Dj λhh=>h0 hh.1
theorem sd:Sound Tryz.prog 159 Jx:=
 Sound.Ev Db (Av x9 Bh) mixed Tryz.func159 (by kernel_rfl) (by kernel_rfl) λx h=>HN x.1 x.2.1 h
theorem wQ (n:Int) (xs:List Int) (h:nOK n/\short xs):fnW Ei (look [(88,Dk)]) Jx Tryz.f160 (n,xs,()) (λ(z:Bool)=>z=Zt n xs):=by
 obtain ⟨hn,h⟩:=h
 unfold short at h
 refine Eq.mp (xx n xs _) ⟨_,Ab trivial,⟨λhp=>?_,λhp=>?_⟩⟩
 ·have hp:=Es hp
  rw [Fo] at hp
  dsimp only at hp
  refine Dj λhh=>hp ⟨by omega,?_⟩
  have:=OF hh.2 (xs.length-1) (by omega)
  have:=(hh.2 (xs.length-1) (by omega) (by omega)).2.1
  omega
 ·have hp:=Gz hp
  rw [Fo] at hp
  dsimp only at hp
  refine Bf xs.length (λv=>v.1) (λj _=>PL n xs j) rfl (λj _ hj=>absurd hj (Dp _)) ?_
  rintro j ⟨i,⟨⟩⟩ K hj hi hR hK
  dsimp only at hi⊢
  subst hi
  refine Br.dec (λhl=>?_) λhl=>?_
  ·have hl:j<xs.length:=by omega
   refine ⟨_,Bp hl,_,Ab trivial,⟨λhq=>?_,λhq=>?_⟩⟩
   ·have hq:=Es hq
    unfold nOK at hn
    rw [Fo,Dl (by omega) (by omega)] at hq
    exact Dj λhh=>hq ⟨(hh.2 j hl hl).1,(hh.2 j hl hl).2.1⟩
   ·have hq:=Gz hq
    unfold nOK at hn
    rw [Fo,Dl (by omega) (by omega)] at hq
    refine Br.dec (λh0=>?_) λh0=>?_
    ·have h0:0<j:=by omega
     rw [Dl (by omega) (by omega),show (j:Int)-1=((j-1:Nat):Int) by omega]
     refine ⟨_,Bp hl,_,Bp (by omega),Br.dec (λhg=>?_) λhg=>?_⟩
     ·exact Dj λhh=>by have:=(hh.2 j hl hl).2.2 h0;omega
     ·rw [Bg (by omega)]
      exact hK hl _ rfl (sI hl hR hq.1 hq.2 λ_=>by omega)
    ·rw [Bg (by omega)]
     exact hK hl _ rfl (sI hl hR hq.1 hq.2 λh=>by omega)
  ·have:j=xs.length:=by omega
   subst this
   exact Oo ⟨by omega,hR⟩
theorem oo:Sound Tryz.prog 160 Jx:=
 Sound.Ev Db (Av Zh Bh) mixed Tryz.func160 (by kernel_rfl) (by kernel_rfl) λx h=>wQ x.1 x.2.1 h
theorem Adk {n:Int} {xs:List Int} {j:Nat} (hl:j<xs.length) (h:DL n xs j) (h1:0<=xs[j]) (h2:xs[j]<=n-1) (h3:xs[j]∉xs.take j):DL n xs (j+1):=by
 intro i hi iK
 by_cases e:i=j
 ·subst e;exact ⟨h1,h2,h3⟩
 ·exact h i hi (by omega)
theorem OW {xs:List Int} (h:short xs) (j:Nat):short (xs.take j):=by
 unfold short at*
 rw [Dd]
 omega
noncomputable abbrev Yh:Spec:=Ev (.pair da (.pair da (.pair (.clo 154 .unit) .unit))) .bool false true (λx=>Hb x.1) (λx=>Rn x.1 x.2.1)
theorem Ape (a b:List Int) (P:Bool->Prop):(∃(y3:Bool),Bo.fn (a,b,())=some y3/\P y3)=fnW Ei (look [(139,Bo)]) Bo Tryz.f154 (a,b,()) P:=by kernel_rfl
theorem QC (a b:List (List Int)) (c:Unit) (P:Bool->Prop):(Br ((↑a.length:Int) !=(↑b.length:Int)) (P false) (Df (λ(v4:Int×PUnit) (k5:Int×PUnit->Prop)=>Br (decide (v4.1<(↑a.length:Int))) (∃(y6:List Int),idx a v4.1=some y6/\ ∃(y7:List Int),idx b v4.1=some y7/\ ∃(y8:Bool),Bo.fn (y6,y7,())=some y8/\Br (!y8) (P false) (k5 (IntKind.i64.wrap (v4.1+(1:Int)),()))) (P true)) ((0:Int),PUnit.unit)))=fnW Ei (look [(154,Bo)]) Yh Tryz.f153 (a,b,c,()) P:=by kernel_rfl
theorem sq (a b:List (List Int)) (P:Bool->Prop):(∃(y3:Bool),Yh.fn (a,b,(),())=some y3/\P y3)=fnW Ei (look [(153,Yh)]) Uv Tryz.f140 (a,b,()) P:=by kernel_rfl
theorem so (a b:List Int×List (List Int)×List Int×Unit) (P:Bool->Prop):(∃(y3:Bool),Bo.fn (a.1,b.1,())=some y3/\Br y3 (∃(y4:Bool),Uv.fn (a.2.1,b.2.1,())=some y4/\Br y4 (∃(y5:Bool),Bo.fn (a.2.2.1,b.2.2.1,())=some y5/\P y5) (P false)) (P false))=fnW Ei (look [(139,Bo),(140,Uv)]) Is Tryz.f114 (a,b,()) P:=by kernel_rfl
abbrev eC:Type:=Int×List Int×List (List Int)×List Int×List Int×List (List Int)×List Int×PUnit
theorem sr (a b:List Int×List (List Int)×List Int×Unit) (P:Bool->Prop):(∃(y3:Bool),Bo.fn (a.1,b.1,())=some y3/\Br (!y3) (P false) (∃(y4:Bool),Bo.fn (a.2.2.1,b.2.2.1,())=some y4/\Br (!y4) (P false) (Br ((↑a.2.1.length:Int) !=(↑b.2.1.length:Int)) (P false) (Df (λ(v5:eC) (k6:eC->Prop)=>Br (decide (v5.1<(↑v5.2.2.1.length:Int))) (∃(y7:List Int),idx v5.2.2.1 v5.1=some y7/\ ∃(y8:List Int),idx v5.2.2.2.2.2.1 v5.1=some y8/\ ∃(y9:Bool),Bo.fn (y7,y8,())=some y9/\Br (!y9) (P false) (k6 (IntKind.i64.wrap (v5.1+(1:Int)),v5.2.1,v5.2.2.1,v5.2.2.2.1,v5.2.2.2.2.1,v5.2.2.2.2.2.1,v5.2.2.2.2.2.2.1,()))) (P true)) ((0:Int),a.1,a.2.1,a.2.2.1,b.1,b.2.1,b.2.2.1,PUnit.unit)))))=fnW Ei (look [(101,Bo)]) Is Tryz.f126 (a,b,()) P:=by kernel_rfl
theorem Aoq (a b:List Int) (h:short a):fnW Ei (look [(139,Bo)]) Bo Tryz.f154 (a,b,()) (λ(z:Bool)=>z=Ch a b):=by
 refine Eq.mp (Ape a b _) ⟨_,Ab h,rfl⟩
theorem WB:Sound Tryz.prog 154 Bo:=
 Sound.Ev Db (Av cU Bh) mixed Tryz.func154 (by kernel_rfl) (by kernel_rfl) λx h=>Aoq x.1 x.2.1 h
theorem NU (a b:List (List Int)) (c:Unit) (h:Hb a):fnW Ei (look [(154,Bo)]) Yh Tryz.f153 (a,b,c,()) (λ(z:Bool)=>z=Rn a b):=by
 obtain ⟨h,h4⟩:=h
 refine Eq.mp (QC a b c _) ⟨λhl=>?_,λhl=>?_⟩
 ·simp only [Wx,ne_eq,Ga] at hl
  exact (Dq λlY=>hl (by rw [lY])).symm
 ·simp only [Hc,Ga] at hl
  refine Bf a.length (λv=>v.1) (λj _=>a.take j=b.take j) rfl (by simp) ?_
  rintro j ⟨i,⟨⟩⟩ K hj hi hR hK
  dsimp only at hi⊢
  subst hi
  refine Br.dec (λIt=>?_) λIt=>?_
  ·have jV:j<a.length:=by omega
   have w7:j<b.length:=by omega
   refine ⟨_,Bp jV,_,Bp w7,_,Ab (h4 _ (Aj jV)),⟨λhe=>?_,λhe=>?_⟩⟩
   ·refine (Dq λlY=>?_).symm
    subst lY
    simp [Ch] at he
   ·rw [Bg (by omega)]
    refine hK jV _ rfl ?_
    simp only [Ch,Bool.not_eq_false',Nf] at he
    rw [Ay jV,Ay w7,hR]
    exact Mc (λx=>List.take j b++ [x]) he
  ·have rM:j=a.length:=by omega
   subst rM
   rw [Ap,hl,Ap] at hR
   exact (Fa hR).symm
theorem vo:Sound Tryz.prog 153 Yh:=
 Sound.Ev Db (Av WB Bh) mixed Tryz.func153 (by kernel_rfl) (by kernel_rfl) λx h=>NU x.1 x.2.1 x.2.2.1 h
theorem rT (a b:List (List Int)) (h:Hb a):fnW Ei (look [(153,Yh)]) Uv Tryz.f140 (a,b,()) (λ(z:Bool)=>z=Rn a b):=by
 refine Eq.mp (sq a b _) ⟨_,Ab h,rfl⟩
theorem kL:Sound Tryz.prog 140 Uv:=
 Sound.Ev Db (Av vo Bh) mixed Tryz.func140 (by kernel_rfl) (by kernel_rfl) λx h=>rT x.1 x.2.1 h
theorem rS (a b:TT) (h:Ob a):fnW Ei (look [(139,Bo),(140,Uv)]) Is Tryz.f114 (a,b,()) (λ(z:Bool)=>z=Pk a b):=by
 refine Eq.mp (so a b _) ⟨_,Ab h.1,⟨λh1=>⟨_,Ab h.2.1,⟨λh2=>⟨_,Ab h.2.2,?_⟩,λh2=>?_⟩⟩,λh1=>?_⟩⟩
 ·have h1:Ch a.1 b.1=true:=h1
  have h2:Rn a.2.1 b.2.1=true:=h2
  simp only [Ch,Rn] at h1 h2
  show Ch a.2.2.1 b.2.2.1=_
  unfold Pk Ch
  rw [h1,h2];rfl
 ·have h1:Ch a.1 b.1=true:=h1
  have h2:Rn a.2.1 b.2.1=false:=h2
  simp only [Ch,Rn] at h1 h2
  unfold Pk
  rw [h1,h2];rfl
 ·have h1:Ch a.1 b.1=false:=h1
  simp only [Ch] at h1
  unfold Pk
  rw [h1];rfl
theorem kK:Sound Tryz.prog 114 Is:=
 Sound.Ev Db (Av cU (Av kL Bh)) mixed Tryz.func114 (by kernel_rfl) (by kernel_rfl) λx h=>rS x.1 x.2.1 h
theorem rU (a b:TT) (h:Ob a):fnW Ei (look [(101,Bo)]) Is Tryz.f126 (a,b,()) (λ(z:Bool)=>z=Pk a b):=by
 obtain ⟨eW,⟨mH,hs4⟩,hs3⟩:=h
 refine Eq.mp (sr a b _) ⟨_,Ab eW,⟨λh1=>?_,λh1=>⟨_,Ab hs3,⟨λh2=>?_,λh2=>⟨λh3=>?_,λh3=>?_⟩⟩⟩⟩⟩
 ·have h1:(!Ch a.1 b.1)=true:=h1
  simp only [Ch,Ef] at h1
  show _=Pk a b
  unfold Pk
  rw [h1];rfl
 ·have h2:(!Ch a.2.2.1 b.2.2.1)=true:=h2
  simp only [Ch,Ef] at h2
  show _=Pk a b
  unfold Pk
  rw [h2];simp
 ·simp only [Wx,ne_eq,Ga] at h3
  show _=Pk a b
  unfold Pk
  rw [Dq (show ¬a.2.1=b.2.1 from λlY=>h3 (by rw [lY]))];simp
 ·simp only [Hc,Ga] at h3
  have h1:(!Ch a.1 b.1)=false:=h1
  have h2:(!Ch a.2.2.1 b.2.2.1)=false:=h2
  simp only [Ch,Bool.not_eq_false',Nf] at h1 h2
  have hE:Pk a b=decide (a.2.1=b.2.1):=by
   unfold Pk
   rw [Fa h1,Fa h2];simp
  refine Bf a.2.1.length (λv=>v.1) (λj v=>v.2=(a.1,a.2.1,a.2.2.1,b.1,b.2.1,b.2.2.1,())/\a.2.1.take j=b.2.1.take j) rfl ⟨rfl,by simp⟩ ?_
  rintro j ⟨i,v⟩ K hj hi ⟨hv,hR⟩ hK
  dsimp only at hi hv⊢
  subst hi hv
  dsimp only
  refine Br.dec (λIt=>?_) λIt=>?_
  ·have jV:j<a.2.1.length:=by omega
   have w7:j<b.2.1.length:=by omega
   refine ⟨_,Bp jV,_,Bp w7,_,Ab (hs4 _ (Aj jV)),⟨λhe=>?_,λhe=>?_⟩⟩
   ·show _=Pk a b
    rw [hE]
    refine (Dq λlY=>?_).symm
    simp [lY,Ch] at he
   ·rw [Bg (by omega)]
    refine hK jV _ rfl ⟨rfl,?_⟩
    simp only [Ch,Bool.not_eq_false',Nf] at he
    rw [Ay jV,Ay w7,hR]
    exact Mc (λx=>List.take j b.2.1++ [x]) he
  ·have rM:j=a.2.1.length:=by omega
   subst rM
   rw [Ap,h3,Ap] at hR
   show _=Pk a b
   rw [hE]
   exact (Fa hR).symm
theorem kN:Sound Tryz.prog 126 Is:=
 Sound.Ev Db (Av Uj Bh) mixed Tryz.func126 (by kernel_rfl) (by kernel_rfl) λx h=>rU x.1 x.2.1 h
theorem iV {t:TT} {room:Int} (h:roomy room) (h2: ¬Lx t room<0):roomy (Lx t room):=by
 have hm: ¬((-1:Int)<0)->False:= λh=>h (by decide)
 unfold Lx at h2⊢
 split
 ·rename_i h3;rw [Ab h3] at h2;exact (hm h2).elim
 ·rename_i h3;rw [Ag h3] at h2
  split
  ·rename_i h4;rw [Ab h4] at h2;exact (hm h2).elim
  ·rename_i h4;rw [Ag h4] at h2
   split
   ·rename_i h5;rw [Ab h5] at h2;exact (hm h2).elim
   ·rename_i h5
    exact bj (qR (bj h h3) h4) h5
theorem IA:roomy 1048576:=⟨by decide,by decide⟩
abbrev PP:Type:=Int×ByteArray×List (List Int)×Unit
noncomputable def Jo (p:List Int):Bool:=dec (1<=p.length/\p.length<=20/\DL p.length p p.length)
noncomputable def Gk (n:Int) (p:List Int):Bool:=dec ((p.length:Int)=n/\Jo p=true)
noncomputable def Rp (n:Int) (g:List (List Int)):Bool:=dec ((1<=n/\n<=20)/\g.length<=8/\ ∀p∈g,Gk n p=true)
def Hs {α:Type} (P:α->Bool):List α->Int->Int
 | [],_=> -1
 |y::r,i=>if P y=true then i else Hs P r (i+1)
abbrev tG1:Ty:= .clo 136 (.pair (.ptr tI) .unit)
def z8 (s:ByteArray) (i:Nat):Prop:= ∃c:UInt8,s[i]?=some c/\65<=c.toNat/\c.toNat<=90/\ ∀k,k<i->s[k]?≠some c
noncomputable def nO (s:ByteArray) (i:Int):Bool:=dec (z8 s i.toNat)
noncomputable def e8 (s:ByteArray):Bool:=dec ((1<=s.size/\s.size<=8)/\ ∀j,j<s.size->z8 s j)
noncomputable def Dy (p:PP):Bool:=dec (Rp p.1 p.2.2.1=true/\e8 p.2.1=true/\p.2.1.size=p.2.2.1.length)
def Eh (p:PP):Prop:=p.2.1.size<=4294967296/\Hb p.2.2.1
noncomputable abbrev Te:Spec:=Ev (.pair tL .unit) tI false true (λ_=>True) (λx=>(List.length x.1:Int))
noncomputable abbrev Hu:Spec:=Ev (.pair tL .unit) .bool false true (λx=>short x.1) (λx=>Jo x.1)
noncomputable abbrev Mp:Spec:=Ev (.pair tI (.pair da .unit)) .bool false true (λx=>Hb x.2.1) (λx=>Rp x.1 x.2.1)
noncomputable abbrev kl:Spec:=Ev (.pair tL (.pair (.ptr tI) .unit)) .bool false true (λx=>short x.1) (λx=>!Gk x.2.1 x.1)
noncomputable abbrev yL:Spec:=Ev (.pair da (.pair tG1 .unit)) tI false true (λx=>Hb x.1) (λx=>Hs (λp=>!Gk x.2.1.1 p) x.1 0)
noncomputable abbrev yJ:Spec:=Ev (.pair da (.pair tG1 .unit)) .bool false true (λx=>Hb x.1) (λx=>List.any x.1 (λp=>!Gk x.2.1.1 p))
noncomputable abbrev eo:Spec:=Ev (.pair .str (.pair tI .unit)) .bool false true (λx=>0<=x.2.1/\x.2.1<x.1.size/\x.1.size<=4294967296) (λx=>nO x.1 x.2.1)
noncomputable abbrev bn:Spec:=Ev (.pair .str .unit) .bool false true (λx=>x.1.size<=4294967296) (λx=>e8 x.1)
noncomputable abbrev Hv:Spec:=Ev (.pair Fl .unit) .bool false true (λx=>Eh x.1) (λx=>Dy x.1)
def aI (p:PP) (room:Int):Int:=if room-p.2.1.size<0 then-1 else if Qu p.2.2.1 (room-p.2.1.size)<0 then-1 else Qu p.2.2.1 (room-p.2.1.size)
def qN (a b:PP):Bool:=decide (a.1=b.1)&&(decide (a.2.1=b.2.1)&&decide (a.2.2.1=b.2.2.1))
noncomputable abbrev yM:Spec:=Ev (.pair Fl (.pair tI .unit)) tI false true (λx=>Eh x.1/\roomy x.2.1) (λx=>aI x.1 x.2.1)
noncomputable abbrev yN:Spec:=Ev (.pair Fl .unit) Fl false true (λx=>Eh x.1) (λx=>x.1)
noncomputable abbrev yK:Spec:=Ev (.pair Fl (.pair Fl .unit)) .bool false true (λx=>Eh x.1) (λx=>qN x.1 x.2.1)
noncomputable abbrev Uw:Spec:=Ev (.pair Kt (.pair tL .unit)) tI false true (λx=>Ob x.1/\short x.2.1) (λx=>Hs (λp=>decide (p=x.2.1)) x.1.2.1 0)
theorem Al0 (xs:List Int) (P:Int->Prop):(P (↑xs.length:Int))=fnW Ei (look []) Te Tryz.f119 (xs,()) P:=by kernel_rfl
theorem DB (p:List Int) (P:Bool->Prop):(∃(y2:Bool),Dk.fn ((↑p.length:Int),(1:Int),(20:Int),())=some y2/\Br (!y2) (P false) (Df (λ(v3:Int×PUnit) (k4:Int×PUnit->Prop)=>Br (decide (v3.1<(↑p.length:Int))) (∃(y5:Int),idx p v3.1=some y5/\ ∃(y6:Bool),Dk.fn (y5,(0:Int),IntKind.i64.wrap ((↑p.length:Int)-(1:Int)),())=some y6/\Br (!y6) (P false) (((0:Int)<=(0:Int)/\(0:Int)<=v3.1/\v3.1<=(↑p.length:Int))/\ ∃(y7:Int),idx p v3.1=some y7/\ ∃(y8:Bool),Qm.fn (List.drop (Int.toNat (0:Int)) (List.take v3.1.toNat p),y7,())=some y8/\Br y8 (P false) (k4 (IntKind.i64.wrap (v3.1+(1:Int)),())))) (P true)) ((0:Int),PUnit.unit)))=fnW Ei (look [(88,Dk),(100,Qm)]) Hu Tryz.f75 (p,()) P:=by kernel_rfl
theorem CW (p:List Int) (P:Bool->Prop):(∃(y2:Int),Te.fn (p,())=some y2/\ ∃(y3:Bool),Dk.fn (y2,(1:Int),(20:Int),())=some y3/\Br (!y3) (P false) (Df (λ(v4:Int×Int×PUnit) (k5:Int×Int×PUnit->Prop)=>Br (decide (v4.2.1<(↑p.length:Int))) (∃(y6:Int),idx p v4.2.1=some y6/\ ∃(y7:Int),Te.fn (p,())=some y7/\ ∃(y8:Bool),Dk.fn (y6,(0:Int),IntKind.i64.wrap (y7-(1:Int)),())=some y8/\Br (!y8) (P false) (¬y6<(0:Int)/\k5 (IntKind.i64.wrap (↑(BitVec.ofInt IntKind.i64.bits v4.1|||BitVec.ofInt IntKind.i64.bits (IntKind.i64.wrap ((1:Int)*(2:Int)^min y6.toNat IntKind.i64.bits))).toNat:Int),IntKind.i64.wrap (v4.2.1+(1:Int)),()))) (¬(↑p.length:Int)<(0:Int)/\P (v4.1==IntKind.i64.wrap (IntKind.i64.wrap ((1:Int)*(2:Int)^min (↑p.length:Int).toNat IntKind.i64.bits)-(1:Int))))) ((0:Int),(0:Int),PUnit.unit)))=fnW Ei (look [(90,Dk),(119,Te)]) Hu Tryz.f134 (p,()) P:=by kernel_rfl
theorem DA (n:Int) (g:List (List Int)) (P:Bool->Prop):(∃(y3:Bool),Dk.fn (n,(1:Int),(20:Int),())=some y3/\Br (!y3) (P false) (Br (decide ((↑g.length:Int)>(8:Int))) (P false) (Df (λ(v4:Int×PUnit) (k5:Int×PUnit->Prop)=>Br (decide (v4.1<(↑g.length:Int))) (∃(y6:List Int),idx g v4.1=some y6/\Br ((↑y6.length:Int) !=n) (P false) (∃(y7:List Int),idx g v4.1=some y7/\ ∃(y8:Bool),Hu.fn (y7,())=some y8/\Br (!y8) (P false) (k5 (IntKind.i64.wrap (v4.1+(1:Int)),())))) (P true)) ((0:Int),PUnit.unit))))=fnW Ei (look [(88,Dk),(75,Hu)]) Mp Tryz.f123 (n,g,()) P:=by kernel_rfl
theorem Afi (p:List Int) (n:Int) (P:Bool->Prop):(∃(y3:Int),Te.fn (p,())=some y3/\Br (y3 !=n) (P true) (∃(y4:Bool),Hu.fn (p,())=some y4/\P !y4))=fnW Ei (look [(119,Te),(134,Hu)]) kl Tryz.f136 (p,n,()) P:=by kernel_rfl
theorem Apd (g:List (List Int)) (n:Int×Unit) (P:Int->Prop):(Df (λ(v3:Int×PUnit) (k4:Int×PUnit->Prop)=>Br (decide (v3.1<(↑g.length:Int))) (∃(y5:List Int),idx g v3.1=some y5/\ ∃(y6:Bool),kl.fn (y5,n.1,())=some y6/\Br y6 (P v3.1) (k4 (IntKind.i64.wrap (v3.1+(1:Int)),()))) (P (-1:Int))) ((0:Int),PUnit.unit))=fnW Ei (look [(136,kl)]) yL Tryz.f150 (g,n,()) P:=by kernel_rfl
theorem Ap9 (g:List (List Int)) (n:Int×Unit) (P:Bool->Prop):(∃(y3:Int),yL.fn (g,n,())=some y3/\P (decide (y3>=(0:Int))))=fnW Ei (look [(150,yL)]) yJ Tryz.f135 (g,n,()) P:=by kernel_rfl
theorem CV (n:Int) (g:List (List Int)) (P:Bool->Prop):(∃(y3:Bool),Dk.fn (n,(1:Int),(20:Int),())=some y3/\Br y3 (Br (decide ((↑g.length:Int)<=(8:Int))) (∃(y4:Bool),yJ.fn (g,(n,()),())=some y4/\P !y4) (P false)) (P false))=fnW Ei (look [(90,Dk),(135,yJ)]) Mp Tryz.f110 (n,g,()) P:=by kernel_rfl
theorem Acm (s:ByteArray) (i:Int) (P:Bool->Prop):((0:Int)<=i/\ ∃(y3:UInt8),s[i.toNat]?=some y3/\Br (decide ((↑y3.toNat:Int)<(65:Int))) (P false) ((0:Int)<=i/\ ∃(y4:UInt8),s[i.toNat]?=some y4/\Br (decide ((↑y4.toNat:Int)>(90:Int))) (P false) (Df (λ(v5:Int×PUnit) (k6:Int×PUnit->Prop)=>Br (decide (v5.1<i)) ((0:Int)<=v5.1/\ ∃(y7:UInt8),s[v5.1.toNat]?=some y7/\(0:Int)<=i/\ ∃(y8:UInt8),s[i.toNat]?=some y8/\Br ((↑y7.toNat:Int)==(↑y8.toNat:Int)) (P false) (k6 (IntKind.i64.wrap (v5.1+(1:Int)),()))) (P true)) ((0:Int),PUnit.unit))))=fnW Ei (look []) eo Tryz.f124 (s,i,()) P:=by kernel_rfl
theorem WW (s:ByteArray) (P:Bool->Prop):(Df (λ(v2:Int×PUnit) (k3:Int×PUnit->Prop)=>Br (decide (v2.1<(↑s.size:Int))) ((0:Int)<=v2.1/\ ∃(y4:UInt8),s[v2.1.toNat]?=some y4/\ ∃(y5:Bool),Dk.fn (IntKind.i64.wrap (↑y4.toNat:Int),(65:Int),(90:Int),())=some y5/\Br (!y5) (P false) (Df (λ(v6:Int×PUnit) (k7:Int×PUnit->Prop)=>Br (decide (v6.1<v2.1)) ((0:Int)<=v6.1/\ ∃(y8:UInt8),s[v6.1.toNat]?=some y8/\(0:Int)<=v2.1/\ ∃(y9:UInt8),s[v2.1.toNat]?=some y9/\Br ((↑y8.toNat:Int)==(↑y9.toNat:Int)) (P false) (k7 (IntKind.i64.wrap (v6.1+(1:Int)),()))) (k3 (IntKind.i64.wrap (v2.1+(1:Int)),()))) ((0:Int),PUnit.unit))) (∃(y4:Bool),Dk.fn ((↑s.size:Int),(1:Int),(8:Int),())=some y4/\P y4)) ((0:Int),PUnit.unit))=fnW Ei (look [(90,Dk)]) bn Tryz.f111 (s,()) P:=by kernel_rfl
abbrev ly:Type:=Int×Int×ByteArray×List (List Int)×PUnit
theorem DC (p:Int×ByteArray×List (List Int)×Unit) (P:Bool->Prop):(Br ((↑p.2.2.1.length:Int)==(0:Int)) (P false) (Br ((↑p.2.1.size:Int) !=(↑p.2.2.1.length:Int)) (P false) (∃(y2:Bool),Mp.fn (p.1,p.2.2.1,())=some y2/\Br (!y2) (P false) (Df (λ(v3:ly) (k4:ly->Prop)=>Br (decide (v3.1<(↑v3.2.2.1.size:Int))) (∃(y5:Bool),eo.fn (v3.2.2.1,v3.1,())=some y5/\Br (!y5) (P false) (k4 (IntKind.i64.wrap (v3.1+(1:Int)),v3.2.1,v3.2.2.1,v3.2.2.2.1,()))) (P true)) ((0:Int),p.1,p.2.1,p.2.2.1,PUnit.unit)))))=fnW Ei (look [(123,Mp),(124,eo)]) Hv Tryz.f93 (p,()) P:=by kernel_rfl
theorem CX (p:Int×ByteArray×List (List Int)×Unit) (P:Bool->Prop):(∃(y2:Bool),Mp.fn (p.1,p.2.2.1,())=some y2/\Br y2 (∃(y3:Bool),bn.fn (p.2.1,())=some y3/\Br y3 (P ((↑p.2.1.size:Int)==(↑p.2.2.1.length:Int))) (P false)) (P false))=fnW Ei (look [(110,Mp),(111,bn)]) Hv Tryz.f84 (p,()) P:=by kernel_rfl
theorem Apg (p:Int×ByteArray×List (List Int)×Unit) (room:Int) (P:Int->Prop):(Br (decide (IntKind.i64.wrap (room-(↑p.2.1.size:Int))<(0:Int))) (P (-1:Int)) (∃(y3:Int),fF.fn (p.2.2.1,IntKind.i64.wrap (room-(↑p.2.1.size:Int)),())=some y3/\Br (decide (y3<(0:Int))) (P (-1:Int)) (P y3)))=fnW Ei (look [(45,fF)]) yM Tryz.f13 (p,room,()) P:=by kernel_rfl
theorem Api (p:Int×ByteArray×List (List Int)×Unit) (P:(Int×ByteArray×List (List Int)×Unit)->Prop):(∃(y2:List (List Int)),fG.fn (p.2.2.1,())=some y2/\P (p.1,p.2.1,y2,()))=fnW Ei (look [(49,fG)]) yN Tryz.f16 (p,()) P:=by kernel_rfl
theorem Apb (a b:Int×ByteArray×List (List Int)×Unit) (P:Bool->Prop):(Br (a.1 !=b.1) (P false) (Br (!a.2.1.toList==b.2.1.toList) (P false) (∃(y3:Bool),Uv.fn (a.2.2.1,b.2.2.1,())=some y3/\Br (!y3) (P false) (P true))))=fnW Ei (look [(53,Uv)]) yK Tryz.f20 (a,b,()) P:=by kernel_rfl
abbrev rm:Type:=Int×List Int×List (List Int)×List Int×PUnit
theorem QK (t:List Int×List (List Int)×List Int×Unit) (xs:List Int) (P:Int->Prop):(Df (λ(v3:rm) (k4:rm->Prop)=>Br (decide (v3.1<(↑v3.2.2.1.length:Int))) (∃(y5:List Int),idx v3.2.2.1 v3.1=some y5/\ ∃(y6:Bool),Bo.fn (y5,xs,())=some y6/\Br y6 (P v3.1) (k4 (IntKind.i64.wrap (v3.1+(1:Int)),v3.2.1,v3.2.2.1,v3.2.2.2.1,()))) (P (-1:Int))) ((0:Int),t.1,t.2.1,t.2.2.1,PUnit.unit))=fnW Ei (look [(101,Bo)]) Uw Tryz.f77 (t,xs,()) P:=by kernel_rfl
theorem Ak7 (xs:List Int) (_:True):fnW Ei (look []) Te Tryz.f119 (xs,()) (λ(z:Int)=>z=(xs.length:Int)):=Eq.mp (Al0 xs _) rfl
theorem fH:Sound Tryz.prog 119 Te:=
 Sound.Ev Db Bh mixed Tryz.func119 (by kernel_rfl) (by kernel_rfl) λx h=>Ak7 x.1 h
theorem CE {α:Type} [DecidableEq α]: ∀(l m:List α),l.Nodup->(∀x∈l,x∈m)->l.length<=m.length
 | [],m,_,_=>Iq _
 |a::l,m,hn,hs=>by
  have ha:a∈m:=hs a (Iw ..)
  have hn:=Cb.1 hn
  have:=CE l (m.erase a) hn.2 λx hx=>(List.mem_erase_of_ne (λ(e:x=a)=>hn.1 (by rw [<-e];exact hx))).2 (hs x (As _ hx))
  rw [List.length_erase_of_mem ha] at this
  have:0<m.length:=List.length_pos_of_mem ha
  simp only [Az]
  omega
def upto (n:Nat):List Int:=(List.range n).map Int.ofNat
theorem PW (n:Nat):(upto n).Nodup:=by
 unfold upto
 exact List.Pairwise.map _ (λa b lY e=>lY (Int.ofNat.inj e)) List.nodup_range
theorem Zu {n:Nat} {x:Int} :x∈upto n↔0<=x/\x<n:=by
 unfold upto
 simp only [Bj,Gg]
 constructor
 ·rintro ⟨a,ha,rfl⟩;exact ⟨Int.natCast_nonneg _,Int.ofNat_lt.2 ha⟩
 ·rintro ⟨h1,h2⟩;exact ⟨x.toNat,by omega,by simp only [Int.ofNat_eq_natCast];omega⟩
theorem jB (n:Nat):(upto n).length=n:=by simp [upto]
theorem iY {xs:List Int} (h: ∀j (hj:j<xs.length),xs[j]∉xs.take j):xs.Nodup:=by
 refine Ew.2 λi j hi hj iK e=>h j hj ?_
 rw [<-e]
 exact List.mem_take_iff_getElem.2 ⟨i,by omega,rfl⟩
theorem vT {xs:List Int} (h:xs.Nodup): ∀j (hj:j<xs.length),xs[j]∉xs.take j:=by
 intro j hj hm
 obtain ⟨i,hi,e⟩:=List.mem_take_iff_getElem.1 hm
 exact Ew.1 h i j (by omega) hj (by omega) e
theorem dg {xs:List Int} (h: ∀x∈xs,0<=x/\x<xs.length):(∀k:Nat,k<xs.length->(k:Int)∈xs)↔ ∀j (hj:j<xs.length),xs[j]∉xs.take j:=by
 constructor
 ·intro ha j hj hm
  have h1:=CE (upto xs.length) (xs.take j++xs.drop (j+1)) (PW _) λx hx=>by
   obtain ⟨h1,h2⟩:=Zu.1 hx
   have hx:=ha x.toNat (by omega)
   rw [show ((x.toNat:Nat):Int)=x by omega] at hx
   rw [<-Ig j xs,Bb,Cn hj,Be] at hx
   rcases hx with hx|rfl|hx
   ·exact Bc _ hx
   ·exact Bc _ hm
   ·exact Bt _ hx
  rw [jB,Ax,Dd,List.length_drop] at h1
  omega
 ·intro hn k hk
  refine Cc λhc=>?_
  have h1:=CE xs ((upto xs.length).erase (k:Int)) (iY hn) λx hx=>by
   refine (List.mem_erase_of_ne λ(e:x=(k:Int))=>hc (by rw [<-e];exact hx)).2 (Zu.2 (h x hx))
  rw [List.length_erase_of_mem (Zu.2 ⟨by omega,by omega⟩),jB] at h1
  omega
def mask (xs:List Int):Nat:=xs.foldl (λm x=>m|||2^x.toNat) 0
theorem UO (xs:List Int) (x:Int):mask (xs++ [x])=mask xs|||2^x.toNat:=by simp [mask]
theorem AF (xs:List Int) (k:Nat): ∀a:Nat,(xs.foldl (λm x=>m|||2^x.toNat) a).testBit k=(a.testBit k||xs.any λx=>decide (x.toNat=k)):=by
 induction xs with
 |nil=>simp
 |cons x xs ih=>
  intro a
  rw [Ih,ih,Nat.testBit_or,Nat.testBit_two_pow,List.any_cons,Bool.or_assoc]
theorem uj (xs:List Int) (k:Nat):(mask xs).testBit k=xs.any λx=>decide (x.toNat=k):=by
 unfold mask
 rw [AF,Nat.zero_testBit,Se]
theorem Aei {xs:List Int} {n:Nat} (h: ∀x∈xs,x.toNat<n):mask xs<2^n:=by
 refine Nat.lt_pow_two_of_testBit _ λk hk=>?_
 rw [uj]
 refine Jm.2 λht=>?_
 obtain ⟨x,hx,he⟩:=Kj.1 ht
 have:=h x hx
 have:=Gs he
 omega
theorem yr {xs:List Int} (h: ∀x∈xs,0<=x/\x<xs.length):mask xs=2^xs.length-1↔ ∀k:Nat,k<xs.length->(k:Int)∈xs:=by
 constructor
 ·intro e k hk
  have h1:=uj xs k
  rw [e,Nat.testBit_two_pow_sub_one,Fa hk] at h1
  obtain ⟨x,hx,he⟩:=Kj.1 h1.symm
  have:=(h x hx).1
  have:=Gs he
  have e:x=(k:Int):=by omega
  exact e▸hx
 ·intro ha
  refine Nat.eq_of_testBit_eq λk=>?_
  rw [uj,Nat.testBit_two_pow_sub_one]
  by_cases hk:k<xs.length
  ·rw [Fa hk]
   exact Kj.2 ⟨k,ha k hk,by simp⟩
  ·rw [Dq hk]
   refine Jm.2 λht=>?_
   obtain ⟨x,hx,he⟩:=Kj.1 ht
   have:=h x hx
   have:=Gs he
   omega
theorem Aeo {m:Nat} {x:Int} (hm:m<2^20) (h0:0<=x) (h1:x<20):
  IntKind.i64.wrap (((BitVec.ofInt IntKind.i64.bits (m:Int)|||BitVec.ofInt IntKind.i64.bits (IntKind.i64.wrap ((1:Int)*(2:Int)^min x.toNat IntKind.i64.bits))).toNat:Nat):Int)=((m|||2^x.toNat:Nat):Int):=by
 have hx:(2:Nat)^x.toNat<2^20:=Nat.pow_lt_pow_right (by omega) (by omega)
 have e1:min x.toNat IntKind.i64.bits=x.toNat:=by show min x.toNat 64=_;omega
 have e2:(1:Int)*(2:Int)^x.toNat=((2^x.toNat:Nat):Int):=by rw [Int.one_mul];exact (Int.natCast_pow 2 _).symm
 rw [e1,e2,Dl (n:=((2^x.toNat:Nat):Int)) (by have:(0:Int)<=((2^x.toNat:Nat):Int):=Int.natCast_nonneg _;omega) (by omega)]
 show IntKind.i64.wrap (((BitVec.ofInt 64 (m:Int)|||BitVec.ofInt 64 ((2^x.toNat:Nat):Int)).toNat:Nat):Int)=_
 rw [BitVec.ofInt_natCast,BitVec.ofInt_natCast,BitVec.toNat_or,BitVec.toNat_ofNat,BitVec.toNat_ofNat,Nat.mod_eq_of_lt (by omega),Nat.mod_eq_of_lt (by omega)]
 have:=Nat.or_lt_two_pow hm hx
 exact Dl (by omega) (by omega)
theorem AP (p:List Int) (h:short p):fnW Ei (look [(88,Dk),(100,Qm)]) Hu Tryz.f75 (p,()) (λ(z:Bool)=>z=Jo p):=by
 have hs:=h
 unfold short at h
 refine Eq.mp (DB p _) ⟨_,Ab trivial,⟨λhp=>?_,λhp=>?_⟩⟩
 ·have hp:=Es hp
  rw [Fo] at hp
  dsimp only at hp
  exact Dj λhh=>hp ⟨by omega,by omega⟩
 ·have hp:=Gz hp
  rw [Fo] at hp
  dsimp only at hp
  refine Bf p.length (λv=>v.1) (λj _=>DL p.length p j) rfl (λj _ hj=>absurd hj (Dp _)) ?_
  rintro j ⟨i,⟨⟩⟩ K hj hi hR hK
  dsimp only at hi⊢
  subst hi
  refine Br.dec (λhl=>?_) λhl=>?_
  ·have hl:j<p.length:=by omega
   refine ⟨_,Bp hl,_,Ab trivial,⟨λhq=>?_,λhq=>?_⟩⟩
   ·have hq:=Es hq
    rw [Fo,Dl (by omega) (by omega)] at hq
    exact Dj λhh=>hq ⟨(hh.2.2 j hl hl).1,(hh.2.2 j hl hl).2.1⟩
   ·have hq:=Gz hq
    rw [Fo,Dl (by omega) (by omega)] at hq
    refine ⟨⟨by omega,by omega,by omega⟩,_,Bp hl,?_⟩
    rw [show (Int.toNat 0)=0 from rfl,Dm,Ai]
    refine ⟨_,Ab (OW hs j),⟨λhc=>?_,λhc=>?_⟩⟩
    ·have hc:decide (p[j]∈p.take j)=true:=hc
     rw [Jz] at hc
     exact Dj λhh=>(hh.2.2 j hl hl).2.2 hc
    ·have hc:decide (p[j]∈p.take j)=false:=hc
     rw [decide_eq_false_iff_not] at hc
     rw [Bg (by omega)]
     exact hK hl _ rfl (Adk hl hR hq.1 hq.2 hc)
  ·have:j=p.length:=by omega
   subst this
   exact Oo ⟨by omega,by omega,hR⟩
theorem Ss:Sound Tryz.prog 75 Hu:=
 Sound.Ev Db (Av Zh (Av og Bh)) mixed Tryz.func75 (by kernel_rfl) (by kernel_rfl) λx h=>AP x.1 h
theorem AK (p:List Int) (h:short p):fnW Ei (look [(90,Dk),(119,Te)]) Hu Tryz.f134 (p,()) (λ(z:Bool)=>z=Jo p):=by
 unfold short at h
 refine Eq.mp (CW p _) ⟨_,Ab trivial,_,Ab trivial,⟨λhp=>?_,λhp=>?_⟩⟩
 ·have hp:=Es hp
  rw [Fo] at hp
  dsimp only at hp
  exact Dj λhh=>hp ⟨by omega,by omega⟩
 ·have hp:=Gz hp
  rw [Fo] at hp
  dsimp only at hp
  refine Bf p.length (λv=>v.2.1) (λj v=>v.1=(mask (p.take j):Int)/\ ∀x∈p.take j,0<=x/\x<p.length) rfl ⟨rfl,by simp⟩ ?_
  rintro j ⟨m,i,⟨⟩⟩ K hj hi ⟨hm,hR⟩ hK
  dsimp only at hi hm⊢
  subst hi hm
  refine Br.dec (λhl=>?_) λhl=>?_
  ·have hl:j<p.length:=by omega
   refine ⟨_,Bp hl,_,Ab trivial,_,Ab trivial,⟨λhq=>?_,λhq=>?_⟩⟩
   ·have hq:=Es hq
    rw [Fo] at hq
    dsimp only at hq
    rw [Dl (by omega) (by omega)] at hq
    exact Dj λhh=>hq ⟨(hh.2.2 j hl hl).1,(hh.2.2 j hl hl).2.1⟩
   ·have hq:=Gz hq
    rw [Fo] at hq
    dsimp only at hq
    rw [Dl (by omega) (by omega)] at hq
    refine ⟨by omega,?_⟩
    rw [Bg (by omega)]
    have hb:mask (p.take j)<2^20:=Aei λx hx=>by have:=hR x hx;omega
    refine hK hl _ rfl ⟨?_,?_⟩
    ·dsimp only
     rw [Aeo hb hq.1 (by omega),Ay hl,UO]
    ·rw [Ay hl]
     intro x hx
     rcases Bb.1 hx with hx|hx
     ·exact hR x hx
     ·rw [Ae.1 hx];omega
  ·have:j=p.length:=by omega
   subst this
   rw [Ap] at hR⊢
   refine ⟨by omega,?_⟩
   have hx:(2:Nat)^p.length<=2^20:=Nat.pow_le_pow_right (by omega) (by omega)
   have TZ:0<(2:Nat)^p.length:=Nat.two_pow_pos _
   have e1:min (p.length:Int).toNat IntKind.i64.bits=p.length:=by show min (p.length:Int).toNat 64=_;omega
   have e2:(1:Int)*(2:Int)^p.length=((2^p.length:Nat):Int):=by rw [Int.one_mul];exact (Int.natCast_pow 2 _).symm
   rw [e1,e2,Dl (n:=((2^p.length:Nat):Int)) (by omega) (by omega),Dl (by omega) (by omega)]
   have hE:((mask p:Int)==((2^p.length:Nat):Int)-1)=decide (mask p=2^p.length-1):=by
    rw [Bool.eq_iff_iff,Ww,Jz]
    omega
   show ((mask p:Int)==((2^p.length:Nat):Int)-1)=Jo p
   rw [hE]
   by_cases hf:mask p=2^p.length-1
   ·rw [Fa hf]
    have hn:=(dg hR).1 ((yr hR).1 hf)
    refine Oo ⟨by omega,by omega,λj hj _=>?_⟩
    have:=hR _ (Aj hj)
    exact ⟨this.1,by omega,hn j hj⟩
   ·rw [Dq hf]
    refine Dj λhh=>hf ((yr hR).2 ((dg hR).2 λj hj=>(hh.2.2 j hj hj).2.2))
theorem ez:Sound Tryz.prog 134 Hu:=
 Sound.Ev Db (Av Ws (Av fH Bh)) mixed Tryz.func134 (by kernel_rfl) (by kernel_rfl) λx h=>AK x.1 h
theorem AO (n:Int) (g:List (List Int)) (h:Hb g):fnW Ei (look [(88,Dk),(75,Hu)]) Mp Tryz.f123 (n,g,()) (λ(z:Bool)=>z=Rp n g):=by
 obtain ⟨h,h4⟩:=h
 refine Eq.mp (DA n g _) ⟨_,Ab trivial,⟨λhp=>?_,λhp=>?_⟩⟩
 ·have hp:=Es hp
  rw [Fo] at hp
  exact Dj λhh=>hp hh.1
 ·have hp:=Gz hp
  rw [Fo] at hp
  refine Br.dec (λhg=>?_) λhg=>?_
  ·exact Dj λhh=>by have:=hh.2.1;omega
  ·refine Bf g.length (λv=>v.1) (λj _=> ∀p∈g.take j,Gk n p=true) rfl (by simp) ?_
   rintro j ⟨i,⟨⟩⟩ K hj hi hR hK
   dsimp only at hi⊢
   subst hi
   refine Br.dec (λhl=>?_) λhl=>?_
   ·have hl:j<g.length:=by omega
    have hm:g[j]∈g:=Aj hl
    refine ⟨_,Bp hl,⟨λhe=>?_,λhe=>?_⟩⟩
    ·simp only [Wx,ne_eq] at he
     exact Dj λhh=>he (Hq.1 (hh.2.2 _ hm)).1
    ·simp only [Hc] at he
     refine ⟨_,Bp hl,_,Ab (h4 _ hm),⟨λhq=>?_,λhq=>?_⟩⟩
     ·have hq:=Es hq
      exact Dj λhh=>hq (Hq.1 (hh.2.2 _ hm)).2
     ·have hq:=Gz hq
      rw [Bg (by omega)]
      refine hK hl _ rfl ?_
      rw [Ay hl]
      intro x hx
      rcases Bb.1 hx with hx|hx
      ·exact hR x hx
      ·rw [Ae.1 hx];exact Hq.2 ⟨he,hq⟩
   ·have:j=g.length:=by omega
    subst this
    rw [Ap] at hR
    exact Oo ⟨hp,by omega,hR⟩
theorem eA:Sound Tryz.prog 123 Mp:=
 Sound.Ev Db (Av Zh (Av Ss Bh)) mixed Tryz.func123 (by kernel_rfl) (by kernel_rfl) λx h=>AO x.1 x.2.1 h
theorem Aeq (p:List Int) (n:Int) (h:short p):fnW Ei (look [(119,Te),(134,Hu)]) kl Tryz.f136 (p,n,()) (λ(z:Bool)=>z=!Gk n p):=by
 refine Eq.mp (Afi p n _) ⟨_,Ab trivial,⟨λhe=>?_,λhe=>⟨_,Ab h,?_⟩⟩⟩
 ·simp only [Wx,ne_eq] at he
  have:Gk n p=false:=Adj.2 λhh=>he hh.1
  rw [this];rfl
 ·simp only [Hc] at he
  show (!Jo p)=_
  congr 1
  cases hp:Jo p with
  |true=>exact Oo ⟨he,hp⟩
  |false=>exact Dj λhh=>by rw [hh.2] at hp;cases hp
theorem IK:Sound Tryz.prog 136 kl:=
 Sound.Ev Db (Av fH (Av ez Bh)) mixed Tryz.func136 (by kernel_rfl) (by kernel_rfl) λx h=>Aeq x.1 x.2.1 h
theorem qO {α:Type} (P:α->Bool): ∀(l:List α) (i:Int),0<=i->(0<=Hs P l i↔l.any P=true)
 | [],i,_=>by simp [Hs]
 |y::r,i,h=>by
  simp only [Hs,List.any_cons,Ka]
  split
  ·rename_i hy;simp [hy,h]
  ·rename_i hy;rw [qO P r (i+1) (by omega)];simp [hy]
theorem Aop (g:List (List Int)) (n:Int×Unit) (h:Hb g):fnW Ei (look [(136,kl)]) yL Tryz.f150 (g,n,()) (λ(z:Int)=>z=Hs (λp=>!Gk n.1 p) g 0):=by
 obtain ⟨h,h4⟩:=h
 refine Eq.mp (Apd g n _) ?_
 refine Bf g.length (λv=>v.1) (λj _=>Hs (λp=>!Gk n.1 p) (g.drop j) j=Hs (λp=>!Gk n.1 p) g 0) rfl (by simp) ?_
 rintro j ⟨i,⟨⟩⟩ K hj hi hR hK
 dsimp only at hi⊢
 subst hi
 refine Br.dec (λhl=>?_) λhl=>?_
 ·have hl:j<g.length:=by omega
  rw [Cn hl] at hR
  simp only [Hs] at hR
  refine ⟨_,Bp hl,_,Ab (h4 _ (Aj hl)),⟨λhe=>?_,λhe=>?_⟩⟩
  ·have he:(!Gk n.1 g[j])=true:=he
   rw [Ab he] at hR
   exact hR
  ·have he:(!Gk n.1 g[j])=false:=he
   rw [Ag (by rw [he];decide)] at hR
   rw [Bg (by omega)]
   exact hK hl _ rfl (by push_cast;exact hR)
 ·have:j=g.length:=by omega
  subst this
  rw [Ij] at hR
  exact hR
theorem WA:Sound Tryz.prog 150 yL:=
 Sound.Ev Db (Av IK Bh) mixed Tryz.func150 (by kernel_rfl) (by kernel_rfl) λx h=>Aop x.1 x.2.1 h
theorem Aol (g:List (List Int)) (n:Int×Unit) (h:Hb g):fnW Ei (look [(150,yL)]) yJ Tryz.f135 (g,n,()) (λ(z:Bool)=>z=List.any g (λp=>!Gk n.1 p)):=by
 refine Eq.mp (Ap9 g n _) ⟨_,Ab h,?_⟩
 rw [Bool.eq_iff_iff,Jz]
 exact qO _ g 0 (Nt 0)
theorem VY:Sound Tryz.prog 135 yJ:=
 Sound.Ev Db (Av WA Bh) mixed Tryz.func135 (by kernel_rfl) (by kernel_rfl) λx h=>Aol x.1 x.2.1 h
theorem AJ (n:Int) (g:List (List Int)) (h:Hb g):fnW Ei (look [(90,Dk),(135,yJ)]) Mp Tryz.f110 (n,g,()) (λ(z:Bool)=>z=Rp n g):=by
 refine Eq.mp (CV n g _) ⟨_,Ab trivial,⟨λhp=>?_,λhp=>?_⟩⟩
 ·have hp:Ov n 1 20=true:=hp
  rw [Fo] at hp
  refine Br.dec (λhl=>⟨_,Ab h,?_⟩) λhl=>?_
  ·show (!List.any g (λp=>!Gk n p))=Rp n g
   cases ha:List.any g (λp=>!Gk n p) with
   |true=>
    obtain ⟨p,yc,RS⟩:=Kj.1 ha
    exact Dj λhh=>by rw [hh.2.2 p yc] at RS;cases RS
   |false=>
    refine Oo ⟨hp,by omega,λp hm=>?_⟩
    have:=List.any_eq_false.1 ha p hm
    simpa using this
  ·exact Dj λhh=>by have:=hh.2.1;omega
 ·refine Dj λhh=>?_
  have:Ov n 1 20=true:=Fo.2 hh.1
  have hp:Ov n 1 20=false:=hp
  rw [this] at hp;cases hp
theorem q9:Sound Tryz.prog 110 Mp:=
 Sound.Ev Db (Av Ws (Av VY Bh)) mixed Tryz.func110 (by kernel_rfl) (by kernel_rfl) λx h=>AJ x.1 x.2.1 h
theorem Mr {s:ByteArray} {k:Nat} (h:k<s.size):s[k]?=some s[k]:=getElem?_pos s k h
theorem Ab3 (s:ByteArray) (i:Int) (h:0<=i/\i<s.size/\s.size<=4294967296):fnW Ei (look []) eo Tryz.f124 (s,i,()) (λ(z:Bool)=>z=nO s i):=by
 obtain ⟨h1,h2,h3⟩:=h
 have hi:i.toNat<s.size:=by omega
 refine Eq.mp (Acm s i _) ⟨h1,_,Mr hi,Br.dec (λhq=>?_) λhq=>⟨h1,_,Mr hi,Br.dec (λhr=>?_) λhr=>?_⟩⟩
 ·refine Dj λ⟨c,hc,hc1,_⟩=>?_
  rw [Mr hi] at hc;cases hc;omega
 ·refine Dj λ⟨c,hc,_,hc1,_⟩=>?_
  rw [Mr hi] at hc;cases hc;omega
 ·refine Bf i.toNat (λv=>v.1) (λj _=> ∀k,k<j->s[k]?≠some s[i.toNat]) rfl (λk hk=>absurd hk (Dp _)) ?_
  rintro j ⟨i',⟨⟩⟩ K hj nz hR hK
  dsimp only at nz⊢
  subst nz
  refine Br.dec (λhl=>?_) λhl=>?_
  ·have hl:j<i.toNat:=by omega
   have hj:j<s.size:=by omega
   rw [Ai]
   refine ⟨by omega,_,Mr hj,h1,_,Mr hi,⟨λhe=>?_,λhe=>?_⟩⟩
   ·simp only [Ww,Ga] at he
    refine Dj λ⟨c,hc,_,_,hc1⟩=>?_
    rw [Mr hi] at hc;cases hc
    exact hc1 j hl (by rw [Mr hj,UInt8.toNat_inj.1 he])
   ·simp only [Nl,ne_eq,Ga] at he
    rw [Bg (by omega)]
    refine hK hl _ rfl λk hk=>?_
    by_cases e:k=j
    ·subst e
     rw [Mr hj]
     exact λe=>he (by rw [Ba e])
    ·exact hR k (by omega)
  ·have:j=i.toNat:=by omega
   subst this
   exact Oo ⟨_,Mr hi,by omega,by omega,hR⟩
theorem BS:Sound Tryz.prog 124 eo:=
 Sound.Ev Db Bh mixed Tryz.func124 (by kernel_rfl) (by kernel_rfl) λx h=>Ab3 x.1 x.2.1 h
theorem UX (s:ByteArray) (h:s.size<=4294967296):fnW Ei (look [(90,Dk)]) bn Tryz.f111 (s,()) (λ(z:Bool)=>z=e8 s):=by
 refine Eq.mp (WW s _) ?_
 refine Bf s.size (λv=>v.1) (λj _=> ∀k,k<j->z8 s k) rfl (λk hk=>absurd hk (Dp _)) ?_
 rintro j ⟨i,⟨⟩⟩ K hj hi hR hK
 dsimp only at hi⊢
 subst hi
 refine Br.dec (λhl=>?_) λhl=>?_
 ·have hl:j<s.size:=by omega
  rw [Ai]
  have hb:=(s[j]).toNat_lt
  refine ⟨by omega,_,Mr hl,_,Ab trivial,⟨λhq=>?_,λhq=>?_⟩⟩
  ·have hq:=Es hq
   rw [Fo] at hq
   dsimp only at hq
   rw [Dl (by omega) (by omega)] at hq
   refine Dj λhh=>?_
   obtain ⟨c,hc,hc1,hc2,_⟩:=hh.2 j hl
   rw [Mr hl] at hc;cases hc
   exact hq ⟨by omega,by omega⟩
  ·have hq:=Gz hq
   rw [Fo] at hq
   dsimp only at hq
   rw [Dl (by omega) (by omega)] at hq
   refine Bf j (λv=>v.1) (λm _=> ∀k,k<m->s[k]?≠some s[j]) rfl (λk hk=>absurd hk (Dp _)) ?_
   rintro m ⟨i',⟨⟩⟩ K' hm nz hR' hK'
   dsimp only at nz⊢
   subst nz
   refine Br.dec (λKm=>?_) λKm=>?_
   ·have Km:m<j:=by omega
    have FM:m<s.size:=by omega
    rw [Ai]
    refine ⟨by omega,_,Mr FM,by omega,_,Mr hl,⟨λhe=>?_,λhe=>?_⟩⟩
    ·simp only [Ww,Ga] at he
     refine Dj λhh=>?_
     obtain ⟨c,hc,_,_,hc1⟩:=hh.2 j hl
     rw [Mr hl] at hc;cases hc
     exact hc1 m Km (by rw [Mr FM,UInt8.toNat_inj.1 he])
    ·simp only [Nl,ne_eq,Ga] at he
     rw [Bg (by omega)]
     refine hK' Km _ rfl λk hk=>?_
     by_cases e:k=m
     ·subst e
      rw [Mr FM]
      exact λe=>he (by rw [Ba e])
     ·exact hR' k (by omega)
   ·have:m=j:=by omega
    subst this
    rw [Bg (by omega)]
    refine hK hl _ rfl λk hk=>?_
    by_cases e:k=m
    ·subst e
     exact ⟨_,Mr hl,by omega,by omega,hR'⟩
    ·exact hR k (by omega)
 ·have:j=s.size:=by omega
  subst this
  refine ⟨_,Ab trivial,?_⟩
  show Ov s.size 1 8=_
  cases hr:Ov s.size 1 8 with
  |true=>rw [Fo] at hr;exact Oo ⟨by omega,hR⟩
  |false=>refine Dj λhh=>?_;rw [Fo.2 ⟨by omega,by omega⟩] at hr;cases hr
theorem x8:Sound Tryz.prog 111 bn:=
 Sound.Ev Db (Av Ws Bh) mixed Tryz.func111 (by kernel_rfl) (by kernel_rfl) λx h=>UX x.1 h
theorem PX {p:PP} (h:Dy p=true):1<=p.1/\p.1<=20/\1<=p.2.2.1.length/\p.2.2.1.length<=8:=by
 obtain ⟨h1,h2,h3⟩:=Hq.1 h
 obtain ⟨h4,h5,_⟩:=Hq.1 h1
 obtain ⟨h6,_⟩:=Hq.1 h2
 omega
theorem AQ (p:PP) (h:Eh p):fnW Ei (look [(123,Mp),(124,eo)]) Hv Tryz.f93 (p,()) (λ(z:Bool)=>z=Dy p):=by
 obtain ⟨hn,hg⟩:=h
 refine Eq.mp (DC p _) ⟨λh0=>?_,λh0=>⟨λh1=>?_,λh1=>⟨_,Ab hg,⟨λh2=>?_,λh2=>?_⟩⟩⟩⟩
 ·simp only [Ww] at h0
  exact Dj λhh=>by obtain ⟨_,h2,h3⟩:=hh;have:=(Hq.1 h2).1;omega
 ·simp only [Wx,ne_eq,Ga] at h1
  exact Dj λhh=>h1 hh.2.2
 ·have h2:=Es h2
  exact Dj λhh=>h2 hh.1
 ·simp only [Nl,ne_eq] at h0
  simp only [Hc,Ga] at h1
  have h2:Rp p.1 p.2.2.1=true:=Gz h2
  refine Bf p.2.1.size (λv=>v.1) (λj v=>v.2=(p.1,p.2.1,p.2.2.1,())/\ ∀k,k<j->z8 p.2.1 k) rfl ⟨rfl,λk hk=>absurd hk (Dp _)⟩ ?_
  rintro j ⟨i,v⟩ K hj hi ⟨hv,hR⟩ hK
  dsimp only at hi hv⊢
  subst hi hv
  dsimp only
  refine Br.dec (λhl=>?_) λhl=>?_
  ·have hl:j<p.2.1.size:=by omega
   refine ⟨_,Ab ⟨Int.natCast_nonneg j,Int.ofNat_lt.2 hl,hn⟩,⟨λhq=>?_,λhq=>?_⟩⟩
   ·have hq: ¬nO p.2.1 j=true:=Es hq
    refine Dj λhh=>hq (Hq.2 ?_)
    rw [Ai]
    exact (Hq.1 hh.2.1).2 j hl
   ·have hq:nO p.2.1 j=true:=Gz hq
    have hq:=Hq.1 hq
    rw [Ai] at hq
    rw [Bg (by omega)]
    refine hK hl _ rfl ⟨rfl,λk hk=>?_⟩
    by_cases e:k=j
    ·subst e;exact hq
    ·exact hR k (by omega)
  ·have:j=p.2.1.size:=by omega
   subst this
   have:=(Hq.1 h2).2.1
   exact Oo ⟨h2,Hq.2 ⟨⟨by omega,by omega⟩,hR⟩,h1⟩
theorem Yt:Sound Tryz.prog 93 Hv:=
 Sound.Ev Db (Av eA (Av BS Bh)) mixed Tryz.func93 (by kernel_rfl) (by kernel_rfl) λx h=>AQ x.1 h
theorem AL (p:PP) (h:Eh p):fnW Ei (look [(110,Mp),(111,bn)]) Hv Tryz.f84 (p,()) (λ(z:Bool)=>z=Dy p):=by
 obtain ⟨hn,hg⟩:=h
 refine Eq.mp (CX p _) ⟨_,Ab hg,⟨λh1=>⟨_,Ab hn,⟨λh2=>?_,λh2=>?_⟩⟩,λh1=>?_⟩⟩
 ·have h1:Rp p.1 p.2.2.1=true:=h1
  have h2:e8 p.2.1=true:=h2
  by_cases e:p.2.1.size=p.2.2.1.length
  ·rw [e,beq_self_eq_true];exact Oo ⟨h1,h2,e⟩
  ·rw [show ((p.2.1.size:Int)==(p.2.2.1.length:Int))=false from Nl.2 (by omega)];exact Dj λhh=>e hh.2.2
 ·have h2:e8 p.2.1=false:=h2
  exact Dj λhh=>by rw [hh.2.1] at h2;cases h2
 ·have h1:Rp p.1 p.2.2.1=false:=h1
  exact Dj λhh=>by rw [hh.1] at h1;cases h1
theorem Ys:Sound Tryz.prog 84 Hv:=
 Sound.Ev Db (Av q9 (Av x8 Bh)) mixed Tryz.func84 (by kernel_rfl) (by kernel_rfl) λx h=>AL x.1 h
theorem Aos (p:PP) (room:Int) (h:Eh p/\roomy room):fnW Ei (look [(45,fF)]) yM Tryz.f13 (p,room,()) (λ(z:Int)=>z=aI p room):=by
 obtain ⟨⟨h1,h2⟩,h3,h4⟩:=h
 refine Eq.mp (Apg p room _) ?_
 rw [Dl (by omega) (by omega)]
 refine Br.dec (λhn=>?_) λhn=>⟨_,Ab ⟨h2,by dsimp only;omega,by dsimp only;omega⟩,Br.dec (λhm=>?_) λhm=>?_⟩
 ·simp only [aI,Ab hn]
 ·exact ((Ag hn).trans (Ab hm)).symm
 ·exact ((Ag hn).trans (Ag hm)).symm
theorem WC:Sound Tryz.prog 13 yM:=
 Sound.Ev Db (Av vD Bh) mixed Tryz.func13 (by kernel_rfl) (by kernel_rfl) λx h=>Aos x.1 x.2.1 h
theorem Aou (p:PP) (h:Eh p):fnW Ei (look [(49,fG)]) yN Tryz.f16 (p,()) (λ(z:PP)=>z=p):=Eq.mp (Api p _) ⟨_,Ab h.2,rfl⟩
theorem WD:Sound Tryz.prog 16 yN:=
 Sound.Ev Db (Av vF Bh) mixed Tryz.func16 (by kernel_rfl) (by kernel_rfl) λx h=>Aou x.1 h
theorem EG {a b:ByteArray} :(a.toList==b.toList)=decide (a=b):=by
 rw [Bool.eq_iff_iff,Ww,Jz,ByteArray.toList_eq,ByteArray.toList_eq]
 exact ⟨λh=>ByteArray.ext (Array.toList_inj.1 h),λh=>by rw [h]⟩
theorem Aon (a b:PP) (h:Eh a):fnW Ei (look [(53,Uv)]) yK Tryz.f20 (a,b,()) (λ(z:Bool)=>z=qN a b):=by
 refine Eq.mp (Apb a b _) ⟨λh1=>?_,λh1=>⟨λh2=>?_,λh2=>⟨_,Ab h.2,⟨λh3=>?_,λh3=>?_⟩⟩⟩⟩
 ·simp only [Wx,ne_eq] at h1
  unfold qN
  rw [Dq h1];rfl
 ·rw [EG] at h2
  unfold qN
  cases hd:decide (a.2.1=b.2.1)<;>simp_all
 ·have h3:(!Rn a.2.2.1 b.2.2.1)=true:=h3
  simp only [Rn,Ef] at h3
  unfold qN
  rw [h3];simp
 ·have h3:(!Rn a.2.2.1 b.2.2.1)=false:=h3
  rw [EG] at h2
  simp only [Rn] at h3
  simp only [Hc] at h1
  unfold qN
  simp_all
theorem VZ:Sound Tryz.prog 20 yK:=
 Sound.Ev Db (Av vq Bh) mixed Tryz.func20 (by kernel_rfl) (by kernel_rfl) λx h=>Aon x.1 x.2.1 h
theorem NC (p:PP):qN p p=true:=by simp [qN]
theorem OD (t:TT) (xs:List Int) (h:Ob t/\short xs):fnW Ei (look [(101,Bo)]) Uw Tryz.f77 (t,xs,()) (λ(z:Int)=>z=Hs (λp=>decide (p=xs)) t.2.1 0):=by
 obtain ⟨⟨_,⟨h,h4⟩,_⟩,_⟩:=h
 refine Eq.mp (QK t xs _) ?_
 refine Bf t.2.1.length (λv=>v.1) (λj v=>v.2=(t.1,t.2.1,t.2.2.1,())/\Hs (λp=>decide (p=xs)) (t.2.1.drop j) j=Hs (λp=>decide (p=xs)) t.2.1 0) rfl ⟨rfl,by simp⟩ ?_
 rintro j ⟨i,v⟩ K hj hi ⟨hv,hR⟩ hK
 dsimp only at hi hv⊢
 subst hi hv
 dsimp only
 refine Br.dec (λhl=>?_) λhl=>?_
 ·have hl:j<t.2.1.length:=by omega
  rw [Cn hl] at hR
  simp only [Hs] at hR
  refine ⟨_,Bp hl,_,Ab (h4 _ (Aj hl)),⟨λhe=>?_,λhe=>?_⟩⟩
  ·have he:decide (t.2.1[j]=xs)=true:=he
   rw [Ab he] at hR
   exact hR
  ·have he:decide (t.2.1[j]=xs)=false:=he
   rw [Ag (by rw [he];decide)] at hR
   rw [Bg (by omega)]
   exact hK hl _ rfl ⟨rfl,by push_cast;exact hR⟩
 ·have:j=t.2.1.length:=by omega
  subst this
  rw [Ij] at hR
  exact hR
theorem vE:Sound Tryz.prog 77 Uw:=
 Sound.Ev Db (Av Uj Bh) mixed Tryz.func77 (by kernel_rfl) (by kernel_rfl) λx h=>OD x.1 x.2.1 h
noncomputable abbrev er:Spec:=Ev (.pair tI (.pair tL .unit)) .bool false true (λx=>short x.2.1) (λx=>Gk x.1 x.2.1)
noncomputable abbrev Yk:Spec:=Ev (.pair Fl (.pair tL .unit)) .bool false true (λx=>short x.2.1) (λx=>Gk x.1.1 x.2.1)
noncomputable abbrev Nj:Spec:=Ev (.pair Fl (.pair tL .unit)) .bool false true (λx=>Eh x.1/\short x.2.1) (λx=>Dy x.1&&Gk x.1.1 x.2.1)
theorem Acn (n:Int) (s:List Int) (P:Bool->Prop):(Br ((↑s.length:Int)==n) (∃(y3:Bool),Hu.fn (s,())=some y3/\P y3) (P false))=fnW Ei (look [(75,Hu)]) er Tryz.f127 (n,s,()) P:=by kernel_rfl
theorem vY (p:Int×ByteArray×List (List Int)×Unit) (s:List Int) (P:Bool->Prop):(∃(y3:Int),Te.fn (s,())=some y3/\Br (y3==p.1) (∃(y4:Bool),Hu.fn (s,())=some y4/\P y4) (P false))=fnW Ei (look [(119,Te),(134,Hu)]) Yk Tryz.f109 (p,s,()) P:=by kernel_rfl
theorem xB (p:Int×ByteArray×List (List Int)×Unit) (s:List Int) (P:Bool->Prop):(∃(y3:Bool),Hv.fn ((p.1,p.2.1,p.2.2.1,()),())=some y3/\Br y3 (∃(y4:Bool),er.fn (p.1,s,())=some y4/\P y4) (P false))=fnW Ei (look [(93,Hv),(127,er)]) Nj Tryz.f95 (p,s,()) P:=by kernel_rfl
theorem xu (p:Int×ByteArray×List (List Int)×Unit) (s:List Int) (P:Bool->Prop):(∃(y3:Bool),Hv.fn ((p.1,p.2.1,p.2.2.1,()),())=some y3/\Br y3 (∃(y4:Bool),Yk.fn ((p.1,p.2.1,p.2.2.1,()),s,())=some y4/\P y4) (P false))=fnW Ei (look [(84,Hv),(109,Yk)]) Nj Tryz.f97 (p,s,()) P:=by kernel_rfl
theorem Ab4 (n:Int) (s:List Int) (h:short s):fnW Ei (look [(75,Hu)]) er Tryz.f127 (n,s,()) (λ(z:Bool)=>z=Gk n s):=by
 refine Eq.mp (Acn n s _) ⟨λhe=>⟨_,Ab h,?_⟩,λhe=>?_⟩
 ·simp only [Ww] at he
  show Jo s=_
  cases hp:Jo s with
  |true=>exact Oo ⟨he,hp⟩
  |false=>exact Dj λhh=>by rw [hh.2] at hp;cases hp
 ·simp only [Nl,ne_eq] at he
  exact Dj λhh=>he hh.1
theorem BT:Sound Tryz.prog 127 er:=
 Sound.Ev Db (Av Ss Bh) mixed Tryz.func127 (by kernel_rfl) (by kernel_rfl) λx h=>Ab4 x.1 x.2.1 h
theorem uz (p:PP) (s:List Int) (h:short s):fnW Ei (look [(119,Te),(134,Hu)]) Yk Tryz.f109 (p,s,()) (λ(z:Bool)=>z=Gk p.1 s):=by
 refine Eq.mp (vY p s _) ⟨_,Ab trivial,⟨λhe=>⟨_,Ab h,?_⟩,λhe=>?_⟩⟩
 ·simp only [Ww] at he
  show Jo s=_
  cases hp:Jo s with
  |true=>exact Oo ⟨he,hp⟩
  |false=>exact Dj λhh=>by rw [hh.2] at hp;cases hp
 ·simp only [Nl,ne_eq] at he
  exact Dj λhh=>he hh.1
theorem my:Sound Tryz.prog 109 Yk:=
 Sound.Ev Db (Av fH (Av ez Bh)) mixed Tryz.func109 (by kernel_rfl) (by kernel_rfl) λx h=>uz x.1 x.2.1 h
theorem wU (p:PP) (s:List Int) (h:Eh p/\short s):fnW Ei (look [(93,Hv),(127,er)]) Nj Tryz.f95 (p,s,()) (λ(z:Bool)=>z=(Dy p&&Gk p.1 s)):=by
 refine Eq.mp (xB p s _) ⟨_,Ab h.1,⟨λhe=>⟨_,Ab h.2,?_⟩,λhe=>?_⟩⟩
 ·have he:Dy p=true:=he
  rw [he];rfl
 ·have he:Dy p=false:=he
  rw [he];rfl
theorem ov:Sound Tryz.prog 95 Nj:=
 Sound.Ev Db (Av Yt (Av BT Bh)) mixed Tryz.func95 (by kernel_rfl) (by kernel_rfl) λx h=>wU x.1 x.2.1 h
theorem wO (p:PP) (s:List Int) (h:Eh p/\short s):fnW Ei (look [(84,Hv),(109,Yk)]) Nj Tryz.f97 (p,s,()) (λ(z:Bool)=>z=(Dy p&&Gk p.1 s)):=by
 refine Eq.mp (xu p s _) ⟨_,Ab h.1,⟨λhe=>⟨_,Ab h.2,?_⟩,λhe=>?_⟩⟩
 ·have he:Dy p=true:=he
  rw [he];rfl
 ·have he:Dy p=false:=he
  rw [he];rfl
theorem oh:Sound Tryz.prog 97 Nj:=
 Sound.Ev Db (Av Ys (Av my Bh)) mixed Tryz.func97 (by kernel_rfl) (by kernel_rfl) λx h=>wO x.1 x.2.1 h
def Nm (xs:List Int) (i:Int):Int:=xs.getD i.toNat 0
def Al (p q:List Int):List Int:=p.map (Nm q)
def cE (f:Nat->Nat) (g:Nat->Int) (m:Nat) (init:List Int):List Int:=(List.range m).foldl (λ(out:List Int) (i:Nat)=>out.set (f i) (g i)) init
def Bk (p:List Int):List Int:=cE (λi=>(Nm p (i:Int)).toNat) (λi=>(i:Int)) p.length (List.replicate p.length 0)
def Mk (n:Nat) (p:List Int):Prop:= ∀y∈p,0<=y/\y<n
noncomputable abbrev Nh:Spec:=Ev (.pair tL (.pair tL .unit)) tL false true (λx=>List.length x.1<=20/\Mk (List.length x.2.1) x.1) (λx=>Al x.1 x.2.1)
noncomputable abbrev Ff:Spec:=Ev (.pair tL .unit) tL false true (λx=>List.length x.1<=20/\Mk (List.length x.1) x.1) (λx=>Bk x.1)
noncomputable abbrev Yi:Spec:=Ev (.pair tI .unit) tL false true (λx=>0<=x.1/\x.1<=20) (λx=>upto x.1.toNat)
noncomputable abbrev Qn:Spec:=Ev (.pair tL .unit) tL false true (λx=>Jo x.1=true) (λx=>Bk x.1)
def Bs (g:List (List Int)) (l:Int):List Int:=if l>0 then g.getD (l-1).toNat [] else Bk (g.getD (-l-1).toNat [])
def Iu (n:Int) (l:Int):Prop:=l≠0/\ -n<=l/\l<=n
noncomputable abbrev Lc:Spec:=Ev (.pair da (.pair tI .unit)) tL false false (λx=>Iu (List.length x.1) x.2.1/\List.length x.1<=8/\ ∀p∈x.1,Jo p=true) (λx=>Bs x.1 x.2.1)
def Aw (n:Nat):List Int:=(List.range n).flatMap λ(k:Nat)=> [(k:Int)+1,-((k:Int)+1)]
noncomputable abbrev Lz:Spec:=Ev (.pair tI .unit) tL false true (λx=>0<=x.1/\x.1<=8) (λx=>Aw x.1.toNat)
noncomputable abbrev Mn:Spec:=Ev (.pair Fl (.pair tL (.pair tI .unit))) tL false true (λx=>Dy x.1=true/\List.length x.2.1<=20/\(∀y∈x.2.1,0<=y/\y<x.1.1)/\Iu (List.length x.1.2.2.1) x.2.2.1) (λx=>Al x.2.1 (Bs x.1.2.2.1 x.2.2.1))
theorem xr (p q:List Int) (P:List Int->Prop):(((0:Int)<=(↑p.length:Int)/\(↑p.length:Int)<(↑Cr:Int)+(1:Int))/\(↑p.length:Int)=(↑p.length:Int)/\0=0/\(List.replicate (↑p.length:Int).toNat (Int.ofNat (nat_lit 0))).length=(List.replicate (↑p.length:Int).toNat (Int.ofNat (nat_lit 0))).length/\Df (λ(v3:Int×List Int×PUnit) (k4:Int×List Int×PUnit->Prop)=>Br (decide (v3.1<(↑p.length:Int))) (∃(y5:Int),idx p v3.1=some y5/\ ∃(y6:Int),idx q y5=some y6/\((0:Int)<=v3.1/\v3.1<(↑v3.2.1.length:Int))/\0+v3.1.toNat<v3.2.1.length/\0=0/\v3.2.1.length=(v3.2.1.set (0+v3.1.toNat) y6).length/\k4 (IntKind.i64.wrap (v3.1+(1:Int)),v3.2.1.set (0+v3.1.toNat) y6,())) (P (List.take v3.2.1.length (List.drop 0 v3.2.1)))) ((0:Int),List.replicate (↑p.length:Int).toNat (Int.ofNat (nat_lit 0)),PUnit.unit))=fnW Ei (look []) Nh Tryz.f121 (p,q,()) P:=by kernel_rfl
theorem xt (p:List Int) (P:List Int->Prop):(((0:Int)<=(↑p.length:Int)/\(↑p.length:Int)<(↑Cr:Int)+(1:Int))/\(↑p.length:Int)=(↑p.length:Int)/\0=0/\(List.replicate (↑p.length:Int).toNat (Int.ofNat (nat_lit 0))).length=(List.replicate (↑p.length:Int).toNat (Int.ofNat (nat_lit 0))).length/\Df (λ(v2:Int×List Int×PUnit) (k3:Int×List Int×PUnit->Prop)=>Br (decide (v2.1<(↑p.length:Int))) (∃(y4:Int),idx p v2.1=some y4/\((0:Int)<=y4/\y4<(↑v2.2.1.length:Int))/\0+y4.toNat<v2.2.1.length/\0=0/\v2.2.1.length=(v2.2.1.set (0+y4.toNat) v2.1).length/\k3 (IntKind.i64.wrap (v2.1+(1:Int)),v2.2.1.set (0+y4.toNat) v2.1,())) (P (List.take v2.2.1.length (List.drop 0 v2.2.1)))) ((0:Int),List.replicate (↑p.length:Int).toNat (Int.ofNat (nat_lit 0)),PUnit.unit))=fnW Ei (look []) Ff Tryz.f56 (p,()) P:=by kernel_rfl
theorem XD (p:List Int) (P:List Int->Prop):(((0:Int)<=(↑p.length:Int)/\(↑p.length:Int)<(↑Cr:Int)+(1:Int))/\(↑p.length:Int)=(↑p.length:Int)/\0=0/\(List.replicate (↑p.length:Int).toNat (Int.ofNat (nat_lit 0))).length=(List.replicate (↑p.length:Int).toNat (Int.ofNat (nat_lit 0))).length/\Df (λ(v2:Int×List Int×PUnit) (k3:Int×List Int×PUnit->Prop)=>Br (decide (v2.1<(↑p.length:Int))) (∃(y4:Int),idx p v2.1=some y4/\((0:Int)<=y4/\y4<(↑v2.2.1.length:Int))/\0+y4.toNat<v2.2.1.length/\0=0/\v2.2.1.length=(v2.2.1.set (0+y4.toNat) v2.1).length/\k3 (IntKind.i64.wrap (v2.1+(1:Int)),v2.2.1.set (0+y4.toNat) v2.1,())) (P (List.take v2.2.1.length (List.drop 0 v2.2.1)))) ((0:Int),List.replicate (↑p.length:Int).toNat (Int.ofNat (nat_lit 0)),PUnit.unit))=fnW Ei (look []) Ff Tryz.f76 (p,()) P:=by kernel_rfl
theorem xA (p:List Int) (P:List Int->Prop):(∃(y2:Bool),Hu.fn (p,())=some y2/\Br (!y2) (P (List.take 0 (List.drop 0 []))) (∃(y3:List Int),Ff.fn (p,())=some y3/\P y3))=fnW Ei (look [(75,Hu),(76,Ff)]) Qn Tryz.f55 (p,()) P:=by kernel_rfl
theorem QD (n:Int) (P:List Int->Prop):(0=0/\0=([]:List Int).length/\Df (λ(v2:Int×List Int×PUnit) (k3:Int×List Int×PUnit->Prop)=>Br (decide (v2.1<n)) (0=0/\v2.2.1.length=v2.2.1.length/\v2.2.1.length+(List.take 1 (List.drop 0 [v2.1])).length<=Cr/\0=0/\(v2.2.1++List.take 1 (List.drop 0 [v2.1])).length=(v2.2.1++List.take 1 (List.drop 0 [v2.1])).length/\k3 (IntKind.i64.wrap (v2.1+(1:Int)),v2.2.1++List.take 1 (List.drop 0 [v2.1]),())) (P (List.take v2.2.1.length (List.drop 0 v2.2.1)))) ((0:Int),[],PUnit.unit))=fnW Ei (look []) Yi Tryz.f115 (n,()) P:=by kernel_rfl
theorem QF (g:List (List Int)) (l:Int) (P:List Int->Prop):(Br (decide (l>(0:Int))) (∃(y3:List Int),idx g (IntKind.i64.wrap (l-(1:Int)))=some y3/\P y3) (∃(y3:List Int),idx g (IntKind.i64.wrap (IntKind.i64.wrap ((0:Int)-l)-(1:Int)))=some y3/\ ∃(y4:List Int),Ff.fn (y3,())=some y4/\P y4))=fnW Ei (look [(56,Ff)]) Lc Tryz.f122 (g,l,()) P:=by kernel_rfl
theorem WY (n:Int) (P:List Int->Prop):(0=0/\0=([]:List Int).length/\Df (λ(v2:Int×List Int×PUnit) (k3:Int×List Int×PUnit->Prop)=>Br (decide (v2.1<n)) (0=0/\v2.2.1.length=v2.2.1.length/\v2.2.1.length+(List.take 2 (List.drop 0 [IntKind.i64.wrap (v2.1+(1:Int)),IntKind.i64.wrap ((0:Int)-IntKind.i64.wrap (v2.1+(1:Int)))])).length<=Cr/\0=0/\(v2.2.1++List.take 2 (List.drop 0 [IntKind.i64.wrap (v2.1+(1:Int)),IntKind.i64.wrap ((0:Int)-IntKind.i64.wrap (v2.1+(1:Int)))])).length=(v2.2.1++List.take 2 (List.drop 0 [IntKind.i64.wrap (v2.1+(1:Int)),IntKind.i64.wrap ((0:Int)-IntKind.i64.wrap (v2.1+(1:Int)))])).length/\k3 (IntKind.i64.wrap (v2.1+(1:Int)),v2.2.1++List.take 2 (List.drop 0 [IntKind.i64.wrap (v2.1+(1:Int)),IntKind.i64.wrap ((0:Int)-IntKind.i64.wrap (v2.1+(1:Int)))]),())) (P (List.take v2.2.1.length (List.drop 0 v2.2.1)))) ((0:Int),[],PUnit.unit))=fnW Ei (look []) Lz Tryz.f106 (n,()) P:=by kernel_rfl
theorem Ach (p:Int×ByteArray×List (List Int)×Unit) (s:List Int) (l:Int) (P:List Int->Prop):(∃(y4:List Int),idx p.2.2.1 (IntKind.i64.wrap ((if true=true then if IntKind.i64.wrap ((0:Int)-l)>l then IntKind.i64.wrap ((0:Int)-l) else l else if IntKind.i64.wrap ((0:Int)-l)<l then IntKind.i64.wrap ((0:Int)-l) else l)-(1:Int)))=some y4/\Br (decide (l<(0:Int))) (∃(y5:List Int),Qn.fn (y4,())=some y5/\0=0/\0=([]:List Int).length/\Df (λ(v6:Int×List Int×PUnit) (k7:Int×List Int×PUnit->Prop)=>Br (decide (v6.1<(↑s.length:Int))) (∃(y8:Int),idx s v6.1=some y8/\ ∃(y9:Int),idx y5 y8=some y9/\0=0/\v6.2.1.length=v6.2.1.length/\v6.2.1.length+(List.take 1 (List.drop 0 [y9])).length<=Cr/\0=0/\(v6.2.1++List.take 1 (List.drop 0 [y9])).length=(v6.2.1++List.take 1 (List.drop 0 [y9])).length/\k7 (IntKind.i64.wrap (v6.1+(1:Int)),v6.2.1++List.take 1 (List.drop 0 [y9]),())) (P (List.take v6.2.1.length (List.drop 0 v6.2.1)))) ((0:Int),[],PUnit.unit)) (0=0/\0=([]:List Int).length/\Df (λ(v5:Int×List Int×PUnit) (k6:Int×List Int×PUnit->Prop)=>Br (decide (v5.1<(↑s.length:Int))) (∃(y7:Int),idx s v5.1=some y7/\ ∃(y8:Int),idx y4 y7=some y8/\0=0/\v5.2.1.length=v5.2.1.length/\v5.2.1.length+(List.take 1 (List.drop 0 [y8])).length<=Cr/\0=0/\(v5.2.1++List.take 1 (List.drop 0 [y8])).length=(v5.2.1++List.take 1 (List.drop 0 [y8])).length/\k6 (IntKind.i64.wrap (v5.1+(1:Int)),v5.2.1++List.take 1 (List.drop 0 [y8]),())) (P (List.take v5.2.1.length (List.drop 0 v5.2.1)))) ((0:Int),[],PUnit.unit)))=fnW Ei (look [(55,Qn)]) Mn Tryz.f118 (p,s,l,()) P:=by kernel_rfl
theorem Mi {xs:List Int} {i:Nat} (h:i<xs.length):Nm xs (i:Int)=xs[i]:=by
 unfold Nm
 rw [Ai,Ak,Ac h];rfl
theorem iQ {xs:List Int} {y:Int} (h0:0<=y) (h:y<xs.length):idx xs y=some (Nm xs y):=by
 have hy:y.toNat<xs.length:=by omega
 have e:y=(y.toNat:Int):=by omega
 rw [e,Bp hy,Mi hy]
theorem aS (f:Nat->Nat) (g:Nat->Int) (m:Nat) (init:List Int):cE f g (m+1) init=(cE f g m init).set (f m) (g m):=by simp [cE,hJ]
theorem cF (f:Nat->Nat) (g:Nat->Int) (m:Nat) (init:List Int):(cE f g m init).length=init.length:=by
 induction m with
 |zero=>rfl
 |succ m ih=>rw [aS,Bi,ih]
theorem qy (f:Nat->Nat) (g:Nat->Int) (init:List Int): ∀(m:Nat),(∀i j,i<m->j<m->f i=f j->i=j)-> ∀i,i<m->f i<init.length->(cE f g m init)[f i]?=some (g i)
 |0,_,i,h,_=>absurd h (Dp _)
 |m+1,hf,i,hi,hl=>by
  rw [aS]
  by_cases e:i=m
  ·subst e
   exact List.getElem?_set_self (by rw [cF];exact hl)
  ·rw [List.getElem?_set_ne (λh=>e (hf i m hi (by omega) h.symm))]
   exact qy f g init m (λa b ha hb=>hf a b (by omega) (by omega)) i (by omega) hl
structure bB (p:List Int):Prop where
 pos:1<=p.length
 len:p.length<=20
 row:Mk p.length p
 nodup:p.Nodup
theorem fm {p:List Int} (h:Jo p=true):bB p:=by
 obtain ⟨h1,h2,h3⟩:=Hq.1 h
 refine ⟨h1,h2,λy hy=>?_,iY λj hj=>(h3 j hj hj).2.2⟩
 obtain ⟨j,hj,rfl⟩:=Cl.1 hy
 have:=h3 j hj hj
 omega
theorem bB.inj {p:List Int} (h:bB p) (i j:Nat) (hi:i<p.length) (hj:j<p.length) (e:(Nm p (i:Int)).toNat=(Nm p (j:Int)).toNat):i=j:=by
 rw [Mi hi,Mi hj] at e
 have h1:=h.row _ (Aj hi)
 have h2:=h.row _ (Aj hj)
 have e:p[i]=p[j]:=by omega
 refine Cc λIk=>?_
 rcases Nat.lt_or_gt_of_ne Ik with hl|hl
 ·exact Ew.1 h.nodup i j hi hj hl e
 ·exact Ew.1 h.nodup j i hj hi hl e.symm
theorem bB.Aaw {p:List Int} (h:bB p) (k:Nat) (hk:k<p.length): ∃i,i<p.length/\(Nm p (i:Int)).toNat=k:=by
 have hm:=(dg (xs:=p) h.row).2 (vT h.nodup) k hk
 obtain ⟨i,hi,e⟩:=Cl.1 hm
 exact ⟨i,hi,by rw [Mi hi,e];exact Ai k⟩
theorem bB.lt {p:List Int} (h:bB p) {i:Nat} (hi:i<p.length):(Nm p (i:Int)).toNat<p.length:=by
 rw [Mi hi]
 have:=h.row _ (Aj hi)
 omega
theorem nD (p:List Int):(Bk p).length=p.length:=by unfold Bk;rw [cF,Fy]
theorem Aa8 {p:List Int} (h:bB p) {i:Nat} (hi:i<p.length):(Bk p)[(Nm p (i:Int)).toNat]?=some (i:Int):=
 qy (λi=>(Nm p (i:Int)).toNat) (λi=>(i:Int)) _ p.length (λi j hi hj=>h.inj i j hi hj) i hi (by rw [Fy];exact h.lt hi)
theorem Aeg {p:List Int} (h:bB p):Mk p.length (Bk p):=by
 intro y hy
 obtain ⟨k,hk,rfl⟩:=Cl.1 hy
 have tV:k<p.length:=by rw [nD] at hk;exact hk
 obtain ⟨i,hi,rfl⟩:=h.Aaw k tV
 have:=Aa8 h hi
 rw [Ac hk] at this
 rw [Ba this]
 omega
theorem Pe (p q:List Int):(Al p q).length=p.length:=by simp [Al]
theorem EJ {p q:List Int} {n:Nat} (hp:Mk q.length p) (hq:Mk n q):Mk n (Al p q):=by
 intro y hy
 obtain ⟨x,hx,rfl⟩:=Bj.1 hy
 have h1:=hp x hx
 rw [show x=(x.toNat:Int) by omega,Mi (by omega)]
 exact hq _ (Aj _)
theorem wM (p q:List Int) (h:p.length<=20/\Mk q.length p):fnW Ei (look []) Nh Tryz.f121 (p,q,()) (λ(z:List Int)=>z=Al p q):=by
 obtain ⟨h,hr⟩:=h
 refine Eq.mp (xr p q _) ?_
 refine ⟨⟨by omega,by show (p.length:Int)<(4294967296:Int)+1;omega⟩,rfl,rfl,rfl,?_⟩
 have Pw:=Pe p q
 refine Bf p.length (λv=>v.1) (λj v=>v.2.1.length=(Al p q).length/\v.2.1.take j=(Al p q).take j) rfl ⟨by rw [Pw];simp,by simp⟩ ?_
 rintro j ⟨i,ys,⟨⟩⟩ K hj hi ⟨h1,h2⟩ hK
 dsimp only at hi h1 h2⊢
 subst hi
 refine Br.dec (λhl=>?_) λhl=>?_
 ·have hl:j<p.length:=by omega
  have hy:=hr _ (Aj hl)
  refine ⟨_,Bp hl,_,iQ hy.1 hy.2,⟨by omega,by omega⟩,by rw [Ai];omega,rfl,by rw [Bi],?_⟩
  rw [Bg (by omega),Ai,Bv]
  have Km:j<(Al p q).length:=by rw [Pw];exact hl
  have e:Nm q p[j]=(Al p q)[j]:=by simp [Al]
  rw [e]
  exact hK hl _ rfl ⟨by rw [Bi];exact h1,Kl Km h1 h2⟩
 ·have:j=p.length:=by omega
  subst this
  rw [<-Pw,Ap,<-h1,Ap] at h2
  rw [Dm,Ap]
  exact h2
theorem Wq:Sound Tryz.prog 121 Nh:=
 Sound.Ev Db Bh mixed Tryz.func121 (by kernel_rfl) (by kernel_rfl) λx h=>wM x.1 x.2.1 h
theorem wN (p:List Int) (h:p.length<=20/\Mk p.length p):fnW Ei (look []) Ff Tryz.f56 (p,()) (λ(z:List Int)=>z=Bk p):=by
 obtain ⟨h,hr⟩:=h
 refine Eq.mp (xt p _) ?_
 refine ⟨⟨by omega,by show (p.length:Int)<(4294967296:Int)+1;omega⟩,rfl,rfl,rfl,?_⟩
 refine Bf p.length (λv=>v.1) (λj v=>v.2.1=cE (λi=>(Nm p (i:Int)).toNat) (λi=>(i:Int)) j (List.replicate p.length 0)) rfl rfl ?_
 rintro j ⟨i,ys,⟨⟩⟩ K hj hi h1 hK
 dsimp only at hi h1⊢
 subst hi
 have hlen:ys.length=p.length:=by rw [h1,cF,Fy]
 refine Br.dec (λhl=>?_) λhl=>?_
 ·have hl:j<p.length:=by omega
  have hy:=hr _ (Aj hl)
  refine ⟨_,Bp hl,⟨by omega,by omega⟩,by omega,rfl,by rw [Bi],?_⟩
  rw [Bg (by omega),Bv]
  refine hK hl _ rfl ?_
  rw [aS,<-h1,Mi hl]
 ·have:j=p.length:=by omega
  subst this
  rw [Dm,Ap]
  exact h1
theorem Wr:Sound Tryz.prog 56 Ff:=
 Sound.Ev Db Bh mixed Tryz.func56 (by kernel_rfl) (by kernel_rfl) λx h=>wN x.1 h
theorem VE (p:List Int) (h:p.length<=20/\Mk p.length p):fnW Ei (look []) Ff Tryz.f76 (p,()) (λ(z:List Int)=>z=Bk p):=by
 obtain ⟨h,hr⟩:=h
 refine Eq.mp (XD p _) ?_
 refine ⟨⟨by omega,by show (p.length:Int)<(4294967296:Int)+1;omega⟩,rfl,rfl,rfl,?_⟩
 refine Bf p.length (λv=>v.1) (λj v=>v.2.1=cE (λi=>(Nm p (i:Int)).toNat) (λi=>(i:Int)) j (List.replicate p.length 0)) rfl rfl ?_
 rintro j ⟨i,ys,⟨⟩⟩ K hj hi h1 hK
 dsimp only at hi h1⊢
 subst hi
 have hlen:ys.length=p.length:=by rw [h1,cF,Fy]
 refine Br.dec (λhl=>?_) λhl=>?_
 ·have hl:j<p.length:=by omega
  have hy:=hr _ (Aj hl)
  refine ⟨_,Bp hl,⟨by omega,by omega⟩,by omega,rfl,by rw [Bi],?_⟩
  rw [Bg (by omega),Bv]
  refine hK hl _ rfl ?_
  rw [aS,<-h1,Mi hl]
 ·have:j=p.length:=by omega
  subst this
  rw [Dm,Ap]
  exact h1
theorem Zi:Sound Tryz.prog 76 Ff:=
 Sound.Ev Db Bh mixed Tryz.func76 (by kernel_rfl) (by kernel_rfl) λx h=>VE x.1 h
theorem wT (p:List Int) (h:Jo p=true):fnW Ei (look [(75,Hu),(76,Ff)]) Qn Tryz.f55 (p,()) (λ(z:List Int)=>z=Bk p):=by
 have hp:=fm h
 have hs:short p:=by have:=hp.len;unfold short;omega
 refine Eq.mp (xA p _) ⟨_,Ab hs,⟨λhe=>?_,λ_=>⟨_,Ab ⟨hp.len,hp.row⟩,rfl⟩⟩⟩
 exact absurd h (Es he)
theorem ou:Sound Tryz.prog 55 Qn:=
 Sound.Ev Db (Av Ss (Av Zi Bh)) mixed Tryz.func55 (by kernel_rfl) (by kernel_rfl) λx h=>wT x.1 h
theorem ky (j:Nat):upto (j+1)=upto j++ [(j:Int)]:=by simp [upto,hJ]
theorem NV (n:Int) (h:0<=n/\n<=20):fnW Ei (look []) Yi Tryz.f115 (n,()) (λ(z:List Int)=>z=upto n.toNat):=by
 refine Eq.mp (QD n _) ⟨rfl,rfl,?_⟩
 refine Bf n.toNat (λv=>v.1) (λj v=>v.2.1=upto j) rfl rfl ?_
 rintro j ⟨i,ys,⟨⟩⟩ K hj hi h1 hK
 dsimp only at hi h1⊢
 subst hi h1
 refine Br.dec (λhl=>?_) λhl=>?_
 ·refine ⟨rfl,rfl,?_,rfl,rfl,?_⟩
  ·show (upto j).length+1<=4294967296
   rw [jB];omega
  ·rw [Bg (by omega)]
   exact hK (by omega) _ rfl (ky j).symm
 ·have:j=n.toNat:=by omega
  subst this
  rw [Dm,Ap]
theorem jm:Sound Tryz.prog 115 Yi:=
 Sound.Ev Db Bh mixed Tryz.func115 (by kernel_rfl) (by kernel_rfl) λx h=>NV x.1 h
theorem Uq {g:List (List Int)} {k:Nat} (h:k<g.length):Bs g ((k:Int)+1)=g[k]:=by
 unfold Bs
 rw [Ab (by omega),show ((k:Int)+1-1).toNat=k by omega,Ak,Ac h];rfl
theorem Up {g:List (List Int)} {k:Nat} (h:k<g.length):Bs g (-((k:Int)+1))=Bk g[k]:=by
 unfold Bs
 rw [Ag (by omega),show (-(-((k:Int)+1))-1).toNat=k by omega,Ak,Ac h];rfl
theorem Sm {n:Nat} {l:Int} (h:Iu n l): ∃k:Nat,k<n/\(l=(k:Int)+1\/l= -((k:Int)+1)):=by
 obtain ⟨h1,h2,h3⟩:=h
 by_cases h0:0<l
 ·exact ⟨(l-1).toNat,by omega, .inl (by omega)⟩
 ·exact ⟨(-l-1).toNat,by omega, .inr (by omega)⟩
theorem NX (g:List (List Int)) (l:Int) (h:Iu (List.length g) l/\List.length g<=8/\ ∀p∈g,Jo p=true):fnW Ei (look [(56,Ff)]) Lc Tryz.f122 (g,l,()) (λ(z:List Int)=>z=Bs g l):=by
 obtain ⟨hl,h8,hp⟩:=h
 refine Eq.mp (QF g l _) ?_
 obtain ⟨k,hk,rfl|rfl⟩:=Sm hl
 ·refine Br.dec (λ_=>?_) λhn=>by omega
  rw [Dl (by omega) (by omega),show (k:Int)+1-1=(k:Int) by omega]
  exact ⟨_,Bp hk,(Uq hk).symm⟩
 ·refine Br.dec (λhn=>by omega) λ_=>?_
  rw [Dl (n:=0- -((k:Int)+1)) (by omega) (by omega),Dl (by omega) (by omega),show (0:Int)- -((k:Int)+1)-1=(k:Int) by omega]
  have:=fm (hp _ (Aj hk))
  exact ⟨_,Bp hk,_,Ab ⟨this.len,this.row⟩,(Up hk).symm⟩
theorem jn:Sound Tryz.prog 122 Lc:=
 Sound.Ev Db (Av Wr Bh) mixed Tryz.func122 (by kernel_rfl) (by kernel_rfl) λx h=>NX x.1 x.2.1 h
theorem bT (j:Nat):Aw (j+1)=Aw j++ [(j:Int)+1,-((j:Int)+1)]:=by simp [Aw,hJ,List.flatMap_append]
theorem Nz (j:Nat):(Aw j).length=2*j:=by
 induction j with
 |zero=>rfl
 |succ j ih=>rw [bT,Ax,ih];simp only [Az,Gc];omega
theorem Pn {n:Nat} {l:Int} (h:l∈Aw n):Iu n l:=by
 unfold Aw at h
 obtain ⟨k,hk,hl⟩:=Hj.1 h
 have hk:=Gg.1 hk
 simp only [Be,List.not_mem_nil,or_false] at hl
 unfold Iu
 omega
theorem UZ (n:Int) (h:0<=n/\n<=8):fnW Ei (look []) Lz Tryz.f106 (n,()) (λ(z:List Int)=>z=Aw n.toNat):=by
 refine Eq.mp (WY n _) ⟨rfl,rfl,?_⟩
 refine Bf n.toNat (λv=>v.1) (λj v=>v.2.1=Aw j) rfl rfl ?_
 rintro j ⟨i,ys,⟨⟩⟩ K hj hi h1 hK
 dsimp only at hi h1⊢
 subst hi h1
 refine Br.dec (λhl=>?_) λhl=>?_
 ·refine ⟨rfl,rfl,?_,rfl,rfl,?_⟩
  ·show (Aw j).length+2<=4294967296
   rw [Nz];omega
  ·have e1:IntKind.i64.wrap ((j:Int)+1)=(j:Int)+1:=Dl (by omega) (by omega)
   have e2:IntKind.i64.wrap ((0:Int)-((j:Int)+1))= -((j:Int)+1):=by rw [Dl (by omega) (by omega)];omega
   rw [e1,e2]
   exact hK (by omega) _ rfl (bT j).symm
 ·have:j=n.toNat:=by omega
  subst this
  rw [Dm,Ap]
theorem lu:Sound Tryz.prog 106 Lz:=
 Sound.Ev Db Bh mixed Tryz.func106 (by kernel_rfl) (by kernel_rfl) λx h=>UZ x.1 h
structure Valid (p:PP):Prop where
 n:1<=p.1/\p.1<=20
 wo:1<=p.2.2.1.length/\p.2.2.1.length<=8
 perm: ∀m∈p.2.2.1,Jo m=true
 len: ∀m∈p.2.2.1,(m.length:Int)=p.1
theorem valid {p:PP} (h:Dy p=true):Valid p:=by
 have h0:=PX h
 obtain ⟨h1,_,_⟩:=Hq.1 h
 obtain ⟨_,_,h4⟩:=Hq.1 h1
 exact ⟨⟨h0.1,h0.2.1⟩,h0.2.2,λm hm=>(Hq.1 (h4 m hm)).2,λm hm=>(Hq.1 (h4 m hm)).1⟩
theorem k8 {p:PP} (h:Valid p) {l:Int} (hl:Iu (List.length p.2.2.1) l):((Bs p.2.2.1 l).length:Int)=p.1/\Mk (Bs p.2.2.1 l).length (Bs p.2.2.1 l):=by
 obtain ⟨k,hk,rfl|rfl⟩:=Sm hl
 ·rw [Uq hk]
  exact ⟨h.len _ (Aj hk),(fm (h.perm _ (Aj hk))).row⟩
 ·rw [Up hk,nD]
  exact ⟨h.len _ (Aj hk),Aeg (fm (h.perm _ (Aj hk)))⟩
theorem DW (s y:List Int) (P:List Int->Prop) (h1:s.length<=20) (h2:Mk y.length s) (h3:P (Al s y)):
  Df
   (λ(v5:Int×List Int×PUnit) (k6:Int×List Int×PUnit->Prop)=>
    Br (decide (v5.1<(↑s.length:Int)))
     (∃(y7:Int),
      idx s v5.1=some y7/\
       ∃(y8:Int),
        idx y y7=some y8/\
         (0:Nat)=(0:Nat)/\
          v5.2.1.length=v5.2.1.length/\
           v5.2.1.length+(List.take (1:Nat) (List.drop (0:Nat) [y8])).length<=Cr/\
            (0:Nat)=(0:Nat)/\
             (v5.2.1++List.take (1:Nat) (List.drop (0:Nat) [y8])).length=(v5.2.1++List.take (1:Nat) (List.drop (0:Nat) [y8])).length/\
              k6 (IntKind.i64.wrap (v5.1+(1:Int)),v5.2.1++List.take (1:Nat) (List.drop (0:Nat) [y8]),()))
     (P (List.take v5.2.1.length (List.drop (0:Nat) v5.2.1))))
   ((0:Int),([]:List Int),PUnit.unit):=by
 refine Bf s.length (λv=>v.1) (λj v=>v.2.1=(s.take j).map (Nm y)) rfl (by simp) ?_
 rintro j ⟨i,ys,⟨⟩⟩ K hj hi hR hK
 dsimp only at hi hR⊢
 subst hi hR
 refine Br.dec (λhl=>?_) λhl=>?_
 ·have hl:j<s.length:=by omega
  have hy:=h2 _ (Aj hl)
  refine ⟨_,Bp hl,_,iQ hy.1 hy.2,rfl,rfl,?_,rfl,rfl,?_⟩
  ·show ((s.take j).map (Nm y)).length+1<=4294967296
   rw [Di,Dd];omega
  ·rw [Bg (by omega)]
   refine hK hl _ rfl ?_
   dsimp only
   rw [Ay hl,Kb]
   rfl
 ·have:j=s.length:=by omega
  subst this
  rw [Dm,Ap,Ap]
  exact h3
theorem Aay (p:PP) (s:List Int) (l:Int) (h:Dy p=true/\List.length s<=20/\(∀y∈s,0<=y/\y<p.1)/\Iu (List.length p.2.2.1) l):fnW Ei (look [(55,Qn)]) Mn Tryz.f118 (p,s,l,()) (λ(z:List Int)=>z=Al s (Bs p.2.2.1 l)):=by
 obtain ⟨hv,hs,hr,hl⟩:=h
 have hv:=valid hv
 have hf:=hv.wo
 refine Eq.mp (Ach p s l _) ?_
 have TS:=k8 hv hl
 have Kp:Mk (Bs p.2.2.1 l).length s:= λy hy=>by have:=hr y hy;omega
 obtain ⟨k,hk,rfl|rfl⟩:=Sm hl
 ·rw [Ab rfl,Dl (n:=0-((k:Int)+1)) (by omega) (by omega),Ag (by omega),Dl (by omega) (by omega),show (k:Int)+1-1=(k:Int) by omega]
  refine ⟨_,Bp hk,Br.dec (λhn=>by omega) λ_=>⟨rfl,rfl,?_⟩⟩
  rw [Uq hk] at Kp⊢
  exact DW s _ (λz=>z=Al s p.2.2.1[k]) hs Kp rfl
 ·rw [Ab rfl,Dl (n:=0- -((k:Int)+1)) (by omega) (by omega),Ab (by omega),Dl (by omega) (by omega),show (0:Int)- -((k:Int)+1)-1=(k:Int) by omega]
  refine ⟨_,Bp hk,Br.dec (λ_=>⟨_,Ab (hv.perm _ (Aj hk)),rfl,rfl,?_⟩) λhn=>by omega⟩
  rw [Up hk] at Kp⊢
  exact DW s (Bk p.2.2.1[k]) (λz=>z=Al s (Bk p.2.2.1[k])) hs Kp rfl
theorem oc:Sound Tryz.prog 118 Mn:=
 Sound.Ev Db (Av ou Bh) mixed Tryz.func118 (by kernel_rfl) (by kernel_rfl) λx h=>Aay x.1 x.2.1 x.2.2.1 h
abbrev rL:CK:= .row tI 2
abbrev xLL:CK:= .Hi tL 26
def Ky (k:Int) (n:Nat):List Int:=(List.range n).map λi=>k+(i:Nat)
def Kf:Int->List (List Int)->List (List Int)
 |_,[]=> []
 |k,r::rs=>Ky k r.length::Kf (k+r.length) rs
def Eb:List (List Int)->Nat
 | []=>0
 |r::rs=>r.length+Eb rs
def low (k:Int):Prop:=0<=k/\k<=1099511627776
noncomputable abbrev Zg:MSpec:=cr [none,none] [(true,rL),(false, .Eu tI)] false [none] [.Eu tI] (λx=>short x.1/\low x.2.1) (λx=>((x.2.1+List.length x.1,()),(Ky x.2.1 (List.length x.1),())))
noncomputable abbrev ek:MSpec:=cr [none,none] [(true,xLL),(false, .Eu tI)] false [none] [.Eu tI] (λx=>Hb x.1/\low x.2.1/\low (x.2.1+Eb x.1)) (λx=>((x.2.1+Eb x.1,()),(Kf x.2.1 x.1,())))
noncomputable abbrev Sq:MSpec:=cr [some 3,none] [(false, .Eu tI),(false, .Eu .str),(true,xLL),(false, .Eu tI)] false [none] [.Eu tI]
 (λx=>Hb x.2.2.1/\low x.2.2.2.1/\low (x.2.2.2.1+Eb x.2.2.1)) (λx=>((x.2.2.2.1+Eb x.2.2.1,()),(Kf x.2.2.2.1 x.2.2.1,())))
def nM (xs:List Int) (k:Int):Int:=if xs=Ky k xs.length then k+xs.length else-1
noncomputable abbrev fD:Spec:=Ev (.pair tL (.pair tI .unit)) tI false true (λx=>short x.1/\low x.2.1) (λx=>nM x.1 x.2.1)
noncomputable abbrev Tf:MSpec:=cr [none] [(false, .Eu tL)] false [none] [rL] (λx=>short x.1) (λx=>((x.1,()),()))
noncomputable abbrev bb:MSpec:=cr [none] [(false, .Eu da)] false [none] [xLL] (λx=>Hb x.1) (λx=>((x.1,()),()))
noncomputable abbrev Yq:MSpec:=cr [some 3] [(false, .Eu tL),(false, .Eu da),(false, .Eu tL)] false [some 3] [rL,xLL,rL] (λx=>Ob (x.1,x.2.1,x.2.2.1,())) (λx=>((x.1,x.2.1,x.2.2.1,()),()))
noncomputable abbrev Pr:MSpec:=cr [some 3] [(false, .Eu tI),(false, .Eu .str),(false, .Eu da)] false [some 3] [.Eu tI, .Eu .str,xLL] (λx=>Eh (x.1,x.2.1,x.2.2.1,())) (λx=>((x.1,x.2.1,x.2.2.1,()),()))
theorem Afn (xs:List Int) (k:Int) (P:((Int×Unit)×List Int×Unit)->Prop):(0=0/\xs.length=xs.length/\Df (λ(v3:Int×Int×List Int×PUnit) (k4:Int×Int×List Int×PUnit->Prop)=>Br (decide (v3.2.1<(↑v3.2.2.1.length:Int))) (((0:Int)<=v3.2.1/\v3.2.1<(↑v3.2.2.1.length:Int))/\0+v3.2.1.toNat<v3.2.2.1.length/\0=0/\v3.2.2.1.length=(v3.2.2.1.set (0+v3.2.1.toNat) v3.1).length/\k4 (IntKind.i64.wrap (v3.1+(1:Int)),IntKind.i64.wrap (v3.2.1+(1:Int)),v3.2.2.1.set (0+v3.2.1.toNat) v3.1,())) (P ((v3.1,()),v3.2.2.1,()))) (k,(0:Int),xs,PUnit.unit))=fnMW Tk (look []) Zg Tryz.f31 (xs,k,()) P:=by kernel_rfl
theorem Acl (xs:List (List Int)) (k:Int) (P:((Int×Unit)×List (List Int)×Unit)->Prop):(0=0/\xs.length=xs.length/\Df (λ(v3:Int×Int×List (List Int)×PUnit) (k4:Int×Int×List (List Int)×PUnit->Prop)=>Br (decide (v3.2.1<(↑v3.2.2.1.length:Int))) (((0:Int)<=v3.2.1/\v3.2.1<(↑v3.2.2.1.length:Int))/\ ∃(y5:List Int),v3.2.2.1[0+v3.2.1.toNat]?=some y5/\ ∃(y6:List Int),v3.2.2.1[0+v3.2.1.toNat]?=some y6/\ ∃(y7:(Int×PUnit)×List Int×PUnit),Zg.fn (y6,v3.1,())=some y7/\ ∃(y8:List Int),v3.2.2.1[0+v3.2.1.toNat]?=some y8/\y7.2.1.length=y8.length/\0=0/\v3.2.2.1.length=(v3.2.2.1.set (0+v3.2.1.toNat) y7.2.1).length/\k4 (y7.1.1,IntKind.i64.wrap (v3.2.1+(1:Int)),v3.2.2.1.set (0+v3.2.1.toNat) y7.2.1,())) (P ((v3.1,()),v3.2.2.1,()))) (k,(0:Int),xs,PUnit.unit))=fnMW Tk (look [(31,Zg)]) ek Tryz.f60 (xs,k,()) P:=by kernel_rfl
theorem CZ (n:Int) (s:ByteArray) (b:List (List Int)) (k:Int) (P:((Int×Unit)×List (List Int)×Unit)->Prop):(0=0/\b.length=b.length/\ ∃(y5:(Int×PUnit)×List (List Int)×PUnit),ek.fn (b,k,())=some y5/\(y5.2.1.length=b.length/\b.length=b.length)/\P ((y5.1.1,()),y5.2.1,()))=fnMW Tk (look [(60,ek)]) Sq Tryz.f29 (n,s,b,k,()) P:=by kernel_rfl
theorem Afj (xs:List Int) (k:Int) (P:Int->Prop):(Df (λ(v3:Int×Int×PUnit) (k4:Int×Int×PUnit->Prop)=>Br (decide (v3.2.1<(↑xs.length:Int))) (∃(y5:Int),idx xs v3.2.1=some y5/\Br (y5 !=v3.1) (P (-1:Int)) (k4 (IntKind.i64.wrap (v3.1+(1:Int)),IntKind.i64.wrap (v3.2.1+(1:Int)),()))) (P v3.1)) (k,(0:Int),PUnit.unit))=fnW Ei (look []) fD Tryz.f32 (xs,k,()) P:=by kernel_rfl
theorem Al7 (xs:List Int) (P:((List Int×Unit)×Unit)->Prop):(((0:Int)<=(↑xs.length:Int)/\(↑xs.length:Int)<(↑Cr:Int)+(1:Int))/\(↑xs.length:Int)=(↑xs.length:Int)/\0=0/\(List.replicate (↑xs.length:Int).toNat (Int.ofNat (nat_lit 0))).length=(List.replicate (↑xs.length:Int).toNat (Int.ofNat (nat_lit 0))).length/\Df (λ(v2:Int×List Int×PUnit) (k3:Int×List Int×PUnit->Prop)=>Br (decide (v2.1<(↑xs.length:Int))) (∃(y4:Int),idx xs v2.1=some y4/\((0:Int)<=v2.1/\v2.1<(↑v2.2.1.length:Int))/\0+v2.1.toNat<v2.2.1.length/\0=0/\v2.2.1.length=(v2.2.1.set (0+v2.1.toNat) y4).length/\k3 (IntKind.i64.wrap (v2.1+(1:Int)),v2.2.1.set (0+v2.1.toNat) y4,())) (P ((List.take v2.2.1.length (List.drop 0 v2.2.1),()),()))) ((0:Int),List.replicate (↑xs.length:Int).toNat (Int.ofNat (nat_lit 0)),PUnit.unit))=fnMW Tk (look []) Tf Tryz.f18 (xs,()) P:=by kernel_rfl
theorem Afq (xs:List (List Int)) (P:((List (List Int)×Unit)×Unit)->Prop):(((0:Int)<=(↑xs.length:Int)/\(↑xs.length:Int)<(↑Cr:Int)+(1:Int))/\(↑xs.length:Int)=(↑xs.length:Int)/\0=0/\(List.replicate (↑xs.length:Int).toNat ([]:List Int)).length=(List.replicate (↑xs.length:Int).toNat ([]:List Int)).length/\Df (λ(v2:Int×List (List Int)×PUnit) (k3:Int×List (List Int)×PUnit->Prop)=>Br (decide (v2.1<(↑xs.length:Int))) (∃(y4:List Int),idx xs v2.1=some y4/\ ∃(y5:(List Int×PUnit)×PUnit),Tf.fn (y4,())=some y5/\((0:Int)<=v2.1/\v2.1<(↑v2.2.1.length:Int))/\0+v2.1.toNat<v2.2.1.length/\0=0/\v2.2.1.length=(v2.2.1.set (0+v2.1.toNat) (List.take y5.1.1.length (List.drop 0 y5.1.1))).length/\k3 (IntKind.i64.wrap (v2.1+(1:Int)),v2.2.1.set (0+v2.1.toNat) (List.take y5.1.1.length (List.drop 0 y5.1.1)),())) (P ((List.take v2.2.1.length (List.drop 0 v2.2.1),()),()))) ((0:Int),List.replicate (↑xs.length:Int).toNat ([]:List Int),PUnit.unit))=fnMW Tk (look [(18,Tf)]) bb Tryz.f49 (xs,()) P:=by kernel_rfl
theorem QL (a:List Int) (b:List (List Int)) (c:List Int) (P:((List Int×List (List Int)×List Int×Unit)×Unit)->Prop):(∃(y4:(List Int×PUnit)×PUnit),Tf.fn (a,())=some y4/\ ∃(y5:(List (List Int)×PUnit)×PUnit),bb.fn (b,())=some y5/\ ∃(y6:(List Int×PUnit)×PUnit),Tf.fn (c,())=some y6/\P ((List.take y4.1.1.length (List.drop 0 y4.1.1),List.take y5.1.1.length (List.drop 0 y5.1.1),List.take y6.1.1.length (List.drop 0 y6.1.1),()),()))=fnMW Tk (look [(18,Tf),(49,bb)]) Yq Tryz.f50 (a,b,c,()) P:=by kernel_rfl
theorem KC (n:Int) (s:ByteArray) (b:List (List Int)) (P:((Int×ByteArray×List (List Int)×Unit)×Unit)->Prop):(∃(y4:(List (List Int)×PUnit)×PUnit),bb.fn (b,())=some y4/\P ((n,s,List.take y4.1.1.length (List.drop 0 y4.1.1),()),()))=fnMW Tk (look [(49,bb)]) Pr Tryz.f16 (n,s,b,()) P:=by kernel_rfl
theorem Cf {α:Type} (xs:List α):List.take xs.length (List.drop 0 xs)=xs:=by rw [Dm,Ap]
theorem Vf (k:Int) (n:Nat):(Ky k n).length=n:=by simp [Ky]
theorem nN (k:Int) (n:Nat):Ky k (n+1)=Ky k n++ [k+(n:Nat)]:=by simp [Ky,hJ]
theorem iW (a b:List (List Int)):Eb (a++b)=Eb a+Eb b:=by
 induction a with
 |nil=>simp [Eb]
 |cons r a ih=>simp only [Ma,Eb,ih];omega
theorem eb: ∀(a b:List (List Int)) (k:Int),Kf k (a++b)=Kf k a++Kf (k+Eb a) b
 | [],b,k=>by simp [Kf,Eb]
 |r::a,b,k=>by
  simp only [Ma,Kf,Eb,eb a b]
  congr 3
  omega
theorem dt: ∀(xs:List (List Int)) (k:Int),(Kf k xs).length=xs.length
 | [],_=>rfl
 |r::xs,k=>by simp [Kf,dt xs]
theorem AB {xs:List (List Int)} {j:Nat} (h:j<xs.length):Eb (xs.drop j)=xs[j].length+Eb (xs.drop (j+1)):=by
 rw [Cn h];rfl
theorem AD {xs:List (List Int)} {j:Nat} (h:j<xs.length):Eb (xs.take (j+1))=Eb (xs.take j)+xs[j].length:=by
 rw [Ay h,iW];simp [Eb]
theorem wF (xs:List (List Int)) (j:Nat):Eb (xs.take j)+Eb (xs.drop j)=Eb xs:=by
 rw [<-iW,Ig]
theorem Aev (xs:List Int) (k:Int) (h:short xs/\low k):fnMW Tk (look []) Zg Tryz.f31 (xs,k,()) (λ(z:(Int×Unit)×List Int×Unit)=>z=((k+xs.length,()),(Ky k xs.length,()))):=by
 obtain ⟨h1,h2,h3⟩:=h
 unfold short at h1
 refine Eq.mp (Afn xs k _) ⟨rfl,rfl,?_⟩
 refine Bf xs.length (λv=>v.2.1) (λj v=>v.1=k+(j:Nat)/\v.2.2.1.length=xs.length/\v.2.2.1.take j=Ky k j) rfl ⟨by simp,rfl,by simp [Ky]⟩ ?_
 rintro j ⟨k',i,ys,⟨⟩⟩ K hj hi ⟨g1,g2,g3⟩ hK
 dsimp only at hi g1 g2 g3⊢
 subst hi;subst g1
 refine Br.dec (λhl=>?_) λhl=>?_
 ·have hl:j<ys.length:=by omega
  refine ⟨⟨by omega,by omega⟩,by rw [Ai];omega,rfl,by rw [Bi],?_⟩
  rw [Bg (by omega),Ai,Bv,Dl (by omega) (by omega)]
  refine hK (by omega) _ rfl ⟨by dsimp only;omega,by rw [Bi];exact g2,?_⟩
  rw [Ay (by rw [Bi];exact hl),List.take_set_of_le (Ao j),g3,List.getElem_set_self,nN]
 ·have rM:j=xs.length:=by omega
  subst rM
  rw [<-g2,Ap,g2] at g3
  rw [g3]
theorem jo:By Tryz.prog 31 Zg:=
 By.cr Rx Bh mixed Tryz.func31 (by kernel_rfl) (by kernel_rfl) λx h=>Aev x.1 x.2.1 h
theorem Ab2 (xs:List (List Int)) (k:Int) (h:Hb xs/\low k/\low (k+Eb xs)):fnMW Tk (look [(31,Zg)]) ek Tryz.f60 (xs,k,()) (λ(z:(Int×Unit)×List (List Int)×Unit)=>z=((k+Eb xs,()),(Kf k xs,()))):=by
 obtain ⟨⟨h1,h4⟩,⟨h2,h3⟩,h5,h6⟩:=h
 refine Eq.mp (Acl xs k _) ⟨rfl,rfl,?_⟩
 refine Bf xs.length (λv=>v.2.1) (λj v=>v.1=k+(Eb (xs.take j):Nat)/\v.2.2.1.length=xs.length/\v.2.2.1.take j=Kf k (xs.take j)/\v.2.2.1.drop j=xs.drop j) rfl ⟨by simp [Eb],rfl,by simp [Kf],rfl⟩ ?_
 rintro j ⟨k',i,ys,⟨⟩⟩ K hj hi ⟨g1,g2,g3,g4⟩ hK
 dsimp only at hi g1 g2 g3 g4⊢
 subst hi;subst g1
 refine Br.dec (λhl=>?_) λhl=>?_
 ·have hl:j<ys.length:=by omega
  have hlx:j<xs.length:=by omega
  have hy:ys[j]?=some xs[j]:=by
   have:(ys.drop j)[0]?=(xs.drop j)[0]?:=by rw [g4]
   simpa [Cw,Ac hlx] using this
  have XR:=wF xs j
  have htk:=AD hlx
  have hdr:=AB hlx
  refine ⟨⟨by omega,by omega⟩,?_⟩
  simp only [Ai,Bv]
  have Aiw:low (k+(Eb (xs.take j):Nat)):=⟨by omega,by omega⟩
  refine ⟨_,hy,_,hy,_,Ab ⟨h4 _ (Aj hlx),Aiw⟩,_,hy,Vf _ _,trivial,by rw [Bi],?_⟩
  rw [Bg (by omega)]
  refine hK hlx _ rfl ⟨by dsimp only;omega,by rw [Bi];exact g2,?_,?_⟩
  ·rw [Ay (by rw [Bi];exact hl),List.take_set_of_le (Ao j),g3,List.getElem_set_self,Ay hlx,eb]
   rfl
  ·dsimp only
   rw [List.drop_set_of_lt (by omega)]
   have e1:ys.drop (j+1)=(ys.drop j).drop 1:=by rw [List.drop_drop]
   rw [e1,g4,List.drop_drop]
 ·have rM:j=xs.length:=by omega
  subst rM
  rw [<-g2,Ap,g2,Ap] at g3
  rw [g3,Ap]
theorem oq:By Tryz.prog 60 ek:=
 By.cr Rx (En jo Bh) mixed Tryz.func60 (by kernel_rfl) (by kernel_rfl) λx h=>Ab2 x.1 x.2.1 h
theorem AN (n:Int) (s:ByteArray) (b:List (List Int)) (k:Int) (h:Hb b/\low k/\low (k+Eb b)):fnMW Tk (look [(60,ek)]) Sq Tryz.f29 (n,s,b,k,()) (λ(z:(Int×Unit)×List (List Int)×Unit)=>z=((k+Eb b,()),(Kf k b,()))):=by
 exact Eq.mp (CZ n s b k _) ⟨rfl,rfl,_,Ab h,⟨dt _ _,rfl⟩,rfl⟩
theorem qb:By Tryz.prog 29 Sq:=
 By.cr Rx (En oq Bh) mixed Tryz.func29 (by kernel_rfl) (by kernel_rfl) λx h=>AN x.1 x.2.1 x.2.2.1 x.2.2.2.1 h
theorem Aer (xs:List Int) (k:Int) (h:short xs/\low k):fnW Ei (look []) fD Tryz.f32 (xs,k,()) (λ(z:Int)=>z=nM xs k):=by
 obtain ⟨h1,h2,h3⟩:=h
 unfold short at h1
 refine Eq.mp (Afj xs k _) ?_
 refine Bf xs.length (λv=>v.2.1) (λj v=>v.1=k+(j:Nat)/\xs.take j=Ky k j) rfl ⟨by simp,by simp [Ky]⟩ ?_
 rintro j ⟨k',i,⟨⟩⟩ K hj hi ⟨g1,g3⟩ hK
 dsimp only at hi g1 g3⊢
 subst hi;subst g1
 refine Br.dec (λhl=>?_) λhl=>?_
 ·have hl:j<xs.length:=by omega
  refine ⟨_,Bp hl,λIk=>?_,λhe=>?_⟩
  ·simp only [Wx,ne_eq] at Ik
   unfold nM
   rw [Ag]
   intro he
   refine Ik ?_
   have e1:xs[j]?=(Ky k xs.length)[j]?:=by rw [<-he]
   rw [Ac hl] at e1
   simpa [Ky,hl] using e1
  ·simp only [Hc] at he
   rw [Bg (by omega),Dl (by omega) (by omega)]
   refine hK hl _ rfl ⟨by dsimp only;omega,?_⟩
   rw [Ay hl,g3,he,nN]
 ·have rM:j=xs.length:=by omega
  subst rM
  rw [Ap] at g3
  exact (Ab g3).symm
theorem IL:Sound Tryz.prog 32 fD:=
 Sound.Ev Db Bh mixed Tryz.func32 (by kernel_rfl) (by kernel_rfl) λx h=>Aer x.1 x.2.1 h
theorem lj (k:Int) (n:Nat):nM (Ky k n) k=k+n:=by unfold nM;rw [Vf,Ab rfl]
theorem Ake (xs:List Int) (h:short xs):fnMW Tk (look []) Tf Tryz.f18 (xs,()) (λ(z:(List Int×Unit)×Unit)=>z=((xs,()),())):=by
 unfold short at h
 refine Eq.mp (Al7 xs _) ?_
 refine ⟨⟨by omega,by show (xs.length:Int)<(4294967296:Int)+1;omega⟩,rfl,rfl,rfl,?_⟩
 refine Bf xs.length (λv=>v.1) (λj v=>v.2.1.length=xs.length/\v.2.1.take j=xs.take j) rfl ⟨by simp,by simp⟩ ?_
 rintro j ⟨i,ys,⟨⟩⟩ K hj hi ⟨h1,h2⟩ hK
 dsimp only at hi h1 h2⊢
 subst hi
 refine Br.dec (λhl=>?_) λhl=>?_
 ·have hl:j<xs.length:=by omega
  refine ⟨_,Bp hl,⟨by omega,by omega⟩,by rw [Ai];omega,rfl,by rw [Bi],?_⟩
  rw [Bg (by omega),Ai,Bv]
  exact hK hl _ rfl ⟨by rw [Bi];exact h1,Kl hl h1 h2⟩
 ·have:j=xs.length:=by omega
  subst this
  rw [Ap,<-h1,Ap] at h2
  rw [Cf,h2]
theorem mB:By Tryz.prog 18 Tf:=
 By.cr Rx Bh mixed Tryz.func18 (by kernel_rfl) (by kernel_rfl) λx h=>Ake x.1 h
theorem Aey (xs:List (List Int)) (h:Hb xs):fnMW Tk (look [(18,Tf)]) bb Tryz.f49 (xs,()) (λ(z:(List (List Int)×Unit)×Unit)=>z=((xs,()),())):=by
 obtain ⟨h,h4⟩:=h
 refine Eq.mp (Afq xs _) ?_
 refine ⟨⟨by omega,by show (xs.length:Int)<(4294967296:Int)+1;omega⟩,rfl,rfl,rfl,?_⟩
 refine Bf xs.length (λv=>v.1) (λj v=>v.2.1.length=xs.length/\v.2.1.take j=xs.take j) rfl ⟨by simp,by simp⟩ ?_
 rintro j ⟨i,ys,⟨⟩⟩ K hj hi ⟨h1,h2⟩ hK
 dsimp only at hi h1 h2⊢
 subst hi
 refine Br.dec (λhl=>?_) λhl=>?_
 ·have hl:j<xs.length:=by omega
  refine ⟨_,Bp hl,_,Ab (h4 _ (Aj hl)),⟨by omega,by omega⟩,by rw [Ai];omega,rfl,by rw [Bi],?_⟩
  rw [Bg (by omega),Ai,Bv]
  dsimp only
  rw [Cf]
  exact hK hl _ rfl ⟨by rw [Bi];exact h1,Kl hl h1 h2⟩
 ·have:j=xs.length:=by omega
  subst this
  rw [Ap,<-h1,Ap] at h2
  rw [Cf,h2]
theorem re:By Tryz.prog 49 bb:=
 By.cr Rx (En mB Bh) mixed Tryz.func49 (by kernel_rfl) (by kernel_rfl) λx h=>Aey x.1 h
theorem OE (a:List Int) (b:List (List Int)) (c:List Int) (h:Ob (a,b,c,())):fnMW Tk (look [(18,Tf),(49,bb)]) Yq Tryz.f50 (a,b,c,()) (λ(z:(List Int×List (List Int)×List Int×Unit)×Unit)=>z=((a,b,c,()),())):=by
 refine Eq.mp (QL a b c _) ⟨_,Ab h.1,_,Ab h.2.1,_,Ab h.2.2,?_⟩
 simp only [Cf]
theorem vG:By Tryz.prog 50 Yq:=
 By.cr Rx (En mB (En re Bh)) mixed Tryz.func50 (by kernel_rfl) (by kernel_rfl) λx h=>OE x.1 x.2.1 x.2.2.1 h
theorem HV (n:Int) (s:ByteArray) (b:List (List Int)) (h:Eh (n,s,b,())):fnMW Tk (look [(49,bb)]) Pr Tryz.f16 (n,s,b,()) (λ(z:(Int×ByteArray×List (List Int)×Unit)×Unit)=>z=((n,s,b,()),())):=by
 refine Eq.mp (KC n s b _) ⟨_,Ab h.2,?_⟩
 simp only [Cf]
theorem sm:By Tryz.prog 16 Pr:=
 By.cr Rx (En re Bh) mixed Tryz.func16 (by kernel_rfl) (by kernel_rfl) λx h=>HV x.1 x.2.1 x.2.2.1 h
theorem kY: ∀(xs:List Int) (a:Int),xs.foldl max a=a\/xs.foldl max a∈xs
 | [],a=> .inl rfl
 |y::xs,a=>by
  simp only [Ih]
  rcases kY xs (max a y) with h|h
  ·rw [h]
   rcases Int.le_total a y with h1|h1
   ·rw [Int.max_eq_right h1];exact .inr (by simp)
   ·rw [Int.max_eq_left h1];exact .inl rfl
  ·exact .inr (As _ h)
theorem Sn (a:List Int):Ch a a=true:=by simp [Ch]
theorem CF {n:Nat} {room:Int} (h: ¬pz n room<0):pz n room=room-n/\(n:Int)<=room:=by
 unfold pz at*
 split at h
 ·exact absurd (show (-1:Int)<0 by decide) h
 ·rename_i h1;rw [Ag h1];exact ⟨rfl,by omega⟩
theorem JA: ∀(xs:List (List Int)) (room:Int),0<=room-> ¬vO xs room<0->vO xs room=room-Eb xs
 | [],room,_,_=>by simp [vO,Eb]
 |r::xs,room,h0,h=>by
  simp only [vO,Eb] at h⊢
  split at h
  ·exact absurd (show (-1:Int)<0 by decide) h
  ·rename_i h1
   rw [Ag h1]
   have e1:=CF (n:=r.length) h1
   have e1:Wg r room=room-r.length/\(r.length:Int)<=room:=e1
   rw [JA xs _ (by rw [e1.1];omega) h,e1.1]
   omega
theorem JB {xs:List (List Int)} {room:Int} (h: ¬Qu xs room<0):Qu xs room=room-xs.length-Eb xs:=by
 unfold Qu at*
 split at h
 ·exact absurd (show (-1:Int)<0 by decide) h
 ·rename_i h1
  rw [Ag h1]
  have e1:=CF h1
  rw [JA xs _ (by rw [e1.1];omega) h,e1.1]
theorem KH (k:Int) (n:Nat):List.take n (List.drop 0 (Ky k n))=Ky k n:=by rw [Dm,aC (by rw [Vf];exact Ao _)]
theorem sD:low 1:=⟨by decide,by decide⟩
noncomputable abbrev uU:MSpec:=cr [none] [(false, .Eu (.oslice tI))] false [none] [rL] (λx=>short (x.1.getD [])) (λx=>((x.1.getD [],()),()))
noncomputable abbrev c6:MSpec:=cr [none] [(false, .Eu tL)] false [none] [rL] (λx=>short x.1) (λx=>((x.1,()),()))
noncomputable abbrev Jr:Spec:=Ev (.pair tL .unit) tL false true (λx=>short x.1) (λx=>x.1)
theorem Aci (xs:Option (List Int)) (P:((List Int×Unit)×Unit)->Prop):(Br xs.isNone (P ((List.take 0 (List.drop 0 []),()),())) (0=0/\0=([]:List Int).length/\0+(xs.getD []).length<=Cr/\P ((List.take ([]++xs.getD []).length (List.drop 0 ([]++xs.getD [])),()),())))=fnMW Tk (look []) uU Tryz.f138 (xs,()) P:=by kernel_rfl
theorem QB (xs:List Int) (P:List Int->Prop):(0=0/\0=([]:List Int).length/\0+xs.length<=Cr/\P (List.take ([]++xs).length (List.drop 0 ([]++xs))))=fnW Ei (look []) Jr Tryz.f116 (xs,()) P:=by kernel_rfl
theorem Aaz (xs:Option (List Int)) (h:short (xs.getD [])):fnMW Tk (look []) uU Tryz.f138 (xs,()) (λ(z:(List Int×Unit)×Unit)=>z=((xs.getD [],()),())):=by
 unfold short at h
 refine Eq.mp (Aci xs _) ⟨λhn=>?_,λ_=>⟨rfl,rfl,by show 0+(xs.getD []).length<=4294967296;omega,?_⟩⟩
 ·cases xs with
  |none=>rfl
  |some y=>cases hn
 ·simp only [Cf,gZ]
theorem BO:By Tryz.prog 138 uU:=
 By.cr Rx Bh mixed Tryz.func138 (by kernel_rfl) (by kernel_rfl) λx h=>Aaz x.1 h
theorem oe:By Tryz.prog 138 c6:=By.ofO BO λ_ _ h=>⟨h,rfl⟩
theorem NT (xs:List Int) (h:short xs):fnW Ei (look []) Jr Tryz.f116 (xs,()) (λ(z:List Int)=>z=xs):=by
 unfold short at h
 refine Eq.mp (QB xs _) ⟨rfl,rfl,by show 0+xs.length<=4294967296;omega,?_⟩
 simp only [Cf,gZ]
theorem Wp:Sound Tryz.prog 116 Jr:=
 Sound.Ev Db Bh mixed Tryz.func116 (by kernel_rfl) (by kernel_rfl) λx h=>NT x.1 h
def Ee (xs is:List Int):List Int:=is.map (Nm xs)
noncomputable abbrev bp:MSpec:=cr [none,none] [(false, .Eu tL),(false, .Eu tL)] false [none] [rL] (λx=>short x.2.1/\Mk (List.length x.1) x.2.1) (λx=>((Ee x.1 x.2.1,()),()))
noncomputable abbrev br:Spec:=Ev (.pair tL (.pair tL .unit)) tL false true (λx=>short x.1/\Mk (List.length x.2.1) x.1) (λx=>Ee x.2.1 x.1)
def Xi (xs:List Int):ByteArray:=bytesOf (xs.map λx=>IntKind.u8.wrap x)
noncomputable abbrev Kh:Spec:=Ev (.pair tL .unit) .str false true (λx=>short x.1) (λx=>Xi x.1)
def nX (ps:List (List Int)) (p:List Int):Int:=Hs (λq=>decide (q=p)) ps 0
theorem XA (xs is:List Int) (P:((List Int×Unit)×Unit)->Prop):(((0:Int)<=(↑is.length:Int)/\(↑is.length:Int)<(↑Cr:Int)+(1:Int))/\(↑is.length:Int)=(↑is.length:Int)/\0=0/\(List.replicate (↑is.length:Int).toNat (Int.ofNat (nat_lit 0))).length=(List.replicate (↑is.length:Int).toNat (Int.ofNat (nat_lit 0))).length/\Df (λ(v3:Int×List Int×PUnit) (k4:Int×List Int×PUnit->Prop)=>Br (decide (v3.1<(↑is.length:Int))) (∃(y5:Int),idx is v3.1=some y5/\ ∃(y6:Int),idx xs y5=some y6/\((0:Int)<=v3.1/\v3.1<(↑v3.2.1.length:Int))/\0+v3.1.toNat<v3.2.1.length/\0=0/\v3.2.1.length=(v3.2.1.set (0+v3.1.toNat) y6).length/\k4 (IntKind.i64.wrap (v3.1+(1:Int)),v3.2.1.set (0+v3.1.toNat) y6,())) (P ((List.take v3.2.1.length (List.drop 0 v3.2.1),()),()))) ((0:Int),List.replicate (↑is.length:Int).toNat (Int.ofNat (nat_lit 0)),PUnit.unit))=fnMW Tk (look []) bp Tryz.f80 (xs,is,()) P:=by kernel_rfl
theorem XC (is xs:List Int) (P:List Int->Prop):(0=0/\0=([]:List Int).length/\Df (λ(v3:Int×List Int×PUnit) (k4:Int×List Int×PUnit->Prop)=>Br (decide (v3.1<(↑is.length:Int))) (∃(y5:Int),idx is v3.1=some y5/\ ∃(y6:Int),idx xs y5=some y6/\0=0/\v3.2.1.length=v3.2.1.length/\v3.2.1.length+(List.take 1 (List.drop 0 [y6])).length<=Cr/\0=0/\(v3.2.1++List.take 1 (List.drop 0 [y6])).length=(v3.2.1++List.take 1 (List.drop 0 [y6])).length/\k4 (IntKind.i64.wrap (v3.1+(1:Int)),v3.2.1++List.take 1 (List.drop 0 [y6]),())) (P (List.take v3.2.1.length (List.drop 0 v3.2.1)))) ((0:Int),[],PUnit.unit))=fnW Ei (look []) br Tryz.f78 (is,xs,()) P:=by kernel_rfl
theorem QJ (xs:List Int) (P:ByteArray->Prop):(((0:Int)<=(↑xs.length:Int)/\(↑xs.length:Int)<(↑Cr:Int)+(1:Int))/\(↑xs.length:Int)=(↑xs.length:Int)/\0=0/\(List.replicate (↑xs.length:Int).toNat (Int.ofNat (nat_lit 0))).length=(List.replicate (↑xs.length:Int).toNat (Int.ofNat (nat_lit 0))).length/\Df (λ(v2:Int×List Int×PUnit) (k3:Int×List Int×PUnit->Prop)=>Br (decide (v2.1<(↑xs.length:Int))) (∃(y4:Int),idx xs v2.1=some y4/\((0:Int)<=v2.1/\v2.1<(↑v2.2.1.length:Int))/\0+v2.1.toNat<v2.2.1.length/\0=0/\v2.2.1.length=(v2.2.1.set (0+v2.1.toNat) (IntKind.u8.wrap y4)).length/\k3 (IntKind.i64.wrap (v2.1+(1:Int)),v2.2.1.set (0+v2.1.toNat) (IntKind.u8.wrap y4),())) (P (bytesOf (List.take v2.2.1.length (List.drop 0 v2.2.1))))) ((0:Int),List.replicate (↑xs.length:Int).toNat (Int.ofNat (nat_lit 0)),PUnit.unit))=fnW Ei (look []) Kh Tryz.f79 (xs,()) P:=by kernel_rfl
theorem uF (xs is:List Int):(Ee xs is).length=is.length:=by simp [Ee]
theorem Aem {α:Type} (y:α):List.take 1 (List.drop 0 [y])= [y]:=rfl
theorem VB (xs is:List Int) (h:short is/\Mk xs.length is):fnMW Tk (look []) bp Tryz.f80 (xs,is,()) (λ(z:(List Int×Unit)×Unit)=>z=((Ee xs is,()),())):=by
 obtain ⟨h,hr⟩:=h
 unfold short at h
 refine Eq.mp (XA xs is _) ?_
 refine ⟨⟨by omega,by show (is.length:Int)<(4294967296:Int)+1;omega⟩,rfl,rfl,rfl,?_⟩
 have Pw:=uF xs is
 refine Bf is.length (λv=>v.1) (λj v=>v.2.1.length=(Ee xs is).length/\v.2.1.take j=(Ee xs is).take j) rfl ⟨by rw [Pw];simp,by simp⟩ ?_
 rintro j ⟨i,ys,⟨⟩⟩ K hj hi ⟨h1,h2⟩ hK
 dsimp only at hi h1 h2⊢
 subst hi
 refine Br.dec (λhl=>?_) λhl=>?_
 ·have hl:j<is.length:=by omega
  have hy:=hr _ (Aj hl)
  refine ⟨_,Bp hl,_,iQ hy.1 hy.2,⟨by omega,by omega⟩,by rw [Ai];omega,rfl,by rw [Bi],?_⟩
  rw [Bg (by omega),Ai,Bv]
  have Km:j<(Ee xs is).length:=by rw [Pw];exact hl
  have e:Nm xs is[j]=(Ee xs is)[j]:=by simp [Ee]
  rw [e]
  exact hK hl _ rfl ⟨by rw [Bi];exact h1,Kl Km h1 h2⟩
 ·have:j=is.length:=by omega
  subst this
  rw [<-Pw,Ap,<-h1,Ap] at h2
  rw [Dm,Ap,h2]
theorem xb:By Tryz.prog 80 bp:=
 By.cr Rx Bh mixed Tryz.func80 (by kernel_rfl) (by kernel_rfl) λx h=>VB x.1 x.2.1 h
theorem VD (is xs:List Int) (h:short is/\Mk xs.length is):fnW Ei (look []) br Tryz.f78 (is,xs,()) (λ(z:List Int)=>z=Ee xs is):=by
 obtain ⟨h,hr⟩:=h
 unfold short at h
 refine Eq.mp (XC is xs _) ⟨rfl,rfl,?_⟩
 have Pw:=uF xs is
 refine Bf is.length (λv=>v.1) (λj v=>v.2.1=(Ee xs is).take j) rfl rfl ?_
 rintro j ⟨i,ys,⟨⟩⟩ K hj hi h1 hK
 dsimp only at hi h1⊢
 subst hi
 refine Br.dec (λhl=>?_) λhl=>?_
 ·have hl:j<is.length:=by omega
  have hy:=hr _ (Aj hl)
  have Km:j<(Ee xs is).length:=by rw [Pw];exact hl
  refine ⟨_,Bp hl,_,iQ hy.1 hy.2,rfl,rfl,?_,rfl,rfl,?_⟩
  ·show ys.length+1<=4294967296
   rw [h1,Dd];omega
  ·rw [Bg (by omega),Aem]
   refine hK hl _ rfl ?_
   dsimp only
   rw [h1,Ay Km]
   simp [Ee]
 ·have:j=is.length:=by omega
  subst this
  rw [Cf,h1,<-Pw,Ap]
theorem xd:Sound Tryz.prog 78 br:=
 Sound.Ev Db Bh mixed Tryz.func78 (by kernel_rfl) (by kernel_rfl) λx h=>VD x.1 x.2.1 h
theorem OC (xs:List Int) (h:short xs):fnW Ei (look []) Kh Tryz.f79 (xs,()) (λ(z:ByteArray)=>z=Xi xs):=by
 unfold short at h
 refine Eq.mp (QJ xs _) ?_
 refine ⟨⟨by omega,by show (xs.length:Int)<(4294967296:Int)+1;omega⟩,rfl,rfl,rfl,?_⟩
 have Pw:(xs.map λx=>IntKind.u8.wrap x).length=xs.length:=by simp
 refine Bf xs.length (λv=>v.1) (λj v=>v.2.1.length=(xs.map λx=>IntKind.u8.wrap x).length/\v.2.1.take j=(xs.map λx=>IntKind.u8.wrap x).take j) rfl ⟨by rw [Pw];simp,by simp⟩ ?_
 rintro j ⟨i,ys,⟨⟩⟩ K hj hi ⟨h1,h2⟩ hK
 dsimp only at hi h1 h2⊢
 subst hi
 refine Br.dec (λhl=>?_) λhl=>?_
 ·have hl:j<xs.length:=by omega
  refine ⟨_,Bp hl,⟨by omega,by omega⟩,by rw [Ai];omega,rfl,by rw [Bi],?_⟩
  rw [Bg (by omega),Ai,Bv]
  have Km:j<(xs.map λx=>IntKind.u8.wrap x).length:=by rw [Pw];exact hl
  have e:IntKind.u8.wrap xs[j]=(xs.map λx=>IntKind.u8.wrap x)[j]:=by simp
  rw [e]
  exact hK hl _ rfl ⟨by rw [Bi];exact h1,Kl Km h1 h2⟩
 ·have:j=xs.length:=by omega
  subst this
  rw [<-Pw,Ap,<-h1,Ap] at h2
  rw [Dm,Ap,h2];rfl
theorem cb:Sound Tryz.prog 79 Kh:=
 Sound.Ev Db Bh mixed Tryz.func79 (by kernel_rfl) (by kernel_rfl) λx h=>OC x.1 h
theorem gq {α:Type} (P:α->Bool) (y:α): ∀(l:List α) (i:Int),0<=i->Hs P (l++ [y]) i=if Hs P l i<0 then (if P y=true then i+l.length else-1) else Hs P l i
 | [],i,_=>by simp [Hs]
 |x::r,i,h=>by
  simp only [Ma,Hs,Az]
  split
  ·rw [Ag (by omega)]
  ·rw [gq P y r (i+1) (by omega),show i+1+(r.length:Int)=i+((r.length+1:Nat):Int) by push_cast;omega]
theorem AU (ps:List (List Int)) (q p:List Int):nX (ps++ [q]) p=if nX ps p<0 then (if q=p then (ps.length:Int) else-1) else nX ps p:=by
 unfold nX
 rw [gq _ _ _ _ (Nt 0)]
 simp only [Nf,Int.zero_add]
def fY (p:List Int):Prop:= ∀x∈p,0<=x/\x<256
theorem YN {x y:Int} (hx:0<=x/\x<256) (hy:0<=y/\y<256) (h:UInt8.ofNat (IntKind.u8.wrap x).toNat=UInt8.ofNat (IntKind.u8.wrap y).toNat):x=y:=by
 have h:=Mc UInt8.toNat h
 simp only [IntKind.wrap_u8,UInt8.toNat_ofNat'] at h
 omega
theorem bytes_inj: ∀(p q:List Int),fY p->fY q->(p.map λx=>UInt8.ofNat (IntKind.u8.wrap x).toNat)=(q.map λx=>UInt8.ofNat (IntKind.u8.wrap x).toNat)->p=q
 | [],[],_,_,_=>rfl
 | [],_::_,_,_,h=>by simp at h
 |_::_,[],_,_,h=>by simp at h
 |x::p,y::q,hp,hq,h=>by
  simp only [Ca,Gb] at h
  rw [YN (hp x (by simp)) (hq y (by simp)) h.1,bytes_inj p q (λz hz=>hp z (by simp [hz])) (λz hz=>hq z (by simp [hz])) h.2]
theorem key_inj {p q:List Int} (hp:fY p) (hq:fY q) (h:Xi p=Xi q):p=q:=by
 refine bytes_inj p q hp hq ?_
 simp only [Xi,bytesOf,ByteArray.mk.injEq,List.map_map] at h
 have h:=Mc Array.toList h
 simpa [Function.comp_def] using h
def KM (m:ByteArray->Option Int) (ps:List (List Int)):Prop:= ∀p,fY p->m (Xi p)=if nX ps p<0 then none else some (nX ps p)
theorem KM.nil:KM (λ_=>none) []:= λp _=>by
 rw [Ab (by unfold nX;simp [Hs])]
theorem KM.add {m:ByteArray->Option Int} {ps:List (List Int)} {q:List Int} (h:KM m ps) (hq:fY q) (hn:nX ps q<0):KM (jy m (Xi q) (ps.length:Int)) (ps++ [q]):=by
 intro p hp
 rw [AU]
 unfold jy
 by_cases e:p=q
 ·subst e
  rw [Ab rfl,Ab hn,Ab rfl,Ag (by omega)]
 ·rw [Ag (λhk=>e (key_inj hp hq hk)),h p hp]
  have e': ¬q=p:= λh=>e h.symm
  rw [Ag e']
  by_cases TY:nX ps p<0
  ·rw [Ab TY,Ab TY,Ab (by decide)]
  ·rw [Ag TY,Ag TY,Ag TY]
def ka (n:Nat) (last:Int):List Int:=(Aw n).filter λl=>!(l== -last)
noncomputable abbrev Nr:Spec:=Ev (.pair Fl .unit) tL false true (λx=>List.length x.1.2.2.1<=8) (λx=>Aw (List.length x.1.2.2.1))
noncomputable abbrev cR:Spec:=Ev (.pair Fl (.pair tI .unit)) tL false true (λx=>List.length x.1.2.2.1<=8/\ -8<=x.2.1/\x.2.1<=8) (λx=>ka (List.length x.1.2.2.1) x.2.1)
abbrev oC:Type:=Int×Int×ByteArray×List (List Int)×List Int×PUnit
theorem JV (p:Int×ByteArray×List (List Int)×Unit) (P:List Int->Prop):(0=0/\0=([]:List Int).length/\Df (λ(v2:oC) (k3:oC->Prop)=>Br (decide (v2.1<=(↑v2.2.2.2.1.length:Int))) (0=0/\v2.2.2.2.2.1.length=v2.2.2.2.2.1.length/\v2.2.2.2.2.1.length+(List.take 2 (List.drop 0 [v2.1,IntKind.i64.wrap ((0:Int)-v2.1)])).length<=Cr/\0=0/\(v2.2.2.2.2.1++List.take 2 (List.drop 0 [v2.1,IntKind.i64.wrap ((0:Int)-v2.1)])).length=(v2.2.2.2.2.1++List.take 2 (List.drop 0 [v2.1,IntKind.i64.wrap ((0:Int)-v2.1)])).length/\k3 (IntKind.i64.wrap (v2.1+(1:Int)),v2.2.1,v2.2.2.1,v2.2.2.2.1,v2.2.2.2.2.1++List.take 2 (List.drop 0 [v2.1,IntKind.i64.wrap ((0:Int)-v2.1)]),())) (P (List.take v2.2.2.2.2.1.length (List.drop 0 v2.2.2.2.2.1)))) ((1:Int),p.1,p.2.1,p.2.2.1,[],PUnit.unit))=fnW Ei (look []) Nr Tryz.f141 (p,()) P:=by kernel_rfl
theorem Afh (p:Int×ByteArray×List (List Int)×Unit) (l:Int) (P:List Int->Prop):(∃(y3:List Int),Nr.fn ((p.1,p.2.1,p.2.2.1,()),())=some y3/\0=0/\0=([]:List Int).length/\Df (λ(v4:Int×List Int×PUnit) (k5:Int×List Int×PUnit->Prop)=>Br (decide (v4.1<(↑y3.length:Int))) (Br (l==(0:Int)) (∃(y6:Int),idx y3 v4.1=some y6/\0=0/\v4.2.1.length=v4.2.1.length/\v4.2.1.length+(List.take 1 (List.drop 0 [y6])).length<=Cr/\0=0/\(v4.2.1++List.take 1 (List.drop 0 [y6])).length=(v4.2.1++List.take 1 (List.drop 0 [y6])).length/\k5 (IntKind.i64.wrap (v4.1+(1:Int)),v4.2.1++List.take 1 (List.drop 0 [y6]),())) (∃(y6:Int),idx y3 v4.1=some y6/\Br (y6 !=IntKind.i64.wrap ((0:Int)-l)) (∃(y7:Int),idx y3 v4.1=some y7/\0=0/\v4.2.1.length=v4.2.1.length/\v4.2.1.length+(List.take 1 (List.drop 0 [y7])).length<=Cr/\0=0/\(v4.2.1++List.take 1 (List.drop 0 [y7])).length=(v4.2.1++List.take 1 (List.drop 0 [y7])).length/\k5 (IntKind.i64.wrap (v4.1+(1:Int)),v4.2.1++List.take 1 (List.drop 0 [y7]),())) (0=0/\v4.2.1.length=v4.2.1.length/\k5 (IntKind.i64.wrap (v4.1+(1:Int)),v4.2.1,())))) (P (List.take v4.2.1.length (List.drop 0 v4.2.1)))) ((0:Int),[],PUnit.unit))=fnW Ei (look [(141,Nr)]) cR Tryz.f117 (p,l,()) P:=by kernel_rfl
theorem HO (p:PP) (h:List.length p.2.2.1<=8):fnW Ei (look []) Nr Tryz.f141 (p,()) (λ(z:List Int)=>z=Aw (List.length p.2.2.1)):=by
 refine Eq.mp (JV p _) ⟨rfl,rfl,?_⟩
 refine Df.mk (λv=> ∃j:Nat,j<=List.length p.2.2.1/\v=((j:Int)+1,p.1,p.2.1,p.2.2.1,Aw j,())) (λv=>List.length p.2.2.1+1-v.1.toNat) ⟨0,Iq _,rfl⟩ ?_
 rintro _ ⟨j,hj,rfl⟩
 dsimp only
 refine Br.dec (λhl=>?_) λhl=>?_
 ·refine ⟨rfl,rfl,?_,rfl,rfl,⟨j+1,by omega,?_⟩,?_⟩
  ·show (Aw j).length+2<=4294967296
   rw [Nz];omega
  ·rw [bT,Dl (n:=(j:Int)+1+1) (by omega) (by omega),Dl (n:=0-((j:Int)+1)) (by omega) (by omega),Int.zero_sub]
   rfl
  ·rw [Dl (by omega) (by omega)];omega
 ·have:j=List.length p.2.2.1:=by omega
  subst this
  rw [Cf]
theorem gC:Sound Tryz.prog 141 Nr:=
 Sound.Ev Db Bh mixed Tryz.func141 (by kernel_rfl) (by kernel_rfl) λx h=>HO x.1 h
theorem Aep (p:PP) (l:Int) (h:List.length p.2.2.1<=8/\ -8<=l/\l<=8):fnW Ei (look [(141,Nr)]) cR Tryz.f117 (p,l,()) (λ(z:List Int)=>z=ka (List.length p.2.2.1) l):=by
 refine Eq.mp (Afh p l _) ⟨_,Ab h.1,rfl,rfl,?_⟩
 dsimp only
 unfold ka
 have h0: ∀y∈Aw (List.length p.2.2.1),y≠0:= λy hy=>(Pn hy).1
 have hlen:(Aw (List.length p.2.2.1)).length<=16:=by rw [Nz];omega
 refine Bf (Aw (List.length p.2.2.1)).length (λv=>v.1) (λj v=>v.2.1=((Aw (List.length p.2.2.1)).take j).filter λy=>!(y== -l)) rfl (by simp) ?_
 rintro j ⟨i,ys,⟨⟩⟩ K hj hi h1 hK
 dsimp only at hi h1⊢
 subst hi h1
 have XM:=List.length_filter_le (λy=>!(y== -l)) ((Aw (List.length p.2.2.1)).take j)
 rw [Dd] at XM
 refine Br.dec (λhl=>?_) λhl=>?_
 ·have hl:j<(Aw (List.length p.2.2.1)).length:=by omega
  have l9: ∀b:Bool,((Aw (List.length p.2.2.1))[j]== -l)=b->((Aw (List.length p.2.2.1)).take (j+1)).filter (λy=>!(y== -l))=((Aw (List.length p.2.2.1)).take j).filter (λy=>!(y== -l))++(if b then [] else [(Aw (List.length p.2.2.1))[j]]):= λb hb=>by
   rw [Ay hl,List.filter_append]
   cases b<;>simp [hb]
  rw [Bg (by omega)]
  have grow:((Aw (List.length p.2.2.1))[j]== -l)=false->((0:Nat)=0/\(((Aw (List.length p.2.2.1)).take j).filter λy=>!(y== -l)).length=(((Aw (List.length p.2.2.1)).take j).filter λy=>!(y== -l)).length/\(((Aw (List.length p.2.2.1)).take j).filter λy=>!(y== -l)).length+(List.take 1 (List.drop 0 [(Aw (List.length p.2.2.1))[j]])).length<=Cr/\(0:Nat)=0/\
    ((((Aw (List.length p.2.2.1)).take j).filter λy=>!(y== -l))++List.take 1 (List.drop 0 [(Aw (List.length p.2.2.1))[j]])).length=((((Aw (List.length p.2.2.1)).take j).filter λy=>!(y== -l))++List.take 1 (List.drop 0 [(Aw (List.length p.2.2.1))[j]])).length/\K (((j+1:Nat):Int),(((Aw (List.length p.2.2.1)).take j).filter λy=>!(y== -l))++List.take 1 (List.drop 0 [(Aw (List.length p.2.2.1))[j]]),())):= λhb=>by
   refine ⟨rfl,rfl,?_,rfl,rfl,?_⟩
   ·show _+1<=4294967296
    omega
   ·exact hK hl _ rfl (by have:=l9 false hb;simpa using this.symm)
  refine ⟨λhz=>⟨_,Bp hl,grow ?_⟩,λhz=>⟨_,Bp hl,⟨λIk=>⟨_,Bp hl,grow ?_⟩,λIk=>⟨rfl,rfl,?_⟩⟩⟩⟩
  ·simp only [Ww] at hz
   have:=h0 _ (Aj hl)
   simp only [Nl]
   omega
  ·rw [Dl (by omega) (by omega)] at Ik
   simp only [Wx,ne_eq] at Ik
   simp only [Nl]
   omega
  ·rw [Dl (by omega) (by omega)] at Ik
   simp only [Hc] at Ik
   exact hK hl _ rfl (by have:=l9 true (by simp only [Ww];omega);simpa using this.symm)
 ·have:j=(Aw (List.length p.2.2.1)).length:=by omega
  subst this
  rw [Cf,Ap]
theorem IJ:Sound Tryz.prog 117 cR:=
 Sound.Ev Db (Av gC Bh) mixed Tryz.func117 (by kernel_rfl) (by kernel_rfl) λx h=>Aep x.1 x.2.1 h
theorem dV {a:Int} {P:Prop} (h:(a !=a)=true):P:=by simp at h
theorem Abp {p:PP} {room:Int} (hr:roomy room) (h: ¬aI p room<0):(Eb p.2.2.1:Int)<=room-aI p room/\roomy (aI p room):=by
 unfold aI at h⊢
 split at h
 ·exact absurd (show (-1:Int)<0 by decide) h
 ·rename_i h1
  rw [Ag h1]
  split at h
  ·exact absurd (show (-1:Int)<0 by decide) h
  ·rename_i h2
   rw [Ag h2]
   have e2:=JB h2
   obtain ⟨r1,r2⟩:=hr
   unfold roomy
   omega
def zV (v:Int):List Int->Nat
 | []=>0
 |x::r=>if x>v then zV v r+1 else 0
def Aeh (v:Int) (t:List Int):Option (List Int):=if zV v t=0 then none else some (Nm t ((zV v t-1:Nat):Int)::(t.set (zV v t-1) v).reverse)
def py:List Int->Option (List Int)
 | []=>none
 |v::t=>match py t with
  |some t'=>some (v::t')
  |none=>Aeh v t
noncomputable abbrev Ib:MSpec:=cr [none] [(false, .Eu tL)] false [none] [rL] (λx=>short x.1) (λx=>((x.1,()),()))
theorem JO (xs:List Int) (P:((List Int×Unit)×Unit)->Prop):(0=0/\0=([]:List Int).length/\0+xs.length<=Cr/\P ((List.take ([]++xs).length (List.drop 0 ([]++xs)),()),()))=fnMW Tk (look []) Ib Tryz.f116 (xs,()) P:=by kernel_rfl
theorem GX {s s':List Int} (h:py s=some s'): ∀pre:List Int,py (pre++s)=some (pre++s')
 | []=>h
 |v::p=>by rw [Ma,py,GX h p];rfl
theorem Af3 {α:Type} (pre:List α) (v a:α) (t:List α):(pre++v::t).set pre.length a=pre++a::t:=by
 rw [List.set_append,Ag (by omega)];simp
theorem HH (xs:List Int) (h:short xs):fnMW Tk (look []) Ib Tryz.f116 (xs,()) (λ(z:(List Int×Unit)×Unit)=>z=((xs,()),())):=by
 unfold short at h
 refine Eq.mp (JO xs _) ⟨rfl,rfl,by show 0+xs.length<=4294967296;omega,?_⟩
 simp only [Cf,gZ]
theorem rW:By Tryz.prog 116 Ib:=
 By.cr Rx Bh mixed Tryz.func116 (by kernel_rfl) (by kernel_rfl) λx h=>HH x.1 h
inductive Run:List Int->List (List Int)->List Int->Prop where
 |one (a:List Int):Run a [a] a
 |more {a c b:List Int} {L:List (List Int)} :py a=some c->Run c L b->Run a (a::L) b
theorem Run.cons {a b:List Int} {L:List (List Int)} (h:Run a L b) (v:Int):Run (v::a) (L.map (v:: ·)) (v::b):=by
 induction h with
 |one a=>exact .one _
 |more h3 _ ih=>exact .more (GX h3 [v]) ih
theorem Run.head {a b:List Int} {L:List (List Int)} (h:Run a L b): ∃M,L=a::M:=by
 cases h with
 |one=>exact ⟨_,rfl⟩
 |more _ _=>exact ⟨_,rfl⟩
theorem Run.at {a b:List Int} {L:List (List Int)} (h:Run a L b): ∀j (hj:j<L.length),(∀h2:j+1<L.length,py L[j]=some L[j+1])/\(j+1=L.length->L[j]=b):=by
 induction h with
 |one a=>
  intro j hj
  simp only [Bw] at hj
  have:j=0:=by omega
  subst this
  exact ⟨λh2=>by simp at h2,λ_=>rfl⟩
 |more h3 h4 ih=>
  intro j hj
  rcases j with _|j
  ·obtain ⟨M,hM⟩:=h4.head
   refine ⟨λh2=>?_,λh2=>?_⟩
   ·simp only [List.getElem_cons_zero,aB]
    subst hM
    exact h3
   ·subst hM;simp at h2
  ·have:=ih j (by simpa using hj)
   refine ⟨λh2=>?_,λh2=>?_⟩
   ·simp only [aB]
    exact this.1 (by simpa using h2)
   ·simp only [aB]
    exact this.2 (by simpa using h2)
theorem Abq {t:TT} {room:Int} (hr:roomy room) (h: ¬Lx t room<0):((List.length t.1+Eb t.2.1+List.length t.2.2.1:Nat):Int)<=room-Lx t room/\roomy (Lx t room):=by
 have qH:=iV hr h
 refine ⟨?_,qH⟩
 clear qH
 unfold Lx at h⊢
 split at h
 ·exact absurd (show (-1:Int)<0 by decide) h
 ·rename_i h1
  rw [Ag h1]
  split at h
  ·exact absurd (show (-1:Int)<0 by decide) h
  ·rename_i h2
   rw [Ag h2]
   split at h
   ·exact absurd (show (-1:Int)<0 by decide) h
   ·rename_i h3
    rw [Ag h3]
    have e1:Wg t.1 room=room-t.1.length/\_:=CF (n:=t.1.length) h1
    have e2:=JB h2
    have e3:Wg t.2.2.1 (Qu t.2.1 (Wg t.1 room))=Qu t.2.1 (Wg t.1 room)-t.2.2.1.length/\_:=CF (n:=t.2.2.1.length) h3
    omega
def Et:List Int->List Int->Int
 | [],[]=>0
 | [],_::_=> -1
 |_::_,[]=>1
 |x::a,y::b=>if x<y then-1 else if x>y then 1 else Et a b
def fe (a b:List Int):Bool:=decide (Et a b<0)
noncomputable abbrev Yo:Spec:=Ev (.pair tL (.pair tL .unit)) .bool false true (λx=>short x.1/\List.length x.1=List.length x.2.1) (λx=>fe x.1 x.2.1)
theorem QH (a b:List Int) (P:Bool->Prop):(Df (λ(v3:Int×PUnit) (k4:Int×PUnit->Prop)=>Br (decide (v3.1<(↑a.length:Int))) (∃(y5:Int),idx a v3.1=some y5/\ ∃(y6:Int),idx b v3.1=some y6/\Br (y5 !=y6) (∃(y7:Int),idx a v3.1=some y7/\ ∃(y8:Int),idx b v3.1=some y8/\P (decide (y7<y8))) (k4 (IntKind.i64.wrap (v3.1+(1:Int)),()))) (P false)) ((0:Int),PUnit.unit))=fnW Ei (look []) Yo Tryz.f158 (a,b,()) P:=by kernel_rfl
theorem NZ (a b:List Int) (h:short a/\a.length=b.length):fnW Ei (look []) Yo Tryz.f158 (a,b,()) (λ(z:Bool)=>z=fe a b):=by
 obtain ⟨ha,hb⟩:=h
 unfold short at ha
 refine Eq.mp (QH a b _) ?_
 refine Bf a.length (λv=>v.1) (λj _=>Et (a.drop j) (b.drop j)=Et a b) rfl (by simp) ?_
 rintro j ⟨i,⟨⟩⟩ K hj hi hR2 hK
 dsimp only at hi⊢
 subst hi
 refine Br.dec (λhl=>?_) λhl=>?_
 ·have hl:j<a.length:=by omega
  have hlb:j<b.length:=by omega
  rw [Cn hl,Cn hlb] at hR2
  simp only [Et] at hR2
  refine ⟨_,Bp hl,_,Bp hlb,⟨λIk=>?_,λIk=>?_⟩⟩
  ·refine ⟨_,Bp hl,_,Bp hlb,?_⟩
   have Ik:a[j]≠b[j]:=by simpa using Ik
   unfold fe
   rw [<-hR2]
   by_cases h1:a[j]<b[j]
   ·rw [Ab h1];simp [h1]
   ·rw [Ag h1,Ab (by omega)];simp [h1]
  ·have Ik:a[j]=b[j]:=by simpa using Ik
   rw [Ag (by omega),Ag (by omega)] at hR2
   rw [Bg (by omega)]
   exact hK hl _ rfl hR2
 ·have:j=a.length:=by omega
  subst this
  rw [Ij,List.drop_eq_nil_of_le (by omega)] at hR2
  unfold fe
  rw [<-hR2]
  rfl
theorem vA:Sound Tryz.prog 158 Yo:=
 Sound.Ev Db Bh mixed Tryz.func158 (by kernel_rfl) (by kernel_rfl) λx h=>NZ x.1 x.2.1 h
abbrev SS:Type:=List (List Int)×List Int×List Int×Bool×Unit
abbrev rLS:CK:= .row tL 26
abbrev rN:CK:= .row tI 3
def Gj (L:List (List Int)) (Mu:List Int) (s:List Int):Nat:=(Mu.takeWhile λi=>fe (L.getD i.toNat []) s).length
structure He (m:Nat) (L:List (List Int)) (Mu:List Int):Prop where
 wo:L.length<=3000
 len: ∀x∈L,x.length=m
 short:m<=20
 perm:Mu.Perm (upto L.length)
 sorted:Mu.Pairwise λi j=>fe (L.getD i.toNat []) (L.getD j.toNat [])=true
def qQ (L:List (List Int)) (s:List Int):Int:=if s∈L then (L.idxOf s:Int) else-1
def Xh (Mu:List Int) (k:Nat) (x:Int):List Int:=Mu.take k++x::Mu.drop k
noncomputable abbrev fE:Spec:=Ev (.pair kv (.pair tL .unit)) tI false true (λx=>He (List.length x.2.1) x.1.1 x.1.2.2.1) (λx=>(Gj x.1.1 x.1.2.2.1 x.2.1:Int))
noncomputable abbrev eu:Spec:=Ev (.pair kv (.pair tL .unit)) tI false true (λx=>He (List.length x.2.1) x.1.1 x.1.2.2.1) (λx=>qQ x.1.1 x.2.1)
noncomputable abbrev mw:MSpec:=cr [some 4,none,none] [(false,rLS),(false,rL),(false,rN),(false, .Eu .bool),(false, .Eu tL),(false, .Eu tI)] false [some 4] [rLS,rL,rN, .Eu .bool]
 (λx=>He (List.length x.2.2.2.2.1) x.1 x.2.2.1/\List.length x.2.1<=3000) (λx=>((x.1++ [x.2.2.2.2.1],x.2.1++ [x.2.2.2.2.2.1],Xh x.2.2.1 (Gj x.1 x.2.2.1 x.2.2.2.2.1) (List.length x.1),x.2.2.2.1,()),()))
def cW (L:List (List Int)):List Int:=(List.range L.length).foldl (λ(S:List Int) (i:Nat)=>Xh S (Gj (L.take i) S (L.getD i [])) (i:Int)) []
def Me (g:List (List Int)) (x:List Int) (d:Int):List Int->List (List Int)->List Int->List (List Int)×List Int×Bool
 | [],L,D=>(L,D,true)
 |l::ls,L,D=>if Al x (Bs g l)∈L then Me g x d ls L D else if L.length=3000 then (L,D,false) else Me g x d ls (L++ [Al x (Bs g l)]) (D++ [d+1])
def Re (g:List (List Int)) (ls:List Int):Nat->Nat->List (List Int)->List Int->List (List Int)×List Int×Bool
 |0,_,L,D=>(L,D,true)
 |f+1,k,L,D=>if k<L.length then (match Me g (L.getD k []) (D.getD k 0) ls L D with
  |(L',D',true)=>Re g ls f (k+1) L' D'
  |(L',D',false)=>(L',D',false)) else (L,D,true)
def Kq (g:List (List Int)) (s:List Int):List (List Int)×List Int×Bool:=Re g (Aw g.length) 3001 0 [s] [0]
def Rq (g:List (List Int)) (s:List Int):SS:=((Kq g s).1,(Kq g s).2.1,cW (Kq g s).1,(Kq g s).2.2,())
noncomputable abbrev kq:Spec:=Ev (.pair Fl (.pair tL .unit)) kv false false (λx=>Dy x.1=true/\List.length x.2.1<=20/\ ∀y∈x.2.1,0<=y/\y<x.1.1) (λx=>Rq x.1.2.2.1 x.2.1)
abbrev SQ:Type:=Int×Int×List (List Int)×List Int×List Int×Bool×PUnit
theorem Al3 (f:List (List Int)×List Int×List Int×Bool×Unit) (s:List Int) (P:Int->Prop):(Df (λ(v3:SQ) (k4:SQ->Prop)=>Br (decide (v3.1<v3.2.1)) ((2:Int)≠(0:Int)/\ ∃(y5:Int),idx v3.2.2.2.2.1 (IntKind.i64.wrap ((IntKind.i64.wrap (v3.1+v3.2.1)).tdiv (2:Int)))=some y5/\ ∃(y6:List Int),idx v3.2.2.1 y5=some y6/\ ∃(y7:Bool),Yo.fn (y6,s,())=some y7/\Br y7 (k4 (IntKind.i64.wrap (IntKind.i64.wrap ((IntKind.i64.wrap (v3.1+v3.2.1)).tdiv (2:Int))+(1:Int)),v3.2.1,v3.2.2.1,v3.2.2.2.1,v3.2.2.2.2.1,v3.2.2.2.2.2.1,())) (k4 (v3.1,IntKind.i64.wrap ((IntKind.i64.wrap (v3.1+v3.2.1)).tdiv (2:Int)),v3.2.2.1,v3.2.2.2.1,v3.2.2.2.2.1,v3.2.2.2.2.2.1,()))) (P v3.1)) ((0:Int),(↑f.2.2.1.length:Int),f.1,f.2.1,f.2.2.1,f.2.2.2.1,PUnit.unit))=fnW Ei (look [(158,Yo)]) fE Tryz.f149 (f,s,()) P:=by kernel_rfl
theorem Aco (f:List (List Int)×List Int×List Int×Bool×Unit) (s:List Int) (P:Int->Prop):(∃(y3:Int),fE.fn ((f.1,f.2.1,f.2.2.1,f.2.2.2.1,()),s,())=some y3/\Br (decide (y3<(↑f.2.2.1.length:Int))) (∃(y4:Int),idx f.2.2.1 y3=some y4/\ ∃(y5:List Int),idx f.1 y4=some y5/\ ∃(y6:Bool),Bo.fn (y5,s,())=some y6/\Br y6 (∃(y7:Int),idx f.2.2.1 y3=some y7/\P y7) (P (-1:Int))) (P (-1:Int)))=fnW Ei (look [(149,fE),(101,Bo)]) eu Tryz.f132 (f,s,()) P:=by kernel_rfl
theorem Al1 (L:List (List Int)) (D S:List Int) (b:Bool) (s:List Int) (d:Int) (P:((List (List Int)×List Int×List Int×Bool×Unit)×Unit)->Prop):(∃(y7:Int),fE.fn ((List.take L.length (List.drop 0 L),List.take D.length (List.drop 0 D),List.take S.length (List.drop 0 S),b,()),s,())=some y7/\0=0/\S.length=S.length/\S.length+(List.take 1 (List.drop 0 [(0:Int)])).length<=Cr/\((0:Int)<=IntKind.i64.wrap (y7+(1:Int))/\IntKind.i64.wrap (y7+(1:Int))<=(↑(S++List.take 1 (List.drop 0 [(0:Int)])).length:Int)/\(↑(S++List.take 1 (List.drop 0 [(0:Int)])).length:Int)<=(↑(S++List.take 1 (List.drop 0 [(0:Int)])).length:Int))/\((0:Int)<=y7/\y7<=(↑(S++List.take 1 (List.drop 0 [(0:Int)])).length:Int)/\(↑(S++List.take 1 (List.drop 0 [(0:Int)])).length:Int)<=(↑(S++List.take 1 (List.drop 0 [(0:Int)])).length:Int))/\((0:Int)<=y7/\y7<(↑(S++List.take 1 (List.drop 0 [(0:Int)])).length:Int))/\0+y7.toNat<(Dv (S++List.take 1 (List.drop 0 [(0:Int)])) (0+(IntKind.i64.wrap (y7+(1:Int))).toNat) (List.take ((↑(S++List.take 1 (List.drop 0 [(0:Int)])).length:Int).toNat-(IntKind.i64.wrap (y7+(1:Int))).toNat) (List.take ((↑(S++List.take 1 (List.drop 0 [(0:Int)])).length:Int).toNat-y7.toNat) (List.drop (0+y7.toNat) (S++List.take 1 (List.drop 0 [(0:Int)])))))).length/\0=0/\L.length=L.length/\L.length+(List.take 1 (List.drop 0 [s])).length<=Cr/\0=0/\D.length=D.length/\D.length+(List.take 1 (List.drop 0 [d])).length<=Cr/\P ((List.take (L++List.take 1 (List.drop 0 [s])).length (List.drop 0 (L++List.take 1 (List.drop 0 [s]))),List.take (D++List.take 1 (List.drop 0 [d])).length (List.drop 0 (D++List.take 1 (List.drop 0 [d]))),List.take (S++List.take 1 (List.drop 0 [(0:Int)])).length (List.drop 0 ((Dv (S++List.take 1 (List.drop 0 [(0:Int)])) (0+(IntKind.i64.wrap (y7+(1:Int))).toNat) (List.take ((↑(S++List.take 1 (List.drop 0 [(0:Int)])).length:Int).toNat-(IntKind.i64.wrap (y7+(1:Int))).toNat) (List.take ((↑(S++List.take 1 (List.drop 0 [(0:Int)])).length:Int).toNat-y7.toNat) (List.drop (0+y7.toNat) (S++List.take 1 (List.drop 0 [(0:Int)])))))).set (0+y7.toNat) (↑L.length:Int))),b,()),()))=fnMW Tk (look [(149,fE)]) mw Tryz.f148 (L,D,S,b,s,d,()) P:=by kernel_rfl
abbrev oE:Type:=Int×Int×ByteArray×List (List Int)×Bool×Bool×List (List Int)×List Int×List Int×List (List Int)×List Int×List Int×PUnit
abbrev JE:Type:=(List (List Int)×List Int×List Int×Bool×PUnit)×PUnit
theorem Afo (p:Int×ByteArray×List (List Int)×Unit) (s:List Int) (P:(List (List Int)×List Int×List Int×Bool×Unit)->Prop):(∃(y3:List Int),Jr.fn (s,())=some y3/\ ∃(y4:JE),mw.fn ([],[],[],false,y3,(0:Int),())=some y4/\ ∃(y5:List Int),Nr.fn ((p.1,p.2.1,p.2.2.1,()),())=some y5/\0=0/\0=([]:List Int).length/\0=0/\0=([]:List Int).length/\0=0/\0=([]:List Int).length/\0=0/\y4.1.1.length=y4.1.1.length/\0=0/\y4.1.2.1.length=y4.1.2.1.length/\0=0/\y4.1.2.2.1.length=y4.1.2.2.1.length/\Df (λ(v6:oE) (k7:oE->Prop)=>Br (decide (v6.1<(↑v6.2.2.2.2.2.2.2.2.2.1.length:Int))) (0=0/\v6.2.2.2.2.2.2.1.length=v6.2.2.2.2.2.2.1.length/\0=0/\v6.2.2.2.2.2.2.2.1.length=v6.2.2.2.2.2.2.2.1.length/\0=0/\v6.2.2.2.2.2.2.2.2.1.length=v6.2.2.2.2.2.2.2.2.1.length/\0=0/\v6.2.2.2.2.2.2.2.2.2.1.length=v6.2.2.2.2.2.2.2.2.2.1.length/\0=0/\v6.2.2.2.2.2.2.2.2.2.2.1.length=v6.2.2.2.2.2.2.2.2.2.2.1.length/\0=0/\v6.2.2.2.2.2.2.2.2.2.2.2.1.length=v6.2.2.2.2.2.2.2.2.2.2.2.1.length/\Df (λ(v8:oE) (k9:oE->Prop)=>Br (decide (v8.1<(↑y5.length:Int))) (((0:Int)<=v6.1/\v6.1<(↑v8.2.2.2.2.2.2.2.2.2.1.length:Int))/\ ∃(Md:List Int),v8.2.2.2.2.2.2.2.2.2.1[0+v6.1.toNat]?=some Md/\ ∃(fQ:Int),idx y5 v8.1=some fQ/\ ∃(fR:List Int),Mn.fn ((v8.2.1,v8.2.2.1,v8.2.2.2.1,()),Md,fQ,())=some fR/\ ∃(Lo:Int),eu.fn ((List.take v8.2.2.2.2.2.2.2.2.2.1.length (List.drop 0 v8.2.2.2.2.2.2.2.2.2.1),List.take v8.2.2.2.2.2.2.2.2.2.2.1.length (List.drop 0 v8.2.2.2.2.2.2.2.2.2.2.1),List.take v8.2.2.2.2.2.2.2.2.2.2.2.1.length (List.drop 0 v8.2.2.2.2.2.2.2.2.2.2.2.1),v8.2.2.2.2.2.1,()),fR,())=some Lo/\Br (decide (Lo>=(0:Int))) (0=0/\v8.2.2.2.2.2.2.1.length=v8.2.2.2.2.2.2.1.length/\0=0/\v8.2.2.2.2.2.2.2.1.length=v8.2.2.2.2.2.2.2.1.length/\0=0/\v8.2.2.2.2.2.2.2.2.1.length=v8.2.2.2.2.2.2.2.2.1.length/\0=0/\v8.2.2.2.2.2.2.2.2.2.1.length=v8.2.2.2.2.2.2.2.2.2.1.length/\0=0/\v8.2.2.2.2.2.2.2.2.2.2.1.length=v8.2.2.2.2.2.2.2.2.2.2.1.length/\0=0/\v8.2.2.2.2.2.2.2.2.2.2.2.1.length=v8.2.2.2.2.2.2.2.2.2.2.2.1.length/\k9 (IntKind.i64.wrap (v8.1+(1:Int)),v8.2.1,v8.2.2.1,v8.2.2.2.1,v8.2.2.2.2.1,v8.2.2.2.2.2.1,v8.2.2.2.2.2.2.1,v8.2.2.2.2.2.2.2.1,v8.2.2.2.2.2.2.2.2.1,v8.2.2.2.2.2.2.2.2.2.1,v8.2.2.2.2.2.2.2.2.2.2.1,v8.2.2.2.2.2.2.2.2.2.2.2.1,())) (Br ((↑v8.2.2.2.2.2.2.2.2.2.1.length:Int)==(3000:Int)) (P (List.take v8.2.2.2.2.2.2.2.2.2.1.length (List.drop 0 v8.2.2.2.2.2.2.2.2.2.1),List.take v8.2.2.2.2.2.2.2.2.2.2.1.length (List.drop 0 v8.2.2.2.2.2.2.2.2.2.2.1),List.take v8.2.2.2.2.2.2.2.2.2.2.2.1.length (List.drop 0 v8.2.2.2.2.2.2.2.2.2.2.2.1),v8.2.2.2.2.2.1,())) (((0:Int)<=v6.1/\v6.1<(↑v8.2.2.2.2.2.2.2.2.2.2.1.length:Int))/\ ∃(Jc:Int),v8.2.2.2.2.2.2.2.2.2.2.1[0+v6.1.toNat]?=some Jc/\0=0/\v8.2.2.2.2.2.2.2.2.2.1.length=v8.2.2.2.2.2.2.2.2.2.1.length/\0=0/\v8.2.2.2.2.2.2.2.2.2.2.1.length=v8.2.2.2.2.2.2.2.2.2.2.1.length/\0=0/\v8.2.2.2.2.2.2.2.2.2.2.2.1.length=v8.2.2.2.2.2.2.2.2.2.2.2.1.length/\ ∃(Qq:JE),mw.fn (v8.2.2.2.2.2.2.2.2.2.1,v8.2.2.2.2.2.2.2.2.2.2.1,v8.2.2.2.2.2.2.2.2.2.2.2.1,v8.2.2.2.2.2.1,fR,IntKind.i64.wrap (Jc+(1:Int)),())=some Qq/\0=0/\v8.2.2.2.2.2.2.1.length=v8.2.2.2.2.2.2.1.length/\0=0/\v8.2.2.2.2.2.2.2.1.length=v8.2.2.2.2.2.2.2.1.length/\0=0/\v8.2.2.2.2.2.2.2.2.1.length=v8.2.2.2.2.2.2.2.2.1.length/\0=0/\Qq.1.1.length=Qq.1.1.length/\0=0/\Qq.1.2.1.length=Qq.1.2.1.length/\0=0/\Qq.1.2.2.1.length=Qq.1.2.2.1.length/\k9 (IntKind.i64.wrap (v8.1+(1:Int)),v8.2.1,v8.2.2.1,v8.2.2.2.1,v8.2.2.2.2.1,Qq.1.2.2.2.1,v8.2.2.2.2.2.2.1,v8.2.2.2.2.2.2.2.1,v8.2.2.2.2.2.2.2.2.1,Qq.1.1,Qq.1.2.1,Qq.1.2.2.1,())))) (0=0/\v8.2.2.2.2.2.2.1.length=v8.2.2.2.2.2.2.1.length/\0=0/\v8.2.2.2.2.2.2.2.1.length=v8.2.2.2.2.2.2.2.1.length/\0=0/\v8.2.2.2.2.2.2.2.2.1.length=v8.2.2.2.2.2.2.2.2.1.length/\0=0/\v8.2.2.2.2.2.2.2.2.2.1.length=v8.2.2.2.2.2.2.2.2.2.1.length/\0=0/\v8.2.2.2.2.2.2.2.2.2.2.1.length=v8.2.2.2.2.2.2.2.2.2.2.1.length/\0=0/\v8.2.2.2.2.2.2.2.2.2.2.2.1.length=v8.2.2.2.2.2.2.2.2.2.2.2.1.length/\k7 (IntKind.i64.wrap (v6.1+(1:Int)),v8.2.1,v8.2.2.1,v8.2.2.2.1,v8.2.2.2.2.1,v8.2.2.2.2.2.1,v8.2.2.2.2.2.2.1,v8.2.2.2.2.2.2.2.1,v8.2.2.2.2.2.2.2.2.1,v8.2.2.2.2.2.2.2.2.2.1,v8.2.2.2.2.2.2.2.2.2.2.1,v8.2.2.2.2.2.2.2.2.2.2.2.1,()))) ((0:Int),v6.2.1,v6.2.2.1,v6.2.2.2.1,v6.2.2.2.2.1,v6.2.2.2.2.2.1,v6.2.2.2.2.2.2.1,v6.2.2.2.2.2.2.2.1,v6.2.2.2.2.2.2.2.2.1,v6.2.2.2.2.2.2.2.2.2.1,v6.2.2.2.2.2.2.2.2.2.2.1,v6.2.2.2.2.2.2.2.2.2.2.2.1,PUnit.unit)) (P (List.take v6.2.2.2.2.2.2.2.2.2.1.length (List.drop 0 v6.2.2.2.2.2.2.2.2.2.1),List.take v6.2.2.2.2.2.2.2.2.2.2.1.length (List.drop 0 v6.2.2.2.2.2.2.2.2.2.2.1),List.take v6.2.2.2.2.2.2.2.2.2.2.2.1.length (List.drop 0 v6.2.2.2.2.2.2.2.2.2.2.2.1),true,()))) ((0:Int),p.1,p.2.1,p.2.2.1,false,y4.1.2.2.2.1,[],[],[],y4.1.1,y4.1.2.1,y4.1.2.2.1,PUnit.unit))=fnW Ac4 (look [(116,Jr),(148,mw),(141,Nr),(118,Mn),(132,eu)]) kq Tryz.f131 (p,s,()) P:=by kernel_rfl
theorem tn: ∀ {a b:List Int},Et a b=0↔a=b
 | [],[]=>by simp [Et]
 | [],_::_=>by simp [Et]
 |_::_,[]=>by simp [Et]
 |x::a,y::b=>by
  simp only [Et,Gb]
  by_cases h1:x<y
  ·rw [Ab h1]
   exact ⟨λh=>by omega,λh=>by omega⟩
  ·rw [Ag h1]
   by_cases h2:x>y
   ·rw [Ab h2]
    exact ⟨λh=>by omega,λh=>by omega⟩
   ·rw [Ag h2,tn]
    exact ⟨λh=>⟨by omega,h⟩,λh=>h.2⟩
theorem QY: ∀(a b:List Int),Et b a= -Et a b
 | [],[]=>by simp [Et]
 | [],_::_=>by simp [Et]
 |_::_,[]=>by simp [Et]
 |x::a,y::b=>by
  simp only [Et]
  rcases Int.lt_trichotomy x y with h1|h1|h1
  ·simp [h1,show ¬y<x by omega]
  ·subst h1
   simp [QY a b]
  ·simp [h1,show ¬x<y by omega]
theorem xO: ∀ {a b c:List Int},Et a b<0->Et b c<0->Et a c<0
 | [],[],_,h,_=>by simp [Et] at h
 |_::_,[],_,h,_=>by simp [Et] at h
 |_,_::_,[],_,h=>by simp [Et] at h
 | [],_::_,_::_,_,_=>by simp [Et]
 |x::a,y::b,z::c,h1,h2=>by
  simp only [Et] at h1 h2⊢
  by_cases e1:x<y
  ·by_cases e2:y<z
   ·rw [Ab (by omega)];omega
   ·rw [Ag e2] at h2
    by_cases e3:y>z
    ·rw [Ab e3] at h2;omega
    ·rw [Ab (by omega)];omega
  ·rw [Ag e1] at h1
   by_cases e2:x>y
   ·rw [Ab e2] at h1;omega
   ·rw [Ag e2] at h1
    by_cases e3:y<z
    ·rw [Ab (by omega)];omega
    ·rw [Ag e3] at h2
     by_cases e4:y>z
     ·rw [Ab e4] at h2;omega
     ·rw [Ag e4] at h2
      rw [Ag (by omega),Ag (by omega)]
      exact xO h1 h2
theorem lt_iff {a b:List Int} :fe a b=true↔Et a b<0:=Jz
theorem UN {a b c:List Int} (h1:fe a b=true) (h2:fe b c=true):fe a c=true:=lt_iff.2 (xO (lt_iff.1 h1) (lt_iff.1 h2))
theorem mc (a:List Int):fe a a=false:=by
 have:Et a a=0:=tn.2 rfl
 unfold fe;rw [this];rfl
theorem Aak {a b:List Int} (h:fe a b=false) (Ik:a≠b):fe b a=true:=by
 rw [lt_iff,QY a b]
 have h1: ¬Et a b<0:= λh'=>by rw [lt_iff.2 h'] at h;cases h
 have h2:Et a b≠0:= λh'=>Ik (tn.1 h')
 omega
theorem lA {α:Type} (q:α->Bool): ∀(l:List α),l.Pairwise (λi j=>q j=true->q i=true)-> ∀k (hk:k<l.length),k<(l.takeWhile q).length↔q l[k]=true
 | [],_,k,hk=>by simp at hk
 |a::l,h,k,hk=>by
  obtain ⟨h1,h2⟩:=List.pairwise_cons.1 h
  by_cases ha:q a=true
  ·rw [List.takeWhile_cons_of_pos ha]
   rcases k with _|k
   ·simpa using ha
   ·simp only [Az,aB,Nat.add_lt_add_iff_right]
    exact lA q l h2 k (by simpa using hk)
  ·rw [List.takeWhile_cons_of_neg ha]
   simp only [Gc,Dp,false_iff]
   rcases k with _|k
   ·exact ha
   ·simp only [aB]
    exact λhq=>ha (h1 _ (Aj _) hq)
theorem He.ug {m:Nat} {L:List (List Int)} {Mu:List Int} (h:He m L Mu):Mu.length=L.length:=by rw [h.perm.length_eq,jB]
theorem He.idx {m:Nat} {L:List (List Int)} {Mu:List Int} (h:He m L Mu) {k:Nat} (hk:k<Mu.length):0<=Mu[k]/\Mu[k]<L.length:=Zu.1 (h.perm.mem_iff.1 (Aj hk))
theorem He.ey {m:Nat} {L:List (List Int)} {Mu:List Int} (h:He m L Mu) (s:List Int) {k:Nat} (hk:k<Mu.length):k<Gj L Mu s↔fe (L.getD Mu[k].toNat []) s=true:=
 lA _ Mu (h.sorted.imp λiK hj=>UN iK hj) k hk
theorem SM (L:List (List Int)) (Mu s:List Int):Gj L Mu s<=Mu.length:=(List.takeWhile_sublist _).length_le
theorem He.inj {m:Nat} {L:List (List Int)} {Mu:List Int} (h:He m L Mu) {i j:Nat} (hi:i<L.length) (hj:j<L.length) (e:L[i]=L[j]):i=j:=by
 have mem: ∀i,i<L.length->(i:Int)∈Mu:= λi hi=>h.perm.mem_iff.2 (Zu.2 ⟨by omega,by omega⟩)
 obtain ⟨p,hp,ep⟩:=Cl.1 (mem i hi)
 obtain ⟨q,hq,eq⟩:=Cl.1 (mem j hj)
 have get: ∀i (hi:i<L.length),L.getD ((i:Int)).toNat []=L[i]:= λi hi=>by rw [Ai,Ak,Ac hi];rfl
 rcases Nat.lt_trichotomy p q with h1|h1|h1
 ·have:=Ew.1 h.sorted p q hp hq h1
  rw [ep,eq,get i hi,get j hj,e,mc] at this
  cases this
 ·subst h1
  rw [ep] at eq
  omega
 ·have:=Ew.1 h.sorted q p hq hp h1
  rw [ep,eq,get i hi,get j hj,e,mc] at this
  cases this
theorem Zm {L:List (List Int)} {k:Nat} (h:k<L.length):L.getD k []=L[k]:=by rw [Ak,Ac h];rfl
theorem He.zi {m:Nat} {L:List (List Int)} {Mu:List Int} (h:He m L Mu) {s:List Int} :
  (∃hk:Gj L Mu s<Mu.length,L.getD Mu[Gj L Mu s].toNat []=s/\qQ L s=Mu[Gj L Mu s])\/(qQ L s= -1/\ ∀hk:Gj L Mu s<Mu.length,L.getD Mu[Gj L Mu s].toNat []≠s):=by
 by_cases hm:s∈L
 ·left
  obtain ⟨j,hj,rfl⟩:=Cl.1 hm
  obtain ⟨p,hp,ep⟩:=Cl.1 (h.perm.mem_iff.2 (Zu.2 ⟨by omega,by omega⟩):(j:Int)∈Mu)
  have gj:L.getD Mu[p].toNat []=L[j]:=by rw [ep,Ai,Zm hj]
  have hs:Gj L Mu L[j]=p:=by
   have h1: ¬p<Gj L Mu L[j]:= λh1=>by
    have:=(h.ey L[j] hp).1 h1
    rw [gj,mc] at this;cases this
   have h2: ¬Gj L Mu L[j]<p:= λh2=>by
    have h3:=(h.ey L[j] (k:=Gj L Mu L[j]) (by omega)).2 (by
     have:=Ew.1 h.sorted (Gj L Mu L[j]) p (by omega) hp h2
     rw [gj] at this;exact this)
    omega
   omega
  have hx:L.idxOf L[j]=j:=by
   have h1:L.idxOf L[j]<L.length:=List.idxOf_lt_length_of_mem hm
   exact h.inj h1 hj (List.getElem_idxOf h1)
  refine ⟨by omega,?_,?_⟩
  ·simp only [hs];exact gj
  ·unfold qQ
   rw [Ab hm,hx]
   simp only [hs];exact ep.symm
 ·right
  refine ⟨by unfold qQ;rw [Ag hm],λhk e=>hm ?_⟩
  have hi:=h.idx hk
  rw [Zm (by omega)] at e
  rw [<-e]
  exact Aj _
theorem Aa7 (Mu:List Int) (k:Nat) (x:Int):(Xh Mu k x).Perm (x::Mu):=by
 unfold Xh
 refine List.perm_middle.trans (List.Perm.cons x ?_)
 rw [Ig]
theorem He.add {m:Nat} {L:List (List Int)} {Mu s:List Int} (h:He m L Mu) (hn:s∉L) (hl:s.length=m) (hr:L.length<3000):He m (L++ [s]) (Xh Mu (Gj L Mu s) L.length):=by
 have EZ: ∀i∈Mu,(L++ [s]).getD i.toNat []=L.getD i.toNat []:= λi hi=>by
  have:=Zu.1 (h.perm.mem_iff.1 hi)
  rw [Ak,Ak,At (by omega)]
 have Am7:(L++ [s]).getD ((L.length:Int)).toNat []=s:=by
  rw [Ai,Ak,Ar (by omega),Nat.sub_self];rfl
 refine ⟨by rw [Ax,Bw];omega,λx hx=>?_,h.short,?_,?_⟩
 ·rcases Bb.1 hx with hx|hx
  ·exact h.len x hx
  ·rw [Ae.1 hx];exact hl
 ·refine (Aa7 _ _ _).trans ?_
  rw [Ax,Bw,ky]
  exact (List.Perm.cons _ h.perm).trans (List.perm_append_singleton _ _).symm
 ·unfold Xh
  have hs:=h.sorted
  rw [<-Ig (Gj L Mu s) Mu] at hs
  obtain ⟨s1,s2,s3⟩:=List.pairwise_append.1 hs
  have mt: ∀i∈Mu.take (Gj L Mu s),i∈Mu/\fe (L.getD i.toNat []) s=true:= λi hi=>by
   obtain ⟨k,hk,rfl⟩:=Cl.1 hi
   have ZH:k<Gj L Mu s:=by rw [Dd] at hk;omega
   have hk3:k<Mu.length:=by rw [Dd] at hk;omega
   rw [List.getElem_take]
   exact ⟨Aj _,(h.ey s hk3).1 ZH⟩
  have md: ∀i∈Mu.drop (Gj L Mu s),i∈Mu/\fe s (L.getD i.toNat [])=true:= λi hi=>by
   obtain ⟨k,hk,rfl⟩:=Cl.1 hi
   rw [List.length_drop] at hk
   have hk3:Gj L Mu s+k<Mu.length:=by omega
   rw [List.getElem_drop]
   refine ⟨Aj _,Aak ?_ λe=>hn ?_⟩
   ·exact Jm.2 λhh=>by
     have:=(h.ey s hk3).2 hh
     omega
   ·have hi:=h.idx hk3
    rw [Zm (by omega)] at e
    rw [<-e];exact Aj _
  refine List.pairwise_append.2 ⟨s1.imp_of_mem λ {a b} ha hb lY=>?_,List.pairwise_cons.2 ⟨λb hb=>?_,s2.imp_of_mem λ {a b} ha hb lY=>?_⟩,λa ha b hb=>?_⟩
  ·rw [EZ a (mt a ha).1,EZ b (mt b hb).1];exact lY
  ·rw [Am7,EZ b (md b hb).1];exact (md b hb).2
  ·rw [EZ a (md a ha).1,EZ b (md b hb).1];exact lY
  ·rcases Be.1 hb with rfl|hb
   ·rw [Am7,EZ a (mt a ha).1];exact (mt a ha).2
   ·rw [EZ a (mt a ha).1,EZ b (md b hb).1];exact s3 a ha b hb
theorem fI (L:List (List Int)) (s:List Int):cW (L++ [s])=Xh (cW L) (Gj L (cW L) s) L.length:=by
 unfold cW
 rw [Ax,Bw,hJ,Vt]
 have e: ∀(is:List Nat) (S:List Int),(∀i∈is,i<L.length)->is.foldl (λ(S:List Int) (i:Nat)=>Xh S (Gj ((L++ [s]).take i) S ((L++ [s]).getD i [])) (i:Int)) S=is.foldl (λ(S:List Int) (i:Nat)=>Xh S (Gj (L.take i) S (L.getD i [])) (i:Int)) S:=by
  intro is
  induction is with
  |nil=>intro S _;rfl
  |cons i is ih=>
   intro S h
   have hi:=h i (by simp)
   rw [Ih,Ih,ih _ λj hj=>h j (As _ hj)]
   congr 2
   rw [List.take_append_of_le_length (by omega),Ak,At hi,<-Ak]
 rw [e _ _ λi hi=>Gg.1 hi]
 simp only [Ih,List.foldl_nil]
 congr 2
 ·rw [List.take_append_of_le_length (Ao _),Ap]
 ·rw [Ak,Ar (by omega),Nat.sub_self];rfl
theorem o8 {m:Nat} (h:m<=20):He m [] []:=⟨by simp,λx hx=>(by cases hx),h,by simp [upto],List.Pairwise.nil⟩
theorem Aa4 {α:Type} {xs:List α} {y:Int} (h0:0<=y) (h:y.toNat<xs.length):idx xs y=some xs[y.toNat]:=by
 unfold idx
 rw [Ab h0,Ac h]
theorem Aka (f:SS) (s:List Int) (h:He s.length f.1 f.2.2.1):fnW Ei (look [(158,Yo)]) fE Tryz.f149 (f,s,()) (λ(z:Int)=>z=(Gj f.1 f.2.2.1 s:Int)):=by
 obtain ⟨L,D,Mu,b,⟨⟩⟩:=f
 dsimp only at h⊢
 have hle:=SM L Mu s
 have w7:=h.ug
 have kE:=h.wo
 refine Eq.mp (Al3 (L,D,Mu,b,()) s _) ?_
 refine Df.mk (λv=>v.2.2.1=L/\v.2.2.2.2.1=Mu/\ ∃lo hi:Nat,v.1=lo/\v.2.1=hi/\lo<=hi/\hi<=Mu.length/\lo<=Gj L Mu s/\Gj L Mu s<=hi) (λv=>(v.2.1-v.1).toNat)
  ⟨rfl,rfl,0,Mu.length,rfl,rfl,by omega,by omega,by omega,hle⟩ ?_
 rintro ⟨lo',nz,L',D',WG,b',⟨⟩⟩ ⟨h1,h2,lo,hi,h3,h4,h5,h6,h7,h8⟩
 dsimp only at h1 h2 h3 h4⊢
 subst h1 h2 h3 h4
 refine Br.dec (λhl=>?_) λhl=>?_
 ·have em:IntKind.i64.wrap ((IntKind.i64.wrap ((lo:Int)+(hi:Int))).tdiv 2)=(((lo+hi)/2:Nat):Int):=by
   rw [Dl (n:=(lo:Int)+(hi:Int)) (by omega) (by omega),Int.tdiv_eq_ediv_of_nonneg (by omega),Dl (by omega) (by omega)]
   omega
  rw [em]
  have hm1:(lo+hi)/2<WG.length:=by omega
  have hi1:=h.idx hm1
  have hi2:WG[(lo+hi)/2].toNat<L'.length:=by omega
  have hgd:=Zm hi2
  have hlen:=h.len _ (Aj hi2)
  have KP:short L'[WG[(lo+hi)/2].toNat]:=by
   unfold short
   have:=h.short;omega
  refine ⟨by decide,_,Bp hm1,_,Aa4 hi1.1 hi2,_,Ab ⟨KP,hlen⟩,⟨λhc=>?_,λhc=>?_⟩⟩
  ·have hc:fe L'[WG[(lo+hi)/2].toNat] s=true:=hc
   have hs:=(h.ey s hm1).2 (by rw [hgd];exact hc)
   rw [Bg (by omega)]
   exact ⟨⟨rfl,rfl,(lo+hi)/2+1,hi,rfl,rfl,by omega,h6,by omega,h8⟩,by omega⟩
  ·have hc:fe L'[WG[(lo+hi)/2].toNat] s=false:=hc
   have hs: ¬(lo+hi)/2<Gj L' WG s:= λhh=>by
    have:=(h.ey s hm1).1 hh
    rw [hgd,hc] at this;cases this
   exact ⟨⟨rfl,rfl,lo,(lo+hi)/2,rfl,rfl,by omega,by omega,h7,by omega⟩,by omega⟩
 ·show (lo:Int)=_
  omega
theorem vC:Sound Tryz.prog 149 fE:=
 Sound.Ev Db (Av vA Bh) mixed Tryz.func149 (by kernel_rfl) (by kernel_rfl) λx h=>Aka x.1 x.2.1 h
theorem Ab5 (f:SS) (s:List Int) (h:He s.length f.1 f.2.2.1):fnW Ei (look [(149,fE),(101,Bo)]) eu Tryz.f132 (f,s,()) (λ(z:Int)=>z=qQ f.1 s):=by
 obtain ⟨L,D,Mu,b,⟨⟩⟩:=f
 dsimp only at h⊢
 refine Eq.mp (Aco (L,D,Mu,b,()) s _) ⟨_,Ab h,Br.dec (λhl=>?_) λhl=>?_⟩
 ·have hl:Gj L Mu s<Mu.length:=by
   have hl:((Gj L Mu s:Nat):Int)<(Mu.length:Int):=hl
   omega
  have hi1:=h.idx hl
  have hi2:Mu[Gj L Mu s].toNat<L.length:=by omega
  have hgd:=Zm hi2
  have hlen:=h.len _ (Aj hi2)
  have KP:short L[Mu[Gj L Mu s].toNat]:=by
   unfold short
   have:=h.short;omega
  refine ⟨_,Bp hl,_,Aa4 hi1.1 hi2,_,Ab KP,⟨λhc=>⟨_,Bp hl,?_⟩,λhc=>?_⟩⟩
  ·have hc:L[Mu[Gj L Mu s].toNat]=s:=Gs hc
   rcases h.zi (s:=s) with ⟨hk,_,e⟩|⟨_,Ik⟩
   ·exact e.symm
   ·exact absurd (by rw [hgd];exact hc) (Ik hl)
  ·have hc: ¬L[Mu[Gj L Mu s].toNat]=s:=of_decide_eq_false hc
   rcases h.zi (s:=s) with ⟨hk,e,_⟩|⟨e,_⟩
   ·rw [hgd] at e;exact absurd e hc
   ·exact e.symm
 ·have hl: ¬Gj L Mu s<Mu.length:=by
   have hl: ¬((Gj L Mu s:Nat):Int)<(Mu.length:Int):=hl
   omega
  rcases h.zi (s:=s) with ⟨hk,e,_⟩|⟨e,_⟩
  ·exact absurd hk hl
  ·exact e.symm
theorem BU:Sound Tryz.prog 132 eu:=
 Sound.Ev Db (Av vC (Av Uj Bh)) mixed Tryz.func132 (by kernel_rfl) (by kernel_rfl) λx h=>Ab5 x.1 x.2.1 h
theorem MQ {S:List Int} {k:Nat} (h:k<=S.length) (n:Int):
  (Dv (S++ [0]) (k+1) (List.take ((S++ [0]).length-(k+1)) (List.take ((S++ [0]).length-k) (List.drop k (S++ [0]))))).set k n=Xh S k n:=by
 obtain ⟨A,B,rfl,hA⟩: ∃A B,S=A++B/\A.length=k:=⟨S.take k,S.drop k,(Ig k S).symm,by rw [Dd];omega⟩
 subst hA
 have e1:List.drop A.length (A++B++ [0])=B++ [0]:=by rw [Dg,List.drop_left]
 have e2:List.take ((A++B++ [0]).length-A.length) (B++ [0])=B++ [0]:=aC (by simp only [Ax,Bw];omega)
 have e3:List.take ((A++B++ [0]).length-(A.length+1)) (B++ [0])=B:=by
  have:(A++B++ [(0:Int)]).length-(A.length+1)=B.length:=by simp only [Ax,Bw];omega
  rw [this,List.take_left]
 rw [e1,e2,e3]
 unfold Dv Xh
 have e4:List.drop (A.length+1+B.length) (A++B++ [0])= []:=List.drop_eq_nil_of_le (by simp only [Ax,Bw];omega)
 obtain ⟨c,hc⟩: ∃c,List.take (A.length+1) (A++B++ [0])=A++ [c]:=by
  rw [Dg,List.take_append,aC (by omega)]
  cases B with
  |nil=>exact ⟨0,by simp⟩
  |cons b B=>exact ⟨b,by simp⟩
 rw [e4,hc,List.append_nil,Dg,List.singleton_append,Af3,List.take_left,List.drop_left]
theorem Ak8 (L:List (List Int)) (D S:List Int) (b:Bool) (s:List Int) (d:Int) (h:He s.length L S/\D.length<=3000):
  fnMW Tk (look [(149,fE)]) mw Tryz.f148 (L,D,S,b,s,d,()) (λ(z:(List (List Int)×List Int×List Int×Bool×Unit)×Unit)=>z=((L++ [s],D++ [d],Xh S (Gj L S s) L.length,b,()),())):=by
 obtain ⟨h,hD⟩:=h
 have hle:=SM L S s
 have w7:=h.ug
 have kE:=h.wo
 refine Eq.mp (Al1 L D S b s d _) ?_
 rw [Cf L,Cf D,Cf S]
 refine ⟨_,Ab h,?_⟩
 dsimp only
 have es:List.take 1 (List.drop 0 [(0:Int)])= [0]:=rfl
 have el:(S++ [(0:Int)]).length=S.length+1:=by simp
 rw [es,Bg (by omega),Bv,Bv,Ai,Ai,Ai]
 refine ⟨rfl,rfl,by show S.length+1<=4294967296;omega,⟨by omega,by omega,by omega⟩,⟨by omega,by omega,by omega⟩,⟨by omega,by omega⟩,?_,rfl,rfl,by show L.length+1<=4294967296;omega,rfl,rfl,by show D.length+1<=4294967296;omega,?_⟩
 ·unfold Dv
  simp only [Ax,Dd,List.length_drop,Bw]
  omega
 ·rw [MQ hle,Cf,Cf]
  have e5:List.take (S++ [(0:Int)]).length (List.drop 0 (Xh S (Gj L S s) (L.length:Int)))=Xh S (Gj L S s) (L.length:Int):=by
   rw [Dm,aC]
   unfold Xh
   simp only [Ax,Az,Dd,List.length_drop,Gc]
   omega
  rw [e5]
  rfl
theorem PJ:By Tryz.prog 148 mw:=
 By.cr Rx (Av vC Bh) mixed Tryz.func148 (by kernel_rfl) (by kernel_rfl) λx h=>Ak8 x.1 x.2.1 x.2.2.1 x.2.2.2.1 x.2.2.2.2.1 x.2.2.2.2.2.1 h
structure az (p:PP) (m:Nat) (L:List (List Int)) (D:List Int):Prop where
 ok:He m L (cW L)
 len:D.length=L.length
 row: ∀x∈L,∀y∈x,0<=y/\y<p.1
 dep: ∀j (h:j<D.length),0<=D[j]/\D[j]<=j
theorem AG {p:PP} (hv:Valid p) {x:List Int} {l:Int} (hx: ∀y∈x,0<=y/\y<p.1) (hl:Iu (List.length p.2.2.1) l):
  (Al x (Bs p.2.2.1 l)).length=x.length/\ ∀y∈Al x (Bs p.2.2.1 l),0<=y/\y<p.1:=by
 obtain ⟨h1,h2⟩:=k8 hv hl
 refine ⟨Pe _ _,λy hy=>?_⟩
 have:=EJ (n:=(Bs p.2.2.1 l).length) (λz hz=>by have:=hx z hz;omega) h2 y hy
 omega
theorem az.add {p:PP} {m:Nat} {L:List (List Int)} {D:List Int} (h:az p m L D) {y:List Int} {d:Int} (hn:y∉L) (hl:y.length=m) (hr:L.length<3000) (hy: ∀z∈y,0<=z/\z<p.1) (hd:0<=d/\d<=L.length):az p m (L++ [y]) (D++ [d]):=by
 have hlen:=h.len
 refine ⟨by rw [fI];exact h.ok.add hn hl hr,by simp [hlen],λx hx=>?_,λj hj=>?_⟩
 ·rcases Bb.1 hx with hx|hx
  ·exact h.row x hx
  ·rw [Ae.1 hx];exact hy
 ·by_cases e:j<D.length
  ·rw [gP e];exact h.dep j e
  ·simp only [Ax,Bw] at hj
   have:j=D.length:=by omega
   subst this
   rw [List.getElem_append_right (by omega)]
   simp only [Nat.sub_self,List.getElem_cons_zero]
   omega
theorem oZ {p:PP} {s:List Int} (hs:s.length<=20) (hr: ∀y∈s,0<=y/\y<p.1):az p s.length [s] [0]:=by
 refine ⟨?_,rfl,λx hx=>by rw [Ae.1 hx];exact hr,λj hj=>?_⟩
 ·have:=(o8 hs).add (s:=s) (by simp) rfl (by simp)
  have e:cW [s]=Xh [] (Gj [] [] s) 0:=fI [] s
  rw [e];exact this
 ·simp only [Bw] at hj
  have:j=0:=by omega
  subst this
  simp
theorem yq {L:List (List Int)} {s:List Int} :qQ L s>=0↔s∈L:=by
 unfold qQ
 split
 ·rename_i h;exact ⟨λ_=>h,λ_=>by omega⟩
 ·rename_i h;exact ⟨λhh=>by omega,λhh=>absurd hh h⟩
theorem Aew (p:PP) (s:List Int) (h:Dy p=true/\s.length<=20/\ ∀y∈s,0<=y/\y<p.1):fnW Ac4 (look [(116,Jr),(148,mw),(141,Nr),(118,Mn),(132,eu)]) kq Tryz.f131 (p,s,()) (λ(z:SS)=>z=Rq p.2.2.1 s):=by
 obtain ⟨hv,hs,hr⟩:=h
 have hV:=valid hv
 have kE:=hV.wo
 have hb0:=oZ hs hr
 have KP:short s:=by unfold short;omega
 obtain ⟨ls,qG⟩: ∃ls,Aw (List.length p.2.2.1)=ls:=⟨_,rfl⟩
 refine Eq.mp (Afo p s _) ⟨_,Ab KP,_,Ab ⟨o8 hs,by show 0<=3000;omega⟩,ls,(Ab (by show List.length p.2.2.1<=8;exact kE.2)).trans (Mc some qG),rfl,rfl,rfl,rfl,rfl,rfl,rfl,rfl,rfl,rfl,rfl,rfl,?_⟩
 have e0:Xh [] (Gj [] [] s) ((([]:List (List Int)).length:Nat):Int)=cW [s]:=(fI [] s).symm
 show Df _ ((0:Int),p.1,p.2.1,p.2.2.1,false,false,[],[],[],[s],[(0:Int)],Xh [] (Gj [] [] s) ((([]:List (List Int)).length:Nat):Int),PUnit.unit)
 rw [e0]
 have hll:ls.length<=16:=by rw [<-qG,Nz];omega
 have nA: ∀l∈ls,Iu (List.length p.2.2.1) l:= λl hl=>Pn (qG▸hl)
 have MK:Re p.2.2.1 ls 3001 0 [s] [0]=Kq p.2.2.1 s:=by unfold Kq;rw [qG]
 refine Df.mk (λv=>v.2.1=p.1/\v.2.2.1=p.2.1/\v.2.2.2.1=p.2.2.1/\v.2.2.2.2.2.1=false/\ ∃k:Nat,v.1=k/\k<=v.2.2.2.2.2.2.2.2.2.1.length/\
   az p s.length v.2.2.2.2.2.2.2.2.2.1 v.2.2.2.2.2.2.2.2.2.2.1/\v.2.2.2.2.2.2.2.2.2.2.2.1=cW v.2.2.2.2.2.2.2.2.2.1/\
   Re p.2.2.1 ls (3001-k) k v.2.2.2.2.2.2.2.2.2.1 v.2.2.2.2.2.2.2.2.2.2.1=Kq p.2.2.1 s) (λv=>3001-v.1.toNat)
  ⟨rfl,rfl,rfl,rfl,0,rfl,by simp,hb0,rfl,MK⟩ ?_
 rintro ⟨k',n1,n2,n3,b0,wh,x1,x2,x3,L0,D0,S0,⟨⟩⟩ ⟨h1,h2,h3,h4,k,h5,h6,h7,h8,h9⟩
 dsimp only at h1 h2 h3 h4 h5 h6 h7 h8 h9
 subst h1 h2 h3 h4 h5 h8
 dsimp only
 have hL0:=h7.ok.wo
 have hD0:=h7.len
 refine Br.dec (λhl=>⟨rfl,rfl,rfl,rfl,rfl,rfl,rfl,rfl,rfl,rfl,rfl,rfl,?_⟩) λhl=>?_
 ·have hk:k<L0.length:=by omega
  have hkD:k<D0.length:=by omega
  have hx: ∀y∈L0[k],0<=y/\y<p.1:=h7.row _ (Aj hk)
  have ZY:L0[k].length=s.length:=h7.ok.len _ (Aj hk)
  have hdk:=h7.dep k hkD
  obtain ⟨f,hf⟩: ∃f,3001-k=f+1:=⟨3000-k,by omega⟩
  have hgo: ∀L' D' ok,Me p.2.2.1 L0[k] D0[k] ls L0 D0=(L',D',ok)->Kq p.2.2.1 s=if ok=true then Re p.2.2.1 ls f (k+1) L' D' else (L',D',false):=by
   intro L' D' ok he
   rw [<-h9,hf,Re,Ab hk,Zm hk,Ak,Ac hkD]
   simp only [Bx]
   rw [he]
   cases ok<;>rfl
  refine Df.mk (λv=>v.2.1=p.1/\v.2.2.1=p.2.1/\v.2.2.2.1=p.2.2.1/\v.2.2.2.2.2.1=false/\ ∃i:Nat,v.1=i/\i<=ls.length/\az p s.length v.2.2.2.2.2.2.2.2.2.1 v.2.2.2.2.2.2.2.2.2.2.1/\
    v.2.2.2.2.2.2.2.2.2.2.2.1=cW v.2.2.2.2.2.2.2.2.2.1/\(∃A,v.2.2.2.2.2.2.2.2.2.1=L0++A)/\(∃A,v.2.2.2.2.2.2.2.2.2.2.1=D0++A)/\
    Me p.2.2.1 L0[k] D0[k] (ls.drop i) v.2.2.2.2.2.2.2.2.2.1 v.2.2.2.2.2.2.2.2.2.2.1=Me p.2.2.1 L0[k] D0[k] ls L0 D0) (λv=>ls.length-v.1.toNat)
   ⟨rfl,rfl,rfl,rfl,0,rfl,Iq _,h7,rfl,⟨[],by simp⟩,⟨[],by simp⟩,rfl⟩ ?_
  rintro ⟨i',m1,m2,m3,b1,wh1,y1,y2,y3,L,D,S,⟨⟩⟩ ⟨g1,g2,g3,g4,i,g5,g6,g7,g8,⟨A,g9⟩,⟨A',g10⟩,rI⟩
  dsimp only at g1 g2 g3 g4 g5 g6 g7 g8 g9 g10 rI
  subst g1 g2 g3 g4 g5 g8
  dsimp only
  have hLf:=g7.ok.wo
  have hDl:=g7.len
  rw [Cf L,Cf D,Cf (cW L)]
  refine Br.dec (λhli=>?_) λhli=>?_
  ·have hi:i<ls.length:=by omega
   have hkL:k<L.length:=by rw [g9,Ax];omega
   have hLk:L[k]=L0[k]:=by simp only [g9];exact gP hk
   have Aio:k<D.length:=by rw [hDl];exact hkL
   have hDk:D[k]=D0[k]:=by simp only [g10];exact gP hkD
   have pq:=nA _ (Aj hi)
   obtain ⟨nl,nr⟩:=AG hV hx pq
   rw [Cn hi] at rI
   simp only [Me] at rI
   refine ⟨⟨by omega,by omega⟩,L0[k],by rw [Ai,Bv,Ac hkL,hLk],_,Bp hi,_,Ab ⟨hv,by show L0[k].length<=20;omega,hx,pq⟩,?_⟩
   dsimp only
   have hyl:(Al L0[k] (Bs p.2.2.1 ls[i])).length=s.length:=by rw [nl,ZY]
   refine ⟨_,Ab (by show He (Al L0[k] (Bs p.2.2.1 ls[i])).length L (cW L);rw [hyl];exact g7.ok),Br.dec (λiL=>?_) λiL=>?_⟩
   ·have iL:Al L0[k] (Bs p.2.2.1 ls[i])∈L:=yq.1 iL
    rw [Ab iL] at rI
    rw [Bg (by omega)]
    exact ⟨rfl,rfl,rfl,rfl,rfl,rfl,rfl,rfl,rfl,rfl,rfl,rfl,⟨rfl,rfl,rfl,rfl,i+1,rfl,hi,g7,rfl,⟨A,g9⟩,⟨A',g10⟩,rI⟩,by omega⟩
   ·have iL:Al L0[k] (Bs p.2.2.1 ls[i])∉L:= λhh=>iL (yq.2 hh)
    rw [Ag iL] at rI
    refine ⟨λZq=>?_,λZq=>⟨⟨by omega,by omega⟩,D0[k],by rw [Ai,Bv,Ac Aio,hDk],rfl,rfl,rfl,rfl,rfl,rfl,?_⟩⟩
    ·have Zq:L.length=3000:=by
      have:(L.length:Int)=3000:=by simpa using Zq
      omega
     rw [Ab Zq] at rI
     have:=hgo _ _ _ rI.symm
     rw [Ag (by decide)] at this
     unfold Rq
     rw [this]
    ·have Zq:L.length≠3000:=by
      have:(L.length:Int)≠3000:=by simpa using Zq
      omega
     rw [Ag Zq] at rI
     rw [Dl (n:=D0[k]+1) (by omega) (by omega)]
     refine ⟨_,Ab ⟨by show He (Al L0[k] (Bs p.2.2.1 ls[i])).length L (cW L);rw [hyl];exact g7.ok,by show D.length<=3000;omega⟩,?_⟩
     dsimp only
     rw [Bg (by omega),<-fI]
     refine ⟨rfl,rfl,rfl,rfl,rfl,rfl,rfl,rfl,rfl,rfl,rfl,rfl,⟨rfl,rfl,rfl,rfl,i+1,rfl,hi,g7.add iL hyl (by omega) nr ⟨by omega,by omega⟩,rfl,⟨A++ [Al L0[k] (Bs p.2.2.1 ls[i])],by rw [g9,Dg]⟩,⟨A'++ [D0[k]+1],by rw [g10,Dg]⟩,rI⟩,by omega⟩
  ·have:i=ls.length:=by omega
   subst this
   rw [Ij,Me] at rI
   have:=hgo _ _ _ rI.symm
   rw [Ab rfl] at this
   rw [Bg (by omega)]
   refine ⟨rfl,rfl,rfl,rfl,rfl,rfl,rfl,rfl,rfl,rfl,rfl,rfl,⟨rfl,rfl,rfl,rfl,k+1,rfl,by rw [g9,Ax];omega,g7,rfl,?_⟩,by omega⟩
   rw [show 3001-(k+1)=f by omega]
   exact this.symm
 ·have hk:k=L0.length:=by omega
  rw [Cf L0,Cf D0,Cf (cW L0)]
  obtain ⟨f,hf⟩: ∃f,3001-k=f+1:=⟨3000-k,by omega⟩
  rw [hf,Re,Ag (by omega)] at h9
  unfold Rq
  rw [<-h9]
theorem IQ:Sound Tryz.prog 131 kq:=
 Sound.Ev Ac5 (Av Wp (En PJ (Av gC (Av oc (Av BU Bh))))) mixed Tryz.func131 (by kernel_rfl) (by kernel_rfl) λx h=>Aew x.1 x.2.1 h
end Go.Proofs.YtfolipnappekaaaGreat
