/-
  Part 38 of the proof that the statement FnExactSolveTwoPhaseWithin holds.
-/
import Derived.Test.YtfgfigkbgecfnaaCSolveTwoPhaseWithin36
import Derived.KernelRfl
namespace Go.Proofs.Ytfgfigkbgecfnaa
open Go.RowKit
def Lc (x a b:Int):Bool:=decide (a<=x/\x<=b)
def kM (n x:Int):Bool:=decide (0<=x/\x<=IntKind.i64.wrap (n-1))
def Oj (a b:List Int):Bool:=decide (a=b)
def lP (xs:List Int) (x:Int):Bool:=decide (x∈xs)
def short (xs:List Int):Prop:=xs.length<=4294967296
noncomputable abbrev Dq:Spec:=Ho (.pair tI (.pair tI (.pair tI .unit))) .bool false true (λ_=>True) (λx=>Lc x.1 x.2.1 x.2.2.1)
noncomputable abbrev bI:Spec:=Ho (.pair tI (.pair tI .unit)) .bool false true (λ_=>True) (λx=>kM x.1 x.2.1)
noncomputable abbrev Fh:Spec:=Ho (.pair tL (.pair tL .unit)) .bool false true (λx=>short x.1) (λx=>Oj x.1 x.2.1)
noncomputable abbrev Re:Spec:=Ho (.pair tL (.pair tI .unit)) .bool false true (λx=>short x.1) (λx=>lP x.1 x.2.1)
theorem XU (x a b:Int) (P:Bool->Prop):(Br (decide (x>=a)) (P (decide (x<=b))) (P false))=fnW Hf (look []) Dq Try.f39 (x,a,b,()) P:=by kernel_rfl
theorem Adz (x a b:Int) (P:Bool->Prop):(Br (decide (x>=a)) (P (decide (x<=b))) (P false))=fnW Hf (look []) Dq Try.f49 (x,a,b,()) P:=by kernel_rfl
theorem XW (n x:Int) (P:Bool->Prop):(∃(y3:Bool),Dq.fn (x,0,IntKind.i64.wrap (n-1),())=some y3/\P y3)=fnW Hf (look [(49,Dq)]) bI Try.f135 (n,x,()) P:=by kernel_rfl
theorem KJ (a b:List Int) (P:Bool->Prop):(Br ((↑a.length:Int) !=(↑b.length:Int)) (P false) (Dh (λ(v3:Int×PUnit) (k4:Int×PUnit->Prop)=>Br (decide (v3.1<(↑a.length:Int))) (∃(y5:Int),idx a v3.1=some y5/\ ∃(y6:Int),idx b v3.1=some y6/\Br (y5 !=y6) (P false) (k4 (IntKind.i64.wrap (v3.1+1),()))) (P true)) (0,PUnit.unit)))=fnW Hf (look []) Fh Try.f33 (a,b,()) P:=by kernel_rfl
theorem xx (xs:List Int) (x:Int) (P:Bool->Prop):(Dh (λ(v3:Int×PUnit) (k4:Int×PUnit->Prop)=>Br (decide (v3.1<(↑xs.length:Int))) (∃(y5:Int),idx xs v3.1=some y5/\Br (y5==x) (P true) (k4 (IntKind.i64.wrap (v3.1+1),()))) (P false)) (0,PUnit.unit))=fnW Hf (look []) Re Try.f93 (xs,x,()) P:=by kernel_rfl
theorem WB (x a b:Int) (_:True):fnW Hf (look []) Dq Try.f39 (x,a,b,()) (λ(z:Bool)=>z=Lc x a b):=by
 refine Eq.mp (XU x a b _) ?_;refine Br.dec (λh=>?_) λh=>?_
 ·have h:a<=x:=h;simp [Lc,h]
 ·exact (Ey λhh=>h hh.1).symm
theorem a9:Sound Try.prog 39 Dq:=
 Sound.Ho Ez Ce mixed Try.func39 (by kernel_rfl) (by kernel_rfl) λx h=>WB x.1 x.2.1 x.2.2.1 h
theorem Aca (x a b:Int) (_:True):fnW Hf (look []) Dq Try.f49 (x,a,b,()) (λ(z:Bool)=>z=Lc x a b):=by
 refine Eq.mp (Adz x a b _) ?_;refine Br.dec (λh=>?_) λh=>?_
 ·have h:a<=x:=h;simp [Lc,h]
 ·exact (Ey λhh=>h hh.1).symm
theorem Tn:Sound Try.prog 49 Dq:=
 Sound.Ho Ez Ce mixed Try.func49 (by kernel_rfl) (by kernel_rfl) λx h=>Aca x.1 x.2.1 x.2.2.1 h
theorem WD (n x:Int) (_:True):fnW Hf (look [(49,Dq)]) bI Try.f135 (n,x,()) (λ(z:Bool)=>z=kM n x):=
 Eq.mp (XW n x _) ⟨_,Ac trivial,rfl⟩
theorem xj:Sound Try.prog 135 bI:=
 Sound.Ho Ez (Bf Tn Ce) mixed Try.func135 (by kernel_rfl) (by kernel_rfl) λx h=>WD x.1 x.2.1 h
theorem wW (xs:List Int) (x:Int) (h:short xs):fnW Hf (look []) Re Try.f93 (xs,x,()) (λ(z:Bool)=>z=lP xs x):=by
 refine Eq.mp (xx xs x _) ?_;unfold short at h;refine Bt xs.length (λv=>v.1) (λj _=>x∉xs.take j) rfl (by simp) ?_;rintro j ⟨i,⟨⟩⟩ K hj hi hR hK;dsimp only at hi⊢;subst hi;refine Br.dec (λhl=>?_) λhl=>?_
 ·have hl:j<xs.length:=by omega
  refine ⟨_,Bu hl,⟨λhe=>?_,λhe=>?_⟩⟩
  ·have hm:=Ah hl;simp only [beq_iff_eq] at he;rw [he] at hm;exact (Ci hm).symm
  ·rw [Bm (by omega)];refine hK hl _ rfl ?_;simp only [Yi,ne_eq] at he;rw [Cg hl];simp only [Be,Af,not_or];exact ⟨hR,λhx=>he hx.symm⟩
 ·have:j=xs.length:=by omega
  subst this;rw [Az] at hR;exact (Ey hR).symm
theorem oQ:Sound Try.prog 93 Re:=
 Sound.Ho Ez Ce mixed Try.func93 (by kernel_rfl) (by kernel_rfl) λx h=>wW x.1 x.2.1 h
theorem RN (a b:List Int) (hlen:a.length=b.length) (h:short a):
  Dh (λ(v3:Int×PUnit) (k4:Int×PUnit->Prop)=>
   Br (decide (v3.1<(↑a.length:Int))) (∃(y5:Int),idx a v3.1=some y5/\ ∃(y6:Int),idx b v3.1=some y6/\Br (y5 !=y6) (false=Oj a b) (k4 (IntKind.i64.wrap (v3.1+1),())))
    (true=Oj a b))
  (0,PUnit.unit):=by
 unfold short at h;refine Bt a.length (λv=>v.1) (λj _=>a.take j=b.take j) rfl (by simp) ?_;rintro j ⟨i,⟨⟩⟩ K hj hi hR hK;dsimp only at hi⊢;subst hi;refine Br.dec (λhl=>?_) λhl=>?_
 ·have GD:j<a.length:=by omega
  have cU:j<b.length:=by omega
  refine ⟨_,Bu GD,_,Bu cU,⟨λhe=>?_,λhe=>?_⟩⟩
  ·simp only [bne_iff_ne,ne_eq] at he;refine (Ey λqU=>he ?_).symm;subst qU;rfl
  ·rw [Bm (by omega)];refine hK GD _ rfl ?_;simp only [Oa] at he;rw [Cg GD,Cg cU,hR,he]
 ·have u5:j=a.length:=by omega
  subst u5;rw [Az,hlen,Az] at hR;exact (Ci hR).symm
theorem IH (a b:List Int) (h:short a):fnW Hf (look []) Fh Try.f33 (a,b,()) (λ(z:Bool)=>z=Oj a b):=by
 refine Eq.mp (KJ a b _) ⟨λhl=>?_,λhl=>?_⟩
 ·simp only [bne_iff_ne,ne_eq,Mj] at hl;exact (Ey λqU=>hl (by rw [qU])).symm
 ·simp only [Oa,Mj] at hl;exact RN a b hl h
theorem sl:Sound Try.prog 33 Fh:=
 Sound.Ho Ez Ce mixed Try.func33 (by kernel_rfl) (by kernel_rfl) λx h=>IH x.1 x.2.1 h
abbrev TT:Type:=List Int×List (List Int)×List Int×Unit
def Kw (xs:List (List Int)):Prop:=xs.length<=4294967296/\ ∀r∈xs,short r
def Ama (t:TT):Prop:=short t.1/\Kw t.2.1/\short t.2.2.1
def roomy (room:Int):Prop:=0<=room/\room<=4294967296
def pS (n:Nat) (room:Int):Int:=if room-n<0 then-1 else room-n
def oA (xs:List Int) (room:Int):Int:=pS xs.length room
def JV:List (List Int)->Int->Int
 | [],room=>room
 |r::rs,room=>if oA r room<0 then-1 else JV rs (oA r room)
def eb (xs:List (List Int)) (room:Int):Int:=if pS xs.length room<0 then-1 else JV xs (pS xs.length room)
def pP (a b:List (List Int)):Bool:=decide (a=b)
def Ar0 (a b:TT):Bool:=decide (a.1=b.1)&&(decide (a.2.1=b.2.1)&&decide (a.2.2.1=b.2.2.1))
noncomputable abbrev yN:Spec:=Ho (.pair tL (.pair tI .unit)) tI false true (λx=>short x.1/\roomy x.2.1) (λx=>oA x.1 x.2.1)
noncomputable abbrev qh:Spec:=Ho (.pair kh (.pair tI .unit)) tI false true (λx=>Kw x.1/\roomy x.2.1) (λx=>eb x.1 x.2.1)
noncomputable abbrev rH:Spec:=Ho (.pair tL .unit) tL false true (λx=>short x.1) (λx=>x.1)
noncomputable abbrev qi:Spec:=Ho (.pair kh .unit) kh false true (λx=>Kw x.1) (λx=>x.1)
noncomputable abbrev qf:Spec:=Ho (.pair kh (.pair kh .unit)) .bool false true (λx=>Kw x.1) (λx=>pP x.1 x.2.1)
theorem Arw (xs:List Int) (room:Int) (P:Int->Prop):(Br (decide (IntKind.i64.wrap (room-(↑xs.length:Int))<0)) (P (-1)) (P (IntKind.i64.wrap (room-(↑xs.length:Int)))))=fnW Hf (look []) yN Try.f69 (xs,room,()) P:=by kernel_rfl
theorem Amx (xs:List (List Int)) (room:Int) (P:Int->Prop):(Br (decide (IntKind.i64.wrap (room-(↑xs.length:Int))<0)) (P (-1)) (Dh (λ(v3:Int×Int×PUnit) (k4:Int×Int×PUnit->Prop)=>Br (decide (v3.2.1<(↑xs.length:Int))) (∃(y5:List Int),idx xs v3.2.1=some y5/\ ∃(y6:Int),yN.fn (y5,v3.1,())=some y6/\Br (decide (y6<0)) (P (-1)) (k4 (y6,IntKind.i64.wrap (v3.2.1+1),()))) (P v3.1)) (IntKind.i64.wrap (room-(↑xs.length:Int)),0,PUnit.unit)))=fnW Hf (look [(69,yN)]) qh Try.f36 (xs,room,()) P:=by kernel_rfl
theorem Ary (xs:List Int) (P:List Int->Prop):((0<=(↑xs.length:Int)/\(↑xs.length:Int)<(↑Db:Int)+1)/\(↑xs.length:Int)=(↑xs.length:Int)/\0=0/\(List.replicate (↑xs.length:Int).toNat (Int.ofNat 0)).length=(List.replicate (↑xs.length:Int).toNat (Int.ofNat 0)).length/\Dh (λ(v2:Int×List Int×PUnit) (k3:Int×List Int×PUnit->Prop)=>Br (decide (v2.1<(↑xs.length:Int))) (∃(y4:Int),idx xs v2.1=some y4/\(0<=v2.1/\v2.1<(↑v2.2.1.length:Int))/\0+v2.1.toNat<v2.2.1.length/\0=0/\v2.2.1.length=(v2.2.1.set (0+v2.1.toNat) y4).length/\k3 (IntKind.i64.wrap (v2.1+1),v2.2.1.set (0+v2.1.toNat) y4,())) (P (List.take v2.2.1.length (List.drop 0 v2.2.1)))) (0,List.replicate (↑xs.length:Int).toNat (Int.ofNat 0),PUnit.unit))=fnW Hf (look []) rH Try.f14 (xs,()) P:=by kernel_rfl
theorem Amy (xs:List (List Int)) (P:List (List Int)->Prop):((0<=(↑xs.length:Int)/\(↑xs.length:Int)<(↑Db:Int)+1)/\(↑xs.length:Int)=(↑xs.length:Int)/\0=0/\(List.replicate (↑xs.length:Int).toNat ([]:List Int)).length=(List.replicate (↑xs.length:Int).toNat ([]:List Int)).length/\Dh (λ(v2:Int×List (List Int)×PUnit) (k3:Int×List (List Int)×PUnit->Prop)=>Br (decide (v2.1<(↑xs.length:Int))) (∃(y4:List Int),idx xs v2.1=some y4/\ ∃(y5:List Int),rH.fn (y4,())=some y5/\(0<=v2.1/\v2.1<(↑v2.2.1.length:Int))/\0+v2.1.toNat<v2.2.1.length/\0=0/\v2.2.1.length=(v2.2.1.set (0+v2.1.toNat) y5).length/\k3 (IntKind.i64.wrap (v2.1+1),v2.2.1.set (0+v2.1.toNat) y5,())) (P (List.take v2.2.1.length (List.drop 0 v2.2.1)))) (0,List.replicate (↑xs.length:Int).toNat ([]:List Int),PUnit.unit))=fnW Hf (look [(14,rH)]) qi Try.f47 (xs,()) P:=by kernel_rfl
theorem Arr (a b:List Int) (P:Bool->Prop):(Br ((↑a.length:Int) !=(↑b.length:Int)) (P false) (Dh (λ(v3:Int×PUnit) (k4:Int×PUnit->Prop)=>Br (decide (v3.1<(↑a.length:Int))) (∃(y5:Int),idx a v3.1=some y5/\ ∃(y6:Int),idx b v3.1=some y6/\Br (y5 !=y6) (P false) (k4 (IntKind.i64.wrap (v3.1+1),()))) (P true)) (0,PUnit.unit)))=fnW Hf (look []) Fh Try.f16 (a,b,()) P:=by kernel_rfl
theorem Amp (a b:List (List Int)) (P:Bool->Prop):(Br ((↑a.length:Int) !=(↑b.length:Int)) (P false) (Dh (λ(v3:Int×PUnit) (k4:Int×PUnit->Prop)=>Br (decide (v3.1<(↑a.length:Int))) (∃(y5:List Int),idx a v3.1=some y5/\ ∃(y6:List Int),idx b v3.1=some y6/\ ∃(y7:Bool),Fh.fn (y5,y6,())=some y7/\Br (!y7) (P false) (k4 (IntKind.i64.wrap (v3.1+1),()))) (P true)) (0,PUnit.unit)))=fnW Hf (look [(16,Fh)]) qf Try.f56 (a,b,()) P:=by kernel_rfl
theorem VN {n:Nat} {room:Int} (h:roomy room) (h2: ¬pS n room<0):roomy (pS n room):=by
 unfold pS roomy at*
 split at h2<;>simp_all
 omega
theorem Arb (xs:List Int) (room:Int) (h:short xs/\roomy room):fnW Hf (look []) yN Try.f69 (xs,room,()) (λ(z:Int)=>z=oA xs room):=by
 obtain ⟨h1,h2,h3⟩:=h;unfold short at h1;refine Eq.mp (Arw xs room _) ?_;rw [Co (by omega) (by omega)];refine Br.dec (λh=>?_) λh=>?_
 ·simp only [oA,pS,Ac h]
 ·simp only [oA,pS,Ai h]
theorem XD:Sound Try.prog 69 yN:=
 Sound.Ho Ez Ce mixed Try.func69 (by kernel_rfl) (by kernel_rfl) λx h=>Arb x.1 x.2.1 h
theorem Am1 (xs:List (List Int)) (room:Int) (h:Kw xs/\roomy room):fnW Hf (look [(69,yN)]) qh Try.f36 (xs,room,()) (λ(z:Int)=>z=eb xs room):=by
 obtain ⟨⟨h1,h4⟩,h2,h3⟩:=h;refine Eq.mp (Amx xs room _) ?_;rw [Co (by omega) (by omega)];refine Br.dec (λh=>?_) λh=>?_
 ·simp only [eb,pS,Ac h];rfl
 ·refine Bt xs.length (λv=>v.2.1) (λj v=>roomy v.1/\JV (xs.drop j) v.1=eb xs room) rfl ?_ ?_
  ·refine ⟨by unfold roomy;omega,?_⟩;simp only [eb,pS,Ai h,Cw]
  ·rintro j ⟨r,i,⟨⟩⟩ K hj hi ⟨hr,hR⟩ hK;dsimp only at hi hr hR⊢;subst hi;refine Br.dec (λhl=>?_) λhl=>?_
   ·have hl:j<xs.length:=by omega
    have hd:xs.drop j=xs[j]::xs.drop (j+1):=Ft hl;refine ⟨_,Bu hl,_,Ac ⟨h4 _ (Ah hl),hr⟩,?_⟩;rw [hd] at hR;simp only [JV] at hR;refine Br.dec (λhn=>?_) λhn=>?_
    ·have hn:oA xs[j] r<0:=hn;rw [Ac hn] at hR;exact hR
    ·have hn: ¬oA xs[j] r<0:=hn;rw [Ai hn] at hR;rw [Bm (by omega)];exact hK hl _ rfl ⟨VN hr hn,hR⟩
   ·have:j=xs.length:=by omega
    subst this;rw [Zr] at hR;exact hR
theorem QD:Sound Try.prog 36 qh:=
 Sound.Ho Ez (Bf XD Ce) mixed Try.func36 (by kernel_rfl) (by kernel_rfl) λx h=>Am1 x.1 x.2.1 h
theorem Rk {α:Type} {ys xs:List α} {j:Nat} (h:j<xs.length) (hl:ys.length=xs.length) (ht:ys.take j=xs.take j):(ys.set j xs[j]).take (j+1)=xs.take (j+1):=by
 have h1:j<(ys.set j xs[j]).length:=by rw [Bb];omega
 rw [Cg h1,Cg h,List.getElem_set_self,List.take_set_of_le (Ap j),ht]
theorem Ard (xs:List Int) (h:short xs):fnW Hf (look []) rH Try.f14 (xs,()) (λ(z:List Int)=>z=xs):=by
 unfold short at h;refine Eq.mp (Ary xs _) ?_;refine ⟨⟨by omega,by show (xs.length:Int)<(4294967296:Int)+1;omega⟩,rfl,rfl,rfl,?_⟩;refine Bt xs.length (λv=>v.1) (λj v=>v.2.1.length=xs.length/\v.2.1.take j=xs.take j) rfl ⟨by simp,by simp⟩ ?_;rintro j ⟨i,ys,⟨⟩⟩ K hj hi ⟨h1,h2⟩ hK;dsimp only at hi h1 h2⊢;subst hi;refine Br.dec (λhl=>?_) λhl=>?_
 ·have hl:j<xs.length:=by omega
  refine ⟨_,Bu hl,⟨by omega,by omega⟩,by rw [Ab];omega,rfl,by rw [Bb],?_⟩;rw [Bm (by omega),Ab,Bl];exact hK hl _ rfl ⟨by rw [Bb];exact h1,Rk hl h1 h2⟩
 ·have:j=xs.length:=by omega
  subst this;rw [Az,<-h1,Az] at h2;rw [Cw,Az];exact h2
theorem yU:Sound Try.prog 14 rH:=
 Sound.Ho Ez Ce mixed Try.func14 (by kernel_rfl) (by kernel_rfl) λx h=>Ard x.1 h
theorem Am2 (xs:List (List Int)) (h:Kw xs):fnW Hf (look [(14,rH)]) qi Try.f47 (xs,()) (λ(z:List (List Int))=>z=xs):=by
 obtain ⟨h,h4⟩:=h;refine Eq.mp (Amy xs _) ?_;refine ⟨⟨by omega,by show (xs.length:Int)<(4294967296:Int)+1;omega⟩,rfl,rfl,rfl,?_⟩;refine Bt xs.length (λv=>v.1) (λj v=>v.2.1.length=xs.length/\v.2.1.take j=xs.take j) rfl ⟨by simp,by simp⟩ ?_;rintro j ⟨i,ys,⟨⟩⟩ K hj hi ⟨h1,h2⟩ hK;dsimp only at hi h1 h2⊢;subst hi;refine Br.dec (λhl=>?_) λhl=>?_
 ·have hl:j<xs.length:=by omega
  refine ⟨_,Bu hl,_,Ac (h4 _ (Ah hl)),⟨by omega,by omega⟩,by rw [Ab];omega,rfl,by rw [Bb],?_⟩;rw [Bm (by omega),Ab,Bl];exact hK hl _ rfl ⟨by rw [Bb];exact h1,Rk hl h1 h2⟩
 ·have:j=xs.length:=by omega
  subst this;rw [Az,<-h1,Az] at h2;rw [Cw,Az];exact h2
theorem QE:Sound Try.prog 47 qi:=
 Sound.Ho Ez (Bf yU Ce) mixed Try.func47 (by kernel_rfl) (by kernel_rfl) λx h=>Am2 x.1 h
theorem Ar6 (a b:List Int) (h:short a):fnW Hf (look []) Fh Try.f16 (a,b,()) (λ(z:Bool)=>z=Oj a b):=by
 refine Eq.mp (Arr a b _) ⟨λhl=>?_,λhl=>?_⟩
 ·simp only [bne_iff_ne,ne_eq,Mj] at hl;exact (Ey λqU=>hl (by rw [qU])).symm
 ·simp only [Oa,Mj] at hl;exact RN a b hl h
theorem yT:Sound Try.prog 16 Fh:=
 Sound.Ho Ez Ce mixed Try.func16 (by kernel_rfl) (by kernel_rfl) λx h=>Ar6 x.1 x.2.1 h
theorem Als (a b:List (List Int)) (h:Kw a):fnW Hf (look [(16,Fh)]) qf Try.f56 (a,b,()) (λ(z:Bool)=>z=pP a b):=by
 obtain ⟨h,h4⟩:=h;refine Eq.mp (Amp a b _) ⟨λhl=>?_,λhl=>?_⟩
 ·simp only [bne_iff_ne,ne_eq,Mj] at hl;exact (Ey λqU=>hl (by rw [qU])).symm
 ·simp only [Oa,Mj] at hl;refine Bt a.length (λv=>v.1) (λj _=>a.take j=b.take j) rfl (by simp) ?_;rintro j ⟨i,⟨⟩⟩ K hj hi hR hK;dsimp only at hi⊢;subst hi;refine Br.dec (λKr=>?_) λKr=>?_
  ·have GD:j<a.length:=by omega
   have cU:j<b.length:=by omega
   refine ⟨_,Bu GD,_,Bu cU,_,Ac (h4 _ (Ah GD)),⟨λhe=>?_,λhe=>?_⟩⟩
   ·refine (Ey λqU=>?_).symm;subst qU;simp [Oj] at he
   ·rw [Bm (by omega)];refine hK GD _ rfl ?_;simp only [Oj,Bool.not_eq_false',Wo] at he;rw [Cg GD,Cg cU,hR];exact Dz (λx=>List.take j b++ [x]) he
  ·have u5:j=a.length:=by omega
   subst u5;rw [Az,hl,Az] at hR;exact (Ci hR).symm
theorem PY:Sound Try.prog 56 qf:=
 Sound.Ho Ez (Bf yT Ce) mixed Try.func56 (by kernel_rfl) (by kernel_rfl) λx h=>Als x.1 x.2.1 h
def PL (n:Int) (xs:List Int) (k:Nat):Prop:= ∀j (h:j<xs.length),j<k->0<=xs[j]/\xs[j]<=n-1/\(0<j->xs[j-1]<xs[j])
def DL (n:Int) (xs:List Int) (k:Nat):Prop:= ∀j (h:j<xs.length),j<k->0<=xs[j]/\xs[j]<=n-1/\xs[j]∉xs.take j
noncomputable def dec (p:Prop):Bool:= @decide p (Classical.propDecidable p)
theorem Ob {p:Prop} (h:p):true=dec p:=(@Ci p (Classical.propDecidable p) h).symm
theorem Dp {p:Prop} (h: ¬p):false=dec p:=(@Ey p (Classical.propDecidable p) h).symm
theorem Ib {p:Prop} :dec p=true↔p:= @Ji p (Classical.propDecidable p)
theorem Af2 {p:Prop} :dec p=false↔ ¬p:= @decide_eq_false_iff_not p (Classical.propDecidable p)
def nOK (n:Int):Prop:=0<=n/\n<=4294967296
noncomputable def Sp (n:Int) (xs:List Int):Bool:=dec (0<xs.length/\PL n xs xs.length)
noncomputable abbrev Ko:Spec:=Ho (.pair tI (.pair tL .unit)) .bool false true (λx=>nOK x.1/\short x.2.1) (λx=>Sp x.1 x.2.1)
noncomputable abbrev Vf:Spec:=Ho (.pair kh .unit) tI false true (λ_=>True) (λx=>(List.length x.1:Int))
theorem xA (n:Int) (xs:List Int) (P:Bool->Prop):(∃(y3:Bool),Dq.fn ((↑xs.length:Int),(1:Int),n,())=some y3/\Br (!y3) (P false) (Dh (λ(v4:Int×PUnit) (k5:Int×PUnit->Prop)=>Br (decide (v4.1<(↑xs.length:Int))) (∃(y6:Int),idx xs v4.1=some y6/\ ∃(y7:Bool),Dq.fn (y6,(0:Int),IntKind.i64.wrap (n-(1:Int)),())=some y7/\Br (!y7) (P false) (Br (decide (v4.1>(0:Int))) (∃(y8:Int),idx xs v4.1=some y8/\ ∃(y9:Int),idx xs (IntKind.i64.wrap (v4.1-(1:Int)))=some y9/\Br (decide (y8<=y9)) (P false) (k5 (IntKind.i64.wrap (v4.1+(1:Int)),()))) (k5 (IntKind.i64.wrap (v4.1+(1:Int)),())))) (P true)) ((0:Int),PUnit.unit)))=fnW Hf (look [(39,Dq)]) Ko Try.f96 (n,xs,()) P:=by kernel_rfl
theorem KN (n:Int) (xs:List Int) (P:Bool->Prop):(Dh (λ(v3:Int×PUnit) (k4:Int×PUnit->Prop)=>Br (decide (v3.1<(↑xs.length:Int))) (∃(y5:Int),idx xs v3.1=some y5/\ ∃(y6:Bool),bI.fn (n,y5,())=some y6/\Br (!y6) (P false) (Br (decide (v3.1>(0:Int))) (∃(y7:Int),idx xs (IntKind.i64.wrap (v3.1-(1:Int)))=some y7/\Br (decide (y7>=y5)) (P false) (k4 (IntKind.i64.wrap (v3.1+(1:Int)),()))) (k4 (IntKind.i64.wrap (v3.1+(1:Int)),())))) (P (decide ((↑xs.length:Int)>(0:Int))))) ((0:Int),PUnit.unit))=fnW Hf (look [(135,bI)]) Ko Try.f123 (n,xs,()) P:=by kernel_rfl
theorem Ah8 (xs:List (List Int)) (P:Int->Prop):(P (↑xs.length:Int))=fnW Hf (look []) Vf Try.f79 (xs,()) P:=by kernel_rfl
theorem Agf (xs:List (List Int)) (_:True):fnW Hf (look []) Vf Try.f79 (xs,()) (λ(z:Int)=>z=(xs.length:Int)):=Eq.mp (Ah8 xs _) rfl
theorem jX:Sound Try.prog 79 Vf:=
 Sound.Ho Ez Ce mixed Try.func79 (by kernel_rfl) (by kernel_rfl) λx h=>Agf x.1 h
theorem rj {n x:Int} (hn:nOK n):kM n x=true↔0<=x/\x<=n-1:=by
 unfold kM nOK at*;rw [Co (by omega) (by omega),Ji]
theorem Gj {x a b:Int} :Lc x a b=true↔a<=x/\x<=b:=Ji
theorem Gs {b:Bool} (h:(!b)=true): ¬b=true:=by cases b<;>simp_all
theorem Iv {b:Bool} (h:(!b)=false):b=true:=by cases b<;>simp_all
theorem OW {n:Int} {xs:List Int} (h:PL n xs xs.length): ∀j (hj:j<xs.length),(j:Int)<=xs[j]
 |0,hj=>(h 0 hj hj).1
 |j+1,hj=>by
  have h1:=OW h j (by omega);have h2:=(h (j+1) hj hj).2.2 (by omega);simp only [Nat.add_sub_cancel] at h2;omega
theorem sL {n:Int} {xs:List Int} {j:Nat} (hl:j<xs.length) (h:PL n xs j) (h1:0<=xs[j]) (h2:xs[j]<=n-1) (h3:0<j->xs[j-1]<xs[j]):PL n xs (j+1):=by
 intro i hi fU
 by_cases e:i=j
 ·subst e;exact ⟨h1,h2,h3⟩
 ·exact h i hi (by omega)
theorem IJ (n:Int) (xs:List Int) (h:nOK n/\short xs):fnW Hf (look [(135,bI)]) Ko Try.f123 (n,xs,()) (λ(z:Bool)=>z=Sp n xs):=by
 obtain ⟨hn,h⟩:=h;unfold short at h;refine Eq.mp (KN n xs _) ?_;refine Bt xs.length (λv=>v.1) (λj _=>PL n xs j) rfl (λj _ hj=>absurd hj (Ea _)) ?_;rintro j ⟨i,⟨⟩⟩ K hj hi hR hK;dsimp only at hi⊢;subst hi;refine Br.dec (λhl=>?_) λhl=>?_
 ·have hl:j<xs.length:=by omega
  refine ⟨_,Bu hl,_,Ac trivial,⟨λhp=>?_,λhp=>?_⟩⟩
  ·have hp:=Gs hp;rw [rj hn] at hp;exact Dp λhh=>hp ⟨(hh.2 j hl hl).1,(hh.2 j hl hl).2.1⟩
  ·have hp:=Iv hp;rw [rj hn] at hp;refine Br.dec (λh0=>?_) λh0=>?_
   ·have h0:0<j:=by omega
    rw [Co (by omega) (by omega),show (j:Int)-1=((j-1:Nat):Int) by omega];refine ⟨_,Bu (by omega),Br.dec (λhg=>?_) λhg=>?_⟩
    ·exact Dp λhh=>by have:=(hh.2 j hl hl).2.2 h0;omega
    ·rw [Bm (by omega)];exact hK hl _ rfl (sL hl hR hp.1 hp.2 λ_=>by omega)
   ·have h0:j=0:=by omega
    rw [Bm (by omega)];exact hK hl _ rfl (sL hl hR hp.1 hp.2 λh=>by omega)
 ·have:j=xs.length:=by omega
  subst this
  by_cases h0:0<xs.length
  ·rw [Ci (show (xs.length:Int)>0 by omega)];exact Ob ⟨h0,hR⟩
  ·rw [Ey (show ¬(xs.length:Int)>0 by omega)];exact Dp λhh=>h0 hh.1
theorem sn:Sound Try.prog 123 Ko:=
 Sound.Ho Ez (Bf xj Ce) mixed Try.func123 (by kernel_rfl) (by kernel_rfl) λx h=>IJ x.1 x.2.1 h
theorem wZ (n:Int) (xs:List Int) (h:nOK n/\short xs):fnW Hf (look [(39,Dq)]) Ko Try.f96 (n,xs,()) (λ(z:Bool)=>z=Sp n xs):=by
 obtain ⟨hn,h⟩:=h;unfold short at h;refine Eq.mp (xA n xs _) ⟨_,Ac trivial,⟨λhp=>?_,λhp=>?_⟩⟩
 ·have hp:=Gs hp;rw [Gj] at hp;dsimp only at hp;refine Dp λhh=>hp ⟨by omega,?_⟩;have:=OW hh.2 (xs.length-1) (by omega);have:=(hh.2 (xs.length-1) (by omega) (by omega)).2.1;omega
 ·have hp:=Iv hp;rw [Gj] at hp;dsimp only at hp;refine Bt xs.length (λv=>v.1) (λj _=>PL n xs j) rfl (λj _ hj=>absurd hj (Ea _)) ?_;rintro j ⟨i,⟨⟩⟩ K hj hi hR hK;dsimp only at hi⊢;subst hi;refine Br.dec (λhl=>?_) λhl=>?_
  ·have hl:j<xs.length:=by omega
   refine ⟨_,Bu hl,_,Ac trivial,⟨λhq=>?_,λhq=>?_⟩⟩
   ·have hq:=Gs hq;unfold nOK at hn;rw [Gj,Co (by omega) (by omega)] at hq;exact Dp λhh=>hq ⟨(hh.2 j hl hl).1,(hh.2 j hl hl).2.1⟩
   ·have hq:=Iv hq;unfold nOK at hn;rw [Gj,Co (by omega) (by omega)] at hq;refine Br.dec (λh0=>?_) λh0=>?_
    ·have h0:0<j:=by omega
     rw [Co (by omega) (by omega),show (j:Int)-1=((j-1:Nat):Int) by omega];refine ⟨_,Bu hl,_,Bu (by omega),Br.dec (λhg=>?_) λhg=>?_⟩
     ·exact Dp λhh=>by have:=(hh.2 j hl hl).2.2 h0;omega
     ·rw [Bm (by omega)];exact hK hl _ rfl (sL hl hR hq.1 hq.2 λ_=>by omega)
    ·rw [Bm (by omega)];exact hK hl _ rfl (sL hl hR hq.1 hq.2 λh=>by omega)
  ·have:j=xs.length:=by omega
   subst this;exact Ob ⟨by omega,hR⟩
theorem oR:Sound Try.prog 96 Ko:=
 Sound.Ho Ez (Bf a9 Ce) mixed Try.func96 (by kernel_rfl) (by kernel_rfl) λx h=>wZ x.1 x.2.1 h
theorem Af4 {n:Int} {xs:List Int} {j:Nat} (hl:j<xs.length) (h:DL n xs j) (h1:0<=xs[j]) (h2:xs[j]<=n-1) (h3:xs[j]∉xs.take j):DL n xs (j+1):=by
 intro i hi fU
 by_cases e:i=j
 ·subst e;exact ⟨h1,h2,h3⟩
 ·exact h i hi (by omega)
theorem PS {xs:List Int} (h:short xs) (j:Nat):short (xs.take j):=by
 unfold short at*;rw [Dx];omega
theorem IX:roomy 1048576:=⟨by decide,by decide⟩
abbrev PP:Type:=Int×ByteArray×List (List Int)×Unit
noncomputable def Kz (p:List Int):Bool:=dec (1<=p.length/\p.length<=20/\DL p.length p p.length)
noncomputable def Ix (n:Int) (p:List Int):Bool:=dec ((p.length:Int)=n/\Kz p=true)
noncomputable def an (n:Int) (g:List (List Int)):Bool:=dec ((1<=n/\n<=20)/\g.length<=8/\ ∀p∈g,Ix n p=true)
def Ik {α:Type} (P:α->Bool):List α->Int->Int
 | [],_=> -1
 |y::r,i=>if P y=true then i else Ik P r (i+1)
abbrev tG1:Ty:= .clo 84 (.pair (.ptr tI) .unit)
def zc (s:ByteArray) (i:Nat):Prop:= ∃c:UInt8,s[i]?=some c/\65<=c.toNat/\c.toNat<=90/\ ∀k,k<i->s[k]?≠some c
noncomputable def ov (s:ByteArray) (i:Int):Bool:=dec (zc s i.toNat)
noncomputable def eW (s:ByteArray):Bool:=dec ((1<=s.size/\s.size<=8)/\ ∀j,j<s.size->zc s j)
noncomputable def Da (p:PP):Bool:=dec (an p.1 p.2.2.1=true/\eW p.2.1=true/\p.2.1.size=p.2.2.1.length)
noncomputable def Dg (p:PP) (xs:List Int):Bool:=dec (Da p=true/\Sp p.2.2.1.length xs=true)
def Fo (p:PP):Prop:=p.2.1.size<=4294967296/\Kw p.2.2.1
noncomputable abbrev Tx:Spec:=Ho (.pair tL .unit) tI false true (λ_=>True) (λx=>(List.length x.1:Int))
noncomputable abbrev Jd:Spec:=Ho (.pair tL .unit) .bool false true (λx=>short x.1) (λx=>Kz x.1)
noncomputable abbrev Qv:Spec:=Ho (.pair tI (.pair kh .unit)) .bool false true (λx=>Kw x.2.1) (λx=>an x.1 x.2.1)
noncomputable abbrev kT:Spec:=Ho (.pair tL (.pair (.ptr tI) .unit)) .bool false true (λx=>short x.1) (λx=>!Ix x.2.1 x.1)
noncomputable abbrev yM:Spec:=Ho (.pair kh (.pair tG1 .unit)) tI false true (λx=>Kw x.1) (λx=>Ik (λp=>!Ix x.2.1.1 p) x.1 0)
noncomputable abbrev yJ:Spec:=Ho (.pair kh (.pair tG1 .unit)) .bool false true (λx=>Kw x.1) (λx=>List.any x.1 (λp=>!Ix x.2.1.1 p))
noncomputable abbrev ff:Spec:=Ho (.pair .str (.pair tI .unit)) .bool false true (λx=>0<=x.2.1/\x.2.1<x.1.size/\x.1.size<=4294967296) (λx=>ov x.1 x.2.1)
noncomputable abbrev bH:Spec:=Ho (.pair .str .unit) .bool false true (λx=>x.1.size<=4294967296) (λx=>eW x.1)
noncomputable abbrev Je:Spec:=Ho (.pair Gi .unit) .bool false true (λx=>Fo x.1) (λx=>Da x.1)
noncomputable abbrev Jl:Spec:=Ho (.pair Gi (.pair tL .unit)) .bool false true (λx=>Fo x.1/\short x.2.1) (λx=>Dg x.1 x.2.1)
def jA (p:PP) (room:Int):Int:=if room-p.2.1.size<0 then-1 else if eb p.2.2.1 (room-p.2.1.size)<0 then-1 else eb p.2.2.1 (room-p.2.1.size)
def rh (a b:PP):Bool:=decide (a.1=b.1)&&(decide (a.2.1=b.2.1)&&decide (a.2.2.1=b.2.2.1))
noncomputable abbrev yO:Spec:=Ho (.pair Gi (.pair tI .unit)) tI false true (λx=>Fo x.1/\roomy x.2.1) (λx=>jA x.1 x.2.1)
noncomputable abbrev yP:Spec:=Ho (.pair Gi .unit) Gi false true (λx=>Fo x.1) (λx=>x.1)
noncomputable abbrev yK:Spec:=Ho (.pair Gi (.pair Gi .unit)) .bool false true (λx=>Fo x.1) (λx=>rh x.1 x.2.1)
theorem Ams (xs:List Int) (P:Int->Prop):(P (↑xs.length:Int))=fnW Hf (look []) Tx Try.f85 (xs,()) P:=by kernel_rfl
theorem DN (p:List Int) (P:Bool->Prop):(∃(y2:Bool),Dq.fn ((↑p.length:Int),(1:Int),(20:Int),())=some y2/\Br (!y2) (P false) (Dh (λ(v3:Int×PUnit) (k4:Int×PUnit->Prop)=>Br (decide (v3.1<(↑p.length:Int))) (∃(y5:Int),idx p v3.1=some y5/\ ∃(y6:Bool),Dq.fn (y5,(0:Int),IntKind.i64.wrap ((↑p.length:Int)-(1:Int)),())=some y6/\Br (!y6) (P false) (((0:Int)<=(0:Int)/\(0:Int)<=v3.1/\v3.1<=(↑p.length:Int))/\ ∃(y7:Int),idx p v3.1=some y7/\ ∃(y8:Bool),Re.fn (List.drop (Int.toNat (0:Int)) (List.take v3.1.toNat p),y7,())=some y8/\Br y8 (P false) (k4 (IntKind.i64.wrap (v3.1+(1:Int)),())))) (P true)) ((0:Int),PUnit.unit)))=fnW Hf (look [(39,Dq),(93,Re)]) Jd Try.f67 (p,()) P:=by kernel_rfl
theorem DH (p:List Int) (P:Bool->Prop):(∃(y2:Int),Tx.fn (p,())=some y2/\ ∃(y3:Bool),Dq.fn (y2,(1:Int),(20:Int),())=some y3/\Br (!y3) (P false) (Dh (λ(v4:Int×Int×PUnit) (k5:Int×Int×PUnit->Prop)=>Br (decide (v4.2.1<(↑p.length:Int))) (∃(y6:Int),idx p v4.2.1=some y6/\ ∃(y7:Int),Tx.fn (p,())=some y7/\ ∃(y8:Bool),Dq.fn (y6,(0:Int),IntKind.i64.wrap (y7-(1:Int)),())=some y8/\Br (!y8) (P false) (¬y6<(0:Int)/\k5 (IntKind.i64.wrap (↑(BitVec.ofInt IntKind.i64.bits v4.1|||BitVec.ofInt IntKind.i64.bits (IntKind.i64.wrap ((1:Int)*(2:Int)^min y6.toNat IntKind.i64.bits))).toNat:Int),IntKind.i64.wrap (v4.2.1+(1:Int)),()))) (¬(↑p.length:Int)<(0:Int)/\P (v4.1==IntKind.i64.wrap (IntKind.i64.wrap ((1:Int)*(2:Int)^min (↑p.length:Int).toNat IntKind.i64.bits)-(1:Int))))) ((0:Int),(0:Int),PUnit.unit)))=fnW Hf (look [(49,Dq),(85,Tx)]) Jd Try.f62 (p,()) P:=by kernel_rfl
theorem DM (n:Int) (g:List (List Int)) (P:Bool->Prop):(∃(y3:Bool),Dq.fn (n,(1:Int),(20:Int),())=some y3/\Br (!y3) (P false) (Br (decide ((↑g.length:Int)>(8:Int))) (P false) (Dh (λ(v4:Int×PUnit) (k5:Int×PUnit->Prop)=>Br (decide (v4.1<(↑g.length:Int))) (∃(y6:List Int),idx g v4.1=some y6/\Br ((↑y6.length:Int) !=n) (P false) (∃(y7:List Int),idx g v4.1=some y7/\ ∃(y8:Bool),Jd.fn (y7,())=some y8/\Br (!y8) (P false) (k5 (IntKind.i64.wrap (v4.1+(1:Int)),())))) (P true)) ((0:Int),PUnit.unit))))=fnW Hf (look [(39,Dq),(67,Jd)]) Qv Try.f34 (n,g,()) P:=by kernel_rfl
theorem Ah6 (p:List Int) (n:Int) (P:Bool->Prop):(∃(y3:Int),Tx.fn (p,())=some y3/\Br (y3 !=n) (P true) (∃(y4:Bool),Jd.fn (p,())=some y4/\P !y4))=fnW Hf (look [(85,Tx),(62,Jd)]) kT Try.f84 (p,n,()) P:=by kernel_rfl
theorem Aru (g:List (List Int)) (n:Int×Unit) (P:Int->Prop):(Dh (λ(v3:Int×PUnit) (k4:Int×PUnit->Prop)=>Br (decide (v3.1<(↑g.length:Int))) (∃(y5:List Int),idx g v3.1=some y5/\ ∃(y6:Bool),kT.fn (y5,n.1,())=some y6/\Br y6 (P v3.1) (k4 (IntKind.i64.wrap (v3.1+(1:Int)),()))) (P (-1:Int))) ((0:Int),PUnit.unit))=fnW Hf (look [(84,kT)]) yM Try.f106 (g,n,()) P:=by kernel_rfl
theorem Arq (g:List (List Int)) (n:Int×Unit) (P:Bool->Prop):(∃(y3:Int),yM.fn (g,n,())=some y3/\P (decide (y3>=(0:Int))))=fnW Hf (look [(106,yM)]) yJ Try.f83 (g,n,()) P:=by kernel_rfl
theorem DG (n:Int) (g:List (List Int)) (P:Bool->Prop):(∃(y3:Bool),Dq.fn (n,(1:Int),(20:Int),())=some y3/\Br y3 (Br (decide ((↑g.length:Int)<=(8:Int))) (∃(y4:Bool),yJ.fn (g,(n,()),())=some y4/\P !y4) (P false)) (P false))=fnW Hf (look [(49,Dq),(83,yJ)]) Qv Try.f59 (n,g,()) P:=by kernel_rfl
theorem Adt (s:ByteArray) (i:Int) (P:Bool->Prop):((0:Int)<=i/\ ∃(y3:UInt8),s[i.toNat]?=some y3/\Br (decide ((↑y3.toNat:Int)<(65:Int))) (P false) ((0:Int)<=i/\ ∃(y4:UInt8),s[i.toNat]?=some y4/\Br (decide ((↑y4.toNat:Int)>(90:Int))) (P false) (Dh (λ(v5:Int×PUnit) (k6:Int×PUnit->Prop)=>Br (decide (v5.1<i)) ((0:Int)<=v5.1/\ ∃(y7:UInt8),s[v5.1.toNat]?=some y7/\(0:Int)<=i/\ ∃(y8:UInt8),s[i.toNat]?=some y8/\Br ((↑y7.toNat:Int)==(↑y8.toNat:Int)) (P false) (k6 (IntKind.i64.wrap (v5.1+(1:Int)),()))) (P true)) ((0:Int),PUnit.unit))))=fnW Hf (look []) ff Try.f90 (s,i,()) P:=by kernel_rfl
theorem XV (s:ByteArray) (P:Bool->Prop):(Dh (λ(v2:Int×PUnit) (k3:Int×PUnit->Prop)=>Br (decide (v2.1<(↑s.size:Int))) ((0:Int)<=v2.1/\ ∃(y4:UInt8),s[v2.1.toNat]?=some y4/\ ∃(y5:Bool),Dq.fn (IntKind.i64.wrap (↑y4.toNat:Int),(65:Int),(90:Int),())=some y5/\Br (!y5) (P false) (Dh (λ(v6:Int×PUnit) (k7:Int×PUnit->Prop)=>Br (decide (v6.1<v2.1)) ((0:Int)<=v6.1/\ ∃(y8:UInt8),s[v6.1.toNat]?=some y8/\(0:Int)<=v2.1/\ ∃(y9:UInt8),s[v2.1.toNat]?=some y9/\Br ((↑y8.toNat:Int)==(↑y9.toNat:Int)) (P false) (k7 (IntKind.i64.wrap (v6.1+(1:Int)),()))) (k3 (IntKind.i64.wrap (v2.1+(1:Int)),()))) ((0:Int),PUnit.unit))) (∃(y4:Bool),Dq.fn ((↑s.size:Int),(1:Int),(8:Int),())=some y4/\P y4)) ((0:Int),PUnit.unit))=fnW Hf (look [(49,Dq)]) bH Try.f60 (s,()) P:=by kernel_rfl
abbrev lW:Type:=Int×Int×ByteArray×List (List Int)×PUnit
theorem DO (p:Int×ByteArray×List (List Int)×Unit) (P:Bool->Prop):(Br ((↑p.2.2.1.length:Int)==(0:Int)) (P false) (Br ((↑p.2.1.size:Int) !=(↑p.2.2.1.length:Int)) (P false) (∃(y2:Bool),Qv.fn (p.1,p.2.2.1,())=some y2/\Br (!y2) (P false) (Dh (λ(v3:lW) (k4:lW->Prop)=>Br (decide (v3.1<(↑v3.2.2.1.size:Int))) (∃(y5:Bool),ff.fn (v3.2.2.1,v3.1,())=some y5/\Br (!y5) (P false) (k4 (IntKind.i64.wrap (v3.1+(1:Int)),v3.2.1,v3.2.2.1,v3.2.2.2.1,()))) (P true)) ((0:Int),p.1,p.2.1,p.2.2.1,PUnit.unit)))))=fnW Hf (look [(34,Qv),(90,ff)]) Je Try.f64 (p,()) P:=by kernel_rfl
theorem DJ (p:Int×ByteArray×List (List Int)×Unit) (P:Bool->Prop):(∃(y2:Bool),Qv.fn (p.1,p.2.2.1,())=some y2/\Br y2 (∃(y3:Bool),bH.fn (p.2.1,())=some y3/\Br y3 (P ((↑p.2.1.size:Int)==(↑p.2.2.1.length:Int))) (P false)) (P false))=fnW Hf (look [(59,Qv),(60,bH)]) Je Try.f23 (p,()) P:=by kernel_rfl
theorem qD (p:Int×ByteArray×List (List Int)×Unit) (xs:List Int) (P:Bool->Prop):(∃(y3:Bool),Je.fn ((p.1,p.2.1,p.2.2.1,()),())=some y3/\Br y3 (∃(y4:Bool),Ko.fn ((↑p.2.2.1.length:Int),xs,())=some y4/\P y4) (P false))=fnW Hf (look [(64,Je),(96,Ko)]) Jl Try.f71 (p,xs,()) P:=by kernel_rfl
theorem qC (p:Int×ByteArray×List (List Int)×Unit) (xs:List Int) (P:Bool->Prop):(∃(y3:Bool),Je.fn ((p.1,p.2.1,p.2.2.1,()),())=some y3/\Br y3 (∃(y4:Int),Vf.fn (p.2.2.1,())=some y4/\ ∃(y5:Bool),Ko.fn (y4,xs,())=some y5/\P y5) (P false))=fnW Hf (look [(23,Je),(123,Ko),(79,Vf)]) Jl Try.f102 (p,xs,()) P:=by kernel_rfl
theorem Arx (p:Int×ByteArray×List (List Int)×Unit) (room:Int) (P:Int->Prop):(Br (decide (IntKind.i64.wrap (room-(↑p.2.1.size:Int))<(0:Int))) (P (-1:Int)) (∃(y3:Int),qh.fn (p.2.2.1,IntKind.i64.wrap (room-(↑p.2.1.size:Int)),())=some y3/\Br (decide (y3<(0:Int))) (P (-1:Int)) (P y3)))=fnW Hf (look [(36,qh)]) yO Try.f11 (p,room,()) P:=by kernel_rfl
theorem Arz (p:Int×ByteArray×List (List Int)×Unit) (P:(Int×ByteArray×List (List Int)×Unit)->Prop):(∃(y2:List (List Int)),qi.fn (p.2.2.1,())=some y2/\P (p.1,p.2.1,y2,()))=fnW Hf (look [(47,qi)]) yP Try.f13 (p,()) P:=by kernel_rfl
theorem Ars (a b:Int×ByteArray×List (List Int)×Unit) (P:Bool->Prop):(Br (a.1 !=b.1) (P false) (Br (!a.2.1.toList==b.2.1.toList) (P false) (∃(y3:Bool),qf.fn (a.2.2.1,b.2.2.1,())=some y3/\Br (!y3) (P false) (P true))))=fnW Hf (look [(56,qf)]) yK Try.f17 (a,b,()) P:=by kernel_rfl
theorem Alw (xs:List Int) (_:True):fnW Hf (look []) Tx Try.f85 (xs,()) (λ(z:Int)=>z=(xs.length:Int)):=Eq.mp (Ams xs _) rfl
theorem gI:Sound Try.prog 85 Tx:=
 Sound.Ho Ez Ce mixed Try.func85 (by kernel_rfl) (by kernel_rfl) λx h=>Alw x.1 h
theorem CT {α:Type} [DecidableEq α]: ∀(l m:List α),l.Nodup->(∀x∈l,x∈m)->l.length<=m.length
 | [],m,_,_=>Iz _
 |a::l,m,hn,hs=>by
  have ha:a∈m:=hs a (Kv ..);have hn:=Cn.1 hn;have:=CT l (m.erase a) hn.2 λx hx=>(List.mem_erase_of_ne (λ(e:x=a)=>hn.1 (by rw [<-e];exact hx))).2 (hs x (At _ hx));rw [List.length_erase_of_mem ha] at this;have:0<m.length:=List.length_pos_of_mem ha;simp only [Aw];omega
def upto (n:Nat):List Int:=(List.range n).map Int.ofNat
theorem w8 (n:Nat):(upto n).Nodup:=by
 unfold upto;exact List.Pairwise.map _ (λa b qU e=>qU (Int.ofNat.inj e)) List.nodup_range
theorem Nd {n:Nat} {x:Int} :x∈upto n↔0<=x/\x<n:=by
 unfold upto;simp only [Bh,Ev]
 constructor
 ·rintro ⟨a,ha,rfl⟩;exact ⟨Int.natCast_nonneg _,Int.ofNat_lt.2 ha⟩
 ·rintro ⟨h1,h2⟩;exact ⟨x.toNat,by omega,by simp only [Int.ofNat_eq_natCast];omega⟩
theorem Uv (n:Nat):(upto n).length=n:=by simp [upto]
theorem jC {xs:List Int} (h: ∀j (hj:j<xs.length),xs[j]∉xs.take j):xs.Nodup:=by
 refine Fu.2 λi j hi hj fU e=>h j hj ?_;rw [<-e];exact List.mem_take_iff_getElem.2 ⟨i,by omega,rfl⟩
theorem w6 {xs:List Int} (h:xs.Nodup): ∀j (hj:j<xs.length),xs[j]∉xs.take j:=by
 intro j hj hm;obtain ⟨i,hi,e⟩:=List.mem_take_iff_getElem.1 hm;exact Fu.1 h i j (by omega) hj (by omega) e
theorem dM {xs:List Int} (h: ∀x∈xs,0<=x/\x<xs.length):(∀k:Nat,k<xs.length->(k:Int)∈xs)↔ ∀j (hj:j<xs.length),xs[j]∉xs.take j:=by
 constructor
 ·intro ha j hj hm
  have h1:=CT (upto xs.length) (xs.take j++xs.drop (j+1)) (w8 _) λx hx=>by
   obtain ⟨h1,h2⟩:=Nd.1 hx;have hx:=ha x.toNat (by omega);rw [show ((x.toNat:Nat):Int)=x by omega] at hx;rw [<-Ip j xs,Be,Ft hj,Bd] at hx;rcases hx with hx|rfl|hx
   ·exact Bo _ hx
   ·exact Bo _ hm
   ·exact Cm _ hx
  rw [Uv,Av,Dx,Zt] at h1;omega
 ·intro hn k hk;refine Bz λhc=>?_
  have h1:=CT xs ((upto xs.length).erase (k:Int)) (jC hn) λx hx=>by
   refine (List.mem_erase_of_ne λ(e:x=(k:Int))=>hc (by rw [<-e];exact hx)).2 (Nd.2 (h x hx))
  rw [List.length_erase_of_mem (Nd.2 ⟨by omega,by omega⟩),Uv] at h1;omega
def mask (xs:List Int):Nat:=xs.foldl (λm x=>m|||2^x.toNat) 0
theorem VP (xs:List Int) (x:Int):mask (xs++ [x])=mask xs|||2^x.toNat:=by simp [mask]
theorem AQ (xs:List Int) (k:Nat): ∀a:Nat,(xs.foldl (λm x=>m|||2^x.toNat) a).testBit k=(a.testBit k||xs.any λx=>decide (x.toNat=k)):=by
 induction xs with
 |nil=>simp
 |cons x xs ih=>
  intro a;rw [Ro,ih,Nat.testBit_or,Nat.testBit_two_pow,List.any_cons,Bool.or_assoc]
theorem uw (xs:List Int) (k:Nat):(mask xs).testBit k=xs.any λx=>decide (x.toNat=k):=by
 unfold mask;rw [AQ,Nat.zero_testBit,bM]
theorem Ag6 {xs:List Int} {n:Nat} (h: ∀x∈xs,x.toNat<n):mask xs<2^n:=by
 refine Nat.lt_pow_two_of_testBit _ λk hk=>?_;rw [uw];refine Bool.eq_false_iff.2 λht=>?_;obtain ⟨x,hx,he⟩:=Eu.1 ht;have:=h x hx;have:=Cx he;omega
theorem yp {xs:List Int} (h: ∀x∈xs,0<=x/\x<xs.length):mask xs=2^xs.length-1↔ ∀k:Nat,k<xs.length->(k:Int)∈xs:=by
 constructor
 ·intro e k hk;have h1:=uw xs k;rw [e,Nat.testBit_two_pow_sub_one,Ci hk] at h1;obtain ⟨x,hx,he⟩:=Eu.1 h1.symm;have:=(h x hx).1;have:=Cx he
  have e:x=(k:Int):=by omega
  exact e▸hx
 ·intro ha;refine Nat.eq_of_testBit_eq λk=>?_;rw [uw,Nat.testBit_two_pow_sub_one]
  by_cases hk:k<xs.length
  ·rw [Ci hk];exact Eu.2 ⟨k,ha k hk,by simp⟩
  ·rw [Ey hk];refine Bool.eq_false_iff.2 λht=>?_;obtain ⟨x,hx,he⟩:=Eu.1 ht;have:=h x hx;have:=Cx he;omega
theorem Aga {m:Nat} {x:Int} (hm:m<2^20) (h0:0<=x) (h1:x<20):
  IntKind.i64.wrap (((BitVec.ofInt IntKind.i64.bits (m:Int)|||BitVec.ofInt IntKind.i64.bits (IntKind.i64.wrap ((1:Int)*(2:Int)^min x.toNat IntKind.i64.bits))).toNat:Nat):Int)=((m|||2^x.toNat:Nat):Int):=by
 have hx:(2:Nat)^x.toNat<2^20:=Nat.pow_lt_pow_right (by omega) (by omega)
 have e1:min x.toNat IntKind.i64.bits=x.toNat:=by show min x.toNat 64=_;omega
 have e2:(1:Int)*(2:Int)^x.toNat=((2^x.toNat:Nat):Int):=by rw [Int.one_mul];exact (Int.natCast_pow 2 _).symm
 rw [e1,e2,Co (n:=((2^x.toNat:Nat):Int)) (by have:(0:Int)<=((2^x.toNat:Nat):Int):=Int.natCast_nonneg _;omega) (by omega)]
 show IntKind.i64.wrap (((BitVec.ofInt 64 (m:Int)|||BitVec.ofInt 64 ((2^x.toNat:Nat):Int)).toNat:Nat):Int)=_
 rw [BitVec.ofInt_natCast,BitVec.ofInt_natCast,BitVec.toNat_or,BitVec.toNat_ofNat,BitVec.toNat_ofNat,Nat.mod_eq_of_lt (by omega),Nat.mod_eq_of_lt (by omega)];have:=Nat.or_lt_two_pow hm hx;exact Co (by omega) (by omega)
theorem BC (p:List Int) (h:short p):fnW Hf (look [(39,Dq),(93,Re)]) Jd Try.f67 (p,()) (λ(z:Bool)=>z=Kz p):=by
 have hs:=h;unfold short at h;refine Eq.mp (DN p _) ⟨_,Ac trivial,⟨λhp=>?_,λhp=>?_⟩⟩
 ·have hp:=Gs hp;rw [Gj] at hp;dsimp only at hp;exact Dp λhh=>hp ⟨by omega,by omega⟩
 ·have hp:=Iv hp;rw [Gj] at hp;dsimp only at hp;refine Bt p.length (λv=>v.1) (λj _=>DL p.length p j) rfl (λj _ hj=>absurd hj (Ea _)) ?_;rintro j ⟨i,⟨⟩⟩ K hj hi hR hK;dsimp only at hi⊢;subst hi;refine Br.dec (λhl=>?_) λhl=>?_
  ·have hl:j<p.length:=by omega
   refine ⟨_,Bu hl,_,Ac trivial,⟨λhq=>?_,λhq=>?_⟩⟩
   ·have hq:=Gs hq;rw [Gj,Co (by omega) (by omega)] at hq;exact Dp λhh=>hq ⟨(hh.2.2 j hl hl).1,(hh.2.2 j hl hl).2.1⟩
   ·have hq:=Iv hq;rw [Gj,Co (by omega) (by omega)] at hq;refine ⟨⟨by omega,by omega,by omega⟩,_,Bu hl,?_⟩;rw [show (Int.toNat 0)=0 from rfl,Cw,Ab];refine ⟨_,Ac (PS hs j),⟨λhc=>?_,λhc=>?_⟩⟩
    ·have hc:decide (p[j]∈p.take j)=true:=hc;rw [Ji] at hc;exact Dp λhh=>(hh.2.2 j hl hl).2.2 hc
    ·have hc:decide (p[j]∈p.take j)=false:=hc;rw [decide_eq_false_iff_not] at hc;rw [Bm (by omega)];exact hK hl _ rfl (Af4 hl hR hq.1 hq.2 hc)
  ·have:j=p.length:=by omega
   subst this;exact Ob ⟨by omega,by omega,hR⟩
theorem Zm:Sound Try.prog 67 Jd:=
 Sound.Ho Ez (Bf a9 (Bf oQ Ce)) mixed Try.func67 (by kernel_rfl) (by kernel_rfl) λx h=>BC x.1 h
theorem AY (p:List Int) (h:short p):fnW Hf (look [(49,Dq),(85,Tx)]) Jd Try.f62 (p,()) (λ(z:Bool)=>z=Kz p):=by
 unfold short at h;refine Eq.mp (DH p _) ⟨_,Ac trivial,_,Ac trivial,⟨λhp=>?_,λhp=>?_⟩⟩
 ·have hp:=Gs hp;rw [Gj] at hp;dsimp only at hp;exact Dp λhh=>hp ⟨by omega,by omega⟩
 ·have hp:=Iv hp;rw [Gj] at hp;dsimp only at hp;refine Bt p.length (λv=>v.2.1) (λj v=>v.1=(mask (p.take j):Int)/\ ∀x∈p.take j,0<=x/\x<p.length) rfl ⟨rfl,by simp⟩ ?_;rintro j ⟨m,i,⟨⟩⟩ K hj hi ⟨hm,hR⟩ hK;dsimp only at hi hm⊢;subst hi hm;refine Br.dec (λhl=>?_) λhl=>?_
  ·have hl:j<p.length:=by omega
   refine ⟨_,Bu hl,_,Ac trivial,_,Ac trivial,⟨λhq=>?_,λhq=>?_⟩⟩
   ·have hq:=Gs hq;rw [Gj] at hq;dsimp only at hq;rw [Co (by omega) (by omega)] at hq;exact Dp λhh=>hq ⟨(hh.2.2 j hl hl).1,(hh.2.2 j hl hl).2.1⟩
   ·have hq:=Iv hq;rw [Gj] at hq;dsimp only at hq;rw [Co (by omega) (by omega)] at hq;refine ⟨by omega,?_⟩;rw [Bm (by omega)]
    have hb:mask (p.take j)<2^20:=Ag6 λx hx=>by have:=hR x hx;omega
    refine hK hl _ rfl ⟨?_,?_⟩
    ·dsimp only;rw [Aga hb hq.1 (by omega),Cg hl,VP]
    ·rw [Cg hl];intro x hx;rcases Be.1 hx with hx|hx
     ·exact hR x hx
     ·rw [Af.1 hx];omega
  ·have:j=p.length:=by omega
   subst this;rw [Az] at hR⊢;refine ⟨by omega,?_⟩;have hx:(2:Nat)^p.length<=2^20:=Nat.pow_le_pow_right (by omega) (by omega);have mH:0<(2:Nat)^p.length:=Nat.two_pow_pos _
   have e1:min (p.length:Int).toNat IntKind.i64.bits=p.length:=by show min (p.length:Int).toNat 64=_;omega
   have e2:(1:Int)*(2:Int)^p.length=((2^p.length:Nat):Int):=by rw [Int.one_mul];exact (Int.natCast_pow 2 _).symm
   rw [e1,e2,Co (n:=((2^p.length:Nat):Int)) (by omega) (by omega),Co (by omega) (by omega)]
   have hE:((mask p:Int)==((2^p.length:Nat):Int)-1)=decide (mask p=2^p.length-1):=by
    rw [Bool.eq_iff_iff,beq_iff_eq,Ji];omega
   show ((mask p:Int)==((2^p.length:Nat):Int)-1)=Kz p;rw [hE]
   by_cases hf:mask p=2^p.length-1
   ·rw [Ci hf];have hn:=(dM hR).1 ((yp hR).1 hf);refine Ob ⟨by omega,by omega,λj hj _=>?_⟩;have:=hR _ (Ah hj);exact ⟨this.1,by omega,hn j hj⟩
   ·rw [Ey hf];refine Dp λhh=>hf ((yp hR).2 ((dM hR).2 λj hj=>(hh.2.2 j hj hj).2.2))
theorem fk:Sound Try.prog 62 Jd:=
 Sound.Ho Ez (Bf Tn (Bf gI Ce)) mixed Try.func62 (by kernel_rfl) (by kernel_rfl) λx h=>AY x.1 h
theorem BB (n:Int) (g:List (List Int)) (h:Kw g):fnW Hf (look [(39,Dq),(67,Jd)]) Qv Try.f34 (n,g,()) (λ(z:Bool)=>z=an n g):=by
 obtain ⟨h,h4⟩:=h;refine Eq.mp (DM n g _) ⟨_,Ac trivial,⟨λhp=>?_,λhp=>?_⟩⟩
 ·have hp:=Gs hp;rw [Gj] at hp;exact Dp λhh=>hp hh.1
 ·have hp:=Iv hp;rw [Gj] at hp;refine Br.dec (λhg=>?_) λhg=>?_
  ·exact Dp λhh=>by have:=hh.2.1;omega
  ·refine Bt g.length (λv=>v.1) (λj _=> ∀p∈g.take j,Ix n p=true) rfl (by simp) ?_;rintro j ⟨i,⟨⟩⟩ K hj hi hR hK;dsimp only at hi⊢;subst hi;refine Br.dec (λhl=>?_) λhl=>?_
   ·have hl:j<g.length:=by omega
    have hm:g[j]∈g:=Ah hl;refine ⟨_,Bu hl,⟨λhe=>?_,λhe=>?_⟩⟩
    ·simp only [bne_iff_ne,ne_eq] at he;exact Dp λhh=>he (Ib.1 (hh.2.2 _ hm)).1
    ·simp only [Oa] at he;refine ⟨_,Bu hl,_,Ac (h4 _ hm),⟨λhq=>?_,λhq=>?_⟩⟩
     ·have hq:=Gs hq;exact Dp λhh=>hq (Ib.1 (hh.2.2 _ hm)).2
     ·have hq:=Iv hq;rw [Bm (by omega)];refine hK hl _ rfl ?_;rw [Cg hl];intro x hx;rcases Be.1 hx with hx|hx
      ·exact hR x hx
      ·rw [Af.1 hx];exact Ib.2 ⟨he,hq⟩
   ·have:j=g.length:=by omega
    subst this;rw [Az] at hR;exact Ob ⟨hp,by omega,hR⟩
theorem qo:Sound Try.prog 34 Qv:=
 Sound.Ho Ez (Bf a9 (Bf Zm Ce)) mixed Try.func34 (by kernel_rfl) (by kernel_rfl) λx h=>BB x.1 x.2.1 h
theorem Agd (p:List Int) (n:Int) (h:short p):fnW Hf (look [(85,Tx),(62,Jd)]) kT Try.f84 (p,n,()) (λ(z:Bool)=>z=!Ix n p):=by
 refine Eq.mp (Ah6 p n _) ⟨_,Ac trivial,⟨λhe=>?_,λhe=>⟨_,Ac h,?_⟩⟩⟩
 ·simp only [bne_iff_ne,ne_eq] at he;have:Ix n p=false:=Af2.2 λhh=>he hh.1;rw [this];rfl
 ·simp only [Oa] at he;show (!Kz p)=_
  congr 1
  cases hp:Kz p with
  |true=>exact Ob ⟨he,hp⟩
  |false=>exact Dp λhh=>by rw [hh.2] at hp;cases hp
theorem JG:Sound Try.prog 84 kT:=
 Sound.Ho Ez (Bf gI (Bf fk Ce)) mixed Try.func84 (by kernel_rfl) (by kernel_rfl) λx h=>Agd x.1 x.2.1 h
theorem ri {α:Type} (P:α->Bool): ∀(l:List α) (i:Int),0<=i->(0<=Ik P l i↔l.any P=true)
 | [],i,_=>by simp [Ik]
 |y::r,i,h=>by
  simp only [Ik,List.any_cons,Kx];split
  ·rename_i hy;simp [hy,h]
  ·rename_i hy;rw [ri P r (i+1) (by omega)];simp [hy]
theorem Ar9 (g:List (List Int)) (n:Int×Unit) (h:Kw g):fnW Hf (look [(84,kT)]) yM Try.f106 (g,n,()) (λ(z:Int)=>z=Ik (λp=>!Ix n.1 p) g 0):=by
 obtain ⟨h,h4⟩:=h;refine Eq.mp (Aru g n _) ?_;refine Bt g.length (λv=>v.1) (λj _=>Ik (λp=>!Ix n.1 p) (g.drop j) j=Ik (λp=>!Ix n.1 p) g 0) rfl (by simp) ?_;rintro j ⟨i,⟨⟩⟩ K hj hi hR hK;dsimp only at hi⊢;subst hi;refine Br.dec (λhl=>?_) λhl=>?_
 ·have hl:j<g.length:=by omega
  rw [Ft hl] at hR;simp only [Ik] at hR;refine ⟨_,Bu hl,_,Ac (h4 _ (Ah hl)),⟨λhe=>?_,λhe=>?_⟩⟩
  ·have he:(!Ix n.1 g[j])=true:=he;rw [Ac he] at hR;exact hR
  ·have he:(!Ix n.1 g[j])=false:=he;rw [Ai (by rw [he];decide)] at hR;rw [Bm (by omega)];exact hK hl _ rfl (by push_cast;exact hR)
 ·have:j=g.length:=by omega
  subst this;rw [Zr] at hR;exact hR
theorem XB:Sound Try.prog 106 yM:=
 Sound.Ho Ez (Bf JG Ce) mixed Try.func106 (by kernel_rfl) (by kernel_rfl) λx h=>Ar9 x.1 x.2.1 h
theorem Ar5 (g:List (List Int)) (n:Int×Unit) (h:Kw g):fnW Hf (look [(106,yM)]) yJ Try.f83 (g,n,()) (λ(z:Bool)=>z=List.any g (λp=>!Ix n.1 p)):=by
 refine Eq.mp (Arq g n _) ⟨_,Ac h,?_⟩;rw [Bool.eq_iff_iff,Ji];exact ri _ g 0 (Ku 0)
theorem WY:Sound Try.prog 83 yJ:=
 Sound.Ho Ez (Bf XB Ce) mixed Try.func83 (by kernel_rfl) (by kernel_rfl) λx h=>Ar5 x.1 x.2.1 h
theorem AX (n:Int) (g:List (List Int)) (h:Kw g):fnW Hf (look [(49,Dq),(83,yJ)]) Qv Try.f59 (n,g,()) (λ(z:Bool)=>z=an n g):=by
 refine Eq.mp (DG n g _) ⟨_,Ac trivial,⟨λhp=>?_,λhp=>?_⟩⟩
 ·have hp:Lc n 1 20=true:=hp;rw [Gj] at hp;refine Br.dec (λhl=>⟨_,Ac h,?_⟩) λhl=>?_
  ·show (!List.any g (λp=>!Ix n p))=an n g
   cases ha:List.any g (λp=>!Ix n p) with
   |true=>
    obtain ⟨p,xZ,SI⟩:=Eu.1 ha
    exact Dp λhh=>by rw [hh.2.2 p xZ] at SI;cases SI
   |false=>
    refine Ob ⟨hp,by omega,λp hm=>?_⟩;have:=List.any_eq_false.1 ha p hm;simpa using this
  ·exact Dp λhh=>by have:=hh.2.1;omega
 ·refine Dp λhh=>?_;have:Lc n 1 20=true:=Gj.2 hh.1;have hp:Lc n 1 20=false:=hp;rw [this] at hp;cases hp
theorem ql:Sound Try.prog 59 Qv:=
 Sound.Ho Ez (Bf Tn (Bf WY Ce)) mixed Try.func59 (by kernel_rfl) (by kernel_rfl) λx h=>AX x.1 x.2.1 h
theorem Nj {s:ByteArray} {k:Nat} (h:k<s.size):s[k]?=some s[k]:=getElem?_pos s k h
theorem Ac4 (s:ByteArray) (i:Int) (h:0<=i/\i<s.size/\s.size<=4294967296):fnW Hf (look []) ff Try.f90 (s,i,()) (λ(z:Bool)=>z=ov s i):=by
 obtain ⟨h1,h2,h3⟩:=h
 have hi:i.toNat<s.size:=by omega
 refine Eq.mp (Adt s i _) ⟨h1,_,Nj hi,Br.dec (λhq=>?_) λhq=>⟨h1,_,Nj hi,Br.dec (λhr=>?_) λhr=>?_⟩⟩
 ·refine Dp λ⟨c,hc,FZ,_⟩=>?_;rw [Nj hi] at hc;cases hc;omega
 ·refine Dp λ⟨c,hc,_,FZ,_⟩=>?_;rw [Nj hi] at hc;cases hc;omega
 ·refine Bt i.toNat (λv=>v.1) (λj _=> ∀k,k<j->s[k]?≠some s[i.toNat]) rfl (λk hk=>absurd hk (Ea _)) ?_;rintro j ⟨i',⟨⟩⟩ K hj cO hR hK;dsimp only at cO⊢;subst cO;refine Br.dec (λhl=>?_) λhl=>?_
  ·have hl:j<i.toNat:=by omega
   have hj:j<s.size:=by omega
   rw [Ab];refine ⟨by omega,_,Nj hj,h1,_,Nj hi,⟨λhe=>?_,λhe=>?_⟩⟩
   ·simp only [beq_iff_eq,Mj] at he;refine Dp λ⟨c,hc,_,_,FZ⟩=>?_;rw [Nj hi] at hc;cases hc;exact FZ j hl (by rw [Nj hj,UInt8.toNat_inj.1 he])
   ·simp only [Yi,ne_eq,Mj] at he;rw [Bm (by omega)];refine hK hl _ rfl λk hk=>?_
    by_cases e:k=j
    ·subst e;rw [Nj hj];exact λe=>he (by rw [Bi e])
    ·exact hR k (by omega)
  ·have:j=i.toNat:=by omega
   subst this;exact Ob ⟨_,Nj hi,by omega,by omega,hR⟩
theorem CE:Sound Try.prog 90 ff:=
 Sound.Ho Ez Ce mixed Try.func90 (by kernel_rfl) (by kernel_rfl) λx h=>Ac4 x.1 x.2.1 h
theorem WC (s:ByteArray) (h:s.size<=4294967296):fnW Hf (look [(49,Dq)]) bH Try.f60 (s,()) (λ(z:Bool)=>z=eW s):=by
 refine Eq.mp (XV s _) ?_;refine Bt s.size (λv=>v.1) (λj _=> ∀k,k<j->zc s k) rfl (λk hk=>absurd hk (Ea _)) ?_;rintro j ⟨i,⟨⟩⟩ K hj hi hR hK;dsimp only at hi⊢;subst hi;refine Br.dec (λhl=>?_) λhl=>?_
 ·have hl:j<s.size:=by omega
  rw [Ab];have hb:=(s[j]).toNat_lt;refine ⟨by omega,_,Nj hl,_,Ac trivial,⟨λhq=>?_,λhq=>?_⟩⟩
  ·have hq:=Gs hq;rw [Gj] at hq;dsimp only at hq;rw [Co (by omega) (by omega)] at hq;refine Dp λhh=>?_;obtain ⟨c,hc,FZ,hc2,_⟩:=hh.2 j hl;rw [Nj hl] at hc;cases hc;exact hq ⟨by omega,by omega⟩
  ·have hq:=Iv hq;rw [Gj] at hq;dsimp only at hq;rw [Co (by omega) (by omega)] at hq;refine Bt j (λv=>v.1) (λm _=> ∀k,k<m->s[k]?≠some s[j]) rfl (λk hk=>absurd hk (Ea _)) ?_;rintro m ⟨i',⟨⟩⟩ K' hm cO hR' hK';dsimp only at cO⊢;subst cO;refine Br.dec (λMr=>?_) λMr=>?_
   ·have Mr:m<j:=by omega
    have hm':m<s.size:=by omega
    rw [Ab];refine ⟨by omega,_,Nj hm',by omega,_,Nj hl,⟨λhe=>?_,λhe=>?_⟩⟩
    ·simp only [beq_iff_eq,Mj] at he;refine Dp λhh=>?_;obtain ⟨c,hc,_,_,FZ⟩:=hh.2 j hl;rw [Nj hl] at hc;cases hc;exact FZ m Mr (by rw [Nj hm',UInt8.toNat_inj.1 he])
    ·simp only [Yi,ne_eq,Mj] at he;rw [Bm (by omega)];refine hK' Mr _ rfl λk hk=>?_
     by_cases e:k=m
     ·subst e;rw [Nj hm'];exact λe=>he (by rw [Bi e])
     ·exact hR' k (by omega)
   ·have:m=j:=by omega
    subst this;rw [Bm (by omega)];refine hK hl _ rfl λk hk=>?_
    by_cases e:k=m
    ·subst e;exact ⟨_,Nj hl,by omega,by omega,hR'⟩
    ·exact hR k (by omega)
 ·have:j=s.size:=by omega
  subst this;refine ⟨_,Ac trivial,?_⟩;show Lc s.size 1 8=_
  cases hr:Lc s.size 1 8 with
  |true=>rw [Gj] at hr;exact Ob ⟨by omega,hR⟩
  |false=>refine Dp λhh=>?_;rw [Gj.2 ⟨by omega,by omega⟩] at hr;cases hr
theorem xh:Sound Try.prog 60 bH:=
 Sound.Ho Ez (Bf Tn Ce) mixed Try.func60 (by kernel_rfl) (by kernel_rfl) λx h=>WC x.1 h
theorem QO {p:PP} (h:Da p=true):1<=p.1/\p.1<=20/\1<=p.2.2.1.length/\p.2.2.1.length<=8:=by
 obtain ⟨h1,h2,h3⟩:=Ib.1 h;obtain ⟨h4,h5,_⟩:=Ib.1 h1;obtain ⟨h6,_⟩:=Ib.1 h2;omega
theorem BD (p:PP) (h:Fo p):fnW Hf (look [(34,Qv),(90,ff)]) Je Try.f64 (p,()) (λ(z:Bool)=>z=Da p):=by
 obtain ⟨hn,hg⟩:=h;refine Eq.mp (DO p _) ⟨λh0=>?_,λh0=>⟨λh1=>?_,λh1=>⟨_,Ac hg,⟨λh2=>?_,λh2=>?_⟩⟩⟩⟩
 ·simp only [beq_iff_eq] at h0
  exact Dp λhh=>by obtain ⟨_,h2,h3⟩:=hh;have:=(Ib.1 h2).1;omega
 ·simp only [bne_iff_ne,ne_eq,Mj] at h1;exact Dp λhh=>h1 hh.2.2
 ·have h2:=Gs h2;exact Dp λhh=>h2 hh.1
 ·simp only [Yi,ne_eq] at h0;simp only [Oa,Mj] at h1;have h2:an p.1 p.2.2.1=true:=Iv h2;refine Bt p.2.1.size (λv=>v.1) (λj v=>v.2=(p.1,p.2.1,p.2.2.1,())/\ ∀k,k<j->zc p.2.1 k) rfl ⟨rfl,λk hk=>absurd hk (Ea _)⟩ ?_;rintro j ⟨i,v⟩ K hj hi ⟨hv,hR⟩ hK;dsimp only at hi hv⊢;subst hi hv;dsimp only;refine Br.dec (λhl=>?_) λhl=>?_
  ·have hl:j<p.2.1.size:=by omega
   refine ⟨_,Ac ⟨Int.natCast_nonneg j,Int.ofNat_lt.2 hl,hn⟩,⟨λhq=>?_,λhq=>?_⟩⟩
   ·have hq: ¬ov p.2.1 j=true:=Gs hq;refine Dp λhh=>hq (Ib.2 ?_);rw [Ab];exact (Ib.1 hh.2.1).2 j hl
   ·have hq:ov p.2.1 j=true:=Iv hq;have hq:=Ib.1 hq;rw [Ab] at hq;rw [Bm (by omega)];refine hK hl _ rfl ⟨rfl,λk hk=>?_⟩
    by_cases e:k=j
    ·subst e;exact hq
    ·exact hR k (by omega)
  ·have:j=p.2.1.size:=by omega
   subst this;have:=(Ib.1 h2).2.1;exact Ob ⟨h2,Ib.2 ⟨⟨by omega,by omega⟩,hR⟩,h1⟩
theorem Zn:Sound Try.prog 64 Je:=
 Sound.Ho Ez (Bf qo (Bf CE Ce)) mixed Try.func64 (by kernel_rfl) (by kernel_rfl) λx h=>BD x.1 h
theorem AZ (p:PP) (h:Fo p):fnW Hf (look [(59,Qv),(60,bH)]) Je Try.f23 (p,()) (λ(z:Bool)=>z=Da p):=by
 obtain ⟨hn,hg⟩:=h;refine Eq.mp (DJ p _) ⟨_,Ac hg,⟨λh1=>⟨_,Ac hn,⟨λh2=>?_,λh2=>?_⟩⟩,λh1=>?_⟩⟩
 ·have h1:an p.1 p.2.2.1=true:=h1;have h2:eW p.2.1=true:=h2
  by_cases e:p.2.1.size=p.2.2.1.length
  ·rw [e,beq_self_eq_true];exact Ob ⟨h1,h2,e⟩
  ·rw [show ((p.2.1.size:Int)==(p.2.2.1.length:Int))=false from Yi.2 (by omega)];exact Dp λhh=>e hh.2.2
 ·have h2:eW p.2.1=false:=h2
  exact Dp λhh=>by rw [hh.2.1] at h2;cases h2
 ·have h1:an p.1 p.2.2.1=false:=h1
  exact Dp λhh=>by rw [hh.1] at h1;cases h1
theorem fm:Sound Try.prog 23 Je:=
 Sound.Ho Ez (Bf ql (Bf xh Ce)) mixed Try.func23 (by kernel_rfl) (by kernel_rfl) λx h=>AZ x.1 h
theorem sw {a b:Bool} :(a&&b)=dec (a=true/\b=true):=by
 cases ha:a<;>cases hb:b
 ·exact Dp (by simp)
 ·exact Dp (by simp)
 ·exact Dp (by simp)
 ·exact Ob ⟨rfl,rfl⟩
theorem q9 (p:PP) (xs:List Int) (h:Fo p/\short xs):fnW Hf (look [(64,Je),(96,Ko)]) Jl Try.f71 (p,xs,()) (λ(z:Bool)=>z=Dg p xs):=by
 refine Eq.mp (qD p xs _) ⟨_,Ac h.1,⟨λh1=>⟨_,Ac ⟨⟨by omega,by have:=h.1.2.1;dsimp only;omega⟩,h.2⟩,?_⟩,λh1=>?_⟩⟩
 ·have h1:Da p=true:=h1;show Sp p.2.2.1.length xs=_;rw [Dg,<-sw,h1,Ta]
 ·have h1:Da p=false:=h1;rw [Dg,<-sw,h1,Zq]
theorem jY:Sound Try.prog 71 Jl:=
 Sound.Ho Ez (Bf Zn (Bf oR Ce)) mixed Try.func71 (by kernel_rfl) (by kernel_rfl) λx h=>q9 x.1 x.2.1 h
theorem q8 (p:PP) (xs:List Int) (h:Fo p/\short xs):fnW Hf (look [(23,Je),(123,Ko),(79,Vf)]) Jl Try.f102 (p,xs,()) (λ(z:Bool)=>z=Dg p xs):=by
 refine Eq.mp (qC p xs _) ⟨_,Ac h.1,⟨λh1=>⟨_,Ac trivial,_,Ac ⟨⟨by dsimp only;omega,by have:=h.1.2.1;dsimp only;omega⟩,h.2⟩,?_⟩,λh1=>?_⟩⟩
 ·have h1:Da p=true:=h1;show Sp p.2.2.1.length xs=_;rw [Dg,<-sw,h1,Ta]
 ·have h1:Da p=false:=h1;rw [Dg,<-sw,h1,Zq]
theorem jW:Sound Try.prog 102 Jl:=
 Sound.Ho Ez (Bf fm (Bf sn (Bf jX Ce))) mixed Try.func102 (by kernel_rfl) (by kernel_rfl) λx h=>q8 x.1 x.2.1 h
theorem Arc (p:PP) (room:Int) (h:Fo p/\roomy room):fnW Hf (look [(36,qh)]) yO Try.f11 (p,room,()) (λ(z:Int)=>z=jA p room):=by
 obtain ⟨⟨h1,h2⟩,h3,h4⟩:=h;refine Eq.mp (Arx p room _) ?_;rw [Co (by omega) (by omega)]
 refine Br.dec (λhn=>?_) λhn=>⟨_,Ac ⟨h2,by dsimp only;omega,by dsimp only;omega⟩,Br.dec (λhm=>?_) λhm=>?_⟩
 ·simp only [jA,Ac hn]
 ·exact ((Ai hn).trans (Ac hm)).symm
 ·exact ((Ai hn).trans (Ai hm)).symm
theorem XE:Sound Try.prog 11 yO:=
 Sound.Ho Ez (Bf QD Ce) mixed Try.func11 (by kernel_rfl) (by kernel_rfl) λx h=>Arc x.1 x.2.1 h
theorem Are (p:PP) (h:Fo p):fnW Hf (look [(47,qi)]) yP Try.f13 (p,()) (λ(z:PP)=>z=p):=Eq.mp (Arz p _) ⟨_,Ac h.2,rfl⟩
theorem XF:Sound Try.prog 13 yP:=
 Sound.Ho Ez (Bf QE Ce) mixed Try.func13 (by kernel_rfl) (by kernel_rfl) λx h=>Are x.1 h
theorem EV {a b:ByteArray} :(a.toList==b.toList)=decide (a=b):=by
 rw [Bool.eq_iff_iff,beq_iff_eq,Ji,ByteArray.toList_eq,ByteArray.toList_eq];exact ⟨λh=>ByteArray.ext (Array.toList_inj.1 h),λh=>by rw [h]⟩
theorem Ar7 (a b:PP) (h:Fo a):fnW Hf (look [(56,qf)]) yK Try.f17 (a,b,()) (λ(z:Bool)=>z=rh a b):=by
 refine Eq.mp (Ars a b _) ⟨λh1=>?_,λh1=>⟨λh2=>?_,λh2=>⟨_,Ac h.2,⟨λh3=>?_,λh3=>?_⟩⟩⟩⟩
 ·simp only [bne_iff_ne,ne_eq] at h1;unfold rh;rw [Ey h1];rfl
 ·rw [EV] at h2;unfold rh
  cases hd:decide (a.2.1=b.2.1)<;>simp_all
 ·have h3:(!pP a.2.2.1 b.2.2.1)=true:=h3;simp only [pP,Fy] at h3;unfold rh;rw [h3];simp
 ·have h3:(!pP a.2.2.1 b.2.2.1)=false:=h3;rw [EV] at h2;simp only [pP] at h3;simp only [Oa] at h1;unfold rh
  simp_all
theorem WZ:Sound Try.prog 17 yK:=
 Sound.Ho Ez (Bf PY Ce) mixed Try.func17 (by kernel_rfl) (by kernel_rfl) λx h=>Ar7 x.1 x.2.1 h
theorem NZ (p:PP):rh p p=true:=by simp [rh]
noncomputable abbrev fg:Spec:=Ho (.pair tI (.pair tL .unit)) .bool false true (λx=>short x.2.1) (λx=>Ix x.1 x.2.1)
noncomputable abbrev Ze:Spec:=Ho (.pair Gi (.pair tL .unit)) .bool false true (λx=>short x.2.1) (λx=>Ix x.1.1 x.2.1)
noncomputable abbrev bJ:Spec:=Ho (.pair Gi (.pair tL .unit)) .bool false true (λx=>Fo x.1/\short x.2.1) (λx=>Da x.1&&Ix x.1.1 x.2.1)
theorem Adv (n:Int) (s:List Int) (P:Bool->Prop):(Br ((↑s.length:Int)==n) (∃(y3:Bool),Jd.fn (s,())=some y3/\P y3) (P false))=fnW Hf (look [(67,Jd)]) fg Try.f97 (n,s,()) P:=by kernel_rfl
theorem wb (p:Int×ByteArray×List (List Int)×Unit) (s:List Int) (P:Bool->Prop):(∃(y3:Int),Tx.fn (s,())=some y3/\Br (y3==p.1) (∃(y4:Bool),Jd.fn (s,())=some y4/\P y4) (P false))=fnW Hf (look [(85,Tx),(62,Jd)]) Ze Try.f80 (p,s,()) P:=by kernel_rfl
theorem xC (p:Int×ByteArray×List (List Int)×Unit) (s:List Int) (P:Bool->Prop):(∃(y3:Bool),Je.fn ((p.1,p.2.1,p.2.2.1,()),())=some y3/\Br y3 (∃(y4:Bool),fg.fn (p.1,s,())=some y4/\P y4) (P false))=fnW Hf (look [(64,Je),(97,fg)]) bJ Try.f73 (p,s,()) P:=by kernel_rfl
theorem Ac6 (n:Int) (s:List Int) (h:short s):fnW Hf (look [(67,Jd)]) fg Try.f97 (n,s,()) (λ(z:Bool)=>z=Ix n s):=by
 refine Eq.mp (Adv n s _) ⟨λhe=>⟨_,Ac h,?_⟩,λhe=>?_⟩
 ·simp only [beq_iff_eq] at he;show Kz s=_
  cases hp:Kz s with
  |true=>exact Ob ⟨he,hp⟩
  |false=>exact Dp λhh=>by rw [hh.2] at hp;cases hp
 ·simp only [Yi,ne_eq] at he;exact Dp λhh=>he hh.1
theorem CG:Sound Try.prog 97 fg:=
 Sound.Ho Ez (Bf Zm Ce) mixed Try.func97 (by kernel_rfl) (by kernel_rfl) λx h=>Ac6 x.1 x.2.1 h
theorem uM (p:PP) (s:List Int) (h:short s):fnW Hf (look [(85,Tx),(62,Jd)]) Ze Try.f80 (p,s,()) (λ(z:Bool)=>z=Ix p.1 s):=by
 refine Eq.mp (wb p s _) ⟨_,Ac trivial,⟨λhe=>⟨_,Ac h,?_⟩,λhe=>?_⟩⟩
 ·simp only [beq_iff_eq] at he;show Kz s=_
  cases hp:Kz s with
  |true=>exact Ob ⟨he,hp⟩
  |false=>exact Dp λhh=>by rw [hh.2] at hp;cases hp
 ·simp only [Yi,ne_eq] at he;exact Dp λhh=>he hh.1
theorem nh:Sound Try.prog 80 Ze:=
 Sound.Ho Ez (Bf gI (Bf fk Ce)) mixed Try.func80 (by kernel_rfl) (by kernel_rfl) λx h=>uM x.1 x.2.1 h
theorem x5 (p:PP) (s:List Int) (h:Fo p/\short s):fnW Hf (look [(64,Je),(97,fg)]) bJ Try.f73 (p,s,()) (λ(z:Bool)=>z=(Da p&&Ix p.1 s)):=by
 refine Eq.mp (xC p s _) ⟨_,Ac h.1,⟨λhe=>⟨_,Ac h.2,?_⟩,λhe=>?_⟩⟩
 ·have he:Da p=true:=he;rw [he];rfl
 ·have he:Da p=false:=he;rw [he];rfl
theorem oT:Sound Try.prog 73 bJ:=
 Sound.Ho Ez (Bf Zn (Bf CG Ce)) mixed Try.func73 (by kernel_rfl) (by kernel_rfl) λx h=>x5 x.1 x.2.1 h
def Ef (xs:List Int) (i:Int):Int:=xs.getD i.toNat 0
def Am (p q:List Int):List Int:=p.map (Ef q)
def df (f:Nat->Nat) (g:Nat->Int) (m:Nat) (init:List Int):List Int:=(List.range m).foldl (λ(out:List Int) (i:Nat)=>out.set (f i) (g i)) init
def Cc (p:List Int):List Int:=df (λi=>(Ef p (i:Int)).toNat) (λi=>(i:Int)) p.length (List.replicate p.length 0)
def Yd (n:Nat) (p:List Int):Prop:= ∀y∈p,0<=y/\y<n
noncomputable abbrev bF:Spec:=Ho (.pair tL (.pair tL .unit)) tL false true (λx=>List.length x.1<=20/\Yd (List.length x.2.1) x.1) (λx=>Am x.1 x.2.1)
noncomputable abbrev Jb:Spec:=Ho (.pair tL .unit) tL false true (λx=>List.length x.1<=20/\Yd (List.length x.1) x.1) (λx=>Cc x.1)
noncomputable abbrev Fg:Spec:=Ho (.pair tI .unit) tL false true (λx=>0<=x.1/\x.1<=20) (λx=>upto x.1.toNat)
noncomputable abbrev Rh:Spec:=Ho (.pair tL .unit) tL false true (λx=>Kz x.1=true) (λx=>Cc x.1)
def Ax (g:List (List Int)) (l:Int):List Int:=if l>0 then g.getD (l-1).toNat [] else Cc (g.getD (-l-1).toNat [])
def Ie (n:Int) (l:Int):Prop:=l≠0/\ -n<=l/\l<=n
noncomputable abbrev Zf:Spec:=Ho (.pair kh (.pair tI .unit)) tL false false (λx=>Ie (List.length x.1) x.2.1/\List.length x.1<=8/\ ∀p∈x.1,Kz p=true) (λx=>Ax x.1 x.2.1)
def Aq (n:Nat):List Int:=(List.range n).flatMap λ(k:Nat)=> [(k:Int)+1,-((k:Int)+1)]
noncomputable abbrev Ki:Spec:=Ho (.pair tI .unit) tL false true (λx=>0<=x.1/\x.1<=8) (λx=>Aq x.1.toNat)
noncomputable abbrev Qu:Spec:=Ho (.pair Gi (.pair tL (.pair tI .unit))) tL false true (λx=>Da x.1=true/\List.length x.2.1<=20/\(∀y∈x.2.1,0<=y/\y<x.1.1)/\Ie (List.length x.1.2.2.1) x.2.2.1) (λx=>Am x.2.1 (Ax x.1.2.2.1 x.2.2.1))
theorem xy (p q:List Int) (P:List Int->Prop):(((0:Int)<=(↑p.length:Int)/\(↑p.length:Int)<(↑Db:Int)+(1:Int))/\(↑p.length:Int)=(↑p.length:Int)/\0=0/\(List.replicate (↑p.length:Int).toNat (Int.ofNat (nat_lit 0))).length=(List.replicate (↑p.length:Int).toNat (Int.ofNat (nat_lit 0))).length/\Dh (λ(v3:Int×List Int×PUnit) (k4:Int×List Int×PUnit->Prop)=>Br (decide (v3.1<(↑p.length:Int))) (∃(y5:Int),idx p v3.1=some y5/\ ∃(y6:Int),idx q y5=some y6/\((0:Int)<=v3.1/\v3.1<(↑v3.2.1.length:Int))/\0+v3.1.toNat<v3.2.1.length/\0=0/\v3.2.1.length=(v3.2.1.set (0+v3.1.toNat) y6).length/\k4 (IntKind.i64.wrap (v3.1+(1:Int)),v3.2.1.set (0+v3.1.toNat) y6,())) (P (List.take v3.2.1.length (List.drop 0 v3.2.1)))) ((0:Int),List.replicate (↑p.length:Int).toNat (Int.ofNat (nat_lit 0)),PUnit.unit))=fnW Hf (look []) bF Try.f86 (p,q,()) P:=by kernel_rfl
theorem xz (p:List Int) (P:List Int->Prop):(((0:Int)<=(↑p.length:Int)/\(↑p.length:Int)<(↑Db:Int)+(1:Int))/\(↑p.length:Int)=(↑p.length:Int)/\0=0/\(List.replicate (↑p.length:Int).toNat (Int.ofNat (nat_lit 0))).length=(List.replicate (↑p.length:Int).toNat (Int.ofNat (nat_lit 0))).length/\Dh (λ(v2:Int×List Int×PUnit) (k3:Int×List Int×PUnit->Prop)=>Br (decide (v2.1<(↑p.length:Int))) (∃(y4:Int),idx p v2.1=some y4/\((0:Int)<=y4/\y4<(↑v2.2.1.length:Int))/\0+y4.toNat<v2.2.1.length/\0=0/\v2.2.1.length=(v2.2.1.set (0+y4.toNat) v2.1).length/\k3 (IntKind.i64.wrap (v2.1+(1:Int)),v2.2.1.set (0+y4.toNat) v2.1,())) (P (List.take v2.2.1.length (List.drop 0 v2.2.1)))) ((0:Int),List.replicate (↑p.length:Int).toNat (Int.ofNat (nat_lit 0)),PUnit.unit))=fnW Hf (look []) Jb Try.f107 (p,()) P:=by kernel_rfl
theorem YB (p:List Int) (P:List Int->Prop):(((0:Int)<=(↑p.length:Int)/\(↑p.length:Int)<(↑Db:Int)+(1:Int))/\(↑p.length:Int)=(↑p.length:Int)/\0=0/\(List.replicate (↑p.length:Int).toNat (Int.ofNat (nat_lit 0))).length=(List.replicate (↑p.length:Int).toNat (Int.ofNat (nat_lit 0))).length/\Dh (λ(v2:Int×List Int×PUnit) (k3:Int×List Int×PUnit->Prop)=>Br (decide (v2.1<(↑p.length:Int))) (∃(y4:Int),idx p v2.1=some y4/\((0:Int)<=y4/\y4<(↑v2.2.1.length:Int))/\0+y4.toNat<v2.2.1.length/\0=0/\v2.2.1.length=(v2.2.1.set (0+y4.toNat) v2.1).length/\k3 (IntKind.i64.wrap (v2.1+(1:Int)),v2.2.1.set (0+y4.toNat) v2.1,())) (P (List.take v2.2.1.length (List.drop 0 v2.2.1)))) ((0:Int),List.replicate (↑p.length:Int).toNat (Int.ofNat (nat_lit 0)),PUnit.unit))=fnW Hf (look []) Jb Try.f120 (p,()) P:=by kernel_rfl
theorem xB (p:List Int) (P:List Int->Prop):(∃(y2:Bool),Jd.fn (p,())=some y2/\Br (!y2) (P (List.take 0 (List.drop 0 []))) (∃(y3:List Int),Jb.fn (p,())=some y3/\P y3))=fnW Hf (look [(67,Jd),(120,Jb)]) Rh Try.f99 (p,()) P:=by kernel_rfl
theorem QR (n:Int) (P:List Int->Prop):(0=0/\0=([]:List Int).length/\Dh (λ(v2:Int×List Int×PUnit) (k3:Int×List Int×PUnit->Prop)=>Br (decide (v2.1<n)) (0=0/\v2.2.1.length=v2.2.1.length/\v2.2.1.length+(List.take 1 (List.drop 0 [v2.1])).length<=Db/\0=0/\(v2.2.1++List.take 1 (List.drop 0 [v2.1])).length=(v2.2.1++List.take 1 (List.drop 0 [v2.1])).length/\k3 (IntKind.i64.wrap (v2.1+(1:Int)),v2.2.1++List.take 1 (List.drop 0 [v2.1]),())) (P (List.take v2.2.1.length (List.drop 0 v2.2.1)))) ((0:Int),[],PUnit.unit))=fnW Hf (look []) Fg Try.f58 (n,()) P:=by kernel_rfl
theorem QS (g:List (List Int)) (l:Int) (P:List Int->Prop):(Br (decide (l>(0:Int))) (∃(y3:List Int),idx g (IntKind.i64.wrap (l-(1:Int)))=some y3/\P y3) (∃(y3:List Int),idx g (IntKind.i64.wrap (IntKind.i64.wrap ((0:Int)-l)-(1:Int)))=some y3/\ ∃(y4:List Int),Jb.fn (y3,())=some y4/\P y4))=fnW Hf (look [(107,Jb)]) Zf Try.f87 (g,l,()) P:=by kernel_rfl
theorem XY (n:Int) (P:List Int->Prop):(0=0/\0=([]:List Int).length/\Dh (λ(v2:Int×List Int×PUnit) (k3:Int×List Int×PUnit->Prop)=>Br (decide (v2.1<n)) (0=0/\v2.2.1.length=v2.2.1.length/\v2.2.1.length+(List.take 2 (List.drop 0 [IntKind.i64.wrap (v2.1+(1:Int)),IntKind.i64.wrap ((0:Int)-IntKind.i64.wrap (v2.1+(1:Int)))])).length<=Db/\0=0/\(v2.2.1++List.take 2 (List.drop 0 [IntKind.i64.wrap (v2.1+(1:Int)),IntKind.i64.wrap ((0:Int)-IntKind.i64.wrap (v2.1+(1:Int)))])).length=(v2.2.1++List.take 2 (List.drop 0 [IntKind.i64.wrap (v2.1+(1:Int)),IntKind.i64.wrap ((0:Int)-IntKind.i64.wrap (v2.1+(1:Int)))])).length/\k3 (IntKind.i64.wrap (v2.1+(1:Int)),v2.2.1++List.take 2 (List.drop 0 [IntKind.i64.wrap (v2.1+(1:Int)),IntKind.i64.wrap ((0:Int)-IntKind.i64.wrap (v2.1+(1:Int)))]),())) (P (List.take v2.2.1.length (List.drop 0 v2.2.1)))) ((0:Int),[],PUnit.unit))=fnW Hf (look []) Ki Try.f26 (n,()) P:=by kernel_rfl
theorem Adp (p:Int×ByteArray×List (List Int)×Unit) (s:List Int) (l:Int) (P:List Int->Prop):(∃(y4:List Int),idx p.2.2.1 (IntKind.i64.wrap ((if true=true then if IntKind.i64.wrap ((0:Int)-l)>l then IntKind.i64.wrap ((0:Int)-l) else l else if IntKind.i64.wrap ((0:Int)-l)<l then IntKind.i64.wrap ((0:Int)-l) else l)-(1:Int)))=some y4/\Br (decide (l<(0:Int))) (∃(y5:List Int),Rh.fn (y4,())=some y5/\0=0/\0=([]:List Int).length/\Dh (λ(v6:Int×List Int×PUnit) (k7:Int×List Int×PUnit->Prop)=>Br (decide (v6.1<(↑s.length:Int))) (∃(y8:Int),idx s v6.1=some y8/\ ∃(y9:Int),idx y5 y8=some y9/\0=0/\v6.2.1.length=v6.2.1.length/\v6.2.1.length+(List.take 1 (List.drop 0 [y9])).length<=Db/\0=0/\(v6.2.1++List.take 1 (List.drop 0 [y9])).length=(v6.2.1++List.take 1 (List.drop 0 [y9])).length/\k7 (IntKind.i64.wrap (v6.1+(1:Int)),v6.2.1++List.take 1 (List.drop 0 [y9]),())) (P (List.take v6.2.1.length (List.drop 0 v6.2.1)))) ((0:Int),[],PUnit.unit)) (0=0/\0=([]:List Int).length/\Dh (λ(v5:Int×List Int×PUnit) (k6:Int×List Int×PUnit->Prop)=>Br (decide (v5.1<(↑s.length:Int))) (∃(y7:Int),idx s v5.1=some y7/\ ∃(y8:Int),idx y4 y7=some y8/\0=0/\v5.2.1.length=v5.2.1.length/\v5.2.1.length+(List.take 1 (List.drop 0 [y8])).length<=Db/\0=0/\(v5.2.1++List.take 1 (List.drop 0 [y8])).length=(v5.2.1++List.take 1 (List.drop 0 [y8])).length/\k6 (IntKind.i64.wrap (v5.1+(1:Int)),v5.2.1++List.take 1 (List.drop 0 [y8]),())) (P (List.take v5.2.1.length (List.drop 0 v5.2.1)))) ((0:Int),[],PUnit.unit)))=fnW Hf (look [(99,Rh)]) Qu Try.f75 (p,s,l,()) P:=by kernel_rfl
theorem Od {xs:List Int} {i:Nat} (h:i<xs.length):Ef xs (i:Int)=xs[i]:=by
 unfold Ef;rw [Ab,Al,Ad h];rfl
theorem Uq {xs:List Int} {y:Int} (h0:0<=y) (h:y<xs.length):idx xs y=some (Ef xs y):=by
 have hy:y.toNat<xs.length:=by omega
 have e:y=(y.toNat:Int):=by omega
 rw [e,Bu hy,Od hy]
theorem bl (f:Nat->Nat) (g:Nat->Int) (m:Nat) (init:List Int):df f g (m+1) init=(df f g m init).set (f m) (g m):=by simp [df,Gc]
theorem dg (f:Nat->Nat) (g:Nat->Int) (m:Nat) (init:List Int):(df f g m init).length=init.length:=by
 induction m with
 |zero=>rfl
 |succ m ih=>rw [bl,Bb,ih]
theorem qP (f:Nat->Nat) (g:Nat->Int) (init:List Int): ∀(m:Nat),(∀i j,i<m->j<m->f i=f j->i=j)-> ∀i,i<m->f i<init.length->(df f g m init)[f i]?=some (g i)
 |0,_,i,h,_=>absurd h (Ea _)
 |m+1,hf,i,hi,hl=>by
  rw [bl]
  by_cases e:i=m
  ·subst e;exact aQ (by rw [dg];exact hl)
  ·rw [List.getElem?_set_ne (λh=>e (hf i m hi (by omega) h.symm))];exact qP f g init m (λa b ha hb=>hf a b (by omega) (by omega)) i (by omega) hl
structure bO (p:List Int):Prop where
 pos:1<=p.length
 len:p.length<=20
 row:Yd p.length p
 nodup:p.Nodup
theorem mX {p:List Int} (h:Kz p=true):bO p:=by
 obtain ⟨h1,h2,h3⟩:=Ib.1 h;refine ⟨h1,h2,λy hy=>?_,jC λj hj=>(h3 j hj hj).2.2⟩;obtain ⟨j,hj,rfl⟩:=Bg.1 hy;have:=h3 j hj hj;omega
theorem bO.inj {p:List Int} (h:bO p) (i j:Nat) (hi:i<p.length) (hj:j<p.length) (e:(Ef p (i:Int)).toNat=(Ef p (j:Int)).toNat):i=j:=by
 rw [Od hi,Od hj] at e;have h1:=h.row _ (Ah hi);have h2:=h.row _ (Ah hj)
 have e:p[i]=p[j]:=by omega
 refine Bz λIi=>?_;rcases Nat.lt_or_gt_of_ne Ii with hl|hl
 ·exact Fu.1 h.nodup i j hi hj hl e
 ·exact Fu.1 h.nodup j i hj hi hl e.symm
theorem bO.Abw {p:List Int} (h:bO p) (k:Nat) (hk:k<p.length): ∃i,i<p.length/\(Ef p (i:Int)).toNat=k:=by
 have hm:=(dM (xs:=p) h.row).2 (w6 h.nodup) k hk;obtain ⟨i,hi,e⟩:=Bg.1 hm;exact ⟨i,hi,by rw [Od hi,e];exact Ab k⟩
theorem bO.lt {p:List Int} (h:bO p) {i:Nat} (hi:i<p.length):(Ef p (i:Int)).toNat<p.length:=by
 rw [Od hi];have:=h.row _ (Ah hi);omega
theorem sH (p:List Int):(Cc p).length=p.length:=by unfold Cc;rw [dg,Ei]
theorem Ab9 {p:List Int} (h:bO p) {i:Nat} (hi:i<p.length):(Cc p)[(Ef p (i:Int)).toNat]?=some (i:Int):=
 qP (λi=>(Ef p (i:Int)).toNat) (λi=>(i:Int)) _ p.length (λi j hi hj=>h.inj i j hi hj) i hi (by rw [Ei];exact h.lt hi)
theorem Ag2 {p:List Int} (h:bO p):Yd p.length (Cc p):=by
 intro y hy;obtain ⟨k,hk,rfl⟩:=Bg.1 hy
 have lJ:k<p.length:=by rw [sH] at hk;exact hk
 obtain ⟨i,hi,rfl⟩:=h.Abw k lJ;have:=Ab9 h hi;rw [Ad hk] at this;rw [Bi this];omega
theorem Vu (p q:List Int):(Am p q).length=p.length:=by simp [Am]
theorem FA {p q:List Int} {n:Nat} (hp:Yd q.length p) (hq:Yd n q):Yd n (Am p q):=by
 intro y hy;obtain ⟨x,hx,rfl⟩:=Bh.1 hy;have h1:=hp x hx;rw [show x=(x.toNat:Int) by omega,Od (by omega)];exact hq _ (Ah _)
theorem wX (p q:List Int) (h:p.length<=20/\Yd q.length p):fnW Hf (look []) bF Try.f86 (p,q,()) (λ(z:List Int)=>z=Am p q):=by
 obtain ⟨h,hr⟩:=h;refine Eq.mp (xy p q _) ?_;refine ⟨⟨by omega,by show (p.length:Int)<(4294967296:Int)+1;omega⟩,rfl,rfl,rfl,?_⟩;have Ra:=Vu p q;refine Bt p.length (λv=>v.1) (λj v=>v.2.1.length=(Am p q).length/\v.2.1.take j=(Am p q).take j) rfl ⟨by rw [Ra];simp,by simp⟩ ?_;rintro j ⟨i,ys,⟨⟩⟩ K hj hi ⟨h1,h2⟩ hK;dsimp only at hi h1 h2⊢;subst hi;refine Br.dec (λhl=>?_) λhl=>?_
 ·have hl:j<p.length:=by omega
  have hy:=hr _ (Ah hl);refine ⟨_,Bu hl,_,Uq hy.1 hy.2,⟨by omega,by omega⟩,by rw [Ab];omega,rfl,by rw [Bb],?_⟩;rw [Bm (by omega),Ab,Bl]
  have Mr:j<(Am p q).length:=by rw [Ra];exact hl
  have e:Ef q p[j]=(Am p q)[j]:=by simp [Am]
  rw [e];exact hK hl _ rfl ⟨by rw [Bb];exact h1,Rk Mr h1 h2⟩
 ·have:j=p.length:=by omega
  subst this;rw [<-Ra,Az,<-h1,Az] at h2;rw [Cw,Az];exact h2
theorem Xl:Sound Try.prog 86 bF:=
 Sound.Ho Ez Ce mixed Try.func86 (by kernel_rfl) (by kernel_rfl) λx h=>wX x.1 x.2.1 h
theorem wY (p:List Int) (h:p.length<=20/\Yd p.length p):fnW Hf (look []) Jb Try.f107 (p,()) (λ(z:List Int)=>z=Cc p):=by
 obtain ⟨h,hr⟩:=h;refine Eq.mp (xz p _) ?_;refine ⟨⟨by omega,by show (p.length:Int)<(4294967296:Int)+1;omega⟩,rfl,rfl,rfl,?_⟩;refine Bt p.length (λv=>v.1) (λj v=>v.2.1=df (λi=>(Ef p (i:Int)).toNat) (λi=>(i:Int)) j (List.replicate p.length 0)) rfl rfl ?_;rintro j ⟨i,ys,⟨⟩⟩ K hj hi h1 hK;dsimp only at hi h1⊢;subst hi
 have hlen:ys.length=p.length:=by rw [h1,dg,Ei]
 refine Br.dec (λhl=>?_) λhl=>?_
 ·have hl:j<p.length:=by omega
  have hy:=hr _ (Ah hl);refine ⟨_,Bu hl,⟨by omega,by omega⟩,by omega,rfl,by rw [Bb],?_⟩;rw [Bm (by omega),Bl];refine hK hl _ rfl ?_;rw [bl,<-h1,Od hl]
 ·have:j=p.length:=by omega
  subst this;rw [Cw,Az];exact h1
theorem Xm:Sound Try.prog 107 Jb:=
 Sound.Ho Ez Ce mixed Try.func107 (by kernel_rfl) (by kernel_rfl) λx h=>wY x.1 h
theorem WJ (p:List Int) (h:p.length<=20/\Yd p.length p):fnW Hf (look []) Jb Try.f120 (p,()) (λ(z:List Int)=>z=Cc p):=by
 obtain ⟨h,hr⟩:=h;refine Eq.mp (YB p _) ?_;refine ⟨⟨by omega,by show (p.length:Int)<(4294967296:Int)+1;omega⟩,rfl,rfl,rfl,?_⟩;refine Bt p.length (λv=>v.1) (λj v=>v.2.1=df (λi=>(Ef p (i:Int)).toNat) (λi=>(i:Int)) j (List.replicate p.length 0)) rfl rfl ?_;rintro j ⟨i,ys,⟨⟩⟩ K hj hi h1 hK;dsimp only at hi h1⊢;subst hi
 have hlen:ys.length=p.length:=by rw [h1,dg,Ei]
 refine Br.dec (λhl=>?_) λhl=>?_
 ·have hl:j<p.length:=by omega
  have hy:=hr _ (Ah hl);refine ⟨_,Bu hl,⟨by omega,by omega⟩,by omega,rfl,by rw [Bb],?_⟩;rw [Bm (by omega),Bl];refine hK hl _ rfl ?_;rw [bl,<-h1,Od hl]
 ·have:j=p.length:=by omega
  subst this;rw [Cw,Az];exact h1
theorem xm:Sound Try.prog 120 Jb:=
 Sound.Ho Ez Ce mixed Try.func120 (by kernel_rfl) (by kernel_rfl) λx h=>WJ x.1 h
theorem x4 (p:List Int) (h:Kz p=true):fnW Hf (look [(67,Jd),(120,Jb)]) Rh Try.f99 (p,()) (λ(z:List Int)=>z=Cc p):=by
 have hp:=mX h
 have hs:short p:=by have:=hp.len;unfold short;omega
 refine Eq.mp (xB p _) ⟨_,Ac hs,⟨λhe=>?_,λ_=>⟨_,Ac ⟨hp.len,hp.row⟩,rfl⟩⟩⟩;exact absurd h (Gs he)
theorem oS:Sound Try.prog 99 Rh:=
 Sound.Ho Ez (Bf Zm (Bf xm Ce)) mixed Try.func99 (by kernel_rfl) (by kernel_rfl) λx h=>x4 x.1 h
theorem fv (j:Nat):upto (j+1)=upto j++ [(j:Int)]:=by simp [upto,Gc]
theorem OO (n:Int) (h:0<=n/\n<=20):fnW Hf (look []) Fg Try.f58 (n,()) (λ(z:List Int)=>z=upto n.toNat):=by
 refine Eq.mp (QR n _) ⟨rfl,rfl,?_⟩;refine Bt n.toNat (λv=>v.1) (λj v=>v.2.1=upto j) rfl rfl ?_;rintro j ⟨i,ys,⟨⟩⟩ K hj hi h1 hK;dsimp only at hi h1⊢;subst hi h1;refine Br.dec (λhl=>?_) λhl=>?_
 ·refine ⟨rfl,rfl,?_,rfl,rfl,?_⟩
  ·show (upto j).length+1<=4294967296;rw [Uv];omega
  ·rw [Bm (by omega)];exact hK (by omega) _ rfl (fv j).symm
 ·have:j=n.toNat:=by omega
  subst this;rw [Cw,Az]
theorem vu:Sound Try.prog 58 Fg:=
 Sound.Ho Ez Ce mixed Try.func58 (by kernel_rfl) (by kernel_rfl) λx h=>OO x.1 h
theorem Vn {g:List (List Int)} {k:Nat} (h:k<g.length):Ax g ((k:Int)+1)=g[k]:=by
 unfold Ax;rw [Ac (by omega),show ((k:Int)+1-1).toNat=k by omega,Al,Ad h];rfl
theorem Vm {g:List (List Int)} {k:Nat} (h:k<g.length):Ax g (-((k:Int)+1))=Cc g[k]:=by
 unfold Ax;rw [Ai (by omega),show (-(-((k:Int)+1))-1).toNat=k by omega,Al,Ad h];rfl
theorem Xc {n:Nat} {l:Int} (h:Ie n l): ∃k:Nat,k<n/\(l=(k:Int)+1\/l= -((k:Int)+1)):=by
 obtain ⟨h1,h2,h3⟩:=h
 by_cases h0:0<l
 ·exact ⟨(l-1).toNat,by omega, .inl (by omega)⟩
 ·exact ⟨(-l-1).toNat,by omega, .inr (by omega)⟩
theorem OP (g:List (List Int)) (l:Int) (h:Ie (List.length g) l/\List.length g<=8/\ ∀p∈g,Kz p=true):fnW Hf (look [(107,Jb)]) Zf Try.f87 (g,l,()) (λ(z:List Int)=>z=Ax g l):=by
 obtain ⟨hl,h8,hp⟩:=h;refine Eq.mp (QS g l _) ?_
 obtain ⟨k,hk,rfl|rfl⟩:=Xc hl
 ·refine Br.dec (λ_=>?_) λhn=>by omega
  rw [Co (by omega) (by omega),show (k:Int)+1-1=(k:Int) by omega];exact ⟨_,Bu hk,(Vn hk).symm⟩
 ·refine Br.dec (λhn=>by omega) λ_=>?_;rw [Co (n:=0- -((k:Int)+1)) (by omega) (by omega),Co (by omega) (by omega),show (0:Int)- -((k:Int)+1)-1=(k:Int) by omega];have:=mX (hp _ (Ah hk));exact ⟨_,Bu hk,_,Ac ⟨this.len,this.row⟩,(Vm hk).symm⟩
theorem vz:Sound Try.prog 87 Zf:=
 Sound.Ho Ez (Bf Xm Ce) mixed Try.func87 (by kernel_rfl) (by kernel_rfl) λx h=>OP x.1 x.2.1 h
theorem ct (j:Nat):Aq (j+1)=Aq j++ [(j:Int)+1,-((j:Int)+1)]:=by simp [Aq,Gc,List.flatMap_append]
theorem Ov (j:Nat):(Aq j).length=2*j:=by
 induction j with
 |zero=>rfl
 |succ j ih=>rw [ct,Av,ih];simp only [Aw,Ex];omega
theorem Jw {n:Nat} {l:Int} (h:l∈Aq n):Ie n l:=by
 unfold Aq at h;obtain ⟨k,hk,hl⟩:=Hg.1 h;have hk:=Ev.1 hk;simp only [Bd,List.not_mem_nil,or_false] at hl;unfold Ie;omega
theorem WG (n:Int) (h:0<=n/\n<=8):fnW Hf (look []) Ki Try.f26 (n,()) (λ(z:List Int)=>z=Aq n.toNat):=by
 refine Eq.mp (XY n _) ⟨rfl,rfl,?_⟩;refine Bt n.toNat (λv=>v.1) (λj v=>v.2.1=Aq j) rfl rfl ?_;rintro j ⟨i,ys,⟨⟩⟩ K hj hi h1 hK;dsimp only at hi h1⊢;subst hi h1;refine Br.dec (λhl=>?_) λhl=>?_
 ·refine ⟨rfl,rfl,?_,rfl,rfl,?_⟩
  ·show (Aq j).length+2<=4294967296;rw [Ov];omega
  ·have e1:IntKind.i64.wrap ((j:Int)+1)=(j:Int)+1:=Co (by omega) (by omega)
   have e2:IntKind.i64.wrap ((0:Int)-((j:Int)+1))= -((j:Int)+1):=by rw [Co (by omega) (by omega)];omega
   rw [e1,e2];exact hK (by omega) _ rfl (ct j).symm
 ·have:j=n.toNat:=by omega
  subst this;rw [Cw,Az]
theorem aa:Sound Try.prog 26 Ki:=
 Sound.Ho Ez Ce mixed Try.func26 (by kernel_rfl) (by kernel_rfl) λx h=>WG x.1 h
structure Valid (p:PP):Prop where
 n:1<=p.1/\p.1<=20
 eK:1<=p.2.2.1.length/\p.2.2.1.length<=8
 perm: ∀m∈p.2.2.1,Kz m=true
 len: ∀m∈p.2.2.1,(m.length:Int)=p.1
theorem valid {p:PP} (h:Da p=true):Valid p:=by
 have h0:=QO h;obtain ⟨h1,_,_⟩:=Ib.1 h;obtain ⟨_,_,h4⟩:=Ib.1 h1;exact ⟨⟨h0.1,h0.2.1⟩,h0.2.2,λm hm=>(Ib.1 (h4 m hm)).2,λm hm=>(Ib.1 (h4 m hm)).1⟩
theorem pO {p:PP} (h:Valid p) {l:Int} (hl:Ie (List.length p.2.2.1) l):((Ax p.2.2.1 l).length:Int)=p.1/\Yd (Ax p.2.2.1 l).length (Ax p.2.2.1 l):=by
 obtain ⟨k,hk,rfl|rfl⟩:=Xc hl
 ·rw [Vn hk];exact ⟨h.len _ (Ah hk),(mX (h.perm _ (Ah hk))).row⟩
 ·rw [Vm hk,sH];exact ⟨h.len _ (Ah hk),Ag2 (mX (h.perm _ (Ah hk)))⟩
theorem EI (s y:List Int) (P:List Int->Prop) (h1:s.length<=20) (h2:Yd y.length s) (h3:P (Am s y)):
  Dh
   (λ(v5:Int×List Int×PUnit) (k6:Int×List Int×PUnit->Prop)=>
    Br (decide (v5.1<(↑s.length:Int)))
     (∃(y7:Int),
      idx s v5.1=some y7/\
       ∃(y8:Int),
        idx y y7=some y8/\
         (0:Nat)=(0:Nat)/\
          v5.2.1.length=v5.2.1.length/\
           v5.2.1.length+(List.take (1:Nat) (List.drop (0:Nat) [y8])).length<=Db/\
            (0:Nat)=(0:Nat)/\
             (v5.2.1++List.take (1:Nat) (List.drop (0:Nat) [y8])).length=(v5.2.1++List.take (1:Nat) (List.drop (0:Nat) [y8])).length/\
              k6 (IntKind.i64.wrap (v5.1+(1:Int)),v5.2.1++List.take (1:Nat) (List.drop (0:Nat) [y8]),()))
     (P (List.take v5.2.1.length (List.drop (0:Nat) v5.2.1))))
   ((0:Int),([]:List Int),PUnit.unit):=by
 refine Bt s.length (λv=>v.1) (λj v=>v.2.1=(s.take j).map (Ef y)) rfl (by simp) ?_;rintro j ⟨i,ys,⟨⟩⟩ K hj hi hR hK;dsimp only at hi hR⊢;subst hi hR;refine Br.dec (λhl=>?_) λhl=>?_
 ·have hl:j<s.length:=by omega
  have hy:=h2 _ (Ah hl);refine ⟨_,Bu hl,_,Uq hy.1 hy.2,rfl,rfl,?_,rfl,rfl,?_⟩
  ·show ((s.take j).map (Ef y)).length+1<=4294967296;rw [Ct,Dx];omega
  ·rw [Bm (by omega)];refine hK hl _ rfl ?_;dsimp only;rw [Cg hl,Hj];rfl
 ·have:j=s.length:=by omega
  subst this;rw [Cw,Az,Az];exact h3
theorem Ac0 (p:PP) (s:List Int) (l:Int) (h:Da p=true/\List.length s<=20/\(∀y∈s,0<=y/\y<p.1)/\Ie (List.length p.2.2.1) l):fnW Hf (look [(99,Rh)]) Qu Try.f75 (p,s,l,()) (λ(z:List Int)=>z=Am s (Ax p.2.2.1 l)):=by
 obtain ⟨hv,hs,hr,hl⟩:=h;have hv:=valid hv;have hf:=hv.eK;refine Eq.mp (Adp p s l _) ?_;have hlo:=pO hv hl
 have Qd:Yd (Ax p.2.2.1 l).length s:= λy hy=>by have:=hr y hy;omega
 obtain ⟨k,hk,rfl|rfl⟩:=Xc hl
 ·rw [Ac rfl,Co (n:=0-((k:Int)+1)) (by omega) (by omega),Ai (by omega),Co (by omega) (by omega),show (k:Int)+1-1=(k:Int) by omega];refine ⟨_,Bu hk,Br.dec (λhn=>by omega) λ_=>⟨rfl,rfl,?_⟩⟩;rw [Vn hk] at Qd⊢;exact EI s _ (λz=>z=Am s p.2.2.1[k]) hs Qd rfl
 ·rw [Ac rfl,Co (n:=0- -((k:Int)+1)) (by omega) (by omega),Ac (by omega),Co (by omega) (by omega),show (0:Int)- -((k:Int)+1)-1=(k:Int) by omega];refine ⟨_,Bu hk,Br.dec (λ_=>⟨_,Ac (hv.perm _ (Ah hk)),rfl,rfl,?_⟩) λhn=>by omega⟩;rw [Vm hk] at Qd⊢;exact EI s (Cc p.2.2.1[k]) (λz=>z=Am s (Cc p.2.2.1[k])) hs Qd rfl
theorem br:Sound Try.prog 75 Qu:=
 Sound.Ho Ez (Bf oS Ce) mixed Try.func75 (by kernel_rfl) (by kernel_rfl) λx h=>Ac0 x.1 x.2.1 x.2.2.1 h
abbrev rL:CK:= .row tI 2
abbrev xLL:CK:= .Hz tL 33
def Lx (k:Int) (n:Nat):List Int:=(List.range n).map λi=>k+(i:Nat)
def Ly:Int->List (List Int)->List (List Int)
 |_,[]=> []
 |k,r::rs=>Lx k r.length::Ly (k+r.length) rs
def Gh:List (List Int)->Nat
 | []=>0
 |r::rs=>r.length+Gh rs
def low (k:Int):Prop:=0<=k/\k<=1099511627776
noncomputable abbrev Vg:MSpec:=cW [none,none] [(true,rL),(false, .Ia tI)] false [none] [.Ia tI] (λx=>short x.1/\low x.2.1) (λx=>((x.2.1+List.length x.1,()),(Lx x.2.1 (List.length x.1),())))
noncomputable abbrev fe:MSpec:=cW [none,none] [(true,xLL),(false, .Ia tI)] false [none] [.Ia tI] (λx=>Kw x.1/\low x.2.1/\low (x.2.1+Gh x.1)) (λx=>((x.2.1+Gh x.1,()),(Ly x.2.1 x.1,())))
noncomputable abbrev Ti:MSpec:=cW [some 3,none] [(false, .Ia tI),(false, .Ia .str),(true,xLL),(false, .Ia tI)] false [none] [.Ia tI]
 (λx=>Kw x.2.2.1/\low x.2.2.2.1/\low (x.2.2.2.1+Gh x.2.2.1)) (λx=>((x.2.2.2.1+Gh x.2.2.1,()),(Ly x.2.2.2.1 x.2.2.1,())))
def oq (xs:List Int) (k:Int):Int:=if xs=Lx k xs.length then k+xs.length else-1
noncomputable abbrev bq:Spec:=Ho (.pair tL (.pair tI .unit)) tI false true (λx=>short x.1/\low x.2.1) (λx=>oq x.1 x.2.1)
noncomputable abbrev Tz:MSpec:=cW [none] [(false, .Ia tL)] false [none] [rL] (λx=>short x.1) (λx=>((x.1,()),()))
noncomputable abbrev kW:MSpec:=cW [none] [(false, .Ia kh)] false [none] [xLL] (λx=>Kw x.1) (λx=>((x.1,()),()))
noncomputable abbrev Qa:MSpec:=cW [some 3] [(false, .Ia tI),(false, .Ia .str),(false, .Ia kh)] false [some 3] [.Ia tI, .Ia .str,xLL] (λx=>Fo (x.1,x.2.1,x.2.2.1,())) (λx=>((x.1,x.2.1,x.2.2.1,()),()))
theorem Aha (xs:List Int) (k:Int) (P:((Int×Unit)×List Int×Unit)->Prop):(0=0/\xs.length=xs.length/\Dh (λ(v3:Int×Int×List Int×PUnit) (k4:Int×Int×List Int×PUnit->Prop)=>Br (decide (v3.2.1<(↑v3.2.2.1.length:Int))) (((0:Int)<=v3.2.1/\v3.2.1<(↑v3.2.2.1.length:Int))/\0+v3.2.1.toNat<v3.2.2.1.length/\0=0/\v3.2.2.1.length=(v3.2.2.1.set (0+v3.2.1.toNat) v3.1).length/\k4 (IntKind.i64.wrap (v3.1+(1:Int)),IntKind.i64.wrap (v3.2.1+(1:Int)),v3.2.2.1.set (0+v3.2.1.toNat) v3.1,())) (P ((v3.1,()),v3.2.2.1,()))) (k,(0:Int),xs,PUnit.unit))=fnMW Rw (look []) Vg Try.f19 (xs,k,()) P:=by kernel_rfl
theorem Ads (xs:List (List Int)) (k:Int) (P:((Int×Unit)×List (List Int)×Unit)->Prop):(0=0/\xs.length=xs.length/\Dh (λ(v3:Int×Int×List (List Int)×PUnit) (k4:Int×Int×List (List Int)×PUnit->Prop)=>Br (decide (v3.2.1<(↑v3.2.2.1.length:Int))) (((0:Int)<=v3.2.1/\v3.2.1<(↑v3.2.2.1.length:Int))/\ ∃(y5:List Int),v3.2.2.1[0+v3.2.1.toNat]?=some y5/\ ∃(y6:List Int),v3.2.2.1[0+v3.2.1.toNat]?=some y6/\ ∃(y7:(Int×PUnit)×List Int×PUnit),Vg.fn (y6,v3.1,())=some y7/\ ∃(y8:List Int),v3.2.2.1[0+v3.2.1.toNat]?=some y8/\y7.2.1.length=y8.length/\0=0/\v3.2.2.1.length=(v3.2.2.1.set (0+v3.2.1.toNat) y7.2.1).length/\k4 (y7.1.1,IntKind.i64.wrap (v3.2.1+(1:Int)),v3.2.2.1.set (0+v3.2.1.toNat) y7.2.1,())) (P ((v3.1,()),v3.2.2.1,()))) (k,(0:Int),xs,PUnit.unit))=fnMW Rw (look [(19,Vg)]) fe Try.f57 (xs,k,()) P:=by kernel_rfl
theorem DK (n:Int) (s:ByteArray) (b:List (List Int)) (k:Int) (P:((Int×Unit)×List (List Int)×Unit)->Prop):(0=0/\b.length=b.length/\ ∃(y5:(Int×PUnit)×List (List Int)×PUnit),fe.fn (b,k,())=some y5/\(y5.2.1.length=b.length/\b.length=b.length)/\P ((y5.1.1,()),y5.2.1,()))=fnMW Rw (look [(57,fe)]) Ti Try.f18 (n,s,b,k,()) P:=by kernel_rfl
theorem Ah7 (xs:List Int) (k:Int) (P:Int->Prop):(Dh (λ(v3:Int×Int×PUnit) (k4:Int×Int×PUnit->Prop)=>Br (decide (v3.2.1<(↑xs.length:Int))) (∃(y5:Int),idx xs v3.2.1=some y5/\Br (y5 !=v3.1) (P (-1:Int)) (k4 (IntKind.i64.wrap (v3.1+(1:Int)),IntKind.i64.wrap (v3.2.1+(1:Int)),()))) (P v3.1)) (k,(0:Int),PUnit.unit))=fnW Hf (look []) bq Try.f20 (xs,k,()) P:=by kernel_rfl
theorem Amz (xs:List Int) (P:((List Int×Unit)×Unit)->Prop):(((0:Int)<=(↑xs.length:Int)/\(↑xs.length:Int)<(↑Db:Int)+(1:Int))/\(↑xs.length:Int)=(↑xs.length:Int)/\0=0/\(List.replicate (↑xs.length:Int).toNat (Int.ofNat (nat_lit 0))).length=(List.replicate (↑xs.length:Int).toNat (Int.ofNat (nat_lit 0))).length/\Dh (λ(v2:Int×List Int×PUnit) (k3:Int×List Int×PUnit->Prop)=>Br (decide (v2.1<(↑xs.length:Int))) (∃(y4:Int),idx xs v2.1=some y4/\((0:Int)<=v2.1/\v2.1<(↑v2.2.1.length:Int))/\0+v2.1.toNat<v2.2.1.length/\0=0/\v2.2.1.length=(v2.2.1.set (0+v2.1.toNat) y4).length/\k3 (IntKind.i64.wrap (v2.1+(1:Int)),v2.2.1.set (0+v2.1.toNat) y4,())) (P ((List.take v2.2.1.length (List.drop 0 v2.2.1),()),()))) ((0:Int),List.replicate (↑xs.length:Int).toNat (Int.ofNat (nat_lit 0)),PUnit.unit))=fnMW Rw (look []) Tz Try.f14 (xs,()) P:=by kernel_rfl
theorem Ahg (xs:List (List Int)) (P:((List (List Int)×Unit)×Unit)->Prop):(((0:Int)<=(↑xs.length:Int)/\(↑xs.length:Int)<(↑Db:Int)+(1:Int))/\(↑xs.length:Int)=(↑xs.length:Int)/\0=0/\(List.replicate (↑xs.length:Int).toNat ([]:List Int)).length=(List.replicate (↑xs.length:Int).toNat ([]:List Int)).length/\Dh (λ(v2:Int×List (List Int)×PUnit) (k3:Int×List (List Int)×PUnit->Prop)=>Br (decide (v2.1<(↑xs.length:Int))) (∃(y4:List Int),idx xs v2.1=some y4/\ ∃(y5:(List Int×PUnit)×PUnit),Tz.fn (y4,())=some y5/\((0:Int)<=v2.1/\v2.1<(↑v2.2.1.length:Int))/\0+v2.1.toNat<v2.2.1.length/\0=0/\v2.2.1.length=(v2.2.1.set (0+v2.1.toNat) (List.take y5.1.1.length (List.drop 0 y5.1.1))).length/\k3 (IntKind.i64.wrap (v2.1+(1:Int)),v2.2.1.set (0+v2.1.toNat) (List.take y5.1.1.length (List.drop 0 y5.1.1)),())) (P ((List.take v2.2.1.length (List.drop 0 v2.2.1),()),()))) ((0:Int),List.replicate (↑xs.length:Int).toNat ([]:List Int),PUnit.unit))=fnMW Rw (look [(14,Tz)]) kW Try.f47 (xs,()) P:=by kernel_rfl
theorem KR (n:Int) (s:ByteArray) (b:List (List Int)) (P:((Int×ByteArray×List (List Int)×Unit)×Unit)->Prop):(∃(y4:(List (List Int)×PUnit)×PUnit),kW.fn (b,())=some y4/\P ((n,s,List.take y4.1.1.length (List.drop 0 y4.1.1),()),()))=fnMW Rw (look [(47,kW)]) Qa Try.f13 (n,s,b,()) P:=by kernel_rfl
theorem Cl {α:Type} (xs:List α):List.take xs.length (List.drop 0 xs)=xs:=by rw [Cw,Az]
theorem Ok (k:Int) (n:Nat):(Lx k n).length=n:=by simp [Lx]
theorem ou (k:Int) (n:Nat):Lx k (n+1)=Lx k n++ [k+(n:Nat)]:=by simp [Lx,Gc]
theorem jB (a b:List (List Int)):Gh (a++b)=Gh a+Gh b:=by
 induction a with
 |nil=>simp [Gh]
 |cons r a ih=>simp only [Ka,Gh,ih];omega
theorem eX: ∀(a b:List (List Int)) (k:Int),Ly k (a++b)=Ly k a++Ly (k+Gh a) b
 | [],b,k=>by simp [Ly,Gh]
 |r::a,b,k=>by
  simp only [Ka,Ly,Gh,eX a b]
  congr 3
  omega
theorem dY: ∀(xs:List (List Int)) (k:Int),(Ly k xs).length=xs.length
 | [],_=>rfl
 |r::xs,k=>by simp [Ly,dY xs]
theorem AN {xs:List (List Int)} {j:Nat} (h:j<xs.length):Gh (xs.drop j)=xs[j].length+Gh (xs.drop (j+1)):=by
 rw [Ft h];rfl
theorem AO {xs:List (List Int)} {j:Nat} (h:j<xs.length):Gh (xs.take (j+1))=Gh (xs.take j)+xs[j].length:=by
 rw [Cg h,jB];simp [Gh]
theorem wQ (xs:List (List Int)) (j:Nat):Gh (xs.take j)+Gh (xs.drop j)=Gh xs:=by
 rw [<-jB,Ip]
theorem Agh (xs:List Int) (k:Int) (h:short xs/\low k):fnMW Rw (look []) Vg Try.f19 (xs,k,()) (λ(z:(Int×Unit)×List Int×Unit)=>z=((k+xs.length,()),(Lx k xs.length,()))):=by
 obtain ⟨h1,h2,h3⟩:=h;unfold short at h1;refine Eq.mp (Aha xs k _) ⟨rfl,rfl,?_⟩;refine Bt xs.length (λv=>v.2.1) (λj v=>v.1=k+(j:Nat)/\v.2.2.1.length=xs.length/\v.2.2.1.take j=Lx k j) rfl ⟨by simp,rfl,by simp [Lx]⟩ ?_;rintro j ⟨k',i,ys,⟨⟩⟩ K hj hi ⟨g1,g2,g3⟩ hK;dsimp only at hi g1 g2 g3⊢;subst hi;subst g1;refine Br.dec (λhl=>?_) λhl=>?_
 ·have hl:j<ys.length:=by omega
  refine ⟨⟨by omega,by omega⟩,by rw [Ab];omega,rfl,by rw [Bb],?_⟩;rw [Bm (by omega),Ab,Bl,Co (by omega) (by omega)];refine hK (by omega) _ rfl ⟨by dsimp only;omega,by rw [Bb];exact g2,?_⟩;rw [Cg (by rw [Bb];exact hl),List.take_set_of_le (Ap j),g3,List.getElem_set_self,ou]
 ·have u5:j=xs.length:=by omega
  subst u5;rw [<-g2,Az,g2] at g3;rw [g3]
theorem rJ:Ds Try.prog 19 Vg:=
 Ds.cW Qo Ce mixed Try.func19 (by kernel_rfl) (by kernel_rfl) λx h=>Agh x.1 x.2.1 h
theorem Ac3 (xs:List (List Int)) (k:Int) (h:Kw xs/\low k/\low (k+Gh xs)):fnMW Rw (look [(19,Vg)]) fe Try.f57 (xs,k,()) (λ(z:(Int×Unit)×List (List Int)×Unit)=>z=((k+Gh xs,()),(Ly k xs,()))):=by
 obtain ⟨⟨h1,h4⟩,⟨h2,h3⟩,h5,h6⟩:=h;refine Eq.mp (Ads xs k _) ⟨rfl,rfl,?_⟩;refine Bt xs.length (λv=>v.2.1) (λj v=>v.1=k+(Gh (xs.take j):Nat)/\v.2.2.1.length=xs.length/\v.2.2.1.take j=Ly k (xs.take j)/\v.2.2.1.drop j=xs.drop j) rfl ⟨by simp [Gh],rfl,by simp [Ly],rfl⟩ ?_;rintro j ⟨k',i,ys,⟨⟩⟩ K hj hi ⟨g1,g2,g3,g4⟩ hK;dsimp only at hi g1 g2 g3 g4⊢;subst hi;subst g1;refine Br.dec (λhl=>?_) λhl=>?_
 ·have hl:j<ys.length:=by omega
  have hlx:j<xs.length:=by omega
  have hy:ys[j]?=some xs[j]:=by
   have:(ys.drop j)[0]?=(xs.drop j)[0]?:=by rw [g4]
   simpa [Cp,Ad hlx] using this
  have GI:=wQ xs j;have htk:=AO hlx;have hdr:=AN hlx;refine ⟨⟨by omega,by omega⟩,?_⟩;simp only [Ab,Bl]
  have Avv:low (k+(Gh (xs.take j):Nat)):=⟨by omega,by omega⟩
  refine ⟨_,hy,_,hy,_,Ac ⟨h4 _ (Ah hlx),Avv⟩,_,hy,Ok _ _,trivial,by rw [Bb],?_⟩;rw [Bm (by omega)];refine hK hlx _ rfl ⟨by dsimp only;omega,by rw [Bb];exact g2,?_,?_⟩
  ·rw [Cg (by rw [Bb];exact hl),List.take_set_of_le (Ap j),g3,List.getElem_set_self,Cg hlx,eX];rfl
  ·dsimp only;rw [List.drop_set_of_lt (by omega)]
   have e1:ys.drop (j+1)=(ys.drop j).drop 1:=by rw [List.drop_drop]
   rw [e1,g4,List.drop_drop]
 ·have u5:j=xs.length:=by omega
  subst u5;rw [<-g2,Az,g2,Az] at g3;rw [g3,Az]
theorem CD:Ds Try.prog 57 fe:=
 Ds.cW Qo (Ic rJ Ce) mixed Try.func57 (by kernel_rfl) (by kernel_rfl) λx h=>Ac3 x.1 x.2.1 h
theorem BA (n:Int) (s:ByteArray) (b:List (List Int)) (k:Int) (h:Kw b/\low k/\low (k+Gh b)):fnMW Rw (look [(57,fe)]) Ti Try.f18 (n,s,b,k,()) (λ(z:(Int×Unit)×List (List Int)×Unit)=>z=((k+Gh b,()),(Ly k b,()))):=by
 exact Eq.mp (DK n s b k _) ⟨rfl,rfl,_,Ac h,⟨dY _ _,rfl⟩,rfl⟩
theorem qn:Ds Try.prog 18 Ti:=
 Ds.cW Qo (Ic CD Ce) mixed Try.func18 (by kernel_rfl) (by kernel_rfl) λx h=>BA x.1 x.2.1 x.2.2.1 x.2.2.2.1 h
theorem Age (xs:List Int) (k:Int) (h:short xs/\low k):fnW Hf (look []) bq Try.f20 (xs,k,()) (λ(z:Int)=>z=oq xs k):=by
 obtain ⟨h1,h2,h3⟩:=h;unfold short at h1;refine Eq.mp (Ah7 xs k _) ?_;refine Bt xs.length (λv=>v.2.1) (λj v=>v.1=k+(j:Nat)/\xs.take j=Lx k j) rfl ⟨by simp,by simp [Lx]⟩ ?_;rintro j ⟨k',i,⟨⟩⟩ K hj hi ⟨g1,g3⟩ hK;dsimp only at hi g1 g3⊢;subst hi;subst g1;refine Br.dec (λhl=>?_) λhl=>?_
 ·have hl:j<xs.length:=by omega
  refine ⟨_,Bu hl,λIi=>?_,λhe=>?_⟩
  ·simp only [bne_iff_ne,ne_eq] at Ii;unfold oq;rw [Ai];intro he;refine Ii ?_
   have e1:xs[j]?=(Lx k xs.length)[j]?:=by rw [<-he]
   rw [Ad hl] at e1;simpa [Lx,hl] using e1
  ·simp only [Oa] at he;rw [Bm (by omega),Co (by omega) (by omega)];refine hK hl _ rfl ⟨by dsimp only;omega,?_⟩;rw [Cg hl,g3,he,ou]
 ·have u5:j=xs.length:=by omega
  subst u5;rw [Az] at g3;exact (Ac g3).symm
theorem JH:Sound Try.prog 20 bq:=
 Sound.Ho Ez Ce mixed Try.func20 (by kernel_rfl) (by kernel_rfl) λx h=>Age x.1 x.2.1 h
theorem Zz (k:Int) (n:Nat):oq (Lx k n) k=k+n:=by unfold oq;rw [Ok,Ac rfl]
theorem Am3 (xs:List Int) (h:short xs):fnMW Rw (look []) Tz Try.f14 (xs,()) (λ(z:(List Int×Unit)×Unit)=>z=((xs,()),())):=by
 unfold short at h;refine Eq.mp (Amz xs _) ?_;refine ⟨⟨by omega,by show (xs.length:Int)<(4294967296:Int)+1;omega⟩,rfl,rfl,rfl,?_⟩;refine Bt xs.length (λv=>v.1) (λj v=>v.2.1.length=xs.length/\v.2.1.take j=xs.take j) rfl ⟨by simp,by simp⟩ ?_;rintro j ⟨i,ys,⟨⟩⟩ K hj hi ⟨h1,h2⟩ hK;dsimp only at hi h1 h2⊢;subst hi;refine Br.dec (λhl=>?_) λhl=>?_
 ·have hl:j<xs.length:=by omega
  refine ⟨_,Bu hl,⟨by omega,by omega⟩,by rw [Ab];omega,rfl,by rw [Bb],?_⟩;rw [Bm (by omega),Ab,Bl];exact hK hl _ rfl ⟨by rw [Bb];exact h1,Rk hl h1 h2⟩
 ·have:j=xs.length:=by omega
  subst this;rw [Az,<-h1,Az] at h2;rw [Cl,h2]
theorem vH:Ds Try.prog 14 Tz:=
 Ds.cW Qo Ce mixed Try.func14 (by kernel_rfl) (by kernel_rfl) λx h=>Am3 x.1 h
theorem Agn (xs:List (List Int)) (h:Kw xs):fnMW Rw (look [(14,Tz)]) kW Try.f47 (xs,()) (λ(z:(List (List Int)×Unit)×Unit)=>z=((xs,()),())):=by
 obtain ⟨h,h4⟩:=h;refine Eq.mp (Ahg xs _) ?_;refine ⟨⟨by omega,by show (xs.length:Int)<(4294967296:Int)+1;omega⟩,rfl,rfl,rfl,?_⟩;refine Bt xs.length (λv=>v.1) (λj v=>v.2.1.length=xs.length/\v.2.1.take j=xs.take j) rfl ⟨by simp,by simp⟩ ?_;rintro j ⟨i,ys,⟨⟩⟩ K hj hi ⟨h1,h2⟩ hK;dsimp only at hi h1 h2⊢;subst hi;refine Br.dec (λhl=>?_) λhl=>?_
 ·have hl:j<xs.length:=by omega
  refine ⟨_,Bu hl,_,Ac (h4 _ (Ah hl)),⟨by omega,by omega⟩,by rw [Ab];omega,rfl,by rw [Bb],?_⟩;rw [Bm (by omega),Ab,Bl];dsimp only;rw [Cl];exact hK hl _ rfl ⟨by rw [Bb];exact h1,Rk hl h1 h2⟩
 ·have:j=xs.length:=by omega
  subst this;rw [Az,<-h1,Az] at h2;rw [Cl,h2]
theorem JO:Ds Try.prog 47 kW:=
 Ds.cW Qo (Ic vH Ce) mixed Try.func47 (by kernel_rfl) (by kernel_rfl) λx h=>Agn x.1 h
theorem IP (n:Int) (s:ByteArray) (b:List (List Int)) (h:Fo (n,s,b,())):fnMW Rw (look [(47,kW)]) Qa Try.f13 (n,s,b,()) (λ(z:(Int×ByteArray×List (List Int)×Unit)×Unit)=>z=((n,s,b,()),())):=by
 refine Eq.mp (KR n s b _) ⟨_,Ac h.2,?_⟩;simp only [Cl]
theorem ss:Ds Try.prog 13 Qa:=
 Ds.cW Qo (Ic JO Ce) mixed Try.func13 (by kernel_rfl) (by kernel_rfl) λx h=>IP x.1 x.2.1 x.2.2.1 h
theorem Jv (a:List Int):Oj a a=true:=by simp [Oj]
theorem Ad2 {n:Nat} {room:Int} (h: ¬pS n room<0):pS n room=room-n/\(n:Int)<=room:=by
 unfold pS at*;split at h
 ·exact absurd (show (-1:Int)<0 by decide) h
 ·rename_i h1;rw [Ai h1];exact ⟨rfl,by omega⟩
theorem JW: ∀(xs:List (List Int)) (room:Int),0<=room-> ¬JV xs room<0->JV xs room=room-Gh xs
 | [],room,_,_=>by simp [JV,Gh]
 |r::xs,room,h0,h=>by
  simp only [JV,Gh] at h⊢;split at h
  ·exact absurd (show (-1:Int)<0 by decide) h
  ·rename_i h1;rw [Ai h1];have e1:=Ad2 (n:=r.length) h1;have e1:oA r room=room-r.length/\(r.length:Int)<=room:=e1;rw [JW xs _ (by rw [e1.1];omega) h,e1.1];omega
theorem Ad0 {xs:List (List Int)} {room:Int} (h: ¬eb xs room<0):eb xs room=room-xs.length-Gh xs:=by
 unfold eb at*;split at h
 ·exact absurd (show (-1:Int)<0 by decide) h
 ·rename_i h1;rw [Ai h1];have e1:=Ad2 h1;rw [JW xs _ (by rw [e1.1];omega) h,e1.1]
theorem KW (k:Int) (n:Nat):List.take n (List.drop 0 (Lx k n))=Lx k n:=by rw [Cw,Jh (by rw [Ok];exact Ap _)]
theorem sJ:low 1:=⟨by decide,by decide⟩
theorem px {b:Bool} {P:Prop} (h:(!(b==b))=true):P:=by simp at h
noncomputable abbrev Qk:Spec:=Ho (.pair tL .unit) tL false true (λx=>short x.1) (λx=>x.1)
theorem QQ (xs:List Int) (P:List Int->Prop):(0=0/\0=([]:List Int).length/\0+xs.length<=Db/\P (List.take ([]++xs).length (List.drop 0 ([]++xs))))=fnW Hf (look []) Qk Try.f92 (xs,()) P:=by kernel_rfl
theorem ON (xs:List Int) (h:short xs):fnW Hf (look []) Qk Try.f92 (xs,()) (λ(z:List Int)=>z=xs):=by
 unfold short at h;refine Eq.mp (QQ xs _) ⟨rfl,rfl,by show 0+xs.length<=4294967296;omega,?_⟩;simp only [Cl,Om]
theorem jV:Sound Try.prog 92 Qk:=
 Sound.Ho Ez Ce mixed Try.func92 (by kernel_rfl) (by kernel_rfl) λx h=>ON x.1 h
def Tq (xs:List Int):ByteArray:=bytesOf (xs.map λx=>IntKind.u8.wrap x)
noncomputable abbrev Iw:Spec:=Ho (.pair tL .unit) .str false true (λx=>short x.1) (λx=>Tq x.1)
def oG (ps:List (List Int)) (p:List Int):Int:=Ik (λq=>decide (q=p)) ps 0
theorem QW (xs:List Int) (P:ByteArray->Prop):(((0:Int)<=(↑xs.length:Int)/\(↑xs.length:Int)<(↑Db:Int)+(1:Int))/\(↑xs.length:Int)=(↑xs.length:Int)/\0=0/\(List.replicate (↑xs.length:Int).toNat (Int.ofNat (nat_lit 0))).length=(List.replicate (↑xs.length:Int).toNat (Int.ofNat (nat_lit 0))).length/\Dh (λ(v2:Int×List Int×PUnit) (k3:Int×List Int×PUnit->Prop)=>Br (decide (v2.1<(↑xs.length:Int))) (∃(y4:Int),idx xs v2.1=some y4/\((0:Int)<=v2.1/\v2.1<(↑v2.2.1.length:Int))/\0+v2.1.toNat<v2.2.1.length/\0=0/\v2.2.1.length=(v2.2.1.set (0+v2.1.toNat) (IntKind.u8.wrap y4)).length/\k3 (IntKind.i64.wrap (v2.1+(1:Int)),v2.2.1.set (0+v2.1.toNat) (IntKind.u8.wrap y4),())) (P (bytesOf (List.take v2.2.1.length (List.drop 0 v2.2.1))))) ((0:Int),List.replicate (↑xs.length:Int).toNat (Int.ofNat (nat_lit 0)),PUnit.unit))=fnW Hf (look []) Iw Try.f24 (xs,()) P:=by kernel_rfl
theorem OV (xs:List Int) (h:short xs):fnW Hf (look []) Iw Try.f24 (xs,()) (λ(z:ByteArray)=>z=Tq xs):=by
 unfold short at h;refine Eq.mp (QW xs _) ?_;refine ⟨⟨by omega,by show (xs.length:Int)<(4294967296:Int)+1;omega⟩,rfl,rfl,rfl,?_⟩
 have Ra:(xs.map λx=>IntKind.u8.wrap x).length=xs.length:=by simp
 refine Bt xs.length (λv=>v.1) (λj v=>v.2.1.length=(xs.map λx=>IntKind.u8.wrap x).length/\v.2.1.take j=(xs.map λx=>IntKind.u8.wrap x).take j) rfl ⟨by rw [Ra];simp,by simp⟩ ?_;rintro j ⟨i,ys,⟨⟩⟩ K hj hi ⟨h1,h2⟩ hK;dsimp only at hi h1 h2⊢;subst hi;refine Br.dec (λhl=>?_) λhl=>?_
 ·have hl:j<xs.length:=by omega
  refine ⟨_,Bu hl,⟨by omega,by omega⟩,by rw [Ab];omega,rfl,by rw [Bb],?_⟩;rw [Bm (by omega),Ab,Bl]
  have Mr:j<(xs.map λx=>IntKind.u8.wrap x).length:=by rw [Ra];exact hl
  have e:IntKind.u8.wrap xs[j]=(xs.map λx=>IntKind.u8.wrap x)[j]:=by simp
  rw [e];exact hK hl _ rfl ⟨by rw [Bb];exact h1,Rk Mr h1 h2⟩
 ·have:j=xs.length:=by omega
  subst this;rw [<-Ra,Az,<-h1,Az] at h2;rw [Cw,Az,h2];rfl
theorem jZ:Sound Try.prog 24 Iw:=
 Sound.Ho Ez Ce mixed Try.func24 (by kernel_rfl) (by kernel_rfl) λx h=>OV x.1 h
theorem ij {α:Type} (P:α->Bool) (y:α): ∀(l:List α) (i:Int),0<=i->Ik P (l++ [y]) i=if Ik P l i<0 then (if P y=true then i+l.length else-1) else Ik P l i
 | [],i,_=>by simp [Ik]
 |x::r,i,h=>by
  simp only [Ka,Ik,Aw];split
  ·rw [Ai (by omega)]
  ·rw [ij P y r (i+1) (by omega),show i+1+(r.length:Int)=i+((r.length+1:Nat):Int) by push_cast;omega]
theorem BI (ps:List (List Int)) (q p:List Int):oG (ps++ [q]) p=if oG ps p<0 then (if q=p then (ps.length:Int) else-1) else oG ps p:=by
 unfold oG;rw [ij _ _ _ _ (Ku 0)];simp only [Wo,Int.zero_add]
def Ya (p:List Int):Prop:= ∀x∈p,0<=x/\x<256
theorem ZS {x y:Int} (hx:0<=x/\x<256) (hy:0<=y/\y<256) (h:UInt8.ofNat (IntKind.u8.wrap x).toNat=UInt8.ofNat (IntKind.u8.wrap y).toNat):x=y:=by
 have h:=Dz UInt8.toNat h;simp only [IntKind.wrap_u8,UInt8.toNat_ofNat'] at h;omega
theorem bytes_inj: ∀(p q:List Int),Ya p->Ya q->(p.map λx=>UInt8.ofNat (IntKind.u8.wrap x).toNat)=(q.map λx=>UInt8.ofNat (IntKind.u8.wrap x).toNat)->p=q
 | [],[],_,_,_=>rfl
 | [],_::_,_,_,h=>by simp at h
 |_::_,[],_,_,h=>by simp at h
 |x::p,y::q,hp,hq,h=>by
  simp only [Cb,Hi] at h;rw [ZS (hp x (by simp)) (hq y (by simp)) h.1,bytes_inj p q (λz hz=>hp z (by simp [hz])) (λz hz=>hq z (by simp [hz])) h.2]
theorem key_inj {p q:List Int} (hp:Ya p) (hq:Ya q) (h:Tq p=Tq q):p=q:=by
 refine bytes_inj p q hp hq ?_;simp only [Tq,bytesOf,ByteArray.mk.injEq,List.map_map] at h;have h:=Dz Array.toList h;simpa [Function.comp_def] using h
def KM (m:ByteArray->Option Int) (ps:List (List Int)):Prop:= ∀p,Ya p->m (Tq p)=if oG ps p<0 then none else some (oG ps p)
theorem KM.nil:KM (λ_=>none) []:= λp _=>by
 rw [Ac (by unfold oG;simp [Ik])]
theorem KM.add {m:ByteArray->Option Int} {ps:List (List Int)} {q:List Int} (h:KM m ps) (hq:Ya q) (hn:oG ps q<0):KM (gR m (Tq q) (ps.length:Int)) (ps++ [q]):=by
 intro p hp;rw [BI];unfold gR
 by_cases e:p=q
 ·subst e;rw [Ac rfl,Ac hn,Ac rfl,Ai (by omega)]
 ·rw [Ai (λhk=>e (key_inj hp hq hk)),h p hp];have e': ¬q=p:= λh=>e h.symm;rw [Ai e']
  by_cases NG:oG ps p<0
  ·rw [Ac NG,Ac NG,Ac (by decide)]
  ·rw [Ai NG,Ai NG,Ai NG]
theorem Afa {α:Type} {xs:List α} {j:Nat} (h:j<xs.length) (d:α):xs.getD j d=xs[j]:=by
 rw [Al,Ad h];rfl
noncomputable abbrev Hb:Spec:=Ho (.pair Gi .unit) tL false true (λx=>List.length x.1.2.2.1<=8) (λx=>Aq (List.length x.1.2.2.1))
abbrev oV:Type:=Int×Int×ByteArray×List (List Int)×List Int×PUnit
theorem KO (p:Int×ByteArray×List (List Int)×Unit) (P:List Int->Prop):(0=0/\0=([]:List Int).length/\Dh (λ(v2:oV) (k3:oV->Prop)=>Br (decide (v2.1<=(↑v2.2.2.2.1.length:Int))) (0=0/\v2.2.2.2.2.1.length=v2.2.2.2.2.1.length/\v2.2.2.2.2.1.length+(List.take 2 (List.drop 0 [v2.1,IntKind.i64.wrap ((0:Int)-v2.1)])).length<=Db/\0=0/\(v2.2.2.2.2.1++List.take 2 (List.drop 0 [v2.1,IntKind.i64.wrap ((0:Int)-v2.1)])).length=(v2.2.2.2.2.1++List.take 2 (List.drop 0 [v2.1,IntKind.i64.wrap ((0:Int)-v2.1)])).length/\k3 (IntKind.i64.wrap (v2.1+(1:Int)),v2.2.1,v2.2.2.1,v2.2.2.2.1,v2.2.2.2.2.1++List.take 2 (List.drop 0 [v2.1,IntKind.i64.wrap ((0:Int)-v2.1)]),())) (P (List.take v2.2.2.2.2.1.length (List.drop 0 v2.2.2.2.2.1)))) ((1:Int),p.1,p.2.1,p.2.2.1,[],PUnit.unit))=fnW Hf (look []) Hb Try.f44 (p,()) P:=by kernel_rfl
theorem IK (p:PP) (h:List.length p.2.2.1<=8):fnW Hf (look []) Hb Try.f44 (p,()) (λ(z:List Int)=>z=Aq (List.length p.2.2.1)):=by
 refine Eq.mp (KO p _) ⟨rfl,rfl,?_⟩;refine Dh.mk (λv=> ∃j:Nat,j<=List.length p.2.2.1/\v=((j:Int)+1,p.1,p.2.1,p.2.2.1,Aq j,())) (λv=>List.length p.2.2.1+1-v.1.toNat) ⟨0,Iz _,rfl⟩ ?_;rintro _ ⟨j,hj,rfl⟩;dsimp only;refine Br.dec (λhl=>?_) λhl=>?_
 ·refine ⟨rfl,rfl,?_,rfl,rfl,⟨j+1,by omega,?_⟩,?_⟩
  ·show (Aq j).length+2<=4294967296;rw [Ov];omega
  ·rw [ct,Co (n:=(j:Int)+1+1) (by omega) (by omega),Co (n:=0-((j:Int)+1)) (by omega) (by omega),Int.zero_sub];rfl
  ·rw [Co (by omega) (by omega)];omega
 ·have:j=List.length p.2.2.1:=by omega
  subst this;rw [Cl]
theorem Qw:Sound Try.prog 44 Hb:=
 Sound.Ho Ez Ce mixed Try.func44 (by kernel_rfl) (by kernel_rfl) λx h=>IK x.1 h
theorem Ad1 {p:PP} {room:Int} (hr:roomy room) (h: ¬jA p room<0):(Gh p.2.2.1:Int)<=room-jA p room/\roomy (jA p room):=by
 unfold jA at h⊢;split at h
 ·exact absurd (show (-1:Int)<0 by decide) h
 ·rename_i h1;rw [Ai h1];split at h
  ·exact absurd (show (-1:Int)<0 by decide) h
  ·rename_i h2;rw [Ai h2];have e2:=Ad0 h2;obtain ⟨r1,r2⟩:=hr;unfold roomy;omega
def AH (v:Int):List Int->Nat
 | []=>0
 |x::r=>if x>v then AH v r+1 else 0
def Ag5 (v:Int) (t:List Int):Option (List Int):=if AH v t=0 then none else some (Ef t ((AH v t-1:Nat):Int)::(t.set (AH v t-1) v).reverse)
def pR:List Int->Option (List Int)
 | []=>none
 |v::t=>match pR t with
  |some t'=>some (v::t')
  |none=>Ag5 v t
def rE (xs:List Int) (o n i k:Nat):Option Int:=if o<=k/\k<o+n/\(k<o+i\/o+n<=k+i) then xs[o+n-1-(k-o)]? else xs[k]?
def ow (xs:List Int) (o n:Nat):List Int:=List.take o xs++(List.take n (List.drop o xs)).reverse++List.drop (o+n) xs
noncomputable abbrev Zj:MSpec:=cW [none] [(true, .part tI 2)] false [] [] (λx=>short x.1.1/\x.1.2.1+x.1.2.2<=List.length x.1.1) (λx=>((),(ow x.1.1 x.1.2.1 x.1.2.2,())))
noncomputable abbrev Kn:MSpec:=cW [none] [(false, .Ia tL)] false [none] [rL] (λx=>short x.1) (λx=>((x.1,()),()))
theorem KI (xs:List Int) (P:((List Int×Unit)×Unit)->Prop):(0=0/\0=([]:List Int).length/\0+xs.length<=Db/\P ((List.take ([]++xs).length (List.drop 0 ([]++xs)),()),()))=fnMW Rw (look []) Kn Try.f92 (xs,()) P:=by kernel_rfl
theorem YA (a:List Int×Nat×Nat) (P:(Unit×List Int×Unit)->Prop):(a.2.1=a.2.1/\a.2.2=a.2.2/\Dh (λ(v2:Int×Int×List Int×PUnit) (k3:Int×Int×List Int×PUnit->Prop)=>Br (decide (v2.1<v2.2.1)) (((0:Int)<=v2.2.1/\v2.2.1<(↑a.2.2:Int))/\ ∃(y4:Int),v2.2.2.1[a.2.1+v2.2.1.toNat]?=some y4/\((0:Int)<=v2.1/\v2.1<(↑a.2.2:Int))/\ ∃(y5:Int),v2.2.2.1[a.2.1+v2.1.toNat]?=some y5/\((0:Int)<=v2.1/\v2.1<(↑a.2.2:Int))/\a.2.1+v2.1.toNat<v2.2.2.1.length/\((0:Int)<=v2.2.1/\v2.2.1<(↑a.2.2:Int))/\a.2.1+v2.2.1.toNat<(v2.2.2.1.set (a.2.1+v2.1.toNat) y4).length/\a.2.1=a.2.1/\a.2.2=a.2.2/\k3 (IntKind.i64.wrap (v2.1+(1:Int)),IntKind.i64.wrap (v2.2.1-(1:Int)),(v2.2.2.1.set (a.2.1+v2.1.toNat) y4).set (a.2.1+v2.2.1.toNat) y5,())) (P ((),v2.2.2.1,()))) ((0:Int),IntKind.i64.wrap ((↑a.2.2:Int)-(1:Int)),a.1,PUnit.unit))=fnMW Amh (look []) Zj Try.f82 (a,()) P:=by kernel_rfl
theorem yo {xs:List Int} {o n:Nat} (h:o+n<=xs.length) (k:Nat):(ow xs o n)[k]?=if o<=k/\k<o+n then xs[o+n-1-(k-o)]? else xs[k]?:=by
 unfold ow
 have l1:(List.take o xs).length=o:=by rw [Dx];omega
 have l2:(List.take n (List.drop o xs)).reverse.length=n:=by rw [List.length_reverse,Dx,Zt];omega
 rw [Bn]
 by_cases h1:k<o
 ·rw [Au (by omega),Ai (by omega),List.getElem?_take_of_lt h1]
 ·rw [As (by omega),l1]
  by_cases h2:k<o+n
  ·rw [Au (by omega),Ac ⟨by omega,h2⟩,List.getElem?_reverse (by rw [Dx,Zt];omega)];rw [Dx,Zt,List.getElem?_take_of_lt (by omega),Cp]
   congr 1
   omega
  ·rw [As (by omega),l2,Ai (by omega),Cp]
   congr 1
   omega
theorem WI (a:List Int×Nat×Nat) (h:short a.1/\a.2.1+a.2.2<=a.1.length):fnMW Amh (look []) Zj Try.f82 (a,()) (λ(z:Unit×List Int×Unit)=>z=((),(ow a.1 a.2.1 a.2.2,()))):=by
 obtain ⟨xs,o,n⟩:=a;obtain ⟨hs,hn⟩:=h;dsimp only at hs hn;unfold short at hs;refine Eq.mp (YA (xs,o,n) _) ⟨rfl,rfl,?_⟩;dsimp only
 refine Dh.mk (λv=> ∃i:Nat,v.1=i/\v.2.1=(n:Int)-1-i/\2*i<=n/\v.2.2.1.length=xs.length/\ ∀k,v.2.2.1[k]?=rE xs o n i k) (λv=>n-v.1.toNat)
  ⟨0,rfl,by rw [Co (by omega) (by omega)];simp,by omega,rfl,λk=>by unfold rE;rw [Ai (by omega)]⟩ ?_
 rintro ⟨i',j',ys,⟨⟩⟩ ⟨i,h1,h2,h3,h4,h5⟩;dsimp only at h1 h2 h4 h5⊢;subst h1 h2;refine Br.dec (λhl=>?_) λhl=>?_
 ·have fU:i<n-1-i:=by omega
  have hj:((n:Int)-1-i).toNat=n-1-i:=by omega
  have g1:ys[o+(n-1-i)]?=xs[o+(n-1-i)]?:=by rw [h5];unfold rE;rw [Ai (by omega)]
  have g2:ys[o+i]?=xs[o+i]?:=by rw [h5];unfold rE;rw [Ai (by omega)]
  have k1:o+(n-1-i)<xs.length:=by omega
  have k2:o+i<xs.length:=by omega
  rw [hj,Ab];refine ⟨⟨by omega,by omega⟩,_,g1.trans (Ad k1),⟨by omega,by omega⟩,_,g2.trans (Ad k2),⟨by omega,by omega⟩,by omega,⟨by omega,by omega⟩,by rw [Bb];omega,rfl,rfl,?_⟩;rw [Co (by omega) (by omega),Co (by omega) (by omega)];refine ⟨⟨i+1,by push_cast;omega,by push_cast;omega,by omega,by rw [Bb,Bb];exact h4,λk=>?_⟩,by omega⟩
  by_cases e1:k=o+(n-1-i)
  ·subst e1;rw [aQ (by rw [Bb];omega)];unfold rE;rw [Ac (by omega),<-Ad k2]
   congr 1;omega
  ·rw [List.getElem?_set_ne (Ha e1)]
   by_cases e2:k=o+i
   ·subst e2;rw [aQ (by omega)];unfold rE;rw [Ac (by omega),<-Ad k1]
    congr 1;omega
   ·rw [List.getElem?_set_ne (Ha e2),h5];unfold rE
    by_cases e3:o<=k/\k<o+n/\(k<o+i\/o+n<=k+i)
    ·rw [Ac e3,Ac (by omega)]
    ·rw [Ai e3,Ai (by omega)]
 ·have:ys=ow xs o n:=by
   refine List.ext_getElem? λk=>?_;rw [h5,yo hn];unfold rE
   by_cases e:o<=k/\k<o+n
   ·rw [Ac e];split
    ·rfl
    ·have:k=o+n-1-(k-o):=by omega
     rw [<-this]
   ·rw [Ai e,Ai (by omega)]
  rw [this]
theorem xl:Ds Try.prog 82 Zj:=
 Ds.cW Ami Ce mixed Try.func82 (by kernel_rfl) (by kernel_rfl) λx h=>WI x.1 h
theorem HS {s s':List Int} (h:pR s=some s'): ∀pre:List Int,pR (pre++s)=some (pre++s')
 | []=>h
 |v::p=>by rw [Ka,pR,HS h p];rfl
theorem Agt {α:Type} (pre:List α) (v a:α) (t:List α):(pre++v::t).set pre.length a=pre++a::t:=by
 rw [List.set_append,Ai (by omega)];simp
theorem IG (xs:List Int) (h:short xs):fnMW Rw (look []) Kn Try.f92 (xs,()) (λ(z:(List Int×Unit)×Unit)=>z=((xs,()),())):=by
 unfold short at h;refine Eq.mp (KI xs _) ⟨rfl,rfl,by show 0+xs.length<=4294967296;omega,?_⟩;simp only [Cl,Om]
theorem sk:Ds Try.prog 92 Kn:=
 Ds.cW Qo Ce mixed Try.func92 (by kernel_rfl) (by kernel_rfl) λx h=>IG x.1 h
inductive Run:List Int->List (List Int)->List Int->Prop where
 |one (a:List Int):Run a [a] a
 |more {a c b:List Int} {L:List (List Int)} :pR a=some c->Run c L b->Run a (a::L) b
theorem Run.cons {a b:List Int} {L:List (List Int)} (h:Run a L b) (v:Int):Run (v::a) (L.map (v:: ·)) (v::b):=by
 induction h with
 |one a=>exact .one _
 |more h3 _ ih=>exact .more (HS h3 [v]) ih
theorem Run.head {a b:List Int} {L:List (List Int)} (h:Run a L b): ∃M,L=a::M:=by
 cases h with
 |one=>exact ⟨_,rfl⟩
 |more _ _=>exact ⟨_,rfl⟩
theorem Run.at {a b:List Int} {L:List (List Int)} (h:Run a L b): ∀j (hj:j<L.length),(∀h2:j+1<L.length,pR L[j]=some L[j+1])/\(j+1=L.length->L[j]=b):=by
 induction h with
 |one a=>
  intro j hj;simp only [Bp] at hj
  have:j=0:=by omega
  subst this;exact ⟨λh2=>by simp at h2,λ_=>rfl⟩
 |more h3 h4 ih=>
  intro j hj;rcases j with _|j
  ·obtain ⟨M,hM⟩:=h4.head;refine ⟨λh2=>?_,λh2=>?_⟩
   ·simp only [List.getElem_cons_zero,List.getElem_cons_succ];subst hM;exact h3
   ·subst hM;simp at h2
  ·have:=ih j (by simpa using hj);refine ⟨λh2=>?_,λh2=>?_⟩
   ·simp only [List.getElem_cons_succ];exact this.1 (by simpa using h2)
   ·simp only [List.getElem_cons_succ];exact this.2 (by simpa using h2)
def Fp:List Int->List Int->Int
 | [],[]=>0
 | [],_::_=> -1
 |_::_,[]=>1
 |x::a,y::b=>if x<y then-1 else if x>y then 1 else Fp a b
def gg (a b:List Int):Bool:=decide (Fp a b<0)
noncomputable abbrev qe:Spec:=Ho (.pair (.oslice tI) .unit) tL false true (λx=>short (x.1.getD [])) (λx=>x.1.getD [])
noncomputable abbrev oN:Spec:=Ho (.pair tL .unit) tL false true (λx=>short x.1) (λx=>x.1)
noncomputable abbrev Zh:Spec:=Ho (.pair tL (.pair tL .unit)) .bool false true (λx=>short x.1/\List.length x.1=List.length x.2.1) (λx=>gg x.1 x.2.1)
theorem XQ (xs:Option (List Int)) (P:List Int->Prop):(Br xs.isNone (P (List.take 0 (List.drop 0 []))) (0=0/\0=([]:List Int).length/\0+(xs.getD []).length<=Db/\P (List.take ([]++xs.getD []).length (List.drop 0 ([]++xs.getD [])))))=fnW Hf (look []) qe Try.f124 (xs,()) P:=by kernel_rfl
theorem QT (a b:List Int) (P:Bool->Prop):(Dh (λ(v3:Int×PUnit) (k4:Int×PUnit->Prop)=>Br (decide (v3.1<(↑a.length:Int))) (∃(y5:Int),idx a v3.1=some y5/\ ∃(y6:Int),idx b v3.1=some y6/\Br (y5 !=y6) (∃(y7:Int),idx a v3.1=some y7/\ ∃(y8:Int),idx b v3.1=some y8/\P (decide (y7<y8))) (k4 (IntKind.i64.wrap (v3.1+(1:Int)),()))) (P false)) ((0:Int),PUnit.unit))=fnW Hf (look []) Zh Try.f98 (a,b,()) P:=by kernel_rfl
theorem Sound.ofO {P:Program} {f:FuncId} {e:Ty} {r res:Ty} {Jy fresh:Bool} {pre:(Ty.pair (.oslice e) r).den->Prop} {val:(Ty.pair (.oslice e) r).den->res.den} {uR:(Ty.pair (.slice e) r).den->Prop} {Ado:(Ty.pair (.slice e) r).den->res.den}
  (h:Sound P f (Go.Proofs.Ytfgfigkbgecfnaa.Ho (.pair (.oslice e) r) res Jy fresh pre val))
  (hp: ∀(o:Option (List e.den)) (y:r.den),uR (o.getD [],y)->pre (o,y)/\val (o,y)=Ado (o.getD [],y)):Sound P f (Go.Proofs.Ytfgfigkbgecfnaa.Ho (.pair (.slice e) r) res Jy fresh uR Ado):=by
 refine ⟨h.enter,λw S vs x y hS h2 h5=>?_⟩;obtain ⟨xs,rest⟩:=x
 cases vs with
 |nil=>exact h2.elim
 |cons u us=>
  obtain ⟨h7,h8⟩:=h2;obtain ⟨ox,h9,rfl⟩:=h7.told
  have sf:uR (ox.getD [],rest):=Bz λhn=>by
   have:(Go.Proofs.Ytfgfigkbgecfnaa.Ho (.pair (.slice e) r) res Jy fresh uR Ado).fn (ox.getD [],rest)=none:=Ai hn;rw [this] at h5;cases h5
  obtain ⟨k1,k2⟩:=hp ox rest sf;have hv:(Go.Proofs.Ytfgfigkbgecfnaa.Ho (.pair (.slice e) r) res Jy fresh uR Ado).fn (ox.getD [],rest)=some (Ado (ox.getD [],rest)):=Ac sf;rw [hv] at h5;have h5:=Bi h5;exact h.calls w S (u::us) (ox,rest) y hS ⟨h9,h8⟩ ((Ac k1).trans (by rw [k2];exact Dz some h5))
theorem VX (xs:Option (List Int)) (h:short (xs.getD [])):fnW Hf (look []) qe Try.f124 (xs,()) (λ(z:List Int)=>z=xs.getD []):=by
 unfold short at h;refine Eq.mp (XQ xs _) ⟨λhn=>?_,λ_=>⟨rfl,rfl,by show 0+(xs.getD []).length<=4294967296;omega,?_⟩⟩
 ·cases xs with
  |none=>rfl
  |some y=>cases hn
 ·simp only [Cl,Om]
theorem xd:Sound Try.prog 124 qe:=
 Sound.Ho Ez Ce mixed Try.func124 (by kernel_rfl) (by kernel_rfl) λx h=>VX x.1 h
theorem CA:Sound Try.prog 124 oN:=Sound.ofO xd λ_ _ h=>⟨h,rfl⟩
theorem OR (a b:List Int) (h:short a/\a.length=b.length):fnW Hf (look []) Zh Try.f98 (a,b,()) (λ(z:Bool)=>z=gg a b):=by
 obtain ⟨ha,hb⟩:=h;unfold short at ha;refine Eq.mp (QT a b _) ?_;refine Bt a.length (λv=>v.1) (λj _=>Fp (a.drop j) (b.drop j)=Fp a b) rfl (by simp) ?_;rintro j ⟨i,⟨⟩⟩ K hj hi hR2 hK;dsimp only at hi⊢;subst hi;refine Br.dec (λhl=>?_) λhl=>?_
 ·have hl:j<a.length:=by omega
  have hlb:j<b.length:=by omega
  rw [Ft hl,Ft hlb] at hR2;simp only [Fp] at hR2;refine ⟨_,Bu hl,_,Bu hlb,⟨λIi=>?_,λIi=>?_⟩⟩
  ·refine ⟨_,Bu hl,_,Bu hlb,?_⟩
   have Ii:a[j]≠b[j]:=by simpa using Ii
   unfold gg;rw [<-hR2]
   by_cases h1:a[j]<b[j]
   ·rw [Ac h1];simp [h1]
   ·rw [Ai h1,Ac (by omega)];simp [h1]
  ·have Ii:a[j]=b[j]:=by simpa using Ii
   rw [Ai (by omega),Ai (by omega)] at hR2;rw [Bm (by omega)];exact hK hl _ rfl hR2
 ·have:j=a.length:=by omega
  subst this;rw [Zr,List.drop_eq_nil_of_le (by omega)] at hR2;unfold gg;rw [<-hR2];rfl
theorem vC:Sound Try.prog 98 Zh:=
 Sound.Ho Ez Ce mixed Try.func98 (by kernel_rfl) (by kernel_rfl) λx h=>OR x.1 x.2.1 h
abbrev SS:Type:=List (List Int)×List Int×List Int×Bool×Unit
abbrev rLS:CK:= .row tL 33
abbrev rN:CK:= .row tI 3
def Gy (L:List (List Int)) (La:List Int) (s:List Int):Nat:=(La.takeWhile λi=>gg (L.getD i.toNat []) s).length
structure Gp (m:Nat) (L:List (List Int)) (La:List Int):Prop where
 eK:L.length<=3000
 len: ∀x∈L,x.length=m
 short:m<=20
 perm:La.Perm (upto L.length)
 sorted:La.Pairwise λi j=>gg (L.getD i.toNat []) (L.getD j.toNat [])=true
def Nr (L:List (List Int)) (s:List Int):Int:=if s∈L then (L.idxOf s:Int) else-1
def Ye (La:List Int) (k:Nat) (x:Int):List Int:=La.take k++x::La.drop k
noncomputable abbrev gF:Spec:=Ho (.pair Qn (.pair tL .unit)) tI false true (λx=>Gp (List.length x.2.1) x.1.1 x.1.2.2.1) (λx=>(Gy x.1.1 x.1.2.2.1 x.2.1:Int))
noncomputable abbrev Ge:Spec:=Ho (.pair Qn (.pair tL .unit)) tI false true (λx=>Gp (List.length x.2.1) x.1.1 x.1.2.2.1) (λx=>Nr x.1.1 x.2.1)
noncomputable abbrev ng:MSpec:=cW [some 4,none,none] [(false,rLS),(false,rL),(false,rN),(false, .Ia .bool),(false, .Ia tL),(false, .Ia tI)] false [some 4] [rLS,rL,rN, .Ia .bool]
 (λx=>Gp (List.length x.2.2.2.2.1) x.1 x.2.2.1/\List.length x.2.1<=3000) (λx=>((x.1++ [x.2.2.2.2.1],x.2.1++ [x.2.2.2.2.2.1],Ye x.2.2.1 (Gy x.1 x.2.2.1 x.2.2.2.2.1) (List.length x.1),x.2.2.2.1,()),()))
def aC (L:List (List Int)):List Int:=(List.range L.length).foldl (λ(S:List Int) (i:Nat)=>Ye S (Gy (L.take i) S (L.getD i [])) (i:Int)) []
def Jm (g:List (List Int)) (x:List Int) (d:Int):List Int->List (List Int)->List Int->List (List Int)×List Int×Bool
 | [],L,D=>(L,D,true)
 |l::ls,L,D=>if Am x (Ax g l)∈L then Jm g x d ls L D else if L.length=3000 then (L,D,false) else Jm g x d ls (L++ [Am x (Ax g l)]) (D++ [d+1])
def Lt (g:List (List Int)) (ls:List Int):Nat->Nat->List (List Int)->List Int->List (List Int)×List Int×Bool
 |0,_,L,D=>(L,D,true)
 |f+1,k,L,D=>if k<L.length then (match Jm g (L.getD k []) (D.getD k 0) ls L D with
  |(L',D',true)=>Lt g ls f (k+1) L' D'
  |(L',D',false)=>(L',D',false)) else (L,D,true)
def Jn (g:List (List Int)) (s:List Int):List (List Int)×List Int×Bool:=Lt g (Aq g.length) 3001 0 [s] [0]
def Bq (g:List (List Int)) (s:List Int):SS:=((Jn g s).1,(Jn g s).2.1,aC (Jn g s).1,(Jn g s).2.2,())
noncomputable abbrev Hu:Spec:=Ho (.pair Gi (.pair tL .unit)) Qn false false (λx=>Da x.1=true/\List.length x.2.1<=20/\ ∀y∈x.2.1,0<=y/\y<x.1.1) (λx=>Bq x.1.2.2.1 x.2.1)
abbrev TW:Type:=Int×Int×List (List Int)×List Int×List Int×Bool×PUnit
theorem Amw (f:List (List Int)×List Int×List Int×Bool×Unit) (s:List Int) (P:Int->Prop):(Dh (λ(v3:TW) (k4:TW->Prop)=>Br (decide (v3.1<v3.2.1)) ((2:Int)≠(0:Int)/\ ∃(y5:Int),idx v3.2.2.2.2.1 (IntKind.i64.wrap ((IntKind.i64.wrap (v3.1+v3.2.1)).tdiv (2:Int)))=some y5/\ ∃(y6:List Int),idx v3.2.2.1 y5=some y6/\ ∃(y7:Bool),Zh.fn (y6,s,())=some y7/\Br y7 (k4 (IntKind.i64.wrap (IntKind.i64.wrap ((IntKind.i64.wrap (v3.1+v3.2.1)).tdiv (2:Int))+(1:Int)),v3.2.1,v3.2.2.1,v3.2.2.2.1,v3.2.2.2.2.1,v3.2.2.2.2.2.1,())) (k4 (v3.1,IntKind.i64.wrap ((IntKind.i64.wrap (v3.1+v3.2.1)).tdiv (2:Int)),v3.2.2.1,v3.2.2.2.1,v3.2.2.2.2.1,v3.2.2.2.2.2.1,()))) (P v3.1)) ((0:Int),(↑f.2.2.1.length:Int),f.1,f.2.1,f.2.2.1,f.2.2.2.1,PUnit.unit))=fnW Hf (look [(98,Zh)]) gF Try.f74 (f,s,()) P:=by kernel_rfl
theorem Ady (f:List (List Int)×List Int×List Int×Bool×Unit) (s:List Int) (P:Int->Prop):(∃(y3:Int),gF.fn ((f.1,f.2.1,f.2.2.1,f.2.2.2.1,()),s,())=some y3/\Br (decide (y3<(↑f.2.2.1.length:Int))) (∃(y4:Int),idx f.2.2.1 y3=some y4/\ ∃(y5:List Int),idx f.1 y4=some y5/\ ∃(y6:Bool),Fh.fn (y5,s,())=some y6/\Br y6 (∃(y7:Int),idx f.2.2.1 y3=some y7/\P y7) (P (-1:Int))) (P (-1:Int)))=fnW Hf (look [(74,gF),(33,Fh)]) Ge Try.f40 (f,s,()) P:=by kernel_rfl
theorem Amv (L:List (List Int)) (D S:List Int) (b:Bool) (s:List Int) (d:Int) (P:((List (List Int)×List Int×List Int×Bool×Unit)×Unit)->Prop):(∃(y7:Int),gF.fn ((List.take L.length (List.drop 0 L),List.take D.length (List.drop 0 D),List.take S.length (List.drop 0 S),b,()),s,())=some y7/\0=0/\S.length=S.length/\S.length+(List.take 1 (List.drop 0 [(0:Int)])).length<=Db/\((0:Int)<=IntKind.i64.wrap (y7+(1:Int))/\IntKind.i64.wrap (y7+(1:Int))<=(↑(S++List.take 1 (List.drop 0 [(0:Int)])).length:Int)/\(↑(S++List.take 1 (List.drop 0 [(0:Int)])).length:Int)<=(↑(S++List.take 1 (List.drop 0 [(0:Int)])).length:Int))/\((0:Int)<=y7/\y7<=(↑(S++List.take 1 (List.drop 0 [(0:Int)])).length:Int)/\(↑(S++List.take 1 (List.drop 0 [(0:Int)])).length:Int)<=(↑(S++List.take 1 (List.drop 0 [(0:Int)])).length:Int))/\((0:Int)<=y7/\y7<(↑(S++List.take 1 (List.drop 0 [(0:Int)])).length:Int))/\0+y7.toNat<(Du (S++List.take 1 (List.drop 0 [(0:Int)])) (0+(IntKind.i64.wrap (y7+(1:Int))).toNat) (List.take ((↑(S++List.take 1 (List.drop 0 [(0:Int)])).length:Int).toNat-(IntKind.i64.wrap (y7+(1:Int))).toNat) (List.take ((↑(S++List.take 1 (List.drop 0 [(0:Int)])).length:Int).toNat-y7.toNat) (List.drop (0+y7.toNat) (S++List.take 1 (List.drop 0 [(0:Int)])))))).length/\0=0/\L.length=L.length/\L.length+(List.take 1 (List.drop 0 [s])).length<=Db/\0=0/\D.length=D.length/\D.length+(List.take 1 (List.drop 0 [d])).length<=Db/\P ((List.take (L++List.take 1 (List.drop 0 [s])).length (List.drop 0 (L++List.take 1 (List.drop 0 [s]))),List.take (D++List.take 1 (List.drop 0 [d])).length (List.drop 0 (D++List.take 1 (List.drop 0 [d]))),List.take (S++List.take 1 (List.drop 0 [(0:Int)])).length (List.drop 0 ((Du (S++List.take 1 (List.drop 0 [(0:Int)])) (0+(IntKind.i64.wrap (y7+(1:Int))).toNat) (List.take ((↑(S++List.take 1 (List.drop 0 [(0:Int)])).length:Int).toNat-(IntKind.i64.wrap (y7+(1:Int))).toNat) (List.take ((↑(S++List.take 1 (List.drop 0 [(0:Int)])).length:Int).toNat-y7.toNat) (List.drop (0+y7.toNat) (S++List.take 1 (List.drop 0 [(0:Int)])))))).set (0+y7.toNat) (↑L.length:Int))),b,()),()))=fnMW Rw (look [(74,gF)]) ng Try.f119 (L,D,S,b,s,d,()) P:=by kernel_rfl
abbrev oX:Type:=Int×Int×ByteArray×List (List Int)×Bool×Bool×List (List Int)×List Int×List Int×List (List Int)×List Int×List Int×PUnit
abbrev JY:Type:=(List (List Int)×List Int×List Int×Bool×PUnit)×PUnit
theorem Ahf (p:Int×ByteArray×List (List Int)×Unit) (s:List Int) (P:(List (List Int)×List Int×List Int×Bool×Unit)->Prop):(∃(y3:List Int),Qk.fn (s,())=some y3/\ ∃(y4:JY),ng.fn ([],[],[],false,y3,(0:Int),())=some y4/\ ∃(y5:List Int),Hb.fn ((p.1,p.2.1,p.2.2.1,()),())=some y5/\0=0/\0=([]:List Int).length/\0=0/\0=([]:List Int).length/\0=0/\0=([]:List Int).length/\0=0/\y4.1.1.length=y4.1.1.length/\0=0/\y4.1.2.1.length=y4.1.2.1.length/\0=0/\y4.1.2.2.1.length=y4.1.2.2.1.length/\Dh (λ(v6:oX) (k7:oX->Prop)=>Br (decide (v6.1<(↑v6.2.2.2.2.2.2.2.2.2.1.length:Int))) (0=0/\v6.2.2.2.2.2.2.1.length=v6.2.2.2.2.2.2.1.length/\0=0/\v6.2.2.2.2.2.2.2.1.length=v6.2.2.2.2.2.2.2.1.length/\0=0/\v6.2.2.2.2.2.2.2.2.1.length=v6.2.2.2.2.2.2.2.2.1.length/\0=0/\v6.2.2.2.2.2.2.2.2.2.1.length=v6.2.2.2.2.2.2.2.2.2.1.length/\0=0/\v6.2.2.2.2.2.2.2.2.2.2.1.length=v6.2.2.2.2.2.2.2.2.2.2.1.length/\0=0/\v6.2.2.2.2.2.2.2.2.2.2.2.1.length=v6.2.2.2.2.2.2.2.2.2.2.2.1.length/\Dh (λ(v8:oX) (k9:oX->Prop)=>Br (decide (v8.1<(↑y5.length:Int))) (((0:Int)<=v6.1/\v6.1<(↑v8.2.2.2.2.2.2.2.2.2.1.length:Int))/\ ∃(No:List Int),v8.2.2.2.2.2.2.2.2.2.1[0+v6.1.toNat]?=some No/\ ∃(Np:Int),idx y5 v8.1=some Np/\ ∃(gU:List Int),Qu.fn ((v8.2.1,v8.2.2.1,v8.2.2.2.1,()),No,Np,())=some gU/\ ∃(Wq:Int),Ge.fn ((List.take v8.2.2.2.2.2.2.2.2.2.1.length (List.drop 0 v8.2.2.2.2.2.2.2.2.2.1),List.take v8.2.2.2.2.2.2.2.2.2.2.1.length (List.drop 0 v8.2.2.2.2.2.2.2.2.2.2.1),List.take v8.2.2.2.2.2.2.2.2.2.2.2.1.length (List.drop 0 v8.2.2.2.2.2.2.2.2.2.2.2.1),v8.2.2.2.2.2.1,()),gU,())=some Wq/\Br (decide (Wq>=(0:Int))) (0=0/\v8.2.2.2.2.2.2.1.length=v8.2.2.2.2.2.2.1.length/\0=0/\v8.2.2.2.2.2.2.2.1.length=v8.2.2.2.2.2.2.2.1.length/\0=0/\v8.2.2.2.2.2.2.2.2.1.length=v8.2.2.2.2.2.2.2.2.1.length/\0=0/\v8.2.2.2.2.2.2.2.2.2.1.length=v8.2.2.2.2.2.2.2.2.2.1.length/\0=0/\v8.2.2.2.2.2.2.2.2.2.2.1.length=v8.2.2.2.2.2.2.2.2.2.2.1.length/\0=0/\v8.2.2.2.2.2.2.2.2.2.2.2.1.length=v8.2.2.2.2.2.2.2.2.2.2.2.1.length/\k9 (IntKind.i64.wrap (v8.1+(1:Int)),v8.2.1,v8.2.2.1,v8.2.2.2.1,v8.2.2.2.2.1,v8.2.2.2.2.2.1,v8.2.2.2.2.2.2.1,v8.2.2.2.2.2.2.2.1,v8.2.2.2.2.2.2.2.2.1,v8.2.2.2.2.2.2.2.2.2.1,v8.2.2.2.2.2.2.2.2.2.2.1,v8.2.2.2.2.2.2.2.2.2.2.2.1,())) (Br ((↑v8.2.2.2.2.2.2.2.2.2.1.length:Int)==(3000:Int)) (P (List.take v8.2.2.2.2.2.2.2.2.2.1.length (List.drop 0 v8.2.2.2.2.2.2.2.2.2.1),List.take v8.2.2.2.2.2.2.2.2.2.2.1.length (List.drop 0 v8.2.2.2.2.2.2.2.2.2.2.1),List.take v8.2.2.2.2.2.2.2.2.2.2.2.1.length (List.drop 0 v8.2.2.2.2.2.2.2.2.2.2.2.1),v8.2.2.2.2.2.1,())) (((0:Int)<=v6.1/\v6.1<(↑v8.2.2.2.2.2.2.2.2.2.2.1.length:Int))/\ ∃(Ry:Int),v8.2.2.2.2.2.2.2.2.2.2.1[0+v6.1.toNat]?=some Ry/\0=0/\v8.2.2.2.2.2.2.2.2.2.1.length=v8.2.2.2.2.2.2.2.2.2.1.length/\0=0/\v8.2.2.2.2.2.2.2.2.2.2.1.length=v8.2.2.2.2.2.2.2.2.2.2.1.length/\0=0/\v8.2.2.2.2.2.2.2.2.2.2.2.1.length=v8.2.2.2.2.2.2.2.2.2.2.2.1.length/\ ∃(Rv:JY),ng.fn (v8.2.2.2.2.2.2.2.2.2.1,v8.2.2.2.2.2.2.2.2.2.2.1,v8.2.2.2.2.2.2.2.2.2.2.2.1,v8.2.2.2.2.2.1,gU,IntKind.i64.wrap (Ry+(1:Int)),())=some Rv/\0=0/\v8.2.2.2.2.2.2.1.length=v8.2.2.2.2.2.2.1.length/\0=0/\v8.2.2.2.2.2.2.2.1.length=v8.2.2.2.2.2.2.2.1.length/\0=0/\v8.2.2.2.2.2.2.2.2.1.length=v8.2.2.2.2.2.2.2.2.1.length/\0=0/\Rv.1.1.length=Rv.1.1.length/\0=0/\Rv.1.2.1.length=Rv.1.2.1.length/\0=0/\Rv.1.2.2.1.length=Rv.1.2.2.1.length/\k9 (IntKind.i64.wrap (v8.1+(1:Int)),v8.2.1,v8.2.2.1,v8.2.2.2.1,v8.2.2.2.2.1,Rv.1.2.2.2.1,v8.2.2.2.2.2.2.1,v8.2.2.2.2.2.2.2.1,v8.2.2.2.2.2.2.2.2.1,Rv.1.1,Rv.1.2.1,Rv.1.2.2.1,())))) (0=0/\v8.2.2.2.2.2.2.1.length=v8.2.2.2.2.2.2.1.length/\0=0/\v8.2.2.2.2.2.2.2.1.length=v8.2.2.2.2.2.2.2.1.length/\0=0/\v8.2.2.2.2.2.2.2.2.1.length=v8.2.2.2.2.2.2.2.2.1.length/\0=0/\v8.2.2.2.2.2.2.2.2.2.1.length=v8.2.2.2.2.2.2.2.2.2.1.length/\0=0/\v8.2.2.2.2.2.2.2.2.2.2.1.length=v8.2.2.2.2.2.2.2.2.2.2.1.length/\0=0/\v8.2.2.2.2.2.2.2.2.2.2.2.1.length=v8.2.2.2.2.2.2.2.2.2.2.2.1.length/\k7 (IntKind.i64.wrap (v6.1+(1:Int)),v8.2.1,v8.2.2.1,v8.2.2.2.1,v8.2.2.2.2.1,v8.2.2.2.2.2.1,v8.2.2.2.2.2.2.1,v8.2.2.2.2.2.2.2.1,v8.2.2.2.2.2.2.2.2.1,v8.2.2.2.2.2.2.2.2.2.1,v8.2.2.2.2.2.2.2.2.2.2.1,v8.2.2.2.2.2.2.2.2.2.2.2.1,()))) ((0:Int),v6.2.1,v6.2.2.1,v6.2.2.2.1,v6.2.2.2.2.1,v6.2.2.2.2.2.1,v6.2.2.2.2.2.2.1,v6.2.2.2.2.2.2.2.1,v6.2.2.2.2.2.2.2.2.1,v6.2.2.2.2.2.2.2.2.2.1,v6.2.2.2.2.2.2.2.2.2.2.1,v6.2.2.2.2.2.2.2.2.2.2.2.1,PUnit.unit)) (P (List.take v6.2.2.2.2.2.2.2.2.2.1.length (List.drop 0 v6.2.2.2.2.2.2.2.2.2.1),List.take v6.2.2.2.2.2.2.2.2.2.2.1.length (List.drop 0 v6.2.2.2.2.2.2.2.2.2.2.1),List.take v6.2.2.2.2.2.2.2.2.2.2.2.1.length (List.drop 0 v6.2.2.2.2.2.2.2.2.2.2.2.1),true,()))) ((0:Int),p.1,p.2.1,p.2.2.1,false,y4.1.2.2.2.1,[],[],[],y4.1.1,y4.1.2.1,y4.1.2.2.1,PUnit.unit))=fnW Amk (look [(92,Qk),(119,ng),(44,Hb),(75,Qu),(40,Ge)]) Hu Try.f95 (p,s,()) P:=by kernel_rfl
theorem tz: ∀ {a b:List Int},Fp a b=0↔a=b
 | [],[]=>by simp [Fp]
 | [],_::_=>by simp [Fp]
 |_::_,[]=>by simp [Fp]
 |x::a,y::b=>by
  simp only [Fp,Hi]
  by_cases h1:x<y
  ·rw [Ac h1];exact ⟨λh=>by omega,λh=>by omega⟩
  ·rw [Ai h1]
   by_cases h2:x>y
   ·rw [Ac h2];exact ⟨λh=>by omega,λh=>by omega⟩
   ·rw [Ai h2,tz];exact ⟨λh=>⟨by omega,h⟩,λh=>h.2⟩
theorem RL: ∀(a b:List Int),Fp b a= -Fp a b
 | [],[]=>by simp [Fp]
 | [],_::_=>by simp [Fp]
 |_::_,[]=>by simp [Fp]
 |x::a,y::b=>by
  simp only [Fp];rcases Int.lt_trichotomy x y with h1|h1|h1
  ·simp [h1,show ¬y<x by omega]
  ·subst h1;simp [RL a b]
  ·simp [h1,show ¬x<y by omega]
theorem xN: ∀ {a b c:List Int},Fp a b<0->Fp b c<0->Fp a c<0
 | [],[],_,h,_=>by simp [Fp] at h
 |_::_,[],_,h,_=>by simp [Fp] at h
 |_,_::_,[],_,h=>by simp [Fp] at h
 | [],_::_,_::_,_,_=>by simp [Fp]
 |x::a,y::b,z::c,h1,h2=>by
  simp only [Fp] at h1 h2⊢
  by_cases e1:x<y
  ·by_cases e2:y<z
   ·rw [Ac (by omega)];omega
   ·rw [Ai e2] at h2
    by_cases e3:y>z
    ·rw [Ac e3] at h2;omega
    ·rw [Ac (by omega)];omega
  ·rw [Ai e1] at h1
   by_cases e2:x>y
   ·rw [Ac e2] at h1;omega
   ·rw [Ai e2] at h1
    by_cases e3:y<z
    ·rw [Ac (by omega)];omega
    ·rw [Ai e3] at h2
     by_cases e4:y>z
     ·rw [Ac e4] at h2;omega
     ·rw [Ai e4] at h2;rw [Ai (by omega),Ai (by omega)];exact xN h1 h2
theorem lt_iff {a b:List Int} :gg a b=true↔Fp a b<0:=Ji
theorem VM {a b c:List Int} (h1:gg a b=true) (h2:gg b c=true):gg a c=true:=lt_iff.2 (xN (lt_iff.1 h1) (lt_iff.1 h2))
theorem mO (a:List Int):gg a a=false:=by
 have:Fp a a=0:=tz.2 rfl;unfold gg;rw [this];rfl
theorem Abk {a b:List Int} (h:gg a b=false) (Ii:a≠b):gg b a=true:=by
 rw [lt_iff,RL a b]
 have h1: ¬Fp a b<0:= λh'=>by rw [lt_iff.2 h'] at h;cases h
 have h2:Fp a b≠0:= λh'=>Ii (tz.1 h');omega
theorem lZ {α:Type} (q:α->Bool): ∀(l:List α),l.Pairwise (λi j=>q j=true->q i=true)-> ∀k (hk:k<l.length),k<(l.takeWhile q).length↔q l[k]=true
 | [],_,k,hk=>by simp at hk
 |a::l,h,k,hk=>by
  obtain ⟨h1,h2⟩:=aR.1 h
  by_cases ha:q a=true
  ·rw [List.takeWhile_cons_of_pos ha];rcases k with _|k
   ·simpa using ha
   ·simp only [Aw,List.getElem_cons_succ,Nat.add_lt_add_iff_right];exact lZ q l h2 k (by simpa using hk)
  ·rw [List.takeWhile_cons_of_neg ha];simp only [Ex,Ea,false_iff];rcases k with _|k
   ·exact ha
   ·simp only [List.getElem_cons_succ];exact λhq=>ha (h1 _ (Ah _) hq)
theorem Gp.uq {m:Nat} {L:List (List Int)} {La:List Int} (h:Gp m L La):La.length=L.length:=by rw [h.perm.length_eq,Uv]
theorem Gp.idx {m:Nat} {L:List (List Int)} {La:List Int} (h:Gp m L La) {k:Nat} (hk:k<La.length):0<=La[k]/\La[k]<L.length:=Nd.1 (h.perm.mem_iff.1 (Ah hk))
theorem Gp.fi {m:Nat} {L:List (List Int)} {La:List Int} (h:Gp m L La) (s:List Int) {k:Nat} (hk:k<La.length):k<Gy L La s↔gg (L.getD La[k].toNat []) s=true:=
 lZ _ La (h.sorted.imp λfU hj=>VM fU hj) k hk
theorem TK (L:List (List Int)) (La s:List Int):Gy L La s<=La.length:=(List.takeWhile_sublist _).length_le
theorem Gp.inj {m:Nat} {L:List (List Int)} {La:List Int} (h:Gp m L La) {i j:Nat} (hi:i<L.length) (hj:j<L.length) (e:L[i]=L[j]):i=j:=by
 have mem: ∀i,i<L.length->(i:Int)∈La:= λi hi=>h.perm.mem_iff.2 (Nd.2 ⟨by omega,by omega⟩);obtain ⟨p,hp,ep⟩:=Bg.1 (mem i hi);obtain ⟨q,hq,eq⟩:=Bg.1 (mem j hj)
 have get: ∀i (hi:i<L.length),L.getD ((i:Int)).toNat []=L[i]:= λi hi=>by rw [Ab,Al,Ad hi];rfl
 rcases Nat.lt_trichotomy p q with h1|h1|h1
 ·have:=Fu.1 h.sorted p q hp hq h1;rw [ep,eq,get i hi,get j hj,e,mO] at this;cases this
 ·subst h1;rw [ep] at eq;omega
 ·have:=Fu.1 h.sorted q p hq hp h1;rw [ep,eq,get i hi,get j hj,e,mO] at this;cases this
theorem Wx {L:List (List Int)} {k:Nat} (h:k<L.length):L.getD k []=L[k]:=by rw [Al,Ad h];rfl
theorem Gp.zk {m:Nat} {L:List (List Int)} {La:List Int} (h:Gp m L La) {s:List Int} :
  (∃hk:Gy L La s<La.length,L.getD La[Gy L La s].toNat []=s/\Nr L s=La[Gy L La s])\/(Nr L s= -1/\ ∀hk:Gy L La s<La.length,L.getD La[Gy L La s].toNat []≠s):=by
 by_cases hm:s∈L
 ·left
  obtain ⟨j,hj,rfl⟩:=Bg.1 hm;obtain ⟨p,hp,ep⟩:=Bg.1 (h.perm.mem_iff.2 (Nd.2 ⟨by omega,by omega⟩):(j:Int)∈La)
  have gj:L.getD La[p].toNat []=L[j]:=by rw [ep,Ab,Wx hj]
  have hs:Gy L La L[j]=p:=by
   have h1: ¬p<Gy L La L[j]:= λh1=>by
    have:=(h.fi L[j] hp).1 h1;rw [gj,mO] at this;cases this
   have h2: ¬Gy L La L[j]<p:= λh2=>by
    have h3:=(h.fi L[j] (k:=Gy L La L[j]) (by omega)).2 (by
     have:=Fu.1 h.sorted (Gy L La L[j]) p (by omega) hp h2
     rw [gj] at this;exact this)
    omega
   omega
  have hx:L.idxOf L[j]=j:=by
   have h1:L.idxOf L[j]<L.length:=Ga hm;exact h.inj h1 hj (Ug h1)
  refine ⟨by omega,?_,?_⟩
  ·simp only [hs];exact gj
  ·unfold Nr;rw [Ac hm,hx];simp only [hs];exact ep.symm
 ·right
  refine ⟨by unfold Nr;rw [Ai hm],λhk e=>hm ?_⟩;have hi:=h.idx hk;rw [Wx (by omega)] at e;rw [<-e];exact Ah _
theorem Ab8 (La:List Int) (k:Nat) (x:Int):(Ye La k x).Perm (x::La):=by
 unfold Ye;refine List.perm_middle.trans (List.Perm.cons x ?_);rw [Ip]
theorem Gp.add {m:Nat} {L:List (List Int)} {La s:List Int} (h:Gp m L La) (hn:s∉L) (hl:s.length=m) (hr:L.length<3000):Gp m (L++ [s]) (Ye La (Gy L La s) L.length):=by
 have FU: ∀i∈La,(L++ [s]).getD i.toNat []=L.getD i.toNat []:= λi hi=>by
  have:=Nd.1 (h.perm.mem_iff.1 hi);rw [Al,Al,Au (by omega)]
 have Aof:(L++ [s]).getD ((L.length:Int)).toNat []=s:=by
  rw [Ab,Al,As (by omega),Nat.sub_self];rfl
 refine ⟨by rw [Av,Bp];omega,λx hx=>?_,h.short,?_,?_⟩
 ·rcases Be.1 hx with hx|hx
  ·exact h.len x hx
  ·rw [Af.1 hx];exact hl
 ·refine (Ab8 _ _ _).trans ?_;rw [Av,Bp,fv];exact (List.Perm.cons _ h.perm).trans (List.perm_append_singleton _ _).symm
 ·unfold Ye;have hs:=h.sorted;rw [<-Ip (Gy L La s) La] at hs;obtain ⟨s1,s2,s3⟩:=eu.1 hs
  have mt: ∀i∈La.take (Gy L La s),i∈La/\gg (L.getD i.toNat []) s=true:= λi hi=>by
   obtain ⟨k,hk,rfl⟩:=Bg.1 hi
   have GC:k<Gy L La s:=by rw [Dx] at hk;omega
   have hk3:k<La.length:=by rw [Dx] at hk;omega
   rw [List.getElem_take];exact ⟨Ah _,(h.fi s hk3).1 GC⟩
  have md: ∀i∈La.drop (Gy L La s),i∈La/\gg s (L.getD i.toNat [])=true:= λi hi=>by
   obtain ⟨k,hk,rfl⟩:=Bg.1 hi;rw [Zt] at hk
   have hk3:Gy L La s+k<La.length:=by omega
   rw [List.getElem_drop];refine ⟨Ah _,Abk ?_ λe=>hn ?_⟩
   ·exact Bool.eq_false_iff.2 λhh=>by
     have:=(h.fi s hk3).2 hh;omega
   ·have hi:=h.idx hk3;rw [Wx (by omega)] at e;rw [<-e];exact Ah _
  refine eu.2 ⟨s1.imp_of_mem λ {a b} ha hb qU=>?_,aR.2 ⟨λb hb=>?_,s2.imp_of_mem λ {a b} ha hb qU=>?_⟩,λa ha b hb=>?_⟩
  ·rw [FU a (mt a ha).1,FU b (mt b hb).1];exact qU
  ·rw [Aof,FU b (md b hb).1];exact (md b hb).2
  ·rw [FU a (md a ha).1,FU b (md b hb).1];exact qU
  ·rcases Bd.1 hb with rfl|hb
   ·rw [Aof,FU a (mt a ha).1];exact (mt a ha).2
   ·rw [FU a (mt a ha).1,FU b (md b hb).1];exact s3 a ha b hb
theorem gJ (L:List (List Int)) (s:List Int):aC (L++ [s])=Ye (aC L) (Gy L (aC L) s) L.length:=by
 unfold aC;rw [Av,Bp,Gc,Fz]
 have e: ∀(is:List Nat) (S:List Int),(∀i∈is,i<L.length)->is.foldl (λ(S:List Int) (i:Nat)=>Ye S (Gy ((L++ [s]).take i) S ((L++ [s]).getD i [])) (i:Int)) S=is.foldl (λ(S:List Int) (i:Nat)=>Ye S (Gy (L.take i) S (L.getD i [])) (i:Int)) S:=by
  intro is
  induction is with
  |nil=>intro S _;rfl
  |cons i is ih=>
   intro S h;have hi:=h i (by simp);rw [Ro,Ro,ih _ λj hj=>h j (At _ hj)]
   congr 2
   rw [List.take_append_of_le_length (by omega),Al,Au hi,<-Al]
 rw [e _ _ λi hi=>Ev.1 hi];simp only [Ro,List.foldl_nil]
 congr 2
 ·rw [List.take_append_of_le_length (Ap _),Az]
 ·rw [Al,As (by omega),Nat.sub_self];rfl
theorem oO {m:Nat} (h:m<=20):Gp m [] []:=⟨by simp,λx hx=>(by cases hx),h,by simp [upto],List.Pairwise.nil⟩
theorem Ab6 {α:Type} {xs:List α} {y:Int} (h0:0<=y) (h:y.toNat<xs.length):idx xs y=some xs[y.toNat]:=by
 unfold idx;rw [Ac h0,Ad h]
theorem Am0 (f:SS) (s:List Int) (h:Gp s.length f.1 f.2.2.1):fnW Hf (look [(98,Zh)]) gF Try.f74 (f,s,()) (λ(z:Int)=>z=(Gy f.1 f.2.2.1 s:Int)):=by
 obtain ⟨L,D,La,b,⟨⟩⟩:=f;dsimp only at h⊢;have hle:=TK L La s;have cU:=h.uq;have wF:=h.eK;refine Eq.mp (Amw (L,D,La,b,()) s _) ?_
 refine Dh.mk (λv=>v.2.2.1=L/\v.2.2.2.2.1=La/\ ∃lo hi:Nat,v.1=lo/\v.2.1=hi/\lo<=hi/\hi<=La.length/\lo<=Gy L La s/\Gy L La s<=hi) (λv=>(v.2.1-v.1).toNat)
  ⟨rfl,rfl,0,La.length,rfl,rfl,by omega,by omega,by omega,hle⟩ ?_
 rintro ⟨lo',cO,L',D',XG,b',⟨⟩⟩ ⟨h1,h2,lo,hi,h3,h4,h5,h6,h7,h8⟩;dsimp only at h1 h2 h3 h4⊢;subst h1 h2 h3 h4;refine Br.dec (λhl=>?_) λhl=>?_
 ·have em:IntKind.i64.wrap ((IntKind.i64.wrap ((lo:Int)+(hi:Int))).tdiv 2)=(((lo+hi)/2:Nat):Int):=by
   rw [Co (n:=(lo:Int)+(hi:Int)) (by omega) (by omega),Int.tdiv_eq_ediv_of_nonneg (by omega),Co (by omega) (by omega)];omega
  rw [em]
  have hm1:(lo+hi)/2<XG.length:=by omega
  have hi1:=h.idx hm1
  have hi2:XG[(lo+hi)/2].toNat<L'.length:=by omega
  have hgd:=Wx hi2;have hlen:=h.len _ (Ah hi2)
  have sG:short L'[XG[(lo+hi)/2].toNat]:=by
   unfold short;have:=h.short;omega
  refine ⟨by decide,_,Bu hm1,_,Ab6 hi1.1 hi2,_,Ac ⟨sG,hlen⟩,⟨λhc=>?_,λhc=>?_⟩⟩
  ·have hc:gg L'[XG[(lo+hi)/2].toNat] s=true:=hc;have hs:=(h.fi s hm1).2 (by rw [hgd];exact hc);rw [Bm (by omega)];exact ⟨⟨rfl,rfl,(lo+hi)/2+1,hi,rfl,rfl,by omega,h6,by omega,h8⟩,by omega⟩
  ·have hc:gg L'[XG[(lo+hi)/2].toNat] s=false:=hc
   have hs: ¬(lo+hi)/2<Gy L' XG s:= λhh=>by
    have:=(h.fi s hm1).1 hh;rw [hgd,hc] at this;cases this
   exact ⟨⟨rfl,rfl,lo,(lo+hi)/2,rfl,rfl,by omega,by omega,h7,by omega⟩,by omega⟩
 ·show (lo:Int)=_;omega
theorem vE:Sound Try.prog 74 gF:=
 Sound.Ho Ez (Bf vC Ce) mixed Try.func74 (by kernel_rfl) (by kernel_rfl) λx h=>Am0 x.1 x.2.1 h
theorem Ac9 (f:SS) (s:List Int) (h:Gp s.length f.1 f.2.2.1):fnW Hf (look [(74,gF),(33,Fh)]) Ge Try.f40 (f,s,()) (λ(z:Int)=>z=Nr f.1 s):=by
 obtain ⟨L,D,La,b,⟨⟩⟩:=f;dsimp only at h⊢;refine Eq.mp (Ady (L,D,La,b,()) s _) ⟨_,Ac h,Br.dec (λhl=>?_) λhl=>?_⟩
 ·have hl:Gy L La s<La.length:=by
   have hl:((Gy L La s:Nat):Int)<(La.length:Int):=hl;omega
  have hi1:=h.idx hl
  have hi2:La[Gy L La s].toNat<L.length:=by omega
  have hgd:=Wx hi2;have hlen:=h.len _ (Ah hi2)
  have sG:short L[La[Gy L La s].toNat]:=by
   unfold short;have:=h.short;omega
  refine ⟨_,Bu hl,_,Ab6 hi1.1 hi2,_,Ac sG,⟨λhc=>⟨_,Bu hl,?_⟩,λhc=>?_⟩⟩
  ·have hc:L[La[Gy L La s].toNat]=s:=Cx hc;rcases h.zk (s:=s) with ⟨hk,_,e⟩|⟨_,Ii⟩
   ·exact e.symm
   ·exact absurd (by rw [hgd];exact hc) (Ii hl)
  ·have hc: ¬L[La[Gy L La s].toNat]=s:=of_decide_eq_false hc;rcases h.zk (s:=s) with ⟨hk,e,_⟩|⟨e,_⟩
   ·rw [hgd] at e;exact absurd e hc
   ·exact e.symm
 ·have hl: ¬Gy L La s<La.length:=by
   have hl: ¬((Gy L La s:Nat):Int)<(La.length:Int):=hl;omega
  rcases h.zk (s:=s) with ⟨hk,e,_⟩|⟨e,_⟩
  ·exact absurd hk hl
  ·exact e.symm
theorem Qm:Sound Try.prog 40 Ge:=
 Sound.Ho Ez (Bf vE (Bf sl Ce)) mixed Try.func40 (by kernel_rfl) (by kernel_rfl) λx h=>Ac9 x.1 x.2.1 h
theorem NN {S:List Int} {k:Nat} (h:k<=S.length) (n:Int):
  (Du (S++ [0]) (k+1) (List.take ((S++ [0]).length-(k+1)) (List.take ((S++ [0]).length-k) (List.drop k (S++ [0]))))).set k n=Ye S k n:=by
 obtain ⟨A,B,rfl,hA⟩: ∃A B,S=A++B/\A.length=k:=⟨S.take k,S.drop k,(Ip k S).symm,by rw [Dx];omega⟩
 subst hA
 have e1:List.drop A.length (A++B++ [0])=B++ [0]:=by rw [Bn,List.drop_left]
 have e2:List.take ((A++B++ [0]).length-A.length) (B++ [0])=B++ [0]:=Jh (by simp only [Av,Bp];omega)
 have e3:List.take ((A++B++ [0]).length-(A.length+1)) (B++ [0])=B:=by
  have:(A++B++ [(0:Int)]).length-(A.length+1)=B.length:=by simp only [Av,Bp];omega
  rw [this,List.take_left]
 rw [e1,e2,e3];unfold Du Ye;have e4:List.drop (A.length+1+B.length) (A++B++ [0])= []:=List.drop_eq_nil_of_le (by simp only [Av,Bp];omega)
 obtain ⟨c,hc⟩: ∃c,List.take (A.length+1) (A++B++ [0])=A++ [c]:=by
  rw [Bn,List.take_append,Jh (by omega)]
  cases B with
  |nil=>exact ⟨0,by simp⟩
  |cons b B=>exact ⟨b,by simp⟩
 rw [e4,hc,iQ,Bn,List.singleton_append,Agt,List.take_left,List.drop_left]
theorem Alz (L:List (List Int)) (D S:List Int) (b:Bool) (s:List Int) (d:Int) (h:Gp s.length L S/\D.length<=3000):
  fnMW Rw (look [(74,gF)]) ng Try.f119 (L,D,S,b,s,d,()) (λ(z:(List (List Int)×List Int×List Int×Bool×Unit)×Unit)=>z=((L++ [s],D++ [d],Ye S (Gy L S s) L.length,b,()),())):=by
 obtain ⟨h,hD⟩:=h;have hle:=TK L S s;have cU:=h.uq;have wF:=h.eK;refine Eq.mp (Amv L D S b s d _) ?_;rw [Cl L,Cl D,Cl S];refine ⟨_,Ac h,?_⟩;dsimp only;have es:List.take 1 (List.drop 0 [(0:Int)])= [0]:=rfl
 have el:(S++ [(0:Int)]).length=S.length+1:=by simp
 rw [es,Bm (by omega),Bl,Bl,Ab,Ab,Ab];refine ⟨rfl,rfl,by show S.length+1<=4294967296;omega,⟨by omega,by omega,by omega⟩,⟨by omega,by omega,by omega⟩,⟨by omega,by omega⟩,?_,rfl,rfl,by show L.length+1<=4294967296;omega,rfl,rfl,by show D.length+1<=4294967296;omega,?_⟩
 ·unfold Du;simp only [Av,Dx,Zt,Bp];omega
 ·rw [NN hle,Cl,Cl]
  have e5:List.take (S++ [(0:Int)]).length (List.drop 0 (Ye S (Gy L S s) (L.length:Int)))=Ye S (Gy L S s) (L.length:Int):=by
   rw [Cw,Jh];unfold Ye;simp only [Av,Aw,Dx,Zt,Ex];omega
  rw [e5];rfl
theorem QC:Ds Try.prog 119 ng:=
 Ds.cW Qo (Bf vE Ce) mixed Try.func119 (by kernel_rfl) (by kernel_rfl) λx h=>Alz x.1 x.2.1 x.2.2.1 x.2.2.2.1 x.2.2.2.2.1 x.2.2.2.2.2.1 h
structure Xy (p:PP) (m:Nat) (L:List (List Int)) (D:List Int):Prop where
 ok:Gp m L (aC L)
 len:D.length=L.length
 row: ∀x∈L,∀y∈x,0<=y/\y<p.1
 dep: ∀j (h:j<D.length),0<=D[j]/\D[j]<=j
theorem sK {p:PP} (hv:Valid p) {x:List Int} {l:Int} (hx: ∀y∈x,0<=y/\y<p.1) (hl:Ie (List.length p.2.2.1) l):
  (Am x (Ax p.2.2.1 l)).length=x.length/\ ∀y∈Am x (Ax p.2.2.1 l),0<=y/\y<p.1:=by
 obtain ⟨h1,h2⟩:=pO hv hl;refine ⟨Vu _ _,λy hy=>?_⟩;have:=FA (n:=(Ax p.2.2.1 l).length) (λz hz=>by have:=hx z hz;omega) h2 y hy;omega
theorem Xy.add {p:PP} {m:Nat} {L:List (List Int)} {D:List Int} (h:Xy p m L D) {y:List Int} {d:Int} (hn:y∉L) (hl:y.length=m) (hr:L.length<3000) (hy: ∀z∈y,0<=z/\z<p.1) (hd:0<=d/\d<=L.length):Xy p m (L++ [y]) (D++ [d]):=by
 have hlen:=h.len;refine ⟨by rw [gJ];exact h.ok.add hn hl hr,by simp [hlen],λx hx=>?_,λj hj=>?_⟩
 ·rcases Be.1 hx with hx|hx
  ·exact h.row x hx
  ·rw [Af.1 hx];exact hy
 ·by_cases e:j<D.length
  ·rw [Xr e];exact h.dep j e
  ·simp only [Av,Bp] at hj
   have:j=D.length:=by omega
   subst this;rw [List.getElem_append_right (by omega)];simp only [Nat.sub_self,List.getElem_cons_zero];omega
theorem kA {p:PP} {s:List Int} (hs:s.length<=20) (hr: ∀y∈s,0<=y/\y<p.1):Xy p s.length [s] [0]:=by
 refine ⟨?_,rfl,λx hx=>by rw [Af.1 hx];exact hr,λj hj=>?_⟩
 ·have:=(oO hs).add (s:=s) (by simp) rfl (by simp);have e:aC [s]=Ye [] (Gy [] [] s) 0:=gJ [] s;rw [e];exact this
 ·simp only [Bp] at hj
  have:j=0:=by omega
  subst this;simp
theorem ym {L:List (List Int)} {s:List Int} :Nr L s>=0↔s∈L:=by
 unfold Nr;split
 ·rename_i h;exact ⟨λ_=>h,λ_=>by omega⟩
 ·rename_i h;exact ⟨λhh=>by omega,λhh=>absurd hh h⟩
theorem Agm (p:PP) (s:List Int) (h:Da p=true/\s.length<=20/\ ∀y∈s,0<=y/\y<p.1):fnW Amk (look [(92,Qk),(119,ng),(44,Hb),(75,Qu),(40,Ge)]) Hu Try.f95 (p,s,()) (λ(z:SS)=>z=Bq p.2.2.1 s):=by
 obtain ⟨hv,hs,hr⟩:=h;have hV:=valid hv;have wF:=hV.eK;have hb0:=kA hs hr
 have sG:short s:=by unfold short;omega
 obtain ⟨ls,bD⟩: ∃ls,Aq (List.length p.2.2.1)=ls:=⟨_,rfl⟩
 refine Eq.mp (Ahf p s _) ⟨_,Ac sG,_,Ac ⟨oO hs,by show 0<=3000;omega⟩,ls,(Ac (by show List.length p.2.2.1<=8;exact wF.2)).trans (Dz some bD),rfl,rfl,rfl,rfl,rfl,rfl,rfl,rfl,rfl,rfl,rfl,rfl,?_⟩;have e0:Ye [] (Gy [] [] s) ((([]:List (List Int)).length:Nat):Int)=aC [s]:=(gJ [] s).symm;show Dh _ ((0:Int),p.1,p.2.1,p.2.2.1,false,false,[],[],[],[s],[(0:Int)],Ye [] (Gy [] [] s) ((([]:List (List Int)).length:Nat):Int),PUnit.unit);rw [e0]
 have LF:ls.length<=16:=by rw [<-bD,Ov];omega
 have jq: ∀l∈ls,Ie (List.length p.2.2.1) l:= λl hl=>Jw (bD▸hl)
 have NI:Lt p.2.2.1 ls 3001 0 [s] [0]=Jn p.2.2.1 s:=by unfold Jn;rw [bD]
 refine Dh.mk (λv=>v.2.1=p.1/\v.2.2.1=p.2.1/\v.2.2.2.1=p.2.2.1/\v.2.2.2.2.2.1=false/\ ∃k:Nat,v.1=k/\k<=v.2.2.2.2.2.2.2.2.2.1.length/\
   Xy p s.length v.2.2.2.2.2.2.2.2.2.1 v.2.2.2.2.2.2.2.2.2.2.1/\v.2.2.2.2.2.2.2.2.2.2.2.1=aC v.2.2.2.2.2.2.2.2.2.1/\
   Lt p.2.2.1 ls (3001-k) k v.2.2.2.2.2.2.2.2.2.1 v.2.2.2.2.2.2.2.2.2.2.1=Jn p.2.2.1 s) (λv=>3001-v.1.toNat)
  ⟨rfl,rfl,rfl,rfl,0,rfl,by simp,hb0,rfl,NI⟩ ?_
 rintro ⟨k',n1,n2,n3,b0,wh,x1,x2,x3,L0,D0,S0,⟨⟩⟩ ⟨h1,h2,h3,h4,k,h5,h6,h7,h8,h9⟩;dsimp only at h1 h2 h3 h4 h5 h6 h7 h8 h9;subst h1 h2 h3 h4 h5 h8;dsimp only;have hL0:=h7.ok.eK;have hD0:=h7.len;refine Br.dec (λhl=>⟨rfl,rfl,rfl,rfl,rfl,rfl,rfl,rfl,rfl,rfl,rfl,rfl,?_⟩) λhl=>?_
 ·have hk:k<L0.length:=by omega
  have UU:k<D0.length:=by omega
  have hx: ∀y∈L0[k],0<=y/\y<p.1:=h7.row _ (Ah hk);have hxl:L0[k].length=s.length:=h7.ok.len _ (Ah hk);have hdk:=h7.dep k UU
  obtain ⟨f,hf⟩: ∃f,3001-k=f+1:=⟨3000-k,by omega⟩
  have hgo: ∀L' D' ok,Jm p.2.2.1 L0[k] D0[k] ls L0 D0=(L',D',ok)->Jn p.2.2.1 s=if ok=true then Lt p.2.2.1 ls f (k+1) L' D' else (L',D',false):=by
   intro L' D' ok he;rw [<-h9,hf,Lt,Ac hk,Wx hk,Al,Ad UU];simp only [Dm];rw [he]
   cases ok<;>rfl
  refine Dh.mk (λv=>v.2.1=p.1/\v.2.2.1=p.2.1/\v.2.2.2.1=p.2.2.1/\v.2.2.2.2.2.1=false/\ ∃i:Nat,v.1=i/\i<=ls.length/\Xy p s.length v.2.2.2.2.2.2.2.2.2.1 v.2.2.2.2.2.2.2.2.2.2.1/\
    v.2.2.2.2.2.2.2.2.2.2.2.1=aC v.2.2.2.2.2.2.2.2.2.1/\(∃A,v.2.2.2.2.2.2.2.2.2.1=L0++A)/\(∃A,v.2.2.2.2.2.2.2.2.2.2.1=D0++A)/\
    Jm p.2.2.1 L0[k] D0[k] (ls.drop i) v.2.2.2.2.2.2.2.2.2.1 v.2.2.2.2.2.2.2.2.2.2.1=Jm p.2.2.1 L0[k] D0[k] ls L0 D0) (λv=>ls.length-v.1.toNat)
   ⟨rfl,rfl,rfl,rfl,0,rfl,Iz _,h7,rfl,⟨[],by simp⟩,⟨[],by simp⟩,rfl⟩ ?_
  rintro ⟨i',m1,m2,m3,b1,wh1,y1,y2,y3,L,D,S,⟨⟩⟩ ⟨g1,g2,g3,g4,i,g5,g6,g7,g8,⟨A,g9⟩,⟨A',g10⟩,YM⟩;dsimp only at g1 g2 g3 g4 g5 g6 g7 g8 g9 g10 YM;subst g1 g2 g3 g4 g5 g8;dsimp only;have hLf:=g7.ok.eK;have hDl:=g7.len;rw [Cl L,Cl D,Cl (aC L)];refine Br.dec (λhli=>?_) λhli=>?_
  ·have hi:i<ls.length:=by omega
   have hkL:k<L.length:=by rw [g9,Av];omega
   have hLk:L[k]=L0[k]:=by simp only [g9];exact Xr hk
   have Akm:k<D.length:=by rw [hDl];exact hkL
   have hDk:D[k]=D0[k]:=by simp only [g10];exact Xr UU
   have uc:=jq _ (Ah hi);obtain ⟨nl,nr⟩:=sK hV hx uc;rw [Ft hi] at YM;simp only [Jm] at YM;refine ⟨⟨by omega,by omega⟩,L0[k],by rw [Ab,Bl,Ad hkL,hLk],_,Bu hi,_,Ac ⟨hv,by show L0[k].length<=20;omega,hx,uc⟩,?_⟩;dsimp only
   have hyl:(Am L0[k] (Ax p.2.2.1 ls[i])).length=s.length:=by rw [nl,hxl]
   refine ⟨_,Ac (by show Gp (Am L0[k] (Ax p.2.2.1 ls[i])).length L (aC L);rw [hyl];exact g7.ok),Br.dec (λJq=>?_) λJq=>?_⟩
   ·have Jq:Am L0[k] (Ax p.2.2.1 ls[i])∈L:=ym.1 Jq;rw [Ac Jq] at YM;rw [Bm (by omega)];exact ⟨rfl,rfl,rfl,rfl,rfl,rfl,rfl,rfl,rfl,rfl,rfl,rfl,⟨rfl,rfl,rfl,rfl,i+1,rfl,hi,g7,rfl,⟨A,g9⟩,⟨A',g10⟩,YM⟩,by omega⟩
   ·have Jq:Am L0[k] (Ax p.2.2.1 ls[i])∉L:= λhh=>Jq (ym.2 hh);rw [Ai Jq] at YM;refine ⟨λib=>?_,λib=>⟨⟨by omega,by omega⟩,D0[k],by rw [Ab,Bl,Ad Akm,hDk],rfl,rfl,rfl,rfl,rfl,rfl,?_⟩⟩
    ·have ib:L.length=3000:=by
      have:(L.length:Int)=3000:=by simpa using ib
      omega
     rw [Ac ib] at YM;have:=hgo _ _ _ YM.symm;rw [Ai (by decide)] at this;unfold Bq;rw [this]
    ·have ib:L.length≠3000:=by
      have:(L.length:Int)≠3000:=by simpa using ib
      omega
     rw [Ai ib] at YM;rw [Co (n:=D0[k]+1) (by omega) (by omega)];refine ⟨_,Ac ⟨by show Gp (Am L0[k] (Ax p.2.2.1 ls[i])).length L (aC L);rw [hyl];exact g7.ok,by show D.length<=3000;omega⟩,?_⟩;dsimp only;rw [Bm (by omega),<-gJ];refine ⟨rfl,rfl,rfl,rfl,rfl,rfl,rfl,rfl,rfl,rfl,rfl,rfl,⟨rfl,rfl,rfl,rfl,i+1,rfl,hi,g7.add Jq hyl (by omega) nr ⟨by omega,by omega⟩,rfl,⟨A++ [Am L0[k] (Ax p.2.2.1 ls[i])],by rw [g9,Bn]⟩,⟨A'++ [D0[k]+1],by rw [g10,Bn]⟩,YM⟩,by omega⟩
  ·have:i=ls.length:=by omega
   subst this;rw [Zr,Jm] at YM;have:=hgo _ _ _ YM.symm;rw [Ac rfl] at this;rw [Bm (by omega)];refine ⟨rfl,rfl,rfl,rfl,rfl,rfl,rfl,rfl,rfl,rfl,rfl,rfl,⟨rfl,rfl,rfl,rfl,k+1,rfl,by rw [g9,Av];omega,g7,rfl,?_⟩,by omega⟩;rw [show 3001-(k+1)=f by omega];exact this.symm
 ·have hk:k=L0.length:=by omega
  rw [Cl L0,Cl D0,Cl (aC L0)]
  obtain ⟨f,hf⟩: ∃f,3001-k=f+1:=⟨3000-k,by omega⟩
  rw [hf,Lt,Ai (by omega)] at h9;unfold Bq;rw [<-h9]
theorem JN:Sound Try.prog 95 Hu:=
 Sound.Ho Aml (Bf jV (Ic QC (Bf Qw (Bf br (Bf Qm Ce))))) mixed Try.func95 (by kernel_rfl) (by kernel_rfl) λx h=>Agm x.1 x.2.1 h
noncomputable def VO (p:PP) (t:List Int):Bool:=Da p&&Sp p.1 t
noncomputable def TC (p:PP) (t:List Int):Bool:=VO p t&&(Jn p.2.2.1 t).2.2
noncomputable def Ag4 (p:PP) (t:List Int):TT:=if TC p t=true then (t,(Jn p.2.2.1 t).1,(Jn p.2.2.1 t).2.1,()) else ([],[],[],())
noncomputable def uv (p:PP) (t:TT):Bool:=TC p t.1&&Ar0 (Ag4 p t.1) t
def Agu (ts:List TT):Prop:=ts.length<=4294967296/\ ∀t∈ts,Ama t
noncomputable def uu (p:PP) (ts:List TT):Bool:=Da p&&decide (ts.length<=4)&&List.all ts (uv p)
theorem nE {p:PP} (hV:Valid p) {m:Nat} {x:List Int} {d:Int} (hx: ∀y∈x,0<=y/\y<p.1) (hxl:x.length=m): ∀(ls:List Int) (L:List (List Int)) (D:List Int),(∀l∈ls,Ie (List.length p.2.2.1) l)->
  Xy p m L D->(0<=d/\d<L.length)->Xy p m (Jm p.2.2.1 x d ls L D).1 (Jm p.2.2.1 x d ls L D).2.1/\(∃A,(Jm p.2.2.1 x d ls L D).1=L++A)/\(∃A,(Jm p.2.2.1 x d ls L D).2.1=D++A)
 | [],L,D,_,h,_=>⟨h,⟨[],by simp [Jm]⟩,⟨[],by simp [Jm]⟩⟩
 |l::ls,L,D,hl,h,hd=>by
  obtain ⟨n1,n2⟩:=sK hV hx (hl l (by simp));have Mr: ∀l∈ls,Ie (List.length p.2.2.1) l:= λl' h'=>hl l' (At _ h');simp only [Jm];split
  ·exact nE hV hx hxl ls L D Mr h hd
  ·rename_i hn;split
   ·exact ⟨h,⟨[],by simp⟩,⟨[],by simp⟩⟩
   ·rename_i hf;have wF:=h.ok.eK;obtain ⟨k1,⟨A,k2⟩,⟨A',k3⟩⟩:=nE hV hx hxl ls (L++ [Am x (Ax p.2.2.1 l)]) (D++ [d+1]) Mr (h.add hn (by rw [n1,hxl]) (by omega) n2 ⟨by omega,by omega⟩) ⟨hd.1,by rw [Av];omega⟩;exact ⟨k1,⟨_::A,by rw [k2,Bn];rfl⟩,⟨_::A',by rw [k3,Bn];rfl⟩⟩
theorem EP {p:PP} (hV:Valid p) {m:Nat} {ls:List Int} (hl: ∀l∈ls,Ie (List.length p.2.2.1) l): ∀(f k:Nat) (L:List (List Int)) (D:List Int),Xy p m L D->
  Xy p m (Lt p.2.2.1 ls f k L D).1 (Lt p.2.2.1 ls f k L D).2.1/\(∃A,(Lt p.2.2.1 ls f k L D).1=L++A)
 |0,k,L,D,h=>⟨h,⟨[],by simp [Lt]⟩⟩
 |f+1,k,L,D,h=>by
  simp only [Lt];split
  ·rename_i hk
   have UU:k<D.length:=by rw [h.len];exact hk
   have hd:=h.dep k UU
   have e:D.getD k 0=D[k]:=by rw [Al,Ad UU];rfl
   rw [Wx hk,e];obtain ⟨k1,⟨A,k2⟩,_⟩:=nE hV (h.row _ (Ah hk)) (h.ok.len _ (Ah hk)) (d:=D[k]) ls L D hl h ⟨by omega,by omega⟩;split
   ·rename_i L' D' he;rw [he] at k1 k2;obtain ⟨g1,⟨B,g2⟩⟩:=EP hV hl f (k+1) L' D' k1;have k2:L'=L++A:=k2;exact ⟨g1,⟨A++B,by rw [g2,k2,Bn]⟩⟩
   ·rename_i L' D' he;rw [he] at k1 k2;exact ⟨k1,⟨A,k2⟩⟩
  ·exact ⟨h,⟨[],by simp⟩⟩
theorem ZQ {p:PP} {s:List Int} (hv:Da p=true) (hs:s.length<=20) (hr: ∀y∈s,0<=y/\y<p.1):Xy p s.length (Jn p.2.2.1 s).1 (Jn p.2.2.1 s).2.1/\ ∃A,(Jn p.2.2.1 s).1=s::A:=
 EP (valid hv) (λ_ hl=>Jw hl) _ _ _ _ (kA hs hr)
def LM (m:ByteArray->Option Bool) (L:List (List Int)):Prop:= ∀q,Ya q->(m (Tq q)).getD false=decide (q∈L)
theorem LM.add {m:ByteArray->Option Bool} {L:List (List Int)} {y:List Int} (h:LM m L) (hy:Ya y):LM (gR m (Tq y) true) (L++ [y]):=by
 intro q hq;unfold gR
 by_cases e:q=y
 ·subst e;rw [Ac rfl];simp
 ·rw [Ai λhk=>e (key_inj hq hy hk),h q hq];simp [e]
end Go.Proofs.Ytfgfigkbgecfnaa
