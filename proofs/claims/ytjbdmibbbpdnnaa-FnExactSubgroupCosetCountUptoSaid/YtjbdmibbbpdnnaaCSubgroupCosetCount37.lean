/-
  Part 38 of the proof that the statement FnExactSubgroupCosetCount holds.
-/
import Derived.Test.YtjbdmibbbpdnnaaCSubgroupCosetCount36
import Derived.KernelRfl
namespace Go.Proofs.Ytjbdmibbbpdnnaa
open Go.RowKit
def Gh (x a b:Int):Bool:=decide (a<=x/\x<=b)
def c5 (n x:Int):Bool:=decide (0<=x/\x<=IntKind.i64.wrap (n-1))
def Hk (a b:List Int):Bool:=decide (a=b)
def cL (xs:List Int) (x:Int):Bool:=decide (x∈xs)
def short (xs:List Int):Prop:=xs.length<=4294967296
noncomputable abbrev Bg:Spec:=Dx (.pair tI (.pair tI (.pair tI .unit))) .bool false true (λ_=>True) (λx=>Gh x.1 x.2.1 x.2.2.1)
noncomputable abbrev Se:Spec:=Dx (.pair tI (.pair tI .unit)) .bool false true (λ_=>True) (λx=>c5 x.1 x.2.1)
noncomputable abbrev Dm:Spec:=Dx (.pair tL (.pair tL .unit)) .bool false true (λx=>short x.1) (λx=>Hk x.1 x.2.1)
noncomputable abbrev Jq:Spec:=Dx (.pair tL (.pair tI .unit)) .bool false true (λx=>short x.1) (λx=>cL x.1 x.2.1)
theorem ze (x a b:Int) (P:Bool->Prop):(Br (decide (x>=a)) (P (decide (x<=b))) (P false))=fnW Di (look []) Bg Try.f93 (x,a,b,()) P:=by kernel_rfl
theorem DB (x a b:Int) (P:Bool->Prop):(Br (decide (x>=a)) (P (decide (x<=b))) (P false))=fnW Di (look []) Bg Try.f97 (x,a,b,()) P:=by kernel_rfl
theorem zg (n x:Int) (P:Bool->Prop):(∃(y3:Bool),Bg.fn (x,0,IntKind.i64.wrap (n-1),())=some y3/\P y3)=fnW Di (look [(97,Bg)]) Se Try.f116 (n,x,()) P:=by kernel_rfl
theorem tR (a b:List Int) (P:Bool->Prop):(Br ((↑a.length:Int) !=(↑b.length:Int)) (P false) (Cl (λ(v3:Int×PUnit) (k4:Int×PUnit->Prop)=>Br (decide (v3.1<(↑a.length:Int))) (∃(y5:Int),idx a v3.1=some y5/\ ∃(y6:Int),idx b v3.1=some y6/\Br (y5 !=y6) (P false) (k4 (IntKind.i64.wrap (v3.1+1),()))) (P true)) (0,PUnit.unit)))=fnW Di (look []) Dm Try.f105 (a,b,()) P:=by kernel_rfl
theorem nc (xs:List Int) (x:Int) (P:Bool->Prop):(Cl (λ(v3:Int×PUnit) (k4:Int×PUnit->Prop)=>Br (decide (v3.1<(↑xs.length:Int))) (∃(y5:Int),idx xs v3.1=some y5/\Br (y5==x) (P true) (k4 (IntKind.i64.wrap (v3.1+1),()))) (P false)) (0,PUnit.unit))=fnW Di (look []) Jq Try.f153 (xs,x,()) P:=by kernel_rfl
theorem yz (x a b:Int) (_:True):fnW Di (look []) Bg Try.f93 (x,a,b,()) (λ(z:Bool)=>z=Gh x a b):=by
 refine Eq.mp (ze x a b _) ?_
 refine Br.dec (λh=>?_) λh=>?_
 ·have h:a<=x:=h
  simp [Gh,h]
 ·exact (decide_eq_false λhh=>h hh.1).symm
theorem Vf:Sound Try.prog 93 Bg:=
 Sound.Dx Ci Bb mixed Try.func93 (by kernel_rfl) (by kernel_rfl) λx h=>yz x.1 x.2.1 x.2.2.1 h
theorem BS (x a b:Int) (_:True):fnW Di (look []) Bg Try.f97 (x,a,b,()) (λ(z:Bool)=>z=Gh x a b):=by
 refine Eq.mp (DB x a b _) ?_
 refine Br.dec (λh=>?_) λh=>?_
 ·have h:a<=x:=h
  simp [Gh,h]
 ·exact (decide_eq_false λhh=>h hh.1).symm
theorem Nv:Sound Try.prog 97 Bg:=
 Sound.Dx Ci Bb mixed Try.func97 (by kernel_rfl) (by kernel_rfl) λx h=>BS x.1 x.2.1 x.2.2.1 h
theorem yB (n x:Int) (_:True):fnW Di (look [(97,Bg)]) Se Try.f116 (n,x,()) (λ(z:Bool)=>z=c5 n x):=
 Eq.mp (zg n x _) ⟨_,if_pos trivial,rfl⟩
theorem mS:Sound Try.prog 116 Se:=
 Sound.Dx Ci (Ai Nv Bb) mixed Try.func116 (by kernel_rfl) (by kernel_rfl) λx h=>yB x.1 x.2.1 h
theorem mE (xs:List Int) (x:Int) (h:short xs):fnW Di (look []) Jq Try.f153 (xs,x,()) (λ(z:Bool)=>z=cL xs x):=by
 refine Eq.mp (nc xs x _) ?_
 unfold short at h
 refine Az xs.length (λv=>v.1) (λj _=>x∉xs.take j) rfl (by simp) ?_
 rintro j ⟨i,⟨⟩⟩ K hj hi hR hK
 dsimp only at hi⊢
 subst hi
 refine Br.dec (λhl=>?_) λhl=>?_
 ·have hl:j<xs.length:=by omega
  refine ⟨_,Bc hl,⟨λhe=>?_,λhe=>?_⟩⟩
  ·have hm:=List.getElem_mem hl
   simp only [beq_iff_eq] at he
   rw [he] at hm
   exact (decide_eq_true hm).symm
  ·rw [Au (by omega)]
   refine hK hl _ rfl ?_
   simp only [beq_eq_false_iff_ne,ne_eq] at he
   rw [List.take_succ_eq_append_getElem hl]
   simp only [List.mem_append,List.mem_singleton,not_or]
   exact ⟨hR,λhx=>he hx.symm⟩
 ·have:j=xs.length:=by omega
  subst this
  rw [List.take_length] at hR
  exact (decide_eq_false hR).symm
theorem fz:Sound Try.prog 153 Jq:=
 Sound.Dx Ci Bb mixed Try.func153 (by kernel_rfl) (by kernel_rfl) λx h=>mE x.1 x.2.1 h
theorem wS (a b:List Int) (hlen:a.length=b.length) (h:short a):
  Cl (λ(v3:Int×PUnit) (k4:Int×PUnit->Prop)=>
   Br (decide (v3.1<(↑a.length:Int))) (∃(y5:Int),idx a v3.1=some y5/\ ∃(y6:Int),idx b v3.1=some y6/\Br (y5 !=y6) (false=Hk a b) (k4 (IntKind.i64.wrap (v3.1+1),())))
    (true=Hk a b))
  (0,PUnit.unit):=by
 unfold short at h
 refine Az a.length (λv=>v.1) (λj _=>a.take j=b.take j) rfl (by simp) ?_
 rintro j ⟨i,⟨⟩⟩ K hj hi hR hK
 dsimp only at hi⊢
 subst hi
 refine Br.dec (λhl=>?_) λhl=>?_
 ·have s7:j<a.length:=by omega
  have EN:j<b.length:=by omega
  refine ⟨_,Bc s7,_,Bc EN,⟨λhe=>?_,λhe=>?_⟩⟩
  ·simp only [bne_iff_ne,ne_eq] at he
   refine (decide_eq_false λme=>he ?_).symm
   subst me
   rfl
  ·rw [Au (by omega)]
   refine hK s7 _ rfl ?_
   simp only [bne_eq_false_iff_eq] at he
   rw [List.take_succ_eq_append_getElem s7,List.take_succ_eq_append_getElem EN,hR,he]
 ·have xT:j=a.length:=by omega
  subst xT
  rw [List.take_length,hlen,List.take_length] at hR
  exact (decide_eq_true hR).symm
theorem sR (a b:List Int) (h:short a):fnW Di (look []) Dm Try.f105 (a,b,()) (λ(z:Bool)=>z=Hk a b):=by
 refine Eq.mp (tR a b _) ⟨λhl=>?_,λhl=>?_⟩
 ·simp only [bne_iff_ne,ne_eq,Int.natCast_inj] at hl
  exact (decide_eq_false λme=>hl (by rw [me])).symm
 ·simp only [bne_eq_false_iff_eq,Int.natCast_inj] at hl
  exact wS a b hl h
theorem jf:Sound Try.prog 105 Dm:=
 Sound.Dx Ci Bb mixed Try.func105 (by kernel_rfl) (by kernel_rfl) λx h=>sR x.1 x.2.1 h
end Go.Proofs.Ytjbdmibbbpdnnaa

namespace Go.Proofs.Ytjbdmibbbpdnnaa
open Go.RowKit
def Je (xs:List (List Int)):Prop:=xs.length<=4294967296/\ ∀r∈xs,short r
def roomy (room:Int):Prop:=0<=room/\room<=4294967296
def gw (n:Nat) (room:Int):Int:=if room-n<0 then-1 else room-n
def fh (xs:List Int) (room:Int):Int:=gw xs.length room
def tD:List (List Int)->Int->Int
 | [],room=>room
 |r::rs,room=>if fh r room<0 then-1 else tD rs (fh r room)
def Va (xs:List (List Int)) (room:Int):Int:=if gw xs.length room<0 then-1 else tD xs (gw xs.length room)
def gr (a b:List (List Int)):Bool:=decide (a=b)
noncomputable abbrev oe:Spec:=Dx (.pair tL (.pair tI .unit)) tI false true (λx=>short x.1/\roomy x.2.1) (λx=>fh x.1 x.2.1)
noncomputable abbrev gO:Spec:=Dx (.pair jm (.pair tI .unit)) tI false true (λx=>Je x.1/\roomy x.2.1) (λx=>Va x.1 x.2.1)
noncomputable abbrev bt:Spec:=Dx (.pair tL .unit) tL false true (λx=>short x.1) (λx=>x.1)
noncomputable abbrev gP:Spec:=Dx (.pair jm .unit) jm false true (λx=>Je x.1) (λx=>x.1)
noncomputable abbrev gM:Spec:=Dx (.pair jm (.pair jm .unit)) .bool false true (λx=>Je x.1) (λx=>gr x.1 x.2.1)
theorem RV (xs:List Int) (room:Int) (P:Int->Prop):(Br (decide (IntKind.i64.wrap (room-(↑xs.length:Int))<0)) (P (-1)) (P (IntKind.i64.wrap (room-(↑xs.length:Int)))))=fnW Di (look []) oe Try.f74 (xs,room,()) P:=by kernel_rfl
theorem MG (xs:List (List Int)) (room:Int) (P:Int->Prop):(Br (decide (IntKind.i64.wrap (room-(↑xs.length:Int))<0)) (P (-1)) (Cl (λ(v3:Int×Int×PUnit) (k4:Int×Int×PUnit->Prop)=>Br (decide (v3.2.1<(↑xs.length:Int))) (∃(y5:List Int),idx xs v3.2.1=some y5/\ ∃(y6:Int),oe.fn (y5,v3.1,())=some y6/\Br (decide (y6<0)) (P (-1)) (k4 (y6,IntKind.i64.wrap (v3.2.1+1),()))) (P v3.1)) (IntKind.i64.wrap (room-(↑xs.length:Int)),0,PUnit.unit)))=fnW Di (look [(74,oe)]) gO Try.f34 (xs,room,()) P:=by kernel_rfl
theorem RX (xs:List Int) (P:List Int->Prop):((0<=(↑xs.length:Int)/\(↑xs.length:Int)<(↑Bq:Int)+1)/\(↑xs.length:Int)=(↑xs.length:Int)/\0=0/\(List.replicate (↑xs.length:Int).toNat (Int.ofNat 0)).length=(List.replicate (↑xs.length:Int).toNat (Int.ofNat 0)).length/\Cl (λ(v2:Int×List Int×PUnit) (k3:Int×List Int×PUnit->Prop)=>Br (decide (v2.1<(↑xs.length:Int))) (∃(y4:Int),idx xs v2.1=some y4/\(0<=v2.1/\v2.1<(↑v2.2.1.length:Int))/\0+v2.1.toNat<v2.2.1.length/\0=0/\v2.2.1.length=(v2.2.1.set (0+v2.1.toNat) y4).length/\k3 (IntKind.i64.wrap (v2.1+1),v2.2.1.set (0+v2.1.toNat) y4,())) (P (List.take v2.2.1.length (List.drop 0 v2.2.1)))) (0,List.replicate (↑xs.length:Int).toNat (Int.ofNat 0),PUnit.unit))=fnW Di (look []) bt Try.f17 (xs,()) P:=by kernel_rfl
theorem MH (xs:List (List Int)) (P:List (List Int)->Prop):((0<=(↑xs.length:Int)/\(↑xs.length:Int)<(↑Bq:Int)+1)/\(↑xs.length:Int)=(↑xs.length:Int)/\0=0/\(List.replicate (↑xs.length:Int).toNat ([]:List Int)).length=(List.replicate (↑xs.length:Int).toNat ([]:List Int)).length/\Cl (λ(v2:Int×List (List Int)×PUnit) (k3:Int×List (List Int)×PUnit->Prop)=>Br (decide (v2.1<(↑xs.length:Int))) (∃(y4:List Int),idx xs v2.1=some y4/\ ∃(y5:List Int),bt.fn (y4,())=some y5/\(0<=v2.1/\v2.1<(↑v2.2.1.length:Int))/\0+v2.1.toNat<v2.2.1.length/\0=0/\v2.2.1.length=(v2.2.1.set (0+v2.1.toNat) y5).length/\k3 (IntKind.i64.wrap (v2.1+1),v2.2.1.set (0+v2.1.toNat) y5,())) (P (List.take v2.2.1.length (List.drop 0 v2.2.1)))) (0,List.replicate (↑xs.length:Int).toNat ([]:List Int),PUnit.unit))=fnW Di (look [(17,bt)]) gP Try.f36 (xs,()) P:=by kernel_rfl
theorem RR (a b:List Int) (P:Bool->Prop):(Br ((↑a.length:Int) !=(↑b.length:Int)) (P false) (Cl (λ(v3:Int×PUnit) (k4:Int×PUnit->Prop)=>Br (decide (v3.1<(↑a.length:Int))) (∃(y5:Int),idx a v3.1=some y5/\ ∃(y6:Int),idx b v3.1=some y6/\Br (y5 !=y6) (P false) (k4 (IntKind.i64.wrap (v3.1+1),()))) (P true)) (0,PUnit.unit)))=fnW Di (look []) Dm Try.f20 (a,b,()) P:=by kernel_rfl
theorem MC (a b:List (List Int)) (P:Bool->Prop):(Br ((↑a.length:Int) !=(↑b.length:Int)) (P false) (Cl (λ(v3:Int×PUnit) (k4:Int×PUnit->Prop)=>Br (decide (v3.1<(↑a.length:Int))) (∃(y5:List Int),idx a v3.1=some y5/\ ∃(y6:List Int),idx b v3.1=some y6/\ ∃(y7:Bool),Dm.fn (y5,y6,())=some y7/\Br (!y7) (P false) (k4 (IntKind.i64.wrap (v3.1+1),()))) (P true)) (0,PUnit.unit)))=fnW Di (look [(20,Dm)]) gM Try.f38 (a,b,()) P:=by kernel_rfl
theorem yl {n:Nat} {room:Int} (h:roomy room) (h2: ¬gw n room<0):roomy (gw n room):=by
 unfold gw roomy at*
 split at h2<;>simp_all
 omega
theorem RD (xs:List Int) (room:Int) (h:short xs/\roomy room):fnW Di (look []) oe Try.f74 (xs,room,()) (λ(z:Int)=>z=fh xs room):=by
 obtain ⟨h1,h2,h3⟩:=h
 unfold short at h1
 refine Eq.mp (RV xs room _) ?_
 rw [Bx (by omega) (by omega)]
 refine Br.dec (λh=>?_) λh=>?_
 ·simp only [fh,gw,if_pos h]
 ·simp only [fh,gw,if_neg h]
theorem yV:Sound Try.prog 74 oe:=
 Sound.Dx Ci Bb mixed Try.func74 (by kernel_rfl) (by kernel_rfl) λx h=>RD x.1 x.2.1 h
theorem LM (xs:List (List Int)) (room:Int) (h:Je xs/\roomy room):fnW Di (look [(74,oe)]) gO Try.f34 (xs,room,()) (λ(z:Int)=>z=Va xs room):=by
 obtain ⟨⟨h1,h4⟩,h2,h3⟩:=h
 refine Eq.mp (MG xs room _) ?_
 rw [Bx (by omega) (by omega)]
 refine Br.dec (λh=>?_) λh=>?_
 ·simp only [Va,gw,if_pos h];rfl
 ·refine Az xs.length (λv=>v.2.1) (λj v=>roomy v.1/\tD (xs.drop j) v.1=Va xs room) rfl ?_ ?_
  ·refine ⟨by unfold roomy;omega,?_⟩
   simp only [Va,gw,if_neg h,List.drop_zero]
  ·rintro j ⟨r,i,⟨⟩⟩ K hj hi ⟨hr,hR⟩ hK
   dsimp only at hi hr hR⊢
   subst hi
   refine Br.dec (λhl=>?_) λhl=>?_
   ·have hl:j<xs.length:=by omega
    have hd:xs.drop j=xs[j]::xs.drop (j+1):=List.drop_eq_getElem_cons hl
    refine ⟨_,Bc hl,_,if_pos ⟨h4 _ (List.getElem_mem hl),hr⟩,?_⟩
    rw [hd] at hR
    simp only [tD] at hR
    refine Br.dec (λhn=>?_) λhn=>?_
    ·have hn:fh xs[j] r<0:=hn
     rw [if_pos hn] at hR
     exact hR
    ·have hn: ¬fh xs[j] r<0:=hn
     rw [if_neg hn] at hR
     rw [Au (by omega)]
     exact hK hl _ rfl ⟨yl hr hn,hR⟩
   ·have:j=xs.length:=by omega
    subst this
    rw [List.drop_length] at hR
    exact hR
theorem wk:Sound Try.prog 34 gO:=
 Sound.Dx Ci (Ai yV Bb) mixed Try.func34 (by kernel_rfl) (by kernel_rfl) λx h=>LM x.1 x.2.1 h
theorem Pu {α:Type} {ys xs:List α} {j:Nat} (h:j<xs.length) (hl:ys.length=xs.length) (ht:ys.take j=xs.take j):(ys.set j xs[j]).take (j+1)=xs.take (j+1):=by
 have h1:j<(ys.set j xs[j]).length:=by rw [List.length_set];omega
 rw [List.take_succ_eq_append_getElem h1,List.take_succ_eq_append_getElem h,List.getElem_set_self,List.take_set_of_le (Nat.le_refl j),ht]
theorem RF (xs:List Int) (h:short xs):fnW Di (look []) bt Try.f17 (xs,()) (λ(z:List Int)=>z=xs):=by
 unfold short at h
 refine Eq.mp (RX xs _) ?_
 refine ⟨⟨by omega,by show (xs.length:Int)<(4294967296:Int)+1;omega⟩,rfl,rfl,rfl,?_⟩
 refine Az xs.length (λv=>v.1) (λj v=>v.2.1.length=xs.length/\v.2.1.take j=xs.take j) rfl ⟨by simp,by simp⟩ ?_
 rintro j ⟨i,ys,⟨⟩⟩ K hj hi ⟨h1,h2⟩ hK
 dsimp only at hi h1 h2⊢
 subst hi
 refine Br.dec (λhl=>?_) λhl=>?_
 ·have hl:j<xs.length:=by omega
  refine ⟨_,Bc hl,⟨by omega,by omega⟩,by rw [Int.toNat_natCast];omega,rfl,by rw [List.length_set],?_⟩
  rw [Au (by omega),Int.toNat_natCast,Nat.zero_add]
  exact hK hl _ rfl ⟨by rw [List.length_set];exact h1,Pu hl h1 h2⟩
 ·have:j=xs.length:=by omega
  subst this
  rw [List.take_length,<-h1,List.take_length] at h2
  rw [List.drop_zero,List.take_length]
  exact h2
theorem oq:Sound Try.prog 17 bt:=
 Sound.Dx Ci Bb mixed Try.func17 (by kernel_rfl) (by kernel_rfl) λx h=>RF x.1 h
theorem LN (xs:List (List Int)) (h:Je xs):fnW Di (look [(17,bt)]) gP Try.f36 (xs,()) (λ(z:List (List Int))=>z=xs):=by
 obtain ⟨h,h4⟩:=h
 refine Eq.mp (MH xs _) ?_
 refine ⟨⟨by omega,by show (xs.length:Int)<(4294967296:Int)+1;omega⟩,rfl,rfl,rfl,?_⟩
 refine Az xs.length (λv=>v.1) (λj v=>v.2.1.length=xs.length/\v.2.1.take j=xs.take j) rfl ⟨by simp,by simp⟩ ?_
 rintro j ⟨i,ys,⟨⟩⟩ K hj hi ⟨h1,h2⟩ hK
 dsimp only at hi h1 h2⊢
 subst hi
 refine Br.dec (λhl=>?_) λhl=>?_
 ·have hl:j<xs.length:=by omega
  refine ⟨_,Bc hl,_,if_pos (h4 _ (List.getElem_mem hl)),⟨by omega,by omega⟩,by rw [Int.toNat_natCast];omega,rfl,by rw [List.length_set],?_⟩
  rw [Au (by omega),Int.toNat_natCast,Nat.zero_add]
  exact hK hl _ rfl ⟨by rw [List.length_set];exact h1,Pu hl h1 h2⟩
 ·have:j=xs.length:=by omega
  subst this
  rw [List.take_length,<-h1,List.take_length] at h2
  rw [List.drop_zero,List.take_length]
  exact h2
theorem wm:Sound Try.prog 36 gP:=
 Sound.Dx Ci (Ai oq Bb) mixed Try.func36 (by kernel_rfl) (by kernel_rfl) λx h=>LN x.1 h
theorem QX (a b:List Int) (h:short a):fnW Di (look []) Dm Try.f20 (a,b,()) (λ(z:Bool)=>z=Hk a b):=by
 refine Eq.mp (RR a b _) ⟨λhl=>?_,λhl=>?_⟩
 ·simp only [bne_iff_ne,ne_eq,Int.natCast_inj] at hl
  exact (decide_eq_false λme=>hl (by rw [me])).symm
 ·simp only [bne_eq_false_iff_eq,Int.natCast_inj] at hl
  exact wS a b hl h
theorem oo:Sound Try.prog 20 Dm:=
 Sound.Dx Ci Bb mixed Try.func20 (by kernel_rfl) (by kernel_rfl) λx h=>QX x.1 x.2.1 h
theorem LI (a b:List (List Int)) (h:Je a):fnW Di (look [(20,Dm)]) gM Try.f38 (a,b,()) (λ(z:Bool)=>z=gr a b):=by
 obtain ⟨h,h4⟩:=h
 refine Eq.mp (MC a b _) ⟨λhl=>?_,λhl=>?_⟩
 ·simp only [bne_iff_ne,ne_eq,Int.natCast_inj] at hl
  exact (decide_eq_false λme=>hl (by rw [me])).symm
 ·simp only [bne_eq_false_iff_eq,Int.natCast_inj] at hl
  refine Az a.length (λv=>v.1) (λj _=>a.take j=b.take j) rfl (by simp) ?_
  rintro j ⟨i,⟨⟩⟩ K hj hi hR hK
  dsimp only at hi⊢
  subst hi
  refine Br.dec (λGp=>?_) λGp=>?_
  ·have s7:j<a.length:=by omega
   have EN:j<b.length:=by omega
   refine ⟨_,Bc s7,_,Bc EN,_,if_pos (h4 _ (List.getElem_mem s7)),⟨λhe=>?_,λhe=>?_⟩⟩
   ·refine (decide_eq_false λme=>?_).symm
    subst me
    simp [Hk] at he
   ·rw [Au (by omega)]
    refine hK s7 _ rfl ?_
    simp only [Hk,Bool.not_eq_false',decide_eq_true_eq] at he
    rw [List.take_succ_eq_append_getElem s7,List.take_succ_eq_append_getElem EN,hR]
    exact congrArg (λx=>List.take j b++ [x]) he
  ·have xT:j=a.length:=by omega
   subst xT
   rw [List.take_length,hl,List.take_length] at hR
   exact (decide_eq_true hR).symm
theorem wi:Sound Try.prog 38 gM:=
 Sound.Dx Ci (Ai oo Bb) mixed Try.func38 (by kernel_rfl) (by kernel_rfl) λx h=>LI x.1 x.2.1 h
end Go.Proofs.Ytjbdmibbbpdnnaa

namespace Go.Proofs.Ytjbdmibbbpdnnaa
open Go.RowKit
def PL (n:Int) (xs:List Int) (k:Nat):Prop:= ∀j (h:j<xs.length),j<k->0<=xs[j]/\xs[j]<=n-1/\(0<j->xs[j-1]<xs[j])
def DL (n:Int) (xs:List Int) (k:Nat):Prop:= ∀j (h:j<xs.length),j<k->0<=xs[j]/\xs[j]<=n-1/\xs[j]∉xs.take j
noncomputable def dec (p:Prop):Bool:= @decide p (Classical.propDecidable p)
theorem Jf {p:Prop} (h:p):true=dec p:=(@decide_eq_true p (Classical.propDecidable p) h).symm
theorem Bd {p:Prop} (h: ¬p):false=dec p:=(@decide_eq_false p (Classical.propDecidable p) h).symm
theorem Du {p:Prop} :dec p=true↔p:= @decide_eq_true_iff p (Classical.propDecidable p)
theorem DX {p:Prop} :dec p=false↔ ¬p:= @decide_eq_false_iff_not p (Classical.propDecidable p)
def KY (n:Int):Prop:=0<=n/\n<=4294967296
noncomputable def Mp (n:Int) (xs:List Int):Bool:=dec (0<xs.length/\PL n xs xs.length)
noncomputable abbrev Et:Spec:=Dx (.pair tI (.pair tL .unit)) .bool false true (λx=>KY x.1/\short x.2.1) (λx=>Mp x.1 x.2.1)
noncomputable abbrev Ku:Spec:=Dx (.pair jm .unit) tI false true (λ_=>True) (λx=>(List.length x.1:Int))
theorem ng (n:Int) (xs:List Int) (P:Bool->Prop):(∃(y3:Bool),Bg.fn ((↑xs.length:Int),(1:Int),n,())=some y3/\Br (!y3) (P false) (Cl (λ(v4:Int×PUnit) (k5:Int×PUnit->Prop)=>Br (decide (v4.1<(↑xs.length:Int))) (∃(y6:Int),idx xs v4.1=some y6/\ ∃(y7:Bool),Bg.fn (y6,(0:Int),IntKind.i64.wrap (n-(1:Int)),())=some y7/\Br (!y7) (P false) (Br (decide (v4.1>(0:Int))) (∃(y8:Int),idx xs v4.1=some y8/\ ∃(y9:Int),idx xs (IntKind.i64.wrap (v4.1-(1:Int)))=some y9/\Br (decide (y8<=y9)) (P false) (k5 (IntKind.i64.wrap (v4.1+(1:Int)),()))) (k5 (IntKind.i64.wrap (v4.1+(1:Int)),())))) (P true)) ((0:Int),PUnit.unit)))=fnW Di (look [(93,Bg)]) Et Try.f111 (n,xs,()) P:=by kernel_rfl
theorem tT (n:Int) (xs:List Int) (P:Bool->Prop):(Cl (λ(v3:Int×PUnit) (k4:Int×PUnit->Prop)=>Br (decide (v3.1<(↑xs.length:Int))) (∃(y5:Int),idx xs v3.1=some y5/\ ∃(y6:Bool),Se.fn (n,y5,())=some y6/\Br (!y6) (P false) (Br (decide (v3.1>(0:Int))) (∃(y7:Int),idx xs (IntKind.i64.wrap (v3.1-(1:Int)))=some y7/\Br (decide (y7>=y5)) (P false) (k4 (IntKind.i64.wrap (v3.1+(1:Int)),()))) (k4 (IntKind.i64.wrap (v3.1+(1:Int)),())))) (P (decide ((↑xs.length:Int)>(0:Int))))) ((0:Int),PUnit.unit))=fnW Di (look [(116,Se)]) Et Try.f66 (n,xs,()) P:=by kernel_rfl
theorem GD (xs:List (List Int)) (P:Int->Prop):(P (↑xs.length:Int))=fnW Di (look []) Ku Try.f58 (xs,()) P:=by kernel_rfl
theorem FJ (xs:List (List Int)) (_:True):fnW Di (look []) Ku Try.f58 (xs,()) (λ(z:Int)=>z=(xs.length:Int)):=Eq.mp (GD xs _) rfl
theorem bz:Sound Try.prog 58 Ku:=
 Sound.Dx Ci Bb mixed Try.func58 (by kernel_rfl) (by kernel_rfl) λx h=>FJ x.1 h
theorem iH {n x:Int} (hn:KY n):c5 n x=true↔0<=x/\x<=n-1:=by
 unfold c5 KY at*
 rw [Bx (by omega) (by omega),decide_eq_true_iff]
theorem Cd {x a b:Int} :Gh x a b=true↔a<=x/\x<=b:=decide_eq_true_iff
theorem Ej {b:Bool} (h:(!b)=true): ¬b=true:=by cases b<;>simp_all
theorem Ft {b:Bool} (h:(!b)=false):b=true:=by cases b<;>simp_all
theorem vQ {n:Int} {xs:List Int} (h:PL n xs xs.length): ∀j (hj:j<xs.length),(j:Int)<=xs[j]
 |0,hj=>(h 0 hj hj).1
 |j+1,hj=>by
  have h1:=vQ h j (by omega)
  have h2:=(h (j+1) hj hj).2.2 (by omega)
  simp only [Nat.add_sub_cancel] at h2
  omega
theorem jA {n:Int} {xs:List Int} {j:Nat} (hl:j<xs.length) (h:PL n xs j) (h1:0<=xs[j]) (h2:xs[j]<=n-1) (h3:0<j->xs[j-1]<xs[j]):PL n xs (j+1):=by
 intro i hi dH
 by_cases e:i=j
 ·subst e;exact ⟨h1,h2,h3⟩
 ·exact h i hi (by omega)
theorem sT (n:Int) (xs:List Int) (h:KY n/\short xs):fnW Di (look [(116,Se)]) Et Try.f66 (n,xs,()) (λ(z:Bool)=>z=Mp n xs):=by
 obtain ⟨hn,h⟩:=h
 unfold short at h
 refine Eq.mp (tT n xs _) ?_
 refine Az xs.length (λv=>v.1) (λj _=>PL n xs j) rfl (λj _ hj=>absurd hj (Nat.not_lt_zero _)) ?_
 rintro j ⟨i,⟨⟩⟩ K hj hi hR hK
 dsimp only at hi⊢
 subst hi
 refine Br.dec (λhl=>?_) λhl=>?_
 ·have hl:j<xs.length:=by omega
  refine ⟨_,Bc hl,_,if_pos trivial,⟨λhp=>?_,λhp=>?_⟩⟩
  ·have hp:=Ej hp
   rw [iH hn] at hp
   exact Bd λhh=>hp ⟨(hh.2 j hl hl).1,(hh.2 j hl hl).2.1⟩
  ·have hp:=Ft hp
   rw [iH hn] at hp
   refine Br.dec (λh0=>?_) λh0=>?_
   ·have h0:0<j:=by omega
    rw [Bx (by omega) (by omega),show (j:Int)-1=((j-1:Nat):Int) by omega]
    refine ⟨_,Bc (by omega),Br.dec (λhg=>?_) λhg=>?_⟩
    ·exact Bd λhh=>by have:=(hh.2 j hl hl).2.2 h0;omega
    ·rw [Au (by omega)]
     exact hK hl _ rfl (jA hl hR hp.1 hp.2 λ_=>by omega)
   ·have h0:j=0:=by omega
    rw [Au (by omega)]
    exact hK hl _ rfl (jA hl hR hp.1 hp.2 λh=>by omega)
 ·have:j=xs.length:=by omega
  subst this
  by_cases h0:0<xs.length
  ·rw [decide_eq_true (show (xs.length:Int)>0 by omega)];exact Jf ⟨h0,hR⟩
  ·rw [decide_eq_false (show ¬(xs.length:Int)>0 by omega)];exact Bd λhh=>h0 hh.1
theorem jh:Sound Try.prog 66 Et:=
 Sound.Dx Ci (Ai mS Bb) mixed Try.func66 (by kernel_rfl) (by kernel_rfl) λx h=>sT x.1 x.2.1 h
theorem mH (n:Int) (xs:List Int) (h:KY n/\short xs):fnW Di (look [(93,Bg)]) Et Try.f111 (n,xs,()) (λ(z:Bool)=>z=Mp n xs):=by
 obtain ⟨hn,h⟩:=h
 unfold short at h
 refine Eq.mp (ng n xs _) ⟨_,if_pos trivial,⟨λhp=>?_,λhp=>?_⟩⟩
 ·have hp:=Ej hp
  rw [Cd] at hp
  dsimp only at hp
  refine Bd λhh=>hp ⟨by omega,?_⟩
  have:=vQ hh.2 (xs.length-1) (by omega)
  have:=(hh.2 (xs.length-1) (by omega) (by omega)).2.1
  omega
 ·have hp:=Ft hp
  rw [Cd] at hp
  dsimp only at hp
  refine Az xs.length (λv=>v.1) (λj _=>PL n xs j) rfl (λj _ hj=>absurd hj (Nat.not_lt_zero _)) ?_
  rintro j ⟨i,⟨⟩⟩ K hj hi hR hK
  dsimp only at hi⊢
  subst hi
  refine Br.dec (λhl=>?_) λhl=>?_
  ·have hl:j<xs.length:=by omega
   refine ⟨_,Bc hl,_,if_pos trivial,⟨λhq=>?_,λhq=>?_⟩⟩
   ·have hq:=Ej hq
    unfold KY at hn
    rw [Cd,Bx (by omega) (by omega)] at hq
    exact Bd λhh=>hq ⟨(hh.2 j hl hl).1,(hh.2 j hl hl).2.1⟩
   ·have hq:=Ft hq
    unfold KY at hn
    rw [Cd,Bx (by omega) (by omega)] at hq
    refine Br.dec (λh0=>?_) λh0=>?_
    ·have h0:0<j:=by omega
     rw [Bx (by omega) (by omega),show (j:Int)-1=((j-1:Nat):Int) by omega]
     refine ⟨_,Bc hl,_,Bc (by omega),Br.dec (λhg=>?_) λhg=>?_⟩
     ·exact Bd λhh=>by have:=(hh.2 j hl hl).2.2 h0;omega
     ·rw [Au (by omega)]
      exact hK hl _ rfl (jA hl hR hq.1 hq.2 λ_=>by omega)
    ·rw [Au (by omega)]
     exact hK hl _ rfl (jA hl hR hq.1 hq.2 λh=>by omega)
  ·have:j=xs.length:=by omega
   subst this
   exact Jf ⟨by omega,hR⟩
theorem fC:Sound Try.prog 111 Et:=
 Sound.Dx Ci (Ai Vf Bb) mixed Try.func111 (by kernel_rfl) (by kernel_rfl) λx h=>mH x.1 x.2.1 h
theorem DY {n:Int} {xs:List Int} {j:Nat} (hl:j<xs.length) (h:DL n xs j) (h1:0<=xs[j]) (h2:xs[j]<=n-1) (h3:xs[j]∉xs.take j):DL n xs (j+1):=by
 intro i hi dH
 by_cases e:i=j
 ·subst e;exact ⟨h1,h2,h3⟩
 ·exact h i hi (by omega)
theorem wa {xs:List Int} (h:short xs) (j:Nat):short (xs.take j):=by
 unfold short at*
 rw [List.length_take]
 omega
end Go.Proofs.Ytjbdmibbbpdnnaa

namespace Go.Proofs.Ytjbdmibbbpdnnaa
open Go.RowKit
theorem tf:roomy 1048576:=⟨by decide,by decide⟩
end Go.Proofs.Ytjbdmibbbpdnnaa

namespace Go.Proofs.Ytjbdmibbbpdnnaa
open Go.RowKit
abbrev PP:Type:=Int×ByteArray×List (List Int)×Unit
noncomputable def Ik (p:List Int):Bool:=dec (1<=p.length/\p.length<=20/\DL p.length p p.length)
noncomputable def Iy (n:Int) (p:List Int):Bool:=dec ((p.length:Int)=n/\Ik p=true)
noncomputable def Qg (n:Int) (g:List (List Int)):Bool:=dec ((1<=n/\n<=20)/\g.length<=8/\ ∀p∈g,Iy n p=true)
def Fz {α:Type} (P:α->Bool):List α->Int->Int
 | [],_=> -1
 |y::r,i=>if P y=true then i else Fz P r (i+1)
abbrev tG1:Ty:= .clo 177 (.pair (.ptr tI) .unit)
def oA (s:ByteArray) (i:Nat):Prop:= ∃c:UInt8,s[i]?=some c/\65<=c.toNat/\c.toNat<=90/\ ∀k,k<i->s[k]?≠some c
noncomputable def fg (s:ByteArray) (i:Int):Bool:=dec (oA s i.toNat)
noncomputable def Wi (s:ByteArray):Bool:=dec ((1<=s.size/\s.size<=8)/\ ∀j,j<s.size->oA s j)
noncomputable def Bp (p:PP):Bool:=dec (Qg p.1 p.2.2.1=true/\Wi p.2.1=true/\p.2.1.size=p.2.2.1.length)
noncomputable def Bm (p:PP) (xs:List Int):Bool:=dec (Bp p=true/\Mp p.2.2.1.length xs=true)
def De (p:PP):Prop:=p.2.1.size<=4294967296/\Je p.2.2.1
noncomputable abbrev Pd:Spec:=Dx (.pair tL .unit) tI false true (λ_=>True) (λx=>(List.length x.1:Int))
noncomputable abbrev Gt:Spec:=Dx (.pair tL .unit) .bool false true (λx=>short x.1) (λx=>Ik x.1)
noncomputable abbrev Jl:Spec:=Dx (.pair tI (.pair jm .unit)) .bool false true (λx=>Je x.2.1) (λx=>Qg x.1 x.2.1)
noncomputable abbrev c9:Spec:=Dx (.pair tL (.pair (.ptr tI) .unit)) .bool false true (λx=>short x.1) (λx=>!Iy x.2.1 x.1)
noncomputable abbrev od:Spec:=Dx (.pair jm (.pair tG1 .unit)) tI false true (λx=>Je x.1) (λx=>Fz (λp=>!Iy x.2.1.1 p) x.1 0)
noncomputable abbrev o9:Spec:=Dx (.pair jm (.pair tG1 .unit)) .bool false true (λx=>Je x.1) (λx=>List.any x.1 (λp=>!Iy x.2.1.1 p))
noncomputable abbrev Wn:Spec:=Dx (.pair .str (.pair tI .unit)) .bool false true (λx=>0<=x.2.1/\x.2.1<x.1.size/\x.1.size<=4294967296) (λx=>fg x.1 x.2.1)
noncomputable abbrev Sd:Spec:=Dx (.pair .str .unit) .bool false true (λx=>x.1.size<=4294967296) (λx=>Wi x.1)
noncomputable abbrev Ev:Spec:=Dx (.pair Cx .unit) .bool false true (λx=>De x.1) (λx=>Bp x.1)
noncomputable abbrev Ed:Spec:=Dx (.pair Cx (.pair tL .unit)) .bool false true (λx=>De x.1/\short x.2.1) (λx=>Bm x.1 x.2.1)
def aT (p:PP) (room:Int):Int:=if room-p.2.1.size<0 then-1 else if Va p.2.2.1 (room-p.2.1.size)<0 then-1 else Va p.2.2.1 (room-p.2.1.size)
def iF (a b:PP):Bool:=decide (a.1=b.1)&&(decide (a.2.1=b.2.1)&&decide (a.2.2.1=b.2.2.1))
noncomputable abbrev og:Spec:=Dx (.pair Cx (.pair tI .unit)) tI false true (λx=>De x.1/\roomy x.2.1) (λx=>aT x.1 x.2.1)
noncomputable abbrev iR:Spec:=Dx (.pair Cx .unit) Cx false true (λx=>De x.1) (λx=>x.1)
noncomputable abbrev oa:Spec:=Dx (.pair Cx (.pair Cx .unit)) .bool false true (λx=>De x.1) (λx=>iF x.1 x.2.1)
theorem MD (xs:List Int) (P:Int->Prop):(P (↑xs.length:Int))=fnW Di (look []) Pd Try.f82 (xs,()) P:=by kernel_rfl
theorem qK (p:List Int) (P:Bool->Prop):(∃(y2:Bool),Bg.fn ((↑p.length:Int),(1:Int),(20:Int),())=some y2/\Br (!y2) (P false) (Cl (λ(v3:Int×PUnit) (k4:Int×PUnit->Prop)=>Br (decide (v3.1<(↑p.length:Int))) (∃(y5:Int),idx p v3.1=some y5/\ ∃(y6:Bool),Bg.fn (y5,(0:Int),IntKind.i64.wrap ((↑p.length:Int)-(1:Int)),())=some y6/\Br (!y6) (P false) (((0:Int)<=(0:Int)/\(0:Int)<=v3.1/\v3.1<=(↑p.length:Int))/\ ∃(y7:Int),idx p v3.1=some y7/\ ∃(y8:Bool),Jq.fn (List.drop (Int.toNat (0:Int)) (List.take v3.1.toNat p),y7,())=some y8/\Br y8 (P false) (k4 (IntKind.i64.wrap (v3.1+(1:Int)),())))) (P true)) ((0:Int),PUnit.unit)))=fnW Di (look [(93,Bg),(153,Jq)]) Gt Try.f169 (p,()) P:=by kernel_rfl
theorem qH (p:List Int) (P:Bool->Prop):(∃(y2:Int),Pd.fn (p,())=some y2/\ ∃(y3:Bool),Bg.fn (y2,(1:Int),(20:Int),())=some y3/\Br (!y3) (P false) (Cl (λ(v4:Int×Int×PUnit) (k5:Int×Int×PUnit->Prop)=>Br (decide (v4.2.1<(↑p.length:Int))) (∃(y6:Int),idx p v4.2.1=some y6/\ ∃(y7:Int),Pd.fn (p,())=some y7/\ ∃(y8:Bool),Bg.fn (y6,(0:Int),IntKind.i64.wrap (y7-(1:Int)),())=some y8/\Br (!y8) (P false) (¬y6<(0:Int)/\k5 (IntKind.i64.wrap (↑(BitVec.ofInt IntKind.i64.bits v4.1|||BitVec.ofInt IntKind.i64.bits (IntKind.i64.wrap ((1:Int)*(2:Int)^min y6.toNat IntKind.i64.bits))).toNat:Int),IntKind.i64.wrap (v4.2.1+(1:Int)),()))) (¬(↑p.length:Int)<(0:Int)/\P (v4.1==IntKind.i64.wrap (IntKind.i64.wrap ((1:Int)*(2:Int)^min (↑p.length:Int).toNat IntKind.i64.bits)-(1:Int))))) ((0:Int),(0:Int),PUnit.unit)))=fnW Di (look [(97,Bg),(82,Pd)]) Gt Try.f168 (p,()) P:=by kernel_rfl
theorem qJ (n:Int) (g:List (List Int)) (P:Bool->Prop):(∃(y3:Bool),Bg.fn (n,(1:Int),(20:Int),())=some y3/\Br (!y3) (P false) (Br (decide ((↑g.length:Int)>(8:Int))) (P false) (Cl (λ(v4:Int×PUnit) (k5:Int×PUnit->Prop)=>Br (decide (v4.1<(↑g.length:Int))) (∃(y6:List Int),idx g v4.1=some y6/\Br ((↑y6.length:Int) !=n) (P false) (∃(y7:List Int),idx g v4.1=some y7/\ ∃(y8:Bool),Gt.fn (y7,())=some y8/\Br (!y8) (P false) (k5 (IntKind.i64.wrap (v4.1+(1:Int)),())))) (P true)) ((0:Int),PUnit.unit))))=fnW Di (look [(93,Bg),(169,Gt)]) Jl Try.f147 (n,g,()) P:=by kernel_rfl
theorem GC (p:List Int) (n:Int) (P:Bool->Prop):(∃(y3:Int),Pd.fn (p,())=some y3/\Br (y3 !=n) (P true) (∃(y4:Bool),Gt.fn (p,())=some y4/\P !y4))=fnW Di (look [(82,Pd),(168,Gt)]) c9 Try.f177 (p,n,()) P:=by kernel_rfl
theorem RU (g:List (List Int)) (n:Int×Unit) (P:Int->Prop):(Cl (λ(v3:Int×PUnit) (k4:Int×PUnit->Prop)=>Br (decide (v3.1<(↑g.length:Int))) (∃(y5:List Int),idx g v3.1=some y5/\ ∃(y6:Bool),c9.fn (y5,n.1,())=some y6/\Br y6 (P v3.1) (k4 (IntKind.i64.wrap (v3.1+(1:Int)),()))) (P (-1:Int))) ((0:Int),PUnit.unit))=fnW Di (look [(177,c9)]) od Try.f184 (g,n,()) P:=by kernel_rfl
theorem RQ (g:List (List Int)) (n:Int×Unit) (P:Bool->Prop):(∃(y3:Int),od.fn (g,n,())=some y3/\P (decide (y3>=(0:Int))))=fnW Di (look [(184,od)]) o9 Try.f176 (g,n,()) P:=by kernel_rfl
theorem qG (n:Int) (g:List (List Int)) (P:Bool->Prop):(∃(y3:Bool),Bg.fn (n,(1:Int),(20:Int),())=some y3/\Br y3 (Br (decide ((↑g.length:Int)<=(8:Int))) (∃(y4:Bool),o9.fn (g,(n,()),())=some y4/\P !y4) (P false)) (P false))=fnW Di (look [(97,Bg),(176,o9)]) Jl Try.f158 (n,g,()) P:=by kernel_rfl
theorem CZ (s:ByteArray) (i:Int) (P:Bool->Prop):((0:Int)<=i/\ ∃(y3:UInt8),s[i.toNat]?=some y3/\Br (decide ((↑y3.toNat:Int)<(65:Int))) (P false) ((0:Int)<=i/\ ∃(y4:UInt8),s[i.toNat]?=some y4/\Br (decide ((↑y4.toNat:Int)>(90:Int))) (P false) (Cl (λ(v5:Int×PUnit) (k6:Int×PUnit->Prop)=>Br (decide (v5.1<i)) ((0:Int)<=v5.1/\ ∃(y7:UInt8),s[v5.1.toNat]?=some y7/\(0:Int)<=i/\ ∃(y8:UInt8),s[i.toNat]?=some y8/\Br ((↑y7.toNat:Int)==(↑y8.toNat:Int)) (P false) (k6 (IntKind.i64.wrap (v5.1+(1:Int)),()))) (P true)) ((0:Int),PUnit.unit))))=fnW Di (look []) Wn Try.f148 (s,i,()) P:=by kernel_rfl
theorem zf (s:ByteArray) (P:Bool->Prop):(Cl (λ(v2:Int×PUnit) (k3:Int×PUnit->Prop)=>Br (decide (v2.1<(↑s.size:Int))) ((0:Int)<=v2.1/\ ∃(y4:UInt8),s[v2.1.toNat]?=some y4/\ ∃(y5:Bool),Bg.fn (IntKind.i64.wrap (↑y4.toNat:Int),(65:Int),(90:Int),())=some y5/\Br (!y5) (P false) (Cl (λ(v6:Int×PUnit) (k7:Int×PUnit->Prop)=>Br (decide (v6.1<v2.1)) ((0:Int)<=v6.1/\ ∃(y8:UInt8),s[v6.1.toNat]?=some y8/\(0:Int)<=v2.1/\ ∃(y9:UInt8),s[v2.1.toNat]?=some y9/\Br ((↑y8.toNat:Int)==(↑y9.toNat:Int)) (P false) (k7 (IntKind.i64.wrap (v6.1+(1:Int)),()))) (k3 (IntKind.i64.wrap (v2.1+(1:Int)),()))) ((0:Int),PUnit.unit))) (∃(y4:Bool),Bg.fn ((↑s.size:Int),(1:Int),(8:Int),())=some y4/\P y4)) ((0:Int),PUnit.unit))=fnW Di (look [(97,Bg)]) Sd Try.f159 (s,()) P:=by kernel_rfl
abbrev cV:Type:=Int×Int×ByteArray×List (List Int)×PUnit
theorem qL (p:Int×ByteArray×List (List Int)×Unit) (P:Bool->Prop):(Br ((↑p.2.2.1.length:Int)==(0:Int)) (P false) (Br ((↑p.2.1.size:Int) !=(↑p.2.2.1.length:Int)) (P false) (∃(y2:Bool),Jl.fn (p.1,p.2.2.1,())=some y2/\Br (!y2) (P false) (Cl (λ(v3:cV) (k4:cV->Prop)=>Br (decide (v3.1<(↑v3.2.2.1.size:Int))) (∃(y5:Bool),Wn.fn (v3.2.2.1,v3.1,())=some y5/\Br (!y5) (P false) (k4 (IntKind.i64.wrap (v3.1+(1:Int)),v3.2.1,v3.2.2.1,v3.2.2.2.1,()))) (P true)) ((0:Int),p.1,p.2.1,p.2.2.1,PUnit.unit)))))=fnW Di (look [(147,Jl),(148,Wn)]) Ev Try.f110 (p,()) P:=by kernel_rfl
theorem qI (p:Int×ByteArray×List (List Int)×Unit) (P:Bool->Prop):(∃(y2:Bool),Jl.fn (p.1,p.2.2.1,())=some y2/\Br y2 (∃(y3:Bool),Sd.fn (p.2.1,())=some y3/\Br y3 (P ((↑p.2.1.size:Int)==(↑p.2.2.1.length:Int))) (P false)) (P false))=fnW Di (look [(158,Jl),(159,Sd)]) Ev Try.f130 (p,()) P:=by kernel_rfl
theorem ia (p:Int×ByteArray×List (List Int)×Unit) (xs:List Int) (P:Bool->Prop):(∃(y3:Bool),Ev.fn ((p.1,p.2.1,p.2.2.1,()),())=some y3/\Br y3 (∃(y4:Bool),Et.fn ((↑p.2.2.1.length:Int),xs,())=some y4/\P y4) (P false))=fnW Di (look [(110,Ev),(111,Et)]) Ed Try.f101 (p,xs,()) P:=by kernel_rfl
theorem hZ (p:Int×ByteArray×List (List Int)×Unit) (xs:List Int) (P:Bool->Prop):(∃(y3:Bool),Ev.fn ((p.1,p.2.1,p.2.2.1,()),())=some y3/\Br y3 (∃(y4:Int),Ku.fn (p.2.2.1,())=some y4/\ ∃(y5:Bool),Et.fn (y4,xs,())=some y5/\P y5) (P false))=fnW Di (look [(130,Ev),(66,Et),(58,Ku)]) Ed Try.f106 (p,xs,()) P:=by kernel_rfl
theorem RW (p:Int×ByteArray×List (List Int)×Unit) (room:Int) (P:Int->Prop):(Br (decide (IntKind.i64.wrap (room-(↑p.2.1.size:Int))<(0:Int))) (P (-1:Int)) (∃(y3:Int),gO.fn (p.2.2.1,IntKind.i64.wrap (room-(↑p.2.1.size:Int)),())=some y3/\Br (decide (y3<(0:Int))) (P (-1:Int)) (P y3)))=fnW Di (look [(34,gO)]) og Try.f14 (p,room,()) P:=by kernel_rfl
theorem RY (p:Int×ByteArray×List (List Int)×Unit) (P:(Int×ByteArray×List (List Int)×Unit)->Prop):(∃(y2:List (List Int)),gP.fn (p.2.2.1,())=some y2/\P (p.1,p.2.1,y2,()))=fnW Di (look [(36,gP)]) iR Try.f16 (p,()) P:=by kernel_rfl
theorem RS (a b:Int×ByteArray×List (List Int)×Unit) (P:Bool->Prop):(Br (a.1 !=b.1) (P false) (Br (!a.2.1.toList==b.2.1.toList) (P false) (∃(y3:Bool),gM.fn (a.2.2.1,b.2.2.1,())=some y3/\Br (!y3) (P false) (P true))))=fnW Di (look [(38,gM)]) oa Try.f19 (a,b,()) P:=by kernel_rfl
theorem LJ (xs:List Int) (_:True):fnW Di (look []) Pd Try.f82 (xs,()) (λ(z:Int)=>z=(xs.length:Int)):=Eq.mp (MD xs _) rfl
theorem dX:Sound Try.prog 82 Pd:=
 Sound.Dx Ci Bb mixed Try.func82 (by kernel_rfl) (by kernel_rfl) λx h=>LJ x.1 h
theorem qt {α:Type} [DecidableEq α]: ∀(l m:List α),l.Nodup->(∀x∈l,x∈m)->l.length<=m.length
 | [],m,_,_=>Nat.zero_le _
 |a::l,m,hn,hs=>by
  have ha:a∈m:=hs a (List.mem_cons_self ..)
  have hn:=List.nodup_cons.1 hn
  have:=qt l (m.erase a) hn.2 λx hx=>(List.mem_erase_of_ne (λ(e:x=a)=>hn.1 (by rw [<-e];exact hx))).2 (hs x (List.mem_cons_of_mem _ hx))
  rw [List.length_erase_of_mem ha] at this
  have:0<m.length:=List.length_pos_of_mem ha
  simp only [List.length_cons]
  omega
def upto (n:Nat):List Int:=(List.range n).map Int.ofNat
theorem lR (n:Nat):(upto n).Nodup:=by
 unfold upto
 exact List.Pairwise.map _ (λa b me e=>me (Int.ofNat.inj e)) List.nodup_range
theorem Jj {n:Nat} {x:Int} :x∈upto n↔0<=x/\x<n:=by
 unfold upto
 simp only [List.mem_map,List.mem_range]
 constructor
 ·rintro ⟨a,ha,rfl⟩;exact ⟨Int.natCast_nonneg _,Int.ofNat_lt.2 ha⟩
 ·rintro ⟨h1,h2⟩;exact ⟨x.toNat,by omega,by simp only [Int.ofNat_eq_natCast];omega⟩
theorem Tn (n:Nat):(upto n).length=n:=by simp [upto]
theorem aV {xs:List Int} (h: ∀j (hj:j<xs.length),xs[j]∉xs.take j):xs.Nodup:=by
 refine List.pairwise_iff_getElem.2 λi j hi hj dH e=>h j hj ?_
 rw [<-e]
 exact List.mem_take_iff_getElem.2 ⟨i,by omega,rfl⟩
theorem lP {xs:List Int} (h:xs.Nodup): ∀j (hj:j<xs.length),xs[j]∉xs.take j:=by
 intro j hj hm
 obtain ⟨i,hi,e⟩:=List.mem_take_iff_getElem.1 hm
 exact List.pairwise_iff_getElem.1 h i j (by omega) hj (by omega) e
theorem Ut {xs:List Int} (h: ∀x∈xs,0<=x/\x<xs.length):(∀k:Nat,k<xs.length->(k:Int)∈xs)↔ ∀j (hj:j<xs.length),xs[j]∉xs.take j:=by
 constructor
 ·intro ha j hj hm
  have h1:=qt (upto xs.length) (xs.take j++xs.drop (j+1)) (lR _) λx hx=>by
   obtain ⟨h1,h2⟩:=Jj.1 hx
   have hx:=ha x.toNat (by omega)
   rw [show ((x.toNat:Nat):Int)=x by omega] at hx
   rw [<-List.take_append_drop j xs,List.mem_append,List.drop_eq_getElem_cons hj,List.mem_cons] at hx
   rcases hx with hx|rfl|hx
   ·exact List.mem_append_left _ hx
   ·exact List.mem_append_left _ hm
   ·exact List.mem_append_right _ hx
  rw [Tn,List.length_append,List.length_take,List.length_drop] at h1
  omega
 ·intro hn k hk
  refine Classical.byContradiction λhc=>?_
  have h1:=qt xs ((upto xs.length).erase (k:Int)) (aV hn) λx hx=>by
   refine (List.mem_erase_of_ne λ(e:x=(k:Int))=>hc (by rw [<-e];exact hx)).2 (Jj.2 (h x hx))
  rw [List.length_erase_of_mem (Jj.2 ⟨by omega,by omega⟩),Tn] at h1
  omega
def mask (xs:List Int):Nat:=xs.foldl (λm x=>m|||2^x.toNat) 0
theorem ym (xs:List Int) (x:Int):mask (xs++ [x])=mask xs|||2^x.toNat:=by simp [mask]
theorem pD (xs:List Int) (k:Nat): ∀a:Nat,(xs.foldl (λm x=>m|||2^x.toNat) a).testBit k=(a.testBit k||xs.any λx=>decide (x.toNat=k)):=by
 induction xs with
 |nil=>simp
 |cons x xs ih=>
  intro a
  rw [List.foldl_cons,ih,Nat.testBit_or,Nat.testBit_two_pow,List.any_cons,Bool.or_assoc]
theorem kN (xs:List Int) (k:Nat):(mask xs).testBit k=xs.any λx=>decide (x.toNat=k):=by
 unfold mask
 rw [pD,Nat.zero_testBit,Bool.false_or]
theorem FE {xs:List Int} {n:Nat} (h: ∀x∈xs,x.toNat<n):mask xs<2^n:=by
 refine Nat.lt_pow_two_of_testBit _ λk hk=>?_
 rw [kN]
 refine Bool.eq_false_iff.2 λht=>?_
 obtain ⟨x,hx,he⟩:=List.any_eq_true.1 ht
 have:=h x hx
 have:=of_decide_eq_true he
 omega
theorem nT {xs:List Int} (h: ∀x∈xs,0<=x/\x<xs.length):mask xs=2^xs.length-1↔ ∀k:Nat,k<xs.length->(k:Int)∈xs:=by
 constructor
 ·intro e k hk
  have h1:=kN xs k
  rw [e,Nat.testBit_two_pow_sub_one,decide_eq_true hk] at h1
  obtain ⟨x,hx,he⟩:=List.any_eq_true.1 h1.symm
  have:=(h x hx).1
  have:=of_decide_eq_true he
  have e:x=(k:Int):=by omega
  exact e▸hx
 ·intro ha
  refine Nat.eq_of_testBit_eq λk=>?_
  rw [kN,Nat.testBit_two_pow_sub_one]
  by_cases hk:k<xs.length
  ·rw [decide_eq_true hk]
   exact List.any_eq_true.2 ⟨k,ha k hk,by simp⟩
  ·rw [decide_eq_false hk]
   refine Bool.eq_false_iff.2 λht=>?_
   obtain ⟨x,hx,he⟩:=List.any_eq_true.1 ht
   have:=h x hx
   have:=of_decide_eq_true he
   omega
theorem FG {m:Nat} {x:Int} (hm:m<2^20) (h0:0<=x) (h1:x<20):
  IntKind.i64.wrap (((BitVec.ofInt IntKind.i64.bits (m:Int)|||BitVec.ofInt IntKind.i64.bits (IntKind.i64.wrap ((1:Int)*(2:Int)^min x.toNat IntKind.i64.bits))).toNat:Nat):Int)=((m|||2^x.toNat:Nat):Int):=by
 have hx:(2:Nat)^x.toNat<2^20:=Nat.pow_lt_pow_right (by omega) (by omega)
 have e1:min x.toNat IntKind.i64.bits=x.toNat:=by show min x.toNat 64=_;omega
 have e2:(1:Int)*(2:Int)^x.toNat=((2^x.toNat:Nat):Int):=by rw [Int.one_mul];exact (Int.natCast_pow 2 _).symm
 rw [e1,e2,Bx (n:=((2^x.toNat:Nat):Int)) (by have:(0:Int)<=((2^x.toNat:Nat):Int):=Int.natCast_nonneg _;omega) (by omega)]
 show IntKind.i64.wrap (((BitVec.ofInt 64 (m:Int)|||BitVec.ofInt 64 ((2^x.toNat:Nat):Int)).toNat:Nat):Int)=_
 rw [BitVec.ofInt_natCast,BitVec.ofInt_natCast,BitVec.toNat_or,BitVec.toNat_ofNat,BitVec.toNat_ofNat,Nat.mod_eq_of_lt (by omega),Nat.mod_eq_of_lt (by omega)]
 have:=Nat.or_lt_two_pow hm hx
 exact Bx (by omega) (by omega)
theorem pM (p:List Int) (h:short p):fnW Di (look [(93,Bg),(153,Jq)]) Gt Try.f169 (p,()) (λ(z:Bool)=>z=Ik p):=by
 have hs:=h
 unfold short at h
 refine Eq.mp (qK p _) ⟨_,if_pos trivial,⟨λhp=>?_,λhp=>?_⟩⟩
 ·have hp:=Ej hp
  rw [Cd] at hp
  dsimp only at hp
  exact Bd λhh=>hp ⟨by omega,by omega⟩
 ·have hp:=Ft hp
  rw [Cd] at hp
  dsimp only at hp
  refine Az p.length (λv=>v.1) (λj _=>DL p.length p j) rfl (λj _ hj=>absurd hj (Nat.not_lt_zero _)) ?_
  rintro j ⟨i,⟨⟩⟩ K hj hi hR hK
  dsimp only at hi⊢
  subst hi
  refine Br.dec (λhl=>?_) λhl=>?_
  ·have hl:j<p.length:=by omega
   refine ⟨_,Bc hl,_,if_pos trivial,⟨λhq=>?_,λhq=>?_⟩⟩
   ·have hq:=Ej hq
    rw [Cd,Bx (by omega) (by omega)] at hq
    exact Bd λhh=>hq ⟨(hh.2.2 j hl hl).1,(hh.2.2 j hl hl).2.1⟩
   ·have hq:=Ft hq
    rw [Cd,Bx (by omega) (by omega)] at hq
    refine ⟨⟨by omega,by omega,by omega⟩,_,Bc hl,?_⟩
    rw [show (Int.toNat 0)=0 from rfl,List.drop_zero,Int.toNat_natCast]
    refine ⟨_,if_pos (wa hs j),⟨λhc=>?_,λhc=>?_⟩⟩
    ·have hc:decide (p[j]∈p.take j)=true:=hc
     rw [decide_eq_true_iff] at hc
     exact Bd λhh=>(hh.2.2 j hl hl).2.2 hc
    ·have hc:decide (p[j]∈p.take j)=false:=hc
     rw [decide_eq_false_iff_not] at hc
     rw [Au (by omega)]
     exact hK hl _ rfl (DY hl hR hq.1 hq.2 hc)
  ·have:j=p.length:=by omega
   subst this
   exact Jf ⟨by omega,by omega,hR⟩
theorem Ws:Sound Try.prog 169 Gt:=
 Sound.Dx Ci (Ai Vf (Ai fz Bb)) mixed Try.func169 (by kernel_rfl) (by kernel_rfl) λx h=>pM x.1 h
theorem pI (p:List Int) (h:short p):fnW Di (look [(97,Bg),(82,Pd)]) Gt Try.f168 (p,()) (λ(z:Bool)=>z=Ik p):=by
 unfold short at h
 refine Eq.mp (qH p _) ⟨_,if_pos trivial,_,if_pos trivial,⟨λhp=>?_,λhp=>?_⟩⟩
 ·have hp:=Ej hp
  rw [Cd] at hp
  dsimp only at hp
  exact Bd λhh=>hp ⟨by omega,by omega⟩
 ·have hp:=Ft hp
  rw [Cd] at hp
  dsimp only at hp
  refine Az p.length (λv=>v.2.1) (λj v=>v.1=(mask (p.take j):Int)/\ ∀x∈p.take j,0<=x/\x<p.length) rfl ⟨rfl,by simp⟩ ?_
  rintro j ⟨m,i,⟨⟩⟩ K hj hi ⟨hm,hR⟩ hK
  dsimp only at hi hm⊢
  subst hi hm
  refine Br.dec (λhl=>?_) λhl=>?_
  ·have hl:j<p.length:=by omega
   refine ⟨_,Bc hl,_,if_pos trivial,_,if_pos trivial,⟨λhq=>?_,λhq=>?_⟩⟩
   ·have hq:=Ej hq
    rw [Cd] at hq
    dsimp only at hq
    rw [Bx (by omega) (by omega)] at hq
    exact Bd λhh=>hq ⟨(hh.2.2 j hl hl).1,(hh.2.2 j hl hl).2.1⟩
   ·have hq:=Ft hq
    rw [Cd] at hq
    dsimp only at hq
    rw [Bx (by omega) (by omega)] at hq
    refine ⟨by omega,?_⟩
    rw [Au (by omega)]
    have hb:mask (p.take j)<2^20:=FE λx hx=>by have:=hR x hx;omega
    refine hK hl _ rfl ⟨?_,?_⟩
    ·dsimp only
     rw [FG hb hq.1 (by omega),List.take_succ_eq_append_getElem hl,ym]
    ·rw [List.take_succ_eq_append_getElem hl]
     intro x hx
     rcases List.mem_append.1 hx with hx|hx
     ·exact hR x hx
     ·rw [List.mem_singleton.1 hx];omega
  ·have:j=p.length:=by omega
   subst this
   rw [List.take_length] at hR⊢
   refine ⟨by omega,?_⟩
   have hx:(2:Nat)^p.length<=2^20:=Nat.pow_le_pow_right (by omega) (by omega)
   have uU:0<(2:Nat)^p.length:=Nat.two_pow_pos _
   have e1:min (p.length:Int).toNat IntKind.i64.bits=p.length:=by show min (p.length:Int).toNat 64=_;omega
   have e2:(1:Int)*(2:Int)^p.length=((2^p.length:Nat):Int):=by rw [Int.one_mul];exact (Int.natCast_pow 2 _).symm
   rw [e1,e2,Bx (n:=((2^p.length:Nat):Int)) (by omega) (by omega),Bx (by omega) (by omega)]
   have hE:((mask p:Int)==((2^p.length:Nat):Int)-1)=decide (mask p=2^p.length-1):=by
    rw [Bool.eq_iff_iff,beq_iff_eq,decide_eq_true_iff]
    omega
   show ((mask p:Int)==((2^p.length:Nat):Int)-1)=Ik p
   rw [hE]
   by_cases hf:mask p=2^p.length-1
   ·rw [decide_eq_true hf]
    have hn:=(Ut hR).1 ((nT hR).1 hf)
    refine Jf ⟨by omega,by omega,λj hj _=>?_⟩
    have:=hR _ (List.getElem_mem hj)
    exact ⟨this.1,by omega,hn j hj⟩
   ·rw [decide_eq_false hf]
    refine Bd λhh=>hf ((nT hR).2 ((Ut hR).2 λj hj=>(hh.2.2 j hj hj).2.2))
theorem gU:Sound Try.prog 168 Gt:=
 Sound.Dx Ci (Ai Nv (Ai dX Bb)) mixed Try.func168 (by kernel_rfl) (by kernel_rfl) λx h=>pI x.1 h
theorem pL (n:Int) (g:List (List Int)) (h:Je g):fnW Di (look [(93,Bg),(169,Gt)]) Jl Try.f147 (n,g,()) (λ(z:Bool)=>z=Qg n g):=by
 obtain ⟨h,h4⟩:=h
 refine Eq.mp (qJ n g _) ⟨_,if_pos trivial,⟨λhp=>?_,λhp=>?_⟩⟩
 ·have hp:=Ej hp
  rw [Cd] at hp
  exact Bd λhh=>hp hh.1
 ·have hp:=Ft hp
  rw [Cd] at hp
  refine Br.dec (λhg=>?_) λhg=>?_
  ·exact Bd λhh=>by have:=hh.2.1;omega
  ·refine Az g.length (λv=>v.1) (λj _=> ∀p∈g.take j,Iy n p=true) rfl (by simp) ?_
   rintro j ⟨i,⟨⟩⟩ K hj hi hR hK
   dsimp only at hi⊢
   subst hi
   refine Br.dec (λhl=>?_) λhl=>?_
   ·have hl:j<g.length:=by omega
    have hm:g[j]∈g:=List.getElem_mem hl
    refine ⟨_,Bc hl,⟨λhe=>?_,λhe=>?_⟩⟩
    ·simp only [bne_iff_ne,ne_eq] at he
     exact Bd λhh=>he (Du.1 (hh.2.2 _ hm)).1
    ·simp only [bne_eq_false_iff_eq] at he
     refine ⟨_,Bc hl,_,if_pos (h4 _ hm),⟨λhq=>?_,λhq=>?_⟩⟩
     ·have hq:=Ej hq
      exact Bd λhh=>hq (Du.1 (hh.2.2 _ hm)).2
     ·have hq:=Ft hq
      rw [Au (by omega)]
      refine hK hl _ rfl ?_
      rw [List.take_succ_eq_append_getElem hl]
      intro x hx
      rcases List.mem_append.1 hx with hx|hx
      ·exact hR x hx
      ·rw [List.mem_singleton.1 hx];exact Du.2 ⟨he,hq⟩
   ·have:j=g.length:=by omega
    subst this
    rw [List.take_length] at hR
    exact Jf ⟨hp,by omega,hR⟩
theorem gW:Sound Try.prog 147 Jl:=
 Sound.Dx Ci (Ai Vf (Ai Ws Bb)) mixed Try.func147 (by kernel_rfl) (by kernel_rfl) λx h=>pL x.1 x.2.1 h
theorem FI (p:List Int) (n:Int) (h:short p):fnW Di (look [(82,Pd),(168,Gt)]) c9 Try.f177 (p,n,()) (λ(z:Bool)=>z=!Iy n p):=by
 refine Eq.mp (GC p n _) ⟨_,if_pos trivial,⟨λhe=>?_,λhe=>⟨_,if_pos h,?_⟩⟩⟩
 ·simp only [bne_iff_ne,ne_eq] at he
  have:Iy n p=false:=DX.2 λhh=>he hh.1
  rw [this];rfl
 ·simp only [bne_eq_false_iff_eq] at he
  show (!Ik p)=_
  congr 1
  cases hp:Ik p with
  |true=>exact Jf ⟨he,hp⟩
  |false=>exact Bd λhh=>by rw [hh.2] at hp;cases hp
theorem tt:Sound Try.prog 177 c9:=
 Sound.Dx Ci (Ai dX (Ai gU Bb)) mixed Try.func177 (by kernel_rfl) (by kernel_rfl) λx h=>FI x.1 x.2.1 h
theorem iG {α:Type} (P:α->Bool): ∀(l:List α) (i:Int),0<=i->(0<=Fz P l i↔l.any P=true)
 | [],i,_=>by simp [Fz]
 |y::r,i,h=>by
  simp only [Fz,List.any_cons,Bool.or_eq_true]
  split
  ·rename_i hy;simp [hy,h]
  ·rename_i hy;rw [iG P r (i+1) (by omega)];simp [hy]
theorem RC (g:List (List Int)) (n:Int×Unit) (h:Je g):fnW Di (look [(177,c9)]) od Try.f184 (g,n,()) (λ(z:Int)=>z=Fz (λp=>!Iy n.1 p) g 0):=by
 obtain ⟨h,h4⟩:=h
 refine Eq.mp (RU g n _) ?_
 refine Az g.length (λv=>v.1) (λj _=>Fz (λp=>!Iy n.1 p) (g.drop j) j=Fz (λp=>!Iy n.1 p) g 0) rfl (by simp) ?_
 rintro j ⟨i,⟨⟩⟩ K hj hi hR hK
 dsimp only at hi⊢
 subst hi
 refine Br.dec (λhl=>?_) λhl=>?_
 ·have hl:j<g.length:=by omega
  rw [List.drop_eq_getElem_cons hl] at hR
  simp only [Fz] at hR
  refine ⟨_,Bc hl,_,if_pos (h4 _ (List.getElem_mem hl)),⟨λhe=>?_,λhe=>?_⟩⟩
  ·have he:(!Iy n.1 g[j])=true:=he
   rw [if_pos he] at hR
   exact hR
  ·have he:(!Iy n.1 g[j])=false:=he
   rw [if_neg (by rw [he];decide)] at hR
   rw [Au (by omega)]
   exact hK hl _ rfl (by push_cast;exact hR)
 ·have:j=g.length:=by omega
  subst this
  rw [List.drop_length] at hR
  exact hR
theorem yU:Sound Try.prog 184 od:=
 Sound.Dx Ci (Ai tt Bb) mixed Try.func184 (by kernel_rfl) (by kernel_rfl) λx h=>RC x.1 x.2.1 h
theorem QW (g:List (List Int)) (n:Int×Unit) (h:Je g):fnW Di (look [(184,od)]) o9 Try.f176 (g,n,()) (λ(z:Bool)=>z=List.any g (λp=>!Iy n.1 p)):=by
 refine Eq.mp (RQ g n _) ⟨_,if_pos h,?_⟩
 rw [Bool.eq_iff_iff,decide_eq_true_iff]
 exact iG _ g 0 (Int.le_refl 0)
theorem yR:Sound Try.prog 176 o9:=
 Sound.Dx Ci (Ai yU Bb) mixed Try.func176 (by kernel_rfl) (by kernel_rfl) λx h=>QW x.1 x.2.1 h
theorem pH (n:Int) (g:List (List Int)) (h:Je g):fnW Di (look [(97,Bg),(176,o9)]) Jl Try.f158 (n,g,()) (λ(z:Bool)=>z=Qg n g):=by
 refine Eq.mp (qG n g _) ⟨_,if_pos trivial,⟨λhp=>?_,λhp=>?_⟩⟩
 ·have hp:Gh n 1 20=true:=hp
  rw [Cd] at hp
  refine Br.dec (λhl=>⟨_,if_pos h,?_⟩) λhl=>?_
  ·show (!List.any g (λp=>!Iy n p))=Qg n g
   cases ha:List.any g (λp=>!Iy n p) with
   |true=>
    obtain ⟨p,qQ,xW⟩:=List.any_eq_true.1 ha
    exact Bd λhh=>by rw [hh.2.2 p qQ] at xW;cases xW
   |false=>
    refine Jf ⟨hp,by omega,λp hm=>?_⟩
    have:=List.any_eq_false.1 ha p hm
    simpa using this
  ·exact Bd λhh=>by have:=hh.2.1;omega
 ·refine Bd λhh=>?_
  have:Gh n 1 20=true:=Cd.2 hh.1
  have hp:Gh n 1 20=false:=hp
  rw [this] at hp;cases hp
theorem gT:Sound Try.prog 158 Jl:=
 Sound.Dx Ci (Ai Nv (Ai yR Bb)) mixed Try.func158 (by kernel_rfl) (by kernel_rfl) λx h=>pH x.1 x.2.1 h
theorem Gu {s:ByteArray} {k:Nat} (h:k<s.size):s[k]?=some s[k]:=getElem?_pos s k h
theorem BQ (s:ByteArray) (i:Int) (h:0<=i/\i<s.size/\s.size<=4294967296):fnW Di (look []) Wn Try.f148 (s,i,()) (λ(z:Bool)=>z=fg s i):=by
 obtain ⟨h1,h2,h3⟩:=h
 have hi:i.toNat<s.size:=by omega
 refine Eq.mp (CZ s i _) ⟨h1,_,Gu hi,Br.dec (λhq=>?_) λhq=>⟨h1,_,Gu hi,Br.dec (λhr=>?_) λhr=>?_⟩⟩
 ·refine Bd λ⟨c,hc,EG,_⟩=>?_
  rw [Gu hi] at hc;cases hc;omega
 ·refine Bd λ⟨c,hc,_,EG,_⟩=>?_
  rw [Gu hi] at hc;cases hc;omega
 ·refine Az i.toNat (λv=>v.1) (λj _=> ∀k,k<j->s[k]?≠some s[i.toNat]) rfl (λk hk=>absurd hk (Nat.not_lt_zero _)) ?_
  rintro j ⟨i',⟨⟩⟩ K hj iz hR hK
  dsimp only at iz⊢
  subst iz
  refine Br.dec (λhl=>?_) λhl=>?_
  ·have hl:j<i.toNat:=by omega
   have hj:j<s.size:=by omega
   rw [Int.toNat_natCast]
   refine ⟨by omega,_,Gu hj,h1,_,Gu hi,⟨λhe=>?_,λhe=>?_⟩⟩
   ·simp only [beq_iff_eq,Int.natCast_inj] at he
    refine Bd λ⟨c,hc,_,_,EG⟩=>?_
    rw [Gu hi] at hc;cases hc
    exact EG j hl (by rw [Gu hj,UInt8.toNat_inj.1 he])
   ·simp only [beq_eq_false_iff_ne,ne_eq,Int.natCast_inj] at he
    rw [Au (by omega)]
    refine hK hl _ rfl λk hk=>?_
    by_cases e:k=j
    ·subst e
     rw [Gu hj]
     exact λe=>he (by rw [Option.some.inj e])
    ·exact hR k (by omega)
  ·have:j=i.toNat:=by omega
   subst this
   exact Jf ⟨_,Gu hi,by omega,by omega,hR⟩
theorem qg:Sound Try.prog 148 Wn:=
 Sound.Dx Ci Bb mixed Try.func148 (by kernel_rfl) (by kernel_rfl) λx h=>BQ x.1 x.2.1 h
theorem yA (s:ByteArray) (h:s.size<=4294967296):fnW Di (look [(97,Bg)]) Sd Try.f159 (s,()) (λ(z:Bool)=>z=Wi s):=by
 refine Eq.mp (zf s _) ?_
 refine Az s.size (λv=>v.1) (λj _=> ∀k,k<j->oA s k) rfl (λk hk=>absurd hk (Nat.not_lt_zero _)) ?_
 rintro j ⟨i,⟨⟩⟩ K hj hi hR hK
 dsimp only at hi⊢
 subst hi
 refine Br.dec (λhl=>?_) λhl=>?_
 ·have hl:j<s.size:=by omega
  rw [Int.toNat_natCast]
  have hb:=(s[j]).toNat_lt
  refine ⟨by omega,_,Gu hl,_,if_pos trivial,⟨λhq=>?_,λhq=>?_⟩⟩
  ·have hq:=Ej hq
   rw [Cd] at hq
   dsimp only at hq
   rw [Bx (by omega) (by omega)] at hq
   refine Bd λhh=>?_
   obtain ⟨c,hc,EG,MO,_⟩:=hh.2 j hl
   rw [Gu hl] at hc;cases hc
   exact hq ⟨by omega,by omega⟩
  ·have hq:=Ft hq
   rw [Cd] at hq
   dsimp only at hq
   rw [Bx (by omega) (by omega)] at hq
   refine Az j (λv=>v.1) (λm _=> ∀k,k<m->s[k]?≠some s[j]) rfl (λk hk=>absurd hk (Nat.not_lt_zero _)) ?_
   rintro m ⟨i',⟨⟩⟩ K' hm iz ZB NW
   dsimp only at iz⊢
   subst iz
   refine Br.dec (λHy=>?_) λHy=>?_
   ·have Hy:m<j:=by omega
    have WO:m<s.size:=by omega
    rw [Int.toNat_natCast]
    refine ⟨by omega,_,Gu WO,by omega,_,Gu hl,⟨λhe=>?_,λhe=>?_⟩⟩
    ·simp only [beq_iff_eq,Int.natCast_inj] at he
     refine Bd λhh=>?_
     obtain ⟨c,hc,_,_,EG⟩:=hh.2 j hl
     rw [Gu hl] at hc;cases hc
     exact EG m Hy (by rw [Gu WO,UInt8.toNat_inj.1 he])
    ·simp only [beq_eq_false_iff_ne,ne_eq,Int.natCast_inj] at he
     rw [Au (by omega)]
     refine NW Hy _ rfl λk hk=>?_
     by_cases e:k=m
     ·subst e
      rw [Gu WO]
      exact λe=>he (by rw [Option.some.inj e])
     ·exact ZB k (by omega)
   ·have:m=j:=by omega
    subst this
    rw [Au (by omega)]
    refine hK hl _ rfl λk hk=>?_
    by_cases e:k=m
    ·subst e
     exact ⟨_,Gu hl,by omega,by omega,ZB⟩
    ·exact hR k (by omega)
 ·have:j=s.size:=by omega
  subst this
  refine ⟨_,if_pos trivial,?_⟩
  show Gh s.size 1 8=_
  cases hr:Gh s.size 1 8 with
  |true=>rw [Cd] at hr;exact Jf ⟨by omega,hR⟩
  |false=>refine Bd λhh=>?_;rw [Cd.2 ⟨by omega,by omega⟩] at hr;cases hr
theorem mR:Sound Try.prog 159 Sd:=
 Sound.Dx Ci (Ai Nv Bb) mixed Try.func159 (by kernel_rfl) (by kernel_rfl) λx h=>yA x.1 h
theorem wy {p:PP} (h:Bp p=true):1<=p.1/\p.1<=20/\1<=p.2.2.1.length/\p.2.2.1.length<=8:=by
 obtain ⟨h1,h2,h3⟩:=Du.1 h
 obtain ⟨h4,h5,_⟩:=Du.1 h1
 obtain ⟨h6,_⟩:=Du.1 h2
 omega
theorem pN (p:PP) (h:De p):fnW Di (look [(147,Jl),(148,Wn)]) Ev Try.f110 (p,()) (λ(z:Bool)=>z=Bp p):=by
 obtain ⟨hn,hg⟩:=h
 refine Eq.mp (qL p _) ⟨λh0=>?_,λh0=>⟨λh1=>?_,λh1=>⟨_,if_pos hg,⟨λh2=>?_,λh2=>?_⟩⟩⟩⟩
 ·simp only [beq_iff_eq] at h0
  exact Bd λhh=>by obtain ⟨_,h2,h3⟩:=hh;have:=(Du.1 h2).1;omega
 ·simp only [bne_iff_ne,ne_eq,Int.natCast_inj] at h1
  exact Bd λhh=>h1 hh.2.2
 ·have h2:=Ej h2
  exact Bd λhh=>h2 hh.1
 ·simp only [beq_eq_false_iff_ne,ne_eq] at h0
  simp only [bne_eq_false_iff_eq,Int.natCast_inj] at h1
  have h2:Qg p.1 p.2.2.1=true:=Ft h2
  refine Az p.2.1.size (λv=>v.1) (λj v=>v.2=(p.1,p.2.1,p.2.2.1,())/\ ∀k,k<j->oA p.2.1 k) rfl ⟨rfl,λk hk=>absurd hk (Nat.not_lt_zero _)⟩ ?_
  rintro j ⟨i,v⟩ K hj hi ⟨hv,hR⟩ hK
  dsimp only at hi hv⊢
  subst hi hv
  dsimp only
  refine Br.dec (λhl=>?_) λhl=>?_
  ·have hl:j<p.2.1.size:=by omega
   refine ⟨_,if_pos ⟨Int.natCast_nonneg j,Int.ofNat_lt.2 hl,hn⟩,⟨λhq=>?_,λhq=>?_⟩⟩
   ·have hq: ¬fg p.2.1 j=true:=Ej hq
    refine Bd λhh=>hq (Du.2 ?_)
    rw [Int.toNat_natCast]
    exact (Du.1 hh.2.1).2 j hl
   ·have hq:fg p.2.1 j=true:=Ft hq
    have hq:=Du.1 hq
    rw [Int.toNat_natCast] at hq
    rw [Au (by omega)]
    refine hK hl _ rfl ⟨rfl,λk hk=>?_⟩
    by_cases e:k=j
    ·subst e;exact hq
    ·exact hR k (by omega)
  ·have:j=p.2.1.size:=by omega
   subst this
   have:=(Du.1 h2).2.1
   exact Jf ⟨h2,Du.2 ⟨⟨by omega,by omega⟩,hR⟩,h1⟩
theorem Wt:Sound Try.prog 110 Ev:=
 Sound.Dx Ci (Ai gW (Ai qg Bb)) mixed Try.func110 (by kernel_rfl) (by kernel_rfl) λx h=>pN x.1 h
theorem pJ (p:PP) (h:De p):fnW Di (look [(158,Jl),(159,Sd)]) Ev Try.f130 (p,()) (λ(z:Bool)=>z=Bp p):=by
 obtain ⟨hn,hg⟩:=h
 refine Eq.mp (qI p _) ⟨_,if_pos hg,⟨λh1=>⟨_,if_pos hn,⟨λh2=>?_,λh2=>?_⟩⟩,λh1=>?_⟩⟩
 ·have h1:Qg p.1 p.2.2.1=true:=h1
  have h2:Wi p.2.1=true:=h2
  by_cases e:p.2.1.size=p.2.2.1.length
  ·rw [e,beq_self_eq_true];exact Jf ⟨h1,h2,e⟩
  ·rw [show ((p.2.1.size:Int)==(p.2.2.1.length:Int))=false from beq_eq_false_iff_ne.2 (by omega)];exact Bd λhh=>e hh.2.2
 ·have h2:Wi p.2.1=false:=h2
  exact Bd λhh=>by rw [hh.2.1] at h2;cases h2
 ·have h1:Qg p.1 p.2.2.1=false:=h1
  exact Bd λhh=>by rw [hh.1] at h1;cases h1
theorem Wr:Sound Try.prog 130 Ev:=
 Sound.Dx Ci (Ai gT (Ai mR Bb)) mixed Try.func130 (by kernel_rfl) (by kernel_rfl) λx h=>pJ x.1 h
theorem jq {a b:Bool} :(a&&b)=dec (a=true/\b=true):=by
 cases ha:a<;>cases hb:b
 ·exact Bd (by simp)
 ·exact Bd (by simp)
 ·exact Bd (by simp)
 ·exact Jf ⟨rfl,rfl⟩
theorem gG (p:PP) (xs:List Int) (h:De p/\short xs):fnW Di (look [(110,Ev),(111,Et)]) Ed Try.f101 (p,xs,()) (λ(z:Bool)=>z=Bm p xs):=by
 refine Eq.mp (ia p xs _) ⟨_,if_pos h.1,⟨λh1=>⟨_,if_pos ⟨⟨by omega,by have:=h.1.2.1;dsimp only;omega⟩,h.2⟩,?_⟩,λh1=>?_⟩⟩
 ·have h1:Bp p=true:=h1
  show Mp p.2.2.1.length xs=_
  rw [Bm,<-jq,h1,Bool.true_and]
 ·have h1:Bp p=false:=h1
  rw [Bm,<-jq,h1,Bool.false_and]
theorem bA:Sound Try.prog 101 Ed:=
 Sound.Dx Ci (Ai Wt (Ai fC Bb)) mixed Try.func101 (by kernel_rfl) (by kernel_rfl) λx h=>gG x.1 x.2.1 h
theorem gF (p:PP) (xs:List Int) (h:De p/\short xs):fnW Di (look [(130,Ev),(66,Et),(58,Ku)]) Ed Try.f106 (p,xs,()) (λ(z:Bool)=>z=Bm p xs):=by
 refine Eq.mp (hZ p xs _) ⟨_,if_pos h.1,⟨λh1=>⟨_,if_pos trivial,_,if_pos ⟨⟨by dsimp only;omega,by have:=h.1.2.1;dsimp only;omega⟩,h.2⟩,?_⟩,λh1=>?_⟩⟩
 ·have h1:Bp p=true:=h1
  show Mp p.2.2.1.length xs=_
  rw [Bm,<-jq,h1,Bool.true_and]
 ·have h1:Bp p=false:=h1
  rw [Bm,<-jq,h1,Bool.false_and]
theorem bx:Sound Try.prog 106 Ed:=
 Sound.Dx Ci (Ai Wr (Ai jh (Ai bz Bb))) mixed Try.func106 (by kernel_rfl) (by kernel_rfl) λx h=>gF x.1 x.2.1 h
theorem RE (p:PP) (room:Int) (h:De p/\roomy room):fnW Di (look [(34,gO)]) og Try.f14 (p,room,()) (λ(z:Int)=>z=aT p room):=by
 obtain ⟨⟨h1,h2⟩,h3,h4⟩:=h
 refine Eq.mp (RW p room _) ?_
 rw [Bx (by omega) (by omega)]
 refine Br.dec (λhn=>?_) λhn=>⟨_,if_pos ⟨h2,by dsimp only;omega,by dsimp only;omega⟩,Br.dec (λhm=>?_) λhm=>?_⟩
 ·simp only [aT,if_pos hn]
 ·exact ((if_neg hn).trans (if_pos hm)).symm
 ·exact ((if_neg hn).trans (if_neg hm)).symm
theorem yW:Sound Try.prog 14 og:=
 Sound.Dx Ci (Ai wk Bb) mixed Try.func14 (by kernel_rfl) (by kernel_rfl) λx h=>RE x.1 x.2.1 h
theorem RG (p:PP) (h:De p):fnW Di (look [(36,gP)]) iR Try.f16 (p,()) (λ(z:PP)=>z=p):=Eq.mp (RY p _) ⟨_,if_pos h.2,rfl⟩
theorem yX:Sound Try.prog 16 iR:=
 Sound.Dx Ci (Ai wm Bb) mixed Try.func16 (by kernel_rfl) (by kernel_rfl) λx h=>RG x.1 h
theorem rq {a b:ByteArray} :(a.toList==b.toList)=decide (a=b):=by
 rw [Bool.eq_iff_iff,beq_iff_eq,decide_eq_true_iff,ByteArray.toList_eq,ByteArray.toList_eq]
 exact ⟨λh=>ByteArray.ext (Array.toList_inj.1 h),λh=>by rw [h]⟩
theorem QY (a b:PP) (h:De a):fnW Di (look [(38,gM)]) oa Try.f19 (a,b,()) (λ(z:Bool)=>z=iF a b):=by
 refine Eq.mp (RS a b _) ⟨λh1=>?_,λh1=>⟨λh2=>?_,λh2=>⟨_,if_pos h.2,⟨λh3=>?_,λh3=>?_⟩⟩⟩⟩
 ·simp only [bne_iff_ne,ne_eq] at h1
  unfold iF
  rw [decide_eq_false h1];rfl
 ·rw [rq] at h2
  unfold iF
  cases hd:decide (a.2.1=b.2.1)<;>simp_all
 ·have h3:(!gr a.2.2.1 b.2.2.1)=true:=h3
  simp only [gr,Bool.not_eq_true'] at h3
  unfold iF
  rw [h3];simp
 ·have h3:(!gr a.2.2.1 b.2.2.1)=false:=h3
  rw [rq] at h2
  simp only [gr] at h3
  simp only [bne_eq_false_iff_eq] at h1
  unfold iF
  simp_all
theorem yS:Sound Try.prog 19 oa:=
 Sound.Dx Ci (Ai wi Bb) mixed Try.func19 (by kernel_rfl) (by kernel_rfl) λx h=>QY x.1 x.2.1 h
theorem vu (p:PP):iF p p=true:=by simp [iF]
end Go.Proofs.Ytjbdmibbbpdnnaa

namespace Go.Proofs.Ytjbdmibbbpdnnaa
open Go.RowKit
def Md (xs:List Int) (i:Int):Int:=xs.getD i.toNat 0
def Ac (p q:List Int):List Int:=p.map (Md q)
def Tw (f:Nat->Nat) (g:Nat->Int) (m:Nat) (init:List Int):List Int:=(List.range m).foldl (λ(out:List Int) (i:Nat)=>out.set (f i) (g i)) init
def Aj (p:List Int):List Int:=Tw (λi=>(Md p (i:Int)).toNat) (λi=>(i:Int)) p.length (List.replicate p.length 0)
def Oc (n:Nat) (p:List Int):Prop:= ∀y∈p,0<=y/\y<n
noncomputable abbrev Sb:Spec:=Dx (.pair tL (.pair tL .unit)) tL false true (λx=>List.length x.1<=20/\Oc (List.length x.2.1) x.1) (λx=>Ac x.1 x.2.1)
noncomputable abbrev Dy:Spec:=Dx (.pair tL .unit) tL false true (λx=>List.length x.1<=20/\Oc (List.length x.1) x.1) (λx=>Aj x.1)
noncomputable abbrev Bu:Spec:=Dx (.pair tI .unit) tL false true (λx=>0<=x.1/\x.1<=20) (λx=>upto x.1.toNat)
noncomputable abbrev Jt:Spec:=Dx (.pair tL .unit) tL false true (λx=>Ik x.1=true) (λx=>Aj x.1)
def Af (g:List (List Int)) (l:Int):List Int:=if l>0 then g.getD (l-1).toNat [] else Aj (g.getD (-l-1).toNat [])
def Gq (n:Int) (l:Int):Prop:=l≠0/\ -n<=l/\l<=n
noncomputable abbrev Pe:Spec:=Dx (.pair jm (.pair tI .unit)) tL false false (λx=>Gq (List.length x.1) x.2.1/\List.length x.1<=8/\ ∀p∈x.1,Ik p=true) (λx=>Af x.1 x.2.1)
def Ba (n:Nat):List Int:=(List.range n).flatMap λ(k:Nat)=> [(k:Int)+1,-((k:Int)+1)]
noncomputable abbrev Kv:Spec:=Dx (.pair tI .unit) tL false true (λx=>0<=x.1/\x.1<=8) (λx=>Ba x.1.toNat)
noncomputable abbrev Wm:Spec:=Dx (.pair Cx (.pair tL (.pair tI .unit))) tL false true (λx=>Bp x.1=true/\List.length x.2.1<=20/\(∀y∈x.2.1,0<=y/\y<x.1.1)/\Gq (List.length x.1.2.2.1) x.2.2.1) (λx=>Ac x.2.1 (Af x.1.2.2.1 x.2.2.1))
theorem nd (p q:List Int) (P:List Int->Prop):(((0:Int)<=(↑p.length:Int)/\(↑p.length:Int)<(↑Bq:Int)+(1:Int))/\(↑p.length:Int)=(↑p.length:Int)/\0=0/\(List.replicate (↑p.length:Int).toNat (Int.ofNat (nat_lit 0))).length=(List.replicate (↑p.length:Int).toNat (Int.ofNat (nat_lit 0))).length/\Cl (λ(v3:Int×List Int×PUnit) (k4:Int×List Int×PUnit->Prop)=>Br (decide (v3.1<(↑p.length:Int))) (∃(y5:Int),idx p v3.1=some y5/\ ∃(y6:Int),idx q y5=some y6/\((0:Int)<=v3.1/\v3.1<(↑v3.2.1.length:Int))/\0+v3.1.toNat<v3.2.1.length/\0=0/\v3.2.1.length=(v3.2.1.set (0+v3.1.toNat) y6).length/\k4 (IntKind.i64.wrap (v3.1+(1:Int)),v3.2.1.set (0+v3.1.toNat) y6,())) (P (List.take v3.2.1.length (List.drop 0 v3.2.1)))) ((0:Int),List.replicate (↑p.length:Int).toNat (Int.ofNat (nat_lit 0)),PUnit.unit))=fnW Di (look []) Sb Try.f156 (p,q,()) P:=by kernel_rfl
theorem nf (p:List Int) (P:List Int->Prop):(((0:Int)<=(↑p.length:Int)/\(↑p.length:Int)<(↑Bq:Int)+(1:Int))/\(↑p.length:Int)=(↑p.length:Int)/\0=0/\(List.replicate (↑p.length:Int).toNat (Int.ofNat (nat_lit 0))).length=(List.replicate (↑p.length:Int).toNat (Int.ofNat (nat_lit 0))).length/\Cl (λ(v2:Int×List Int×PUnit) (k3:Int×List Int×PUnit->Prop)=>Br (decide (v2.1<(↑p.length:Int))) (∃(y4:Int),idx p v2.1=some y4/\((0:Int)<=y4/\y4<(↑v2.2.1.length:Int))/\0+y4.toNat<v2.2.1.length/\0=0/\v2.2.1.length=(v2.2.1.set (0+y4.toNat) v2.1).length/\k3 (IntKind.i64.wrap (v2.1+(1:Int)),v2.2.1.set (0+y4.toNat) v2.1,())) (P (List.take v2.2.1.length (List.drop 0 v2.2.1)))) ((0:Int),List.replicate (↑p.length:Int).toNat (Int.ofNat (nat_lit 0)),PUnit.unit))=fnW Di (look []) Dy Try.f175 (p,()) P:=by kernel_rfl
theorem zj (p:List Int) (P:List Int->Prop):(((0:Int)<=(↑p.length:Int)/\(↑p.length:Int)<(↑Bq:Int)+(1:Int))/\(↑p.length:Int)=(↑p.length:Int)/\0=0/\(List.replicate (↑p.length:Int).toNat (Int.ofNat (nat_lit 0))).length=(List.replicate (↑p.length:Int).toNat (Int.ofNat (nat_lit 0))).length/\Cl (λ(v2:Int×List Int×PUnit) (k3:Int×List Int×PUnit->Prop)=>Br (decide (v2.1<(↑p.length:Int))) (∃(y4:Int),idx p v2.1=some y4/\((0:Int)<=y4/\y4<(↑v2.2.1.length:Int))/\0+y4.toNat<v2.2.1.length/\0=0/\v2.2.1.length=(v2.2.1.set (0+y4.toNat) v2.1).length/\k3 (IntKind.i64.wrap (v2.1+(1:Int)),v2.2.1.set (0+y4.toNat) v2.1,())) (P (List.take v2.2.1.length (List.drop 0 v2.2.1)))) ((0:Int),List.replicate (↑p.length:Int).toNat (Int.ofNat (nat_lit 0)),PUnit.unit))=fnW Di (look []) Dy Try.f170 (p,()) P:=by kernel_rfl
theorem nh (p:List Int) (P:List Int->Prop):(∃(y2:Bool),Gt.fn (p,())=some y2/\Br (!y2) (P (List.take 0 (List.drop 0 []))) (∃(y3:List Int),Dy.fn (p,())=some y3/\P y3))=fnW Di (look [(169,Gt),(170,Dy)]) Jt Try.f150 (p,()) P:=by kernel_rfl
theorem wB (n:Int) (P:List Int->Prop):(0=0/\0=([]:List Int).length/\Cl (λ(v2:Int×List Int×PUnit) (k3:Int×List Int×PUnit->Prop)=>Br (decide (v2.1<n)) (0=0/\v2.2.1.length=v2.2.1.length/\v2.2.1.length+(List.take 1 (List.drop 0 [v2.1])).length<=Bq/\0=0/\(v2.2.1++List.take 1 (List.drop 0 [v2.1])).length=(v2.2.1++List.take 1 (List.drop 0 [v2.1])).length/\k3 (IntKind.i64.wrap (v2.1+(1:Int)),v2.2.1++List.take 1 (List.drop 0 [v2.1]),())) (P (List.take v2.2.1.length (List.drop 0 v2.2.1)))) ((0:Int),[],PUnit.unit))=fnW Di (look []) Bu Try.f124 (n,()) P:=by kernel_rfl
theorem wC (g:List (List Int)) (l:Int) (P:List Int->Prop):(Br (decide (l>(0:Int))) (∃(y3:List Int),idx g (IntKind.i64.wrap (l-(1:Int)))=some y3/\P y3) (∃(y3:List Int),idx g (IntKind.i64.wrap (IntKind.i64.wrap ((0:Int)-l)-(1:Int)))=some y3/\ ∃(y4:List Int),Dy.fn (y3,())=some y4/\P y4))=fnW Di (look [(175,Dy)]) Pe Try.f157 (g,l,()) P:=by kernel_rfl
theorem zh (n:Int) (P:List Int->Prop):(0=0/\0=([]:List Int).length/\Cl (λ(v2:Int×List Int×PUnit) (k3:Int×List Int×PUnit->Prop)=>Br (decide (v2.1<n)) (0=0/\v2.2.1.length=v2.2.1.length/\v2.2.1.length+(List.take 2 (List.drop 0 [IntKind.i64.wrap (v2.1+(1:Int)),IntKind.i64.wrap ((0:Int)-IntKind.i64.wrap (v2.1+(1:Int)))])).length<=Bq/\0=0/\(v2.2.1++List.take 2 (List.drop 0 [IntKind.i64.wrap (v2.1+(1:Int)),IntKind.i64.wrap ((0:Int)-IntKind.i64.wrap (v2.1+(1:Int)))])).length=(v2.2.1++List.take 2 (List.drop 0 [IntKind.i64.wrap (v2.1+(1:Int)),IntKind.i64.wrap ((0:Int)-IntKind.i64.wrap (v2.1+(1:Int)))])).length/\k3 (IntKind.i64.wrap (v2.1+(1:Int)),v2.2.1++List.take 2 (List.drop 0 [IntKind.i64.wrap (v2.1+(1:Int)),IntKind.i64.wrap ((0:Int)-IntKind.i64.wrap (v2.1+(1:Int)))]),())) (P (List.take v2.2.1.length (List.drop 0 v2.2.1)))) ((0:Int),[],PUnit.unit))=fnW Di (look []) Kv Try.f117 (n,()) P:=by kernel_rfl
theorem CY (p:Int×ByteArray×List (List Int)×Unit) (s:List Int) (l:Int) (P:List Int->Prop):(∃(y4:List Int),idx p.2.2.1 (IntKind.i64.wrap ((if true=true then if IntKind.i64.wrap ((0:Int)-l)>l then IntKind.i64.wrap ((0:Int)-l) else l else if IntKind.i64.wrap ((0:Int)-l)<l then IntKind.i64.wrap ((0:Int)-l) else l)-(1:Int)))=some y4/\Br (decide (l<(0:Int))) (∃(y5:List Int),Jt.fn (y4,())=some y5/\0=0/\0=([]:List Int).length/\Cl (λ(v6:Int×List Int×PUnit) (k7:Int×List Int×PUnit->Prop)=>Br (decide (v6.1<(↑s.length:Int))) (∃(y8:Int),idx s v6.1=some y8/\ ∃(y9:Int),idx y5 y8=some y9/\0=0/\v6.2.1.length=v6.2.1.length/\v6.2.1.length+(List.take 1 (List.drop 0 [y9])).length<=Bq/\0=0/\(v6.2.1++List.take 1 (List.drop 0 [y9])).length=(v6.2.1++List.take 1 (List.drop 0 [y9])).length/\k7 (IntKind.i64.wrap (v6.1+(1:Int)),v6.2.1++List.take 1 (List.drop 0 [y9]),())) (P (List.take v6.2.1.length (List.drop 0 v6.2.1)))) ((0:Int),[],PUnit.unit)) (0=0/\0=([]:List Int).length/\Cl (λ(v5:Int×List Int×PUnit) (k6:Int×List Int×PUnit->Prop)=>Br (decide (v5.1<(↑s.length:Int))) (∃(y7:Int),idx s v5.1=some y7/\ ∃(y8:Int),idx y4 y7=some y8/\0=0/\v5.2.1.length=v5.2.1.length/\v5.2.1.length+(List.take 1 (List.drop 0 [y8])).length<=Bq/\0=0/\(v5.2.1++List.take 1 (List.drop 0 [y8])).length=(v5.2.1++List.take 1 (List.drop 0 [y8])).length/\k6 (IntKind.i64.wrap (v5.1+(1:Int)),v5.2.1++List.take 1 (List.drop 0 [y8]),())) (P (List.take v5.2.1.length (List.drop 0 v5.2.1)))) ((0:Int),[],PUnit.unit)))=fnW Di (look [(150,Jt)]) Wm Try.f115 (p,s,l,()) P:=by kernel_rfl
theorem Hf {xs:List Int} {i:Nat} (h:i<xs.length):Md xs (i:Int)=xs[i]:=by
 unfold Md
 rw [Int.toNat_natCast,List.getD_eq_getElem?_getD,List.getElem?_eq_getElem h];rfl
theorem sa {xs:List Int} {y:Int} (h0:0<=y) (h:y<xs.length):idx xs y=some (Md xs y):=by
 have hy:y.toNat<xs.length:=by omega
 have e:y=(y.toNat:Int):=by omega
 rw [e,Bc hy,Hf hy]
theorem Rn (f:Nat->Nat) (g:Nat->Int) (m:Nat) (init:List Int):Tw f g (m+1) init=(Tw f g m init).set (f m) (g m):=by simp [Tw,List.range_succ]
theorem Tx (f:Nat->Nat) (g:Nat->Int) (m:Nat) (init:List Int):(Tw f g m init).length=init.length:=by
 induction m with
 |zero=>rfl
 |succ m ih=>rw [Rn,List.length_set,ih]
theorem iq (f:Nat->Nat) (g:Nat->Int) (init:List Int): ∀(m:Nat),(∀i j,i<m->j<m->f i=f j->i=j)-> ∀i,i<m->f i<init.length->(Tw f g m init)[f i]?=some (g i)
 |0,_,i,h,_=>absurd h (Nat.not_lt_zero _)
 |m+1,hf,i,hi,hl=>by
  rw [Rn]
  by_cases e:i=m
  ·subst e
   exact List.getElem?_set_self (by rw [Tx];exact hl)
  ·rw [List.getElem?_set_ne (λh=>e (hf i m hi (by omega) h.symm))]
   exact iq f g init m (λa b ha hb=>hf a b (by omega) (by omega)) i (by omega) hl
structure Us (p:List Int):Prop where
 pos:1<=p.length
 len:p.length<=20
 row:Oc p.length p
 nodup:p.Nodup
theorem l5 {p:List Int} (h:Ik p=true):Us p:=by
 obtain ⟨h1,h2,h3⟩:=Du.1 h
 refine ⟨h1,h2,λy hy=>?_,aV λj hj=>(h3 j hj hj).2.2⟩
 obtain ⟨j,hj,rfl⟩:=List.mem_iff_getElem.1 hy
 have:=h3 j hj hj
 omega
theorem Us.inj {p:List Int} (h:Us p) (i j:Nat) (hi:i<p.length) (hj:j<p.length) (e:(Md p (i:Int)).toNat=(Md p (j:Int)).toNat):i=j:=by
 rw [Hf hi,Hf hj] at e
 have h1:=h.row _ (List.getElem_mem hi)
 have h2:=h.row _ (List.getElem_mem hj)
 have e:p[i]=p[j]:=by omega
 refine Classical.byContradiction λEr=>?_
 rcases Nat.lt_or_gt_of_ne Er with hl|hl
 ·exact List.pairwise_iff_getElem.1 h.nodup i j hi hj hl e
 ·exact List.pairwise_iff_getElem.1 h.nodup j i hj hi hl e.symm
theorem Us.BM {p:List Int} (h:Us p) (k:Nat) (hk:k<p.length): ∃i,i<p.length/\(Md p (i:Int)).toNat=k:=by
 have hm:=(Ut (xs:=p) h.row).2 (lP h.nodup) k hk
 obtain ⟨i,hi,e⟩:=List.mem_iff_getElem.1 hm
 exact ⟨i,hi,by rw [Hf hi,e];exact Int.toNat_natCast k⟩
theorem Us.lt {p:List Int} (h:Us p) {i:Nat} (hi:i<p.length):(Md p (i:Int)).toNat<p.length:=by
 rw [Hf hi]
 have:=h.row _ (List.getElem_mem hi)
 omega
theorem jz (p:List Int):(Aj p).length=p.length:=by unfold Aj;rw [Tx,List.length_replicate]
theorem AW {p:List Int} (h:Us p) {i:Nat} (hi:i<p.length):(Aj p)[(Md p (i:Int)).toNat]?=some (i:Int):=
 iq (λi=>(Md p (i:Int)).toNat) (λi=>(i:Int)) _ p.length (λi j hi hj=>h.inj i j hi hj) i hi (by rw [List.length_replicate];exact h.lt hi)
theorem FC {p:List Int} (h:Us p):Oc p.length (Aj p):=by
 intro y hy
 obtain ⟨k,hk,rfl⟩:=List.mem_iff_getElem.1 hy
 have ee:k<p.length:=by rw [jz] at hk;exact hk
 obtain ⟨i,hi,rfl⟩:=h.BM k ee
 have:=AW h hi
 rw [List.getElem?_eq_getElem hk] at this
 rw [Option.some.inj this]
 omega
theorem Tu (p q:List Int):(Ac p q).length=p.length:=by simp [Ac]
theorem rC {p q:List Int} {n:Nat} (hp:Oc q.length p) (hq:Oc n q):Oc n (Ac p q):=by
 intro y hy
 obtain ⟨x,hx,rfl⟩:=List.mem_map.1 hy
 have h1:=hp x hx
 rw [show x=(x.toNat:Int) by omega,Hf (by omega)]
 exact hq _ (List.getElem_mem _)
theorem mF (p q:List Int) (h:p.length<=20/\Oc q.length p):fnW Di (look []) Sb Try.f156 (p,q,()) (λ(z:List Int)=>z=Ac p q):=by
 obtain ⟨h,hr⟩:=h
 refine Eq.mp (nd p q _) ?_
 refine ⟨⟨by omega,by show (p.length:Int)<(4294967296:Int)+1;omega⟩,rfl,rfl,rfl,?_⟩
 have Nz:=Tu p q
 refine Az p.length (λv=>v.1) (λj v=>v.2.1.length=(Ac p q).length/\v.2.1.take j=(Ac p q).take j) rfl ⟨by rw [Nz];simp,by simp⟩ ?_
 rintro j ⟨i,ys,⟨⟩⟩ K hj hi ⟨h1,h2⟩ hK
 dsimp only at hi h1 h2⊢
 subst hi
 refine Br.dec (λhl=>?_) λhl=>?_
 ·have hl:j<p.length:=by omega
  have hy:=hr _ (List.getElem_mem hl)
  refine ⟨_,Bc hl,_,sa hy.1 hy.2,⟨by omega,by omega⟩,by rw [Int.toNat_natCast];omega,rfl,by rw [List.length_set],?_⟩
  rw [Au (by omega),Int.toNat_natCast,Nat.zero_add]
  have Hy:j<(Ac p q).length:=by rw [Nz];exact hl
  have e:Md q p[j]=(Ac p q)[j]:=by simp [Ac]
  rw [e]
  exact hK hl _ rfl ⟨by rw [List.length_set];exact h1,Pu Hy h1 h2⟩
 ·have:j=p.length:=by omega
  subst this
  rw [<-Nz,List.take_length,<-h1,List.take_length] at h2
  rw [List.drop_zero,List.take_length]
  exact h2
theorem Nt:Sound Try.prog 156 Sb:=
 Sound.Dx Ci Bb mixed Try.func156 (by kernel_rfl) (by kernel_rfl) λx h=>mF x.1 x.2.1 h
theorem mG (p:List Int) (h:p.length<=20/\Oc p.length p):fnW Di (look []) Dy Try.f175 (p,()) (λ(z:List Int)=>z=Aj p):=by
 obtain ⟨h,hr⟩:=h
 refine Eq.mp (nf p _) ?_
 refine ⟨⟨by omega,by show (p.length:Int)<(4294967296:Int)+1;omega⟩,rfl,rfl,rfl,?_⟩
 refine Az p.length (λv=>v.1) (λj v=>v.2.1=Tw (λi=>(Md p (i:Int)).toNat) (λi=>(i:Int)) j (List.replicate p.length 0)) rfl rfl ?_
 rintro j ⟨i,ys,⟨⟩⟩ K hj hi h1 hK
 dsimp only at hi h1⊢
 subst hi
 have hlen:ys.length=p.length:=by rw [h1,Tx,List.length_replicate]
 refine Br.dec (λhl=>?_) λhl=>?_
 ·have hl:j<p.length:=by omega
  have hy:=hr _ (List.getElem_mem hl)
  refine ⟨_,Bc hl,⟨by omega,by omega⟩,by omega,rfl,by rw [List.length_set],?_⟩
  rw [Au (by omega),Nat.zero_add]
  refine hK hl _ rfl ?_
  rw [Rn,<-h1,Hf hl]
 ·have:j=p.length:=by omega
  subst this
  rw [List.drop_zero,List.take_length]
  exact h1
theorem Nu:Sound Try.prog 175 Dy:=
 Sound.Dx Ci Bb mixed Try.func175 (by kernel_rfl) (by kernel_rfl) λx h=>mG x.1 h
theorem yE (p:List Int) (h:p.length<=20/\Oc p.length p):fnW Di (look []) Dy Try.f170 (p,()) (λ(z:List Int)=>z=Aj p):=by
 obtain ⟨h,hr⟩:=h
 refine Eq.mp (zj p _) ?_
 refine ⟨⟨by omega,by show (p.length:Int)<(4294967296:Int)+1;omega⟩,rfl,rfl,rfl,?_⟩
 refine Az p.length (λv=>v.1) (λj v=>v.2.1=Tw (λi=>(Md p (i:Int)).toNat) (λi=>(i:Int)) j (List.replicate p.length 0)) rfl rfl ?_
 rintro j ⟨i,ys,⟨⟩⟩ K hj hi h1 hK
 dsimp only at hi h1⊢
 subst hi
 have hlen:ys.length=p.length:=by rw [h1,Tx,List.length_replicate]
 refine Br.dec (λhl=>?_) λhl=>?_
 ·have hl:j<p.length:=by omega
  have hy:=hr _ (List.getElem_mem hl)
  refine ⟨_,Bc hl,⟨by omega,by omega⟩,by omega,rfl,by rw [List.length_set],?_⟩
  rw [Au (by omega),Nat.zero_add]
  refine hK hl _ rfl ?_
  rw [Rn,<-h1,Hf hl]
 ·have:j=p.length:=by omega
  subst this
  rw [List.drop_zero,List.take_length]
  exact h1
theorem mT:Sound Try.prog 170 Dy:=
 Sound.Dx Ci Bb mixed Try.func170 (by kernel_rfl) (by kernel_rfl) λx h=>yE x.1 h
theorem mI (p:List Int) (h:Ik p=true):fnW Di (look [(169,Gt),(170,Dy)]) Jt Try.f150 (p,()) (λ(z:List Int)=>z=Aj p):=by
 have hp:=l5 h
 have hs:short p:=by have:=hp.len;unfold short;omega
 refine Eq.mp (nh p _) ⟨_,if_pos hs,⟨λhe=>?_,λ_=>⟨_,if_pos ⟨hp.len,hp.row⟩,rfl⟩⟩⟩
 exact absurd h (Ej he)
theorem fD:Sound Try.prog 150 Jt:=
 Sound.Dx Ci (Ai Ws (Ai mT Bb)) mixed Try.func150 (by kernel_rfl) (by kernel_rfl) λx h=>mI x.1 h
theorem Wv (j:Nat):upto (j+1)=upto j++ [(j:Int)]:=by simp [upto,List.range_succ]
theorem vK (n:Int) (h:0<=n/\n<=20):fnW Di (look []) Bu Try.f124 (n,()) (λ(z:List Int)=>z=upto n.toNat):=by
 refine Eq.mp (wB n _) ⟨rfl,rfl,?_⟩
 refine Az n.toNat (λv=>v.1) (λj v=>v.2.1=upto j) rfl rfl ?_
 rintro j ⟨i,ys,⟨⟩⟩ K hj hi h1 hK
 dsimp only at hi h1⊢
 subst hi h1
 refine Br.dec (λhl=>?_) λhl=>?_
 ·refine ⟨rfl,rfl,?_,rfl,rfl,?_⟩
  ·show (upto j).length+1<=4294967296
   rw [Tn];omega
  ·rw [Au (by omega)]
   exact hK (by omega) _ rfl (Wv j).symm
 ·have:j=n.toNat:=by omega
  subst this
  rw [List.drop_zero,List.take_length]
theorem lr:Sound Try.prog 124 Bu:=
 Sound.Dx Ci Bb mixed Try.func124 (by kernel_rfl) (by kernel_rfl) λx h=>vK x.1 h
theorem Td {g:List (List Int)} {k:Nat} (h:k<g.length):Af g ((k:Int)+1)=g[k]:=by
 unfold Af
 rw [if_pos (by omega),show ((k:Int)+1-1).toNat=k by omega,List.getD_eq_getElem?_getD,List.getElem?_eq_getElem h];rfl
theorem Tc {g:List (List Int)} {k:Nat} (h:k<g.length):Af g (-((k:Int)+1))=Aj g[k]:=by
 unfold Af
 rw [if_neg (by omega),show (-(-((k:Int)+1))-1).toNat=k by omega,List.getD_eq_getElem?_getD,List.getElem?_eq_getElem h];rfl
theorem Rr {n:Nat} {l:Int} (h:Gq n l): ∃k:Nat,k<n/\(l=(k:Int)+1\/l= -((k:Int)+1)):=by
 obtain ⟨h1,h2,h3⟩:=h
 by_cases h0:0<l
 ·exact ⟨(l-1).toNat,by omega, .inl (by omega)⟩
 ·exact ⟨(-l-1).toNat,by omega, .inr (by omega)⟩
theorem vL (g:List (List Int)) (l:Int) (h:Gq (List.length g) l/\List.length g<=8/\ ∀p∈g,Ik p=true):fnW Di (look [(175,Dy)]) Pe Try.f157 (g,l,()) (λ(z:List Int)=>z=Af g l):=by
 obtain ⟨hl,h8,hp⟩:=h
 refine Eq.mp (wC g l _) ?_
 obtain ⟨k,hk,rfl|rfl⟩:=Rr hl
 ·refine Br.dec (λ_=>?_) λhn=>by omega
  rw [Bx (by omega) (by omega),show (k:Int)+1-1=(k:Int) by omega]
  exact ⟨_,Bc hk,(Td hk).symm⟩
 ·refine Br.dec (λhn=>by omega) λ_=>?_
  rw [Bx (n:=0- -((k:Int)+1)) (by omega) (by omega),Bx (by omega) (by omega),show (0:Int)- -((k:Int)+1)-1=(k:Int) by omega]
  have:=l5 (hp _ (List.getElem_mem hk))
  exact ⟨_,Bc hk,_,if_pos ⟨this.len,this.row⟩,(Tc hk).symm⟩
theorem lu:Sound Try.prog 157 Pe:=
 Sound.Dx Ci (Ai Nu Bb) mixed Try.func157 (by kernel_rfl) (by kernel_rfl) λx h=>vL x.1 x.2.1 h
theorem Tf (j:Nat):Ba (j+1)=Ba j++ [(j:Int)+1,-((j:Int)+1)]:=by simp [Ba,List.range_succ,List.flatMap_append]
theorem Ls (j:Nat):(Ba j).length=2*j:=by
 induction j with
 |zero=>rfl
 |succ j ih=>rw [Tf,List.length_append,ih];simp only [List.length_cons,List.length_nil];omega
theorem Mr {n:Nat} {l:Int} (h:l∈Ba n):Gq n l:=by
 unfold Ba at h
 obtain ⟨k,hk,hl⟩:=List.mem_flatMap.1 h
 have hk:=List.mem_range.1 hk
 simp only [List.mem_cons,List.not_mem_nil,or_false] at hl
 unfold Gq
 omega
theorem yC (n:Int) (h:0<=n/\n<=8):fnW Di (look []) Kv Try.f117 (n,()) (λ(z:List Int)=>z=Ba n.toNat):=by
 refine Eq.mp (zh n _) ⟨rfl,rfl,?_⟩
 refine Az n.toNat (λv=>v.1) (λj v=>v.2.1=Ba j) rfl rfl ?_
 rintro j ⟨i,ys,⟨⟩⟩ K hj hi h1 hK
 dsimp only at hi h1⊢
 subst hi h1
 refine Br.dec (λhl=>?_) λhl=>?_
 ·refine ⟨rfl,rfl,?_,rfl,rfl,?_⟩
  ·show (Ba j).length+2<=4294967296
   rw [Ls];omega
  ·have e1:IntKind.i64.wrap ((j:Int)+1)=(j:Int)+1:=Bx (by omega) (by omega)
   have e2:IntKind.i64.wrap ((0:Int)-((j:Int)+1))= -((j:Int)+1):=by rw [Bx (by omega) (by omega)];omega
   rw [e1,e2]
   exact hK (by omega) _ rfl (Tf j).symm
 ·have:j=n.toNat:=by omega
  subst this
  rw [List.drop_zero,List.take_length]
theorem cQ:Sound Try.prog 117 Kv:=
 Sound.Dx Ci Bb mixed Try.func117 (by kernel_rfl) (by kernel_rfl) λx h=>yC x.1 h
structure Valid (p:PP):Prop where
 n:1<=p.1/\p.1<=20
 kh:1<=p.2.2.1.length/\p.2.2.1.length<=8
 perm: ∀m∈p.2.2.1,Ik m=true
 len: ∀m∈p.2.2.1,(m.length:Int)=p.1
theorem valid {p:PP} (h:Bp p=true):Valid p:=by
 have h0:=wy h
 obtain ⟨h1,_,_⟩:=Du.1 h
 obtain ⟨_,_,h4⟩:=Du.1 h1
 exact ⟨⟨h0.1,h0.2.1⟩,h0.2.2,λm hm=>(Du.1 (h4 m hm)).2,λm hm=>(Du.1 (h4 m hm)).1⟩
theorem gq {p:PP} (h:Valid p) {l:Int} (hl:Gq (List.length p.2.2.1) l):((Af p.2.2.1 l).length:Int)=p.1/\Oc (Af p.2.2.1 l).length (Af p.2.2.1 l):=by
 obtain ⟨k,hk,rfl|rfl⟩:=Rr hl
 ·rw [Td hk]
  exact ⟨h.len _ (List.getElem_mem hk),(l5 (h.perm _ (List.getElem_mem hk))).row⟩
 ·rw [Tc hk,jz]
  exact ⟨h.len _ (List.getElem_mem hk),FC (l5 (h.perm _ (List.getElem_mem hk)))⟩
theorem r9 (s y:List Int) (P:List Int->Prop) (h1:s.length<=20) (h2:Oc y.length s) (h3:P (Ac s y)):
  Cl
   (λ(v5:Int×List Int×PUnit) (k6:Int×List Int×PUnit->Prop)=>
    Br (decide (v5.1<(↑s.length:Int)))
     (∃(y7:Int),
      idx s v5.1=some y7/\
       ∃(y8:Int),
        idx y y7=some y8/\
         (0:Nat)=(0:Nat)/\
          v5.2.1.length=v5.2.1.length/\
           v5.2.1.length+(List.take (1:Nat) (List.drop (0:Nat) [y8])).length<=Bq/\
            (0:Nat)=(0:Nat)/\
             (v5.2.1++List.take (1:Nat) (List.drop (0:Nat) [y8])).length=(v5.2.1++List.take (1:Nat) (List.drop (0:Nat) [y8])).length/\
              k6 (IntKind.i64.wrap (v5.1+(1:Int)),v5.2.1++List.take (1:Nat) (List.drop (0:Nat) [y8]),()))
     (P (List.take v5.2.1.length (List.drop (0:Nat) v5.2.1))))
   ((0:Int),([]:List Int),PUnit.unit):=by
 refine Az s.length (λv=>v.1) (λj v=>v.2.1=(s.take j).map (Md y)) rfl (by simp) ?_
 rintro j ⟨i,ys,⟨⟩⟩ K hj hi hR hK
 dsimp only at hi hR⊢
 subst hi hR
 refine Br.dec (λhl=>?_) λhl=>?_
 ·have hl:j<s.length:=by omega
  have hy:=h2 _ (List.getElem_mem hl)
  refine ⟨_,Bc hl,_,sa hy.1 hy.2,rfl,rfl,?_,rfl,rfl,?_⟩
  ·show ((s.take j).map (Md y)).length+1<=4294967296
   rw [List.length_map,List.length_take];omega
  ·rw [Au (by omega)]
   refine hK hl _ rfl ?_
   dsimp only
   rw [List.take_succ_eq_append_getElem hl,List.map_append]
   rfl
 ·have:j=s.length:=by omega
  subst this
  rw [List.drop_zero,List.take_length,List.take_length]
  exact h3
theorem BP (p:PP) (s:List Int) (l:Int) (h:Bp p=true/\List.length s<=20/\(∀y∈s,0<=y/\y<p.1)/\Gq (List.length p.2.2.1) l):fnW Di (look [(150,Jt)]) Wm Try.f115 (p,s,l,()) (λ(z:List Int)=>z=Ac s (Af p.2.2.1 l)):=by
 obtain ⟨hv,hs,hr,hl⟩:=h
 have hv:=valid hv
 have hf:=hv.kh
 refine Eq.mp (CY p s l _) ?_
 have AD:=gq hv hl
 have Rp:Oc (Af p.2.2.1 l).length s:= λy hy=>by have:=hr y hy;omega
 obtain ⟨k,hk,rfl|rfl⟩:=Rr hl
 ·rw [if_pos rfl,Bx (n:=0-((k:Int)+1)) (by omega) (by omega),if_neg (by omega),Bx (by omega) (by omega),show (k:Int)+1-1=(k:Int) by omega]
  refine ⟨_,Bc hk,Br.dec (λhn=>by omega) λ_=>⟨rfl,rfl,?_⟩⟩
  rw [Td hk] at Rp⊢
  exact r9 s _ (λz=>z=Ac s p.2.2.1[k]) hs Rp rfl
 ·rw [if_pos rfl,Bx (n:=0- -((k:Int)+1)) (by omega) (by omega),if_pos (by omega),Bx (by omega) (by omega),show (0:Int)- -((k:Int)+1)-1=(k:Int) by omega]
  refine ⟨_,Bc hk,Br.dec (λ_=>⟨_,if_pos (hv.perm _ (List.getElem_mem hk)),rfl,rfl,?_⟩) λhn=>by omega⟩
  rw [Tc hk] at Rp⊢
  exact r9 s (Aj p.2.2.1[k]) (λz=>z=Ac s (Aj p.2.2.1[k])) hs Rp rfl
theorem qe:Sound Try.prog 115 Wm:=
 Sound.Dx Ci (Ai fD Bb) mixed Try.func115 (by kernel_rfl) (by kernel_rfl) λx h=>BP x.1 x.2.1 x.2.2.1 h
end Go.Proofs.Ytjbdmibbbpdnnaa

namespace Go.Proofs.Ytjbdmibbbpdnnaa
open Go.RowKit
abbrev rL:CK:= .row tI 2
def Ru:List (List Int)->Nat
 | []=>0
 |r::rs=>r.length+Ru rs
def low (k:Int):Prop:=0<=k/\k<=1099511627776
theorem Dz {α:Type} (xs:List α):List.take xs.length (List.drop 0 xs)=xs:=by rw [List.drop_zero,List.take_length]
end Go.Proofs.Ytjbdmibbbpdnnaa

namespace Go.Proofs.Ytjbdmibbbpdnnaa
open Go.RowKit
theorem gu (a:List Int):Hk a a=true:=by simp [Hk]
theorem CI {n:Nat} {room:Int} (h: ¬gw n room<0):gw n room=room-n/\(n:Int)<=room:=by
 unfold gw at*
 split at h
 ·exact absurd (show (-1:Int)<0 by decide) h
 ·rename_i h1;rw [if_neg h1];exact ⟨rfl,by omega⟩
theorem tE: ∀(xs:List (List Int)) (room:Int),0<=room-> ¬tD xs room<0->tD xs room=room-Ru xs
 | [],room,_,_=>by simp [tD,Ru]
 |r::xs,room,h0,h=>by
  simp only [tD,Ru] at h⊢
  split at h
  ·exact absurd (show (-1:Int)<0 by decide) h
  ·rename_i h1
   rw [if_neg h1]
   have e1:=CI (n:=r.length) h1
   have e1:fh r room=room-r.length/\(r.length:Int)<=room:=e1
   rw [tE xs _ (by rw [e1.1];omega) h,e1.1]
   omega
theorem CG {xs:List (List Int)} {room:Int} (h: ¬Va xs room<0):Va xs room=room-xs.length-Ru xs:=by
 unfold Va at*
 split at h
 ·exact absurd (show (-1:Int)<0 by decide) h
 ·rename_i h1
  rw [if_neg h1]
  have e1:=CI h1
  rw [tE xs _ (by rw [e1.1];omega) h,e1.1]
end Go.Proofs.Ytjbdmibbbpdnnaa

namespace Go.Proofs.Ytjbdmibbbpdnnaa
open Go.RowKit
noncomputable abbrev Jc:Spec:=Dx (.pair tL .unit) tL false true (λx=>short x.1) (λx=>x.1)
theorem wA (xs:List Int) (P:List Int->Prop):(0=0/\0=([]:List Int).length/\0+xs.length<=Bq/\P (List.take ([]++xs).length (List.drop 0 ([]++xs))))=fnW Di (look []) Jc Try.f123 (xs,()) P:=by kernel_rfl
theorem vJ (xs:List Int) (h:short xs):fnW Di (look []) Jc Try.f123 (xs,()) (λ(z:List Int)=>z=xs):=by
 unfold short at h
 refine Eq.mp (wA xs _) ⟨rfl,rfl,by show 0+xs.length<=4294967296;omega,?_⟩
 simp only [Dz,List.nil_append]
theorem bw:Sound Try.prog 123 Jc:=
 Sound.Dx Ci Bb mixed Try.func123 (by kernel_rfl) (by kernel_rfl) λx h=>vJ x.1 h
end Go.Proofs.Ytjbdmibbbpdnnaa

namespace Go.Proofs.Ytjbdmibbbpdnnaa
open Go.RowKit
def Mo (xs:List Int):ByteArray:=bytesOf (xs.map λx=>IntKind.u8.wrap x)
noncomputable abbrev Fa:Spec:=Dx (.pair tL .unit) .str false true (λx=>short x.1) (λx=>Mo x.1)
def fo (ps:List (List Int)) (p:List Int):Int:=Fz (λq=>decide (q=p)) ps 0
theorem wG (xs:List Int) (P:ByteArray->Prop):(((0:Int)<=(↑xs.length:Int)/\(↑xs.length:Int)<(↑Bq:Int)+(1:Int))/\(↑xs.length:Int)=(↑xs.length:Int)/\0=0/\(List.replicate (↑xs.length:Int).toNat (Int.ofNat (nat_lit 0))).length=(List.replicate (↑xs.length:Int).toNat (Int.ofNat (nat_lit 0))).length/\Cl (λ(v2:Int×List Int×PUnit) (k3:Int×List Int×PUnit->Prop)=>Br (decide (v2.1<(↑xs.length:Int))) (∃(y4:Int),idx xs v2.1=some y4/\((0:Int)<=v2.1/\v2.1<(↑v2.2.1.length:Int))/\0+v2.1.toNat<v2.2.1.length/\0=0/\v2.2.1.length=(v2.2.1.set (0+v2.1.toNat) (IntKind.u8.wrap y4)).length/\k3 (IntKind.i64.wrap (v2.1+(1:Int)),v2.2.1.set (0+v2.1.toNat) (IntKind.u8.wrap y4),())) (P (bytesOf (List.take v2.2.1.length (List.drop 0 v2.2.1))))) ((0:Int),List.replicate (↑xs.length:Int).toNat (Int.ofNat (nat_lit 0)),PUnit.unit))=fnW Di (look []) Fa Try.f128 (xs,()) P:=by kernel_rfl
theorem vP (xs:List Int) (h:short xs):fnW Di (look []) Fa Try.f128 (xs,()) (λ(z:ByteArray)=>z=Mo xs):=by
 unfold short at h
 refine Eq.mp (wG xs _) ?_
 refine ⟨⟨by omega,by show (xs.length:Int)<(4294967296:Int)+1;omega⟩,rfl,rfl,rfl,?_⟩
 have Nz:(xs.map λx=>IntKind.u8.wrap x).length=xs.length:=by simp
 refine Az xs.length (λv=>v.1) (λj v=>v.2.1.length=(xs.map λx=>IntKind.u8.wrap x).length/\v.2.1.take j=(xs.map λx=>IntKind.u8.wrap x).take j) rfl ⟨by rw [Nz];simp,by simp⟩ ?_
 rintro j ⟨i,ys,⟨⟩⟩ K hj hi ⟨h1,h2⟩ hK
 dsimp only at hi h1 h2⊢
 subst hi
 refine Br.dec (λhl=>?_) λhl=>?_
 ·have hl:j<xs.length:=by omega
  refine ⟨_,Bc hl,⟨by omega,by omega⟩,by rw [Int.toNat_natCast];omega,rfl,by rw [List.length_set],?_⟩
  rw [Au (by omega),Int.toNat_natCast,Nat.zero_add]
  have Hy:j<(xs.map λx=>IntKind.u8.wrap x).length:=by rw [Nz];exact hl
  have e:IntKind.u8.wrap xs[j]=(xs.map λx=>IntKind.u8.wrap x)[j]:=by simp
  rw [e]
  exact hK hl _ rfl ⟨by rw [List.length_set];exact h1,Pu Hy h1 h2⟩
 ·have:j=xs.length:=by omega
  subst this
  rw [<-Nz,List.take_length,<-h1,List.take_length] at h2
  rw [List.drop_zero,List.take_length,h2];rfl
theorem lB:Sound Try.prog 128 Fa:=
 Sound.Dx Ci Bb mixed Try.func128 (by kernel_rfl) (by kernel_rfl) λx h=>vP x.1 h
theorem Zj {α:Type} (P:α->Bool) (y:α): ∀(l:List α) (i:Int),0<=i->Fz P (l++ [y]) i=if Fz P l i<0 then (if P y=true then i+l.length else-1) else Fz P l i
 | [],i,_=>by simp [Fz]
 |x::r,i,h=>by
  simp only [List.cons_append,Fz,List.length_cons]
  split
  ·rw [if_neg (by omega)]
  ·rw [Zj P y r (i+1) (by omega),show i+1+(r.length:Int)=i+((r.length+1:Nat):Int) by push_cast;omega]
theorem pQ (ps:List (List Int)) (q p:List Int):fo (ps++ [q]) p=if fo ps p<0 then (if q=p then (ps.length:Int) else-1) else fo ps p:=by
 unfold fo
 rw [Zj _ _ _ _ (Int.le_refl 0)]
 simp only [decide_eq_true_eq,Int.zero_add]
def So (p:List Int):Prop:= ∀x∈p,0<=x/\x<256
theorem zM {x y:Int} (hx:0<=x/\x<256) (hy:0<=y/\y<256) (h:UInt8.ofNat (IntKind.u8.wrap x).toNat=UInt8.ofNat (IntKind.u8.wrap y).toNat):x=y:=by
 have h:=congrArg UInt8.toNat h
 simp only [IntKind.wrap_u8,UInt8.toNat_ofNat'] at h
 omega
theorem bytes_inj: ∀(p q:List Int),So p->So q->(p.map λx=>UInt8.ofNat (IntKind.u8.wrap x).toNat)=(q.map λx=>UInt8.ofNat (IntKind.u8.wrap x).toNat)->p=q
 | [],[],_,_,_=>rfl
 | [],_::_,_,_,h=>by simp at h
 |_::_,[],_,_,h=>by simp at h
 |x::p,y::q,hp,hq,h=>by
  simp only [List.map_cons,List.cons.injEq] at h
  rw [zM (hp x (by simp)) (hq y (by simp)) h.1,bytes_inj p q (λz hz=>hp z (by simp [hz])) (λz hz=>hq z (by simp [hz])) h.2]
theorem key_inj {p q:List Int} (hp:So p) (hq:So q) (h:Mo p=Mo q):p=q:=by
 refine bytes_inj p q hp hq ?_
 simp only [Mo,bytesOf,ByteArray.mk.injEq,List.map_map] at h
 have h:=congrArg Array.toList h
 simpa [Function.comp_def] using h
def KM (m:ByteArray->Option Int) (ps:List (List Int)):Prop:= ∀p,So p->m (Mo p)=if fo ps p<0 then none else some (fo ps p)
theorem KM.nil:KM (λ_=>none) []:= λp _=>by
 rw [if_pos (by unfold fo;simp [Fz])]
theorem KM.add {m:ByteArray->Option Int} {ps:List (List Int)} {q:List Int} (h:KM m ps) (hq:So q) (hn:fo ps q<0):KM (Yt m (Mo q) (ps.length:Int)) (ps++ [q]):=by
 intro p hp
 rw [pQ]
 unfold Yt
 by_cases e:p=q
 ·subst e
  rw [if_pos rfl,if_pos hn,if_pos rfl,if_neg (by omega)]
 ·rw [if_neg (λhk=>e (key_inj hp hq hk)),h p hp]
  have e': ¬q=p:= λh=>e h.symm
  rw [if_neg e']
  by_cases y0:fo ps p<0
  ·rw [if_pos y0,if_pos y0,if_pos (by decide)]
  ·rw [if_neg y0,if_neg y0,if_neg y0]
end Go.Proofs.Ytjbdmibbbpdnnaa

namespace Go.Proofs.Ytjbdmibbbpdnnaa
open Go.RowKit
noncomputable abbrev Mv:Spec:=Dx (.pair Cx .unit) tL false true (λx=>List.length x.1.2.2.1<=8) (λx=>Ba (List.length x.1.2.2.1))
abbrev fF:Type:=Int×Int×ByteArray×List (List Int)×List Int×PUnit
theorem tV (p:Int×ByteArray×List (List Int)×Unit) (P:List Int->Prop):(0=0/\0=([]:List Int).length/\Cl (λ(v2:fF) (k3:fF->Prop)=>Br (decide (v2.1<=(↑v2.2.2.2.1.length:Int))) (0=0/\v2.2.2.2.2.1.length=v2.2.2.2.2.1.length/\v2.2.2.2.2.1.length+(List.take 2 (List.drop 0 [v2.1,IntKind.i64.wrap ((0:Int)-v2.1)])).length<=Bq/\0=0/\(v2.2.2.2.2.1++List.take 2 (List.drop 0 [v2.1,IntKind.i64.wrap ((0:Int)-v2.1)])).length=(v2.2.2.2.2.1++List.take 2 (List.drop 0 [v2.1,IntKind.i64.wrap ((0:Int)-v2.1)])).length/\k3 (IntKind.i64.wrap (v2.1+(1:Int)),v2.2.1,v2.2.2.1,v2.2.2.2.1,v2.2.2.2.2.1++List.take 2 (List.drop 0 [v2.1,IntKind.i64.wrap ((0:Int)-v2.1)]),())) (P (List.take v2.2.2.2.2.1.length (List.drop 0 v2.2.2.2.2.1)))) ((1:Int),p.1,p.2.1,p.2.2.1,[],PUnit.unit))=fnW Di (look []) Mv Try.f96 (p,()) P:=by kernel_rfl
theorem sV (p:PP) (h:List.length p.2.2.1<=8):fnW Di (look []) Mv Try.f96 (p,()) (λ(z:List Int)=>z=Ba (List.length p.2.2.1)):=by
 refine Eq.mp (tV p _) ⟨rfl,rfl,?_⟩
 refine Cl.mk (λv=> ∃j:Nat,j<=List.length p.2.2.1/\v=((j:Int)+1,p.1,p.2.1,p.2.2.1,Ba j,())) (λv=>List.length p.2.2.1+1-v.1.toNat) ⟨0,Nat.zero_le _,rfl⟩ ?_
 rintro _ ⟨j,hj,rfl⟩
 dsimp only
 refine Br.dec (λhl=>?_) λhl=>?_
 ·refine ⟨rfl,rfl,?_,rfl,rfl,⟨j+1,by omega,?_⟩,?_⟩
  ·show (Ba j).length+2<=4294967296
   rw [Ls];omega
  ·rw [Tf,Bx (n:=(j:Int)+1+1) (by omega) (by omega),Bx (n:=0-((j:Int)+1)) (by omega) (by omega),Int.zero_sub]
   rfl
  ·rw [Bx (by omega) (by omega)];omega
 ·have:j=List.length p.2.2.1:=by omega
  subst this
  rw [Dz]
theorem jj:Sound Try.prog 96 Mv:=
 Sound.Dx Ci Bb mixed Try.func96 (by kernel_rfl) (by kernel_rfl) λx h=>sV x.1 h
theorem AU {a:Int} {P:Prop} (h:(a !=a)=true):P:=by simp at h
theorem CH {p:PP} {room:Int} (hr:roomy room) (h: ¬aT p room<0):(Ru p.2.2.1:Int)<=room-aT p room/\roomy (aT p room):=by
 unfold aT at h⊢
 split at h
 ·exact absurd (show (-1:Int)<0 by decide) h
 ·rename_i h1
  rw [if_neg h1]
  split at h
  ·exact absurd (show (-1:Int)<0 by decide) h
  ·rename_i h2
   rw [if_neg h2]
   have e2:=CG h2
   obtain ⟨r1,r2⟩:=hr
   unfold roomy
   omega
end Go.Proofs.Ytjbdmibbbpdnnaa

namespace Go.Proofs.Ytjbdmibbbpdnnaa
open Go.RowKit
def pw (v:Int):List Int->Nat
 | []=>0
 |x::r=>if x>v then pw v r+1 else 0
def FD (v:Int) (t:List Int):Option (List Int):=if pw v t=0 then none else some (Md t ((pw v t-1:Nat):Int)::(t.set (pw v t-1) v).reverse)
def aR:List Int->Option (List Int)
 | []=>none
 |v::t=>match aR t with
  |some t'=>some (v::t')
  |none=>FD v t
theorem sH {s s':List Int} (h:aR s=some s'): ∀pre:List Int,aR (pre++s)=some (pre++s')
 | []=>h
 |v::p=>by rw [List.cons_append,aR,sH h p];rfl
theorem FQ {α:Type} (pre:List α) (v a:α) (t:List α):(pre++v::t).set pre.length a=pre++a::t:=by
 rw [List.set_append,if_neg (by omega)];simp
inductive wL:List Int->List (List Int)->List Int->Prop where
 |one (a:List Int):wL a [a] a
 |more {a c b:List Int} {L:List (List Int)} :aR a=some c->wL c L b->wL a (a::L) b
theorem wL.cons {a b:List Int} {L:List (List Int)} (h:wL a L b) (v:Int):wL (v::a) (L.map (v:: ·)) (v::b):=by
 induction h with
 |one a=>exact .one _
 |more h3 _ ih=>exact .more (sH h3 [v]) ih
theorem wL.head {a b:List Int} {L:List (List Int)} (h:wL a L b): ∃M,L=a::M:=by
 cases h with
 |one=>exact ⟨_,rfl⟩
 |more _ _=>exact ⟨_,rfl⟩
theorem wL.at {a b:List Int} {L:List (List Int)} (h:wL a L b): ∀j (hj:j<L.length),(∀h2:j+1<L.length,aR L[j]=some L[j+1])/\(j+1=L.length->L[j]=b):=by
 induction h with
 |one a=>
  intro j hj
  simp only [List.length_singleton] at hj
  have:j=0:=by omega
  subst this
  exact ⟨λh2=>by simp at h2,λ_=>rfl⟩
 |more h3 h4 ih=>
  intro j hj
  rcases j with _|j
  ·obtain ⟨M,hM⟩:=h4.head
   refine ⟨λh2=>?_,λh2=>?_⟩
   ·simp only [List.getElem_cons_zero,List.getElem_cons_succ]
    subst hM
    exact h3
   ·subst hM;simp at h2
  ·have:=ih j (by simpa using hj)
   refine ⟨λh2=>?_,λh2=>?_⟩
   ·simp only [List.getElem_cons_succ]
    exact this.1 (by simpa using h2)
   ·simp only [List.getElem_cons_succ]
    exact this.2 (by simpa using h2)
theorem wL.distinct {a b:List Int} {L:List (List Int)} (h:wL a L b) (hb:aR b=none): ∀k i j (hi:i<L.length) (hj:j<L.length),L.length-j=k->i<j->L[i]≠L[j]:=by
 intro k
 induction k with
 |zero=>intro i j hi hj hk;omega
 |succ k ih=>
  intro i j hi hj hk dH he
  by_cases e:j+1<L.length
  ·have h1:=(h.at i hi).1 (by omega)
   have h2:=(h.at j hj).1 e
   rw [he,h2] at h1
   exact ih (i+1) (j+1) (by omega) e (by omega) (by omega) (Option.some.inj h1).symm
  ·have h1:=(h.at i hi).1 (by omega)
   have h2:=(h.at j hj).2 (by omega)
   rw [he,h2,hb] at h1
   cases h1
theorem wL.idx {a b:List Int} {L:List (List Int)} (h:wL a L b) (hb:aR b=none) {j:Nat} (hj:j<L.length):L.idxOf L[j]=j:=by
 have h1:L.idxOf L[j]<L.length:=List.idxOf_lt_length_of_mem (List.getElem_mem _)
 have h2:L[L.idxOf L[j]]=L[j]:=List.getElem_idxOf h1
 rcases Nat.lt_trichotomy (L.idxOf L[j]) j with h3|h3|h3
 ·exact absurd h2 (h.distinct hb _ _ _ h1 hj rfl h3)
 ·exact h3
 ·exact absurd h2.symm (h.distinct hb _ _ _ hj h1 rfl h3)
end Go.Proofs.Ytjbdmibbbpdnnaa

namespace Go.Proofs.Ytjbdmibbbpdnnaa
open Go.RowKit
def Bw:List Int->List Int->Int
 | [],[]=>0
 | [],_::_=> -1
 |_::_,[]=>1
 |x::a,y::b=>if x<y then-1 else if x>y then 1 else Bw a b
def Xv (a b:List Int):Bool:=decide (Bw a b<0)
noncomputable abbrev gL:Spec:=Dx (.pair (.oslice tI) .unit) tL false true (λx=>short (x.1.getD [])) (λx=>x.1.getD [])
noncomputable abbrev fv:Spec:=Dx (.pair tL .unit) tL false true (λx=>short x.1) (λx=>x.1)
noncomputable abbrev Pg:Spec:=Dx (.pair tL (.pair tL .unit)) .bool false true (λx=>short x.1/\List.length x.1=List.length x.2.1) (λx=>Xv x.1 x.2.1)
theorem zc (xs:Option (List Int)) (P:List Int->Prop):(Br xs.isNone (P (List.take 0 (List.drop 0 []))) (0=0/\0=([]:List Int).length/\0+(xs.getD []).length<=Bq/\P (List.take ([]++xs.getD []).length (List.drop 0 ([]++xs.getD [])))))=fnW Di (look []) gL Try.f145 (xs,()) P:=by kernel_rfl
theorem wD (a b:List Int) (P:Bool->Prop):(Cl (λ(v3:Int×PUnit) (k4:Int×PUnit->Prop)=>Br (decide (v3.1<(↑a.length:Int))) (∃(y5:Int),idx a v3.1=some y5/\ ∃(y6:Int),idx b v3.1=some y6/\Br (y5 !=y6) (∃(y7:Int),idx a v3.1=some y7/\ ∃(y8:Int),idx b v3.1=some y8/\P (decide (y7<y8))) (k4 (IntKind.i64.wrap (v3.1+(1:Int)),()))) (P false)) ((0:Int),PUnit.unit))=fnW Di (look []) Pg Try.f144 (a,b,()) P:=by kernel_rfl
theorem Sound.ofO {P:Program} {f:FuncId} {e:Ty} {r res:Ty} {Dp fresh:Bool} {pre:(Ty.pair (.oslice e) r).den->Prop} {val:(Ty.pair (.oslice e) r).den->res.den} {aY:(Ty.pair (.slice e) r).den->Prop} {lS:(Ty.pair (.slice e) r).den->res.den}
  (h:Sound P f (Go.Proofs.Ytjbdmibbbpdnnaa.Dx (.pair (.oslice e) r) res Dp fresh pre val))
  (hp: ∀(o:Option (List e.den)) (y:r.den),aY (o.getD [],y)->pre (o,y)/\val (o,y)=lS (o.getD [],y)):Sound P f (Go.Proofs.Ytjbdmibbbpdnnaa.Dx (.pair (.slice e) r) res Dp fresh aY lS):=by
 refine ⟨h.enter,λw S vs x y hS h2 h5=>?_⟩
 obtain ⟨xs,rest⟩:=x
 cases vs with
 |nil=>exact h2.elim
 |cons u us=>
  obtain ⟨h7,h8⟩:=h2
  obtain ⟨ox,h9,rfl⟩:=h7.told
  have dI:aY (ox.getD [],rest):=Classical.byContradiction λhn=>by
   have:(Go.Proofs.Ytjbdmibbbpdnnaa.Dx (.pair (.slice e) r) res Dp fresh aY lS).fn (ox.getD [],rest)=none:=if_neg hn
   rw [this] at h5;cases h5
  obtain ⟨k1,k2⟩:=hp ox rest dI
  have hv:(Go.Proofs.Ytjbdmibbbpdnnaa.Dx (.pair (.slice e) r) res Dp fresh aY lS).fn (ox.getD [],rest)=some (lS (ox.getD [],rest)):=if_pos dI
  rw [hv] at h5
  have h5:=Option.some.inj h5
  exact h.calls w S (u::us) (ox,rest) y hS ⟨h9,h8⟩ ((if_pos k1).trans (by rw [k2];exact congrArg some h5))
theorem yx (xs:Option (List Int)) (h:short (xs.getD [])):fnW Di (look []) gL Try.f145 (xs,()) (λ(z:List Int)=>z=xs.getD []):=by
 unfold short at h
 refine Eq.mp (zc xs _) ⟨λhn=>?_,λ_=>⟨rfl,rfl,by show 0+(xs.getD []).length<=4294967296;omega,?_⟩⟩
 ·cases xs with
  |none=>rfl
  |some y=>cases hn
 ·simp only [Dz,List.nil_append]
theorem mP:Sound Try.prog 145 gL:=
 Sound.Dx Ci Bb mixed Try.func145 (by kernel_rfl) (by kernel_rfl) λx h=>yx x.1 h
theorem qf:Sound Try.prog 145 fv:=Sound.ofO mP λ_ _ h=>⟨h,rfl⟩
theorem vM (a b:List Int) (h:short a/\a.length=b.length):fnW Di (look []) Pg Try.f144 (a,b,()) (λ(z:Bool)=>z=Xv a b):=by
 obtain ⟨ha,hb⟩:=h
 unfold short at ha
 refine Eq.mp (wD a b _) ?_
 refine Az a.length (λv=>v.1) (λj _=>Bw (a.drop j) (b.drop j)=Bw a b) rfl (by simp) ?_
 rintro j ⟨i,⟨⟩⟩ K hj hi JD hK
 dsimp only at hi⊢
 subst hi
 refine Br.dec (λhl=>?_) λhl=>?_
 ·have hl:j<a.length:=by omega
  have WK:j<b.length:=by omega
  rw [List.drop_eq_getElem_cons hl,List.drop_eq_getElem_cons WK] at JD
  simp only [Bw] at JD
  refine ⟨_,Bc hl,_,Bc WK,⟨λEr=>?_,λEr=>?_⟩⟩
  ·refine ⟨_,Bc hl,_,Bc WK,?_⟩
   have Er:a[j]≠b[j]:=by simpa using Er
   unfold Xv
   rw [<-JD]
   by_cases h1:a[j]<b[j]
   ·rw [if_pos h1];simp [h1]
   ·rw [if_neg h1,if_pos (by omega)];simp [h1]
  ·have Er:a[j]=b[j]:=by simpa using Er
   rw [if_neg (by omega),if_neg (by omega)] at JD
   rw [Au (by omega)]
   exact hK hl _ rfl JD
 ·have:j=a.length:=by omega
  subst this
  rw [List.drop_length,List.drop_eq_nil_of_le (by omega)] at JD
  unfold Xv
  rw [<-JD]
  rfl
theorem lx:Sound Try.prog 144 Pg:=
 Sound.Dx Ci Bb mixed Try.func144 (by kernel_rfl) (by kernel_rfl) λx h=>vM x.1 x.2.1 h
end Go.Proofs.Ytjbdmibbbpdnnaa

namespace Go.Proofs.Ytjbdmibbbpdnnaa
open Go.RowKit
abbrev SS:Type:=List (List Int)×List Int×List Int×Bool×Unit
abbrev rLS:CK:= .row tL 25
abbrev rN:CK:= .row tI 3
def Ck (L:List (List Int)) (Gx:List Int) (s:List Int):Nat:=(Gx.takeWhile λi=>Xv (L.getD i.toNat []) s).length
structure Cu (m:Nat) (L:List (List Int)) (Gx:List Int):Prop where
 kh:L.length<=3000
 len: ∀x∈L,x.length=m
 short:m<=20
 perm:Gx.Perm (upto L.length)
 sorted:Gx.Pairwise λi j=>Xv (L.getD i.toNat []) (L.getD j.toNat [])=true
def iI (L:List (List Int)) (s:List Int):Int:=if s∈L then (L.idxOf s:Int) else-1
def Od (Gx:List Int) (k:Nat) (x:Int):List Int:=Gx.take k++x::Gx.drop k
noncomputable abbrev Ym:Spec:=Dx (.pair Ul (.pair tL .unit)) tI false true (λx=>Cu (List.length x.2.1) x.1.1 x.1.2.2.1) (λx=>(Ck x.1.1 x.1.2.2.1 x.2.1:Int))
noncomputable abbrev Wo:Spec:=Dx (.pair Ul (.pair tL .unit)) tI false true (λx=>Cu (List.length x.2.1) x.1.1 x.1.2.2.1) (λx=>iI x.1.1 x.2.1)
noncomputable abbrev dV:MSpec:=yo [some 4,none,none] [(false,rLS),(false,rL),(false,rN),(false, .Gd .bool),(false, .Gd tL),(false, .Gd tI)] false [some 4] [rLS,rL,rN, .Gd .bool]
 (λx=>Cu (List.length x.2.2.2.2.1) x.1 x.2.2.1/\List.length x.2.1<=3000) (λx=>((x.1++ [x.2.2.2.2.1],x.2.1++ [x.2.2.2.2.2.1],Od x.2.2.1 (Ck x.1 x.2.2.1 x.2.2.2.2.1) (List.length x.1),x.2.2.2.1,()),()))
def Uk (L:List (List Int)):List Int:=(List.range L.length).foldl (λ(S:List Int) (i:Nat)=>Od S (Ck (L.take i) S (L.getD i [])) (i:Int)) []
def Gi (g:List (List Int)) (x:List Int) (d:Int):List Int->List (List Int)->List Int->List (List Int)×List Int×Bool
 | [],L,D=>(L,D,true)
 |l::ls,L,D=>if Ac x (Af g l)∈L then Gi g x d ls L D else if L.length=3000 then (L,D,false) else Gi g x d ls (L++ [Ac x (Af g l)]) (D++ [d+1])
def Hw (g:List (List Int)) (ls:List Int):Nat->Nat->List (List Int)->List Int->List (List Int)×List Int×Bool
 |0,_,L,D=>(L,D,true)
 |f+1,k,L,D=>if k<L.length then (match Gi g (L.getD k []) (D.getD k 0) ls L D with
  |(L',D',true)=>Hw g ls f (k+1) L' D'
  |(L',D',false)=>(L',D',false)) else (L,D,true)
def Fc (g:List (List Int)) (s:List Int):List (List Int)×List Int×Bool:=Hw g (Ba g.length) 3001 0 [s] [0]
def Ea (g:List (List Int)) (s:List Int):SS:=((Fc g s).1,(Fc g s).2.1,Uk (Fc g s).1,(Fc g s).2.2,())
noncomputable abbrev Cw:Spec:=Dx (.pair Cx (.pair tL .unit)) Ul false false (λx=>Bp x.1=true/\List.length x.2.1<=20/\ ∀y∈x.2.1,0<=y/\y<x.1.1) (λx=>Ea x.1.2.2.1 x.2.1)
abbrev xA:Type:=Int×Int×List (List Int)×List Int×List Int×Bool×PUnit
theorem MF (f:List (List Int)×List Int×List Int×Bool×Unit) (s:List Int) (P:Int->Prop):(Cl (λ(v3:xA) (k4:xA->Prop)=>Br (decide (v3.1<v3.2.1)) ((2:Int)≠(0:Int)/\ ∃(y5:Int),idx v3.2.2.2.2.1 (IntKind.i64.wrap ((IntKind.i64.wrap (v3.1+v3.2.1)).tdiv (2:Int)))=some y5/\ ∃(y6:List Int),idx v3.2.2.1 y5=some y6/\ ∃(y7:Bool),Pg.fn (y6,s,())=some y7/\Br y7 (k4 (IntKind.i64.wrap (IntKind.i64.wrap ((IntKind.i64.wrap (v3.1+v3.2.1)).tdiv (2:Int))+(1:Int)),v3.2.1,v3.2.2.1,v3.2.2.2.1,v3.2.2.2.2.1,v3.2.2.2.2.2.1,())) (k4 (v3.1,IntKind.i64.wrap ((IntKind.i64.wrap (v3.1+v3.2.1)).tdiv (2:Int)),v3.2.2.1,v3.2.2.2.1,v3.2.2.2.2.1,v3.2.2.2.2.2.1,()))) (P v3.1)) ((0:Int),(↑f.2.2.1.length:Int),f.1,f.2.1,f.2.2.1,f.2.2.2.1,PUnit.unit))=fnW Di (look [(144,Pg)]) Ym Try.f104 (f,s,()) P:=by kernel_rfl
theorem DA (f:List (List Int)×List Int×List Int×Bool×Unit) (s:List Int) (P:Int->Prop):(∃(y3:Int),Ym.fn ((f.1,f.2.1,f.2.2.1,f.2.2.2.1,()),s,())=some y3/\Br (decide (y3<(↑f.2.2.1.length:Int))) (∃(y4:Int),idx f.2.2.1 y3=some y4/\ ∃(y5:List Int),idx f.1 y4=some y5/\ ∃(y6:Bool),Dm.fn (y5,s,())=some y6/\Br y6 (∃(y7:Int),idx f.2.2.1 y3=some y7/\P y7) (P (-1:Int))) (P (-1:Int)))=fnW Di (look [(104,Ym),(105,Dm)]) Wo Try.f54 (f,s,()) P:=by kernel_rfl
theorem ME (L:List (List Int)) (D S:List Int) (b:Bool) (s:List Int) (d:Int) (P:((List (List Int)×List Int×List Int×Bool×Unit)×Unit)->Prop):(∃(y7:Int),Ym.fn ((List.take L.length (List.drop 0 L),List.take D.length (List.drop 0 D),List.take S.length (List.drop 0 S),b,()),s,())=some y7/\0=0/\S.length=S.length/\S.length+(List.take 1 (List.drop 0 [(0:Int)])).length<=Bq/\((0:Int)<=IntKind.i64.wrap (y7+(1:Int))/\IntKind.i64.wrap (y7+(1:Int))<=(↑(S++List.take 1 (List.drop 0 [(0:Int)])).length:Int)/\(↑(S++List.take 1 (List.drop 0 [(0:Int)])).length:Int)<=(↑(S++List.take 1 (List.drop 0 [(0:Int)])).length:Int))/\((0:Int)<=y7/\y7<=(↑(S++List.take 1 (List.drop 0 [(0:Int)])).length:Int)/\(↑(S++List.take 1 (List.drop 0 [(0:Int)])).length:Int)<=(↑(S++List.take 1 (List.drop 0 [(0:Int)])).length:Int))/\((0:Int)<=y7/\y7<(↑(S++List.take 1 (List.drop 0 [(0:Int)])).length:Int))/\0+y7.toNat<(Bi (S++List.take 1 (List.drop 0 [(0:Int)])) (0+(IntKind.i64.wrap (y7+(1:Int))).toNat) (List.take ((↑(S++List.take 1 (List.drop 0 [(0:Int)])).length:Int).toNat-(IntKind.i64.wrap (y7+(1:Int))).toNat) (List.take ((↑(S++List.take 1 (List.drop 0 [(0:Int)])).length:Int).toNat-y7.toNat) (List.drop (0+y7.toNat) (S++List.take 1 (List.drop 0 [(0:Int)])))))).length/\0=0/\L.length=L.length/\L.length+(List.take 1 (List.drop 0 [s])).length<=Bq/\0=0/\D.length=D.length/\D.length+(List.take 1 (List.drop 0 [d])).length<=Bq/\P ((List.take (L++List.take 1 (List.drop 0 [s])).length (List.drop 0 (L++List.take 1 (List.drop 0 [s]))),List.take (D++List.take 1 (List.drop 0 [d])).length (List.drop 0 (D++List.take 1 (List.drop 0 [d]))),List.take (S++List.take 1 (List.drop 0 [(0:Int)])).length (List.drop 0 ((Bi (S++List.take 1 (List.drop 0 [(0:Int)])) (0+(IntKind.i64.wrap (y7+(1:Int))).toNat) (List.take ((↑(S++List.take 1 (List.drop 0 [(0:Int)])).length:Int).toNat-(IntKind.i64.wrap (y7+(1:Int))).toNat) (List.take ((↑(S++List.take 1 (List.drop 0 [(0:Int)])).length:Int).toNat-y7.toNat) (List.drop (0+y7.toNat) (S++List.take 1 (List.drop 0 [(0:Int)])))))).set (0+y7.toNat) (↑L.length:Int))),b,()),()))=fnMW FZ (look [(104,Ym)]) dV Try.f149 (L,D,S,b,s,d,()) P:=by kernel_rfl
abbrev fH:Type:=Int×Int×ByteArray×List (List Int)×Bool×Bool×List (List Int)×List Int×List Int×List (List Int)×List Int×List Int×PUnit
abbrev tG:Type:=(List (List Int)×List Int×List Int×Bool×PUnit)×PUnit
theorem GH (p:Int×ByteArray×List (List Int)×Unit) (s:List Int) (P:(List (List Int)×List Int×List Int×Bool×Unit)->Prop):(∃(y3:List Int),Jc.fn (s,())=some y3/\ ∃(y4:tG),dV.fn ([],[],[],false,y3,(0:Int),())=some y4/\ ∃(y5:List Int),Mv.fn ((p.1,p.2.1,p.2.2.1,()),())=some y5/\0=0/\0=([]:List Int).length/\0=0/\0=([]:List Int).length/\0=0/\0=([]:List Int).length/\0=0/\y4.1.1.length=y4.1.1.length/\0=0/\y4.1.2.1.length=y4.1.2.1.length/\0=0/\y4.1.2.2.1.length=y4.1.2.2.1.length/\Cl (λ(v6:fH) (k7:fH->Prop)=>Br (decide (v6.1<(↑v6.2.2.2.2.2.2.2.2.2.1.length:Int))) (0=0/\v6.2.2.2.2.2.2.1.length=v6.2.2.2.2.2.2.1.length/\0=0/\v6.2.2.2.2.2.2.2.1.length=v6.2.2.2.2.2.2.2.1.length/\0=0/\v6.2.2.2.2.2.2.2.2.1.length=v6.2.2.2.2.2.2.2.2.1.length/\0=0/\v6.2.2.2.2.2.2.2.2.2.1.length=v6.2.2.2.2.2.2.2.2.2.1.length/\0=0/\v6.2.2.2.2.2.2.2.2.2.2.1.length=v6.2.2.2.2.2.2.2.2.2.2.1.length/\0=0/\v6.2.2.2.2.2.2.2.2.2.2.2.1.length=v6.2.2.2.2.2.2.2.2.2.2.2.1.length/\Cl (λ(v8:fH) (k9:fH->Prop)=>Br (decide (v8.1<(↑y5.length:Int))) (((0:Int)<=v6.1/\v6.1<(↑v8.2.2.2.2.2.2.2.2.2.1.length:Int))/\ ∃(zx:List Int),v8.2.2.2.2.2.2.2.2.2.1[0+v6.1.toNat]?=some zx/\ ∃(DE:Int),idx y5 v8.1=some DE/\ ∃(NI:List Int),Wm.fn ((v8.2.1,v8.2.2.1,v8.2.2.2.1,()),zx,DE,())=some NI/\ ∃(wH:Int),Wo.fn ((List.take v8.2.2.2.2.2.2.2.2.2.1.length (List.drop 0 v8.2.2.2.2.2.2.2.2.2.1),List.take v8.2.2.2.2.2.2.2.2.2.2.1.length (List.drop 0 v8.2.2.2.2.2.2.2.2.2.2.1),List.take v8.2.2.2.2.2.2.2.2.2.2.2.1.length (List.drop 0 v8.2.2.2.2.2.2.2.2.2.2.2.1),v8.2.2.2.2.2.1,()),NI,())=some wH/\Br (decide (wH>=(0:Int))) (0=0/\v8.2.2.2.2.2.2.1.length=v8.2.2.2.2.2.2.1.length/\0=0/\v8.2.2.2.2.2.2.2.1.length=v8.2.2.2.2.2.2.2.1.length/\0=0/\v8.2.2.2.2.2.2.2.2.1.length=v8.2.2.2.2.2.2.2.2.1.length/\0=0/\v8.2.2.2.2.2.2.2.2.2.1.length=v8.2.2.2.2.2.2.2.2.2.1.length/\0=0/\v8.2.2.2.2.2.2.2.2.2.2.1.length=v8.2.2.2.2.2.2.2.2.2.2.1.length/\0=0/\v8.2.2.2.2.2.2.2.2.2.2.2.1.length=v8.2.2.2.2.2.2.2.2.2.2.2.1.length/\k9 (IntKind.i64.wrap (v8.1+(1:Int)),v8.2.1,v8.2.2.1,v8.2.2.2.1,v8.2.2.2.2.1,v8.2.2.2.2.2.1,v8.2.2.2.2.2.2.1,v8.2.2.2.2.2.2.2.1,v8.2.2.2.2.2.2.2.2.1,v8.2.2.2.2.2.2.2.2.2.1,v8.2.2.2.2.2.2.2.2.2.2.1,v8.2.2.2.2.2.2.2.2.2.2.2.1,())) (Br ((↑v8.2.2.2.2.2.2.2.2.2.1.length:Int)==(3000:Int)) (P (List.take v8.2.2.2.2.2.2.2.2.2.1.length (List.drop 0 v8.2.2.2.2.2.2.2.2.2.1),List.take v8.2.2.2.2.2.2.2.2.2.2.1.length (List.drop 0 v8.2.2.2.2.2.2.2.2.2.2.1),List.take v8.2.2.2.2.2.2.2.2.2.2.2.1.length (List.drop 0 v8.2.2.2.2.2.2.2.2.2.2.2.1),v8.2.2.2.2.2.1,())) (((0:Int)<=v6.1/\v6.1<(↑v8.2.2.2.2.2.2.2.2.2.2.1.length:Int))/\ ∃(di:Int),v8.2.2.2.2.2.2.2.2.2.2.1[0+v6.1.toNat]?=some di/\0=0/\v8.2.2.2.2.2.2.2.2.2.1.length=v8.2.2.2.2.2.2.2.2.2.1.length/\0=0/\v8.2.2.2.2.2.2.2.2.2.2.1.length=v8.2.2.2.2.2.2.2.2.2.2.1.length/\0=0/\v8.2.2.2.2.2.2.2.2.2.2.2.1.length=v8.2.2.2.2.2.2.2.2.2.2.2.1.length/\ ∃(lV:tG),dV.fn (v8.2.2.2.2.2.2.2.2.2.1,v8.2.2.2.2.2.2.2.2.2.2.1,v8.2.2.2.2.2.2.2.2.2.2.2.1,v8.2.2.2.2.2.1,NI,IntKind.i64.wrap (di+(1:Int)),())=some lV/\0=0/\v8.2.2.2.2.2.2.1.length=v8.2.2.2.2.2.2.1.length/\0=0/\v8.2.2.2.2.2.2.2.1.length=v8.2.2.2.2.2.2.2.1.length/\0=0/\v8.2.2.2.2.2.2.2.2.1.length=v8.2.2.2.2.2.2.2.2.1.length/\0=0/\lV.1.1.length=lV.1.1.length/\0=0/\lV.1.2.1.length=lV.1.2.1.length/\0=0/\lV.1.2.2.1.length=lV.1.2.2.1.length/\k9 (IntKind.i64.wrap (v8.1+(1:Int)),v8.2.1,v8.2.2.1,v8.2.2.2.1,v8.2.2.2.2.1,lV.1.2.2.2.1,v8.2.2.2.2.2.2.1,v8.2.2.2.2.2.2.2.1,v8.2.2.2.2.2.2.2.2.1,lV.1.1,lV.1.2.1,lV.1.2.2.1,())))) (0=0/\v8.2.2.2.2.2.2.1.length=v8.2.2.2.2.2.2.1.length/\0=0/\v8.2.2.2.2.2.2.2.1.length=v8.2.2.2.2.2.2.2.1.length/\0=0/\v8.2.2.2.2.2.2.2.2.1.length=v8.2.2.2.2.2.2.2.2.1.length/\0=0/\v8.2.2.2.2.2.2.2.2.2.1.length=v8.2.2.2.2.2.2.2.2.2.1.length/\0=0/\v8.2.2.2.2.2.2.2.2.2.2.1.length=v8.2.2.2.2.2.2.2.2.2.2.1.length/\0=0/\v8.2.2.2.2.2.2.2.2.2.2.2.1.length=v8.2.2.2.2.2.2.2.2.2.2.2.1.length/\k7 (IntKind.i64.wrap (v6.1+(1:Int)),v8.2.1,v8.2.2.1,v8.2.2.2.1,v8.2.2.2.2.1,v8.2.2.2.2.2.1,v8.2.2.2.2.2.2.1,v8.2.2.2.2.2.2.2.1,v8.2.2.2.2.2.2.2.2.1,v8.2.2.2.2.2.2.2.2.2.1,v8.2.2.2.2.2.2.2.2.2.2.1,v8.2.2.2.2.2.2.2.2.2.2.2.1,()))) ((0:Int),v6.2.1,v6.2.2.1,v6.2.2.2.1,v6.2.2.2.2.1,v6.2.2.2.2.2.1,v6.2.2.2.2.2.2.1,v6.2.2.2.2.2.2.2.1,v6.2.2.2.2.2.2.2.2.1,v6.2.2.2.2.2.2.2.2.2.1,v6.2.2.2.2.2.2.2.2.2.2.1,v6.2.2.2.2.2.2.2.2.2.2.2.1,PUnit.unit)) (P (List.take v6.2.2.2.2.2.2.2.2.2.1.length (List.drop 0 v6.2.2.2.2.2.2.2.2.2.1),List.take v6.2.2.2.2.2.2.2.2.2.2.1.length (List.drop 0 v6.2.2.2.2.2.2.2.2.2.2.1),List.take v6.2.2.2.2.2.2.2.2.2.2.2.1.length (List.drop 0 v6.2.2.2.2.2.2.2.2.2.2.2.1),true,()))) ((0:Int),p.1,p.2.1,p.2.2.1,false,y4.1.2.2.2.1,[],[],[],y4.1.1,y4.1.2.1,y4.1.2.2.1,PUnit.unit))=fnW LZ (look [(123,Jc),(149,dV),(96,Mv),(115,Wm),(54,Wo)]) Cw Try.f112 (p,s,()) P:=by kernel_rfl
theorem jW: ∀ {a b:List Int},Bw a b=0↔a=b
 | [],[]=>by simp [Bw]
 | [],_::_=>by simp [Bw]
 |_::_,[]=>by simp [Bw]
 |x::a,y::b=>by
  simp only [Bw,List.cons.injEq]
  by_cases h1:x<y
  ·rw [if_pos h1]
   exact ⟨λh=>by omega,λh=>by omega⟩
  ·rw [if_neg h1]
   by_cases h2:x>y
   ·rw [if_pos h2]
    exact ⟨λh=>by omega,λh=>by omega⟩
   ·rw [if_neg h2,jW]
    exact ⟨λh=>⟨by omega,h⟩,λh=>h.2⟩
theorem wR: ∀(a b:List Int),Bw b a= -Bw a b
 | [],[]=>by simp [Bw]
 | [],_::_=>by simp [Bw]
 |_::_,[]=>by simp [Bw]
 |x::a,y::b=>by
  simp only [Bw]
  rcases Int.lt_trichotomy x y with h1|h1|h1
  ·simp [h1,show ¬y<x by omega]
  ·subst h1
   simp [wR a b]
  ·simp [h1,show ¬x<y by omega]
theorem nt: ∀ {a b c:List Int},Bw a b<0->Bw b c<0->Bw a c<0
 | [],[],_,h,_=>by simp [Bw] at h
 |_::_,[],_,h,_=>by simp [Bw] at h
 |_,_::_,[],_,h=>by simp [Bw] at h
 | [],_::_,_::_,_,_=>by simp [Bw]
 |x::a,y::b,z::c,h1,h2=>by
  simp only [Bw] at h1 h2⊢
  by_cases e1:x<y
  ·by_cases e2:y<z
   ·rw [if_pos (by omega)];omega
   ·rw [if_neg e2] at h2
    by_cases e3:y>z
    ·rw [if_pos e3] at h2;omega
    ·rw [if_pos (by omega)];omega
  ·rw [if_neg e1] at h1
   by_cases e2:x>y
   ·rw [if_pos e2] at h1;omega
   ·rw [if_neg e2] at h1
    by_cases e3:y<z
    ·rw [if_pos (by omega)];omega
    ·rw [if_neg e3] at h2
     by_cases e4:y>z
     ·rw [if_pos e4] at h2;omega
     ·rw [if_neg e4] at h2
      rw [if_neg (by omega),if_neg (by omega)]
      exact nt h1 h2
theorem lt_iff {a b:List Int} :Xv a b=true↔Bw a b<0:=decide_eq_true_iff
theorem yk {a b c:List Int} (h1:Xv a b=true) (h2:Xv b c=true):Xv a c=true:=lt_iff.2 (nt (lt_iff.1 h1) (lt_iff.1 h2))
theorem dO (a:List Int):Xv a a=false:=by
 have:Bw a a=0:=jW.2 rfl
 unfold Xv;rw [this];rfl
theorem BG {a b:List Int} (h:Xv a b=false) (Er:a≠b):Xv b a=true:=by
 rw [lt_iff,wR a b]
 have h1: ¬Bw a b<0:= λh'=>by rw [lt_iff.2 h'] at h;cases h
 have h2:Bw a b≠0:= λh'=>Er (jW.1 h')
 omega
theorem cZ {α:Type} (q:α->Bool): ∀(l:List α),l.Pairwise (λi j=>q j=true->q i=true)-> ∀k (hk:k<l.length),k<(l.takeWhile q).length↔q l[k]=true
 | [],_,k,hk=>by simp at hk
 |a::l,h,k,hk=>by
  obtain ⟨h1,h2⟩:=List.pairwise_cons.1 h
  by_cases ha:q a=true
  ·rw [List.takeWhile_cons_of_pos ha]
   rcases k with _|k
   ·simpa using ha
   ·simp only [List.length_cons,List.getElem_cons_succ,Nat.add_lt_add_iff_right]
    exact cZ q l h2 k (by simpa using hk)
  ·rw [List.takeWhile_cons_of_neg ha]
   simp only [List.length_nil,Nat.not_lt_zero,false_iff]
   rcases k with _|k
   ·exact ha
   ·simp only [List.getElem_cons_succ]
    exact λhq=>ha (h1 _ (List.getElem_mem _) hq)
theorem Cu.kL {m:Nat} {L:List (List Int)} {Gx:List Int} (h:Cu m L Gx):Gx.length=L.length:=by rw [h.perm.length_eq,Tn]
theorem Cu.idx {m:Nat} {L:List (List Int)} {Gx:List Int} (h:Cu m L Gx) {k:Nat} (hk:k<Gx.length):0<=Gx[k]/\Gx[k]<L.length:=Jj.1 (h.perm.mem_iff.1 (List.getElem_mem hk))
theorem Cu.Wp {m:Nat} {L:List (List Int)} {Gx:List Int} (h:Cu m L Gx) (s:List Int) {k:Nat} (hk:k<Gx.length):k<Ck L Gx s↔Xv (L.getD Gx[k].toNat []) s=true:=
 cZ _ Gx (h.sorted.imp λdH hj=>yk dH hj) k hk
theorem xt (L:List (List Int)) (Gx s:List Int):Ck L Gx s<=Gx.length:=(List.takeWhile_sublist _).length_le
theorem Cu.inj {m:Nat} {L:List (List Int)} {Gx:List Int} (h:Cu m L Gx) {i j:Nat} (hi:i<L.length) (hj:j<L.length) (e:L[i]=L[j]):i=j:=by
 have mem: ∀i,i<L.length->(i:Int)∈Gx:= λi hi=>h.perm.mem_iff.2 (Jj.2 ⟨by omega,by omega⟩)
 obtain ⟨p,hp,ep⟩:=List.mem_iff_getElem.1 (mem i hi)
 obtain ⟨q,hq,eq⟩:=List.mem_iff_getElem.1 (mem j hj)
 have get: ∀i (hi:i<L.length),L.getD ((i:Int)).toNat []=L[i]:= λi hi=>by rw [Int.toNat_natCast,List.getD_eq_getElem?_getD,List.getElem?_eq_getElem hi];rfl
 rcases Nat.lt_trichotomy p q with h1|h1|h1
 ·have:=List.pairwise_iff_getElem.1 h.sorted p q hp hq h1
  rw [ep,eq,get i hi,get j hj,e,dO] at this
  cases this
 ·subst h1
  rw [ep] at eq
  omega
 ·have:=List.pairwise_iff_getElem.1 h.sorted q p hq hp h1
  rw [ep,eq,get i hi,get j hj,e,dO] at this
  cases this
theorem Ng {L:List (List Int)} {k:Nat} (h:k<L.length):L.getD k []=L[k]:=by rw [List.getD_eq_getElem?_getD,List.getElem?_eq_getElem h];rfl
theorem Cu.oI {m:Nat} {L:List (List Int)} {Gx:List Int} (h:Cu m L Gx) {s:List Int} :
  (∃hk:Ck L Gx s<Gx.length,L.getD Gx[Ck L Gx s].toNat []=s/\iI L s=Gx[Ck L Gx s])\/(iI L s= -1/\ ∀hk:Ck L Gx s<Gx.length,L.getD Gx[Ck L Gx s].toNat []≠s):=by
 by_cases hm:s∈L
 ·left
  obtain ⟨j,hj,rfl⟩:=List.mem_iff_getElem.1 hm
  obtain ⟨p,hp,ep⟩:=List.mem_iff_getElem.1 (h.perm.mem_iff.2 (Jj.2 ⟨by omega,by omega⟩):(j:Int)∈Gx)
  have gj:L.getD Gx[p].toNat []=L[j]:=by rw [ep,Int.toNat_natCast,Ng hj]
  have hs:Ck L Gx L[j]=p:=by
   have h1: ¬p<Ck L Gx L[j]:= λh1=>by
    have:=(h.Wp L[j] hp).1 h1
    rw [gj,dO] at this;cases this
   have h2: ¬Ck L Gx L[j]<p:= λh2=>by
    have h3:=(h.Wp L[j] (k:=Ck L Gx L[j]) (by omega)).2 (by
     have:=List.pairwise_iff_getElem.1 h.sorted (Ck L Gx L[j]) p (by omega) hp h2
     rw [gj] at this;exact this)
    omega
   omega
  have hx:L.idxOf L[j]=j:=by
   have h1:L.idxOf L[j]<L.length:=List.idxOf_lt_length_of_mem hm
   exact h.inj h1 hj (List.getElem_idxOf h1)
  refine ⟨by omega,?_,?_⟩
  ·simp only [hs];exact gj
  ·unfold iI
   rw [if_pos hm,hx]
   simp only [hs];exact ep.symm
 ·right
  refine ⟨by unfold iI;rw [if_neg hm],λhk e=>hm ?_⟩
  have hi:=h.idx hk
  rw [Ng (by omega)] at e
  rw [<-e]
  exact List.getElem_mem _
theorem AT (Gx:List Int) (k:Nat) (x:Int):(Od Gx k x).Perm (x::Gx):=by
 unfold Od
 refine List.perm_middle.trans (List.Perm.cons x ?_)
 rw [List.take_append_drop]
theorem Cu.add {m:Nat} {L:List (List Int)} {Gx s:List Int} (h:Cu m L Gx) (hn:s∉L) (hl:s.length=m) (hr:L.length<3000):Cu m (L++ [s]) (Od Gx (Ck L Gx s) L.length):=by
 have rU: ∀i∈Gx,(L++ [s]).getD i.toNat []=L.getD i.toNat []:= λi hi=>by
  have:=Jj.1 (h.perm.mem_iff.1 hi)
  rw [List.getD_eq_getElem?_getD,List.getD_eq_getElem?_getD,List.getElem?_append_left (by omega)]
 have NP:(L++ [s]).getD ((L.length:Int)).toNat []=s:=by
  rw [Int.toNat_natCast,List.getD_eq_getElem?_getD,List.getElem?_append_right (by omega),Nat.sub_self];rfl
 refine ⟨by rw [List.length_append,List.length_singleton];omega,λx hx=>?_,h.short,?_,?_⟩
 ·rcases List.mem_append.1 hx with hx|hx
  ·exact h.len x hx
  ·rw [List.mem_singleton.1 hx];exact hl
 ·refine (AT _ _ _).trans ?_
  rw [List.length_append,List.length_singleton,Wv]
  exact (List.Perm.cons _ h.perm).trans (List.perm_append_singleton _ _).symm
 ·unfold Od
  have hs:=h.sorted
  rw [<-List.take_append_drop (Ck L Gx s) Gx] at hs
  obtain ⟨s1,s2,s3⟩:=List.pairwise_append.1 hs
  have mt: ∀i∈Gx.take (Ck L Gx s),i∈Gx/\Xv (L.getD i.toNat []) s=true:= λi hi=>by
   obtain ⟨k,hk,rfl⟩:=List.mem_iff_getElem.1 hi
   have OR:k<Ck L Gx s:=by rw [List.length_take] at hk;omega
   have SZ:k<Gx.length:=by rw [List.length_take] at hk;omega
   rw [List.getElem_take]
   exact ⟨List.getElem_mem _,(h.Wp s SZ).1 OR⟩
  have md: ∀i∈Gx.drop (Ck L Gx s),i∈Gx/\Xv s (L.getD i.toNat [])=true:= λi hi=>by
   obtain ⟨k,hk,rfl⟩:=List.mem_iff_getElem.1 hi
   rw [List.length_drop] at hk
   have SZ:Ck L Gx s+k<Gx.length:=by omega
   rw [List.getElem_drop]
   refine ⟨List.getElem_mem _,BG ?_ λe=>hn ?_⟩
   ·exact Bool.eq_false_iff.2 λhh=>by
     have:=(h.Wp s SZ).2 hh
     omega
   ·have hi:=h.idx SZ
    rw [Ng (by omega)] at e
    rw [<-e];exact List.getElem_mem _
  refine List.pairwise_append.2 ⟨s1.imp_of_mem λ {a b} ha hb me=>?_,List.pairwise_cons.2 ⟨λb hb=>?_,s2.imp_of_mem λ {a b} ha hb me=>?_⟩,λa ha b hb=>?_⟩
  ·rw [rU a (mt a ha).1,rU b (mt b hb).1];exact me
  ·rw [NP,rU b (md b hb).1];exact (md b hb).2
  ·rw [rU a (md a ha).1,rU b (md b hb).1];exact me
  ·rcases List.mem_cons.1 hb with rfl|hb
   ·rw [NP,rU a (mt a ha).1];exact (mt a ha).2
   ·rw [rU a (mt a ha).1,rU b (md b hb).1];exact s3 a ha b hb
theorem Yn (L:List (List Int)) (s:List Int):Uk (L++ [s])=Od (Uk L) (Ck L (Uk L) s) L.length:=by
 unfold Uk
 rw [List.length_append,List.length_singleton,List.range_succ,List.foldl_append]
 have e: ∀(is:List Nat) (S:List Int),(∀i∈is,i<L.length)->is.foldl (λ(S:List Int) (i:Nat)=>Od S (Ck ((L++ [s]).take i) S ((L++ [s]).getD i [])) (i:Int)) S=is.foldl (λ(S:List Int) (i:Nat)=>Od S (Ck (L.take i) S (L.getD i [])) (i:Int)) S:=by
  intro is
  induction is with
  |nil=>intro S _;rfl
  |cons i is ih=>
   intro S h
   have hi:=h i (by simp)
   rw [List.foldl_cons,List.foldl_cons,ih _ λj hj=>h j (List.mem_cons_of_mem _ hj)]
   congr 2
   rw [List.take_append_of_le_length (by omega),List.getD_eq_getElem?_getD,List.getElem?_append_left hi,<-List.getD_eq_getElem?_getD]
 rw [e _ _ λi hi=>List.mem_range.1 hi]
 simp only [List.foldl_cons,List.foldl_nil]
 congr 2
 ·rw [List.take_append_of_le_length (Nat.le_refl _),List.take_length]
 ·rw [List.getD_eq_getElem?_getD,List.getElem?_append_right (by omega),Nat.sub_self];rfl
theorem fw {m:Nat} (h:m<=20):Cu m [] []:=⟨by simp,λx hx=>(by cases hx),h,by simp [upto],List.Pairwise.nil⟩
theorem AR {α:Type} {xs:List α} {y:Int} (h0:0<=y) (h:y.toNat<xs.length):idx xs y=some xs[y.toNat]:=by
 unfold idx
 rw [if_pos h0,List.getElem?_eq_getElem h]
theorem LL (f:SS) (s:List Int) (h:Cu s.length f.1 f.2.2.1):fnW Di (look [(144,Pg)]) Ym Try.f104 (f,s,()) (λ(z:Int)=>z=(Ck f.1 f.2.2.1 s:Int)):=by
 obtain ⟨L,D,Gx,b,⟨⟩⟩:=f
 dsimp only at h⊢
 have hle:=xt L Gx s
 have EN:=h.kL
 have xR:=h.kh
 refine Eq.mp (MF (L,D,Gx,b,()) s _) ?_
 refine Cl.mk (λv=>v.2.2.1=L/\v.2.2.2.2.1=Gx/\ ∃lo hi:Nat,v.1=lo/\v.2.1=hi/\lo<=hi/\hi<=Gx.length/\lo<=Ck L Gx s/\Ck L Gx s<=hi) (λv=>(v.2.1-v.1).toNat)
  ⟨rfl,rfl,0,Gx.length,rfl,rfl,by omega,by omega,by omega,hle⟩ ?_
 rintro ⟨lo',iz,L',D',yY,b',⟨⟩⟩ ⟨h1,h2,lo,hi,h3,h4,h5,h6,h7,h8⟩
 dsimp only at h1 h2 h3 h4⊢
 subst h1 h2 h3 h4
 refine Br.dec (λhl=>?_) λhl=>?_
 ·have em:IntKind.i64.wrap ((IntKind.i64.wrap ((lo:Int)+(hi:Int))).tdiv 2)=(((lo+hi)/2:Nat):Int):=by
   rw [Bx (n:=(lo:Int)+(hi:Int)) (by omega) (by omega),Int.tdiv_eq_ediv_of_nonneg (by omega),Bx (by omega) (by omega)]
   omega
  rw [em]
  have MU:(lo+hi)/2<yY.length:=by omega
  have EJ:=h.idx MU
  have EK:yY[(lo+hi)/2].toNat<L'.length:=by omega
  have ON:=Ng EK
  have hlen:=h.len _ (List.getElem_mem EK)
  have zv:short L'[yY[(lo+hi)/2].toNat]:=by
   unfold short
   have:=h.short;omega
  refine ⟨by decide,_,Bc MU,_,AR EJ.1 EK,_,if_pos ⟨zv,hlen⟩,⟨λhc=>?_,λhc=>?_⟩⟩
  ·have hc:Xv L'[yY[(lo+hi)/2].toNat] s=true:=hc
   have hs:=(h.Wp s MU).2 (by rw [ON];exact hc)
   rw [Au (by omega)]
   exact ⟨⟨rfl,rfl,(lo+hi)/2+1,hi,rfl,rfl,by omega,h6,by omega,h8⟩,by omega⟩
  ·have hc:Xv L'[yY[(lo+hi)/2].toNat] s=false:=hc
   have hs: ¬(lo+hi)/2<Ck L' yY s:= λhh=>by
    have:=(h.Wp s MU).1 hh
    rw [ON,hc] at this;cases this
   exact ⟨⟨rfl,rfl,lo,(lo+hi)/2,rfl,rfl,by omega,by omega,h7,by omega⟩,by omega⟩
 ·show (lo:Int)=_
  omega
theorem lz:Sound Try.prog 104 Ym:=
 Sound.Dx Ci (Ai lx Bb) mixed Try.func104 (by kernel_rfl) (by kernel_rfl) λx h=>LL x.1 x.2.1 h
theorem BR (f:SS) (s:List Int) (h:Cu s.length f.1 f.2.2.1):fnW Di (look [(104,Ym),(105,Dm)]) Wo Try.f54 (f,s,()) (λ(z:Int)=>z=iI f.1 s):=by
 obtain ⟨L,D,Gx,b,⟨⟩⟩:=f
 dsimp only at h⊢
 refine Eq.mp (DA (L,D,Gx,b,()) s _) ⟨_,if_pos h,Br.dec (λhl=>?_) λhl=>?_⟩
 ·have hl:Ck L Gx s<Gx.length:=by
   have hl:((Ck L Gx s:Nat):Int)<(Gx.length:Int):=hl
   omega
  have EJ:=h.idx hl
  have EK:Gx[Ck L Gx s].toNat<L.length:=by omega
  have ON:=Ng EK
  have hlen:=h.len _ (List.getElem_mem EK)
  have zv:short L[Gx[Ck L Gx s].toNat]:=by
   unfold short
   have:=h.short;omega
  refine ⟨_,Bc hl,_,AR EJ.1 EK,_,if_pos zv,⟨λhc=>⟨_,Bc hl,?_⟩,λhc=>?_⟩⟩
  ·have hc:L[Gx[Ck L Gx s].toNat]=s:=of_decide_eq_true hc
   rcases h.oI (s:=s) with ⟨hk,_,e⟩|⟨_,Er⟩
   ·exact e.symm
   ·exact absurd (by rw [ON];exact hc) (Er hl)
  ·have hc: ¬L[Gx[Ck L Gx s].toNat]=s:=of_decide_eq_false hc
   rcases h.oI (s:=s) with ⟨hk,e,_⟩|⟨e,_⟩
   ·rw [ON] at e;exact absurd e hc
   ·exact e.symm
 ·have hl: ¬Ck L Gx s<Gx.length:=by
   have hl: ¬((Ck L Gx s:Nat):Int)<(Gx.length:Int):=hl
   omega
  rcases h.oI (s:=s) with ⟨hk,e,_⟩|⟨e,_⟩
  ·exact absurd hk hl
  ·exact e.symm
theorem qh:Sound Try.prog 54 Wo:=
 Sound.Dx Ci (Ai lz (Ai jf Bb)) mixed Try.func54 (by kernel_rfl) (by kernel_rfl) λx h=>BR x.1 x.2.1 h
theorem va {S:List Int} {k:Nat} (h:k<=S.length) (n:Int):
  (Bi (S++ [0]) (k+1) (List.take ((S++ [0]).length-(k+1)) (List.take ((S++ [0]).length-k) (List.drop k (S++ [0]))))).set k n=Od S k n:=by
 obtain ⟨A,B,rfl,hA⟩: ∃A B,S=A++B/\A.length=k:=⟨S.take k,S.drop k,(List.take_append_drop k S).symm,by rw [List.length_take];omega⟩
 subst hA
 have e1:List.drop A.length (A++B++ [0])=B++ [0]:=by rw [List.append_assoc,List.drop_left]
 have e2:List.take ((A++B++ [0]).length-A.length) (B++ [0])=B++ [0]:=List.take_of_length_le (by simp only [List.length_append,List.length_singleton];omega)
 have e3:List.take ((A++B++ [0]).length-(A.length+1)) (B++ [0])=B:=by
  have:(A++B++ [(0:Int)]).length-(A.length+1)=B.length:=by simp only [List.length_append,List.length_singleton];omega
  rw [this,List.take_left]
 rw [e1,e2,e3]
 unfold Bi Od
 have e4:List.drop (A.length+1+B.length) (A++B++ [0])= []:=List.drop_eq_nil_of_le (by simp only [List.length_append,List.length_singleton];omega)
 obtain ⟨c,hc⟩: ∃c,List.take (A.length+1) (A++B++ [0])=A++ [c]:=by
  rw [List.append_assoc,List.take_append,List.take_of_length_le (by omega)]
  cases B with
  |nil=>exact ⟨0,by simp⟩
  |cons b B=>exact ⟨b,by simp⟩
 rw [e4,hc,List.append_nil,List.append_assoc,List.singleton_append,FQ,List.take_left,List.drop_left]
theorem LK (L:List (List Int)) (D S:List Int) (b:Bool) (s:List Int) (d:Int) (h:Cu s.length L S/\D.length<=3000):
  fnMW FZ (look [(104,Ym)]) dV Try.f149 (L,D,S,b,s,d,()) (λ(z:(List (List Int)×List Int×List Int×Bool×Unit)×Unit)=>z=((L++ [s],D++ [d],Od S (Ck L S s) L.length,b,()),())):=by
 obtain ⟨h,hD⟩:=h
 have hle:=xt L S s
 have EN:=h.kL
 have xR:=h.kh
 refine Eq.mp (ME L D S b s d _) ?_
 rw [Dz L,Dz D,Dz S]
 refine ⟨_,if_pos h,?_⟩
 dsimp only
 have es:List.take 1 (List.drop 0 [(0:Int)])= [0]:=rfl
 have el:(S++ [(0:Int)]).length=S.length+1:=by simp
 rw [es,Au (by omega),Nat.zero_add,Nat.zero_add,Int.toNat_natCast,Int.toNat_natCast,Int.toNat_natCast]
 refine ⟨rfl,rfl,by show S.length+1<=4294967296;omega,⟨by omega,by omega,by omega⟩,⟨by omega,by omega,by omega⟩,⟨by omega,by omega⟩,?_,rfl,rfl,by show L.length+1<=4294967296;omega,rfl,rfl,by show D.length+1<=4294967296;omega,?_⟩
 ·unfold Bi
  simp only [List.length_append,List.length_take,List.length_drop,List.length_singleton]
  omega
 ·rw [va hle,Dz,Dz]
  have e5:List.take (S++ [(0:Int)]).length (List.drop 0 (Od S (Ck L S s) (L.length:Int)))=Od S (Ck L S s) (L.length:Int):=by
   rw [List.drop_zero,List.take_of_length_le]
   unfold Od
   simp only [List.length_append,List.length_cons,List.length_take,List.length_drop,List.length_nil]
   omega
  rw [e5]
  rfl
theorem wj:Dq Try.prog 149 dV:=
 Dq.yo CQ (Ai lz Bb) mixed Try.func149 (by kernel_rfl) (by kernel_rfl) λx h=>LK x.1 x.2.1 x.2.2.1 x.2.2.2.1 x.2.2.2.2.1 x.2.2.2.2.2.1 h
structure Qw (p:PP) (m:Nat) (L:List (List Int)) (D:List Int):Prop where
 ok:Cu m L (Uk L)
 len:D.length=L.length
 row: ∀x∈L,∀y∈x,0<=y/\y<p.1
 dep: ∀j (h:j<D.length),0<=D[j]/\D[j]<=j
theorem pE {p:PP} (hv:Valid p) {x:List Int} {l:Int} (hx: ∀y∈x,0<=y/\y<p.1) (hl:Gq (List.length p.2.2.1) l):
  (Ac x (Af p.2.2.1 l)).length=x.length/\ ∀y∈Ac x (Af p.2.2.1 l),0<=y/\y<p.1:=by
 obtain ⟨h1,h2⟩:=gq hv hl
 refine ⟨Tu _ _,λy hy=>?_⟩
 have:=rC (n:=(Af p.2.2.1 l).length) (λz hz=>by have:=hx z hz;omega) h2 y hy
 omega
theorem Qw.add {p:PP} {m:Nat} {L:List (List Int)} {D:List Int} (h:Qw p m L D) {y:List Int} {d:Int} (hn:y∉L) (hl:y.length=m) (hr:L.length<3000) (hy: ∀z∈y,0<=z/\z<p.1) (hd:0<=d/\d<=L.length):Qw p m (L++ [y]) (D++ [d]):=by
 have hlen:=h.len
 refine ⟨by rw [Yn];exact h.ok.add hn hl hr,by simp [hlen],λx hx=>?_,λj hj=>?_⟩
 ·rcases List.mem_append.1 hx with hx|hx
  ·exact h.row x hx
  ·rw [List.mem_singleton.1 hx];exact hy
 ·by_cases e:j<D.length
  ·rw [List.getElem_append_left e];exact h.dep j e
  ·simp only [List.length_append,List.length_singleton] at hj
   have:j=D.length:=by omega
   subst this
   rw [List.getElem_append_right (by omega)]
   simp only [Nat.sub_self,List.getElem_cons_zero]
   omega
theorem bP {p:PP} {s:List Int} (hs:s.length<=20) (hr: ∀y∈s,0<=y/\y<p.1):Qw p s.length [s] [0]:=by
 refine ⟨?_,rfl,λx hx=>by rw [List.mem_singleton.1 hx];exact hr,λj hj=>?_⟩
 ·have:=(fw hs).add (s:=s) (by simp) rfl (by simp)
  have e:Uk [s]=Od [] (Ck [] [] s) 0:=Yn [] s
  rw [e];exact this
 ·simp only [List.length_singleton] at hj
  have:j=0:=by omega
  subst this
  simp
theorem nS {L:List (List Int)} {s:List Int} :iI L s>=0↔s∈L:=by
 unfold iI
 split
 ·rename_i h;exact ⟨λ_=>h,λ_=>by omega⟩
 ·rename_i h;exact ⟨λhh=>by omega,λhh=>absurd hh h⟩
theorem FM (p:PP) (s:List Int) (h:Bp p=true/\s.length<=20/\ ∀y∈s,0<=y/\y<p.1):fnW LZ (look [(123,Jc),(149,dV),(96,Mv),(115,Wm),(54,Wo)]) Cw Try.f112 (p,s,()) (λ(z:SS)=>z=Ea p.2.2.1 s):=by
 obtain ⟨hv,hs,hr⟩:=h
 have hV:=valid hv
 have xR:=hV.kh
 have JE:=bP hs hr
 have zv:short s:=by unfold short;omega
 obtain ⟨ls,nH⟩: ∃ls,Ba (List.length p.2.2.1)=ls:=⟨_,rfl⟩
 refine Eq.mp (GH p s _) ⟨_,if_pos zv,_,if_pos ⟨fw hs,by show 0<=3000;omega⟩,ls,(if_pos (by show List.length p.2.2.1<=8;exact xR.2)).trans (congrArg some nH),rfl,rfl,rfl,rfl,rfl,rfl,rfl,rfl,rfl,rfl,rfl,rfl,?_⟩
 have e0:Od [] (Ck [] [] s) ((([]:List (List Int)).length:Nat):Int)=Uk [s]:=(Yn [] s).symm
 show Cl _ ((0:Int),p.1,p.2.1,p.2.2.1,false,false,[],[],[],[s],[(0:Int)],Od [] (Ck [] [] s) ((([]:List (List Int)).length:Nat):Int),PUnit.unit)
 rw [e0]
 have DM:ls.length<=16:=by rw [<-nH,Ls];omega
 have kC: ∀l∈ls,Gq (List.length p.2.2.1) l:= λl hl=>Mr (nH▸hl)
 have uW:Hw p.2.2.1 ls 3001 0 [s] [0]=Fc p.2.2.1 s:=by unfold Fc;rw [nH]
 refine Cl.mk (λv=>v.2.1=p.1/\v.2.2.1=p.2.1/\v.2.2.2.1=p.2.2.1/\v.2.2.2.2.2.1=false/\ ∃k:Nat,v.1=k/\k<=v.2.2.2.2.2.2.2.2.2.1.length/\
   Qw p s.length v.2.2.2.2.2.2.2.2.2.1 v.2.2.2.2.2.2.2.2.2.2.1/\v.2.2.2.2.2.2.2.2.2.2.2.1=Uk v.2.2.2.2.2.2.2.2.2.1/\
   Hw p.2.2.1 ls (3001-k) k v.2.2.2.2.2.2.2.2.2.1 v.2.2.2.2.2.2.2.2.2.2.1=Fc p.2.2.1 s) (λv=>3001-v.1.toNat)
  ⟨rfl,rfl,rfl,rfl,0,rfl,by simp,JE,rfl,uW⟩ ?_
 rintro ⟨k',n1,n2,n3,b0,wh,x1,x2,x3,L0,D0,S0,⟨⟩⟩ ⟨h1,h2,h3,h4,k,h5,h6,h7,h8,h9⟩
 dsimp only at h1 h2 h3 h4 h5 h6 h7 h8 h9
 subst h1 h2 h3 h4 h5 h8
 dsimp only
 have hL0:=h7.ok.kh
 have hD0:=h7.len
 refine Br.dec (λhl=>⟨rfl,rfl,rfl,rfl,rfl,rfl,rfl,rfl,rfl,rfl,rfl,rfl,?_⟩) λhl=>?_
 ·have hk:k<L0.length:=by omega
  have xU:k<D0.length:=by omega
  have hx: ∀y∈L0[k],0<=y/\y<p.1:=h7.row _ (List.getElem_mem hk)
  have KP:L0[k].length=s.length:=h7.ok.len _ (List.getElem_mem hk)
  have hdk:=h7.dep k xU
  obtain ⟨f,hf⟩: ∃f,3001-k=f+1:=⟨3000-k,by omega⟩
  have OO: ∀L' D' ok,Gi p.2.2.1 L0[k] D0[k] ls L0 D0=(L',D',ok)->Fc p.2.2.1 s=if ok=true then Hw p.2.2.1 ls f (k+1) L' D' else (L',D',false):=by
   intro L' D' ok he
   rw [<-h9,hf,Hw,if_pos hk,Ng hk,List.getD_eq_getElem?_getD,List.getElem?_eq_getElem xU]
   simp only [Option.getD_some]
   rw [he]
   cases ok<;>rfl
  refine Cl.mk (λv=>v.2.1=p.1/\v.2.2.1=p.2.1/\v.2.2.2.1=p.2.2.1/\v.2.2.2.2.2.1=false/\ ∃i:Nat,v.1=i/\i<=ls.length/\Qw p s.length v.2.2.2.2.2.2.2.2.2.1 v.2.2.2.2.2.2.2.2.2.2.1/\
    v.2.2.2.2.2.2.2.2.2.2.2.1=Uk v.2.2.2.2.2.2.2.2.2.1/\(∃A,v.2.2.2.2.2.2.2.2.2.1=L0++A)/\(∃A,v.2.2.2.2.2.2.2.2.2.2.1=D0++A)/\
    Gi p.2.2.1 L0[k] D0[k] (ls.drop i) v.2.2.2.2.2.2.2.2.2.1 v.2.2.2.2.2.2.2.2.2.2.1=Gi p.2.2.1 L0[k] D0[k] ls L0 D0) (λv=>ls.length-v.1.toNat)
   ⟨rfl,rfl,rfl,rfl,0,rfl,Nat.zero_le _,h7,rfl,⟨[],by simp⟩,⟨[],by simp⟩,rfl⟩ ?_
  rintro ⟨i',m1,m2,m3,b1,wh1,y1,y2,y3,L,D,S,⟨⟩⟩ ⟨g1,g2,g3,g4,i,g5,g6,g7,g8,⟨A,g9⟩,⟨A',SI⟩,zp⟩
  dsimp only at g1 g2 g3 g4 g5 g6 g7 g8 g9 SI zp
  subst g1 g2 g3 g4 g5 g8
  dsimp only
  have hLf:=g7.ok.kh
  have GU:=g7.len
  rw [Dz L,Dz D,Dz (Uk L)]
  refine Br.dec (λWM=>?_) λWM=>?_
  ·have hi:i<ls.length:=by omega
   have MT:k<L.length:=by rw [g9,List.length_append];omega
   have hLk:L[k]=L0[k]:=by simp only [g9];exact List.getElem_append_left hk
   have JT:k<D.length:=by rw [GU];exact MT
   have UL:D[k]=D0[k]:=by simp only [SI];exact List.getElem_append_left xU
   have EO:=kC _ (List.getElem_mem hi)
   obtain ⟨nl,nr⟩:=pE hV hx EO
   rw [List.drop_eq_getElem_cons hi] at zp
   simp only [Gi] at zp
   refine ⟨⟨by omega,by omega⟩,L0[k],by rw [Int.toNat_natCast,Nat.zero_add,List.getElem?_eq_getElem MT,hLk],_,Bc hi,_,if_pos ⟨hv,by show L0[k].length<=20;omega,hx,EO⟩,?_⟩
   dsimp only
   have XV:(Ac L0[k] (Af p.2.2.1 ls[i])).length=s.length:=by rw [nl,KP]
   refine ⟨_,if_pos (by show Cu (Ac L0[k] (Af p.2.2.1 ls[i])).length L (Uk L);rw [XV];exact g7.ok),Br.dec (λa5=>?_) λa5=>?_⟩
   ·have a5:Ac L0[k] (Af p.2.2.1 ls[i])∈L:=nS.1 a5
    rw [if_pos a5] at zp
    rw [Au (by omega)]
    exact ⟨rfl,rfl,rfl,rfl,rfl,rfl,rfl,rfl,rfl,rfl,rfl,rfl,⟨rfl,rfl,rfl,rfl,i+1,rfl,hi,g7,rfl,⟨A,g9⟩,⟨A',SI⟩,zp⟩,by omega⟩
   ·have a5:Ac L0[k] (Af p.2.2.1 ls[i])∉L:= λhh=>a5 (nS.2 hh)
    rw [if_neg a5] at zp
    refine ⟨λcD=>?_,λcD=>⟨⟨by omega,by omega⟩,D0[k],by rw [Int.toNat_natCast,Nat.zero_add,List.getElem?_eq_getElem JT,UL],rfl,rfl,rfl,rfl,rfl,rfl,?_⟩⟩
    ·have cD:L.length=3000:=by
      have:(L.length:Int)=3000:=by simpa using cD
      omega
     rw [if_pos cD] at zp
     have:=OO _ _ _ zp.symm
     rw [if_neg (by decide)] at this
     unfold Ea
     rw [this]
    ·have cD:L.length≠3000:=by
      have:(L.length:Int)≠3000:=by simpa using cD
      omega
     rw [if_neg cD] at zp
     rw [Bx (n:=D0[k]+1) (by omega) (by omega)]
     refine ⟨_,if_pos ⟨by show Cu (Ac L0[k] (Af p.2.2.1 ls[i])).length L (Uk L);rw [XV];exact g7.ok,by show D.length<=3000;omega⟩,?_⟩
     dsimp only
     rw [Au (by omega),<-Yn]
     refine ⟨rfl,rfl,rfl,rfl,rfl,rfl,rfl,rfl,rfl,rfl,rfl,rfl,⟨rfl,rfl,rfl,rfl,i+1,rfl,hi,g7.add a5 XV (by omega) nr ⟨by omega,by omega⟩,rfl,⟨A++ [Ac L0[k] (Af p.2.2.1 ls[i])],by rw [g9,List.append_assoc]⟩,⟨A'++ [D0[k]+1],by rw [SI,List.append_assoc]⟩,zp⟩,by omega⟩
  ·have:i=ls.length:=by omega
   subst this
   rw [List.drop_length,Gi] at zp
   have:=OO _ _ _ zp.symm
   rw [if_pos rfl] at this
   rw [Au (by omega)]
   refine ⟨rfl,rfl,rfl,rfl,rfl,rfl,rfl,rfl,rfl,rfl,rfl,rfl,⟨rfl,rfl,rfl,rfl,k+1,rfl,by rw [g9,List.length_append];omega,g7,rfl,?_⟩,by omega⟩
   rw [show 3001-(k+1)=f by omega]
   exact this.symm
 ·have hk:k=L0.length:=by omega
  rw [Dz L0,Dz D0,Dz (Uk L0)]
  obtain ⟨f,hf⟩: ∃f,3001-k=f+1:=⟨3000-k,by omega⟩
  rw [hf,Hw,if_neg (by omega)] at h9
  unfold Ea
  rw [<-h9]
theorem tw:Sound Try.prog 112 Cw:=
 Sound.Dx MA (Ai bw (Vp wj (Ai jj (Ai qe (Ai qh Bb))))) mixed Try.func112 (by kernel_rfl) (by kernel_rfl) λx h=>FM x.1 x.2.1 h
end Go.Proofs.Ytjbdmibbbpdnnaa

namespace Go.Proofs.Ytjbdmibbbpdnnaa
open Go.RowKit
theorem eu {p:PP} (hV:Valid p) {m:Nat} {x:List Int} {d:Int} (hx: ∀y∈x,0<=y/\y<p.1) (KP:x.length=m): ∀(ls:List Int) (L:List (List Int)) (D:List Int),(∀l∈ls,Gq (List.length p.2.2.1) l)->
  Qw p m L D->(0<=d/\d<L.length)->Qw p m (Gi p.2.2.1 x d ls L D).1 (Gi p.2.2.1 x d ls L D).2.1/\(∃A,(Gi p.2.2.1 x d ls L D).1=L++A)/\(∃A,(Gi p.2.2.1 x d ls L D).2.1=D++A)
 | [],L,D,_,h,_=>⟨h,⟨[],by simp [Gi]⟩,⟨[],by simp [Gi]⟩⟩
 |l::ls,L,D,hl,h,hd=>by
  obtain ⟨n1,n2⟩:=pE hV hx (hl l (by simp))
  have Hy: ∀l∈ls,Gq (List.length p.2.2.1) l:= λl' h'=>hl l' (List.mem_cons_of_mem _ h')
  simp only [Gi]
  split
  ·exact eu hV hx KP ls L D Hy h hd
  ·rename_i hn
   split
   ·exact ⟨h,⟨[],by simp⟩,⟨[],by simp⟩⟩
   ·rename_i hf
    have xR:=h.ok.kh
    obtain ⟨k1,⟨A,k2⟩,⟨A',k3⟩⟩:=eu hV hx KP ls (L++ [Ac x (Af p.2.2.1 l)]) (D++ [d+1]) Hy (h.add hn (by rw [n1,KP]) (by omega) n2 ⟨by omega,by omega⟩) ⟨hd.1,by rw [List.length_append];omega⟩
    exact ⟨k1,⟨_::A,by rw [k2,List.append_assoc];rfl⟩,⟨_::A',by rw [k3,List.append_assoc];rfl⟩⟩
theorem rj {p:PP} (hV:Valid p) {m:Nat} {ls:List Int} (hl: ∀l∈ls,Gq (List.length p.2.2.1) l): ∀(f k:Nat) (L:List (List Int)) (D:List Int),Qw p m L D->
  Qw p m (Hw p.2.2.1 ls f k L D).1 (Hw p.2.2.1 ls f k L D).2.1/\(∃A,(Hw p.2.2.1 ls f k L D).1=L++A)
 |0,k,L,D,h=>⟨h,⟨[],by simp [Hw]⟩⟩
 |f+1,k,L,D,h=>by
  simp only [Hw]
  split
  ·rename_i hk
   have xU:k<D.length:=by rw [h.len];exact hk
   have hd:=h.dep k xU
   have e:D.getD k 0=D[k]:=by rw [List.getD_eq_getElem?_getD,List.getElem?_eq_getElem xU];rfl
   rw [Ng hk,e]
   obtain ⟨k1,⟨A,k2⟩,_⟩:=eu hV (h.row _ (List.getElem_mem hk)) (h.ok.len _ (List.getElem_mem hk)) (d:=D[k]) ls L D hl h ⟨by omega,by omega⟩
   split
   ·rename_i L' D' he
    rw [he] at k1 k2
    obtain ⟨g1,⟨B,g2⟩⟩:=rj hV hl f (k+1) L' D' k1
    have k2:L'=L++A:=k2
    exact ⟨g1,⟨A++B,by rw [g2,k2,List.append_assoc]⟩⟩
   ·rename_i L' D' he
    rw [he] at k1 k2
    exact ⟨k1,⟨A,k2⟩⟩
  ·exact ⟨h,⟨[],by simp⟩⟩
theorem IU {p:PP} {s:List Int} (hv:Bp p=true) (hs:s.length<=20) (hr: ∀y∈s,0<=y/\y<p.1):Qw p s.length (Fc p.2.2.1 s).1 (Fc p.2.2.1 s).2.1/\ ∃A,(Fc p.2.2.1 s).1=s::A:=
 rj (valid hv) (λ_ hl=>Mr hl) _ _ _ _ (bP hs hr)
def uf (m:ByteArray->Option Bool) (L:List (List Int)):Prop:= ∀q,So q->(m (Mo q)).getD false=decide (q∈L)
theorem uf.add {m:ByteArray->Option Bool} {L:List (List Int)} {y:List Int} (h:uf m L) (hy:So y):uf (Yt m (Mo y) true) (L++ [y]):=by
 intro q hq
 unfold Yt
 by_cases e:q=y
 ·subst e
  rw [if_pos rfl];simp
 ·rw [if_neg λhk=>e (key_inj hq hy hk),h q hq]
  simp [e]
end Go.Proofs.Ytjbdmibbbpdnnaa
