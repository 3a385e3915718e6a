/-
  Part 47 of the proof that the statement FnExactIsMethodSolution holds.
-/
import Derived.Test.YtebabhocakedaaaCIsMethodSolution45
namespace Go.Proofs.Ytebabhocakedaaa
open Go.RowKit
def Apf (g:List (List Int)) (s:List Int):List (List Int):=(Be g.length).map fun l=>Aa s (Ae g l)
noncomputable abbrev Aas:Spec:=mkS (.pair Ct (.pair tL .unit)) tLL false true (fun x=>Ay x.1=true∧List.length x.2.1≤20∧ ∀y∈x.2.1,0≤y∧y<x.1.1) (fun x=>Apf x.1.2.2.1 x.2.1)
abbrev EX:Type:=List (List Int)×List Int×List Int×List Int
def Aiw (g:List (List Int)) (k:Int) (x:List Int) (d:Int):List Int→EX→List Int→EX×List Int
 | [],s,row=>(s,row)
 |l::ls,s,row=>if Aa x (Ae g l)∈s.1 then Aiw g k x d ls s (row++ [(s.1.idxOf (Aa x (Ae g l)):Int)])
  else Aiw g k x d ls (s.1++ [Aa x (Ae g l)],s.2.1++ [d+1],s.2.2.1++ [k],s.2.2.2++ [l]) (row++ [(s.1.length:Int)])
def Al8 (g:List (List Int)) (ls:List Int):Nat→Nat→EX→List (List Int)→EX×List (List Int)
 |0,_,s,N=>(s,N)
 |f+1,k,s,N=>if k<s.1.length then Al8 g ls f (k+1) (Aiw g (k:Int) (s.1.getD k []) (s.2.1.getD k 0) ls s []).1 (N++ [(Aiw g (k:Int) (s.1.getD k []) (s.2.1.getD k 0) ls s []).2]) else (s,N)
def Yx (key:ByteArray):List (List Int)→Nat→Option Int
 | [],_=>none
 |x::r,i=>if Ke x=key then some (i:Int) else Yx key r (i+1)
def Ob (L:List (List Int)):ByteArray→Option Int:=fun key=>Yx key L 0
def Bfs (p:PP) (r:EX×List (List Int)):Aeu.den:=(p,r.1.1,r.1.2.1,Ob r.1.1,r.1.2.2.1,r.1.2.2.2,r.2,())
def Ni (p:PP):Aeu.den:=Bfs p (Al8 p.2.2.1 (Be p.2.2.1.length) 3001 0 ([upto p.1.toNat],[0],[0],[0]) [])
noncomputable def Fk (p:PP):Bool:=Ay p&&(Fq p.2.2.1 (upto p.1.toNat)).2.2
noncomputable abbrev Lx:Spec:=mkS (.pair Ct .unit) (.pair (.optr Aeu) (.pair .bool .unit)) true false (fun x=>Dk x.1) (fun x=>if Fk x.1=true then (some (Ni x.1),true,()) else (none,false,()))
theorem Bea (p:Int×ByteArray×List (List Int)×Unit) (s:List Int) (P:List (List Int)→Prop):(∃(y3:List Int),
 Ka.fn ((↑p.2.2.1.length:Int),())=some y3∧
 (0:Nat)=(0:Nat)∧
 (0:Nat)=([]:List Int).length∧
 Bv
 (fun (v4:Int×Int×ByteArray×List (List Int)×List (List Int)×PUnit) (k5:Int×Int×ByteArray×List (List Int)×List (List Int)×PUnit→Prop)=>
 Br (decide (v4.1<(↑y3.length:Int)))
 (∃(y6:Int),
 idx y3 v4.1=some y6∧
 ∃(y7:List Int),
 Ir.fn (v4.2.2.2.1,y6,())=some y7∧
 ∃(y8:List Int),
 Gs.fn (s,y7,())=some y8∧
 (0:Nat)=(0:Nat)∧
 v4.2.2.2.2.1.length=v4.2.2.2.2.1.length∧
 v4.2.2.2.2.1.length+(List.take (1:Nat) (List.drop (0:Nat) [y8])).length≤Az∧
 (0:Nat)=(0:Nat)∧
 (v4.2.2.2.2.1++List.take (1:Nat) (List.drop (0:Nat) [y8])).length=(v4.2.2.2.2.1++List.take (1:Nat) (List.drop (0:Nat) [y8])).length∧
 k5 (IntKind.i64.wrap (v4.1+(1:Int)),v4.2.1,v4.2.2.1,v4.2.2.2.1,v4.2.2.2.2.1++List.take (1:Nat) (List.drop (0:Nat) [y8]),()))
 (P (List.take v4.2.2.2.2.1.length (List.drop ((0:Nat)) v4.2.2.2.2.1))))
 ((0:Int),p.1,p.2.1,p.2.2.1,[],PUnit.unit))=fnW tab (look [(112,Ka),(155,Ir),(131,Gs)]) Aas Try.f113 (p,s,()) P:=by kernel_rfl
theorem Bdn (p:PP) (s:List Int) (h:Ay p=true∧s.length≤20∧ ∀y∈s,0≤y∧y<p.1):fnW tab (look [(112,Ka),(155,Ir),(131,Gs)]) Aas Try.f113 (p,s,()) (fun (z:List (List Int))=>z=Apf p.2.2.1 s):=by
 obtain ⟨hv,hs,hr⟩:=h
 have hV:=valid hv
 have hf:=hV.few
 refine Eq.mp (Bea p s _) ⟨Be p.2.2.1.length,if_pos ⟨Int.natCast_nonneg _,by show ((p.2.2.1.length:Nat):Int)≤8;omega⟩,rfl,rfl,?_⟩
 have hL:=Kt p.2.2.1.length
 refine Am (Be p.2.2.1.length).length (fun v=>v.1) (fun j v=>v=((j:Int),p.1,p.2.1,p.2.2.1,((Be p.2.2.1.length).take j).map (fun l=>Aa s (Ae p.2.2.1 l)),())) rfl (by simp) ?_
 rintro j v K hj hi rfl hK
 dsimp only
 refine Br.dec (fun hl=>?_) fun hl=>?_
 ·have hl:j<(Be p.2.2.1.length).length:=by omega
  have hlj:=Ls (List.getElem_mem hl)
  obtain ⟨h1,h2⟩:=Afi hV hlj
  refine ⟨_,Aj hl,_,if_pos ⟨hlj,hf.2,hV.perm⟩,_,if_pos ⟨hs,fun y hy=>by have:=hr y hy;show 0≤y∧y<((Ae p.2.2.1 (Be p.2.2.1.length)[j]).length:Int);omega⟩,rfl,rfl,?_,rfl,rfl,?_⟩
  ·show (((Be p.2.2.1.length).take j).map _).length+1≤4294967296
   rw [List.length_map,List.length_take]
   omega
  ·rw [Al (by omega)]
   refine hK hl _ rfl ?_
   have e:(Be p.2.2.1.length).take (j+1)=(Be p.2.2.1.length).take j++ [(Be p.2.2.1.length)[j]]:=by
    rw [List.take_add_one,List.getElem?_eq_getElem hl,Option.toList_some]
   rw [e,List.map_append]
   rfl
 ·have:j=(Be p.2.2.1.length).length:=by omega
  subst this
  rw [List.drop_zero,List.take_length,List.take_length]
  rfl
theorem Au2:Sound Try.prog 113 Aas:=
 Sound.mkS Bi (Ad Abj (Ad Zu (Ad Hd Ao))) mixed Try.func113 (by kernel_rfl) (by kernel_rfl) fun x h=>Bdn x.1 x.2.1 h
end Go.Proofs.Ytebabhocakedaaa
