/-
  Part 48 of the proof that the statement FnExactStateClassCount holds.
-/
import Derived.Test.YtebabhocakedaaaCStateClassCount46
namespace Go.Proofs.Ytebabhocakedaaa
open Go.RowKit
def Aoz (g:List (List Int)) (s:List Int):List (List Int):=(Aq g.length).map fun l=>Aa s (Ad g l)
noncomputable abbrev Aay:Spec:=mkS (.pair Db (.pair tL .unit)) tLL false true (fun x=>At x.1=true∧List.length x.2.1≤20∧ ∀y∈x.2.1,0≤y∧y<x.1.1) (fun x=>Aoz x.1.2.2.1 x.2.1)
abbrev EX:Type:=List (List Int)×List Int×List Int×List Int
def Aiy (g:List (List Int)) (k:Int) (x:List Int) (d:Int):List Int→EX→List Int→EX×List Int
 | [],s,row=>(s,row)
 |l::ls,s,row=>if Aa x (Ad g l)∈s.1 then Aiy g k x d ls s (row++ [(s.1.idxOf (Aa x (Ad g l)):Int)])
  else Aiy g k x d ls (s.1++ [Aa x (Ad g l)],s.2.1++ [d+1],s.2.2.1++ [k],s.2.2.2++ [l]) (row++ [(s.1.length:Int)])
def Al5 (g:List (List Int)) (ls:List Int):Nat→Nat→EX→List (List Int)→EX×List (List Int)
 |0,_,s,N=>(s,N)
 |f+1,k,s,N=>if k<s.1.length then Al5 g ls f (k+1) (Aiy g (k:Int) (s.1.getD k []) (s.2.1.getD k 0) ls s []).1 (N++ [(Aiy g (k:Int) (s.1.getD k []) (s.2.1.getD k 0) ls s []).2]) else (s,N)
def Zg (key:ByteArray):List (List Int)→Nat→Option Int
 | [],_=>none
 |x::r,i=>if Lz x=key then some (i:Int) else Zg key r (i+1)
def Qe (L:List (List Int)):ByteArray→Option Int:=fun key=>Zg key L 0
def Bfo (p:PP) (r:EX×List (List Int)):Akv.den:=(p,r.1.1,r.1.2.1,Qe r.1.1,r.1.2.2.1,r.1.2.2.2,r.2,())
def Acu (p:PP):Akv.den:=Bfo p (Al5 p.2.2.1 (Aq p.2.2.1.length) 3001 0 ([upto p.1.toNat],[0],[0],[0]) [])
noncomputable def Il (p:PP):Bool:=At p&&(Fh p.2.2.1 (upto p.1.toNat)).2.2
noncomputable abbrev Me:Spec:=mkS (.pair Db .unit) (.pair (.optr Akv) (.pair .bool .unit)) true false (fun x=>Ed x.1) (fun x=>if Il x.1=true then (some (Acu x.1),true,()) else (none,false,()))
theorem Be4 (p:Int×ByteArray×List (List Int)×Unit) (s:List Int) (P:List (List Int)→Prop):(∃(y3:List Int),
 Gr.fn ((↑p.2.2.1.length:Int),())=some y3∧
 (0:Nat)=(0:Nat)∧
 (0:Nat)=([]:List Int).length∧
 Bo
 (fun (v4:Int×Int×ByteArray×List (List Int)×List (List Int)×PUnit) (k5:Int×Int×ByteArray×List (List Int)×List (List Int)×PUnit→Prop)=>
 Br (decide (v4.1<(↑y3.length:Int)))
 (∃(y6:Int),
 idx y3 v4.1=some y6∧
 ∃(y7:List Int),
 Hi.fn (v4.2.2.2.1,y6,())=some y7∧
 ∃(y8:List Int),
 Jg.fn (s,y7,())=some y8∧
 (0:Nat)=(0:Nat)∧
 v4.2.2.2.2.1.length=v4.2.2.2.2.1.length∧
 v4.2.2.2.2.1.length+(List.take (1:Nat) (List.drop (0:Nat) [y8])).length≤Am∧
 (0:Nat)=(0:Nat)∧
 (v4.2.2.2.2.1++List.take (1:Nat) (List.drop (0:Nat) [y8])).length=(v4.2.2.2.2.1++List.take (1:Nat) (List.drop (0:Nat) [y8])).length∧
 k5 (IntKind.i64.wrap (v4.1+(1:Int)),v4.2.1,v4.2.2.1,v4.2.2.2.1,v4.2.2.2.2.1++List.take (1:Nat) (List.drop (0:Nat) [y8]),()))
 (P (List.take v4.2.2.2.2.1.length (List.drop ((0:Nat)) v4.2.2.2.2.1))))
 ((0:Int),p.1,p.2.1,p.2.2.1,[],PUnit.unit))=fnW tab (look [(112,Gr),(155,Hi),(131,Jg)]) Aay Try.f113 (p,s,()) P:=by kernel_rfl
theorem Bdo (p:PP) (s:List Int) (h:At p=true∧s.length≤20∧ ∀y∈s,0≤y∧y<p.1):fnW tab (look [(112,Gr),(155,Hi),(131,Jg)]) Aay Try.f113 (p,s,()) (fun (z:List (List Int))=>z=Aoz p.2.2.1 s):=by
 obtain ⟨hv,hs,hr⟩:=h
 have hV:=valid hv
 have hf:=hV.few
 refine Eq.mp (Be4 p s _) ⟨Aq p.2.2.1.length,if_pos ⟨Int.natCast_nonneg _,by show ((p.2.2.1.length:Nat):Int)≤8;omega⟩,rfl,rfl,?_⟩
 have hL:=Je p.2.2.1.length
 refine Ao (Aq p.2.2.1.length).length (fun v=>v.1) (fun j v=>v=((j:Int),p.1,p.2.1,p.2.2.1,((Aq p.2.2.1.length).take j).map (fun l=>Aa s (Ad p.2.2.1 l)),())) rfl (by simp) ?_
 rintro j v K hj hi rfl hK
 dsimp only
 refine Br.dec (fun hl=>?_) fun hl=>?_
 ·have hl:j<(Aq p.2.2.1.length).length:=by omega
  have hlj:=Jy (List.getElem_mem hl)
  obtain ⟨h1,h2⟩:=Uo hV hlj
  refine ⟨_,Bc hl,_,if_pos ⟨hlj,hf.2,hV.perm⟩,_,if_pos ⟨hs,fun y hy=>by have:=hr y hy;show 0≤y∧y<((Ad p.2.2.1 (Aq p.2.2.1.length)[j]).length:Int);omega⟩,rfl,rfl,?_,rfl,rfl,?_⟩
  ·show (((Aq p.2.2.1.length).take j).map _).length+1≤4294967296
   rw [List.length_map,List.length_take]
   omega
  ·rw [Ak (by omega)]
   refine hK hl _ rfl ?_
   have e:(Aq p.2.2.1.length).take (j+1)=(Aq p.2.2.1.length).take j++ [(Aq p.2.2.1.length)[j]]:=by
    rw [List.take_add_one,List.getElem?_eq_getElem hl,Option.toList_some]
   rw [e,List.map_append]
   rfl
 ·have:j=(Aq p.2.2.1.length).length:=by omega
  subst this
  rw [List.drop_zero,List.take_length,List.take_length]
  rfl
theorem Aty:Sound Try.prog 113 Aay:=
 Sound.mkS Cb (Ae To (Ae Aa0 (Ae Jo Ar))) mixed Try.func113 (by kernel_rfl) (by kernel_rfl) fun x h=>Bdo x.1 x.2.1 h
end Go.Proofs.Ytebabhocakedaaa
