/-
  Part 42 of the proof that the statement FnExactBestTableIndex holds.
-/
import Derived.Test.YtfolipnappekaaaGreatCBestTableIndex40
namespace Go.Proofs.YtfolipnappekaaaGreat
open Go.ChangeShapes Go.WideShapes Go.ChangeAt Go.RowKit
theorem BC (ts:List TT) (h:yc.Hz ts<=1048576):Fc ts:=by
 have h1: ∀l:List TT,l.length<=(l.map (Ty.Hz Gy)).sum/\ ∀t∈l,Gy.Hz t<=(l.map (Ty.Hz Gy)).sum:=by
  intro l
  induction l with
  |nil=>simp
  |cons a l ih=>
   have ha:1<=Gy.Hz a:=by
    show 1<=tL.Hz a.1+(e8.Hz a.2.1+(tL.Hz a.2.2.1+0))
    have:=jo a.1
    omega
   simp only [List.map_cons,List.sum_cons,List.length_cons]
   refine ⟨by omega,λr hr=>?_⟩
   cases List.mem_cons.1 hr with
   |inl e=>subst e;omega
   |inr e=>have:=ih.2 r e;omega
 have h2:=h1 ts
 have h3:(ts.map (Ty.Hz Gy)).sum+1<=1048576:=h
 exact ⟨by omega,λt ht=>HF t (by have:=h2.2 t ht;omega)⟩
end Go.Proofs.YtfolipnappekaaaGreat
