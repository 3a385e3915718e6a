/-
  Part 42 of the proof that the statement FnExactProvesNoSolutionWithin holds.
-/
import Derived.Test.YtfolipnappekaaaGreatCProvesNoSolutionWithin40
namespace Go.Proofs.YtfolipnappekaaaGreat
open Go.ChangeShapes Go.WideShapes Go.ChangeAt Go.RowKit
theorem GV (ts:List TT) (h:tv.Ho ts<=1048576):Ew ts:=by
 have h1: ∀l:List TT,l.length<=(l.map (Ty.Ho Gz)).sum/\ ∀t∈l,Gz.Ho t<=(l.map (Ty.Ho Gz)).sum:=by
  intro l
  induction l with
  |nil=>simp
  |cons a l ih=>
   have ha:1<=Gz.Ho a:=by
    show 1<=tL.Ho a.1+(cZ.Ho a.2.1+(tL.Ho a.2.2.1+0))
    have:=lz a.1
    omega
   simp only [List.map_cons,List.sum_cons,List.length_cons]
   refine ⟨by omega,λr hr=>?_⟩
   cases List.mem_cons.1 hr with
   |inl e=>subst e;omega
   |inr e=>have:=ih.2 r e;omega
 have h2:=h1 ts
 have h3:(ts.map (Ty.Ho Gz)).sum+1<=1048576:=h
 exact ⟨by omega,λt ht=>OA t (by have:=h2.2 t ht;omega)⟩
end Go.Proofs.YtfolipnappekaaaGreat
