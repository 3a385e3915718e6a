/-
  Part 42 of the proof that the statement FnExactLowerBoundWithInverse holds.
-/
import Derived.Test.YtfolipnappekaaaGreatCLowerBoundWithInverse40
namespace Go.Proofs.YtfolipnappekaaaGreat
open Go.ChangeShapes Go.WideShapes Go.ChangeAt Go.RowKit
theorem AY (ts:List TT) (h:ya.Ib ts<=1048576):Fe ts:=by
 have h1: ∀l:List TT,l.length<=(l.map (Ty.Ib Ha)).sum/\ ∀t∈l,Ha.Ib t<=(l.map (Ty.Ib Ha)).sum:=by
  intro l
  induction l with
  |nil=>simp
  |cons a l ih=>
   have ha:1<=Ha.Ib a:=by
    show 1<=tL.Ib a.1+(dX.Ib a.2.1+(tL.Ib a.2.2.1+0))
    have:=jl a.1
    omega
   simp only [List.map_cons,List.sum_cons,List.length_cons]
   refine ⟨by omega,λr hr=>?_⟩
   cases List.mem_cons.1 hr with
   |inl e=>subst e;omega
   |inr e=>have:=ih.2 r e;omega
 have h2:=h1 ts
 have h3:(ts.map (Ty.Ib Ha)).sum+1<=1048576:=h
 exact ⟨by omega,λt ht=>HG t (by have:=h2.2 t ht;omega)⟩
end Go.Proofs.YtfolipnappekaaaGreat
