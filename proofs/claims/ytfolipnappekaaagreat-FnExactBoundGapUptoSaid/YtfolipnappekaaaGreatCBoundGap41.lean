/-
  Part 42 of the proof that the statement FnExactBoundGap holds.
-/
import Derived.Test.YtfolipnappekaaaGreatCBoundGap40
namespace Go.Proofs.YtfolipnappekaaaGreat
open Go.ChangeShapes Go.WideShapes Go.ChangeAt Go.RowKit
theorem EI (ts:List TT) (h:AL.Is ts<=1048576):Gr ts:=by
 have h1: ∀l:List TT,l.length<=(l.map (Ty.Is Hp)).sum/\ ∀t∈l,Hp.Is t<=(l.map (Ty.Is Hp)).sum:=by
  intro l
  induction l with
  |nil=>simp
  |cons a l ih=>
   have ha:1<=Hp.Is a:=by
    show 1<=tL.Is a.1+(cF.Is a.2.1+(tL.Is a.2.2.1+0))
    have:=kd a.1
    omega
   simp only [List.map_cons,List.sum_cons,List.length_cons]
   refine ⟨by omega,λr hr=>?_⟩
   cases List.mem_cons.1 hr with
   |inl e=>subst e;omega
   |inr e=>have:=ih.2 r e;omega
 have h2:=h1 ts
 have h3:(ts.map (Ty.Is Hp)).sum+1<=1048576:=h
 exact ⟨by omega,λt ht=>LF t (by have:=h2.2 t ht;omega)⟩
end Go.Proofs.YtfolipnappekaaaGreat
