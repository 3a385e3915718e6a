/-
  Part 43 of the proof that the statement FnExactSearchDepth holds.
-/
import Derived.Test.YtfolipnappekaaaGreatCSearchDepth41
namespace Go.Proofs.YtfolipnappekaaaGreat
open Go.ChangeShapes Go.WideShapes Go.ChangeAt Go.RowKit
theorem OV (ts:List TT) (h:vQ.Lt ts<=1048576):Gv ts:=by
 have h1: ∀l:List TT,l.length<=(l.map (Ty.Lt Kt)).sum/\ ∀t∈l,Kt.Lt t<=(l.map (Ty.Lt Kt)).sum:=by
  intro l
  induction l with
  |nil=>simp
  |cons a l ih=>
   have ha:1<=Kt.Lt a:=by
    show 1<=tL.Lt a.1+(da.Lt a.2.1+(tL.Lt a.2.2.1+0))
    have:=p6 a.1
    omega
   simp only [Ca,List.sum_cons,Az]
   refine ⟨by omega,λr hr=>?_⟩
   cases Be.1 hr with
   |inl e=>subst e;omega
   |inr e=>have:=ih.2 r e;omega
 have h2:=h1 ts
 have h3:(ts.map (Ty.Lt Kt)).sum+1<=1048576:=h
 exact ⟨by omega,λt ht=>VV t (by have:=h2.2 t ht;omega)⟩
end Go.Proofs.YtfolipnappekaaaGreat
