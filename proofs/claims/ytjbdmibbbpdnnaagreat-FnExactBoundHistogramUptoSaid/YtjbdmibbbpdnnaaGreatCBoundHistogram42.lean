/-
  Part 43 of the proof that the statement FnExactBoundHistogram holds.
-/
import Derived.Test.YtjbdmibbbpdnnaaGreatCBoundHistogram41
namespace Go.Proofs.YtjbdmibbbpdnnaaGreat
open Go.ChangeShapes Go.WideShapes Go.ChangeAt Go.RowKit
theorem zV (ts:List TT) (h:xD.Hz ts<=1048576):En ts:=by
 have h1: ∀l:List TT,l.length<=(l.map (Ty.Hz Gl)).sum/\ ∀t∈l,Gl.Hz t<=(l.map (Ty.Hz Gl)).sum:=by
  intro l
  induction l with
  |nil=>simp
  |cons a l ih=>
   have ha:1<=Gl.Hz a:=by
    show 1<=tL.Hz a.1+(Zp.Hz a.2.1+(tL.Hz a.2.2.1+0))
    have:=j7 a.1
    omega
   simp only [List.map_cons,List.sum_cons,List.length_cons]
   refine ⟨by omega,λr hr=>?_⟩
   cases List.mem_cons.1 hr with
   |inl e=>subst e;omega
   |inr e=>have:=ih.2 r e;omega
 have h2:=h1 ts
 have h3:(ts.map (Ty.Hz Gl)).sum+1<=1048576:=h
 exact ⟨by omega,λt ht=>FZ t (by have:=h2.2 t ht;omega)⟩
end Go.Proofs.YtjbdmibbbpdnnaaGreat
