/-
  Part 43 of the proof that the statement FnExactIterationNodes holds.
-/
import Derived.Test.YtfolipnappekaaaGreatCIterationNodes41
namespace Go.Proofs.YtfolipnappekaaaGreat
open Go.ChangeShapes Go.WideShapes Go.ChangeAt Go.RowKit
theorem PV (ts:List TT) (h:tb.Lz ts<=1048576):Gx ts:=by
 have h1: ∀l:List TT,l.length<=(l.map (Ty.Lz Ku)).sum/\ ∀t∈l,Ku.Lz t<=(l.map (Ty.Lz Ku)).sum:=by
  intro l
  induction l with
  |nil=>simp
  |cons a l ih=>
   have ha:1<=Ku.Lz a:=by
    show 1<=tL.Lz a.1+(dI.Lz a.2.1+(tL.Lz a.2.2.1+0))
    have:=ph a.1
    omega
   simp only [Cc,List.sum_cons,Az]
   refine ⟨by omega,λr hr=>?_⟩
   cases Be.1 hr with
   |inl e=>subst e;omega
   |inr e=>have:=ih.2 r e;omega
 have h2:=h1 ts
 have h3:(ts.map (Ty.Lz Ku)).sum+1<=1048576:=h
 exact ⟨by omega,λt ht=>WZ t (by have:=h2.2 t ht;omega)⟩
end Go.Proofs.YtfolipnappekaaaGreat
