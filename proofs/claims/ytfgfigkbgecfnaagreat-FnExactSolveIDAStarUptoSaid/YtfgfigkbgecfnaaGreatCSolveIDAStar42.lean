/-
  Part 43 of the proof that the statement FnExactSolveIDAStar holds.
-/
import Derived.Test.YtfgfigkbgecfnaaGreatCSolveIDAStar41
namespace Go.Proofs.YtfgfigkbgecfnaaGreat
open Go.ChangeShapes Go.WideShapes Go.ChangeAt Go.RowKit
theorem SO (ts:List TT) (h:ue.Mj ts<=1048576):Gu ts:=by
 have h1: ∀l:List TT,l.length<=(l.map (Ty.Mj Ld)).sum/\ ∀t∈l,Ld.Mj t<=(l.map (Ty.Mj Ld)).sum:=by
  intro l
  induction l with
  |nil=>simp
  |cons a l ih=>
   have ha:1<=Ld.Mj a:=by
    show 1<=tL.Mj a.1+(dS.Mj a.2.1+(tL.Mj a.2.2.1+0))
    have:=qe a.1
    omega
   simp only [Ce,List.sum_cons,Aw]
   refine ⟨by omega,λr hr=>?_⟩
   cases Be.1 hr with
   |inl e=>subst e;omega
   |inr e=>have:=ih.2 r e;omega
 have h2:=h1 ts
 have h3:(ts.map (Ty.Mj Ld)).sum+1<=1048576:=h
 exact ⟨by omega,λt ht=>ZV t (by have:=h2.2 t ht;omega)⟩
end Go.Proofs.YtfgfigkbgecfnaaGreat
