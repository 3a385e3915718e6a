/-
  Part 43 of the proof that the statement FnExactLowerBounds holds.
-/
import Derived.Test.YtfolipnappekaaaGreatCLowerBounds41
namespace Go.Proofs.YtfolipnappekaaaGreat
open Go.ChangeShapes Go.WideShapes Go.ChangeAt Go.RowKit
theorem DB (ts:List TT) (h:wy.Ij ts<=1048576):Dq ts:=by
 have h1: ∀l:List TT,l.length<=(l.map (Ty.Ij Gl)).sum/\ ∀t∈l,Gl.Ij t<=(l.map (Ty.Ij Gl)).sum:=by
  intro l
  induction l with
  |nil=>simp
  |cons a l ih=>
   have ha:1<=Gl.Ij a:=by
    show 1<=tL.Ij a.1+(an.Ij a.2.1+(tL.Ij a.2.2.1+0))
    have:=jR a.1
    omega
   simp only [List.map_cons,List.sum_cons,List.length_cons]
   refine ⟨by omega,λr hr=>?_⟩
   cases List.mem_cons.1 hr with
   |inl e=>subst e;omega
   |inr e=>have:=ih.2 r e;omega
 have h2:=h1 ts
 have h3:(ts.map (Ty.Ij Gl)).sum+1<=1048576:=h
 exact ⟨by omega,λt ht=>JM t (by have:=h2.2 t ht;omega)⟩
end Go.Proofs.YtfolipnappekaaaGreat
