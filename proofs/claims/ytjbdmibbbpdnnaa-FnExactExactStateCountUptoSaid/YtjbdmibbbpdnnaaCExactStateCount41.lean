/-
  Part 42 of the proof that the statement FnExactExactStateCount holds.
-/
import Derived.Test.YtjbdmibbbpdnnaaCExactStateCount40
namespace Go.Proofs.Ytjbdmibbbpdnnaa
open Go.ChangeShapes Go.WideShapes Go.ChangeAt Go.RowKit
theorem z0 (ts:List TT) (h:zl.Hv ts<=1048576):Gw ts:=by
 have h1: ∀l:List TT,l.length<=(l.map (Ty.Hv Gx)).sum/\ ∀t∈l,Gx.Hv t<=(l.map (Ty.Hv Gx)).sum:=by
  intro l
  induction l with
  |nil=>simp
  |cons a l ih=>
   have ha:1<=Gx.Hv a:=by
    show 1<=tL.Hv a.1+(dt.Hv a.2.1+(tL.Hv a.2.2.1+0))
    have:=iy a.1
    omega
   simp only [List.map_cons,List.sum_cons,List.length_cons]
   refine ⟨by omega,λr hr=>?_⟩
   cases List.mem_cons.1 hr with
   |inl e=>subst e;omega
   |inr e=>have:=ih.2 r e;omega
 have h2:=h1 ts
 have h3:(ts.map (Ty.Hv Gx)).sum+1<=1048576:=h
 exact ⟨by omega,λt ht=>DY t (by have:=h2.2 t ht;omega)⟩
end Go.Proofs.Ytjbdmibbbpdnnaa
