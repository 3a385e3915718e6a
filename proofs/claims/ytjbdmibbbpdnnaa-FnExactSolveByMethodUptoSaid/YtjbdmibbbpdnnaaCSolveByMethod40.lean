/-
  Part 41 of the proof that the statement FnExactSolveByMethod holds.
-/
import Derived.Test.YtjbdmibbbpdnnaaCSolveByMethod39
namespace Go.Proofs.Ytjbdmibbbpdnnaa
open Go.ChangeShapes Go.WideShapes Go.ChangeAt Go.RowKit
set_option maxRecDepth 100000
theorem own:ownKnob Try.prog.godebug=none:=by kernel_rfl
theorem laidOut:laidOutB Try.prog=true:=by kernel_rfl
theorem qF (xs:List Int):xs.length+1<=tL.Mo xs:=by
 have: ∀l:List Int,l.length<=(l.map (Ty.Mo tI)).sum:=by
  intro l
  induction l with
  |nil=>simp
  |cons a l ih=>simp only [List.map_cons,List.sum_cons,List.length_cons];have:Ty.Mo tI a=1:=rfl;omega
 have:=this xs
 show xs.length+1<=(xs.map (Ty.Mo tI)).sum+1
 omega
theorem yE (xs:List (List Int)):xs.length+1<=bL.Mo xs/\ ∀r∈xs,r.length+1<=bL.Mo xs:=by
 have h1: ∀l:List (List Int),l.length<=(l.map (Ty.Mo tL)).sum/\ ∀r∈l,r.length+1<=(l.map (Ty.Mo tL)).sum:=by
  intro l
  induction l with
  |nil=>simp
  |cons a l ih=>
   have ha:=qF a
   simp only [List.map_cons,List.sum_cons,List.length_cons]
   refine ⟨by omega,λr hr=>?_⟩
   cases List.mem_cons.1 hr with
   |inl e=>subst e;omega
   |inr e=>have:=ih.2 r e;omega
 have h2:=h1 xs
 refine ⟨?_,λr hr=>?_⟩
 ·show xs.length+1<=(xs.map (Ty.Mo tL)).sum+1
  omega
 ·show r.length+1<=(xs.map (Ty.Mo tL)).sum+1
  have:=h2.2 r hr
  omega
theorem GR (t:List Int) (h:tL.Mo t<=1048576):short t:=by
 have h1:=qF t
 unfold short;omega
theorem od (t:List (List Int)) (h:bL.Mo t<=1048576):Cd t:=by
 have h2:=yE t
 refine ⟨by omega,λr hr=>?_⟩
 have:=h2.2 r hr;unfold short;omega
theorem GS (p:PP) (h:Dl.Mo p<=1048576):Dn p:=by
 have h':1+(Ty.Mo .str p.2.1+(bL.Mo p.2.2.1+0))<=1048576:=h
 have h1:p.2.1.size<=Ty.Mo .str p.2.1:=by simp [Ty.Mo]
 exact ⟨by omega,od _ (by omega)⟩
theorem pZ {H:Type} {enc:TypeId×Value->H} {W:World} {base:Nat} {t:TypeId} {τ:Ty} {v:Value} {d:DataW H} {p:List MemPlace} (ht:kd.ty t=some τ) (hs:τ.Ac=true)
  (ho:Value.okWide Try.prog W .any base t v) (h:DataW.Trod enc Try.prog W 0 (λ_=>true) true t v d p): ∃x:τ.den,Bd W (λ_=>False) τ v x/\τ.Mo x<=Rows.uptoBulk d:=by
 obtain ⟨fuel,hf⟩:=h
 obtain ⟨x,hc,hb⟩:=oW zS (JI H) fuel t τ _ d p ht hf
 obtain ⟨fs,hu,_⟩:=zS.fields t τ ht hs
 obtain ⟨cs,rfl,_⟩:=okWide_struct hu ho
 exact ⟨x,⟨_,hc,by simp [As,hs,Value.cells]⟩,hb⟩
theorem MS {H:Type} {enc:TypeId×Value->H} {W:World} {t:TypeId} {τ:Ty} {v:Value} {d:DataW H} {p:List MemPlace} (ht:kd.ty t=some τ) (hs:τ.Ac=false)
  (ho:v.cells= #[v]) (h:DataW.Trod enc Try.prog W 0 (λ_=>true) true t v d p): ∃x:τ.den,Bd W (λ_=>False) τ v x/\τ.Mo x<=Rows.uptoBulk d:=by
 obtain ⟨fuel,hf⟩:=h
 rw [ho] at hf
 obtain ⟨x,hc,hb⟩:=oW zS (JI H) fuel t τ _ d p ht hf
 exact ⟨x,⟨_,hc,by simp [As,hs]⟩,hb⟩
theorem iU {H:Type} {enc:TypeId×Value->H} {W:World} {base:Nat} {t te:TypeId} {e:Ty} {v:Value} {d:DataW H} {p:List MemPlace} (ht:kd.ty t=some (.slice e)) (hu:Program.underlying Try.prog t=some (.slice te))
  (ho:Value.okWide Try.prog W .any base t v) (h:DataW.Trod enc Try.prog W 0 (λ_=>true) true t v d p): ∃x:List e.den,Bd W (λ_=>False) (.slice e) v x/\Ty.Mo (.slice e) x<=Rows.uptoBulk d:=by
 obtain ⟨a,b,c,rfl⟩:=okWide_slice hu ho
 exact MS (τ:= .slice e) ht rfl rfl h
theorem MU {W:World} {A:Nat->Prop} {v:Value} {b:Bool} (hr:Bd W A .bool v b):v= .bool b:=by
 obtain ⟨cs,hc,rfl⟩:=hr
 have hc:cs= [.bool b]:=hc
 subst hc
 rfl
end Go.Proofs.Ytjbdmibbbpdnnaa
