/-
  Part 41 of the proof that the statement FnExactSolveTwoPhase holds.
-/
import Derived.Test.YtjbdmibbbpdnnaaCSolveTwoPhase39
namespace Go.Proofs.Ytjbdmibbbpdnnaa
open Go.ChangeShapes Go.WideShapes Go.ChangeAt Go.RowKit
set_option maxRecDepth 100000
theorem own:ownKnob Try.prog.godebug=none:=by kernel_rfl
theorem laidOut:laidOutB Try.prog=true:=by kernel_rfl
theorem r9 (xs:List Int):xs.length+1<=tL.Ng xs:=by
 have: ∀l:List Int,l.length<=(l.map (Ty.Ng tI)).sum:=by
  intro l
  induction l with
  |nil=>simp
  |cons a l ih=>simp only [List.map_cons,List.sum_cons,List.length_cons];have:Ty.Ng tI a=1:=rfl;omega
 have:=this xs
 show xs.length+1<=(xs.map (Ty.Ng tI)).sum+1
 omega
theorem zl (xs:List (List Int)):xs.length+1<=hY.Ng xs/\ ∀r∈xs,r.length+1<=hY.Ng xs:=by
 have h1: ∀l:List (List Int),l.length<=(l.map (Ty.Ng tL)).sum/\ ∀r∈l,r.length+1<=(l.map (Ty.Ng tL)).sum:=by
  intro l
  induction l with
  |nil=>simp
  |cons a l ih=>
   have ha:=r9 a
   simp only [List.map_cons,List.sum_cons,List.length_cons]
   refine ⟨by omega,λr hr=>?_⟩
   cases List.mem_cons.1 hr with
   |inl e=>subst e;omega
   |inr e=>have:=ih.2 r e;omega
 have h2:=h1 xs
 refine ⟨?_,λr hr=>?_⟩
 ·show xs.length+1<=(xs.map (Ty.Ng tL)).sum+1
  omega
 ·show r.length+1<=(xs.map (Ty.Ng tL)).sum+1
  have:=h2.2 r hr
  omega
theorem sr (t:List Int) (h:tL.Ng t<=1048576):short t:=by
 have h1:=r9 t
 unfold short;omega
theorem BO (t:List (List Int)) (h:hY.Ng t<=1048576):Gp t:=by
 have h2:=zl t
 refine ⟨by omega,λr hr=>?_⟩
 have:=h2.2 r hr;unfold short;omega
theorem IL (p:PP) (h:Co.Ng p<=1048576):Cn p:=by
 have h':1+(Ty.Ng .str p.2.1+(hY.Ng p.2.2.1+0))<=1048576:=h
 have h1:p.2.1.size<=Ty.Ng .str p.2.1:=by simp [Ty.Ng]
 exact ⟨by omega,BO _ (by omega)⟩
theorem qA {H:Type} {enc:TypeId×Value->H} {W:World} {base:Nat} {t:TypeId} {τ:Ty} {v:Value} {d:DataW H} {p:List MemPlace} (ht:kI.ty t=some τ) (hs:τ.Ac=true)
  (ho:Value.okWide Try.prog W .any base t v) (h:DataW.Trod enc Try.prog W 0 (λ_=>true) true t v d p): ∃x:τ.den,Bh W (λ_=>False) τ v x/\τ.Ng x<=Rows.uptoBulk d:=by
 obtain ⟨fuel,hf⟩:=h
 obtain ⟨x,hc,hb⟩:=pD BD (KS H) fuel t τ _ d p ht hf
 obtain ⟨fs,hu,_⟩:=BD.fields t τ ht hs
 obtain ⟨cs,rfl,_⟩:=okWide_struct hu ho
 exact ⟨x,⟨_,hc,by simp [Av,hs,Value.cells]⟩,hb⟩
theorem OH {H:Type} {enc:TypeId×Value->H} {W:World} {t:TypeId} {τ:Ty} {v:Value} {d:DataW H} {p:List MemPlace} (ht:kI.ty t=some τ) (hs:τ.Ac=false)
  (ho:v.cells= #[v]) (h:DataW.Trod enc Try.prog W 0 (λ_=>true) true t v d p): ∃x:τ.den,Bh W (λ_=>False) τ v x/\τ.Ng x<=Rows.uptoBulk d:=by
 obtain ⟨fuel,hf⟩:=h
 rw [ho] at hf
 obtain ⟨x,hc,hb⟩:=pD BD (KS H) fuel t τ _ d p ht hf
 exact ⟨x,⟨_,hc,by simp [Av,hs]⟩,hb⟩
theorem jm {H:Type} {enc:TypeId×Value->H} {W:World} {base:Nat} {t te:TypeId} {e:Ty} {v:Value} {d:DataW H} {p:List MemPlace} (ht:kI.ty t=some (.slice e)) (hu:Program.underlying Try.prog t=some (.slice te))
  (ho:Value.okWide Try.prog W .any base t v) (h:DataW.Trod enc Try.prog W 0 (λ_=>true) true t v d p): ∃x:List e.den,Bh W (λ_=>False) (.slice e) v x/\Ty.Ng (.slice e) x<=Rows.uptoBulk d:=by
 obtain ⟨a,b,c,rfl⟩:=okWide_slice hu ho
 exact OH (τ:= .slice e) ht rfl rfl h
theorem OJ {W:World} {A:Nat->Prop} {v:Value} {b:Bool} (hr:Bh W A .bool v b):v= .bool b:=by
 obtain ⟨cs,hc,rfl⟩:=hr
 have hc:cs= [.bool b]:=hc
 subst hc
 rfl
end Go.Proofs.Ytjbdmibbbpdnnaa
