/-
  Part 41 of the proof that the statement FnExactMethodLength holds.
-/
import Derived.Test.YtjbdmibbbpdnnaaCMethodLength39
namespace Go.Proofs.Ytjbdmibbbpdnnaa
open Go.ChangeShapes Go.WideShapes Go.ChangeAt Go.RowKit
set_option maxRecDepth 100000
theorem own:ownKnob Try.prog.godebug=none:=by kernel_rfl
theorem laidOut:laidOutB Try.prog=true:=by kernel_rfl
theorem qo (xs:List Int):xs.length+1<=tL.Ml xs:=by
 have: ∀l:List Int,l.length<=(l.map (Ty.Ml tI)).sum:=by
  intro l
  induction l with
  |nil=>simp
  |cons a l ih=>simp only [List.map_cons,List.sum_cons,List.length_cons];have:Ty.Ml tI a=1:=rfl;omega
 have:=this xs
 show xs.length+1<=(xs.map (Ty.Ml tI)).sum+1
 omega
theorem yg (xs:List (List Int)):xs.length+1<=bC.Ml xs/\ ∀r∈xs,r.length+1<=bC.Ml xs:=by
 have h1: ∀l:List (List Int),l.length<=(l.map (Ty.Ml tL)).sum/\ ∀r∈l,r.length+1<=(l.map (Ty.Ml tL)).sum:=by
  intro l
  induction l with
  |nil=>simp
  |cons a l ih=>
   have ha:=qo a
   simp only [List.map_cons,List.sum_cons,List.length_cons]
   refine ⟨by omega,λr hr=>?_⟩
   cases List.mem_cons.1 hr with
   |inl e=>subst e;omega
   |inr e=>have:=ih.2 r e;omega
 have h2:=h1 xs
 refine ⟨?_,λr hr=>?_⟩
 ·show xs.length+1<=(xs.map (Ty.Ml tL)).sum+1
  omega
 ·show r.length+1<=(xs.map (Ty.Ml tL)).sum+1
  have:=h2.2 r hr
  omega
theorem GA (t:List Int) (h:tL.Ml t<=1048576):short t:=by
 have h1:=qo t
 unfold short;omega
theorem nZ (t:List (List Int)) (h:bC.Ml t<=1048576):Cs t:=by
 have h2:=yg t
 refine ⟨by omega,λr hr=>?_⟩
 have:=h2.2 r hr;unfold short;omega
theorem GB (p:PP) (h:Dc.Ml p<=1048576):Dg p:=by
 have h':1+(Ty.Ml .str p.2.1+(bC.Ml p.2.2.1+0))<=1048576:=h
 have h1:p.2.1.size<=Ty.Ml .str p.2.1:=by simp [Ty.Ml]
 exact ⟨by omega,nZ _ (by omega)⟩
theorem pM {H:Type} {enc:TypeId×Value->H} {W:World} {base:Nat} {t:TypeId} {τ:Ty} {v:Value} {d:DataW H} {p:List MemPlace} (ht:jS.ty t=some τ) (hs:τ.Ac=true)
  (ho:Value.okWide Try.prog W .any base t v) (h:DataW.Trod enc Try.prog W 0 (λ_=>true) true t v d p): ∃x:τ.den,Bd W (λ_=>False) τ v x/\τ.Ml x<=Rows.uptoBulk d:=by
 obtain ⟨fuel,hf⟩:=h
 obtain ⟨x,hc,hb⟩:=oL zx (IU H) fuel t τ _ d p ht hf
 obtain ⟨fs,hu,_⟩:=zx.fields t τ ht hs
 obtain ⟨cs,rfl,_⟩:=okWide_struct hu ho
 exact ⟨x,⟨_,hc,by simp [As,hs,Value.cells]⟩,hb⟩
theorem MF {H:Type} {enc:TypeId×Value->H} {W:World} {t:TypeId} {τ:Ty} {v:Value} {d:DataW H} {p:List MemPlace} (ht:jS.ty t=some τ) (hs:τ.Ac=false)
  (ho:v.cells= #[v]) (h:DataW.Trod enc Try.prog W 0 (λ_=>true) true t v d p): ∃x:τ.den,Bd W (λ_=>False) τ v x/\τ.Ml x<=Rows.uptoBulk d:=by
 obtain ⟨fuel,hf⟩:=h
 rw [ho] at hf
 obtain ⟨x,hc,hb⟩:=oL zx (IU H) fuel t τ _ d p ht hf
 exact ⟨x,⟨_,hc,by simp [As,hs]⟩,hb⟩
theorem iJ {H:Type} {enc:TypeId×Value->H} {W:World} {base:Nat} {t te:TypeId} {e:Ty} {v:Value} {d:DataW H} {p:List MemPlace} (ht:jS.ty t=some (.slice e)) (hu:Program.underlying Try.prog t=some (.slice te))
  (ho:Value.okWide Try.prog W .any base t v) (h:DataW.Trod enc Try.prog W 0 (λ_=>true) true t v d p): ∃x:List e.den,Bd W (λ_=>False) (.slice e) v x/\Ty.Ml (.slice e) x<=Rows.uptoBulk d:=by
 obtain ⟨a,b,c,rfl⟩:=okWide_slice hu ho
 exact MF (τ:= .slice e) ht rfl rfl h
theorem MH {W:World} {A:Nat->Prop} {v:Value} {b:Bool} (hr:Bd W A .bool v b):v= .bool b:=by
 obtain ⟨cs,hc,rfl⟩:=hr
 have hc:cs= [.bool b]:=hc
 subst hc
 rfl
end Go.Proofs.Ytjbdmibbbpdnnaa
