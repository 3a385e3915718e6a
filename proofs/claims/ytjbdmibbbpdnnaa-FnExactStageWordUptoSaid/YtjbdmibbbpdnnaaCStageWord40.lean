/-
  Part 41 of the proof that the statement FnExactStageWord holds.
-/
import Derived.Test.YtjbdmibbbpdnnaaCStageWord39
namespace Go.Proofs.Ytjbdmibbbpdnnaa
open Go.ChangeShapes Go.WideShapes Go.ChangeAt Go.RowKit
set_option maxRecDepth 100000
theorem own:ownKnob Try.prog.godebug=none:=by kernel_rfl
theorem laidOut:laidOutB Try.prog=true:=by kernel_rfl
theorem pC (xs:List Int):xs.length+1<=tL.Mf xs:=by
 have: ∀l:List Int,l.length<=(l.map (Ty.Mf tI)).sum:=by
  intro l
  induction l with
  |nil=>simp
  |cons a l ih=>simp only [List.map_cons,List.sum_cons,List.length_cons];have:Ty.Mf tI a=1:=rfl;omega
 have:=this xs
 show xs.length+1<=(xs.map (Ty.Mf tI)).sum+1
 omega
theorem xw (xs:List (List Int)):xs.length+1<=iB.Mf xs/\ ∀r∈xs,r.length+1<=iB.Mf xs:=by
 have h1: ∀l:List (List Int),l.length<=(l.map (Ty.Mf tL)).sum/\ ∀r∈l,r.length+1<=(l.map (Ty.Mf tL)).sum:=by
  intro l
  induction l with
  |nil=>simp
  |cons a l ih=>
   have ha:=pC a
   simp only [List.map_cons,List.sum_cons,List.length_cons]
   refine ⟨by omega,λr hr=>?_⟩
   cases List.mem_cons.1 hr with
   |inl e=>subst e;omega
   |inr e=>have:=ih.2 r e;omega
 have h2:=h1 xs
 refine ⟨?_,λr hr=>?_⟩
 ·show xs.length+1<=(xs.map (Ty.Mf tL)).sum+1
  omega
 ·show r.length+1<=(xs.map (Ty.Mf tL)).sum+1
  have:=h2.2 r hr
  omega
theorem qJ (t:List Int) (h:tL.Mf t<=1048576):short t:=by
 have h1:=pC t
 unfold short;omega
theorem yV (t:List (List Int)) (h:iB.Mf t<=1048576):Ga t:=by
 have h2:=xw t
 refine ⟨by omega,λr hr=>?_⟩
 have:=h2.2 r hr;unfold short;omega
theorem ED (p:PP) (h:Dn.Mf p<=1048576):Dt p:=by
 have h':1+(Ty.Mf .str p.2.1+(iB.Mf p.2.2.1+0))<=1048576:=h
 have h1:p.2.1.size<=Ty.Mf .str p.2.1:=by simp [Ty.Mf]
 exact ⟨by omega,yV _ (by omega)⟩
theorem oU {H:Type} {enc:TypeId×Value->H} {W:World} {base:Nat} {t:TypeId} {τ:Ty} {v:Value} {d:DataW H} {p:List MemPlace} (ht:js.ty t=some τ) (hs:τ.Ab=true)
  (ho:Value.okWide Try.prog W .any base t v) (h:DataW.Trod enc Try.prog W 0 (λ_=>true) true t v d p): ∃x:τ.den,Bb W (λ_=>False) τ v x/\τ.Mf x<=Rows.uptoBulk d:=by
 obtain ⟨fuel,hf⟩:=h
 obtain ⟨x,hc,hb⟩:=nU yK (GS H) fuel t τ _ d p ht hf
 obtain ⟨fs,hu,_⟩:=yK.fields t τ ht hs
 obtain ⟨cs,rfl,_⟩:=okWide_struct hu ho
 exact ⟨x,⟨_,hc,by simp [Ap,hs,Value.cells]⟩,hb⟩
theorem JX {H:Type} {enc:TypeId×Value->H} {W:World} {t:TypeId} {τ:Ty} {v:Value} {d:DataW H} {p:List MemPlace} (ht:js.ty t=some τ) (hs:τ.Ab=false)
  (ho:v.cells= #[v]) (h:DataW.Trod enc Try.prog W 0 (λ_=>true) true t v d p): ∃x:τ.den,Bb W (λ_=>False) τ v x/\τ.Mf x<=Rows.uptoBulk d:=by
 obtain ⟨fuel,hf⟩:=h
 rw [ho] at hf
 obtain ⟨x,hc,hb⟩:=nU yK (GS H) fuel t τ _ d p ht hf
 exact ⟨x,⟨_,hc,by simp [Ap,hs]⟩,hb⟩
theorem gY {H:Type} {enc:TypeId×Value->H} {W:World} {base:Nat} {t te:TypeId} {e:Ty} {v:Value} {d:DataW H} {p:List MemPlace} (ht:js.ty t=some (.slice e)) (hu:Program.underlying Try.prog t=some (.slice te))
  (ho:Value.okWide Try.prog W .any base t v) (h:DataW.Trod enc Try.prog W 0 (λ_=>true) true t v d p): ∃x:List e.den,Bb W (λ_=>False) (.slice e) v x/\Ty.Mf (.slice e) x<=Rows.uptoBulk d:=by
 obtain ⟨a,b,c,rfl⟩:=okWide_slice hu ho
 exact JX (τ:= .slice e) ht rfl rfl h
theorem JZ {W:World} {A:Nat->Prop} {v:Value} {b:Bool} (hr:Bb W A .bool v b):v= .bool b:=by
 obtain ⟨cs,hc,rfl⟩:=hr
 have hc:cs= [.bool b]:=hc
 subst hc
 rfl
end Go.Proofs.Ytjbdmibbbpdnnaa
