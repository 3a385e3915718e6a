/-
  Part 41 of the proof that the statement FnExactInSubgroup holds.
-/
import Derived.Test.YtjbdmibbbpdnnaaCInSubgroup39
namespace Go.Proofs.Ytjbdmibbbpdnnaa
open Go.ChangeShapes Go.WideShapes Go.ChangeAt Go.RowKit
set_option maxRecDepth 100000
theorem own:ownKnob Try.prog.godebug=none:=by kernel_rfl
theorem laidOut:laidOutB Try.prog=true:=by kernel_rfl
theorem nL (xs:List Int):xs.length+1<=tL.Lf xs:=by
 have: ∀l:List Int,l.length<=(l.map (Ty.Lf tI)).sum:=by
  intro l
  induction l with
  |nil=>simp
  |cons a l ih=>simp only [List.map_cons,List.sum_cons,List.length_cons];have:Ty.Lf tI a=1:=rfl;omega
 have:=this xs
 show xs.length+1<=(xs.map (Ty.Lf tI)).sum+1
 omega
theorem uN (xs:List (List Int)):xs.length+1<=jC.Lf xs/\ ∀r∈xs,r.length+1<=jC.Lf xs:=by
 have h1: ∀l:List (List Int),l.length<=(l.map (Ty.Lf tL)).sum/\ ∀r∈l,r.length+1<=(l.map (Ty.Lf tL)).sum:=by
  intro l
  induction l with
  |nil=>simp
  |cons a l ih=>
   have ha:=nL a
   simp only [List.map_cons,List.sum_cons,List.length_cons]
   refine ⟨by omega,λr hr=>?_⟩
   cases List.mem_cons.1 hr with
   |inl e=>subst e;omega
   |inr e=>have:=ih.2 r e;omega
 have h2:=h1 xs
 refine ⟨?_,λr hr=>?_⟩
 ·show xs.length+1<=(xs.map (Ty.Lf tL)).sum+1
  omega
 ·show r.length+1<=(xs.map (Ty.Lf tL)).sum+1
  have:=h2.2 r hr
  omega
theorem oN (t:List Int) (h:tL.Lf t<=1048576):short t:=by
 have h1:=nL t
 unfold short;omega
theorem wB (t:List (List Int)) (h:jC.Lf t<=1048576):Jg t:=by
 have h2:=uN t
 refine ⟨by omega,λr hr=>?_⟩
 have:=h2.2 r hr;unfold short;omega
theorem zi (p:PP) (h:Ck.Lf p<=1048576):Cm p:=by
 have h':1+(Ty.Lf .str p.2.1+(jC.Lf p.2.2.1+0))<=1048576:=h
 have h1:p.2.1.size<=Ty.Lf .str p.2.1:=by simp [Ty.Lf]
 exact ⟨by omega,wB _ (by omega)⟩
theorem ng {H:Type} {enc:TypeId×Value->H} {W:World} {base:Nat} {t:TypeId} {τ:Ty} {v:Value} {d:DataW H} {p:List MemPlace} (ht:gX.ty t=some τ) (hs:τ.Ab=true)
  (ho:Value.okWide Try.prog W .any base t v) (h:DataW.Trod enc Try.prog W 0 (λ_=>true) true t v d p): ∃x:τ.den,Aw W (λ_=>False) τ v x/\τ.Lf x<=Rows.uptoBulk d:=by
 obtain ⟨fuel,hf⟩:=h
 obtain ⟨x,hc,hb⟩:=m9 wj (AM H) fuel t τ _ d p ht hf
 obtain ⟨fs,hu,_⟩:=wj.fields t τ ht hs
 obtain ⟨cs,rfl,_⟩:=okWide_struct hu ho
 exact ⟨x,⟨_,hc,by simp [Am,hs,Value.cells]⟩,hb⟩
theorem DE {H:Type} {enc:TypeId×Value->H} {W:World} {t:TypeId} {τ:Ty} {v:Value} {d:DataW H} {p:List MemPlace} (ht:gX.ty t=some τ) (hs:τ.Ab=false)
  (ho:v.cells= #[v]) (h:DataW.Trod enc Try.prog W 0 (λ_=>true) true t v d p): ∃x:τ.den,Aw W (λ_=>False) τ v x/\τ.Lf x<=Rows.uptoBulk d:=by
 obtain ⟨fuel,hf⟩:=h
 rw [ho] at hf
 obtain ⟨x,hc,hb⟩:=m9 wj (AM H) fuel t τ _ d p ht hf
 exact ⟨x,⟨_,hc,by simp [Am,hs]⟩,hb⟩
theorem fH {H:Type} {enc:TypeId×Value->H} {W:World} {base:Nat} {t te:TypeId} {e:Ty} {v:Value} {d:DataW H} {p:List MemPlace} (ht:gX.ty t=some (.slice e)) (hu:Program.underlying Try.prog t=some (.slice te))
  (ho:Value.okWide Try.prog W .any base t v) (h:DataW.Trod enc Try.prog W 0 (λ_=>true) true t v d p): ∃x:List e.den,Aw W (λ_=>False) (.slice e) v x/\Ty.Lf (.slice e) x<=Rows.uptoBulk d:=by
 obtain ⟨a,b,c,rfl⟩:=okWide_slice hu ho
 exact DE (τ:= .slice e) ht rfl rfl h
theorem DG {W:World} {A:Nat->Prop} {v:Value} {b:Bool} (hr:Aw W A .bool v b):v= .bool b:=by
 obtain ⟨cs,hc,rfl⟩:=hr
 have hc:cs= [.bool b]:=hc
 subst hc
 rfl
end Go.Proofs.Ytjbdmibbbpdnnaa
