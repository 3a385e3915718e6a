/-
  Part 42 of the proof that the statement FnExactIterationNodes holds.
-/
import Derived.Test.YtfolipnappekaaaGreatCIterationNodes40
namespace Go.Proofs.YtfolipnappekaaaGreat
open Go.ChangeShapes Go.WideShapes Go.ChangeAt Go.RowKit
set_option maxRecDepth 100000
theorem own:ownKnob Tryz.prog.godebug=none:=by kernel_rfl
theorem laidOut:laidOutB Tryz.prog=true:=by kernel_rfl
theorem ph (xs:List Int):xs.length+1<=tL.Lz xs:=by
 have: ∀l:List Int,l.length<=(l.map (Ty.Lz tI)).sum:=by
  intro l
  induction l with
  |nil=>simp
  |cons a l ih=>simp only [Cc,List.sum_cons,Az];have:Ty.Lz tI a=1:=rfl;omega
 have:=this xs
 show xs.length+1<=(xs.map (Ty.Lz tI)).sum+1
 omega
theorem MC (xs:List (List Int)):xs.length+1<=dI.Lz xs/\ ∀r∈xs,r.length+1<=dI.Lz xs:=by
 have h1: ∀l:List (List Int),l.length<=(l.map (Ty.Lz tL)).sum/\ ∀r∈l,r.length+1<=(l.map (Ty.Lz tL)).sum:=by
  intro l
  induction l with
  |nil=>simp
  |cons a l ih=>
   have ha:=ph a
   simp only [Cc,List.sum_cons,Az]
   refine ⟨by omega,λr hr=>?_⟩
   cases Be.1 hr with
   |inl e=>subst e;omega
   |inr e=>have:=ih.2 r e;omega
 have h2:=h1 xs
 refine ⟨?_,λr hr=>?_⟩
 ·show xs.length+1<=(xs.map (Ty.Lz tL)).sum+1
  omega
 ·show r.length+1<=(xs.map (Ty.Lz tL)).sum+1
  have:=h2.2 r hr
  omega
theorem qd (t:List Int) (h:tL.Lz t<=1048576):short t:=by
 have h1:=ph t
 unfold short;omega
theorem vG (t:List (List Int)) (h:dI.Lz t<=1048576):Hc t:=by
 have h2:=MC t
 refine ⟨by omega,λr hr=>?_⟩
 have:=h2.2 r hr;unfold short;omega
theorem WZ (t:TT) (h:Ku.Lz t<=1048576):Oe t:=by
 have h':tL.Lz t.1+(dI.Lz t.2.1+(tL.Lz t.2.2.1+0))<=1048576:=h
 exact ⟨qd _ (by omega),vG _ (by omega),qd _ (by omega)⟩
theorem WY (p:PP) (h:Fb.Lz p<=1048576):Ei p:=by
 have h':1+(Ty.Lz .str p.2.1+(dI.Lz p.2.2.1+0))<=1048576:=h
 have h1:p.2.1.size<=Ty.Lz .str p.2.1:=by simp [Ty.Lz]
 exact ⟨by omega,vG _ (by omega)⟩
theorem xt {H:Type} {enc:TypeId×Value->H} {W:World} {base:Nat} {t:TypeId} {τ:Ty} {v:Value} {d:DataW H} {p:List MemPlace} (ht:mI.ty t=some τ) (hs:τ.Aq=true)
  (ho:Value.okWide Tryz.prog W .any base t v) (h:DataW.Trod enc Tryz.prog W 0 (λ_=>true) true t v d p): ∃x:τ.den,Ct W (λ_=>False) τ v x/\τ.Lz x<=Rows.uptoBulk d:=by
 obtain ⟨fuel,hf⟩:=h
 obtain ⟨x,hc,hb⟩:=wv PH (ZO H) fuel t τ _ d p ht hf
 obtain ⟨fs,hu,_⟩:=PH.fields t τ ht hs
 obtain ⟨cs,rfl,_⟩:=okWide_struct hu ho
 exact ⟨x,⟨_,hc,by simp [Cf,hs,Value.cells]⟩,hb⟩
theorem IZ {H:Type} {enc:TypeId×Value->H} {W:World} {t:TypeId} {τ:Ty} {v:Value} {d:DataW H} {p:List MemPlace} (ht:mI.ty t=some τ) (hs:τ.Aq=false)
  (ho:v.cells= #[v]) (h:DataW.Trod enc Tryz.prog W 0 (λ_=>true) true t v d p): ∃x:τ.den,Ct W (λ_=>False) τ v x/\τ.Lz x<=Rows.uptoBulk d:=by
 obtain ⟨fuel,hf⟩:=h
 rw [ho] at hf
 obtain ⟨x,hc,hb⟩:=wv PH (ZO H) fuel t τ _ d p ht hf
 exact ⟨x,⟨_,hc,by simp [Cf,hs]⟩,hb⟩
theorem PN {H:Type} {enc:TypeId×Value->H} {W:World} {base:Nat} {t:TypeId} {k:IntKind} {v:Value} {d:DataW H} {p:List MemPlace} (ht:mI.ty t=some (.int k)) (hu:Program.underlying Tryz.prog t=some (.int k))
  (ho:Value.okWide Tryz.prog W .any base t v) (h:DataW.Trod enc Tryz.prog W 0 (λ_=>true) true t v d p): ∃x:Int,Ct W (λ_=>False) (.int k) v x/\Ty.Lz (.int k) x<=Rows.uptoBulk d:=by
 obtain ⟨n,rfl⟩:=okWide_int hu ho
 exact IZ (τ:= .int k) ht rfl rfl h
theorem oe {H:Type} {enc:TypeId×Value->H} {W:World} {base:Nat} {t te:TypeId} {e:Ty} {v:Value} {d:DataW H} {p:List MemPlace} (ht:mI.ty t=some (.slice e)) (hu:Program.underlying Tryz.prog t=some (.slice te))
  (ho:Value.okWide Tryz.prog W .any base t v) (h:DataW.Trod enc Tryz.prog W 0 (λ_=>true) true t v d p): ∃x:List e.den,Ct W (λ_=>False) (.slice e) v x/\Ty.Lz (.slice e) x<=Rows.uptoBulk d:=by
 obtain ⟨a,b,c,rfl⟩:=okWide_slice hu ho
 exact IZ (τ:= .slice e) ht rfl rfl h
theorem Ac8 {W:World} {A:Nat->Prop} {v:Value} {b:Bool} (hr:Ct W A .bool v b):v= .bool b:=by
 obtain ⟨cs,hc,rfl⟩:=hr
 have hc:cs= [.bool b]:=hc
 subst hc
 rfl
end Go.Proofs.YtfolipnappekaaaGreat
