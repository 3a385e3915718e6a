/-
  Part 41 of the proof that the statement FnExactProvesNoSolutionWithin holds.
-/
import Derived.Test.YtfolipnappekaaaGreatCProvesNoSolutionWithin39
namespace Go.Proofs.YtfolipnappekaaaGreat
open Go.ChangeShapes Go.WideShapes Go.ChangeAt Go.RowKit
set_option maxRecDepth 100000
theorem own:ownKnob Tryz.prog.godebug=none:=by kernel_rfl
theorem laidOut:laidOutB Tryz.prog=true:=by kernel_rfl
theorem lz (xs:List Int):xs.length+1<=tL.Ho xs:=by
 have: ∀l:List Int,l.length<=(l.map (Ty.Ho tI)).sum:=by
  intro l
  induction l with
  |nil=>simp
  |cons a l ih=>simp only [List.map_cons,List.sum_cons,List.length_cons];have:Ty.Ho tI a=1:=rfl;omega
 have:=this xs
 show xs.length+1<=(xs.map (Ty.Ho tI)).sum+1
 omega
theorem DI (xs:List (List Int)):xs.length+1<=cZ.Ho xs/\ ∀r∈xs,r.length+1<=cZ.Ho xs:=by
 have h1: ∀l:List (List Int),l.length<=(l.map (Ty.Ho tL)).sum/\ ∀r∈l,r.length+1<=(l.map (Ty.Ho tL)).sum:=by
  intro l
  induction l with
  |nil=>simp
  |cons a l ih=>
   have ha:=lz a
   simp only [List.map_cons,List.sum_cons,List.length_cons]
   refine ⟨by omega,λr hr=>?_⟩
   cases List.mem_cons.1 hr with
   |inl e=>subst e;omega
   |inr e=>have:=ih.2 r e;omega
 have h2:=h1 xs
 refine ⟨?_,λr hr=>?_⟩
 ·show xs.length+1<=(xs.map (Ty.Ho tL)).sum+1
  omega
 ·show r.length+1<=(xs.map (Ty.Ho tL)).sum+1
  have:=h2.2 r hr
  omega
theorem mr (t:List Int) (h:tL.Ho t<=1048576):short t:=by
 have h1:=lz t
 unfold short;omega
theorem qZ (t:List (List Int)) (h:cZ.Ho t<=1048576):Ff t:=by
 have h2:=DI t
 refine ⟨by omega,λr hr=>?_⟩
 have:=h2.2 r hr;unfold short;omega
theorem OA (t:TT) (h:Gz.Ho t<=1048576):Le t:=by
 have h':tL.Ho t.1+(cZ.Ho t.2.1+(tL.Ho t.2.2.1+0))<=1048576:=h
 exact ⟨mr _ (by omega),qZ _ (by omega),mr _ (by omega)⟩
theorem NZ (p:PP) (h:Cp.Ho p<=1048576):Ck p:=by
 have h':1+(Ty.Ho .str p.2.1+(cZ.Ho p.2.2.1+0))<=1048576:=h
 have h1:p.2.1.size<=Ty.Ho .str p.2.1:=by simp [Ty.Ho]
 exact ⟨by omega,qZ _ (by omega)⟩
theorem sW {H:Type} {enc:TypeId×Value->H} {W:World} {base:Nat} {t:TypeId} {τ:Ty} {v:Value} {d:DataW H} {p:List MemPlace} (ht:j8.ty t=some τ) (hs:τ.Ac=true)
  (ho:Value.okWide Tryz.prog W .any base t v) (h:DataW.Trod enc Tryz.prog W 0 (λ_=>true) true t v d p): ∃x:τ.den,Bc W (λ_=>False) τ v x/\τ.Ho x<=Rows.uptoBulk d:=by
 obtain ⟨fuel,hf⟩:=h
 obtain ⟨x,hc,hb⟩:=rR GJ (QS H) fuel t τ _ d p ht hf
 obtain ⟨fs,hu,_⟩:=GJ.fields t τ ht hs
 obtain ⟨cs,rfl,_⟩:=okWide_struct hu ho
 exact ⟨x,⟨_,hc,by simp [Au,hs,Value.cells]⟩,hb⟩
theorem AO {H:Type} {enc:TypeId×Value->H} {W:World} {t:TypeId} {τ:Ty} {v:Value} {d:DataW H} {p:List MemPlace} (ht:j8.ty t=some τ) (hs:τ.Ac=false)
  (ho:v.cells= #[v]) (h:DataW.Trod enc Tryz.prog W 0 (λ_=>true) true t v d p): ∃x:τ.den,Bc W (λ_=>False) τ v x/\τ.Ho x<=Rows.uptoBulk d:=by
 obtain ⟨fuel,hf⟩:=h
 rw [ho] at hf
 obtain ⟨x,hc,hb⟩:=rR GJ (QS H) fuel t τ _ d p ht hf
 exact ⟨x,⟨_,hc,by simp [Au,hs]⟩,hb⟩
theorem GO {H:Type} {enc:TypeId×Value->H} {W:World} {base:Nat} {t:TypeId} {k:IntKind} {v:Value} {d:DataW H} {p:List MemPlace} (ht:j8.ty t=some (.int k)) (hu:Program.underlying Tryz.prog t=some (.int k))
  (ho:Value.okWide Tryz.prog W .any base t v) (h:DataW.Trod enc Tryz.prog W 0 (λ_=>true) true t v d p): ∃x:Int,Bc W (λ_=>False) (.int k) v x/\Ty.Ho (.int k) x<=Rows.uptoBulk d:=by
 obtain ⟨n,rfl⟩:=okWide_int hu ho
 exact AO (τ:= .int k) ht rfl rfl h
theorem kD {H:Type} {enc:TypeId×Value->H} {W:World} {base:Nat} {t te:TypeId} {e:Ty} {v:Value} {d:DataW H} {p:List MemPlace} (ht:j8.ty t=some (.slice e)) (hu:Program.underlying Tryz.prog t=some (.slice te))
  (ho:Value.okWide Tryz.prog W .any base t v) (h:DataW.Trod enc Tryz.prog W 0 (λ_=>true) true t v d p): ∃x:List e.den,Bc W (λ_=>False) (.slice e) v x/\Ty.Ho (.slice e) x<=Rows.uptoBulk d:=by
 obtain ⟨a,b,c,rfl⟩:=okWide_slice hu ho
 exact AO (τ:= .slice e) ht rfl rfl h
theorem UL {W:World} {A:Nat->Prop} {v:Value} {b:Bool} (hr:Bc W A .bool v b):v= .bool b:=by
 obtain ⟨cs,hc,rfl⟩:=hr
 have hc:cs= [.bool b]:=hc
 subst hc
 rfl
end Go.Proofs.YtfolipnappekaaaGreat
