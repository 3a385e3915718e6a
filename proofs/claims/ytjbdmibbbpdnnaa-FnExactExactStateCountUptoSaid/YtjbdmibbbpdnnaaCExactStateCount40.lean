/-
  Part 41 of the proof that the statement FnExactExactStateCount holds.
-/
import Derived.Test.YtjbdmibbbpdnnaaCExactStateCount39
namespace Go.Proofs.Ytjbdmibbbpdnnaa
open Go.ChangeShapes Go.WideShapes Go.ChangeAt Go.RowKit
set_option maxRecDepth 100000
theorem own:ownKnob Try.prog.godebug=none:=by kernel_rfl
theorem laidOut:laidOutB Try.prog=true:=by kernel_rfl
theorem iy (xs:List Int):xs.length+1<=tL.Hv xs:=by
 have: ∀l:List Int,l.length<=(l.map (Ty.Hv tI)).sum:=by
  intro l
  induction l with
  |nil=>simp
  |cons a l ih=>simp only [List.map_cons,List.sum_cons,List.length_cons];have:Ty.Hv tI a=1:=rfl;omega
 have:=this xs
 show xs.length+1<=(xs.map (Ty.Hv tI)).sum+1
 omega
theorem xt (xs:List (List Int)):xs.length+1<=dt.Hv xs/\ ∀r∈xs,r.length+1<=dt.Hv xs:=by
 have h1: ∀l:List (List Int),l.length<=(l.map (Ty.Hv tL)).sum/\ ∀r∈l,r.length+1<=(l.map (Ty.Hv tL)).sum:=by
  intro l
  induction l with
  |nil=>simp
  |cons a l ih=>
   have ha:=iy a
   simp only [List.map_cons,List.sum_cons,List.length_cons]
   refine ⟨by omega,λr hr=>?_⟩
   cases List.mem_cons.1 hr with
   |inl e=>subst e;omega
   |inr e=>have:=ih.2 r e;omega
 have h2:=h1 xs
 refine ⟨?_,λr hr=>?_⟩
 ·show xs.length+1<=(xs.map (Ty.Hv tL)).sum+1
  omega
 ·show r.length+1<=(xs.map (Ty.Hv tL)).sum+1
  have:=h2.2 r hr
  omega
theorem qP (t:List Int) (h:tL.Hv t<=1048576):short t:=by
 have h1:=iy t
 unfold short;omega
theorem ny (t:List (List Int)) (h:dt.Hv t<=1048576):Fu t:=by
 have h2:=xt t
 refine ⟨by omega,λr hr=>?_⟩
 have:=h2.2 r hr;unfold short;omega
theorem DY (t:TT) (h:Gx.Hv t<=1048576):Ka t:=by
 have h':tL.Hv t.1+(dt.Hv t.2.1+(tL.Hv t.2.2.1+0))<=1048576:=h
 exact ⟨qP _ (by omega),ny _ (by omega),qP _ (by omega)⟩
theorem DX (p:PP) (h:Dm.Hv p<=1048576):Cp p:=by
 have h':1+(Ty.Hv .str p.2.1+(dt.Hv p.2.2.1+0))<=1048576:=h
 have h1:p.2.1.size<=Ty.Hv .str p.2.1:=by simp [Ty.Hv]
 exact ⟨by omega,ny _ (by omega)⟩
theorem pb {H:Type} {enc:TypeId×Value->H} {W:World} {base:Nat} {t:TypeId} {τ:Ty} {v:Value} {d:DataW H} {p:List MemPlace} (ht:j8.ty t=some τ) (hs:τ.Ac=true)
  (ho:Value.okWide Try.prog W .any base t v) (h:DataW.Trod enc Try.prog W 0 (λ_=>true) true t v d p): ∃x:τ.den,Bd W (λ_=>False) τ v x/\τ.Hv x<=Rows.uptoBulk d:=by
 obtain ⟨fuel,hf⟩:=h
 obtain ⟨x,hc,hb⟩:=o5 yP (GG H) fuel t τ _ d p ht hf
 obtain ⟨fs,hu,_⟩:=yP.fields t τ ht hs
 obtain ⟨cs,rfl,_⟩:=okWide_struct hu ho
 exact ⟨x,⟨_,hc,by simp [Ar,hs,Value.cells]⟩,hb⟩
theorem JH {H:Type} {enc:TypeId×Value->H} {W:World} {t:TypeId} {τ:Ty} {v:Value} {d:DataW H} {p:List MemPlace} (ht:j8.ty t=some τ) (hs:τ.Ac=false)
  (ho:v.cells= #[v]) (h:DataW.Trod enc Try.prog W 0 (λ_=>true) true t v d p): ∃x:τ.den,Bd W (λ_=>False) τ v x/\τ.Hv x<=Rows.uptoBulk d:=by
 obtain ⟨fuel,hf⟩:=h
 rw [ho] at hf
 obtain ⟨x,hc,hb⟩:=o5 yP (GG H) fuel t τ _ d p ht hf
 exact ⟨x,⟨_,hc,by simp [Ar,hs]⟩,hb⟩
theorem sM {H:Type} {enc:TypeId×Value->H} {W:World} {base:Nat} {t te:TypeId} {e:Ty} {v:Value} {d:DataW H} {p:List MemPlace} (ht:j8.ty t=some (.slice e)) (hu:Program.underlying Try.prog t=some (.slice te))
  (ho:Value.okWide Try.prog W .any base t v) (h:DataW.Trod enc Try.prog W 0 (λ_=>true) true t v d p): ∃x:List e.den,Bd W (λ_=>False) (.slice e) v x/\Ty.Hv (.slice e) x<=Rows.uptoBulk d:=by
 obtain ⟨a,b,c,rfl⟩:=okWide_slice hu ho
 exact JH (τ:= .slice e) ht rfl rfl h
theorem JJ {W:World} {A:Nat->Prop} {v:Value} {b:Bool} (hr:Bd W A .bool v b):v= .bool b:=by
 obtain ⟨cs,hc,rfl⟩:=hr
 have hc:cs= [.bool b]:=hc
 subst hc
 rfl
end Go.Proofs.Ytjbdmibbbpdnnaa
