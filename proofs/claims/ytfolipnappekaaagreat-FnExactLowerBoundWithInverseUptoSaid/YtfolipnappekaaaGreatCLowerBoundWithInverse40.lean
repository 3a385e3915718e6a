/-
  Part 41 of the proof that the statement FnExactLowerBoundWithInverse holds.
-/
import Derived.Test.YtfolipnappekaaaGreatCLowerBoundWithInverse39
namespace Go.Proofs.YtfolipnappekaaaGreat
open Go.ChangeShapes Go.WideShapes Go.ChangeAt Go.RowKit
set_option maxRecDepth 100000
theorem own:ownKnob Tryz.prog.godebug=none:=by kernel_rfl
theorem laidOut:laidOutB Tryz.prog=true:=by kernel_rfl
theorem jl (xs:List Int):xs.length+1<=tL.Ib xs:=by
 have: ∀l:List Int,l.length<=(l.map (Ty.Ib tI)).sum:=by
  intro l
  induction l with
  |nil=>simp
  |cons a l ih=>simp only [List.map_cons,List.sum_cons,List.length_cons];have:Ty.Ib tI a=1:=rfl;omega
 have:=this xs
 show xs.length+1<=(xs.map (Ty.Ib tI)).sum+1
 omega
theorem yU (xs:List (List Int)):xs.length+1<=dX.Ib xs/\ ∀r∈xs,r.length+1<=dX.Ib xs:=by
 have h1: ∀l:List (List Int),l.length<=(l.map (Ty.Ib tL)).sum/\ ∀r∈l,r.length+1<=(l.map (Ty.Ib tL)).sum:=by
  intro l
  induction l with
  |nil=>simp
  |cons a l ih=>
   have ha:=jl a
   simp only [List.map_cons,List.sum_cons,List.length_cons]
   refine ⟨by omega,λr hr=>?_⟩
   cases List.mem_cons.1 hr with
   |inl e=>subst e;omega
   |inr e=>have:=ih.2 r e;omega
 have h2:=h1 xs
 refine ⟨?_,λr hr=>?_⟩
 ·show xs.length+1<=(xs.map (Ty.Ib tL)).sum+1
  omega
 ·show r.length+1<=(xs.map (Ty.Ib tL)).sum+1
  have:=h2.2 r hr
  omega
theorem ke (t:List Int) (h:tL.Ib t<=1048576):short t:=by
 have h1:=jl t
 unfold short;omega
theorem oq (t:List (List Int)) (h:dX.Ib t<=1048576):Ew t:=by
 have h2:=yU t
 refine ⟨by omega,λr hr=>?_⟩
 have:=h2.2 r hr;unfold short;omega
theorem HG (t:TT) (h:Ha.Ib t<=1048576):Kg t:=by
 have h':tL.Ib t.1+(dX.Ib t.2.1+(tL.Ib t.2.2.1+0))<=1048576:=h
 exact ⟨ke _ (by omega),oq _ (by omega),ke _ (by omega)⟩
theorem HF (p:PP) (h:Dc.Ib p<=1048576):Cl p:=by
 have h':1+(Ty.Ib .str p.2.1+(dX.Ib p.2.2.1+0))<=1048576:=h
 have h1:p.2.1.size<=Ty.Ib .str p.2.1:=by simp [Ty.Ib]
 exact ⟨by omega,oq _ (by omega)⟩
theorem qh {H:Type} {enc:TypeId×Value->H} {W:World} {base:Nat} {t:TypeId} {τ:Ty} {v:Value} {d:DataW H} {p:List MemPlace} (ht:iK.ty t=some τ) (hs:τ.Ab=true)
  (ho:Value.okWide Tryz.prog W .any base t v) (h:DataW.Trod enc Tryz.prog W 0 (λ_=>true) true t v d p): ∃x:τ.den,Bb W (λ_=>False) τ v x/\τ.Ib x<=Rows.uptoBulk d:=by
 obtain ⟨fuel,hf⟩:=h
 obtain ⟨x,hc,hb⟩:=p9 AO (JO H) fuel t τ _ d p ht hf
 obtain ⟨fs,hu,_⟩:=AO.fields t τ ht hs
 obtain ⟨cs,rfl,_⟩:=okWide_struct hu ho
 exact ⟨x,⟨_,hc,by simp [Ar,hs,Value.cells]⟩,hb⟩
theorem MT {H:Type} {enc:TypeId×Value->H} {W:World} {t:TypeId} {τ:Ty} {v:Value} {d:DataW H} {p:List MemPlace} (ht:iK.ty t=some τ) (hs:τ.Ab=false)
  (ho:v.cells= #[v]) (h:DataW.Trod enc Tryz.prog W 0 (λ_=>true) true t v d p): ∃x:τ.den,Bb W (λ_=>False) τ v x/\τ.Ib x<=Rows.uptoBulk d:=by
 obtain ⟨fuel,hf⟩:=h
 rw [ho] at hf
 obtain ⟨x,hc,hb⟩:=p9 AO (JO H) fuel t τ _ d p ht hf
 exact ⟨x,⟨_,hc,by simp [Ar,hs]⟩,hb⟩
theorem iI {H:Type} {enc:TypeId×Value->H} {W:World} {base:Nat} {t te:TypeId} {e:Ty} {v:Value} {d:DataW H} {p:List MemPlace} (ht:iK.ty t=some (.slice e)) (hu:Program.underlying Tryz.prog t=some (.slice te))
  (ho:Value.okWide Tryz.prog W .any base t v) (h:DataW.Trod enc Tryz.prog W 0 (λ_=>true) true t v d p): ∃x:List e.den,Bb W (λ_=>False) (.slice e) v x/\Ty.Ib (.slice e) x<=Rows.uptoBulk d:=by
 obtain ⟨a,b,c,rfl⟩:=okWide_slice hu ho
 exact MT (τ:= .slice e) ht rfl rfl h
theorem MV {W:World} {A:Nat->Prop} {v:Value} {b:Bool} (hr:Bb W A .bool v b):v= .bool b:=by
 obtain ⟨cs,hc,rfl⟩:=hr
 have hc:cs= [.bool b]:=hc
 subst hc
 rfl
end Go.Proofs.YtfolipnappekaaaGreat
