/-
  Part 42 of the proof that the statement FnExactLowerBounds holds.
-/
import Derived.Test.YtfolipnappekaaaGreatCLowerBounds40
namespace Go.Proofs.YtfolipnappekaaaGreat
open Go.ChangeShapes Go.WideShapes Go.ChangeAt Go.RowKit
set_option maxRecDepth 100000
theorem own:ownKnob Tryz.prog.godebug=none:=by kernel_rfl
theorem laidOut:laidOutB Tryz.prog=true:=by kernel_rfl
theorem jR (xs:List Int):xs.length+1<=tL.Ij xs:=by
 have: ∀l:List Int,l.length<=(l.map (Ty.Ij tI)).sum:=by
  intro l
  induction l with
  |nil=>simp
  |cons a l ih=>simp only [List.map_cons,List.sum_cons,List.length_cons];have:Ty.Ij tI a=1:=rfl;omega
 have:=this xs
 show xs.length+1<=(xs.map (Ty.Ij tI)).sum+1
 omega
theorem zT (xs:List (List Int)):xs.length+1<=an.Ij xs/\ ∀r∈xs,r.length+1<=an.Ij xs:=by
 have h1: ∀l:List (List Int),l.length<=(l.map (Ty.Ij tL)).sum/\ ∀r∈l,r.length+1<=(l.map (Ty.Ij tL)).sum:=by
  intro l
  induction l with
  |nil=>simp
  |cons a l ih=>
   have ha:=jR a
   simp only [List.map_cons,List.sum_cons,List.length_cons]
   refine ⟨by omega,λr hr=>?_⟩
   cases List.mem_cons.1 hr with
   |inl e=>subst e;omega
   |inr e=>have:=ih.2 r e;omega
 have h2:=h1 xs
 refine ⟨?_,λr hr=>?_⟩
 ·show xs.length+1<=(xs.map (Ty.Ij tL)).sum+1
  omega
 ·show r.length+1<=(xs.map (Ty.Ij tL)).sum+1
  have:=h2.2 r hr
  omega
theorem kQ (t:List Int) (h:tL.Ij t<=1048576):short t:=by
 have h1:=jR t
 unfold short;omega
theorem pe (t:List (List Int)) (h:an.Ij t<=1048576):Dl t:=by
 have h2:=zT t
 refine ⟨by omega,λr hr=>?_⟩
 have:=h2.2 r hr;unfold short;omega
theorem JM (t:TT) (h:Gl.Ij t<=1048576):Iz t:=by
 have h':tL.Ij t.1+(an.Ij t.2.1+(tL.Ij t.2.2.1+0))<=1048576:=h
 exact ⟨kQ _ (by omega),pe _ (by omega),kQ _ (by omega)⟩
theorem JL (p:PP) (h:Df.Ij p<=1048576):Cb p:=by
 have h':1+(Ty.Ij .str p.2.1+(an.Ij p.2.2.1+0))<=1048576:=h
 have h1:p.2.1.size<=Ty.Ij .str p.2.1:=by simp [Ty.Ij]
 exact ⟨by omega,pe _ (by omega)⟩
theorem r8 {H:Type} {enc:TypeId×Value->H} {W:World} {base:Nat} {t:TypeId} {τ:Ty} {v:Value} {d:DataW H} {p:List MemPlace} (ht:je.ty t=some τ) (hs:τ.Ab=true)
  (ho:Value.okWide Tryz.prog W .any base t v) (h:DataW.Trod enc Tryz.prog W 0 (λ_=>true) true t v d p): ∃x:τ.den,Be W (λ_=>False) τ v x/\τ.Ij x<=Rows.uptoBulk d:=by
 obtain ⟨fuel,hf⟩:=h
 obtain ⟨x,hc,hb⟩:=pV CS (LZ H) fuel t τ _ d p ht hf
 obtain ⟨fs,hu,_⟩:=CS.fields t τ ht hs
 obtain ⟨cs,rfl,_⟩:=okWide_struct hu ho
 exact ⟨x,⟨_,hc,by simp [As,hs,Value.cells]⟩,hb⟩
theorem PA {H:Type} {enc:TypeId×Value->H} {W:World} {t:TypeId} {τ:Ty} {v:Value} {d:DataW H} {p:List MemPlace} (ht:je.ty t=some τ) (hs:τ.Ab=false)
  (ho:v.cells= #[v]) (h:DataW.Trod enc Tryz.prog W 0 (λ_=>true) true t v d p): ∃x:τ.den,Be W (λ_=>False) τ v x/\τ.Ij x<=Rows.uptoBulk d:=by
 obtain ⟨fuel,hf⟩:=h
 rw [ho] at hf
 obtain ⟨x,hc,hb⟩:=pV CS (LZ H) fuel t τ _ d p ht hf
 exact ⟨x,⟨_,hc,by simp [As,hs]⟩,hb⟩
theorem jc {H:Type} {enc:TypeId×Value->H} {W:World} {base:Nat} {t te:TypeId} {e:Ty} {v:Value} {d:DataW H} {p:List MemPlace} (ht:je.ty t=some (.slice e)) (hu:Program.underlying Tryz.prog t=some (.slice te))
  (ho:Value.okWide Tryz.prog W .any base t v) (h:DataW.Trod enc Tryz.prog W 0 (λ_=>true) true t v d p): ∃x:List e.den,Be W (λ_=>False) (.slice e) v x/\Ty.Ij (.slice e) x<=Rows.uptoBulk d:=by
 obtain ⟨a,b,c,rfl⟩:=okWide_slice hu ho
 exact PA (τ:= .slice e) ht rfl rfl h
theorem PC {W:World} {A:Nat->Prop} {v:Value} {b:Bool} (hr:Be W A .bool v b):v= .bool b:=by
 obtain ⟨cs,hc,rfl⟩:=hr
 have hc:cs= [.bool b]:=hc
 subst hc
 rfl
end Go.Proofs.YtfolipnappekaaaGreat
