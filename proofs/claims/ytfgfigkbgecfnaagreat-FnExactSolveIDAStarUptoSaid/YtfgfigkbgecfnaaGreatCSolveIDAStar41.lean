/-
  Part 42 of the proof that the statement FnExactSolveIDAStar holds.
-/
import Derived.Test.YtfgfigkbgecfnaaGreatCSolveIDAStar40
namespace Go.Proofs.YtfgfigkbgecfnaaGreat
open Go.ChangeShapes Go.WideShapes Go.ChangeAt Go.RowKit
set_option maxRecDepth 100000
theorem own:ownKnob Tryz.prog.godebug=none:=by kernel_rfl
theorem laidOut:laidOutB Tryz.prog=true:=by kernel_rfl
theorem qe (xs:List Int):xs.length+1<=tL.Mj xs:=by
 have: ∀l:List Int,l.length<=(l.map (Ty.Mj tI)).sum:=by
  intro l
  induction l with
  |nil=>simp
  |cons a l ih=>simp only [Ce,List.sum_cons,Aw];have:Ty.Mj tI a=1:=rfl;omega
 have:=this xs
 show xs.length+1<=(xs.map (Ty.Mj tI)).sum+1
 omega
theorem OV (xs:List (List Int)):xs.length+1<=dS.Mj xs/\ ∀r∈xs,r.length+1<=dS.Mj xs:=by
 have h1: ∀l:List (List Int),l.length<=(l.map (Ty.Mj tL)).sum/\ ∀r∈l,r.length+1<=(l.map (Ty.Mj tL)).sum:=by
  intro l
  induction l with
  |nil=>simp
  |cons a l ih=>
   have ha:=qe a
   simp only [Ce,List.sum_cons,Aw]
   refine ⟨by omega,λr hr=>?_⟩
   cases Be.1 hr with
   |inl e=>subst e;omega
   |inr e=>have:=ih.2 r e;omega
 have h2:=h1 xs
 refine ⟨?_,λr hr=>?_⟩
 ·show xs.length+1<=(xs.map (Ty.Mj tL)).sum+1
  omega
 ·show r.length+1<=(xs.map (Ty.Mj tL)).sum+1
  have:=h2.2 r hr
  omega
theorem r9 (t:List Int) (h:tL.Mj t<=1048576):short t:=by
 have h1:=qe t
 unfold short;omega
theorem wL (t:List (List Int)) (h:dS.Mj t<=1048576):Hj t:=by
 have h2:=OV t
 refine ⟨by omega,λr hr=>?_⟩
 have:=h2.2 r hr;unfold short;omega
theorem ZV (t:TT) (h:Ld.Mj t<=1048576):Om t:=by
 have h':tL.Mj t.1+(dS.Mj t.2.1+(tL.Mj t.2.2.1+0))<=1048576:=h
 exact ⟨r9 _ (by omega),wL _ (by omega),r9 _ (by omega)⟩
theorem ZU (p:PP) (h:Ga.Mj p<=1048576):Ek p:=by
 have h':1+(Ty.Mj .str p.2.1+(dS.Mj p.2.2.1+0))<=1048576:=h
 have h1:p.2.1.size<=Ty.Mj .str p.2.1:=by simp [Ty.Mj]
 exact ⟨by omega,wL _ (by omega)⟩
theorem yx {H:Type} {enc:TypeId×Value->H} {W:World} {base:Nat} {t:TypeId} {τ:Ty} {v:Value} {d:DataW H} {p:List MemPlace} (ht:nD.ty t=some τ) (hs:τ.Aq=true)
  (ho:Value.okWide Tryz.prog W .any base t v) (h:DataW.Trod enc Tryz.prog W 0 (λ_=>true) true t v d p): ∃x:τ.den,Cw W (λ_=>False) τ v x/\τ.Mj x<=Rows.uptoBulk d:=by
 obtain ⟨fuel,hf⟩:=h
 obtain ⟨x,hc,hb⟩:=xr SD (Abv H) fuel t τ _ d p ht hf
 obtain ⟨fs,hu,_⟩:=SD.fields t τ ht hs
 obtain ⟨cs,rfl,_⟩:=okWide_struct hu ho
 exact ⟨x,⟨_,hc,by simp [Cf,hs,Value.cells]⟩,hb⟩
theorem LM {H:Type} {enc:TypeId×Value->H} {W:World} {t:TypeId} {τ:Ty} {v:Value} {d:DataW H} {p:List MemPlace} (ht:nD.ty t=some τ) (hs:τ.Aq=false)
  (ho:v.cells= #[v]) (h:DataW.Trod enc Tryz.prog W 0 (λ_=>true) true t v d p): ∃x:τ.den,Cw W (λ_=>False) τ v x/\τ.Mj x<=Rows.uptoBulk d:=by
 obtain ⟨fuel,hf⟩:=h
 rw [ho] at hf
 obtain ⟨x,hc,hb⟩:=xr SD (Abv H) fuel t τ _ d p ht hf
 exact ⟨x,⟨_,hc,by simp [Cf,hs]⟩,hb⟩
theorem SH {H:Type} {enc:TypeId×Value->H} {W:World} {base:Nat} {t:TypeId} {k:IntKind} {v:Value} {d:DataW H} {p:List MemPlace} (ht:nD.ty t=some (.int k)) (hu:Program.underlying Tryz.prog t=some (.int k))
  (ho:Value.okWide Tryz.prog W .any base t v) (h:DataW.Trod enc Tryz.prog W 0 (λ_=>true) true t v d p): ∃x:Int,Cw W (λ_=>False) (.int k) v x/\Ty.Mj (.int k) x<=Rows.uptoBulk d:=by
 obtain ⟨n,rfl⟩:=okWide_int hu ho
 exact LM (τ:= .int k) ht rfl rfl h
theorem pe {H:Type} {enc:TypeId×Value->H} {W:World} {base:Nat} {t te:TypeId} {e:Ty} {v:Value} {d:DataW H} {p:List MemPlace} (ht:nD.ty t=some (.slice e)) (hu:Program.underlying Tryz.prog t=some (.slice te))
  (ho:Value.okWide Tryz.prog W .any base t v) (h:DataW.Trod enc Tryz.prog W 0 (λ_=>true) true t v d p): ∃x:List e.den,Cw W (λ_=>False) (.slice e) v x/\Ty.Mj (.slice e) x<=Rows.uptoBulk d:=by
 obtain ⟨a,b,c,rfl⟩:=okWide_slice hu ho
 exact LM (τ:= .slice e) ht rfl rfl h
theorem Aeo {W:World} {A:Nat->Prop} {v:Value} {b:Bool} (hr:Cw W A .bool v b):v= .bool b:=by
 obtain ⟨cs,hc,rfl⟩:=hr
 have hc:cs= [.bool b]:=hc
 subst hc
 rfl
end Go.Proofs.YtfgfigkbgecfnaaGreat
