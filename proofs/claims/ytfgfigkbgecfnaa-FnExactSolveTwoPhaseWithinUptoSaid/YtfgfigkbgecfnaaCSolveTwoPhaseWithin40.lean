/-
  Part 41 of the proof that the statement FnExactSolveTwoPhaseWithin holds.
-/
import Derived.Test.YtfgfigkbgecfnaaCSolveTwoPhaseWithin39
namespace Go.Proofs.Ytfgfigkbgecfnaa
open Go.ChangeShapes Go.WideShapes Go.ChangeAt Go.RowKit
set_option maxRecDepth 100000
theorem own:ownKnob Try.prog.godebug=none:=by kernel_rfl
theorem laidOut:laidOutB Try.prog=true:=by kernel_rfl
theorem xL (xs:List Int):xs.length+1<=tL.Sf xs:=by
 have: ∀l:List Int,l.length<=(l.map (Ty.Sf tI)).sum:=by
  intro l
  induction l with
  |nil=>simp
  |cons a l ih=>simp only [Cb,List.sum_cons,Aw];have:Ty.Sf tI a=1:=rfl;omega
 have:=this xs;show xs.length+1<=(xs.map (Ty.Sf tI)).sum+1;omega
theorem MA (xs:List (List Int)):xs.length+1<=kh.Sf xs/\ ∀r∈xs,r.length+1<=kh.Sf xs:=by
 have h1: ∀l:List (List Int),l.length<=(l.map (Ty.Sf tL)).sum/\ ∀r∈l,r.length+1<=(l.map (Ty.Sf tL)).sum:=by
  intro l
  induction l with
  |nil=>simp
  |cons a l ih=>
   have ha:=xL a;simp only [Cb,List.sum_cons,Aw];refine ⟨by omega,λr hr=>?_⟩
   cases Bd.1 hr with
   |inl e=>subst e;omega
   |inr e=>have:=ih.2 r e;omega
 have h2:=h1 xs;refine ⟨?_,λr hr=>?_⟩
 ·show xs.length+1<=(xs.map (Ty.Sf tL)).sum+1;omega
 ·show r.length+1<=(xs.map (Ty.Sf tL)).sum+1;have:=h2.2 r hr;omega
theorem yR (t:List Int) (h:tL.Sf t<=1048576):short t:=by
 have h1:=xL t;unfold short;omega
theorem PR (t:List (List Int)) (h:kh.Sf t<=1048576):Kw t:=by
 have h2:=MA t;refine ⟨by omega,λr hr=>?_⟩;have:=h2.2 r hr;unfold short;omega
theorem WX (p:PP) (h:Gi.Sf p<=1048576):Fo p:=by
 have h':1+(Ty.Sf .str p.2.1+(kh.Sf p.2.2.1+0))<=1048576:=h
 have h1:p.2.1.size<=Ty.Sf .str p.2.1:=by simp [Ty.Sf]
 exact ⟨by omega,PR _ (by omega)⟩
theorem x9 {H:Type} {enc:TypeId×Value->H} {W:World} {base:Nat} {t:TypeId} {τ:Ty} {v:Value} {d:DataW H} {p:List MemPlace} (ht:oM.ty t=some τ) (hs:τ.Ar=true)
  (ho:Value.okWide Try.prog W .any base t v) (h:DataW.Trod enc Try.prog W 0 (λ_=>true) true t v d p): ∃x:τ.den,Dd W (λ_=>False) τ v x/\τ.Sf x<=Rows.uptoBulk d:=by
 obtain ⟨fuel,hf⟩:=h;obtain ⟨x,hc,hb⟩:=w7 PA (ZR H) fuel t τ _ d p ht hf;obtain ⟨fs,hu,_⟩:=PA.fields t τ ht hs;obtain ⟨cs,rfl,_⟩:=okWide_struct hu ho;exact ⟨x,⟨_,hc,by simp [Cj,hs,Value.cells]⟩,hb⟩
theorem IW {H:Type} {enc:TypeId×Value->H} {W:World} {t:TypeId} {τ:Ty} {v:Value} {d:DataW H} {p:List MemPlace} (ht:oM.ty t=some τ) (hs:τ.Ar=false)
  (ho:v.cells= #[v]) (h:DataW.Trod enc Try.prog W 0 (λ_=>true) true t v d p): ∃x:τ.den,Dd W (λ_=>False) τ v x/\τ.Sf x<=Rows.uptoBulk d:=by
 obtain ⟨fuel,hf⟩:=h;rw [ho] at hf;obtain ⟨x,hc,hb⟩:=w7 PA (ZR H) fuel t τ _ d p ht hf;exact ⟨x,⟨_,hc,by simp [Cj,hs]⟩,hb⟩
theorem PF {H:Type} {enc:TypeId×Value->H} {W:World} {base:Nat} {t:TypeId} {k:IntKind} {v:Value} {d:DataW H} {p:List MemPlace} (ht:oM.ty t=some (.int k)) (hu:Program.underlying Try.prog t=some (.int k))
  (ho:Value.okWide Try.prog W .any base t v) (h:DataW.Trod enc Try.prog W 0 (λ_=>true) true t v d p): ∃x:Int,Dd W (λ_=>False) (.int k) v x/\Ty.Sf (.int k) x<=Rows.uptoBulk d:=by
 obtain ⟨n,rfl⟩:=okWide_int hu ho;exact IW (τ:= .int k) ht rfl rfl h
theorem oK {H:Type} {enc:TypeId×Value->H} {W:World} {base:Nat} {t te:TypeId} {e:Ty} {v:Value} {d:DataW H} {p:List MemPlace} (ht:oM.ty t=some (.slice e)) (hu:Program.underlying Try.prog t=some (.slice te))
  (ho:Value.okWide Try.prog W .any base t v) (h:DataW.Trod enc Try.prog W 0 (λ_=>true) true t v d p): ∃x:List e.den,Dd W (λ_=>False) (.slice e) v x/\Ty.Sf (.slice e) x<=Rows.uptoBulk d:=by
 obtain ⟨a,b,c,rfl⟩:=okWide_slice hu ho;exact IW (τ:= .slice e) ht rfl rfl h
theorem Acn {W:World} {A:Nat->Prop} {v:Value} {b:Bool} (hr:Dd W A .bool v b):v= .bool b:=by
 obtain ⟨cs,hc,rfl⟩:=hr;have hc:cs= [.bool b]:=hc;subst hc;rfl
end Go.Proofs.Ytfgfigkbgecfnaa
