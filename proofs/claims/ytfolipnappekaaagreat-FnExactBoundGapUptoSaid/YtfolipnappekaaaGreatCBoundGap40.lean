/-
  Part 41 of the proof that the statement FnExactBoundGap holds.
-/
import Derived.Test.YtfolipnappekaaaGreatCBoundGap39
namespace Go.Proofs.YtfolipnappekaaaGreat
open Go.ChangeShapes Go.WideShapes Go.ChangeAt Go.RowKit
set_option maxRecDepth 100000
theorem own:ownKnob Tryz.prog.godebug=none:=by kernel_rfl
theorem laidOut:laidOutB Tryz.prog=true:=by kernel_rfl
theorem kd (xs:List Int):xs.length+1<=tL.Is xs:=by
 have: ∀l:List Int,l.length<=(l.map (Ty.Is tI)).sum:=by
  intro l
  induction l with
  |nil=>simp
  |cons a l ih=>simp only [List.map_cons,List.sum_cons,List.length_cons];have:Ty.Is tI a=1:=rfl;omega
 have:=this xs
 show xs.length+1<=(xs.map (Ty.Is tI)).sum+1
 omega
theorem AX (xs:List (List Int)):xs.length+1<=cF.Is xs/\ ∀r∈xs,r.length+1<=cF.Is xs:=by
 have h1: ∀l:List (List Int),l.length<=(l.map (Ty.Is tL)).sum/\ ∀r∈l,r.length+1<=(l.map (Ty.Is tL)).sum:=by
  intro l
  induction l with
  |nil=>simp
  |cons a l ih=>
   have ha:=kd a
   simp only [List.map_cons,List.sum_cons,List.length_cons]
   refine ⟨by omega,λr hr=>?_⟩
   cases List.mem_cons.1 hr with
   |inl e=>subst e;omega
   |inr e=>have:=ih.2 r e;omega
 have h2:=h1 xs
 refine ⟨?_,λr hr=>?_⟩
 ·show xs.length+1<=(xs.map (Ty.Is tL)).sum+1
  omega
 ·show r.length+1<=(xs.map (Ty.Is tL)).sum+1
  have:=h2.2 r hr
  omega
theorem lj (t:List Int) (h:tL.Is t<=1048576):short t:=by
 have h1:=kd t
 unfold short;omega
theorem pP (t:List (List Int)) (h:cF.Is t<=1048576):Fm t:=by
 have h2:=AX t
 refine ⟨by omega,λr hr=>?_⟩
 have:=h2.2 r hr;unfold short;omega
theorem LF (t:TT) (h:Hp.Is t<=1048576):Kx t:=by
 have h':tL.Is t.1+(cF.Is t.2.1+(tL.Is t.2.2.1+0))<=1048576:=h
 exact ⟨lj _ (by omega),pP _ (by omega),lj _ (by omega)⟩
theorem LD (p:PP) (h:Cu.Is p<=1048576):Cb p:=by
 have h':1+(Ty.Is .str p.2.1+(cF.Is p.2.2.1+0))<=1048576:=h
 have h1:p.2.1.size<=Ty.Is .str p.2.1:=by simp [Ty.Is]
 exact ⟨by omega,pP _ (by omega)⟩
theorem rP {H:Type} {enc:TypeId×Value->H} {W:World} {base:Nat} {t:TypeId} {τ:Ty} {v:Value} {d:DataW H} {p:List MemPlace} (ht:jx.ty t=some τ) (hs:τ.Ab=true)
  (ho:Value.okWide Tryz.prog W .any base t v) (h:DataW.Trod enc Tryz.prog W 0 (λ_=>true) true t v d p): ∃x:τ.den,Bd W (λ_=>False) τ v x/\τ.Is x<=Rows.uptoBulk d:=by
 obtain ⟨fuel,hf⟩:=h
 obtain ⟨x,hc,hb⟩:=qx DZ (NR H) fuel t τ _ d p ht hf
 obtain ⟨fs,hu,_⟩:=DZ.fields t τ ht hs
 obtain ⟨cs,rfl,_⟩:=okWide_struct hu ho
 exact ⟨x,⟨_,hc,by simp [Ar,hs,Value.cells]⟩,hb⟩
theorem RN {H:Type} {enc:TypeId×Value->H} {W:World} {t:TypeId} {τ:Ty} {v:Value} {d:DataW H} {p:List MemPlace} (ht:jx.ty t=some τ) (hs:τ.Ab=false)
  (ho:v.cells= #[v]) (h:DataW.Trod enc Tryz.prog W 0 (λ_=>true) true t v d p): ∃x:τ.den,Bd W (λ_=>False) τ v x/\τ.Is x<=Rows.uptoBulk d:=by
 obtain ⟨fuel,hf⟩:=h
 rw [ho] at hf
 obtain ⟨x,hc,hb⟩:=qx DZ (NR H) fuel t τ _ d p ht hf
 exact ⟨x,⟨_,hc,by simp [Ar,hs]⟩,hb⟩
theorem jv {H:Type} {enc:TypeId×Value->H} {W:World} {base:Nat} {t te:TypeId} {e:Ty} {v:Value} {d:DataW H} {p:List MemPlace} (ht:jx.ty t=some (.slice e)) (hu:Program.underlying Tryz.prog t=some (.slice te))
  (ho:Value.okWide Tryz.prog W .any base t v) (h:DataW.Trod enc Tryz.prog W 0 (λ_=>true) true t v d p): ∃x:List e.den,Bd W (λ_=>False) (.slice e) v x/\Ty.Is (.slice e) x<=Rows.uptoBulk d:=by
 obtain ⟨a,b,c,rfl⟩:=okWide_slice hu ho
 exact RN (τ:= .slice e) ht rfl rfl h
theorem RP {W:World} {A:Nat->Prop} {v:Value} {b:Bool} (hr:Bd W A .bool v b):v= .bool b:=by
 obtain ⟨cs,hc,rfl⟩:=hr
 have hc:cs= [.bool b]:=hc
 subst hc
 rfl
end Go.Proofs.YtfolipnappekaaaGreat
