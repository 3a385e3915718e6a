/-
  Part 41 of the proof that the statement FnExactPhaseOneWord holds.
-/
import Derived.Test.YtjbdmibbbpdnnaaCPhaseOneWord39
namespace Go.Proofs.Ytjbdmibbbpdnnaa
open Go.ChangeShapes Go.WideShapes Go.ChangeAt Go.RowKit
set_option maxRecDepth 100000
theorem own:ownKnob Try.prog.godebug=none:=by kernel_rfl
theorem laidOut:laidOutB Try.prog=true:=by kernel_rfl
theorem pY (xs:List Int):xs.length+1<=tL.Mf xs:=by
 have: ∀l:List Int,l.length<=(l.map (Ty.Mf tI)).sum:=by
  intro l
  induction l with
  |nil=>simp
  |cons a l ih=>simp only [List.map_cons,List.sum_cons,List.length_cons];have:Ty.Mf tI a=1:=rfl;omega
 have:=this xs
 show xs.length+1<=(xs.map (Ty.Mf tI)).sum+1
 omega
theorem xS (xs:List (List Int)):xs.length+1<=iS.Mf xs/\ ∀r∈xs,r.length+1<=iS.Mf xs:=by
 have h1: ∀l:List (List Int),l.length<=(l.map (Ty.Mf tL)).sum/\ ∀r∈l,r.length+1<=(l.map (Ty.Mf tL)).sum:=by
  intro l
  induction l with
  |nil=>simp
  |cons a l ih=>
   have ha:=pY a
   simp only [List.map_cons,List.sum_cons,List.length_cons]
   refine ⟨by omega,λr hr=>?_⟩
   cases List.mem_cons.1 hr with
   |inl e=>subst e;omega
   |inr e=>have:=ih.2 r e;omega
 have h2:=h1 xs
 refine ⟨?_,λr hr=>?_⟩
 ·show xs.length+1<=(xs.map (Ty.Mf tL)).sum+1
  omega
 ·show r.length+1<=(xs.map (Ty.Mf tL)).sum+1
  have:=h2.2 r hr
  omega
theorem r8 (t:List Int) (h:tL.Mf t<=1048576):short t:=by
 have h1:=pY t
 unfold short;omega
theorem zo (t:List (List Int)) (h:iS.Mf t<=1048576):Ge t:=by
 have h2:=xS t
 refine ⟨by omega,λr hr=>?_⟩
 have:=h2.2 r hr;unfold short;omega
theorem EV (p:PP) (h:Ck.Mf p<=1048576):Cp p:=by
 have h':1+(Ty.Mf .str p.2.1+(iS.Mf p.2.2.1+0))<=1048576:=h
 have h1:p.2.1.size<=Ty.Mf .str p.2.1:=by simp [Ty.Mf]
 exact ⟨by omega,zo _ (by omega)⟩
theorem pv {H:Type} {enc:TypeId×Value->H} {W:World} {base:Nat} {t:TypeId} {τ:Ty} {v:Value} {d:DataW H} {p:List MemPlace} (ht:jE.ty t=some τ) (hs:τ.Ac=true)
  (ho:Value.okWide Try.prog W .any base t v) (h:DataW.Trod enc Try.prog W 0 (λ_=>true) true t v d p): ∃x:τ.den,Bd W (λ_=>False) τ v x/\τ.Mf x<=Rows.uptoBulk d:=by
 obtain ⟨fuel,hf⟩:=h
 obtain ⟨x,hc,hb⟩:=oo zc (HI H) fuel t τ _ d p ht hf
 obtain ⟨fs,hu,_⟩:=zc.fields t τ ht hs
 obtain ⟨cs,rfl,_⟩:=okWide_struct hu ho
 exact ⟨x,⟨_,hc,by simp [Ar,hs,Value.cells]⟩,hb⟩
theorem KP {H:Type} {enc:TypeId×Value->H} {W:World} {t:TypeId} {τ:Ty} {v:Value} {d:DataW H} {p:List MemPlace} (ht:jE.ty t=some τ) (hs:τ.Ac=false)
  (ho:v.cells= #[v]) (h:DataW.Trod enc Try.prog W 0 (λ_=>true) true t v d p): ∃x:τ.den,Bd W (λ_=>False) τ v x/\τ.Mf x<=Rows.uptoBulk d:=by
 obtain ⟨fuel,hf⟩:=h
 rw [ho] at hf
 obtain ⟨x,hc,hb⟩:=oo zc (HI H) fuel t τ _ d p ht hf
 exact ⟨x,⟨_,hc,by simp [Ar,hs]⟩,hb⟩
theorem iv {H:Type} {enc:TypeId×Value->H} {W:World} {base:Nat} {t te:TypeId} {e:Ty} {v:Value} {d:DataW H} {p:List MemPlace} (ht:jE.ty t=some (.slice e)) (hu:Program.underlying Try.prog t=some (.slice te))
  (ho:Value.okWide Try.prog W .any base t v) (h:DataW.Trod enc Try.prog W 0 (λ_=>true) true t v d p): ∃x:List e.den,Bd W (λ_=>False) (.slice e) v x/\Ty.Mf (.slice e) x<=Rows.uptoBulk d:=by
 obtain ⟨a,b,c,rfl⟩:=okWide_slice hu ho
 exact KP (τ:= .slice e) ht rfl rfl h
theorem KR {W:World} {A:Nat->Prop} {v:Value} {b:Bool} (hr:Bd W A .bool v b):v= .bool b:=by
 obtain ⟨cs,hc,rfl⟩:=hr
 have hc:cs= [.bool b]:=hc
 subst hc
 rfl
end Go.Proofs.Ytjbdmibbbpdnnaa
