/-
  Part 41 of the proof that the statement FnExactPhaseTwoWord holds.
-/
import Derived.Test.YtebabhocakedaaaCPhaseTwoWord39
namespace Go.Proofs.Ytebabhocakedaaa
open Go.ChangeShapes Go.WideShapes Go.ChangeAt Go.RowKit
set_option maxRecDepth 100000
theorem own:ownKnob Try.prog.godebug=none:=by kernel_rfl
theorem laidOut:laidOutB Try.prog=true:=by kernel_rfl
theorem Ao6 (xs:List Int):xs.length+1≤tL.Kw xs:=by
 have: ∀l:List Int,l.length≤(l.map (Ty.Kw tI)).sum:=by
  intro l
  induction l with
  |nil=>simp
  |cons a l ih=>simp only [List.map_cons,List.sum_cons,List.length_cons];have:Ty.Kw tI a=1:=rfl;omega
 have:=this xs
 show xs.length+1≤(xs.map (Ty.Kw tI)).sum+1
 omega
theorem Awv (xs:List (List Int)):xs.length+1≤tLL.Kw xs∧ ∀r∈xs,r.length+1≤tLL.Kw xs:=by
 have h1: ∀l:List (List Int),l.length≤(l.map (Ty.Kw tL)).sum∧ ∀r∈l,r.length+1≤(l.map (Ty.Kw tL)).sum:=by
  intro l
  induction l with
  |nil=>simp
  |cons a l ih=>
   have ha:=Ao6 a
   simp only [List.map_cons,List.sum_cons,List.length_cons]
   refine ⟨by omega,fun r hr=>?_⟩
   cases List.mem_cons.1 hr with
   |inl e=>subst e;omega
   |inr e=>have:=ih.2 r e;omega
 have h2:=h1 xs
 refine ⟨?_,fun r hr=>?_⟩
 ·show xs.length+1≤(xs.map (Ty.Kw tL)).sum+1
  omega
 ·show r.length+1≤(xs.map (Ty.Kw tL)).sum+1
  have:=h2.2 r hr
  omega
theorem Apk (t:List Int) (h:tL.Kw t≤1048576):short t:=by
 have h1:=Ao6 t
 unfold short;omega
theorem Ayk (t:List (List Int)) (h:tLL.Kw t≤1048576):Fk t:=by
 have h2:=Awv t
 refine ⟨by omega,fun r hr=>?_⟩
 have:=h2.2 r hr;unfold short;omega
theorem Bbp (p:PP) (h:Cq.Kw p≤1048576):Cg p:=by
 have h':1+(Ty.Kw .str p.2.1+(tLL.Kw p.2.2.1+0))≤1048576:=h
 have h1:p.2.1.size≤Ty.Kw .str p.2.1:=by simp [Ty.Kw]
 exact ⟨by omega,Ayk _ (by omega)⟩
theorem Anc {H:Type} {enc:TypeId×Value→H} {W:World} {base:Nat} {t:TypeId} {τ:Ty} {v:Value} {d:DataW H} {p:List MemPlace} (ht:Ane.ty t=some τ) (hs:τ.Ac=true)
  (ho:Value.okWide Try.prog W .any base t v) (h:DataW.Trod enc Try.prog W 0 (fun _=>true) true t v d p): ∃x:τ.den,Bd W (fun _=>False) τ v x∧τ.Kw x≤Rows.uptoBulk d:=by
 obtain ⟨fuel,hf⟩:=h
 obtain ⟨x,hc,hb⟩:=Amh Ay8 (Bcw H) fuel t τ _ d p ht hf
 obtain ⟨fs,hu,_⟩:=Ay8.fields t τ ht hs
 obtain ⟨cs,rfl,_⟩:=okWide_struct hu ho
 exact ⟨x,⟨_,hc,by simp [Ar,hs,Value.cells]⟩,hb⟩
theorem Be9 {H:Type} {enc:TypeId×Value→H} {W:World} {t:TypeId} {τ:Ty} {v:Value} {d:DataW H} {p:List MemPlace} (ht:Ane.ty t=some τ) (hs:τ.Ac=false)
  (ho:v.cells= #[v]) (h:DataW.Trod enc Try.prog W 0 (fun _=>true) true t v d p): ∃x:τ.den,Bd W (fun _=>False) τ v x∧τ.Kw x≤Rows.uptoBulk d:=by
 obtain ⟨fuel,hf⟩:=h
 rw [ho] at hf
 obtain ⟨x,hc,hb⟩:=Amh Ay8 (Bcw H) fuel t τ _ d p ht hf
 exact ⟨x,⟨_,hc,by simp [Ar,hs]⟩,hb⟩
theorem Afq {H:Type} {enc:TypeId×Value→H} {W:World} {base:Nat} {t te:TypeId} {e:Ty} {v:Value} {d:DataW H} {p:List MemPlace} (ht:Ane.ty t=some (.slice e)) (hu:Program.underlying Try.prog t=some (.slice te))
  (ho:Value.okWide Try.prog W .any base t v) (h:DataW.Trod enc Try.prog W 0 (fun _=>true) true t v d p): ∃x:List e.den,Bd W (fun _=>False) (.slice e) v x∧Ty.Kw (.slice e) x≤Rows.uptoBulk d:=by
 obtain ⟨a,b,c,rfl⟩:=okWide_slice hu ho
 exact Be9 (τ:= .slice e) ht rfl rfl h
theorem Beb {W:World} {A:Nat→Prop} {v:Value} {b:Bool} (hr:Bd W A .bool v b):v= .bool b:=by
 obtain ⟨cs,hc,rfl⟩:=hr
 have hc:cs= [.bool b]:=hc
 subst hc
 rfl
end Go.Proofs.Ytebabhocakedaaa
