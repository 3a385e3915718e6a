/-
  Part 42 of the proof that the statement FnExactSearchDepth holds.
-/
import Derived.Test.YtfolipnappekaaaGreatCSearchDepth40
namespace Go.Proofs.YtfolipnappekaaaGreat
open Go.ChangeShapes Go.WideShapes Go.ChangeAt Go.RowKit
set_option maxRecDepth 100000
theorem own:ownKnob Tryz.prog.godebug=none:=by kernel_rfl
theorem laidOut:laidOutB Tryz.prog=true:=by kernel_rfl
theorem p6 (xs:List Int):xs.length+1<=tL.Lt xs:=by
 have: ∀l:List Int,l.length<=(l.map (Ty.Lt tI)).sum:=by
  intro l
  induction l with
  |nil=>simp
  |cons a l ih=>simp only [Ca,List.sum_cons,Az];have:Ty.Lt tI a=1:=rfl;omega
 have:=this xs
 show xs.length+1<=(xs.map (Ty.Lt tI)).sum+1
 omega
theorem LH (xs:List (List Int)):xs.length+1<=da.Lt xs/\ ∀r∈xs,r.length+1<=da.Lt xs:=by
 have h1: ∀l:List (List Int),l.length<=(l.map (Ty.Lt tL)).sum/\ ∀r∈l,r.length+1<=(l.map (Ty.Lt tL)).sum:=by
  intro l
  induction l with
  |nil=>simp
  |cons a l ih=>
   have ha:=p6 a
   simp only [Ca,List.sum_cons,Az]
   refine ⟨by omega,λr hr=>?_⟩
   cases Be.1 hr with
   |inl e=>subst e;omega
   |inr e=>have:=ih.2 r e;omega
 have h2:=h1 xs
 refine ⟨?_,λr hr=>?_⟩
 ·show xs.length+1<=(xs.map (Ty.Lt tL)).sum+1
  omega
 ·show r.length+1<=(xs.map (Ty.Lt tL)).sum+1
  have:=h2.2 r hr
  omega
theorem pY (t:List Int) (h:tL.Lt t<=1048576):short t:=by
 have h1:=p6 t
 unfold short;omega
theorem uY (t:List (List Int)) (h:da.Lt t<=1048576):Hb t:=by
 have h2:=LH t
 refine ⟨by omega,λr hr=>?_⟩
 have:=h2.2 r hr;unfold short;omega
theorem VV (t:TT) (h:Kt.Lt t<=1048576):Ob t:=by
 have h':tL.Lt t.1+(da.Lt t.2.1+(tL.Lt t.2.2.1+0))<=1048576:=h
 exact ⟨pY _ (by omega),uY _ (by omega),pY _ (by omega)⟩
theorem VU (p:PP) (h:Fl.Lt p<=1048576):Eh p:=by
 have h':1+(Ty.Lt .str p.2.1+(da.Lt p.2.2.1+0))<=1048576:=h
 have h1:p.2.1.size<=Ty.Lt .str p.2.1:=by simp [Ty.Lt]
 exact ⟨by omega,uY _ (by omega)⟩
theorem wZ {H:Type} {enc:TypeId×Value->H} {W:World} {base:Nat} {t:TypeId} {τ:Ty} {v:Value} {d:DataW H} {p:List MemPlace} (ht:mo.ty t=some τ) (hs:τ.Aq=true)
  (ho:Value.okWide Tryz.prog W .any base t v) (h:DataW.Trod enc Tryz.prog W 0 (λ_=>true) true t v d p): ∃x:τ.den,Cs W (λ_=>False) τ v x/\τ.Lt x<=Rows.uptoBulk d:=by
 obtain ⟨fuel,hf⟩:=h
 obtain ⟨x,hc,hb⟩:=vW OJ (YM H) fuel t τ _ d p ht hf
 obtain ⟨fs,hu,_⟩:=OJ.fields t τ ht hs
 obtain ⟨cs,rfl,_⟩:=okWide_struct hu ho
 exact ⟨x,⟨_,hc,by simp [Ci,hs,Value.cells]⟩,hb⟩
theorem HZ {H:Type} {enc:TypeId×Value->H} {W:World} {t:TypeId} {τ:Ty} {v:Value} {d:DataW H} {p:List MemPlace} (ht:mo.ty t=some τ) (hs:τ.Aq=false)
  (ho:v.cells= #[v]) (h:DataW.Trod enc Tryz.prog W 0 (λ_=>true) true t v d p): ∃x:τ.den,Cs W (λ_=>False) τ v x/\τ.Lt x<=Rows.uptoBulk d:=by
 obtain ⟨fuel,hf⟩:=h
 rw [ho] at hf
 obtain ⟨x,hc,hb⟩:=vW OJ (YM H) fuel t τ _ d p ht hf
 exact ⟨x,⟨_,hc,by simp [Ci,hs]⟩,hb⟩
theorem OP {H:Type} {enc:TypeId×Value->H} {W:World} {base:Nat} {t:TypeId} {k:IntKind} {v:Value} {d:DataW H} {p:List MemPlace} (ht:mo.ty t=some (.int k)) (hu:Program.underlying Tryz.prog t=some (.int k))
  (ho:Value.okWide Tryz.prog W .any base t v) (h:DataW.Trod enc Tryz.prog W 0 (λ_=>true) true t v d p): ∃x:Int,Cs W (λ_=>False) (.int k) v x/\Ty.Lt (.int k) x<=Rows.uptoBulk d:=by
 obtain ⟨n,rfl⟩:=okWide_int hu ho
 exact HZ (τ:= .int k) ht rfl rfl h
theorem o3 {H:Type} {enc:TypeId×Value->H} {W:World} {base:Nat} {t te:TypeId} {e:Ty} {v:Value} {d:DataW H} {p:List MemPlace} (ht:mo.ty t=some (.slice e)) (hu:Program.underlying Tryz.prog t=some (.slice te))
  (ho:Value.okWide Tryz.prog W .any base t v) (h:DataW.Trod enc Tryz.prog W 0 (λ_=>true) true t v d p): ∃x:List e.den,Cs W (λ_=>False) (.slice e) v x/\Ty.Lt (.slice e) x<=Rows.uptoBulk d:=by
 obtain ⟨a,b,c,rfl⟩:=okWide_slice hu ho
 exact HZ (τ:= .slice e) ht rfl rfl h
theorem Abf {W:World} {A:Nat->Prop} {v:Value} {b:Bool} (hr:Cs W A .bool v b):v= .bool b:=by
 obtain ⟨cs,hc,rfl⟩:=hr
 have hc:cs= [.bool b]:=hc
 subst hc
 rfl
end Go.Proofs.YtfolipnappekaaaGreat
