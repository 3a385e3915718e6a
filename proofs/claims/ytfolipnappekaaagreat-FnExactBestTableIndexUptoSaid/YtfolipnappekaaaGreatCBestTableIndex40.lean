/-
  Part 41 of the proof that the statement FnExactBestTableIndex holds.
-/
import Derived.Test.YtfolipnappekaaaGreatCBestTableIndex39
namespace Go.Proofs.YtfolipnappekaaaGreat
open Go.ChangeShapes Go.WideShapes Go.ChangeAt Go.RowKit
set_option maxRecDepth 100000
theorem own:ownKnob Tryz.prog.godebug=none:=by kernel_rfl
theorem laidOut:laidOutB Tryz.prog=true:=by kernel_rfl
theorem jo (xs:List Int):xs.length+1<=tL.Hz xs:=by
 have: ∀l:List Int,l.length<=(l.map (Ty.Hz tI)).sum:=by
  intro l
  induction l with
  |nil=>simp
  |cons a l ih=>simp only [List.map_cons,List.sum_cons,List.length_cons];have:Ty.Hz tI a=1:=rfl;omega
 have:=this xs
 show xs.length+1<=(xs.map (Ty.Hz tI)).sum+1
 omega
theorem yY (xs:List (List Int)):xs.length+1<=e8.Hz xs/\ ∀r∈xs,r.length+1<=e8.Hz xs:=by
 have h1: ∀l:List (List Int),l.length<=(l.map (Ty.Hz tL)).sum/\ ∀r∈l,r.length+1<=(l.map (Ty.Hz tL)).sum:=by
  intro l
  induction l with
  |nil=>simp
  |cons a l ih=>
   have ha:=jo a
   simp only [List.map_cons,List.sum_cons,List.length_cons]
   refine ⟨by omega,λr hr=>?_⟩
   cases List.mem_cons.1 hr with
   |inl e=>subst e;omega
   |inr e=>have:=ih.2 r e;omega
 have h2:=h1 xs
 refine ⟨?_,λr hr=>?_⟩
 ·show xs.length+1<=(xs.map (Ty.Hz tL)).sum+1
  omega
 ·show r.length+1<=(xs.map (Ty.Hz tL)).sum+1
  have:=h2.2 r hr
  omega
theorem ki (t:List Int) (h:tL.Hz t<=1048576):short t:=by
 have h1:=jo t
 unfold short;omega
theorem oz (t:List (List Int)) (h:e8.Hz t<=1048576):Ev t:=by
 have h2:=yY t
 refine ⟨by omega,λr hr=>?_⟩
 have:=h2.2 r hr;unfold short;omega
theorem HF (t:TT) (h:Gy.Hz t<=1048576):Kf t:=by
 have h':tL.Hz t.1+(e8.Hz t.2.1+(tL.Hz t.2.2.1+0))<=1048576:=h
 exact ⟨ki _ (by omega),oz _ (by omega),ki _ (by omega)⟩
theorem HE (p:PP) (h:Dc.Hz p<=1048576):Cl p:=by
 have h':1+(Ty.Hz .str p.2.1+(e8.Hz p.2.2.1+0))<=1048576:=h
 have h1:p.2.1.size<=Ty.Hz .str p.2.1:=by simp [Ty.Hz]
 exact ⟨by omega,oz _ (by omega)⟩
theorem qk {H:Type} {enc:TypeId×Value->H} {W:World} {base:Nat} {t:TypeId} {τ:Ty} {v:Value} {d:DataW H} {p:List MemPlace} (ht:iK.ty t=some τ) (hs:τ.Ab=true)
  (ho:Value.okWide Tryz.prog W .any base t v) (h:DataW.Trod enc Tryz.prog W 0 (λ_=>true) true t v d p): ∃x:τ.den,Bb W (λ_=>False) τ v x/\τ.Hz x<=Rows.uptoBulk d:=by
 obtain ⟨fuel,hf⟩:=h
 obtain ⟨x,hc,hb⟩:=pc AR (JL H) fuel t τ _ d p ht hf
 obtain ⟨fs,hu,_⟩:=AR.fields t τ ht hs
 obtain ⟨cs,rfl,_⟩:=okWide_struct hu ho
 exact ⟨x,⟨_,hc,by simp [Ar,hs,Value.cells]⟩,hb⟩
theorem MR {H:Type} {enc:TypeId×Value->H} {W:World} {t:TypeId} {τ:Ty} {v:Value} {d:DataW H} {p:List MemPlace} (ht:iK.ty t=some τ) (hs:τ.Ab=false)
  (ho:v.cells= #[v]) (h:DataW.Trod enc Tryz.prog W 0 (λ_=>true) true t v d p): ∃x:τ.den,Bb W (λ_=>False) τ v x/\τ.Hz x<=Rows.uptoBulk d:=by
 obtain ⟨fuel,hf⟩:=h
 rw [ho] at hf
 obtain ⟨x,hc,hb⟩:=pc AR (JL H) fuel t τ _ d p ht hf
 exact ⟨x,⟨_,hc,by simp [Ar,hs]⟩,hb⟩
theorem iI {H:Type} {enc:TypeId×Value->H} {W:World} {base:Nat} {t te:TypeId} {e:Ty} {v:Value} {d:DataW H} {p:List MemPlace} (ht:iK.ty t=some (.slice e)) (hu:Program.underlying Tryz.prog t=some (.slice te))
  (ho:Value.okWide Tryz.prog W .any base t v) (h:DataW.Trod enc Tryz.prog W 0 (λ_=>true) true t v d p): ∃x:List e.den,Bb W (λ_=>False) (.slice e) v x/\Ty.Hz (.slice e) x<=Rows.uptoBulk d:=by
 obtain ⟨a,b,c,rfl⟩:=okWide_slice hu ho
 exact MR (τ:= .slice e) ht rfl rfl h
theorem MT {W:World} {A:Nat->Prop} {v:Value} {b:Bool} (hr:Bb W A .bool v b):v= .bool b:=by
 obtain ⟨cs,hc,rfl⟩:=hr
 have hc:cs= [.bool b]:=hc
 subst hc
 rfl
end Go.Proofs.YtfolipnappekaaaGreat
