/-
  Part 42 of the proof that the statement FnCommutatorMacros holds.
-/
import Derived.Test.YtfgfigkbgecfnaaCFCommutatorMacros40
namespace Go.Proofs.Ytfgfigkbgecfnaa
open Go.ChangeShapes Go.WideShapes Go.ChangeAt Go.RowKit
set_option maxRecDepth 100000
theorem zC {H:Type} {enc:TypeId×Value->H} {P:Program} {w:World} {t:TypeId} (hu:P.underlying t=some (.int .u8)) {fuel:Nat} {cs:List Value} {q:DataW H×List MemPlace} (h:DataW.trod enc P w 0 (λ_=>true) true fuel t cs=some q):
  ∃n,cs= [.int .u8 n]/\0<=n/\n<256:=by
 cases fuel with
 |zero=>simp [DataW.trod] at h
 |succ fuel=>
  obtain ⟨d,ps⟩:=q
  have h0:=h
  obtain ⟨n,rfl,rfl⟩:=trod_int hu h
  refine ⟨n,rfl,?_⟩
  unfold DataW.trod at h0
  rw [hu] at h0
  dsimp only at h0
  split at h0
  ·rename_i hc
   have h2:=hc.2
   simp only [Lit.wf,Ag,Ra] at h2
   have e1:IntKind.min .u8=0:=by decide
   have e2:IntKind.max .u8=255:=by decide
   rw [e1,e2] at h2
   omega
  ·cases h0
theorem wX {H:Type} {enc:TypeId×Value->H} {P:Program} {w:World} {A:Nat->Prop} {t te:TypeId} (hu:P.underlying t=some (.slice te)) (XJ:P.underlying te=some (.int .u8)) (OW:P.cellsOf te=1)
  {v:Value} {cs:List Value} {d:DataW H} {ps:List MemPlace} (h:DataW.Trod enc P w 0 (λ_=>true) true t v d ps) (hv:v.cells.toList=cs) {x:List Int} (hx:Cells w A (.slice (.int .u8)) cs x): ∀y∈x,0<=y/\y<256:=by
 obtain ⟨fuel,hf⟩:=h
 rw [hv] at hf
 cases fuel with
 |zero=>simp [DataW.trod] at hf
 |succ fuel=>
 intro y hy
 simp only [Cells] at hx
 obtain ⟨a,len,cap,rfl,hl,Na,hx⟩:=hx
 rcases trod_slice hu hf with ⟨e,_⟩|⟨a',XY,Aag,elems,rest,e,hle,hm,_⟩
 ·injection e with e _
  injection e with e1 e2 e3
  subst e2
  rw [Tn.1 hl.symm] at hy
  cases hy
 ·injection e with e _
  injection e with e1 e2 e3
  subst e1;subst e2;subst e3
  obtain ⟨i,hi,rfl⟩:=Ko hy
  rcases hx with h0|⟨g,o,e,hb,_,hx⟩
  ·first|omega|(subst h0;cases hi)|(rw [h0] at hl;simp at hl;omega)
  ·injection e with e
   subst e
   obtain ⟨es,cr,Rk,hC⟩:=hx i _ (Ac hi)
   have hlen:elems.length=(List.range len).length:=mapM_some_length hm
   rw [List.length_range] at hlen
   have hil:i<len:=by omega
   have h1:=mapM_some_get hm i i (by rw [bP hil])
   rw [Ac (by omega:i<elems.length),OW] at h1
   obtain ⟨gN,h2,h3⟩:=Option.bind_eq_some_iff.1 h1
   obtain ⟨n,rfl,hn⟩:=zC XJ h3
   obtain ⟨_,_,OV⟩:=World.cells?_some h2
   have h4:=OV 0 (by omega)
   have hC:es= [.int .u8 x[i]]:=hC
   subst hC
   have h5:=Rk 0 _ rfl
   rw [Addr.add_lit,Addr.add_lit] at h4
   simp only [Dt,Dc,Ty.size] at h4 h5
   rw [h5] at h4
   simp only [Bd,Aa,Value.int.injEq,true_and] at h4
   rw [h4]
   exact hn
theorem yg (xs:List Int):xs.length+1<=(Ty.slice (.int .u8)).cO xs:=by
 have h: ∀l:List Int,l.length<=(l.map (Ty.cO (.int .u8))).sum:=by
  intro l
  induction l with
  |nil=>simp
  |cons a l ih=>simp only [Bl,List.sum_cons,Bf];have:Ty.cO (.int .u8) a=1:=rfl;omega
 have:=h xs
 show xs.length+1<=(xs.map (Ty.cO (.int .u8))).sum+1
 omega
theorem rE {H:Type} {enc:TypeId×Value->H} {W:World} {base:Nat} {t te:TypeId} {v:Value} {d:DataW H} {p:List MemPlace} (ht:kU.ty t=some (.slice (.int .u8))) (hu:Program.underlying Try.prog t=some (.slice te))
  (XJ:Program.underlying Try.prog te=some (.int .u8)) (OW:Program.cellsOf Try.prog te=1)
  (ho:Value.okWide Try.prog W .any base t v) (h:DataW.Trod enc Try.prog W 0 (λ_=>true) true t v d p): ∃x:List Int,(Ck W (λ_=>False) (.slice (.int .u8)) v x/\ ∀y∈x,0<=y/\y<256)/\Ty.cO (.slice (.int .u8)) x<=Rows.uptoBulk d:=by
 obtain ⟨a,b,c,rfl⟩:=okWide_slice hu ho
 obtain ⟨x,hx,hb⟩:=DQ (τ:= .slice (.int .u8)) ht rfl rfl h
 refine ⟨x,⟨hx,?_⟩,hb⟩
 obtain ⟨cs,hc,he⟩:=hx
 have:cs= [Value.slice a b c]:=by
  have oY:=hc
  simp only [Cells] at oY
  obtain ⟨a',l',c',rfl,_⟩:=oY
  simp only [Bi,Ty.Ak] at he
  simp at he
  obtain ⟨rfl,rfl,rfl⟩:=he
  rfl
 exact wX hu XJ OW h rfl (this▸hc)
end Go.Proofs.Ytfgfigkbgecfnaa
