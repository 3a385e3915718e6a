/-
  Part 38 of the proof that the statement FnCommutatorMacros holds.
-/
import Derived.Test.YtfgfigkbgecfnaaCFCommutatorMacros36
import Derived.ChangeShapes
import Derived.DataReads
import Derived.ChangeOld
namespace Go.Proofs.Ytfgfigkbgecfnaa
open Go.RowKit
def Ty.cO:(τ:Ty)->τ.den->Nat
 | .int _,_=>1
 | .bool,_=>1
 | .str,s=>s.size+1
 | .slice e,xs=>(xs.map e.cO).sum+1
 | .unit,_=>0
 | .pair a r,x=>a.cO x.1+r.cO x.2
 |_,_=>0
def Ty.read:Ty->Bool
 | .int _| .bool| .str| .unit=>true
 | .slice e=>e.read
 | .pair a r=>a.read&&r.read
 |_=>false
def Fits (T:Tab) (P:Program):Ty->Nat->List Field->Prop
 | .unit,_,[]=>True
 | .pair a r,o,f::fs=>f.offset=o/\T.ty f.type=some a/\P.cellsOf f.type=a.size/\Fits T P r (o+a.size) fs
 |_,_,_=>False
structure AE (P:Program) (T:Tab):Prop where
 ty: ∀t τ,T.ty t=some τ->lA P T t τ
 cells: ∀t τ,T.ty t=some τ->P.cellsOf t=τ.size
 fields: ∀t τ,T.ty t=some τ->τ.Ak=true-> ∃fs,P.underlying t=some (.struct fs)/\Fits T P τ 0 fs.toList
 JO: ∀t e,T.ty t=some (.slice e)->0<e.size
 plain: ∀t τ,T.ty t=some τ->τ.read=true
structure AD {H:Type} (β:DataW H->Nat):Prop where
 lit: ∀l,1<=β (.lit l)
 str: ∀bs,bs.length+1<=β (.lit (.string bs))
 nil:1<=β .nil
 slice: ∀es sp,(es.map β).sum+1<=β (.slice es sp)
 agg: ∀ps,(ps.map β).sum<=β (.agg ps)
section
variable {H:Type} {enc:TypeId×Value->H} {P:Program} {T:Tab} {w:World} {β:DataW H->Nat}
theorem trod_int {t:TypeId} {k:IntKind} (hu:P.underlying t=some (.int k)) {fuel:Nat} {cs:List Value} {d:DataW H} {ps:List MemPlace} (h:DataW.trod enc P w 0 (λ_=>true) true (fuel+1) t cs=some (d,ps)):
  ∃n,cs= [.int k n]/\d= .lit (.int k n):=by
 unfold DataW.trod at h
 rw [hu] at h
 split at h
 all_goals first
  |(cases h;done)
  |(rename_i heq;cases heq;done)
  |(rename_i heq _;cases heq;done)
  |skip
 rename_i heq
 cases heq
 split at h
 ·rename_i hc
  obtain ⟨rfl,_⟩:=hc
  injection h with h
  injection h with h1 h2
  exact ⟨_,rfl,h1.symm⟩
 ·cases h
theorem trod_bool {t:TypeId} (hu:P.underlying t=some .bool) {fuel:Nat} {cs:List Value} {d:DataW H} {ps:List MemPlace} (h:DataW.trod enc P w 0 (λ_=>true) true (fuel+1) t cs=some (d,ps)):
  ∃b,cs= [.bool b]/\d= .lit (.bool b):=by
 unfold DataW.trod at h
 rw [hu] at h
 split at h
 all_goals first
  |(rename_i heq;cases heq;done)
  |(rename_i heq _;cases heq;done)
  |skip
 ·injection h with h
  injection h with h1 h2
  exact ⟨_,rfl,h1.symm⟩
 all_goals cases h
theorem EH {t:TypeId} (hu:P.underlying t=some .string) {fuel:Nat} {cs:List Value} {d:DataW H} {ps:List MemPlace} (h:DataW.trod enc P w 0 (λ_=>true) true (fuel+1) t cs=some (d,ps)):
  ∃s:ByteArray,cs= [.string s]/\d= .lit (.string s.data.toList):=by
 unfold DataW.trod at h
 rw [hu] at h
 split at h
 all_goals first
  |(cases h;done)
  |(rename_i heq;cases heq;done)
  |(rename_i heq _;cases heq;done)
  |skip
 split at h
 ·injection h with h
  injection h with h1 h2
  exact ⟨_,rfl,h1.symm⟩
 ·cases h
theorem trod_slice {t te:TypeId} (hu:P.underlying t=some (.slice te)) {fuel:Nat} {cs:List Value} {d:DataW H} {ps:List MemPlace} (h:DataW.trod enc P w 0 (λ_=>true) true (fuel+1) t cs=some (d,ps)):
  (cs= [.slice none 0 0]/\d= .nil)\/ ∃a len cap elems rest,cs= [.slice (some a) len cap]/\len<=cap/\
   (List.range len).mapM (λi=>(w.cells? 0 (a.add (i*P.cellsOf te)) (P.cellsOf te)).bind (DataW.trod enc P w 0 (λ_=>true) true fuel te))=some elems/\d= .slice (elems.map (·.1)) rest:=by
 unfold DataW.trod at h
 rw [hu] at h
 split at h
 all_goals first
  |(cases h;done)
  |(rename_i heq;cases heq;done)
  |(rename_i heq _;cases heq;done)
  |skip
 ·injection h with h
  injection h with h1 h2
  exact .inl ⟨rfl,h1.symm⟩
 ·rename_i heq
  cases heq
  dsimp only at h
  split at h
  ·rename_i a len cap hc
   cases he:(List.range len).mapM (λi=>(w.cells? 0 (a.add (i*P.cellsOf te)) (P.cellsOf te)).bind (DataW.trod enc P w 0 (λ_=>true) true fuel te)) with
   |none=>rw [he] at h;cases h
   |some elems=>
    rw [he] at h
    simp only [Nh,Dw] at h
    obtain ⟨rest,_,h2⟩:=Option.map_eq_some_iff.1 h
    injection h2 with h2 h3
    exact .inr ⟨a,len,cap,elems,_,rfl,hc.2.1,he,h2.symm⟩
  ·cases h
theorem trod_struct {t:TypeId} {fs:Array Field} (hu:P.underlying t=some (.struct fs)) {fuel:Nat} {cs:List Value} {d:DataW H} {ps:List MemPlace} (h:DataW.trod enc P w 0 (λ_=>true) true (fuel+1) t cs=some (d,ps)):
  cs.length=P.cellsOf t/\ ∃xs,(fs.toList.mapM λf=>DataW.trod enc P w 0 (λ_=>true) true fuel f.type ((cs.drop f.offset).take (P.cellsOf f.type)))=some xs/\d= .agg (xs.map (·.1)):=by
 unfold DataW.trod at h
 rw [hu] at h
 split at h
 all_goals first
  |(cases h;done)
  |(rename_i heq;cases heq;done)
  |(rename_i heq _;cases heq;done)
  |skip
 all_goals try (rename_i heq;cases heq)
 all_goals first
  |(split at h
    ·rename_i hc
     obtain ⟨xs,h1,h2⟩:=Option.map_eq_some_iff.1 h
     injection h2 with h2 h3
     exact ⟨hc,xs,h1,h2.symm⟩
    ·cases h)
  |skip
theorem nu: ∀(l m:List Nat),l.length=m.length->(∀(i a b:Nat),l[i]?=some a->m[i]?=some b->a<=b)->l.sum<=m.sum
 | [],[],_,_=>Ao _
 | [],_::_,h,_=>by simp at h
 |_::_,[],h,_=>by simp at h
 |a::l,b::m,h,hp=>by
  have h1:=hp 0 a b rfl rfl
  have h2:=nu l m (by simpa using h) λi a b ha hb=>hp (i+1) a b (by simpa using ha) (by simpa using hb)
  simp only [List.sum_cons]
  omega
theorem fS {fuel:Nat} {cs:List Value}
  (ih: ∀t τ cs d ps,T.ty t=some τ->DataW.trod enc P w 0 (λ_=>true) true fuel t cs=some (d,ps)-> ∃x:τ.den,Cells w (λ_=>False) τ cs x/\τ.cO x<=β d):
  ∀(τ:Ty) (o:Nat) (l:List Field) (xs:List (DataW H×List MemPlace)),Fits T P τ o l->(l.mapM λf=>DataW.trod enc P w 0 (λ_=>true) true fuel f.type ((cs.drop f.offset).take (P.cellsOf f.type)))=some xs->
   cs.length=o+τ.size-> ∃x:τ.den,Cells w (λ_=>False) τ (cs.drop o) x/\τ.cO x<=(xs.map λp=>β p.1).sum
 | .unit,o,[],xs,_,hm,hl=>by
  refine ⟨(),?_,Zr _⟩
  simp only [Cells]
  rw [List.drop_eq_nil_iff]
  simp only [Ty.size] at hl
  omega
 | .pair a r,o,f::fs,xs,hf,hm,hl=>by
  obtain ⟨h1,h2,h3,h4⟩:=hf
  simp only [List.mapM_cons,Option.bind_eq_bind] at hm
  obtain ⟨y,hy,hm⟩:=Option.bind_eq_some_iff.1 hm
  obtain ⟨ys,hys,hm⟩:=Option.bind_eq_some_iff.1 hm
  injection hm with hm
  subst hm
  rw [h1,h3] at hy
  obtain ⟨x1,c1,b1⟩:=ih _ _ _ y.1 y.2 h2 hy
  simp only [Ty.size] at hl
  obtain ⟨x2,c2,b2⟩:=fS ih r (o+a.size) fs ys h4 hys (by omega)
  refine ⟨(x1,x2),?_,?_⟩
  ·simp only [Cells]
   refine ⟨_,_,?_,c1,c2⟩
   rw [<-List.drop_drop,Ir]
  ·simp only [Ty.cO,Bl,List.sum_cons]
   omega
 | .unit,_,_::_,_,hf,_,_=>by simp [Fits] at hf
 | .pair _ _,_,[],_,hf,_,_=>by simp [Fits] at hf
 | .int _,_,_,_,hf,_,_=>by simp [Fits] at hf
 | .bool,_,_,_,hf,_,_=>by simp [Fits] at hf
 | .str,_,_,_,hf,_,_=>by simp [Fits] at hf
 | .slice _,_,_,_,hf,_,_=>by simp [Fits] at hf
 | .ptr _,_,_,_,hf,_,_=>by simp [Fits] at hf
 | .oslice _,_,_,_,hf,_,_=>by simp [Fits] at hf
 | .optr _,_,_,_,hf,_,_=>by simp [Fits] at hf
 | .smap _,_,_,_,hf,_,_=>by simp [Fits] at hf
 | .clo _ _,_,_,_,hf,_,_=>by simp [Fits] at hf
theorem wY (R:AE P T) (B:AD β): ∀(fuel:Nat) (t:TypeId) (τ:Ty) (cs:List Value) (d:DataW H) (ps:List MemPlace),T.ty t=some τ->DataW.trod enc P w 0 (λ_=>true) true fuel t cs=some (d,ps)->
  ∃x:τ.den,Cells w (λ_=>False) τ cs x/\τ.cO x<=β d:=by
 intro fuel
 induction fuel with
 |zero=>intro t τ cs d ps _ h;simp [DataW.trod] at h
 |succ fuel ih=>
  intro t τ cs d ps ht h
  have hD:=(R.ty t τ ht).desc
  have hR:=R.plain t τ ht
  cases τ with
  |int k=>
   obtain ⟨n,rfl,rfl⟩:=trod_int hD h
   exact ⟨n,rfl,B.lit _⟩
  |bool=>
   obtain ⟨b,rfl,rfl⟩:=trod_bool hD h
   exact ⟨b,rfl,B.lit _⟩
  |str=>
   obtain ⟨s,rfl,rfl⟩:=EH hD h
   exact ⟨s,rfl,by have:=B.str s.data.toList;rw [Sf] at this;exact this⟩
  |ptr a=>simp [Ty.read] at hR
  |oslice a=>simp [Ty.read] at hR
  |optr a=>simp [Ty.read] at hR
  |smap a=>simp [Ty.read] at hR
  |clo f a=>simp [Ty.read] at hR
  |slice e=>
   obtain ⟨te,hu,he1,NL⟩:=hD
   rcases trod_slice hu h with ⟨rfl,rfl⟩|⟨a,len,cap,elems,rest,rfl,hl,hm,rfl⟩
   ·exact ⟨([]:List e.den),⟨none,0,0,rfl,rfl,Ao _, .inl rfl⟩,B.nil⟩
   ·have OW:=R.cells te e NL
    have BR:=R.JO t e ht
    have hlen:elems.length=len:=by simpa using mapM_some_length hm
    have each: ∀i,i<len-> ∃x:e.den,∃es:List Value,∃q,w.cells? 0 (a.add (i*e.size)) e.size=some es/\elems[i]?=some q/\Cells w (λ_=>False) e es x/\e.cO x<=β q.1:=by
     intro i hi
     have h1:=mapM_some_get hm i i (by simp [hi])
     rw [Ac (by omega:i<elems.length),OW] at h1
     obtain ⟨es,h2,h3⟩:=Option.bind_eq_some_iff.1 h1
     obtain ⟨x,h4,h5⟩:=ih te e es _ _ NL h3
     exact ⟨x,es,_,h2,Ac (by omega),h4,h5⟩
    let X:Nat->e.den:= λi=>if h:i<len then Classical.choose (each i h) else e.zero
    have hX: ∀i,i<len-> ∃es:List Value,∃q,w.cells? 0 (a.add (i*e.size)) e.size=some es/\elems[i]?=some q/\Cells w (λ_=>False) e es (X i)/\e.cO (X i)<=β q.1:=by
     intro i hi
     have:X i=Classical.choose (each i hi):=Gh hi
     rw [this]
     exact Classical.choose_spec (each i hi)
    refine ⟨((List.range len).map X:List e.den),?_,?_⟩
    ·simp only [Cells]
     refine ⟨some a,len,cap,rfl,by simp,hl,?_⟩
     by_cases h0:len=0
     ·subst h0;exact .inl rfl
     ·obtain ⟨YQ,q0,gz,_⟩:=hX 0 (by omega)
      have hb:=World.cells?_block gz BR
      obtain ⟨g,o,spot⟩:=a
      have BW:spot=none:=by
       obtain ⟨_,KY,OV⟩:=World.cells?_some gz
       have YR:=OV 0 BR
       have: ∃v,YQ[0]?=some v:=⟨YQ[0],Ac (by omega)⟩
       obtain ⟨v,hv⟩:=this
       rw [hv] at YR
       simpa [Addr.add] using World.cell?_spot YR
      subst BW
      refine .inr ⟨g,o,rfl,by simpa [Addr.add] using hb,λh=>h,λi x hx=>?_⟩
      rw [Et] at hx
      obtain ⟨i',PJ,WB⟩:=Option.map_eq_some_iff.1 hx
      have hi:i<len:=by
       have:=(Ai.1 PJ).1
       simpa using this
      have k9:i'=i:=by
       rw [bP hi] at PJ
       injection PJ with PJ
       exact PJ.symm
      subst k9
      subst WB
      obtain ⟨es,q,hc,_,hC,_⟩:=hX i' hi
      obtain ⟨_,zY,OV⟩:=World.cells?_some hc
      refine ⟨es,zY,λj u hu=>?_,hC⟩
      have hj:j<e.size:=by
       have:=(Ai.1 hu).1
       omega
      have:=OV j hj
      rw [hu] at this
      rw [Addr.add_lit,Addr.add_lit] at this
      exact this
    ·refine Kj ?_ (B.slice _ _)
     simp only [Ty.cO]
     refine Nat.succ_le_succ (nu _ _ (by simp [hlen]) λi b c hb hc=>?_)
     have hi:i<len:=by
      have:=(Ai.1 hb).1
      simpa using this
     obtain ⟨es,q,_,hq,_,hle⟩:=hX i hi
     simp only [Et,bP hi,Ah,Aa,hq] at hb hc
     rw [<-hb,<-hc]
     exact hle
  |unit=>
   obtain ⟨fs,hu,hf⟩:=R.fields t _ ht rfl
   obtain ⟨hl,xs,hm,rfl⟩:=trod_struct hu h
   rw [R.cells t _ ht] at hl
   obtain ⟨x,hc,hb⟩:=fS (β:=β) (λt τ cs d ps=>ih t τ cs d ps) _ 0 fs.toList xs hf hm (by omega)
   exact ⟨x,by simpa using hc,Kj hb (by have:=B.agg (xs.map (·.1));simpa [List.map_map,Function.comp_def] using this)⟩
  |pair a r=>
   obtain ⟨fs,hu,hf⟩:=R.fields t _ ht rfl
   obtain ⟨hl,xs,hm,rfl⟩:=trod_struct hu h
   rw [R.cells t _ ht] at hl
   obtain ⟨x,hc,hb⟩:=fS (β:=β) (λt τ cs d ps=>ih t τ cs d ps) _ 0 fs.toList xs hf hm (by omega)
   exact ⟨x,by simpa using hc,Kj hb (by have:=B.agg (xs.map (·.1));simpa [List.map_map,Function.comp_def] using this)⟩
end
end Go.Proofs.Ytfgfigkbgecfnaa
