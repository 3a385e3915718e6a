/-
  Part 39 of the proof that the statement FnExactSolveTwoPhaseWithin holds.
-/
import Derived.Test.YtfgfigkbgecfnaaCSolveTwoPhaseWithin37
import Derived.ChangeShapes
import Derived.DataReads
import Derived.ChangeOld
namespace Go.Proofs.Ytfgfigkbgecfnaa
open Go.RowKit
def Ty.Sf:(τ:Ty)->τ.den->Nat
 | .int _,_=>1
 | .bool,_=>1
 | .str,s=>s.size+1
 | .slice e,xs=>(xs.map e.Sf).sum+1
 | .unit,_=>0
 | .pair a r,x=>a.Sf x.1+r.Sf x.2
 |_,_=>0
def Ty.read:Ty->Bool
 | .int _| .bool| .str| .unit=>true
 | .slice e=>e.read
 | .pair a r=>a.read&&r.read
 |_=>false
def Fits (T:Tab) (P:Program):Ty->Nat->List Field->Prop
 | .unit,_,[]=>True
 | .pair a r,o,f::fs=>f.offset=o/\T.ty f.type=some a/\P.cellsOf f.type=a.size/\Fits T P r (o+a.size) fs
 |_,_,_=>False
structure ZE (P:Program) (T:Tab):Prop where
 ty: ∀t τ,T.ty t=some τ->pk P T t τ
 cells: ∀t τ,T.ty t=some τ->P.cellsOf t=τ.size
 fields: ∀t τ,T.ty t=some τ->τ.Ar=true-> ∃fs,P.underlying t=some (.struct fs)/\Fits T P τ 0 fs.toList
 Aj9: ∀t e,T.ty t=some (.slice e)->0<e.size
 plain: ∀t τ,T.ty t=some τ->τ.read=true
structure ZB {H:Type} (β:DataW H->Nat):Prop where
 lit: ∀l,1<=β (.lit l)
 str: ∀bs,bs.length+1<=β (.lit (.string bs))
 nil:1<=β .nil
 slice: ∀es sp,(es.map β).sum+1<=β (.slice es sp)
 agg: ∀ps,(ps.map β).sum<=β (.agg ps)
section
variable {H:Type} {enc:TypeId×Value->H} {P:Program} {T:Tab} {w:World} {β:DataW H->Nat}
theorem trod_int {t:TypeId} {k:IntKind} (hu:P.underlying t=some (.int k)) {fuel:Nat} {cs:List Value} {d:DataW H} {ps:List MemPlace} (h:DataW.trod enc P w 0 (λ_=>true) true (fuel+1) t cs=some (d,ps)):
  ∃n,cs= [.int k n]/\d= .lit (.int k n):=by
 unfold DataW.trod at h;rw [hu] at h;split at h
 all_goals first
  |(cases h;done)
  |(rename_i heq;cases heq;done)
  |(rename_i heq _;cases heq;done)
  |skip
 rename_i heq;cases heq;split at h
 ·rename_i hc;obtain ⟨rfl,_⟩:=hc
  injection h with h
  injection h with h1 h2
  exact ⟨_,rfl,h1.symm⟩
 ·cases h
theorem trod_bool {t:TypeId} (hu:P.underlying t=some .bool) {fuel:Nat} {cs:List Value} {d:DataW H} {ps:List MemPlace} (h:DataW.trod enc P w 0 (λ_=>true) true (fuel+1) t cs=some (d,ps)):
  ∃b,cs= [.bool b]/\d= .lit (.bool b):=by
 unfold DataW.trod at h;rw [hu] at h;split at h
 all_goals first
  |(rename_i heq;cases heq;done)
  |(rename_i heq _;cases heq;done)
  |skip
 ·injection h with h
  injection h with h1 h2
  exact ⟨_,rfl,h1.symm⟩
 all_goals cases h
theorem Adl {t:TypeId} (hu:P.underlying t=some .string) {fuel:Nat} {cs:List Value} {d:DataW H} {ps:List MemPlace} (h:DataW.trod enc P w 0 (λ_=>true) true (fuel+1) t cs=some (d,ps)):
  ∃s:ByteArray,cs= [.string s]/\d= .lit (.string s.data.toList):=by
 unfold DataW.trod at h;rw [hu] at h;split at h
 all_goals first
  |(cases h;done)
  |(rename_i heq;cases heq;done)
  |(rename_i heq _;cases heq;done)
  |skip
 split at h
 ·injection h with h
  injection h with h1 h2
  exact ⟨_,rfl,h1.symm⟩
 ·cases h
theorem trod_slice {t te:TypeId} (hu:P.underlying t=some (.slice te)) {fuel:Nat} {cs:List Value} {d:DataW H} {ps:List MemPlace} (h:DataW.trod enc P w 0 (λ_=>true) true (fuel+1) t cs=some (d,ps)):
  (cs= [.slice none 0 0]/\d= .nil)\/ ∃a len cap elems rest,cs= [.slice (some a) len cap]/\len<=cap/\
   (List.range len).mapM (λi=>(w.cells? 0 (a.add (i*P.cellsOf te)) (P.cellsOf te)).bind (DataW.trod enc P w 0 (λ_=>true) true fuel te))=some elems/\d= .slice (elems.map (·.1)) rest:=by
 unfold DataW.trod at h;rw [hu] at h;split at h
 all_goals first
  |(cases h;done)
  |(rename_i heq;cases heq;done)
  |(rename_i heq _;cases heq;done)
  |skip
 ·injection h with h
  injection h with h1 h2
  exact .inl ⟨rfl,h1.symm⟩
 ·rename_i heq;cases heq;dsimp only at h;split at h
  ·rename_i a len cap hc
   cases he:(List.range len).mapM (λi=>(w.cells? 0 (a.add (i*P.cellsOf te)) (P.cellsOf te)).bind (DataW.trod enc P w 0 (λ_=>true) true fuel te)) with
   |none=>rw [he] at h;cases h
   |some elems=>
    rw [he] at h;simp only [Oz,Ew] at h;obtain ⟨rest,_,h2⟩:=Option.map_eq_some_iff.1 h
    injection h2 with h2 h3
    exact .inr ⟨a,len,cap,elems,_,rfl,hc.2.1,he,h2.symm⟩
  ·cases h
theorem trod_struct {t:TypeId} {fs:Array Field} (hu:P.underlying t=some (.struct fs)) {fuel:Nat} {cs:List Value} {d:DataW H} {ps:List MemPlace} (h:DataW.trod enc P w 0 (λ_=>true) true (fuel+1) t cs=some (d,ps)):
  cs.length=P.cellsOf t/\ ∃xs,(fs.toList.mapM λf=>DataW.trod enc P w 0 (λ_=>true) true fuel f.type ((cs.drop f.offset).take (P.cellsOf f.type)))=some xs/\d= .agg (xs.map (·.1)):=by
 unfold DataW.trod at h;rw [hu] at h;split at h
 all_goals first
  |(cases h;done)
  |(rename_i heq;cases heq;done)
  |(rename_i heq _;cases heq;done)
  |skip
 all_goals try (rename_i heq;cases heq)
 all_goals first
  |(split at h
    ·rename_i hc;obtain ⟨xs,h1,h2⟩:=Option.map_eq_some_iff.1 h
     injection h2 with h2 h3
     exact ⟨hc,xs,h1,h2.symm⟩
    ·cases h)
  |skip
theorem vP: ∀(l m:List Nat),l.length=m.length->(∀(i a b:Nat),l[i]?=some a->m[i]?=some b->a<=b)->l.sum<=m.sum
 | [],[],_,_=>Ap _
 | [],_::_,h,_=>by simp at h
 |_::_,[],h,_=>by simp at h
 |a::l,b::m,h,hp=>by
  have h1:=hp 0 a b rfl rfl;have h2:=vP l m (by simpa using h) λi a b ha hb=>hp (i+1) a b (by simpa using ha) (by simpa using hb);simp only [List.sum_cons];omega
theorem mC {fuel:Nat} {cs:List Value}
  (ih: ∀t τ cs d ps,T.ty t=some τ->DataW.trod enc P w 0 (λ_=>true) true fuel t cs=some (d,ps)-> ∃x:τ.den,Cells w (λ_=>False) τ cs x/\τ.Sf x<=β d):
  ∀(τ:Ty) (o:Nat) (l:List Field) (xs:List (DataW H×List MemPlace)),Fits T P τ o l->(l.mapM λf=>DataW.trod enc P w 0 (λ_=>true) true fuel f.type ((cs.drop f.offset).take (P.cellsOf f.type)))=some xs->
   cs.length=o+τ.size-> ∃x:τ.den,Cells w (λ_=>False) τ (cs.drop o) x/\τ.Sf x<=(xs.map λp=>β p.1).sum
 | .unit,o,[],xs,_,hm,hl=>by
  refine ⟨(),?_,Iz _⟩;simp only [Cells];rw [List.drop_eq_nil_iff];simp only [Ty.size] at hl;omega
 | .pair a r,o,f::fs,xs,hf,hm,hl=>by
  obtain ⟨h1,h2,h3,h4⟩:=hf;simp only [List.mapM_cons,Option.bind_eq_bind] at hm;obtain ⟨y,hy,hm⟩:=Option.bind_eq_some_iff.1 hm;obtain ⟨ys,hys,hm⟩:=Option.bind_eq_some_iff.1 hm
  injection hm with hm
  subst hm;rw [h1,h3] at hy;obtain ⟨x1,c1,b1⟩:=ih _ _ _ y.1 y.2 h2 hy;simp only [Ty.size] at hl;obtain ⟨x2,c2,b2⟩:=mC ih r (o+a.size) fs ys h4 hys (by omega);refine ⟨(x1,x2),?_,?_⟩
  ·simp only [Cells];refine ⟨_,_,?_,c1,c2⟩;rw [<-List.drop_drop,Ip]
  ·simp only [Ty.Sf,Cb,List.sum_cons];omega
 | .unit,_,_::_,_,hf,_,_=>by simp [Fits] at hf
 | .pair _ _,_,[],_,hf,_,_=>by simp [Fits] at hf
 | .int _,_,_,_,hf,_,_=>by simp [Fits] at hf
 | .bool,_,_,_,hf,_,_=>by simp [Fits] at hf
 | .str,_,_,_,hf,_,_=>by simp [Fits] at hf
 | .slice _,_,_,_,hf,_,_=>by simp [Fits] at hf
 | .ptr _,_,_,_,hf,_,_=>by simp [Fits] at hf
 | .oslice _,_,_,_,hf,_,_=>by simp [Fits] at hf
 | .optr _,_,_,_,hf,_,_=>by simp [Fits] at hf
 | .smap _,_,_,_,hf,_,_=>by simp [Fits] at hf
 | .clo _ _,_,_,_,hf,_,_=>by simp [Fits] at hf
theorem w7 (R:ZE P T) (B:ZB β): ∀(fuel:Nat) (t:TypeId) (τ:Ty) (cs:List Value) (d:DataW H) (ps:List MemPlace),T.ty t=some τ->DataW.trod enc P w 0 (λ_=>true) true fuel t cs=some (d,ps)->
  ∃x:τ.den,Cells w (λ_=>False) τ cs x/\τ.Sf x<=β d:=by
 intro fuel
 induction fuel with
 |zero=>intro t τ cs d ps _ h;simp [DataW.trod] at h
 |succ fuel ih=>
  intro t τ cs d ps ht h;have hD:=(R.ty t τ ht).desc;have hR:=R.plain t τ ht
  cases τ with
  |int k=>
   obtain ⟨n,rfl,rfl⟩:=trod_int hD h;exact ⟨n,rfl,B.lit _⟩
  |bool=>
   obtain ⟨b,rfl,rfl⟩:=trod_bool hD h;exact ⟨b,rfl,B.lit _⟩
  |str=>
   obtain ⟨s,rfl,rfl⟩:=Adl hD h;exact ⟨s,rfl,by have:=B.str s.data.toList;rw [Yf] at this;exact this⟩
  |ptr a=>simp [Ty.read] at hR
  |oslice a=>simp [Ty.read] at hR
  |optr a=>simp [Ty.read] at hR
  |smap a=>simp [Ty.read] at hR
  |clo f a=>simp [Ty.read] at hR
  |slice e=>
   obtain ⟨te,hu,he1,he2⟩:=hD;rcases trod_slice hu h with ⟨rfl,rfl⟩|⟨a,len,cap,elems,rest,rfl,hl,hm,rfl⟩
   ·exact ⟨([]:List e.den),⟨none,0,0,rfl,rfl,Ap _, .inl rfl⟩,B.nil⟩
   ·have hce:=R.cells te e he2;have mH:=R.Aj9 t e ht
    have hlen:elems.length=len:=by simpa using mapM_some_length hm
    have each: ∀i,i<len-> ∃x:e.den,∃es:List Value,∃q,w.cells? 0 (a.add (i*e.size)) e.size=some es/\elems[i]?=some q/\Cells w (λ_=>False) e es x/\e.Sf x<=β q.1:=by
     intro i hi;have h1:=mapM_some_get hm i i (by simp [hi]);rw [Ad (by omega:i<elems.length),hce] at h1;obtain ⟨es,h2,h3⟩:=Option.bind_eq_some_iff.1 h1;obtain ⟨x,h4,h5⟩:=ih te e es _ _ he2 h3;exact ⟨x,es,_,h2,Ad (by omega),h4,h5⟩
    let X:Nat->e.den:= λi=>if h:i<len then Classical.choose (each i h) else e.zero
    have hX: ∀i,i<len-> ∃es:List Value,∃q,w.cells? 0 (a.add (i*e.size)) e.size=some es/\elems[i]?=some q/\Cells w (λ_=>False) e es (X i)/\e.Sf (X i)<=β q.1:=by
     intro i hi;have:X i=Classical.choose (each i hi):=Jj hi;rw [this];exact Classical.choose_spec (each i hi)
    refine ⟨((List.range len).map X:List e.den),?_,?_⟩
    ·simp only [Cells];refine ⟨some a,len,cap,rfl,by simp,hl,?_⟩
     by_cases h0:len=0
     ·subst h0;exact .inl rfl
     ·obtain ⟨es0,q0,mF,_⟩:=hX 0 (by omega);have hb:=World.cells?_block mF mH;obtain ⟨g,o,spot⟩:=a
      have GI:spot=none:=by
       obtain ⟨_,hl0,hcc⟩:=World.cells?_some mF;have h00:=hcc 0 mH
       have: ∃v,es0[0]?=some v:=⟨es0[0],Ad (by omega)⟩
       obtain ⟨v,hv⟩:=this;rw [hv] at h00;simpa [Addr.add] using World.cell?_spot h00
      subst GI;refine .inr ⟨g,o,rfl,by simpa [Addr.add] using hb,λh=>h,λi x hx=>?_⟩;rw [Fa] at hx;obtain ⟨i',hi1,hi2⟩:=Option.map_eq_some_iff.1 hx
      have hi:i<len:=by
       have:=(Ao.1 hi1).1;simpa using this
      have cO:i'=i:=by
       rw [Rz hi] at hi1
       injection hi1 with hi1
       exact hi1.symm
      subst cO;subst hi2;obtain ⟨es,q,hc,_,hC,_⟩:=hX i' hi;obtain ⟨_,GD,hcc⟩:=World.cells?_some hc;refine ⟨es,GD,λj u hu=>?_,hC⟩
      have hj:j<e.size:=by
       have:=(Ao.1 hu).1;omega
      have:=hcc j hj;rw [hu] at this;rw [Addr.add_lit,Addr.add_lit] at this;exact this
    ·refine Gz ?_ (B.slice _ _);simp only [Ty.Sf];refine Nat.succ_le_succ (vP _ _ (by simp [hlen]) λi b c hb hc=>?_)
     have hi:i<len:=by
      have:=(Ao.1 hb).1;simpa using this
     obtain ⟨es,q,_,hq,_,hle⟩:=hX i hi;simp only [Fa,Rz hi,An,Aa,hq] at hb hc;rw [<-hb,<-hc];exact hle
  |unit=>
   obtain ⟨fs,hu,hf⟩:=R.fields t _ ht rfl;obtain ⟨hl,xs,hm,rfl⟩:=trod_struct hu h;rw [R.cells t _ ht] at hl;obtain ⟨x,hc,hb⟩:=mC (β:=β) (λt τ cs d ps=>ih t τ cs d ps) _ 0 fs.toList xs hf hm (by omega);exact ⟨x,by simpa using hc,Gz hb (by have:=B.agg (xs.map (·.1));simpa [List.map_map,Function.comp_def] using this)⟩
  |pair a r=>
   obtain ⟨fs,hu,hf⟩:=R.fields t _ ht rfl;obtain ⟨hl,xs,hm,rfl⟩:=trod_struct hu h;rw [R.cells t _ ht] at hl;obtain ⟨x,hc,hb⟩:=mC (β:=β) (λt τ cs d ps=>ih t τ cs d ps) _ 0 fs.toList xs hf hm (by omega);exact ⟨x,by simpa using hc,Gz hb (by have:=B.agg (xs.map (·.1));simpa [List.map_map,Function.comp_def] using this)⟩
end
end Go.Proofs.Ytfgfigkbgecfnaa
