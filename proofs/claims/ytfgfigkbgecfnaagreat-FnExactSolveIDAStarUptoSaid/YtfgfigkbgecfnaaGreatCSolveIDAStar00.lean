/-
  Part 1 of the proof that the statement FnExactSolveIDAStar holds.
-/
import Derived.Below
import Derived.Laws.OwnMore
import Derived.Orders
import Derived.StillTail
namespace Go.Proofs.YtfgfigkbgecfnaaGreat
open Go.RowKit
theorem Po:type_of% @Array.ext':=@Array.ext'
theorem da:type_of% @Array.getD_eq_getD_getElem?:=@Array.getD_eq_getD_getElem?
theorem Uh:type_of% @Array.getElem?_append_left:=@Array.getElem?_append_left
theorem Nj:type_of% @Array.getElem?_eq_some_iff:=@Array.getElem?_eq_some_iff
theorem Nt:type_of% @Array.length_toList:=@Array.length_toList
theorem Af:type_of% @Bool.and_eq_true:=@Bool.and_eq_true
theorem Dz:type_of% @Bool.and_eq_true_iff:=@Bool.and_eq_true_iff
theorem Jt:type_of% @Bool.eq_false_iff:=@Bool.eq_false_iff
theorem Dj:type_of% @Bool.false_eq_true:=@Bool.false_eq_true
theorem Pq:type_of% @Bool.false_or:=@Bool.false_or
theorem Ir:type_of% @Bool.not_eq_true:=@Bool.not_eq_true
theorem Ei:type_of% @Bool.not_eq_true':=@Bool.not_eq_true'
theorem Kj:type_of% @Bool.or_eq_true:=@Bool.or_eq_true
theorem iT:type_of% @Bool.or_false:=@Bool.or_false
theorem cg:type_of% @Bool.true_and:=@Bool.true_and
theorem Bw:type_of% @Classical.byContradiction:=@Classical.byContradiction
theorem Rj:type_of% @Int.eq_ofNat_of_zero_le:=@Int.eq_ofNat_of_zero_le
theorem Oe:type_of% @Int.le_refl:=@Int.le_refl
theorem Gi:type_of% @Int.natCast_inj:=@Int.natCast_inj
theorem Ai:type_of% @Int.toNat_natCast:=@Int.toNat_natCast
theorem Ie:type_of% @List.all_cons:=@List.all_cons
theorem Bc:type_of% @List.all_eq_true:=@List.all_eq_true
theorem Hq:type_of% @List.any_eq_true:=@List.any_eq_true
theorem Dh:type_of% @List.append_assoc:=@List.append_assoc
theorem Gj:type_of% @List.cons.injEq:=@List.cons.injEq
theorem Mo:type_of% @List.cons_append:=@List.cons_append
theorem Jq:type_of% @List.contains_iff_mem:=@List.contains_iff_mem
theorem Co:type_of% @List.drop_eq_getElem_cons:=@List.drop_eq_getElem_cons
theorem Is:type_of% @List.drop_length:=@List.drop_length
theorem Dp:type_of% @List.drop_zero:=@List.drop_zero
theorem Cn:type_of% @List.eq_nil_of_length_eq_zero:=@List.eq_nil_of_length_eq_zero
theorem Fy:type_of% @List.eq_of_mem_replicate:=@List.eq_of_mem_replicate
theorem dc:type_of% @List.flatMap_cons:=@List.flatMap_cons
theorem Lf:type_of% @List.flatten_cons:=@List.flatten_cons
theorem Nk:type_of% @List.foldl_append:=@List.foldl_append
theorem Hr:type_of% @List.foldl_cons:=@List.foldl_cons
theorem Nu:type_of% @List.getD_cons_succ:=@List.getD_cons_succ
theorem Yj:type_of% @List.getD_cons_zero:=@List.getD_cons_zero
theorem Aj:type_of% @List.getD_eq_getElem?_getD:=@List.getD_eq_getElem?_getD
theorem At:type_of% @List.getElem?_append_left:=@List.getElem?_append_left
theorem As:type_of% @List.getElem?_append_right:=@List.getElem?_append_right
theorem Hf:type_of% @List.getElem?_cons_succ:=@List.getElem?_cons_succ
theorem Ca:type_of% @List.getElem?_cons_zero:=@List.getElem?_cons_zero
theorem Cz:type_of% @List.getElem?_drop:=@List.getElem?_drop
theorem Ac:type_of% @List.getElem?_eq_getElem:=@List.getElem?_eq_getElem
theorem Ec:type_of% @List.getElem?_eq_none:=@List.getElem?_eq_none
theorem An:type_of% @List.getElem?_eq_some_iff:=@List.getElem?_eq_some_iff
theorem Fm:type_of% @List.getElem?_map:=@List.getElem?_map
theorem hZ:type_of% @List.getElem?_range:=@List.getElem?_range
theorem Zy:type_of% @List.getElem?_replicate:=@List.getElem?_replicate
theorem Fo:type_of% @List.getElem?_set:=@List.getElem?_set
theorem Da:type_of% @List.getElem?_take:=@List.getElem?_take
theorem Im:type_of% @List.getElem?_toArray:=@List.getElem?_toArray
theorem iU:type_of% @List.getElem_append_left:=@List.getElem_append_left
theorem bf:type_of% @List.getElem_cons_succ:=@List.getElem_cons_succ
theorem Tp:type_of% @List.getElem_map:=@List.getElem_map
theorem Ak:type_of% @List.getElem_mem:=@List.getElem_mem
theorem Ry:type_of% @List.getElem_of_mem:=@List.getElem_of_mem
theorem j6:type_of% @List.headD_cons:=@List.headD_cons
theorem Ax:type_of% @List.length_append:=@List.length_append
theorem Aw:type_of% @List.length_cons:=@List.length_cons
theorem Dg:type_of% @List.length_eq_one_iff:=@List.length_eq_one_iff
theorem Dl:type_of% @List.length_map:=@List.length_map
theorem Ex:type_of% @List.length_nil:=@List.length_nil
theorem Gg:type_of% @List.length_replicate:=@List.length_replicate
theorem Bj:type_of% @List.length_set:=@List.length_set
theorem Bt:type_of% @List.length_singleton:=@List.length_singleton
theorem Cq:type_of% @List.length_take:=@List.length_take
theorem Kl:type_of% @List.map_append:=@List.map_append
theorem Ev:type_of% @List.map_congr_left:=@List.map_congr_left
theorem Ce:type_of% @List.map_cons:=@List.map_cons
theorem Az:type_of% @List.mem_append:=@List.mem_append
theorem Bd:type_of% @List.mem_append_left:=@List.mem_append_left
theorem Bx:type_of% @List.mem_append_right:=@List.mem_append_right
theorem Be:type_of% @List.mem_cons:=@List.mem_cons
theorem Ar:type_of% @List.mem_cons_of_mem:=@List.mem_cons_of_mem
theorem Jc:type_of% @List.mem_cons_self:=@List.mem_cons_self
theorem Ch:type_of% @List.mem_filter:=@List.mem_filter
theorem Hs:type_of% @List.mem_flatMap:=@List.mem_flatMap
theorem Fq:type_of% @List.mem_flatten:=@List.mem_flatten
theorem Cl:type_of% @List.mem_iff_getElem:=@List.mem_iff_getElem
theorem Bi:type_of% @List.mem_map:=@List.mem_map
theorem Bv:type_of% @List.mem_of_getElem?:=@List.mem_of_getElem?
theorem eC:type_of% @List.mem_of_mem_drop:=@List.mem_of_mem_drop
theorem El:type_of% @List.mem_of_mem_take:=@List.mem_of_mem_take
theorem Eo:type_of% @List.mem_range:=@List.mem_range
theorem Ad:type_of% @List.mem_singleton:=@List.mem_singleton
theorem j7:type_of% @List.nil_append:=@List.nil_append
theorem Cv:type_of% @List.nodup_append:=@List.nodup_append
theorem Cd:type_of% @List.nodup_cons:=@List.nodup_cons
theorem Nl:type_of% @List.nodup_nil:=@List.nodup_nil
theorem Fh:type_of% @List.pairwise_iff_getElem:=@List.pairwise_iff_getElem
theorem j8:type_of% @List.range_succ:=@List.range_succ
theorem Gw:type_of% @List.size_toArray:=@List.size_toArray
theorem Ep:type_of% @List.take_add_one:=@List.take_add_one
theorem Io:type_of% @List.take_append_drop:=@List.take_append_drop
theorem Ap:type_of% @List.take_length:=@List.take_length
theorem bg:type_of% @List.take_of_length_le:=@List.take_of_length_le
theorem Bb:type_of% @List.take_succ_eq_append_getElem:=@List.take_succ_eq_append_getElem
theorem Gv:type_of% @Nat.add_assoc:=@Nat.add_assoc
theorem Df:type_of% @Nat.add_mul:=@Nat.add_mul
theorem Fk:type_of% @Nat.add_zero:=@Nat.add_zero
theorem Nm:type_of% @Nat.blt_eq:=@Nat.blt_eq
theorem Jr:type_of% @Nat.eq_of_beq_eq_true:=@Nat.eq_of_beq_eq_true
theorem bh:type_of% @Nat.eq_zero_or_pos:=@Nat.eq_zero_or_pos
theorem Ao:type_of% @Nat.le_refl:=@Nat.le_refl
theorem Jd:type_of% @Nat.le_trans:=@Nat.le_trans
theorem Dk:type_of% @Nat.lt_of_lt_of_le:=@Nat.lt_of_lt_of_le
theorem eD:type_of% @Nat.mul_le_mul:=@Nat.mul_le_mul
theorem Ey:type_of% @Nat.mul_le_mul_right:=@Nat.mul_le_mul_right
theorem Gd:type_of% @Nat.mul_one:=@Nat.mul_one
theorem Dq:type_of% @Nat.not_lt_zero:=@Nat.not_lt_zero
theorem Sz:type_of% @Nat.one_mul:=@Nat.one_mul
theorem Bo:type_of% @Nat.zero_add:=@Nat.zero_add
theorem Ip:type_of% @Nat.zero_le:=@Nat.zero_le
theorem Gl:type_of% @Ne.symm:=@Ne.symm
theorem Ft:type_of% @Option.bind_some:=@Option.bind_some
theorem Cc:type_of% @Option.getD_some:=@Option.getD_some
theorem iV:type_of% @Option.isSome_iff_exists:=@Option.isSome_iff_exists
theorem Am:type_of% @Option.map_some:=@Option.map_some
theorem Ui:type_of% @Option.ne_none_iff_exists':=@Option.ne_none_iff_exists'
theorem Ba:type_of% @Option.some.inj:=@Option.some.inj
theorem Aa:type_of% @Option.some.injEq:=@Option.some.injEq
theorem Mf:type_of% @Option.toList_some:=@Option.toList_some
theorem Ae:type_of% @Prod.mk.injEq:=@Prod.mk.injEq
theorem Ow:type_of% @and_true:=@and_true
theorem Nv:type_of% @beq_eq_false_iff_ne:=@beq_eq_false_iff_ne
theorem Xw:type_of% @beq_iff_eq:=@beq_iff_eq
theorem Hl:type_of% @bne_eq_false_iff_eq:=@bne_eq_false_iff_eq
theorem Xx:type_of% @bne_iff_ne:=@bne_iff_ne
theorem Lr:type_of% @congrArg:=@congrArg
theorem Dr:type_of% @decide_eq_false:=@decide_eq_false
theorem Er:type_of% @decide_eq_true:=@decide_eq_true
theorem Nn:type_of% @decide_eq_true_eq:=@decide_eq_true_eq
theorem Je:type_of% @decide_eq_true_iff:=@decide_eq_true_iff
theorem Jf:type_of% @dif_pos:=@dif_pos
theorem Ul:type_of% @if_false:=@if_false
theorem Ag:type_of% @if_neg:=@if_neg
theorem Ab:type_of% @if_pos:=@if_pos
theorem Pv:type_of% @if_true:=@if_true
theorem Gx:type_of% @of_decide_eq_true:=@of_decide_eq_true
inductive Ty where
 |int (k:IntKind)
 |bool
 |str
 |slice (e:Ty)
 |oslice (e:Ty)
 |ptr (a:Ty)
 |optr (a:Ty)
 |smap (v:Ty)
 |clo (f:Nat) (c:Ty)
 |unit
 |pair (a r:Ty)
 deriving DecidableEq
@[reducible] def Ty.den:Ty->Type
 | .int _=>Int
 | .bool=>Bool
 | .str=>ByteArray
 | .slice e=>List e.den
 | .oslice e=>Option (List e.den)
 | .ptr a=>a.den
 | .optr a=>Option a.den
 | .smap v=>ByteArray->Option v.den
 | .clo _ c=>c.den
 | .unit=>Unit
 | .pair a r=>a.den×r.den
def Ty.size:Ty->Nat
 | .unit=>0
 | .pair a r=>a.size+r.size
 |_=>1
def Ty.Aq:Ty->Bool
 | .unit| .pair _ _=>true
 |_=>false
def Ty.flat:Ty->Bool
 | .int _| .bool| .str| .unit=>true
 | .pair a r=>a.flat&&r.flat
 |_=>false
def Ue:Value->Option ByteArray
 | .string s=>some s
 |_=>none
def Rr:List MapEntry->ByteArray->Option Value
 | [],_=>none
 |e::r,s=>if Ue e.key=some s then some e.val else Rr r s
def BS (f:Nat) (us:List Value):Value:=if f<1000000000 then .func (.func f) #[] us.toArray else .func (.func (f-1000000000)) us.toArray #[]
theorem jg {f:Nat} {us:List Value} (h:f<1000000000):BS f us= .func (.func f) #[] us.toArray:=by simp [BS,h]
theorem fT {f:Nat} {us:List Value} (h: ¬f<1000000000):BS f us= .func (.func (f-1000000000)) us.toArray #[]:=by simp [BS,h]
theorem Aby (f:Nat) (us:List Value):(BS f us).oneCell'=true:=by
 by_cases h:f<1000000000
 ·rw [jg h];rfl
 ·rw [fT h];rfl
theorem PC (f:Nat) (us:List Value):(BS f us).cells= #[BS f us]:=by
 by_cases h:f<1000000000
 ·rw [jg h];rfl
 ·rw [fT h];rfl
def Cells (w:World) (S:Nat->Prop):(τ:Ty)->List Value->τ.den->Prop
 | .int k,cs,n=>cs= [.int k n]
 | .bool,cs,b=>cs= [.bool b]
 | .str,cs,s=>cs= [.string s]
 | .slice e,cs,xs=> ∃a len cap,cs= [.slice a len cap]/\len=xs.length/\len<=cap/\(xs= []\/ ∃g o,a=some ⟨g,o,none⟩/\g<w.heap.size/\ ¬S g/\
   ∀(i:Nat) (x:e.den),xs[i]?=some x-> ∃es:List Value,es.length=e.size/\(∀j u,es[j]?=some u->w.cell? ⟨g,o+i*e.size+j,none⟩=some u)/\Cells w S e es x)
 | .ptr a,cs,x=> ∃g o,cs= [.pointer (some ⟨g,o,none⟩)]/\g<w.heap.size/\ ¬S g/\
   ∃es:List Value,es.length=a.size/\(∀j u,es[j]?=some u->w.cell? ⟨g,o+j,none⟩=some u)/\Cells w S a es x
 | .oslice e,cs,x=>(x=none/\ ∃c,cs= [.slice none 0 c])\/ ∃xs ad len cap,x=some xs/\cs= [.slice (some ad) len cap]/\len=xs.length/\len<=cap/\(xs= []\/ ∃g o,(ad=⟨g,o,none⟩/\g<w.heap.size/\ ¬S g/\
   ∀(i:Nat) (x:e.den),xs[i]?=some x-> ∃es:List Value,es.length=e.size/\(∀j u,es[j]?=some u->w.cell? ⟨g,o+i*e.size+j,none⟩=some u)/\Cells w S e es x))
 | .optr a,cs,x=>(x=none/\cs= [.pointer none])\/ ∃y g o,x=some y/\cs= [.pointer (some ⟨g,o,none⟩)]/\g<w.heap.size/\ ¬S g/\
   ∃es:List Value,es.length=a.size/\(∀j u,es[j]?=some u->w.cell? ⟨g,o+j,none⟩=some u)/\Cells w S a es y
 | .smap v,cs,x=>(cs= [.map none]/\x= λ_=>none)\/ ∃g,cs= [.map (some g)]/\g<w.heap.size/\ ¬S g/\
   ∃es clock,w.heap[g]?=some (.map es clock)/\(∀e∈es.toList,(Ue e.key).isSome=true)/\
    (∀s,x s=none->Rr es.toList s=none)/\(∀s y,x s=some y-> ∃u,Rr es.toList s=some u/\Cells w S v [u] y)
 | .clo f c,cs,x=> ∃us:List Value,cs= [BS f us]/\Cells w S c us x
 | .unit,cs,_=>cs= []
 | .pair a r,cs,x=> ∃c1 c2,cs=c1++c2/\Cells w S a c1 x.1/\Cells w S r c2 x.2
def Cf (τ:Ty) (cs:List Value):Value:=if τ.Aq then .agg cs.toArray else cs.headD undef
def Cw (w:World) (S:Nat->Prop) (τ:Ty) (v:Value) (x:τ.den):Prop:= ∃cs,Cells w S τ cs x/\v=Cf τ cs
def Cy (w:World) (S:Nat->Prop):(τ:Ty)->List Value->τ.den->Prop
 | .pair a r,v::vs,x=>Cw w S a v x.1/\Cy w S r vs x.2
 | .unit,[],_=>True
 |_,_,_=>False
theorem Cells.len {w:World} {S:Nat->Prop} : ∀(τ:Ty) (cs:List Value) (x:τ.den),Cells w S τ cs x->cs.length=τ.size
 | .int k,cs,n,h=>by simp only [Cells] at h;subst h;rfl
 | .bool,cs,n,h=>by simp only [Cells] at h;subst h;rfl
 | .str,cs,n,h=>by simp only [Cells] at h;subst h;rfl
 | .slice e,cs,xs,h=>by simp only [Cells] at h;obtain ⟨a,l,c,rfl,_⟩:=h;rfl
 | .ptr e,cs,xs,h=>by simp only [Cells] at h;obtain ⟨a,l,rfl,_⟩:=h;rfl
 | .oslice e,cs,xs,h=>by simp only [Cells] at h;rcases h with ⟨_,_,rfl⟩|⟨_,_,_,_,_,rfl,_⟩<;>rfl
 | .optr e,cs,xs,h=>by simp only [Cells] at h;rcases h with ⟨_,rfl⟩|⟨_,_,_,_,rfl,_⟩<;>rfl
 | .smap e,cs,xs,h=>by simp only [Cells] at h;rcases h with ⟨rfl,_⟩|⟨_,rfl,_⟩<;>rfl
 | .clo f c,cs,xs,h=>by simp only [Cells] at h;obtain ⟨us,rfl,_⟩:=h;rfl
 | .unit,cs,xs,h=>by simp only [Cells] at h;subst h;rfl
 | .pair a r,cs,x,h=>by
  simp only [Cells] at h
  obtain ⟨c1,c2,rfl,h1,h2⟩:=h
  simp [Ty.size,Cells.len a c1 x.1 h1,Cells.len r c2 x.2 h2]
theorem Cells.Fg {w w':World} {S S':Nat->Prop} (hs:w.heap.size<=w'.heap.size) (hb: ∀k,k<w.heap.size-> ¬S k->w'.heap[k]?=w.heap[k]?)
  (hS: ∀k,k<w.heap.size->S' k->S k): ∀(τ:Ty) (cs:List Value) (x:τ.den),Cells w S τ cs x->Cells w' S' τ cs x
 | .int k,cs,n,h=>h
 | .bool,cs,n,h=>h
 | .str,cs,n,h=>h
 | .unit,cs,n,h=>h
 | .slice e,cs,xs,h=>by
  simp only [Cells] at h⊢
  obtain ⟨a,l,c,h1,h2,h3,h4⟩:=h
  refine ⟨a,l,c,h1,h2,h3,?_⟩
  rcases h4 with h4|⟨g,o,ha,hg,hn,Js⟩
  ·exact .inl h4
  ·refine .inr ⟨g,o,ha,by omega,λhx=>hn (hS g hg hx),λi x hx=>?_⟩
   obtain ⟨es,hl,hc,cD⟩:=Js i x hx
   exact ⟨es,hl,λj u hu=>by rw [World.cell?_of_block (hb g hg hn)];exact hc j u hu,Cells.Fg hs hb hS e es x cD⟩
 | .ptr a,cs,x,h=>by
  simp only [Cells] at h⊢
  obtain ⟨g,o,h1,hg,hn,es,hl,hc,cD⟩:=h
  exact ⟨g,o,h1,by omega,λhx=>hn (hS g hg hx),es,hl,λj u hu=>by rw [World.cell?_of_block (hb g hg hn)];exact hc j u hu,Cells.Fg hs hb hS a es x cD⟩
 | .oslice e,cs,x,h=>by
  simp only [Cells] at h⊢
  rcases h with h|⟨xs,ad,len,cap,h1,h2,h3,h4,h5⟩
  ·exact .inl h
  ·refine .inr ⟨xs,ad,len,cap,h1,h2,h3,h4,?_⟩
   rcases h5 with h5|⟨g,o,ha,hg,hn,Js⟩
   ·exact .inl h5
   ·refine .inr ⟨g,o,ha,by omega,λhx=>hn (hS g hg hx),λi x hx=>?_⟩
    obtain ⟨es,hl,hc,cD⟩:=Js i x hx
    exact ⟨es,hl,λj u hu=>by rw [World.cell?_of_block (hb g hg hn)];exact hc j u hu,Cells.Fg hs hb hS e es x cD⟩
 | .optr a,cs,x,h=>by
  simp only [Cells] at h⊢
  rcases h with h|⟨y,g,o,h0,h1,hg,hn,es,hl,hc,cD⟩
  ·exact .inl h
  ·exact .inr ⟨y,g,o,h0,h1,by omega,λhx=>hn (hS g hg hx),es,hl,λj u hu=>by rw [World.cell?_of_block (hb g hg hn)];exact hc j u hu,Cells.Fg hs hb hS a es y cD⟩
 | .smap v,cs,x,h=>by
  simp only [Cells] at h⊢
  rcases h with h|⟨g,h1,hg,hn,es,clock,h2,h3,h4,h5⟩
  ·exact .inl h
  ·refine .inr ⟨g,h1,by omega,λhx=>hn (hS g hg hx),es,clock,(hb g hg hn).trans h2,h3,h4,λs y hy=>?_⟩
   obtain ⟨u,h6,h7⟩:=h5 s y hy
   exact ⟨u,h6,Cells.Fg hs hb hS v [u] y h7⟩
 | .clo f c,cs,x,h=>by
  simp only [Cells] at h⊢
  obtain ⟨us,h1,h2⟩:=h
  exact ⟨us,h1,Cells.Fg hs hb hS c us x h2⟩
 | .pair a r,cs,x,h=>by
  simp only [Cells] at h⊢
  obtain ⟨c1,c2,h1,h2,h3⟩:=h
  exact ⟨c1,c2,h1,Cells.Fg hs hb hS a c1 x.1 h2,Cells.Fg hs hb hS r c2 x.2 h3⟩
theorem Cells.flat {w w':World} {S S':Nat->Prop} : ∀(τ:Ty) (cs:List Value) (x:τ.den),τ.flat=true->Cells w S τ cs x->Cells w' S' τ cs x
 | .int k,cs,n,_,h=>h
 | .bool,cs,n,_,h=>h
 | .str,cs,n,_,h=>h
 | .unit,cs,n,_,h=>h
 | .slice e,cs,xs,hf,h=>by simp [Ty.flat] at hf
 | .ptr a,cs,x,hf,h=>by simp [Ty.flat] at hf
 | .oslice a,cs,x,hf,h=>by simp [Ty.flat] at hf
 | .optr a,cs,x,hf,h=>by simp [Ty.flat] at hf
 | .smap a,cs,x,hf,h=>by simp [Ty.flat] at hf
 | .clo f a,cs,x,hf,h=>by simp [Ty.flat] at hf
 | .pair a r,cs,x,hf,h=>by
  simp only [Ty.flat,Af] at hf
  simp only [Cells] at h⊢
  obtain ⟨c1,c2,h1,h2,h3⟩:=h
  exact ⟨c1,c2,h1,Cells.flat a c1 x.1 hf.1 h2,Cells.flat r c2 x.2 hf.2 h3⟩
theorem Cells.plain {w:World} {S:Nat->Prop} : ∀(τ:Ty) (cs:List Value) (x:τ.den),Cells w S τ cs x-> ∀u∈cs,u.oneCell'=true
 | .int k,cs,n,h=>by simp only [Cells] at h;subst h;simp [Value.oneCell']
 | .bool,cs,n,h=>by simp only [Cells] at h;subst h;simp [Value.oneCell']
 | .str,cs,n,h=>by simp only [Cells] at h;subst h;simp [Value.oneCell']
 | .unit,cs,n,h=>by simp only [Cells] at h;subst h;simp
 | .slice e,cs,xs,h=>by simp only [Cells] at h;obtain ⟨a,l,c,rfl,_⟩:=h;simp [Value.oneCell']
 | .ptr a,cs,x,h=>by simp only [Cells] at h;obtain ⟨a,l,rfl,_⟩:=h;simp [Value.oneCell']
 | .oslice e,cs,xs,h=>by simp only [Cells] at h;rcases h with ⟨_,_,rfl⟩|⟨_,_,_,_,_,rfl,_⟩<;>simp [Value.oneCell']
 | .optr e,cs,xs,h=>by simp only [Cells] at h;rcases h with ⟨_,rfl⟩|⟨_,_,_,_,rfl,_⟩<;>simp [Value.oneCell']
 | .smap e,cs,xs,h=>by simp only [Cells] at h;rcases h with ⟨rfl,_⟩|⟨_,rfl,_⟩<;>simp [Value.oneCell']
 | .clo f c,cs,xs,h=>by simp only [Cells] at h;obtain ⟨us,rfl,_⟩:=h;simp [Aby]
 | .pair a r,cs,x,h=>by
  simp only [Cells] at h
  obtain ⟨c1,c2,rfl,h2,h3⟩:=h
  intro u hu
  rcases Az.1 hu with hu|hu
  ·exact Cells.plain a c1 x.1 h2 u hu
  ·exact Cells.plain r c2 x.2 h3 u hu
theorem Lc {w:World} {S:Nat->Prop} (τ:Ty) (cs:List Value) (x:τ.den) (h:Cells w S τ cs x):(Cf τ cs).cells=cs.toArray:=by
 cases τ<;>simp only [Cells] at h
 case int k=>subst h;simp [Cf,Ty.Aq,Value.cells]
 case bool=>subst h;simp [Cf,Ty.Aq,Value.cells]
 case str=>subst h;simp [Cf,Ty.Aq,Value.cells]
 case unit=>subst h;simp [Cf,Ty.Aq,Value.cells]
 case slice e=>obtain ⟨a,l,c,rfl,_⟩:=h;simp [Cf,Ty.Aq,Value.cells]
 case ptr e=>obtain ⟨a,l,rfl,_⟩:=h;simp [Cf,Ty.Aq,Value.cells]
 case oslice e=>rcases h with ⟨_,_,rfl⟩|⟨_,_,_,_,_,rfl,_⟩<;>simp [Cf,Ty.Aq,Value.cells]
 case optr e=>rcases h with ⟨_,rfl⟩|⟨_,_,_,_,rfl,_⟩<;>simp [Cf,Ty.Aq,Value.cells]
 case smap e=>rcases h with ⟨rfl,_⟩|⟨_,rfl,_⟩<;>simp [Cf,Ty.Aq,Value.cells]
 case clo f c=>obtain ⟨us,rfl,_⟩:=h;simp [Cf,Ty.Aq,PC]
 case pair a r=>simp [Cf,Ty.Aq,Value.cells]
structure Abk (S:Nat->Prop) (w w':World):Prop where
 size:w.heap.size<=w'.heap.size
 block: ∀k,k<w.heap.size-> ¬S k->w'.heap[k]?=w.heap[k]?
theorem Cw.Fg {w w':World} {S S':Nat->Prop} {τ:Ty} {v:Value} {x:τ.den} (h:Cw w S τ v x) (hs:Abk S w w') (hS: ∀k,k<w.heap.size->S' k->S k):Cw w' S' τ v x:=
 let ⟨cs,hc,hv⟩:=h
 ⟨cs,Cells.Fg hs.size hs.block hS τ cs x hc,hv⟩
theorem Cy.Fg {w w':World} {S S':Nat->Prop} (hs:Abk S w w') (hS: ∀k,k<w.heap.size->S' k->S k): ∀(τ:Ty) (vs:List Value) (x:τ.den),Cy w S τ vs x->Cy w' S' τ vs x
 | .pair a r,[],x,h=>h
 | .pair a r,v::vs,x,h=>⟨h.1.Fg hs hS,Cy.Fg hs hS r vs x.2 h.2⟩
 | .unit,[],_,_=>trivial
 | .unit,_::_,_,h=>h
 | .int _,_,_,h=>by simp [Cy] at h
 | .bool,_,_,h=>by simp [Cy] at h
 | .str,_,_,h=>by simp [Cy] at h
 | .slice _,_,_,h=>by simp [Cy] at h
 | .ptr _,_,_,h=>by simp [Cy] at h
 | .oslice _,_,_,h=>by simp [Cy] at h
 | .optr _,_,_,h=>by simp [Cy] at h
 | .smap _,_,_,h=>by simp [Cy] at h
 | .clo _ _,_,_,h=>by simp [Cy] at h
theorem Cw.flat {w w':World} {S S':Nat->Prop} {τ:Ty} {v:Value} {x:τ.den} (hf:τ.flat=true) (h:Cw w S τ v x):Cw w' S' τ v x:=
 let ⟨cs,hc,hv⟩:=h
 ⟨cs,Cells.flat τ cs x hf hc,hv⟩
end Go.Proofs.YtfgfigkbgecfnaaGreat
