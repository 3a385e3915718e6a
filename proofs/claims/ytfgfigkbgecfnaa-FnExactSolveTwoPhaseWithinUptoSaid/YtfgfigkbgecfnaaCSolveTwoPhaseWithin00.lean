/-
  Part 1 of the proof that the statement FnExactSolveTwoPhaseWithin holds.
-/
import Derived.Below
import Derived.Laws.OwnMore
import Derived.Orders
import Derived.StillTail
namespace Go.Proofs.Ytfgfigkbgecfnaa
open Go.RowKit
theorem Pr:type_of% @Array.ext':=@Array.ext'
theorem cQ:type_of% @Array.getD_eq_getD_getElem?:=@Array.getD_eq_getD_getElem?
theorem Uf:type_of% @Array.getElem?_append_left:=@Array.getElem?_append_left
theorem Nu:type_of% @Array.getElem?_eq_some_iff:=@Array.getElem?_eq_some_iff
theorem Yf:type_of% @Array.length_toList:=@Array.length_toList
theorem Ak:type_of% @Bool.and_eq_true:=@Bool.and_eq_true
theorem Hc:type_of% @Bool.and_eq_true_iff:=@Bool.and_eq_true_iff
theorem Zq:type_of% @Bool.false_and:=@Bool.false_and
theorem Dt:type_of% @Bool.false_eq_true:=@Bool.false_eq_true
theorem bM:type_of% @Bool.false_or:=@Bool.false_or
theorem Gb:type_of% @Bool.not_eq_true:=@Bool.not_eq_true
theorem Fy:type_of% @Bool.not_eq_true':=@Bool.not_eq_true'
theorem Kx:type_of% @Bool.or_eq_true:=@Bool.or_eq_true
theorem iK:type_of% @Bool.or_false:=@Bool.or_false
theorem Ta:type_of% @Bool.true_and:=@Bool.true_and
theorem Bz:type_of% @Classical.byContradiction:=@Classical.byContradiction
theorem Ba:type_of% @Int.eq_ofNat_of_zero_le:=@Int.eq_ofNat_of_zero_le
theorem Ku:type_of% @Int.le_refl:=@Int.le_refl
theorem Mj:type_of% @Int.natCast_inj:=@Int.natCast_inj
theorem Ab:type_of% @Int.toNat_natCast:=@Int.toNat_natCast
theorem Jz:type_of% @List.all_cons:=@List.all_cons
theorem Bk:type_of% @List.all_eq_true:=@List.all_eq_true
theorem Eu:type_of% @List.any_eq_true:=@List.any_eq_true
theorem Bn:type_of% @List.append_assoc:=@List.append_assoc
theorem iQ:type_of% @List.append_nil:=@List.append_nil
theorem Hi:type_of% @List.cons.injEq:=@List.cons.injEq
theorem Ka:type_of% @List.cons_append:=@List.cons_append
theorem Kc:type_of% @List.contains_iff_mem:=@List.contains_iff_mem
theorem Ft:type_of% @List.drop_eq_getElem_cons:=@List.drop_eq_getElem_cons
theorem Zr:type_of% @List.drop_length:=@List.drop_length
theorem Cw:type_of% @List.drop_zero:=@List.drop_zero
theorem Cr:type_of% @List.eq_nil_of_length_eq_zero:=@List.eq_nil_of_length_eq_zero
theorem Gf:type_of% @List.eq_of_mem_replicate:=@List.eq_of_mem_replicate
theorem cR:type_of% @List.flatMap_cons:=@List.flatMap_cons
theorem Ls:type_of% @List.flatten_cons:=@List.flatten_cons
theorem Fz:type_of% @List.foldl_append:=@List.foldl_append
theorem Ro:type_of% @List.foldl_cons:=@List.foldl_cons
theorem Nz:type_of% @List.getD_cons_succ:=@List.getD_cons_succ
theorem Yg:type_of% @List.getD_cons_zero:=@List.getD_cons_zero
theorem Al:type_of% @List.getD_eq_getElem?_getD:=@List.getD_eq_getElem?_getD
theorem Au:type_of% @List.getElem?_append_left:=@List.getElem?_append_left
theorem As:type_of% @List.getElem?_append_right:=@List.getElem?_append_right
theorem Kj:type_of% @List.getElem?_cons_succ:=@List.getElem?_cons_succ
theorem Cf:type_of% @List.getElem?_cons_zero:=@List.getElem?_cons_zero
theorem Cp:type_of% @List.getElem?_drop:=@List.getElem?_drop
theorem Ad:type_of% @List.getElem?_eq_getElem:=@List.getElem?_eq_getElem
theorem Dv:type_of% @List.getElem?_eq_none:=@List.getElem?_eq_none
theorem Ao:type_of% @List.getElem?_eq_some_iff:=@List.getElem?_eq_some_iff
theorem Fa:type_of% @List.getElem?_map:=@List.getElem?_map
theorem Rz:type_of% @List.getElem?_range:=@List.getElem?_range
theorem Zs:type_of% @List.getElem?_replicate:=@List.getElem?_replicate
theorem Fb:type_of% @List.getElem?_set:=@List.getElem?_set
theorem aQ:type_of% @List.getElem?_set_self:=@List.getElem?_set_self
theorem Di:type_of% @List.getElem?_take:=@List.getElem?_take
theorem Io:type_of% @List.getElem?_toArray:=@List.getElem?_toArray
theorem Xr:type_of% @List.getElem_append_left:=@List.getElem_append_left
theorem Ug:type_of% @List.getElem_idxOf:=@List.getElem_idxOf
theorem Ps:type_of% @List.getElem_map:=@List.getElem_map
theorem Ah:type_of% @List.getElem_mem:=@List.getElem_mem
theorem Sa:type_of% @List.getElem_of_mem:=@List.getElem_of_mem
theorem iR:type_of% @List.headD_cons:=@List.headD_cons
theorem Ga:type_of% @List.idxOf_lt_length_of_mem:=@List.idxOf_lt_length_of_mem
theorem Av:type_of% @List.length_append:=@List.length_append
theorem Aw:type_of% @List.length_cons:=@List.length_cons
theorem Zt:type_of% @List.length_drop:=@List.length_drop
theorem Ek:type_of% @List.length_eq_one_iff:=@List.length_eq_one_iff
theorem Ct:type_of% @List.length_map:=@List.length_map
theorem Ex:type_of% @List.length_nil:=@List.length_nil
theorem cS:type_of% @List.length_range:=@List.length_range
theorem Ei:type_of% @List.length_replicate:=@List.length_replicate
theorem Bb:type_of% @List.length_set:=@List.length_set
theorem Bp:type_of% @List.length_singleton:=@List.length_singleton
theorem Dx:type_of% @List.length_take:=@List.length_take
theorem gW:type_of% @List.length_take_le:=@List.length_take_le
theorem Hj:type_of% @List.map_append:=@List.map_append
theorem Er:type_of% @List.map_congr_left:=@List.map_congr_left
theorem Cb:type_of% @List.map_cons:=@List.map_cons
theorem Be:type_of% @List.mem_append:=@List.mem_append
theorem Bo:type_of% @List.mem_append_left:=@List.mem_append_left
theorem Cm:type_of% @List.mem_append_right:=@List.mem_append_right
theorem Bd:type_of% @List.mem_cons:=@List.mem_cons
theorem At:type_of% @List.mem_cons_of_mem:=@List.mem_cons_of_mem
theorem Kv:type_of% @List.mem_cons_self:=@List.mem_cons_self
theorem Ck:type_of% @List.mem_filter:=@List.mem_filter
theorem Hg:type_of% @List.mem_flatMap:=@List.mem_flatMap
theorem Hv:type_of% @List.mem_flatten:=@List.mem_flatten
theorem Bg:type_of% @List.mem_iff_getElem:=@List.mem_iff_getElem
theorem Bh:type_of% @List.mem_map:=@List.mem_map
theorem Cs:type_of% @List.mem_of_getElem?:=@List.mem_of_getElem?
theorem er:type_of% @List.mem_of_mem_drop:=@List.mem_of_mem_drop
theorem Gl:type_of% @List.mem_of_mem_take:=@List.mem_of_mem_take
theorem Ev:type_of% @List.mem_range:=@List.mem_range
theorem Af:type_of% @List.mem_singleton:=@List.mem_singleton
theorem Om:type_of% @List.nil_append:=@List.nil_append
theorem Ee:type_of% @List.nodup_append:=@List.nodup_append
theorem Cn:type_of% @List.nodup_cons:=@List.nodup_cons
theorem Mc:type_of% @List.nodup_nil:=@List.nodup_nil
theorem eu:type_of% @List.pairwise_append:=@List.pairwise_append
theorem aR:type_of% @List.pairwise_cons:=@List.pairwise_cons
theorem Fu:type_of% @List.pairwise_iff_getElem:=@List.pairwise_iff_getElem
theorem Gc:type_of% @List.range_succ:=@List.range_succ
theorem Hk:type_of% @List.size_toArray:=@List.size_toArray
theorem Iu:type_of% @List.take_add_one:=@List.take_add_one
theorem Ip:type_of% @List.take_append_drop:=@List.take_append_drop
theorem Az:type_of% @List.take_length:=@List.take_length
theorem Jh:type_of% @List.take_of_length_le:=@List.take_of_length_le
theorem Cg:type_of% @List.take_succ_eq_append_getElem:=@List.take_succ_eq_append_getElem
theorem He:type_of% @Nat.add_assoc:=@Nat.add_assoc
theorem Dr:type_of% @Nat.add_mul:=@Nat.add_mul
theorem El:type_of% @Nat.add_zero:=@Nat.add_zero
theorem Nv:type_of% @Nat.blt_eq:=@Nat.blt_eq
theorem Kd:type_of% @Nat.eq_of_beq_eq_true:=@Nat.eq_of_beq_eq_true
theorem Uh:type_of% @Nat.eq_zero_or_pos:=@Nat.eq_zero_or_pos
theorem Ap:type_of% @Nat.le_refl:=@Nat.le_refl
theorem Gz:type_of% @Nat.le_trans:=@Nat.le_trans
theorem Ep:type_of% @Nat.lt_of_lt_of_le:=@Nat.lt_of_lt_of_le
theorem Fk:type_of% @Nat.mul_le_mul_right:=@Nat.mul_le_mul_right
theorem Gm:type_of% @Nat.mul_one:=@Nat.mul_one
theorem Ea:type_of% @Nat.not_lt_zero:=@Nat.not_lt_zero
theorem Wm:type_of% @Nat.one_mul:=@Nat.one_mul
theorem Bl:type_of% @Nat.zero_add:=@Nat.zero_add
theorem Iz:type_of% @Nat.zero_le:=@Nat.zero_le
theorem Ha:type_of% @Ne.symm:=@Ne.symm
theorem Ew:type_of% @Option.bind_some:=@Option.bind_some
theorem Dm:type_of% @Option.getD_some:=@Option.getD_some
theorem Xs:type_of% @Option.isSome_iff_exists:=@Option.isSome_iff_exists
theorem An:type_of% @Option.map_some:=@Option.map_some
theorem Nw:type_of% @Option.ne_none_iff_exists':=@Option.ne_none_iff_exists'
theorem Bi:type_of% @Option.some.inj:=@Option.some.inj
theorem Aa:type_of% @Option.some.injEq:=@Option.some.injEq
theorem Ui:type_of% @Option.toList_some:=@Option.toList_some
theorem Ag:type_of% @Prod.mk.injEq:=@Prod.mk.injEq
theorem bz:type_of% @and_true:=@and_true
theorem Yi:type_of% @beq_eq_false_iff_ne:=@beq_eq_false_iff_ne
theorem Oa:type_of% @bne_eq_false_iff_eq:=@bne_eq_false_iff_eq
theorem Dz:type_of% @congrArg:=@congrArg
theorem Ey:type_of% @decide_eq_false:=@decide_eq_false
theorem Ci:type_of% @decide_eq_true:=@decide_eq_true
theorem Wo:type_of% @decide_eq_true_eq:=@decide_eq_true_eq
theorem Ji:type_of% @decide_eq_true_iff:=@decide_eq_true_iff
theorem Jj:type_of% @dif_pos:=@dif_pos
theorem Uk:type_of% @if_false:=@if_false
theorem Ai:type_of% @if_neg:=@if_neg
theorem Ac:type_of% @if_pos:=@if_pos
theorem Oz:type_of% @if_true:=@if_true
theorem Cx:type_of% @of_decide_eq_true:=@of_decide_eq_true
inductive Ty where
 |int (k:IntKind)
 |bool
 |str
 |slice (e:Ty)
 |oslice (e:Ty)
 |ptr (a:Ty)
 |optr (a:Ty)
 |smap (v:Ty)
 |clo (f:Nat) (c:Ty)
 |unit
 |pair (a r:Ty)
 deriving DecidableEq
@[reducible] def Ty.den:Ty->Type
 | .int _=>Int
 | .bool=>Bool
 | .str=>ByteArray
 | .slice e=>List e.den
 | .oslice e=>Option (List e.den)
 | .ptr a=>a.den
 | .optr a=>Option a.den
 | .smap v=>ByteArray->Option v.den
 | .clo _ c=>c.den
 | .unit=>Unit
 | .pair a r=>a.den×r.den
def Ty.size:Ty->Nat
 | .unit=>0
 | .pair a r=>a.size+r.size
 |_=>1
def Ty.Ar:Ty->Bool
 | .unit| .pair _ _=>true
 |_=>false
def Ty.flat:Ty->Bool
 | .int _| .bool| .str| .unit=>true
 | .pair a r=>a.flat&&r.flat
 |_=>false
def Uc:Value->Option ByteArray
 | .string s=>some s
 |_=>none
def Ru:List MapEntry->ByteArray->Option Value
 | [],_=>none
 |e::r,s=>if Uc e.key=some s then some e.val else Ru r s
def zu (f:Nat) (us:List Value):Value:=if f<1000000000 then .func (.func f) #[] us.toArray else .func (.func (f-1000000000)) us.toArray #[]
theorem j4 {f:Nat} {us:List Value} (h:f<1000000000):zu f us= .func (.func f) #[] us.toArray:=by simp [zu,h]
theorem fN {f:Nat} {us:List Value} (h: ¬f<1000000000):zu f us= .func (.func (f-1000000000)) us.toArray #[]:=by simp [zu,h]
theorem ZV (f:Nat) (us:List Value):(zu f us).oneCell'=true:=by
 by_cases h:f<1000000000
 ·rw [j4 h];rfl
 ·rw [fN h];rfl
theorem MH (f:Nat) (us:List Value):(zu f us).cells= #[zu f us]:=by
 by_cases h:f<1000000000
 ·rw [j4 h];rfl
 ·rw [fN h];rfl
def Cells (w:World) (S:Nat->Prop):(τ:Ty)->List Value->τ.den->Prop
 | .int k,cs,n=>cs= [.int k n]
 | .bool,cs,b=>cs= [.bool b]
 | .str,cs,s=>cs= [.string s]
 | .slice e,cs,xs=> ∃a len cap,cs= [.slice a len cap]/\len=xs.length/\len<=cap/\(xs= []\/ ∃g o,a=some ⟨g,o,none⟩/\g<w.heap.size/\ ¬S g/\
   ∀(i:Nat) (x:e.den),xs[i]?=some x-> ∃es:List Value,es.length=e.size/\(∀j u,es[j]?=some u->w.cell? ⟨g,o+i*e.size+j,none⟩=some u)/\Cells w S e es x)
 | .ptr a,cs,x=> ∃g o,cs= [.pointer (some ⟨g,o,none⟩)]/\g<w.heap.size/\ ¬S g/\
   ∃es:List Value,es.length=a.size/\(∀j u,es[j]?=some u->w.cell? ⟨g,o+j,none⟩=some u)/\Cells w S a es x
 | .oslice e,cs,x=>(x=none/\ ∃c,cs= [.slice none 0 c])\/ ∃xs ad len cap,x=some xs/\cs= [.slice (some ad) len cap]/\len=xs.length/\len<=cap/\(xs= []\/ ∃g o,(ad=⟨g,o,none⟩/\g<w.heap.size/\ ¬S g/\
   ∀(i:Nat) (x:e.den),xs[i]?=some x-> ∃es:List Value,es.length=e.size/\(∀j u,es[j]?=some u->w.cell? ⟨g,o+i*e.size+j,none⟩=some u)/\Cells w S e es x))
 | .optr a,cs,x=>(x=none/\cs= [.pointer none])\/ ∃y g o,x=some y/\cs= [.pointer (some ⟨g,o,none⟩)]/\g<w.heap.size/\ ¬S g/\
   ∃es:List Value,es.length=a.size/\(∀j u,es[j]?=some u->w.cell? ⟨g,o+j,none⟩=some u)/\Cells w S a es y
 | .smap v,cs,x=>(cs= [.map none]/\x= λ_=>none)\/ ∃g,cs= [.map (some g)]/\g<w.heap.size/\ ¬S g/\
   ∃es clock,w.heap[g]?=some (.map es clock)/\(∀e∈es.toList,(Uc e.key).isSome=true)/\
    (∀s,x s=none->Ru es.toList s=none)/\(∀s y,x s=some y-> ∃u,Ru es.toList s=some u/\Cells w S v [u] y)
 | .clo f c,cs,x=> ∃us:List Value,cs= [zu f us]/\Cells w S c us x
 | .unit,cs,_=>cs= []
 | .pair a r,cs,x=> ∃c1 c2,cs=c1++c2/\Cells w S a c1 x.1/\Cells w S r c2 x.2
def Cj (τ:Ty) (cs:List Value):Value:=if τ.Ar then .agg cs.toArray else cs.headD undef
def Dd (w:World) (S:Nat->Prop) (τ:Ty) (v:Value) (x:τ.den):Prop:= ∃cs,Cells w S τ cs x/\v=Cj τ cs
def De (w:World) (S:Nat->Prop):(τ:Ty)->List Value->τ.den->Prop
 | .pair a r,v::vs,x=>Dd w S a v x.1/\De w S r vs x.2
 | .unit,[],_=>True
 |_,_,_=>False
theorem Cells.len {w:World} {S:Nat->Prop} : ∀(τ:Ty) (cs:List Value) (x:τ.den),Cells w S τ cs x->cs.length=τ.size
 | .int k,cs,n,h=>by simp only [Cells] at h;subst h;rfl
 | .bool,cs,n,h=>by simp only [Cells] at h;subst h;rfl
 | .str,cs,n,h=>by simp only [Cells] at h;subst h;rfl
 | .slice e,cs,xs,h=>by simp only [Cells] at h;obtain ⟨a,l,c,rfl,_⟩:=h;rfl
 | .ptr e,cs,xs,h=>by simp only [Cells] at h;obtain ⟨a,l,rfl,_⟩:=h;rfl
 | .oslice e,cs,xs,h=>by simp only [Cells] at h;rcases h with ⟨_,_,rfl⟩|⟨_,_,_,_,_,rfl,_⟩<;>rfl
 | .optr e,cs,xs,h=>by simp only [Cells] at h;rcases h with ⟨_,rfl⟩|⟨_,_,_,_,rfl,_⟩<;>rfl
 | .smap e,cs,xs,h=>by simp only [Cells] at h;rcases h with ⟨rfl,_⟩|⟨_,rfl,_⟩<;>rfl
 | .clo f c,cs,xs,h=>by simp only [Cells] at h;obtain ⟨us,rfl,_⟩:=h;rfl
 | .unit,cs,xs,h=>by simp only [Cells] at h;subst h;rfl
 | .pair a r,cs,x,h=>by
  simp only [Cells] at h;obtain ⟨c1,c2,rfl,h1,h2⟩:=h;simp [Ty.size,Cells.len a c1 x.1 h1,Cells.len r c2 x.2 h2]
theorem Cells.Gd {w w':World} {S S':Nat->Prop} (hs:w.heap.size<=w'.heap.size) (hb: ∀k,k<w.heap.size-> ¬S k->w'.heap[k]?=w.heap[k]?)
  (hS: ∀k,k<w.heap.size->S' k->S k): ∀(τ:Ty) (cs:List Value) (x:τ.den),Cells w S τ cs x->Cells w' S' τ cs x
 | .int k,cs,n,h=>h
 | .bool,cs,n,h=>h
 | .str,cs,n,h=>h
 | .unit,cs,n,h=>h
 | .slice e,cs,xs,h=>by
  simp only [Cells] at h⊢;obtain ⟨a,l,c,h1,h2,h3,h4⟩:=h;refine ⟨a,l,c,h1,h2,h3,?_⟩;rcases h4 with h4|⟨g,o,ha,hg,hn,Ma⟩
  ·exact .inl h4
  ·refine .inr ⟨g,o,ha,by omega,λhx=>hn (hS g hg hx),λi x hx=>?_⟩;obtain ⟨es,hl,hc,ca⟩:=Ma i x hx;exact ⟨es,hl,λj u hu=>by rw [World.cell?_of_block (hb g hg hn)];exact hc j u hu,Cells.Gd hs hb hS e es x ca⟩
 | .ptr a,cs,x,h=>by
  simp only [Cells] at h⊢;obtain ⟨g,o,h1,hg,hn,es,hl,hc,ca⟩:=h;exact ⟨g,o,h1,by omega,λhx=>hn (hS g hg hx),es,hl,λj u hu=>by rw [World.cell?_of_block (hb g hg hn)];exact hc j u hu,Cells.Gd hs hb hS a es x ca⟩
 | .oslice e,cs,x,h=>by
  simp only [Cells] at h⊢;rcases h with h|⟨xs,ad,len,cap,h1,h2,h3,h4,h5⟩
  ·exact .inl h
  ·refine .inr ⟨xs,ad,len,cap,h1,h2,h3,h4,?_⟩;rcases h5 with h5|⟨g,o,ha,hg,hn,Ma⟩
   ·exact .inl h5
   ·refine .inr ⟨g,o,ha,by omega,λhx=>hn (hS g hg hx),λi x hx=>?_⟩;obtain ⟨es,hl,hc,ca⟩:=Ma i x hx;exact ⟨es,hl,λj u hu=>by rw [World.cell?_of_block (hb g hg hn)];exact hc j u hu,Cells.Gd hs hb hS e es x ca⟩
 | .optr a,cs,x,h=>by
  simp only [Cells] at h⊢;rcases h with h|⟨y,g,o,h0,h1,hg,hn,es,hl,hc,ca⟩
  ·exact .inl h
  ·exact .inr ⟨y,g,o,h0,h1,by omega,λhx=>hn (hS g hg hx),es,hl,λj u hu=>by rw [World.cell?_of_block (hb g hg hn)];exact hc j u hu,Cells.Gd hs hb hS a es y ca⟩
 | .smap v,cs,x,h=>by
  simp only [Cells] at h⊢;rcases h with h|⟨g,h1,hg,hn,es,clock,h2,h3,h4,h5⟩
  ·exact .inl h
  ·refine .inr ⟨g,h1,by omega,λhx=>hn (hS g hg hx),es,clock,(hb g hg hn).trans h2,h3,h4,λs y hy=>?_⟩;obtain ⟨u,h6,h7⟩:=h5 s y hy;exact ⟨u,h6,Cells.Gd hs hb hS v [u] y h7⟩
 | .clo f c,cs,x,h=>by
  simp only [Cells] at h⊢;obtain ⟨us,h1,h2⟩:=h;exact ⟨us,h1,Cells.Gd hs hb hS c us x h2⟩
 | .pair a r,cs,x,h=>by
  simp only [Cells] at h⊢;obtain ⟨c1,c2,h1,h2,h3⟩:=h;exact ⟨c1,c2,h1,Cells.Gd hs hb hS a c1 x.1 h2,Cells.Gd hs hb hS r c2 x.2 h3⟩
theorem Cells.flat {w w':World} {S S':Nat->Prop} : ∀(τ:Ty) (cs:List Value) (x:τ.den),τ.flat=true->Cells w S τ cs x->Cells w' S' τ cs x
 | .int k,cs,n,_,h=>h
 | .bool,cs,n,_,h=>h
 | .str,cs,n,_,h=>h
 | .unit,cs,n,_,h=>h
 | .slice e,cs,xs,hf,h=>by simp [Ty.flat] at hf
 | .ptr a,cs,x,hf,h=>by simp [Ty.flat] at hf
 | .oslice a,cs,x,hf,h=>by simp [Ty.flat] at hf
 | .optr a,cs,x,hf,h=>by simp [Ty.flat] at hf
 | .smap a,cs,x,hf,h=>by simp [Ty.flat] at hf
 | .clo f a,cs,x,hf,h=>by simp [Ty.flat] at hf
 | .pair a r,cs,x,hf,h=>by
  simp only [Ty.flat,Ak] at hf;simp only [Cells] at h⊢;obtain ⟨c1,c2,h1,h2,h3⟩:=h;exact ⟨c1,c2,h1,Cells.flat a c1 x.1 hf.1 h2,Cells.flat r c2 x.2 hf.2 h3⟩
theorem Cells.plain {w:World} {S:Nat->Prop} : ∀(τ:Ty) (cs:List Value) (x:τ.den),Cells w S τ cs x-> ∀u∈cs,u.oneCell'=true
 | .int k,cs,n,h=>by simp only [Cells] at h;subst h;simp [Value.oneCell']
 | .bool,cs,n,h=>by simp only [Cells] at h;subst h;simp [Value.oneCell']
 | .str,cs,n,h=>by simp only [Cells] at h;subst h;simp [Value.oneCell']
 | .unit,cs,n,h=>by simp only [Cells] at h;subst h;simp
 | .slice e,cs,xs,h=>by simp only [Cells] at h;obtain ⟨a,l,c,rfl,_⟩:=h;simp [Value.oneCell']
 | .ptr a,cs,x,h=>by simp only [Cells] at h;obtain ⟨a,l,rfl,_⟩:=h;simp [Value.oneCell']
 | .oslice e,cs,xs,h=>by simp only [Cells] at h;rcases h with ⟨_,_,rfl⟩|⟨_,_,_,_,_,rfl,_⟩<;>simp [Value.oneCell']
 | .optr e,cs,xs,h=>by simp only [Cells] at h;rcases h with ⟨_,rfl⟩|⟨_,_,_,_,rfl,_⟩<;>simp [Value.oneCell']
 | .smap e,cs,xs,h=>by simp only [Cells] at h;rcases h with ⟨rfl,_⟩|⟨_,rfl,_⟩<;>simp [Value.oneCell']
 | .clo f c,cs,xs,h=>by simp only [Cells] at h;obtain ⟨us,rfl,_⟩:=h;simp [ZV]
 | .pair a r,cs,x,h=>by
  simp only [Cells] at h;obtain ⟨c1,c2,rfl,h2,h3⟩:=h;intro u hu;rcases Be.1 hu with hu|hu
  ·exact Cells.plain a c1 x.1 h2 u hu
  ·exact Cells.plain r c2 x.2 h3 u hu
theorem Lp {w:World} {S:Nat->Prop} (τ:Ty) (cs:List Value) (x:τ.den) (h:Cells w S τ cs x):(Cj τ cs).cells=cs.toArray:=by
 cases τ<;>simp only [Cells] at h
 case int k=>subst h;simp [Cj,Ty.Ar,Value.cells]
 case bool=>subst h;simp [Cj,Ty.Ar,Value.cells]
 case str=>subst h;simp [Cj,Ty.Ar,Value.cells]
 case unit=>subst h;simp [Cj,Ty.Ar,Value.cells]
 case slice e=>obtain ⟨a,l,c,rfl,_⟩:=h;simp [Cj,Ty.Ar,Value.cells]
 case ptr e=>obtain ⟨a,l,rfl,_⟩:=h;simp [Cj,Ty.Ar,Value.cells]
 case oslice e=>rcases h with ⟨_,_,rfl⟩|⟨_,_,_,_,_,rfl,_⟩<;>simp [Cj,Ty.Ar,Value.cells]
 case optr e=>rcases h with ⟨_,rfl⟩|⟨_,_,_,_,rfl,_⟩<;>simp [Cj,Ty.Ar,Value.cells]
 case smap e=>rcases h with ⟨rfl,_⟩|⟨_,rfl,_⟩<;>simp [Cj,Ty.Ar,Value.cells]
 case clo f c=>obtain ⟨us,rfl,_⟩:=h;simp [Cj,Ty.Ar,MH]
 case pair a r=>simp [Cj,Ty.Ar,Value.cells]
structure ZI (S:Nat->Prop) (w w':World):Prop where
 size:w.heap.size<=w'.heap.size
 block: ∀k,k<w.heap.size-> ¬S k->w'.heap[k]?=w.heap[k]?
theorem Dd.Gd {w w':World} {S S':Nat->Prop} {τ:Ty} {v:Value} {x:τ.den} (h:Dd w S τ v x) (hs:ZI S w w') (hS: ∀k,k<w.heap.size->S' k->S k):Dd w' S' τ v x:=
 let ⟨cs,hc,hv⟩:=h
 ⟨cs,Cells.Gd hs.size hs.block hS τ cs x hc,hv⟩
theorem De.Gd {w w':World} {S S':Nat->Prop} (hs:ZI S w w') (hS: ∀k,k<w.heap.size->S' k->S k): ∀(τ:Ty) (vs:List Value) (x:τ.den),De w S τ vs x->De w' S' τ vs x
 | .pair a r,[],x,h=>h
 | .pair a r,v::vs,x,h=>⟨h.1.Gd hs hS,De.Gd hs hS r vs x.2 h.2⟩
 | .unit,[],_,_=>trivial
 | .unit,_::_,_,h=>h
 | .int _,_,_,h=>by simp [De] at h
 | .bool,_,_,h=>by simp [De] at h
 | .str,_,_,h=>by simp [De] at h
 | .slice _,_,_,h=>by simp [De] at h
 | .ptr _,_,_,h=>by simp [De] at h
 | .oslice _,_,_,h=>by simp [De] at h
 | .optr _,_,_,h=>by simp [De] at h
 | .smap _,_,_,h=>by simp [De] at h
 | .clo _ _,_,_,h=>by simp [De] at h
theorem Dd.flat {w w':World} {S S':Nat->Prop} {τ:Ty} {v:Value} {x:τ.den} (hf:τ.flat=true) (h:Dd w S τ v x):Dd w' S' τ v x:=
 let ⟨cs,hc,hv⟩:=h
 ⟨cs,Cells.flat τ cs x hf hc,hv⟩
end Go.Proofs.Ytfgfigkbgecfnaa
