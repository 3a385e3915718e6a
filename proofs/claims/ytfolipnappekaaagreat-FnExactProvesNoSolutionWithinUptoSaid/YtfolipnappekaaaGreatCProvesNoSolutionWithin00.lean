/-
  Part 1 of the proof that the statement FnExactProvesNoSolutionWithin holds.
-/
import Derived.Below
import Derived.Laws.OwnMore
import Derived.Orders
import Derived.StillTail
namespace Go.Proofs.YtfolipnappekaaaGreat
open Go.RowKit
inductive Ty where
 |int (k:IntKind)
 |bool
 |str
 |slice (e:Ty)
 |oslice (e:Ty)
 |ptr (a:Ty)
 |optr (a:Ty)
 |smap (v:Ty)
 |clo (f:Nat) (c:Ty)
 |unit
 |pair (a r:Ty)
 deriving DecidableEq
@[reducible] def Ty.den:Ty->Type
 | .int _=>Int
 | .bool=>Bool
 | .str=>ByteArray
 | .slice e=>List e.den
 | .oslice e=>Option (List e.den)
 | .ptr a=>a.den
 | .optr a=>Option a.den
 | .smap v=>ByteArray->Option v.den
 | .clo _ c=>c.den
 | .unit=>Unit
 | .pair a r=>a.den×r.den
def Ty.size:Ty->Nat
 | .unit=>0
 | .pair a r=>a.size+r.size
 |_=>1
def Ty.Ac:Ty->Bool
 | .unit| .pair _ _=>true
 |_=>false
def Ty.flat:Ty->Bool
 | .int _| .bool| .str| .unit=>true
 | .pair a r=>a.flat&&r.flat
 |_=>false
def Ob:Value->Option ByteArray
 | .string s=>some s
 |_=>none
def Mc:List MapEntry->ByteArray->Option Value
 | [],_=>none
 |e::r,s=>if Ob e.key=some s then some e.val else Mc r s
def vT (f:Nat) (us:List Value):Value:=if f<1000000000 then .func (.func f) #[] us.toArray else .func (.func (f-1000000000)) us.toArray #[]
theorem dt {f:Nat} {us:List Value} (h:f<1000000000):vT f us= .func (.func f) #[] us.toArray:=by simp [vT,h]
theorem bx {f:Nat} {us:List Value} (h: ¬f<1000000000):vT f us= .func (.func (f-1000000000)) us.toArray #[]:=by simp [vT,h]
theorem QV (f:Nat) (us:List Value):(vT f us).oneCell'=true:=by
 by_cases h:f<1000000000
 ·rw [dt h];rfl
 ·rw [bx h];rfl
theorem DQ (f:Nat) (us:List Value):(vT f us).cells= #[vT f us]:=by
 by_cases h:f<1000000000
 ·rw [dt h];rfl
 ·rw [bx h];rfl
def Cells (w:World) (S:Nat->Prop):(τ:Ty)->List Value->τ.den->Prop
 | .int k,cs,n=>cs= [.int k n]
 | .bool,cs,b=>cs= [.bool b]
 | .str,cs,s=>cs= [.string s]
 | .slice e,cs,xs=> ∃a len cap,cs= [.slice a len cap]/\len=xs.length/\len<=cap/\(xs= []\/ ∃g o,a=some ⟨g,o,none⟩/\g<w.heap.size/\ ¬S g/\
   ∀(i:Nat) (x:e.den),xs[i]?=some x-> ∃es:List Value,es.length=e.size/\(∀j u,es[j]?=some u->w.cell? ⟨g,o+i*e.size+j,none⟩=some u)/\Cells w S e es x)
 | .ptr a,cs,x=> ∃g o,cs= [.pointer (some ⟨g,o,none⟩)]/\g<w.heap.size/\ ¬S g/\
   ∃es:List Value,es.length=a.size/\(∀j u,es[j]?=some u->w.cell? ⟨g,o+j,none⟩=some u)/\Cells w S a es x
 | .oslice e,cs,x=>(x=none/\ ∃c,cs= [.slice none 0 c])\/ ∃xs ad len cap,x=some xs/\cs= [.slice (some ad) len cap]/\len=xs.length/\len<=cap/\(xs= []\/ ∃g o,(ad=⟨g,o,none⟩/\g<w.heap.size/\ ¬S g/\
   ∀(i:Nat) (x:e.den),xs[i]?=some x-> ∃es:List Value,es.length=e.size/\(∀j u,es[j]?=some u->w.cell? ⟨g,o+i*e.size+j,none⟩=some u)/\Cells w S e es x))
 | .optr a,cs,x=>(x=none/\cs= [.pointer none])\/ ∃y g o,x=some y/\cs= [.pointer (some ⟨g,o,none⟩)]/\g<w.heap.size/\ ¬S g/\
   ∃es:List Value,es.length=a.size/\(∀j u,es[j]?=some u->w.cell? ⟨g,o+j,none⟩=some u)/\Cells w S a es y
 | .smap v,cs,x=>(cs= [.map none]/\x= λ_=>none)\/ ∃g,cs= [.map (some g)]/\g<w.heap.size/\ ¬S g/\
   ∃es clock,w.heap[g]?=some (.map es clock)/\(∀e∈es.toList,(Ob e.key).isSome=true)/\
    (∀s,x s=none->Mc es.toList s=none)/\(∀s y,x s=some y-> ∃u,Mc es.toList s=some u/\Cells w S v [u] y)
 | .clo f c,cs,x=> ∃us:List Value,cs= [vT f us]/\Cells w S c us x
 | .unit,cs,_=>cs= []
 | .pair a r,cs,x=> ∃c1 c2,cs=c1++c2/\Cells w S a c1 x.1/\Cells w S r c2 x.2
def Au (τ:Ty) (cs:List Value):Value:=if τ.Ac then .agg cs.toArray else cs.headD undef
def Bc (w:World) (S:Nat->Prop) (τ:Ty) (v:Value) (x:τ.den):Prop:= ∃cs,Cells w S τ cs x/\v=Au τ cs
def Bf (w:World) (S:Nat->Prop):(τ:Ty)->List Value->τ.den->Prop
 | .pair a r,v::vs,x=>Bc w S a v x.1/\Bf w S r vs x.2
 | .unit,[],_=>True
 |_,_,_=>False
theorem Cells.len {w:World} {S:Nat->Prop} : ∀(τ:Ty) (cs:List Value) (x:τ.den),Cells w S τ cs x->cs.length=τ.size
 | .int k,cs,n,h=>by simp only [Cells] at h;subst h;rfl
 | .bool,cs,n,h=>by simp only [Cells] at h;subst h;rfl
 | .str,cs,n,h=>by simp only [Cells] at h;subst h;rfl
 | .slice e,cs,xs,h=>by simp only [Cells] at h;obtain ⟨a,l,c,rfl,_⟩:=h;rfl
 | .ptr e,cs,xs,h=>by simp only [Cells] at h;obtain ⟨a,l,rfl,_⟩:=h;rfl
 | .oslice e,cs,xs,h=>by simp only [Cells] at h;rcases h with ⟨_,_,rfl⟩|⟨_,_,_,_,_,rfl,_⟩<;>rfl
 | .optr e,cs,xs,h=>by simp only [Cells] at h;rcases h with ⟨_,rfl⟩|⟨_,_,_,_,rfl,_⟩<;>rfl
 | .smap e,cs,xs,h=>by simp only [Cells] at h;rcases h with ⟨rfl,_⟩|⟨_,rfl,_⟩<;>rfl
 | .clo f c,cs,xs,h=>by simp only [Cells] at h;obtain ⟨us,rfl,_⟩:=h;rfl
 | .unit,cs,xs,h=>by simp only [Cells] at h;subst h;rfl
 | .pair a r,cs,x,h=>by
  simp only [Cells] at h
  obtain ⟨c1,c2,rfl,h1,h2⟩:=h
  simp [Ty.size,Cells.len a c1 x.1 h1,Cells.len r c2 x.2 h2]
theorem Cells.Cn {w w':World} {S S':Nat->Prop} (hs:w.heap.size<=w'.heap.size) (hb: ∀k,k<w.heap.size-> ¬S k->w'.heap[k]?=w.heap[k]?)
  (hS: ∀k,k<w.heap.size->S' k->S k): ∀(τ:Ty) (cs:List Value) (x:τ.den),Cells w S τ cs x->Cells w' S' τ cs x
 | .int k,cs,n,h=>h
 | .bool,cs,n,h=>h
 | .str,cs,n,h=>h
 | .unit,cs,n,h=>h
 | .slice e,cs,xs,h=>by
  simp only [Cells] at h⊢
  obtain ⟨a,l,c,h1,h2,h3,h4⟩:=h
  refine ⟨a,l,c,h1,h2,h3,?_⟩
  rcases h4 with h4|⟨g,o,ha,hg,hn,Fh⟩
  ·exact .inl h4
  ·refine .inr ⟨g,o,ha,by omega,λhx=>hn (hS g hg hx),λi x hx=>?_⟩
   obtain ⟨es,hl,hc,Xm⟩:=Fh i x hx
   exact ⟨es,hl,λj u hu=>by rw [World.cell?_of_block (hb g hg hn)];exact hc j u hu,Cells.Cn hs hb hS e es x Xm⟩
 | .ptr a,cs,x,h=>by
  simp only [Cells] at h⊢
  obtain ⟨g,o,h1,hg,hn,es,hl,hc,Xm⟩:=h
  exact ⟨g,o,h1,by omega,λhx=>hn (hS g hg hx),es,hl,λj u hu=>by rw [World.cell?_of_block (hb g hg hn)];exact hc j u hu,Cells.Cn hs hb hS a es x Xm⟩
 | .oslice e,cs,x,h=>by
  simp only [Cells] at h⊢
  rcases h with h|⟨xs,ad,len,cap,h1,h2,h3,h4,h5⟩
  ·exact .inl h
  ·refine .inr ⟨xs,ad,len,cap,h1,h2,h3,h4,?_⟩
   rcases h5 with h5|⟨g,o,ha,hg,hn,Fh⟩
   ·exact .inl h5
   ·refine .inr ⟨g,o,ha,by omega,λhx=>hn (hS g hg hx),λi x hx=>?_⟩
    obtain ⟨es,hl,hc,Xm⟩:=Fh i x hx
    exact ⟨es,hl,λj u hu=>by rw [World.cell?_of_block (hb g hg hn)];exact hc j u hu,Cells.Cn hs hb hS e es x Xm⟩
 | .optr a,cs,x,h=>by
  simp only [Cells] at h⊢
  rcases h with h|⟨y,g,o,h0,h1,hg,hn,es,hl,hc,Xm⟩
  ·exact .inl h
  ·exact .inr ⟨y,g,o,h0,h1,by omega,λhx=>hn (hS g hg hx),es,hl,λj u hu=>by rw [World.cell?_of_block (hb g hg hn)];exact hc j u hu,Cells.Cn hs hb hS a es y Xm⟩
 | .smap v,cs,x,h=>by
  simp only [Cells] at h⊢
  rcases h with h|⟨g,h1,hg,hn,es,clock,h2,h3,h4,h5⟩
  ·exact .inl h
  ·refine .inr ⟨g,h1,by omega,λhx=>hn (hS g hg hx),es,clock,(hb g hg hn).trans h2,h3,h4,λs y hy=>?_⟩
   obtain ⟨u,h6,h7⟩:=h5 s y hy
   exact ⟨u,h6,Cells.Cn hs hb hS v [u] y h7⟩
 | .clo f c,cs,x,h=>by
  simp only [Cells] at h⊢
  obtain ⟨us,h1,h2⟩:=h
  exact ⟨us,h1,Cells.Cn hs hb hS c us x h2⟩
 | .pair a r,cs,x,h=>by
  simp only [Cells] at h⊢
  obtain ⟨c1,c2,h1,h2,h3⟩:=h
  exact ⟨c1,c2,h1,Cells.Cn hs hb hS a c1 x.1 h2,Cells.Cn hs hb hS r c2 x.2 h3⟩
theorem Cells.flat {w w':World} {S S':Nat->Prop} : ∀(τ:Ty) (cs:List Value) (x:τ.den),τ.flat=true->Cells w S τ cs x->Cells w' S' τ cs x
 | .int k,cs,n,_,h=>h
 | .bool,cs,n,_,h=>h
 | .str,cs,n,_,h=>h
 | .unit,cs,n,_,h=>h
 | .slice e,cs,xs,hf,h=>by simp [Ty.flat] at hf
 | .ptr a,cs,x,hf,h=>by simp [Ty.flat] at hf
 | .oslice a,cs,x,hf,h=>by simp [Ty.flat] at hf
 | .optr a,cs,x,hf,h=>by simp [Ty.flat] at hf
 | .smap a,cs,x,hf,h=>by simp [Ty.flat] at hf
 | .clo f a,cs,x,hf,h=>by simp [Ty.flat] at hf
 | .pair a r,cs,x,hf,h=>by
  simp only [Ty.flat,Bool.and_eq_true] at hf
  simp only [Cells] at h⊢
  obtain ⟨c1,c2,h1,h2,h3⟩:=h
  exact ⟨c1,c2,h1,Cells.flat a c1 x.1 hf.1 h2,Cells.flat r c2 x.2 hf.2 h3⟩
theorem Cells.plain {w:World} {S:Nat->Prop} : ∀(τ:Ty) (cs:List Value) (x:τ.den),Cells w S τ cs x-> ∀u∈cs,u.oneCell'=true
 | .int k,cs,n,h=>by simp only [Cells] at h;subst h;simp [Value.oneCell']
 | .bool,cs,n,h=>by simp only [Cells] at h;subst h;simp [Value.oneCell']
 | .str,cs,n,h=>by simp only [Cells] at h;subst h;simp [Value.oneCell']
 | .unit,cs,n,h=>by simp only [Cells] at h;subst h;simp
 | .slice e,cs,xs,h=>by simp only [Cells] at h;obtain ⟨a,l,c,rfl,_⟩:=h;simp [Value.oneCell']
 | .ptr a,cs,x,h=>by simp only [Cells] at h;obtain ⟨a,l,rfl,_⟩:=h;simp [Value.oneCell']
 | .oslice e,cs,xs,h=>by simp only [Cells] at h;rcases h with ⟨_,_,rfl⟩|⟨_,_,_,_,_,rfl,_⟩<;>simp [Value.oneCell']
 | .optr e,cs,xs,h=>by simp only [Cells] at h;rcases h with ⟨_,rfl⟩|⟨_,_,_,_,rfl,_⟩<;>simp [Value.oneCell']
 | .smap e,cs,xs,h=>by simp only [Cells] at h;rcases h with ⟨rfl,_⟩|⟨_,rfl,_⟩<;>simp [Value.oneCell']
 | .clo f c,cs,xs,h=>by simp only [Cells] at h;obtain ⟨us,rfl,_⟩:=h;simp [QV]
 | .pair a r,cs,x,h=>by
  simp only [Cells] at h
  obtain ⟨c1,c2,rfl,h2,h3⟩:=h
  intro u hu
  rcases List.mem_append.1 hu with hu|hu
  ·exact Cells.plain a c1 x.1 h2 u hu
  ·exact Cells.plain r c2 x.2 h3 u hu
theorem Gm {w:World} {S:Nat->Prop} (τ:Ty) (cs:List Value) (x:τ.den) (h:Cells w S τ cs x):(Au τ cs).cells=cs.toArray:=by
 cases τ<;>simp only [Cells] at h
 case int k=>subst h;simp [Au,Ty.Ac,Value.cells]
 case bool=>subst h;simp [Au,Ty.Ac,Value.cells]
 case str=>subst h;simp [Au,Ty.Ac,Value.cells]
 case unit=>subst h;simp [Au,Ty.Ac,Value.cells]
 case slice e=>obtain ⟨a,l,c,rfl,_⟩:=h;simp [Au,Ty.Ac,Value.cells]
 case ptr e=>obtain ⟨a,l,rfl,_⟩:=h;simp [Au,Ty.Ac,Value.cells]
 case oslice e=>rcases h with ⟨_,_,rfl⟩|⟨_,_,_,_,_,rfl,_⟩<;>simp [Au,Ty.Ac,Value.cells]
 case optr e=>rcases h with ⟨_,rfl⟩|⟨_,_,_,_,rfl,_⟩<;>simp [Au,Ty.Ac,Value.cells]
 case smap e=>rcases h with ⟨rfl,_⟩|⟨_,rfl,_⟩<;>simp [Au,Ty.Ac,Value.cells]
 case clo f c=>obtain ⟨us,rfl,_⟩:=h;simp [Au,Ty.Ac,DQ]
 case pair a r=>simp [Au,Ty.Ac,Value.cells]
structure QH (S:Nat->Prop) (w w':World):Prop where
 size:w.heap.size<=w'.heap.size
 block: ∀k,k<w.heap.size-> ¬S k->w'.heap[k]?=w.heap[k]?
theorem Bc.Cn {w w':World} {S S':Nat->Prop} {τ:Ty} {v:Value} {x:τ.den} (h:Bc w S τ v x) (hs:QH S w w') (hS: ∀k,k<w.heap.size->S' k->S k):Bc w' S' τ v x:=
 let ⟨cs,hc,hv⟩:=h
 ⟨cs,Cells.Cn hs.size hs.block hS τ cs x hc,hv⟩
theorem Bf.Cn {w w':World} {S S':Nat->Prop} (hs:QH S w w') (hS: ∀k,k<w.heap.size->S' k->S k): ∀(τ:Ty) (vs:List Value) (x:τ.den),Bf w S τ vs x->Bf w' S' τ vs x
 | .pair a r,[],x,h=>h
 | .pair a r,v::vs,x,h=>⟨h.1.Cn hs hS,Bf.Cn hs hS r vs x.2 h.2⟩
 | .unit,[],_,_=>trivial
 | .unit,_::_,_,h=>h
 | .int _,_,_,h=>by simp [Bf] at h
 | .bool,_,_,h=>by simp [Bf] at h
 | .str,_,_,h=>by simp [Bf] at h
 | .slice _,_,_,h=>by simp [Bf] at h
 | .ptr _,_,_,h=>by simp [Bf] at h
 | .oslice _,_,_,h=>by simp [Bf] at h
 | .optr _,_,_,h=>by simp [Bf] at h
 | .smap _,_,_,h=>by simp [Bf] at h
 | .clo _ _,_,_,h=>by simp [Bf] at h
theorem Bc.flat {w w':World} {S S':Nat->Prop} {τ:Ty} {v:Value} {x:τ.den} (hf:τ.flat=true) (h:Bc w S τ v x):Bc w' S' τ v x:=
 let ⟨cs,hc,hv⟩:=h
 ⟨cs,Cells.flat τ cs x hf hc,hv⟩
end Go.Proofs.YtfolipnappekaaaGreat
