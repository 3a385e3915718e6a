/-
  Part 7 of the proof that the statement FnExactInSubgroup holds.
-/
import Derived.Test.YtjbdmibbbpdnnaaCInSubgroup05
namespace Go.Proofs.Ytjbdmibbbpdnnaa
open Go.RowKit
section
variable {P:Program} {T:Tab} {X:Ctx} {w w':World} {π:Pi} {H:List (Nat×OB)}
def x7 (P:Program) (X:Ctx) (π:Pi) (H:List (Nat×OB)) (w:World) (av:AV):Result Next->Prop
 | .ok (.value v) w'=>w'=w/\Ak X w π H av v
 | .ok (.enter f args) w'=>w'=w/\Calls P f args w (λe me=> ∃v,e= .returned v/\Below w.heap.size w me/\Ak X me π H av v)
 |_=>False
def dz (s:Spec) (w:World) (S:Nat->Prop) (v:Value) (y:s.res.den):Prop:=
 if s.Dt then ∃us:List Value,v= .tuple us.toArray/\Aq w S s.res us y else Aw w S s.res v y
structure Sound (P:Program) (f:FuncId) (s:Spec):Prop where
 enter: ∀args w,(callFunc f args).run P w= .ok (.enter f args) w
 calls: ∀(w:World) (S:Nat->Prop) (vs:List Value) (x:s.arg.den) (y:s.res.den),(∀k,S k->k<w.heap.size)->Aq w S s.arg vs x->s.fn x=some y->
  Calls P f vs.toArray w λe w'=> ∃v,e= .returned v/\Below w.heap.size w w'/\dz s w' (λb=>S b\/(s.fresh=true/\b<w.heap.size)) v y
def Zj (w:World) (D:Nat->Prop) (r:Option Real):(c:CK)->c.den->Prop
 | .Gh _,_=>r=none
 | .row e _,xs=>Ld w D r e xs
 | .Dh e te,xs=>Hs w r e te xs
 | .part e _,x=>e.flat=true/\Ld w D r e x.1
 | .Ai e _ _,rows=>Rh w D r e rows none
def Xh (w:World) (D:Nat->Prop) (r:Option Real) (v:Value):(c:CK)->c.den->Prop
 | .Gh τ,x=>r=none/\Aw w D τ v x
 | .row e te,xs=>Di r e.size 0 (List.length xs) v/\Zj w D r (.row e te) xs
 | .Dh e te,xs=>Di r e.size 0 (List.length xs) v/\Zj w D r (.Dh e te) xs
 | .part e te,x=>(Di r e.size x.2.1 x.2.2 v/\x.2.1+x.2.2<=List.length x.1)/\Zj w D r (.part e te) x
 | .Ai e te kp,rows=>Di r 1 0 (List.length rows) v/\Zj w D r (.Ai e te kp) rows
def Xi (w:World) (D:Nat->Prop) (π:Pi):(k:Nat)->(cs:List (Bool×CK))->Ins.den cs->List Value->Prop
 |_,[],_,[]=>True
 |k,p::r,x,u::us=>Xh w D (π (Bm p.1 k)) u p.2 x.1/\Xi w D π (k+1) r x.2 us
 |_,_,_,_=>False
def Gk (w:World) (D:Nat->Prop) (π:Pi):(k:Nat)->(cs:List (Bool×CK))->IOs.den cs->Prop
 |_,[],_=>True
 |k,(true, .Gh _)::r,x=>Gk w D π (k+1) r x
 |k,(true, .Ai _ _ _)::r,x=>Gk w D π (k+1) r x
 |k,(true, .row e te)::r,x=>Zj w D (π (Bm true k)) (.row e te) x.1/\Gk w D π (k+1) r x.2
 |k,(true, .Dh e te)::r,x=>Zj w D (π (Bm true k)) (.Dh e te) x.1/\Gk w D π (k+1) r x.2
 |k,(true, .part e te)::r,x=>Zj w D (π (Bm true k)) (.row e te) x.1/\Gk w D π (k+1) r x.2
 |k,(false,_)::r,x=>Gk w D π (k+1) r x
def El (w:World) (D:Nat->Prop) (ρ:Pi):(k:Nat)->(cs:List CK)->CKs.den cs->List Value->Prop
 |_,[],_,[]=>True
 |k,c::r,x,u::us=>Xh w D (ρ (Ey k)) u c x.1/\El w D ρ (k+1) r x.2 us
 |_,_,_,_=>False
structure ao (π:Pi) (A:Nat->Prop):Prop where
 Om: ∀l r b,π l=some r->r.Ar b->A b
 inj: ∀l l' r r' b,π l=some r->π l'=some r'->r.Ar b->r'.Ar b->l=l'
def Uw:List (Option Nat)->List Value->Prop
 | [],[]=>True
 |none::s,_::us=>Uw s us
 |some n::s,us=>n<=us.length/\(∀u∈us.take n,u.oneCell'=true)/\Uw s (us.drop n)
 |_,_=>False
def DF (Dt:Bool) (sh:List (Option Nat)) (us:List Value) (v:Value):Prop:=if Dt then v= .tuple (Ga sh us).toArray else Ga sh us= [v]\/Ga sh us= []
def cy (S:Nat->Prop) (π ρ:Pi) (b:Nat):Prop:=S b\/(∃l q,Ah<=l/\π l=some q/\q.Ar b)\/Nf ρ b
def gb (s:MSpec) (w:World) (g:Nat) (us vs:List Value):Prop:=
 match s.ptr with
 |none=>vs=Ga s.Gg us/\Uw s.Gg us
 |some p=>vs= .pointer (some ⟨g,0,none⟩)::Ga s.Gg (us.drop p.2)/\Uw s.Gg (us.drop p.2)/\p.2<=us.length/\w.heap[g]?=some (.cells (us.take p.2).toArray p.1 (0,0))/\ ∀u∈us.take p.2,u.oneCell'=true
def MSpec.gv (s:MSpec) (g b:Nat):Prop:=s.ptr.isSome=true/\b=g
def Bt (π:Pi):(k:Nat)->(cs:List (Bool×CK))->IOs.den cs->(n:Nat)->List Value->List Value->Prop
 |_,_,_,0,us,_=>us= []
 |k,(true, .row e _)::r,o,n+1,u::us,as=>Di (π (Bm true k)) e.size 0 (List.length o.1) u/\Bt π (k+1) r o.2 n us as
 |k,(true, .Dh e _)::r,o,n+1,u::us,as=>Di (π (Bm true k)) e.size 0 (List.length o.1) u/\Bt π (k+1) r o.2 n us as
 |k,(false,_)::r,o,n+1,u::us,a::as=>u=a/\Bt π (k+1) r o n us as
 |_,_,_,_,_,_=>False
def dx (s:MSpec) (π:Pi) (w':World) (g:Nat) (Qz:List Value) (o:IOs.den s.ins):Prop:=
 match s.ptr with
 |none=>True
 |some p=> ∃cs,w'.heap[g]?=some (.cells cs.toArray p.1 (0,0))/\(∀u∈cs,u.oneCell'=true)/\Bt π 0 s.ins o p.2 cs Qz
def ry (w w':World) (r r':Option Real) (n:Nat):Prop:=match r,r' with
 |none,none=>True
 |some q,some q'=>q'.g=q.g/\q'.o=q.o/\q'.cap=q.cap/\ ∀j,j<n->j<q.cap->w'.cell? ⟨q.g,q.o+j,none⟩=w.cell? ⟨q.g,q.o+j,none⟩
 |_,_=>False
def jW (s:MSpec) (w':World) (ρ:Pi) (us:List Value) (v:Value):Prop:=match s.rp with
 |none=>DF s.Dt s.Fk us v/\Uw s.Fk us
 |some tid=> ∃q,ρ (Ey s.outs.length)=some q/\q.Ar q.g/\w'.heap[q.g]?=some (.cells us.toArray tid (0,0))/\(∀u∈us,u.oneCell'=true)/\v= .pointer (some ⟨q.g,0,none⟩)
def MSpec.Ml (s:MSpec):Nat:=s.outs.length+(match s.rp with|none=>0|some _=>1)
structure Du (P:Program) (f:FuncId) (s:MSpec):Prop where
 enter: ∀args w,(callFunc f args).run P w= .ok (.enter f args) w
 calls: ∀(w:World) (S:Nat->Prop) (π:Pi) (us:List Value) (x:Ins.den s.ins) (r:CKs.den s.outs) (o:IOs.den s.ins) (g:Nat) (vs:List Value),
  gb s w g us vs->(s.ptr.isSome=true->S g)->Xi w (λb=>Nf π b\/S b) π 0 s.ins x us->ao π (λb=>b<w.heap.size)->(∀b,S b->b<w.heap.size/\ ¬Nf π b)->(∀l,Ad (Qq 0 s.ins x) l=none->π l=none)->s.fn x=some (r,o)->
  Calls P f vs.toArray w λe w'=> ∃v Qz ρ,e= .returned v/\jW s w' ρ (Qz.drop s.Rl) v/\dx s π w' g Qz o/\Fl w.heap.size (λb=>Nf π b\/s.gv g b) w w'/\Gk w' (cy S π ρ) π 0 s.ins o/\El w' (cy S π ρ) ρ 0 s.outs r Qz/\
   ao ρ (λb=>b<w'.heap.size/\(w.heap.size<=b\/ ∃l q,l<Ah/\π l=some q/\q.Ar b))/\(∀l,(∀k,k<s.Ml->l≠Ey k)->ρ l=none)/\(∀kj∈s.keeps,ry w w' (π (Bm false kj.1)) (ρ (Ey kj.2)) (s.Cj x))
def JZ (P:Program) (f:FuncId):ez->Prop
 | .q s=>Sound P f s
 | .m s=>Du P f s
 | .b s m=>Sound P f s/\Du P f m
def Hc (P:Program) (Γ:Env):Prop:= ∀f s,Γ f=some s->JZ P f s
theorem Hc.reg {P:Program} {Γ:Env} (h:Hc P Γ) (draw:Bool):Hc P (qk Γ draw):= λf s hs=>by
 unfold qk at hs
 split at hs
 ·rename_i s0 m Lb
  have:=h f _ Lb
  cases draw with
  |true=>simp only [if_true,Option.some.injEq] at hs;subst hs;exact this.1
  |false=>simp only [Bool.false_eq_true,if_false,Option.some.injEq] at hs;subst hs;exact this.2
 ·exact h f s hs
theorem Jd {k:IntKind} {n:Int} {fr:Bool} {v:Value} (h:Ak X w π H (.at (.data fr (.int k) n)) v):v= .int k n:=by
 obtain ⟨cs,h1,rfl⟩:=h;simp only [Cells] at h1;subst h1;rfl
theorem Qw {b:Bool} {fr:Bool} {v:Value} (h:Ak X w π H (.at (.data fr .bool b)) v):v= .bool b:=by
 obtain ⟨cs,h1,rfl⟩:=h;simp only [Cells] at h1;subst h1;rfl
theorem Yp {s:ByteArray} {fr:Bool} {v:Value} (h:Ak X w π H (.at (.data fr .str s)) v):v= .string s:=by
 obtain ⟨cs,h1,rfl⟩:=h;simp only [Cells] at h1;subst h1;rfl
theorem Hx (k:IntKind) (n:Int) (fr:Bool):Ak X w π H (.at (.data fr (.int k) n)) (.int k n):=⟨[.int k n],rfl,rfl⟩
theorem Gz (b:Bool) (fr:Bool):Ak X w π H (.at (.data fr .bool b)) (.bool b):=⟨[.bool b],rfl,rfl⟩
theorem gL (s:ByteArray) (fr:Bool):Ak X w π H (.at (.data fr .str s)) (.string s):=⟨[.string s],rfl,rfl⟩
theorem MJ (f:FuncId):Ak X w π H (.at (.clo f [])) (.func (.func f) #[] #[]):=⟨[],rfl,rfl,λi p hi=>by simp at hi⟩
theorem yf (v:Value):Ak X w π H (eL v) v:=by
 unfold eL
 split
 ·exact Hx _ _ _
 ·exact Gz _ _
 ·exact gL _ _
 ·rfl
 ·rfl
 ·trivial
theorem Bj {st:St} {a:Act} (h:jV X w π st a) (x:Operand):Ak X w π st.heap (st.ev x) (a.eval x):=by
 cases x with
 |tmp t=>exact h.tmps t
 |const v=>exact yf v
 |global g=>trivial
 |func f=>exact MJ f
theorem vF (op:BinOp) (k:IntKind) (a b:Int) (t:TypeId) (av:AV) (h:kS op k a b=some av):
  ∃v,(binOp op t (.int k a) (.int k b)).run P w= .ok v w/\Ak X w π H av v:=by
 cases op<;>simp only [kS,Rr,It] at h
 case add=>cases h;exact ⟨_,by simp [binOp,Op.intArith],Hx _ _ _⟩
 case sub=>cases h;exact ⟨_,by simp [binOp,Op.intArith],Hx _ _ _⟩
 case mul=>cases h;exact ⟨_,by simp [binOp,Op.intArith],Hx _ _ _⟩
 case quo=>split at h<;>cases h;rename_i hb;exact ⟨_,by simp [binOp,Op.intDiv,hb],Hx _ _ _⟩
 case rem=>split at h<;>cases h;rename_i hb;exact ⟨_,by simp [binOp,Op.intDiv,hb],Hx _ _ _⟩
 case and=>cases h;exact ⟨_,by simp [binOp,Op.intBits],Hx _ _ _⟩
 case or=>cases h;exact ⟨_,by simp [binOp,Op.intBits],Hx _ _ _⟩
 case eql=>cases h;exact ⟨_,by simp [binOp,Op.intCmp],Gz _ _⟩
 case neq=>cases h;exact ⟨_,by simp [binOp,Op.intCmp],Gz _ _⟩
 case lss=>cases h;exact ⟨_,by simp [binOp,Op.intCmp],Gz _ _⟩
 case leq=>cases h;exact ⟨_,by simp [binOp,Op.intCmp],Gz _ _⟩
 case gtr=>cases h;exact ⟨_,by simp [binOp,Op.intCmp],Gz _ _⟩
 case geq=>cases h;exact ⟨_,by simp [binOp,Op.intCmp],Gz _ _⟩
 all_goals cases h
theorem s6 (op:BinOp) (x y:AV) (vx vy:Value) (ox oy:Operand) (t:TypeId) (av:AV) (hx:Ak X w π H x vx) (hy:Ak X w π H y vy) (h:evalBin op x y=some av):
  ∃v,(do eqGuard op t ox oy vx vy;binOp op t vx vy:Sem Value).run P w= .ok v w/\Ak X w π H av v:=by
 unfold evalBin at h
 split at h
 ·rename_i k a _ k' b
  have:=Jd hx;subst this
  have:=Jd hy;subst this
  have hg: ∀op,(eqGuard op t ox oy (.int k a) (.int k' b)).run P w= .ok () w:=by intro op;cases op<;>simp [eqGuard]
  split at h
  ·split at h
   ·cases h
   ·rename_i hb
    simp only [Rr,Option.some.injEq] at h;subst h
    exact ⟨_,by rw [Sem.run_bind,hg];simp [binOp,Op.shift,hb],Hx _ _ _⟩
  ·split at h
   ·cases h
   ·rename_i hb
    simp only [Rr,Option.some.injEq] at h;subst h
    exact ⟨_,by rw [Sem.run_bind,hg];simp [binOp,Op.shift,hb],Hx _ _ _⟩
  ·split at h
   ·rename_i hk;subst hk
    obtain ⟨v,h1,h2⟩:=vF (P:=P) (w:=w) (X:=X) (π:=π) (H:=H) op k a b t av h
    exact ⟨v,by rw [Sem.run_bind,hg];exact h1,h2⟩
   ·cases h
 ·rename_i a _ b
  have:=Yp hx;subst this
  have:=Yp hy;subst this
  have hg: ∀op,(eqGuard op t ox oy (.string a) (.string b)).run P w= .ok () w:=by intro op;cases op<;>simp [eqGuard]
  split at h
  ·simp only [It,Option.some.injEq] at h;subst h
   exact ⟨_,by rw [Sem.run_bind,hg];simp [binOp,Op.stringOp],Gz _ _⟩
  ·simp only [It,Option.some.injEq] at h;subst h
   exact ⟨_,by rw [Sem.run_bind,hg];simp [binOp,Op.stringOp],Gz _ _⟩
  ·split at h
   ·rename_i hl
    simp only [Option.some.injEq] at h;subst h
    exact ⟨_,by rw [Sem.run_bind,hg];simp only [Result.andThen_ok,binOp];exact run_string_add_sum w a b (by omega),gL _ _⟩
   ·cases h
  ·cases h
 ·cases h
theorem bA {t:TypeId} (h:P.underlying t=some .bool) (a b:Bool) (w:World):(Op.equal t (.bool a) (.bool b)).run P w= .ok (a==b) w:=by
 unfold Op.equal
 rw [show Op.maxDepth=9999+1 from rfl]
 unfold Op.equalIn
 rw [Sem.run_bind,run_underlying h]
 rfl
theorem td (hT:Bu P T) {x:AV} {vx:Value} {b:Bool} {t:TypeId} (hx:Ak X w π H x vx) (h:Wa x=some b) (ht:(T.elem t).isSome=true):
  (∃a len cap,vx= .slice a len cap/\(match a with|none=>true|some _=>false)=b)/\(Op.equal t vx (.slice none 0 0)).run P w= .ok b w:=by
 have h1: ∃a len cap,vx= .slice a len cap/\(match a with|none=>true|some _=>false)=b:=by
  unfold Wa at h
  split at h
  ·simp only [Option.some.injEq] at h;subst h
   have hx:vx= .slice none 0 0:=hx
   exact ⟨none,0,0,hx,rfl⟩
  ·simp only [Option.some.injEq] at h;subst h
   obtain ⟨cs,hc,rfl⟩:=hx
   simp only [Cells] at hc
   rcases hc with ⟨rfl,c,rfl⟩|⟨xs,ad,len,cap,rfl,rfl,_⟩
   ·exact ⟨none,0,c,by simp [Am,Ty.Ab],rfl⟩
   ·exact ⟨some ad,len,cap,by simp [Am,Ty.Ab],rfl⟩
  ·cases h
 refine ⟨h1,?_⟩
 obtain ⟨a,len,cap,rfl,rfl⟩:=h1
 obtain ⟨te,cT⟩:=Option.isSome_iff_exists.1 ht
 have hu:=hT.elem t te cT
 unfold Op.equal
 rw [show Op.maxDepth=9999+1 from rfl]
 unfold Op.equalIn
 rw [Sem.run_bind,run_underlying hu]
 cases a<;>rfl
theorem tb (hT:Bu P T) {x:AV} {vx:Value} {b:Bool} {t:TypeId} (hx:Ak X w π H x vx) (h:Vz x=some b) (ht:BZ (T.ty t)=true):
  (∃a,vx= .pointer a/\(match a with|none=>true|some _=>false)=b)/\(Op.equal t vx (.pointer none)).run P w= .ok b w:=by
 have h1: ∃a,vx= .pointer a/\(match a with|none=>true|some _=>false)=b:=by
  unfold Vz at h
  split at h
  ·simp only [Option.some.injEq] at h;subst h
   have hx:vx= .pointer none:=hx
   exact ⟨none,hx,rfl⟩
  ·simp only [Option.some.injEq] at h;subst h
   obtain ⟨r,tid,vs,_,_,rfl⟩:=hx
   exact ⟨_,rfl,rfl⟩
  ·simp only [Option.some.injEq] at h;subst h
   obtain ⟨cs,hc,rfl⟩:=hx
   simp only [Cells] at hc
   rcases hc with ⟨rfl,rfl⟩|⟨xs,g,o,rfl,rfl,_⟩
   ·exact ⟨none,by simp [Am,Ty.Ab],rfl⟩
   ·exact ⟨some ⟨g,o,none⟩,by simp [Am,Ty.Ab],rfl⟩
  ·simp only [Option.some.injEq] at h;subst h
   obtain ⟨cs,hc,rfl⟩:=hx
   simp only [Cells] at hc
   obtain ⟨g,o,rfl,_⟩:=hc
   exact ⟨some ⟨g,o,none⟩,by simp [Am,Ty.Ab],rfl⟩
  ·cases h
 refine ⟨h1,?_⟩
 obtain ⟨a,rfl,rfl⟩:=h1
 have hu: ∃u,P.underlying t=some (.pointer u):=by
  cases Pd:T.ty t with
  |none=>rw [Pd] at ht;cases ht
  |some τ=>
   have hd:=(hT.ty t τ Pd).desc
   rw [Pd] at ht
   cases τ<;>first|exact hd|cases ht
 obtain ⟨u,hu⟩:=hu
 unfold Op.equal
 rw [show Op.maxDepth=9999+1 from rfl]
 unfold Op.equalIn
 rw [Sem.run_bind,run_underlying hu]
 cases a<;>rfl
theorem pj {T:Tab} (hT:Bu P T) (op:BinOp) (x y:AV) (vx vy:Value) (ox oy:Operand) (t:TypeId) (av:AV) (hx:Ak X w π H x vx) (hy:Ak X w π H y vy) (h:Ls T op t x y=some av):
  ∃v,(do eqGuard op t ox oy vx vy;binOp op t vx vy:Sem Value).run P w= .ok v w/\Ak X w π H av v:=by
 unfold Ls at h
 split at h
 ·split at h
  ·rename_i ht
   cases hn:Wa x with
   |none=>rw [hn] at h;cases h
   |some b=>
    rw [hn] at h
    simp only [Option.bind_some,It,Option.some.injEq] at h;subst h
    have hy:vy= .slice none 0 0:=hy
    subst hy
    obtain ⟨⟨a,len,cap,rfl,_⟩,h2⟩:=td hT hx hn ht
    exact ⟨.bool b,by rw [Sem.run_bind];simp [eqGuard,binOp,h2],Gz _ _⟩
  ·cases h
 ·split at h
  ·rename_i ht
   cases hn:Vz x with
   |none=>rw [hn] at h;cases h
   |some b=>
    rw [hn] at h
    simp only [Option.bind_some,It,Option.some.injEq] at h;subst h
    have hy:vy= .pointer none:=hy
    subst hy
    obtain ⟨⟨a,rfl,_⟩,h2⟩:=tb hT hx hn ht
    exact ⟨.bool b,by rw [Sem.run_bind];simp [eqGuard,binOp,h2],Gz _ _⟩
  ·cases h
 ·split at h
  ·rename_i ht
   cases hn:Wa x with
   |none=>rw [hn] at h;cases h
   |some b=>
    rw [hn] at h
    simp only [Option.bind_some,It,Option.some.injEq] at h;subst h
    have hy:vy= .slice none 0 0:=hy
    subst hy
    obtain ⟨⟨a,len,cap,rfl,_⟩,h2⟩:=td hT hx hn ht
    exact ⟨.bool (!b),by rw [Sem.run_bind];simp [eqGuard,binOp,h2],Gz _ _⟩
  ·cases h
 ·split at h
  ·rename_i ht
   cases hn:Vz x with
   |none=>rw [hn] at h;cases h
   |some b=>
    rw [hn] at h
    simp only [Option.bind_some,It,Option.some.injEq] at h;subst h
    have hy:vy= .pointer none:=hy
    subst hy
    obtain ⟨⟨a,rfl,_⟩,h2⟩:=tb hT hx hn ht
    exact ⟨.bool (!b),by rw [Sem.run_bind];simp [eqGuard,binOp,h2],Gz _ _⟩
  ·cases h
 ·rename_i a _ b
  have:=Qw hx;subst this
  have:=Qw hy;subst this
  split at h
  ·rename_i ht
   simp only [It,Option.some.injEq] at h;subst h
   have hu:P.underlying t=some .bool:=(hT.ty t _ ht).desc
   exact ⟨_,by rw [Sem.run_bind];simp [eqGuard,binOp,bA hu],Gz _ _⟩
  ·cases h
 ·rename_i a _ b
  have:=Qw hx;subst this
  have:=Qw hy;subst this
  split at h
  ·rename_i ht
   simp only [It,Option.some.injEq] at h;subst h
   have hu:P.underlying t=some .bool:=(hT.ty t _ ht).desc
   exact ⟨_,by rw [Sem.run_bind];simp [eqGuard,binOp,bA hu],Gz _ _⟩
  ·cases h
 ·exact s6 op x y vx vy ox oy t av hx hy h
theorem va (op:UnOp) (x:AV) (vx:Value) (av:AV) (hx:Ak X w π H x vx) (h:pt op x=some av):
  ∃v,(Op.unary op vx).run P w= .ok v w/\Ak X w π H av v:=by
 unfold pt at h
 split at h
 ·have:=Qw hx;subst this
  simp only [It,Option.some.injEq] at h;subst h
  exact ⟨_,by simp [Op.unary],Gz _ _⟩
 ·have:=Jd hx;subst this
  simp only [Rr,Option.some.injEq] at h;subst h
  exact ⟨_,by simp [Op.unary,Op.intArith],Hx _ _ _⟩
 ·cases h
theorem Ea {t:TypeId} {τ:Ty} (ht:jj P T t τ) (g o:Nat) (es:List Value) (hl:es.length=τ.size) (hc: ∀j u,es[j]?=some u->w.cell? ⟨g,o+j,none⟩=some u):
  (loadVar t ⟨g,o,none⟩).run P w= .ok (Am τ es) w:=by
 unfold loadVar
 rw [Sem.run_bind,ht.agg,Result.andThen_ok]
 cases hs:τ.Ab with
 |true=>
  simp only [if_true,Sem.run_bind,ht.size,Result.andThen_ok]
  rw [<-hl,run_loadCells_list w ⟨g,o,none⟩ es (λj v hv=>by rw [Addr.add_lit];exact hc j v hv)]
  simp [Am,hs]
 |false=>
  have h1:τ.size=1:=by cases τ<;>simp_all [Ty.Ab,Ty.size]
  rw [h1] at hl
  obtain ⟨u,rfl⟩:=List.length_eq_one_iff.1 hl
  have:=hc 0 u rfl
  simp only [Nat.add_zero] at this
  simp [this,Am,hs]
theorem qo {fr:Bool} {τ:Ty} {x:τ.den} {v:Value} (h:Ak X w π H (.at (.data fr τ x)) v):Ak X w π H (.at (.data (fr||τ.flat) τ x)) v:=by
 cases hf:τ.flat with
 |true=>exact Aw.flat hf h
 |false=>rw [Bool.or_false];exact h
theorem nf {cs ds:List AC} {us vs:List Value} (h1:Cl X w π H cs us) (h2:Cl X w π H ds vs):Cl X w π H (cs++ds) (us++vs):=by
 have e1:=h1.1
 refine ⟨by simp [h1.1,h2.1],λi c hc=>?_⟩
 by_cases hi:i<cs.length
 ·rw [List.getElem?_append_left hi] at hc
  obtain ⟨u,hu,h3⟩:=h1.2 i c hc
  exact ⟨u,by rw [List.getElem?_append_left (by omega)];exact hu,h3⟩
 ·rw [List.getElem?_append_right (by omega)] at hc
  obtain ⟨u,hu,h3⟩:=h2.2 _ c hc
  exact ⟨u,by rw [List.getElem?_append_right (by omega),e1];exact hu,h3⟩
theorem Yo {c:AC} {u:Value} (h1:u.oneCell'=true) (h2:Dk X w π H c u):Cl X w π H [c] [u]:=⟨rfl,λi c' hc=>by
 rcases i with _|i
 ·simp at hc;subst hc;exact ⟨u,rfl,h1,h2⟩
 ·simp at hc⟩
theorem wP {l i:Nat} {e:Ty} {tid:TypeId} {xs:List e.den} {r:Real} (hl:Ad H l=some (.Cu e tid xs)) (hp:π l=some r) (hi:i<xs.length): ∀(τ:Ty) (c:Nat) (F:List Nat) (us:List Value) (x:τ.den),
  Az w F τ us x->c+τ.size<=e.size->(∀j u,us[j]?=some u->w.cell? ⟨r.g,(r.o+i)*e.size+(c+j),none⟩=some u)->Cl X w π H (Zb l i c τ x) us:=by
 intro τ
 induction τ with
 |unit=>intro c F us x h _ _;simp only [Az] at h;obtain ⟨_,rfl⟩:=h;exact ⟨rfl,λi c hc=>by simp [Zb] at hc⟩
 |pair a r ey cf=>
  intro c F us x h hle hc
  have pz:=Az.cells (S:= λ_=>False) F _ us x h (λ_ _ h=>h)
  simp only [Az] at h
  obtain ⟨c1,c2,F1,F2,rfl,rfl,h1,h2⟩:=h
  have sv:c1.length=a.size:=Cells.len a c1 x.1 (Az.cells (S:= λ_=>False) F1 a c1 x.1 h1 (λ_ _ h=>h))
  simp only [Ty.size] at hle
  refine nf (ey c F1 c1 x.1 h1 (by omega) λj u hu=>hc j u (by rw [List.getElem?_append_left (List.getElem?_eq_some_iff.1 hu).1];exact hu)) (cf (c+a.size) F2 c2 x.2 h2 (by omega) λj u hu=>?_)
  have:=hc (a.size+j) u (by rw [List.getElem?_append_right (by omega),sv];simpa using hu)
  rw [show c+a.size+j=c+(a.size+j) by omega];exact this
 |int k=>intro c F us x h _ _;simp only [Az] at h;obtain ⟨_,rfl⟩:=h;exact Yo rfl (Hx (H:=H) k x true)
 |bool=>intro c F us x h _ _;simp only [Az] at h;obtain ⟨_,rfl⟩:=h;exact Yo rfl (Gz (H:=H) x true)
 |str=>intro c F us x h _ _;simp only [Az] at h;obtain ⟨_,rfl⟩:=h;exact Yo rfl (gL (H:=H) x true)
 |slice e'=>
  intro c F us x h hle hc
  simp only [Az] at h
  obtain ⟨a,len,cap,rfl,_⟩:=h
  exact Yo rfl ⟨r,_,e.size,xs.length,hl,rfl,hp,hi,⟨by simp only [Ty.size] at hle;omega,_,_,_,rfl⟩,by simpa using hc 0 _ rfl⟩
 |_=>intro c F us x h;simp only [Az] at h
theorem eR (hT:Bu P T) {st:St} {a:Act} (h:Af X π st a w) (t:TypeId) (p:AV) (vp:Value) (av:AV) (hp:Ak X w π st.heap p vp) (he:Ji T st t p=some av):
  ∃v,(Instr.loadAt t vp).run P w= .ok v w/\Ak X w π st.heap av v:=by
 unfold Ji at he
 split at he
 ·rename_i τ fr Ie x ht
  split at he
  ·rename_i Lu
   subst Lu
   simp only [Option.some.injEq] at he;subst he
   have Pd:=hT.ty _ _ ht
   obtain ⟨cs,hc,rfl⟩:=hp
   simp only [Cells] at hc
   obtain ⟨g,o,rfl,hg,hn,es,hl,Qn,Tj⟩:=hc
   refine ⟨Am Ie es,?_,qo (show Ak X w π st.heap (.at (.data fr Ie _)) (Am Ie es) from ⟨es,Tj,rfl⟩)⟩
   have hr:=Ea (P:=P) (w:=w) Pd g o es hl Qn
   show (do loadVar t (<-Instr.sureAddr (.pointer (some ⟨g,o,none⟩))):Sem Value).run P w=_
   simpa [Instr.sureAddr] using hr
  ·cases he
 ·rename_i τ fr Ie x ht
  split at he
  ·rename_i Lu
   subst Lu
   simp only [Option.some.injEq] at he;subst he
   have Pd:=hT.ty _ _ ht
   obtain ⟨cs,hc,rfl⟩:=hp
   simp only [Cells] at hc
   rcases hc with ⟨h0,_⟩|⟨y,g,o,h0,rfl,hg,hn,es,hl,Qn,Tj⟩
   ·cases h0
   simp only [Option.some.injEq] at h0;subst h0
   refine ⟨Am Ie es,?_,qo (show Ak X w π st.heap (.at (.data fr Ie _)) (Am Ie es) from ⟨es,Tj,rfl⟩)⟩
   have hr:=Ea (P:=P) (w:=w) Pd g o es hl Qn
   show (do loadVar t (<-Instr.sureAddr (.pointer (some ⟨g,o,none⟩))):Sem Value).run P w=_
   simpa [Instr.sureAddr] using hr
  ·cases he
 ·rename_i τ l i ht
  have Pd:=hT.ty _ _ ht
  split at he
  ·rename_i tid vs hl
   obtain ⟨r,Mp,rq,h1,h2,rfl⟩:=hp
   unfold St.at at hl
   rw [hl] at h1;cases h1
   obtain ⟨r',h3,h4,cur,h5,h6⟩:=(h.1.heap l).La hl
   rw [h2] at h3;cases h3
   split at he
   ·rename_i hs
    split at he
    ·rename_i hlen
     simp only [Option.some.injEq] at he;subst he
     have Of:cur.toList.length=vs.length:=h6.1
     refine ⟨_,by
      simp only [Instr.loadAt,Instr.sureAddr]
      simpa using Ea (P:=P) (w:=w) Pd r.g i ((cur.toList.drop i).take τ.size) (by simp at Of⊢;omega) (λj u hu=>by
       rw [cellOf h5]
       rw [List.getElem?_take] at hu
       split at hu
       ·rw [List.getElem?_drop] at hu;simpa using hu
       ·cases hu),?_⟩
     exact ⟨_,by simp [Am,hs],Qv h6 i τ.size⟩
    ·cases he
   ·rename_i hs
    simp only [Bool.not_eq_true] at hs
    have h1:τ.size=1:=by cases τ<;>simp_all [Ty.Ab,Ty.size]
    cases hi:vs[i]? with
    |none=>rw [hi] at he;cases he
    |some c=>
     rw [hi] at he
     simp only [Option.map_some,Option.some.injEq] at he;subst he
     obtain ⟨u,hu,_,hc⟩:=h6.2 i c hi
     refine ⟨u,?_,hc⟩
     simp only [Instr.loadAt,Instr.sureAddr]
     have:=Ea (P:=P) (w:=w) Pd r.g i [u] (by simp [h1]) (λj u' ah=>by
       rcases j with _|j
       ·simp at ah;subst ah;rw [Nat.add_zero,cellOf h5];simpa using hu
       ·simp at ah)
     simpa [Am,hs] using this
  ·cases he
 ·rename_i τ l i ht
  have Pd:=hT.ty _ _ ht
  split at he
  ·rename_i fr tr e tid xs hl
   split at he
   ·rename_i heq;subst heq
    obtain ⟨r,b,sz,n,h1,h0,h2,h3,rfl⟩:=hp
    unfold St.at at hl
    rw [hl] at h1;cases h1
    simp only [OB.row,Option.some.injEq,Prod.mk.injEq] at h0
    obtain ⟨rfl,rfl⟩:=h0
    have hb:=(h.1.heap l).La hl
    simp only [Ao,Ew,h3] at hb
    obtain ⟨h4,cur,_,h5,h6,h7,h8,h9,_⟩:=hb
    have hx:xs[i]?=some xs[i]:=List.getElem?_eq_getElem h2
    rw [hx] at he
    simp only [Option.map_some,Option.some.injEq] at he;subst he
    obtain ⟨es,Xf,hj,pz⟩:=h9 i _ hx
    refine ⟨Am e es,?_,qo (show Ak X w π st.heap (.at (.data fr e _)) (Am e es) from ⟨es,pz,rfl⟩)⟩
    simp only [Instr.loadAt,Instr.sureAddr]
    simpa using Ea (P:=P) (w:=w) Pd r.g ((r.o+i)*e.size) es Xf (λj u hu=>by rw [cellOf h5];exact hj j u hu)
   ·cases he
  ·rename_i e tid xs hl
   split at he
   ·rename_i heq;subst heq
    obtain ⟨r,b,sz,n,h1,h0,h2,h3,rfl⟩:=hp
    unfold St.at at hl
    rw [hl] at h1;cases h1
    simp only [OB.row,Option.some.injEq,Prod.mk.injEq] at h0
    obtain ⟨rfl,rfl⟩:=h0
    have hb:=(h.1.heap l).La hl
    simp only [Ao,Hs,h3] at hb
    obtain ⟨h4,cur,_,h5,h6,h7,h8,Fs,k1,k2,k3,k4⟩:=hb
    have hx:xs[i]?=some xs[i]:=List.getElem?_eq_getElem h2
    rw [hx] at he
    simp only [Option.map_some,Option.some.injEq] at he;subst he
    obtain ⟨es,Xf,hj,pz⟩:=k4 i _ _ hx (List.getElem?_eq_getElem (by omega))
    have GL:=wP (X:=X) (H:=st.heap) hl h3 h2 e 0 _ es _ pz (by omega) (λj u hu=>by rw [cellOf h5,Nat.zero_add];exact hj j u hu)
    refine ⟨Am e es,?_,?_⟩
    ·simp only [Instr.loadAt,Instr.sureAddr]
     simpa using Ea (P:=P) (w:=w) Pd r.g ((r.o+i)*e.size) es Xf (λj u hu=>by rw [cellOf h5];exact hj j u hu)
    ·cases Qy:e.Ab with
     |true=>rw [if_pos rfl];exact ⟨es,by simp [Am,Qy],GL⟩
     |false=>
      rw [if_neg (by simp)]
      have h1:e.size=1:=by cases e<;>simp_all [Ty.Ab,Ty.size]
      rw [h1] at Xf
      obtain ⟨u,rfl⟩:=List.length_eq_one_iff.1 Xf
      have sv:=GL.1
      generalize Zb l i 0 e xs[i]=sc at*
      simp only [List.length_cons,List.length_nil] at sv
      obtain ⟨c,rfl⟩:=List.length_eq_one_iff.1 sv.symm
      obtain ⟨u',ah,_,sq⟩:=GL.2 0 c rfl
      simp at ah;subst ah
      have e1:Am e [u]=u:=by simp [Am,Qy]
      rw [e1]
      exact sq
   ·cases he
  ·rename_i e te rows kp hl
   split at he
   ·cases he
   ·rename_i Qy
    simp only [Bool.not_eq_true] at Qy
    simp only [Option.some.injEq] at he;subst he
    obtain ⟨r,b,sz,n,h1,h0,h2,h3,rfl⟩:=hp
    unfold St.at at hl
    rw [hl] at h1;cases h1
    simp only [OB.row,Option.some.injEq,Prod.mk.injEq] at h0
    obtain ⟨rfl,rfl⟩:=h0
    obtain ⟨u,R,k1,k2,k3⟩:=eZ h.1 hl h3 h2 (by simp)
    have Od:τ.size=1:=by cases τ<;>simp_all [Ty.Ab,Ty.size]
    refine ⟨u,?_,r,_,1,rows.length,hl,rfl,h3,h2,⟨by omega,Se k2⟩,by rw [Nat.mul_one,Nat.add_zero];exact k1⟩
    simp only [Instr.loadAt,Instr.sureAddr]
    have:=Ea (P:=P) (w:=w) Pd r.g ((r.o+i)*1) [u] (by simp [Od]) (λj u' ah=>by
     rcases j with _|j
     ·simp at ah;subst ah;rw [Nat.mul_one,Nat.add_zero];exact k1
     ·simp at ah)
    simpa [Am,Qy] using this
  ·cases he
 ·rename_i τ l i j ht
  have Pd:=hT.ty _ _ ht
  split at he
  ·rename_i e te rows kp hl
   split at he
   ·rename_i heq;subst heq
    simp only [Option.some.injEq] at he;subst he
    obtain ⟨r,b,n,sz,g,o,len,cap,h1,h0,h2,h3,h4,h5,rfl⟩:=hp
    unfold St.at at hl
    rw [hl] at h1;cases h1
    simp only [OB.mB,Option.some.injEq,Prod.mk.injEq] at h0
    obtain ⟨rfl,rfl⟩:=h0
    obtain ⟨u,R,k1,k2,k3⟩:=eZ h.1 hl h2 h3 (by simp)
    rw [h5] at k1
    have hu:=Option.some.inj k1
    subst hu
    cases R with
    |none=>obtain ⟨hh,_⟩:=k2;cases hh
    |some q=>
     obtain ⟨ad,hh,g1,g2⟩:=k2
     simp only [Value.slice.injEq,Option.some.injEq] at hh
     obtain ⟨rfl,rfl,rfl⟩:=hh
     have AU:=g2 (by omega)
     simp only [Addr.mk.injEq,and_true] at AU
     obtain ⟨rfl,rfl⟩:=AU
     obtain ⟨f1,cur,ti,f2,f3,f4,f5,f6⟩:=k3
     have hj:(rows.getD i [])[j]?=some ((rows.getD i []).getD j e.zero):=by rw [List.getD_eq_getElem?_getD (l:=rows.getD i []),List.getElem?_eq_getElem h4];rfl
     obtain ⟨es,Xf,c1,c2⟩:=f6 j _ hj
     refine ⟨Am e es,?_,qo (fr:=false) (show Ak X w π st.heap (.at (.data false e _)) (Am e es) from ⟨es,c2,rfl⟩)⟩
     simp only [Instr.loadAt,Instr.sureAddr]
     simpa using Ea (P:=P) (w:=w) Pd q.g ((q.o+0)*e.size+j*e.size) es Xf (λm u hu=>by rw [cellOf f2,Nat.add_zero,<-Nat.add_mul];exact c1 m u hu)
   ·cases he
  ·cases he
 ·cases he
theorem BV {α:Type} {xs:List α} {n:Int} {x:α} (h:idx xs n=some x):0<=n/\n<xs.length/\xs[n.toNat]?=some x:=by
 unfold idx at h
 split at h
 ·rename_i h0
  have:=(List.getElem?_eq_some_iff.1 h).1
  exact ⟨h0,by omega,h⟩
 ·cases h
theorem jG (hT:Bu P T) {t:TypeId} {e:Ty} (h:(T.elem t).bind T.ty=some e): ∃te,T.elem t=some te/\T.ty te=some e/\P.underlying t=some (.slice te)/\P.elem t=te:=by
 cases ht:T.elem t with
 |none=>rw [ht] at h;cases h
 |some te=>
  rw [ht] at h
  have hu:=hT.elem t te ht
  exact ⟨te,rfl,h,hu,by simp [Program.elem,hu]⟩
theorem eQ (hT:Bu P T) {st:St} {a:Act} (h:Af X π st a w) (t:TypeId) (x i:AV) (vx vi:Value) (av:AV) (hx:Ak X w π st.heap x vx) (hi:Ak X w π st.heap i vi)
  (he:Fh T st t x i=some av): ∃v,(Instr.indexAt t vx vi).run P w= .ok v w/\Ak X w π st.heap av v:=by
 unfold Fh at he
 split at he
 ·rename_i fr e xs _ k n
  have:=Jd hi;subst this
  split at he
  ·rename_i fb
   obtain ⟨te,h1,h2,h3,h4⟩:=jG hT fb
   cases XU:idx xs n with
   |none=>rw [XU] at he;cases he
   |some y=>
    rw [XU] at he
    simp only [Option.map_some,Option.some.injEq] at he;subst he
    obtain ⟨h5,h6,h7⟩:=BV XU
    obtain ⟨cs,hc,rfl⟩:=hx
    simp only [Cells] at hc
    obtain ⟨ad,len,cap,rfl,hlen,kK,vq⟩:=hc
    rcases vq with rfl|⟨g,o,rfl,hg,hn,Hf⟩
    ·simp at h6;omega
    ·obtain ⟨es,Xf,Qn,Tj⟩:=Hf _ _ h7
     have Od:=(hT.ty _ _ h2).size (w:=w)
     refine ⟨.pointer (some ⟨g,o+n.toNat*e.size,none⟩),?_,[_],⟨g,_,rfl,hg,hn,es,Xf,Qn,Tj⟩,by simp [Am,Ty.Ab]⟩
     simp only [Am,Ty.Ab,Bool.false_eq_true,if_false,List.headD_cons]
     rw [run_indexAt_slice (P:=P) w t _ _ _ k n (by rw [h3,h4]),if_pos ⟨h5,by omega⟩,h4,Od,Result.andThen_ok,Addr.add_lit]
  ·cases he
 ·rename_i l off len _ k n
  have:=Jd hi;subst this
  split at he
  ·rename_i fr tr e tid xs hl
   split at he
   ·rename_i Et
    obtain ⟨h1,h2,KL⟩:=Et
    obtain ⟨h5,h6⟩:=Ma.1 KL
    simp only [Option.some.injEq] at he;subst he
    have h3:=hT.elem t tid h1
    have h4:P.elem t=tid:=by simp [Program.elem,h3]
    unfold St.at at hl
    have Ic:=hl
    obtain ⟨h8,h9⟩:=Ij (X:=X) (w:=w) hx hl
    cases hp:π l with
    |none=>rw [hp] at h9;obtain ⟨_,_,h9⟩:=h9;omega
    |some r=>
     rw [hp] at h9
     obtain ⟨ad,rfl,iH,cM⟩:=h9
     have FN:=cM (by omega)
     subst FN
     have Od:=(hT.ty _ _ h2).size (w:=w)
     refine ⟨.pointer (some ⟨r.g,(r.o+off)*e.size+n.toNat*e.size,none⟩),?_,r,_,e.size,xs.length,Ic,rfl,by omega,hp,?_⟩
     ·rw [run_indexAt_slice (P:=P) w t _ _ _ k n (by rw [h3,h4]),if_pos ⟨h5,by omega⟩,h4,Od,Result.andThen_ok,Addr.add_lit]
     ·rw [<-Nat.add_assoc r.o off n.toNat,Nat.add_mul (r.o+off)]
   ·cases he
  ·rename_i e tid xs hl
   split at he
   ·rename_i Et
    obtain ⟨h1,h2,KL⟩:=Et
    obtain ⟨h5,h6⟩:=Ma.1 KL
    simp only [Option.some.injEq] at he;subst he
    have h3:=hT.elem t tid h1
    have h4:P.elem t=tid:=by simp [Program.elem,h3]
    unfold St.at at hl
    have Ic:=hl
    obtain ⟨h8,h9⟩:=Tv (X:=X) (w:=w) hx hl
    cases hp:π l with
    |none=>rw [hp] at h9;obtain ⟨_,_,h9⟩:=h9;omega
    |some r=>
     rw [hp] at h9
     obtain ⟨ad,rfl,iH,cM⟩:=h9
     have FN:=cM (by omega)
     subst FN
     have Od:=(hT.ty _ _ h2).size (w:=w)
     refine ⟨.pointer (some ⟨r.g,(r.o+off)*e.size+n.toNat*e.size,none⟩),?_,r,_,e.size,xs.length,Ic,rfl,by omega,hp,?_⟩
     ·rw [run_indexAt_slice (P:=P) w t _ _ _ k n (by rw [h3,h4]),if_pos ⟨h5,by omega⟩,h4,Od,Result.andThen_ok,Addr.add_lit]
     ·rw [<-Nat.add_assoc r.o off n.toNat,Nat.add_mul (r.o+off)]
   ·cases he
  ·rename_i e te rows out kp hl
   split at he
   ·rename_i Et
    obtain ⟨h1,h2,KL⟩:=Et
    obtain ⟨h5,h6⟩:=Ma.1 KL
    simp only [Option.some.injEq] at he;subst he
    have h3:=hT.elem t te h1
    have h4:P.elem t=te:=by simp [Program.elem,h3]
    unfold St.at at hl
    have Ic:=hl
    obtain ⟨h8,h9⟩:=fI (X:=X) (w:=w) hx hl
    cases hp:π l with
    |none=>rw [hp] at h9;obtain ⟨_,_,h9⟩:=h9;omega
    |some r=>
     rw [hp] at h9
     obtain ⟨ad,rfl,iH,cM⟩:=h9
     have FN:=cM (by omega)
     subst FN
     cases cT:T.ty te with
     |none=>rw [cT] at h2;cases h2
     |some τ=>
      rw [cT] at h2
      have h2:τ.size=1:=Option.some.inj h2
      have Od:=(hT.ty _ _ cT).size (w:=w)
      refine ⟨.pointer (some ⟨r.g,(r.o+off)*1+n.toNat*τ.size,none⟩),?_,r,_,1,rows.length,Ic,rfl,by omega,hp,?_⟩
      ·rw [run_indexAt_slice (P:=P) w t _ _ _ k n (by rw [h3,h4]),if_pos ⟨h5,by omega⟩,h4,Od,Result.andThen_ok,Addr.add_lit]
      ·rw [h2,<-Nat.add_assoc r.o off n.toNat,Nat.add_mul (r.o+off)]
   ·cases he
  ·cases he
 ·rename_i l i c _ k n
  have:=Jd hi;subst this
  split at he
  ·rename_i e te rows kp hl
   split at he
   ·rename_i Et
    obtain ⟨h2,KL⟩:=Et
    obtain ⟨h5,h6⟩:=Ma.1 KL
    simp only [Option.some.injEq] at he;subst he
    cases cT:T.elem t with
    |none=>rw [cT] at h2;cases h2
    |some Kd=>
     rw [cT] at h2
     cases Pd:T.ty Kd with
     |none=>rw [Option.bind_some,Pd] at h2;cases h2
     |some τ=>
      rw [Option.bind_some,Pd] at h2
      have h2:τ.size=e.size:=Option.some.inj h2
      have h3:=hT.elem t Kd cT
      have h4:P.elem t=Kd:=by simp [Program.elem,h3]
      unfold St.at at hl
      obtain ⟨r,b,sz,m,g1,g0,g2,g3,⟨g4,_⟩,g5⟩:=hx
      rw [hl] at g1;cases g1
      simp only [OB.Zq,Option.some.injEq,Prod.mk.injEq] at g0
      obtain ⟨rfl,rfl⟩:=g0
      have dP:c=0:=by omega
      subst dP
      rw [Nat.mul_one,Nat.add_zero] at g5
      obtain ⟨u,R,k1,k2,k3⟩:=eZ h.1 hl g2 g3 (by simp)
      rw [g5] at k1
      have hu:=Option.some.inj k1
      subst hu
      cases R with
      |none=>obtain ⟨_,_,hh⟩:=k2;omega
      |some q=>
       obtain ⟨ad,rfl,f1,f2⟩:=k2
       have AU:=f2 (by omega)
       subst AU
       have Od:=(hT.ty _ _ Pd).size (w:=w)
       refine ⟨.pointer (some ⟨q.g,(q.o+0)*e.size+n.toNat*τ.size,none⟩),?_,r,_,rows.length,e.size,q.g,(q.o+0)*e.size,_,_,hl,rfl,g2,g3,by omega,g5,by rw [h2]⟩
       rw [run_indexAt_slice (P:=P) w t _ _ _ k n (by rw [h3,h4]),if_pos ⟨h5,by omega⟩,h4,Od,Result.andThen_ok,Addr.add_lit]
   ·cases he
  ·cases he
 ·cases he
end
end Go.Proofs.Ytjbdmibbbpdnnaa
