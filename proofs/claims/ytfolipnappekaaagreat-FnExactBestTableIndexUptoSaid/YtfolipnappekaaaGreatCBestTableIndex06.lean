/-
  Part 7 of the proof that the statement FnExactBestTableIndex holds.
-/
import Derived.Test.YtfolipnappekaaaGreatCBestTableIndex05
namespace Go.Proofs.YtfolipnappekaaaGreat
open Go.RowKit
section
variable {P:Program} {T:Tab} {X:Ctx} {w w':World} {π:Pi} {H:List (Nat×OB)}
def CN (P:Program) (X:Ctx) (π:Pi) (H:List (Nat×OB)) (w:World) (av:AV):Result Next->Prop
 | .ok (.value v) w'=>w'=w/\Am X w π H av v
 | .ok (.enter f args) w'=>w'=w/\Calls P f args w (λe ph=> ∃v,e= .returned v/\Below w.heap.size w ph/\Am X ph π H av v)
 |_=>False
def fy (s:Spec) (w:World) (S:Nat->Prop) (v:Value) (y:s.res.den):Prop:=
 if s.Dh then ∃us:List Value,v= .tuple us.toArray/\Az w S s.res us y else Bb w S s.res v y
structure Sound (P:Program) (f:FuncId) (s:Spec):Prop where
 enter: ∀args w,(callFunc f args).run P w= .ok (.enter f args) w
 calls: ∀(w:World) (S:Nat->Prop) (vs:List Value) (x:s.arg.den) (y:s.res.den),(∀k,S k->k<w.heap.size)->Az w S s.arg vs x->s.fn x=some y->
  Calls P f vs.toArray w λe w'=> ∃v,e= .returned v/\Below w.heap.size w w'/\fy s w' (λb=>S b\/(s.fresh=true/\b<w.heap.size)) v y
def aU (w:World) (D:Nat->Prop) (r:Option Real):(c:CK)->c.den->Prop
 | .Ee _,_=>r=none
 | .row e _,xs=>Mh w D r e xs
 | .Dp e te,xs=>Im w r e te xs
 | .part e _,x=>e.flat=true/\Mh w D r e x.1
 | .Ai e _ _,rows=>Tb w D r e rows none
def Zm (w:World) (D:Nat->Prop) (r:Option Real) (v:Value):(c:CK)->c.den->Prop
 | .Ee τ,x=>r=none/\Bb w D τ v x
 | .row e te,xs=>Dv r e.size 0 (List.length xs) v/\aU w D r (.row e te) xs
 | .Dp e te,xs=>Dv r e.size 0 (List.length xs) v/\aU w D r (.Dp e te) xs
 | .part e te,x=>(Dv r e.size x.2.1 x.2.2 v/\x.2.1+x.2.2<=List.length x.1)/\aU w D r (.part e te) x
 | .Ai e te kp,rows=>Dv r 1 0 (List.length rows) v/\aU w D r (.Ai e te kp) rows
def Zn (w:World) (D:Nat->Prop) (π:Pi):(k:Nat)->(cs:List (Bool×CK))->Ins.den cs->List Value->Prop
 |_,[],_,[]=>True
 |k,p::r,x,u::us=>Zm w D (π (Bq p.1 k)) u p.2 x.1/\Zn w D π (k+1) r x.2 us
 |_,_,_,_=>False
def Hb (w:World) (D:Nat->Prop) (π:Pi):(k:Nat)->(cs:List (Bool×CK))->IOs.den cs->Prop
 |_,[],_=>True
 |k,(true, .Ee _)::r,x=>Hb w D π (k+1) r x
 |k,(true, .Ai _ _ _)::r,x=>Hb w D π (k+1) r x
 |k,(true, .row e te)::r,x=>aU w D (π (Bq true k)) (.row e te) x.1/\Hb w D π (k+1) r x.2
 |k,(true, .Dp e te)::r,x=>aU w D (π (Bq true k)) (.Dp e te) x.1/\Hb w D π (k+1) r x.2
 |k,(true, .part e te)::r,x=>aU w D (π (Bq true k)) (.row e te) x.1/\Hb w D π (k+1) r x.2
 |k,(false,_)::r,x=>Hb w D π (k+1) r x
def Eo (w:World) (D:Nat->Prop) (ρ:Pi):(k:Nat)->(cs:List CK)->CKs.den cs->List Value->Prop
 |_,[],_,[]=>True
 |k,c::r,x,u::us=>Zm w D (ρ (Fp k)) u c x.1/\Eo w D ρ (k+1) r x.2 us
 |_,_,_,_=>False
structure bM (π:Pi) (A:Nat->Prop):Prop where
 Tk: ∀l r b,π l=some r->r.Ba b->A b
 inj: ∀l l' r r' b,π l=some r->π l'=some r'->r.Ba b->r'.Ba b->l=l'
def Wz:List (Option Nat)->List Value->Prop
 | [],[]=>True
 |none::s,_::us=>Wz s us
 |some n::s,us=>n<=us.length/\(∀u∈us.take n,u.oneCell'=true)/\Wz s (us.drop n)
 |_,_=>False
def MS (Dh:Bool) (sh:List (Option Nat)) (us:List Value) (v:Value):Prop:=if Dh then v= .tuple (Gd sh us).toArray else Gd sh us= [v]\/Gd sh us= []
def eg (S:Nat->Prop) (π ρ:Pi) (b:Nat):Prop:=S b\/(∃l q,Ak<=l/\π l=some q/\q.Ba b)\/Om ρ b
def jh (s:MSpec) (w:World) (g:Nat) (us vs:List Value):Prop:=
 match s.ptr with
 |none=>vs=Gd s.Fb us/\Wz s.Fb us
 |some p=>vs= .pointer (some ⟨g,0,none⟩)::Gd s.Fb (us.drop p.2)/\Wz s.Fb (us.drop p.2)/\p.2<=us.length/\w.heap[g]?=some (.cells (us.take p.2).toArray p.1 (0,0))/\ ∀u∈us.take p.2,u.oneCell'=true
def MSpec.gv (s:MSpec) (g b:Nat):Prop:=s.ptr.isSome=true/\b=g
def Ca (π:Pi):(k:Nat)->(cs:List (Bool×CK))->IOs.den cs->(n:Nat)->List Value->List Value->Prop
 |_,_,_,0,us,_=>us= []
 |k,(true, .row e _)::r,o,n+1,u::us,as=>Dv (π (Bq true k)) e.size 0 (List.length o.1) u/\Ca π (k+1) r o.2 n us as
 |k,(true, .Dp e _)::r,o,n+1,u::us,as=>Dv (π (Bq true k)) e.size 0 (List.length o.1) u/\Ca π (k+1) r o.2 n us as
 |k,(false,_)::r,o,n+1,u::us,a::as=>u=a/\Ca π (k+1) r o n us as
 |_,_,_,_,_,_=>False
def fw (s:MSpec) (π:Pi) (w':World) (g:Nat) (Pp:List Value) (o:IOs.den s.ins):Prop:=
 match s.ptr with
 |none=>True
 |some p=> ∃cs,w'.heap[g]?=some (.cells cs.toArray p.1 (0,0))/\(∀u∈cs,u.oneCell'=true)/\Ca π 0 s.ins o p.2 cs Pp
def vC (w w':World) (r r':Option Real) (n:Nat):Prop:=match r,r' with
 |none,none=>True
 |some q,some q'=>q'.g=q.g/\q'.o=q.o/\q'.cap=q.cap/\ ∀j,j<n->j<q.cap->w'.cell? ⟨q.g,q.o+j,none⟩=w.cell? ⟨q.g,q.o+j,none⟩
 |_,_=>False
def mC (s:MSpec) (w':World) (ρ:Pi) (us:List Value) (v:Value):Prop:=match s.rp with
 |none=>MS s.Dh s.Ef us v/\Wz s.Ef us
 |some tid=> ∃q,ρ (Fp s.outs.length)=some q/\q.Ba q.g/\w'.heap[q.g]?=some (.cells us.toArray tid (0,0))/\(∀u∈us,u.oneCell'=true)/\v= .pointer (some ⟨q.g,0,none⟩)
def MSpec.Nn (s:MSpec):Nat:=s.outs.length+(match s.rp with|none=>0|some _=>1)
structure Bf (P:Program) (f:FuncId) (s:MSpec):Prop where
 enter: ∀args w,(callFunc f args).run P w= .ok (.enter f args) w
 calls: ∀(w:World) (S:Nat->Prop) (π:Pi) (us:List Value) (x:Ins.den s.ins) (r:CKs.den s.outs) (o:IOs.den s.ins) (g:Nat) (vs:List Value),
  jh s w g us vs->(s.ptr.isSome=true->S g)->Zn w (λb=>Om π b\/S b) π 0 s.ins x us->bM π (λb=>b<w.heap.size)->(∀b,S b->b<w.heap.size/\ ¬Om π b)->(∀l,Ad (Sd 0 s.ins x) l=none->π l=none)->s.fn x=some (r,o)->
  Calls P f vs.toArray w λe w'=> ∃v Pp ρ,e= .returned v/\mC s w' ρ (Pp.drop s.Tg) v/\fw s π w' g Pp o/\Gb w.heap.size (λb=>Om π b\/s.gv g b) w w'/\Hb w' (eg S π ρ) π 0 s.ins o/\Eo w' (eg S π ρ) ρ 0 s.outs r Pp/\
   bM ρ (λb=>b<w'.heap.size/\(w.heap.size<=b\/ ∃l q,l<Ak/\π l=some q/\q.Ba b))/\(∀l,(∀k,k<s.Nn->l≠Fp k)->ρ l=none)/\(∀kj∈s.keeps,vC w w' (π (Bq false kj.1)) (ρ (Fp kj.2)) (s.Ci x))
def UJ (P:Program) (f:FuncId):Up->Prop
 | .q s=>Sound P f s
 | .m s=>Bf P f s
 | .b s m=>Sound P f s/\Bf P f m
def Ia (P:Program) (Γ:Env):Prop:= ∀f s,Γ f=some s->UJ P f s
theorem Ia.reg {P:Program} {Γ:Env} (h:Ia P Γ) (draw:Bool):Ia P (uf Γ draw):= λf s hs=>by
 unfold uf at hs
 split at hs
 ·rename_i s0 m Mg
  have:=h f _ Mg
  cases draw with
  |true=>simp only [if_true,Option.some.injEq] at hs;subst hs;exact this.1
  |false=>simp only [Bool.false_eq_true,if_false,Option.some.injEq] at hs;subst hs;exact this.2
 ·exact h f s hs
theorem Ke {k:IntKind} {n:Int} {fr:Bool} {v:Value} (h:Am X w π H (.at (.data fr (.int k) n)) v):v= .int k n:=by
 obtain ⟨cs,h1,rfl⟩:=h;simp only [Cells] at h1;subst h1;rfl
theorem Sl {b:Bool} {fr:Bool} {v:Value} (h:Am X w π H (.at (.data fr .bool b)) v):v= .bool b:=by
 obtain ⟨cs,h1,rfl⟩:=h;simp only [Cells] at h1;subst h1;rfl
theorem aB {s:ByteArray} {fr:Bool} {v:Value} (h:Am X w π H (.at (.data fr .str s)) v):v= .string s:=by
 obtain ⟨cs,h1,rfl⟩:=h;simp only [Cells] at h1;subst h1;rfl
theorem Ir (k:IntKind) (n:Int) (fr:Bool):Am X w π H (.at (.data fr (.int k) n)) (.int k n):=⟨[.int k n],rfl,rfl⟩
theorem Hv (b:Bool) (fr:Bool):Am X w π H (.at (.data fr .bool b)) (.bool b):=⟨[.bool b],rfl,rfl⟩
theorem jN (s:ByteArray) (fr:Bool):Am X w π H (.at (.data fr .str s)) (.string s):=⟨[.string s],rfl,rfl⟩
theorem XC (f:FuncId):Am X w π H (.at (.clo f [])) (.func (.func f) #[] #[]):=⟨[],rfl,rfl,λi p hi=>by simp at hi⟩
theorem EV (v:Value):Am X w π H (gP v) v:=by
 unfold gP
 split
 ·exact Ir _ _ _
 ·exact Hv _ _
 ·exact jN _ _
 ·rfl
 ·rfl
 ·trivial
theorem Bn {st:St} {a:Act} (h:mB X w π st a) (x:Operand):Am X w π st.heap (st.ev x) (a.eval x):=by
 cases x with
 |tmp t=>exact h.tmps t
 |const v=>exact EV v
 |global g=>trivial
 |func f=>exact XC f
theorem zB (op:BinOp) (k:IntKind) (a b:Int) (t:TypeId) (av:AV) (h:nF op k a b=some av):
  ∃v,(binOp op t (.int k a) (.int k b)).run P w= .ok v w/\Am X w π H av v:=by
 cases op<;>simp only [nF,Tl,Jm] at h
 case add=>cases h;exact ⟨_,by simp [binOp,Op.intArith],Ir _ _ _⟩
 case sub=>cases h;exact ⟨_,by simp [binOp,Op.intArith],Ir _ _ _⟩
 case mul=>cases h;exact ⟨_,by simp [binOp,Op.intArith],Ir _ _ _⟩
 case quo=>split at h<;>cases h;rename_i hb;exact ⟨_,by simp [binOp,Op.intDiv,hb],Ir _ _ _⟩
 case rem=>split at h<;>cases h;rename_i hb;exact ⟨_,by simp [binOp,Op.intDiv,hb],Ir _ _ _⟩
 case and=>cases h;exact ⟨_,by simp [binOp,Op.intBits],Ir _ _ _⟩
 case or=>cases h;exact ⟨_,by simp [binOp,Op.intBits],Ir _ _ _⟩
 case eql=>cases h;exact ⟨_,by simp [binOp,Op.intCmp],Hv _ _⟩
 case neq=>cases h;exact ⟨_,by simp [binOp,Op.intCmp],Hv _ _⟩
 case lss=>cases h;exact ⟨_,by simp [binOp,Op.intCmp],Hv _ _⟩
 case leq=>cases h;exact ⟨_,by simp [binOp,Op.intCmp],Hv _ _⟩
 case gtr=>cases h;exact ⟨_,by simp [binOp,Op.intCmp],Hv _ _⟩
 case geq=>cases h;exact ⟨_,by simp [binOp,Op.intCmp],Hv _ _⟩
 all_goals cases h
theorem wa (op:BinOp) (x y:AV) (vx vy:Value) (ox oy:Operand) (t:TypeId) (av:AV) (hx:Am X w π H x vx) (hy:Am X w π H y vy) (h:evalBin op x y=some av):
  ∃v,(do eqGuard op t ox oy vx vy;binOp op t vx vy:Sem Value).run P w= .ok v w/\Am X w π H av v:=by
 unfold evalBin at h
 split at h
 ·rename_i k a _ k' b
  have:=Ke hx;subst this
  have:=Ke hy;subst this
  have hg: ∀op,(eqGuard op t ox oy (.int k a) (.int k' b)).run P w= .ok () w:=by intro op;cases op<;>simp [eqGuard]
  split at h
  ·split at h
   ·cases h
   ·rename_i hb
    simp only [Tl,Option.some.injEq] at h;subst h
    exact ⟨_,by rw [Sem.run_bind,hg];simp [binOp,Op.shift,hb],Ir _ _ _⟩
  ·split at h
   ·cases h
   ·rename_i hb
    simp only [Tl,Option.some.injEq] at h;subst h
    exact ⟨_,by rw [Sem.run_bind,hg];simp [binOp,Op.shift,hb],Ir _ _ _⟩
  ·split at h
   ·rename_i hk;subst hk
    obtain ⟨v,h1,h2⟩:=zB (P:=P) (w:=w) (X:=X) (π:=π) (H:=H) op k a b t av h
    exact ⟨v,by rw [Sem.run_bind,hg];exact h1,h2⟩
   ·cases h
 ·rename_i a _ b
  have:=aB hx;subst this
  have:=aB hy;subst this
  have hg: ∀op,(eqGuard op t ox oy (.string a) (.string b)).run P w= .ok () w:=by intro op;cases op<;>simp [eqGuard]
  split at h
  ·simp only [Jm,Option.some.injEq] at h;subst h
   exact ⟨_,by rw [Sem.run_bind,hg];simp [binOp,Op.stringOp],Hv _ _⟩
  ·simp only [Jm,Option.some.injEq] at h;subst h
   exact ⟨_,by rw [Sem.run_bind,hg];simp [binOp,Op.stringOp],Hv _ _⟩
  ·split at h
   ·rename_i hl
    simp only [Option.some.injEq] at h;subst h
    exact ⟨_,by rw [Sem.run_bind,hg];simp only [Result.andThen_ok,binOp];exact run_string_add_sum w a b (by omega),jN _ _⟩
   ·cases h
  ·cases h
 ·cases h
theorem cV {t:TypeId} (h:P.underlying t=some .bool) (a b:Bool) (w:World):(Op.equal t (.bool a) (.bool b)).run P w= .ok (a==b) w:=by
 unfold Op.equal
 rw [show Op.maxDepth=9999+1 from rfl]
 unfold Op.equalIn
 rw [Sem.run_bind,run_underlying h]
 rfl
theorem xj (hT:Bz P T) {x:AV} {vx:Value} {b:Bool} {t:TypeId} (hx:Am X w π H x vx) (h:Yi x=some b) (ht:(T.elem t).isSome=true):
  (∃a len cap,vx= .slice a len cap/\(match a with|none=>true|some _=>false)=b)/\(Op.equal t vx (.slice none 0 0)).run P w= .ok b w:=by
 have h1: ∃a len cap,vx= .slice a len cap/\(match a with|none=>true|some _=>false)=b:=by
  unfold Yi at h
  split at h
  ·simp only [Option.some.injEq] at h;subst h
   have hx:vx= .slice none 0 0:=hx
   exact ⟨none,0,0,hx,rfl⟩
  ·simp only [Option.some.injEq] at h;subst h
   obtain ⟨cs,hc,rfl⟩:=hx
   simp only [Cells] at hc
   rcases hc with ⟨rfl,c,rfl⟩|⟨xs,ad,len,cap,rfl,rfl,_⟩
   ·exact ⟨none,0,c,by simp [Ar,Ty.Ab],rfl⟩
   ·exact ⟨some ad,len,cap,by simp [Ar,Ty.Ab],rfl⟩
  ·cases h
 refine ⟨h1,?_⟩
 obtain ⟨a,len,cap,rfl,rfl⟩:=h1
 obtain ⟨te,eQ⟩:=Option.isSome_iff_exists.1 ht
 have hu:=hT.elem t te eQ
 unfold Op.equal
 rw [show Op.maxDepth=9999+1 from rfl]
 unfold Op.equalIn
 rw [Sem.run_bind,run_underlying hu]
 cases a<;>rfl
theorem xh (hT:Bz P T) {x:AV} {vx:Value} {b:Bool} {t:TypeId} (hx:Am X w π H x vx) (h:Yh x=some b) (ht:LG (T.ty t)=true):
  (∃a,vx= .pointer a/\(match a with|none=>true|some _=>false)=b)/\(Op.equal t vx (.pointer none)).run P w= .ok b w:=by
 have h1: ∃a,vx= .pointer a/\(match a with|none=>true|some _=>false)=b:=by
  unfold Yh at h
  split at h
  ·simp only [Option.some.injEq] at h;subst h
   have hx:vx= .pointer none:=hx
   exact ⟨none,hx,rfl⟩
  ·simp only [Option.some.injEq] at h;subst h
   obtain ⟨r,tid,vs,_,_,rfl⟩:=hx
   exact ⟨_,rfl,rfl⟩
  ·simp only [Option.some.injEq] at h;subst h
   obtain ⟨cs,hc,rfl⟩:=hx
   simp only [Cells] at hc
   rcases hc with ⟨rfl,rfl⟩|⟨xs,g,o,rfl,rfl,_⟩
   ·exact ⟨none,by simp [Ar,Ty.Ab],rfl⟩
   ·exact ⟨some ⟨g,o,none⟩,by simp [Ar,Ty.Ab],rfl⟩
  ·simp only [Option.some.injEq] at h;subst h
   obtain ⟨cs,hc,rfl⟩:=hx
   simp only [Cells] at hc
   obtain ⟨g,o,rfl,_⟩:=hc
   exact ⟨some ⟨g,o,none⟩,by simp [Ar,Ty.Ab],rfl⟩
  ·cases h
 refine ⟨h1,?_⟩
 obtain ⟨a,rfl,rfl⟩:=h1
 have hu: ∃u,P.underlying t=some (.pointer u):=by
  cases Qk:T.ty t with
  |none=>rw [Qk] at ht;cases ht
  |some τ=>
   have hd:=(hT.ty t τ Qk).desc
   rw [Qk] at ht
   cases τ<;>first|exact hd|cases ht
 obtain ⟨u,hu⟩:=hu
 unfold Op.equal
 rw [show Op.maxDepth=9999+1 from rfl]
 unfold Op.equalIn
 rw [Sem.run_bind,run_underlying hu]
 cases a<;>rfl
theorem sR {T:Tab} (hT:Bz P T) (op:BinOp) (x y:AV) (vx vy:Value) (ox oy:Operand) (t:TypeId) (av:AV) (hx:Am X w π H x vx) (hy:Am X w π H y vy) (h:Mx T op t x y=some av):
  ∃v,(do eqGuard op t ox oy vx vy;binOp op t vx vy:Sem Value).run P w= .ok v w/\Am X w π H av v:=by
 unfold Mx at h
 split at h
 ·split at h
  ·rename_i ht
   cases hn:Yi x with
   |none=>rw [hn] at h;cases h
   |some b=>
    rw [hn] at h
    simp only [Option.bind_some,Jm,Option.some.injEq] at h;subst h
    have hy:vy= .slice none 0 0:=hy
    subst hy
    obtain ⟨⟨a,len,cap,rfl,_⟩,h2⟩:=xj hT hx hn ht
    exact ⟨.bool b,by rw [Sem.run_bind];simp [eqGuard,binOp,h2],Hv _ _⟩
  ·cases h
 ·split at h
  ·rename_i ht
   cases hn:Yh x with
   |none=>rw [hn] at h;cases h
   |some b=>
    rw [hn] at h
    simp only [Option.bind_some,Jm,Option.some.injEq] at h;subst h
    have hy:vy= .pointer none:=hy
    subst hy
    obtain ⟨⟨a,rfl,_⟩,h2⟩:=xh hT hx hn ht
    exact ⟨.bool b,by rw [Sem.run_bind];simp [eqGuard,binOp,h2],Hv _ _⟩
  ·cases h
 ·split at h
  ·rename_i ht
   cases hn:Yi x with
   |none=>rw [hn] at h;cases h
   |some b=>
    rw [hn] at h
    simp only [Option.bind_some,Jm,Option.some.injEq] at h;subst h
    have hy:vy= .slice none 0 0:=hy
    subst hy
    obtain ⟨⟨a,len,cap,rfl,_⟩,h2⟩:=xj hT hx hn ht
    exact ⟨.bool (!b),by rw [Sem.run_bind];simp [eqGuard,binOp,h2],Hv _ _⟩
  ·cases h
 ·split at h
  ·rename_i ht
   cases hn:Yh x with
   |none=>rw [hn] at h;cases h
   |some b=>
    rw [hn] at h
    simp only [Option.bind_some,Jm,Option.some.injEq] at h;subst h
    have hy:vy= .pointer none:=hy
    subst hy
    obtain ⟨⟨a,rfl,_⟩,h2⟩:=xh hT hx hn ht
    exact ⟨.bool (!b),by rw [Sem.run_bind];simp [eqGuard,binOp,h2],Hv _ _⟩
  ·cases h
 ·rename_i a _ b
  have:=Sl hx;subst this
  have:=Sl hy;subst this
  split at h
  ·rename_i ht
   simp only [Jm,Option.some.injEq] at h;subst h
   have hu:P.underlying t=some .bool:=(hT.ty t _ ht).desc
   exact ⟨_,by rw [Sem.run_bind];simp [eqGuard,binOp,cV hu],Hv _ _⟩
  ·cases h
 ·rename_i a _ b
  have:=Sl hx;subst this
  have:=Sl hy;subst this
  split at h
  ·rename_i ht
   simp only [Jm,Option.some.injEq] at h;subst h
   have hu:P.underlying t=some .bool:=(hT.ty t _ ht).desc
   exact ⟨_,by rw [Sem.run_bind];simp [eqGuard,binOp,cV hu],Hv _ _⟩
  ·cases h
 ·exact wa op x y vx vy ox oy t av hx hy h
theorem zh (op:UnOp) (x:AV) (vx:Value) (av:AV) (hx:Am X w π H x vx) (h:sV op x=some av):
  ∃v,(Op.unary op vx).run P w= .ok v w/\Am X w π H av v:=by
 unfold sV at h
 split at h
 ·have:=Sl hx;subst this
  simp only [Jm,Option.some.injEq] at h;subst h
  exact ⟨_,by simp [Op.unary],Hv _ _⟩
 ·have:=Ke hx;subst this
  simp only [Tl,Option.some.injEq] at h;subst h
  exact ⟨_,by simp [Op.unary,Op.intArith],Ir _ _ _⟩
 ·cases h
theorem Eg {t:TypeId} {τ:Ty} (ht:jj P T t τ) (g o:Nat) (es:List Value) (hl:es.length=τ.size) (hc: ∀j u,es[j]?=some u->w.cell? ⟨g,o+j,none⟩=some u):
  (loadVar t ⟨g,o,none⟩).run P w= .ok (Ar τ es) w:=by
 unfold loadVar
 rw [Sem.run_bind,ht.agg,Result.andThen_ok]
 cases hs:τ.Ab with
 |true=>
  simp only [if_true,Sem.run_bind,ht.size,Result.andThen_ok]
  rw [<-hl,run_loadCells_list w ⟨g,o,none⟩ es (λj v hv=>by rw [Addr.add_lit];exact hc j v hv)]
  simp [Ar,hs]
 |false=>
  have h1:τ.size=1:=by cases τ<;>simp_all [Ty.Ab,Ty.size]
  rw [h1] at hl
  obtain ⟨u,rfl⟩:=List.length_eq_one_iff.1 hl
  have:=hc 0 u rfl
  simp only [Nat.add_zero] at this
  simp [this,Ar,hs]
theorem oe {fr:Bool} {τ:Ty} {x:τ.den} {v:Value} (h:Am X w π H (.at (.data fr τ x)) v):Am X w π H (.at (.data (fr||τ.flat) τ x)) v:=by
 cases hf:τ.flat with
 |true=>exact Bb.flat hf h
 |false=>rw [Bool.or_false];exact h
theorem qj {cs ds:List AC} {us vs:List Value} (h1:Cu X w π H cs us) (h2:Cu X w π H ds vs):Cu X w π H (cs++ds) (us++vs):=by
 have e1:=h1.1
 refine ⟨by simp [h1.1,h2.1],λi c hc=>?_⟩
 by_cases hi:i<cs.length
 ·rw [List.getElem?_append_left hi] at hc
  obtain ⟨u,hu,h3⟩:=h1.2 i c hc
  exact ⟨u,by rw [List.getElem?_append_left (by omega)];exact hu,h3⟩
 ·rw [List.getElem?_append_right (by omega)] at hc
  obtain ⟨u,hu,h3⟩:=h2.2 _ c hc
  exact ⟨u,by rw [List.getElem?_append_right (by omega),e1];exact hu,h3⟩
theorem aA {c:AC} {u:Value} (h1:u.oneCell'=true) (h2:Dq X w π H c u):Cu X w π H [c] [u]:=⟨rfl,λi c' hc=>by
 rcases i with _|i
 ·simp at hc;subst hc;exact ⟨u,rfl,h1,h2⟩
 ·simp at hc⟩
theorem BT {l i:Nat} {e:Ty} {tid:TypeId} {xs:List e.den} {r:Real} (hl:Ad H l=some (.Cz e tid xs)) (hp:π l=some r) (hi:i<xs.length): ∀(τ:Ty) (c:Nat) (F:List Nat) (us:List Value) (x:τ.den),
  Be w F τ us x->c+τ.size<=e.size->(∀j u,us[j]?=some u->w.cell? ⟨r.g,(r.o+i)*e.size+(c+j),none⟩=some u)->Cu X w π H (aL l i c τ x) us:=by
 intro τ
 induction τ with
 |unit=>intro c F us x h _ _;simp only [Be] at h;obtain ⟨_,rfl⟩:=h;exact ⟨rfl,λi c hc=>by simp [aL] at hc⟩
 |pair a r gE dL=>
  intro c F us x h hle hc
  have td:=Be.cells (S:= λ_=>False) F _ us x h (λ_ _ h=>h)
  simp only [Be] at h
  obtain ⟨c1,c2,F1,F2,rfl,rfl,h1,h2⟩:=h
  have dJ:c1.length=a.size:=Cells.len a c1 x.1 (Be.cells (S:= λ_=>False) F1 a c1 x.1 h1 (λ_ _ h=>h))
  simp only [Ty.size] at hle
  refine qj (gE c F1 c1 x.1 h1 (by omega) λj u hu=>hc j u (by rw [List.getElem?_append_left (List.getElem?_eq_some_iff.1 hu).1];exact hu)) (dL (c+a.size) F2 c2 x.2 h2 (by omega) λj u hu=>?_)
  have:=hc (a.size+j) u (by rw [List.getElem?_append_right (by omega),dJ];simpa using hu)
  rw [show c+a.size+j=c+(a.size+j) by omega];exact this
 |int k=>intro c F us x h _ _;simp only [Be] at h;obtain ⟨_,rfl⟩:=h;exact aA rfl (Ir (H:=H) k x true)
 |bool=>intro c F us x h _ _;simp only [Be] at h;obtain ⟨_,rfl⟩:=h;exact aA rfl (Hv (H:=H) x true)
 |str=>intro c F us x h _ _;simp only [Be] at h;obtain ⟨_,rfl⟩:=h;exact aA rfl (jN (H:=H) x true)
 |slice e'=>
  intro c F us x h hle hc
  simp only [Be] at h
  obtain ⟨a,len,cap,rfl,_⟩:=h
  exact aA rfl ⟨r,_,e.size,xs.length,hl,rfl,hp,hi,⟨by simp only [Ty.size] at hle;omega,_,_,_,rfl⟩,by simpa using hc 0 _ rfl⟩
 |_=>intro c F us x h;simp only [Be] at h
theorem gW (hT:Bz P T) {st:St} {a:Act} (h:Aj X π st a w) (t:TypeId) (p:AV) (vp:Value) (av:AV) (hp:Am X w π st.heap p vp) (he:Kh T st t p=some av):
  ∃v,(Instr.loadAt t vp).run P w= .ok v w/\Am X w π st.heap av v:=by
 unfold Kh at he
 split at he
 ·rename_i τ fr Iu x ht
  split at he
  ·rename_i My
   subst My
   simp only [Option.some.injEq] at he;subst he
   have Qk:=hT.ty _ _ ht
   obtain ⟨cs,hc,rfl⟩:=hp
   simp only [Cells] at hc
   obtain ⟨g,o,rfl,hg,hn,es,hl,Rz,Vd⟩:=hc
   refine ⟨Ar Iu es,?_,oe (show Am X w π st.heap (.at (.data fr Iu _)) (Ar Iu es) from ⟨es,Vd,rfl⟩)⟩
   have hr:=Eg (P:=P) (w:=w) Qk g o es hl Rz
   show (do loadVar t (<-Instr.sureAddr (.pointer (some ⟨g,o,none⟩))):Sem Value).run P w=_
   simpa [Instr.sureAddr] using hr
  ·cases he
 ·rename_i τ fr Iu x ht
  split at he
  ·rename_i My
   subst My
   simp only [Option.some.injEq] at he;subst he
   have Qk:=hT.ty _ _ ht
   obtain ⟨cs,hc,rfl⟩:=hp
   simp only [Cells] at hc
   rcases hc with ⟨h0,_⟩|⟨y,g,o,h0,rfl,hg,hn,es,hl,Rz,Vd⟩
   ·cases h0
   simp only [Option.some.injEq] at h0;subst h0
   refine ⟨Ar Iu es,?_,oe (show Am X w π st.heap (.at (.data fr Iu _)) (Ar Iu es) from ⟨es,Vd,rfl⟩)⟩
   have hr:=Eg (P:=P) (w:=w) Qk g o es hl Rz
   show (do loadVar t (<-Instr.sureAddr (.pointer (some ⟨g,o,none⟩))):Sem Value).run P w=_
   simpa [Instr.sureAddr] using hr
  ·cases he
 ·rename_i τ l i ht
  have Qk:=hT.ty _ _ ht
  split at he
  ·rename_i tid vs hl
   obtain ⟨r,Nt,vs',h1,h2,rfl⟩:=hp
   unfold St.at at hl
   rw [hl] at h1;cases h1
   obtain ⟨r',h3,h4,cur,h5,h6⟩:=(h.1.heap l).Lc hl
   rw [h2] at h3;cases h3
   split at he
   ·rename_i hs
    split at he
    ·rename_i hlen
     simp only [Option.some.injEq] at he;subst he
     have Ly:cur.toList.length=vs.length:=h6.1
     refine ⟨_,by
      simp only [Instr.loadAt,Instr.sureAddr]
      simpa using Eg (P:=P) (w:=w) Qk r.g i ((cur.toList.drop i).take τ.size) (by simp at Ly⊢;omega) (λj u hu=>by
       rw [cellOf h5]
       rw [List.getElem?_take] at hu
       split at hu
       ·rw [List.getElem?_drop] at hu;simpa using hu
       ·cases hu),?_⟩
     exact ⟨_,by simp [Ar,hs],Sk h6 i τ.size⟩
    ·cases he
   ·rename_i hs
    simp only [Bool.not_eq_true] at hs
    have h1:τ.size=1:=by cases τ<;>simp_all [Ty.Ab,Ty.size]
    cases hi:vs[i]? with
    |none=>rw [hi] at he;cases he
    |some c=>
     rw [hi] at he
     simp only [Option.map_some,Option.some.injEq] at he;subst he
     obtain ⟨u,hu,_,hc⟩:=h6.2 i c hi
     refine ⟨u,?_,hc⟩
     simp only [Instr.loadAt,Instr.sureAddr]
     have:=Eg (P:=P) (w:=w) Qk r.g i [u] (by simp [h1]) (λj u' bE=>by
       rcases j with _|j
       ·simp at bE;subst bE;rw [Nat.add_zero,cellOf h5];simpa using hu
       ·simp at bE)
     simpa [Ar,hs] using this
  ·cases he
 ·rename_i τ l i ht
  have Qk:=hT.ty _ _ ht
  split at he
  ·rename_i fr tr e tid xs hl
   split at he
   ·rename_i heq;subst heq
    obtain ⟨r,b,sz,n,h1,h0,h2,h3,rfl⟩:=hp
    unfold St.at at hl
    rw [hl] at h1;cases h1
    simp only [OB.row,Option.some.injEq,Prod.mk.injEq] at h0
    obtain ⟨rfl,rfl⟩:=h0
    have hb:=(h.1.heap l).Lc hl
    simp only [Au,Fl,h3] at hb
    obtain ⟨h4,cur,_,h5,h6,h7,h8,h9,_⟩:=hb
    have hx:xs[i]?=some xs[i]:=List.getElem?_eq_getElem h2
    rw [hx] at he
    simp only [Option.map_some,Option.some.injEq] at he;subst he
    obtain ⟨es,bH,hj,td⟩:=h9 i _ hx
    refine ⟨Ar e es,?_,oe (show Am X w π st.heap (.at (.data fr e _)) (Ar e es) from ⟨es,td,rfl⟩)⟩
    simp only [Instr.loadAt,Instr.sureAddr]
    simpa using Eg (P:=P) (w:=w) Qk r.g ((r.o+i)*e.size) es bH (λj u hu=>by rw [cellOf h5];exact hj j u hu)
   ·cases he
  ·rename_i e tid xs hl
   split at he
   ·rename_i heq;subst heq
    obtain ⟨r,b,sz,n,h1,h0,h2,h3,rfl⟩:=hp
    unfold St.at at hl
    rw [hl] at h1;cases h1
    simp only [OB.row,Option.some.injEq,Prod.mk.injEq] at h0
    obtain ⟨rfl,rfl⟩:=h0
    have hb:=(h.1.heap l).Lc hl
    simp only [Au,Im,h3] at hb
    obtain ⟨h4,cur,_,h5,h6,h7,h8,Fs,k1,k2,k3,k4⟩:=hb
    have hx:xs[i]?=some xs[i]:=List.getElem?_eq_getElem h2
    rw [hx] at he
    simp only [Option.map_some,Option.some.injEq] at he;subst he
    obtain ⟨es,bH,hj,td⟩:=k4 i _ _ hx (List.getElem?_eq_getElem (by omega))
    have QK:=BT (X:=X) (H:=st.heap) hl h3 h2 e 0 _ es _ td (by omega) (λj u hu=>by rw [cellOf h5,Nat.zero_add];exact hj j u hu)
    refine ⟨Ar e es,?_,?_⟩
    ·simp only [Instr.loadAt,Instr.sureAddr]
     simpa using Eg (P:=P) (w:=w) Qk r.g ((r.o+i)*e.size) es bH (λj u hu=>by rw [cellOf h5];exact hj j u hu)
    ·cases Te:e.Ab with
     |true=>rw [if_pos rfl];exact ⟨es,by simp [Ar,Te],QK⟩
     |false=>
      rw [if_neg (by simp)]
      have h1:e.size=1:=by cases e<;>simp_all [Ty.Ab,Ty.size]
      rw [h1] at bH
      obtain ⟨u,rfl⟩:=List.length_eq_one_iff.1 bH
      have dJ:=QK.1
      generalize aL l i 0 e xs[i]=sc at*
      simp only [List.length_cons,List.length_nil] at dJ
      obtain ⟨c,rfl⟩:=List.length_eq_one_iff.1 dJ.symm
      obtain ⟨u',bE,_,wA⟩:=QK.2 0 c rfl
      simp at bE;subst bE
      have e1:Ar e [u]=u:=by simp [Ar,Te]
      rw [e1]
      exact wA
   ·cases he
  ·rename_i e te rows kp hl
   split at he
   ·cases he
   ·rename_i Te
    simp only [Bool.not_eq_true] at Te
    simp only [Option.some.injEq] at he;subst he
    obtain ⟨r,b,sz,n,h1,h0,h2,h3,rfl⟩:=hp
    unfold St.at at hl
    rw [hl] at h1;cases h1
    simp only [OB.row,Option.some.injEq,Prod.mk.injEq] at h0
    obtain ⟨rfl,rfl⟩:=h0
    obtain ⟨u,R,k1,k2,k3⟩:=ib h.1 hl h3 h2 (by simp)
    have Wo:τ.size=1:=by cases τ<;>simp_all [Ty.Ab,Ty.size]
    refine ⟨u,?_,r,_,1,rows.length,hl,rfl,h3,h2,⟨by omega,Tv k2⟩,by rw [Nat.mul_one,Nat.add_zero];exact k1⟩
    simp only [Instr.loadAt,Instr.sureAddr]
    have:=Eg (P:=P) (w:=w) Qk r.g ((r.o+i)*1) [u] (by simp [Wo]) (λj u' bE=>by
     rcases j with _|j
     ·simp at bE;subst bE;rw [Nat.mul_one,Nat.add_zero];exact k1
     ·simp at bE)
    simpa [Ar,Te] using this
  ·cases he
 ·rename_i τ l i j ht
  have Qk:=hT.ty _ _ ht
  split at he
  ·rename_i e te rows kp hl
   split at he
   ·rename_i heq;subst heq
    simp only [Option.some.injEq] at he;subst he
    obtain ⟨r,b,n,sz,g,o,len,cap,h1,h0,h2,h3,h4,h5,rfl⟩:=hp
    unfold St.at at hl
    rw [hl] at h1;cases h1
    simp only [OB.pI,Option.some.injEq,Prod.mk.injEq] at h0
    obtain ⟨rfl,rfl⟩:=h0
    obtain ⟨u,R,k1,k2,k3⟩:=ib h.1 hl h2 h3 (by simp)
    rw [h5] at k1
    have hu:=Option.some.inj k1
    subst hu
    cases R with
    |none=>obtain ⟨hh,_⟩:=k2;cases hh
    |some q=>
     obtain ⟨ad,hh,g1,g2⟩:=k2
     simp only [Value.slice.injEq,Option.some.injEq] at hh
     obtain ⟨rfl,rfl,rfl⟩:=hh
     have JT:=g2 (by omega)
     simp only [Addr.mk.injEq,and_true] at JT
     obtain ⟨rfl,rfl⟩:=JT
     obtain ⟨f1,cur,ti,f2,f3,f4,f5,f6⟩:=k3
     have hj:(rows.getD i [])[j]?=some ((rows.getD i []).getD j e.zero):=by rw [List.getD_eq_getElem?_getD (l:=rows.getD i []),List.getElem?_eq_getElem h4];rfl
     obtain ⟨es,bH,c1,c2⟩:=f6 j _ hj
     refine ⟨Ar e es,?_,oe (fr:=false) (show Am X w π st.heap (.at (.data false e _)) (Ar e es) from ⟨es,c2,rfl⟩)⟩
     simp only [Instr.loadAt,Instr.sureAddr]
     simpa using Eg (P:=P) (w:=w) Qk q.g ((q.o+0)*e.size+j*e.size) es bH (λm u hu=>by rw [cellOf f2,Nat.add_zero,<-Nat.add_mul];exact c1 m u hu)
   ·cases he
  ·cases he
 ·cases he
theorem KX {α:Type} {xs:List α} {n:Int} {x:α} (h:idx xs n=some x):0<=n/\n<xs.length/\xs[n.toNat]?=some x:=by
 unfold idx at h
 split at h
 ·rename_i h0
  have:=(List.getElem?_eq_some_iff.1 h).1
  exact ⟨h0,by omega,h⟩
 ·cases h
theorem m9 (hT:Bz P T) {t:TypeId} {e:Ty} (h:(T.elem t).bind T.ty=some e): ∃te,T.elem t=some te/\T.ty te=some e/\P.underlying t=some (.slice te)/\P.elem t=te:=by
 cases ht:T.elem t with
 |none=>rw [ht] at h;cases h
 |some te=>
  rw [ht] at h
  have hu:=hT.elem t te ht
  exact ⟨te,rfl,h,hu,by simp [Program.elem,hu]⟩
theorem gV (hT:Bz P T) {st:St} {a:Act} (h:Aj X π st a w) (t:TypeId) (x i:AV) (vx vi:Value) (av:AV) (hx:Am X w π st.heap x vx) (hi:Am X w π st.heap i vi)
  (he:Ga T st t x i=some av): ∃v,(Instr.indexAt t vx vi).run P w= .ok v w/\Am X w π st.heap av v:=by
 unfold Ga at he
 split at he
 ·rename_i fr e xs _ k n
  have:=Ke hi;subst this
  split at he
  ·rename_i ic
   obtain ⟨te,h1,h2,h3,h4⟩:=m9 hT ic
   cases hix:idx xs n with
   |none=>rw [hix] at he;cases he
   |some y=>
    rw [hix] at he
    simp only [Option.map_some,Option.some.injEq] at he;subst he
    obtain ⟨h5,h6,h7⟩:=KX hix
    obtain ⟨cs,hc,rfl⟩:=hx
    simp only [Cells] at hc
    obtain ⟨ad,len,cap,rfl,hlen,np,zp⟩:=hc
    rcases zp with rfl|⟨g,o,rfl,hg,hn,Gw⟩
    ·simp at h6;omega
    ·obtain ⟨es,bH,Rz,Vd⟩:=Gw _ _ h7
     have Wo:=(hT.ty _ _ h2).size (w:=w)
     refine ⟨.pointer (some ⟨g,o+n.toNat*e.size,none⟩),?_,[_],⟨g,_,rfl,hg,hn,es,bH,Rz,Vd⟩,by simp [Ar,Ty.Ab]⟩
     simp only [Ar,Ty.Ab,Bool.false_eq_true,if_false,List.headD_cons]
     rw [run_indexAt_slice (P:=P) w t _ _ _ k n (by rw [h3,h4]),if_pos ⟨h5,by omega⟩,h4,Wo,Result.andThen_ok,Addr.add_lit]
  ·cases he
 ·rename_i l off len _ k n
  have:=Ke hi;subst this
  split at he
  ·rename_i fr tr e tid xs hl
   split at he
   ·rename_i Ey
    obtain ⟨h1,h2,UY⟩:=Ey
    obtain ⟨h5,h6⟩:=Nc.1 UY
    simp only [Option.some.injEq] at he;subst he
    have h3:=hT.elem t tid h1
    have h4:P.elem t=tid:=by simp [Program.elem,h3]
    unfold St.at at hl
    have Fz:=hl
    obtain ⟨h8,h9⟩:=Iz (X:=X) (w:=w) hx hl
    cases hp:π l with
    |none=>rw [hp] at h9;obtain ⟨_,_,h9⟩:=h9;omega
    |some r=>
     rw [hp] at h9
     obtain ⟨ad,rfl,jf,bB⟩:=h9
     have PR:=bB (by omega)
     subst PR
     have Wo:=(hT.ty _ _ h2).size (w:=w)
     refine ⟨.pointer (some ⟨r.g,(r.o+off)*e.size+n.toNat*e.size,none⟩),?_,r,_,e.size,xs.length,Fz,rfl,by omega,hp,?_⟩
     ·rw [run_indexAt_slice (P:=P) w t _ _ _ k n (by rw [h3,h4]),if_pos ⟨h5,by omega⟩,h4,Wo,Result.andThen_ok,Addr.add_lit]
     ·rw [<-Nat.add_assoc r.o off n.toNat,Nat.add_mul (r.o+off)]
   ·cases he
  ·rename_i e tid xs hl
   split at he
   ·rename_i Ey
    obtain ⟨h1,h2,UY⟩:=Ey
    obtain ⟨h5,h6⟩:=Nc.1 UY
    simp only [Option.some.injEq] at he;subst he
    have h3:=hT.elem t tid h1
    have h4:P.elem t=tid:=by simp [Program.elem,h3]
    unfold St.at at hl
    have Fz:=hl
    obtain ⟨h8,h9⟩:=Vo (X:=X) (w:=w) hx hl
    cases hp:π l with
    |none=>rw [hp] at h9;obtain ⟨_,_,h9⟩:=h9;omega
    |some r=>
     rw [hp] at h9
     obtain ⟨ad,rfl,jf,bB⟩:=h9
     have PR:=bB (by omega)
     subst PR
     have Wo:=(hT.ty _ _ h2).size (w:=w)
     refine ⟨.pointer (some ⟨r.g,(r.o+off)*e.size+n.toNat*e.size,none⟩),?_,r,_,e.size,xs.length,Fz,rfl,by omega,hp,?_⟩
     ·rw [run_indexAt_slice (P:=P) w t _ _ _ k n (by rw [h3,h4]),if_pos ⟨h5,by omega⟩,h4,Wo,Result.andThen_ok,Addr.add_lit]
     ·rw [<-Nat.add_assoc r.o off n.toNat,Nat.add_mul (r.o+off)]
   ·cases he
  ·rename_i e te rows out kp hl
   split at he
   ·rename_i Ey
    obtain ⟨h1,h2,UY⟩:=Ey
    obtain ⟨h5,h6⟩:=Nc.1 UY
    simp only [Option.some.injEq] at he;subst he
    have h3:=hT.elem t te h1
    have h4:P.elem t=te:=by simp [Program.elem,h3]
    unfold St.at at hl
    have Fz:=hl
    obtain ⟨h8,h9⟩:=iJ (X:=X) (w:=w) hx hl
    cases hp:π l with
    |none=>rw [hp] at h9;obtain ⟨_,_,h9⟩:=h9;omega
    |some r=>
     rw [hp] at h9
     obtain ⟨ad,rfl,jf,bB⟩:=h9
     have PR:=bB (by omega)
     subst PR
     cases eQ:T.ty te with
     |none=>rw [eQ] at h2;cases h2
     |some τ=>
      rw [eQ] at h2
      have h2:τ.size=1:=Option.some.inj h2
      have Wo:=(hT.ty _ _ eQ).size (w:=w)
      refine ⟨.pointer (some ⟨r.g,(r.o+off)*1+n.toNat*τ.size,none⟩),?_,r,_,1,rows.length,Fz,rfl,by omega,hp,?_⟩
      ·rw [run_indexAt_slice (P:=P) w t _ _ _ k n (by rw [h3,h4]),if_pos ⟨h5,by omega⟩,h4,Wo,Result.andThen_ok,Addr.add_lit]
      ·rw [h2,<-Nat.add_assoc r.o off n.toNat,Nat.add_mul (r.o+off)]
   ·cases he
  ·cases he
 ·rename_i l i c _ k n
  have:=Ke hi;subst this
  split at he
  ·rename_i e te rows kp hl
   split at he
   ·rename_i Ey
    obtain ⟨h2,UY⟩:=Ey
    obtain ⟨h5,h6⟩:=Nc.1 UY
    simp only [Option.some.injEq] at he;subst he
    cases eQ:T.elem t with
    |none=>rw [eQ] at h2;cases h2
    |some Kz=>
     rw [eQ] at h2
     cases Qk:T.ty Kz with
     |none=>rw [Option.bind_some,Qk] at h2;cases h2
     |some τ=>
      rw [Option.bind_some,Qk] at h2
      have h2:τ.size=e.size:=Option.some.inj h2
      have h3:=hT.elem t Kz eQ
      have h4:P.elem t=Kz:=by simp [Program.elem,h3]
      unfold St.at at hl
      obtain ⟨r,b,sz,m,g1,g0,g2,g3,⟨g4,_⟩,g5⟩:=hx
      rw [hl] at g1;cases g1
      simp only [OB.bf,Option.some.injEq,Prod.mk.injEq] at g0
      obtain ⟨rfl,rfl⟩:=g0
      have eL:c=0:=by omega
      subst eL
      rw [Nat.mul_one,Nat.add_zero] at g5
      obtain ⟨u,R,k1,k2,k3⟩:=ib h.1 hl g2 g3 (by simp)
      rw [g5] at k1
      have hu:=Option.some.inj k1
      subst hu
      cases R with
      |none=>obtain ⟨_,_,hh⟩:=k2;omega
      |some q=>
       obtain ⟨ad,rfl,f1,f2⟩:=k2
       have JT:=f2 (by omega)
       subst JT
       have Wo:=(hT.ty _ _ Qk).size (w:=w)
       refine ⟨.pointer (some ⟨q.g,(q.o+0)*e.size+n.toNat*τ.size,none⟩),?_,r,_,rows.length,e.size,q.g,(q.o+0)*e.size,_,_,hl,rfl,g2,g3,by omega,g5,by rw [h2]⟩
       rw [run_indexAt_slice (P:=P) w t _ _ _ k n (by rw [h3,h4]),if_pos ⟨h5,by omega⟩,h4,Wo,Result.andThen_ok,Addr.add_lit]
   ·cases he
  ·cases he
 ·cases he
end
end Go.Proofs.YtfolipnappekaaaGreat
