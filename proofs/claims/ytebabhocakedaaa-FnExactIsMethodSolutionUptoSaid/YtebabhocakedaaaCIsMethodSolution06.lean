/-
  Part 7 of the proof that the statement FnExactIsMethodSolution holds.
-/
import Derived.Test.YtebabhocakedaaaCIsMethodSolution05
namespace Go.Proofs.Ytebabhocakedaaa
open Go.RowKit
section
variable {P:Program} {T:Tab} {X:Ctx} {w w':World} {π:Pi} {H:List (Nat×OB)}
def Axk (P:Program) (X:Ctx) (π:Pi) (H:List (Nat×OB)) (w:World) (av:AV):Result Next→Prop
 | .ok (.value v) w'=>w'=w∧Ai X w π H av v
 | .ok (.enter f args) w'=>w'=w∧Calls P f args w (fun e w''=> ∃v,e= .returned v∧Below w.heap.size w w''∧Ai X w'' π H av v)
 |_=>False
def Ac0 (s:Spec) (w:World) (S:Nat→Prop) (v:Value) (y:s.res.den):Prop:=
 if s.multi then ∃us:List Value,v= .tuple us.toArray∧Au w S s.res us y else Bc w S s.res v y
structure Sound (P:Program) (f:FuncId) (s:Spec):Prop where
 enter: ∀args w,(callFunc f args).run P w= .ok (.enter f args) w
 calls: ∀(w:World) (S:Nat→Prop) (vs:List Value) (x:s.arg.den) (y:s.res.den),(∀k,S k→k<w.heap.size)→Au w S s.arg vs x→s.fn x=some y→
  Calls P f vs.toArray w fun e w'=> ∃v,e= .returned v∧Below w.heap.size w w'∧Ac0 s w' (fun b=>S b∨(s.fresh=true∧b<w.heap.size)) v y
def Ww (w:World) (D:Nat→Prop) (r:Option Real):(c:CK)→c.den→Prop
 | .dat _,_=>r=none
 | .row e _,xs=>Kf w D r e xs
 | .xrow e te,xs=>Hf w r e te xs
 | .part e _,x=>e.flat=true∧Kf w D r e x.1
 | .grid e _ _,rows=>Pk w D r e rows none
def Uw (w:World) (D:Nat→Prop) (r:Option Real) (v:Value):(c:CK)→c.den→Prop
 | .dat τ,x=>r=none∧Bc w D τ v x
 | .row e te,xs=>De r e.size 0 (List.length xs) v∧Ww w D r (.row e te) xs
 | .xrow e te,xs=>De r e.size 0 (List.length xs) v∧Ww w D r (.xrow e te) xs
 | .part e te,x=>(De r e.size x.2.1 x.2.2 v∧x.2.1+x.2.2≤List.length x.1)∧Ww w D r (.part e te) x
 | .grid e te kp,rows=>De r 1 0 (List.length rows) v∧Ww w D r (.grid e te kp) rows
def Ux (w:World) (D:Nat→Prop) (π:Pi):(k:Nat)→(cs:List (Bool×CK))→Ins.den cs→List Value→Prop
 |_,[],_,[]=>True
 |k,p::r,x,u::us=>Uw w D (π (Bn p.1 k)) u p.2 x.1∧Ux w D π (k+1) r x.2 us
 |_,_,_,_=>False
def Fw (w:World) (D:Nat→Prop) (π:Pi):(k:Nat)→(cs:List (Bool×CK))→IOs.den cs→Prop
 |_,[],_=>True
 |k,(true, .dat _)::r,x=>Fw w D π (k+1) r x
 |k,(true, .grid _ _ _)::r,x=>Fw w D π (k+1) r x
 |k,(true, .row e te)::r,x=>Ww w D (π (Bn true k)) (.row e te) x.1∧Fw w D π (k+1) r x.2
 |k,(true, .xrow e te)::r,x=>Ww w D (π (Bn true k)) (.xrow e te) x.1∧Fw w D π (k+1) r x.2
 |k,(true, .part e te)::r,x=>Ww w D (π (Bn true k)) (.row e te) x.1∧Fw w D π (k+1) r x.2
 |k,(false,_)::r,x=>Fw w D π (k+1) r x
def Ec (w:World) (D:Nat→Prop) (ρ:Pi):(k:Nat)→(cs:List CK)→CKs.den cs→List Value→Prop
 |_,[],_,[]=>True
 |k,c::r,x,u::us=>Uw w D (ρ (Ep k)) u c x.1∧Ec w D ρ (k+1) r x.2 us
 |_,_,_,_=>False
structure Xu (π:Pi) (A:Nat→Prop):Prop where
 at': ∀l r b,π l=some r→r.Av b→A b
 inj: ∀l l' r r' b,π l=some r→π l'=some r'→r.Av b→r'.Av b→l=l'
def Sp:List (Option Nat)→List Value→Prop
 | [],[]=>True
 |none::s,_::us=>Sp s us
 |some n::s,us=>n≤us.length∧(∀u∈us.take n,u.oneCell'=true)∧Sp s (us.drop n)
 |_,_=>False
def Bc7 (multi:Bool) (sh:List (Option Nat)) (us:List Value) (v:Value):Prop:=if multi then v= .tuple (Fm sh us).toArray else Fm sh us= [v]∨Fm sh us= []
def Aaw (S:Nat→Prop) (π ρ:Pi) (b:Nat):Prop:=S b∨(∃l q,Ag≤l∧π l=some q∧q.Av b)∨Own ρ b
def Aey (s:Bp) (w:World) (g:Nat) (us vs:List Value):Prop:=
 match s.ptr with
 |none=>vs=Fm s.shapes us∧Sp s.shapes us
 |some p=>vs= .pointer (some ⟨g,0,none⟩)::Fm s.shapes (us.drop p.2)∧Sp s.shapes (us.drop p.2)∧p.2≤us.length∧w.heap[g]?=some (.cells (us.take p.2).toArray p.1 (0,0))∧ ∀u∈us.take p.2,u.oneCell'=true
def Bp.gv (s:Bp) (g b:Nat):Prop:=s.ptr.isSome=true∧b=g
def Bs (π:Pi):(k:Nat)→(cs:List (Bool×CK))→IOs.den cs→(n:Nat)→List Value→List Value→Prop
 |_,_,_,0,us,_=>us= []
 |k,(true, .row e _)::r,o,n+1,u::us,as=>De (π (Bn true k)) e.size 0 (List.length o.1) u∧Bs π (k+1) r o.2 n us as
 |k,(true, .xrow e _)::r,o,n+1,u::us,as=>De (π (Bn true k)) e.size 0 (List.length o.1) u∧Bs π (k+1) r o.2 n us as
 |k,(false,_)::r,o,n+1,u::us,a::as=>u=a∧Bs π (k+1) r o n us as
 |_,_,_,_,_,_=>False
def Aby (s:Bp) (π:Pi) (w':World) (g:Nat) (us':List Value) (o:IOs.den s.ins):Prop:=
 match s.ptr with
 |none=>True
 |some p=> ∃cs,w'.heap[g]?=some (.cells cs.toArray p.1 (0,0))∧(∀u∈cs,u.oneCell'=true)∧Bs π 0 s.ins o p.2 cs us'
def Ar9 (w w':World) (r r':Option Real) (n:Nat):Prop:=match r,r' with
 |none,none=>True
 |some q,some q'=>q'.g=q.g∧q'.o=q.o∧q'.cap=q.cap∧ ∀j,j<n→j<q.cap→w'.cell? ⟨q.g,q.o+j,none⟩=w.cell? ⟨q.g,q.o+j,none⟩
 |_,_=>False
def Aia (s:Bp) (w':World) (ρ:Pi) (us:List Value) (v:Value):Prop:=match s.rp with
 |none=>Bc7 s.multi s.rshapes us v∧Sp s.rshapes us
 |some tid=> ∃q,ρ (Ep s.outs.length)=some q∧q.Av q.g∧w'.heap[q.g]?=some (.cells us.toArray tid (0,0))∧(∀u∈us,u.oneCell'=true)∧v= .pointer (some ⟨q.g,0,none⟩)
def Bp.Lk (s:Bp):Nat:=s.outs.length+(match s.rp with|none=>0|some _=>1)
structure Dz (P:Program) (f:FuncId) (s:Bp):Prop where
 enter: ∀args w,(callFunc f args).run P w= .ok (.enter f args) w
 calls: ∀(w:World) (S:Nat→Prop) (π:Pi) (us:List Value) (x:Ins.den s.ins) (r:CKs.den s.outs) (o:IOs.den s.ins) (g:Nat) (vs:List Value),
  Aey s w g us vs→(s.ptr.isSome=true→S g)→Ux w (fun b=>Own π b∨S b) π 0 s.ins x us→Xu π (fun b=>b<w.heap.size)→(∀b,S b→b<w.heap.size∧ ¬Own π b)→(∀l,Ac (On 0 s.ins x) l=none→π l=none)→s.fn x=some (r,o)→
  Calls P f vs.toArray w fun e w'=> ∃v us' ρ,e= .returned v∧Aia s w' ρ (us'.drop s.Pp) v∧Aby s π w' g us' o∧Fa w.heap.size (fun b=>Own π b∨s.gv g b) w w'∧Fw w' (Aaw S π ρ) π 0 s.ins o∧Ec w' (Aaw S π ρ) ρ 0 s.outs r us'∧
   Xu ρ (fun b=>b<w'.heap.size∧(w.heap.size≤b∨ ∃l q,l<Ag∧π l=some q∧q.Av b))∧(∀l,(∀k,k<s.Lk→l≠Ep k)→ρ l=none)∧(∀kj∈s.keeps,Ar9 w w' (π (Bn false kj.1)) (ρ (Ep kj.2)) (s.Ch x))
def Bel (P:Program) (f:FuncId):Ad5→Prop
 | .q s=>Sound P f s
 | .m s=>Dz P f s
 | .b s m=>Sound P f s∧Dz P f m
def Gl (P:Program) (Γ:Env):Prop:= ∀f s,Γ f=some s→Bel P f s
theorem Gl.reg {P:Program} {Γ:Env} (h:Gl P Γ) (draw:Bool):Gl P (Aq2 Γ draw):=fun f s hs=>by
 unfold Aq2 at hs
 split at hs
 ·rename_i s0 m hΓ
  have:=h f _ hΓ
  cases draw with
  |true=>simp only [if_true,Option.some.injEq] at hs;subst hs;exact this.1
  |false=>simp only [Bool.false_eq_true,if_false,Option.some.injEq] at hs;subst hs;exact this.2
 ·exact h f s hs
theorem Io {k:IntKind} {n:Int} {fr:Bool} {v:Value} (h:Ai X w π H (.at (.data fr (.int k) n)) v):v= .int k n:=by
 obtain ⟨cs,h1,rfl⟩:=h;simp only [Cells] at h1;subst h1;rfl
theorem Ox {b:Bool} {fr:Bool} {v:Value} (h:Ai X w π H (.at (.data fr .bool b)) v):v= .bool b:=by
 obtain ⟨cs,h1,rfl⟩:=h;simp only [Cells] at h1;subst h1;rfl
theorem We {s:ByteArray} {fr:Bool} {v:Value} (h:Ai X w π H (.at (.data fr .str s)) v):v= .string s:=by
 obtain ⟨cs,h1,rfl⟩:=h;simp only [Cells] at h1;subst h1;rfl
theorem Hk (k:IntKind) (n:Int) (fr:Bool):Ai X w π H (.at (.data fr (.int k) n)) (.int k n):=⟨[.int k n],rfl,rfl⟩
theorem Gi (b:Bool) (fr:Bool):Ai X w π H (.at (.data fr .bool b)) (.bool b):=⟨[.bool b],rfl,rfl⟩
theorem Afq (s:ByteArray) (fr:Bool):Ai X w π H (.at (.data fr .str s)) (.string s):=⟨[.string s],rfl,rfl⟩
theorem Bev (f:FuncId):Ai X w π H (.at (.clo f [])) (.func (.func f) #[] #[]):=⟨[],rfl,rfl,fun i p hi=>by simp at hi⟩
theorem Ayn (v:Value):Ai X w π H (Adi v) v:=by
 unfold Adi
 split
 ·exact Hk _ _ _
 ·exact Gi _ _
 ·exact Afq _ _
 ·rfl
 ·rfl
 ·trivial
theorem Bk {st:St} {a:Act} (h:Ai9 X w π st a) (x:Operand):Ai X w π st.heap (st.ev x) (a.eval x):=by
 cases x with
 |tmp t=>exact h.tmps t
 |const v=>exact Ayn v
 |global g=>trivial
 |func f=>exact Bev f
theorem Avo (op:BinOp) (k:IntKind) (a b:Int) (t:TypeId) (av:AV) (h:Aj6 op k a b=some av):
  ∃v,(binOp op t (.int k a) (.int k b)).run P w= .ok v w∧Ai X w π H av v:=by
 cases op<;>simp only [Aj6,Pu,Ib] at h
 case add=>cases h;exact ⟨_,by simp [binOp,Op.intArith],Hk _ _ _⟩
 case sub=>cases h;exact ⟨_,by simp [binOp,Op.intArith],Hk _ _ _⟩
 case mul=>cases h;exact ⟨_,by simp [binOp,Op.intArith],Hk _ _ _⟩
 case quo=>split at h<;>cases h;rename_i hb;exact ⟨_,by simp [binOp,Op.intDiv,hb],Hk _ _ _⟩
 case rem=>split at h<;>cases h;rename_i hb;exact ⟨_,by simp [binOp,Op.intDiv,hb],Hk _ _ _⟩
 case and=>cases h;exact ⟨_,by simp [binOp,Op.intBits],Hk _ _ _⟩
 case or=>cases h;exact ⟨_,by simp [binOp,Op.intBits],Hk _ _ _⟩
 case eql=>cases h;exact ⟨_,by simp [binOp,Op.intCmp],Gi _ _⟩
 case neq=>cases h;exact ⟨_,by simp [binOp,Op.intCmp],Gi _ _⟩
 case lss=>cases h;exact ⟨_,by simp [binOp,Op.intCmp],Gi _ _⟩
 case leq=>cases h;exact ⟨_,by simp [binOp,Op.intCmp],Gi _ _⟩
 case gtr=>cases h;exact ⟨_,by simp [binOp,Op.intCmp],Gi _ _⟩
 case geq=>cases h;exact ⟨_,by simp [binOp,Op.intCmp],Gi _ _⟩
 all_goals cases h
theorem Arz (op:BinOp) (x y:AV) (vx vy:Value) (ox oy:Operand) (t:TypeId) (av:AV) (hx:Ai X w π H x vx) (hy:Ai X w π H y vy) (h:evalBin op x y=some av):
  ∃v,(do eqGuard op t ox oy vx vy;binOp op t vx vy:Sem Value).run P w= .ok v w∧Ai X w π H av v:=by
 unfold evalBin at h
 split at h
 ·rename_i k a _ k' b
  have:=Io hx;subst this
  have:=Io hy;subst this
  have hg: ∀op,(eqGuard op t ox oy (.int k a) (.int k' b)).run P w= .ok () w:=by intro op;cases op<;>simp [eqGuard]
  split at h
  ·split at h
   ·cases h
   ·rename_i hb
    simp only [Pu,Option.some.injEq] at h;subst h
    exact ⟨_,by rw [Sem.run_bind,hg];simp [binOp,Op.shift,hb],Hk _ _ _⟩
  ·split at h
   ·cases h
   ·rename_i hb
    simp only [Pu,Option.some.injEq] at h;subst h
    exact ⟨_,by rw [Sem.run_bind,hg];simp [binOp,Op.shift,hb],Hk _ _ _⟩
  ·split at h
   ·rename_i hk;subst hk
    obtain ⟨v,h1,h2⟩:=Avo (P:=P) (w:=w) (X:=X) (π:=π) (H:=H) op k a b t av h
    exact ⟨v,by rw [Sem.run_bind,hg];exact h1,h2⟩
   ·cases h
 ·rename_i a _ b
  have:=We hx;subst this
  have:=We hy;subst this
  have hg: ∀op,(eqGuard op t ox oy (.string a) (.string b)).run P w= .ok () w:=by intro op;cases op<;>simp [eqGuard]
  split at h
  ·simp only [Ib,Option.some.injEq] at h;subst h
   exact ⟨_,by rw [Sem.run_bind,hg];simp [binOp,Op.stringOp],Gi _ _⟩
  ·simp only [Ib,Option.some.injEq] at h;subst h
   exact ⟨_,by rw [Sem.run_bind,hg];simp [binOp,Op.stringOp],Gi _ _⟩
  ·split at h
   ·rename_i hl
    simp only [Option.some.injEq] at h;subst h
    exact ⟨_,by rw [Sem.run_bind,hg];simp only [Result.andThen_ok,binOp];exact run_string_add_sum w a b (by omega),Afq _ _⟩
   ·cases h
  ·cases h
 ·cases h
theorem Zm {t:TypeId} (h:P.underlying t=some .bool) (a b:Bool) (w:World):(Op.equal t (.bool a) (.bool b)).run P w= .ok (a==b) w:=by
 unfold Op.equal
 rw [show Op.maxDepth=9999+1 from rfl]
 unfold Op.equalIn
 rw [Sem.run_bind,run_underlying h]
 rfl
theorem At7 (hT:Bt P T) {x:AV} {vx:Value} {b:Bool} {t:TypeId} (hx:Ai X w π H x vx) (h:Tw x=some b) (ht:(T.elem t).isSome=true):
  (∃a len cap,vx= .slice a len cap∧(match a with|none=>true|some _=>false)=b)∧(Op.equal t vx (.slice none 0 0)).run P w= .ok b w:=by
 have h1: ∃a len cap,vx= .slice a len cap∧(match a with|none=>true|some _=>false)=b:=by
  unfold Tw at h
  split at h
  ·simp only [Option.some.injEq] at h;subst h
   have hx:vx= .slice none 0 0:=hx
   exact ⟨none,0,0,hx,rfl⟩
  ·simp only [Option.some.injEq] at h;subst h
   obtain ⟨cs,hc,rfl⟩:=hx
   simp only [Cells] at hc
   rcases hc with ⟨rfl,c,rfl⟩|⟨xs,ad,len,cap,rfl,rfl,_⟩
   ·exact ⟨none,0,c,by simp [Ap,Ty.Ab],rfl⟩
   ·exact ⟨some ad,len,cap,by simp [Ap,Ty.Ab],rfl⟩
  ·cases h
 refine ⟨h1,?_⟩
 obtain ⟨a,len,cap,rfl,rfl⟩:=h1
 obtain ⟨te,hte⟩:=Option.isSome_iff_exists.1 ht
 have hu:=hT.elem t te hte
 unfold Op.equal
 rw [show Op.maxDepth=9999+1 from rfl]
 unfold Op.equalIn
 rw [Sem.run_bind,run_underlying hu]
 cases a<;>rfl
theorem At6 (hT:Bt P T) {x:AV} {vx:Value} {b:Bool} {t:TypeId} (hx:Ai X w π H x vx) (h:Tv x=some b) (ht:Bbf (T.ty t)=true):
  (∃a,vx= .pointer a∧(match a with|none=>true|some _=>false)=b)∧(Op.equal t vx (.pointer none)).run P w= .ok b w:=by
 have h1: ∃a,vx= .pointer a∧(match a with|none=>true|some _=>false)=b:=by
  unfold Tv at h
  split at h
  ·simp only [Option.some.injEq] at h;subst h
   have hx:vx= .pointer none:=hx
   exact ⟨none,hx,rfl⟩
  ·simp only [Option.some.injEq] at h;subst h
   obtain ⟨r,tid,vs,_,_,rfl⟩:=hx
   exact ⟨_,rfl,rfl⟩
  ·simp only [Option.some.injEq] at h;subst h
   obtain ⟨cs,hc,rfl⟩:=hx
   simp only [Cells] at hc
   rcases hc with ⟨rfl,rfl⟩|⟨xs,g,o,rfl,rfl,_⟩
   ·exact ⟨none,by simp [Ap,Ty.Ab],rfl⟩
   ·exact ⟨some ⟨g,o,none⟩,by simp [Ap,Ty.Ab],rfl⟩
  ·simp only [Option.some.injEq] at h;subst h
   obtain ⟨cs,hc,rfl⟩:=hx
   simp only [Cells] at hc
   obtain ⟨g,o,rfl,_⟩:=hc
   exact ⟨some ⟨g,o,none⟩,by simp [Ap,Ty.Ab],rfl⟩
  ·cases h
 refine ⟨h1,?_⟩
 obtain ⟨a,rfl,rfl⟩:=h1
 have hu: ∃u,P.underlying t=some (.pointer u):=by
  cases hty:T.ty t with
  |none=>rw [hty] at ht;cases ht
  |some τ=>
   have hd:=(hT.ty t τ hty).desc
   rw [hty] at ht
   cases τ<;>first|exact hd|cases ht
 obtain ⟨u,hu⟩:=hu
 unfold Op.equal
 rw [show Op.maxDepth=9999+1 from rfl]
 unfold Op.equalIn
 rw [Sem.run_bind,run_underlying hu]
 cases a<;>rfl
theorem Aos {T:Tab} (hT:Bt P T) (op:BinOp) (x y:AV) (vx vy:Value) (ox oy:Operand) (t:TypeId) (av:AV) (hx:Ai X w π H x vx) (hy:Ai X w π H y vy) (h:Ks T op t x y=some av):
  ∃v,(do eqGuard op t ox oy vx vy;binOp op t vx vy:Sem Value).run P w= .ok v w∧Ai X w π H av v:=by
 unfold Ks at h
 split at h
 ·split at h
  ·rename_i ht
   cases hn:Tw x with
   |none=>rw [hn] at h;cases h
   |some b=>
    rw [hn] at h
    simp only [Option.bind_some,Ib,Option.some.injEq] at h;subst h
    have hy:vy= .slice none 0 0:=hy
    subst hy
    obtain ⟨⟨a,len,cap,rfl,_⟩,h2⟩:=At7 hT hx hn ht
    exact ⟨.bool b,by rw [Sem.run_bind];simp [eqGuard,binOp,h2],Gi _ _⟩
  ·cases h
 ·split at h
  ·rename_i ht
   cases hn:Tv x with
   |none=>rw [hn] at h;cases h
   |some b=>
    rw [hn] at h
    simp only [Option.bind_some,Ib,Option.some.injEq] at h;subst h
    have hy:vy= .pointer none:=hy
    subst hy
    obtain ⟨⟨a,rfl,_⟩,h2⟩:=At6 hT hx hn ht
    exact ⟨.bool b,by rw [Sem.run_bind];simp [eqGuard,binOp,h2],Gi _ _⟩
  ·cases h
 ·split at h
  ·rename_i ht
   cases hn:Tw x with
   |none=>rw [hn] at h;cases h
   |some b=>
    rw [hn] at h
    simp only [Option.bind_some,Ib,Option.some.injEq] at h;subst h
    have hy:vy= .slice none 0 0:=hy
    subst hy
    obtain ⟨⟨a,len,cap,rfl,_⟩,h2⟩:=At7 hT hx hn ht
    exact ⟨.bool (!b),by rw [Sem.run_bind];simp [eqGuard,binOp,h2],Gi _ _⟩
  ·cases h
 ·split at h
  ·rename_i ht
   cases hn:Tv x with
   |none=>rw [hn] at h;cases h
   |some b=>
    rw [hn] at h
    simp only [Option.bind_some,Ib,Option.some.injEq] at h;subst h
    have hy:vy= .pointer none:=hy
    subst hy
    obtain ⟨⟨a,rfl,_⟩,h2⟩:=At6 hT hx hn ht
    exact ⟨.bool (!b),by rw [Sem.run_bind];simp [eqGuard,binOp,h2],Gi _ _⟩
  ·cases h
 ·rename_i a _ b
  have:=Ox hx;subst this
  have:=Ox hy;subst this
  split at h
  ·rename_i ht
   simp only [Ib,Option.some.injEq] at h;subst h
   have hu:P.underlying t=some .bool:=(hT.ty t _ ht).desc
   exact ⟨_,by rw [Sem.run_bind];simp [eqGuard,binOp,Zm hu],Gi _ _⟩
  ·cases h
 ·rename_i a _ b
  have:=Ox hx;subst this
  have:=Ox hy;subst this
  split at h
  ·rename_i ht
   simp only [Ib,Option.some.injEq] at h;subst h
   have hu:P.underlying t=some .bool:=(hT.ty t _ ht).desc
   exact ⟨_,by rw [Sem.run_bind];simp [eqGuard,binOp,Zm hu],Gi _ _⟩
  ·cases h
 ·exact Arz op x y vx vy ox oy t av hx hy h
theorem Avi (op:UnOp) (x:AV) (vx:Value) (av:AV) (hx:Ai X w π H x vx) (h:Aow op x=some av):
  ∃v,(Op.unary op vx).run P w= .ok v w∧Ai X w π H av v:=by
 unfold Aow at h
 split at h
 ·have:=Ox hx;subst this
  simp only [Ib,Option.some.injEq] at h;subst h
  exact ⟨_,by simp [Op.unary],Gi _ _⟩
 ·have:=Io hx;subst this
  simp only [Pu,Option.some.injEq] at h;subst h
  exact ⟨_,by simp [Op.unary,Op.intArith],Hk _ _ _⟩
 ·cases h
theorem Ds {t:TypeId} {τ:Ty} (ht:Ahh P T t τ) (g o:Nat) (es:List Value) (hl:es.length=τ.size) (hc: ∀j u,es[j]?=some u→w.cell? ⟨g,o+j,none⟩=some u):
  (loadVar t ⟨g,o,none⟩).run P w= .ok (Ap τ es) w:=by
 unfold loadVar
 rw [Sem.run_bind,ht.agg,Result.andThen_ok]
 cases hs:τ.Ab with
 |true=>
  simp only [if_true,Sem.run_bind,ht.size,Result.andThen_ok]
  rw [←hl,run_loadCells_list w ⟨g,o,none⟩ es (fun j v hv=>by rw [Addr.add_lit];exact hc j v hv)]
  simp [Ap,hs]
 |false=>
  have h1:τ.size=1:=by cases τ<;>simp_all [Ty.Ab,Ty.size]
  rw [h1] at hl
  obtain ⟨u,rfl⟩:=List.length_eq_one_iff.1 hl
  have:=hc 0 u rfl
  simp only [Nat.add_zero] at this
  simp [this,Ap,hs]
theorem Aq5 {fr:Bool} {τ:Ty} {x:τ.den} {v:Value} (h:Ai X w π H (.at (.data fr τ x)) v):Ai X w π H (.at (.data (fr||τ.flat) τ x)) v:=by
 cases hf:τ.flat with
 |true=>exact Bc.flat hf h
 |false=>rw [Bool.or_false];exact h
theorem Als {cs ds:List AC} {us vs:List Value} (h1:Cl X w π H cs us) (h2:Cl X w π H ds vs):Cl X w π H (cs++ds) (us++vs):=by
 have e1:=h1.1
 refine ⟨by simp [h1.1,h2.1],fun i c hc=>?_⟩
 by_cases hi:i<cs.length
 ·rw [List.getElem?_append_left hi] at hc
  obtain ⟨u,hu,h3⟩:=h1.2 i c hc
  exact ⟨u,by rw [List.getElem?_append_left (by omega)];exact hu,h3⟩
 ·rw [List.getElem?_append_right (by omega)] at hc
  obtain ⟨u,hu,h3⟩:=h2.2 _ c hc
  exact ⟨u,by rw [List.getElem?_append_right (by omega),e1];exact hu,h3⟩
theorem Wc {c:AC} {u:Value} (h1:u.oneCell'=true) (h2:Df X w π H c u):Cl X w π H [c] [u]:=⟨rfl,fun i c' hc=>by
 rcases i with _|i
 ·simp at hc;subst hc;exact ⟨u,rfl,h1,h2⟩
 ·simp at hc⟩
theorem Ax7 {l i:Nat} {e:Ty} {tid:TypeId} {xs:List e.den} {r:Real} (hl:Ac H l=some (.xarr e tid xs)) (hp:π l=some r) (hi:i<xs.length): ∀(τ:Ty) (c:Nat) (F:List Nat) (us:List Value) (x:τ.den),
  Bd w F τ us x→c+τ.size≤e.size→(∀j u,us[j]?=some u→w.cell? ⟨r.g,(r.o+i)*e.size+(c+j),none⟩=some u)→Cl X w π H (Wo l i c τ x) us:=by
 intro τ
 induction τ with
 |unit=>intro c F us x h _ _;simp only [Bd] at h;obtain ⟨_,rfl⟩:=h;exact ⟨rfl,fun i c hc=>by simp [Wo] at hc⟩
 |pair a r iha ihr=>
  intro c F us x h hle hc
  have hcs:=Bd.cells (S:=fun _=>False) F _ us x h (fun _ _ h=>h)
  simp only [Bd] at h
  obtain ⟨c1,c2,F1,F2,rfl,rfl,h1,h2⟩:=h
  have hl1:c1.length=a.size:=Cells.len a c1 x.1 (Bd.cells (S:=fun _=>False) F1 a c1 x.1 h1 (fun _ _ h=>h))
  simp only [Ty.size] at hle
  refine Als (iha c F1 c1 x.1 h1 (by omega) fun j u hu=>hc j u (by rw [List.getElem?_append_left (List.getElem?_eq_some_iff.1 hu).1];exact hu)) (ihr (c+a.size) F2 c2 x.2 h2 (by omega) fun j u hu=>?_)
  have:=hc (a.size+j) u (by rw [List.getElem?_append_right (by omega),hl1];simpa using hu)
  rw [show c+a.size+j=c+(a.size+j) by omega];exact this
 |int k=>intro c F us x h _ _;simp only [Bd] at h;obtain ⟨_,rfl⟩:=h;exact Wc rfl (Hk (H:=H) k x true)
 |bool=>intro c F us x h _ _;simp only [Bd] at h;obtain ⟨_,rfl⟩:=h;exact Wc rfl (Gi (H:=H) x true)
 |str=>intro c F us x h _ _;simp only [Bd] at h;obtain ⟨_,rfl⟩:=h;exact Wc rfl (Afq (H:=H) x true)
 |slice e'=>
  intro c F us x h hle hc
  simp only [Bd] at h
  obtain ⟨a,len,cap,rfl,_⟩:=h
  exact Wc rfl ⟨r,_,e.size,xs.length,hl,rfl,hp,hi,⟨by simp only [Ty.size] at hle;omega,_,_,_,rfl⟩,by simpa using hc 0 _ rfl⟩
 |_=>intro c F us x h;simp only [Bd] at h
theorem Ado (hT:Bt P T) {st:St} {a:Act} (h:Af X π st a w) (t:TypeId) (p:AV) (vp:Value) (av:AV) (hp:Ai X w π st.heap p vp) (he:Iv T st t p=some av):
  ∃v,(Instr.loadAt t vp).run P w= .ok v w∧Ai X w π st.heap av v:=by
 unfold Iv at he
 split at he
 ·rename_i τ fr τ' x ht
  split at he
  ·rename_i hτ
   subst hτ
   simp only [Option.some.injEq] at he;subst he
   have hty:=hT.ty _ _ ht
   obtain ⟨cs,hc,rfl⟩:=hp
   simp only [Cells] at hc
   obtain ⟨g,o,rfl,hg,hn,es,hl,hcell,hrec⟩:=hc
   refine ⟨Ap τ' es,?_,Aq5 (show Ai X w π st.heap (.at (.data fr τ' _)) (Ap τ' es) from ⟨es,hrec,rfl⟩)⟩
   have hr:=Ds (P:=P) (w:=w) hty g o es hl hcell
   show (do loadVar t (←Instr.sureAddr (.pointer (some ⟨g,o,none⟩))):Sem Value).run P w=_
   simpa [Instr.sureAddr] using hr
  ·cases he
 ·rename_i τ fr τ' x ht
  split at he
  ·rename_i hτ
   subst hτ
   simp only [Option.some.injEq] at he;subst he
   have hty:=hT.ty _ _ ht
   obtain ⟨cs,hc,rfl⟩:=hp
   simp only [Cells] at hc
   rcases hc with ⟨h0,_⟩|⟨y,g,o,h0,rfl,hg,hn,es,hl,hcell,hrec⟩
   ·cases h0
   simp only [Option.some.injEq] at h0;subst h0
   refine ⟨Ap τ' es,?_,Aq5 (show Ai X w π st.heap (.at (.data fr τ' _)) (Ap τ' es) from ⟨es,hrec,rfl⟩)⟩
   have hr:=Ds (P:=P) (w:=w) hty g o es hl hcell
   show (do loadVar t (←Instr.sureAddr (.pointer (some ⟨g,o,none⟩))):Sem Value).run P w=_
   simpa [Instr.sureAddr] using hr
  ·cases he
 ·rename_i τ l i ht
  have hty:=hT.ty _ _ ht
  split at he
  ·rename_i tid vs hl
   obtain ⟨r,tid',vs',h1,h2,rfl⟩:=hp
   unfold St.at at hl
   rw [hl] at h1;cases h1
   obtain ⟨r',h3,h4,cur,h5,h6⟩:=(h.1.heap l).blk hl
   rw [h2] at h3;cases h3
   split at he
   ·rename_i hs
    split at he
    ·rename_i hlen
     simp only [Option.some.injEq] at he;subst he
     have hcl:cur.toList.length=vs.length:=h6.1
     refine ⟨_,by
      simp only [Instr.loadAt,Instr.sureAddr]
      simpa using Ds (P:=P) (w:=w) hty r.g i ((cur.toList.drop i).take τ.size) (by simp at hcl⊢;omega) (fun j u hu=>by
       rw [cellOf h5]
       rw [List.getElem?_take] at hu
       split at hu
       ·rw [List.getElem?_drop] at hu;simpa using hu
       ·cases hu),?_⟩
     exact ⟨_,by simp [Ap,hs],Ow h6 i τ.size⟩
    ·cases he
   ·rename_i hs
    simp only [Bool.not_eq_true] at hs
    have h1:τ.size=1:=by cases τ<;>simp_all [Ty.Ab,Ty.size]
    cases hi:vs[i]? with
    |none=>rw [hi] at he;cases he
    |some c=>
     rw [hi] at he
     simp only [Option.map_some,Option.some.injEq] at he;subst he
     obtain ⟨u,hu,_,hc⟩:=h6.2 i c hi
     refine ⟨u,?_,hc⟩
     simp only [Instr.loadAt,Instr.sureAddr]
     have:=Ds (P:=P) (w:=w) hty r.g i [u] (by simp [h1]) (fun j u' hu'=>by
       rcases j with _|j
       ·simp at hu';subst hu';rw [Nat.add_zero,cellOf h5];simpa using hu
       ·simp at hu')
     simpa [Ap,hs] using this
  ·cases he
 ·rename_i τ l i ht
  have hty:=hT.ty _ _ ht
  split at he
  ·rename_i fr tr e tid xs hl
   split at he
   ·rename_i heq;subst heq
    obtain ⟨r,b,sz,n,h1,h0,h2,h3,rfl⟩:=hp
    unfold St.at at hl
    rw [hl] at h1;cases h1
    simp only [OB.row,Option.some.injEq,Prod.mk.injEq] at h0
    obtain ⟨rfl,rfl⟩:=h0
    have hb:=(h.1.heap l).blk hl
    simp only [Aq,El,h3] at hb
    obtain ⟨h4,cur,_,h5,h6,h7,h8,h9,_⟩:=hb
    have hx:xs[i]?=some xs[i]:=List.getElem?_eq_getElem h2
    rw [hx] at he
    simp only [Option.map_some,Option.some.injEq] at he;subst he
    obtain ⟨es,hes,hj,hcs⟩:=h9 i _ hx
    refine ⟨Ap e es,?_,Aq5 (show Ai X w π st.heap (.at (.data fr e _)) (Ap e es) from ⟨es,hcs,rfl⟩)⟩
    simp only [Instr.loadAt,Instr.sureAddr]
    simpa using Ds (P:=P) (w:=w) hty r.g ((r.o+i)*e.size) es hes (fun j u hu=>by rw [cellOf h5];exact hj j u hu)
   ·cases he
  ·rename_i e tid xs hl
   split at he
   ·rename_i heq;subst heq
    obtain ⟨r,b,sz,n,h1,h0,h2,h3,rfl⟩:=hp
    unfold St.at at hl
    rw [hl] at h1;cases h1
    simp only [OB.row,Option.some.injEq,Prod.mk.injEq] at h0
    obtain ⟨rfl,rfl⟩:=h0
    have hb:=(h.1.heap l).blk hl
    simp only [Aq,Hf,h3] at hb
    obtain ⟨h4,cur,_,h5,h6,h7,h8,Fs,k1,k2,k3,k4⟩:=hb
    have hx:xs[i]?=some xs[i]:=List.getElem?_eq_getElem h2
    rw [hx] at he
    simp only [Option.map_some,Option.some.injEq] at he;subst he
    obtain ⟨es,hes,hj,hcs⟩:=k4 i _ _ hx (List.getElem?_eq_getElem (by omega))
    have hrs:=Ax7 (X:=X) (H:=st.heap) hl h3 h2 e 0 _ es _ hcs (by omega) (fun j u hu=>by rw [cellOf h5,Nat.zero_add];exact hj j u hu)
    refine ⟨Ap e es,?_,?_⟩
    ·simp only [Instr.loadAt,Instr.sureAddr]
     simpa using Ds (P:=P) (w:=w) hty r.g ((r.o+i)*e.size) es hes (fun j u hu=>by rw [cellOf h5];exact hj j u hu)
    ·cases hst:e.Ab with
     |true=>rw [if_pos rfl];exact ⟨es,by simp [Ap,hst],hrs⟩
     |false=>
      rw [if_neg (by simp)]
      have h1:e.size=1:=by cases e<;>simp_all [Ty.Ab,Ty.size]
      rw [h1] at hes
      obtain ⟨u,rfl⟩:=List.length_eq_one_iff.1 hes
      have hl1:=hrs.1
      generalize Wo l i 0 e xs[i]=sc at*
      simp only [List.length_cons,List.length_nil] at hl1
      obtain ⟨c,rfl⟩:=List.length_eq_one_iff.1 hl1.symm
      obtain ⟨u',hu',_,hc'⟩:=hrs.2 0 c rfl
      simp at hu';subst hu'
      have e1:Ap e [u]=u:=by simp [Ap,hst]
      rw [e1]
      exact hc'
   ·cases he
  ·rename_i e te rows kp hl
   split at he
   ·cases he
   ·rename_i hst
    simp only [Bool.not_eq_true] at hst
    simp only [Option.some.injEq] at he;subst he
    obtain ⟨r,b,sz,n,h1,h0,h2,h3,rfl⟩:=hp
    unfold St.at at hl
    rw [hl] at h1;cases h1
    simp only [OB.row,Option.some.injEq,Prod.mk.injEq] at h0
    obtain ⟨rfl,rfl⟩:=h0
    obtain ⟨u,R,k1,k2,k3⟩:=Adw h.1 hl h3 h2 (by simp)
    have hsz:τ.size=1:=by cases τ<;>simp_all [Ty.Ab,Ty.size]
    refine ⟨u,?_,r,_,1,rows.length,hl,rfl,h3,h2,⟨by omega,Qb k2⟩,by rw [Nat.mul_one,Nat.add_zero];exact k1⟩
    simp only [Instr.loadAt,Instr.sureAddr]
    have:=Ds (P:=P) (w:=w) hty r.g ((r.o+i)*1) [u] (by simp [hsz]) (fun j u' hu'=>by
     rcases j with _|j
     ·simp at hu';subst hu';rw [Nat.mul_one,Nat.add_zero];exact k1
     ·simp at hu')
    simpa [Ap,hst] using this
  ·cases he
 ·rename_i τ l i j ht
  have hty:=hT.ty _ _ ht
  split at he
  ·rename_i e te rows kp hl
   split at he
   ·rename_i heq;subst heq
    simp only [Option.some.injEq] at he;subst he
    obtain ⟨r,b,n,sz,g,o,len,cap,h1,h0,h2,h3,h4,h5,rfl⟩:=hp
    unfold St.at at hl
    rw [hl] at h1;cases h1
    simp only [OB.gsz,Option.some.injEq,Prod.mk.injEq] at h0
    obtain ⟨rfl,rfl⟩:=h0
    obtain ⟨u,R,k1,k2,k3⟩:=Adw h.1 hl h2 h3 (by simp)
    rw [h5] at k1
    have hu:=Option.some.inj k1
    subst hu
    cases R with
    |none=>obtain ⟨hh,_⟩:=k2;cases hh
    |some q=>
     obtain ⟨ad,hh,g1,g2⟩:=k2
     simp only [Value.slice.injEq,Option.some.injEq] at hh
     obtain ⟨rfl,rfl,rfl⟩:=hh
     have had:=g2 (by omega)
     simp only [Addr.mk.injEq,and_true] at had
     obtain ⟨rfl,rfl⟩:=had
     obtain ⟨f1,cur,ti,f2,f3,f4,f5,f6⟩:=k3
     have hj:(rows.getD i [])[j]?=some ((rows.getD i []).getD j e.zero):=by rw [List.getD_eq_getElem?_getD (l:=rows.getD i []),List.getElem?_eq_getElem h4];rfl
     obtain ⟨es,hes,c1,c2⟩:=f6 j _ hj
     refine ⟨Ap e es,?_,Aq5 (fr:=false) (show Ai X w π st.heap (.at (.data false e _)) (Ap e es) from ⟨es,c2,rfl⟩)⟩
     simp only [Instr.loadAt,Instr.sureAddr]
     simpa using Ds (P:=P) (w:=w) hty q.g ((q.o+0)*e.size+j*e.size) es hes (fun m u hu=>by rw [cellOf f2,Nat.add_zero,←Nat.add_mul];exact c1 m u hu)
   ·cases he
  ·cases he
 ·cases he
theorem Bbb {α:Type} {xs:List α} {n:Int} {x:α} (h:idx xs n=some x):0≤n∧n<xs.length∧xs[n.toNat]?=some x:=by
 unfold idx at h
 split at h
 ·rename_i h0
  have:=(List.getElem?_eq_some_iff.1 h).1
  exact ⟨h0,by omega,h⟩
 ·cases h
theorem Ahw (hT:Bt P T) {t:TypeId} {e:Ty} (h:(T.elem t).bind T.ty=some e): ∃te,T.elem t=some te∧T.ty te=some e∧P.underlying t=some (.slice te)∧P.elem t=te:=by
 cases ht:T.elem t with
 |none=>rw [ht] at h;cases h
 |some te=>
  rw [ht] at h
  have hu:=hT.elem t te ht
  exact ⟨te,rfl,h,hu,by simp [Program.elem,hu]⟩
theorem Adn (hT:Bt P T) {st:St} {a:Act} (h:Af X π st a w) (t:TypeId) (x i:AV) (vx vi:Value) (av:AV) (hx:Ai X w π st.heap x vx) (hi:Ai X w π st.heap i vi)
  (he:Ez T st t x i=some av): ∃v,(Instr.indexAt t vx vi).run P w= .ok v w∧Ai X w π st.heap av v:=by
 unfold Ez at he
 split at he
 ·rename_i fr e xs _ k n
  have:=Io hi;subst this
  split at he
  ·rename_i hel
   obtain ⟨te,h1,h2,h3,h4⟩:=Ahw hT hel
   cases hix:idx xs n with
   |none=>rw [hix] at he;cases he
   |some y=>
    rw [hix] at he
    simp only [Option.map_some,Option.some.injEq] at he;subst he
    obtain ⟨h5,h6,h7⟩:=Bbb hix
    obtain ⟨cs,hc,rfl⟩:=hx
    simp only [Cells] at hc
    obtain ⟨ad,len,cap,rfl,hlen,hcap,hor⟩:=hc
    rcases hor with rfl|⟨g,o,rfl,hg,hn,hall⟩
    ·simp at h6;omega
    ·obtain ⟨es,hes,hcell,hrec⟩:=hall _ _ h7
     have hsz:=(hT.ty _ _ h2).size (w:=w)
     refine ⟨.pointer (some ⟨g,o+n.toNat*e.size,none⟩),?_,[_],⟨g,_,rfl,hg,hn,es,hes,hcell,hrec⟩,by simp [Ap,Ty.Ab]⟩
     simp only [Ap,Ty.Ab,Bool.false_eq_true,if_false,List.headD_cons]
     rw [run_indexAt_slice (P:=P) w t _ _ _ k n (by rw [h3,h4]),if_pos ⟨h5,by omega⟩,h4,hsz,Result.andThen_ok,Addr.add_lit]
  ·cases he
 ·rename_i l off len _ k n
  have:=Io hi;subst this
  split at he
  ·rename_i fr tr e tid xs hl
   split at he
   ·rename_i hcond
    obtain ⟨h1,h2,h56⟩:=hcond
    obtain ⟨h5,h6⟩:=La.1 h56
    simp only [Option.some.injEq] at he;subst he
    have h3:=hT.elem t tid h1
    have h4:P.elem t=tid:=by simp [Program.elem,h3]
    unfold St.at at hl
    have hl':=hl
    obtain ⟨h8,h9⟩:=Ht (X:=X) (w:=w) hx hl
    cases hp:π l with
    |none=>rw [hp] at h9;obtain ⟨_,_,h9⟩:=h9;omega
    |some r=>
     rw [hp] at h9
     obtain ⟨ad,rfl,h10,h11⟩:=h9
     have h12:=h11 (by omega)
     subst h12
     have hsz:=(hT.ty _ _ h2).size (w:=w)
     refine ⟨.pointer (some ⟨r.g,(r.o+off)*e.size+n.toNat*e.size,none⟩),?_,r,_,e.size,xs.length,hl',rfl,by omega,hp,?_⟩
     ·rw [run_indexAt_slice (P:=P) w t _ _ _ k n (by rw [h3,h4]),if_pos ⟨h5,by omega⟩,h4,hsz,Result.andThen_ok,Addr.add_lit]
     ·rw [←Nat.add_assoc r.o off n.toNat,Nat.add_mul (r.o+off)]
   ·cases he
  ·rename_i e tid xs hl
   split at he
   ·rename_i hcond
    obtain ⟨h1,h2,h56⟩:=hcond
    obtain ⟨h5,h6⟩:=La.1 h56
    simp only [Option.some.injEq] at he;subst he
    have h3:=hT.elem t tid h1
    have h4:P.elem t=tid:=by simp [Program.elem,h3]
    unfold St.at at hl
    have hl':=hl
    obtain ⟨h8,h9⟩:=Ro (X:=X) (w:=w) hx hl
    cases hp:π l with
    |none=>rw [hp] at h9;obtain ⟨_,_,h9⟩:=h9;omega
    |some r=>
     rw [hp] at h9
     obtain ⟨ad,rfl,h10,h11⟩:=h9
     have h12:=h11 (by omega)
     subst h12
     have hsz:=(hT.ty _ _ h2).size (w:=w)
     refine ⟨.pointer (some ⟨r.g,(r.o+off)*e.size+n.toNat*e.size,none⟩),?_,r,_,e.size,xs.length,hl',rfl,by omega,hp,?_⟩
     ·rw [run_indexAt_slice (P:=P) w t _ _ _ k n (by rw [h3,h4]),if_pos ⟨h5,by omega⟩,h4,hsz,Result.andThen_ok,Addr.add_lit]
     ·rw [←Nat.add_assoc r.o off n.toNat,Nat.add_mul (r.o+off)]
   ·cases he
  ·rename_i e te rows out kp hl
   split at he
   ·rename_i hcond
    obtain ⟨h1,h2,h56⟩:=hcond
    obtain ⟨h5,h6⟩:=La.1 h56
    simp only [Option.some.injEq] at he;subst he
    have h3:=hT.elem t te h1
    have h4:P.elem t=te:=by simp [Program.elem,h3]
    unfold St.at at hl
    have hl':=hl
    obtain ⟨h8,h9⟩:=Aeh (X:=X) (w:=w) hx hl
    cases hp:π l with
    |none=>rw [hp] at h9;obtain ⟨_,_,h9⟩:=h9;omega
    |some r=>
     rw [hp] at h9
     obtain ⟨ad,rfl,h10,h11⟩:=h9
     have h12:=h11 (by omega)
     subst h12
     cases hte:T.ty te with
     |none=>rw [hte] at h2;cases h2
     |some τ=>
      rw [hte] at h2
      have h2:τ.size=1:=Option.some.inj h2
      have hsz:=(hT.ty _ _ hte).size (w:=w)
      refine ⟨.pointer (some ⟨r.g,(r.o+off)*1+n.toNat*τ.size,none⟩),?_,r,_,1,rows.length,hl',rfl,by omega,hp,?_⟩
      ·rw [run_indexAt_slice (P:=P) w t _ _ _ k n (by rw [h3,h4]),if_pos ⟨h5,by omega⟩,h4,hsz,Result.andThen_ok,Addr.add_lit]
      ·rw [h2,←Nat.add_assoc r.o off n.toNat,Nat.add_mul (r.o+off)]
   ·cases he
  ·cases he
 ·rename_i l i c _ k n
  have:=Io hi;subst this
  split at he
  ·rename_i e te rows kp hl
   split at he
   ·rename_i hcond
    obtain ⟨h2,h56⟩:=hcond
    obtain ⟨h5,h6⟩:=La.1 h56
    simp only [Option.some.injEq] at he;subst he
    cases hte:T.elem t with
    |none=>rw [hte] at h2;cases h2
    |some te'=>
     rw [hte] at h2
     cases hty:T.ty te' with
     |none=>rw [Option.bind_some,hty] at h2;cases h2
     |some τ=>
      rw [Option.bind_some,hty] at h2
      have h2:τ.size=e.size:=Option.some.inj h2
      have h3:=hT.elem t te' hte
      have h4:P.elem t=te':=by simp [Program.elem,h3]
      unfold St.at at hl
      obtain ⟨r,b,sz,m,g1,g0,g2,g3,⟨g4,_⟩,g5⟩:=hx
      rw [hl] at g1;cases g1
      simp only [OB.inn,Option.some.injEq,Prod.mk.injEq] at g0
      obtain ⟨rfl,rfl⟩:=g0
      have hc0:c=0:=by omega
      subst hc0
      rw [Nat.mul_one,Nat.add_zero] at g5
      obtain ⟨u,R,k1,k2,k3⟩:=Adw h.1 hl g2 g3 (by simp)
      rw [g5] at k1
      have hu:=Option.some.inj k1
      subst hu
      cases R with
      |none=>obtain ⟨_,_,hh⟩:=k2;omega
      |some q=>
       obtain ⟨ad,rfl,f1,f2⟩:=k2
       have had:=f2 (by omega)
       subst had
       have hsz:=(hT.ty _ _ hty).size (w:=w)
       refine ⟨.pointer (some ⟨q.g,(q.o+0)*e.size+n.toNat*τ.size,none⟩),?_,r,_,rows.length,e.size,q.g,(q.o+0)*e.size,_,_,hl,rfl,g2,g3,by omega,g5,by rw [h2]⟩
       rw [run_indexAt_slice (P:=P) w t _ _ _ k n (by rw [h3,h4]),if_pos ⟨h5,by omega⟩,h4,hsz,Result.andThen_ok,Addr.add_lit]
   ·cases he
  ·cases he
 ·cases he
end
end Go.Proofs.Ytebabhocakedaaa
