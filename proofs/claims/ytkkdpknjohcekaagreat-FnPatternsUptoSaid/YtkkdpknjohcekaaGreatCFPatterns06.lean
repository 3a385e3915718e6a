/-
  Part 7 of the proof that the statement FnPatterns holds.
-/
import Derived.Test.YtkkdpknjohcekaaGreatCFPatterns05
namespace Go.Proofs.YtkkdpknjohcekaaGreat
open Go.RowKit
section
variable {P:Program} {T:Tab} {X:Ctx} {w w':World} {π:Pi} {H:List (Nat×OB)}
def QK (P:Program) (X:Ctx) (π:Pi) (H:List (Nat×OB)) (w:World) (av:AV):Result Next->Prop
 | .ok (.value v) w'=>w'=w/\Bs X w π H av v
 | .ok (.enter f args) w'=>w'=w/\Calls P f args w (λe qX=> ∃v,e= .returned v/\Below w.heap.size w qX/\Bs X qX π H av v)
 |_=>False
def lH (s:Spec) (w:World) (S:Nat->Prop) (v:Value) (y:s.res.den):Prop:=
 if s.Hk then ∃us:List Value,v= .tuple us.toArray/\Cu w S s.res us y else Cw w S s.res v y
structure Sound (P:Program) (f:FuncId) (s:Spec):Prop where
 enter: ∀args w,(callFunc f args).run P w= .ok (.enter f args) w
 calls: ∀(w:World) (S:Nat->Prop) (vs:List Value) (x:s.arg.den) (y:s.res.den),(∀k,S k->k<w.heap.size)->Cu w S s.arg vs x->s.fn x=some y->
  Calls P f vs.toArray w λe w'=> ∃v,e= .returned v/\Below w.heap.size w w'/\lH s w' (λb=>S b\/(s.fresh=true/\b<w.heap.size)) v y
def gm (w:World) (D:Nat->Prop) (r:Option Real):(c:CK)->c.den->Prop
 | .Fz _,_=>r=none
 | .row e _,xs=>Ta w D r e xs
 | .Hz e te,xs=>Nx w r e te xs
 | .part e _,x=>e.flat=true/\Ta w D r e x.1
 | .Bl e _ _,rows=>ay w D r e rows none
def eV (w:World) (D:Nat->Prop) (r:Option Real) (v:Value):(c:CK)->c.den->Prop
 | .Fz τ,x=>r=none/\Cw w D τ v x
 | .row e te,xs=>Ih r e.size 0 (List.length xs) v/\gm w D r (.row e te) xs
 | .Hz e te,xs=>Ih r e.size 0 (List.length xs) v/\gm w D r (.Hz e te) xs
 | .part e te,x=>(Ih r e.size x.2.1 x.2.2 v/\x.2.1+x.2.2<=List.length x.1)/\gm w D r (.part e te) x
 | .Bl e te kp,rows=>Ih r 1 0 (List.length rows) v/\gm w D r (.Bl e te kp) rows
def eW (w:World) (D:Nat->Prop) (π:Pi):(k:Nat)->(cs:List (Bool×CK))->Ins.den cs->List Value->Prop
 |_,[],_,[]=>True
 |k,p::r,x,u::us=>eV w D (π (Dy p.1 k)) u p.2 x.1/\eW w D π (k+1) r x.2 us
 |_,_,_,_=>False
def Mj (w:World) (D:Nat->Prop) (π:Pi):(k:Nat)->(cs:List (Bool×CK))->IOs.den cs->Prop
 |_,[],_=>True
 |k,(true, .Fz _)::r,x=>Mj w D π (k+1) r x
 |k,(true, .Bl _ _ _)::r,x=>Mj w D π (k+1) r x
 |k,(true, .row e te)::r,x=>gm w D (π (Dy true k)) (.row e te) x.1/\Mj w D π (k+1) r x.2
 |k,(true, .Hz e te)::r,x=>gm w D (π (Dy true k)) (.Hz e te) x.1/\Mj w D π (k+1) r x.2
 |k,(true, .part e te)::r,x=>gm w D (π (Dy true k)) (.row e te) x.1/\Mj w D π (k+1) r x.2
 |k,(false,_)::r,x=>Mj w D π (k+1) r x
def Jk (w:World) (D:Nat->Prop) (ρ:Pi):(k:Nat)->(cs:List CK)->CKs.den cs->List Value->Prop
 |_,[],_,[]=>True
 |k,c::r,x,u::us=>eV w D (ρ (Kj k)) u c x.1/\Jk w D ρ (k+1) r x.2 us
 |_,_,_,_=>False
structure im (π:Pi) (A:Nat->Prop):Prop where
 Xm: ∀l r b,π l=some r->r.Cv b->A b
 inj: ∀l l' r r' b,π l=some r->π l'=some r'->r.Cv b->r'.Cv b->l=l'
def da:List (Option Nat)->List Value->Prop
 | [],[]=>True
 |none::s,_::us=>da s us
 |some n::s,us=>n<=us.length/\(∀u∈us.take n,u.oneCell'=true)/\da s (us.drop n)
 |_,_=>False
def Abt (Hk:Bool) (sh:List (Option Nat)) (us:List Value) (v:Value):Prop:=if Hk then v= .tuple (Kx sh us).toArray else Kx sh us= [v]\/Kx sh us= []
def kC (S:Nat->Prop) (π ρ:Pi) (b:Nat):Prop:=S b\/(∃l q,Bn<=l/\π l=some q/\q.Cv b)\/Vy ρ b
def oF (s:MSpec) (w:World) (g:Nat) (us vs:List Value):Prop:=
 match s.ptr with
 |none=>vs=Kx s.Ii us/\da s.Ii us
 |some p=>vs= .pointer (some ⟨g,0,none⟩)::Kx s.Ii (us.drop p.2)/\da s.Ii (us.drop p.2)/\p.2<=us.length/\w.heap[g]?=some (.cells (us.take p.2).toArray p.1 (0,0))/\ ∀u∈us.take p.2,u.oneCell'=true
def MSpec.gv (s:MSpec) (g b:Nat):Prop:=s.ptr.isSome=true/\b=g
def Ev (π:Pi):(k:Nat)->(cs:List (Bool×CK))->IOs.den cs->(n:Nat)->List Value->List Value->Prop
 |_,_,_,0,us,_=>us= []
 |k,(true, .row e _)::r,o,n+1,u::us,as=>Ih (π (Dy true k)) e.size 0 (List.length o.1) u/\Ev π (k+1) r o.2 n us as
 |k,(true, .Hz e _)::r,o,n+1,u::us,as=>Ih (π (Dy true k)) e.size 0 (List.length o.1) u/\Ev π (k+1) r o.2 n us as
 |k,(false,_)::r,o,n+1,u::us,a::as=>u=a/\Ev π (k+1) r o n us as
 |_,_,_,_,_,_=>False
def lG (s:MSpec) (π:Pi) (w':World) (g:Nat) (Xh:List Value) (o:IOs.den s.ins):Prop:=
 match s.ptr with
 |none=>True
 |some p=> ∃cs,w'.heap[g]?=some (.cells cs.toArray p.1 (0,0))/\(∀u∈cs,u.oneCell'=true)/\Ev π 0 s.ins o p.2 cs Xh
def DI (w w':World) (r r':Option Real) (n:Nat):Prop:=match r,r' with
 |none,none=>True
 |some q,some q'=>q'.g=q.g/\q'.o=q.o/\q'.cap=q.cap/\ ∀j,j<n->j<q.cap->w'.cell? ⟨q.g,q.o+j,none⟩=w.cell? ⟨q.g,q.o+j,none⟩
 |_,_=>False
def si (s:MSpec) (w':World) (ρ:Pi) (us:List Value) (v:Value):Prop:=match s.rp with
 |none=>Abt s.Hk s.Gz us v/\da s.Gz us
 |some tid=> ∃q,ρ (Kj s.outs.length)=some q/\q.Cv q.g/\w'.heap[q.g]?=some (.cells us.toArray tid (0,0))/\(∀u∈us,u.oneCell'=true)/\v= .pointer (some ⟨q.g,0,none⟩)
def MSpec.Uw (s:MSpec):Nat:=s.outs.length+(match s.rp with|none=>0|some _=>1)
structure Cp (P:Program) (f:FuncId) (s:MSpec):Prop where
 enter: ∀args w,(callFunc f args).run P w= .ok (.enter f args) w
 calls: ∀(w:World) (S:Nat->Prop) (π:Pi) (us:List Value) (x:Ins.den s.ins) (r:CKs.den s.outs) (o:IOs.den s.ins) (g:Nat) (vs:List Value),
  oF s w g us vs->(s.ptr.isSome=true->S g)->eW w (λb=>Vy π b\/S b) π 0 s.ins x us->im π (λb=>b<w.heap.size)->(∀b,S b->b<w.heap.size/\ ¬Vy π b)->(∀l,At (Zy 0 s.ins x) l=none->π l=none)->s.fn x=some (r,o)->
  Calls P f vs.toArray w λe w'=> ∃v Xh ρ,e= .returned v/\si s w' ρ (Xh.drop s.aF) v/\lG s π w' g Xh o/\Ku w.heap.size (λb=>Vy π b\/s.gv g b) w w'/\Mj w' (kC S π ρ) π 0 s.ins o/\Jk w' (kC S π ρ) ρ 0 s.outs r Xh/\
   im ρ (λb=>b<w'.heap.size/\(w.heap.size<=b\/ ∃l q,l<Bn/\π l=some q/\q.Cv b))/\(∀l,(∀k,k<s.Uw->l≠Kj k)->ρ l=none)/\(∀kj∈s.keeps,DI w w' (π (Dy false kj.1)) (ρ (Kj kj.2)) (s.Fk x))
def Ahv (P:Program) (f:FuncId):bx->Prop
 | .q s=>Sound P f s
 | .m s=>Cp P f s
 | .b s m=>Sound P f s/\Cp P f m
def Kv (P:Program) (Γ:Env):Prop:= ∀f s,Γ f=some s->Ahv P f s
theorem Kv.reg {P:Program} {Γ:Env} (h:Kv P Γ) (draw:Bool):Kv P (AU Γ draw):= λf s hs=>by
 unfold AU at hs
 split at hs
 ·rename_i s0 m Ot
  have:=h f _ Ot
  cases draw with
  |true=>simp only [Ph,Aa] at hs;subst hs;exact this.1
  |false=>simp only [Dd,Rl,Aa] at hs;subst hs;exact this.2
 ·exact h f s hs
theorem Qa {k:IntKind} {n:Int} {fr:Bool} {v:Value} (h:Bs X w π H (.at (.data fr (.int k) n)) v):v= .int k n:=by
 obtain ⟨cs,h1,rfl⟩:=h;simp only [Cells] at h1;subst h1;rfl
theorem a9 {b:Bool} {fr:Bool} {v:Value} (h:Bs X w π H (.at (.data fr .bool b)) v):v= .bool b:=by
 obtain ⟨cs,h1,rfl⟩:=h;simp only [Cells] at h1;subst h1;rfl
theorem fN {s:ByteArray} {fr:Bool} {v:Value} (h:Bs X w π H (.at (.data fr .str s)) v):v= .string s:=by
 obtain ⟨cs,h1,rfl⟩:=h;simp only [Cells] at h1;subst h1;rfl
theorem Nb (k:IntKind) (n:Int) (fr:Bool):Bs X w π H (.at (.data fr (.int k) n)) (.int k n):=⟨[.int k n],rfl,rfl⟩
theorem Lz (b:Bool) (fr:Bool):Bs X w π H (.at (.data fr .bool b)) (.bool b):=⟨[.bool b],rfl,rfl⟩
theorem mi (s:ByteArray) (fr:Bool):Bs X w π H (.at (.data fr .str s)) (.string s):=⟨[.string s],rfl,rfl⟩
theorem Ajr (f:FuncId):Bs X w π H (.at (.clo f [])) (.func (.func f) #[] #[]):=⟨[],rfl,rfl,λi p hi=>by simp at hi⟩
theorem TK (v:Value):Bs X w π H (mS v) v:=by
 unfold mS
 split
 ·exact Nb _ _ _
 ·exact Lz _ _
 ·exact mi _ _
 ·rfl
 ·rfl
 ·trivial
theorem Du {st:St} {a:Act} (h:sf X w π st a) (x:Operand):Bs X w π st.heap (st.ev x) (a.eval x):=by
 cases x with
 |tmp t=>exact h.tmps t
 |const v=>exact TK v
 |global g=>trivial
 |func f=>exact Ajr f
theorem MH (op:BinOp) (k:IntKind) (a b:Int) (t:TypeId) (av:AV) (h:tz op k a b=some av):
  ∃v,(binOp op t (.int k a) (.int k b)).run P w= .ok v w/\Bs X w π H av v:=by
 cases op<;>simp only [tz,aJ,Pe] at h
 case add=>cases h;exact ⟨_,by simp [binOp,Op.intArith],Nb _ _ _⟩
 case sub=>cases h;exact ⟨_,by simp [binOp,Op.intArith],Nb _ _ _⟩
 case mul=>cases h;exact ⟨_,by simp [binOp,Op.intArith],Nb _ _ _⟩
 case quo=>split at h<;>cases h;rename_i hb;exact ⟨_,by simp [binOp,Op.intDiv,hb],Nb _ _ _⟩
 case rem=>split at h<;>cases h;rename_i hb;exact ⟨_,by simp [binOp,Op.intDiv,hb],Nb _ _ _⟩
 case and=>cases h;exact ⟨_,by simp [binOp,Op.intBits],Nb _ _ _⟩
 case or=>cases h;exact ⟨_,by simp [binOp,Op.intBits],Nb _ _ _⟩
 case eql=>cases h;exact ⟨_,by simp [binOp,Op.intCmp],Lz _ _⟩
 case neq=>cases h;exact ⟨_,by simp [binOp,Op.intCmp],Lz _ _⟩
 case lss=>cases h;exact ⟨_,by simp [binOp,Op.intCmp],Lz _ _⟩
 case leq=>cases h;exact ⟨_,by simp [binOp,Op.intCmp],Lz _ _⟩
 case gtr=>cases h;exact ⟨_,by simp [binOp,Op.intCmp],Lz _ _⟩
 case geq=>cases h;exact ⟨_,by simp [binOp,Op.intCmp],Lz _ _⟩
 all_goals cases h
theorem EO (op:BinOp) (x y:AV) (vx vy:Value) (ox oy:Operand) (t:TypeId) (av:AV) (hx:Bs X w π H x vx) (hy:Bs X w π H y vy) (h:evalBin op x y=some av):
  ∃v,(do eqGuard op t ox oy vx vy;binOp op t vx vy:Sem Value).run P w= .ok v w/\Bs X w π H av v:=by
 unfold evalBin at h
 split at h
 ·rename_i k a _ k' b
  have:=Qa hx;subst this
  have:=Qa hy;subst this
  have hg: ∀op,(eqGuard op t ox oy (.int k a) (.int k' b)).run P w= .ok () w:=by intro op;cases op<;>simp [eqGuard]
  split at h
  ·split at h
   ·cases h
   ·rename_i hb
    simp only [aJ,Aa] at h;subst h
    exact ⟨_,by rw [Sem.run_bind,hg];simp [binOp,Op.shift,hb],Nb _ _ _⟩
  ·split at h
   ·cases h
   ·rename_i hb
    simp only [aJ,Aa] at h;subst h
    exact ⟨_,by rw [Sem.run_bind,hg];simp [binOp,Op.shift,hb],Nb _ _ _⟩
  ·split at h
   ·rename_i hk;subst hk
    obtain ⟨v,h1,h2⟩:=MH (P:=P) (w:=w) (X:=X) (π:=π) (H:=H) op k a b t av h
    exact ⟨v,by rw [Sem.run_bind,hg];exact h1,h2⟩
   ·cases h
 ·rename_i a _ b
  have:=fN hx;subst this
  have:=fN hy;subst this
  have hg: ∀op,(eqGuard op t ox oy (.string a) (.string b)).run P w= .ok () w:=by intro op;cases op<;>simp [eqGuard]
  split at h
  ·simp only [Pe,Aa] at h;subst h
   exact ⟨_,by rw [Sem.run_bind,hg];simp [binOp,Op.stringOp],Lz _ _⟩
  ·simp only [Pe,Aa] at h;subst h
   exact ⟨_,by rw [Sem.run_bind,hg];simp [binOp,Op.stringOp],Lz _ _⟩
  ·split at h
   ·rename_i hl
    simp only [Aa] at h;subst h
    exact ⟨_,by rw [Sem.run_bind,hg];simp only [Result.andThen_ok,binOp];exact run_string_add_sum w a b (by omega),mi _ _⟩
   ·cases h
  ·cases h
 ·cases h
theorem jo {t:TypeId} (h:P.underlying t=some .bool) (a b:Bool) (w:World):(Op.equal t (.bool a) (.bool b)).run P w= .ok (a==b) w:=by
 unfold Op.equal
 rw [show Op.maxDepth=9999+1 from rfl]
 unfold Op.equalIn
 rw [Sem.run_bind,run_underlying h]
 rfl
theorem GZ (hT:Eb P T) {x:AV} {vx:Value} {b:Bool} {t:TypeId} (hx:Bs X w π H x vx) (h:ee x=some b) (ht:(T.elem t).isSome=true):
  (∃a len cap,vx= .slice a len cap/\(match a with|none=>true|some _=>false)=b)/\(Op.equal t vx (.slice none 0 0)).run P w= .ok b w:=by
 have h1: ∃a len cap,vx= .slice a len cap/\(match a with|none=>true|some _=>false)=b:=by
  unfold ee at h
  split at h
  ·simp only [Aa] at h;subst h
   have hx:vx= .slice none 0 0:=hx
   exact ⟨none,0,0,hx,rfl⟩
  ·simp only [Aa] at h;subst h
   obtain ⟨cs,hc,rfl⟩:=hx
   simp only [Cells] at hc
   rcases hc with ⟨rfl,c,rfl⟩|⟨xs,ad,len,cap,rfl,rfl,_⟩
   ·exact ⟨none,0,c,by simp [Cd,Ty.Ap],rfl⟩
   ·exact ⟨some ad,len,cap,by simp [Cd,Ty.Ap],rfl⟩
  ·cases h
 refine ⟨h1,?_⟩
 obtain ⟨a,len,cap,rfl,rfl⟩:=h1
 obtain ⟨te,l5⟩:=Xf.1 ht
 have hu:=hT.elem t te l5
 unfold Op.equal
 rw [show Op.maxDepth=9999+1 from rfl]
 unfold Op.equalIn
 rw [Sem.run_bind,run_underlying hu]
 cases a<;>rfl
theorem GY (hT:Eb P T) {x:AV} {vx:Value} {b:Bool} {t:TypeId} (hx:Bs X w π H x vx) (h:ed x=some b) (ht:Aaj (T.ty t)=true):
  (∃a,vx= .pointer a/\(match a with|none=>true|some _=>false)=b)/\(Op.equal t vx (.pointer none)).run P w= .ok b w:=by
 have h1: ∃a,vx= .pointer a/\(match a with|none=>true|some _=>false)=b:=by
  unfold ed at h
  split at h
  ·simp only [Aa] at h;subst h
   have hx:vx= .pointer none:=hx
   exact ⟨none,hx,rfl⟩
  ·simp only [Aa] at h;subst h
   obtain ⟨r,tid,vs,_,_,rfl⟩:=hx
   exact ⟨_,rfl,rfl⟩
  ·simp only [Aa] at h;subst h
   obtain ⟨cs,hc,rfl⟩:=hx
   simp only [Cells] at hc
   rcases hc with ⟨rfl,rfl⟩|⟨xs,g,o,rfl,rfl,_⟩
   ·exact ⟨none,by simp [Cd,Ty.Ap],rfl⟩
   ·exact ⟨some ⟨g,o,none⟩,by simp [Cd,Ty.Ap],rfl⟩
  ·simp only [Aa] at h;subst h
   obtain ⟨cs,hc,rfl⟩:=hx
   simp only [Cells] at hc
   obtain ⟨g,o,rfl,_⟩:=hc
   exact ⟨some ⟨g,o,none⟩,by simp [Cd,Ty.Ap],rfl⟩
  ·cases h
 refine ⟨h1,?_⟩
 obtain ⟨a,rfl,rfl⟩:=h1
 have hu: ∃u,P.underlying t=some (.pointer u):=by
  cases Yi:T.ty t with
  |none=>rw [Yi] at ht;cases ht
  |some τ=>
   have hd:=(hT.ty t τ Yi).desc
   rw [Yi] at ht
   cases τ<;>first|exact hd|cases ht
 obtain ⟨u,hu⟩:=hu
 unfold Op.equal
 rw [show Op.maxDepth=9999+1 from rfl]
 unfold Op.equalIn
 rw [Sem.run_bind,run_underlying hu]
 cases a<;>rfl
theorem zc {T:Tab} (hT:Eb P T) (op:BinOp) (x y:AV) (vx vy:Value) (ox oy:Operand) (t:TypeId) (av:AV) (hx:Bs X w π H x vx) (hy:Bs X w π H y vy) (h:Tw T op t x y=some av):
  ∃v,(do eqGuard op t ox oy vx vy;binOp op t vx vy:Sem Value).run P w= .ok v w/\Bs X w π H av v:=by
 unfold Tw at h
 split at h
 ·split at h
  ·rename_i ht
   cases hn:ee x with
   |none=>rw [hn] at h;cases h
   |some b=>
    rw [hn] at h
    simp only [Fp,Pe,Aa] at h;subst h
    have hy:vy= .slice none 0 0:=hy
    subst hy
    obtain ⟨⟨a,len,cap,rfl,_⟩,h2⟩:=GZ hT hx hn ht
    exact ⟨.bool b,by rw [Sem.run_bind];simp [eqGuard,binOp,h2],Lz _ _⟩
  ·cases h
 ·split at h
  ·rename_i ht
   cases hn:ed x with
   |none=>rw [hn] at h;cases h
   |some b=>
    rw [hn] at h
    simp only [Fp,Pe,Aa] at h;subst h
    have hy:vy= .pointer none:=hy
    subst hy
    obtain ⟨⟨a,rfl,_⟩,h2⟩:=GY hT hx hn ht
    exact ⟨.bool b,by rw [Sem.run_bind];simp [eqGuard,binOp,h2],Lz _ _⟩
  ·cases h
 ·split at h
  ·rename_i ht
   cases hn:ee x with
   |none=>rw [hn] at h;cases h
   |some b=>
    rw [hn] at h
    simp only [Fp,Pe,Aa] at h;subst h
    have hy:vy= .slice none 0 0:=hy
    subst hy
    obtain ⟨⟨a,len,cap,rfl,_⟩,h2⟩:=GZ hT hx hn ht
    exact ⟨.bool (!b),by rw [Sem.run_bind];simp [eqGuard,binOp,h2],Lz _ _⟩
  ·cases h
 ·split at h
  ·rename_i ht
   cases hn:ed x with
   |none=>rw [hn] at h;cases h
   |some b=>
    rw [hn] at h
    simp only [Fp,Pe,Aa] at h;subst h
    have hy:vy= .pointer none:=hy
    subst hy
    obtain ⟨⟨a,rfl,_⟩,h2⟩:=GY hT hx hn ht
    exact ⟨.bool (!b),by rw [Sem.run_bind];simp [eqGuard,binOp,h2],Lz _ _⟩
  ·cases h
 ·rename_i a _ b
  have:=a9 hx;subst this
  have:=a9 hy;subst this
  split at h
  ·rename_i ht
   simp only [Pe,Aa] at h;subst h
   have hu:P.underlying t=some .bool:=(hT.ty t _ ht).desc
   exact ⟨_,by rw [Sem.run_bind];simp [eqGuard,binOp,jo hu],Lz _ _⟩
  ·cases h
 ·rename_i a _ b
  have:=a9 hx;subst this
  have:=a9 hy;subst this
  split at h
  ·rename_i ht
   simp only [Pe,Aa] at h;subst h
   have hu:P.underlying t=some .bool:=(hT.ty t _ ht).desc
   exact ⟨_,by rw [Sem.run_bind];simp [eqGuard,binOp,jo hu],Lz _ _⟩
  ·cases h
 ·exact EO op x y vx vy ox oy t av hx hy h
theorem LK (op:UnOp) (x:AV) (vx:Value) (av:AV) (hx:Bs X w π H x vx) (h:zg op x=some av):
  ∃v,(Op.unary op vx).run P w= .ok v w/\Bs X w π H av v:=by
 unfold zg at h
 split at h
 ·have:=a9 hx;subst this
  simp only [Pe,Aa] at h;subst h
  exact ⟨_,by simp [Op.unary],Lz _ _⟩
 ·have:=Qa hx;subst this
  simp only [aJ,Aa] at h;subst h
  exact ⟨_,by simp [Op.unary,Op.intArith],Nb _ _ _⟩
 ·cases h
theorem Iw {t:TypeId} {τ:Ty} (ht:oI P T t τ) (g o:Nat) (es:List Value) (hl:es.length=τ.size) (hc: ∀j u,es[j]?=some u->w.cell? ⟨g,o+j,none⟩=some u):
  (loadVar t ⟨g,o,none⟩).run P w= .ok (Cd τ es) w:=by
 unfold loadVar
 rw [Sem.run_bind,ht.agg,Result.andThen_ok]
 cases hs:τ.Ap with
 |true=>
  simp only [Ph,Sem.run_bind,ht.size,Result.andThen_ok]
  rw [<-hl,run_loadCells_list w ⟨g,o,none⟩ es (λj v hv=>by rw [Addr.add_lit];exact hc j v hv)]
  simp [Cd,hs]
 |false=>
  have h1:τ.size=1:=by cases τ<;>simp_all [Ty.Ap,Ty.size]
  rw [h1] at hl
  obtain ⟨u,rfl⟩:=Ed.1 hl
  have:=hc 0 u rfl
  simp only [Er] at this
  simp [this,Cd,hs]
theorem ur {fr:Bool} {τ:Ty} {x:τ.den} {v:Value} (h:Bs X w π H (.at (.data fr τ x)) v):Bs X w π H (.at (.data (fr||τ.flat) τ x)) v:=by
 cases hf:τ.flat with
 |true=>exact Cw.flat hf h
 |false=>rw [hZ];exact h
theorem wG {cs ds:List AC} {us vs:List Value} (h1:Gc X w π H cs us) (h2:Gc X w π H ds vs):Gc X w π H (cs++ds) (us++vs):=by
 have e1:=h1.1
 refine ⟨by simp [h1.1,h2.1],λi c hc=>?_⟩
 by_cases hi:i<cs.length
 ·rw [As hi] at hc
  obtain ⟨u,hu,h3⟩:=h1.2 i c hc
  exact ⟨u,by rw [As (by omega)];exact hu,h3⟩
 ·rw [Ar (by omega)] at hc
  obtain ⟨u,hu,h3⟩:=h2.2 _ c hc
  exact ⟨u,by rw [Ar (by omega),e1];exact hu,h3⟩
theorem fM {c:AC} {u:Value} (h1:u.oneCell'=true) (h2:Hv X w π H c u):Gc X w π H [c] [u]:=⟨rfl,λi c' hc=>by
 rcases i with _|i
 ·simp at hc;subst hc;exact ⟨u,rfl,h1,h2⟩
 ·simp at hc⟩
theorem PC {l i:Nat} {e:Ty} {tid:TypeId} {xs:List e.den} {r:Real} (hl:At H l=some (.Hf e tid xs)) (hp:π l=some r) (hi:i<xs.length): ∀(τ:Ty) (c:Nat) (F:List Nat) (us:List Value) (x:τ.den),
  Dg w F τ us x->c+τ.size<=e.size->(∀j u,us[j]?=some u->w.cell? ⟨r.g,(r.o+i)*e.size+(c+j),none⟩=some u)->Gc X w π H (fX l i c τ x) us:=by
 intro τ
 induction τ with
 |unit=>intro c F us x h _ _;simp only [Dg] at h;obtain ⟨_,rfl⟩:=h;exact ⟨rfl,λi c hc=>by simp [fX] at hc⟩
 |pair a r ib gZ=>
  intro c F us x h hle hc
  have zo:=Dg.cells (S:= λ_=>False) F _ us x h (λ_ _ h=>h)
  simp only [Dg] at h
  obtain ⟨c1,c2,F1,F2,rfl,rfl,h1,h2⟩:=h
  have YD:c1.length=a.size:=Cells.len a c1 x.1 (Dg.cells (S:= λ_=>False) F1 a c1 x.1 h1 (λ_ _ h=>h))
  simp only [Ty.size] at hle
  refine wG (ib c F1 c1 x.1 h1 (by omega) λj u hu=>hc j u (by rw [As (An.1 hu).1];exact hu)) (gZ (c+a.size) F2 c2 x.2 h2 (by omega) λj u hu=>?_)
  have:=hc (a.size+j) u (by rw [Ar (by omega),YD];simpa using hu)
  rw [show c+a.size+j=c+(a.size+j) by omega];exact this
 |int k=>intro c F us x h _ _;simp only [Dg] at h;obtain ⟨_,rfl⟩:=h;exact fM rfl (Nb (H:=H) k x true)
 |bool=>intro c F us x h _ _;simp only [Dg] at h;obtain ⟨_,rfl⟩:=h;exact fM rfl (Lz (H:=H) x true)
 |str=>intro c F us x h _ _;simp only [Dg] at h;obtain ⟨_,rfl⟩:=h;exact fM rfl (mi (H:=H) x true)
 |slice e'=>
  intro c F us x h hle hc
  simp only [Dg] at h
  obtain ⟨a,len,cap,rfl,_⟩:=h
  exact fM rfl ⟨r,_,e.size,xs.length,hl,rfl,hp,hi,⟨by simp only [Ty.size] at hle;omega,_,_,_,rfl⟩,by simpa using hc 0 _ rfl⟩
 |_=>intro c F us x h;simp only [Dg] at h
theorem nd (hT:Eb P T) {st:St} {a:Act} (h:Bi X π st a w) (t:TypeId) (p:AV) (vp:Value) (av:AV) (hp:Bs X w π st.heap p vp) (he:Qe T st t p=some av):
  ∃v,(Instr.loadAt t vp).run P w= .ok v w/\Bs X w π st.heap av v:=by
 unfold Qe at he
 split at he
 ·rename_i τ fr Oe x ht
  split at he
  ·rename_i Tz
   subst Tz
   simp only [Aa] at he;subst he
   have Yi:=hT.ty _ _ ht
   obtain ⟨cs,hc,rfl⟩:=hp
   simp only [Cells] at hc
   obtain ⟨g,o,rfl,hg,hn,es,hl,Wi,bP⟩:=hc
   refine ⟨Cd Oe es,?_,ur (show Bs X w π st.heap (.at (.data fr Oe _)) (Cd Oe es) from ⟨es,bP,rfl⟩)⟩
   have hr:=Iw (P:=P) (w:=w) Yi g o es hl Wi
   show (do loadVar t (<-Instr.sureAddr (.pointer (some ⟨g,o,none⟩))):Sem Value).run P w=_
   simpa [Instr.sureAddr] using hr
  ·cases he
 ·rename_i τ fr Oe x ht
  split at he
  ·rename_i Tz
   subst Tz
   simp only [Aa] at he;subst he
   have Yi:=hT.ty _ _ ht
   obtain ⟨cs,hc,rfl⟩:=hp
   simp only [Cells] at hc
   rcases hc with ⟨h0,_⟩|⟨y,g,o,h0,rfl,hg,hn,es,hl,Wi,bP⟩
   ·cases h0
   simp only [Aa] at h0;subst h0
   refine ⟨Cd Oe es,?_,ur (show Bs X w π st.heap (.at (.data fr Oe _)) (Cd Oe es) from ⟨es,bP,rfl⟩)⟩
   have hr:=Iw (P:=P) (w:=w) Yi g o es hl Wi
   show (do loadVar t (<-Instr.sureAddr (.pointer (some ⟨g,o,none⟩))):Sem Value).run P w=_
   simpa [Instr.sureAddr] using hr
  ·cases he
 ·rename_i τ l i ht
  have Yi:=hT.ty _ _ ht
  split at he
  ·rename_i tid vs hl
   obtain ⟨r,Vc,vs',h1,h2,rfl⟩:=hp
   unfold St.at at hl
   rw [hl] at h1;cases h1
   obtain ⟨r',h3,h4,cur,h5,h6⟩:=(h.1.heap l).Ro hl
   rw [h2] at h3;cases h3
   split at he
   ·rename_i hs
    split at he
    ·rename_i hlen
     simp only [Aa] at he;subst he
     have Pc:cur.toList.length=vs.length:=h6.1
     refine ⟨_,by
      simp only [Instr.loadAt,Instr.sureAddr]
      simpa using Iw (P:=P) (w:=w) Yi r.g i ((cur.toList.drop i).take τ.size) (by simp at Pc⊢;omega) (λj u hu=>by
       rw [cellOf h5]
       rw [Cx] at hu
       split at hu
       ·rw [De] at hu;simpa using hu
       ·cases hu),?_⟩
     exact ⟨_,by simp [Cd,hs],a8 h6 i τ.size⟩
    ·cases he
   ·rename_i hs
    simp only [Ge] at hs
    have h1:τ.size=1:=by cases τ<;>simp_all [Ty.Ap,Ty.size]
    cases hi:vs[i]? with
    |none=>rw [hi] at he;cases he
    |some c=>
     rw [hi] at he
     simp only [Am,Aa] at he;subst he
     obtain ⟨u,hu,_,hc⟩:=h6.2 i c hi
     refine ⟨u,?_,hc⟩
     simp only [Instr.loadAt,Instr.sureAddr]
     have:=Iw (P:=P) (w:=w) Yi r.g i [u] (by simp [h1]) (λj u' gY=>by
       rcases j with _|j
       ·simp at gY;subst gY;rw [Er,cellOf h5];simpa using hu
       ·simp at gY)
     simpa [Cd,hs] using this
  ·cases he
 ·rename_i τ l i ht
  have Yi:=hT.ty _ _ ht
  split at he
  ·rename_i fr tr e tid xs hl
   split at he
   ·rename_i heq;subst heq
    obtain ⟨r,b,sz,n,h1,h0,h2,h3,rfl⟩:=hp
    unfold St.at at hl
    rw [hl] at h1;cases h1
    simp only [OB.row,Aa,Ae] at h0
    obtain ⟨rfl,rfl⟩:=h0
    have hb:=(h.1.heap l).Ro hl
    simp only [Cj,Kg,h3] at hb
    obtain ⟨h4,cur,_,h5,h6,h7,h8,h9,_⟩:=hb
    have hx:xs[i]?=some xs[i]:=Ac h2
    rw [hx] at he
    simp only [Am,Aa] at he;subst he
    obtain ⟨es,gV,hj,zo⟩:=h9 i _ hx
    refine ⟨Cd e es,?_,ur (show Bs X w π st.heap (.at (.data fr e _)) (Cd e es) from ⟨es,zo,rfl⟩)⟩
    simp only [Instr.loadAt,Instr.sureAddr]
    simpa using Iw (P:=P) (w:=w) Yi r.g ((r.o+i)*e.size) es gV (λj u hu=>by rw [cellOf h5];exact hj j u hu)
   ·cases he
  ·rename_i e tid xs hl
   split at he
   ·rename_i heq;subst heq
    obtain ⟨r,b,sz,n,h1,h0,h2,h3,rfl⟩:=hp
    unfold St.at at hl
    rw [hl] at h1;cases h1
    simp only [OB.row,Aa,Ae] at h0
    obtain ⟨rfl,rfl⟩:=h0
    have hb:=(h.1.heap l).Ro hl
    simp only [Cj,Nx,h3] at hb
    obtain ⟨h4,cur,_,h5,h6,h7,h8,Fs,k1,k2,k3,k4⟩:=hb
    have hx:xs[i]?=some xs[i]:=Ac h2
    rw [hx] at he
    simp only [Am,Aa] at he;subst he
    obtain ⟨es,gV,hj,zo⟩:=k4 i _ _ hx (Ac (by omega))
    have hrs:=PC (X:=X) (H:=st.heap) hl h3 h2 e 0 _ es _ zo (by omega) (λj u hu=>by rw [cellOf h5,Bo];exact hj j u hu)
    refine ⟨Cd e es,?_,?_⟩
    ·simp only [Instr.loadAt,Instr.sureAddr]
     simpa using Iw (P:=P) (w:=w) Yi r.g ((r.o+i)*e.size) es gV (λj u hu=>by rw [cellOf h5];exact hj j u hu)
    ·cases Uh:e.Ap with
     |true=>rw [Ab rfl];exact ⟨es,by simp [Cd,Uh],hrs⟩
     |false=>
      rw [Ak (by simp)]
      have h1:e.size=1:=by cases e<;>simp_all [Ty.Ap,Ty.size]
      rw [h1] at gV
      obtain ⟨u,rfl⟩:=Ed.1 gV
      have YD:=hrs.1
      generalize fX l i 0 e xs[i]=sc at*
      simp only [Aw,Fb] at YD
      obtain ⟨c,rfl⟩:=Ed.1 YD.symm
      obtain ⟨u',gY,_,xz⟩:=hrs.2 0 c rfl
      simp at gY;subst gY
      have e1:Cd e [u]=u:=by simp [Cd,Uh]
      rw [e1]
      exact xz
   ·cases he
  ·rename_i e te rows kp hl
   split at he
   ·cases he
   ·rename_i Uh
    simp only [Ge] at Uh
    simp only [Aa] at he;subst he
    obtain ⟨r,b,sz,n,h1,h0,h2,h3,rfl⟩:=hp
    unfold St.at at hl
    rw [hl] at h1;cases h1
    simp only [OB.row,Aa,Ae] at h0
    obtain ⟨rfl,rfl⟩:=h0
    obtain ⟨u,R,k1,k2,k3⟩:=nv h.1 hl h3 h2 (by simp)
    have aB:τ.size=1:=by cases τ<;>simp_all [Ty.Ap,Ty.size]
    refine ⟨u,?_,r,_,1,rows.length,hl,rfl,h3,h2,⟨by omega,aW k2⟩,by rw [Fm,Er];exact k1⟩
    simp only [Instr.loadAt,Instr.sureAddr]
    have:=Iw (P:=P) (w:=w) Yi r.g ((r.o+i)*1) [u] (by simp [aB]) (λj u' gY=>by
     rcases j with _|j
     ·simp at gY;subst gY;rw [Fm,Er];exact k1
     ·simp at gY)
    simpa [Cd,Uh] using this
  ·cases he
 ·rename_i τ l i j ht
  have Yi:=hT.ty _ _ ht
  split at he
  ·rename_i e te rows kp hl
   split at he
   ·rename_i heq;subst heq
    simp only [Aa] at he;subst he
    obtain ⟨r,b,n,sz,g,o,len,cap,h1,h0,h2,h3,h4,h5,rfl⟩:=hp
    unfold St.at at hl
    rw [hl] at h1;cases h1
    simp only [OB.vX,Aa,Ae] at h0
    obtain ⟨rfl,rfl⟩:=h0
    obtain ⟨u,R,k1,k2,k3⟩:=nv h.1 hl h2 h3 (by simp)
    rw [h5] at k1
    have hu:=Bd k1
    subst hu
    cases R with
    |none=>obtain ⟨hh,_⟩:=k2;cases hh
    |some q=>
     obtain ⟨ad,hh,g1,g2⟩:=k2
     simp only [Value.slice.injEq,Aa] at hh
     obtain ⟨rfl,rfl,rfl⟩:=hh
     have ZK:=g2 (by omega)
     simp only [Addr.mk.injEq,Oh] at ZK
     obtain ⟨rfl,rfl⟩:=ZK
     obtain ⟨f1,cur,ti,f2,f3,f4,f5,f6⟩:=k3
     have hj:(rows.getD i [])[j]?=some ((rows.getD i []).getD j e.zero):=by rw [Ai (l:=rows.getD i []),Ac h4];rfl
     obtain ⟨es,gV,c1,c2⟩:=f6 j _ hj
     refine ⟨Cd e es,?_,ur (fr:=false) (show Bs X w π st.heap (.at (.data false e _)) (Cd e es) from ⟨es,c2,rfl⟩)⟩
     simp only [Instr.loadAt,Instr.sureAddr]
     simpa using Iw (P:=P) (w:=w) Yi q.g ((q.o+0)*e.size+j*e.size) es gV (λm u hu=>by rw [cellOf f2,Er,<-Dj];exact c1 m u hu)
   ·cases he
  ·cases he
 ·cases he
theorem Aaf {α:Type} {xs:List α} {n:Int} {x:α} (h:idx xs n=some x):0<=n/\n<xs.length/\xs[n.toNat]?=some x:=by
 unfold idx at h
 split at h
 ·rename_i h0
  have:=(An.1 h).1
  exact ⟨h0,by omega,h⟩
 ·cases h
theorem rK (hT:Eb P T) {t:TypeId} {e:Ty} (h:(T.elem t).bind T.ty=some e): ∃te,T.elem t=some te/\T.ty te=some e/\P.underlying t=some (.slice te)/\P.elem t=te:=by
 cases ht:T.elem t with
 |none=>rw [ht] at h;cases h
 |some te=>
  rw [ht] at h
  have hu:=hT.elem t te ht
  exact ⟨te,rfl,h,hu,by simp [Program.elem,hu]⟩
theorem nc (hT:Eb P T) {st:St} {a:Act} (h:Bi X π st a w) (t:TypeId) (x i:AV) (vx vi:Value) (av:AV) (hx:Bs X w π st.heap x vx) (hi:Bs X w π st.heap i vi)
  (he:Kt T st t x i=some av): ∃v,(Instr.indexAt t vx vi).run P w= .ok v w/\Bs X w π st.heap av v:=by
 unfold Kt at he
 split at he
 ·rename_i fr e xs _ k n
  have:=Qa hi;subst this
  split at he
  ·rename_i kY
   obtain ⟨te,h1,h2,h3,h4⟩:=rK hT kY
   cases hix:idx xs n with
   |none=>rw [hix] at he;cases he
   |some y=>
    rw [hix] at he
    simp only [Am,Aa] at he;subst he
    obtain ⟨h5,h6,h7⟩:=Aaf hix
    obtain ⟨cs,hc,rfl⟩:=hx
    simp only [Cells] at hc
    obtain ⟨ad,len,cap,rfl,hlen,tb,LX⟩:=hc
    rcases LX with rfl|⟨g,o,rfl,hg,hn,Ky⟩
    ·simp at h6;omega
    ·obtain ⟨es,gV,Wi,bP⟩:=Ky _ _ h7
     have aB:=(hT.ty _ _ h2).size (w:=w)
     refine ⟨.pointer (some ⟨g,o+n.toNat*e.size,none⟩),?_,[_],⟨g,_,rfl,hg,hn,es,gV,Wi,bP⟩,by simp [Cd,Ty.Ap]⟩
     simp only [Cd,Ty.Ap,Dd,Rl,ik]
     rw [run_indexAt_slice (P:=P) w t _ _ _ k n (by rw [h3,h4]),Ab ⟨h5,by omega⟩,h4,aB,Result.andThen_ok,Addr.add_lit]
  ·cases he
 ·rename_i l off len _ k n
  have:=Qa hi;subst this
  split at he
  ·rename_i fr tr e tid xs hl
   split at he
   ·rename_i Jx
    obtain ⟨h1,h2,h56⟩:=Jx
    obtain ⟨h5,h6⟩:=Ui.1 h56
    simp only [Aa] at he;subst he
    have h3:=hT.elem t tid h1
    have h4:P.elem t=tid:=by simp [Program.elem,h3]
    unfold St.at at hl
    have Jv:=hl
    obtain ⟨h8,h9⟩:=Oi (X:=X) (w:=w) hx hl
    cases hp:π l with
    |none=>rw [hp] at h9;obtain ⟨_,_,h9⟩:=h9;omega
    |some r=>
     rw [hp] at h9
     obtain ⟨ad,rfl,oC,gT⟩:=h9
     have h12:=gT (by omega)
     subst h12
     have aB:=(hT.ty _ _ h2).size (w:=w)
     refine ⟨.pointer (some ⟨r.g,(r.o+off)*e.size+n.toNat*e.size,none⟩),?_,r,_,e.size,xs.length,Jv,rfl,by omega,hp,?_⟩
     ·rw [run_indexAt_slice (P:=P) w t _ _ _ k n (by rw [h3,h4]),Ab ⟨h5,by omega⟩,h4,aB,Result.andThen_ok,Addr.add_lit]
     ·rw [<-Ha r.o off n.toNat,Dj (r.o+off)]
   ·cases he
  ·rename_i e tid xs hl
   split at he
   ·rename_i Jx
    obtain ⟨h1,h2,h56⟩:=Jx
    obtain ⟨h5,h6⟩:=Ui.1 h56
    simp only [Aa] at he;subst he
    have h3:=hT.elem t tid h1
    have h4:P.elem t=tid:=by simp [Program.elem,h3]
    unfold St.at at hl
    have Jv:=hl
    obtain ⟨h8,h9⟩:=c7 (X:=X) (w:=w) hx hl
    cases hp:π l with
    |none=>rw [hp] at h9;obtain ⟨_,_,h9⟩:=h9;omega
    |some r=>
     rw [hp] at h9
     obtain ⟨ad,rfl,oC,gT⟩:=h9
     have h12:=gT (by omega)
     subst h12
     have aB:=(hT.ty _ _ h2).size (w:=w)
     refine ⟨.pointer (some ⟨r.g,(r.o+off)*e.size+n.toNat*e.size,none⟩),?_,r,_,e.size,xs.length,Jv,rfl,by omega,hp,?_⟩
     ·rw [run_indexAt_slice (P:=P) w t _ _ _ k n (by rw [h3,h4]),Ab ⟨h5,by omega⟩,h4,aB,Result.andThen_ok,Addr.add_lit]
     ·rw [<-Ha r.o off n.toNat,Dj (r.o+off)]
   ·cases he
  ·rename_i e te rows out kp hl
   split at he
   ·rename_i Jx
    obtain ⟨h1,h2,h56⟩:=Jx
    obtain ⟨h5,h6⟩:=Ui.1 h56
    simp only [Aa] at he;subst he
    have h3:=hT.elem t te h1
    have h4:P.elem t=te:=by simp [Program.elem,h3]
    unfold St.at at hl
    have Jv:=hl
    obtain ⟨h8,h9⟩:=o0 (X:=X) (w:=w) hx hl
    cases hp:π l with
    |none=>rw [hp] at h9;obtain ⟨_,_,h9⟩:=h9;omega
    |some r=>
     rw [hp] at h9
     obtain ⟨ad,rfl,oC,gT⟩:=h9
     have h12:=gT (by omega)
     subst h12
     cases l5:T.ty te with
     |none=>rw [l5] at h2;cases h2
     |some τ=>
      rw [l5] at h2
      have h2:τ.size=1:=Bd h2
      have aB:=(hT.ty _ _ l5).size (w:=w)
      refine ⟨.pointer (some ⟨r.g,(r.o+off)*1+n.toNat*τ.size,none⟩),?_,r,_,1,rows.length,Jv,rfl,by omega,hp,?_⟩
      ·rw [run_indexAt_slice (P:=P) w t _ _ _ k n (by rw [h3,h4]),Ab ⟨h5,by omega⟩,h4,aB,Result.andThen_ok,Addr.add_lit]
      ·rw [h2,<-Ha r.o off n.toNat,Dj (r.o+off)]
   ·cases he
  ·cases he
 ·rename_i l i c _ k n
  have:=Qa hi;subst this
  split at he
  ·rename_i e te rows kp hl
   split at he
   ·rename_i Jx
    obtain ⟨h2,h56⟩:=Jx
    obtain ⟨h5,h6⟩:=Ui.1 h56
    simp only [Aa] at he;subst he
    cases l5:T.elem t with
    |none=>rw [l5] at h2;cases h2
    |some Ri=>
     rw [l5] at h2
     cases Yi:T.ty Ri with
     |none=>rw [Fp,Yi] at h2;cases h2
     |some τ=>
      rw [Fp,Yi] at h2
      have h2:τ.size=e.size:=Bd h2
      have h3:=hT.elem t Ri l5
      have h4:P.elem t=Ri:=by simp [Program.elem,h3]
      unfold St.at at hl
      obtain ⟨r,b,sz,m,g1,g0,g2,g3,⟨g4,_⟩,g5⟩:=hx
      rw [hl] at g1;cases g1
      simp only [OB.gD,Aa,Ae] at g0
      obtain ⟨rfl,rfl⟩:=g0
      have jU:c=0:=by omega
      subst jU
      rw [Fm,Er] at g5
      obtain ⟨u,R,k1,k2,k3⟩:=nv h.1 hl g2 g3 (by simp)
      rw [g5] at k1
      have hu:=Bd k1
      subst hu
      cases R with
      |none=>obtain ⟨_,_,hh⟩:=k2;omega
      |some q=>
       obtain ⟨ad,rfl,f1,f2⟩:=k2
       have ZK:=f2 (by omega)
       subst ZK
       have aB:=(hT.ty _ _ Yi).size (w:=w)
       refine ⟨.pointer (some ⟨q.g,(q.o+0)*e.size+n.toNat*τ.size,none⟩),?_,r,_,rows.length,e.size,q.g,(q.o+0)*e.size,_,_,hl,rfl,g2,g3,by omega,g5,by rw [h2]⟩
       rw [run_indexAt_slice (P:=P) w t _ _ _ k n (by rw [h3,h4]),Ab ⟨h5,by omega⟩,h4,aB,Result.andThen_ok,Addr.add_lit]
   ·cases he
  ·cases he
 ·cases he
end
end Go.Proofs.YtkkdpknjohcekaaGreat
