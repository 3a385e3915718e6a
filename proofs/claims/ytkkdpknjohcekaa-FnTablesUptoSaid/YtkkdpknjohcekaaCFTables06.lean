/-
  Part 7 of the proof that the statement FnTables holds.
-/
import Derived.Test.YtkkdpknjohcekaaCFTables05
namespace Go.Proofs.Ytkkdpknjohcekaa
open Go.RowKit
section
variable {P:Program} {T:Tab} {X:Ctx} {w w':World} {π:Pi} {H:List (Nat×OB)}
def GP (P:Program) (X:Ctx) (π:Pi) (H:List (Nat×OB)) (w:World) (av:AV):Result Next->Prop
 | .ok (.value v) w'=>w'=w/\Bi X w π H av v
 | .ok (.enter f args) w'=>w'=w/\Calls P f args w (λe oc=> ∃v,e= .returned v/\Below w.heap.size w oc/\Bi X oc π H av v)
 |_=>False
def jF (s:Spec) (w:World) (S:Nat->Prop) (v:Value) (y:s.res.den):Prop:=
 if s.Hx then ∃us:List Value,v= .tuple us.toArray/\Ch w S s.res us y else Df w S s.res v y
structure Sound (P:Program) (f:FuncId) (s:Spec):Prop where
 enter: ∀args w,(callFunc f args).run P w= .ok (.enter f args) w
 calls: ∀(w:World) (S:Nat->Prop) (vs:List Value) (x:s.arg.den) (y:s.res.den),(∀k,S k->k<w.heap.size)->Ch w S s.arg vs x->s.fn x=some y->
  Calls P f vs.toArray w λe w'=> ∃v,e= .returned v/\Below w.heap.size w w'/\jF s w' (λb=>S b\/(s.fresh=true/\b<w.heap.size)) v y
def ee (w:World) (D:Nat->Prop) (r:Option Real):(c:CK)->c.den->Prop
 | .Fp _,_=>r=none
 | .row e _,xs=>Rl w D r e xs
 | .Hb e te,xs=>Na w r e te xs
 | .part e _,x=>e.flat=true/\Rl w D r e x.1
 | .Bm e _ _,rows=>Ym w D r e rows none
def cP (w:World) (D:Nat->Prop) (r:Option Real) (v:Value):(c:CK)->c.den->Prop
 | .Fp τ,x=>r=none/\Df w D τ v x
 | .row e te,xs=>He r e.size 0 (List.length xs) v/\ee w D r (.row e te) xs
 | .Hb e te,xs=>He r e.size 0 (List.length xs) v/\ee w D r (.Hb e te) xs
 | .part e te,x=>(He r e.size x.2.1 x.2.2 v/\x.2.1+x.2.2<=List.length x.1)/\ee w D r (.part e te) x
 | .Bm e te kp,rows=>He r 1 0 (List.length rows) v/\ee w D r (.Bm e te kp) rows
def cQ (w:World) (D:Nat->Prop) (π:Pi):(k:Nat)->(cs:List (Bool×CK))->Ins.den cs->List Value->Prop
 |_,[],_,[]=>True
 |k,p::r,x,u::us=>cP w D (π (Ds p.1 k)) u p.2 x.1/\cQ w D π (k+1) r x.2 us
 |_,_,_,_=>False
def Lk (w:World) (D:Nat->Prop) (π:Pi):(k:Nat)->(cs:List (Bool×CK))->IOs.den cs->Prop
 |_,[],_=>True
 |k,(true, .Fp _)::r,x=>Lk w D π (k+1) r x
 |k,(true, .Bm _ _ _)::r,x=>Lk w D π (k+1) r x
 |k,(true, .row e te)::r,x=>ee w D (π (Ds true k)) (.row e te) x.1/\Lk w D π (k+1) r x.2
 |k,(true, .Hb e te)::r,x=>ee w D (π (Ds true k)) (.Hb e te) x.1/\Lk w D π (k+1) r x.2
 |k,(true, .part e te)::r,x=>ee w D (π (Ds true k)) (.row e te) x.1/\Lk w D π (k+1) r x.2
 |k,(false,_)::r,x=>Lk w D π (k+1) r x
def Ir (w:World) (D:Nat->Prop) (ρ:Pi):(k:Nat)->(cs:List CK)->CKs.den cs->List Value->Prop
 |_,[],_,[]=>True
 |k,c::r,x,u::us=>cP w D (ρ (Jm k)) u c x.1/\Ir w D ρ (k+1) r x.2 us
 |_,_,_,_=>False
structure fh (π:Pi) (A:Nat->Prop):Prop where
 Yc: ∀l r b,π l=some r->r.Ci b->A b
 inj: ∀l l' r r' b,π l=some r->π l'=some r'->r.Ci b->r'.Ci b->l=l'
def bp:List (Option Nat)->List Value->Prop
 | [],[]=>True
 |none::s,_::us=>bp s us
 |some n::s,us=>n<=us.length/\(∀u∈us.take n,u.oneCell'=true)/\bp s (us.drop n)
 |_,_=>False
def SC (Hx:Bool) (sh:List (Option Nat)) (us:List Value) (v:Value):Prop:=if Hx then v= .tuple (Kf sh us).toArray else Kf sh us= [v]\/Kf sh us= []
def iH (S:Nat->Prop) (π ρ:Pi) (b:Nat):Prop:=S b\/(∃l q,Bf<=l/\π l=some q/\q.Ci b)\/Ue ρ b
def m6 (s:MSpec) (w:World) (g:Nat) (us vs:List Value):Prop:=
 match s.ptr with
 |none=>vs=Kf s.Jn us/\bp s.Jn us
 |some p=>vs= .pointer (some ⟨g,0,none⟩)::Kf s.Jn (us.drop p.2)/\bp s.Jn (us.drop p.2)/\p.2<=us.length/\w.heap[g]?=some (.cells (us.take p.2).toArray p.1 (0,0))/\ ∀u∈us.take p.2,u.oneCell'=true
def MSpec.gv (s:MSpec) (g b:Nat):Prop:=s.ptr.isSome=true/\b=g
def Eh (π:Pi):(k:Nat)->(cs:List (Bool×CK))->IOs.den cs->(n:Nat)->List Value->List Value->Prop
 |_,_,_,0,us,_=>us= []
 |k,(true, .row e _)::r,o,n+1,u::us,as=>He (π (Ds true k)) e.size 0 (List.length o.1) u/\Eh π (k+1) r o.2 n us as
 |k,(true, .Hb e _)::r,o,n+1,u::us,as=>He (π (Ds true k)) e.size 0 (List.length o.1) u/\Eh π (k+1) r o.2 n us as
 |k,(false,_)::r,o,n+1,u::us,a::as=>u=a/\Eh π (k+1) r o n us as
 |_,_,_,_,_,_=>False
def jD (s:MSpec) (π:Pi) (w':World) (g:Nat) (Vl:List Value) (o:IOs.den s.ins):Prop:=
 match s.ptr with
 |none=>True
 |some p=> ∃cs,w'.heap[g]?=some (.cells cs.toArray p.1 (0,0))/\(∀u∈cs,u.oneCell'=true)/\Eh π 0 s.ins o p.2 cs Vl
def yc (w w':World) (r r':Option Real) (n:Nat):Prop:=match r,r' with
 |none,none=>True
 |some q,some q'=>q'.g=q.g/\q'.o=q.o/\q'.cap=q.cap/\ ∀j,j<n->j<q.cap->w'.cell? ⟨q.g,q.o+j,none⟩=w.cell? ⟨q.g,q.o+j,none⟩
 |_,_=>False
def pB (s:MSpec) (w':World) (ρ:Pi) (us:List Value) (v:Value):Prop:=match s.rp with
 |none=>SC s.Hx s.Im us v/\bp s.Im us
 |some tid=> ∃q,ρ (Jm s.outs.length)=some q/\q.Ci q.g/\w'.heap[q.g]?=some (.cells us.toArray tid (0,0))/\(∀u∈us,u.oneCell'=true)/\v= .pointer (some ⟨q.g,0,none⟩)
def MSpec.Ta (s:MSpec):Nat:=s.outs.length+(match s.rp with|none=>0|some _=>1)
structure Dx (P:Program) (f:FuncId) (s:MSpec):Prop where
 enter: ∀args w,(callFunc f args).run P w= .ok (.enter f args) w
 calls: ∀(w:World) (S:Nat->Prop) (π:Pi) (us:List Value) (x:Ins.den s.ins) (r:CKs.den s.outs) (o:IOs.den s.ins) (g:Nat) (vs:List Value),
  m6 s w g us vs->(s.ptr.isSome=true->S g)->cQ w (λb=>Ue π b\/S b) π 0 s.ins x us->fh π (λb=>b<w.heap.size)->(∀b,S b->b<w.heap.size/\ ¬Ue π b)->(∀l,Aq (Xo 0 s.ins x) l=none->π l=none)->s.fn x=some (r,o)->
  Calls P f vs.toArray w λe w'=> ∃v Vl ρ,e= .returned v/\pB s w' ρ (Vl.drop s.Yt) v/\jD s π w' g Vl o/\Kc w.heap.size (λb=>Ue π b\/s.gv g b) w w'/\Lk w' (iH S π ρ) π 0 s.ins o/\Ir w' (iH S π ρ) ρ 0 s.outs r Vl/\
   fh ρ (λb=>b<w'.heap.size/\(w.heap.size<=b\/ ∃l q,l<Bf/\π l=some q/\q.Ci b))/\(∀l,(∀k,k<s.Ta->l≠Jm k)->ρ l=none)/\(∀kj∈s.keeps,yc w w' (π (Ds false kj.1)) (ρ (Jm kj.2)) (s.Gg x))
def YX (P:Program) (f:FuncId):pv->Prop
 | .q s=>Sound P f s
 | .m s=>Dx P f s
 | .b s m=>Sound P f s/\Dx P f m
def Kd (P:Program) (Γ:Env):Prop:= ∀f s,Γ f=some s->YX P f s
theorem Kd.reg {P:Program} {Γ:Env} (h:Kd P Γ) (draw:Bool):Kd P (x7 Γ draw):= λf s hs=>by
 unfold x7 at hs
 split at hs
 ·rename_i s0 m Nt
  have:=h f _ Nt
  cases draw with
  |true=>simp only [Pw,Aa] at hs;subst hs;exact this.1
  |false=>simp only [Cy,Sa,Aa] at hs;subst hs;exact this.2
 ·exact h f s hs
theorem Oz {k:IntKind} {n:Int} {fr:Bool} {v:Value} (h:Bi X w π H (.at (.data fr (.int k) n)) v):v= .int k n:=by
 obtain ⟨cs,h1,rfl⟩:=h;simp only [Cells] at h1;subst h1;rfl
theorem Xv {b:Bool} {fr:Bool} {v:Value} (h:Bi X w π H (.at (.data fr .bool b)) v):v= .bool b:=by
 obtain ⟨cs,h1,rfl⟩:=h;simp only [Cells] at h1;subst h1;rfl
theorem dE {s:ByteArray} {fr:Bool} {v:Value} (h:Bi X w π H (.at (.data fr .str s)) v):v= .string s:=by
 obtain ⟨cs,h1,rfl⟩:=h;simp only [Cells] at h1;subst h1;rfl
theorem Mj (k:IntKind) (n:Int) (fr:Bool):Bi X w π H (.at (.data fr (.int k) n)) (.int k n):=⟨[.int k n],rfl,rfl⟩
theorem Ld (b:Bool) (fr:Bool):Bi X w π H (.at (.data fr .bool b)) (.bool b):=⟨[.bool b],rfl,rfl⟩
theorem kf (s:ByteArray) (fr:Bool):Bi X w π H (.at (.data fr .str s)) (.string s):=⟨[.string s],rfl,rfl⟩
theorem Aay (f:FuncId):Bi X w π H (.at (.clo f [])) (.func (.func f) #[] #[]):=⟨[],rfl,rfl,λi p hi=>by simp at hi⟩
theorem JG (v:Value):Bi X w π H (kO v) v:=by
 unfold kO
 split
 ·exact Mj _ _ _
 ·exact Ld _ _
 ·exact kf _ _
 ·rfl
 ·rfl
 ·trivial
theorem Dm {st:St} {a:Act} (h:pA X w π st a) (x:Operand):Bi X w π st.heap (st.ev x) (a.eval x):=by
 cases x with
 |tmp t=>exact h.tmps t
 |const v=>exact JG v
 |global g=>trivial
 |func f=>exact Aay f
theorem DF (op:BinOp) (k:IntKind) (a b:Int) (t:TypeId) (av:AV) (h:qx op k a b=some av):
  ∃v,(binOp op t (.int k a) (.int k b)).run P w= .ok v w/\Bi X w π H av v:=by
 cases op<;>simp only [qx,Yx,Oh] at h
 case add=>cases h;exact ⟨_,by simp [binOp,Op.intArith],Mj _ _ _⟩
 case sub=>cases h;exact ⟨_,by simp [binOp,Op.intArith],Mj _ _ _⟩
 case mul=>cases h;exact ⟨_,by simp [binOp,Op.intArith],Mj _ _ _⟩
 case quo=>split at h<;>cases h;rename_i hb;exact ⟨_,by simp [binOp,Op.intDiv,hb],Mj _ _ _⟩
 case rem=>split at h<;>cases h;rename_i hb;exact ⟨_,by simp [binOp,Op.intDiv,hb],Mj _ _ _⟩
 case and=>cases h;exact ⟨_,by simp [binOp,Op.intBits],Mj _ _ _⟩
 case or=>cases h;exact ⟨_,by simp [binOp,Op.intBits],Mj _ _ _⟩
 case eql=>cases h;exact ⟨_,by simp [binOp,Op.intCmp],Ld _ _⟩
 case neq=>cases h;exact ⟨_,by simp [binOp,Op.intCmp],Ld _ _⟩
 case lss=>cases h;exact ⟨_,by simp [binOp,Op.intCmp],Ld _ _⟩
 case leq=>cases h;exact ⟨_,by simp [binOp,Op.intCmp],Ld _ _⟩
 case gtr=>cases h;exact ⟨_,by simp [binOp,Op.intCmp],Ld _ _⟩
 case geq=>cases h;exact ⟨_,by simp [binOp,Op.intCmp],Ld _ _⟩
 all_goals cases h
theorem yE (op:BinOp) (x y:AV) (vx vy:Value) (ox oy:Operand) (t:TypeId) (av:AV) (hx:Bi X w π H x vx) (hy:Bi X w π H y vy) (h:evalBin op x y=some av):
  ∃v,(do eqGuard op t ox oy vx vy;binOp op t vx vy:Sem Value).run P w= .ok v w/\Bi X w π H av v:=by
 unfold evalBin at h
 split at h
 ·rename_i k a _ k' b
  have:=Oz hx;subst this
  have:=Oz hy;subst this
  have hg: ∀op,(eqGuard op t ox oy (.int k a) (.int k' b)).run P w= .ok () w:=by intro op;cases op<;>simp [eqGuard]
  split at h
  ·split at h
   ·cases h
   ·rename_i hb
    simp only [Yx,Aa] at h;subst h
    exact ⟨_,by rw [Sem.run_bind,hg];simp [binOp,Op.shift,hb],Mj _ _ _⟩
  ·split at h
   ·cases h
   ·rename_i hb
    simp only [Yx,Aa] at h;subst h
    exact ⟨_,by rw [Sem.run_bind,hg];simp [binOp,Op.shift,hb],Mj _ _ _⟩
  ·split at h
   ·rename_i hk;subst hk
    obtain ⟨v,h1,h2⟩:=DF (P:=P) (w:=w) (X:=X) (π:=π) (H:=H) op k a b t av h
    exact ⟨v,by rw [Sem.run_bind,hg];exact h1,h2⟩
   ·cases h
 ·rename_i a _ b
  have:=dE hx;subst this
  have:=dE hy;subst this
  have hg: ∀op,(eqGuard op t ox oy (.string a) (.string b)).run P w= .ok () w:=by intro op;cases op<;>simp [eqGuard]
  split at h
  ·simp only [Oh,Aa] at h;subst h
   exact ⟨_,by rw [Sem.run_bind,hg];simp [binOp,Op.stringOp],Ld _ _⟩
  ·simp only [Oh,Aa] at h;subst h
   exact ⟨_,by rw [Sem.run_bind,hg];simp [binOp,Op.stringOp],Ld _ _⟩
  ·split at h
   ·rename_i hl
    simp only [Aa] at h;subst h
    exact ⟨_,by rw [Sem.run_bind,hg];simp only [Result.andThen_ok,binOp];exact run_string_add_sum w a b (by omega),kf _ _⟩
   ·cases h
  ·cases h
 ·cases h
theorem gK {t:TypeId} (h:P.underlying t=some .bool) (a b:Bool) (w:World):(Op.equal t (.bool a) (.bool b)).run P w= .ok (a==b) w:=by
 unfold Op.equal
 rw [show Op.maxDepth=9999+1 from rfl]
 unfold Op.equalIn
 rw [Sem.run_bind,run_underlying h]
 rfl
theorem zv (hT:Ed P T) {x:AV} {vx:Value} {b:Bool} {t:TypeId} (hx:Bi X w π H x vx) (h:cj x=some b) (ht:(T.elem t).isSome=true):
  (∃a len cap,vx= .slice a len cap/\(match a with|none=>true|some _=>false)=b)/\(Op.equal t vx (.slice none 0 0)).run P w= .ok b w:=by
 have h1: ∃a len cap,vx= .slice a len cap/\(match a with|none=>true|some _=>false)=b:=by
  unfold cj at h
  split at h
  ·simp only [Aa] at h;subst h
   have hx:vx= .slice none 0 0:=hx
   exact ⟨none,0,0,hx,rfl⟩
  ·simp only [Aa] at h;subst h
   obtain ⟨cs,hc,rfl⟩:=hx
   simp only [Cells] at hc
   rcases hc with ⟨rfl,c,rfl⟩|⟨xs,ad,len,cap,rfl,rfl,_⟩
   ·exact ⟨none,0,c,by simp [Bs,Ty.Am],rfl⟩
   ·exact ⟨some ad,len,cap,by simp [Bs,Ty.Am],rfl⟩
  ·cases h
 refine ⟨h1,?_⟩
 obtain ⟨a,len,cap,rfl,rfl⟩:=h1
 obtain ⟨te,j9⟩:=Option.isSome_iff_exists.1 ht
 have hu:=hT.elem t te j9
 unfold Op.equal
 rw [show Op.maxDepth=9999+1 from rfl]
 unfold Op.equalIn
 rw [Sem.run_bind,run_underlying hu]
 cases a<;>rfl
theorem zu (hT:Ed P T) {x:AV} {vx:Value} {b:Bool} {t:TypeId} (hx:Bi X w π H x vx) (h:cg x=some b) (ht:QJ (T.ty t)=true):
  (∃a,vx= .pointer a/\(match a with|none=>true|some _=>false)=b)/\(Op.equal t vx (.pointer none)).run P w= .ok b w:=by
 have h1: ∃a,vx= .pointer a/\(match a with|none=>true|some _=>false)=b:=by
  unfold cg at h
  split at h
  ·simp only [Aa] at h;subst h
   have hx:vx= .pointer none:=hx
   exact ⟨none,hx,rfl⟩
  ·simp only [Aa] at h;subst h
   obtain ⟨r,tid,vs,_,_,rfl⟩:=hx
   exact ⟨_,rfl,rfl⟩
  ·simp only [Aa] at h;subst h
   obtain ⟨cs,hc,rfl⟩:=hx
   simp only [Cells] at hc
   rcases hc with ⟨rfl,rfl⟩|⟨xs,g,o,rfl,rfl,_⟩
   ·exact ⟨none,by simp [Bs,Ty.Am],rfl⟩
   ·exact ⟨some ⟨g,o,none⟩,by simp [Bs,Ty.Am],rfl⟩
  ·simp only [Aa] at h;subst h
   obtain ⟨cs,hc,rfl⟩:=hx
   simp only [Cells] at hc
   obtain ⟨g,o,rfl,_⟩:=hc
   exact ⟨some ⟨g,o,none⟩,by simp [Bs,Ty.Am],rfl⟩
  ·cases h
 refine ⟨h1,?_⟩
 obtain ⟨a,rfl,rfl⟩:=h1
 have hu: ∃u,P.underlying t=some (.pointer u):=by
  cases Wg:T.ty t with
  |none=>rw [Wg] at ht;cases ht
  |some τ=>
   have hd:=(hT.ty t τ Wg).desc
   rw [Wg] at ht
   cases τ<;>first|exact hd|cases ht
 obtain ⟨u,hu⟩:=hu
 unfold Op.equal
 rw [show Op.maxDepth=9999+1 from rfl]
 unfold Op.equalIn
 rw [Sem.run_bind,run_underlying hu]
 cases a<;>rfl
theorem vO {T:Tab} (hT:Ed P T) (op:BinOp) (x y:AV) (vx vy:Value) (ox oy:Operand) (t:TypeId) (av:AV) (hx:Bi X w π H x vx) (hy:Bi X w π H y vy) (h:Se T op t x y=some av):
  ∃v,(do eqGuard op t ox oy vx vy;binOp op t vx vy:Sem Value).run P w= .ok v w/\Bi X w π H av v:=by
 unfold Se at h
 split at h
 ·split at h
  ·rename_i ht
   cases hn:cj x with
   |none=>rw [hn] at h;cases h
   |some b=>
    rw [hn] at h
    simp only [Ey,Oh,Aa] at h;subst h
    have hy:vy= .slice none 0 0:=hy
    subst hy
    obtain ⟨⟨a,len,cap,rfl,_⟩,h2⟩:=zv hT hx hn ht
    exact ⟨.bool b,by rw [Sem.run_bind];simp [eqGuard,binOp,h2],Ld _ _⟩
  ·cases h
 ·split at h
  ·rename_i ht
   cases hn:cg x with
   |none=>rw [hn] at h;cases h
   |some b=>
    rw [hn] at h
    simp only [Ey,Oh,Aa] at h;subst h
    have hy:vy= .pointer none:=hy
    subst hy
    obtain ⟨⟨a,rfl,_⟩,h2⟩:=zu hT hx hn ht
    exact ⟨.bool b,by rw [Sem.run_bind];simp [eqGuard,binOp,h2],Ld _ _⟩
  ·cases h
 ·split at h
  ·rename_i ht
   cases hn:cj x with
   |none=>rw [hn] at h;cases h
   |some b=>
    rw [hn] at h
    simp only [Ey,Oh,Aa] at h;subst h
    have hy:vy= .slice none 0 0:=hy
    subst hy
    obtain ⟨⟨a,len,cap,rfl,_⟩,h2⟩:=zv hT hx hn ht
    exact ⟨.bool (!b),by rw [Sem.run_bind];simp [eqGuard,binOp,h2],Ld _ _⟩
  ·cases h
 ·split at h
  ·rename_i ht
   cases hn:cg x with
   |none=>rw [hn] at h;cases h
   |some b=>
    rw [hn] at h
    simp only [Ey,Oh,Aa] at h;subst h
    have hy:vy= .pointer none:=hy
    subst hy
    obtain ⟨⟨a,rfl,_⟩,h2⟩:=zu hT hx hn ht
    exact ⟨.bool (!b),by rw [Sem.run_bind];simp [eqGuard,binOp,h2],Ld _ _⟩
  ·cases h
 ·rename_i a _ b
  have:=Xv hx;subst this
  have:=Xv hy;subst this
  split at h
  ·rename_i ht
   simp only [Oh,Aa] at h;subst h
   have hu:P.underlying t=some .bool:=(hT.ty t _ ht).desc
   exact ⟨_,by rw [Sem.run_bind];simp [eqGuard,binOp,gK hu],Ld _ _⟩
  ·cases h
 ·rename_i a _ b
  have:=Xv hx;subst this
  have:=Xv hy;subst this
  split at h
  ·rename_i ht
   simp only [Oh,Aa] at h;subst h
   have hu:P.underlying t=some .bool:=(hT.ty t _ ht).desc
   exact ⟨_,by rw [Sem.run_bind];simp [eqGuard,binOp,gK hu],Ld _ _⟩
  ·cases h
 ·exact yE op x y vx vy ox oy t av hx hy h
theorem CO (op:UnOp) (x:AV) (vx:Value) (av:AV) (hx:Bi X w π H x vx) (h:vS op x=some av):
  ∃v,(Op.unary op vx).run P w= .ok v w/\Bi X w π H av v:=by
 unfold vS at h
 split at h
 ·have:=Xv hx;subst this
  simp only [Oh,Aa] at h;subst h
  exact ⟨_,by simp [Op.unary],Ld _ _⟩
 ·have:=Oz hx;subst this
  simp only [Yx,Aa] at h;subst h
  exact ⟨_,by simp [Op.unary,Op.intArith],Mj _ _ _⟩
 ·cases h
theorem Ia {t:TypeId} {τ:Ty} (ht:pD P T t τ) (g o:Nat) (es:List Value) (hl:es.length=τ.size) (hc: ∀j u,es[j]?=some u->w.cell? ⟨g,o+j,none⟩=some u):
  (loadVar t ⟨g,o,none⟩).run P w= .ok (Bs τ es) w:=by
 unfold loadVar
 rw [Sem.run_bind,ht.agg,Result.andThen_ok]
 cases hs:τ.Am with
 |true=>
  simp only [Pw,Sem.run_bind,ht.size,Result.andThen_ok]
  rw [<-hl,run_loadCells_list w ⟨g,o,none⟩ es (λj v hv=>by rw [Addr.add_lit];exact hc j v hv)]
  simp [Bs,hs]
 |false=>
  have h1:τ.size=1:=by cases τ<;>simp_all [Ty.Am,Ty.size]
  rw [h1] at hl
  obtain ⟨u,rfl⟩:=Dv.1 hl
  have:=hc 0 u rfl
  simp only [Ef] at this
  simp [this,Bs,hs]
theorem rm {fr:Bool} {τ:Ty} {x:τ.den} {v:Value} (h:Bi X w π H (.at (.data fr τ x)) v):Bi X w π H (.at (.data (fr||τ.flat) τ x)) v:=by
 cases hf:τ.flat with
 |true=>exact Df.flat hf h
 |false=>rw [eY];exact h
theorem sY {cs ds:List AC} {us vs:List Value} (h1:Fh X w π H cs us) (h2:Fh X w π H ds vs):Fh X w π H (cs++ds) (us++vs):=by
 have e1:=h1.1
 refine ⟨by simp [h1.1,h2.1],λi c hc=>?_⟩
 by_cases hi:i<cs.length
 ·rw [Ap hi] at hc
  obtain ⟨u,hu,h3⟩:=h1.2 i c hc
  exact ⟨u,by rw [Ap (by omega)];exact hu,h3⟩
 ·rw [Ao (by omega)] at hc
  obtain ⟨u,hu,h3⟩:=h2.2 _ c hc
  exact ⟨u,by rw [Ao (by omega),e1];exact hu,h3⟩
theorem dD {c:AC} {u:Value} (h1:u.oneCell'=true) (h2:Gx X w π H c u):Fh X w π H [c] [u]:=⟨rfl,λi c' hc=>by
 rcases i with _|i
 ·simp at hc;subst hc;exact ⟨u,rfl,h1,h2⟩
 ·simp at hc⟩
theorem FL {l i:Nat} {e:Ty} {tid:TypeId} {xs:List e.den} {r:Real} (hl:Aq H l=some (.Gl e tid xs)) (hp:π l=some r) (hi:i<xs.length): ∀(τ:Ty) (c:Nat) (F:List Nat) (us:List Value) (x:τ.den),
  Cn w F τ us x->c+τ.size<=e.size->(∀j u,us[j]?=some u->w.cell? ⟨r.g,(r.o+i)*e.size+(c+j),none⟩=some u)->Fh X w π H (dO l i c τ x) us:=by
 intro τ
 induction τ with
 |unit=>intro c F us x h _ _;simp only [Cn] at h;obtain ⟨_,rfl⟩:=h;exact ⟨rfl,λi c hc=>by simp [dO] at hc⟩
 |pair a r fa eV=>
  intro c F us x h hle hc
  have vZ:=Cn.cells (S:= λ_=>False) F _ us x h (λ_ _ h=>h)
  simp only [Cn] at h
  obtain ⟨c1,c2,F1,F2,rfl,rfl,h1,h2⟩:=h
  have kE:c1.length=a.size:=Cells.len a c1 x.1 (Cn.cells (S:= λ_=>False) F1 a c1 x.1 h1 (λ_ _ h=>h))
  simp only [Ty.size] at hle
  refine sY (fa c F1 c1 x.1 h1 (by omega) λj u hu=>hc j u (by rw [Ap (Aj.1 hu).1];exact hu)) (eV (c+a.size) F2 c2 x.2 h2 (by omega) λj u hu=>?_)
  have:=hc (a.size+j) u (by rw [Ao (by omega),kE];simpa using hu)
  rw [show c+a.size+j=c+(a.size+j) by omega];exact this
 |int k=>intro c F us x h _ _;simp only [Cn] at h;obtain ⟨_,rfl⟩:=h;exact dD rfl (Mj (H:=H) k x true)
 |bool=>intro c F us x h _ _;simp only [Cn] at h;obtain ⟨_,rfl⟩:=h;exact dD rfl (Ld (H:=H) x true)
 |str=>intro c F us x h _ _;simp only [Cn] at h;obtain ⟨_,rfl⟩:=h;exact dD rfl (kf (H:=H) x true)
 |slice e'=>
  intro c F us x h hle hc
  simp only [Cn] at h
  obtain ⟨a,len,cap,rfl,_⟩:=h
  exact dD rfl ⟨r,_,e.size,xs.length,hl,rfl,hp,hi,⟨by simp only [Ty.size] at hle;omega,_,_,_,rfl⟩,by simpa using hc 0 _ rfl⟩
 |_=>intro c F us x h;simp only [Cn] at h
theorem kX (hT:Ed P T) {st:St} {a:Act} (h:Bd X π st a w) (t:TypeId) (p:AV) (vp:Value) (av:AV) (hp:Bi X w π st.heap p vp) (he:Pe T st t p=some av):
  ∃v,(Instr.loadAt t vp).run P w= .ok v w/\Bi X w π st.heap av v:=by
 unfold Pe at he
 split at he
 ·rename_i τ fr Nh x ht
  split at he
  ·rename_i Sf
   subst Sf
   simp only [Aa] at he;subst he
   have Wg:=hT.ty _ _ ht
   obtain ⟨cs,hc,rfl⟩:=hp
   simp only [Cells] at hc
   obtain ⟨g,o,rfl,hg,hn,es,hl,Uo,aj⟩:=hc
   refine ⟨Bs Nh es,?_,rm (show Bi X w π st.heap (.at (.data fr Nh _)) (Bs Nh es) from ⟨es,aj,rfl⟩)⟩
   have hr:=Ia (P:=P) (w:=w) Wg g o es hl Uo
   show (do loadVar t (<-Instr.sureAddr (.pointer (some ⟨g,o,none⟩))):Sem Value).run P w=_
   simpa [Instr.sureAddr] using hr
  ·cases he
 ·rename_i τ fr Nh x ht
  split at he
  ·rename_i Sf
   subst Sf
   simp only [Aa] at he;subst he
   have Wg:=hT.ty _ _ ht
   obtain ⟨cs,hc,rfl⟩:=hp
   simp only [Cells] at hc
   rcases hc with ⟨h0,_⟩|⟨y,g,o,h0,rfl,hg,hn,es,hl,Uo,aj⟩
   ·cases h0
   simp only [Aa] at h0;subst h0
   refine ⟨Bs Nh es,?_,rm (show Bi X w π st.heap (.at (.data fr Nh _)) (Bs Nh es) from ⟨es,aj,rfl⟩)⟩
   have hr:=Ia (P:=P) (w:=w) Wg g o es hl Uo
   show (do loadVar t (<-Instr.sureAddr (.pointer (some ⟨g,o,none⟩))):Sem Value).run P w=_
   simpa [Instr.sureAddr] using hr
  ·cases he
 ·rename_i τ l i ht
  have Wg:=hT.ty _ _ ht
  split at he
  ·rename_i tid vs hl
   obtain ⟨r,Tf,vs',h1,h2,rfl⟩:=hp
   unfold St.at at hl
   rw [hl] at h1;cases h1
   obtain ⟨r',h3,h4,cur,h5,h6⟩:=(h.1.heap l).Qi hl
   rw [h2] at h3;cases h3
   split at he
   ·rename_i hs
    split at he
    ·rename_i hlen
     simp only [Aa] at he;subst he
     have Qh:cur.toList.length=vs.length:=h6.1
     refine ⟨_,by
      simp only [Instr.loadAt,Instr.sureAddr]
      simpa using Ia (P:=P) (w:=w) Wg r.g i ((cur.toList.drop i).take τ.size) (by simp at Qh⊢;omega) (λj u hu=>by
       rw [cellOf h5]
       rw [Ck] at hu
       split at hu
       ·rw [Ct] at hu;simpa using hu
       ·cases hu),?_⟩
     exact ⟨_,by simp [Bs,hs],Xu h6 i τ.size⟩
    ·cases he
   ·rename_i hs
    simp only [Ht] at hs
    have h1:τ.size=1:=by cases τ<;>simp_all [Ty.Am,Ty.size]
    cases hi:vs[i]? with
    |none=>rw [hi] at he;cases he
    |some c=>
     rw [hi] at he
     simp only [Ai,Aa] at he;subst he
     obtain ⟨u,hu,_,hc⟩:=h6.2 i c hi
     refine ⟨u,?_,hc⟩
     simp only [Instr.loadAt,Instr.sureAddr]
     have:=Ia (P:=P) (w:=w) Wg r.g i [u] (by simp [h1]) (λj u' eU=>by
       rcases j with _|j
       ·simp at eU;subst eU;rw [Ef,cellOf h5];simpa using hu
       ·simp at eU)
     simpa [Bs,hs] using this
  ·cases he
 ·rename_i τ l i ht
  have Wg:=hT.ty _ _ ht
  split at he
  ·rename_i fr tr e tid xs hl
   split at he
   ·rename_i heq;subst heq
    obtain ⟨r,b,sz,n,h1,h0,h2,h3,rfl⟩:=hp
    unfold St.at at hl
    rw [hl] at h1;cases h1
    simp only [OB.row,Aa,Ae] at h0
    obtain ⟨rfl,rfl⟩:=h0
    have hb:=(h.1.heap l).Qi hl
    simp only [Bw,Jj,h3] at hb
    obtain ⟨h4,cur,_,h5,h6,h7,h8,h9,_⟩:=hb
    have hx:xs[i]?=some xs[i]:=Ac h2
    rw [hx] at he
    simp only [Ai,Aa] at he;subst he
    obtain ⟨es,eR,hj,vZ⟩:=h9 i _ hx
    refine ⟨Bs e es,?_,rm (show Bi X w π st.heap (.at (.data fr e _)) (Bs e es) from ⟨es,vZ,rfl⟩)⟩
    simp only [Instr.loadAt,Instr.sureAddr]
    simpa using Ia (P:=P) (w:=w) Wg r.g ((r.o+i)*e.size) es eR (λj u hu=>by rw [cellOf h5];exact hj j u hu)
   ·cases he
  ·rename_i e tid xs hl
   split at he
   ·rename_i heq;subst heq
    obtain ⟨r,b,sz,n,h1,h0,h2,h3,rfl⟩:=hp
    unfold St.at at hl
    rw [hl] at h1;cases h1
    simp only [OB.row,Aa,Ae] at h0
    obtain ⟨rfl,rfl⟩:=h0
    have hb:=(h.1.heap l).Qi hl
    simp only [Bw,Na,h3] at hb
    obtain ⟨h4,cur,_,h5,h6,h7,h8,Fs,k1,k2,k3,k4⟩:=hb
    have hx:xs[i]?=some xs[i]:=Ac h2
    rw [hx] at he
    simp only [Ai,Aa] at he;subst he
    obtain ⟨es,eR,hj,vZ⟩:=k4 i _ _ hx (Ac (by omega))
    have VJ:=FL (X:=X) (H:=st.heap) hl h3 h2 e 0 _ es _ vZ (by omega) (λj u hu=>by rw [cellOf h5,Cf];exact hj j u hu)
    refine ⟨Bs e es,?_,?_⟩
    ·simp only [Instr.loadAt,Instr.sureAddr]
     simpa using Ia (P:=P) (w:=w) Wg r.g ((r.o+i)*e.size) es eR (λj u hu=>by rw [cellOf h5];exact hj j u hu)
    ·cases Yo:e.Am with
     |true=>rw [Ab rfl];exact ⟨es,by simp [Bs,Yo],VJ⟩
     |false=>
      rw [Al (by simp)]
      have h1:e.size=1:=by cases e<;>simp_all [Ty.Am,Ty.size]
      rw [h1] at eR
      obtain ⟨u,rfl⟩:=Dv.1 eR
      have kE:=VJ.1
      generalize dO l i 0 e xs[i]=sc at*
      simp only [Bg,Iq] at kE
      obtain ⟨c,rfl⟩:=Dv.1 kE.symm
      obtain ⟨u',eU,_,u4⟩:=VJ.2 0 c rfl
      simp at eU;subst eU
      have e1:Bs e [u]=u:=by simp [Bs,Yo]
      rw [e1]
      exact u4
   ·cases he
  ·rename_i e te rows kp hl
   split at he
   ·cases he
   ·rename_i Yo
    simp only [Ht] at Yo
    simp only [Aa] at he;subst he
    obtain ⟨r,b,sz,n,h1,h0,h2,h3,rfl⟩:=hp
    unfold St.at at hl
    rw [hl] at h1;cases h1
    simp only [OB.row,Aa,Ae] at h0
    obtain ⟨rfl,rfl⟩:=h0
    obtain ⟨u,R,k1,k2,k3⟩:=lf h.1 hl h3 h2 (by simp)
    have Yp:τ.size=1:=by cases τ<;>simp_all [Ty.Am,Ty.size]
    refine ⟨u,?_,r,_,1,rows.length,hl,rfl,h3,h2,⟨by omega,Zg k2⟩,by rw [Ex,Ef];exact k1⟩
    simp only [Instr.loadAt,Instr.sureAddr]
    have:=Ia (P:=P) (w:=w) Wg r.g ((r.o+i)*1) [u] (by simp [Yp]) (λj u' eU=>by
     rcases j with _|j
     ·simp at eU;subst eU;rw [Ex,Ef];exact k1
     ·simp at eU)
    simpa [Bs,Yo] using this
  ·cases he
 ·rename_i τ l i j ht
  have Wg:=hT.ty _ _ ht
  split at he
  ·rename_i e te rows kp hl
   split at he
   ·rename_i heq;subst heq
    simp only [Aa] at he;subst he
    obtain ⟨r,b,n,sz,g,o,len,cap,h1,h0,h2,h3,h4,h5,rfl⟩:=hp
    unfold St.at at hl
    rw [hl] at h1;cases h1
    simp only [OB.sw,Aa,Ae] at h0
    obtain ⟨rfl,rfl⟩:=h0
    obtain ⟨u,R,k1,k2,k3⟩:=lf h.1 hl h2 h3 (by simp)
    rw [h5] at k1
    have hu:=Ba k1
    subst hu
    cases R with
    |none=>obtain ⟨hh,_⟩:=k2;cases hh
    |some q=>
     obtain ⟨ad,hh,g1,g2⟩:=k2
     simp only [Value.slice.injEq,Aa] at hh
     obtain ⟨rfl,rfl,rfl⟩:=hh
     have OW:=g2 (by omega)
     simp only [Addr.mk.injEq,eZ] at OW
     obtain ⟨rfl,rfl⟩:=OW
     obtain ⟨f1,cur,ti,f2,f3,f4,f5,f6⟩:=k3
     have hj:(rows.getD i [])[j]?=some ((rows.getD i []).getD j e.zero):=by rw [Ah (l:=rows.getD i []),Ac h4];rfl
     obtain ⟨es,eR,c1,c2⟩:=f6 j _ hj
     refine ⟨Bs e es,?_,rm (fr:=false) (show Bi X w π st.heap (.at (.data false e _)) (Bs e es) from ⟨es,c2,rfl⟩)⟩
     simp only [Instr.loadAt,Instr.sureAddr]
     simpa using Ia (P:=P) (w:=w) Wg q.g ((q.o+0)*e.size+j*e.size) es eR (λm u hu=>by rw [cellOf f2,Ef,<-Cx];exact c1 m u hu)
   ·cases he
  ·cases he
 ·cases he
theorem QF {α:Type} {xs:List α} {n:Int} {x:α} (h:idx xs n=some x):0<=n/\n<xs.length/\xs[n.toNat]?=some x:=by
 unfold idx at h
 split at h
 ·rename_i h0
  have:=(Aj.1 h).1
  exact ⟨h0,by omega,h⟩
 ·cases h
theorem oZ (hT:Ed P T) {t:TypeId} {e:Ty} (h:(T.elem t).bind T.ty=some e): ∃te,T.elem t=some te/\T.ty te=some e/\P.underlying t=some (.slice te)/\P.elem t=te:=by
 cases ht:T.elem t with
 |none=>rw [ht] at h;cases h
 |some te=>
  rw [ht] at h
  have hu:=hT.elem t te ht
  exact ⟨te,rfl,h,hu,by simp [Program.elem,hu]⟩
theorem kW (hT:Ed P T) {st:St} {a:Act} (h:Bd X π st a w) (t:TypeId) (x i:AV) (vx vi:Value) (av:AV) (hx:Bi X w π st.heap x vx) (hi:Bi X w π st.heap i vi)
  (he:Ka T st t x i=some av): ∃v,(Instr.indexAt t vx vi).run P w= .ok v w/\Bi X w π st.heap av v:=by
 unfold Ka at he
 split at he
 ·rename_i fr e xs _ k n
  have:=Oz hi;subst this
  split at he
  ·rename_i j8
   obtain ⟨te,h1,h2,h3,h4⟩:=oZ hT j8
   cases PH:idx xs n with
   |none=>rw [PH] at he;cases he
   |some y=>
    rw [PH] at he
    simp only [Ai,Aa] at he;subst he
    obtain ⟨h5,h6,h7⟩:=QF PH
    obtain ⟨cs,hc,rfl⟩:=hx
    simp only [Cells] at hc
    obtain ⟨ad,len,cap,rfl,hlen,qn,CX⟩:=hc
    rcases CX with rfl|⟨g,o,rfl,hg,hn,Kt⟩
    ·simp at h6;omega
    ·obtain ⟨es,eR,Uo,aj⟩:=Kt _ _ h7
     have Yp:=(hT.ty _ _ h2).size (w:=w)
     refine ⟨.pointer (some ⟨g,o+n.toNat*e.size,none⟩),?_,[_],⟨g,_,rfl,hg,hn,es,eR,Uo,aj⟩,by simp [Bs,Ty.Am]⟩
     simp only [Bs,Ty.Am,Cy,Sa,fg]
     rw [run_indexAt_slice (P:=P) w t _ _ _ k n (by rw [h3,h4]),Ab ⟨h5,by omega⟩,h4,Yp,Result.andThen_ok,Addr.add_lit]
  ·cases he
 ·rename_i l off len _ k n
  have:=Oz hi;subst this
  split at he
  ·rename_i fr tr e tid xs hl
   split at he
   ·rename_i Jd
    obtain ⟨h1,h2,ZL⟩:=Jd
    obtain ⟨h5,h6⟩:=So.1 ZL
    simp only [Aa] at he;subst he
    have h3:=hT.elem t tid h1
    have h4:P.elem t=tid:=by simp [Program.elem,h3]
    unfold St.at at hl
    have Ns:=hl
    obtain ⟨h8,h9⟩:=Nl (X:=X) (w:=w) hx hl
    cases hp:π l with
    |none=>rw [hp] at h9;obtain ⟨_,_,h9⟩:=h9;omega
    |some r=>
     rw [hp] at h9
     obtain ⟨ad,rfl,p9,mq⟩:=h9
     have UR:=mq (by omega)
     subst UR
     have Yp:=(hT.ty _ _ h2).size (w:=w)
     refine ⟨.pointer (some ⟨r.g,(r.o+off)*e.size+n.toNat*e.size,none⟩),?_,r,_,e.size,xs.length,Ns,rfl,by omega,hp,?_⟩
     ·rw [run_indexAt_slice (P:=P) w t _ _ _ k n (by rw [h3,h4]),Ab ⟨h5,by omega⟩,h4,Yp,Result.andThen_ok,Addr.add_lit]
     ·rw [<-Gh r.o off n.toNat,Cx (r.o+off)]
   ·cases he
  ·rename_i e tid xs hl
   split at he
   ·rename_i Jd
    obtain ⟨h1,h2,ZL⟩:=Jd
    obtain ⟨h5,h6⟩:=So.1 ZL
    simp only [Aa] at he;subst he
    have h3:=hT.elem t tid h1
    have h4:P.elem t=tid:=by simp [Program.elem,h3]
    unfold St.at at hl
    have Ns:=hl
    obtain ⟨h8,h9⟩:=aC (X:=X) (w:=w) hx hl
    cases hp:π l with
    |none=>rw [hp] at h9;obtain ⟨_,_,h9⟩:=h9;omega
    |some r=>
     rw [hp] at h9
     obtain ⟨ad,rfl,p9,mq⟩:=h9
     have UR:=mq (by omega)
     subst UR
     have Yp:=(hT.ty _ _ h2).size (w:=w)
     refine ⟨.pointer (some ⟨r.g,(r.o+off)*e.size+n.toNat*e.size,none⟩),?_,r,_,e.size,xs.length,Ns,rfl,by omega,hp,?_⟩
     ·rw [run_indexAt_slice (P:=P) w t _ _ _ k n (by rw [h3,h4]),Ab ⟨h5,by omega⟩,h4,Yp,Result.andThen_ok,Addr.add_lit]
     ·rw [<-Gh r.o off n.toNat,Cx (r.o+off)]
   ·cases he
  ·rename_i e te rows out kp hl
   split at he
   ·rename_i Jd
    obtain ⟨h1,h2,ZL⟩:=Jd
    obtain ⟨h5,h6⟩:=So.1 ZL
    simp only [Aa] at he;subst he
    have h3:=hT.elem t te h1
    have h4:P.elem t=te:=by simp [Program.elem,h3]
    unfold St.at at hl
    have Ns:=hl
    obtain ⟨h8,h9⟩:=lJ (X:=X) (w:=w) hx hl
    cases hp:π l with
    |none=>rw [hp] at h9;obtain ⟨_,_,h9⟩:=h9;omega
    |some r=>
     rw [hp] at h9
     obtain ⟨ad,rfl,p9,mq⟩:=h9
     have UR:=mq (by omega)
     subst UR
     cases j9:T.ty te with
     |none=>rw [j9] at h2;cases h2
     |some τ=>
      rw [j9] at h2
      have h2:τ.size=1:=Ba h2
      have Yp:=(hT.ty _ _ j9).size (w:=w)
      refine ⟨.pointer (some ⟨r.g,(r.o+off)*1+n.toNat*τ.size,none⟩),?_,r,_,1,rows.length,Ns,rfl,by omega,hp,?_⟩
      ·rw [run_indexAt_slice (P:=P) w t _ _ _ k n (by rw [h3,h4]),Ab ⟨h5,by omega⟩,h4,Yp,Result.andThen_ok,Addr.add_lit]
      ·rw [h2,<-Gh r.o off n.toNat,Cx (r.o+off)]
   ·cases he
  ·cases he
 ·rename_i l i c _ k n
  have:=Oz hi;subst this
  split at he
  ·rename_i e te rows kp hl
   split at he
   ·rename_i Jd
    obtain ⟨h2,ZL⟩:=Jd
    obtain ⟨h5,h6⟩:=So.1 ZL
    simp only [Aa] at he;subst he
    cases j9:T.elem t with
    |none=>rw [j9] at h2;cases h2
    |some Qg=>
     rw [j9] at h2
     cases Wg:T.ty Qg with
     |none=>rw [Ey,Wg] at h2;cases h2
     |some τ=>
      rw [Ey,Wg] at h2
      have h2:τ.size=e.size:=Ba h2
      have h3:=hT.elem t Qg j9
      have h4:P.elem t=Qg:=by simp [Program.elem,h3]
      unfold St.at at hl
      obtain ⟨r,b,sz,m,g1,g0,g2,g3,⟨g4,_⟩,g5⟩:=hx
      rw [hl] at g1;cases g1
      simp only [OB.eu,Aa,Ae] at g0
      obtain ⟨rfl,rfl⟩:=g0
      have kD:c=0:=by omega
      subst kD
      rw [Ex,Ef] at g5
      obtain ⟨u,R,k1,k2,k3⟩:=lf h.1 hl g2 g3 (by simp)
      rw [g5] at k1
      have hu:=Ba k1
      subst hu
      cases R with
      |none=>obtain ⟨_,_,hh⟩:=k2;omega
      |some q=>
       obtain ⟨ad,rfl,f1,f2⟩:=k2
       have OW:=f2 (by omega)
       subst OW
       have Yp:=(hT.ty _ _ Wg).size (w:=w)
       refine ⟨.pointer (some ⟨q.g,(q.o+0)*e.size+n.toNat*τ.size,none⟩),?_,r,_,rows.length,e.size,q.g,(q.o+0)*e.size,_,_,hl,rfl,g2,g3,by omega,g5,by rw [h2]⟩
       rw [run_indexAt_slice (P:=P) w t _ _ _ k n (by rw [h3,h4]),Ab ⟨h5,by omega⟩,h4,Yp,Result.andThen_ok,Addr.add_lit]
   ·cases he
  ·cases he
 ·cases he
end
end Go.Proofs.Ytkkdpknjohcekaa
