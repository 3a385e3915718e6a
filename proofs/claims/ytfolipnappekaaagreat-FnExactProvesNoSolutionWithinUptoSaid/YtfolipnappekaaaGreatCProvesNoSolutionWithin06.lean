/-
  Part 7 of the proof that the statement FnExactProvesNoSolutionWithin holds.
-/
import Derived.Test.YtfolipnappekaaaGreatCProvesNoSolutionWithin05
namespace Go.Proofs.YtfolipnappekaaaGreat
open Go.RowKit
section
variable {P:Program} {T:Tab} {X:Ctx} {w w':World} {π:Pi} {H:List (Nat×OB)}
def IN (P:Program) (X:Ctx) (π:Pi) (H:List (Nat×OB)) (w:World) (av:AV):Result Next->Prop
 | .ok (.value v) w'=>w'=w/\Ao X w π H av v
 | .ok (.enter f args) w'=>w'=w/\Calls P f args w (λe nR=> ∃v,e= .returned v/\Below w.heap.size w nR/\Ao X nR π H av v)
 |_=>False
def iw (s:Spec) (w:World) (S:Nat->Prop) (v:Value) (y:s.res.den):Prop:=
 if s.Ct then ∃us:List Value,v= .tuple us.toArray/\Bf w S s.res us y else Bc w S s.res v y
structure Sound (P:Program) (f:FuncId) (s:Spec):Prop where
 enter: ∀args w,(callFunc f args).run P w= .ok (.enter f args) w
 calls: ∀(w:World) (S:Nat->Prop) (vs:List Value) (x:s.arg.den) (y:s.res.den),(∀k,S k->k<w.heap.size)->Bf w S s.arg vs x->s.fn x=some y->
  Calls P f vs.toArray w λe w'=> ∃v,e= .returned v/\Below w.heap.size w w'/\iw s w' (λb=>S b\/(s.fresh=true/\b<w.heap.size)) v y
def cr (w:World) (D:Nat->Prop) (r:Option Real):(c:CK)->c.den->Prop
 | .Dm _,_=>r=none
 | .row e _,xs=>Nq w D r e xs
 | .Du e te,xs=>Ji w r e te xs
 | .part e _,x=>e.flat=true/\Nq w D r e x.1
 | .Al e _ _,rows=>Vm w D r e rows none
def bl (w:World) (D:Nat->Prop) (r:Option Real) (v:Value):(c:CK)->c.den->Prop
 | .Dm τ,x=>r=none/\Bc w D τ v x
 | .row e te,xs=>Ec r e.size 0 (List.length xs) v/\cr w D r (.row e te) xs
 | .Du e te,xs=>Ec r e.size 0 (List.length xs) v/\cr w D r (.Du e te) xs
 | .part e te,x=>(Ec r e.size x.2.1 x.2.2 v/\x.2.1+x.2.2<=List.length x.1)/\cr w D r (.part e te) x
 | .Al e te kp,rows=>Ec r 1 0 (List.length rows) v/\cr w D r (.Al e te kp) rows
def bm (w:World) (D:Nat->Prop) (π:Pi):(k:Nat)->(cs:List (Bool×CK))->Ins.den cs->List Value->Prop
 |_,[],_,[]=>True
 |k,p::r,x,u::us=>bl w D (π (Bu p.1 k)) u p.2 x.1/\bm w D π (k+1) r x.2 us
 |_,_,_,_=>False
def Hm (w:World) (D:Nat->Prop) (π:Pi):(k:Nat)->(cs:List (Bool×CK))->IOs.den cs->Prop
 |_,[],_=>True
 |k,(true, .Dm _)::r,x=>Hm w D π (k+1) r x
 |k,(true, .Al _ _ _)::r,x=>Hm w D π (k+1) r x
 |k,(true, .row e te)::r,x=>cr w D (π (Bu true k)) (.row e te) x.1/\Hm w D π (k+1) r x.2
 |k,(true, .Du e te)::r,x=>cr w D (π (Bu true k)) (.Du e te) x.1/\Hm w D π (k+1) r x.2
 |k,(true, .part e te)::r,x=>cr w D (π (Bu true k)) (.row e te) x.1/\Hm w D π (k+1) r x.2
 |k,(false,_)::r,x=>Hm w D π (k+1) r x
def Ez (w:World) (D:Nat->Prop) (ρ:Pi):(k:Nat)->(cs:List CK)->CKs.den cs->List Value->Prop
 |_,[],_,[]=>True
 |k,c::r,x,u::us=>bl w D (ρ (Fz k)) u c x.1/\Ez w D ρ (k+1) r x.2 us
 |_,_,_,_=>False
structure df (π:Pi) (A:Nat->Prop):Prop where
 Vu: ∀l r b,π l=some r->r.Bg b->A b
 inj: ∀l l' r r' b,π l=some r->π l'=some r'->r.Bg b->r'.Bg b->l=l'
def Zk:List (Option Nat)->List Value->Prop
 | [],[]=>True
 |none::s,_::us=>Zk s us
 |some n::s,us=>n<=us.length/\(∀u∈us.take n,u.oneCell'=true)/\Zk s (us.drop n)
 |_,_=>False
def UK (Ct:Bool) (sh:List (Option Nat)) (us:List Value) (v:Value):Prop:=if Ct then v= .tuple (Gi sh us).toArray else Gi sh us= [v]\/Gi sh us= []
def fY (S:Nat->Prop) (π ρ:Pi) (b:Nat):Prop:=S b\/(∃l q,Am<=l/\π l=some q/\q.Bg b)\/Qj ρ b
def lk (s:MSpec) (w:World) (g:Nat) (us vs:List Value):Prop:=
 match s.ptr with
 |none=>vs=Gi s.Eh us/\Zk s.Eh us
 |some p=>vs= .pointer (some ⟨g,0,none⟩)::Gi s.Eh (us.drop p.2)/\Zk s.Eh (us.drop p.2)/\p.2<=us.length/\w.heap[g]?=some (.cells (us.take p.2).toArray p.1 (0,0))/\ ∀u∈us.take p.2,u.oneCell'=true
def MSpec.gv (s:MSpec) (g b:Nat):Prop:=s.ptr.isSome=true/\b=g
def Ce (π:Pi):(k:Nat)->(cs:List (Bool×CK))->IOs.den cs->(n:Nat)->List Value->List Value->Prop
 |_,_,_,0,us,_=>us= []
 |k,(true, .row e _)::r,o,n+1,u::us,as=>Ec (π (Bu true k)) e.size 0 (List.length o.1) u/\Ce π (k+1) r o.2 n us as
 |k,(true, .Du e _)::r,o,n+1,u::us,as=>Ec (π (Bu true k)) e.size 0 (List.length o.1) u/\Ce π (k+1) r o.2 n us as
 |k,(false,_)::r,o,n+1,u::us,a::as=>u=a/\Ce π (k+1) r o n us as
 |_,_,_,_,_,_=>False
def iv (s:MSpec) (π:Pi) (w':World) (g:Nat) (Rn:List Value) (o:IOs.den s.ins):Prop:=
 match s.ptr with
 |none=>True
 |some p=> ∃cs,w'.heap[g]?=some (.cells cs.toArray p.1 (0,0))/\(∀u∈cs,u.oneCell'=true)/\Ce π 0 s.ins o p.2 cs Rn
def yh (w w':World) (r r':Option Real) (n:Nat):Prop:=match r,r' with
 |none,none=>True
 |some q,some q'=>q'.g=q.g/\q'.o=q.o/\q'.cap=q.cap/\ ∀j,j<n->j<q.cap->w'.cell? ⟨q.g,q.o+j,none⟩=w.cell? ⟨q.g,q.o+j,none⟩
 |_,_=>False
def p7 (s:MSpec) (w':World) (ρ:Pi) (us:List Value) (v:Value):Prop:=match s.rp with
 |none=>UK s.Ct s.Di us v/\Zk s.Di us
 |some tid=> ∃q,ρ (Fz s.outs.length)=some q/\q.Bg q.g/\w'.heap[q.g]?=some (.cells us.toArray tid (0,0))/\(∀u∈us,u.oneCell'=true)/\v= .pointer (some ⟨q.g,0,none⟩)
def MSpec.Ph (s:MSpec):Nat:=s.outs.length+(match s.rp with|none=>0|some _=>1)
structure Ay (P:Program) (f:FuncId) (s:MSpec):Prop where
 enter: ∀args w,(callFunc f args).run P w= .ok (.enter f args) w
 calls: ∀(w:World) (S:Nat->Prop) (π:Pi) (us:List Value) (x:Ins.den s.ins) (r:CKs.den s.outs) (o:IOs.den s.ins) (g:Nat) (vs:List Value),
  lk s w g us vs->(s.ptr.isSome=true->S g)->bm w (λb=>Qj π b\/S b) π 0 s.ins x us->df π (λb=>b<w.heap.size)->(∀b,S b->b<w.heap.size/\ ¬Qj π b)->(∀l,Ad (Ul 0 s.ins x) l=none->π l=none)->s.fn x=some (r,o)->
  Calls P f vs.toArray w λe w'=> ∃v Rn ρ,e= .returned v/\p7 s w' ρ (Rn.drop s.Vr) v/\iv s π w' g Rn o/\Gg w.heap.size (λb=>Qj π b\/s.gv g b) w w'/\Hm w' (fY S π ρ) π 0 s.ins o/\Ez w' (fY S π ρ) ρ 0 s.outs r Rn/\
   df ρ (λb=>b<w'.heap.size/\(w.heap.size<=b\/ ∃l q,l<Am/\π l=some q/\q.Bg b))/\(∀l,(∀k,k<s.Ph->l≠Fz k)->ρ l=none)/\(∀kj∈s.keeps,yh w w' (π (Bu false kj.1)) (ρ (Fz kj.2)) (s.Cn x))
def Abi (P:Program) (f:FuncId):Ql->Prop
 | .q s=>Sound P f s
 | .m s=>Ay P f s
 | .b s m=>Sound P f s/\Ay P f m
def Gq (P:Program) (Γ:Env):Prop:= ∀f s,Γ f=some s->Abi P f s
theorem Gq.reg {P:Program} {Γ:Env} (h:Gq P Γ) (draw:Bool):Gq P (xb Γ draw):= λf s hs=>by
 unfold xb at hs
 split at hs
 ·rename_i s0 m Kn
  have:=h f _ Kn
  cases draw with
  |true=>simp only [if_true,Option.some.injEq] at hs;subst hs;exact this.1
  |false=>simp only [Bool.false_eq_true,if_false,Option.some.injEq] at hs;subst hs;exact this.2
 ·exact h f s hs
theorem Ld {k:IntKind} {n:Int} {fr:Bool} {v:Value} (h:Ao X w π H (.at (.data fr (.int k) n)) v):v= .int k n:=by
 obtain ⟨cs,h1,rfl⟩:=h;simp only [Cells] at h1;subst h1;rfl
theorem Us {b:Bool} {fr:Bool} {v:Value} (h:Ao X w π H (.at (.data fr .bool b)) v):v= .bool b:=by
 obtain ⟨cs,h1,rfl⟩:=h;simp only [Cells] at h1;subst h1;rfl
theorem bV {s:ByteArray} {fr:Bool} {v:Value} (h:Ao X w π H (.at (.data fr .str s)) v):v= .string s:=by
 obtain ⟨cs,h1,rfl⟩:=h;simp only [Cells] at h1;subst h1;rfl
theorem Jo (k:IntKind) (n:Int) (fr:Bool):Ao X w π H (.at (.data fr (.int k) n)) (.int k n):=⟨[.int k n],rfl,rfl⟩
theorem Ik (b:Bool) (fr:Bool):Ao X w π H (.at (.data fr .bool b)) (.bool b):=⟨[.bool b],rfl,rfl⟩
theorem lV (s:ByteArray) (fr:Bool):Ao X w π H (.at (.data fr .str s)) (.string s):=⟨[.string s],rfl,rfl⟩
theorem Adk (f:FuncId):Ao X w π H (.at (.clo f [])) (.func (.func f) #[] #[]):=⟨[],rfl,rfl,λi p hi=>by simp at hi⟩
theorem LO (v:Value):Ao X w π H (jB v) v:=by
 unfold jB
 split
 ·exact Jo _ _ _
 ·exact Ik _ _
 ·exact lV _ _
 ·rfl
 ·rfl
 ·trivial
theorem Bq {st:St} {a:Act} (h:p6 X w π st a) (x:Operand):Ao X w π st.heap (st.ev x) (a.eval x):=by
 cases x with
 |tmp t=>exact h.tmps t
 |const v=>exact LO v
 |global g=>trivial
 |func f=>exact Adk f
theorem ES (op:BinOp) (k:IntKind) (a b:Int) (t:TypeId) (av:AV) (h:qa op k a b=some av):
  ∃v,(binOp op t (.int k a) (.int k b)).run P w= .ok v w/\Ao X w π H av v:=by
 cases op<;>simp only [qa,Vv,Kk] at h
 case add=>cases h;exact ⟨_,by simp [binOp,Op.intArith],Jo _ _ _⟩
 case sub=>cases h;exact ⟨_,by simp [binOp,Op.intArith],Jo _ _ _⟩
 case mul=>cases h;exact ⟨_,by simp [binOp,Op.intArith],Jo _ _ _⟩
 case quo=>split at h<;>cases h;rename_i hb;exact ⟨_,by simp [binOp,Op.intDiv,hb],Jo _ _ _⟩
 case rem=>split at h<;>cases h;rename_i hb;exact ⟨_,by simp [binOp,Op.intDiv,hb],Jo _ _ _⟩
 case and=>cases h;exact ⟨_,by simp [binOp,Op.intBits],Jo _ _ _⟩
 case or=>cases h;exact ⟨_,by simp [binOp,Op.intBits],Jo _ _ _⟩
 case eql=>cases h;exact ⟨_,by simp [binOp,Op.intCmp],Ik _ _⟩
 case neq=>cases h;exact ⟨_,by simp [binOp,Op.intCmp],Ik _ _⟩
 case lss=>cases h;exact ⟨_,by simp [binOp,Op.intCmp],Ik _ _⟩
 case leq=>cases h;exact ⟨_,by simp [binOp,Op.intCmp],Ik _ _⟩
 case gtr=>cases h;exact ⟨_,by simp [binOp,Op.intCmp],Ik _ _⟩
 case geq=>cases h;exact ⟨_,by simp [binOp,Op.intCmp],Ik _ _⟩
 all_goals cases h
theorem yO (op:BinOp) (x y:AV) (vx vy:Value) (ox oy:Operand) (t:TypeId) (av:AV) (hx:Ao X w π H x vx) (hy:Ao X w π H y vy) (h:evalBin op x y=some av):
  ∃v,(do eqGuard op t ox oy vx vy;binOp op t vx vy:Sem Value).run P w= .ok v w/\Ao X w π H av v:=by
 unfold evalBin at h
 split at h
 ·rename_i k a _ k' b
  have:=Ld hx;subst this
  have:=Ld hy;subst this
  have hg: ∀op,(eqGuard op t ox oy (.int k a) (.int k' b)).run P w= .ok () w:=by intro op;cases op<;>simp [eqGuard]
  split at h
  ·split at h
   ·cases h
   ·rename_i hb
    simp only [Vv,Option.some.injEq] at h;subst h
    exact ⟨_,by rw [Sem.run_bind,hg];simp [binOp,Op.shift,hb],Jo _ _ _⟩
  ·split at h
   ·cases h
   ·rename_i hb
    simp only [Vv,Option.some.injEq] at h;subst h
    exact ⟨_,by rw [Sem.run_bind,hg];simp [binOp,Op.shift,hb],Jo _ _ _⟩
  ·split at h
   ·rename_i hk;subst hk
    obtain ⟨v,h1,h2⟩:=ES (P:=P) (w:=w) (X:=X) (π:=π) (H:=H) op k a b t av h
    exact ⟨v,by rw [Sem.run_bind,hg];exact h1,h2⟩
   ·cases h
 ·rename_i a _ b
  have:=bV hx;subst this
  have:=bV hy;subst this
  have hg: ∀op,(eqGuard op t ox oy (.string a) (.string b)).run P w= .ok () w:=by intro op;cases op<;>simp [eqGuard]
  split at h
  ·simp only [Kk,Option.some.injEq] at h;subst h
   exact ⟨_,by rw [Sem.run_bind,hg];simp [binOp,Op.stringOp],Ik _ _⟩
  ·simp only [Kk,Option.some.injEq] at h;subst h
   exact ⟨_,by rw [Sem.run_bind,hg];simp [binOp,Op.stringOp],Ik _ _⟩
  ·split at h
   ·rename_i hl
    simp only [Option.some.injEq] at h;subst h
    exact ⟨_,by rw [Sem.run_bind,hg];simp only [Result.andThen_ok,binOp];exact run_string_add_sum w a b (by omega),lV _ _⟩
   ·cases h
  ·cases h
 ·cases h
theorem ey {t:TypeId} (h:P.underlying t=some .bool) (a b:Bool) (w:World):(Op.equal t (.bool a) (.bool b)).run P w= .ok (a==b) w:=by
 unfold Op.equal
 rw [show Op.maxDepth=9999+1 from rfl]
 unfold Op.equalIn
 rw [Sem.run_bind,run_underlying h]
 rfl
theorem zQ (hT:By P T) {x:AV} {vx:Value} {b:Bool} {t:TypeId} (hx:Ao X w π H x vx) (h:aB x=some b) (ht:(T.elem t).isSome=true):
  (∃a len cap,vx= .slice a len cap/\(match a with|none=>true|some _=>false)=b)/\(Op.equal t vx (.slice none 0 0)).run P w= .ok b w:=by
 have h1: ∃a len cap,vx= .slice a len cap/\(match a with|none=>true|some _=>false)=b:=by
  unfold aB at h
  split at h
  ·simp only [Option.some.injEq] at h;subst h
   have hx:vx= .slice none 0 0:=hx
   exact ⟨none,0,0,hx,rfl⟩
  ·simp only [Option.some.injEq] at h;subst h
   obtain ⟨cs,hc,rfl⟩:=hx
   simp only [Cells] at hc
   rcases hc with ⟨rfl,c,rfl⟩|⟨xs,ad,len,cap,rfl,rfl,_⟩
   ·exact ⟨none,0,c,by simp [Au,Ty.Ac],rfl⟩
   ·exact ⟨some ad,len,cap,by simp [Au,Ty.Ac],rfl⟩
  ·cases h
 refine ⟨h1,?_⟩
 obtain ⟨a,len,cap,rfl,rfl⟩:=h1
 obtain ⟨te,gO⟩:=Option.isSome_iff_exists.1 ht
 have hu:=hT.elem t te gO
 unfold Op.equal
 rw [show Op.maxDepth=9999+1 from rfl]
 unfold Op.equalIn
 rw [Sem.run_bind,run_underlying hu]
 cases a<;>rfl
theorem zP (hT:By P T) {x:AV} {vx:Value} {b:Bool} {t:TypeId} (hx:Ao X w π H x vx) (h:aA x=some b) (ht:SY (T.ty t)=true):
  (∃a,vx= .pointer a/\(match a with|none=>true|some _=>false)=b)/\(Op.equal t vx (.pointer none)).run P w= .ok b w:=by
 have h1: ∃a,vx= .pointer a/\(match a with|none=>true|some _=>false)=b:=by
  unfold aA at h
  split at h
  ·simp only [Option.some.injEq] at h;subst h
   have hx:vx= .pointer none:=hx
   exact ⟨none,hx,rfl⟩
  ·simp only [Option.some.injEq] at h;subst h
   obtain ⟨r,tid,vs,_,_,rfl⟩:=hx
   exact ⟨_,rfl,rfl⟩
  ·simp only [Option.some.injEq] at h;subst h
   obtain ⟨cs,hc,rfl⟩:=hx
   simp only [Cells] at hc
   rcases hc with ⟨rfl,rfl⟩|⟨xs,g,o,rfl,rfl,_⟩
   ·exact ⟨none,by simp [Au,Ty.Ac],rfl⟩
   ·exact ⟨some ⟨g,o,none⟩,by simp [Au,Ty.Ac],rfl⟩
  ·simp only [Option.some.injEq] at h;subst h
   obtain ⟨cs,hc,rfl⟩:=hx
   simp only [Cells] at hc
   obtain ⟨g,o,rfl,_⟩:=hc
   exact ⟨some ⟨g,o,none⟩,by simp [Au,Ty.Ac],rfl⟩
  ·cases h
 refine ⟨h1,?_⟩
 obtain ⟨a,rfl,rfl⟩:=h1
 have hu: ∃u,P.underlying t=some (.pointer u):=by
  cases Ss:T.ty t with
  |none=>rw [Ss] at ht;cases ht
  |some τ=>
   have hd:=(hT.ty t τ Ss).desc
   rw [Ss] at ht
   cases τ<;>first|exact hd|cases ht
 obtain ⟨u,hu⟩:=hu
 unfold Op.equal
 rw [show Op.maxDepth=9999+1 from rfl]
 unfold Op.equalIn
 rw [Sem.run_bind,run_underlying hu]
 cases a<;>rfl
theorem vV {T:Tab} (hT:By P T) (op:BinOp) (x y:AV) (vx vy:Value) (ox oy:Operand) (t:TypeId) (av:AV) (hx:Ao X w π H x vx) (hy:Ao X w π H y vy) (h:Oh T op t x y=some av):
  ∃v,(do eqGuard op t ox oy vx vy;binOp op t vx vy:Sem Value).run P w= .ok v w/\Ao X w π H av v:=by
 unfold Oh at h
 split at h
 ·split at h
  ·rename_i ht
   cases hn:aB x with
   |none=>rw [hn] at h;cases h
   |some b=>
    rw [hn] at h
    simp only [Option.bind_some,Kk,Option.some.injEq] at h;subst h
    have hy:vy= .slice none 0 0:=hy
    subst hy
    obtain ⟨⟨a,len,cap,rfl,_⟩,h2⟩:=zQ hT hx hn ht
    exact ⟨.bool b,by rw [Sem.run_bind];simp [eqGuard,binOp,h2],Ik _ _⟩
  ·cases h
 ·split at h
  ·rename_i ht
   cases hn:aA x with
   |none=>rw [hn] at h;cases h
   |some b=>
    rw [hn] at h
    simp only [Option.bind_some,Kk,Option.some.injEq] at h;subst h
    have hy:vy= .pointer none:=hy
    subst hy
    obtain ⟨⟨a,rfl,_⟩,h2⟩:=zP hT hx hn ht
    exact ⟨.bool b,by rw [Sem.run_bind];simp [eqGuard,binOp,h2],Ik _ _⟩
  ·cases h
 ·split at h
  ·rename_i ht
   cases hn:aB x with
   |none=>rw [hn] at h;cases h
   |some b=>
    rw [hn] at h
    simp only [Option.bind_some,Kk,Option.some.injEq] at h;subst h
    have hy:vy= .slice none 0 0:=hy
    subst hy
    obtain ⟨⟨a,len,cap,rfl,_⟩,h2⟩:=zQ hT hx hn ht
    exact ⟨.bool (!b),by rw [Sem.run_bind];simp [eqGuard,binOp,h2],Ik _ _⟩
  ·cases h
 ·split at h
  ·rename_i ht
   cases hn:aA x with
   |none=>rw [hn] at h;cases h
   |some b=>
    rw [hn] at h
    simp only [Option.bind_some,Kk,Option.some.injEq] at h;subst h
    have hy:vy= .pointer none:=hy
    subst hy
    obtain ⟨⟨a,rfl,_⟩,h2⟩:=zP hT hx hn ht
    exact ⟨.bool (!b),by rw [Sem.run_bind];simp [eqGuard,binOp,h2],Ik _ _⟩
  ·cases h
 ·rename_i a _ b
  have:=Us hx;subst this
  have:=Us hy;subst this
  split at h
  ·rename_i ht
   simp only [Kk,Option.some.injEq] at h;subst h
   have hu:P.underlying t=some .bool:=(hT.ty t _ ht).desc
   exact ⟨_,by rw [Sem.run_bind];simp [eqGuard,binOp,ey hu],Ik _ _⟩
  ·cases h
 ·rename_i a _ b
  have:=Us hx;subst this
  have:=Us hy;subst this
  split at h
  ·rename_i ht
   simp only [Kk,Option.some.injEq] at h;subst h
   have hu:P.underlying t=some .bool:=(hT.ty t _ ht).desc
   exact ⟨_,by rw [Sem.run_bind];simp [eqGuard,binOp,ey hu],Ik _ _⟩
  ·cases h
 ·exact yO op x y vx vy ox oy t av hx hy h
theorem DZ (op:UnOp) (x:AV) (vx:Value) (av:AV) (hx:Ao X w π H x vx) (h:vZ op x=some av):
  ∃v,(Op.unary op vx).run P w= .ok v w/\Ao X w π H av v:=by
 unfold vZ at h
 split at h
 ·have:=Us hx;subst this
  simp only [Kk,Option.some.injEq] at h;subst h
  exact ⟨_,by simp [Op.unary],Ik _ _⟩
 ·have:=Ld hx;subst this
  simp only [Vv,Option.some.injEq] at h;subst h
  exact ⟨_,by simp [Op.unary,Op.intArith],Jo _ _ _⟩
 ·cases h
theorem Em {t:TypeId} {τ:Ty} (ht:lp P T t τ) (g o:Nat) (es:List Value) (hl:es.length=τ.size) (hc: ∀j u,es[j]?=some u->w.cell? ⟨g,o+j,none⟩=some u):
  (loadVar t ⟨g,o,none⟩).run P w= .ok (Au τ es) w:=by
 unfold loadVar
 rw [Sem.run_bind,ht.agg,Result.andThen_ok]
 cases hs:τ.Ac with
 |true=>
  simp only [if_true,Sem.run_bind,ht.size,Result.andThen_ok]
  rw [<-hl,run_loadCells_list w ⟨g,o,none⟩ es (λj v hv=>by rw [Addr.add_lit];exact hc j v hv)]
  simp [Au,hs]
 |false=>
  have h1:τ.size=1:=by cases τ<;>simp_all [Ty.Ac,Ty.size]
  rw [h1] at hl
  obtain ⟨u,rfl⟩:=List.length_eq_one_iff.1 hl
  have:=hc 0 u rfl
  simp only [Nat.add_zero] at this
  simp [this,Au,hs]
theorem qP {fr:Bool} {τ:Ty} {x:τ.den} {v:Value} (h:Ao X w π H (.at (.data fr τ x)) v):Ao X w π H (.at (.data (fr||τ.flat) τ x)) v:=by
 cases hf:τ.flat with
 |true=>exact Bc.flat hf h
 |false=>rw [Bool.or_false];exact h
theorem sV {cs ds:List AC} {us vs:List Value} (h1:Da X w π H cs us) (h2:Da X w π H ds vs):Da X w π H (cs++ds) (us++vs):=by
 have e1:=h1.1
 refine ⟨by simp [h1.1,h2.1],λi c hc=>?_⟩
 by_cases hi:i<cs.length
 ·rw [List.getElem?_append_left hi] at hc
  obtain ⟨u,hu,h3⟩:=h1.2 i c hc
  exact ⟨u,by rw [List.getElem?_append_left (by omega)];exact hu,h3⟩
 ·rw [List.getElem?_append_right (by omega)] at hc
  obtain ⟨u,hu,h3⟩:=h2.2 _ c hc
  exact ⟨u,by rw [List.getElem?_append_right (by omega),e1];exact hu,h3⟩
theorem bU {c:AC} {u:Value} (h1:u.oneCell'=true) (h2:Dv X w π H c u):Da X w π H [c] [u]:=⟨rfl,λi c' hc=>by
 rcases i with _|i
 ·simp at hc;subst hc;exact ⟨u,rfl,h1,h2⟩
 ·simp at hc⟩
theorem HR {l i:Nat} {e:Ty} {tid:TypeId} {xs:List e.den} {r:Real} (hl:Ad H l=some (.Dg e tid xs)) (hp:π l=some r) (hi:i<xs.length): ∀(τ:Ty) (c:Nat) (F:List Nat) (us:List Value) (x:τ.den),
  Ax w F τ us x->c+τ.size<=e.size->(∀j u,us[j]?=some u->w.cell? ⟨r.g,(r.o+i)*e.size+(c+j),none⟩=some u)->Da X w π H (cc l i c τ x) us:=by
 intro τ
 induction τ with
 |unit=>intro c F us x h _ _;simp only [Ax] at h;obtain ⟨_,rfl⟩:=h;exact ⟨rfl,λi c hc=>by simp [cc] at hc⟩
 |pair a r jm fv=>
  intro c F us x h hle hc
  have wa:=Ax.cells (S:= λ_=>False) F _ us x h (λ_ _ h=>h)
  simp only [Ax] at h
  obtain ⟨c1,c2,F1,F2,rfl,rfl,h1,h2⟩:=h
  have fq:c1.length=a.size:=Cells.len a c1 x.1 (Ax.cells (S:= λ_=>False) F1 a c1 x.1 h1 (λ_ _ h=>h))
  simp only [Ty.size] at hle
  refine sV (jm c F1 c1 x.1 h1 (by omega) λj u hu=>hc j u (by rw [List.getElem?_append_left (List.getElem?_eq_some_iff.1 hu).1];exact hu)) (fv (c+a.size) F2 c2 x.2 h2 (by omega) λj u hu=>?_)
  have:=hc (a.size+j) u (by rw [List.getElem?_append_right (by omega),fq];simpa using hu)
  rw [show c+a.size+j=c+(a.size+j) by omega];exact this
 |int k=>intro c F us x h _ _;simp only [Ax] at h;obtain ⟨_,rfl⟩:=h;exact bU rfl (Jo (H:=H) k x true)
 |bool=>intro c F us x h _ _;simp only [Ax] at h;obtain ⟨_,rfl⟩:=h;exact bU rfl (Ik (H:=H) x true)
 |str=>intro c F us x h _ _;simp only [Ax] at h;obtain ⟨_,rfl⟩:=h;exact bU rfl (lV (H:=H) x true)
 |slice e'=>
  intro c F us x h hle hc
  simp only [Ax] at h
  obtain ⟨a,len,cap,rfl,_⟩:=h
  exact bU rfl ⟨r,_,e.size,xs.length,hl,rfl,hp,hi,⟨by simp only [Ty.size] at hle;omega,_,_,_,rfl⟩,by simpa using hc 0 _ rfl⟩
 |_=>intro c F us x h;simp only [Ax] at h
theorem jI (hT:By P T) {st:St} {a:Act} (h:Ak X π st a w) (t:TypeId) (p:AV) (vp:Value) (av:AV) (hp:Ao X w π st.heap p vp) (he:Lg T st t p=some av):
  ∃v,(Instr.loadAt t vp).run P w= .ok v w/\Ao X w π st.heap av v:=by
 unfold Lg at he
 split at he
 ·rename_i τ fr Jr x ht
  split at he
  ·rename_i Oi
   subst Oi
   simp only [Option.some.injEq] at he;subst he
   have Ss:=hT.ty _ _ ht
   obtain ⟨cs,hc,rfl⟩:=hp
   simp only [Cells] at hc
   obtain ⟨g,o,rfl,hg,hn,es,hl,Ui,Xm⟩:=hc
   refine ⟨Au Jr es,?_,qP (show Ao X w π st.heap (.at (.data fr Jr _)) (Au Jr es) from ⟨es,Xm,rfl⟩)⟩
   have hr:=Em (P:=P) (w:=w) Ss g o es hl Ui
   show (do loadVar t (<-Instr.sureAddr (.pointer (some ⟨g,o,none⟩))):Sem Value).run P w=_
   simpa [Instr.sureAddr] using hr
  ·cases he
 ·rename_i τ fr Jr x ht
  split at he
  ·rename_i Oi
   subst Oi
   simp only [Option.some.injEq] at he;subst he
   have Ss:=hT.ty _ _ ht
   obtain ⟨cs,hc,rfl⟩:=hp
   simp only [Cells] at hc
   rcases hc with ⟨h0,_⟩|⟨y,g,o,h0,rfl,hg,hn,es,hl,Ui,Xm⟩
   ·cases h0
   simp only [Option.some.injEq] at h0;subst h0
   refine ⟨Au Jr es,?_,qP (show Ao X w π st.heap (.at (.data fr Jr _)) (Au Jr es) from ⟨es,Xm,rfl⟩)⟩
   have hr:=Em (P:=P) (w:=w) Ss g o es hl Ui
   show (do loadVar t (<-Instr.sureAddr (.pointer (some ⟨g,o,none⟩))):Sem Value).run P w=_
   simpa [Instr.sureAddr] using hr
  ·cases he
 ·rename_i τ l i ht
  have Ss:=hT.ty _ _ ht
  split at he
  ·rename_i tid vs hl
   obtain ⟨r,Po,vs',h1,h2,rfl⟩:=hp
   unfold St.at at hl
   rw [hl] at h1;cases h1
   obtain ⟨r',h3,h4,cur,h5,h6⟩:=(h.1.heap l).Md hl
   rw [h2] at h3;cases h3
   split at he
   ·rename_i hs
    split at he
    ·rename_i hlen
     simp only [Option.some.injEq] at he;subst he
     have Ky:cur.toList.length=vs.length:=h6.1
     refine ⟨_,by
      simp only [Instr.loadAt,Instr.sureAddr]
      simpa using Em (P:=P) (w:=w) Ss r.g i ((cur.toList.drop i).take τ.size) (by simp at Ky⊢;omega) (λj u hu=>by
       rw [cellOf h5]
       rw [List.getElem?_take] at hu
       split at hu
       ·rw [List.getElem?_drop] at hu;simpa using hu
       ·cases hu),?_⟩
     exact ⟨_,by simp [Au,hs],Ur h6 i τ.size⟩
    ·cases he
   ·rename_i hs
    simp only [Bool.not_eq_true] at hs
    have h1:τ.size=1:=by cases τ<;>simp_all [Ty.Ac,Ty.size]
    cases hi:vs[i]? with
    |none=>rw [hi] at he;cases he
    |some c=>
     rw [hi] at he
     simp only [Option.map_some,Option.some.injEq] at he;subst he
     obtain ⟨u,hu,_,hc⟩:=h6.2 i c hi
     refine ⟨u,?_,hc⟩
     simp only [Instr.loadAt,Instr.sureAddr]
     have:=Em (P:=P) (w:=w) Ss r.g i [u] (by simp [h1]) (λj u' bE=>by
       rcases j with _|j
       ·simp at bE;subst bE;rw [Nat.add_zero,cellOf h5];simpa using hu
       ·simp at bE)
     simpa [Au,hs] using this
  ·cases he
 ·rename_i τ l i ht
  have Ss:=hT.ty _ _ ht
  split at he
  ·rename_i fr tr e tid xs hl
   split at he
   ·rename_i heq;subst heq
    obtain ⟨r,b,sz,n,h1,h0,h2,h3,rfl⟩:=hp
    unfold St.at at hl
    rw [hl] at h1;cases h1
    simp only [OB.row,Option.some.injEq,Prod.mk.injEq] at h0
    obtain ⟨rfl,rfl⟩:=h0
    have hb:=(h.1.heap l).Md hl
    simp only [Av,Fv,h3] at hb
    obtain ⟨h4,cur,_,h5,h6,h7,h8,h9,_⟩:=hb
    have hx:xs[i]?=some xs[i]:=List.getElem?_eq_getElem h2
    rw [hx] at he
    simp only [Option.map_some,Option.some.injEq] at he;subst he
    obtain ⟨es,da,hj,wa⟩:=h9 i _ hx
    refine ⟨Au e es,?_,qP (show Ao X w π st.heap (.at (.data fr e _)) (Au e es) from ⟨es,wa,rfl⟩)⟩
    simp only [Instr.loadAt,Instr.sureAddr]
    simpa using Em (P:=P) (w:=w) Ss r.g ((r.o+i)*e.size) es da (λj u hu=>by rw [cellOf h5];exact hj j u hu)
   ·cases he
  ·rename_i e tid xs hl
   split at he
   ·rename_i heq;subst heq
    obtain ⟨r,b,sz,n,h1,h0,h2,h3,rfl⟩:=hp
    unfold St.at at hl
    rw [hl] at h1;cases h1
    simp only [OB.row,Option.some.injEq,Prod.mk.injEq] at h0
    obtain ⟨rfl,rfl⟩:=h0
    have hb:=(h.1.heap l).Md hl
    simp only [Av,Ji,h3] at hb
    obtain ⟨h4,cur,_,h5,h6,h7,h8,Fs,k1,k2,k3,k4⟩:=hb
    have hx:xs[i]?=some xs[i]:=List.getElem?_eq_getElem h2
    rw [hx] at he
    simp only [Option.map_some,Option.some.injEq] at he;subst he
    obtain ⟨es,da,hj,wa⟩:=k4 i _ _ hx (List.getElem?_eq_getElem (by omega))
    have YC:=HR (X:=X) (H:=st.heap) hl h3 h2 e 0 _ es _ wa (by omega) (λj u hu=>by rw [cellOf h5,Nat.zero_add];exact hj j u hu)
    refine ⟨Au e es,?_,?_⟩
    ·simp only [Instr.loadAt,Instr.sureAddr]
     simpa using Em (P:=P) (w:=w) Ss r.g ((r.o+i)*e.size) es da (λj u hu=>by rw [cellOf h5];exact hj j u hu)
    ·cases Oq:e.Ac with
     |true=>rw [if_pos rfl];exact ⟨es,by simp [Au,Oq],YC⟩
     |false=>
      rw [if_neg (by simp)]
      have h1:e.size=1:=by cases e<;>simp_all [Ty.Ac,Ty.size]
      rw [h1] at da
      obtain ⟨u,rfl⟩:=List.length_eq_one_iff.1 da
      have fq:=YC.1
      generalize cc l i 0 e xs[i]=sc at*
      simp only [List.length_cons,List.length_nil] at fq
      obtain ⟨c,rfl⟩:=List.length_eq_one_iff.1 fq.symm
      obtain ⟨u',bE,_,z8⟩:=YC.2 0 c rfl
      simp at bE;subst bE
      have e1:Au e [u]=u:=by simp [Au,Oq]
      rw [e1]
      exact z8
   ·cases he
  ·rename_i e te rows kp hl
   split at he
   ·cases he
   ·rename_i Oq
    simp only [Bool.not_eq_true] at Oq
    simp only [Option.some.injEq] at he;subst he
    obtain ⟨r,b,sz,n,h1,h0,h2,h3,rfl⟩:=hp
    unfold St.at at hl
    rw [hl] at h1;cases h1
    simp only [OB.row,Option.some.injEq,Prod.mk.injEq] at h0
    obtain ⟨rfl,rfl⟩:=h0
    obtain ⟨u,R,k1,k2,k3⟩:=jS h.1 hl h3 h2 (by simp)
    have Vp:τ.size=1:=by cases τ<;>simp_all [Ty.Ac,Ty.size]
    refine ⟨u,?_,r,_,1,rows.length,hl,rfl,h3,h2,⟨by omega,Wj k2⟩,by rw [Nat.mul_one,Nat.add_zero];exact k1⟩
    simp only [Instr.loadAt,Instr.sureAddr]
    have:=Em (P:=P) (w:=w) Ss r.g ((r.o+i)*1) [u] (by simp [Vp]) (λj u' bE=>by
     rcases j with _|j
     ·simp at bE;subst bE;rw [Nat.mul_one,Nat.add_zero];exact k1
     ·simp at bE)
    simpa [Au,Oq] using this
  ·cases he
 ·rename_i τ l i j ht
  have Ss:=hT.ty _ _ ht
  split at he
  ·rename_i e te rows kp hl
   split at he
   ·rename_i heq;subst heq
    simp only [Option.some.injEq] at he;subst he
    obtain ⟨r,b,n,sz,g,o,len,cap,h1,h0,h2,h3,h4,h5,rfl⟩:=hp
    unfold St.at at hl
    rw [hl] at h1;cases h1
    simp only [OB.sq,Option.some.injEq,Prod.mk.injEq] at h0
    obtain ⟨rfl,rfl⟩:=h0
    obtain ⟨u,R,k1,k2,k3⟩:=jS h.1 hl h2 h3 (by simp)
    rw [h5] at k1
    have hu:=Option.some.inj k1
    subst hu
    cases R with
    |none=>obtain ⟨hh,_⟩:=k2;cases hh
    |some q=>
     obtain ⟨ad,hh,g1,g2⟩:=k2
     simp only [Value.slice.injEq,Option.some.injEq] at hh
     obtain ⟨rfl,rfl,rfl⟩:=hh
     have RE:=g2 (by omega)
     simp only [Addr.mk.injEq,and_true] at RE
     obtain ⟨rfl,rfl⟩:=RE
     obtain ⟨f1,cur,ti,f2,f3,f4,f5,f6⟩:=k3
     have hj:(rows.getD i [])[j]?=some ((rows.getD i []).getD j e.zero):=by rw [List.getD_eq_getElem?_getD (l:=rows.getD i []),List.getElem?_eq_getElem h4];rfl
     obtain ⟨es,da,c1,c2⟩:=f6 j _ hj
     refine ⟨Au e es,?_,qP (fr:=false) (show Ao X w π st.heap (.at (.data false e _)) (Au e es) from ⟨es,c2,rfl⟩)⟩
     simp only [Instr.loadAt,Instr.sureAddr]
     simpa using Em (P:=P) (w:=w) Ss q.g ((q.o+0)*e.size+j*e.size) es da (λm u hu=>by rw [cellOf f2,Nat.add_zero,<-Nat.add_mul];exact c1 m u hu)
   ·cases he
  ·cases he
 ·cases he
theorem SP {α:Type} {xs:List α} {n:Int} {x:α} (h:idx xs n=some x):0<=n/\n<xs.length/\xs[n.toNat]?=some x:=by
 unfold idx at h
 split at h
 ·rename_i h0
  have:=(List.getElem?_eq_some_iff.1 h).1
  exact ⟨h0,by omega,h⟩
 ·cases h
theorem oG (hT:By P T) {t:TypeId} {e:Ty} (h:(T.elem t).bind T.ty=some e): ∃te,T.elem t=some te/\T.ty te=some e/\P.underlying t=some (.slice te)/\P.elem t=te:=by
 cases ht:T.elem t with
 |none=>rw [ht] at h;cases h
 |some te=>
  rw [ht] at h
  have hu:=hT.elem t te ht
  exact ⟨te,rfl,h,hu,by simp [Program.elem,hu]⟩
theorem jH (hT:By P T) {st:St} {a:Act} (h:Ak X π st a w) (t:TypeId) (x i:AV) (vx vi:Value) (av:AV) (hx:Ao X w π st.heap x vx) (hi:Ao X w π st.heap i vi)
  (he:Gf T st t x i=some av): ∃v,(Instr.indexAt t vx vi).run P w= .ok v w/\Ao X w π st.heap av v:=by
 unfold Gf at he
 split at he
 ·rename_i fr e xs _ k n
  have:=Ld hi;subst this
  split at he
  ·rename_i gL
   obtain ⟨te,h1,h2,h3,h4⟩:=oG hT gL
   cases hix:idx xs n with
   |none=>rw [hix] at he;cases he
   |some y=>
    rw [hix] at he
    simp only [Option.map_some,Option.some.injEq] at he;subst he
    obtain ⟨h5,h6,h7⟩:=SP hix
    obtain ⟨cs,hc,rfl⟩:=hx
    simp only [Cells] at hc
    obtain ⟨ad,len,cap,rfl,hlen,pR,EF⟩:=hc
    rcases EF with rfl|⟨g,o,rfl,hg,hn,Fh⟩
    ·simp at h6;omega
    ·obtain ⟨es,da,Ui,Xm⟩:=Fh _ _ h7
     have Vp:=(hT.ty _ _ h2).size (w:=w)
     refine ⟨.pointer (some ⟨g,o+n.toNat*e.size,none⟩),?_,[_],⟨g,_,rfl,hg,hn,es,da,Ui,Xm⟩,by simp [Au,Ty.Ac]⟩
     simp only [Au,Ty.Ac,Bool.false_eq_true,if_false,List.headD_cons]
     rw [run_indexAt_slice (P:=P) w t _ _ _ k n (by rw [h3,h4]),if_pos ⟨h5,by omega⟩,h4,Vp,Result.andThen_ok,Addr.add_lit]
  ·cases he
 ·rename_i l off len _ k n
  have:=Ld hi;subst this
  split at he
  ·rename_i fr tr e tid xs hl
   split at he
   ·rename_i Fk
    obtain ⟨h1,h2,h56⟩:=Fk
    obtain ⟨h5,h6⟩:=Ot.1 h56
    simp only [Option.some.injEq] at he;subst he
    have h3:=hT.elem t tid h1
    have h4:P.elem t=tid:=by simp [Program.elem,h3]
    unfold St.at at hl
    have Gt:=hl
    obtain ⟨h8,h9⟩:=Jv (X:=X) (w:=w) hx hl
    cases hp:π l with
    |none=>rw [hp] at h9;obtain ⟨_,_,h9⟩:=h9;omega
    |some r=>
     rw [hp] at h9
     obtain ⟨ad,rfl,lg,cV⟩:=h9
     have XI:=cV (by omega)
     subst XI
     have Vp:=(hT.ty _ _ h2).size (w:=w)
     refine ⟨.pointer (some ⟨r.g,(r.o+off)*e.size+n.toNat*e.size,none⟩),?_,r,_,e.size,xs.length,Gt,rfl,by omega,hp,?_⟩
     ·rw [run_indexAt_slice (P:=P) w t _ _ _ k n (by rw [h3,h4]),if_pos ⟨h5,by omega⟩,h4,Vp,Result.andThen_ok,Addr.add_lit]
     ·rw [<-Nat.add_assoc r.o off n.toNat,Nat.add_mul (r.o+off)]
   ·cases he
  ·rename_i e tid xs hl
   split at he
   ·rename_i Fk
    obtain ⟨h1,h2,h56⟩:=Fk
    obtain ⟨h5,h6⟩:=Ot.1 h56
    simp only [Option.some.injEq] at he;subst he
    have h3:=hT.elem t tid h1
    have h4:P.elem t=tid:=by simp [Program.elem,h3]
    unfold St.at at hl
    have Gt:=hl
    obtain ⟨h8,h9⟩:=Xy (X:=X) (w:=w) hx hl
    cases hp:π l with
    |none=>rw [hp] at h9;obtain ⟨_,_,h9⟩:=h9;omega
    |some r=>
     rw [hp] at h9
     obtain ⟨ad,rfl,lg,cV⟩:=h9
     have XI:=cV (by omega)
     subst XI
     have Vp:=(hT.ty _ _ h2).size (w:=w)
     refine ⟨.pointer (some ⟨r.g,(r.o+off)*e.size+n.toNat*e.size,none⟩),?_,r,_,e.size,xs.length,Gt,rfl,by omega,hp,?_⟩
     ·rw [run_indexAt_slice (P:=P) w t _ _ _ k n (by rw [h3,h4]),if_pos ⟨h5,by omega⟩,h4,Vp,Result.andThen_ok,Addr.add_lit]
     ·rw [<-Nat.add_assoc r.o off n.toNat,Nat.add_mul (r.o+off)]
   ·cases he
  ·rename_i e te rows out kp hl
   split at he
   ·rename_i Fk
    obtain ⟨h1,h2,h56⟩:=Fk
    obtain ⟨h5,h6⟩:=Ot.1 h56
    simp only [Option.some.injEq] at he;subst he
    have h3:=hT.elem t te h1
    have h4:P.elem t=te:=by simp [Program.elem,h3]
    unfold St.at at hl
    have Gt:=hl
    obtain ⟨h8,h9⟩:=kE (X:=X) (w:=w) hx hl
    cases hp:π l with
    |none=>rw [hp] at h9;obtain ⟨_,_,h9⟩:=h9;omega
    |some r=>
     rw [hp] at h9
     obtain ⟨ad,rfl,lg,cV⟩:=h9
     have XI:=cV (by omega)
     subst XI
     cases gO:T.ty te with
     |none=>rw [gO] at h2;cases h2
     |some τ=>
      rw [gO] at h2
      have h2:τ.size=1:=Option.some.inj h2
      have Vp:=(hT.ty _ _ gO).size (w:=w)
      refine ⟨.pointer (some ⟨r.g,(r.o+off)*1+n.toNat*τ.size,none⟩),?_,r,_,1,rows.length,Gt,rfl,by omega,hp,?_⟩
      ·rw [run_indexAt_slice (P:=P) w t _ _ _ k n (by rw [h3,h4]),if_pos ⟨h5,by omega⟩,h4,Vp,Result.andThen_ok,Addr.add_lit]
      ·rw [h2,<-Nat.add_assoc r.o off n.toNat,Nat.add_mul (r.o+off)]
   ·cases he
  ·cases he
 ·rename_i l i c _ k n
  have:=Ld hi;subst this
  split at he
  ·rename_i e te rows kp hl
   split at he
   ·rename_i Fk
    obtain ⟨h2,h56⟩:=Fk
    obtain ⟨h5,h6⟩:=Ot.1 h56
    simp only [Option.some.injEq] at he;subst he
    cases gO:T.elem t with
    |none=>rw [gO] at h2;cases h2
    |some Mf=>
     rw [gO] at h2
     cases Ss:T.ty Mf with
     |none=>rw [Option.bind_some,Ss] at h2;cases h2
     |some τ=>
      rw [Option.bind_some,Ss] at h2
      have h2:τ.size=e.size:=Option.some.inj h2
      have h3:=hT.elem t Mf gO
      have h4:P.elem t=Mf:=by simp [Program.elem,h3]
      unfold St.at at hl
      obtain ⟨r,b,sz,m,g1,g0,g2,g3,⟨g4,_⟩,g5⟩:=hx
      rw [hl] at g1;cases g1
      simp only [OB.cE,Option.some.injEq,Prod.mk.injEq] at g0
      obtain ⟨rfl,rfl⟩:=g0
      have gI:c=0:=by omega
      subst gI
      rw [Nat.mul_one,Nat.add_zero] at g5
      obtain ⟨u,R,k1,k2,k3⟩:=jS h.1 hl g2 g3 (by simp)
      rw [g5] at k1
      have hu:=Option.some.inj k1
      subst hu
      cases R with
      |none=>obtain ⟨_,_,hh⟩:=k2;omega
      |some q=>
       obtain ⟨ad,rfl,f1,f2⟩:=k2
       have RE:=f2 (by omega)
       subst RE
       have Vp:=(hT.ty _ _ Ss).size (w:=w)
       refine ⟨.pointer (some ⟨q.g,(q.o+0)*e.size+n.toNat*τ.size,none⟩),?_,r,_,rows.length,e.size,q.g,(q.o+0)*e.size,_,_,hl,rfl,g2,g3,by omega,g5,by rw [h2]⟩
       rw [run_indexAt_slice (P:=P) w t _ _ _ k n (by rw [h3,h4]),if_pos ⟨h5,by omega⟩,h4,Vp,Result.andThen_ok,Addr.add_lit]
   ·cases he
  ·cases he
 ·cases he
end
end Go.Proofs.YtfolipnappekaaaGreat
