/-
  Part 7 of the proof that the statement FnExactMethodLength holds.
-/
import Derived.Test.YtjbdmibbbpdnnaaCMethodLength05
namespace Go.Proofs.Ytjbdmibbbpdnnaa
open Go.RowKit
section
variable {P:Program} {T:Tab} {X:Ctx} {w w':World} {π:Pi} {H:List (Nat×OB)}
def AO (P:Program) (X:Ctx) (π:Pi) (H:List (Nat×OB)) (w:World) (av:AV):Result Next->Prop
 | .ok (.value v) w'=>w'=w/\Ao X w π H av v
 | .ok (.enter f args) w'=>w'=w/\Calls P f args w (λe oP=> ∃v,e= .returned v/\Below w.heap.size w oP/\Ao X oP π H av v)
 |_=>False
def fk (s:Spec) (w:World) (S:Nat->Prop) (v:Value) (y:s.res.den):Prop:=
 if s.Gg then ∃us:List Value,v= .tuple us.toArray/\Az w S s.res us y else Bd w S s.res v y
structure Sound (P:Program) (f:FuncId) (s:Spec):Prop where
 enter: ∀args w,(callFunc f args).run P w= .ok (.enter f args) w
 calls: ∀(w:World) (S:Nat->Prop) (vs:List Value) (x:s.arg.den) (y:s.res.den),(∀k,S k->k<w.heap.size)->Az w S s.arg vs x->s.fn x=some y->
  Calls P f vs.toArray w λe w'=> ∃v,e= .returned v/\Below w.heap.size w w'/\fk s w' (λb=>S b\/(s.fresh=true/\b<w.heap.size)) v y
def aY (w:World) (D:Nat->Prop) (r:Option Real):(c:CK)->c.den->Prop
 | .Gt _,_=>r=none
 | .row e _,xs=>Lh w D r e xs
 | .Dx e te,xs=>Ix w r e te xs
 | .part e _,x=>e.flat=true/\Lh w D r e x.1
 | .Ak e _ _,rows=>Sx w D r e rows none
def Zl (w:World) (D:Nat->Prop) (r:Option Real) (v:Value):(c:CK)->c.den->Prop
 | .Gt τ,x=>r=none/\Bd w D τ v x
 | .row e te,xs=>Dq r e.size 0 (List.length xs) v/\aY w D r (.row e te) xs
 | .Dx e te,xs=>Dq r e.size 0 (List.length xs) v/\aY w D r (.Dx e te) xs
 | .part e te,x=>(Dq r e.size x.2.1 x.2.2 v/\x.2.1+x.2.2<=List.length x.1)/\aY w D r (.part e te) x
 | .Ak e te kp,rows=>Dq r 1 0 (List.length rows) v/\aY w D r (.Ak e te kp) rows
def Zn (w:World) (D:Nat->Prop) (π:Pi):(k:Nat)->(cs:List (Bool×CK))->Ins.den cs->List Value->Prop
 |_,[],_,[]=>True
 |k,p::r,x,u::us=>Zl w D (π (Bq p.1 k)) u p.2 x.1/\Zn w D π (k+1) r x.2 us
 |_,_,_,_=>False
def Ha (w:World) (D:Nat->Prop) (π:Pi):(k:Nat)->(cs:List (Bool×CK))->IOs.den cs->Prop
 |_,[],_=>True
 |k,(true, .Gt _)::r,x=>Ha w D π (k+1) r x
 |k,(true, .Ak _ _ _)::r,x=>Ha w D π (k+1) r x
 |k,(true, .row e te)::r,x=>aY w D (π (Bq true k)) (.row e te) x.1/\Ha w D π (k+1) r x.2
 |k,(true, .Dx e te)::r,x=>aY w D (π (Bq true k)) (.Dx e te) x.1/\Ha w D π (k+1) r x.2
 |k,(true, .part e te)::r,x=>aY w D (π (Bq true k)) (.row e te) x.1/\Ha w D π (k+1) r x.2
 |k,(false,_)::r,x=>Ha w D π (k+1) r x
def Ep (w:World) (D:Nat->Prop) (ρ:Pi):(k:Nat)->(cs:List CK)->CKs.den cs->List Value->Prop
 |_,[],_,[]=>True
 |k,c::r,x,u::us=>Zl w D (ρ (Ei k)) u c x.1/\Ep w D ρ (k+1) r x.2 us
 |_,_,_,_=>False
structure Xd (π:Pi) (A:Nat->Prop):Prop where
 Rx: ∀l r b,π l=some r->r.Ax b->A b
 inj: ∀l l' r r' b,π l=some r->π l'=some r'->r.Ax b->r'.Ax b->l=l'
def Wt:List (Option Nat)->List Value->Prop
 | [],[]=>True
 |none::s,_::us=>Wt s us
 |some n::s,us=>n<=us.length/\(∀u∈us.take n,u.oneCell'=true)/\Wt s (us.drop n)
 |_,_=>False
def MG (Gg:Bool) (sh:List (Option Nat)) (us:List Value) (v:Value):Prop:=if Gg then v= .tuple (Gm sh us).toArray else Gm sh us= [v]\/Gm sh us= []
def Xb (S:Nat->Prop) (π ρ:Pi) (b:Nat):Prop:=S b\/(∃l q,Ai<=l/\π l=some q/\q.Ax b)\/Nn ρ b
def j8 (s:MSpec) (w:World) (g:Nat) (us vs:List Value):Prop:=
 match s.ptr with
 |none=>vs=Gm s.Hf us/\Wt s.Hf us
 |some p=>vs= .pointer (some ⟨g,0,none⟩)::Gm s.Hf (us.drop p.2)/\Wt s.Hf (us.drop p.2)/\p.2<=us.length/\w.heap[g]?=some (.cells (us.take p.2).toArray p.1 (0,0))/\ ∀u∈us.take p.2,u.oneCell'=true
def MSpec.gv (s:MSpec) (g b:Nat):Prop:=s.ptr.isSome=true/\b=g
def Ce (π:Pi):(k:Nat)->(cs:List (Bool×CK))->IOs.den cs->(n:Nat)->List Value->List Value->Prop
 |_,_,_,0,us,_=>us= []
 |k,(true, .row e _)::r,o,n+1,u::us,as=>Dq (π (Bq true k)) e.size 0 (List.length o.1) u/\Ce π (k+1) r o.2 n us as
 |k,(true, .Dx e _)::r,o,n+1,u::us,as=>Dq (π (Bq true k)) e.size 0 (List.length o.1) u/\Ce π (k+1) r o.2 n us as
 |k,(false,_)::r,o,n+1,u::us,a::as=>u=a/\Ce π (k+1) r o n us as
 |_,_,_,_,_,_=>False
def Zk (s:MSpec) (π:Pi) (w':World) (g:Nat) (Oq:List Value) (o:IOs.den s.ins):Prop:=
 match s.ptr with
 |none=>True
 |some p=> ∃cs,w'.heap[g]?=some (.cells cs.toArray p.1 (0,0))/\(∀u∈cs,u.oneCell'=true)/\Ce π 0 s.ins o p.2 cs Oq
def m9 (w w':World) (r r':Option Real) (n:Nat):Prop:=match r,r' with
 |none,none=>True
 |some q,some q'=>q'.g=q.g/\q'.o=q.o/\q'.cap=q.cap/\ ∀j,j<n->j<q.cap->w'.cell? ⟨q.g,q.o+j,none⟩=w.cell? ⟨q.g,q.o+j,none⟩
 |_,_=>False
def gC (s:MSpec) (w':World) (ρ:Pi) (us:List Value) (v:Value):Prop:=match s.rp with
 |none=>MG s.Gg s.Gj us v/\Wt s.Gj us
 |some tid=> ∃q,ρ (Ei s.outs.length)=some q/\q.Ax q.g/\w'.heap[q.g]?=some (.cells us.toArray tid (0,0))/\(∀u∈us,u.oneCell'=true)/\v= .pointer (some ⟨q.g,0,none⟩)
def MSpec.Mp (s:MSpec):Nat:=s.outs.length+(match s.rp with|none=>0|some _=>1)
structure Dp (P:Program) (f:FuncId) (s:MSpec):Prop where
 enter: ∀args w,(callFunc f args).run P w= .ok (.enter f args) w
 calls: ∀(w:World) (S:Nat->Prop) (π:Pi) (us:List Value) (x:Ins.den s.ins) (r:CKs.den s.outs) (o:IOs.den s.ins) (g:Nat) (vs:List Value),
  j8 s w g us vs->(s.ptr.isSome=true->S g)->Zn w (λb=>Nn π b\/S b) π 0 s.ins x us->Xd π (λb=>b<w.heap.size)->(∀b,S b->b<w.heap.size/\ ¬Nn π b)->(∀l,Ae (Sh 0 s.ins x) l=none->π l=none)->s.fn x=some (r,o)->
  Calls P f vs.toArray w λe w'=> ∃v Oq ρ,e= .returned v/\gC s w' ρ (Oq.drop s.Qa) v/\Zk s π w' g Oq o/\Ez w.heap.size (λb=>Nn π b\/s.gv g b) w w'/\Ha w' (Xb S π ρ) π 0 s.ins o/\Ep w' (Xb S π ρ) ρ 0 s.outs r Oq/\
   Xd ρ (λb=>b<w'.heap.size/\(w.heap.size<=b\/ ∃l q,l<Ai/\π l=some q/\q.Ax b))/\(∀l,(∀k,k<s.Mp->l≠Ei k)->ρ l=none)/\(∀kj∈s.keeps,m9 w w' (π (Bq false kj.1)) (ρ (Ei kj.2)) (s.Cr x))
def UL (P:Program) (f:FuncId):gB->Prop
 | .q s=>Sound P f s
 | .m s=>Dp P f s
 | .b s m=>Sound P f s/\Dp P f m
def Hy (P:Program) (Γ:Env):Prop:= ∀f s,Γ f=some s->UL P f s
theorem Hy.reg {P:Program} {Γ:Env} (h:Hy P Γ) (draw:Bool):Hy P (tH Γ draw):= λf s hs=>by
 unfold tH at hs
 split at hs
 ·rename_i s0 m Mi
  have:=h f _ Mi
  cases draw with
  |true=>simp only [if_true,Option.some.injEq] at hs;subst hs;exact this.1
  |false=>simp only [Bool.false_eq_true,if_false,Option.some.injEq] at hs;subst hs;exact this.2
 ·exact h f s hs
theorem Kh {k:IntKind} {n:Int} {fr:Bool} {v:Value} (h:Ao X w π H (.at (.data fr (.int k) n)) v):v= .int k n:=by
 obtain ⟨cs,h1,rfl⟩:=h;simp only [Cells] at h1;subst h1;rfl
theorem Sn {b:Bool} {fr:Bool} {v:Value} (h:Ao X w π H (.at (.data fr .bool b)) v):v= .bool b:=by
 obtain ⟨cs,h1,rfl⟩:=h;simp only [Cells] at h1;subst h1;rfl
theorem aD {s:ByteArray} {fr:Bool} {v:Value} (h:Ao X w π H (.at (.data fr .str s)) v):v= .string s:=by
 obtain ⟨cs,h1,rfl⟩:=h;simp only [Cells] at h1;subst h1;rfl
theorem Jf (k:IntKind) (n:Int) (fr:Bool):Ao X w π H (.at (.data fr (.int k) n)) (.int k n):=⟨[.int k n],rfl,rfl⟩
theorem Hu (b:Bool) (fr:Bool):Ao X w π H (.at (.data fr .bool b)) (.bool b):=⟨[.bool b],rfl,rfl⟩
theorem jH (s:ByteArray) (fr:Bool):Ao X w π H (.at (.data fr .str s)) (.string s):=⟨[.string s],rfl,rfl⟩
theorem WW (f:FuncId):Ao X w π H (.at (.clo f [])) (.func (.func f) #[] #[]):=⟨[],rfl,rfl,λi p hi=>by simp at hi⟩
theorem DF (v:Value):Ao X w π H (gN v) v:=by
 unfold gN
 split
 ·exact Jf _ _ _
 ·exact Hu _ _
 ·exact jH _ _
 ·rfl
 ·rfl
 ·trivial
theorem Bo {st:St} {a:Act} (h:mc X w π st a) (x:Operand):Ao X w π st.heap (st.ev x) (a.eval x):=by
 cases x with
 |tmp t=>exact h.tmps t
 |const v=>exact DF v
 |global g=>trivial
 |func f=>exact WW f
theorem yS (op:BinOp) (k:IntKind) (a b:Int) (t:TypeId) (av:AV) (h:nf op k a b=some av):
  ∃v,(binOp op t (.int k a) (.int k b)).run P w= .ok v w/\Ao X w π H av v:=by
 cases op<;>simp only [nf,Tg,Jx] at h
 case add=>cases h;exact ⟨_,by simp [binOp,Op.intArith],Jf _ _ _⟩
 case sub=>cases h;exact ⟨_,by simp [binOp,Op.intArith],Jf _ _ _⟩
 case mul=>cases h;exact ⟨_,by simp [binOp,Op.intArith],Jf _ _ _⟩
 case quo=>split at h<;>cases h;rename_i hb;exact ⟨_,by simp [binOp,Op.intDiv,hb],Jf _ _ _⟩
 case rem=>split at h<;>cases h;rename_i hb;exact ⟨_,by simp [binOp,Op.intDiv,hb],Jf _ _ _⟩
 case and=>cases h;exact ⟨_,by simp [binOp,Op.intBits],Jf _ _ _⟩
 case or=>cases h;exact ⟨_,by simp [binOp,Op.intBits],Jf _ _ _⟩
 case eql=>cases h;exact ⟨_,by simp [binOp,Op.intCmp],Hu _ _⟩
 case neq=>cases h;exact ⟨_,by simp [binOp,Op.intCmp],Hu _ _⟩
 case lss=>cases h;exact ⟨_,by simp [binOp,Op.intCmp],Hu _ _⟩
 case leq=>cases h;exact ⟨_,by simp [binOp,Op.intCmp],Hu _ _⟩
 case gtr=>cases h;exact ⟨_,by simp [binOp,Op.intCmp],Hu _ _⟩
 case geq=>cases h;exact ⟨_,by simp [binOp,Op.intCmp],Hu _ _⟩
 all_goals cases h
theorem vG (op:BinOp) (x y:AV) (vx vy:Value) (ox oy:Operand) (t:TypeId) (av:AV) (hx:Ao X w π H x vx) (hy:Ao X w π H y vy) (h:evalBin op x y=some av):
  ∃v,(do eqGuard op t ox oy vx vy;binOp op t vx vy:Sem Value).run P w= .ok v w/\Ao X w π H av v:=by
 unfold evalBin at h
 split at h
 ·rename_i k a _ k' b
  have:=Kh hx;subst this
  have:=Kh hy;subst this
  have hg: ∀op,(eqGuard op t ox oy (.int k a) (.int k' b)).run P w= .ok () w:=by intro op;cases op<;>simp [eqGuard]
  split at h
  ·split at h
   ·cases h
   ·rename_i hb
    simp only [Tg,Option.some.injEq] at h;subst h
    exact ⟨_,by rw [Sem.run_bind,hg];simp [binOp,Op.shift,hb],Jf _ _ _⟩
  ·split at h
   ·cases h
   ·rename_i hb
    simp only [Tg,Option.some.injEq] at h;subst h
    exact ⟨_,by rw [Sem.run_bind,hg];simp [binOp,Op.shift,hb],Jf _ _ _⟩
  ·split at h
   ·rename_i hk;subst hk
    obtain ⟨v,h1,h2⟩:=yS (P:=P) (w:=w) (X:=X) (π:=π) (H:=H) op k a b t av h
    exact ⟨v,by rw [Sem.run_bind,hg];exact h1,h2⟩
   ·cases h
 ·rename_i a _ b
  have:=aD hx;subst this
  have:=aD hy;subst this
  have hg: ∀op,(eqGuard op t ox oy (.string a) (.string b)).run P w= .ok () w:=by intro op;cases op<;>simp [eqGuard]
  split at h
  ·simp only [Jx,Option.some.injEq] at h;subst h
   exact ⟨_,by rw [Sem.run_bind,hg];simp [binOp,Op.stringOp],Hu _ _⟩
  ·simp only [Jx,Option.some.injEq] at h;subst h
   exact ⟨_,by rw [Sem.run_bind,hg];simp [binOp,Op.stringOp],Hu _ _⟩
  ·split at h
   ·rename_i hl
    simp only [Option.some.injEq] at h;subst h
    exact ⟨_,by rw [Sem.run_bind,hg];simp only [Result.andThen_ok,binOp];exact run_string_add_sum w a b (by omega),jH _ _⟩
   ·cases h
  ·cases h
 ·cases h
theorem dc {t:TypeId} (h:P.underlying t=some .bool) (a b:Bool) (w:World):(Op.equal t (.bool a) (.bool b)).run P w= .ok (a==b) w:=by
 unfold Op.equal
 rw [show Op.maxDepth=9999+1 from rfl]
 unfold Op.equalIn
 rw [Sem.run_bind,run_underlying h]
 rfl
theorem wL (hT:Cd P T) {x:AV} {vx:Value} {b:Bool} {t:TypeId} (hx:Ao X w π H x vx) (h:Ye x=some b) (ht:(T.elem t).isSome=true):
  (∃a len cap,vx= .slice a len cap/\(match a with|none=>true|some _=>false)=b)/\(Op.equal t vx (.slice none 0 0)).run P w= .ok b w:=by
 have h1: ∃a len cap,vx= .slice a len cap/\(match a with|none=>true|some _=>false)=b:=by
  unfold Ye at h
  split at h
  ·simp only [Option.some.injEq] at h;subst h
   have hx:vx= .slice none 0 0:=hx
   exact ⟨none,0,0,hx,rfl⟩
  ·simp only [Option.some.injEq] at h;subst h
   obtain ⟨cs,hc,rfl⟩:=hx
   simp only [Cells] at hc
   rcases hc with ⟨rfl,c,rfl⟩|⟨xs,ad,len,cap,rfl,rfl,_⟩
   ·exact ⟨none,0,c,by simp [As,Ty.Ac],rfl⟩
   ·exact ⟨some ad,len,cap,by simp [As,Ty.Ac],rfl⟩
  ·cases h
 refine ⟨h1,?_⟩
 obtain ⟨a,len,cap,rfl,rfl⟩:=h1
 obtain ⟨te,eK⟩:=Option.isSome_iff_exists.1 ht
 have hu:=hT.elem t te eK
 unfold Op.equal
 rw [show Op.maxDepth=9999+1 from rfl]
 unfold Op.equalIn
 rw [Sem.run_bind,run_underlying hu]
 cases a<;>rfl
theorem wK (hT:Cd P T) {x:AV} {vx:Value} {b:Bool} {t:TypeId} (hx:Ao X w π H x vx) (h:Yd x=some b) (ht:KQ (T.ty t)=true):
  (∃a,vx= .pointer a/\(match a with|none=>true|some _=>false)=b)/\(Op.equal t vx (.pointer none)).run P w= .ok b w:=by
 have h1: ∃a,vx= .pointer a/\(match a with|none=>true|some _=>false)=b:=by
  unfold Yd at h
  split at h
  ·simp only [Option.some.injEq] at h;subst h
   have hx:vx= .pointer none:=hx
   exact ⟨none,hx,rfl⟩
  ·simp only [Option.some.injEq] at h;subst h
   obtain ⟨r,tid,vs,_,_,rfl⟩:=hx
   exact ⟨_,rfl,rfl⟩
  ·simp only [Option.some.injEq] at h;subst h
   obtain ⟨cs,hc,rfl⟩:=hx
   simp only [Cells] at hc
   rcases hc with ⟨rfl,rfl⟩|⟨xs,g,o,rfl,rfl,_⟩
   ·exact ⟨none,by simp [As,Ty.Ac],rfl⟩
   ·exact ⟨some ⟨g,o,none⟩,by simp [As,Ty.Ac],rfl⟩
  ·simp only [Option.some.injEq] at h;subst h
   obtain ⟨cs,hc,rfl⟩:=hx
   simp only [Cells] at hc
   obtain ⟨g,o,rfl,_⟩:=hc
   exact ⟨some ⟨g,o,none⟩,by simp [As,Ty.Ac],rfl⟩
  ·cases h
 refine ⟨h1,?_⟩
 obtain ⟨a,rfl,rfl⟩:=h1
 have hu: ∃u,P.underlying t=some (.pointer u):=by
  cases Qo:T.ty t with
  |none=>rw [Qo] at ht;cases ht
  |some τ=>
   have hd:=(hT.ty t τ Qo).desc
   rw [Qo] at ht
   cases τ<;>first|exact hd|cases ht
 obtain ⟨u,hu⟩:=hu
 unfold Op.equal
 rw [show Op.maxDepth=9999+1 from rfl]
 unfold Op.equalIn
 rw [Sem.run_bind,run_underlying hu]
 cases a<;>rfl
theorem sn {T:Tab} (hT:Cd P T) (op:BinOp) (x y:AV) (vx vy:Value) (ox oy:Operand) (t:TypeId) (av:AV) (hx:Ao X w π H x vx) (hy:Ao X w π H y vy) (h:Mz T op t x y=some av):
  ∃v,(do eqGuard op t ox oy vx vy;binOp op t vx vy:Sem Value).run P w= .ok v w/\Ao X w π H av v:=by
 unfold Mz at h
 split at h
 ·split at h
  ·rename_i ht
   cases hn:Ye x with
   |none=>rw [hn] at h;cases h
   |some b=>
    rw [hn] at h
    simp only [Option.bind_some,Jx,Option.some.injEq] at h;subst h
    have hy:vy= .slice none 0 0:=hy
    subst hy
    obtain ⟨⟨a,len,cap,rfl,_⟩,h2⟩:=wL hT hx hn ht
    exact ⟨.bool b,by rw [Sem.run_bind];simp [eqGuard,binOp,h2],Hu _ _⟩
  ·cases h
 ·split at h
  ·rename_i ht
   cases hn:Yd x with
   |none=>rw [hn] at h;cases h
   |some b=>
    rw [hn] at h
    simp only [Option.bind_some,Jx,Option.some.injEq] at h;subst h
    have hy:vy= .pointer none:=hy
    subst hy
    obtain ⟨⟨a,rfl,_⟩,h2⟩:=wK hT hx hn ht
    exact ⟨.bool b,by rw [Sem.run_bind];simp [eqGuard,binOp,h2],Hu _ _⟩
  ·cases h
 ·split at h
  ·rename_i ht
   cases hn:Ye x with
   |none=>rw [hn] at h;cases h
   |some b=>
    rw [hn] at h
    simp only [Option.bind_some,Jx,Option.some.injEq] at h;subst h
    have hy:vy= .slice none 0 0:=hy
    subst hy
    obtain ⟨⟨a,len,cap,rfl,_⟩,h2⟩:=wL hT hx hn ht
    exact ⟨.bool (!b),by rw [Sem.run_bind];simp [eqGuard,binOp,h2],Hu _ _⟩
  ·cases h
 ·split at h
  ·rename_i ht
   cases hn:Yd x with
   |none=>rw [hn] at h;cases h
   |some b=>
    rw [hn] at h
    simp only [Option.bind_some,Jx,Option.some.injEq] at h;subst h
    have hy:vy= .pointer none:=hy
    subst hy
    obtain ⟨⟨a,rfl,_⟩,h2⟩:=wK hT hx hn ht
    exact ⟨.bool (!b),by rw [Sem.run_bind];simp [eqGuard,binOp,h2],Hu _ _⟩
  ·cases h
 ·rename_i a _ b
  have:=Sn hx;subst this
  have:=Sn hy;subst this
  split at h
  ·rename_i ht
   simp only [Jx,Option.some.injEq] at h;subst h
   have hu:P.underlying t=some .bool:=(hT.ty t _ ht).desc
   exact ⟨_,by rw [Sem.run_bind];simp [eqGuard,binOp,dc hu],Hu _ _⟩
  ·cases h
 ·rename_i a _ b
  have:=Sn hx;subst this
  have:=Sn hy;subst this
  split at h
  ·rename_i ht
   simp only [Jx,Option.some.injEq] at h;subst h
   have hu:P.underlying t=some .bool:=(hT.ty t _ ht).desc
   exact ⟨_,by rw [Sem.run_bind];simp [eqGuard,binOp,dc hu],Hu _ _⟩
  ·cases h
 ·exact vG op x y vx vy ox oy t av hx hy h
theorem yy (op:UnOp) (x:AV) (vx:Value) (av:AV) (hx:Ao X w π H x vx) (h:ss op x=some av):
  ∃v,(Op.unary op vx).run P w= .ok v w/\Ao X w π H av v:=by
 unfold ss at h
 split at h
 ·have:=Sn hx;subst this
  simp only [Jx,Option.some.injEq] at h;subst h
  exact ⟨_,by simp [Op.unary],Hu _ _⟩
 ·have:=Kh hx;subst this
  simp only [Tg,Option.some.injEq] at h;subst h
  exact ⟨_,by simp [Op.unary,Op.intArith],Jf _ _ _⟩
 ·cases h
theorem Em {t:TypeId} {τ:Ty} (ht:ja P T t τ) (g o:Nat) (es:List Value) (hl:es.length=τ.size) (hc: ∀j u,es[j]?=some u->w.cell? ⟨g,o+j,none⟩=some u):
  (loadVar t ⟨g,o,none⟩).run P w= .ok (As τ es) w:=by
 unfold loadVar
 rw [Sem.run_bind,ht.agg,Result.andThen_ok]
 cases hs:τ.Ac with
 |true=>
  simp only [if_true,Sem.run_bind,ht.size,Result.andThen_ok]
  rw [<-hl,run_loadCells_list w ⟨g,o,none⟩ es (λj v hv=>by rw [Addr.add_lit];exact hc j v hv)]
  simp [As,hs]
 |false=>
  have h1:τ.size=1:=by cases τ<;>simp_all [Ty.Ac,Ty.size]
  rw [h1] at hl
  obtain ⟨u,rfl⟩:=List.length_eq_one_iff.1 hl
  have:=hc 0 u rfl
  simp only [Nat.add_zero] at this
  simp [this,As,hs]
theorem nR {fr:Bool} {τ:Ty} {x:τ.den} {v:Value} (h:Ao X w π H (.at (.data fr τ x)) v):Ao X w π H (.at (.data (fr||τ.flat) τ x)) v:=by
 cases hf:τ.flat with
 |true=>exact Bd.flat hf h
 |false=>rw [Bool.or_false];exact h
theorem pL {cs ds:List AC} {us vs:List Value} (h1:Cy X w π H cs us) (h2:Cy X w π H ds vs):Cy X w π H (cs++ds) (us++vs):=by
 have e1:=h1.1
 refine ⟨by simp [h1.1,h2.1],λi c hc=>?_⟩
 by_cases hi:i<cs.length
 ·rw [List.getElem?_append_left hi] at hc
  obtain ⟨u,hu,h3⟩:=h1.2 i c hc
  exact ⟨u,by rw [List.getElem?_append_left (by omega)];exact hu,h3⟩
 ·rw [List.getElem?_append_right (by omega)] at hc
  obtain ⟨u,hu,h3⟩:=h2.2 _ c hc
  exact ⟨u,by rw [List.getElem?_append_right (by omega),e1];exact hu,h3⟩
theorem aC {c:AC} {u:Value} (h1:u.oneCell'=true) (h2:Ea X w π H c u):Cy X w π H [c] [u]:=⟨rfl,λi c' hc=>by
 rcases i with _|i
 ·simp at hc;subst hc;exact ⟨u,rfl,h1,h2⟩
 ·simp at hc⟩
theorem zW {l i:Nat} {e:Ty} {tid:TypeId} {xs:List e.den} {r:Real} (hl:Ae H l=some (.Dj e tid xs)) (hp:π l=some r) (hi:i<xs.length): ∀(τ:Ty) (c:Nat) (F:List Nat) (us:List Value) (x:τ.den),
  Bf w F τ us x->c+τ.size<=e.size->(∀j u,us[j]?=some u->w.cell? ⟨r.g,(r.o+i)*e.size+(c+j),none⟩=some u)->Cy X w π H (aQ l i c τ x) us:=by
 intro τ
 induction τ with
 |unit=>intro c F us x h _ _;simp only [Bf] at h;obtain ⟨_,rfl⟩:=h;exact ⟨rfl,λi c hc=>by simp [aQ] at hc⟩
 |pair a r gA dQ=>
  intro c F us x h hle hc
  have mT:=Bf.cells (S:= λ_=>False) F _ us x h (λ_ _ h=>h)
  simp only [Bf] at h
  obtain ⟨c1,c2,F1,F2,rfl,rfl,h1,h2⟩:=h
  have vZ:c1.length=a.size:=Cells.len a c1 x.1 (Bf.cells (S:= λ_=>False) F1 a c1 x.1 h1 (λ_ _ h=>h))
  simp only [Ty.size] at hle
  refine pL (gA c F1 c1 x.1 h1 (by omega) λj u hu=>hc j u (by rw [List.getElem?_append_left (List.getElem?_eq_some_iff.1 hu).1];exact hu)) (dQ (c+a.size) F2 c2 x.2 h2 (by omega) λj u hu=>?_)
  have:=hc (a.size+j) u (by rw [List.getElem?_append_right (by omega),vZ];simpa using hu)
  rw [show c+a.size+j=c+(a.size+j) by omega];exact this
 |int k=>intro c F us x h _ _;simp only [Bf] at h;obtain ⟨_,rfl⟩:=h;exact aC rfl (Jf (H:=H) k x true)
 |bool=>intro c F us x h _ _;simp only [Bf] at h;obtain ⟨_,rfl⟩:=h;exact aC rfl (Hu (H:=H) x true)
 |str=>intro c F us x h _ _;simp only [Bf] at h;obtain ⟨_,rfl⟩:=h;exact aC rfl (jH (H:=H) x true)
 |slice e'=>
  intro c F us x h hle hc
  simp only [Bf] at h
  obtain ⟨a,len,cap,rfl,_⟩:=h
  exact aC rfl ⟨r,_,e.size,xs.length,hl,rfl,hp,hi,⟨by simp only [Ty.size] at hle;omega,_,_,_,rfl⟩,by simpa using hc 0 _ rfl⟩
 |_=>intro c F us x h;simp only [Bf] at h
theorem gT (hT:Cd P T) {st:St} {a:Act} (h:Aj X π st a w) (t:TypeId) (p:AV) (vp:Value) (av:AV) (hp:Ao X w π st.heap p vp) (he:Kk T st t p=some av):
  ∃v,(Instr.loadAt t vp).run P w= .ok v w/\Ao X w π st.heap av v:=by
 unfold Kk at he
 split at he
 ·rename_i τ fr Ji x ht
  split at he
  ·rename_i Nb
   subst Nb
   simp only [Option.some.injEq] at he;subst he
   have Qo:=hT.ty _ _ ht
   obtain ⟨cs,hc,rfl⟩:=hp
   simp only [Cells] at hc
   obtain ⟨g,o,rfl,hg,hn,es,hl,Sd,Va⟩:=hc
   refine ⟨As Ji es,?_,nR (show Ao X w π st.heap (.at (.data fr Ji _)) (As Ji es) from ⟨es,Va,rfl⟩)⟩
   have hr:=Em (P:=P) (w:=w) Qo g o es hl Sd
   show (do loadVar t (<-Instr.sureAddr (.pointer (some ⟨g,o,none⟩))):Sem Value).run P w=_
   simpa [Instr.sureAddr] using hr
  ·cases he
 ·rename_i τ fr Ji x ht
  split at he
  ·rename_i Nb
   subst Nb
   simp only [Option.some.injEq] at he;subst he
   have Qo:=hT.ty _ _ ht
   obtain ⟨cs,hc,rfl⟩:=hp
   simp only [Cells] at hc
   rcases hc with ⟨h0,_⟩|⟨y,g,o,h0,rfl,hg,hn,es,hl,Sd,Va⟩
   ·cases h0
   simp only [Option.some.injEq] at h0;subst h0
   refine ⟨As Ji es,?_,nR (show Ao X w π st.heap (.at (.data fr Ji _)) (As Ji es) from ⟨es,Va,rfl⟩)⟩
   have hr:=Em (P:=P) (w:=w) Qo g o es hl Sd
   show (do loadVar t (<-Instr.sureAddr (.pointer (some ⟨g,o,none⟩))):Sem Value).run P w=_
   simpa [Instr.sureAddr] using hr
  ·cases he
 ·rename_i τ l i ht
  have Qo:=hT.ty _ _ ht
  split at he
  ·rename_i tid vs hl
   obtain ⟨r,Nw,uO,h1,h2,rfl⟩:=hp
   unfold St.at at hl
   rw [hl] at h1;cases h1
   obtain ⟨r',h3,h4,cur,h5,h6⟩:=(h.1.heap l).Mh hl
   rw [h2] at h3;cases h3
   split at he
   ·rename_i hs
    split at he
    ·rename_i hlen
     simp only [Option.some.injEq] at he;subst he
     have Na:cur.toList.length=vs.length:=h6.1
     refine ⟨_,by
      simp only [Instr.loadAt,Instr.sureAddr]
      simpa using Em (P:=P) (w:=w) Qo r.g i ((cur.toList.drop i).take τ.size) (by simp at Na⊢;omega) (λj u hu=>by
       rw [cellOf h5]
       rw [List.getElem?_take] at hu
       split at hu
       ·rw [List.getElem?_drop] at hu;simpa using hu
       ·cases hu),?_⟩
     exact ⟨_,by simp [As,hs],Sm h6 i τ.size⟩
    ·cases he
   ·rename_i hs
    simp only [Bool.not_eq_true] at hs
    have h1:τ.size=1:=by cases τ<;>simp_all [Ty.Ac,Ty.size]
    cases hi:vs[i]? with
    |none=>rw [hi] at he;cases he
    |some c=>
     rw [hi] at he
     simp only [Option.map_some,Option.some.injEq] at he;subst he
     obtain ⟨u,hu,_,hc⟩:=h6.2 i c hi
     refine ⟨u,?_,hc⟩
     simp only [Instr.loadAt,Instr.sureAddr]
     have:=Em (P:=P) (w:=w) Qo r.g i [u] (by simp [h1]) (λj u' bJ=>by
       rcases j with _|j
       ·simp at bJ;subst bJ;rw [Nat.add_zero,cellOf h5];simpa using hu
       ·simp at bJ)
     simpa [As,hs] using this
  ·cases he
 ·rename_i τ l i ht
  have Qo:=hT.ty _ _ ht
  split at he
  ·rename_i fr tr e tid xs hl
   split at he
   ·rename_i heq;subst heq
    obtain ⟨r,b,sz,n,h1,h0,h2,h3,rfl⟩:=hp
    unfold St.at at hl
    rw [hl] at h1;cases h1
    simp only [OB.row,Option.some.injEq,Prod.mk.injEq] at h0
    obtain ⟨rfl,rfl⟩:=h0
    have hb:=(h.1.heap l).Mh hl
    simp only [Au,Fv,h3] at hb
    obtain ⟨h4,cur,_,h5,h6,h7,h8,h9,_⟩:=hb
    have hx:xs[i]?=some xs[i]:=List.getElem?_eq_getElem h2
    rw [hx] at he
    simp only [Option.map_some,Option.some.injEq] at he;subst he
    obtain ⟨es,bM,hj,mT⟩:=h9 i _ hx
    refine ⟨As e es,?_,nR (show Ao X w π st.heap (.at (.data fr e _)) (As e es) from ⟨es,mT,rfl⟩)⟩
    simp only [Instr.loadAt,Instr.sureAddr]
    simpa using Em (P:=P) (w:=w) Qo r.g ((r.o+i)*e.size) es bM (λj u hu=>by rw [cellOf h5];exact hj j u hu)
   ·cases he
  ·rename_i e tid xs hl
   split at he
   ·rename_i heq;subst heq
    obtain ⟨r,b,sz,n,h1,h0,h2,h3,rfl⟩:=hp
    unfold St.at at hl
    rw [hl] at h1;cases h1
    simp only [OB.row,Option.some.injEq,Prod.mk.injEq] at h0
    obtain ⟨rfl,rfl⟩:=h0
    have hb:=(h.1.heap l).Mh hl
    simp only [Au,Ix,h3] at hb
    obtain ⟨h4,cur,_,h5,h6,h7,h8,Fs,k1,k2,k3,k4⟩:=hb
    have hx:xs[i]?=some xs[i]:=List.getElem?_eq_getElem h2
    rw [hx] at he
    simp only [Option.map_some,Option.some.injEq] at he;subst he
    obtain ⟨es,bM,hj,mT⟩:=k4 i _ _ hx (List.getElem?_eq_getElem (by omega))
    have QG:=zW (X:=X) (H:=st.heap) hl h3 h2 e 0 _ es _ mT (by omega) (λj u hu=>by rw [cellOf h5,Nat.zero_add];exact hj j u hu)
    refine ⟨As e es,?_,?_⟩
    ·simp only [Instr.loadAt,Instr.sureAddr]
     simpa using Em (P:=P) (w:=w) Qo r.g ((r.o+i)*e.size) es bM (λj u hu=>by rw [cellOf h5];exact hj j u hu)
    ·cases Pc:e.Ac with
     |true=>rw [if_pos rfl];exact ⟨es,by simp [As,Pc],QG⟩
     |false=>
      rw [if_neg (by simp)]
      have h1:e.size=1:=by cases e<;>simp_all [Ty.Ac,Ty.size]
      rw [h1] at bM
      obtain ⟨u,rfl⟩:=List.length_eq_one_iff.1 bM
      have vZ:=QG.1
      generalize aQ l i 0 e xs[i]=sc at*
      simp only [List.length_cons,List.length_nil] at vZ
      obtain ⟨c,rfl⟩:=List.length_eq_one_iff.1 vZ.symm
      obtain ⟨u',bJ,_,vU⟩:=QG.2 0 c rfl
      simp at bJ;subst bJ
      have e1:As e [u]=u:=by simp [As,Pc]
      rw [e1]
      exact vU
   ·cases he
  ·rename_i e te rows kp hl
   split at he
   ·cases he
   ·rename_i Pc
    simp only [Bool.not_eq_true] at Pc
    simp only [Option.some.injEq] at he;subst he
    obtain ⟨r,b,sz,n,h1,h0,h2,h3,rfl⟩:=hp
    unfold St.at at hl
    rw [hl] at h1;cases h1
    simp only [OB.row,Option.some.injEq,Prod.mk.injEq] at h0
    obtain ⟨rfl,rfl⟩:=h0
    obtain ⟨u,R,k1,k2,k3⟩:=hY h.1 hl h3 h2 (by simp)
    have Wi:τ.size=1:=by cases τ<;>simp_all [Ty.Ac,Ty.size]
    refine ⟨u,?_,r,_,1,rows.length,hl,rfl,h3,h2,⟨by omega,Tq k2⟩,by rw [Nat.mul_one,Nat.add_zero];exact k1⟩
    simp only [Instr.loadAt,Instr.sureAddr]
    have:=Em (P:=P) (w:=w) Qo r.g ((r.o+i)*1) [u] (by simp [Wi]) (λj u' bJ=>by
     rcases j with _|j
     ·simp at bJ;subst bJ;rw [Nat.mul_one,Nat.add_zero];exact k1
     ·simp at bJ)
    simpa [As,Pc] using this
  ·cases he
 ·rename_i τ l i j ht
  have Qo:=hT.ty _ _ ht
  split at he
  ·rename_i e te rows kp hl
   split at he
   ·rename_i heq;subst heq
    simp only [Option.some.injEq] at he;subst he
    obtain ⟨r,b,n,sz,g,o,len,cap,h1,h0,h2,h3,h4,h5,rfl⟩:=hp
    unfold St.at at hl
    rw [hl] at h1;cases h1
    simp only [OB.p9,Option.some.injEq,Prod.mk.injEq] at h0
    obtain ⟨rfl,rfl⟩:=h0
    obtain ⟨u,R,k1,k2,k3⟩:=hY h.1 hl h2 h3 (by simp)
    rw [h5] at k1
    have hu:=Option.some.inj k1
    subst hu
    cases R with
    |none=>obtain ⟨hh,_⟩:=k2;cases hh
    |some q=>
     obtain ⟨ad,hh,g1,g2⟩:=k2
     simp only [Value.slice.injEq,Option.some.injEq] at hh
     obtain ⟨rfl,rfl,rfl⟩:=hh
     have BO:=g2 (by omega)
     simp only [Addr.mk.injEq,and_true] at BO
     obtain ⟨rfl,rfl⟩:=BO
     obtain ⟨f1,cur,ti,f2,f3,f4,f5,f6⟩:=k3
     have hj:(rows.getD i [])[j]?=some ((rows.getD i []).getD j e.zero):=by rw [List.getD_eq_getElem?_getD (l:=rows.getD i []),List.getElem?_eq_getElem h4];rfl
     obtain ⟨es,bM,c1,c2⟩:=f6 j _ hj
     refine ⟨As e es,?_,nR (fr:=false) (show Ao X w π st.heap (.at (.data false e _)) (As e es) from ⟨es,c2,rfl⟩)⟩
     simp only [Instr.loadAt,Instr.sureAddr]
     simpa using Em (P:=P) (w:=w) Qo q.g ((q.o+0)*e.size+j*e.size) es bM (λm u hu=>by rw [cellOf f2,Nat.add_zero,<-Nat.add_mul];exact c1 m u hu)
   ·cases he
  ·cases he
 ·cases he
theorem KJ {α:Type} {xs:List α} {n:Int} {x:α} (h:idx xs n=some x):0<=n/\n<xs.length/\xs[n.toNat]?=some x:=by
 unfold idx at h
 split at h
 ·rename_i h0
  have:=(List.getElem?_eq_some_iff.1 h).1
  exact ⟨h0,by omega,h⟩
 ·cases h
theorem lL (hT:Cd P T) {t:TypeId} {e:Ty} (h:(T.elem t).bind T.ty=some e): ∃te,T.elem t=some te/\T.ty te=some e/\P.underlying t=some (.slice te)/\P.elem t=te:=by
 cases ht:T.elem t with
 |none=>rw [ht] at h;cases h
 |some te=>
  rw [ht] at h
  have hu:=hT.elem t te ht
  exact ⟨te,rfl,h,hu,by simp [Program.elem,hu]⟩
theorem gS (hT:Cd P T) {st:St} {a:Act} (h:Aj X π st a w) (t:TypeId) (x i:AV) (vx vi:Value) (av:AV) (hx:Ao X w π st.heap x vx) (hi:Ao X w π st.heap i vi)
  (he:Gh T st t x i=some av): ∃v,(Instr.indexAt t vx vi).run P w= .ok v w/\Ao X w π st.heap av v:=by
 unfold Gh at he
 split at he
 ·rename_i fr e xs _ k n
  have:=Kh hi;subst this
  split at he
  ·rename_i ia
   obtain ⟨te,h1,h2,h3,h4⟩:=lL hT ia
   cases PX:idx xs n with
   |none=>rw [PX] at he;cases he
   |some y=>
    rw [PX] at he
    simp only [Option.map_some,Option.some.injEq] at he;subst he
    obtain ⟨h5,h6,h7⟩:=KJ PX
    obtain ⟨cs,hc,rfl⟩:=hx
    simp only [Cells] at hc
    obtain ⟨ad,len,cap,rfl,hlen,mS,yK⟩:=hc
    rcases yK with rfl|⟨g,o,rfl,hg,hn,Ia⟩
    ·simp at h6;omega
    ·obtain ⟨es,bM,Sd,Va⟩:=Ia _ _ h7
     have Wi:=(hT.ty _ _ h2).size (w:=w)
     refine ⟨.pointer (some ⟨g,o+n.toNat*e.size,none⟩),?_,[_],⟨g,_,rfl,hg,hn,es,bM,Sd,Va⟩,by simp [As,Ty.Ac]⟩
     simp only [As,Ty.Ac,Bool.false_eq_true,if_false,List.headD_cons]
     rw [run_indexAt_slice (P:=P) w t _ _ _ k n (by rw [h3,h4]),if_pos ⟨h5,by omega⟩,h4,Wi,Result.andThen_ok,Addr.add_lit]
  ·cases he
 ·rename_i l off len _ k n
  have:=Kh hi;subst this
  split at he
  ·rename_i fr tr e tid xs hl
   split at he
   ·rename_i Fq
    obtain ⟨h1,h2,UW⟩:=Fq
    obtain ⟨h5,h6⟩:=Ng.1 UW
    simp only [Option.some.injEq] at he;subst he
    have h3:=hT.elem t tid h1
    have h4:P.elem t=tid:=by simp [Program.elem,h3]
    unfold St.at at hl
    have Gk:=hl
    obtain ⟨h8,h9⟩:=Jm (X:=X) (w:=w) hx hl
    cases hp:π l with
    |none=>rw [hp] at h9;obtain ⟨_,_,h9⟩:=h9;omega
    |some r=>
     rw [hp] at h9
     obtain ⟨ad,rfl,kI,eD⟩:=h9
     have PH:=eD (by omega)
     subst PH
     have Wi:=(hT.ty _ _ h2).size (w:=w)
     refine ⟨.pointer (some ⟨r.g,(r.o+off)*e.size+n.toNat*e.size,none⟩),?_,r,_,e.size,xs.length,Gk,rfl,by omega,hp,?_⟩
     ·rw [run_indexAt_slice (P:=P) w t _ _ _ k n (by rw [h3,h4]),if_pos ⟨h5,by omega⟩,h4,Wi,Result.andThen_ok,Addr.add_lit]
     ·rw [<-Nat.add_assoc r.o off n.toNat,Nat.add_mul (r.o+off)]
   ·cases he
  ·rename_i e tid xs hl
   split at he
   ·rename_i Fq
    obtain ⟨h1,h2,UW⟩:=Fq
    obtain ⟨h5,h6⟩:=Ng.1 UW
    simp only [Option.some.injEq] at he;subst he
    have h3:=hT.elem t tid h1
    have h4:P.elem t=tid:=by simp [Program.elem,h3]
    unfold St.at at hl
    have Gk:=hl
    obtain ⟨h8,h9⟩:=Vm (X:=X) (w:=w) hx hl
    cases hp:π l with
    |none=>rw [hp] at h9;obtain ⟨_,_,h9⟩:=h9;omega
    |some r=>
     rw [hp] at h9
     obtain ⟨ad,rfl,kI,eD⟩:=h9
     have PH:=eD (by omega)
     subst PH
     have Wi:=(hT.ty _ _ h2).size (w:=w)
     refine ⟨.pointer (some ⟨r.g,(r.o+off)*e.size+n.toNat*e.size,none⟩),?_,r,_,e.size,xs.length,Gk,rfl,by omega,hp,?_⟩
     ·rw [run_indexAt_slice (P:=P) w t _ _ _ k n (by rw [h3,h4]),if_pos ⟨h5,by omega⟩,h4,Wi,Result.andThen_ok,Addr.add_lit]
     ·rw [<-Nat.add_assoc r.o off n.toNat,Nat.add_mul (r.o+off)]
   ·cases he
  ·rename_i e te rows out kp hl
   split at he
   ·rename_i Fq
    obtain ⟨h1,h2,UW⟩:=Fq
    obtain ⟨h5,h6⟩:=Ng.1 UW
    simp only [Option.some.injEq] at he;subst he
    have h3:=hT.elem t te h1
    have h4:P.elem t=te:=by simp [Program.elem,h3]
    unfold St.at at hl
    have Gk:=hl
    obtain ⟨h8,h9⟩:=iK (X:=X) (w:=w) hx hl
    cases hp:π l with
    |none=>rw [hp] at h9;obtain ⟨_,_,h9⟩:=h9;omega
    |some r=>
     rw [hp] at h9
     obtain ⟨ad,rfl,kI,eD⟩:=h9
     have PH:=eD (by omega)
     subst PH
     cases eK:T.ty te with
     |none=>rw [eK] at h2;cases h2
     |some τ=>
      rw [eK] at h2
      have h2:τ.size=1:=Option.some.inj h2
      have Wi:=(hT.ty _ _ eK).size (w:=w)
      refine ⟨.pointer (some ⟨r.g,(r.o+off)*1+n.toNat*τ.size,none⟩),?_,r,_,1,rows.length,Gk,rfl,by omega,hp,?_⟩
      ·rw [run_indexAt_slice (P:=P) w t _ _ _ k n (by rw [h3,h4]),if_pos ⟨h5,by omega⟩,h4,Wi,Result.andThen_ok,Addr.add_lit]
      ·rw [h2,<-Nat.add_assoc r.o off n.toNat,Nat.add_mul (r.o+off)]
   ·cases he
  ·cases he
 ·rename_i l i c _ k n
  have:=Kh hi;subst this
  split at he
  ·rename_i e te rows kp hl
   split at he
   ·rename_i Fq
    obtain ⟨h2,UW⟩:=Fq
    obtain ⟨h5,h6⟩:=Ng.1 UW
    simp only [Option.some.injEq] at he;subst he
    cases eK:T.elem t with
    |none=>rw [eK] at h2;cases h2
    |some Lf=>
     rw [eK] at h2
     cases Qo:T.ty Lf with
     |none=>rw [Option.bind_some,Qo] at h2;cases h2
     |some τ=>
      rw [Option.bind_some,Qo] at h2
      have h2:τ.size=e.size:=Option.some.inj h2
      have h3:=hT.elem t Lf eK
      have h4:P.elem t=Lf:=by simp [Program.elem,h3]
      unfold St.at at hl
      obtain ⟨r,b,sz,m,g1,g0,g2,g3,⟨g4,_⟩,g5⟩:=hx
      rw [hl] at g1;cases g1
      simp only [OB.bh,Option.some.injEq,Prod.mk.injEq] at g0
      obtain ⟨rfl,rfl⟩:=g0
      have fK:c=0:=by omega
      subst fK
      rw [Nat.mul_one,Nat.add_zero] at g5
      obtain ⟨u,R,k1,k2,k3⟩:=hY h.1 hl g2 g3 (by simp)
      rw [g5] at k1
      have hu:=Option.some.inj k1
      subst hu
      cases R with
      |none=>obtain ⟨_,_,hh⟩:=k2;omega
      |some q=>
       obtain ⟨ad,rfl,f1,f2⟩:=k2
       have BO:=f2 (by omega)
       subst BO
       have Wi:=(hT.ty _ _ Qo).size (w:=w)
       refine ⟨.pointer (some ⟨q.g,(q.o+0)*e.size+n.toNat*τ.size,none⟩),?_,r,_,rows.length,e.size,q.g,(q.o+0)*e.size,_,_,hl,rfl,g2,g3,by omega,g5,by rw [h2]⟩
       rw [run_indexAt_slice (P:=P) w t _ _ _ k n (by rw [h3,h4]),if_pos ⟨h5,by omega⟩,h4,Wi,Result.andThen_ok,Addr.add_lit]
   ·cases he
  ·cases he
 ·cases he
end
end Go.Proofs.Ytjbdmibbbpdnnaa
