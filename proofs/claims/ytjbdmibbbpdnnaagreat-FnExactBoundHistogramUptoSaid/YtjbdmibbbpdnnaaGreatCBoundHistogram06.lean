/-
  Part 7 of the proof that the statement FnExactBoundHistogram holds.
-/
import Derived.Test.YtjbdmibbbpdnnaaGreatCBoundHistogram05
namespace Go.Proofs.YtjbdmibbbpdnnaaGreat
open Go.RowKit
section
variable {P:Program} {T:Tab} {X:Ctx} {w w':World} {π:Pi} {H:List (Nat×OB)}
def BG (P:Program) (X:Ctx) (π:Pi) (H:List (Nat×OB)) (w:World) (av:AV):Result Next->Prop
 | .ok (.value v) w'=>w'=w/\Ap X w π H av v
 | .ok (.enter f args) w'=>w'=w/\Calls P f args w (λe oR=> ∃v,e= .returned v/\Below w.heap.size w oR/\Ap X oR π H av v)
 |_=>False
def ff (s:Spec) (w:World) (S:Nat->Prop) (v:Value) (y:s.res.den):Prop:=
 if s.Ej then ∃us:List Value,v= .tuple us.toArray/\Az w S s.res us y else Bd w S s.res v y
structure Sound (P:Program) (f:FuncId) (s:Spec):Prop where
 enter: ∀args w,(callFunc f args).run P w= .ok (.enter f args) w
 calls: ∀(w:World) (S:Nat->Prop) (vs:List Value) (x:s.arg.den) (y:s.res.den),(∀k,S k->k<w.heap.size)->Az w S s.arg vs x->s.fn x=some y->
  Calls P f vs.toArray w λe w'=> ∃v,e= .returned v/\Below w.heap.size w w'/\ff s w' (λb=>S b\/(s.fresh=true/\b<w.heap.size)) v y
def aZ (w:World) (D:Nat->Prop) (r:Option Real):(c:CK)->c.den->Prop
 | .Ee _,_=>r=none
 | .row e _,xs=>Me w D r e xs
 | .Dq e te,xs=>Io w r e te xs
 | .part e _,x=>e.flat=true/\Me w D r e x.1
 | .Al e _ _,rows=>Tc w D r e rows none
def Zq (w:World) (D:Nat->Prop) (r:Option Real) (v:Value):(c:CK)->c.den->Prop
 | .Ee τ,x=>r=none/\Bd w D τ v x
 | .row e te,xs=>Dz r e.size 0 (List.length xs) v/\aZ w D r (.row e te) xs
 | .Dq e te,xs=>Dz r e.size 0 (List.length xs) v/\aZ w D r (.Dq e te) xs
 | .part e te,x=>(Dz r e.size x.2.1 x.2.2 v/\x.2.1+x.2.2<=List.length x.1)/\aZ w D r (.part e te) x
 | .Al e te kp,rows=>Dz r 1 0 (List.length rows) v/\aZ w D r (.Al e te kp) rows
def Zr (w:World) (D:Nat->Prop) (π:Pi):(k:Nat)->(cs:List (Bool×CK))->Ins.den cs->List Value->Prop
 |_,[],_,[]=>True
 |k,p::r,x,u::us=>Zq w D (π (Bl p.1 k)) u p.2 x.1/\Zr w D π (k+1) r x.2 us
 |_,_,_,_=>False
def Ha (w:World) (D:Nat->Prop) (π:Pi):(k:Nat)->(cs:List (Bool×CK))->IOs.den cs->Prop
 |_,[],_=>True
 |k,(true, .Ee _)::r,x=>Ha w D π (k+1) r x
 |k,(true, .Al _ _ _)::r,x=>Ha w D π (k+1) r x
 |k,(true, .row e te)::r,x=>aZ w D (π (Bl true k)) (.row e te) x.1/\Ha w D π (k+1) r x.2
 |k,(true, .Dq e te)::r,x=>aZ w D (π (Bl true k)) (.Dq e te) x.1/\Ha w D π (k+1) r x.2
 |k,(true, .part e te)::r,x=>aZ w D (π (Bl true k)) (.row e te) x.1/\Ha w D π (k+1) r x.2
 |k,(false,_)::r,x=>Ha w D π (k+1) r x
def Ew (w:World) (D:Nat->Prop) (ρ:Pi):(k:Nat)->(cs:List CK)->CKs.den cs->List Value->Prop
 |_,[],_,[]=>True
 |k,c::r,x,u::us=>Zq w D (ρ (Fo k)) u c x.1/\Ew w D ρ (k+1) r x.2 us
 |_,_,_,_=>False
structure Zs (π:Pi) (A:Nat->Prop):Prop where
 Ue: ∀l r b,π l=some r->r.Ay b->A b
 inj: ∀l l' r r' b,π l=some r->π l'=some r'->r.Ay b->r'.Ay b->l=l'
def Ww:List (Option Nat)->List Value->Prop
 | [],[]=>True
 |none::s,_::us=>Ww s us
 |some n::s,us=>n<=us.length/\(∀u∈us.take n,u.oneCell'=true)/\Ww s (us.drop n)
 |_,_=>False
def LM (Ej:Bool) (sh:List (Option Nat)) (us:List Value) (v:Value):Prop:=if Ej then v= .tuple (Gi sh us).toArray else Gi sh us= [v]\/Gi sh us= []
def bD (S:Nat->Prop) (π ρ:Pi) (b:Nat):Prop:=S b\/(∃l q,Ai<=l/\π l=some q/\q.Ay b)\/Na ρ b
def iY (s:MSpec) (w:World) (g:Nat) (us vs:List Value):Prop:=
 match s.ptr with
 |none=>vs=Gi s.Hb us/\Ww s.Hb us
 |some p=>vs= .pointer (some ⟨g,0,none⟩)::Gi s.Hb (us.drop p.2)/\Ww s.Hb (us.drop p.2)/\p.2<=us.length/\w.heap[g]?=some (.cells (us.take p.2).toArray p.1 (0,0))/\ ∀u∈us.take p.2,u.oneCell'=true
def MSpec.gv (s:MSpec) (g b:Nat):Prop:=s.ptr.isSome=true/\b=g
def Cc (π:Pi):(k:Nat)->(cs:List (Bool×CK))->IOs.den cs->(n:Nat)->List Value->List Value->Prop
 |_,_,_,0,us,_=>us= []
 |k,(true, .row e _)::r,o,n+1,u::us,as=>Dz (π (Bl true k)) e.size 0 (List.length o.1) u/\Cc π (k+1) r o.2 n us as
 |k,(true, .Dq e _)::r,o,n+1,u::us,as=>Dz (π (Bl true k)) e.size 0 (List.length o.1) u/\Cc π (k+1) r o.2 n us as
 |k,(false,_)::r,o,n+1,u::us,a::as=>u=a/\Cc π (k+1) r o n us as
 |_,_,_,_,_,_=>False
def bL (s:MSpec) (π:Pi) (w':World) (g:Nat) (Nh:List Value) (o:IOs.den s.ins):Prop:=
 match s.ptr with
 |none=>True
 |some p=> ∃cs,w'.heap[g]?=some (.cells cs.toArray p.1 (0,0))/\(∀u∈cs,u.oneCell'=true)/\Cc π 0 s.ins o p.2 cs Nh
def qn (w w':World) (r r':Option Real) (n:Nat):Prop:=match r,r' with
 |none,none=>True
 |some q,some q'=>q'.g=q.g/\q'.o=q.o/\q'.cap=q.cap/\ ∀j,j<n->j<q.cap->w'.cell? ⟨q.g,q.o+j,none⟩=w.cell? ⟨q.g,q.o+j,none⟩
 |_,_=>False
def jX (s:MSpec) (w':World) (ρ:Pi) (us:List Value) (v:Value):Prop:=match s.rp with
 |none=>LM s.Ej s.Gf us v/\Ww s.Gf us
 |some tid=> ∃q,ρ (Fo s.outs.length)=some q/\q.Ay q.g/\w'.heap[q.g]?=some (.cells us.toArray tid (0,0))/\(∀u∈us,u.oneCell'=true)/\v= .pointer (some ⟨q.g,0,none⟩)
def MSpec.Mx (s:MSpec):Nat:=s.outs.length+(match s.rp with|none=>0|some _=>1)
structure Bh (P:Program) (f:FuncId) (s:MSpec):Prop where
 enter: ∀args w,(callFunc f args).run P w= .ok (.enter f args) w
 calls: ∀(w:World) (S:Nat->Prop) (π:Pi) (us:List Value) (x:Ins.den s.ins) (r:CKs.den s.outs) (o:IOs.den s.ins) (g:Nat) (vs:List Value),
  iY s w g us vs->(s.ptr.isSome=true->S g)->Zr w (λb=>Na π b\/S b) π 0 s.ins x us->Zs π (λb=>b<w.heap.size)->(∀b,S b->b<w.heap.size/\ ¬Na π b)->(∀l,Ad (Sd 0 s.ins x) l=none->π l=none)->s.fn x=some (r,o)->
  Calls P f vs.toArray w λe w'=> ∃v Nh ρ,e= .returned v/\jX s w' ρ (Nh.drop s.Si) v/\bL s π w' g Nh o/\Df w.heap.size (λb=>Na π b\/s.gv g b) w w'/\Ha w' (bD S π ρ) π 0 s.ins o/\Ew w' (bD S π ρ) ρ 0 s.outs r Nh/\
   Zs ρ (λb=>b<w'.heap.size/\(w.heap.size<=b\/ ∃l q,l<Ai/\π l=some q/\q.Ay b))/\(∀l,(∀k,k<s.Mx->l≠Fo k)->ρ l=none)/\(∀kj∈s.keeps,qn w w' (π (Bl false kj.1)) (ρ (Fo kj.2)) (s.Cr x))
def SZ (P:Program) (f:FuncId):Wd->Prop
 | .q s=>Sound P f s
 | .m s=>Bh P f s
 | .b s m=>Sound P f s/\Bh P f m
def Hc (P:Program) (Γ:Env):Prop:= ∀f s,Γ f=some s->SZ P f s
theorem Hc.reg {P:Program} {Γ:Env} (h:Hc P Γ) (draw:Bool):Hc P (tF Γ draw):= λf s hs=>by
 unfold tF at hs
 split at hs
 ·rename_i s0 m Md
  have:=h f _ Md
  cases draw with
  |true=>simp only [if_true,Option.some.injEq] at hs;subst hs;exact this.1
  |false=>simp only [Bool.false_eq_true,if_false,Option.some.injEq] at hs;subst hs;exact this.2
 ·exact h f s hs
theorem Kd {k:IntKind} {n:Int} {fr:Bool} {v:Value} (h:Ap X w π H (.at (.data fr (.int k) n)) v):v= .int k n:=by
 obtain ⟨cs,h1,rfl⟩:=h;simp only [Cells] at h1;subst h1;rfl
theorem Sn {b:Bool} {fr:Bool} {v:Value} (h:Ap X w π H (.at (.data fr .bool b)) v):v= .bool b:=by
 obtain ⟨cs,h1,rfl⟩:=h;simp only [Cells] at h1;subst h1;rfl
theorem aD {s:ByteArray} {fr:Bool} {v:Value} (h:Ap X w π H (.at (.data fr .str s)) v):v= .string s:=by
 obtain ⟨cs,h1,rfl⟩:=h;simp only [Cells] at h1;subst h1;rfl
theorem It (k:IntKind) (n:Int) (fr:Bool):Ap X w π H (.at (.data fr (.int k) n)) (.int k n):=⟨[.int k n],rfl,rfl⟩
theorem Hu (b:Bool) (fr:Bool):Ap X w π H (.at (.data fr .bool b)) (.bool b):=⟨[.bool b],rfl,rfl⟩
theorem jv (s:ByteArray) (fr:Bool):Ap X w π H (.at (.data fr .str s)) (.string s):=⟨[.string s],rfl,rfl⟩
theorem VI (f:FuncId):Ap X w π H (.at (.clo f [])) (.func (.func f) #[] #[]):=⟨[],rfl,rfl,λi p hi=>by simp at hi⟩
theorem DM (v:Value):Ap X w π H (gy v) v:=by
 unfold gy
 split
 ·exact It _ _ _
 ·exact Hu _ _
 ·exact jv _ _
 ·rfl
 ·rfl
 ·trivial
theorem Bq {st:St} {a:Act} (h:mf X w π st a) (x:Operand):Ap X w π st.heap (st.ev x) (a.eval x):=by
 cases x with
 |tmp t=>exact h.tmps t
 |const v=>exact DM v
 |global g=>trivial
 |func f=>exact VI f
theorem z7 (op:BinOp) (k:IntKind) (a b:Int) (t:TypeId) (av:AV) (h:nh op k a b=some av):
  ∃v,(binOp op t (.int k a) (.int k b)).run P w= .ok v w/\Ap X w π H av v:=by
 cases op<;>simp only [nh,Tk,Jp] at h
 case add=>cases h;exact ⟨_,by simp [binOp,Op.intArith],It _ _ _⟩
 case sub=>cases h;exact ⟨_,by simp [binOp,Op.intArith],It _ _ _⟩
 case mul=>cases h;exact ⟨_,by simp [binOp,Op.intArith],It _ _ _⟩
 case quo=>split at h<;>cases h;rename_i hb;exact ⟨_,by simp [binOp,Op.intDiv,hb],It _ _ _⟩
 case rem=>split at h<;>cases h;rename_i hb;exact ⟨_,by simp [binOp,Op.intDiv,hb],It _ _ _⟩
 case and=>cases h;exact ⟨_,by simp [binOp,Op.intBits],It _ _ _⟩
 case or=>cases h;exact ⟨_,by simp [binOp,Op.intBits],It _ _ _⟩
 case eql=>cases h;exact ⟨_,by simp [binOp,Op.intCmp],Hu _ _⟩
 case neq=>cases h;exact ⟨_,by simp [binOp,Op.intCmp],Hu _ _⟩
 case lss=>cases h;exact ⟨_,by simp [binOp,Op.intCmp],Hu _ _⟩
 case leq=>cases h;exact ⟨_,by simp [binOp,Op.intCmp],Hu _ _⟩
 case gtr=>cases h;exact ⟨_,by simp [binOp,Op.intCmp],Hu _ _⟩
 case geq=>cases h;exact ⟨_,by simp [binOp,Op.intCmp],Hu _ _⟩
 all_goals cases h
theorem vG (op:BinOp) (x y:AV) (vx vy:Value) (ox oy:Operand) (t:TypeId) (av:AV) (hx:Ap X w π H x vx) (hy:Ap X w π H y vy) (h:evalBin op x y=some av):
  ∃v,(do eqGuard op t ox oy vx vy;binOp op t vx vy:Sem Value).run P w= .ok v w/\Ap X w π H av v:=by
 unfold evalBin at h
 split at h
 ·rename_i k a _ k' b
  have:=Kd hx;subst this
  have:=Kd hy;subst this
  have hg: ∀op,(eqGuard op t ox oy (.int k a) (.int k' b)).run P w= .ok () w:=by intro op;cases op<;>simp [eqGuard]
  split at h
  ·split at h
   ·cases h
   ·rename_i hb
    simp only [Tk,Option.some.injEq] at h;subst h
    exact ⟨_,by rw [Sem.run_bind,hg];simp [binOp,Op.shift,hb],It _ _ _⟩
  ·split at h
   ·cases h
   ·rename_i hb
    simp only [Tk,Option.some.injEq] at h;subst h
    exact ⟨_,by rw [Sem.run_bind,hg];simp [binOp,Op.shift,hb],It _ _ _⟩
  ·split at h
   ·rename_i hk;subst hk
    obtain ⟨v,h1,h2⟩:=z7 (P:=P) (w:=w) (X:=X) (π:=π) (H:=H) op k a b t av h
    exact ⟨v,by rw [Sem.run_bind,hg];exact h1,h2⟩
   ·cases h
 ·rename_i a _ b
  have:=aD hx;subst this
  have:=aD hy;subst this
  have hg: ∀op,(eqGuard op t ox oy (.string a) (.string b)).run P w= .ok () w:=by intro op;cases op<;>simp [eqGuard]
  split at h
  ·simp only [Jp,Option.some.injEq] at h;subst h
   exact ⟨_,by rw [Sem.run_bind,hg];simp [binOp,Op.stringOp],Hu _ _⟩
  ·simp only [Jp,Option.some.injEq] at h;subst h
   exact ⟨_,by rw [Sem.run_bind,hg];simp [binOp,Op.stringOp],Hu _ _⟩
  ·split at h
   ·rename_i hl
    simp only [Option.some.injEq] at h;subst h
    exact ⟨_,by rw [Sem.run_bind,hg];simp only [Result.andThen_ok,binOp];exact run_string_add_sum w a b (by omega),jv _ _⟩
   ·cases h
  ·cases h
 ·cases h
theorem db {t:TypeId} (h:P.underlying t=some .bool) (a b:Bool) (w:World):(Op.equal t (.bool a) (.bool b)).run P w= .ok (a==b) w:=by
 unfold Op.equal
 rw [show Op.maxDepth=9999+1 from rfl]
 unfold Op.equalIn
 rw [Sem.run_bind,run_underlying h]
 rfl
theorem wL (hT:Cb P T) {x:AV} {vx:Value} {b:Bool} {t:TypeId} (hx:Ap X w π H x vx) (h:Yk x=some b) (ht:(T.elem t).isSome=true):
  (∃a len cap,vx= .slice a len cap/\(match a with|none=>true|some _=>false)=b)/\(Op.equal t vx (.slice none 0 0)).run P w= .ok b w:=by
 have h1: ∃a len cap,vx= .slice a len cap/\(match a with|none=>true|some _=>false)=b:=by
  unfold Yk at h
  split at h
  ·simp only [Option.some.injEq] at h;subst h
   have hx:vx= .slice none 0 0:=hx
   exact ⟨none,0,0,hx,rfl⟩
  ·simp only [Option.some.injEq] at h;subst h
   obtain ⟨cs,hc,rfl⟩:=hx
   simp only [Cells] at hc
   rcases hc with ⟨rfl,c,rfl⟩|⟨xs,ad,len,cap,rfl,rfl,_⟩
   ·exact ⟨none,0,c,by simp [Ar,Ty.Ac],rfl⟩
   ·exact ⟨some ad,len,cap,by simp [Ar,Ty.Ac],rfl⟩
  ·cases h
 refine ⟨h1,?_⟩
 obtain ⟨a,len,cap,rfl,rfl⟩:=h1
 obtain ⟨te,eC⟩:=Option.isSome_iff_exists.1 ht
 have hu:=hT.elem t te eC
 unfold Op.equal
 rw [show Op.maxDepth=9999+1 from rfl]
 unfold Op.equalIn
 rw [Sem.run_bind,run_underlying hu]
 cases a<;>rfl
theorem wK (hT:Cb P T) {x:AV} {vx:Value} {b:Bool} {t:TypeId} (hx:Ap X w π H x vx) (h:Yj x=some b) (ht:KC (T.ty t)=true):
  (∃a,vx= .pointer a/\(match a with|none=>true|some _=>false)=b)/\(Op.equal t vx (.pointer none)).run P w= .ok b w:=by
 have h1: ∃a,vx= .pointer a/\(match a with|none=>true|some _=>false)=b:=by
  unfold Yj at h
  split at h
  ·simp only [Option.some.injEq] at h;subst h
   have hx:vx= .pointer none:=hx
   exact ⟨none,hx,rfl⟩
  ·simp only [Option.some.injEq] at h;subst h
   obtain ⟨r,tid,vs,_,_,rfl⟩:=hx
   exact ⟨_,rfl,rfl⟩
  ·simp only [Option.some.injEq] at h;subst h
   obtain ⟨cs,hc,rfl⟩:=hx
   simp only [Cells] at hc
   rcases hc with ⟨rfl,rfl⟩|⟨xs,g,o,rfl,rfl,_⟩
   ·exact ⟨none,by simp [Ar,Ty.Ac],rfl⟩
   ·exact ⟨some ⟨g,o,none⟩,by simp [Ar,Ty.Ac],rfl⟩
  ·simp only [Option.some.injEq] at h;subst h
   obtain ⟨cs,hc,rfl⟩:=hx
   simp only [Cells] at hc
   obtain ⟨g,o,rfl,_⟩:=hc
   exact ⟨some ⟨g,o,none⟩,by simp [Ar,Ty.Ac],rfl⟩
  ·cases h
 refine ⟨h1,?_⟩
 obtain ⟨a,rfl,rfl⟩:=h1
 have hu: ∃u,P.underlying t=some (.pointer u):=by
  cases Qs:T.ty t with
  |none=>rw [Qs] at ht;cases ht
  |some τ=>
   have hd:=(hT.ty t τ Qs).desc
   rw [Qs] at ht
   cases τ<;>first|exact hd|cases ht
 obtain ⟨u,hu⟩:=hu
 unfold Op.equal
 rw [show Op.maxDepth=9999+1 from rfl]
 unfold Op.equalIn
 rw [Sem.run_bind,run_underlying hu]
 cases a<;>rfl
theorem so {T:Tab} (hT:Cb P T) (op:BinOp) (x y:AV) (vx vy:Value) (ox oy:Operand) (t:TypeId) (av:AV) (hx:Ap X w π H x vx) (hy:Ap X w π H y vy) (h:Mu T op t x y=some av):
  ∃v,(do eqGuard op t ox oy vx vy;binOp op t vx vy:Sem Value).run P w= .ok v w/\Ap X w π H av v:=by
 unfold Mu at h
 split at h
 ·split at h
  ·rename_i ht
   cases hn:Yk x with
   |none=>rw [hn] at h;cases h
   |some b=>
    rw [hn] at h
    simp only [Option.bind_some,Jp,Option.some.injEq] at h;subst h
    have hy:vy= .slice none 0 0:=hy
    subst hy
    obtain ⟨⟨a,len,cap,rfl,_⟩,h2⟩:=wL hT hx hn ht
    exact ⟨.bool b,by rw [Sem.run_bind];simp [eqGuard,binOp,h2],Hu _ _⟩
  ·cases h
 ·split at h
  ·rename_i ht
   cases hn:Yj x with
   |none=>rw [hn] at h;cases h
   |some b=>
    rw [hn] at h
    simp only [Option.bind_some,Jp,Option.some.injEq] at h;subst h
    have hy:vy= .pointer none:=hy
    subst hy
    obtain ⟨⟨a,rfl,_⟩,h2⟩:=wK hT hx hn ht
    exact ⟨.bool b,by rw [Sem.run_bind];simp [eqGuard,binOp,h2],Hu _ _⟩
  ·cases h
 ·split at h
  ·rename_i ht
   cases hn:Yk x with
   |none=>rw [hn] at h;cases h
   |some b=>
    rw [hn] at h
    simp only [Option.bind_some,Jp,Option.some.injEq] at h;subst h
    have hy:vy= .slice none 0 0:=hy
    subst hy
    obtain ⟨⟨a,len,cap,rfl,_⟩,h2⟩:=wL hT hx hn ht
    exact ⟨.bool (!b),by rw [Sem.run_bind];simp [eqGuard,binOp,h2],Hu _ _⟩
  ·cases h
 ·split at h
  ·rename_i ht
   cases hn:Yj x with
   |none=>rw [hn] at h;cases h
   |some b=>
    rw [hn] at h
    simp only [Option.bind_some,Jp,Option.some.injEq] at h;subst h
    have hy:vy= .pointer none:=hy
    subst hy
    obtain ⟨⟨a,rfl,_⟩,h2⟩:=wK hT hx hn ht
    exact ⟨.bool (!b),by rw [Sem.run_bind];simp [eqGuard,binOp,h2],Hu _ _⟩
  ·cases h
 ·rename_i a _ b
  have:=Sn hx;subst this
  have:=Sn hy;subst this
  split at h
  ·rename_i ht
   simp only [Jp,Option.some.injEq] at h;subst h
   have hu:P.underlying t=some .bool:=(hT.ty t _ ht).desc
   exact ⟨_,by rw [Sem.run_bind];simp [eqGuard,binOp,db hu],Hu _ _⟩
  ·cases h
 ·rename_i a _ b
  have:=Sn hx;subst this
  have:=Sn hy;subst this
  split at h
  ·rename_i ht
   simp only [Jp,Option.some.injEq] at h;subst h
   have hu:P.underlying t=some .bool:=(hT.ty t _ ht).desc
   exact ⟨_,by rw [Sem.run_bind];simp [eqGuard,binOp,db hu],Hu _ _⟩
  ·cases h
 ·exact vG op x y vx vy ox oy t av hx hy h
theorem yI (op:UnOp) (x:AV) (vx:Value) (av:AV) (hx:Ap X w π H x vx) (h:su op x=some av):
  ∃v,(Op.unary op vx).run P w= .ok v w/\Ap X w π H av v:=by
 unfold su at h
 split at h
 ·have:=Sn hx;subst this
  simp only [Jp,Option.some.injEq] at h;subst h
  exact ⟨_,by simp [Op.unary],Hu _ _⟩
 ·have:=Kd hx;subst this
  simp only [Tk,Option.some.injEq] at h;subst h
  exact ⟨_,by simp [Op.unary,Op.intArith],It _ _ _⟩
 ·cases h
theorem Em {t:TypeId} {τ:Ty} (ht:l7 P T t τ) (g o:Nat) (es:List Value) (hl:es.length=τ.size) (hc: ∀j u,es[j]?=some u->w.cell? ⟨g,o+j,none⟩=some u):
  (loadVar t ⟨g,o,none⟩).run P w= .ok (Ar τ es) w:=by
 unfold loadVar
 rw [Sem.run_bind,ht.agg,Result.andThen_ok]
 cases hs:τ.Ac with
 |true=>
  simp only [if_true,Sem.run_bind,ht.size,Result.andThen_ok]
  rw [<-hl,run_loadCells_list w ⟨g,o,none⟩ es (λj v hv=>by rw [Addr.add_lit];exact hc j v hv)]
  simp [Ar,hs]
 |false=>
  have h1:τ.size=1:=by cases τ<;>simp_all [Ty.Ac,Ty.size]
  rw [h1] at hl
  obtain ⟨u,rfl⟩:=List.length_eq_one_iff.1 hl
  have:=hc 0 u rfl
  simp only [Nat.add_zero] at this
  simp [this,Ar,hs]
theorem nS {fr:Bool} {τ:Ty} {x:τ.den} {v:Value} (h:Ap X w π H (.at (.data fr τ x)) v):Ap X w π H (.at (.data (fr||τ.flat) τ x)) v:=by
 cases hf:τ.flat with
 |true=>exact Bd.flat hf h
 |false=>rw [Bool.or_false];exact h
theorem pO {cs ds:List AC} {us vs:List Value} (h1:Cw X w π H cs us) (h2:Cw X w π H ds vs):Cw X w π H (cs++ds) (us++vs):=by
 have e1:=h1.1
 refine ⟨by simp [h1.1,h2.1],λi c hc=>?_⟩
 by_cases hi:i<cs.length
 ·rw [List.getElem?_append_left hi] at hc
  obtain ⟨u,hu,h3⟩:=h1.2 i c hc
  exact ⟨u,by rw [List.getElem?_append_left (by omega)];exact hu,h3⟩
 ·rw [List.getElem?_append_right (by omega)] at hc
  obtain ⟨u,hu,h3⟩:=h2.2 _ c hc
  exact ⟨u,by rw [List.getElem?_append_right (by omega),e1];exact hu,h3⟩
theorem aC {c:AC} {u:Value} (h1:u.oneCell'=true) (h2:Ea X w π H c u):Cw X w π H [c] [u]:=⟨rfl,λi c' hc=>by
 rcases i with _|i
 ·simp at hc;subst hc;exact ⟨u,rfl,h1,h2⟩
 ·simp at hc⟩
theorem AK {l i:Nat} {e:Ty} {tid:TypeId} {xs:List e.den} {r:Real} (hl:Ad H l=some (.Dc e tid xs)) (hp:π l=some r) (hi:i<xs.length): ∀(τ:Ty) (c:Nat) (F:List Nat) (us:List Value) (x:τ.den),
  TCells w F τ us x->c+τ.size<=e.size->(∀j u,us[j]?=some u->w.cell? ⟨r.g,(r.o+i)*e.size+(c+j),none⟩=some u)->Cw X w π H (aQ l i c τ x) us:=by
 intro τ
 induction τ with
 |unit=>intro c F us x h _ _;simp only [TCells] at h;obtain ⟨_,rfl⟩:=h;exact ⟨rfl,λi c hc=>by simp [aQ] at hc⟩
 |pair a r gg dL=>
  intro c F us x h hle hc
  have lh:=TCells.cells (S:= λ_=>False) F _ us x h (λ_ _ h=>h)
  simp only [TCells] at h
  obtain ⟨c1,c2,F1,F2,rfl,rfl,h1,h2⟩:=h
  have dJ:c1.length=a.size:=Cells.len a c1 x.1 (TCells.cells (S:= λ_=>False) F1 a c1 x.1 h1 (λ_ _ h=>h))
  simp only [Ty.size] at hle
  refine pO (gg c F1 c1 x.1 h1 (by omega) λj u hu=>hc j u (by rw [List.getElem?_append_left (List.getElem?_eq_some_iff.1 hu).1];exact hu)) (dL (c+a.size) F2 c2 x.2 h2 (by omega) λj u hu=>?_)
  have:=hc (a.size+j) u (by rw [List.getElem?_append_right (by omega),dJ];simpa using hu)
  rw [show c+a.size+j=c+(a.size+j) by omega];exact this
 |int k=>intro c F us x h _ _;simp only [TCells] at h;obtain ⟨_,rfl⟩:=h;exact aC rfl (It (H:=H) k x true)
 |bool=>intro c F us x h _ _;simp only [TCells] at h;obtain ⟨_,rfl⟩:=h;exact aC rfl (Hu (H:=H) x true)
 |str=>intro c F us x h _ _;simp only [TCells] at h;obtain ⟨_,rfl⟩:=h;exact aC rfl (jv (H:=H) x true)
 |slice e'=>
  intro c F us x h hle hc
  simp only [TCells] at h
  obtain ⟨a,len,cap,rfl,_⟩:=h
  exact aC rfl ⟨r,_,e.size,xs.length,hl,rfl,hp,hi,⟨by simp only [Ty.size] at hle;omega,_,_,_,rfl⟩,by simpa using hc 0 _ rfl⟩
 |_=>intro c F us x h;simp only [TCells] at h
theorem gE (hT:Cb P T) {st:St} {a:Act} (h:Aj X π st a w) (t:TypeId) (p:AV) (vp:Value) (av:AV) (hp:Ap X w π st.heap p vp) (he:Kg T st t p=some av):
  ∃v,(Instr.loadAt t vp).run P w= .ok v w/\Ap X w π st.heap av v:=by
 unfold Kg at he
 split at he
 ·rename_i τ fr Ja x ht
  split at he
  ·rename_i Mw
   subst Mw
   simp only [Option.some.injEq] at he;subst he
   have Qs:=hT.ty _ _ ht
   obtain ⟨cs,hc,rfl⟩:=hp
   simp only [Cells] at hc
   obtain ⟨g,o,rfl,hg,hn,es,hl,Ry,Ve⟩:=hc
   refine ⟨Ar Ja es,?_,nS (show Ap X w π st.heap (.at (.data fr Ja _)) (Ar Ja es) from ⟨es,Ve,rfl⟩)⟩
   have hr:=Em (P:=P) (w:=w) Qs g o es hl Ry
   show (do loadVar t (<-Instr.sureAddr (.pointer (some ⟨g,o,none⟩))):Sem Value).run P w=_
   simpa [Instr.sureAddr] using hr
  ·cases he
 ·rename_i τ fr Ja x ht
  split at he
  ·rename_i Mw
   subst Mw
   simp only [Option.some.injEq] at he;subst he
   have Qs:=hT.ty _ _ ht
   obtain ⟨cs,hc,rfl⟩:=hp
   simp only [Cells] at hc
   rcases hc with ⟨h0,_⟩|⟨y,g,o,h0,rfl,hg,hn,es,hl,Ry,Ve⟩
   ·cases h0
   simp only [Option.some.injEq] at h0;subst h0
   refine ⟨Ar Ja es,?_,nS (show Ap X w π st.heap (.at (.data fr Ja _)) (Ar Ja es) from ⟨es,Ve,rfl⟩)⟩
   have hr:=Em (P:=P) (w:=w) Qs g o es hl Ry
   show (do loadVar t (<-Instr.sureAddr (.pointer (some ⟨g,o,none⟩))):Sem Value).run P w=_
   simpa [Instr.sureAddr] using hr
  ·cases he
 ·rename_i τ l i ht
  have Qs:=hT.ty _ _ ht
  split at he
  ·rename_i tid vs hl
   obtain ⟨r,Nv,uM,h1,h2,rfl⟩:=hp
   unfold St.at at hl
   rw [hl] at h1;cases h1
   obtain ⟨r',h3,h4,cur,h5,h6⟩:=(h.1.heap l).blk hl
   rw [h2] at h3;cases h3
   split at he
   ·rename_i hs
    split at he
    ·rename_i hlen
     simp only [Option.some.injEq] at he;subst he
     have Ly:cur.toList.length=vs.length:=h6.1
     refine ⟨_,by
      simp only [Instr.loadAt,Instr.sureAddr]
      simpa using Em (P:=P) (w:=w) Qs r.g i ((cur.toList.drop i).take τ.size) (by simp at Ly⊢;omega) (λj u hu=>by
       rw [cellOf h5]
       rw [List.getElem?_take] at hu
       split at hu
       ·rw [List.getElem?_drop] at hu;simpa using hu
       ·cases hu),?_⟩
     exact ⟨_,by simp [Ar,hs],Sm h6 i τ.size⟩
    ·cases he
   ·rename_i hs
    simp only [Bool.not_eq_true] at hs
    have h1:τ.size=1:=by cases τ<;>simp_all [Ty.Ac,Ty.size]
    cases hi:vs[i]? with
    |none=>rw [hi] at he;cases he
    |some c=>
     rw [hi] at he
     simp only [Option.map_some,Option.some.injEq] at he;subst he
     obtain ⟨u,hu,_,hc⟩:=h6.2 i c hi
     refine ⟨u,?_,hc⟩
     simp only [Instr.loadAt,Instr.sureAddr]
     have:=Em (P:=P) (w:=w) Qs r.g i [u] (by simp [h1]) (λj u' bH=>by
       rcases j with _|j
       ·simp at bH;subst bH;rw [Nat.add_zero,cellOf h5];simpa using hu
       ·simp at bH)
     simpa [Ar,hs] using this
  ·cases he
 ·rename_i τ l i ht
  have Qs:=hT.ty _ _ ht
  split at he
  ·rename_i fr tr e tid xs hl
   split at he
   ·rename_i heq;subst heq
    obtain ⟨r,b,sz,n,h1,h0,h2,h3,rfl⟩:=hp
    unfold St.at at hl
    rw [hl] at h1;cases h1
    simp only [OB.row,Option.some.injEq,Prod.mk.injEq] at h0
    obtain ⟨rfl,rfl⟩:=h0
    have hb:=(h.1.heap l).blk hl
    simp only [Av,Fu,h3] at hb
    obtain ⟨h4,cur,_,h5,h6,h7,h8,h9,_⟩:=hb
    have hx:xs[i]?=some xs[i]:=List.getElem?_eq_getElem h2
    rw [hx] at he
    simp only [Option.map_some,Option.some.injEq] at he;subst he
    obtain ⟨es,bK,hj,lh⟩:=h9 i _ hx
    refine ⟨Ar e es,?_,nS (show Ap X w π st.heap (.at (.data fr e _)) (Ar e es) from ⟨es,lh,rfl⟩)⟩
    simp only [Instr.loadAt,Instr.sureAddr]
    simpa using Em (P:=P) (w:=w) Qs r.g ((r.o+i)*e.size) es bK (λj u hu=>by rw [cellOf h5];exact hj j u hu)
   ·cases he
  ·rename_i e tid xs hl
   split at he
   ·rename_i heq;subst heq
    obtain ⟨r,b,sz,n,h1,h0,h2,h3,rfl⟩:=hp
    unfold St.at at hl
    rw [hl] at h1;cases h1
    simp only [OB.row,Option.some.injEq,Prod.mk.injEq] at h0
    obtain ⟨rfl,rfl⟩:=h0
    have hb:=(h.1.heap l).blk hl
    simp only [Av,Io,h3] at hb
    obtain ⟨h4,cur,_,h5,h6,h7,h8,Fs,k1,k2,k3,k4⟩:=hb
    have hx:xs[i]?=some xs[i]:=List.getElem?_eq_getElem h2
    rw [hx] at he
    simp only [Option.map_some,Option.some.injEq] at he;subst he
    obtain ⟨es,bK,hj,lh⟩:=k4 i _ _ hx (List.getElem?_eq_getElem (by omega))
    have OS:=AK (X:=X) (H:=st.heap) hl h3 h2 e 0 _ es _ lh (by omega) (λj u hu=>by rw [cellOf h5,Nat.zero_add];exact hj j u hu)
    refine ⟨Ar e es,?_,?_⟩
    ·simp only [Instr.loadAt,Instr.sureAddr]
     simpa using Em (P:=P) (w:=w) Qs r.g ((r.o+i)*e.size) es bK (λj u hu=>by rw [cellOf h5];exact hj j u hu)
    ·cases Ss:e.Ac with
     |true=>rw [if_pos rfl];exact ⟨es,by simp [Ar,Ss],OS⟩
     |false=>
      rw [if_neg (by simp)]
      have h1:e.size=1:=by cases e<;>simp_all [Ty.Ac,Ty.size]
      rw [h1] at bK
      obtain ⟨u,rfl⟩:=List.length_eq_one_iff.1 bK
      have dJ:=OS.1
      generalize aQ l i 0 e xs[i]=sc at*
      simp only [List.length_cons,List.length_nil] at dJ
      obtain ⟨c,rfl⟩:=List.length_eq_one_iff.1 dJ.symm
      obtain ⟨u',bH,_,vU⟩:=OS.2 0 c rfl
      simp at bH;subst bH
      have e1:Ar e [u]=u:=by simp [Ar,Ss]
      rw [e1]
      exact vU
   ·cases he
  ·rename_i e te rows kp hl
   split at he
   ·cases he
   ·rename_i Ss
    simp only [Bool.not_eq_true] at Ss
    simp only [Option.some.injEq] at he;subst he
    obtain ⟨r,b,sz,n,h1,h0,h2,h3,rfl⟩:=hp
    unfold St.at at hl
    rw [hl] at h1;cases h1
    simp only [OB.row,Option.some.injEq,Prod.mk.injEq] at h0
    obtain ⟨rfl,rfl⟩:=h0
    obtain ⟨u,R,k1,k2,k3⟩:=gO h.1 hl h3 h2 (by simp)
    have Wn:τ.size=1:=by cases τ<;>simp_all [Ty.Ac,Ty.size]
    refine ⟨u,?_,r,_,1,rows.length,hl,rfl,h3,h2,⟨by omega,Tw k2⟩,by rw [Nat.mul_one,Nat.add_zero];exact k1⟩
    simp only [Instr.loadAt,Instr.sureAddr]
    have:=Em (P:=P) (w:=w) Qs r.g ((r.o+i)*1) [u] (by simp [Wn]) (λj u' bH=>by
     rcases j with _|j
     ·simp at bH;subst bH;rw [Nat.mul_one,Nat.add_zero];exact k1
     ·simp at bH)
    simpa [Ar,Ss] using this
  ·cases he
 ·rename_i τ l i j ht
  have Qs:=hT.ty _ _ ht
  split at he
  ·rename_i e te rows kp hl
   split at he
   ·rename_i heq;subst heq
    simp only [Option.some.injEq] at he;subst he
    obtain ⟨r,b,n,sz,g,o,len,cap,h1,h0,h2,h3,h4,h5,rfl⟩:=hp
    unfold St.at at hl
    rw [hl] at h1;cases h1
    simp only [OB.pe,Option.some.injEq,Prod.mk.injEq] at h0
    obtain ⟨rfl,rfl⟩:=h0
    obtain ⟨u,R,k1,k2,k3⟩:=gO h.1 hl h2 h3 (by simp)
    rw [h5] at k1
    have hu:=Option.some.inj k1
    subst hu
    cases R with
    |none=>obtain ⟨hh,_⟩:=k2;cases hh
    |some q=>
     obtain ⟨ad,hh,g1,g2⟩:=k2
     simp only [Value.slice.injEq,Option.some.injEq] at hh
     obtain ⟨rfl,rfl,rfl⟩:=hh
     have yL:=g2 (by omega)
     simp only [Addr.mk.injEq,and_true] at yL
     obtain ⟨rfl,rfl⟩:=yL
     obtain ⟨f1,cur,ti,f2,f3,f4,f5,f6⟩:=k3
     have hj:(rows.getD i [])[j]?=some ((rows.getD i []).getD j e.zero):=by rw [List.getD_eq_getElem?_getD (l:=rows.getD i []),List.getElem?_eq_getElem h4];rfl
     obtain ⟨es,bK,c1,c2⟩:=f6 j _ hj
     refine ⟨Ar e es,?_,nS (fr:=false) (show Ap X w π st.heap (.at (.data false e _)) (Ar e es) from ⟨es,c2,rfl⟩)⟩
     simp only [Instr.loadAt,Instr.sureAddr]
     simpa using Em (P:=P) (w:=w) Qs q.g ((q.o+0)*e.size+j*e.size) es bK (λm u hu=>by rw [cellOf f2,Nat.add_zero,<-Nat.add_mul];exact c1 m u hu)
   ·cases he
  ·cases he
 ·cases he
theorem JX {α:Type} {xs:List α} {n:Int} {x:α} (h:idx xs n=some x):0<=n/\n<xs.length/\xs[n.toNat]?=some x:=by
 unfold idx at h
 split at h
 ·rename_i h0
  have:=(List.getElem?_eq_some_iff.1 h).1
  exact ⟨h0,by omega,h⟩
 ·cases h
theorem lQ (hT:Cb P T) {t:TypeId} {e:Ty} (h:(T.elem t).bind T.ty=some e): ∃te,T.elem t=some te/\T.ty te=some e/\P.underlying t=some (.slice te)/\P.elem t=te:=by
 cases ht:T.elem t with
 |none=>rw [ht] at h;cases h
 |some te=>
  rw [ht] at h
  have hu:=hT.elem t te ht
  exact ⟨te,rfl,h,hu,by simp [Program.elem,hu]⟩
theorem gD (hT:Cb P T) {st:St} {a:Act} (h:Aj X π st a w) (t:TypeId) (x i:AV) (vx vi:Value) (av:AV) (hx:Ap X w π st.heap x vx) (hi:Ap X w π st.heap i vi)
  (he:Gd T st t x i=some av): ∃v,(Instr.indexAt t vx vi).run P w= .ok v w/\Ap X w π st.heap av v:=by
 unfold Gd at he
 split at he
 ·rename_i fr e xs _ k n
  have:=Kd hi;subst this
  split at he
  ·rename_i gQ
   obtain ⟨te,h1,h2,h3,h4⟩:=lQ hT gQ
   cases hix:idx xs n with
   |none=>rw [hix] at he;cases he
   |some y=>
    rw [hix] at he
    simp only [Option.map_some,Option.some.injEq] at he;subst he
    obtain ⟨h5,h6,h7⟩:=JX hix
    obtain ⟨cs,hc,rfl⟩:=hx
    simp only [Cells] at hc
    obtain ⟨ad,len,cap,rfl,hlen,mU,yR⟩:=hc
    rcases yR with rfl|⟨g,o,rfl,hg,hn,Ho⟩
    ·simp at h6;omega
    ·obtain ⟨es,bK,Ry,Ve⟩:=Ho _ _ h7
     have Wn:=(hT.ty _ _ h2).size (w:=w)
     refine ⟨.pointer (some ⟨g,o+n.toNat*e.size,none⟩),?_,[_],⟨g,_,rfl,hg,hn,es,bK,Ry,Ve⟩,by simp [Ar,Ty.Ac]⟩
     simp only [Ar,Ty.Ac,Bool.false_eq_true,if_false,List.headD_cons]
     rw [run_indexAt_slice (P:=P) w t _ _ _ k n (by rw [h3,h4]),if_pos ⟨h5,by omega⟩,h4,Wn,Result.andThen_ok,Addr.add_lit]
  ·cases he
 ·rename_i l off len _ k n
  have:=Kd hi;subst this
  split at he
  ·rename_i fr tr e tid xs hl
   split at he
   ·rename_i Fm
    obtain ⟨h1,h2,TJ⟩:=Fm
    obtain ⟨h5,h6⟩:=Nc.1 TJ
    simp only [Option.some.injEq] at he;subst he
    have h3:=hT.elem t tid h1
    have h4:P.elem t=tid:=by simp [Program.elem,h3]
    unfold St.at at hl
    have Gq:=hl
    obtain ⟨h8,h9⟩:=Je (X:=X) (w:=w) hx hl
    cases hp:π l with
    |none=>rw [hp] at h9;obtain ⟨_,_,h9⟩:=h9;omega
    |some r=>
     rw [hp] at h9
     obtain ⟨ad,rfl,kr,ew⟩:=h9
     have NU:=ew (by omega)
     subst NU
     have Wn:=(hT.ty _ _ h2).size (w:=w)
     refine ⟨.pointer (some ⟨r.g,(r.o+off)*e.size+n.toNat*e.size,none⟩),?_,r,_,e.size,xs.length,Gq,rfl,by omega,hp,?_⟩
     ·rw [run_indexAt_slice (P:=P) w t _ _ _ k n (by rw [h3,h4]),if_pos ⟨h5,by omega⟩,h4,Wn,Result.andThen_ok,Addr.add_lit]
     ·rw [<-Nat.add_assoc r.o off n.toNat,Nat.add_mul (r.o+off)]
   ·cases he
  ·rename_i e tid xs hl
   split at he
   ·rename_i Fm
    obtain ⟨h1,h2,TJ⟩:=Fm
    obtain ⟨h5,h6⟩:=Nc.1 TJ
    simp only [Option.some.injEq] at he;subst he
    have h3:=hT.elem t tid h1
    have h4:P.elem t=tid:=by simp [Program.elem,h3]
    unfold St.at at hl
    have Gq:=hl
    obtain ⟨h8,h9⟩:=Vs (X:=X) (w:=w) hx hl
    cases hp:π l with
    |none=>rw [hp] at h9;obtain ⟨_,_,h9⟩:=h9;omega
    |some r=>
     rw [hp] at h9
     obtain ⟨ad,rfl,kr,ew⟩:=h9
     have NU:=ew (by omega)
     subst NU
     have Wn:=(hT.ty _ _ h2).size (w:=w)
     refine ⟨.pointer (some ⟨r.g,(r.o+off)*e.size+n.toNat*e.size,none⟩),?_,r,_,e.size,xs.length,Gq,rfl,by omega,hp,?_⟩
     ·rw [run_indexAt_slice (P:=P) w t _ _ _ k n (by rw [h3,h4]),if_pos ⟨h5,by omega⟩,h4,Wn,Result.andThen_ok,Addr.add_lit]
     ·rw [<-Nat.add_assoc r.o off n.toNat,Nat.add_mul (r.o+off)]
   ·cases he
  ·rename_i e te rows out kp hl
   split at he
   ·rename_i Fm
    obtain ⟨h1,h2,TJ⟩:=Fm
    obtain ⟨h5,h6⟩:=Nc.1 TJ
    simp only [Option.some.injEq] at he;subst he
    have h3:=hT.elem t te h1
    have h4:P.elem t=te:=by simp [Program.elem,h3]
    unfold St.at at hl
    have Gq:=hl
    obtain ⟨h8,h9⟩:=ix (X:=X) (w:=w) hx hl
    cases hp:π l with
    |none=>rw [hp] at h9;obtain ⟨_,_,h9⟩:=h9;omega
    |some r=>
     rw [hp] at h9
     obtain ⟨ad,rfl,kr,ew⟩:=h9
     have NU:=ew (by omega)
     subst NU
     cases eC:T.ty te with
     |none=>rw [eC] at h2;cases h2
     |some τ=>
      rw [eC] at h2
      have h2:τ.size=1:=Option.some.inj h2
      have Wn:=(hT.ty _ _ eC).size (w:=w)
      refine ⟨.pointer (some ⟨r.g,(r.o+off)*1+n.toNat*τ.size,none⟩),?_,r,_,1,rows.length,Gq,rfl,by omega,hp,?_⟩
      ·rw [run_indexAt_slice (P:=P) w t _ _ _ k n (by rw [h3,h4]),if_pos ⟨h5,by omega⟩,h4,Wn,Result.andThen_ok,Addr.add_lit]
      ·rw [h2,<-Nat.add_assoc r.o off n.toNat,Nat.add_mul (r.o+off)]
   ·cases he
  ·cases he
 ·rename_i l i c _ k n
  have:=Kd hi;subst this
  split at he
  ·rename_i e te rows kp hl
   split at he
   ·rename_i Fm
    obtain ⟨h2,TJ⟩:=Fm
    obtain ⟨h5,h6⟩:=Nc.1 TJ
    simp only [Option.some.injEq] at he;subst he
    cases eC:T.elem t with
    |none=>rw [eC] at h2;cases h2
    |some Lb=>
     rw [eC] at h2
     cases Qs:T.ty Lb with
     |none=>rw [Option.bind_some,Qs] at h2;cases h2
     |some τ=>
      rw [Option.bind_some,Qs] at h2
      have h2:τ.size=e.size:=Option.some.inj h2
      have h3:=hT.elem t Lb eC
      have h4:P.elem t=Lb:=by simp [Program.elem,h3]
      unfold St.at at hl
      obtain ⟨r,b,sz,m,g1,g0,g2,g3,⟨g4,_⟩,g5⟩:=hx
      rw [hl] at g1;cases g1
      simp only [OB.bj,Option.some.injEq,Prod.mk.injEq] at g0
      obtain ⟨rfl,rfl⟩:=g0
      have fE:c=0:=by omega
      subst fE
      rw [Nat.mul_one,Nat.add_zero] at g5
      obtain ⟨u,R,k1,k2,k3⟩:=gO h.1 hl g2 g3 (by simp)
      rw [g5] at k1
      have hu:=Option.some.inj k1
      subst hu
      cases R with
      |none=>obtain ⟨_,_,hh⟩:=k2;omega
      |some q=>
       obtain ⟨ad,rfl,f1,f2⟩:=k2
       have yL:=f2 (by omega)
       subst yL
       have Wn:=(hT.ty _ _ Qs).size (w:=w)
       refine ⟨.pointer (some ⟨q.g,(q.o+0)*e.size+n.toNat*τ.size,none⟩),?_,r,_,rows.length,e.size,q.g,(q.o+0)*e.size,_,_,hl,rfl,g2,g3,by omega,g5,by rw [h2]⟩
       rw [run_indexAt_slice (P:=P) w t _ _ _ k n (by rw [h3,h4]),if_pos ⟨h5,by omega⟩,h4,Wn,Result.andThen_ok,Addr.add_lit]
   ·cases he
  ·cases he
 ·cases he
end
end Go.Proofs.YtjbdmibbbpdnnaaGreat
