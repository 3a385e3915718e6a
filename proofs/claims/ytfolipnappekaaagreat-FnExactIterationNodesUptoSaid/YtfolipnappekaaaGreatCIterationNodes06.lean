/-
  Part 7 of the proof that the statement FnExactIterationNodes holds.
-/
import Derived.Test.YtfolipnappekaaaGreatCIterationNodes05
namespace Go.Proofs.YtfolipnappekaaaGreat
open Go.RowKit
section
variable {P:Program} {T:Tab} {X:Ctx} {w w':World} {π:Pi} {H:List (Nat×OB)}
def RM (P:Program) (X:Ctx) (π:Pi) (H:List (Nat×OB)) (w:World) (av:AV):Result Next->Prop
 | .ok (.value v) w'=>w'=w/\Bp X w π H av v
 | .ok (.enter f args) w'=>w'=w/\Calls P f args w (λe rS=> ∃v,e= .returned v/\Below w.heap.size w rS/\Bp X rS π H av v)
 |_=>False
def lX (s:Spec) (w:World) (S:Nat->Prop) (v:Value) (y:s.res.den):Prop:=
 if s.He then ∃us:List Value,v= .tuple us.toArray/\Cv w S s.res us y else Ct w S s.res v y
structure Sound (P:Program) (f:FuncId) (s:Spec):Prop where
 enter: ∀args w,(callFunc f args).run P w= .ok (.enter f args) w
 calls: ∀(w:World) (S:Nat->Prop) (vs:List Value) (x:s.arg.den) (y:s.res.den),(∀k,S k->k<w.heap.size)->Cv w S s.arg vs x->s.fn x=some y->
  Calls P f vs.toArray w λe w'=> ∃v,e= .returned v/\Below w.heap.size w w'/\lX s w' (λb=>S b\/(s.fresh=true/\b<w.heap.size)) v y
def gi (w:World) (D:Nat->Prop) (r:Option Real):(c:CK)->c.den->Prop
 | .Fm _,_=>r=none
 | .row e _,xs=>Ta w D r e xs
 | .Hk e te,xs=>Ny w r e te xs
 | .part e _,x=>e.flat=true/\Ta w D r e x.1
 | .Bm e _ _,rows=>aI w D r e rows none
def eP (w:World) (D:Nat->Prop) (r:Option Real) (v:Value):(c:CK)->c.den->Prop
 | .Fm τ,x=>r=none/\Ct w D τ v x
 | .row e te,xs=>Hw r e.size 0 (List.length xs) v/\gi w D r (.row e te) xs
 | .Hk e te,xs=>Hw r e.size 0 (List.length xs) v/\gi w D r (.Hk e te) xs
 | .part e te,x=>(Hw r e.size x.2.1 x.2.2 v/\x.2.1+x.2.2<=List.length x.1)/\gi w D r (.part e te) x
 | .Bm e te kp,rows=>Hw r 1 0 (List.length rows) v/\gi w D r (.Bm e te kp) rows
def eR (w:World) (D:Nat->Prop) (π:Pi):(k:Nat)->(cs:List (Bool×CK))->Ins.den cs->List Value->Prop
 |_,[],_,[]=>True
 |k,p::r,x,u::us=>eP w D (π (Ds p.1 k)) u p.2 x.1/\eR w D π (k+1) r x.2 us
 |_,_,_,_=>False
def Lo (w:World) (D:Nat->Prop) (π:Pi):(k:Nat)->(cs:List (Bool×CK))->IOs.den cs->Prop
 |_,[],_=>True
 |k,(true, .Fm _)::r,x=>Lo w D π (k+1) r x
 |k,(true, .Bm _ _ _)::r,x=>Lo w D π (k+1) r x
 |k,(true, .row e te)::r,x=>gi w D (π (Ds true k)) (.row e te) x.1/\Lo w D π (k+1) r x.2
 |k,(true, .Hk e te)::r,x=>gi w D (π (Ds true k)) (.Hk e te) x.1/\Lo w D π (k+1) r x.2
 |k,(true, .part e te)::r,x=>gi w D (π (Ds true k)) (.row e te) x.1/\Lo w D π (k+1) r x.2
 |k,(false,_)::r,x=>Lo w D π (k+1) r x
def Jb (w:World) (D:Nat->Prop) (ρ:Pi):(k:Nat)->(cs:List CK)->CKs.den cs->List Value->Prop
 |_,[],_,[]=>True
 |k,c::r,x,u::us=>eP w D (ρ (Jp k)) u c x.1/\Jb w D ρ (k+1) r x.2 us
 |_,_,_,_=>False
structure eS (π:Pi) (A:Nat->Prop):Prop where
 aT: ∀l r b,π l=some r->r.Cu b->A b
 inj: ∀l l' r r' b,π l=some r->π l'=some r'->r.Cu b->r'.Cu b->l=l'
def dd:List (Option Nat)->List Value->Prop
 | [],[]=>True
 |none::s,_::us=>dd s us
 |some n::s,us=>n<=us.length/\(∀u∈us.take n,u.oneCell'=true)/\dd s (us.drop n)
 |_,_=>False
def Ac7 (He:Bool) (sh:List (Option Nat)) (us:List Value) (v:Value):Prop:=if He then v= .tuple (Kp sh us).toArray else Kp sh us= [v]\/Kp sh us= []
def gQ (S:Nat->Prop) (π ρ:Pi) (b:Nat):Prop:=S b\/(∃l q,Bn<=l/\π l=some q/\q.Cu b)\/Uf ρ b
def p7 (s:MSpec) (w:World) (g:Nat) (us vs:List Value):Prop:=
 match s.ptr with
 |none=>vs=Kp s.Jj us/\dd s.Jj us
 |some p=>vs= .pointer (some ⟨g,0,none⟩)::Kp s.Jj (us.drop p.2)/\dd s.Jj (us.drop p.2)/\p.2<=us.length/\w.heap[g]?=some (.cells (us.take p.2).toArray p.1 (0,0))/\ ∀u∈us.take p.2,u.oneCell'=true
def MSpec.gv (s:MSpec) (g b:Nat):Prop:=s.ptr.isSome=true/\b=g
def Ek (π:Pi):(k:Nat)->(cs:List (Bool×CK))->IOs.den cs->(n:Nat)->List Value->List Value->Prop
 |_,_,_,0,us,_=>us= []
 |k,(true, .row e _)::r,o,n+1,u::us,as=>Hw (π (Ds true k)) e.size 0 (List.length o.1) u/\Ek π (k+1) r o.2 n us as
 |k,(true, .Hk e _)::r,o,n+1,u::us,as=>Hw (π (Ds true k)) e.size 0 (List.length o.1) u/\Ek π (k+1) r o.2 n us as
 |k,(false,_)::r,o,n+1,u::us,a::as=>u=a/\Ek π (k+1) r o n us as
 |_,_,_,_,_,_=>False
def ib (s:MSpec) (π:Pi) (w':World) (g:Nat) (Sf:List Value) (o:IOs.den s.ins):Prop:=
 match s.ptr with
 |none=>True
 |some p=> ∃cs,w'.heap[g]?=some (.cells cs.toArray p.1 (0,0))/\(∀u∈cs,u.oneCell'=true)/\Ek π 0 s.ins o p.2 cs Sf
def yf (w w':World) (r r':Option Real) (n:Nat):Prop:=match r,r' with
 |none,none=>True
 |some q,some q'=>q'.g=q.g/\q'.o=q.o/\q'.cap=q.cap/\ ∀j,j<n->j<q.cap->w'.cell? ⟨q.g,q.o+j,none⟩=w.cell? ⟨q.g,q.o+j,none⟩
 |_,_=>False
def qy (s:MSpec) (w':World) (ρ:Pi) (us:List Value) (v:Value):Prop:=match s.rp with
 |none=>Ac7 s.He s.Ih us v/\dd s.Ih us
 |some tid=> ∃q,ρ (Jp s.outs.length)=some q/\q.Cu q.g/\w'.heap[q.g]?=some (.cells us.toArray tid (0,0))/\(∀u∈us,u.oneCell'=true)/\v= .pointer (some ⟨q.g,0,none⟩)
def MSpec.Ua (s:MSpec):Nat:=s.outs.length+(match s.rp with|none=>0|some _=>1)
structure Ca (P:Program) (f:FuncId) (s:MSpec):Prop where
 enter: ∀args w,(callFunc f args).run P w= .ok (.enter f args) w
 calls: ∀(w:World) (S:Nat->Prop) (π:Pi) (us:List Value) (x:Ins.den s.ins) (r:CKs.den s.outs) (o:IOs.den s.ins) (g:Nat) (vs:List Value),
  p7 s w g us vs->(s.ptr.isSome=true->S g)->eR w (λb=>Uf π b\/S b) π 0 s.ins x us->eS π (λb=>b<w.heap.size)->(∀b,S b->b<w.heap.size/\ ¬Uf π b)->(∀l,Au (a7 0 s.ins x) l=none->π l=none)->s.fn x=some (r,o)->
  Calls P f vs.toArray w λe w'=> ∃v Sf ρ,e= .returned v/\qy s w' ρ (Sf.drop s.aa) v/\ib s π w' g Sf o/\Gy w.heap.size (λb=>Uf π b\/s.gv g b) w w'/\Lo w' (gQ S π ρ) π 0 s.ins o/\Jb w' (gQ S π ρ) ρ 0 s.outs r Sf/\
   eS ρ (λb=>b<w'.heap.size/\(w.heap.size<=b\/ ∃l q,l<Bn/\π l=some q/\q.Cu b))/\(∀l,(∀k,k<s.Ua->l≠Jp k)->ρ l=none)/\(∀kj∈s.keeps,yf w w' (π (Ds false kj.1)) (ρ (Jp kj.2)) (s.Ex x))
def Aid (P:Program) (f:FuncId):Pf->Prop
 | .q s=>Sound P f s
 | .m s=>Ca P f s
 | .b s m=>Sound P f s/\Ca P f m
def Kj (P:Program) (Γ:Env):Prop:= ∀f s,Γ f=some s->Aid P f s
theorem Kj.reg {P:Program} {Γ:Env} (h:Kj P Γ) (draw:Bool):Kj P (CB Γ draw):= λf s hs=>by
 unfold CB at hs
 split at hs
 ·rename_i s0 m Pl
  have:=h f _ Pl
  cases draw with
  |true=>simp only [Pn,Aa] at hs;subst hs;exact this.1
  |false=>simp only [Dh,Tt,Aa] at hs;subst hs;exact this.2
 ·exact h f s hs
theorem Qe {k:IntKind} {n:Int} {fr:Bool} {v:Value} (h:Bp X w π H (.at (.data fr (.int k) n)) v):v= .int k n:=by
 obtain ⟨cs,h1,rfl⟩:=h;simp only [Cells] at h1;subst h1;rfl
theorem al {b:Bool} {fr:Bool} {v:Value} (h:Bp X w π H (.at (.data fr .bool b)) v):v= .bool b:=by
 obtain ⟨cs,h1,rfl⟩:=h;simp only [Cells] at h1;subst h1;rfl
theorem fJ {s:ByteArray} {fr:Bool} {v:Value} (h:Bp X w π H (.at (.data fr .str s)) v):v= .string s:=by
 obtain ⟨cs,h1,rfl⟩:=h;simp only [Cells] at h1;subst h1;rfl
theorem Nd (k:IntKind) (n:Int) (fr:Bool):Bp X w π H (.at (.data fr (.int k) n)) (.int k n):=⟨[.int k n],rfl,rfl⟩
theorem Lq (b:Bool) (fr:Bool):Bp X w π H (.at (.data fr .bool b)) (.bool b):=⟨[.bool b],rfl,rfl⟩
theorem mC (s:ByteArray) (fr:Bool):Bp X w π H (.at (.data fr .str s)) (.string s):=⟨[.string s],rfl,rfl⟩
theorem Akf (f:FuncId):Bp X w π H (.at (.clo f [])) (.func (.func f) #[] #[]):=⟨[],rfl,rfl,λi p hi=>by simp at hi⟩
theorem UI (v:Value):Bp X w π H (nk v) v:=by
 unfold nk
 split
 ·exact Nd _ _ _
 ·exact Lq _ _
 ·exact mC _ _
 ·rfl
 ·rfl
 ·trivial
theorem Dv {st:St} {a:Act} (h:tn X w π st a) (x:Operand):Bp X w π st.heap (st.ev x) (a.eval x):=by
 cases x with
 |tmp t=>exact h.tmps t
 |const v=>exact UI v
 |global g=>trivial
 |func f=>exact Akf f
theorem NO (op:BinOp) (k:IntKind) (a b:Int) (t:TypeId) (av:AV) (h:uy op k a b=some av):
  ∃v,(binOp op t (.int k a) (.int k b)).run P w= .ok v w/\Bp X w π H av v:=by
 cases op<;>simp only [uy,aU,Ph] at h
 case add=>cases h;exact ⟨_,by simp [binOp,Op.intArith],Nd _ _ _⟩
 case sub=>cases h;exact ⟨_,by simp [binOp,Op.intArith],Nd _ _ _⟩
 case mul=>cases h;exact ⟨_,by simp [binOp,Op.intArith],Nd _ _ _⟩
 case quo=>split at h<;>cases h;rename_i hb;exact ⟨_,by simp [binOp,Op.intDiv,hb],Nd _ _ _⟩
 case rem=>split at h<;>cases h;rename_i hb;exact ⟨_,by simp [binOp,Op.intDiv,hb],Nd _ _ _⟩
 case and=>cases h;exact ⟨_,by simp [binOp,Op.intBits],Nd _ _ _⟩
 case or=>cases h;exact ⟨_,by simp [binOp,Op.intBits],Nd _ _ _⟩
 case eql=>cases h;exact ⟨_,by simp [binOp,Op.intCmp],Lq _ _⟩
 case neq=>cases h;exact ⟨_,by simp [binOp,Op.intCmp],Lq _ _⟩
 case lss=>cases h;exact ⟨_,by simp [binOp,Op.intCmp],Lq _ _⟩
 case leq=>cases h;exact ⟨_,by simp [binOp,Op.intCmp],Lq _ _⟩
 case gtr=>cases h;exact ⟨_,by simp [binOp,Op.intCmp],Lq _ _⟩
 case geq=>cases h;exact ⟨_,by simp [binOp,Op.intCmp],Lq _ _⟩
 all_goals cases h
theorem FN (op:BinOp) (x y:AV) (vx vy:Value) (ox oy:Operand) (t:TypeId) (av:AV) (hx:Bp X w π H x vx) (hy:Bp X w π H y vy) (h:evalBin op x y=some av):
  ∃v,(do eqGuard op t ox oy vx vy;binOp op t vx vy:Sem Value).run P w= .ok v w/\Bp X w π H av v:=by
 unfold evalBin at h
 split at h
 ·rename_i k a _ k' b
  have:=Qe hx;subst this
  have:=Qe hy;subst this
  have hg: ∀op,(eqGuard op t ox oy (.int k a) (.int k' b)).run P w= .ok () w:=by intro op;cases op<;>simp [eqGuard]
  split at h
  ·split at h
   ·cases h
   ·rename_i hb
    simp only [aU,Aa] at h;subst h
    exact ⟨_,by rw [Sem.run_bind,hg];simp [binOp,Op.shift,hb],Nd _ _ _⟩
  ·split at h
   ·cases h
   ·rename_i hb
    simp only [aU,Aa] at h;subst h
    exact ⟨_,by rw [Sem.run_bind,hg];simp [binOp,Op.shift,hb],Nd _ _ _⟩
  ·split at h
   ·rename_i hk;subst hk
    obtain ⟨v,h1,h2⟩:=NO (P:=P) (w:=w) (X:=X) (π:=π) (H:=H) op k a b t av h
    exact ⟨v,by rw [Sem.run_bind,hg];exact h1,h2⟩
   ·cases h
 ·rename_i a _ b
  have:=fJ hx;subst this
  have:=fJ hy;subst this
  have hg: ∀op,(eqGuard op t ox oy (.string a) (.string b)).run P w= .ok () w:=by intro op;cases op<;>simp [eqGuard]
  split at h
  ·simp only [Ph,Aa] at h;subst h
   exact ⟨_,by rw [Sem.run_bind,hg];simp [binOp,Op.stringOp],Lq _ _⟩
  ·simp only [Ph,Aa] at h;subst h
   exact ⟨_,by rw [Sem.run_bind,hg];simp [binOp,Op.stringOp],Lq _ _⟩
  ·split at h
   ·rename_i hl
    simp only [Aa] at h;subst h
    exact ⟨_,by rw [Sem.run_bind,hg];simp only [Result.andThen_ok,binOp];exact run_string_add_sum w a b (by omega),mC _ _⟩
   ·cases h
  ·cases h
 ·cases h
theorem jt {t:TypeId} (h:P.underlying t=some .bool) (a b:Bool) (w:World):(Op.equal t (.bool a) (.bool b)).run P w= .ok (a==b) w:=by
 unfold Op.equal
 rw [show Op.maxDepth=9999+1 from rfl]
 unfold Op.equalIn
 rw [Sem.run_bind,run_underlying h]
 rfl
theorem HX (hT:Eb P T) {x:AV} {vx:Value} {b:Bool} {t:TypeId} (hx:Bp X w π H x vx) (h:dX x=some b) (ht:(T.elem t).isSome=true):
  (∃a len cap,vx= .slice a len cap/\(match a with|none=>true|some _=>false)=b)/\(Op.equal t vx (.slice none 0 0)).run P w= .ok b w:=by
 have h1: ∃a len cap,vx= .slice a len cap/\(match a with|none=>true|some _=>false)=b:=by
  unfold dX at h
  split at h
  ·simp only [Aa] at h;subst h
   have hx:vx= .slice none 0 0:=hx
   exact ⟨none,0,0,hx,rfl⟩
  ·simp only [Aa] at h;subst h
   obtain ⟨cs,hc,rfl⟩:=hx
   simp only [Cells] at hc
   rcases hc with ⟨rfl,c,rfl⟩|⟨xs,ad,len,cap,rfl,rfl,_⟩
   ·exact ⟨none,0,c,by simp [Cf,Ty.Aq],rfl⟩
   ·exact ⟨some ad,len,cap,by simp [Cf,Ty.Aq],rfl⟩
  ·cases h
 refine ⟨h1,?_⟩
 obtain ⟨a,len,cap,rfl,rfl⟩:=h1
 obtain ⟨te,lv⟩:=hJ.1 ht
 have hu:=hT.elem t te lv
 unfold Op.equal
 rw [show Op.maxDepth=9999+1 from rfl]
 unfold Op.equalIn
 rw [Sem.run_bind,run_underlying hu]
 cases a<;>rfl
theorem HW (hT:Eb P T) {x:AV} {vx:Value} {b:Bool} {t:TypeId} (hx:Bp X w π H x vx) (h:dW x=some b) (ht:Ab4 (T.ty t)=true):
  (∃a,vx= .pointer a/\(match a with|none=>true|some _=>false)=b)/\(Op.equal t vx (.pointer none)).run P w= .ok b w:=by
 have h1: ∃a,vx= .pointer a/\(match a with|none=>true|some _=>false)=b:=by
  unfold dW at h
  split at h
  ·simp only [Aa] at h;subst h
   have hx:vx= .pointer none:=hx
   exact ⟨none,hx,rfl⟩
  ·simp only [Aa] at h;subst h
   obtain ⟨r,tid,vs,_,_,rfl⟩:=hx
   exact ⟨_,rfl,rfl⟩
  ·simp only [Aa] at h;subst h
   obtain ⟨cs,hc,rfl⟩:=hx
   simp only [Cells] at hc
   rcases hc with ⟨rfl,rfl⟩|⟨xs,g,o,rfl,rfl,_⟩
   ·exact ⟨none,by simp [Cf,Ty.Aq],rfl⟩
   ·exact ⟨some ⟨g,o,none⟩,by simp [Cf,Ty.Aq],rfl⟩
  ·simp only [Aa] at h;subst h
   obtain ⟨cs,hc,rfl⟩:=hx
   simp only [Cells] at hc
   obtain ⟨g,o,rfl,_⟩:=hc
   exact ⟨some ⟨g,o,none⟩,by simp [Cf,Ty.Aq],rfl⟩
  ·cases h
 refine ⟨h1,?_⟩
 obtain ⟨a,rfl,rfl⟩:=h1
 have hu: ∃u,P.underlying t=some (.pointer u):=by
  cases Yg:T.ty t with
  |none=>rw [Yg] at ht;cases ht
  |some τ=>
   have hd:=(hT.ty t τ Yg).desc
   rw [Yg] at ht
   cases τ<;>first|exact hd|cases ht
 obtain ⟨u,hu⟩:=hu
 unfold Op.equal
 rw [show Op.maxDepth=9999+1 from rfl]
 unfold Op.equalIn
 rw [Sem.run_bind,run_underlying hu]
 cases a<;>rfl
theorem zQ {T:Tab} (hT:Eb P T) (op:BinOp) (x y:AV) (vx vy:Value) (ox oy:Operand) (t:TypeId) (av:AV) (hx:Bp X w π H x vx) (hy:Bp X w π H y vy) (h:Tx T op t x y=some av):
  ∃v,(do eqGuard op t ox oy vx vy;binOp op t vx vy:Sem Value).run P w= .ok v w/\Bp X w π H av v:=by
 unfold Tx at h
 split at h
 ·split at h
  ·rename_i ht
   cases hn:dX x with
   |none=>rw [hn] at h;cases h
   |some b=>
    rw [hn] at h
    simp only [Fh,Ph,Aa] at h;subst h
    have hy:vy= .slice none 0 0:=hy
    subst hy
    obtain ⟨⟨a,len,cap,rfl,_⟩,h2⟩:=HX hT hx hn ht
    exact ⟨.bool b,by rw [Sem.run_bind];simp [eqGuard,binOp,h2],Lq _ _⟩
  ·cases h
 ·split at h
  ·rename_i ht
   cases hn:dW x with
   |none=>rw [hn] at h;cases h
   |some b=>
    rw [hn] at h
    simp only [Fh,Ph,Aa] at h;subst h
    have hy:vy= .pointer none:=hy
    subst hy
    obtain ⟨⟨a,rfl,_⟩,h2⟩:=HW hT hx hn ht
    exact ⟨.bool b,by rw [Sem.run_bind];simp [eqGuard,binOp,h2],Lq _ _⟩
  ·cases h
 ·split at h
  ·rename_i ht
   cases hn:dX x with
   |none=>rw [hn] at h;cases h
   |some b=>
    rw [hn] at h
    simp only [Fh,Ph,Aa] at h;subst h
    have hy:vy= .slice none 0 0:=hy
    subst hy
    obtain ⟨⟨a,len,cap,rfl,_⟩,h2⟩:=HX hT hx hn ht
    exact ⟨.bool (!b),by rw [Sem.run_bind];simp [eqGuard,binOp,h2],Lq _ _⟩
  ·cases h
 ·split at h
  ·rename_i ht
   cases hn:dW x with
   |none=>rw [hn] at h;cases h
   |some b=>
    rw [hn] at h
    simp only [Fh,Ph,Aa] at h;subst h
    have hy:vy= .pointer none:=hy
    subst hy
    obtain ⟨⟨a,rfl,_⟩,h2⟩:=HW hT hx hn ht
    exact ⟨.bool (!b),by rw [Sem.run_bind];simp [eqGuard,binOp,h2],Lq _ _⟩
  ·cases h
 ·rename_i a _ b
  have:=al hx;subst this
  have:=al hy;subst this
  split at h
  ·rename_i ht
   simp only [Ph,Aa] at h;subst h
   have hu:P.underlying t=some .bool:=(hT.ty t _ ht).desc
   exact ⟨_,by rw [Sem.run_bind];simp [eqGuard,binOp,jt hu],Lq _ _⟩
  ·cases h
 ·rename_i a _ b
  have:=al hx;subst this
  have:=al hy;subst this
  split at h
  ·rename_i ht
   simp only [Ph,Aa] at h;subst h
   have hu:P.underlying t=some .bool:=(hT.ty t _ ht).desc
   exact ⟨_,by rw [Sem.run_bind];simp [eqGuard,binOp,jt hu],Lq _ _⟩
  ·cases h
 ·exact FN op x y vx vy ox oy t av hx hy h
theorem MS (op:UnOp) (x:AV) (vx:Value) (av:AV) (hx:Bp X w π H x vx) (h:zU op x=some av):
  ∃v,(Op.unary op vx).run P w= .ok v w/\Bp X w π H av v:=by
 unfold zU at h
 split at h
 ·have:=al hx;subst this
  simp only [Ph,Aa] at h;subst h
  exact ⟨_,by simp [Op.unary],Lq _ _⟩
 ·have:=Qe hx;subst this
  simp only [aU,Aa] at h;subst h
  exact ⟨_,by simp [Op.unary,Op.intArith],Nd _ _ _⟩
 ·cases h
theorem Ip {t:TypeId} {τ:Ty} (ht:p9 P T t τ) (g o:Nat) (es:List Value) (hl:es.length=τ.size) (hc: ∀j u,es[j]?=some u->w.cell? ⟨g,o+j,none⟩=some u):
  (loadVar t ⟨g,o,none⟩).run P w= .ok (Cf τ es) w:=by
 unfold loadVar
 rw [Sem.run_bind,ht.agg,Result.andThen_ok]
 cases hs:τ.Aq with
 |true=>
  simp only [Pn,Sem.run_bind,ht.size,Result.andThen_ok]
  rw [<-hl,run_loadCells_list w ⟨g,o,none⟩ es (λj v hv=>by rw [Addr.add_lit];exact hc j v hv)]
  simp [Cf,hs]
 |false=>
  have h1:τ.size=1:=by cases τ<;>simp_all [Ty.Aq,Ty.size]
  rw [h1] at hl
  obtain ⟨u,rfl⟩:=Df.1 hl
  have:=hc 0 u rfl
  simp only [Ez] at this
  simp [this,Cf,hs]
theorem vq {fr:Bool} {τ:Ty} {x:τ.den} {v:Value} (h:Bp X w π H (.at (.data fr τ x)) v):Bp X w π H (.at (.data (fr||τ.flat) τ x)) v:=by
 cases hf:τ.flat with
 |true=>exact Ct.flat hf h
 |false=>rw [gY];exact h
theorem xr {cs ds:List AC} {us vs:List Value} (h1:Fv X w π H cs us) (h2:Fv X w π H ds vs):Fv X w π H (cs++ds) (us++vs):=by
 have e1:=h1.1
 refine ⟨by simp [h1.1,h2.1],λi c hc=>?_⟩
 by_cases hi:i<cs.length
 ·rw [As hi] at hc
  obtain ⟨u,hu,h3⟩:=h1.2 i c hc
  exact ⟨u,by rw [As (by omega)];exact hu,h3⟩
 ·rw [Ar (by omega)] at hc
  obtain ⟨u,hu,h3⟩:=h2.2 _ c hc
  exact ⟨u,by rw [Ar (by omega),e1];exact hu,h3⟩
theorem fI {c:AC} {u:Value} (h1:u.oneCell'=true) (h2:Hm X w π H c u):Fv X w π H [c] [u]:=⟨rfl,λi c' hc=>by
 rcases i with _|i
 ·simp at hc;subst hc;exact ⟨u,rfl,h1,h2⟩
 ·simp at hc⟩
theorem QP {l i:Nat} {e:Ty} {tid:TypeId} {xs:List e.den} {r:Real} (hl:Au H l=some (.Gu e tid xs)) (hp:π l=some r) (hi:i<xs.length): ∀(τ:Ty) (c:Nat) (F:List Nat) (us:List Value) (x:τ.den),
  Ch w F τ us x->c+τ.size<=e.size->(∀j u,us[j]?=some u->w.cell? ⟨r.g,(r.o+i)*e.size+(c+j),none⟩=some u)->Fv X w π H (fV l i c τ x) us:=by
 intro τ
 induction τ with
 |unit=>intro c F us x h _ _;simp only [Ch] at h;obtain ⟨_,rfl⟩:=h;exact ⟨rfl,λi c hc=>by simp [fV] at hc⟩
 |pair a r hZ gW=>
  intro c F us x h hle hc
  have s9:=Ch.cells (S:= λ_=>False) F _ us x h (λ_ _ h=>h)
  simp only [Ch] at h
  obtain ⟨c1,c2,F1,F2,rfl,rfl,h1,h2⟩:=h
  have kl:c1.length=a.size:=Cells.len a c1 x.1 (Ch.cells (S:= λ_=>False) F1 a c1 x.1 h1 (λ_ _ h=>h))
  simp only [Ty.size] at hle
  refine xr (hZ c F1 c1 x.1 h1 (by omega) λj u hu=>hc j u (by rw [As (An.1 hu).1];exact hu)) (gW (c+a.size) F2 c2 x.2 h2 (by omega) λj u hu=>?_)
  have:=hc (a.size+j) u (by rw [Ar (by omega),kl];simpa using hu)
  rw [show c+a.size+j=c+(a.size+j) by omega];exact this
 |int k=>intro c F us x h _ _;simp only [Ch] at h;obtain ⟨_,rfl⟩:=h;exact fI rfl (Nd (H:=H) k x true)
 |bool=>intro c F us x h _ _;simp only [Ch] at h;obtain ⟨_,rfl⟩:=h;exact fI rfl (Lq (H:=H) x true)
 |str=>intro c F us x h _ _;simp only [Ch] at h;obtain ⟨_,rfl⟩:=h;exact fI rfl (mC (H:=H) x true)
 |slice e'=>
  intro c F us x h hle hc
  simp only [Ch] at h
  obtain ⟨a,len,cap,rfl,_⟩:=h
  exact fI rfl ⟨r,_,e.size,xs.length,hl,rfl,hp,hi,⟨by simp only [Ty.size] at hle;omega,_,_,_,rfl⟩,by simpa using hc 0 _ rfl⟩
 |_=>intro c F us x h;simp only [Ch] at h
theorem nw (hT:Eb P T) {st:St} {a:Act} (h:Bl X π st a w) (t:TypeId) (p:AV) (vp:Value) (av:AV) (hp:Bp X w π st.heap p vp) (he:Qh T st t p=some av):
  ∃v,(Instr.loadAt t vp).run P w= .ok v w/\Bp X w π st.heap av v:=by
 unfold Qh at he
 split at he
 ·rename_i τ fr Oh x ht
  split at he
  ·rename_i Tz
   subst Tz
   simp only [Aa] at he;subst he
   have Yg:=hT.ty _ _ ht
   obtain ⟨cs,hc,rfl⟩:=hp
   simp only [Cells] at hc
   obtain ⟨g,o,rfl,hg,hn,es,hl,Zx,c5⟩:=hc
   refine ⟨Cf Oh es,?_,vq (show Bp X w π st.heap (.at (.data fr Oh _)) (Cf Oh es) from ⟨es,c5,rfl⟩)⟩
   have hr:=Ip (P:=P) (w:=w) Yg g o es hl Zx
   show (do loadVar t (<-Instr.sureAddr (.pointer (some ⟨g,o,none⟩))):Sem Value).run P w=_
   simpa [Instr.sureAddr] using hr
  ·cases he
 ·rename_i τ fr Oh x ht
  split at he
  ·rename_i Tz
   subst Tz
   simp only [Aa] at he;subst he
   have Yg:=hT.ty _ _ ht
   obtain ⟨cs,hc,rfl⟩:=hp
   simp only [Cells] at hc
   rcases hc with ⟨h0,_⟩|⟨y,g,o,h0,rfl,hg,hn,es,hl,Zx,c5⟩
   ·cases h0
   simp only [Aa] at h0;subst h0
   refine ⟨Cf Oh es,?_,vq (show Bp X w π st.heap (.at (.data fr Oh _)) (Cf Oh es) from ⟨es,c5,rfl⟩)⟩
   have hr:=Ip (P:=P) (w:=w) Yg g o es hl Zx
   show (do loadVar t (<-Instr.sureAddr (.pointer (some ⟨g,o,none⟩))):Sem Value).run P w=_
   simpa [Instr.sureAddr] using hr
  ·cases he
 ·rename_i τ l i ht
  have Yg:=hT.ty _ _ ht
  split at he
  ·rename_i tid vs hl
   obtain ⟨r,Vb,vs',h1,h2,rfl⟩:=hp
   unfold St.at at hl
   rw [hl] at h1;cases h1
   obtain ⟨r',h3,h4,cur,h5,h6⟩:=(h.1.heap l).Qm hl
   rw [h2] at h3;cases h3
   split at he
   ·rename_i hs
    split at he
    ·rename_i hlen
     simp only [Aa] at he;subst he
     have Pe:cur.toList.length=vs.length:=h6.1
     refine ⟨_,by
      simp only [Instr.loadAt,Instr.sureAddr]
      simpa using Ip (P:=P) (w:=w) Yg r.g i ((cur.toList.drop i).take τ.size) (by simp at Pe⊢;omega) (λj u hu=>by
       rw [cellOf h5]
       rw [Cx] at hu
       split at hu
       ·rw [Cw] at hu;simpa using hu
       ·cases hu),?_⟩
     exact ⟨_,by simp [Cf,hs],ak h6 i τ.size⟩
    ·cases he
   ·rename_i hs
    simp only [Ii] at hs
    have h1:τ.size=1:=by cases τ<;>simp_all [Ty.Aq,Ty.size]
    cases hi:vs[i]? with
    |none=>rw [hi] at he;cases he
    |some c=>
     rw [hi] at he
     simp only [Am,Aa] at he;subst he
     obtain ⟨u,hu,_,hc⟩:=h6.2 i c hi
     refine ⟨u,?_,hc⟩
     simp only [Instr.loadAt,Instr.sureAddr]
     have:=Ip (P:=P) (w:=w) Yg r.g i [u] (by simp [h1]) (λj u' fj=>by
       rcases j with _|j
       ·simp at fj;subst fj;rw [Ez,cellOf h5];simpa using hu
       ·simp at fj)
     simpa [Cf,hs] using this
  ·cases he
 ·rename_i τ l i ht
  have Yg:=hT.ty _ _ ht
  split at he
  ·rename_i fr tr e tid xs hl
   split at he
   ·rename_i heq;subst heq
    obtain ⟨r,b,sz,n,h1,h0,h2,h3,rfl⟩:=hp
    unfold St.at at hl
    rw [hl] at h1;cases h1
    simp only [OB.row,Aa,Ad] at h0
    obtain ⟨rfl,rfl⟩:=h0
    have hb:=(h.1.heap l).Qm hl
    simp only [Cj,Jw,h3] at hb
    obtain ⟨h4,cur,_,h5,h6,h7,h8,h9,_⟩:=hb
    have hx:xs[i]?=some xs[i]:=Ac h2
    rw [hx] at he
    simp only [Am,Aa] at he;subst he
    obtain ⟨es,hY,hj,s9⟩:=h9 i _ hx
    refine ⟨Cf e es,?_,vq (show Bp X w π st.heap (.at (.data fr e _)) (Cf e es) from ⟨es,s9,rfl⟩)⟩
    simp only [Instr.loadAt,Instr.sureAddr]
    simpa using Ip (P:=P) (w:=w) Yg r.g ((r.o+i)*e.size) es hY (λj u hu=>by rw [cellOf h5];exact hj j u hu)
   ·cases he
  ·rename_i e tid xs hl
   split at he
   ·rename_i heq;subst heq
    obtain ⟨r,b,sz,n,h1,h0,h2,h3,rfl⟩:=hp
    unfold St.at at hl
    rw [hl] at h1;cases h1
    simp only [OB.row,Aa,Ad] at h0
    obtain ⟨rfl,rfl⟩:=h0
    have hb:=(h.1.heap l).Qm hl
    simp only [Cj,Ny,h3] at hb
    obtain ⟨h4,cur,_,h5,h6,h7,h8,Fs,k1,k2,k3,k4⟩:=hb
    have hx:xs[i]?=some xs[i]:=Ac h2
    rw [hx] at he
    simp only [Am,Aa] at he;subst he
    obtain ⟨es,hY,hj,s9⟩:=k4 i _ _ hx (Ac (by omega))
    have hrs:=QP (X:=X) (H:=st.heap) hl h3 h2 e 0 _ es _ s9 (by omega) (λj u hu=>by rw [cellOf h5,Bv];exact hj j u hu)
    refine ⟨Cf e es,?_,?_⟩
    ·simp only [Instr.loadAt,Instr.sureAddr]
     simpa using Ip (P:=P) (w:=w) Yg r.g ((r.o+i)*e.size) es hY (λj u hu=>by rw [cellOf h5];exact hj j u hu)
    ·cases Ts:e.Aq with
     |true=>rw [Ab rfl];exact ⟨es,by simp [Cf,Ts],hrs⟩
     |false=>
      rw [Ag (by simp)]
      have h1:e.size=1:=by cases e<;>simp_all [Ty.Aq,Ty.size]
      rw [h1] at hY
      obtain ⟨u,rfl⟩:=Df.1 hY
      have kl:=hrs.1
      generalize fV l i 0 e xs[i]=sc at*
      simp only [Az,Gd] at kl
      obtain ⟨c,rfl⟩:=Df.1 kl.symm
      obtain ⟨u',fj,_,GD⟩:=hrs.2 0 c rfl
      simp at fj;subst fj
      have e1:Cf e [u]=u:=by simp [Cf,Ts]
      rw [e1]
      exact GD
   ·cases he
  ·rename_i e te rows kp hl
   split at he
   ·cases he
   ·rename_i Ts
    simp only [Ii] at Ts
    simp only [Aa] at he;subst he
    obtain ⟨r,b,sz,n,h1,h0,h2,h3,rfl⟩:=hp
    unfold St.at at hl
    rw [hl] at h1;cases h1
    simp only [OB.row,Aa,Ad] at h0
    obtain ⟨rfl,rfl⟩:=h0
    obtain ⟨u,R,k1,k2,k3⟩:=nH h.1 hl h3 h2 (by simp)
    have aO:τ.size=1:=by cases τ<;>simp_all [Ty.Aq,Ty.size]
    refine ⟨u,?_,r,_,1,rows.length,hl,rfl,h3,h2,⟨by omega,bl k2⟩,by rw [Ft,Ez];exact k1⟩
    simp only [Instr.loadAt,Instr.sureAddr]
    have:=Ip (P:=P) (w:=w) Yg r.g ((r.o+i)*1) [u] (by simp [aO]) (λj u' fj=>by
     rcases j with _|j
     ·simp at fj;subst fj;rw [Ft,Ez];exact k1
     ·simp at fj)
    simpa [Cf,Ts] using this
  ·cases he
 ·rename_i τ l i j ht
  have Yg:=hT.ty _ _ ht
  split at he
  ·rename_i e te rows kp hl
   split at he
   ·rename_i heq;subst heq
    simp only [Aa] at he;subst he
    obtain ⟨r,b,n,sz,g,o,len,cap,h1,h0,h2,h3,h4,h5,rfl⟩:=hp
    unfold St.at at hl
    rw [hl] at h1;cases h1
    simp only [OB.wQ,Aa,Ad] at h0
    obtain ⟨rfl,rfl⟩:=h0
    obtain ⟨u,R,k1,k2,k3⟩:=nH h.1 hl h2 h3 (by simp)
    rw [h5] at k1
    have hu:=Ba k1
    subst hu
    cases R with
    |none=>obtain ⟨hh,_⟩:=k2;cases hh
    |some q=>
     obtain ⟨ad,hh,g1,g2⟩:=k2
     simp only [Value.slice.injEq,Aa] at hh
     obtain ⟨rfl,rfl,rfl⟩:=hh
     have MV:=g2 (by omega)
     simp only [Addr.mk.injEq,Ol] at MV
     obtain ⟨rfl,rfl⟩:=MV
     obtain ⟨f1,cur,ti,f2,f3,f4,f5,f6⟩:=k3
     have hj:(rows.getD i [])[j]?=some ((rows.getD i []).getD j e.zero):=by rw [Ak (l:=rows.getD i []),Ac h4];rfl
     obtain ⟨es,hY,c1,c2⟩:=f6 j _ hj
     refine ⟨Cf e es,?_,vq (fr:=false) (show Bp X w π st.heap (.at (.data false e _)) (Cf e es) from ⟨es,c2,rfl⟩)⟩
     simp only [Instr.loadAt,Instr.sureAddr]
     simpa using Ip (P:=P) (w:=w) Yg q.g ((q.o+0)*e.size+j*e.size) es hY (λm u hu=>by rw [cellOf f2,Ez,<-Dd];exact c1 m u hu)
   ·cases he
  ·cases he
 ·cases he
theorem Aay {α:Type} {xs:List α} {n:Int} {x:α} (h:idx xs n=some x):0<=n/\n<xs.length/\xs[n.toNat]?=some x:=by
 unfold idx at h
 split at h
 ·rename_i h0
  have:=(An.1 h).1
  exact ⟨h0,by omega,h⟩
 ·cases h
theorem sK (hT:Eb P T) {t:TypeId} {e:Ty} (h:(T.elem t).bind T.ty=some e): ∃te,T.elem t=some te/\T.ty te=some e/\P.underlying t=some (.slice te)/\P.elem t=te:=by
 cases ht:T.elem t with
 |none=>rw [ht] at h;cases h
 |some te=>
  rw [ht] at h
  have hu:=hT.elem t te ht
  exact ⟨te,rfl,h,hu,by simp [Program.elem,hu]⟩
theorem nv (hT:Eb P T) {st:St} {a:Act} (h:Bl X π st a w) (t:TypeId) (x i:AV) (vx vi:Value) (av:AV) (hx:Bp X w π st.heap x vx) (hi:Bp X w π st.heap i vi)
  (he:Kl T st t x i=some av): ∃v,(Instr.indexAt t vx vi).run P w= .ok v w/\Bp X w π st.heap av v:=by
 unfold Kl at he
 split at he
 ·rename_i fr e xs _ k n
  have:=Qe hi;subst this
  split at he
  ·rename_i lq
   obtain ⟨te,h1,h2,h3,h4⟩:=sK hT lq
   cases hix:idx xs n with
   |none=>rw [hix] at he;cases he
   |some y=>
    rw [hix] at he
    simp only [Am,Aa] at he;subst he
    obtain ⟨h5,h6,h7⟩:=Aay hix
    obtain ⟨cs,hc,rfl⟩:=hx
    simp only [Cells] at hc
    obtain ⟨ad,len,cap,rfl,hlen,ug,NB⟩:=hc
    rcases NB with rfl|⟨g,o,rfl,hg,hn,Kf⟩
    ·simp at h6;omega
    ·obtain ⟨es,hY,Zx,c5⟩:=Kf _ _ h7
     have aO:=(hT.ty _ _ h2).size (w:=w)
     refine ⟨.pointer (some ⟨g,o+n.toNat*e.size,none⟩),?_,[_],⟨g,_,rfl,hg,hn,es,hY,Zx,c5⟩,by simp [Cf,Ty.Aq]⟩
     simp only [Cf,Ty.Aq,Dh,Tt,ij]
     rw [run_indexAt_slice (P:=P) w t _ _ _ k n (by rw [h3,h4]),Ab ⟨h5,by omega⟩,h4,aO,Result.andThen_ok,Addr.add_lit]
  ·cases he
 ·rename_i l off len _ k n
  have:=Qe hi;subst this
  split at he
  ·rename_i fr tr e tid xs hl
   split at he
   ·rename_i Jn
    obtain ⟨h1,h2,h56⟩:=Jn
    obtain ⟨h5,h6⟩:=Uh.1 h56
    simp only [Aa] at he;subst he
    have h3:=hT.elem t tid h1
    have h4:P.elem t=tid:=by simp [Program.elem,h3]
    unfold St.at at hl
    have Kn:=hl
    obtain ⟨h8,h9⟩:=On (X:=X) (w:=w) hx hl
    cases hp:π l with
    |none=>rw [hp] at h9;obtain ⟨_,_,h9⟩:=h9;omega
    |some r=>
     rw [hp] at h9
     obtain ⟨ad,rfl,oY,gS⟩:=h9
     have h12:=gS (by omega)
     subst h12
     have aO:=(hT.ty _ _ h2).size (w:=w)
     refine ⟨.pointer (some ⟨r.g,(r.o+off)*e.size+n.toNat*e.size,none⟩),?_,r,_,e.size,xs.length,Kn,rfl,by omega,hp,?_⟩
     ·rw [run_indexAt_slice (P:=P) w t _ _ _ k n (by rw [h3,h4]),Ab ⟨h5,by omega⟩,h4,aO,Result.andThen_ok,Addr.add_lit]
     ·rw [<-Gq r.o off n.toNat,Dd (r.o+off)]
   ·cases he
  ·rename_i e tid xs hl
   split at he
   ·rename_i Jn
    obtain ⟨h1,h2,h56⟩:=Jn
    obtain ⟨h5,h6⟩:=Uh.1 h56
    simp only [Aa] at he;subst he
    have h3:=hT.elem t tid h1
    have h4:P.elem t=tid:=by simp [Program.elem,h3]
    unfold St.at at hl
    have Kn:=hl
    obtain ⟨h8,h9⟩:=ck (X:=X) (w:=w) hx hl
    cases hp:π l with
    |none=>rw [hp] at h9;obtain ⟨_,_,h9⟩:=h9;omega
    |some r=>
     rw [hp] at h9
     obtain ⟨ad,rfl,oY,gS⟩:=h9
     have h12:=gS (by omega)
     subst h12
     have aO:=(hT.ty _ _ h2).size (w:=w)
     refine ⟨.pointer (some ⟨r.g,(r.o+off)*e.size+n.toNat*e.size,none⟩),?_,r,_,e.size,xs.length,Kn,rfl,by omega,hp,?_⟩
     ·rw [run_indexAt_slice (P:=P) w t _ _ _ k n (by rw [h3,h4]),Ab ⟨h5,by omega⟩,h4,aO,Result.andThen_ok,Addr.add_lit]
     ·rw [<-Gq r.o off n.toNat,Dd (r.o+off)]
   ·cases he
  ·rename_i e te rows out kp hl
   split at he
   ·rename_i Jn
    obtain ⟨h1,h2,h56⟩:=Jn
    obtain ⟨h5,h6⟩:=Uh.1 h56
    simp only [Aa] at he;subst he
    have h3:=hT.elem t te h1
    have h4:P.elem t=te:=by simp [Program.elem,h3]
    unfold St.at at hl
    have Kn:=hl
    obtain ⟨h8,h9⟩:=og (X:=X) (w:=w) hx hl
    cases hp:π l with
    |none=>rw [hp] at h9;obtain ⟨_,_,h9⟩:=h9;omega
    |some r=>
     rw [hp] at h9
     obtain ⟨ad,rfl,oY,gS⟩:=h9
     have h12:=gS (by omega)
     subst h12
     cases lv:T.ty te with
     |none=>rw [lv] at h2;cases h2
     |some τ=>
      rw [lv] at h2
      have h2:τ.size=1:=Ba h2
      have aO:=(hT.ty _ _ lv).size (w:=w)
      refine ⟨.pointer (some ⟨r.g,(r.o+off)*1+n.toNat*τ.size,none⟩),?_,r,_,1,rows.length,Kn,rfl,by omega,hp,?_⟩
      ·rw [run_indexAt_slice (P:=P) w t _ _ _ k n (by rw [h3,h4]),Ab ⟨h5,by omega⟩,h4,aO,Result.andThen_ok,Addr.add_lit]
      ·rw [h2,<-Gq r.o off n.toNat,Dd (r.o+off)]
   ·cases he
  ·cases he
 ·rename_i l i c _ k n
  have:=Qe hi;subst this
  split at he
  ·rename_i e te rows kp hl
   split at he
   ·rename_i Jn
    obtain ⟨h2,h56⟩:=Jn
    obtain ⟨h5,h6⟩:=Uh.1 h56
    simp only [Aa] at he;subst he
    cases lv:T.elem t with
    |none=>rw [lv] at h2;cases h2
    |some Rf=>
     rw [lv] at h2
     cases Yg:T.ty Rf with
     |none=>rw [Fh,Yg] at h2;cases h2
     |some τ=>
      rw [Fh,Yg] at h2
      have h2:τ.size=e.size:=Ba h2
      have h3:=hT.elem t Rf lv
      have h4:P.elem t=Rf:=by simp [Program.elem,h3]
      unfold St.at at hl
      obtain ⟨r,b,sz,m,g1,g0,g2,g3,⟨g4,_⟩,g5⟩:=hx
      rw [hl] at g1;cases g1
      simp only [OB.gz,Aa,Ad] at g0
      obtain ⟨rfl,rfl⟩:=g0
      have lk:c=0:=by omega
      subst lk
      rw [Ft,Ez] at g5
      obtain ⟨u,R,k1,k2,k3⟩:=nH h.1 hl g2 g3 (by simp)
      rw [g5] at k1
      have hu:=Ba k1
      subst hu
      cases R with
      |none=>obtain ⟨_,_,hh⟩:=k2;omega
      |some q=>
       obtain ⟨ad,rfl,f1,f2⟩:=k2
       have MV:=f2 (by omega)
       subst MV
       have aO:=(hT.ty _ _ Yg).size (w:=w)
       refine ⟨.pointer (some ⟨q.g,(q.o+0)*e.size+n.toNat*τ.size,none⟩),?_,r,_,rows.length,e.size,q.g,(q.o+0)*e.size,_,_,hl,rfl,g2,g3,by omega,g5,by rw [h2]⟩
       rw [run_indexAt_slice (P:=P) w t _ _ _ k n (by rw [h3,h4]),Ab ⟨h5,by omega⟩,h4,aO,Result.andThen_ok,Addr.add_lit]
   ·cases he
  ·cases he
 ·cases he
end
end Go.Proofs.YtfolipnappekaaaGreat
