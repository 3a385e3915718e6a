/-
  Part 7 of the proof that the statement FnIterativeDeepening holds.
-/
import Derived.Test.YtkkdpknjohcekaaGreatCFIterativeDeepening05
namespace Go.Proofs.YtkkdpknjohcekaaGreat
open Go.RowKit
section
variable {P:Program} {T:Tab} {X:Ctx} {w w':World} {π:Pi} {H:List (Nat×OB)}
def OC (P:Program) (X:Ctx) (π:Pi) (H:List (Nat×OB)) (w:World) (av:AV):Result Next->Prop
 | .ok (.value v) w'=>w'=w/\Bm X w π H av v
 | .ok (.enter f args) w'=>w'=w/\Calls P f args w (λe qQ=> ∃v,e= .returned v/\Below w.heap.size w qQ/\Bm X qQ π H av v)
 |_=>False
def lD (s:Spec) (w:World) (S:Nat->Prop) (v:Value) (y:s.res.den):Prop:=
 if s.Ib then ∃us:List Value,v= .tuple us.toArray/\Cp w S s.res us y else Ct w S s.res v y
structure Sound (P:Program) (f:FuncId) (s:Spec):Prop where
 enter: ∀args w,(callFunc f args).run P w= .ok (.enter f args) w
 calls: ∀(w:World) (S:Nat->Prop) (vs:List Value) (x:s.arg.den) (y:s.res.den),(∀k,S k->k<w.heap.size)->Cp w S s.arg vs x->s.fn x=some y->
  Calls P f vs.toArray w λe w'=> ∃v,e= .returned v/\Below w.heap.size w w'/\lD s w' (λb=>S b\/(s.fresh=true/\b<w.heap.size)) v y
def gk (w:World) (D:Nat->Prop) (r:Option Real):(c:CK)->c.den->Prop
 | .Eh _,_=>r=none
 | .row e _,xs=>Tl w D r e xs
 | .Ij e te,xs=>Oh w r e te xs
 | .part e _,x=>e.flat=true/\Tl w D r e x.1
 | .Bn e _ _,rows=>aB w D r e rows none
def eP (w:World) (D:Nat->Prop) (r:Option Real) (v:Value):(c:CK)->c.den->Prop
 | .Eh τ,x=>r=none/\Ct w D τ v x
 | .row e te,xs=>Ip r e.size 0 (List.length xs) v/\gk w D r (.row e te) xs
 | .Ij e te,xs=>Ip r e.size 0 (List.length xs) v/\gk w D r (.Ij e te) xs
 | .part e te,x=>(Ip r e.size x.2.1 x.2.2 v/\x.2.1+x.2.2<=List.length x.1)/\gk w D r (.part e te) x
 | .Bn e te kp,rows=>Ip r 1 0 (List.length rows) v/\gk w D r (.Bn e te kp) rows
def eR (w:World) (D:Nat->Prop) (π:Pi):(k:Nat)->(cs:List (Bool×CK))->Ins.den cs->List Value->Prop
 |_,[],_,[]=>True
 |k,p::r,x,u::us=>eP w D (π (Dv p.1 k)) u p.2 x.1/\eR w D π (k+1) r x.2 us
 |_,_,_,_=>False
def Ms (w:World) (D:Nat->Prop) (π:Pi):(k:Nat)->(cs:List (Bool×CK))->IOs.den cs->Prop
 |_,[],_=>True
 |k,(true, .Eh _)::r,x=>Ms w D π (k+1) r x
 |k,(true, .Bn _ _ _)::r,x=>Ms w D π (k+1) r x
 |k,(true, .row e te)::r,x=>gk w D (π (Dv true k)) (.row e te) x.1/\Ms w D π (k+1) r x.2
 |k,(true, .Ij e te)::r,x=>gk w D (π (Dv true k)) (.Ij e te) x.1/\Ms w D π (k+1) r x.2
 |k,(true, .part e te)::r,x=>gk w D (π (Dv true k)) (.row e te) x.1/\Ms w D π (k+1) r x.2
 |k,(false,_)::r,x=>Ms w D π (k+1) r x
def Jz (w:World) (D:Nat->Prop) (ρ:Pi):(k:Nat)->(cs:List CK)->CKs.den cs->List Value->Prop
 |_,[],_,[]=>True
 |k,c::r,x,u::us=>eP w D (ρ (Kv k)) u c x.1/\Jz w D ρ (k+1) r x.2 us
 |_,_,_,_=>False
structure ie (π:Pi) (A:Nat->Prop):Prop where
 aj: ∀l r b,π l=some r->r.Cq b->A b
 inj: ∀l l' r r' b,π l=some r->π l'=some r'->r.Cq b->r'.Cq b->l=l'
def cV:List (Option Nat)->List Value->Prop
 | [],[]=>True
 |none::s,_::us=>cV s us
 |some n::s,us=>n<=us.length/\(∀u∈us.take n,u.oneCell'=true)/\cV s (us.drop n)
 |_,_=>False
def Aal (Ib:Bool) (sh:List (Option Nat)) (us:List Value) (v:Value):Prop:=if Ib then v= .tuple (Ll sh us).toArray else Ll sh us= [v]\/Ll sh us= []
def km (S:Nat->Prop) (π ρ:Pi) (b:Nat):Prop:=S b\/(∃l q,Bl<=l/\π l=some q/\q.Cq b)\/Wa ρ b
def oG (s:MSpec) (w:World) (g:Nat) (us vs:List Value):Prop:=
 match s.ptr with
 |none=>vs=Ll s.Jj us/\cV s.Jj us
 |some p=>vs= .pointer (some ⟨g,0,none⟩)::Ll s.Jj (us.drop p.2)/\cV s.Jj (us.drop p.2)/\p.2<=us.length/\w.heap[g]?=some (.cells (us.take p.2).toArray p.1 (0,0))/\ ∀u∈us.take p.2,u.oneCell'=true
def MSpec.gv (s:MSpec) (g b:Nat):Prop:=s.ptr.isSome=true/\b=g
def Et (π:Pi):(k:Nat)->(cs:List (Bool×CK))->IOs.den cs->(n:Nat)->List Value->List Value->Prop
 |_,_,_,0,us,_=>us= []
 |k,(true, .row e _)::r,o,n+1,u::us,as=>Ip (π (Dv true k)) e.size 0 (List.length o.1) u/\Et π (k+1) r o.2 n us as
 |k,(true, .Ij e _)::r,o,n+1,u::us,as=>Ip (π (Dv true k)) e.size 0 (List.length o.1) u/\Et π (k+1) r o.2 n us as
 |k,(false,_)::r,o,n+1,u::us,a::as=>u=a/\Et π (k+1) r o n us as
 |_,_,_,_,_,_=>False
def lC (s:MSpec) (π:Pi) (w':World) (g:Nat) (Xf:List Value) (o:IOs.den s.ins):Prop:=
 match s.ptr with
 |none=>True
 |some p=> ∃cs,w'.heap[g]?=some (.cells cs.toArray p.1 (0,0))/\(∀u∈cs,u.oneCell'=true)/\Et π 0 s.ins o p.2 cs Xf
def BP (w w':World) (r r':Option Real) (n:Nat):Prop:=match r,r' with
 |none,none=>True
 |some q,some q'=>q'.g=q.g/\q'.o=q.o/\q'.cap=q.cap/\ ∀j,j<n->j<q.cap->w'.cell? ⟨q.g,q.o+j,none⟩=w.cell? ⟨q.g,q.o+j,none⟩
 |_,_=>False
def sm (s:MSpec) (w':World) (ρ:Pi) (us:List Value) (v:Value):Prop:=match s.rp with
 |none=>Aal s.Ib s.Hv us v/\cV s.Hv us
 |some tid=> ∃q,ρ (Kv s.outs.length)=some q/\q.Cq q.g/\w'.heap[q.g]?=some (.cells us.toArray tid (0,0))/\(∀u∈us,u.oneCell'=true)/\v= .pointer (some ⟨q.g,0,none⟩)
def MSpec.Va (s:MSpec):Nat:=s.outs.length+(match s.rp with|none=>0|some _=>1)
structure Cl (P:Program) (f:FuncId) (s:MSpec):Prop where
 enter: ∀args w,(callFunc f args).run P w= .ok (.enter f args) w
 calls: ∀(w:World) (S:Nat->Prop) (π:Pi) (us:List Value) (x:Ins.den s.ins) (r:CKs.den s.outs) (o:IOs.den s.ins) (g:Nat) (vs:List Value),
  oG s w g us vs->(s.ptr.isSome=true->S g)->eR w (λb=>Wa π b\/S b) π 0 s.ins x us->ie π (λb=>b<w.heap.size)->(∀b,S b->b<w.heap.size/\ ¬Wa π b)->(∀l,Av (Zv 0 s.ins x) l=none->π l=none)->s.fn x=some (r,o)->
  Calls P f vs.toArray w λe w'=> ∃v Xf ρ,e= .returned v/\sm s w' ρ (Xf.drop s.aI) v/\lC s π w' g Xf o/\Li w.heap.size (λb=>Wa π b\/s.gv g b) w w'/\Ms w' (km S π ρ) π 0 s.ins o/\Jz w' (km S π ρ) ρ 0 s.outs r Xf/\
   ie ρ (λb=>b<w'.heap.size/\(w.heap.size<=b\/ ∃l q,l<Bl/\π l=some q/\q.Cq b))/\(∀l,(∀k,k<s.Va->l≠Kv k)->ρ l=none)/\(∀kj∈s.keeps,BP w w' (π (Dv false kj.1)) (ρ (Kv kj.2)) (s.Ft x))
def Agl (P:Program) (f:FuncId):hI->Prop
 | .q s=>Sound P f s
 | .m s=>Cl P f s
 | .b s m=>Sound P f s/\Cl P f m
def Lj (P:Program) (Γ:Env):Prop:= ∀f s,Γ f=some s->Agl P f s
theorem Lj.reg {P:Program} {Γ:Env} (h:Lj P Γ) (draw:Bool):Lj P (zH Γ draw):= λf s hs=>by
 unfold zH at hs
 split at hs
 ·rename_i s0 m Pk
  have:=h f _ Pk
  cases draw with
  |true=>simp only [Py,Aa] at hs;subst hs;exact this.1
  |false=>simp only [Cz,Ry,Aa] at hs;subst hs;exact this.2
 ·exact h f s hs
theorem Qk {k:IntKind} {n:Int} {fr:Bool} {v:Value} (h:Bm X w π H (.at (.data fr (.int k) n)) v):v= .int k n:=by
 obtain ⟨cs,h1,rfl⟩:=h;simp only [Cells] at h1;subst h1;rfl
theorem a7 {b:Bool} {fr:Bool} {v:Value} (h:Bm X w π H (.at (.data fr .bool b)) v):v= .bool b:=by
 obtain ⟨cs,h1,rfl⟩:=h;simp only [Cells] at h1;subst h1;rfl
theorem fJ {s:ByteArray} {fr:Bool} {v:Value} (h:Bm X w π H (.at (.data fr .str s)) v):v= .string s:=by
 obtain ⟨cs,h1,rfl⟩:=h;simp only [Cells] at h1;subst h1;rfl
theorem No (k:IntKind) (n:Int) (fr:Bool):Bm X w π H (.at (.data fr (.int k) n)) (.int k n):=⟨[.int k n],rfl,rfl⟩
theorem Mn (b:Bool) (fr:Bool):Bm X w π H (.at (.data fr .bool b)) (.bool b):=⟨[.bool b],rfl,rfl⟩
theorem mb (s:ByteArray) (fr:Bool):Bm X w π H (.at (.data fr .str s)) (.string s):=⟨[.string s],rfl,rfl⟩
theorem Aig (f:FuncId):Bm X w π H (.at (.clo f [])) (.func (.func f) #[] #[]):=⟨[],rfl,rfl,λi p hi=>by simp at hi⟩
theorem RQ (v:Value):Bm X w π H (mT v) v:=by
 unfold mT
 split
 ·exact No _ _ _
 ·exact Mn _ _
 ·exact mb _ _
 ·rfl
 ·rfl
 ·trivial
theorem Dq {st:St} {a:Act} (h:sl X w π st a) (x:Operand):Bm X w π st.heap (st.ev x) (a.eval x):=by
 cases x with
 |tmp t=>exact h.tmps t
 |const v=>exact RQ v
 |global g=>trivial
 |func f=>exact Aig f
theorem KC (op:BinOp) (k:IntKind) (a b:Int) (t:TypeId) (av:AV) (h:tq op k a b=some av):
  ∃v,(binOp op t (.int k a) (.int k b)).run P w= .ok v w/\Bm X w π H av v:=by
 cases op<;>simp only [tq,aL,Pw] at h
 case add=>cases h;exact ⟨_,by simp [binOp,Op.intArith],No _ _ _⟩
 case sub=>cases h;exact ⟨_,by simp [binOp,Op.intArith],No _ _ _⟩
 case mul=>cases h;exact ⟨_,by simp [binOp,Op.intArith],No _ _ _⟩
 case quo=>split at h<;>cases h;rename_i hb;exact ⟨_,by simp [binOp,Op.intDiv,hb],No _ _ _⟩
 case rem=>split at h<;>cases h;rename_i hb;exact ⟨_,by simp [binOp,Op.intDiv,hb],No _ _ _⟩
 case and=>cases h;exact ⟨_,by simp [binOp,Op.intBits],No _ _ _⟩
 case or=>cases h;exact ⟨_,by simp [binOp,Op.intBits],No _ _ _⟩
 case eql=>cases h;exact ⟨_,by simp [binOp,Op.intCmp],Mn _ _⟩
 case neq=>cases h;exact ⟨_,by simp [binOp,Op.intCmp],Mn _ _⟩
 case lss=>cases h;exact ⟨_,by simp [binOp,Op.intCmp],Mn _ _⟩
 case leq=>cases h;exact ⟨_,by simp [binOp,Op.intCmp],Mn _ _⟩
 case gtr=>cases h;exact ⟨_,by simp [binOp,Op.intCmp],Mn _ _⟩
 case geq=>cases h;exact ⟨_,by simp [binOp,Op.intCmp],Mn _ _⟩
 all_goals cases h
theorem CY (op:BinOp) (x y:AV) (vx vy:Value) (ox oy:Operand) (t:TypeId) (av:AV) (hx:Bm X w π H x vx) (hy:Bm X w π H y vy) (h:evalBin op x y=some av):
  ∃v,(do eqGuard op t ox oy vx vy;binOp op t vx vy:Sem Value).run P w= .ok v w/\Bm X w π H av v:=by
 unfold evalBin at h
 split at h
 ·rename_i k a _ k' b
  have:=Qk hx;subst this
  have:=Qk hy;subst this
  have hg: ∀op,(eqGuard op t ox oy (.int k a) (.int k' b)).run P w= .ok () w:=by intro op;cases op<;>simp [eqGuard]
  split at h
  ·split at h
   ·cases h
   ·rename_i hb
    simp only [aL,Aa] at h;subst h
    exact ⟨_,by rw [Sem.run_bind,hg];simp [binOp,Op.shift,hb],No _ _ _⟩
  ·split at h
   ·cases h
   ·rename_i hb
    simp only [aL,Aa] at h;subst h
    exact ⟨_,by rw [Sem.run_bind,hg];simp [binOp,Op.shift,hb],No _ _ _⟩
  ·split at h
   ·rename_i hk;subst hk
    obtain ⟨v,h1,h2⟩:=KC (P:=P) (w:=w) (X:=X) (π:=π) (H:=H) op k a b t av h
    exact ⟨v,by rw [Sem.run_bind,hg];exact h1,h2⟩
   ·cases h
 ·rename_i a _ b
  have:=fJ hx;subst this
  have:=fJ hy;subst this
  have hg: ∀op,(eqGuard op t ox oy (.string a) (.string b)).run P w= .ok () w:=by intro op;cases op<;>simp [eqGuard]
  split at h
  ·simp only [Pw,Aa] at h;subst h
   exact ⟨_,by rw [Sem.run_bind,hg];simp [binOp,Op.stringOp],Mn _ _⟩
  ·simp only [Pw,Aa] at h;subst h
   exact ⟨_,by rw [Sem.run_bind,hg];simp [binOp,Op.stringOp],Mn _ _⟩
  ·split at h
   ·rename_i hl
    simp only [Aa] at h;subst h
    exact ⟨_,by rw [Sem.run_bind,hg];simp only [Result.andThen_ok,binOp];exact run_string_add_sum w a b (by omega),mb _ _⟩
   ·cases h
  ·cases h
 ·cases h
theorem jk {t:TypeId} (h:P.underlying t=some .bool) (a b:Bool) (w:World):(Op.equal t (.bool a) (.bool b)).run P w= .ok (a==b) w:=by
 unfold Op.equal
 rw [show Op.maxDepth=9999+1 from rfl]
 unfold Op.equalIn
 rw [Sem.run_bind,run_underlying h]
 rfl
theorem FC (hT:Eb P T) {x:AV} {vx:Value} {b:Bool} {t:TypeId} (hx:Bm X w π H x vx) (h:dV x=some b) (ht:(T.elem t).isSome=true):
  (∃a len cap,vx= .slice a len cap/\(match a with|none=>true|some _=>false)=b)/\(Op.equal t vx (.slice none 0 0)).run P w= .ok b w:=by
 have h1: ∃a len cap,vx= .slice a len cap/\(match a with|none=>true|some _=>false)=b:=by
  unfold dV at h
  split at h
  ·simp only [Aa] at h;subst h
   have hx:vx= .slice none 0 0:=hx
   exact ⟨none,0,0,hx,rfl⟩
  ·simp only [Aa] at h;subst h
   obtain ⟨cs,hc,rfl⟩:=hx
   simp only [Cells] at hc
   rcases hc with ⟨rfl,c,rfl⟩|⟨xs,ad,len,cap,rfl,rfl,_⟩
   ·exact ⟨none,0,c,by simp [By,Ty.Aq],rfl⟩
   ·exact ⟨some ad,len,cap,by simp [By,Ty.Aq],rfl⟩
  ·cases h
 refine ⟨h1,?_⟩
 obtain ⟨a,len,cap,rfl,rfl⟩:=h1
 obtain ⟨te,kX⟩:=gW.1 ht
 have hu:=hT.elem t te kX
 unfold Op.equal
 rw [show Op.maxDepth=9999+1 from rfl]
 unfold Op.equalIn
 rw [Sem.run_bind,run_underlying hu]
 cases a<;>rfl
theorem FB (hT:Eb P T) {x:AV} {vx:Value} {b:Bool} {t:TypeId} (hx:Bm X w π H x vx) (h:dU x=some b) (ht:ZG (T.ty t)=true):
  (∃a,vx= .pointer a/\(match a with|none=>true|some _=>false)=b)/\(Op.equal t vx (.pointer none)).run P w= .ok b w:=by
 have h1: ∃a,vx= .pointer a/\(match a with|none=>true|some _=>false)=b:=by
  unfold dU at h
  split at h
  ·simp only [Aa] at h;subst h
   have hx:vx= .pointer none:=hx
   exact ⟨none,hx,rfl⟩
  ·simp only [Aa] at h;subst h
   obtain ⟨r,tid,vs,_,_,rfl⟩:=hx
   exact ⟨_,rfl,rfl⟩
  ·simp only [Aa] at h;subst h
   obtain ⟨cs,hc,rfl⟩:=hx
   simp only [Cells] at hc
   rcases hc with ⟨rfl,rfl⟩|⟨xs,g,o,rfl,rfl,_⟩
   ·exact ⟨none,by simp [By,Ty.Aq],rfl⟩
   ·exact ⟨some ⟨g,o,none⟩,by simp [By,Ty.Aq],rfl⟩
  ·simp only [Aa] at h;subst h
   obtain ⟨cs,hc,rfl⟩:=hx
   simp only [Cells] at hc
   obtain ⟨g,o,rfl,_⟩:=hc
   exact ⟨some ⟨g,o,none⟩,by simp [By,Ty.Aq],rfl⟩
  ·cases h
 refine ⟨h1,?_⟩
 obtain ⟨a,rfl,rfl⟩:=h1
 have hu: ∃u,P.underlying t=some (.pointer u):=by
  cases Yh:T.ty t with
  |none=>rw [Yh] at ht;cases ht
  |some τ=>
   have hd:=(hT.ty t τ Yh).desc
   rw [Yh] at ht
   cases τ<;>first|exact hd|cases ht
 obtain ⟨u,hu⟩:=hu
 unfold Op.equal
 rw [show Op.maxDepth=9999+1 from rfl]
 unfold Op.equalIn
 rw [Sem.run_bind,run_underlying hu]
 cases a<;>rfl
theorem yA {T:Tab} (hT:Eb P T) (op:BinOp) (x y:AV) (vx vy:Value) (ox oy:Operand) (t:TypeId) (av:AV) (hx:Bm X w π H x vx) (hy:Bm X w π H y vy) (h:Uf T op t x y=some av):
  ∃v,(do eqGuard op t ox oy vx vy;binOp op t vx vy:Sem Value).run P w= .ok v w/\Bm X w π H av v:=by
 unfold Uf at h
 split at h
 ·split at h
  ·rename_i ht
   cases hn:dV x with
   |none=>rw [hn] at h;cases h
   |some b=>
    rw [hn] at h
    simp only [Fo,Pw,Aa] at h;subst h
    have hy:vy= .slice none 0 0:=hy
    subst hy
    obtain ⟨⟨a,len,cap,rfl,_⟩,h2⟩:=FC hT hx hn ht
    exact ⟨.bool b,by rw [Sem.run_bind];simp [eqGuard,binOp,h2],Mn _ _⟩
  ·cases h
 ·split at h
  ·rename_i ht
   cases hn:dU x with
   |none=>rw [hn] at h;cases h
   |some b=>
    rw [hn] at h
    simp only [Fo,Pw,Aa] at h;subst h
    have hy:vy= .pointer none:=hy
    subst hy
    obtain ⟨⟨a,rfl,_⟩,h2⟩:=FB hT hx hn ht
    exact ⟨.bool b,by rw [Sem.run_bind];simp [eqGuard,binOp,h2],Mn _ _⟩
  ·cases h
 ·split at h
  ·rename_i ht
   cases hn:dV x with
   |none=>rw [hn] at h;cases h
   |some b=>
    rw [hn] at h
    simp only [Fo,Pw,Aa] at h;subst h
    have hy:vy= .slice none 0 0:=hy
    subst hy
    obtain ⟨⟨a,len,cap,rfl,_⟩,h2⟩:=FC hT hx hn ht
    exact ⟨.bool (!b),by rw [Sem.run_bind];simp [eqGuard,binOp,h2],Mn _ _⟩
  ·cases h
 ·split at h
  ·rename_i ht
   cases hn:dU x with
   |none=>rw [hn] at h;cases h
   |some b=>
    rw [hn] at h
    simp only [Fo,Pw,Aa] at h;subst h
    have hy:vy= .pointer none:=hy
    subst hy
    obtain ⟨⟨a,rfl,_⟩,h2⟩:=FB hT hx hn ht
    exact ⟨.bool (!b),by rw [Sem.run_bind];simp [eqGuard,binOp,h2],Mn _ _⟩
  ·cases h
 ·rename_i a _ b
  have:=a7 hx;subst this
  have:=a7 hy;subst this
  split at h
  ·rename_i ht
   simp only [Pw,Aa] at h;subst h
   have hu:P.underlying t=some .bool:=(hT.ty t _ ht).desc
   exact ⟨_,by rw [Sem.run_bind];simp [eqGuard,binOp,jk hu],Mn _ _⟩
  ·cases h
 ·rename_i a _ b
  have:=a7 hx;subst this
  have:=a7 hy;subst this
  split at h
  ·rename_i ht
   simp only [Pw,Aa] at h;subst h
   have hu:P.underlying t=some .bool:=(hT.ty t _ ht).desc
   exact ⟨_,by rw [Sem.run_bind];simp [eqGuard,binOp,jk hu],Mn _ _⟩
  ·cases h
 ·exact CY op x y vx vy ox oy t av hx hy h
theorem JJ (op:UnOp) (x:AV) (vx:Value) (av:AV) (hx:Bm X w π H x vx) (h:yE op x=some av):
  ∃v,(Op.unary op vx).run P w= .ok v w/\Bm X w π H av v:=by
 unfold yE at h
 split at h
 ·have:=a7 hx;subst this
  simp only [Pw,Aa] at h;subst h
  exact ⟨_,by simp [Op.unary],Mn _ _⟩
 ·have:=Qk hx;subst this
  simp only [aL,Aa] at h;subst h
  exact ⟨_,by simp [Op.unary,Op.intArith],No _ _ _⟩
 ·cases h
theorem Jm {t:TypeId} {τ:Ty} (ht:qV P T t τ) (g o:Nat) (es:List Value) (hl:es.length=τ.size) (hc: ∀j u,es[j]?=some u->w.cell? ⟨g,o+j,none⟩=some u):
  (loadVar t ⟨g,o,none⟩).run P w= .ok (By τ es) w:=by
 unfold loadVar
 rw [Sem.run_bind,ht.agg,Result.andThen_ok]
 cases hs:τ.Aq with
 |true=>
  simp only [Py,Sem.run_bind,ht.size,Result.andThen_ok]
  rw [<-hl,run_loadCells_list w ⟨g,o,none⟩ es (λj v hv=>by rw [Addr.add_lit];exact hc j v hv)]
  simp [By,hs]
 |false=>
  have h1:τ.size=1:=by cases τ<;>simp_all [Ty.Aq,Ty.size]
  rw [h1] at hl
  obtain ⟨u,rfl⟩:=Dz.1 hl
  have:=hc 0 u rfl
  simp only [En] at this
  simp [this,By,hs]
theorem ui {fr:Bool} {τ:Ty} {x:τ.den} {v:Value} (h:Bm X w π H (.at (.data fr τ x)) v):Bm X w π H (.at (.data (fr||τ.flat) τ x)) v:=by
 cases hf:τ.flat with
 |true=>exact Ct.flat hf h
 |false=>rw [gV];exact h
theorem wc {cs ds:List AC} {us vs:List Value} (h1:Gb X w π H cs us) (h2:Gb X w π H ds vs):Gb X w π H (cs++ds) (us++vs):=by
 have e1:=h1.1
 refine ⟨by simp [h1.1,h2.1],λi c hc=>?_⟩
 by_cases hi:i<cs.length
 ·rw [At hi] at hc
  obtain ⟨u,hu,h3⟩:=h1.2 i c hc
  exact ⟨u,by rw [At (by omega)];exact hu,h3⟩
 ·rw [As (by omega)] at hc
  obtain ⟨u,hu,h3⟩:=h2.2 _ c hc
  exact ⟨u,by rw [As (by omega),e1];exact hu,h3⟩
theorem fI {c:AC} {u:Value} (h1:u.oneCell'=true) (h2:Ia X w π H c u):Gb X w π H [c] [u]:=⟨rfl,λi c' hc=>by
 rcases i with _|i
 ·simp at hc;subst hc;exact ⟨u,rfl,h1,h2⟩
 ·simp at hc⟩
theorem NA {l i:Nat} {e:Ty} {tid:TypeId} {xs:List e.den} {r:Real} (hl:Av H l=some (.Hf e tid xs)) (hp:π l=some r) (hi:i<xs.length): ∀(τ:Ty) (c:Nat) (F:List Nat) (us:List Value) (x:τ.den),
  Db w F τ us x->c+τ.size<=e.size->(∀j u,us[j]?=some u->w.cell? ⟨r.g,(r.o+i)*e.size+(c+j),none⟩=some u)->Gb X w π H (fV l i c τ x) us:=by
 intro τ
 induction τ with
 |unit=>intro c F us x h _ _;simp only [Db] at h;obtain ⟨_,rfl⟩:=h;exact ⟨rfl,λi c hc=>by simp [fV] at hc⟩
 |pair a r gX gT=>
  intro c F us x h hle hc
  have yK:=Db.cells (S:= λ_=>False) F _ us x h (λ_ _ h=>h)
  simp only [Db] at h
  obtain ⟨c1,c2,F1,F2,rfl,rfl,h1,h2⟩:=h
  have oD:c1.length=a.size:=Cells.len a c1 x.1 (Db.cells (S:= λ_=>False) F1 a c1 x.1 h1 (λ_ _ h=>h))
  simp only [Ty.size] at hle
  refine wc (gX c F1 c1 x.1 h1 (by omega) λj u hu=>hc j u (by rw [At (An.1 hu).1];exact hu)) (gT (c+a.size) F2 c2 x.2 h2 (by omega) λj u hu=>?_)
  have:=hc (a.size+j) u (by rw [As (by omega),oD];simpa using hu)
  rw [show c+a.size+j=c+(a.size+j) by omega];exact this
 |int k=>intro c F us x h _ _;simp only [Db] at h;obtain ⟨_,rfl⟩:=h;exact fI rfl (No (H:=H) k x true)
 |bool=>intro c F us x h _ _;simp only [Db] at h;obtain ⟨_,rfl⟩:=h;exact fI rfl (Mn (H:=H) x true)
 |str=>intro c F us x h _ _;simp only [Db] at h;obtain ⟨_,rfl⟩:=h;exact fI rfl (mb (H:=H) x true)
 |slice e'=>
  intro c F us x h hle hc
  simp only [Db] at h
  obtain ⟨a,len,cap,rfl,_⟩:=h
  exact fI rfl ⟨r,_,e.size,xs.length,hl,rfl,hp,hi,⟨by simp only [Ty.size] at hle;omega,_,_,_,rfl⟩,by simpa using hc 0 _ rfl⟩
 |_=>intro c F us x h;simp only [Db] at h
theorem nc (hT:Eb P T) {st:St} {a:Act} (h:Bh X π st a w) (t:TypeId) (p:AV) (vp:Value) (av:AV) (hp:Bm X w π st.heap p vp) (he:Qr T st t p=some av):
  ∃v,(Instr.loadAt t vp).run P w= .ok v w/\Bm X w π st.heap av v:=by
 unfold Qr at he
 split at he
 ·rename_i τ fr Ov x ht
  split at he
  ·rename_i Ug
   subst Ug
   simp only [Aa] at he;subst he
   have Yh:=hT.ty _ _ ht
   obtain ⟨cs,hc,rfl⟩:=hp
   simp only [Cells] at hc
   obtain ⟨g,o,rfl,hg,hn,es,hl,Wj,bN⟩:=hc
   refine ⟨By Ov es,?_,ui (show Bm X w π st.heap (.at (.data fr Ov _)) (By Ov es) from ⟨es,bN,rfl⟩)⟩
   have hr:=Jm (P:=P) (w:=w) Yh g o es hl Wj
   show (do loadVar t (<-Instr.sureAddr (.pointer (some ⟨g,o,none⟩))):Sem Value).run P w=_
   simpa [Instr.sureAddr] using hr
  ·cases he
 ·rename_i τ fr Ov x ht
  split at he
  ·rename_i Ug
   subst Ug
   simp only [Aa] at he;subst he
   have Yh:=hT.ty _ _ ht
   obtain ⟨cs,hc,rfl⟩:=hp
   simp only [Cells] at hc
   rcases hc with ⟨h0,_⟩|⟨y,g,o,h0,rfl,hg,hn,es,hl,Wj,bN⟩
   ·cases h0
   simp only [Aa] at h0;subst h0
   refine ⟨By Ov es,?_,ui (show Bm X w π st.heap (.at (.data fr Ov _)) (By Ov es) from ⟨es,bN,rfl⟩)⟩
   have hr:=Jm (P:=P) (w:=w) Yh g o es hl Wj
   show (do loadVar t (<-Instr.sureAddr (.pointer (some ⟨g,o,none⟩))):Sem Value).run P w=_
   simpa [Instr.sureAddr] using hr
  ·cases he
 ·rename_i τ l i ht
  have Yh:=hT.ty _ _ ht
  split at he
  ·rename_i tid vs hl
   obtain ⟨r,Vd,vs',h1,h2,rfl⟩:=hp
   unfold St.at at hl
   rw [hl] at h1;cases h1
   obtain ⟨r',h3,h4,cur,h5,h6⟩:=(h.1.heap l).Rz hl
   rw [h2] at h3;cases h3
   split at he
   ·rename_i hs
    split at he
    ·rename_i hlen
     simp only [Aa] at he;subst he
     have Qo:cur.toList.length=vs.length:=h6.1
     refine ⟨_,by
      simp only [Instr.loadAt,Instr.sureAddr]
      simpa using Jm (P:=P) (w:=w) Yh r.g i ((cur.toList.drop i).take τ.size) (by simp at Qo⊢;omega) (λj u hu=>by
       rw [cellOf h5]
       rw [Cs] at hu
       split at hu
       ·rw [Da] at hu;simpa using hu
       ·cases hu),?_⟩
     exact ⟨_,by simp [By,hs],a6 h6 i τ.size⟩
    ·cases he
   ·rename_i hs
    simp only [Hx] at hs
    have h1:τ.size=1:=by cases τ<;>simp_all [Ty.Aq,Ty.size]
    cases hi:vs[i]? with
    |none=>rw [hi] at he;cases he
    |some c=>
     rw [hi] at he
     simp only [Ak,Aa] at he;subst he
     obtain ⟨u,hu,_,hc⟩:=h6.2 i c hi
     refine ⟨u,?_,hc⟩
     simp only [Instr.loadAt,Instr.sureAddr]
     have:=Jm (P:=P) (w:=w) Yh r.g i [u] (by simp [h1]) (λj u' fm=>by
       rcases j with _|j
       ·simp at fm;subst fm;rw [En,cellOf h5];simpa using hu
       ·simp at fm)
     simpa [By,hs] using this
  ·cases he
 ·rename_i τ l i ht
  have Yh:=hT.ty _ _ ht
  split at he
  ·rename_i fr tr e tid xs hl
   split at he
   ·rename_i heq;subst heq
    obtain ⟨r,b,sz,n,h1,h0,h2,h3,rfl⟩:=hp
    unfold St.at at hl
    rw [hl] at h1;cases h1
    simp only [OB.row,Aa,Ae] at h0
    obtain ⟨rfl,rfl⟩:=h0
    have hb:=(h.1.heap l).Rz hl
    simp only [Cg,Ks,h3] at hb
    obtain ⟨h4,cur,_,h5,h6,h7,h8,h9,_⟩:=hb
    have hx:xs[i]?=some xs[i]:=Ac h2
    rw [hx] at he
    simp only [Ak,Aa] at he;subst he
    obtain ⟨es,gQ,hj,yK⟩:=h9 i _ hx
    refine ⟨By e es,?_,ui (show Bm X w π st.heap (.at (.data fr e _)) (By e es) from ⟨es,yK,rfl⟩)⟩
    simp only [Instr.loadAt,Instr.sureAddr]
    simpa using Jm (P:=P) (w:=w) Yh r.g ((r.o+i)*e.size) es gQ (λj u hu=>by rw [cellOf h5];exact hj j u hu)
   ·cases he
  ·rename_i e tid xs hl
   split at he
   ·rename_i heq;subst heq
    obtain ⟨r,b,sz,n,h1,h0,h2,h3,rfl⟩:=hp
    unfold St.at at hl
    rw [hl] at h1;cases h1
    simp only [OB.row,Aa,Ae] at h0
    obtain ⟨rfl,rfl⟩:=h0
    have hb:=(h.1.heap l).Rz hl
    simp only [Cg,Oh,h3] at hb
    obtain ⟨h4,cur,_,h5,h6,h7,h8,Fs,k1,k2,k3,k4⟩:=hb
    have hx:xs[i]?=some xs[i]:=Ac h2
    rw [hx] at he
    simp only [Ak,Aa] at he;subst he
    obtain ⟨es,gQ,hj,yK⟩:=k4 i _ _ hx (Ac (by omega))
    have hrs:=NA (X:=X) (H:=st.heap) hl h3 h2 e 0 _ es _ yK (by omega) (λj u hu=>by rw [cellOf h5,Cb];exact hj j u hu)
    refine ⟨By e es,?_,?_⟩
    ·simp only [Instr.loadAt,Instr.sureAddr]
     simpa using Jm (P:=P) (w:=w) Yh r.g ((r.o+i)*e.size) es gQ (λj u hu=>by rw [cellOf h5];exact hj j u hu)
    ·cases Pj:e.Aq with
     |true=>rw [Ab rfl];exact ⟨es,by simp [By,Pj],hrs⟩
     |false=>
      rw [Ai (by simp)]
      have h1:e.size=1:=by cases e<;>simp_all [Ty.Aq,Ty.size]
      rw [h1] at gQ
      obtain ⟨u,rfl⟩:=Dz.1 gQ
      have oD:=hrs.1
      generalize fV l i 0 e xs[i]=sc at*
      simp only [Aw,Eo] at oD
      obtain ⟨c,rfl⟩:=Dz.1 oD.symm
      obtain ⟨u',fm,_,xb⟩:=hrs.2 0 c rfl
      simp at fm;subst fm
      have e1:By e [u]=u:=by simp [By,Pj]
      rw [e1]
      exact xb
   ·cases he
  ·rename_i e te rows kp hl
   split at he
   ·cases he
   ·rename_i Pj
    simp only [Hx] at Pj
    simp only [Aa] at he;subst he
    obtain ⟨r,b,sz,n,h1,h0,h2,h3,rfl⟩:=hp
    unfold St.at at hl
    rw [hl] at h1;cases h1
    simp only [OB.row,Aa,Ae] at h0
    obtain ⟨rfl,rfl⟩:=h0
    obtain ⟨u,R,k1,k2,k3⟩:=nt h.1 hl h3 h2 (by simp)
    have aE:τ.size=1:=by cases τ<;>simp_all [Ty.Aq,Ty.size]
    refine ⟨u,?_,r,_,1,rows.length,hl,rfl,h3,h2,⟨by omega,aY k2⟩,by rw [Fl,En];exact k1⟩
    simp only [Instr.loadAt,Instr.sureAddr]
    have:=Jm (P:=P) (w:=w) Yh r.g ((r.o+i)*1) [u] (by simp [aE]) (λj u' fm=>by
     rcases j with _|j
     ·simp at fm;subst fm;rw [Fl,En];exact k1
     ·simp at fm)
    simpa [By,Pj] using this
  ·cases he
 ·rename_i τ l i j ht
  have Yh:=hT.ty _ _ ht
  split at he
  ·rename_i e te rows kp hl
   split at he
   ·rename_i heq;subst heq
    simp only [Aa] at he;subst he
    obtain ⟨r,b,n,sz,g,o,len,cap,h1,h0,h2,h3,h4,h5,rfl⟩:=hp
    unfold St.at at hl
    rw [hl] at h1;cases h1
    simp only [OB.vH,Aa,Ae] at h0
    obtain ⟨rfl,rfl⟩:=h0
    obtain ⟨u,R,k1,k2,k3⟩:=nt h.1 hl h2 h3 (by simp)
    rw [h5] at k1
    have hu:=Az k1
    subst hu
    cases R with
    |none=>obtain ⟨hh,_⟩:=k2;cases hh
    |some q=>
     obtain ⟨ad,hh,g1,g2⟩:=k2
     simp only [Value.slice.injEq,Aa] at hh
     obtain ⟨rfl,rfl,rfl⟩:=hh
     have XM:=g2 (by omega)
     simp only [Addr.mk.injEq,bg] at XM
     obtain ⟨rfl,rfl⟩:=XM
     obtain ⟨f1,cur,ti,f2,f3,f4,f5,f6⟩:=k3
     have hj:(rows.getD i [])[j]?=some ((rows.getD i []).getD j e.zero):=by rw [Aj (l:=rows.getD i []),Ac h4];rfl
     obtain ⟨es,gQ,c1,c2⟩:=f6 j _ hj
     refine ⟨By e es,?_,ui (fr:=false) (show Bm X w π st.heap (.at (.data false e _)) (By e es) from ⟨es,c2,rfl⟩)⟩
     simp only [Instr.loadAt,Instr.sureAddr]
     simpa using Jm (P:=P) (w:=w) Yh q.g ((q.o+0)*e.size+j*e.size) es gQ (λm u hu=>by rw [cellOf f2,En,<-De];exact c1 m u hu)
   ·cases he
  ·cases he
 ·cases he
theorem ZA {α:Type} {xs:List α} {n:Int} {x:α} (h:idx xs n=some x):0<=n/\n<xs.length/\xs[n.toNat]?=some x:=by
 unfold idx at h
 split at h
 ·rename_i h0
  have:=(An.1 h).1
  exact ⟨h0,by omega,h⟩
 ·cases h
theorem rP (hT:Eb P T) {t:TypeId} {e:Ty} (h:(T.elem t).bind T.ty=some e): ∃te,T.elem t=some te/\T.ty te=some e/\P.underlying t=some (.slice te)/\P.elem t=te:=by
 cases ht:T.elem t with
 |none=>rw [ht] at h;cases h
 |some te=>
  rw [ht] at h
  have hu:=hT.elem t te ht
  exact ⟨te,rfl,h,hu,by simp [Program.elem,hu]⟩
theorem nb (hT:Eb P T) {st:St} {a:Act} (h:Bh X π st a w) (t:TypeId) (x i:AV) (vx vi:Value) (av:AV) (hx:Bm X w π st.heap x vx) (hi:Bm X w π st.heap i vi)
  (he:Lh T st t x i=some av): ∃v,(Instr.indexAt t vx vi).run P w= .ok v w/\Bm X w π st.heap av v:=by
 unfold Lh at he
 split at he
 ·rename_i fr e xs _ k n
  have:=Qk hi;subst this
  split at he
  ·rename_i kV
   obtain ⟨te,h1,h2,h3,h4⟩:=rP hT kV
   cases hix:idx xs n with
   |none=>rw [hix] at he;cases he
   |some y=>
    rw [hix] at he
    simp only [Ak,Aa] at he;subst he
    obtain ⟨h5,h6,h7⟩:=ZA hix
    obtain ⟨cs,hc,rfl⟩:=hx
    simp only [Cells] at hc
    obtain ⟨ad,len,cap,rfl,hlen,sZ,JQ⟩:=hc
    rcases JQ with rfl|⟨g,o,rfl,hg,hn,Jh⟩
    ·simp at h6;omega
    ·obtain ⟨es,gQ,Wj,bN⟩:=Jh _ _ h7
     have aE:=(hT.ty _ _ h2).size (w:=w)
     refine ⟨.pointer (some ⟨g,o+n.toNat*e.size,none⟩),?_,[_],⟨g,_,rfl,hg,hn,es,gQ,Wj,bN⟩,by simp [By,Ty.Aq]⟩
     simp only [By,Ty.Aq,Cz,Ry,ib]
     rw [run_indexAt_slice (P:=P) w t _ _ _ k n (by rw [h3,h4]),Ab ⟨h5,by omega⟩,h4,aE,Result.andThen_ok,Addr.add_lit]
  ·cases he
 ·rename_i l off len _ k n
  have:=Qk hi;subst this
  split at he
  ·rename_i fr tr e tid xs hl
   split at he
   ·rename_i Ki
    obtain ⟨h1,h2,h56⟩:=Ki
    obtain ⟨h5,h6⟩:=Um.1 h56
    simp only [Aa] at he;subst he
    have h3:=hT.elem t tid h1
    have h4:P.elem t=tid:=by simp [Program.elem,h3]
    unfold St.at at hl
    have Mb:=hl
    obtain ⟨h8,h9⟩:=Oy (X:=X) (w:=w) hx hl
    cases hp:π l with
    |none=>rw [hp] at h9;obtain ⟨_,_,h9⟩:=h9;omega
    |some r=>
     rw [hp] at h9
     obtain ⟨ad,rfl,qb,kP⟩:=h9
     have h12:=kP (by omega)
     subst h12
     have aE:=(hT.ty _ _ h2).size (w:=w)
     refine ⟨.pointer (some ⟨r.g,(r.o+off)*e.size+n.toNat*e.size,none⟩),?_,r,_,e.size,xs.length,Mb,rfl,by omega,hp,?_⟩
     ·rw [run_indexAt_slice (P:=P) w t _ _ _ k n (by rw [h3,h4]),Ab ⟨h5,by omega⟩,h4,aE,Result.andThen_ok,Addr.add_lit]
     ·rw [<-Gy r.o off n.toNat,De (r.o+off)]
   ·cases he
  ·rename_i e tid xs hl
   split at he
   ·rename_i Ki
    obtain ⟨h1,h2,h56⟩:=Ki
    obtain ⟨h5,h6⟩:=Um.1 h56
    simp only [Aa] at he;subst he
    have h3:=hT.elem t tid h1
    have h4:P.elem t=tid:=by simp [Program.elem,h3]
    unfold St.at at hl
    have Mb:=hl
    obtain ⟨h8,h9⟩:=c5 (X:=X) (w:=w) hx hl
    cases hp:π l with
    |none=>rw [hp] at h9;obtain ⟨_,_,h9⟩:=h9;omega
    |some r=>
     rw [hp] at h9
     obtain ⟨ad,rfl,qb,kP⟩:=h9
     have h12:=kP (by omega)
     subst h12
     have aE:=(hT.ty _ _ h2).size (w:=w)
     refine ⟨.pointer (some ⟨r.g,(r.o+off)*e.size+n.toNat*e.size,none⟩),?_,r,_,e.size,xs.length,Mb,rfl,by omega,hp,?_⟩
     ·rw [run_indexAt_slice (P:=P) w t _ _ _ k n (by rw [h3,h4]),Ab ⟨h5,by omega⟩,h4,aE,Result.andThen_ok,Addr.add_lit]
     ·rw [<-Gy r.o off n.toNat,De (r.o+off)]
   ·cases he
  ·rename_i e te rows out kp hl
   split at he
   ·rename_i Ki
    obtain ⟨h1,h2,h56⟩:=Ki
    obtain ⟨h5,h6⟩:=Um.1 h56
    simp only [Aa] at he;subst he
    have h3:=hT.elem t te h1
    have h4:P.elem t=te:=by simp [Program.elem,h3]
    unfold St.at at hl
    have Mb:=hl
    obtain ⟨h8,h9⟩:=nV (X:=X) (w:=w) hx hl
    cases hp:π l with
    |none=>rw [hp] at h9;obtain ⟨_,_,h9⟩:=h9;omega
    |some r=>
     rw [hp] at h9
     obtain ⟨ad,rfl,qb,kP⟩:=h9
     have h12:=kP (by omega)
     subst h12
     cases kX:T.ty te with
     |none=>rw [kX] at h2;cases h2
     |some τ=>
      rw [kX] at h2
      have h2:τ.size=1:=Az h2
      have aE:=(hT.ty _ _ kX).size (w:=w)
      refine ⟨.pointer (some ⟨r.g,(r.o+off)*1+n.toNat*τ.size,none⟩),?_,r,_,1,rows.length,Mb,rfl,by omega,hp,?_⟩
      ·rw [run_indexAt_slice (P:=P) w t _ _ _ k n (by rw [h3,h4]),Ab ⟨h5,by omega⟩,h4,aE,Result.andThen_ok,Addr.add_lit]
      ·rw [h2,<-Gy r.o off n.toNat,De (r.o+off)]
   ·cases he
  ·cases he
 ·rename_i l i c _ k n
  have:=Qk hi;subst this
  split at he
  ·rename_i e te rows kp hl
   split at he
   ·rename_i Ki
    obtain ⟨h2,h56⟩:=Ki
    obtain ⟨h5,h6⟩:=Um.1 h56
    simp only [Aa] at he;subst he
    cases kX:T.elem t with
    |none=>rw [kX] at h2;cases h2
    |some Ru=>
     rw [kX] at h2
     cases Yh:T.ty Ru with
     |none=>rw [Fo,Yh] at h2;cases h2
     |some τ=>
      rw [Fo,Yh] at h2
      have h2:τ.size=e.size:=Az h2
      have h3:=hT.elem t Ru kX
      have h4:P.elem t=Ru:=by simp [Program.elem,h3]
      unfold St.at at hl
      obtain ⟨r,b,sz,m,g1,g0,g2,g3,⟨g4,_⟩,g5⟩:=hx
      rw [hl] at g1;cases g1
      simp only [OB.gz,Aa,Ae] at g0
      obtain ⟨rfl,rfl⟩:=g0
      have kq:c=0:=by omega
      subst kq
      rw [Fl,En] at g5
      obtain ⟨u,R,k1,k2,k3⟩:=nt h.1 hl g2 g3 (by simp)
      rw [g5] at k1
      have hu:=Az k1
      subst hu
      cases R with
      |none=>obtain ⟨_,_,hh⟩:=k2;omega
      |some q=>
       obtain ⟨ad,rfl,f1,f2⟩:=k2
       have XM:=f2 (by omega)
       subst XM
       have aE:=(hT.ty _ _ Yh).size (w:=w)
       refine ⟨.pointer (some ⟨q.g,(q.o+0)*e.size+n.toNat*τ.size,none⟩),?_,r,_,rows.length,e.size,q.g,(q.o+0)*e.size,_,_,hl,rfl,g2,g3,by omega,g5,by rw [h2]⟩
       rw [run_indexAt_slice (P:=P) w t _ _ _ k n (by rw [h3,h4]),Ab ⟨h5,by omega⟩,h4,aE,Result.andThen_ok,Addr.add_lit]
   ·cases he
  ·cases he
 ·cases he
end
end Go.Proofs.YtkkdpknjohcekaaGreat
