/-
  Part 7 of the proof that the statement FnBoundStatistics holds.
-/
import Derived.Test.YtkkdpknjohcekaaCFBoundStatistics05
namespace Go.Proofs.Ytkkdpknjohcekaa
open Go.RowKit
section
variable {P:Program} {T:Tab} {X:Ctx} {w w':World} {π:Pi} {H:List (Nat×OB)}
def OV (P:Program) (X:Ctx) (π:Pi) (H:List (Nat×OB)) (w:World) (av:AV):Result Next->Prop
 | .ok (.value v) w'=>w'=w/\Bq X w π H av v
 | .ok (.enter f args) w'=>w'=w/\Calls P f args w (λe qY=> ∃v,e= .returned v/\Below w.heap.size w qY/\Bq X qY π H av v)
 |_=>False
def lI (s:Spec) (w:World) (S:Nat->Prop) (v:Value) (y:s.res.den):Prop:=
 if s.Hi then ∃us:List Value,v= .tuple us.toArray/\Cu w S s.res us y else Cw w S s.res v y
structure Sound (P:Program) (f:FuncId) (s:Spec):Prop where
 enter: ∀args w,(callFunc f args).run P w= .ok (.enter f args) w
 calls: ∀(w:World) (S:Nat->Prop) (vs:List Value) (x:s.arg.den) (y:s.res.den),(∀k,S k->k<w.heap.size)->Cu w S s.arg vs x->s.fn x=some y->
  Calls P f vs.toArray w λe w'=> ∃v,e= .returned v/\Below w.heap.size w w'/\lI s w' (λb=>S b\/(s.fresh=true/\b<w.heap.size)) v y
def fX (w:World) (D:Nat->Prop) (r:Option Real):(c:CK)->c.den->Prop
 | .Fy _,_=>r=none
 | .row e _,xs=>Td w D r e xs
 | .Hw e te,xs=>Oe w r e te xs
 | .part e _,x=>e.flat=true/\Td w D r e x.1
 | .Bl e _ _,rows=>ay w D r e rows none
def eN (w:World) (D:Nat->Prop) (r:Option Real) (v:Value):(c:CK)->c.den->Prop
 | .Fy τ,x=>r=none/\Cw w D τ v x
 | .row e te,xs=>Ia r e.size 0 (List.length xs) v/\fX w D r (.row e te) xs
 | .Hw e te,xs=>Ia r e.size 0 (List.length xs) v/\fX w D r (.Hw e te) xs
 | .part e te,x=>(Ia r e.size x.2.1 x.2.2 v/\x.2.1+x.2.2<=List.length x.1)/\fX w D r (.part e te) x
 | .Bl e te kp,rows=>Ia r 1 0 (List.length rows) v/\fX w D r (.Bl e te kp) rows
def eO (w:World) (D:Nat->Prop) (π:Pi):(k:Nat)->(cs:List (Bool×CK))->Ins.den cs->List Value->Prop
 |_,[],_,[]=>True
 |k,p::r,x,u::us=>eN w D (π (Dx p.1 k)) u p.2 x.1/\eO w D π (k+1) r x.2 us
 |_,_,_,_=>False
def Mh (w:World) (D:Nat->Prop) (π:Pi):(k:Nat)->(cs:List (Bool×CK))->IOs.den cs->Prop
 |_,[],_=>True
 |k,(true, .Fy _)::r,x=>Mh w D π (k+1) r x
 |k,(true, .Bl _ _ _)::r,x=>Mh w D π (k+1) r x
 |k,(true, .row e te)::r,x=>fX w D (π (Dx true k)) (.row e te) x.1/\Mh w D π (k+1) r x.2
 |k,(true, .Hw e te)::r,x=>fX w D (π (Dx true k)) (.Hw e te) x.1/\Mh w D π (k+1) r x.2
 |k,(true, .part e te)::r,x=>fX w D (π (Dx true k)) (.row e te) x.1/\Mh w D π (k+1) r x.2
 |k,(false,_)::r,x=>Mh w D π (k+1) r x
def Jk (w:World) (D:Nat->Prop) (ρ:Pi):(k:Nat)->(cs:List CK)->CKs.den cs->List Value->Prop
 |_,[],_,[]=>True
 |k,c::r,x,u::us=>eN w D (ρ (Km k)) u c x.1/\Jk w D ρ (k+1) r x.2 us
 |_,_,_,_=>False
structure hY (π:Pi) (A:Nat->Prop):Prop where
 Zk: ∀l r b,π l=some r->r.Cv b->A b
 inj: ∀l l' r r' b,π l=some r->π l'=some r'->r.Cv b->r'.Cv b->l=l'
def cU:List (Option Nat)->List Value->Prop
 | [],[]=>True
 |none::s,_::us=>cU s us
 |some n::s,us=>n<=us.length/\(∀u∈us.take n,u.oneCell'=true)/\cU s (us.drop n)
 |_,_=>False
def Aaq (Hi:Bool) (sh:List (Option Nat)) (us:List Value) (v:Value):Prop:=if Hi then v= .tuple (Kz sh us).toArray else Kz sh us= [v]\/Kz sh us= []
def kB (S:Nat->Prop) (π ρ:Pi) (b:Nat):Prop:=S b\/(∃l q,Bn<=l/\π l=some q/\q.Cv b)\/Vy ρ b
def oF (s:MSpec) (w:World) (g:Nat) (us vs:List Value):Prop:=
 match s.ptr with
 |none=>vs=Kz s.Ip us/\cU s.Ip us
 |some p=>vs= .pointer (some ⟨g,0,none⟩)::Kz s.Ip (us.drop p.2)/\cU s.Ip (us.drop p.2)/\p.2<=us.length/\w.heap[g]?=some (.cells (us.take p.2).toArray p.1 (0,0))/\ ∀u∈us.take p.2,u.oneCell'=true
def MSpec.gv (s:MSpec) (g b:Nat):Prop:=s.ptr.isSome=true/\b=g
def Ep (π:Pi):(k:Nat)->(cs:List (Bool×CK))->IOs.den cs->(n:Nat)->List Value->List Value->Prop
 |_,_,_,0,us,_=>us= []
 |k,(true, .row e _)::r,o,n+1,u::us,as=>Ia (π (Dx true k)) e.size 0 (List.length o.1) u/\Ep π (k+1) r o.2 n us as
 |k,(true, .Hw e _)::r,o,n+1,u::us,as=>Ia (π (Dx true k)) e.size 0 (List.length o.1) u/\Ep π (k+1) r o.2 n us as
 |k,(false,_)::r,o,n+1,u::us,a::as=>u=a/\Ep π (k+1) r o n us as
 |_,_,_,_,_,_=>False
def lH (s:MSpec) (π:Pi) (w':World) (g:Nat) (Xl:List Value) (o:IOs.den s.ins):Prop:=
 match s.ptr with
 |none=>True
 |some p=> ∃cs,w'.heap[g]?=some (.cells cs.toArray p.1 (0,0))/\(∀u∈cs,u.oneCell'=true)/\Ep π 0 s.ins o p.2 cs Xl
def CE (w w':World) (r r':Option Real) (n:Nat):Prop:=match r,r' with
 |none,none=>True
 |some q,some q'=>q'.g=q.g/\q'.o=q.o/\q'.cap=q.cap/\ ∀j,j<n->j<q.cap->w'.cell? ⟨q.g,q.o+j,none⟩=w.cell? ⟨q.g,q.o+j,none⟩
 |_,_=>False
def sr (s:MSpec) (w':World) (ρ:Pi) (us:List Value) (v:Value):Prop:=match s.rp with
 |none=>Aaq s.Hi s.Hb us v/\cU s.Hb us
 |some tid=> ∃q,ρ (Km s.outs.length)=some q/\q.Cv q.g/\w'.heap[q.g]?=some (.cells us.toArray tid (0,0))/\(∀u∈us,u.oneCell'=true)/\v= .pointer (some ⟨q.g,0,none⟩)
def MSpec.Uu (s:MSpec):Nat:=s.outs.length+(match s.rp with|none=>0|some _=>1)
structure Cn (P:Program) (f:FuncId) (s:MSpec):Prop where
 enter: ∀args w,(callFunc f args).run P w= .ok (.enter f args) w
 calls: ∀(w:World) (S:Nat->Prop) (π:Pi) (us:List Value) (x:Ins.den s.ins) (r:CKs.den s.outs) (o:IOs.den s.ins) (g:Nat) (vs:List Value),
  oF s w g us vs->(s.ptr.isSome=true->S g)->eO w (λb=>Vy π b\/S b) π 0 s.ins x us->hY π (λb=>b<w.heap.size)->(∀b,S b->b<w.heap.size/\ ¬Vy π b)->(∀l,At (Zy 0 s.ins x) l=none->π l=none)->s.fn x=some (r,o)->
  Calls P f vs.toArray w λe w'=> ∃v Xl ρ,e= .returned v/\sr s w' ρ (Xl.drop s.aG) v/\lH s π w' g Xl o/\Kw w.heap.size (λb=>Vy π b\/s.gv g b) w w'/\Mh w' (kB S π ρ) π 0 s.ins o/\Jk w' (kB S π ρ) ρ 0 s.outs r Xl/\
   hY ρ (λb=>b<w'.heap.size/\(w.heap.size<=b\/ ∃l q,l<Bn/\π l=some q/\q.Cv b))/\(∀l,(∀k,k<s.Uu->l≠Km k)->ρ l=none)/\(∀kj∈s.keeps,CE w w' (π (Dx false kj.1)) (ρ (Km kj.2)) (s.Fb x))
def Agu (P:Program) (f:FuncId):bw->Prop
 | .q s=>Sound P f s
 | .m s=>Cn P f s
 | .b s m=>Sound P f s/\Cn P f m
def Kx (P:Program) (Γ:Env):Prop:= ∀f s,Γ f=some s->Agu P f s
theorem Kx.reg {P:Program} {Γ:Env} (h:Kx P Γ) (draw:Bool):Kx P (zR Γ draw):= λf s hs=>by
 unfold zR at hs
 split at hs
 ·rename_i s0 m Pb
  have:=h f _ Pb
  cases draw with
  |true=>simp only [Po,Aa] at hs;subst hs;exact this.1
  |false=>simp only [Dc,Rn,Aa] at hs;subst hs;exact this.2
 ·exact h f s hs
theorem Qe {k:IntKind} {n:Int} {fr:Bool} {v:Value} (h:Bq X w π H (.at (.data fr (.int k) n)) v):v= .int k n:=by
 obtain ⟨cs,h1,rfl⟩:=h;simp only [Cells] at h1;subst h1;rfl
theorem aa {b:Bool} {fr:Bool} {v:Value} (h:Bq X w π H (.at (.data fr .bool b)) v):v= .bool b:=by
 obtain ⟨cs,h1,rfl⟩:=h;simp only [Cells] at h1;subst h1;rfl
theorem fF {s:ByteArray} {fr:Bool} {v:Value} (h:Bq X w π H (.at (.data fr .str s)) v):v= .string s:=by
 obtain ⟨cs,h1,rfl⟩:=h;simp only [Cells] at h1;subst h1;rfl
theorem Nj (k:IntKind) (n:Int) (fr:Bool):Bq X w π H (.at (.data fr (.int k) n)) (.int k n):=⟨[.int k n],rfl,rfl⟩
theorem Lx (b:Bool) (fr:Bool):Bq X w π H (.at (.data fr .bool b)) (.bool b):=⟨[.bool b],rfl,rfl⟩
theorem mg (s:ByteArray) (fr:Bool):Bq X w π H (.at (.data fr .str s)) (.string s):=⟨[.string s],rfl,rfl⟩
theorem Ais (f:FuncId):Bq X w π H (.at (.clo f [])) (.func (.func f) #[] #[]):=⟨[],rfl,rfl,λi p hi=>by simp at hi⟩
theorem SA (v:Value):Bq X w π H (mQ v) v:=by
 unfold mQ
 split
 ·exact Nj _ _ _
 ·exact Lx _ _
 ·exact mg _ _
 ·rfl
 ·rfl
 ·trivial
theorem Dr {st:St} {a:Act} (h:sq X w π st a) (x:Operand):Bq X w π st.heap (st.ev x) (a.eval x):=by
 cases x with
 |tmp t=>exact h.tmps t
 |const v=>exact SA v
 |global g=>trivial
 |func f=>exact Ais f
theorem LH (op:BinOp) (k:IntKind) (a b:Int) (t:TypeId) (av:AV) (h:tF op k a b=some av):
  ∃v,(binOp op t (.int k a) (.int k b)).run P w= .ok v w/\Bq X w π H av v:=by
 cases op<;>simp only [tF,aJ,Pk] at h
 case add=>cases h;exact ⟨_,by simp [binOp,Op.intArith],Nj _ _ _⟩
 case sub=>cases h;exact ⟨_,by simp [binOp,Op.intArith],Nj _ _ _⟩
 case mul=>cases h;exact ⟨_,by simp [binOp,Op.intArith],Nj _ _ _⟩
 case quo=>split at h<;>cases h;rename_i hb;exact ⟨_,by simp [binOp,Op.intDiv,hb],Nj _ _ _⟩
 case rem=>split at h<;>cases h;rename_i hb;exact ⟨_,by simp [binOp,Op.intDiv,hb],Nj _ _ _⟩
 case and=>cases h;exact ⟨_,by simp [binOp,Op.intBits],Nj _ _ _⟩
 case or=>cases h;exact ⟨_,by simp [binOp,Op.intBits],Nj _ _ _⟩
 case eql=>cases h;exact ⟨_,by simp [binOp,Op.intCmp],Lx _ _⟩
 case neq=>cases h;exact ⟨_,by simp [binOp,Op.intCmp],Lx _ _⟩
 case lss=>cases h;exact ⟨_,by simp [binOp,Op.intCmp],Lx _ _⟩
 case leq=>cases h;exact ⟨_,by simp [binOp,Op.intCmp],Lx _ _⟩
 case gtr=>cases h;exact ⟨_,by simp [binOp,Op.intCmp],Lx _ _⟩
 case geq=>cases h;exact ⟨_,by simp [binOp,Op.intCmp],Lx _ _⟩
 all_goals cases h
theorem DK (op:BinOp) (x y:AV) (vx vy:Value) (ox oy:Operand) (t:TypeId) (av:AV) (hx:Bq X w π H x vx) (hy:Bq X w π H y vy) (h:evalBin op x y=some av):
  ∃v,(do eqGuard op t ox oy vx vy;binOp op t vx vy:Sem Value).run P w= .ok v w/\Bq X w π H av v:=by
 unfold evalBin at h
 split at h
 ·rename_i k a _ k' b
  have:=Qe hx;subst this
  have:=Qe hy;subst this
  have hg: ∀op,(eqGuard op t ox oy (.int k a) (.int k' b)).run P w= .ok () w:=by intro op;cases op<;>simp [eqGuard]
  split at h
  ·split at h
   ·cases h
   ·rename_i hb
    simp only [aJ,Aa] at h;subst h
    exact ⟨_,by rw [Sem.run_bind,hg];simp [binOp,Op.shift,hb],Nj _ _ _⟩
  ·split at h
   ·cases h
   ·rename_i hb
    simp only [aJ,Aa] at h;subst h
    exact ⟨_,by rw [Sem.run_bind,hg];simp [binOp,Op.shift,hb],Nj _ _ _⟩
  ·split at h
   ·rename_i hk;subst hk
    obtain ⟨v,h1,h2⟩:=LH (P:=P) (w:=w) (X:=X) (π:=π) (H:=H) op k a b t av h
    exact ⟨v,by rw [Sem.run_bind,hg];exact h1,h2⟩
   ·cases h
 ·rename_i a _ b
  have:=fF hx;subst this
  have:=fF hy;subst this
  have hg: ∀op,(eqGuard op t ox oy (.string a) (.string b)).run P w= .ok () w:=by intro op;cases op<;>simp [eqGuard]
  split at h
  ·simp only [Pk,Aa] at h;subst h
   exact ⟨_,by rw [Sem.run_bind,hg];simp [binOp,Op.stringOp],Lx _ _⟩
  ·simp only [Pk,Aa] at h;subst h
   exact ⟨_,by rw [Sem.run_bind,hg];simp [binOp,Op.stringOp],Lx _ _⟩
  ·split at h
   ·rename_i hl
    simp only [Aa] at h;subst h
    exact ⟨_,by rw [Sem.run_bind,hg];simp only [Result.andThen_ok,binOp];exact run_string_add_sum w a b (by omega),mg _ _⟩
   ·cases h
  ·cases h
 ·cases h
theorem jm {t:TypeId} (h:P.underlying t=some .bool) (a b:Bool) (w:World):(Op.equal t (.bool a) (.bool b)).run P w= .ok (a==b) w:=by
 unfold Op.equal
 rw [show Op.maxDepth=9999+1 from rfl]
 unfold Op.equalIn
 rw [Sem.run_bind,run_underlying h]
 rfl
theorem FV (hT:Dz P T) {x:AV} {vx:Value} {b:Bool} {t:TypeId} (hx:Bq X w π H x vx) (h:dW x=some b) (ht:(T.elem t).isSome=true):
  (∃a len cap,vx= .slice a len cap/\(match a with|none=>true|some _=>false)=b)/\(Op.equal t vx (.slice none 0 0)).run P w= .ok b w:=by
 have h1: ∃a len cap,vx= .slice a len cap/\(match a with|none=>true|some _=>false)=b:=by
  unfold dW at h
  split at h
  ·simp only [Aa] at h;subst h
   have hx:vx= .slice none 0 0:=hx
   exact ⟨none,0,0,hx,rfl⟩
  ·simp only [Aa] at h;subst h
   obtain ⟨cs,hc,rfl⟩:=hx
   simp only [Cells] at hc
   rcases hc with ⟨rfl,c,rfl⟩|⟨xs,ad,len,cap,rfl,rfl,_⟩
   ·exact ⟨none,0,c,by simp [Cb,Ty.Ao],rfl⟩
   ·exact ⟨some ad,len,cap,by simp [Cb,Ty.Ao],rfl⟩
  ·cases h
 refine ⟨h1,?_⟩
 obtain ⟨a,len,cap,rfl,rfl⟩:=h1
 obtain ⟨te,l6⟩:=Xk.1 ht
 have hu:=hT.elem t te l6
 unfold Op.equal
 rw [show Op.maxDepth=9999+1 from rfl]
 unfold Op.equalIn
 rw [Sem.run_bind,run_underlying hu]
 cases a<;>rfl
theorem FU (hT:Dz P T) {x:AV} {vx:Value} {b:Bool} {t:TypeId} (hx:Bq X w π H x vx) (h:dV x=some b) (ht:ZI (T.ty t)=true):
  (∃a,vx= .pointer a/\(match a with|none=>true|some _=>false)=b)/\(Op.equal t vx (.pointer none)).run P w= .ok b w:=by
 have h1: ∃a,vx= .pointer a/\(match a with|none=>true|some _=>false)=b:=by
  unfold dV at h
  split at h
  ·simp only [Aa] at h;subst h
   have hx:vx= .pointer none:=hx
   exact ⟨none,hx,rfl⟩
  ·simp only [Aa] at h;subst h
   obtain ⟨r,tid,vs,_,_,rfl⟩:=hx
   exact ⟨_,rfl,rfl⟩
  ·simp only [Aa] at h;subst h
   obtain ⟨cs,hc,rfl⟩:=hx
   simp only [Cells] at hc
   rcases hc with ⟨rfl,rfl⟩|⟨xs,g,o,rfl,rfl,_⟩
   ·exact ⟨none,by simp [Cb,Ty.Ao],rfl⟩
   ·exact ⟨some ⟨g,o,none⟩,by simp [Cb,Ty.Ao],rfl⟩
  ·simp only [Aa] at h;subst h
   obtain ⟨cs,hc,rfl⟩:=hx
   simp only [Cells] at hc
   obtain ⟨g,o,rfl,_⟩:=hc
   exact ⟨some ⟨g,o,none⟩,by simp [Cb,Ty.Ao],rfl⟩
  ·cases h
 refine ⟨h1,?_⟩
 obtain ⟨a,rfl,rfl⟩:=h1
 have hu: ∃u,P.underlying t=some (.pointer u):=by
  cases Ym:T.ty t with
  |none=>rw [Ym] at ht;cases ht
  |some τ=>
   have hd:=(hT.ty t τ Ym).desc
   rw [Ym] at ht
   cases τ<;>first|exact hd|cases ht
 obtain ⟨u,hu⟩:=hu
 unfold Op.equal
 rw [show Op.maxDepth=9999+1 from rfl]
 unfold Op.equalIn
 rw [Sem.run_bind,run_underlying hu]
 cases a<;>rfl
theorem yL {T:Tab} (hT:Dz P T) (op:BinOp) (x y:AV) (vx vy:Value) (ox oy:Operand) (t:TypeId) (av:AV) (hx:Bq X w π H x vx) (hy:Bq X w π H y vy) (h:Tx T op t x y=some av):
  ∃v,(do eqGuard op t ox oy vx vy;binOp op t vx vy:Sem Value).run P w= .ok v w/\Bq X w π H av v:=by
 unfold Tx at h
 split at h
 ·split at h
  ·rename_i ht
   cases hn:dW x with
   |none=>rw [hn] at h;cases h
   |some b=>
    rw [hn] at h
    simp only [Ff,Pk,Aa] at h;subst h
    have hy:vy= .slice none 0 0:=hy
    subst hy
    obtain ⟨⟨a,len,cap,rfl,_⟩,h2⟩:=FV hT hx hn ht
    exact ⟨.bool b,by rw [Sem.run_bind];simp [eqGuard,binOp,h2],Lx _ _⟩
  ·cases h
 ·split at h
  ·rename_i ht
   cases hn:dV x with
   |none=>rw [hn] at h;cases h
   |some b=>
    rw [hn] at h
    simp only [Ff,Pk,Aa] at h;subst h
    have hy:vy= .pointer none:=hy
    subst hy
    obtain ⟨⟨a,rfl,_⟩,h2⟩:=FU hT hx hn ht
    exact ⟨.bool b,by rw [Sem.run_bind];simp [eqGuard,binOp,h2],Lx _ _⟩
  ·cases h
 ·split at h
  ·rename_i ht
   cases hn:dW x with
   |none=>rw [hn] at h;cases h
   |some b=>
    rw [hn] at h
    simp only [Ff,Pk,Aa] at h;subst h
    have hy:vy= .slice none 0 0:=hy
    subst hy
    obtain ⟨⟨a,len,cap,rfl,_⟩,h2⟩:=FV hT hx hn ht
    exact ⟨.bool (!b),by rw [Sem.run_bind];simp [eqGuard,binOp,h2],Lx _ _⟩
  ·cases h
 ·split at h
  ·rename_i ht
   cases hn:dV x with
   |none=>rw [hn] at h;cases h
   |some b=>
    rw [hn] at h
    simp only [Ff,Pk,Aa] at h;subst h
    have hy:vy= .pointer none:=hy
    subst hy
    obtain ⟨⟨a,rfl,_⟩,h2⟩:=FU hT hx hn ht
    exact ⟨.bool (!b),by rw [Sem.run_bind];simp [eqGuard,binOp,h2],Lx _ _⟩
  ·cases h
 ·rename_i a _ b
  have:=aa hx;subst this
  have:=aa hy;subst this
  split at h
  ·rename_i ht
   simp only [Pk,Aa] at h;subst h
   have hu:P.underlying t=some .bool:=(hT.ty t _ ht).desc
   exact ⟨_,by rw [Sem.run_bind];simp [eqGuard,binOp,jm hu],Lx _ _⟩
  ·cases h
 ·rename_i a _ b
  have:=aa hx;subst this
  have:=aa hy;subst this
  split at h
  ·rename_i ht
   simp only [Pk,Aa] at h;subst h
   have hu:P.underlying t=some .bool:=(hT.ty t _ ht).desc
   exact ⟨_,by rw [Sem.run_bind];simp [eqGuard,binOp,jm hu],Lx _ _⟩
  ·cases h
 ·exact DK op x y vx vy ox oy t av hx hy h
theorem KJ (op:UnOp) (x:AV) (vx:Value) (av:AV) (hx:Bq X w π H x vx) (h:yP op x=some av):
  ∃v,(Op.unary op vx).run P w= .ok v w/\Bq X w π H av v:=by
 unfold yP at h
 split at h
 ·have:=aa hx;subst this
  simp only [Pk,Aa] at h;subst h
  exact ⟨_,by simp [Op.unary],Lx _ _⟩
 ·have:=Qe hx;subst this
  simp only [aJ,Aa] at h;subst h
  exact ⟨_,by simp [Op.unary,Op.intArith],Nj _ _ _⟩
 ·cases h
theorem Iy {t:TypeId} {τ:Ty} (ht:oJ P T t τ) (g o:Nat) (es:List Value) (hl:es.length=τ.size) (hc: ∀j u,es[j]?=some u->w.cell? ⟨g,o+j,none⟩=some u):
  (loadVar t ⟨g,o,none⟩).run P w= .ok (Cb τ es) w:=by
 unfold loadVar
 rw [Sem.run_bind,ht.agg,Result.andThen_ok]
 cases hs:τ.Ao with
 |true=>
  simp only [Po,Sem.run_bind,ht.size,Result.andThen_ok]
  rw [<-hl,run_loadCells_list w ⟨g,o,none⟩ es (λj v hv=>by rw [Addr.add_lit];exact hc j v hv)]
  simp [Cb,hs]
 |false=>
  have h1:τ.size=1:=by cases τ<;>simp_all [Ty.Ao,Ty.size]
  rw [h1] at hl
  obtain ⟨u,rfl⟩:=Eb.1 hl
  have:=hc 0 u rfl
  simp only [Ek] at this
  simp [this,Cb,hs]
theorem uk {fr:Bool} {τ:Ty} {x:τ.den} {v:Value} (h:Bq X w π H (.at (.data fr τ x)) v):Bq X w π H (.at (.data (fr||τ.flat) τ x)) v:=by
 cases hf:τ.flat with
 |true=>exact Cw.flat hf h
 |false=>rw [gU];exact h
theorem wj {cs ds:List AC} {us vs:List Value} (h1:Fw X w π H cs us) (h2:Fw X w π H ds vs):Fw X w π H (cs++ds) (us++vs):=by
 have e1:=h1.1
 refine ⟨by simp [h1.1,h2.1],λi c hc=>?_⟩
 by_cases hi:i<cs.length
 ·rw [As hi] at hc
  obtain ⟨u,hu,h3⟩:=h1.2 i c hc
  exact ⟨u,by rw [As (by omega)];exact hu,h3⟩
 ·rw [Ar (by omega)] at hc
  obtain ⟨u,hu,h3⟩:=h2.2 _ c hc
  exact ⟨u,by rw [Ar (by omega),e1];exact hu,h3⟩
theorem fE {c:AC} {u:Value} (h1:u.oneCell'=true) (h2:Hq X w π H c u):Fw X w π H [c] [u]:=⟨rfl,λi c' hc=>by
 rcases i with _|i
 ·simp at hc;subst hc;exact ⟨u,rfl,h1,h2⟩
 ·simp at hc⟩
theorem NZ {l i:Nat} {e:Ty} {tid:TypeId} {xs:List e.den} {r:Real} (hl:At H l=some (.Gu e tid xs)) (hp:π l=some r) (hi:i<xs.length): ∀(τ:Ty) (c:Nat) (F:List Nat) (us:List Value) (x:τ.den),
  De w F τ us x->c+τ.size<=e.size->(∀j u,us[j]?=some u->w.cell? ⟨r.g,(r.o+i)*e.size+(c+j),none⟩=some u)->Fw X w π H (fO l i c τ x) us:=by
 intro τ
 induction τ with
 |unit=>intro c F us x h _ _;simp only [De] at h;obtain ⟨_,rfl⟩:=h;exact ⟨rfl,λi c hc=>by simp [fO] at hc⟩
 |pair a r gV gR=>
  intro c F us x h hle hc
  have yV:=De.cells (S:= λ_=>False) F _ us x h (λ_ _ h=>h)
  simp only [De] at h
  obtain ⟨c1,c2,F1,F2,rfl,rfl,h1,h2⟩:=h
  have s8:c1.length=a.size:=Cells.len a c1 x.1 (De.cells (S:= λ_=>False) F1 a c1 x.1 h1 (λ_ _ h=>h))
  simp only [Ty.size] at hle
  refine wj (gV c F1 c1 x.1 h1 (by omega) λj u hu=>hc j u (by rw [As (An.1 hu).1];exact hu)) (gR (c+a.size) F2 c2 x.2 h2 (by omega) λj u hu=>?_)
  have:=hc (a.size+j) u (by rw [Ar (by omega),s8];simpa using hu)
  rw [show c+a.size+j=c+(a.size+j) by omega];exact this
 |int k=>intro c F us x h _ _;simp only [De] at h;obtain ⟨_,rfl⟩:=h;exact fE rfl (Nj (H:=H) k x true)
 |bool=>intro c F us x h _ _;simp only [De] at h;obtain ⟨_,rfl⟩:=h;exact fE rfl (Lx (H:=H) x true)
 |str=>intro c F us x h _ _;simp only [De] at h;obtain ⟨_,rfl⟩:=h;exact fE rfl (mg (H:=H) x true)
 |slice e'=>
  intro c F us x h hle hc
  simp only [De] at h
  obtain ⟨a,len,cap,rfl,_⟩:=h
  exact fE rfl ⟨r,_,e.size,xs.length,hl,rfl,hp,hi,⟨by simp only [Ty.size] at hle;omega,_,_,_,rfl⟩,by simpa using hc 0 _ rfl⟩
 |_=>intro c F us x h;simp only [De] at h
theorem mY (hT:Dz P T) {st:St} {a:Act} (h:Bh X π st a w) (t:TypeId) (p:AV) (vp:Value) (av:AV) (hp:Bq X w π st.heap p vp) (he:Qm T st t p=some av):
  ∃v,(Instr.loadAt t vp).run P w= .ok v w/\Bq X w π st.heap av v:=by
 unfold Qm at he
 split at he
 ·rename_i τ fr Ok x ht
  split at he
  ·rename_i Ua
   subst Ua
   simp only [Aa] at he;subst he
   have Ym:=hT.ty _ _ ht
   obtain ⟨cs,hc,rfl⟩:=hp
   simp only [Cells] at hc
   obtain ⟨g,o,rfl,hg,hn,es,hl,Wi,bO⟩:=hc
   refine ⟨Cb Ok es,?_,uk (show Bq X w π st.heap (.at (.data fr Ok _)) (Cb Ok es) from ⟨es,bO,rfl⟩)⟩
   have hr:=Iy (P:=P) (w:=w) Ym g o es hl Wi
   show (do loadVar t (<-Instr.sureAddr (.pointer (some ⟨g,o,none⟩))):Sem Value).run P w=_
   simpa [Instr.sureAddr] using hr
  ·cases he
 ·rename_i τ fr Ok x ht
  split at he
  ·rename_i Ua
   subst Ua
   simp only [Aa] at he;subst he
   have Ym:=hT.ty _ _ ht
   obtain ⟨cs,hc,rfl⟩:=hp
   simp only [Cells] at hc
   rcases hc with ⟨h0,_⟩|⟨y,g,o,h0,rfl,hg,hn,es,hl,Wi,bO⟩
   ·cases h0
   simp only [Aa] at h0;subst h0
   refine ⟨Cb Ok es,?_,uk (show Bq X w π st.heap (.at (.data fr Ok _)) (Cb Ok es) from ⟨es,bO,rfl⟩)⟩
   have hr:=Iy (P:=P) (w:=w) Ym g o es hl Wi
   show (do loadVar t (<-Instr.sureAddr (.pointer (some ⟨g,o,none⟩))):Sem Value).run P w=_
   simpa [Instr.sureAddr] using hr
  ·cases he
 ·rename_i τ l i ht
  have Ym:=hT.ty _ _ ht
  split at he
  ·rename_i tid vs hl
   obtain ⟨r,Uz,vs',h1,h2,rfl⟩:=hp
   unfold St.at at hl
   rw [hl] at h1;cases h1
   obtain ⟨r',h3,h4,cur,h5,h6⟩:=(h.1.heap l).Rp hl
   rw [h2] at h3;cases h3
   split at he
   ·rename_i hs
    split at he
    ·rename_i hlen
     simp only [Aa] at he;subst he
     have Qk:cur.toList.length=vs.length:=h6.1
     refine ⟨_,by
      simp only [Instr.loadAt,Instr.sureAddr]
      simpa using Iy (P:=P) (w:=w) Ym r.g i ((cur.toList.drop i).take τ.size) (by simp at Qk⊢;omega) (λj u hu=>by
       rw [cellOf h5]
       rw [Cx] at hu
       split at hu
       ·rw [Dd] at hu;simpa using hu
       ·cases hu),?_⟩
     exact ⟨_,by simp [Cb,hs],a9 h6 i τ.size⟩
    ·cases he
   ·rename_i hs
    simp only [Ho] at hs
    have h1:τ.size=1:=by cases τ<;>simp_all [Ty.Ao,Ty.size]
    cases hi:vs[i]? with
    |none=>rw [hi] at he;cases he
    |some c=>
     rw [hi] at he
     simp only [Am,Aa] at he;subst he
     obtain ⟨u,hu,_,hc⟩:=h6.2 i c hi
     refine ⟨u,?_,hc⟩
     simp only [Instr.loadAt,Instr.sureAddr]
     have:=Iy (P:=P) (w:=w) Ym r.g i [u] (by simp [h1]) (λj u' gQ=>by
       rcases j with _|j
       ·simp at gQ;subst gQ;rw [Ek,cellOf h5];simpa using hu
       ·simp at gQ)
     simpa [Cb,hs] using this
  ·cases he
 ·rename_i τ l i ht
  have Ym:=hT.ty _ _ ht
  split at he
  ·rename_i fr tr e tid xs hl
   split at he
   ·rename_i heq;subst heq
    obtain ⟨r,b,sz,n,h1,h0,h2,h3,rfl⟩:=hp
    unfold St.at at hl
    rw [hl] at h1;cases h1
    simp only [OB.row,Aa,Ae] at h0
    obtain ⟨rfl,rfl⟩:=h0
    have hb:=(h.1.heap l).Rp hl
    simp only [Cj,Ki,h3] at hb
    obtain ⟨h4,cur,_,h5,h6,h7,h8,h9,_⟩:=hb
    have hx:xs[i]?=some xs[i]:=Ab h2
    rw [hx] at he
    simp only [Am,Aa] at he;subst he
    obtain ⟨es,gN,hj,yV⟩:=h9 i _ hx
    refine ⟨Cb e es,?_,uk (show Bq X w π st.heap (.at (.data fr e _)) (Cb e es) from ⟨es,yV,rfl⟩)⟩
    simp only [Instr.loadAt,Instr.sureAddr]
    simpa using Iy (P:=P) (w:=w) Ym r.g ((r.o+i)*e.size) es gN (λj u hu=>by rw [cellOf h5];exact hj j u hu)
   ·cases he
  ·rename_i e tid xs hl
   split at he
   ·rename_i heq;subst heq
    obtain ⟨r,b,sz,n,h1,h0,h2,h3,rfl⟩:=hp
    unfold St.at at hl
    rw [hl] at h1;cases h1
    simp only [OB.row,Aa,Ae] at h0
    obtain ⟨rfl,rfl⟩:=h0
    have hb:=(h.1.heap l).Rp hl
    simp only [Cj,Oe,h3] at hb
    obtain ⟨h4,cur,_,h5,h6,h7,h8,Fs,k1,k2,k3,k4⟩:=hb
    have hx:xs[i]?=some xs[i]:=Ab h2
    rw [hx] at he
    simp only [Am,Aa] at he;subst he
    obtain ⟨es,gN,hj,yV⟩:=k4 i _ _ hx (Ab (by omega))
    have hrs:=NZ (X:=X) (H:=st.heap) hl h3 h2 e 0 _ es _ yV (by omega) (λj u hu=>by rw [cellOf h5,Bo];exact hj j u hu)
    refine ⟨Cb e es,?_,?_⟩
    ·simp only [Instr.loadAt,Instr.sureAddr]
     simpa using Iy (P:=P) (w:=w) Ym r.g ((r.o+i)*e.size) es gN (λj u hu=>by rw [cellOf h5];exact hj j u hu)
    ·cases Vz:e.Ao with
     |true=>rw [Ac rfl];exact ⟨es,by simp [Cb,Vz],hrs⟩
     |false=>
      rw [Ak (by simp)]
      have h1:e.size=1:=by cases e<;>simp_all [Ty.Ao,Ty.size]
      rw [h1] at gN
      obtain ⟨u,rfl⟩:=Eb.1 gN
      have s8:=hrs.1
      generalize fO l i 0 e xs[i]=sc at*
      simp only [Av,Fg] at s8
      obtain ⟨c,rfl⟩:=Eb.1 s8.symm
      obtain ⟨u',gQ,_,xd⟩:=hrs.2 0 c rfl
      simp at gQ;subst gQ
      have e1:Cb e [u]=u:=by simp [Cb,Vz]
      rw [e1]
      exact xd
   ·cases he
  ·rename_i e te rows kp hl
   split at he
   ·cases he
   ·rename_i Vz
    simp only [Ho] at Vz
    simp only [Aa] at he;subst he
    obtain ⟨r,b,sz,n,h1,h0,h2,h3,rfl⟩:=hp
    unfold St.at at hl
    rw [hl] at h1;cases h1
    simp only [OB.row,Aa,Ae] at h0
    obtain ⟨rfl,rfl⟩:=h0
    obtain ⟨u,R,k1,k2,k3⟩:=nq h.1 hl h3 h2 (by simp)
    have aB:τ.size=1:=by cases τ<;>simp_all [Ty.Ao,Ty.size]
    refine ⟨u,?_,r,_,1,rows.length,hl,rfl,h3,h2,⟨by omega,aU k2⟩,by rw [Fe,Ek];exact k1⟩
    simp only [Instr.loadAt,Instr.sureAddr]
    have:=Iy (P:=P) (w:=w) Ym r.g ((r.o+i)*1) [u] (by simp [aB]) (λj u' gQ=>by
     rcases j with _|j
     ·simp at gQ;subst gQ;rw [Fe,Ek];exact k1
     ·simp at gQ)
    simpa [Cb,Vz] using this
  ·cases he
 ·rename_i τ l i j ht
  have Ym:=hT.ty _ _ ht
  split at he
  ·rename_i e te rows kp hl
   split at he
   ·rename_i heq;subst heq
    simp only [Aa] at he;subst he
    obtain ⟨r,b,n,sz,g,o,len,cap,h1,h0,h2,h3,h4,h5,rfl⟩:=hp
    unfold St.at at hl
    rw [hl] at h1;cases h1
    simp only [OB.vJ,Aa,Ae] at h0
    obtain ⟨rfl,rfl⟩:=h0
    obtain ⟨u,R,k1,k2,k3⟩:=nq h.1 hl h2 h3 (by simp)
    rw [h5] at k1
    have hu:=Bb k1
    subst hu
    cases R with
    |none=>obtain ⟨hh,_⟩:=k2;cases hh
    |some q=>
     obtain ⟨ad,hh,g1,g2⟩:=k2
     simp only [Value.slice.injEq,Aa] at hh
     obtain ⟨rfl,rfl,rfl⟩:=hh
     have XW:=g2 (by omega)
     simp only [Addr.mk.injEq,On] at XW
     obtain ⟨rfl,rfl⟩:=XW
     obtain ⟨f1,cur,ti,f2,f3,f4,f5,f6⟩:=k3
     have hj:(rows.getD i [])[j]?=some ((rows.getD i []).getD j e.zero):=by rw [Ah (l:=rows.getD i []),Ab h4];rfl
     obtain ⟨es,gN,c1,c2⟩:=f6 j _ hj
     refine ⟨Cb e es,?_,uk (fr:=false) (show Bq X w π st.heap (.at (.data false e _)) (Cb e es) from ⟨es,c2,rfl⟩)⟩
     simp only [Instr.loadAt,Instr.sureAddr]
     simpa using Iy (P:=P) (w:=w) Ym q.g ((q.o+0)*e.size+j*e.size) es gN (λm u hu=>by rw [cellOf f2,Ek,<-Dg];exact c1 m u hu)
   ·cases he
  ·cases he
 ·cases he
theorem ZD {α:Type} {xs:List α} {n:Int} {x:α} (h:idx xs n=some x):0<=n/\n<xs.length/\xs[n.toNat]?=some x:=by
 unfold idx at h
 split at h
 ·rename_i h0
  have:=(An.1 h).1
  exact ⟨h0,by omega,h⟩
 ·cases h
theorem rU (hT:Dz P T) {t:TypeId} {e:Ty} (h:(T.elem t).bind T.ty=some e): ∃te,T.elem t=some te/\T.ty te=some e/\P.underlying t=some (.slice te)/\P.elem t=te:=by
 cases ht:T.elem t with
 |none=>rw [ht] at h;cases h
 |some te=>
  rw [ht] at h
  have hu:=hT.elem t te ht
  exact ⟨te,rfl,h,hu,by simp [Program.elem,hu]⟩
theorem mX (hT:Dz P T) {st:St} {a:Act} (h:Bh X π st a w) (t:TypeId) (x i:AV) (vx vi:Value) (av:AV) (hx:Bq X w π st.heap x vx) (hi:Bq X w π st.heap i vi)
  (he:Kv T st t x i=some av): ∃v,(Instr.indexAt t vx vi).run P w= .ok v w/\Bq X w π st.heap av v:=by
 unfold Kv at he
 split at he
 ·rename_i fr e xs _ k n
  have:=Qe hi;subst this
  split at he
  ·rename_i l4
   obtain ⟨te,h1,h2,h3,h4⟩:=rU hT l4
   cases hix:idx xs n with
   |none=>rw [hix] at he;cases he
   |some y=>
    rw [hix] at he
    simp only [Am,Aa] at he;subst he
    obtain ⟨h5,h6,h7⟩:=ZD hix
    obtain ⟨cs,hc,rfl⟩:=hx
    simp only [Cells] at hc
    obtain ⟨ad,len,cap,rfl,hlen,tj,KV⟩:=hc
    rcases KV with rfl|⟨g,o,rfl,hg,hn,Kl⟩
    ·simp at h6;omega
    ·obtain ⟨es,gN,Wi,bO⟩:=Kl _ _ h7
     have aB:=(hT.ty _ _ h2).size (w:=w)
     refine ⟨.pointer (some ⟨g,o+n.toNat*e.size,none⟩),?_,[_],⟨g,_,rfl,hg,hn,es,gN,Wi,bO⟩,by simp [Cb,Ty.Ao]⟩
     simp only [Cb,Ty.Ao,Dc,Rn,hJ]
     rw [run_indexAt_slice (P:=P) w t _ _ _ k n (by rw [h3,h4]),Ac ⟨h5,by omega⟩,h4,aB,Result.andThen_ok,Addr.add_lit]
  ·cases he
 ·rename_i l off len _ k n
  have:=Qe hi;subst this
  split at he
  ·rename_i fr tr e tid xs hl
   split at he
   ·rename_i Jv
    obtain ⟨h1,h2,h56⟩:=Jv
    obtain ⟨h5,h6⟩:=Ui.1 h56
    simp only [Aa] at he;subst he
    have h3:=hT.elem t tid h1
    have h4:P.elem t=tid:=by simp [Program.elem,h3]
    unfold St.at at hl
    have Ke:=hl
    obtain ⟨h8,h9⟩:=Ot (X:=X) (w:=w) hx hl
    cases hp:π l with
    |none=>rw [hp] at h9;obtain ⟨_,_,h9⟩:=h9;omega
    |some r=>
     rw [hp] at h9
     obtain ⟨ad,rfl,oC,gL⟩:=h9
     have h12:=gL (by omega)
     subst h12
     have aB:=(hT.ty _ _ h2).size (w:=w)
     refine ⟨.pointer (some ⟨r.g,(r.o+off)*e.size+n.toNat*e.size,none⟩),?_,r,_,e.size,xs.length,Ke,rfl,by omega,hp,?_⟩
     ·rw [run_indexAt_slice (P:=P) w t _ _ _ k n (by rw [h3,h4]),Ac ⟨h5,by omega⟩,h4,aB,Result.andThen_ok,Addr.add_lit]
     ·rw [<-Gq r.o off n.toNat,Dg (r.o+off)]
   ·cases he
  ·rename_i e tid xs hl
   split at he
   ·rename_i Jv
    obtain ⟨h1,h2,h56⟩:=Jv
    obtain ⟨h5,h6⟩:=Ui.1 h56
    simp only [Aa] at he;subst he
    have h3:=hT.elem t tid h1
    have h4:P.elem t=tid:=by simp [Program.elem,h3]
    unfold St.at at hl
    have Ke:=hl
    obtain ⟨h8,h9⟩:=c5 (X:=X) (w:=w) hx hl
    cases hp:π l with
    |none=>rw [hp] at h9;obtain ⟨_,_,h9⟩:=h9;omega
    |some r=>
     rw [hp] at h9
     obtain ⟨ad,rfl,oC,gL⟩:=h9
     have h12:=gL (by omega)
     subst h12
     have aB:=(hT.ty _ _ h2).size (w:=w)
     refine ⟨.pointer (some ⟨r.g,(r.o+off)*e.size+n.toNat*e.size,none⟩),?_,r,_,e.size,xs.length,Ke,rfl,by omega,hp,?_⟩
     ·rw [run_indexAt_slice (P:=P) w t _ _ _ k n (by rw [h3,h4]),Ac ⟨h5,by omega⟩,h4,aB,Result.andThen_ok,Addr.add_lit]
     ·rw [<-Gq r.o off n.toNat,Dg (r.o+off)]
   ·cases he
  ·rename_i e te rows out kp hl
   split at he
   ·rename_i Jv
    obtain ⟨h1,h2,h56⟩:=Jv
    obtain ⟨h5,h6⟩:=Ui.1 h56
    simp only [Aa] at he;subst he
    have h3:=hT.elem t te h1
    have h4:P.elem t=te:=by simp [Program.elem,h3]
    unfold St.at at hl
    have Ke:=hl
    obtain ⟨h8,h9⟩:=nX (X:=X) (w:=w) hx hl
    cases hp:π l with
    |none=>rw [hp] at h9;obtain ⟨_,_,h9⟩:=h9;omega
    |some r=>
     rw [hp] at h9
     obtain ⟨ad,rfl,oC,gL⟩:=h9
     have h12:=gL (by omega)
     subst h12
     cases l6:T.ty te with
     |none=>rw [l6] at h2;cases h2
     |some τ=>
      rw [l6] at h2
      have h2:τ.size=1:=Bb h2
      have aB:=(hT.ty _ _ l6).size (w:=w)
      refine ⟨.pointer (some ⟨r.g,(r.o+off)*1+n.toNat*τ.size,none⟩),?_,r,_,1,rows.length,Ke,rfl,by omega,hp,?_⟩
      ·rw [run_indexAt_slice (P:=P) w t _ _ _ k n (by rw [h3,h4]),Ac ⟨h5,by omega⟩,h4,aB,Result.andThen_ok,Addr.add_lit]
      ·rw [h2,<-Gq r.o off n.toNat,Dg (r.o+off)]
   ·cases he
  ·cases he
 ·rename_i l i c _ k n
  have:=Qe hi;subst this
  split at he
  ·rename_i e te rows kp hl
   split at he
   ·rename_i Jv
    obtain ⟨h2,h56⟩:=Jv
    obtain ⟨h5,h6⟩:=Ui.1 h56
    simp only [Aa] at he;subst he
    cases l6:T.elem t with
    |none=>rw [l6] at h2;cases h2
    |some Rj=>
     rw [l6] at h2
     cases Ym:T.ty Rj with
     |none=>rw [Ff,Ym] at h2;cases h2
     |some τ=>
      rw [Ff,Ym] at h2
      have h2:τ.size=e.size:=Bb h2
      have h3:=hT.elem t Rj l6
      have h4:P.elem t=Rj:=by simp [Program.elem,h3]
      unfold St.at at hl
      obtain ⟨r,b,sz,m,g1,g0,g2,g3,⟨g4,_⟩,g5⟩:=hx
      rw [hl] at g1;cases g1
      simp only [OB.gq,Aa,Ae] at g0
      obtain ⟨rfl,rfl⟩:=g0
      have jQ:c=0:=by omega
      subst jQ
      rw [Fe,Ek] at g5
      obtain ⟨u,R,k1,k2,k3⟩:=nq h.1 hl g2 g3 (by simp)
      rw [g5] at k1
      have hu:=Bb k1
      subst hu
      cases R with
      |none=>obtain ⟨_,_,hh⟩:=k2;omega
      |some q=>
       obtain ⟨ad,rfl,f1,f2⟩:=k2
       have XW:=f2 (by omega)
       subst XW
       have aB:=(hT.ty _ _ Ym).size (w:=w)
       refine ⟨.pointer (some ⟨q.g,(q.o+0)*e.size+n.toNat*τ.size,none⟩),?_,r,_,rows.length,e.size,q.g,(q.o+0)*e.size,_,_,hl,rfl,g2,g3,by omega,g5,by rw [h2]⟩
       rw [run_indexAt_slice (P:=P) w t _ _ _ k n (by rw [h3,h4]),Ac ⟨h5,by omega⟩,h4,aB,Result.andThen_ok,Addr.add_lit]
   ·cases he
  ·cases he
 ·cases he
end
end Go.Proofs.Ytkkdpknjohcekaa
