/-
  Part 7 of the proof that the statement FnExactSolveIDAStar holds.
-/
import Derived.Test.YtfgfigkbgecfnaaGreatCSolveIDAStar05
namespace Go.Proofs.YtfgfigkbgecfnaaGreat
open Go.RowKit
section
variable {P:Program} {T:Tab} {X:Ctx} {w w':World} {π:Pi} {H:List (Nat×OB)}
def UF (P:Program) (X:Ctx) (π:Pi) (H:List (Nat×OB)) (w:World) (av:AV):Result Next->Prop
 | .ok (.value v) w'=>w'=w/\Bs X w π H av v
 | .ok (.enter f args) w'=>w'=w/\Calls P f args w (λe sM=> ∃v,e= .returned v/\Below w.heap.size w sM/\Bs X sM π H av v)
 |_=>False
def mL (s:Spec) (w:World) (S:Nat->Prop) (v:Value) (y:s.res.den):Prop:=
 if s.Hb then ∃us:List Value,v= .tuple us.toArray/\Cy w S s.res us y else Cw w S s.res v y
structure Sound (P:Program) (f:FuncId) (s:Spec):Prop where
 enter: ∀args w,(callFunc f args).run P w= .ok (.enter f args) w
 calls: ∀(w:World) (S:Nat->Prop) (vs:List Value) (x:s.arg.den) (y:s.res.den),(∀k,S k->k<w.heap.size)->Cy w S s.arg vs x->s.fn x=some y->
  Calls P f vs.toArray w λe w'=> ∃v,e= .returned v/\Below w.heap.size w w'/\mL s w' (λb=>S b\/(s.fresh=true/\b<w.heap.size)) v y
def ia (w:World) (D:Nat->Prop) (r:Option Real):(c:CK)->c.den->Prop
 | .Em _,_=>r=none
 | .row e _,xs=>Ts w D r e xs
 | .Hp e te,xs=>Of w r e te xs
 | .part e _,x=>e.flat=true/\Ts w D r e x.1
 | .Bp e _ _,rows=>bd w D r e rows none
def fI (w:World) (D:Nat->Prop) (r:Option Real) (v:Value):(c:CK)->c.den->Prop
 | .Em τ,x=>r=none/\Cw w D τ v x
 | .row e te,xs=>Ib r e.size 0 (List.length xs) v/\ia w D r (.row e te) xs
 | .Hp e te,xs=>Ib r e.size 0 (List.length xs) v/\ia w D r (.Hp e te) xs
 | .part e te,x=>(Ib r e.size x.2.1 x.2.2 v/\x.2.1+x.2.2<=List.length x.1)/\ia w D r (.part e te) x
 | .Bp e te kp,rows=>Ib r 1 0 (List.length rows) v/\ia w D r (.Bp e te kp) rows
def fK (w:World) (D:Nat->Prop) (π:Pi):(k:Nat)->(cs:List (Bool×CK))->Ins.den cs->List Value->Prop
 |_,[],_,[]=>True
 |k,p::r,x,u::us=>fI w D (π (Dt p.1 k)) u p.2 x.1/\fK w D π (k+1) r x.2 us
 |_,_,_,_=>False
def Ma (w:World) (D:Nat->Prop) (π:Pi):(k:Nat)->(cs:List (Bool×CK))->IOs.den cs->Prop
 |_,[],_=>True
 |k,(true, .Em _)::r,x=>Ma w D π (k+1) r x
 |k,(true, .Bp _ _ _)::r,x=>Ma w D π (k+1) r x
 |k,(true, .row e te)::r,x=>ia w D (π (Dt true k)) (.row e te) x.1/\Ma w D π (k+1) r x.2
 |k,(true, .Hp e te)::r,x=>ia w D (π (Dt true k)) (.Hp e te) x.1/\Ma w D π (k+1) r x.2
 |k,(true, .part e te)::r,x=>ia w D (π (Dt true k)) (.row e te) x.1/\Ma w D π (k+1) r x.2
 |k,(false,_)::r,x=>Ma w D π (k+1) r x
def Ji (w:World) (D:Nat->Prop) (ρ:Pi):(k:Nat)->(cs:List CK)->CKs.den cs->List Value->Prop
 |_,[],_,[]=>True
 |k,c::r,x,u::us=>fI w D (ρ (Jw k)) u c x.1/\Ji w D ρ (k+1) r x.2 us
 |_,_,_,_=>False
structure fL (π:Pi) (A:Nat->Prop):Prop where
 bj: ∀l r b,π l=some r->r.Cx b->A b
 inj: ∀l l' r r' b,π l=some r->π l'=some r'->r.Cx b->r'.Cx b->l=l'
def bO:List (Option Nat)->List Value->Prop
 | [],[]=>True
 |none::s,_::us=>bO s us
 |some n::s,us=>n<=us.length/\(∀u∈us.take n,u.oneCell'=true)/\bO s (us.drop n)
 |_,_=>False
def Aen (Hb:Bool) (sh:List (Option Nat)) (us:List Value) (v:Value):Prop:=if Hb then v= .tuple (Ki sh us).toArray else Ki sh us= [v]\/Ki sh us= []
def iL (S:Nat->Prop) (π ρ:Pi) (b:Nat):Prop:=S b\/(∃l q,Bn<=l/\π l=some q/\q.Cx b)\/Ux ρ b
def pY (s:MSpec) (w:World) (g:Nat) (us vs:List Value):Prop:=
 match s.ptr with
 |none=>vs=Ki s.Ja us/\bO s.Ja us
 |some p=>vs= .pointer (some ⟨g,0,none⟩)::Ki s.Ja (us.drop p.2)/\bO s.Ja (us.drop p.2)/\p.2<=us.length/\w.heap[g]?=some (.cells (us.take p.2).toArray p.1 (0,0))/\ ∀u∈us.take p.2,u.oneCell'=true
def MSpec.gv (s:MSpec) (g b:Nat):Prop:=s.ptr.isSome=true/\b=g
def Es (π:Pi):(k:Nat)->(cs:List (Bool×CK))->IOs.den cs->(n:Nat)->List Value->List Value->Prop
 |_,_,_,0,us,_=>us= []
 |k,(true, .row e _)::r,o,n+1,u::us,as=>Ib (π (Dt true k)) e.size 0 (List.length o.1) u/\Es π (k+1) r o.2 n us as
 |k,(true, .Hp e _)::r,o,n+1,u::us,as=>Ib (π (Dt true k)) e.size 0 (List.length o.1) u/\Es π (k+1) r o.2 n us as
 |k,(false,_)::r,o,n+1,u::us,a::as=>u=a/\Es π (k+1) r o n us as
 |_,_,_,_,_,_=>False
def iZ (s:MSpec) (π:Pi) (w':World) (g:Nat) (Rw:List Value) (o:IOs.den s.ins):Prop:=
 match s.ptr with
 |none=>True
 |some p=> ∃cs,w'.heap[g]?=some (.cells cs.toArray p.1 (0,0))/\(∀u∈cs,u.oneCell'=true)/\Es π 0 s.ins o p.2 cs Rw
def zc (w w':World) (r r':Option Real) (n:Nat):Prop:=match r,r' with
 |none,none=>True
 |some q,some q'=>q'.g=q.g/\q'.o=q.o/\q'.cap=q.cap/\ ∀j,j<n->j<q.cap->w'.cell? ⟨q.g,q.o+j,none⟩=w.cell? ⟨q.g,q.o+j,none⟩
 |_,_=>False
def uo (s:MSpec) (p:Value) (us:List Value) (v:Value):Prop:=match s.rx with
 |none=>v=p
 |some _=>v= .tuple (p::Ki s.Fu (s.tl us)).toArray/\bO s.Fu (s.tl us)
def rD (s:MSpec) (w':World) (ρ:Pi) (us:List Value) (v:Value):Prop:=match s.rp with
 |none=>Aen s.Hb s.Fu us v/\bO s.Fu us
 |some tid=> ∃q,ρ (Jw s.outs.length)=some q/\q.Cx q.g/\w'.heap[q.g]?=some (.cells (s.hd us).toArray tid (0,0))/\(∀u∈s.hd us,u.oneCell'=true)/\uo s (.pointer (some ⟨q.g,0,none⟩)) us v
def MSpec.Us (s:MSpec):Nat:=s.outs.length+(match s.rp with|none=>0|some _=>1)
structure Cb (P:Program) (f:FuncId) (s:MSpec):Prop where
 enter: ∀args w,(callFunc f args).run P w= .ok (.enter f args) w
 calls: ∀(w:World) (S:Nat->Prop) (π:Pi) (us:List Value) (x:Ins.den s.ins) (r:CKs.den s.outs) (o:IOs.den s.ins) (g:Nat) (vs:List Value),
  pY s w g us vs->(s.ptr.isSome=true->S g)->fK w (λb=>Ux π b\/S b) π 0 s.ins x us->fL π (λb=>b<w.heap.size)->(∀b,S b->b<w.heap.size/\ ¬Ux π b)->(∀l,Au (aE 0 s.ins x) l=none->π l=none)->s.fn x=some (r,o)->
  Calls P f vs.toArray w λe w'=> ∃v Rw ρ,e= .returned v/\rD s w' ρ (Rw.drop s.Rt) v/\iZ s π w' g Rw o/\He w.heap.size (λb=>Ux π b\/s.gv g b) w w'/\Ma w' (iL S π ρ) π 0 s.ins o/\Ji w' (iL S π ρ) ρ 0 s.outs r Rw/\
   fL ρ (λb=>b<w'.heap.size/\(w.heap.size<=b\/ ∃l q,l<Bn/\π l=some q/\q.Cx b))/\(∀l,(∀k,k<s.Us->l≠Jw k)->ρ l=none)/\(∀kj∈s.keeps,zc w w' (π (Dt false kj.1)) (ρ (Jw kj.2)) (s.Fg x))
def Akx (P:Program) (f:FuncId):Pp->Prop
 | .q s=>Sound P f s
 | .m s=>Cb P f s
 | .b s m=>Sound P f s/\Cb P f m
def Kk (P:Program) (Γ:Env):Prop:= ∀f s,Γ f=some s->Akx P f s
theorem Kk.reg {P:Program} {Γ:Env} (h:Kk P Γ) (draw:Bool):Kk P (EF Γ draw):= λf s hs=>by
 unfold EF at hs
 split at hs
 ·rename_i s0 m Ph
  have:=h f _ Ph
  cases draw with
  |true=>simp only [Pv,Aa] at hs;subst hs;exact this.1
  |false=>simp only [Dj,Ul,Aa] at hs;subst hs;exact this.2
 ·exact h f s hs
theorem Qo {k:IntKind} {n:Int} {fr:Bool} {v:Value} (h:Bs X w π H (.at (.data fr (.int k) n)) v):v= .int k n:=by
 obtain ⟨cs,h1,rfl⟩:=h;simp only [Cells] at h1;subst h1;rfl
theorem aM {b:Bool} {fr:Bool} {v:Value} (h:Bs X w π H (.at (.data fr .bool b)) v):v= .bool b:=by
 obtain ⟨cs,h1,rfl⟩:=h;simp only [Cells] at h1;subst h1;rfl
theorem gD {s:ByteArray} {fr:Bool} {v:Value} (h:Bs X w π H (.at (.data fr .str s)) v):v= .string s:=by
 obtain ⟨cs,h1,rfl⟩:=h;simp only [Cells] at h1;subst h1;rfl
theorem Ni (k:IntKind) (n:Int) (fr:Bool):Bs X w π H (.at (.data fr (.int k) n)) (.int k n):=⟨[.int k n],rfl,rfl⟩
theorem Mc (b:Bool) (fr:Bool):Bs X w π H (.at (.data fr .bool b)) (.bool b):=⟨[.bool b],rfl,rfl⟩
theorem nu (s:ByteArray) (fr:Bool):Bs X w π H (.at (.data fr .str s)) (.string s):=⟨[.string s],rfl,rfl⟩
theorem An1 (f:FuncId):Bs X w π H (.at (.clo f [])) (.func (.func f) #[] #[]):=⟨[],rfl,rfl,λi p hi=>by simp at hi⟩
theorem XD (v:Value):Bs X w π H (o4 v) v:=by
 unfold o4
 split
 ·exact Ni _ _ _
 ·exact Mc _ _
 ·exact nu _ _
 ·rfl
 ·rfl
 ·trivial
theorem Dy {st:St} {a:Act} (h:um X w π st a) (x:Operand):Bs X w π st.heap (st.ev x) (a.eval x):=by
 cases x with
 |tmp t=>exact h.tmps t
 |const v=>exact XD v
 |global g=>trivial
 |func f=>exact An1 f
theorem QK (op:BinOp) (k:IntKind) (a b:Int) (t:TypeId) (av:AV) (h:vL op k a b=some av):
  ∃v,(binOp op t (.int k a) (.int k b)).run P w= .ok v w/\Bs X w π H av v:=by
 cases op<;>simp only [vL,bt,Pr] at h
 case add=>cases h;exact ⟨_,by simp [binOp,Op.intArith],Ni _ _ _⟩
 case sub=>cases h;exact ⟨_,by simp [binOp,Op.intArith],Ni _ _ _⟩
 case mul=>cases h;exact ⟨_,by simp [binOp,Op.intArith],Ni _ _ _⟩
 case quo=>split at h<;>cases h;rename_i hb;exact ⟨_,by simp [binOp,Op.intDiv,hb],Ni _ _ _⟩
 case rem=>split at h<;>cases h;rename_i hb;exact ⟨_,by simp [binOp,Op.intDiv,hb],Ni _ _ _⟩
 case and=>cases h;exact ⟨_,by simp [binOp,Op.intBits],Ni _ _ _⟩
 case or=>cases h;exact ⟨_,by simp [binOp,Op.intBits],Ni _ _ _⟩
 case eql=>cases h;exact ⟨_,by simp [binOp,Op.intCmp],Mc _ _⟩
 case neq=>cases h;exact ⟨_,by simp [binOp,Op.intCmp],Mc _ _⟩
 case lss=>cases h;exact ⟨_,by simp [binOp,Op.intCmp],Mc _ _⟩
 case leq=>cases h;exact ⟨_,by simp [binOp,Op.intCmp],Mc _ _⟩
 case gtr=>cases h;exact ⟨_,by simp [binOp,Op.intCmp],Mc _ _⟩
 case geq=>cases h;exact ⟨_,by simp [binOp,Op.intCmp],Mc _ _⟩
 all_goals cases h
theorem HS (op:BinOp) (x y:AV) (vx vy:Value) (ox oy:Operand) (t:TypeId) (av:AV) (hx:Bs X w π H x vx) (hy:Bs X w π H y vy) (h:evalBin op x y=some av):
  ∃v,(do eqGuard op t ox oy vx vy;binOp op t vx vy:Sem Value).run P w= .ok v w/\Bs X w π H av v:=by
 unfold evalBin at h
 split at h
 ·rename_i k a _ k' b
  have:=Qo hx;subst this
  have:=Qo hy;subst this
  have hg: ∀op,(eqGuard op t ox oy (.int k a) (.int k' b)).run P w= .ok () w:=by intro op;cases op<;>simp [eqGuard]
  split at h
  ·split at h
   ·cases h
   ·rename_i hb
    simp only [bt,Aa] at h;subst h
    exact ⟨_,by rw [Sem.run_bind,hg];simp [binOp,Op.shift,hb],Ni _ _ _⟩
  ·split at h
   ·cases h
   ·rename_i hb
    simp only [bt,Aa] at h;subst h
    exact ⟨_,by rw [Sem.run_bind,hg];simp [binOp,Op.shift,hb],Ni _ _ _⟩
  ·split at h
   ·rename_i hk;subst hk
    obtain ⟨v,h1,h2⟩:=QK (P:=P) (w:=w) (X:=X) (π:=π) (H:=H) op k a b t av h
    exact ⟨v,by rw [Sem.run_bind,hg];exact h1,h2⟩
   ·cases h
 ·rename_i a _ b
  have:=gD hx;subst this
  have:=gD hy;subst this
  have hg: ∀op,(eqGuard op t ox oy (.string a) (.string b)).run P w= .ok () w:=by intro op;cases op<;>simp [eqGuard]
  split at h
  ·simp only [Pr,Aa] at h;subst h
   exact ⟨_,by rw [Sem.run_bind,hg];simp [binOp,Op.stringOp],Mc _ _⟩
  ·simp only [Pr,Aa] at h;subst h
   exact ⟨_,by rw [Sem.run_bind,hg];simp [binOp,Op.stringOp],Mc _ _⟩
  ·split at h
   ·rename_i hl
    simp only [Aa] at h;subst h
    exact ⟨_,by rw [Sem.run_bind,hg];simp only [Result.andThen_ok,binOp];exact run_string_add_sum w a b (by omega),nu _ _⟩
   ·cases h
  ·cases h
 ·cases h
theorem kl {t:TypeId} (h:P.underlying t=some .bool) (a b:Bool) (w:World):(Op.equal t (.bool a) (.bool b)).run P w= .ok (a==b) w:=by
 unfold Op.equal
 rw [show Op.maxDepth=9999+1 from rfl]
 unfold Op.equalIn
 rw [Sem.run_bind,run_underlying h]
 rfl
theorem KE (hT:Ed P T) {x:AV} {vx:Value} {b:Bool} {t:TypeId} (hx:Bs X w π H x vx) (h:eQ x=some b) (ht:(T.elem t).isSome=true):
  (∃a len cap,vx= .slice a len cap/\(match a with|none=>true|some _=>false)=b)/\(Op.equal t vx (.slice none 0 0)).run P w= .ok b w:=by
 have h1: ∃a len cap,vx= .slice a len cap/\(match a with|none=>true|some _=>false)=b:=by
  unfold eQ at h
  split at h
  ·simp only [Aa] at h;subst h
   have hx:vx= .slice none 0 0:=hx
   exact ⟨none,0,0,hx,rfl⟩
  ·simp only [Aa] at h;subst h
   obtain ⟨cs,hc,rfl⟩:=hx
   simp only [Cells] at hc
   rcases hc with ⟨rfl,c,rfl⟩|⟨xs,ad,len,cap,rfl,rfl,_⟩
   ·exact ⟨none,0,c,by simp [Cf,Ty.Aq],rfl⟩
   ·exact ⟨some ad,len,cap,by simp [Cf,Ty.Aq],rfl⟩
  ·cases h
 refine ⟨h1,?_⟩
 obtain ⟨a,len,cap,rfl,rfl⟩:=h1
 obtain ⟨te,mb⟩:=iV.1 ht
 have hu:=hT.elem t te mb
 unfold Op.equal
 rw [show Op.maxDepth=9999+1 from rfl]
 unfold Op.equalIn
 rw [Sem.run_bind,run_underlying hu]
 cases a<;>rfl
theorem KD (hT:Ed P T) {x:AV} {vx:Value} {b:Bool} {t:TypeId} (hx:Bs X w π H x vx) (h:eP x=some b) (ht:Adj (T.ty t)=true):
  (∃a,vx= .pointer a/\(match a with|none=>true|some _=>false)=b)/\(Op.equal t vx (.pointer none)).run P w= .ok b w:=by
 have h1: ∃a,vx= .pointer a/\(match a with|none=>true|some _=>false)=b:=by
  unfold eP at h
  split at h
  ·simp only [Aa] at h;subst h
   have hx:vx= .pointer none:=hx
   exact ⟨none,hx,rfl⟩
  ·simp only [Aa] at h;subst h
   obtain ⟨r,tid,vs,_,_,rfl⟩:=hx
   exact ⟨_,rfl,rfl⟩
  ·simp only [Aa] at h;subst h
   obtain ⟨cs,hc,rfl⟩:=hx
   simp only [Cells] at hc
   rcases hc with ⟨rfl,rfl⟩|⟨xs,g,o,rfl,rfl,_⟩
   ·exact ⟨none,by simp [Cf,Ty.Aq],rfl⟩
   ·exact ⟨some ⟨g,o,none⟩,by simp [Cf,Ty.Aq],rfl⟩
  ·simp only [Aa] at h;subst h
   obtain ⟨cs,hc,rfl⟩:=hx
   simp only [Cells] at hc
   obtain ⟨g,o,rfl,_⟩:=hc
   exact ⟨some ⟨g,o,none⟩,by simp [Cf,Ty.Aq],rfl⟩
  ·cases h
 refine ⟨h1,?_⟩
 obtain ⟨a,rfl,rfl⟩:=h1
 have hu: ∃u,P.underlying t=some (.pointer u):=by
  cases Yy:T.ty t with
  |none=>rw [Yy] at ht;cases ht
  |some τ=>
   have hd:=(hT.ty t τ Yy).desc
   rw [Yy] at ht
   cases τ<;>first|exact hd|cases ht
 obtain ⟨u,hu⟩:=hu
 unfold Op.equal
 rw [show Op.maxDepth=9999+1 from rfl]
 unfold Op.equalIn
 rw [Sem.run_bind,run_underlying hu]
 cases a<;>rfl
theorem BU {T:Tab} (hT:Ed P T) (op:BinOp) (x y:AV) (vx vy:Value) (ox oy:Operand) (t:TypeId) (av:AV) (hx:Bs X w π H x vx) (hy:Bs X w π H y vy) (h:Up T op t x y=some av):
  ∃v,(do eqGuard op t ox oy vx vy;binOp op t vx vy:Sem Value).run P w= .ok v w/\Bs X w π H av v:=by
 unfold Up at h
 split at h
 ·split at h
  ·rename_i ht
   cases hn:eQ x with
   |none=>rw [hn] at h;cases h
   |some b=>
    rw [hn] at h
    simp only [Ft,Pr,Aa] at h;subst h
    have hy:vy= .slice none 0 0:=hy
    subst hy
    obtain ⟨⟨a,len,cap,rfl,_⟩,h2⟩:=KE hT hx hn ht
    exact ⟨.bool b,by rw [Sem.run_bind];simp [eqGuard,binOp,h2],Mc _ _⟩
  ·cases h
 ·split at h
  ·rename_i ht
   cases hn:eP x with
   |none=>rw [hn] at h;cases h
   |some b=>
    rw [hn] at h
    simp only [Ft,Pr,Aa] at h;subst h
    have hy:vy= .pointer none:=hy
    subst hy
    obtain ⟨⟨a,rfl,_⟩,h2⟩:=KD hT hx hn ht
    exact ⟨.bool b,by rw [Sem.run_bind];simp [eqGuard,binOp,h2],Mc _ _⟩
  ·cases h
 ·split at h
  ·rename_i ht
   cases hn:eQ x with
   |none=>rw [hn] at h;cases h
   |some b=>
    rw [hn] at h
    simp only [Ft,Pr,Aa] at h;subst h
    have hy:vy= .slice none 0 0:=hy
    subst hy
    obtain ⟨⟨a,len,cap,rfl,_⟩,h2⟩:=KE hT hx hn ht
    exact ⟨.bool (!b),by rw [Sem.run_bind];simp [eqGuard,binOp,h2],Mc _ _⟩
  ·cases h
 ·split at h
  ·rename_i ht
   cases hn:eP x with
   |none=>rw [hn] at h;cases h
   |some b=>
    rw [hn] at h
    simp only [Ft,Pr,Aa] at h;subst h
    have hy:vy= .pointer none:=hy
    subst hy
    obtain ⟨⟨a,rfl,_⟩,h2⟩:=KD hT hx hn ht
    exact ⟨.bool (!b),by rw [Sem.run_bind];simp [eqGuard,binOp,h2],Mc _ _⟩
  ·cases h
 ·rename_i a _ b
  have:=aM hx;subst this
  have:=aM hy;subst this
  split at h
  ·rename_i ht
   simp only [Pr,Aa] at h;subst h
   have hu:P.underlying t=some .bool:=(hT.ty t _ ht).desc
   exact ⟨_,by rw [Sem.run_bind];simp [eqGuard,binOp,kl hu],Mc _ _⟩
  ·cases h
 ·rename_i a _ b
  have:=aM hx;subst this
  have:=aM hy;subst this
  split at h
  ·rename_i ht
   simp only [Pr,Aa] at h;subst h
   have hu:P.underlying t=some .bool:=(hT.ty t _ ht).desc
   exact ⟨_,by rw [Sem.run_bind];simp [eqGuard,binOp,kl hu],Mc _ _⟩
  ·cases h
 ·exact HS op x y vx vy ox oy t av hx hy h
theorem PN (op:UnOp) (x:AV) (vx:Value) (av:AV) (hx:Bs X w π H x vx) (h:BY op x=some av):
  ∃v,(Op.unary op vx).run P w= .ok v w/\Bs X w π H av v:=by
 unfold BY at h
 split at h
 ·have:=aM hx;subst this
  simp only [Pr,Aa] at h;subst h
  exact ⟨_,by simp [Op.unary],Mc _ _⟩
 ·have:=Qo hx;subst this
  simp only [bt,Aa] at h;subst h
  exact ⟨_,by simp [Op.unary,Op.intArith],Ni _ _ _⟩
 ·cases h
theorem Iw {t:TypeId} {τ:Ty} (ht:q7 P T t τ) (g o:Nat) (es:List Value) (hl:es.length=τ.size) (hc: ∀j u,es[j]?=some u->w.cell? ⟨g,o+j,none⟩=some u):
  (loadVar t ⟨g,o,none⟩).run P w= .ok (Cf τ es) w:=by
 unfold loadVar
 rw [Sem.run_bind,ht.agg,Result.andThen_ok]
 cases hs:τ.Aq with
 |true=>
  simp only [Pv,Sem.run_bind,ht.size,Result.andThen_ok]
  rw [<-hl,run_loadCells_list w ⟨g,o,none⟩ es (λj v hv=>by rw [Addr.add_lit];exact hc j v hv)]
  simp [Cf,hs]
 |false=>
  have h1:τ.size=1:=by cases τ<;>simp_all [Ty.Aq,Ty.size]
  rw [h1] at hl
  obtain ⟨u,rfl⟩:=Dg.1 hl
  have:=hc 0 u rfl
  simp only [Fk] at this
  simp [this,Cf,hs]
theorem wB {fr:Bool} {τ:Ty} {x:τ.den} {v:Value} (h:Bs X w π H (.at (.data fr τ x)) v):Bs X w π H (.at (.data (fr||τ.flat) τ x)) v:=by
 cases hf:τ.flat with
 |true=>exact Cw.flat hf h
 |false=>rw [iT];exact h
theorem yw {cs ds:List AC} {us vs:List Value} (h1:Fv X w π H cs us) (h2:Fv X w π H ds vs):Fv X w π H (cs++ds) (us++vs):=by
 have e1:=h1.1
 refine ⟨by simp [h1.1,h2.1],λi c hc=>?_⟩
 by_cases hi:i<cs.length
 ·rw [At hi] at hc
  obtain ⟨u,hu,h3⟩:=h1.2 i c hc
  exact ⟨u,by rw [At (by omega)];exact hu,h3⟩
 ·rw [As (by omega)] at hc
  obtain ⟨u,hu,h3⟩:=h2.2 _ c hc
  exact ⟨u,by rw [As (by omega),e1];exact hu,h3⟩
theorem gC {c:AC} {u:Value} (h1:u.oneCell'=true) (h2:Hk X w π H c u):Fv X w π H [c] [u]:=⟨rfl,λi c' hc=>by
 rcases i with _|i
 ·simp at hc;subst hc;exact ⟨u,rfl,h1,h2⟩
 ·simp at hc⟩
theorem TL {l i:Nat} {e:Ty} {tid:TypeId} {xs:List e.den} {r:Real} (hl:Au H l=some (.Gz e tid xs)) (hp:π l=some r) (hi:i<xs.length): ∀(τ:Ty) (c:Nat) (F:List Nat) (us:List Value) (x:τ.den),
  Ci w F τ us x->c+τ.size<=e.size->(∀j u,us[j]?=some u->w.cell? ⟨r.g,(r.o+i)*e.size+(c+j),none⟩=some u)->Fv X w π H (gR l i c τ x) us:=by
 intro τ
 induction τ with
 |unit=>intro c F us x h _ _;simp only [Ci] at h;obtain ⟨_,rfl⟩:=h;exact ⟨rfl,λi c hc=>by simp [gR] at hc⟩
 |pair a r iX iR=>
  intro c F us x h hle hc
  have sW:=Ci.cells (S:= λ_=>False) F _ us x h (λ_ _ h=>h)
  simp only [Ci] at h
  obtain ⟨c1,c2,F1,F2,rfl,rfl,h1,h2⟩:=h
  have l6:c1.length=a.size:=Cells.len a c1 x.1 (Ci.cells (S:= λ_=>False) F1 a c1 x.1 h1 (λ_ _ h=>h))
  simp only [Ty.size] at hle
  refine yw (iX c F1 c1 x.1 h1 (by omega) λj u hu=>hc j u (by rw [At (An.1 hu).1];exact hu)) (iR (c+a.size) F2 c2 x.2 h2 (by omega) λj u hu=>?_)
  have:=hc (a.size+j) u (by rw [As (by omega),l6];simpa using hu)
  rw [show c+a.size+j=c+(a.size+j) by omega];exact this
 |int k=>intro c F us x h _ _;simp only [Ci] at h;obtain ⟨_,rfl⟩:=h;exact gC rfl (Ni (H:=H) k x true)
 |bool=>intro c F us x h _ _;simp only [Ci] at h;obtain ⟨_,rfl⟩:=h;exact gC rfl (Mc (H:=H) x true)
 |str=>intro c F us x h _ _;simp only [Ci] at h;obtain ⟨_,rfl⟩:=h;exact gC rfl (nu (H:=H) x true)
 |slice e'=>
  intro c F us x h hle hc
  simp only [Ci] at h
  obtain ⟨a,len,cap,rfl,_⟩:=h
  exact gC rfl ⟨r,_,e.size,xs.length,hl,rfl,hp,hi,⟨by simp only [Ty.size] at hle;omega,_,_,_,rfl⟩,by simpa using hc 0 _ rfl⟩
 |_=>intro c F us x h;simp only [Ci] at h
theorem od (hT:Ed P T) {st:St} {a:Act} (h:Bk X π st a w) (t:TypeId) (p:AV) (vp:Value) (av:AV) (hp:Bs X w π st.heap p vp) (he:Qu T st t p=some av):
  ∃v,(Instr.loadAt t vp).run P w= .ok v w/\Bs X w π st.heap av v:=by
 unfold Qu at he
 split at he
 ·rename_i τ fr Oq x ht
  split at he
  ·rename_i Uq
   subst Uq
   simp only [Aa] at he;subst he
   have Yy:=hT.ty _ _ ht
   obtain ⟨cs,hc,rfl⟩:=hp
   simp only [Cells] at hc
   obtain ⟨g,o,rfl,hg,hn,es,hl,ay,cD⟩:=hc
   refine ⟨Cf Oq es,?_,wB (show Bs X w π st.heap (.at (.data fr Oq _)) (Cf Oq es) from ⟨es,cD,rfl⟩)⟩
   have hr:=Iw (P:=P) (w:=w) Yy g o es hl ay
   show (do loadVar t (<-Instr.sureAddr (.pointer (some ⟨g,o,none⟩))):Sem Value).run P w=_
   simpa [Instr.sureAddr] using hr
  ·cases he
 ·rename_i τ fr Oq x ht
  split at he
  ·rename_i Uq
   subst Uq
   simp only [Aa] at he;subst he
   have Yy:=hT.ty _ _ ht
   obtain ⟨cs,hc,rfl⟩:=hp
   simp only [Cells] at hc
   rcases hc with ⟨h0,_⟩|⟨y,g,o,h0,rfl,hg,hn,es,hl,ay,cD⟩
   ·cases h0
   simp only [Aa] at h0;subst h0
   refine ⟨Cf Oq es,?_,wB (show Bs X w π st.heap (.at (.data fr Oq _)) (Cf Oq es) from ⟨es,cD,rfl⟩)⟩
   have hr:=Iw (P:=P) (w:=w) Yy g o es hl ay
   show (do loadVar t (<-Instr.sureAddr (.pointer (some ⟨g,o,none⟩))):Sem Value).run P w=_
   simpa [Instr.sureAddr] using hr
  ·cases he
 ·rename_i τ l i ht
  have Yy:=hT.ty _ _ ht
  split at he
  ·rename_i tid vs hl
   obtain ⟨r,Tm,vs',h1,h2,rfl⟩:=hp
   unfold St.at at hl
   rw [hl] at h1;cases h1
   obtain ⟨r',h3,h4,cur,h5,h6⟩:=(h.1.heap l).Qs hl
   rw [h2] at h3;cases h3
   split at he
   ·rename_i hs
    split at he
    ·rename_i hlen
     simp only [Aa] at he;subst he
     have Ox:cur.toList.length=vs.length:=h6.1
     refine ⟨_,by
      simp only [Instr.loadAt,Instr.sureAddr]
      simpa using Iw (P:=P) (w:=w) Yy r.g i ((cur.toList.drop i).take τ.size) (by simp at Ox⊢;omega) (λj u hu=>by
       rw [cellOf h5]
       rw [Da] at hu
       split at hu
       ·rw [Cz] at hu;simpa using hu
       ·cases hu),?_⟩
     exact ⟨_,by simp [Cf,hs],aL h6 i τ.size⟩
    ·cases he
   ·rename_i hs
    simp only [Ir] at hs
    have h1:τ.size=1:=by cases τ<;>simp_all [Ty.Aq,Ty.size]
    cases hi:vs[i]? with
    |none=>rw [hi] at he;cases he
    |some c=>
     rw [hi] at he
     simp only [Am,Aa] at he;subst he
     obtain ⟨u,hu,_,hc⟩:=h6.2 i c hi
     refine ⟨u,?_,hc⟩
     simp only [Instr.loadAt,Instr.sureAddr]
     have:=Iw (P:=P) (w:=w) Yy r.g i [u] (by simp [h1]) (λj u' ga=>by
       rcases j with _|j
       ·simp at ga;subst ga;rw [Fk,cellOf h5];simpa using hu
       ·simp at ga)
     simpa [Cf,hs] using this
  ·cases he
 ·rename_i τ l i ht
  have Yy:=hT.ty _ _ ht
  split at he
  ·rename_i fr tr e tid xs hl
   split at he
   ·rename_i heq;subst heq
    obtain ⟨r,b,sz,n,h1,h0,h2,h3,rfl⟩:=hp
    unfold St.at at hl
    rw [hl] at h1;cases h1
    simp only [OB.row,Aa,Ae] at h0
    obtain ⟨rfl,rfl⟩:=h0
    have hb:=(h.1.heap l).Qs hl
    simp only [Cm,Ke,h3] at hb
    obtain ⟨h4,cur,_,h5,h6,h7,h8,h9,_⟩:=hb
    have hx:xs[i]?=some xs[i]:=Ac h2
    rw [hx] at he
    simp only [Am,Aa] at he;subst he
    obtain ⟨es,iW,hj,sW⟩:=h9 i _ hx
    refine ⟨Cf e es,?_,wB (show Bs X w π st.heap (.at (.data fr e _)) (Cf e es) from ⟨es,sW,rfl⟩)⟩
    simp only [Instr.loadAt,Instr.sureAddr]
    simpa using Iw (P:=P) (w:=w) Yy r.g ((r.o+i)*e.size) es iW (λj u hu=>by rw [cellOf h5];exact hj j u hu)
   ·cases he
  ·rename_i e tid xs hl
   split at he
   ·rename_i heq;subst heq
    obtain ⟨r,b,sz,n,h1,h0,h2,h3,rfl⟩:=hp
    unfold St.at at hl
    rw [hl] at h1;cases h1
    simp only [OB.row,Aa,Ae] at h0
    obtain ⟨rfl,rfl⟩:=h0
    have hb:=(h.1.heap l).Qs hl
    simp only [Cm,Of,h3] at hb
    obtain ⟨h4,cur,_,h5,h6,h7,h8,Fs,k1,k2,k3,k4⟩:=hb
    have hx:xs[i]?=some xs[i]:=Ac h2
    rw [hx] at he
    simp only [Am,Aa] at he;subst he
    obtain ⟨es,iW,hj,sW⟩:=k4 i _ _ hx (Ac (by omega))
    have hrs:=TL (X:=X) (H:=st.heap) hl h3 h2 e 0 _ es _ sW (by omega) (λj u hu=>by rw [cellOf h5,Bo];exact hj j u hu)
    refine ⟨Cf e es,?_,?_⟩
    ·simp only [Instr.loadAt,Instr.sureAddr]
     simpa using Iw (P:=P) (w:=w) Yy r.g ((r.o+i)*e.size) es iW (λj u hu=>by rw [cellOf h5];exact hj j u hu)
    ·cases Uk:e.Aq with
     |true=>rw [Ab rfl];exact ⟨es,by simp [Cf,Uk],hrs⟩
     |false=>
      rw [Ag (by simp)]
      have h1:e.size=1:=by cases e<;>simp_all [Ty.Aq,Ty.size]
      rw [h1] at iW
      obtain ⟨u,rfl⟩:=Dg.1 iW
      have l6:=hrs.1
      generalize gR l i 0 e xs[i]=sc at*
      simp only [Aw,Ex] at l6
      obtain ⟨c,rfl⟩:=Dg.1 l6.symm
      obtain ⟨u',ga,_,II⟩:=hrs.2 0 c rfl
      simp at ga;subst ga
      have e1:Cf e [u]=u:=by simp [Cf,Uk]
      rw [e1]
      exact II
   ·cases he
  ·rename_i e te rows kp hl
   split at he
   ·cases he
   ·rename_i Uk
    simp only [Ir] at Uk
    simp only [Aa] at he;subst he
    obtain ⟨r,b,sz,n,h1,h0,h2,h3,rfl⟩:=hp
    unfold St.at at hl
    rw [hl] at h1;cases h1
    simp only [OB.row,Aa,Ae] at h0
    obtain ⟨rfl,rfl⟩:=h0
    obtain ⟨u,R,k1,k2,k3⟩:=oA h.1 hl h3 h2 (by simp)
    have bm:τ.size=1:=by cases τ<;>simp_all [Ty.Aq,Ty.size]
    refine ⟨u,?_,r,_,1,rows.length,hl,rfl,h3,h2,⟨by omega,bJ k2⟩,by rw [Gd,Fk];exact k1⟩
    simp only [Instr.loadAt,Instr.sureAddr]
    have:=Iw (P:=P) (w:=w) Yy r.g ((r.o+i)*1) [u] (by simp [bm]) (λj u' ga=>by
     rcases j with _|j
     ·simp at ga;subst ga;rw [Gd,Fk];exact k1
     ·simp at ga)
    simpa [Cf,Uk] using this
  ·cases he
 ·rename_i τ l i j ht
  have Yy:=hT.ty _ _ ht
  split at he
  ·rename_i e te rows kp hl
   split at he
   ·rename_i heq;subst heq
    simp only [Aa] at he;subst he
    obtain ⟨r,b,n,sz,g,o,len,cap,h1,h0,h2,h3,h4,h5,rfl⟩:=hp
    unfold St.at at hl
    rw [hl] at h1;cases h1
    simp only [OB.xO,Aa,Ae] at h0
    obtain ⟨rfl,rfl⟩:=h0
    obtain ⟨u,R,k1,k2,k3⟩:=oA h.1 hl h2 h3 (by simp)
    rw [h5] at k1
    have hu:=Ba k1
    subst hu
    cases R with
    |none=>obtain ⟨hh,_⟩:=k2;cases hh
    |some q=>
     obtain ⟨ad,hh,g1,g2⟩:=k2
     simp only [Value.slice.injEq,Aa] at hh
     obtain ⟨rfl,rfl,rfl⟩:=hh
     have PS:=g2 (by omega)
     simp only [Addr.mk.injEq,Ow] at PS
     obtain ⟨rfl,rfl⟩:=PS
     obtain ⟨f1,cur,ti,f2,f3,f4,f5,f6⟩:=k3
     have hj:(rows.getD i [])[j]?=some ((rows.getD i []).getD j e.zero):=by rw [Aj (l:=rows.getD i []),Ac h4];rfl
     obtain ⟨es,iW,c1,c2⟩:=f6 j _ hj
     refine ⟨Cf e es,?_,wB (fr:=false) (show Bs X w π st.heap (.at (.data false e _)) (Cf e es) from ⟨es,c2,rfl⟩)⟩
     simp only [Instr.loadAt,Instr.sureAddr]
     simpa using Iw (P:=P) (w:=w) Yy q.g ((q.o+0)*e.size+j*e.size) es iW (λm u hu=>by rw [cellOf f2,Fk,<-Df];exact c1 m u hu)
   ·cases he
  ·cases he
 ·cases he
theorem Adc {α:Type} {xs:List α} {n:Int} {x:α} (h:idx xs n=some x):0<=n/\n<xs.length/\xs[n.toNat]?=some x:=by
 unfold idx at h
 split at h
 ·rename_i h0
  have:=(An.1 h).1
  exact ⟨h0,by omega,h⟩
 ·cases h
theorem tP (hT:Ed P T) {t:TypeId} {e:Ty} (h:(T.elem t).bind T.ty=some e): ∃te,T.elem t=some te/\T.ty te=some e/\P.underlying t=some (.slice te)/\P.elem t=te:=by
 cases ht:T.elem t with
 |none=>rw [ht] at h;cases h
 |some te=>
  rw [ht] at h
  have hu:=hT.elem t te ht
  exact ⟨te,rfl,h,hu,by simp [Program.elem,hu]⟩
theorem oc (hT:Ed P T) {st:St} {a:Act} (h:Bk X π st a w) (t:TypeId) (x i:AV) (vx vi:Value) (av:AV) (hx:Bs X w π st.heap x vx) (hi:Bs X w π st.heap i vi)
  (he:Kx T st t x i=some av): ∃v,(Instr.indexAt t vx vi).run P w= .ok v w/\Bs X w π st.heap av v:=by
 unfold Kx at he
 split at he
 ·rename_i fr e xs _ k n
  have:=Qo hi;subst this
  split at he
  ·rename_i m9
   obtain ⟨te,h1,h2,h3,h4⟩:=tP hT m9
   cases hix:idx xs n with
   |none=>rw [hix] at he;cases he
   |some y=>
    rw [hix] at he
    simp only [Am,Aa] at he;subst he
    obtain ⟨h5,h6,h7⟩:=Adc hix
    obtain ⟨cs,hc,rfl⟩:=hx
    simp only [Cells] at hc
    obtain ⟨ad,len,cap,rfl,hlen,vz,PY⟩:=hc
    rcases PY with rfl|⟨g,o,rfl,hg,hn,Js⟩
    ·simp at h6;omega
    ·obtain ⟨es,iW,ay,cD⟩:=Js _ _ h7
     have bm:=(hT.ty _ _ h2).size (w:=w)
     refine ⟨.pointer (some ⟨g,o+n.toNat*e.size,none⟩),?_,[_],⟨g,_,rfl,hg,hn,es,iW,ay,cD⟩,by simp [Cf,Ty.Aq]⟩
     simp only [Cf,Ty.Aq,Dj,Ul,j6]
     rw [run_indexAt_slice (P:=P) w t _ _ _ k n (by rw [h3,h4]),Ab ⟨h5,by omega⟩,h4,bm,Result.andThen_ok,Addr.add_lit]
  ·cases he
 ·rename_i l off len _ k n
  have:=Qo hi;subst this
  split at he
  ·rename_i fr tr e tid xs hl
   split at he
   ·rename_i Ju
    obtain ⟨h1,h2,h56⟩:=Ju
    obtain ⟨h5,h6⟩:=Uz.1 h56
    simp only [Aa] at he;subst he
    have h3:=hT.elem t tid h1
    have h4:P.elem t=tid:=by simp [Program.elem,h3]
    unfold St.at at hl
    have Kp:=hl
    obtain ⟨h8,h9⟩:=Oy (X:=X) (w:=w) hx hl
    cases hp:π l with
    |none=>rw [hp] at h9;obtain ⟨_,_,h9⟩:=h9;omega
    |some r=>
     rw [hp] at h9
     obtain ⟨ad,rfl,pW,iO⟩:=h9
     have h12:=iO (by omega)
     subst h12
     have bm:=(hT.ty _ _ h2).size (w:=w)
     refine ⟨.pointer (some ⟨r.g,(r.o+off)*e.size+n.toNat*e.size,none⟩),?_,r,_,e.size,xs.length,Kp,rfl,by omega,hp,?_⟩
     ·rw [run_indexAt_slice (P:=P) w t _ _ _ k n (by rw [h3,h4]),Ab ⟨h5,by omega⟩,h4,bm,Result.andThen_ok,Addr.add_lit]
     ·rw [<-Gv r.o off n.toNat,Df (r.o+off)]
   ·cases he
  ·rename_i e tid xs hl
   split at he
   ·rename_i Ju
    obtain ⟨h1,h2,h56⟩:=Ju
    obtain ⟨h5,h6⟩:=Uz.1 h56
    simp only [Aa] at he;subst he
    have h3:=hT.elem t tid h1
    have h4:P.elem t=tid:=by simp [Program.elem,h3]
    unfold St.at at hl
    have Kp:=hl
    obtain ⟨h8,h9⟩:=cN (X:=X) (w:=w) hx hl
    cases hp:π l with
    |none=>rw [hp] at h9;obtain ⟨_,_,h9⟩:=h9;omega
    |some r=>
     rw [hp] at h9
     obtain ⟨ad,rfl,pW,iO⟩:=h9
     have h12:=iO (by omega)
     subst h12
     have bm:=(hT.ty _ _ h2).size (w:=w)
     refine ⟨.pointer (some ⟨r.g,(r.o+off)*e.size+n.toNat*e.size,none⟩),?_,r,_,e.size,xs.length,Kp,rfl,by omega,hp,?_⟩
     ·rw [run_indexAt_slice (P:=P) w t _ _ _ k n (by rw [h3,h4]),Ab ⟨h5,by omega⟩,h4,bm,Result.andThen_ok,Addr.add_lit]
     ·rw [<-Gv r.o off n.toNat,Df (r.o+off)]
   ·cases he
  ·rename_i e te rows out kp hl
   split at he
   ·rename_i Ju
    obtain ⟨h1,h2,h56⟩:=Ju
    obtain ⟨h5,h6⟩:=Uz.1 h56
    simp only [Aa] at he;subst he
    have h3:=hT.elem t te h1
    have h4:P.elem t=te:=by simp [Program.elem,h3]
    unfold St.at at hl
    have Kp:=hl
    obtain ⟨h8,h9⟩:=pf (X:=X) (w:=w) hx hl
    cases hp:π l with
    |none=>rw [hp] at h9;obtain ⟨_,_,h9⟩:=h9;omega
    |some r=>
     rw [hp] at h9
     obtain ⟨ad,rfl,pW,iO⟩:=h9
     have h12:=iO (by omega)
     subst h12
     cases mb:T.ty te with
     |none=>rw [mb] at h2;cases h2
     |some τ=>
      rw [mb] at h2
      have h2:τ.size=1:=Ba h2
      have bm:=(hT.ty _ _ mb).size (w:=w)
      refine ⟨.pointer (some ⟨r.g,(r.o+off)*1+n.toNat*τ.size,none⟩),?_,r,_,1,rows.length,Kp,rfl,by omega,hp,?_⟩
      ·rw [run_indexAt_slice (P:=P) w t _ _ _ k n (by rw [h3,h4]),Ab ⟨h5,by omega⟩,h4,bm,Result.andThen_ok,Addr.add_lit]
      ·rw [h2,<-Gv r.o off n.toNat,Df (r.o+off)]
   ·cases he
  ·cases he
 ·rename_i l i c _ k n
  have:=Qo hi;subst this
  split at he
  ·rename_i e te rows kp hl
   split at he
   ·rename_i Ju
    obtain ⟨h2,h56⟩:=Ju
    obtain ⟨h5,h6⟩:=Uz.1 h56
    simp only [Aa] at he;subst he
    cases mb:T.elem t with
    |none=>rw [mb] at h2;cases h2
    |some Rv=>
     rw [mb] at h2
     cases Yy:T.ty Rv with
     |none=>rw [Ft,Yy] at h2;cases h2
     |some τ=>
      rw [Ft,Yy] at h2
      have h2:τ.size=e.size:=Ba h2
      have h3:=hT.elem t Rv mb
      have h4:P.elem t=Rv:=by simp [Program.elem,h3]
      unfold St.at at hl
      obtain ⟨r,b,sz,m,g1,g0,g2,g3,⟨g4,_⟩,g5⟩:=hx
      rw [hl] at g1;cases g1
      simp only [OB.iu,Aa,Ae] at g0
      obtain ⟨rfl,rfl⟩:=g0
      have m5:c=0:=by omega
      subst m5
      rw [Gd,Fk] at g5
      obtain ⟨u,R,k1,k2,k3⟩:=oA h.1 hl g2 g3 (by simp)
      rw [g5] at k1
      have hu:=Ba k1
      subst hu
      cases R with
      |none=>obtain ⟨_,_,hh⟩:=k2;omega
      |some q=>
       obtain ⟨ad,rfl,f1,f2⟩:=k2
       have PS:=f2 (by omega)
       subst PS
       have bm:=(hT.ty _ _ Yy).size (w:=w)
       refine ⟨.pointer (some ⟨q.g,(q.o+0)*e.size+n.toNat*τ.size,none⟩),?_,r,_,rows.length,e.size,q.g,(q.o+0)*e.size,_,_,hl,rfl,g2,g3,by omega,g5,by rw [h2]⟩
       rw [run_indexAt_slice (P:=P) w t _ _ _ k n (by rw [h3,h4]),Ab ⟨h5,by omega⟩,h4,bm,Result.andThen_ok,Addr.add_lit]
   ·cases he
  ·cases he
 ·cases he
end
end Go.Proofs.YtfgfigkbgecfnaaGreat
