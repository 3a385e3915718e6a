/-
  Part 7 of the proof that the statement FnLowerBounds holds.
-/
import Derived.Test.YtkkdpknjohcekaaGreatCFLowerBounds05
namespace Go.Proofs.YtkkdpknjohcekaaGreat
open Go.RowKit
section
variable {P:Program} {T:Tab} {X:Ctx} {w w':World} {π:Pi} {H:List (Nat×OB)}
def NZ (P:Program) (X:Ctx) (π:Pi) (H:List (Nat×OB)) (w:World) (av:AV):Result Next->Prop
 | .ok (.value v) w'=>w'=w/\Bl X w π H av v
 | .ok (.enter f args) w'=>w'=w/\Calls P f args w (λe qP=> ∃v,e= .returned v/\Below w.heap.size w qP/\Bl X qP π H av v)
 |_=>False
def lJ (s:Spec) (w:World) (S:Nat->Prop) (v:Value) (y:s.res.den):Prop:=
 if s.Im then ∃us:List Value,v= .tuple us.toArray/\Cp w S s.res us y else Cu w S s.res v y
structure Sound (P:Program) (f:FuncId) (s:Spec):Prop where
 enter: ∀args w,(callFunc f args).run P w= .ok (.enter f args) w
 calls: ∀(w:World) (S:Nat->Prop) (vs:List Value) (x:s.arg.den) (y:s.res.den),(∀k,S k->k<w.heap.size)->Cp w S s.arg vs x->s.fn x=some y->
  Calls P f vs.toArray w λe w'=> ∃v,e= .returned v/\Below w.heap.size w w'/\lJ s w' (λb=>S b\/(s.fresh=true/\b<w.heap.size)) v y
def gp (w:World) (D:Nat->Prop) (r:Option Real):(c:CK)->c.den->Prop
 | .Ft _,_=>r=none
 | .row e _,xs=>Ub w D r e xs
 | .Ii e te,xs=>Oo w r e te xs
 | .part e _,x=>e.flat=true/\Ub w D r e x.1
 | .Bp e _ _,rows=>aI w D r e rows none
def eV (w:World) (D:Nat->Prop) (r:Option Real) (v:Value):(c:CK)->c.den->Prop
 | .Ft τ,x=>r=none/\Cu w D τ v x
 | .row e te,xs=>Ir r e.size 0 (List.length xs) v/\gp w D r (.row e te) xs
 | .Ii e te,xs=>Ir r e.size 0 (List.length xs) v/\gp w D r (.Ii e te) xs
 | .part e te,x=>(Ir r e.size x.2.1 x.2.2 v/\x.2.1+x.2.2<=List.length x.1)/\gp w D r (.part e te) x
 | .Bp e te kp,rows=>Ir r 1 0 (List.length rows) v/\gp w D r (.Bp e te kp) rows
def eW (w:World) (D:Nat->Prop) (π:Pi):(k:Nat)->(cs:List (Bool×CK))->Ins.den cs->List Value->Prop
 |_,[],_,[]=>True
 |k,p::r,x,u::us=>eV w D (π (Ea p.1 k)) u p.2 x.1/\eW w D π (k+1) r x.2 us
 |_,_,_,_=>False
def Mt (w:World) (D:Nat->Prop) (π:Pi):(k:Nat)->(cs:List (Bool×CK))->IOs.den cs->Prop
 |_,[],_=>True
 |k,(true, .Ft _)::r,x=>Mt w D π (k+1) r x
 |k,(true, .Bp _ _ _)::r,x=>Mt w D π (k+1) r x
 |k,(true, .row e te)::r,x=>gp w D (π (Ea true k)) (.row e te) x.1/\Mt w D π (k+1) r x.2
 |k,(true, .Ii e te)::r,x=>gp w D (π (Ea true k)) (.Ii e te) x.1/\Mt w D π (k+1) r x.2
 |k,(true, .part e te)::r,x=>gp w D (π (Ea true k)) (.row e te) x.1/\Mt w D π (k+1) r x.2
 |k,(false,_)::r,x=>Mt w D π (k+1) r x
def Jw (w:World) (D:Nat->Prop) (ρ:Pi):(k:Nat)->(cs:List CK)->CKs.den cs->List Value->Prop
 |_,[],_,[]=>True
 |k,c::r,x,u::us=>eV w D (ρ (Kx k)) u c x.1/\Jw w D ρ (k+1) r x.2 us
 |_,_,_,_=>False
structure im (π:Pi) (A:Nat->Prop):Prop where
 aw: ∀l r b,π l=some r->r.Cq b->A b
 inj: ∀l l' r r' b,π l=some r->π l'=some r'->r.Cq b->r'.Cq b->l=l'
def dd:List (Option Nat)->List Value->Prop
 | [],[]=>True
 |none::s,_::us=>dd s us
 |some n::s,us=>n<=us.length/\(∀u∈us.take n,u.oneCell'=true)/\dd s (us.drop n)
 |_,_=>False
def ZZ (Im:Bool) (sh:List (Option Nat)) (us:List Value) (v:Value):Prop:=if Im then v= .tuple (Lm sh us).toArray else Lm sh us= [v]\/Lm sh us= []
def kz (S:Nat->Prop) (π ρ:Pi) (b:Nat):Prop:=S b\/(∃l q,Bk<=l/\π l=some q/\q.Cq b)\/Wo ρ b
def oI (s:MSpec) (w:World) (g:Nat) (us vs:List Value):Prop:=
 match s.ptr with
 |none=>vs=Lm s.Jl us/\dd s.Jl us
 |some p=>vs= .pointer (some ⟨g,0,none⟩)::Lm s.Jl (us.drop p.2)/\dd s.Jl (us.drop p.2)/\p.2<=us.length/\w.heap[g]?=some (.cells (us.take p.2).toArray p.1 (0,0))/\ ∀u∈us.take p.2,u.oneCell'=true
def MSpec.gv (s:MSpec) (g b:Nat):Prop:=s.ptr.isSome=true/\b=g
def Eu (π:Pi):(k:Nat)->(cs:List (Bool×CK))->IOs.den cs->(n:Nat)->List Value->List Value->Prop
 |_,_,_,0,us,_=>us= []
 |k,(true, .row e _)::r,o,n+1,u::us,as=>Ir (π (Ea true k)) e.size 0 (List.length o.1) u/\Eu π (k+1) r o.2 n us as
 |k,(true, .Ii e _)::r,o,n+1,u::us,as=>Ir (π (Ea true k)) e.size 0 (List.length o.1) u/\Eu π (k+1) r o.2 n us as
 |k,(false,_)::r,o,n+1,u::us,a::as=>u=a/\Eu π (k+1) r o n us as
 |_,_,_,_,_,_=>False
def lH (s:MSpec) (π:Pi) (w':World) (g:Nat) (Xx:List Value) (o:IOs.den s.ins):Prop:=
 match s.ptr with
 |none=>True
 |some p=> ∃cs,w'.heap[g]?=some (.cells cs.toArray p.1 (0,0))/\(∀u∈cs,u.oneCell'=true)/\Eu π 0 s.ins o p.2 cs Xx
def BM (w w':World) (r r':Option Real) (n:Nat):Prop:=match r,r' with
 |none,none=>True
 |some q,some q'=>q'.g=q.g/\q'.o=q.o/\q'.cap=q.cap/\ ∀j,j<n->j<q.cap->w'.cell? ⟨q.g,q.o+j,none⟩=w.cell? ⟨q.g,q.o+j,none⟩
 |_,_=>False
def si (s:MSpec) (w':World) (ρ:Pi) (us:List Value) (v:Value):Prop:=match s.rp with
 |none=>ZZ s.Im s.Ip us v/\dd s.Ip us
 |some tid=> ∃q,ρ (Kx s.outs.length)=some q/\q.Cq q.g/\w'.heap[q.g]?=some (.cells us.toArray tid (0,0))/\(∀u∈us,u.oneCell'=true)/\v= .pointer (some ⟨q.g,0,none⟩)
def MSpec.Vn (s:MSpec):Nat:=s.outs.length+(match s.rp with|none=>0|some _=>1)
structure Dc (P:Program) (f:FuncId) (s:MSpec):Prop where
 enter: ∀args w,(callFunc f args).run P w= .ok (.enter f args) w
 calls: ∀(w:World) (S:Nat->Prop) (π:Pi) (us:List Value) (x:Ins.den s.ins) (r:CKs.den s.outs) (o:IOs.den s.ins) (g:Nat) (vs:List Value),
  oI s w g us vs->(s.ptr.isSome=true->S g)->eW w (λb=>Wo π b\/S b) π 0 s.ins x us->im π (λb=>b<w.heap.size)->(∀b,S b->b<w.heap.size/\ ¬Wo π b)->(∀l,At (ab 0 s.ins x) l=none->π l=none)->s.fn x=some (r,o)->
  Calls P f vs.toArray w λe w'=> ∃v Xx ρ,e= .returned v/\si s w' ρ (Xx.drop s.aQ) v/\lH s π w' g Xx o/\Li w.heap.size (λb=>Wo π b\/s.gv g b) w w'/\Mt w' (kz S π ρ) π 0 s.ins o/\Jw w' (kz S π ρ) ρ 0 s.outs r Xx/\
   im ρ (λb=>b<w'.heap.size/\(w.heap.size<=b\/ ∃l q,l<Bk/\π l=some q/\q.Cq b))/\(∀l,(∀k,k<s.Vn->l≠Kx k)->ρ l=none)/\(∀kj∈s.keeps,BM w w' (π (Ea false kj.1)) (ρ (Kx kj.2)) (s.Fw x))
def Afw (P:Program) (f:FuncId):mJ->Prop
 | .q s=>Sound P f s
 | .m s=>Dc P f s
 | .b s m=>Sound P f s/\Dc P f m
def Lj (P:Program) (Γ:Env):Prop:= ∀f s,Γ f=some s->Afw P f s
theorem Lj.reg {P:Program} {Γ:Env} (h:Lj P Γ) (draw:Bool):Lj P (zI Γ draw):= λf s hs=>by
 unfold zI at hs
 split at hs
 ·rename_i s0 m Pu
  have:=h f _ Pu
  cases draw with
  |true=>simp only [Qi,Aa] at hs;subst hs;exact this.1
  |false=>simp only [Cz,Sm,Aa] at hs;subst hs;exact this.2
 ·exact h f s hs
theorem Qw {k:IntKind} {n:Int} {fr:Bool} {v:Value} (h:Bl X w π H (.at (.data fr (.int k) n)) v):v= .int k n:=by
 obtain ⟨cs,h1,rfl⟩:=h;simp only [Cells] at h1;subst h1;rfl
theorem al {b:Bool} {fr:Bool} {v:Value} (h:Bl X w π H (.at (.data fr .bool b)) v):v= .bool b:=by
 obtain ⟨cs,h1,rfl⟩:=h;simp only [Cells] at h1;subst h1;rfl
theorem fO {s:ByteArray} {fr:Bool} {v:Value} (h:Bl X w π H (.at (.data fr .str s)) v):v= .string s:=by
 obtain ⟨cs,h1,rfl⟩:=h;simp only [Cells] at h1;subst h1;rfl
theorem Np (k:IntKind) (n:Int) (fr:Bool):Bl X w π H (.at (.data fr (.int k) n)) (.int k n):=⟨[.int k n],rfl,rfl⟩
theorem Ml (b:Bool) (fr:Bool):Bl X w π H (.at (.data fr .bool b)) (.bool b):=⟨[.bool b],rfl,rfl⟩
theorem mi (s:ByteArray) (fr:Bool):Bl X w π H (.at (.data fr .str s)) (.string s):=⟨[.string s],rfl,rfl⟩
theorem Ahu (f:FuncId):Bl X w π H (.at (.clo f [])) (.func (.func f) #[] #[]):=⟨[],rfl,rfl,λi p hi=>by simp at hi⟩
theorem RE (v:Value):Bl X w π H (mV v) v:=by
 unfold mV
 split
 ·exact Np _ _ _
 ·exact Ml _ _
 ·exact mi _ _
 ·rfl
 ·rfl
 ·trivial
theorem Dt {st:St} {a:Act} (h:sf X w π st a) (x:Operand):Bl X w π st.heap (st.ev x) (a.eval x):=by
 cases x with
 |tmp t=>exact h.tmps t
 |const v=>exact RE v
 |global g=>trivial
 |func f=>exact Ahu f
theorem KE (op:BinOp) (k:IntKind) (a b:Int) (t:TypeId) (av:AV) (h:tj op k a b=some av):
  ∃v,(binOp op t (.int k a) (.int k b)).run P w= .ok v w/\Bl X w π H av v:=by
 cases op<;>simp only [tj,aT,Qf] at h
 case add=>cases h;exact ⟨_,by simp [binOp,Op.intArith],Np _ _ _⟩
 case sub=>cases h;exact ⟨_,by simp [binOp,Op.intArith],Np _ _ _⟩
 case mul=>cases h;exact ⟨_,by simp [binOp,Op.intArith],Np _ _ _⟩
 case quo=>split at h<;>cases h;rename_i hb;exact ⟨_,by simp [binOp,Op.intDiv,hb],Np _ _ _⟩
 case rem=>split at h<;>cases h;rename_i hb;exact ⟨_,by simp [binOp,Op.intDiv,hb],Np _ _ _⟩
 case and=>cases h;exact ⟨_,by simp [binOp,Op.intBits],Np _ _ _⟩
 case or=>cases h;exact ⟨_,by simp [binOp,Op.intBits],Np _ _ _⟩
 case eql=>cases h;exact ⟨_,by simp [binOp,Op.intCmp],Ml _ _⟩
 case neq=>cases h;exact ⟨_,by simp [binOp,Op.intCmp],Ml _ _⟩
 case lss=>cases h;exact ⟨_,by simp [binOp,Op.intCmp],Ml _ _⟩
 case leq=>cases h;exact ⟨_,by simp [binOp,Op.intCmp],Ml _ _⟩
 case gtr=>cases h;exact ⟨_,by simp [binOp,Op.intCmp],Ml _ _⟩
 case geq=>cases h;exact ⟨_,by simp [binOp,Op.intCmp],Ml _ _⟩
 all_goals cases h
theorem CS (op:BinOp) (x y:AV) (vx vy:Value) (ox oy:Operand) (t:TypeId) (av:AV) (hx:Bl X w π H x vx) (hy:Bl X w π H y vy) (h:evalBin op x y=some av):
  ∃v,(do eqGuard op t ox oy vx vy;binOp op t vx vy:Sem Value).run P w= .ok v w/\Bl X w π H av v:=by
 unfold evalBin at h
 split at h
 ·rename_i k a _ k' b
  have:=Qw hx;subst this
  have:=Qw hy;subst this
  have hg: ∀op,(eqGuard op t ox oy (.int k a) (.int k' b)).run P w= .ok () w:=by intro op;cases op<;>simp [eqGuard]
  split at h
  ·split at h
   ·cases h
   ·rename_i hb
    simp only [aT,Aa] at h;subst h
    exact ⟨_,by rw [Sem.run_bind,hg];simp [binOp,Op.shift,hb],Np _ _ _⟩
  ·split at h
   ·cases h
   ·rename_i hb
    simp only [aT,Aa] at h;subst h
    exact ⟨_,by rw [Sem.run_bind,hg];simp [binOp,Op.shift,hb],Np _ _ _⟩
  ·split at h
   ·rename_i hk;subst hk
    obtain ⟨v,h1,h2⟩:=KE (P:=P) (w:=w) (X:=X) (π:=π) (H:=H) op k a b t av h
    exact ⟨v,by rw [Sem.run_bind,hg];exact h1,h2⟩
   ·cases h
 ·rename_i a _ b
  have:=fO hx;subst this
  have:=fO hy;subst this
  have hg: ∀op,(eqGuard op t ox oy (.string a) (.string b)).run P w= .ok () w:=by intro op;cases op<;>simp [eqGuard]
  split at h
  ·simp only [Qf,Aa] at h;subst h
   exact ⟨_,by rw [Sem.run_bind,hg];simp [binOp,Op.stringOp],Ml _ _⟩
  ·simp only [Qf,Aa] at h;subst h
   exact ⟨_,by rw [Sem.run_bind,hg];simp [binOp,Op.stringOp],Ml _ _⟩
  ·split at h
   ·rename_i hl
    simp only [Aa] at h;subst h
    exact ⟨_,by rw [Sem.run_bind,hg];simp only [Result.andThen_ok,binOp];exact run_string_add_sum w a b (by omega),mi _ _⟩
   ·cases h
  ·cases h
 ·cases h
theorem jr {t:TypeId} (h:P.underlying t=some .bool) (a b:Bool) (w:World):(Op.equal t (.bool a) (.bool b)).run P w= .ok (a==b) w:=by
 unfold Op.equal
 rw [show Op.maxDepth=9999+1 from rfl]
 unfold Op.equalIn
 rw [Sem.run_bind,run_underlying h]
 rfl
theorem EW (hT:Eg P T) {x:AV} {vx:Value} {b:Bool} {t:TypeId} (hx:Bl X w π H x vx) (h:ed x=some b) (ht:(T.elem t).isSome=true):
  (∃a len cap,vx= .slice a len cap/\(match a with|none=>true|some _=>false)=b)/\(Op.equal t vx (.slice none 0 0)).run P w= .ok b w:=by
 have h1: ∃a len cap,vx= .slice a len cap/\(match a with|none=>true|some _=>false)=b:=by
  unfold ed at h
  split at h
  ·simp only [Aa] at h;subst h
   have hx:vx= .slice none 0 0:=hx
   exact ⟨none,0,0,hx,rfl⟩
  ·simp only [Aa] at h;subst h
   obtain ⟨cs,hc,rfl⟩:=hx
   simp only [Cells] at hc
   rcases hc with ⟨rfl,c,rfl⟩|⟨xs,ad,len,cap,rfl,rfl,_⟩
   ·exact ⟨none,0,c,by simp [Ca,Ty.Ao],rfl⟩
   ·exact ⟨some ad,len,cap,by simp [Ca,Ty.Ao],rfl⟩
  ·cases h
 refine ⟨h1,?_⟩
 obtain ⟨a,len,cap,rfl,rfl⟩:=h1
 obtain ⟨te,l5⟩:=Xv.1 ht
 have hu:=hT.elem t te l5
 unfold Op.equal
 rw [show Op.maxDepth=9999+1 from rfl]
 unfold Op.equalIn
 rw [Sem.run_bind,run_underlying hu]
 cases a<;>rfl
theorem EV (hT:Eg P T) {x:AV} {vx:Value} {b:Bool} {t:TypeId} (hx:Bl X w π H x vx) (h:ec x=some b) (ht:YH (T.ty t)=true):
  (∃a,vx= .pointer a/\(match a with|none=>true|some _=>false)=b)/\(Op.equal t vx (.pointer none)).run P w= .ok b w:=by
 have h1: ∃a,vx= .pointer a/\(match a with|none=>true|some _=>false)=b:=by
  unfold ec at h
  split at h
  ·simp only [Aa] at h;subst h
   have hx:vx= .pointer none:=hx
   exact ⟨none,hx,rfl⟩
  ·simp only [Aa] at h;subst h
   obtain ⟨r,tid,vs,_,_,rfl⟩:=hx
   exact ⟨_,rfl,rfl⟩
  ·simp only [Aa] at h;subst h
   obtain ⟨cs,hc,rfl⟩:=hx
   simp only [Cells] at hc
   rcases hc with ⟨rfl,rfl⟩|⟨xs,g,o,rfl,rfl,_⟩
   ·exact ⟨none,by simp [Ca,Ty.Ao],rfl⟩
   ·exact ⟨some ⟨g,o,none⟩,by simp [Ca,Ty.Ao],rfl⟩
  ·simp only [Aa] at h;subst h
   obtain ⟨cs,hc,rfl⟩:=hx
   simp only [Cells] at hc
   obtain ⟨g,o,rfl,_⟩:=hc
   exact ⟨some ⟨g,o,none⟩,by simp [Ca,Ty.Ao],rfl⟩
  ·cases h
 refine ⟨h1,?_⟩
 obtain ⟨a,rfl,rfl⟩:=h1
 have hu: ∃u,P.underlying t=some (.pointer u):=by
  cases Yy:T.ty t with
  |none=>rw [Yy] at ht;cases ht
  |some τ=>
   have hd:=(hT.ty t τ Yy).desc
   rw [Yy] at ht
   cases τ<;>first|exact hd|cases ht
 obtain ⟨u,hu⟩:=hu
 unfold Op.equal
 rw [show Op.maxDepth=9999+1 from rfl]
 unfold Op.equalIn
 rw [Sem.run_bind,run_underlying hu]
 cases a<;>rfl
theorem yC {T:Tab} (hT:Eg P T) (op:BinOp) (x y:AV) (vx vy:Value) (ox oy:Operand) (t:TypeId) (av:AV) (hx:Bl X w π H x vx) (hy:Bl X w π H y vy) (h:Ut T op t x y=some av):
  ∃v,(do eqGuard op t ox oy vx vy;binOp op t vx vy:Sem Value).run P w= .ok v w/\Bl X w π H av v:=by
 unfold Ut at h
 split at h
 ·split at h
  ·rename_i ht
   cases hn:ed x with
   |none=>rw [hn] at h;cases h
   |some b=>
    rw [hn] at h
    simp only [Fo,Qf,Aa] at h;subst h
    have hy:vy= .slice none 0 0:=hy
    subst hy
    obtain ⟨⟨a,len,cap,rfl,_⟩,h2⟩:=EW hT hx hn ht
    exact ⟨.bool b,by rw [Sem.run_bind];simp [eqGuard,binOp,h2],Ml _ _⟩
  ·cases h
 ·split at h
  ·rename_i ht
   cases hn:ec x with
   |none=>rw [hn] at h;cases h
   |some b=>
    rw [hn] at h
    simp only [Fo,Qf,Aa] at h;subst h
    have hy:vy= .pointer none:=hy
    subst hy
    obtain ⟨⟨a,rfl,_⟩,h2⟩:=EV hT hx hn ht
    exact ⟨.bool b,by rw [Sem.run_bind];simp [eqGuard,binOp,h2],Ml _ _⟩
  ·cases h
 ·split at h
  ·rename_i ht
   cases hn:ed x with
   |none=>rw [hn] at h;cases h
   |some b=>
    rw [hn] at h
    simp only [Fo,Qf,Aa] at h;subst h
    have hy:vy= .slice none 0 0:=hy
    subst hy
    obtain ⟨⟨a,len,cap,rfl,_⟩,h2⟩:=EW hT hx hn ht
    exact ⟨.bool (!b),by rw [Sem.run_bind];simp [eqGuard,binOp,h2],Ml _ _⟩
  ·cases h
 ·split at h
  ·rename_i ht
   cases hn:ec x with
   |none=>rw [hn] at h;cases h
   |some b=>
    rw [hn] at h
    simp only [Fo,Qf,Aa] at h;subst h
    have hy:vy= .pointer none:=hy
    subst hy
    obtain ⟨⟨a,rfl,_⟩,h2⟩:=EV hT hx hn ht
    exact ⟨.bool (!b),by rw [Sem.run_bind];simp [eqGuard,binOp,h2],Ml _ _⟩
  ·cases h
 ·rename_i a _ b
  have:=al hx;subst this
  have:=al hy;subst this
  split at h
  ·rename_i ht
   simp only [Qf,Aa] at h;subst h
   have hu:P.underlying t=some .bool:=(hT.ty t _ ht).desc
   exact ⟨_,by rw [Sem.run_bind];simp [eqGuard,binOp,jr hu],Ml _ _⟩
  ·cases h
 ·rename_i a _ b
  have:=al hx;subst this
  have:=al hy;subst this
  split at h
  ·rename_i ht
   simp only [Qf,Aa] at h;subst h
   have hu:P.underlying t=some .bool:=(hT.ty t _ ht).desc
   exact ⟨_,by rw [Sem.run_bind];simp [eqGuard,binOp,jr hu],Ml _ _⟩
  ·cases h
 ·exact CS op x y vx vy ox oy t av hx hy h
theorem JJ (op:UnOp) (x:AV) (vx:Value) (av:AV) (hx:Bl X w π H x vx) (h:yG op x=some av):
  ∃v,(Op.unary op vx).run P w= .ok v w/\Bl X w π H av v:=by
 unfold yG at h
 split at h
 ·have:=al hx;subst this
  simp only [Qf,Aa] at h;subst h
  exact ⟨_,by simp [Op.unary],Ml _ _⟩
 ·have:=Qw hx;subst this
  simp only [aT,Aa] at h;subst h
  exact ⟨_,by simp [Op.unary,Op.intArith],Np _ _ _⟩
 ·cases h
theorem Je {t:TypeId} {τ:Ty} (ht:qT P T t τ) (g o:Nat) (es:List Value) (hl:es.length=τ.size) (hc: ∀j u,es[j]?=some u->w.cell? ⟨g,o+j,none⟩=some u):
  (loadVar t ⟨g,o,none⟩).run P w= .ok (Ca τ es) w:=by
 unfold loadVar
 rw [Sem.run_bind,ht.agg,Result.andThen_ok]
 cases hs:τ.Ao with
 |true=>
  simp only [Qi,Sem.run_bind,ht.size,Result.andThen_ok]
  rw [<-hl,run_loadCells_list w ⟨g,o,none⟩ es (λj v hv=>by rw [Addr.add_lit];exact hc j v hv)]
  simp [Ca,hs]
 |false=>
  have h1:τ.size=1:=by cases τ<;>simp_all [Ty.Ao,Ty.size]
  rw [h1] at hl
  obtain ⟨u,rfl⟩:=Ee.1 hl
  have:=hc 0 u rfl
  simp only [En] at this
  simp [this,Ca,hs]
theorem ua {fr:Bool} {τ:Ty} {x:τ.den} {v:Value} (h:Bl X w π H (.at (.data fr τ x)) v):Bl X w π H (.at (.data (fr||τ.flat) τ x)) v:=by
 cases hf:τ.flat with
 |true=>exact Cu.flat hf h
 |false=>rw [ia];exact h
theorem w7 {cs ds:List AC} {us vs:List Value} (h1:Gf X w π H cs us) (h2:Gf X w π H ds vs):Gf X w π H (cs++ds) (us++vs):=by
 have e1:=h1.1
 refine ⟨by simp [h1.1,h2.1],λi c hc=>?_⟩
 by_cases hi:i<cs.length
 ·rw [As hi] at hc
  obtain ⟨u,hu,h3⟩:=h1.2 i c hc
  exact ⟨u,by rw [As (by omega)];exact hu,h3⟩
 ·rw [Ar (by omega)] at hc
  obtain ⟨u,hu,h3⟩:=h2.2 _ c hc
  exact ⟨u,by rw [Ar (by omega),e1];exact hu,h3⟩
theorem fN {c:AC} {u:Value} (h1:u.oneCell'=true) (h2:Ia X w π H c u):Gf X w π H [c] [u]:=⟨rfl,λi c' hc=>by
 rcases i with _|i
 ·simp at hc;subst hc;exact ⟨u,rfl,h1,h2⟩
 ·simp at hc⟩
theorem NA {l i:Nat} {e:Ty} {tid:TypeId} {xs:List e.den} {r:Real} (hl:At H l=some (.Hi e tid xs)) (hp:π l=some r) (hi:i<xs.length): ∀(τ:Ty) (c:Nat) (F:List Nat) (us:List Value) (x:τ.den),
  Db w F τ us x->c+τ.size<=e.size->(∀j u,us[j]?=some u->w.cell? ⟨r.g,(r.o+i)*e.size+(c+j),none⟩=some u)->Gf X w π H (ga l i c τ x) us:=by
 intro τ
 induction τ with
 |unit=>intro c F us x h _ _;simp only [Db] at h;obtain ⟨_,rfl⟩:=h;exact ⟨rfl,λi c hc=>by simp [ga] at hc⟩
 |pair a r ib hJ=>
  intro c F us x h hle hc
  have yM:=Db.cells (S:= λ_=>False) F _ us x h (λ_ _ h=>h)
  simp only [Db] at h
  obtain ⟨c1,c2,F1,F2,rfl,rfl,h1,h2⟩:=h
  have rU:c1.length=a.size:=Cells.len a c1 x.1 (Db.cells (S:= λ_=>False) F1 a c1 x.1 h1 (λ_ _ h=>h))
  simp only [Ty.size] at hle
  refine w7 (ib c F1 c1 x.1 h1 (by omega) λj u hu=>hc j u (by rw [As (Am.1 hu).1];exact hu)) (hJ (c+a.size) F2 c2 x.2 h2 (by omega) λj u hu=>?_)
  have:=hc (a.size+j) u (by rw [Ar (by omega),rU];simpa using hu)
  rw [show c+a.size+j=c+(a.size+j) by omega];exact this
 |int k=>intro c F us x h _ _;simp only [Db] at h;obtain ⟨_,rfl⟩:=h;exact fN rfl (Np (H:=H) k x true)
 |bool=>intro c F us x h _ _;simp only [Db] at h;obtain ⟨_,rfl⟩:=h;exact fN rfl (Ml (H:=H) x true)
 |str=>intro c F us x h _ _;simp only [Db] at h;obtain ⟨_,rfl⟩:=h;exact fN rfl (mi (H:=H) x true)
 |slice e'=>
  intro c F us x h hle hc
  simp only [Db] at h
  obtain ⟨a,len,cap,rfl,_⟩:=h
  exact fN rfl ⟨r,_,e.size,xs.length,hl,rfl,hp,hi,⟨by simp only [Ty.size] at hle;omega,_,_,_,rfl⟩,by simpa using hc 0 _ rfl⟩
 |_=>intro c F us x h;simp only [Db] at h
theorem nh (hT:Eg P T) {st:St} {a:Act} (h:Bh X π st a w) (t:TypeId) (p:AV) (vp:Value) (av:AV) (hp:Bl X w π st.heap p vp) (he:Re T st t p=some av):
  ∃v,(Instr.loadAt t vp).run P w= .ok v w/\Bl X w π st.heap av v:=by
 unfold Re at he
 split at he
 ·rename_i τ fr Pb x ht
  split at he
  ·rename_i Uv
   subst Uv
   simp only [Aa] at he;subst he
   have Yy:=hT.ty _ _ ht
   obtain ⟨cs,hc,rfl⟩:=hp
   simp only [Cells] at hc
   obtain ⟨g,o,rfl,hg,hn,es,hl,Wx,bZ⟩:=hc
   refine ⟨Ca Pb es,?_,ua (show Bl X w π st.heap (.at (.data fr Pb _)) (Ca Pb es) from ⟨es,bZ,rfl⟩)⟩
   have hr:=Je (P:=P) (w:=w) Yy g o es hl Wx
   show (do loadVar t (<-Instr.sureAddr (.pointer (some ⟨g,o,none⟩))):Sem Value).run P w=_
   simpa [Instr.sureAddr] using hr
  ·cases he
 ·rename_i τ fr Pb x ht
  split at he
  ·rename_i Uv
   subst Uv
   simp only [Aa] at he;subst he
   have Yy:=hT.ty _ _ ht
   obtain ⟨cs,hc,rfl⟩:=hp
   simp only [Cells] at hc
   rcases hc with ⟨h0,_⟩|⟨y,g,o,h0,rfl,hg,hn,es,hl,Wx,bZ⟩
   ·cases h0
   simp only [Aa] at h0;subst h0
   refine ⟨Ca Pb es,?_,ua (show Bl X w π st.heap (.at (.data fr Pb _)) (Ca Pb es) from ⟨es,bZ,rfl⟩)⟩
   have hr:=Je (P:=P) (w:=w) Yy g o es hl Wx
   show (do loadVar t (<-Instr.sureAddr (.pointer (some ⟨g,o,none⟩))):Sem Value).run P w=_
   simpa [Instr.sureAddr] using hr
  ·cases he
 ·rename_i τ l i ht
  have Yy:=hT.ty _ _ ht
  split at he
  ·rename_i tid vs hl
   obtain ⟨r,Vq,vs',h1,h2,rfl⟩:=hp
   unfold St.at at hl
   rw [hl] at h1;cases h1
   obtain ⟨r',h3,h4,cur,h5,h6⟩:=(h.1.heap l).Sn hl
   rw [h2] at h3;cases h3
   split at he
   ·rename_i hs
    split at he
    ·rename_i hlen
     simp only [Aa] at he;subst he
     have Rc:cur.toList.length=vs.length:=h6.1
     refine ⟨_,by
      simp only [Instr.loadAt,Instr.sureAddr]
      simpa using Je (P:=P) (w:=w) Yy r.g i ((cur.toList.drop i).take τ.size) (by simp at Rc⊢;omega) (λj u hu=>by
       rw [cellOf h5]
       rw [Cs] at hu
       split at hu
       ·rw [Da] at hu;simpa using hu
       ·cases hu),?_⟩
     exact ⟨_,by simp [Ca,hs],ak h6 i τ.size⟩
    ·cases he
   ·rename_i hs
    simp only [Hc] at hs
    have h1:τ.size=1:=by cases τ<;>simp_all [Ty.Ao,Ty.size]
    cases hi:vs[i]? with
    |none=>rw [hi] at he;cases he
    |some c=>
     rw [hi] at he
     simp only [Al,Aa] at he;subst he
     obtain ⟨u,hu,_,hc⟩:=h6.2 i c hi
     refine ⟨u,?_,hc⟩
     simp only [Instr.loadAt,Instr.sureAddr]
     have:=Je (P:=P) (w:=w) Yy r.g i [u] (by simp [h1]) (λj u' gZ=>by
       rcases j with _|j
       ·simp at gZ;subst gZ;rw [En,cellOf h5];simpa using hu
       ·simp at gZ)
     simpa [Ca,hs] using this
  ·cases he
 ·rename_i τ l i ht
  have Yy:=hT.ty _ _ ht
  split at he
  ·rename_i fr tr e tid xs hl
   split at he
   ·rename_i heq;subst heq
    obtain ⟨r,b,sz,n,h1,h0,h2,h3,rfl⟩:=hp
    unfold St.at at hl
    rw [hl] at h1;cases h1
    simp only [OB.row,Aa,Ae] at h0
    obtain ⟨rfl,rfl⟩:=h0
    have hb:=(h.1.heap l).Sn hl
    simp only [Cg,Kt,h3] at hb
    obtain ⟨h4,cur,_,h5,h6,h7,h8,h9,_⟩:=hb
    have hx:xs[i]?=some xs[i]:=Ac h2
    rw [hx] at he
    simp only [Al,Aa] at he;subst he
    obtain ⟨es,gW,hj,yM⟩:=h9 i _ hx
    refine ⟨Ca e es,?_,ua (show Bl X w π st.heap (.at (.data fr e _)) (Ca e es) from ⟨es,yM,rfl⟩)⟩
    simp only [Instr.loadAt,Instr.sureAddr]
    simpa using Je (P:=P) (w:=w) Yy r.g ((r.o+i)*e.size) es gW (λj u hu=>by rw [cellOf h5];exact hj j u hu)
   ·cases he
  ·rename_i e tid xs hl
   split at he
   ·rename_i heq;subst heq
    obtain ⟨r,b,sz,n,h1,h0,h2,h3,rfl⟩:=hp
    unfold St.at at hl
    rw [hl] at h1;cases h1
    simp only [OB.row,Aa,Ae] at h0
    obtain ⟨rfl,rfl⟩:=h0
    have hb:=(h.1.heap l).Sn hl
    simp only [Cg,Oo,h3] at hb
    obtain ⟨h4,cur,_,h5,h6,h7,h8,Fs,k1,k2,k3,k4⟩:=hb
    have hx:xs[i]?=some xs[i]:=Ac h2
    rw [hx] at he
    simp only [Al,Aa] at he;subst he
    obtain ⟨es,gW,hj,yM⟩:=k4 i _ _ hx (Ac (by omega))
    have hrs:=NA (X:=X) (H:=st.heap) hl h3 h2 e 0 _ es _ yM (by omega) (λj u hu=>by rw [cellOf h5,Bu];exact hj j u hu)
    refine ⟨Ca e es,?_,?_⟩
    ·simp only [Instr.loadAt,Instr.sureAddr]
     simpa using Je (P:=P) (w:=w) Yy r.g ((r.o+i)*e.size) es gW (λj u hu=>by rw [cellOf h5];exact hj j u hu)
    ·cases Si:e.Ao with
     |true=>rw [Ab rfl];exact ⟨es,by simp [Ca,Si],hrs⟩
     |false=>
      rw [Aj (by simp)]
      have h1:e.size=1:=by cases e<;>simp_all [Ty.Ao,Ty.size]
      rw [h1] at gW
      obtain ⟨u,rfl⟩:=Ee.1 gW
      have rU:=hrs.1
      generalize ga l i 0 e xs[i]=sc at*
      simp only [Ay,Fq] at rU
      obtain ⟨c,rfl⟩:=Ee.1 rU.symm
      obtain ⟨u',gZ,_,x9⟩:=hrs.2 0 c rfl
      simp at gZ;subst gZ
      have e1:Ca e [u]=u:=by simp [Ca,Si]
      rw [e1]
      exact x9
   ·cases he
  ·rename_i e te rows kp hl
   split at he
   ·cases he
   ·rename_i Si
    simp only [Hc] at Si
    simp only [Aa] at he;subst he
    obtain ⟨r,b,sz,n,h1,h0,h2,h3,rfl⟩:=hp
    unfold St.at at hl
    rw [hl] at h1;cases h1
    simp only [OB.row,Aa,Ae] at h0
    obtain ⟨rfl,rfl⟩:=h0
    obtain ⟨u,R,k1,k2,k3⟩:=nz h.1 hl h3 h2 (by simp)
    have aM:τ.size=1:=by cases τ<;>simp_all [Ty.Ao,Ty.size]
    refine ⟨u,?_,r,_,1,rows.length,hl,rfl,h3,h2,⟨by omega,bg k2⟩,by rw [Fm,En];exact k1⟩
    simp only [Instr.loadAt,Instr.sureAddr]
    have:=Je (P:=P) (w:=w) Yy r.g ((r.o+i)*1) [u] (by simp [aM]) (λj u' gZ=>by
     rcases j with _|j
     ·simp at gZ;subst gZ;rw [Fm,En];exact k1
     ·simp at gZ)
    simpa [Ca,Si] using this
  ·cases he
 ·rename_i τ l i j ht
  have Yy:=hT.ty _ _ ht
  split at he
  ·rename_i e te rows kp hl
   split at he
   ·rename_i heq;subst heq
    simp only [Aa] at he;subst he
    obtain ⟨r,b,n,sz,g,o,len,cap,h1,h0,h2,h3,h4,h5,rfl⟩:=hp
    unfold St.at at hl
    rw [hl] at h1;cases h1
    simp only [OB.vB,Aa,Ae] at h0
    obtain ⟨rfl,rfl⟩:=h0
    obtain ⟨u,R,k1,k2,k3⟩:=nz h.1 hl h2 h3 (by simp)
    rw [h5] at k1
    have hu:=Bc k1
    subst hu
    cases R with
    |none=>obtain ⟨hh,_⟩:=k2;cases hh
    |some q=>
     obtain ⟨ad,hh,g1,g2⟩:=k2
     simp only [Value.slice.injEq,Aa] at hh
     obtain ⟨rfl,rfl,rfl⟩:=hh
     have WR:=g2 (by omega)
     simp only [Addr.mk.injEq,bo] at WR
     obtain ⟨rfl,rfl⟩:=WR
     obtain ⟨f1,cur,ti,f2,f3,f4,f5,f6⟩:=k3
     have hj:(rows.getD i [])[j]?=some ((rows.getD i []).getD j e.zero):=by rw [Ah (l:=rows.getD i []),Ac h4];rfl
     obtain ⟨es,gW,c1,c2⟩:=f6 j _ hj
     refine ⟨Ca e es,?_,ua (fr:=false) (show Bl X w π st.heap (.at (.data false e _)) (Ca e es) from ⟨es,c2,rfl⟩)⟩
     simp only [Instr.loadAt,Instr.sureAddr]
     simpa using Je (P:=P) (w:=w) Yy q.g ((q.o+0)*e.size+j*e.size) es gW (λm u hu=>by rw [cellOf f2,En,<-Df];exact c1 m u hu)
   ·cases he
  ·cases he
 ·cases he
theorem YD {α:Type} {xs:List α} {n:Int} {x:α} (h:idx xs n=some x):0<=n/\n<xs.length/\xs[n.toNat]?=some x:=by
 unfold idx at h
 split at h
 ·rename_i h0
  have:=(Am.1 h).1
  exact ⟨h0,by omega,h⟩
 ·cases h
theorem rM (hT:Eg P T) {t:TypeId} {e:Ty} (h:(T.elem t).bind T.ty=some e): ∃te,T.elem t=some te/\T.ty te=some e/\P.underlying t=some (.slice te)/\P.elem t=te:=by
 cases ht:T.elem t with
 |none=>rw [ht] at h;cases h
 |some te=>
  rw [ht] at h
  have hu:=hT.elem t te ht
  exact ⟨te,rfl,h,hu,by simp [Program.elem,hu]⟩
theorem ng (hT:Eg P T) {st:St} {a:Act} (h:Bh X π st a w) (t:TypeId) (x i:AV) (vx vi:Value) (av:AV) (hx:Bl X w π st.heap x vx) (hi:Bl X w π st.heap i vi)
  (he:Lh T st t x i=some av): ∃v,(Instr.indexAt t vx vi).run P w= .ok v w/\Bl X w π st.heap av v:=by
 unfold Lh at he
 split at he
 ·rename_i fr e xs _ k n
  have:=Qw hi;subst this
  split at he
  ·rename_i l4
   obtain ⟨te,h1,h2,h3,h4⟩:=rM hT l4
   cases hix:idx xs n with
   |none=>rw [hix] at he;cases he
   |some y=>
    rw [hix] at he
    simp only [Al,Aa] at he;subst he
    obtain ⟨h5,h6,h7⟩:=YD hix
    obtain ⟨cs,hc,rfl⟩:=hx
    simp only [Cells] at hc
    obtain ⟨ad,len,cap,rfl,hlen,sU,JV⟩:=hc
    rcases JV with rfl|⟨g,o,rfl,hg,hn,Lc⟩
    ·simp at h6;omega
    ·obtain ⟨es,gW,Wx,bZ⟩:=Lc _ _ h7
     have aM:=(hT.ty _ _ h2).size (w:=w)
     refine ⟨.pointer (some ⟨g,o+n.toNat*e.size,none⟩),?_,[_],⟨g,_,rfl,hg,hn,es,gW,Wx,bZ⟩,by simp [Ca,Ty.Ao]⟩
     simp only [Ca,Ty.Ao,Cz,Sm,ik]
     rw [run_indexAt_slice (P:=P) w t _ _ _ k n (by rw [h3,h4]),Ab ⟨h5,by omega⟩,h4,aM,Result.andThen_ok,Addr.add_lit]
  ·cases he
 ·rename_i l off len _ k n
  have:=Qw hi;subst this
  split at he
  ·rename_i fr tr e tid xs hl
   split at he
   ·rename_i Kk
    obtain ⟨h1,h2,h56⟩:=Kk
    obtain ⟨h5,h6⟩:=Vb.1 h56
    simp only [Aa] at he;subst he
    have h3:=hT.elem t tid h1
    have h4:P.elem t=tid:=by simp [Program.elem,h3]
    unfold St.at at hl
    have Mb:=hl
    obtain ⟨h8,h9⟩:=Pg (X:=X) (w:=w) hx hl
    cases hp:π l with
    |none=>rw [hp] at h9;obtain ⟨_,_,h9⟩:=h9;omega
    |some r=>
     rw [hp] at h9
     obtain ⟨ad,rfl,qd,kW⟩:=h9
     have h12:=kW (by omega)
     subst h12
     have aM:=(hT.ty _ _ h2).size (w:=w)
     refine ⟨.pointer (some ⟨r.g,(r.o+off)*e.size+n.toNat*e.size,none⟩),?_,r,_,e.size,xs.length,Mb,rfl,by omega,hp,?_⟩
     ·rw [run_indexAt_slice (P:=P) w t _ _ _ k n (by rw [h3,h4]),Ab ⟨h5,by omega⟩,h4,aM,Result.andThen_ok,Addr.add_lit]
     ·rw [<-Ha r.o off n.toNat,Df (r.o+off)]
   ·cases he
  ·rename_i e tid xs hl
   split at he
   ·rename_i Kk
    obtain ⟨h1,h2,h56⟩:=Kk
    obtain ⟨h5,h6⟩:=Vb.1 h56
    simp only [Aa] at he;subst he
    have h3:=hT.elem t tid h1
    have h4:P.elem t=tid:=by simp [Program.elem,h3]
    unfold St.at at hl
    have Mb:=hl
    obtain ⟨h8,h9⟩:=ck (X:=X) (w:=w) hx hl
    cases hp:π l with
    |none=>rw [hp] at h9;obtain ⟨_,_,h9⟩:=h9;omega
    |some r=>
     rw [hp] at h9
     obtain ⟨ad,rfl,qd,kW⟩:=h9
     have h12:=kW (by omega)
     subst h12
     have aM:=(hT.ty _ _ h2).size (w:=w)
     refine ⟨.pointer (some ⟨r.g,(r.o+off)*e.size+n.toNat*e.size,none⟩),?_,r,_,e.size,xs.length,Mb,rfl,by omega,hp,?_⟩
     ·rw [run_indexAt_slice (P:=P) w t _ _ _ k n (by rw [h3,h4]),Ab ⟨h5,by omega⟩,h4,aM,Result.andThen_ok,Addr.add_lit]
     ·rw [<-Ha r.o off n.toNat,Df (r.o+off)]
   ·cases he
  ·rename_i e te rows out kp hl
   split at he
   ·rename_i Kk
    obtain ⟨h1,h2,h56⟩:=Kk
    obtain ⟨h5,h6⟩:=Vb.1 h56
    simp only [Aa] at he;subst he
    have h3:=hT.elem t te h1
    have h4:P.elem t=te:=by simp [Program.elem,h3]
    unfold St.at at hl
    have Mb:=hl
    obtain ⟨h8,h9⟩:=o4 (X:=X) (w:=w) hx hl
    cases hp:π l with
    |none=>rw [hp] at h9;obtain ⟨_,_,h9⟩:=h9;omega
    |some r=>
     rw [hp] at h9
     obtain ⟨ad,rfl,qd,kW⟩:=h9
     have h12:=kW (by omega)
     subst h12
     cases l5:T.ty te with
     |none=>rw [l5] at h2;cases h2
     |some τ=>
      rw [l5] at h2
      have h2:τ.size=1:=Bc h2
      have aM:=(hT.ty _ _ l5).size (w:=w)
      refine ⟨.pointer (some ⟨r.g,(r.o+off)*1+n.toNat*τ.size,none⟩),?_,r,_,1,rows.length,Mb,rfl,by omega,hp,?_⟩
      ·rw [run_indexAt_slice (P:=P) w t _ _ _ k n (by rw [h3,h4]),Ab ⟨h5,by omega⟩,h4,aM,Result.andThen_ok,Addr.add_lit]
      ·rw [h2,<-Ha r.o off n.toNat,Df (r.o+off)]
   ·cases he
  ·cases he
 ·rename_i l i c _ k n
  have:=Qw hi;subst this
  split at he
  ·rename_i e te rows kp hl
   split at he
   ·rename_i Kk
    obtain ⟨h2,h56⟩:=Kk
    obtain ⟨h5,h6⟩:=Vb.1 h56
    simp only [Aa] at he;subst he
    cases l5:T.elem t with
    |none=>rw [l5] at h2;cases h2
    |some Sj=>
     rw [l5] at h2
     cases Yy:T.ty Sj with
     |none=>rw [Fo,Yy] at h2;cases h2
     |some τ=>
      rw [Fo,Yy] at h2
      have h2:τ.size=e.size:=Bc h2
      have h3:=hT.elem t Sj l5
      have h4:P.elem t=Sj:=by simp [Program.elem,h3]
      unfold St.at at hl
      obtain ⟨r,b,sz,m,g1,g0,g2,g3,⟨g4,_⟩,g5⟩:=hx
      rw [hl] at g1;cases g1
      simp only [OB.gB,Aa,Ae] at g0
      obtain ⟨rfl,rfl⟩:=g0
      have kC:c=0:=by omega
      subst kC
      rw [Fm,En] at g5
      obtain ⟨u,R,k1,k2,k3⟩:=nz h.1 hl g2 g3 (by simp)
      rw [g5] at k1
      have hu:=Bc k1
      subst hu
      cases R with
      |none=>obtain ⟨_,_,hh⟩:=k2;omega
      |some q=>
       obtain ⟨ad,rfl,f1,f2⟩:=k2
       have WR:=f2 (by omega)
       subst WR
       have aM:=(hT.ty _ _ Yy).size (w:=w)
       refine ⟨.pointer (some ⟨q.g,(q.o+0)*e.size+n.toNat*τ.size,none⟩),?_,r,_,rows.length,e.size,q.g,(q.o+0)*e.size,_,_,hl,rfl,g2,g3,by omega,g5,by rw [h2]⟩
       rw [run_indexAt_slice (P:=P) w t _ _ _ k n (by rw [h3,h4]),Ab ⟨h5,by omega⟩,h4,aM,Result.andThen_ok,Addr.add_lit]
   ·cases he
  ·cases he
 ·cases he
end
end Go.Proofs.YtkkdpknjohcekaaGreat
