/-
  Part 7 of the proof that the statement FnExactSolveTwoPhaseWithin holds.
-/
import Derived.Test.YtfgfigkbgecfnaaCSolveTwoPhaseWithin05
namespace Go.Proofs.Ytfgfigkbgecfnaa
open Go.RowKit
section
variable {P:Program} {T:Tab} {X:Ctx} {w w':World} {π:Pi} {H:List (Nat×OB)}
def QZ (P:Program) (X:Ctx) (π:Pi) (H:List (Nat×OB)) (w:World) (av:AV):Result Next->Prop
 | .ok (.value v) w'=>w'=w/\Bx X w π H av v
 | .ok (.enter f args) w'=>w'=w/\Calls P f args w (λe rU=> ∃v,e= .returned v/\Below w.heap.size w rU/\Bx X rU π H av v)
 |_=>False
def mg (s:Spec) (w:World) (S:Nat->Prop) (v:Value) (y:s.res.den):Prop:=
 if s.Jy then ∃us:List Value,v= .tuple us.toArray/\De w S s.res us y else Dd w S s.res v y
structure Sound (P:Program) (f:FuncId) (s:Spec):Prop where
 enter: ∀args w,(callFunc f args).run P w= .ok (.enter f args) w
 calls: ∀(w:World) (S:Nat->Prop) (vs:List Value) (x:s.arg.den) (y:s.res.den),(∀k,S k->k<w.heap.size)->De w S s.arg vs x->s.fn x=some y->
  Calls P f vs.toArray w λe w'=> ∃v,e= .returned v/\Below w.heap.size w w'/\mg s w' (λb=>S b\/(s.fresh=true/\b<w.heap.size)) v y
def gX (w:World) (D:Nat->Prop) (r:Option Real):(c:CK)->c.den->Prop
 | .Ia _,_=>r=none
 | .row e _,xs=>Tr w D r e xs
 | .Hz e te,xs=>On w r e te xs
 | .part e _,x=>e.flat=true/\Tr w D r e x.1
 | .Ca e _ _,rows=>aP w D r e rows none
def fC (w:World) (D:Nat->Prop) (r:Option Real) (v:Value):(c:CK)->c.den->Prop
 | .Ia τ,x=>r=none/\Dd w D τ v x
 | .row e te,xs=>Ih r e.size 0 (List.length xs) v/\gX w D r (.row e te) xs
 | .Hz e te,xs=>Ih r e.size 0 (List.length xs) v/\gX w D r (.Hz e te) xs
 | .part e te,x=>(Ih r e.size x.2.1 x.2.2 v/\x.2.1+x.2.2<=List.length x.1)/\gX w D r (.part e te) x
 | .Ca e te kp,rows=>Ih r 1 0 (List.length rows) v/\gX w D r (.Ca e te kp) rows
def fD (w:World) (D:Nat->Prop) (π:Pi):(k:Nat)->(cs:List (Bool×CK))->Ins.den cs->List Value->Prop
 |_,[],_,[]=>True
 |k,p::r,x,u::us=>fC w D (π (Eh p.1 k)) u p.2 x.1/\fD w D π (k+1) r x.2 us
 |_,_,_,_=>False
def Mu (w:World) (D:Nat->Prop) (π:Pi):(k:Nat)->(cs:List (Bool×CK))->IOs.den cs->Prop
 |_,[],_=>True
 |k,(true, .Ia _)::r,x=>Mu w D π (k+1) r x
 |k,(true, .Ca _ _ _)::r,x=>Mu w D π (k+1) r x
 |k,(true, .row e te)::r,x=>gX w D (π (Eh true k)) (.row e te) x.1/\Mu w D π (k+1) r x.2
 |k,(true, .Hz e te)::r,x=>gX w D (π (Eh true k)) (.Hz e te) x.1/\Mu w D π (k+1) r x.2
 |k,(true, .part e te)::r,x=>gX w D (π (Eh true k)) (.row e te) x.1/\Mu w D π (k+1) r x.2
 |k,(false,_)::r,x=>Mu w D π (k+1) r x
def Jr (w:World) (D:Nat->Prop) (ρ:Pi):(k:Nat)->(cs:List CK)->CKs.den cs->List Value->Prop
 |_,[],_,[]=>True
 |k,c::r,x,u::us=>fC w D (ρ (Kt k)) u c x.1/\Jr w D ρ (k+1) r x.2 us
 |_,_,_,_=>False
structure iS (π:Pi) (A:Nat->Prop):Prop where
 Sb: ∀l r b,π l=some r->r.Df b->A b
 inj: ∀l l' r r' b,π l=some r->π l'=some r'->r.Df b->r'.Df b->l=l'
def dC:List (Option Nat)->List Value->Prop
 | [],[]=>True
 |none::s,_::us=>dC s us
 |some n::s,us=>n<=us.length/\(∀u∈us.take n,u.oneCell'=true)/\dC s (us.drop n)
 |_,_=>False
def Acm (Jy:Bool) (sh:List (Option Nat)) (us:List Value) (v:Value):Prop:=if Jy then v= .tuple (Lm sh us).toArray else Lm sh us= [v]\/Lm sh us= []
def l5 (S:Nat->Prop) (π ρ:Pi) (b:Nat):Prop:=S b\/(∃l q,Bv<=l/\π l=some q/\q.Df b)\/Wn ρ b
def pj (s:MSpec) (w:World) (g:Nat) (us vs:List Value):Prop:=
 match s.ptr with
 |none=>vs=Lm s.Mq us/\dC s.Mq us
 |some p=>vs= .pointer (some ⟨g,0,none⟩)::Lm s.Mq (us.drop p.2)/\dC s.Mq (us.drop p.2)/\p.2<=us.length/\w.heap[g]?=some (.cells (us.take p.2).toArray p.1 (0,0))/\ ∀u∈us.take p.2,u.oneCell'=true
def MSpec.gv (s:MSpec) (g b:Nat):Prop:=s.ptr.isSome=true/\b=g
def Fc (π:Pi):(k:Nat)->(cs:List (Bool×CK))->IOs.den cs->(n:Nat)->List Value->List Value->Prop
 |_,_,_,0,us,_=>us= []
 |k,(true, .row e _)::r,o,n+1,u::us,as=>Ih (π (Eh true k)) e.size 0 (List.length o.1) u/\Fc π (k+1) r o.2 n us as
 |k,(true, .Hz e _)::r,o,n+1,u::us,as=>Ih (π (Eh true k)) e.size 0 (List.length o.1) u/\Fc π (k+1) r o.2 n us as
 |k,(false,_)::r,o,n+1,u::us,a::as=>u=a/\Fc π (k+1) r o n us as
 |_,_,_,_,_,_=>False
def me (s:MSpec) (π:Pi) (w':World) (g:Nat) (Xt:List Value) (o:IOs.den s.ins):Prop:=
 match s.ptr with
 |none=>True
 |some p=> ∃cs,w'.heap[g]?=some (.cells cs.toArray p.1 (0,0))/\(∀u∈cs,u.oneCell'=true)/\Fc π 0 s.ins o p.2 cs Xt
def EB (w w':World) (r r':Option Real) (n:Nat):Prop:=match r,r' with
 |none,none=>True
 |some q,some q'=>q'.g=q.g/\q'.o=q.o/\q'.cap=q.cap/\ ∀j,j<n->j<q.cap->w'.cell? ⟨q.g,q.o+j,none⟩=w.cell? ⟨q.g,q.o+j,none⟩
 |_,_=>False
def sW (s:MSpec) (w':World) (ρ:Pi) (us:List Value) (v:Value):Prop:=match s.rp with
 |none=>Acm s.Jy s.Li us v/\dC s.Li us
 |some tid=> ∃q,ρ (Kt s.outs.length)=some q/\q.Df q.g/\w'.heap[q.g]?=some (.cells us.toArray tid (0,0))/\(∀u∈us,u.oneCell'=true)/\v= .pointer (some ⟨q.g,0,none⟩)
def MSpec.Vq (s:MSpec):Nat:=s.outs.length+(match s.rp with|none=>0|some _=>1)
structure Ds (P:Program) (f:FuncId) (s:MSpec):Prop where
 enter: ∀args w,(callFunc f args).run P w= .ok (.enter f args) w
 calls: ∀(w:World) (S:Nat->Prop) (π:Pi) (us:List Value) (x:Ins.den s.ins) (r:CKs.den s.outs) (o:IOs.den s.ins) (g:Nat) (vs:List Value),
  pj s w g us vs->(s.ptr.isSome=true->S g)->fD w (λb=>Wn π b\/S b) π 0 s.ins x us->iS π (λb=>b<w.heap.size)->(∀b,S b->b<w.heap.size/\ ¬Wn π b)->(∀l,Ay (al 0 s.ins x) l=none->π l=none)->s.fn x=some (r,o)->
  Calls P f vs.toArray w λe w'=> ∃v Xt ρ,e= .returned v/\sW s w' ρ (Xt.drop s.aV) v/\me s π w' g Xt o/\Lk w.heap.size (λb=>Wn π b\/s.gv g b) w w'/\Mu w' (l5 S π ρ) π 0 s.ins o/\Jr w' (l5 S π ρ) ρ 0 s.outs r Xt/\
   iS ρ (λb=>b<w'.heap.size/\(w.heap.size<=b\/ ∃l q,l<Bv/\π l=some q/\q.Df b))/\(∀l,(∀k,k<s.Vq->l≠Kt k)->ρ l=none)/\(∀kj∈s.keeps,EB w w' (π (Eh false kj.1)) (ρ (Kt kj.2)) (s.Gd x))
def Aji (P:Program) (f:FuncId):cY->Prop
 | .q s=>Sound P f s
 | .m s=>Ds P f s
 | .b s m=>Sound P f s/\Ds P f m
def Ky (P:Program) (Γ:Env):Prop:= ∀f s,Γ f=some s->Aji P f s
theorem Ky.reg {P:Program} {Γ:Env} (h:Ky P Γ) (draw:Bool):Ky P (BO Γ draw):= λf s hs=>by
 unfold BO at hs;split at hs
 ·rename_i s0 m Pn;have:=h f _ Pn
  cases draw with
  |true=>simp only [Oz,Aa] at hs;subst hs;exact this.1
  |false=>simp only [Dt,Uk,Aa] at hs;subst hs;exact this.2
 ·exact h f s hs
theorem Qj {k:IntKind} {n:Int} {fr:Bool} {v:Value} (h:Bx X w π H (.at (.data fr (.int k) n)) v):v= .int k n:=by
 obtain ⟨cs,h1,rfl⟩:=h;simp only [Cells] at h1;subst h1;rfl
theorem ay {b:Bool} {fr:Bool} {v:Value} (h:Bx X w π H (.at (.data fr .bool b)) v):v= .bool b:=by
 obtain ⟨cs,h1,rfl⟩:=h;simp only [Cells] at h1;subst h1;rfl
theorem gw {s:ByteArray} {fr:Bool} {v:Value} (h:Bx X w π H (.at (.data fr .str s)) v):v= .string s:=by
 obtain ⟨cs,h1,rfl⟩:=h;simp only [Cells] at h1;subst h1;rfl
theorem Nt (k:IntKind) (n:Int) (fr:Bool):Bx X w π H (.at (.data fr (.int k) n)) (.int k n):=⟨[.int k n],rfl,rfl⟩
theorem Mm (b:Bool) (fr:Bool):Bx X w π H (.at (.data fr .bool b)) (.bool b):=⟨[.bool b],rfl,rfl⟩
theorem mS (s:ByteArray) (fr:Bool):Bx X w π H (.at (.data fr .str s)) (.string s):=⟨[.string s],rfl,rfl⟩
theorem Ali (f:FuncId):Bx X w π H (.at (.clo f [])) (.func (.func f) #[] #[]):=⟨[],rfl,rfl,λi p hi=>by simp at hi⟩
theorem UE (v:Value):Bx X w π H (nI v) v:=by
 unfold nI;split
 ·exact Nt _ _ _
 ·exact Mm _ _
 ·exact mS _ _
 ·rfl
 ·rfl
 ·trivial
theorem Eb {st:St} {a:Act} (h:sV X w π st a) (x:Operand):Bx X w π st.heap (st.ev x) (a.eval x):=by
 cases x with
 |tmp t=>exact h.tmps t
 |const v=>exact UE v
 |global g=>trivial
 |func f=>exact Ali f
theorem NO (op:BinOp) (k:IntKind) (a b:Int) (t:TypeId) (av:AV) (h:uh op k a b=some av):
  ∃v,(binOp op t (.int k a) (.int k b)).run P w= .ok v w/\Bx X w π H av v:=by
 cases op<;>simp only [uh,aY,Pu] at h
 case add=>cases h;exact ⟨_,by simp [binOp,Op.intArith],Nt _ _ _⟩
 case sub=>cases h;exact ⟨_,by simp [binOp,Op.intArith],Nt _ _ _⟩
 case mul=>cases h;exact ⟨_,by simp [binOp,Op.intArith],Nt _ _ _⟩
 case quo=>split at h<;>cases h;rename_i hb;exact ⟨_,by simp [binOp,Op.intDiv,hb],Nt _ _ _⟩
 case rem=>split at h<;>cases h;rename_i hb;exact ⟨_,by simp [binOp,Op.intDiv,hb],Nt _ _ _⟩
 case and=>cases h;exact ⟨_,by simp [binOp,Op.intBits],Nt _ _ _⟩
 case or=>cases h;exact ⟨_,by simp [binOp,Op.intBits],Nt _ _ _⟩
 case eql=>cases h;exact ⟨_,by simp [binOp,Op.intCmp],Mm _ _⟩
 case neq=>cases h;exact ⟨_,by simp [binOp,Op.intCmp],Mm _ _⟩
 case lss=>cases h;exact ⟨_,by simp [binOp,Op.intCmp],Mm _ _⟩
 case leq=>cases h;exact ⟨_,by simp [binOp,Op.intCmp],Mm _ _⟩
 case gtr=>cases h;exact ⟨_,by simp [binOp,Op.intCmp],Mm _ _⟩
 case geq=>cases h;exact ⟨_,by simp [binOp,Op.intCmp],Mm _ _⟩
 all_goals cases h
theorem FJ (op:BinOp) (x y:AV) (vx vy:Value) (ox oy:Operand) (t:TypeId) (av:AV) (hx:Bx X w π H x vx) (hy:Bx X w π H y vy) (h:evalBin op x y=some av):
  ∃v,(do eqGuard op t ox oy vx vy;binOp op t vx vy:Sem Value).run P w= .ok v w/\Bx X w π H av v:=by
 unfold evalBin at h;split at h
 ·rename_i k a _ k' b;have:=Qj hx;subst this;have:=Qj hy;subst this
  have hg: ∀op,(eqGuard op t ox oy (.int k a) (.int k' b)).run P w= .ok () w:=by intro op;cases op<;>simp [eqGuard]
  split at h
  ·split at h
   ·cases h
   ·rename_i hb;simp only [aY,Aa] at h;subst h;exact ⟨_,by rw [Sem.run_bind,hg];simp [binOp,Op.shift,hb],Nt _ _ _⟩
  ·split at h
   ·cases h
   ·rename_i hb;simp only [aY,Aa] at h;subst h;exact ⟨_,by rw [Sem.run_bind,hg];simp [binOp,Op.shift,hb],Nt _ _ _⟩
  ·split at h
   ·rename_i hk;subst hk;obtain ⟨v,h1,h2⟩:=NO (P:=P) (w:=w) (X:=X) (π:=π) (H:=H) op k a b t av h;exact ⟨v,by rw [Sem.run_bind,hg];exact h1,h2⟩
   ·cases h
 ·rename_i a _ b;have:=gw hx;subst this;have:=gw hy;subst this
  have hg: ∀op,(eqGuard op t ox oy (.string a) (.string b)).run P w= .ok () w:=by intro op;cases op<;>simp [eqGuard]
  split at h
  ·simp only [Pu,Aa] at h;subst h;exact ⟨_,by rw [Sem.run_bind,hg];simp [binOp,Op.stringOp],Mm _ _⟩
  ·simp only [Pu,Aa] at h;subst h;exact ⟨_,by rw [Sem.run_bind,hg];simp [binOp,Op.stringOp],Mm _ _⟩
  ·split at h
   ·rename_i hl;simp only [Aa] at h;subst h;exact ⟨_,by rw [Sem.run_bind,hg];simp only [Result.andThen_ok,binOp];exact run_string_add_sum w a b (by omega),mS _ _⟩
   ·cases h
  ·cases h
 ·cases h
theorem jO {t:TypeId} (h:P.underlying t=some .bool) (a b:Bool) (w:World):(Op.equal t (.bool a) (.bool b)).run P w= .ok (a==b) w:=by
 unfold Op.equal;rw [show Op.maxDepth=9999+1 from rfl];unfold Op.equalIn;rw [Sem.run_bind,run_underlying h];rfl
theorem HV (hT:Ec P T) {x:AV} {vx:Value} {b:Bool} {t:TypeId} (hx:Bx X w π H x vx) (h:eH x=some b) (ht:(T.elem t).isSome=true):
  (∃a len cap,vx= .slice a len cap/\(match a with|none=>true|some _=>false)=b)/\(Op.equal t vx (.slice none 0 0)).run P w= .ok b w:=by
 have h1: ∃a len cap,vx= .slice a len cap/\(match a with|none=>true|some _=>false)=b:=by
  unfold eH at h;split at h
  ·simp only [Aa] at h;subst h;have hx:vx= .slice none 0 0:=hx;exact ⟨none,0,0,hx,rfl⟩
  ·simp only [Aa] at h;subst h;obtain ⟨cs,hc,rfl⟩:=hx;simp only [Cells] at hc;rcases hc with ⟨rfl,c,rfl⟩|⟨xs,ad,len,cap,rfl,rfl,_⟩
   ·exact ⟨none,0,c,by simp [Cj,Ty.Ar],rfl⟩
   ·exact ⟨some ad,len,cap,by simp [Cj,Ty.Ar],rfl⟩
  ·cases h
 refine ⟨h1,?_⟩;obtain ⟨a,len,cap,rfl,rfl⟩:=h1;obtain ⟨te,lL⟩:=Xs.1 ht;have hu:=hT.elem t te lL;unfold Op.equal;rw [show Op.maxDepth=9999+1 from rfl];unfold Op.equalIn;rw [Sem.run_bind,run_underlying hu]
 cases a<;>rfl
theorem HU (hT:Ec P T) {x:AV} {vx:Value} {b:Bool} {t:TypeId} (hx:Bx X w π H x vx) (h:eG x=some b) (ht:Abc (T.ty t)=true):
  (∃a,vx= .pointer a/\(match a with|none=>true|some _=>false)=b)/\(Op.equal t vx (.pointer none)).run P w= .ok b w:=by
 have h1: ∃a,vx= .pointer a/\(match a with|none=>true|some _=>false)=b:=by
  unfold eG at h;split at h
  ·simp only [Aa] at h;subst h;have hx:vx= .pointer none:=hx;exact ⟨none,hx,rfl⟩
  ·simp only [Aa] at h;subst h;obtain ⟨r,tid,vs,_,_,rfl⟩:=hx;exact ⟨_,rfl,rfl⟩
  ·simp only [Aa] at h;subst h;obtain ⟨cs,hc,rfl⟩:=hx;simp only [Cells] at hc;rcases hc with ⟨rfl,rfl⟩|⟨xs,g,o,rfl,rfl,_⟩
   ·exact ⟨none,by simp [Cj,Ty.Ar],rfl⟩
   ·exact ⟨some ⟨g,o,none⟩,by simp [Cj,Ty.Ar],rfl⟩
  ·simp only [Aa] at h;subst h;obtain ⟨cs,hc,rfl⟩:=hx;simp only [Cells] at hc;obtain ⟨g,o,rfl,_⟩:=hc;exact ⟨some ⟨g,o,none⟩,by simp [Cj,Ty.Ar],rfl⟩
  ·cases h
 refine ⟨h1,?_⟩;obtain ⟨a,rfl,rfl⟩:=h1
 have hu: ∃u,P.underlying t=some (.pointer u):=by
  cases Xv:T.ty t with
  |none=>rw [Xv] at ht;cases ht
  |some τ=>
   have hd:=(hT.ty t τ Xv).desc;rw [Xv] at ht
   cases τ<;>first|exact hd|cases ht
 obtain ⟨u,hu⟩:=hu;unfold Op.equal;rw [show Op.maxDepth=9999+1 from rfl];unfold Op.equalIn;rw [Sem.run_bind,run_underlying hu]
 cases a<;>rfl
theorem zz {T:Tab} (hT:Ec P T) (op:BinOp) (x y:AV) (vx vy:Value) (ox oy:Operand) (t:TypeId) (av:AV) (hx:Bx X w π H x vx) (hy:Bx X w π H y vy) (h:Uo T op t x y=some av):
  ∃v,(do eqGuard op t ox oy vx vy;binOp op t vx vy:Sem Value).run P w= .ok v w/\Bx X w π H av v:=by
 unfold Uo at h;split at h
 ·split at h
  ·rename_i ht
   cases hn:eH x with
   |none=>rw [hn] at h;cases h
   |some b=>
    rw [hn] at h;simp only [Ew,Pu,Aa] at h;subst h;have hy:vy= .slice none 0 0:=hy;subst hy;obtain ⟨⟨a,len,cap,rfl,_⟩,h2⟩:=HV hT hx hn ht;exact ⟨.bool b,by rw [Sem.run_bind];simp [eqGuard,binOp,h2],Mm _ _⟩
  ·cases h
 ·split at h
  ·rename_i ht
   cases hn:eG x with
   |none=>rw [hn] at h;cases h
   |some b=>
    rw [hn] at h;simp only [Ew,Pu,Aa] at h;subst h;have hy:vy= .pointer none:=hy;subst hy;obtain ⟨⟨a,rfl,_⟩,h2⟩:=HU hT hx hn ht;exact ⟨.bool b,by rw [Sem.run_bind];simp [eqGuard,binOp,h2],Mm _ _⟩
  ·cases h
 ·split at h
  ·rename_i ht
   cases hn:eH x with
   |none=>rw [hn] at h;cases h
   |some b=>
    rw [hn] at h;simp only [Ew,Pu,Aa] at h;subst h;have hy:vy= .slice none 0 0:=hy;subst hy;obtain ⟨⟨a,len,cap,rfl,_⟩,h2⟩:=HV hT hx hn ht;exact ⟨.bool (!b),by rw [Sem.run_bind];simp [eqGuard,binOp,h2],Mm _ _⟩
  ·cases h
 ·split at h
  ·rename_i ht
   cases hn:eG x with
   |none=>rw [hn] at h;cases h
   |some b=>
    rw [hn] at h;simp only [Ew,Pu,Aa] at h;subst h;have hy:vy= .pointer none:=hy;subst hy;obtain ⟨⟨a,rfl,_⟩,h2⟩:=HU hT hx hn ht;exact ⟨.bool (!b),by rw [Sem.run_bind];simp [eqGuard,binOp,h2],Mm _ _⟩
  ·cases h
 ·rename_i a _ b;have:=ay hx;subst this;have:=ay hy;subst this;split at h
  ·rename_i ht;simp only [Pu,Aa] at h;subst h;have hu:P.underlying t=some .bool:=(hT.ty t _ ht).desc;exact ⟨_,by rw [Sem.run_bind];simp [eqGuard,binOp,jO hu],Mm _ _⟩
  ·cases h
 ·rename_i a _ b;have:=ay hx;subst this;have:=ay hy;subst this;split at h
  ·rename_i ht;simp only [Pu,Aa] at h;subst h;have hu:P.underlying t=some .bool:=(hT.ty t _ ht).desc;exact ⟨_,by rw [Sem.run_bind];simp [eqGuard,binOp,jO hu],Mm _ _⟩
  ·cases h
 ·exact FJ op x y vx vy ox oy t av hx hy h
theorem MS (op:UnOp) (x:AV) (vx:Value) (av:AV) (hx:Bx X w π H x vx) (h:zD op x=some av):
  ∃v,(Op.unary op vx).run P w= .ok v w/\Bx X w π H av v:=by
 unfold zD at h;split at h
 ·have:=ay hx;subst this;simp only [Pu,Aa] at h;subst h;exact ⟨_,by simp [Op.unary],Mm _ _⟩
 ·have:=Qj hx;subst this;simp only [aY,Aa] at h;subst h;exact ⟨_,by simp [Op.unary,Op.intArith],Nt _ _ _⟩
 ·cases h
theorem Iy {t:TypeId} {τ:Ty} (ht:pk P T t τ) (g o:Nat) (es:List Value) (hl:es.length=τ.size) (hc: ∀j u,es[j]?=some u->w.cell? ⟨g,o+j,none⟩=some u):
  (loadVar t ⟨g,o,none⟩).run P w= .ok (Cj τ es) w:=by
 unfold loadVar;rw [Sem.run_bind,ht.agg,Result.andThen_ok]
 cases hs:τ.Ar with
 |true=>
  simp only [Oz,Sem.run_bind,ht.size,Result.andThen_ok];rw [<-hl,run_loadCells_list w ⟨g,o,none⟩ es (λj v hv=>by rw [Addr.add_lit];exact hc j v hv)];simp [Cj,hs]
 |false=>
  have h1:τ.size=1:=by cases τ<;>simp_all [Ty.Ar,Ty.size]
  rw [h1] at hl;obtain ⟨u,rfl⟩:=Ek.1 hl;have:=hc 0 u rfl;simp only [El] at this;simp [this,Cj,hs]
theorem uX {fr:Bool} {τ:Ty} {x:τ.den} {v:Value} (h:Bx X w π H (.at (.data fr τ x)) v):Bx X w π H (.at (.data (fr||τ.flat) τ x)) v:=by
 cases hf:τ.flat with
 |true=>exact Dd.flat hf h
 |false=>rw [iK];exact h
theorem x8 {cs ds:List AC} {us vs:List Value} (h1:Gq X w π H cs us) (h2:Gq X w π H ds vs):Gq X w π H (cs++ds) (us++vs):=by
 have e1:=h1.1;refine ⟨by simp [h1.1,h2.1],λi c hc=>?_⟩
 by_cases hi:i<cs.length
 ·rw [Au hi] at hc;obtain ⟨u,hu,h3⟩:=h1.2 i c hc;exact ⟨u,by rw [Au (by omega)];exact hu,h3⟩
 ·rw [As (by omega)] at hc;obtain ⟨u,hu,h3⟩:=h2.2 _ c hc;exact ⟨u,by rw [As (by omega),e1];exact hu,h3⟩
theorem gu {c:AC} {u:Value} (h1:u.oneCell'=true) (h2:Hw X w π H c u):Gq X w π H [c] [u]:=⟨rfl,λi c' hc=>by
 rcases i with _|i
 ·simp at hc;subst hc;exact ⟨u,rfl,h1,h2⟩
 ·simp at hc⟩
theorem QJ {l i:Nat} {e:Ty} {tid:TypeId} {xs:List e.den} {r:Real} (hl:Ay H l=some (.Hl e tid xs)) (hp:π l=some r) (hi:i<xs.length): ∀(τ:Ty) (c:Nat) (F:List Nat) (us:List Value) (x:τ.den),
  Dn w F τ us x->c+τ.size<=e.size->(∀j u,us[j]?=some u->w.cell? ⟨r.g,(r.o+i)*e.size+(c+j),none⟩=some u)->Gq X w π H (gL l i c τ x) us:=by
 intro τ
 induction τ with
 |unit=>intro c F us x h _ _;simp only [Dn] at h;obtain ⟨_,rfl⟩:=h;exact ⟨rfl,λi c hc=>by simp [gL] at hc⟩
 |pair a r iL iH=>
  intro c F us x h hle hc;have zJ:=Dn.cells (S:= λ_=>False) F _ us x h (λ_ _ h=>h);simp only [Dn] at h;obtain ⟨c1,c2,F1,F2,rfl,rfl,h1,h2⟩:=h;have GD:c1.length=a.size:=Cells.len a c1 x.1 (Dn.cells (S:= λ_=>False) F1 a c1 x.1 h1 (λ_ _ h=>h));simp only [Ty.size] at hle;refine x8 (iL c F1 c1 x.1 h1 (by omega) λj u hu=>hc j u (by rw [Au (Ao.1 hu).1];exact hu)) (iH (c+a.size) F2 c2 x.2 h2 (by omega) λj u hu=>?_);have:=hc (a.size+j) u (by rw [As (by omega),GD];simpa using hu);rw [show c+a.size+j=c+(a.size+j) by omega];exact this
 |int k=>intro c F us x h _ _;simp only [Dn] at h;obtain ⟨_,rfl⟩:=h;exact gu rfl (Nt (H:=H) k x true)
 |bool=>intro c F us x h _ _;simp only [Dn] at h;obtain ⟨_,rfl⟩:=h;exact gu rfl (Mm (H:=H) x true)
 |str=>intro c F us x h _ _;simp only [Dn] at h;obtain ⟨_,rfl⟩:=h;exact gu rfl (mS (H:=H) x true)
 |slice e'=>
  intro c F us x h hle hc;simp only [Dn] at h;obtain ⟨a,len,cap,rfl,_⟩:=h;exact gu rfl ⟨r,_,e.size,xs.length,hl,rfl,hp,hi,⟨by simp only [Ty.size] at hle;omega,_,_,_,rfl⟩,by simpa using hc 0 _ rfl⟩
 |_=>intro c F us x h;simp only [Dn] at h
theorem nR (hT:Ec P T) {st:St} {a:Act} (h:Bs X π st a w) (t:TypeId) (p:AV) (vp:Value) (av:AV) (hp:Bx X w π st.heap p vp) (he:Qr T st t p=some av):
  ∃v,(Instr.loadAt t vp).run P w= .ok v w/\Bx X w π st.heap av v:=by
 unfold Qr at he;split at he
 ·rename_i τ fr Ow x ht;split at he
  ·rename_i Up;subst Up;simp only [Aa] at he;subst he;have Xv:=hT.ty _ _ ht;obtain ⟨cs,hc,rfl⟩:=hp;simp only [Cells] at hc;obtain ⟨g,o,rfl,hg,hn,es,hl,aj,ca⟩:=hc;refine ⟨Cj Ow es,?_,uX (show Bx X w π st.heap (.at (.data fr Ow _)) (Cj Ow es) from ⟨es,ca,rfl⟩)⟩;have hr:=Iy (P:=P) (w:=w) Xv g o es hl aj;show (do loadVar t (<-Instr.sureAddr (.pointer (some ⟨g,o,none⟩))):Sem Value).run P w=_;simpa [Instr.sureAddr] using hr
  ·cases he
 ·rename_i τ fr Ow x ht;split at he
  ·rename_i Up;subst Up;simp only [Aa] at he;subst he;have Xv:=hT.ty _ _ ht;obtain ⟨cs,hc,rfl⟩:=hp;simp only [Cells] at hc;rcases hc with ⟨h0,_⟩|⟨y,g,o,h0,rfl,hg,hn,es,hl,aj,ca⟩
   ·cases h0
   simp only [Aa] at h0;subst h0;refine ⟨Cj Ow es,?_,uX (show Bx X w π st.heap (.at (.data fr Ow _)) (Cj Ow es) from ⟨es,ca,rfl⟩)⟩;have hr:=Iy (P:=P) (w:=w) Xv g o es hl aj;show (do loadVar t (<-Instr.sureAddr (.pointer (some ⟨g,o,none⟩))):Sem Value).run P w=_;simpa [Instr.sureAddr] using hr
  ·cases he
 ·rename_i τ l i ht;have Xv:=hT.ty _ _ ht;split at he
  ·rename_i tid vs hl;obtain ⟨r,Vt,vs',h1,h2,rfl⟩:=hp;unfold St.at at hl;rw [hl] at h1;cases h1;obtain ⟨r',h3,h4,cur,h5,h6⟩:=(h.1.heap l).Se hl;rw [h2] at h3;cases h3;split at he
   ·rename_i hs;split at he
    ·rename_i hlen;simp only [Aa] at he;subst he;have Ra:cur.toList.length=vs.length:=h6.1
     refine ⟨_,by
      simp only [Instr.loadAt,Instr.sureAddr]
      simpa using Iy (P:=P) (w:=w) Xv r.g i ((cur.toList.drop i).take τ.size) (by simp at Ra⊢;omega) (λj u hu=>by
       rw [cellOf h5];rw [Di] at hu;split at hu
       ·rw [Cp] at hu;simpa using hu
       ·cases hu),?_⟩
     exact ⟨_,by simp [Cj,hs],aw h6 i τ.size⟩
    ·cases he
   ·rename_i hs;simp only [Gb] at hs
    have h1:τ.size=1:=by cases τ<;>simp_all [Ty.Ar,Ty.size]
    cases hi:vs[i]? with
    |none=>rw [hi] at he;cases he
    |some c=>
     rw [hi] at he;simp only [An,Aa] at he;subst he;obtain ⟨u,hu,_,hc⟩:=h6.2 i c hi;refine ⟨u,?_,hc⟩;simp only [Instr.loadAt,Instr.sureAddr]
     have:=Iy (P:=P) (w:=w) Xv r.g i [u] (by simp [h1]) (λj u' iG=>by
       rcases j with _|j
       ·simp at iG;subst iG;rw [El,cellOf h5];simpa using hu
       ·simp at iG)
     simpa [Cj,hs] using this
  ·cases he
 ·rename_i τ l i ht;have Xv:=hT.ty _ _ ht;split at he
  ·rename_i fr tr e tid xs hl;split at he
   ·rename_i heq;subst heq;obtain ⟨r,b,sz,n,h1,h0,h2,h3,rfl⟩:=hp;unfold St.at at hl;rw [hl] at h1;cases h1;simp only [OB.row,Aa,Ag] at h0;obtain ⟨rfl,rfl⟩:=h0;have hb:=(h.1.heap l).Se hl;simp only [Cq,Km,h3] at hb;obtain ⟨h4,cur,_,h5,h6,h7,h8,h9,_⟩:=hb;have hx:xs[i]?=some xs[i]:=Ad h2;rw [hx] at he;simp only [An,Aa] at he;subst he;obtain ⟨es,fy,hj,zJ⟩:=h9 i _ hx;refine ⟨Cj e es,?_,uX (show Bx X w π st.heap (.at (.data fr e _)) (Cj e es) from ⟨es,zJ,rfl⟩)⟩;simp only [Instr.loadAt,Instr.sureAddr];simpa using Iy (P:=P) (w:=w) Xv r.g ((r.o+i)*e.size) es fy (λj u hu=>by rw [cellOf h5];exact hj j u hu)
   ·cases he
  ·rename_i e tid xs hl;split at he
   ·rename_i heq;subst heq;obtain ⟨r,b,sz,n,h1,h0,h2,h3,rfl⟩:=hp;unfold St.at at hl;rw [hl] at h1;cases h1;simp only [OB.row,Aa,Ag] at h0;obtain ⟨rfl,rfl⟩:=h0;have hb:=(h.1.heap l).Se hl;simp only [Cq,On,h3] at hb;obtain ⟨h4,cur,_,h5,h6,h7,h8,Fs,k1,k2,k3,k4⟩:=hb;have hx:xs[i]?=some xs[i]:=Ad h2;rw [hx] at he;simp only [An,Aa] at he;subst he;obtain ⟨es,fy,hj,zJ⟩:=k4 i _ _ hx (Ad (by omega));have hrs:=QJ (X:=X) (H:=st.heap) hl h3 h2 e 0 _ es _ zJ (by omega) (λj u hu=>by rw [cellOf h5,Bl];exact hj j u hu);refine ⟨Cj e es,?_,?_⟩
    ·simp only [Instr.loadAt,Instr.sureAddr];simpa using Iy (P:=P) (w:=w) Xv r.g ((r.o+i)*e.size) es fy (λj u hu=>by rw [cellOf h5];exact hj j u hu)
    ·cases Sd:e.Ar with
     |true=>rw [Ac rfl];exact ⟨es,by simp [Cj,Sd],hrs⟩
     |false=>
      rw [Ai (by simp)]
      have h1:e.size=1:=by cases e<;>simp_all [Ty.Ar,Ty.size]
      rw [h1] at fy;obtain ⟨u,rfl⟩:=Ek.1 fy;have GD:=hrs.1;generalize gL l i 0 e xs[i]=sc at*;simp only [Aw,Ex] at GD;obtain ⟨c,rfl⟩:=Ek.1 GD.symm;obtain ⟨u',iG,_,FY⟩:=hrs.2 0 c rfl;simp at iG;subst iG
      have e1:Cj e [u]=u:=by simp [Cj,Sd]
      rw [e1];exact FY
   ·cases he
  ·rename_i e te rows kp hl;split at he
   ·cases he
   ·rename_i Sd;simp only [Gb] at Sd;simp only [Aa] at he;subst he;obtain ⟨r,b,sz,n,h1,h0,h2,h3,rfl⟩:=hp;unfold St.at at hl;rw [hl] at h1;cases h1;simp only [OB.row,Aa,Ag] at h0;obtain ⟨rfl,rfl⟩:=h0;obtain ⟨u,R,k1,k2,k3⟩:=o4 h.1 hl h3 h2 (by simp)
    have Uj:τ.size=1:=by cases τ<;>simp_all [Ty.Ar,Ty.size]
    refine ⟨u,?_,r,_,1,rows.length,hl,rfl,h3,h2,⟨by omega,bp k2⟩,by rw [Gm,El];exact k1⟩;simp only [Instr.loadAt,Instr.sureAddr]
    have:=Iy (P:=P) (w:=w) Xv r.g ((r.o+i)*1) [u] (by simp [Uj]) (λj u' iG=>by
     rcases j with _|j
     ·simp at iG;subst iG;rw [Gm,El];exact k1
     ·simp at iG)
    simpa [Cj,Sd] using this
  ·cases he
 ·rename_i τ l i j ht;have Xv:=hT.ty _ _ ht;split at he
  ·rename_i e te rows kp hl;split at he
   ·rename_i heq;subst heq;simp only [Aa] at he;subst he;obtain ⟨r,b,n,sz,g,o,len,cap,h1,h0,h2,h3,h4,h5,rfl⟩:=hp;unfold St.at at hl;rw [hl] at h1;cases h1;simp only [OB.wE,Aa,Ag] at h0;obtain ⟨rfl,rfl⟩:=h0;obtain ⟨u,R,k1,k2,k3⟩:=o4 h.1 hl h2 h3 (by simp);rw [h5] at k1;have hu:=Bi k1;subst hu
    cases R with
    |none=>obtain ⟨hh,_⟩:=k2;cases hh
    |some q=>
     obtain ⟨ad,hh,g1,g2⟩:=k2;simp only [Value.slice.injEq,Aa] at hh;obtain ⟨rfl,rfl,rfl⟩:=hh;have had:=g2 (by omega);simp only [Addr.mk.injEq,bz] at had;obtain ⟨rfl,rfl⟩:=had;obtain ⟨f1,cur,ti,f2,f3,f4,f5,f6⟩:=k3
     have hj:(rows.getD i [])[j]?=some ((rows.getD i []).getD j e.zero):=by rw [Al (l:=rows.getD i []),Ad h4];rfl
     obtain ⟨es,fy,c1,c2⟩:=f6 j _ hj;refine ⟨Cj e es,?_,uX (fr:=false) (show Bx X w π st.heap (.at (.data false e _)) (Cj e es) from ⟨es,c2,rfl⟩)⟩;simp only [Instr.loadAt,Instr.sureAddr];simpa using Iy (P:=P) (w:=w) Xv q.g ((q.o+0)*e.size+j*e.size) es fy (λm u hu=>by rw [cellOf f2,El,<-Dr];exact c1 m u hu)
   ·cases he
  ·cases he
 ·cases he
theorem Ab7 {α:Type} {xs:List α} {n:Int} {x:α} (h:idx xs n=some x):0<=n/\n<xs.length/\xs[n.toNat]?=some x:=by
 unfold idx at h;split at h
 ·rename_i h0;have:=(Ao.1 h).1;exact ⟨h0,by omega,h⟩
 ·cases h
theorem sx (hT:Ec P T) {t:TypeId} {e:Ty} (h:(T.elem t).bind T.ty=some e): ∃te,T.elem t=some te/\T.ty te=some e/\P.underlying t=some (.slice te)/\P.elem t=te:=by
 cases ht:T.elem t with
 |none=>rw [ht] at h;cases h
 |some te=>
  rw [ht] at h;have hu:=hT.elem t te ht;exact ⟨te,rfl,h,hu,by simp [Program.elem,hu]⟩
theorem nQ (hT:Ec P T) {st:St} {a:Act} (h:Bs X π st a w) (t:TypeId) (x i:AV) (vx vi:Value) (av:AV) (hx:Bx X w π st.heap x vx) (hi:Bx X w π st.heap i vi)
  (he:Lh T st t x i=some av): ∃v,(Instr.indexAt t vx vi).run P w= .ok v w/\Bx X w π st.heap av v:=by
 unfold Lh at he;split at he
 ·rename_i fr e xs _ k n;have:=Qj hi;subst this;split at he
  ·rename_i lI;obtain ⟨te,h1,h2,h3,h4⟩:=sx hT lI
   cases LD:idx xs n with
   |none=>rw [LD] at he;cases he
   |some y=>
    rw [LD] at he;simp only [An,Aa] at he;subst he;obtain ⟨h5,h6,h7⟩:=Ab7 LD;obtain ⟨cs,hc,rfl⟩:=hx;simp only [Cells] at hc;obtain ⟨ad,len,cap,rfl,hlen,tX,ND⟩:=hc;rcases ND with rfl|⟨g,o,rfl,hg,hn,Ma⟩
    ·simp at h6;omega
    ·obtain ⟨es,fy,aj,ca⟩:=Ma _ _ h7;have Uj:=(hT.ty _ _ h2).size (w:=w);refine ⟨.pointer (some ⟨g,o+n.toNat*e.size,none⟩),?_,[_],⟨g,_,rfl,hg,hn,es,fy,aj,ca⟩,by simp [Cj,Ty.Ar]⟩;simp only [Cj,Ty.Ar,Dt,Uk,iR];rw [run_indexAt_slice (P:=P) w t _ _ _ k n (by rw [h3,h4]),Ac ⟨h5,by omega⟩,h4,Uj,Result.andThen_ok,Addr.add_lit]
  ·cases he
 ·rename_i l off len _ k n;have:=Qj hi;subst this;split at he
  ·rename_i fr tr e tid xs hl;split at he
   ·rename_i Kg;obtain ⟨h1,h2,h56⟩:=Kg;obtain ⟨h5,h6⟩:=Uz.1 h56;simp only [Aa] at he;subst he;have h3:=hT.elem t tid h1
    have h4:P.elem t=tid:=by simp [Program.elem,h3]
    unfold St.at at hl;have Mr:=hl;obtain ⟨h8,h9⟩:=Pe (X:=X) (w:=w) hx hl
    cases hp:π l with
    |none=>rw [hp] at h9;obtain ⟨_,_,h9⟩:=h9;omega
    |some r=>
     rw [hp] at h9;obtain ⟨ad,rfl,qT,lE⟩:=h9;have h12:=lE (by omega);subst h12;have Uj:=(hT.ty _ _ h2).size (w:=w);refine ⟨.pointer (some ⟨r.g,(r.o+off)*e.size+n.toNat*e.size,none⟩),?_,r,_,e.size,xs.length,Mr,rfl,by omega,hp,?_⟩
     ·rw [run_indexAt_slice (P:=P) w t _ _ _ k n (by rw [h3,h4]),Ac ⟨h5,by omega⟩,h4,Uj,Result.andThen_ok,Addr.add_lit]
     ·rw [<-He r.o off n.toNat,Dr (r.o+off)]
   ·cases he
  ·rename_i e tid xs hl;split at he
   ·rename_i Kg;obtain ⟨h1,h2,h56⟩:=Kg;obtain ⟨h5,h6⟩:=Uz.1 h56;simp only [Aa] at he;subst he;have h3:=hT.elem t tid h1
    have h4:P.elem t=tid:=by simp [Program.elem,h3]
    unfold St.at at hl;have Mr:=hl;obtain ⟨h8,h9⟩:=cB (X:=X) (w:=w) hx hl
    cases hp:π l with
    |none=>rw [hp] at h9;obtain ⟨_,_,h9⟩:=h9;omega
    |some r=>
     rw [hp] at h9;obtain ⟨ad,rfl,qT,lE⟩:=h9;have h12:=lE (by omega);subst h12;have Uj:=(hT.ty _ _ h2).size (w:=w);refine ⟨.pointer (some ⟨r.g,(r.o+off)*e.size+n.toNat*e.size,none⟩),?_,r,_,e.size,xs.length,Mr,rfl,by omega,hp,?_⟩
     ·rw [run_indexAt_slice (P:=P) w t _ _ _ k n (by rw [h3,h4]),Ac ⟨h5,by omega⟩,h4,Uj,Result.andThen_ok,Addr.add_lit]
     ·rw [<-He r.o off n.toNat,Dr (r.o+off)]
   ·cases he
  ·rename_i e te rows out kp hl;split at he
   ·rename_i Kg;obtain ⟨h1,h2,h56⟩:=Kg;obtain ⟨h5,h6⟩:=Uz.1 h56;simp only [Aa] at he;subst he;have h3:=hT.elem t te h1
    have h4:P.elem t=te:=by simp [Program.elem,h3]
    unfold St.at at hl;have Mr:=hl;obtain ⟨h8,h9⟩:=oL (X:=X) (w:=w) hx hl
    cases hp:π l with
    |none=>rw [hp] at h9;obtain ⟨_,_,h9⟩:=h9;omega
    |some r=>
     rw [hp] at h9;obtain ⟨ad,rfl,qT,lE⟩:=h9;have h12:=lE (by omega);subst h12
     cases lL:T.ty te with
     |none=>rw [lL] at h2;cases h2
     |some τ=>
      rw [lL] at h2;have h2:τ.size=1:=Bi h2;have Uj:=(hT.ty _ _ lL).size (w:=w);refine ⟨.pointer (some ⟨r.g,(r.o+off)*1+n.toNat*τ.size,none⟩),?_,r,_,1,rows.length,Mr,rfl,by omega,hp,?_⟩
      ·rw [run_indexAt_slice (P:=P) w t _ _ _ k n (by rw [h3,h4]),Ac ⟨h5,by omega⟩,h4,Uj,Result.andThen_ok,Addr.add_lit]
      ·rw [h2,<-He r.o off n.toNat,Dr (r.o+off)]
   ·cases he
  ·cases he
 ·rename_i l i c _ k n;have:=Qj hi;subst this;split at he
  ·rename_i e te rows kp hl;split at he
   ·rename_i Kg;obtain ⟨h2,h56⟩:=Kg;obtain ⟨h5,h6⟩:=Uz.1 h56;simp only [Aa] at he;subst he
    cases lL:T.elem t with
    |none=>rw [lL] at h2;cases h2
    |some Rx=>
     rw [lL] at h2
     cases Xv:T.ty Rx with
     |none=>rw [Ew,Xv] at h2;cases h2
     |some τ=>
      rw [Ew,Xv] at h2;have h2:τ.size=e.size:=Bi h2;have h3:=hT.elem t Rx lL
      have h4:P.elem t=Rx:=by simp [Program.elem,h3]
      unfold St.at at hl;obtain ⟨r,b,sz,m,g1,g0,g2,g3,⟨g4,_⟩,g5⟩:=hx;rw [hl] at g1;cases g1;simp only [OB.ic,Aa,Ag] at g0;obtain ⟨rfl,rfl⟩:=g0
      have mF:c=0:=by omega
      subst mF;rw [Gm,El] at g5;obtain ⟨u,R,k1,k2,k3⟩:=o4 h.1 hl g2 g3 (by simp);rw [g5] at k1;have hu:=Bi k1;subst hu
      cases R with
      |none=>obtain ⟨_,_,hh⟩:=k2;omega
      |some q=>
       obtain ⟨ad,rfl,f1,f2⟩:=k2;have had:=f2 (by omega);subst had;have Uj:=(hT.ty _ _ Xv).size (w:=w);refine ⟨.pointer (some ⟨q.g,(q.o+0)*e.size+n.toNat*τ.size,none⟩),?_,r,_,rows.length,e.size,q.g,(q.o+0)*e.size,_,_,hl,rfl,g2,g3,by omega,g5,by rw [h2]⟩;rw [run_indexAt_slice (P:=P) w t _ _ _ k n (by rw [h3,h4]),Ac ⟨h5,by omega⟩,h4,Uj,Result.andThen_ok,Addr.add_lit]
   ·cases he
  ·cases he
 ·cases he
end
end Go.Proofs.Ytfgfigkbgecfnaa
