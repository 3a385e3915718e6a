/-
  Part 7 of the proof that the statement FnTwoPhase holds.
-/
import Derived.Test.YtkkdpknjohcekaaCFTwoPhase05
namespace Go.Proofs.Ytkkdpknjohcekaa
open Go.RowKit
section
variable {P:Program} {T:Tab} {X:Ctx} {w w':World} {π:Pi} {H:List (Nat×OB)}
def PW (P:Program) (X:Ctx) (π:Pi) (H:List (Nat×OB)) (w:World) (av:AV):Result Next->Prop
 | .ok (.value v) w'=>w'=w/\Bt X w π H av v
 | .ok (.enter f args) w'=>w'=w/\Calls P f args w (λe rh=> ∃v,e= .returned v/\Below w.heap.size w rh/\Bt X rh π H av v)
 |_=>False
def lV (s:Spec) (w:World) (S:Nat->Prop) (v:Value) (y:s.res.den):Prop:=
 if s.Ij then ∃us:List Value,v= .tuple us.toArray/\Cz w S s.res us y else Dc w S s.res v y
structure Sound (P:Program) (f:FuncId) (s:Spec):Prop where
 enter: ∀args w,(callFunc f args).run P w= .ok (.enter f args) w
 calls: ∀(w:World) (S:Nat->Prop) (vs:List Value) (x:s.arg.den) (y:s.res.den),(∀k,S k->k<w.heap.size)->Cz w S s.arg vs x->s.fn x=some y->
  Calls P f vs.toArray w λe w'=> ∃v,e= .returned v/\Below w.heap.size w w'/\lV s w' (λb=>S b\/(s.fresh=true/\b<w.heap.size)) v y
def gz (w:World) (D:Nat->Prop) (r:Option Real):(c:CK)->c.den->Prop
 | .Gw _,_=>r=none
 | .row e _,xs=>Ti w D r e xs
 | .Ie e te,xs=>Om w r e te xs
 | .part e _,x=>e.flat=true/\Ti w D r e x.1
 | .Bu e _ _,rows=>aD w D r e rows none
def eZ (w:World) (D:Nat->Prop) (r:Option Real) (v:Value):(c:CK)->c.den->Prop
 | .Gw τ,x=>r=none/\Dc w D τ v x
 | .row e te,xs=>Ig r e.size 0 (List.length xs) v/\gz w D r (.row e te) xs
 | .Ie e te,xs=>Ig r e.size 0 (List.length xs) v/\gz w D r (.Ie e te) xs
 | .part e te,x=>(Ig r e.size x.2.1 x.2.2 v/\x.2.1+x.2.2<=List.length x.1)/\gz w D r (.part e te) x
 | .Bu e te kp,rows=>Ig r 1 0 (List.length rows) v/\gz w D r (.Bu e te kp) rows
def fa (w:World) (D:Nat->Prop) (π:Pi):(k:Nat)->(cs:List (Bool×CK))->Ins.den cs->List Value->Prop
 |_,[],_,[]=>True
 |k,p::r,x,u::us=>eZ w D (π (Em p.1 k)) u p.2 x.1/\fa w D π (k+1) r x.2 us
 |_,_,_,_=>False
def Mo (w:World) (D:Nat->Prop) (π:Pi):(k:Nat)->(cs:List (Bool×CK))->IOs.den cs->Prop
 |_,[],_=>True
 |k,(true, .Gw _)::r,x=>Mo w D π (k+1) r x
 |k,(true, .Bu _ _ _)::r,x=>Mo w D π (k+1) r x
 |k,(true, .row e te)::r,x=>gz w D (π (Em true k)) (.row e te) x.1/\Mo w D π (k+1) r x.2
 |k,(true, .Ie e te)::r,x=>gz w D (π (Em true k)) (.Ie e te) x.1/\Mo w D π (k+1) r x.2
 |k,(true, .part e te)::r,x=>gz w D (π (Em true k)) (.row e te) x.1/\Mo w D π (k+1) r x.2
 |k,(false,_)::r,x=>Mo w D π (k+1) r x
def Jr (w:World) (D:Nat->Prop) (ρ:Pi):(k:Nat)->(cs:List CK)->CKs.den cs->List Value->Prop
 |_,[],_,[]=>True
 |k,c::r,x,u::us=>eZ w D (ρ (Kq k)) u c x.1/\Jr w D ρ (k+1) r x.2 us
 |_,_,_,_=>False
structure iw (π:Pi) (A:Nat->Prop):Prop where
 Re: ∀l r b,π l=some r->r.Da b->A b
 inj: ∀l l' r r' b,π l=some r->π l'=some r'->r.Da b->r'.Da b->l=l'
def dc:List (Option Nat)->List Value->Prop
 | [],[]=>True
 |none::s,_::us=>dc s us
 |some n::s,us=>n<=us.length/\(∀u∈us.take n,u.oneCell'=true)/\dc s (us.drop n)
 |_,_=>False
def Abs (Ij:Bool) (sh:List (Option Nat)) (us:List Value) (v:Value):Prop:=if Ij then v= .tuple (Lk sh us).toArray else Lk sh us= [v]\/Lk sh us= []
def kL (S:Nat->Prop) (π ρ:Pi) (b:Nat):Prop:=S b\/(∃l q,Bq<=l/\π l=some q/\q.Da b)\/Wf ρ b
def oQ (s:MSpec) (w:World) (g:Nat) (us vs:List Value):Prop:=
 match s.ptr with
 |none=>vs=Lk s.Jy us/\dc s.Jy us
 |some p=>vs= .pointer (some ⟨g,0,none⟩)::Lk s.Jy (us.drop p.2)/\dc s.Jy (us.drop p.2)/\p.2<=us.length/\w.heap[g]?=some (.cells (us.take p.2).toArray p.1 (0,0))/\ ∀u∈us.take p.2,u.oneCell'=true
def MSpec.gv (s:MSpec) (g b:Nat):Prop:=s.ptr.isSome=true/\b=g
def Fh (π:Pi):(k:Nat)->(cs:List (Bool×CK))->IOs.den cs->(n:Nat)->List Value->List Value->Prop
 |_,_,_,0,us,_=>us= []
 |k,(true, .row e _)::r,o,n+1,u::us,as=>Ig (π (Em true k)) e.size 0 (List.length o.1) u/\Fh π (k+1) r o.2 n us as
 |k,(true, .Ie e _)::r,o,n+1,u::us,as=>Ig (π (Em true k)) e.size 0 (List.length o.1) u/\Fh π (k+1) r o.2 n us as
 |k,(false,_)::r,o,n+1,u::us,a::as=>u=a/\Fh π (k+1) r o n us as
 |_,_,_,_,_,_=>False
def lT (s:MSpec) (π:Pi) (w':World) (g:Nat) (Xm:List Value) (o:IOs.den s.ins):Prop:=
 match s.ptr with
 |none=>True
 |some p=> ∃cs,w'.heap[g]?=some (.cells cs.toArray p.1 (0,0))/\(∀u∈cs,u.oneCell'=true)/\Fh π 0 s.ins o p.2 cs Xm
def DD (w w':World) (r r':Option Real) (n:Nat):Prop:=match r,r' with
 |none,none=>True
 |some q,some q'=>q'.g=q.g/\q'.o=q.o/\q'.cap=q.cap/\ ∀j,j<n->j<q.cap->w'.cell? ⟨q.g,q.o+j,none⟩=w.cell? ⟨q.g,q.o+j,none⟩
 |_,_=>False
def sw (s:MSpec) (w':World) (ρ:Pi) (us:List Value) (v:Value):Prop:=match s.rp with
 |none=>Abs s.Ij s.Iu us v/\dc s.Iu us
 |some tid=> ∃q,ρ (Kq s.outs.length)=some q/\q.Da q.g/\w'.heap[q.g]?=some (.cells us.toArray tid (0,0))/\(∀u∈us,u.oneCell'=true)/\v= .pointer (some ⟨q.g,0,none⟩)
def MSpec.Vd (s:MSpec):Nat:=s.outs.length+(match s.rp with|none=>0|some _=>1)
structure Dx (P:Program) (f:FuncId) (s:MSpec):Prop where
 enter: ∀args w,(callFunc f args).run P w= .ok (.enter f args) w
 calls: ∀(w:World) (S:Nat->Prop) (π:Pi) (us:List Value) (x:Ins.den s.ins) (r:CKs.den s.outs) (o:IOs.den s.ins) (g:Nat) (vs:List Value),
  oQ s w g us vs->(s.ptr.isSome=true->S g)->fa w (λb=>Wf π b\/S b) π 0 s.ins x us->iw π (λb=>b<w.heap.size)->(∀b,S b->b<w.heap.size/\ ¬Wf π b)->(∀l,Ay (Zz 0 s.ins x) l=none->π l=none)->s.fn x=some (r,o)->
  Calls P f vs.toArray w λe w'=> ∃v Xm ρ,e= .returned v/\sw s w' ρ (Xm.drop s.aK) v/\lT s π w' g Xm o/\Lh w.heap.size (λb=>Wf π b\/s.gv g b) w w'/\Mo w' (kL S π ρ) π 0 s.ins o/\Jr w' (kL S π ρ) ρ 0 s.outs r Xm/\
   iw ρ (λb=>b<w'.heap.size/\(w.heap.size<=b\/ ∃l q,l<Bq/\π l=some q/\q.Da b))/\(∀l,(∀k,k<s.Vd->l≠Kq k)->ρ l=none)/\(∀kj∈s.keeps,DD w w' (π (Em false kj.1)) (ρ (Kq kj.2)) (s.Fz x))
def Ai6 (P:Program) (f:FuncId):mY->Prop
 | .q s=>Sound P f s
 | .m s=>Dx P f s
 | .b s m=>Sound P f s/\Dx P f m
def Li (P:Program) (Γ:Env):Prop:= ∀f s,Γ f=some s->Ai6 P f s
theorem Li.reg {P:Program} {Γ:Env} (h:Li P Γ) (draw:Bool):Li P (AN Γ draw):= λf s hs=>by
 unfold AN at hs
 split at hs
 ·rename_i s0 m Pl
  have:=h f _ Pl
  cases draw with
  |true=>simp only [Oz,Aa] at hs;subst hs;exact this.1
  |false=>simp only [Di,Rt,Aa] at hs;subst hs;exact this.2
 ·exact h f s hs
theorem Qd {k:IntKind} {n:Int} {fr:Bool} {v:Value} (h:Bt X w π H (.at (.data fr (.int k) n)) v):v= .int k n:=by
 obtain ⟨cs,h1,rfl⟩:=h;simp only [Cells] at h1;subst h1;rfl
theorem ag {b:Bool} {fr:Bool} {v:Value} (h:Bt X w π H (.at (.data fr .bool b)) v):v= .bool b:=by
 obtain ⟨cs,h1,rfl⟩:=h;simp only [Cells] at h1;subst h1;rfl
theorem fR {s:ByteArray} {fr:Bool} {v:Value} (h:Bt X w π H (.at (.data fr .str s)) v):v= .string s:=by
 obtain ⟨cs,h1,rfl⟩:=h;simp only [Cells] at h1;subst h1;rfl
theorem No (k:IntKind) (n:Int) (fr:Bool):Bt X w π H (.at (.data fr (.int k) n)) (.int k n):=⟨[.int k n],rfl,rfl⟩
theorem Mi (b:Bool) (fr:Bool):Bt X w π H (.at (.data fr .bool b)) (.bool b):=⟨[.bool b],rfl,rfl⟩
theorem mB (s:ByteArray) (fr:Bool):Bt X w π H (.at (.data fr .str s)) (.string s):=⟨[.string s],rfl,rfl⟩
theorem Ak3 (f:FuncId):Bt X w π H (.at (.clo f [])) (.func (.func f) #[] #[]):=⟨[],rfl,rfl,λi p hi=>by simp at hi⟩
theorem TD (v:Value):Bt X w π H (nt v) v:=by
 unfold nt
 split
 ·exact No _ _ _
 ·exact Mi _ _
 ·exact mB _ _
 ·rfl
 ·rfl
 ·trivial
theorem Eg {st:St} {a:Act} (h:sv X w π st a) (x:Operand):Bt X w π st.heap (st.ev x) (a.eval x):=by
 cases x with
 |tmp t=>exact h.tmps t
 |const v=>exact TD v
 |global g=>trivial
 |func f=>exact Ak3 f
theorem ME (op:BinOp) (k:IntKind) (a b:Int) (t:TypeId) (av:AV) (h:tF op k a b=some av):
  ∃v,(binOp op t (.int k a) (.int k b)).run P w= .ok v w/\Bt X w π H av v:=by
 cases op<;>simp only [tF,aO,Pr] at h
 case add=>cases h;exact ⟨_,by simp [binOp,Op.intArith],No _ _ _⟩
 case sub=>cases h;exact ⟨_,by simp [binOp,Op.intArith],No _ _ _⟩
 case mul=>cases h;exact ⟨_,by simp [binOp,Op.intArith],No _ _ _⟩
 case quo=>split at h<;>cases h;rename_i hb;exact ⟨_,by simp [binOp,Op.intDiv,hb],No _ _ _⟩
 case rem=>split at h<;>cases h;rename_i hb;exact ⟨_,by simp [binOp,Op.intDiv,hb],No _ _ _⟩
 case and=>cases h;exact ⟨_,by simp [binOp,Op.intBits],No _ _ _⟩
 case or=>cases h;exact ⟨_,by simp [binOp,Op.intBits],No _ _ _⟩
 case eql=>cases h;exact ⟨_,by simp [binOp,Op.intCmp],Mi _ _⟩
 case neq=>cases h;exact ⟨_,by simp [binOp,Op.intCmp],Mi _ _⟩
 case lss=>cases h;exact ⟨_,by simp [binOp,Op.intCmp],Mi _ _⟩
 case leq=>cases h;exact ⟨_,by simp [binOp,Op.intCmp],Mi _ _⟩
 case gtr=>cases h;exact ⟨_,by simp [binOp,Op.intCmp],Mi _ _⟩
 case geq=>cases h;exact ⟨_,by simp [binOp,Op.intCmp],Mi _ _⟩
 all_goals cases h
theorem EK (op:BinOp) (x y:AV) (vx vy:Value) (ox oy:Operand) (t:TypeId) (av:AV) (hx:Bt X w π H x vx) (hy:Bt X w π H y vy) (h:evalBin op x y=some av):
  ∃v,(do eqGuard op t ox oy vx vy;binOp op t vx vy:Sem Value).run P w= .ok v w/\Bt X w π H av v:=by
 unfold evalBin at h
 split at h
 ·rename_i k a _ k' b
  have:=Qd hx;subst this
  have:=Qd hy;subst this
  have hg: ∀op,(eqGuard op t ox oy (.int k a) (.int k' b)).run P w= .ok () w:=by intro op;cases op<;>simp [eqGuard]
  split at h
  ·split at h
   ·cases h
   ·rename_i hb
    simp only [aO,Aa] at h;subst h
    exact ⟨_,by rw [Sem.run_bind,hg];simp [binOp,Op.shift,hb],No _ _ _⟩
  ·split at h
   ·cases h
   ·rename_i hb
    simp only [aO,Aa] at h;subst h
    exact ⟨_,by rw [Sem.run_bind,hg];simp [binOp,Op.shift,hb],No _ _ _⟩
  ·split at h
   ·rename_i hk;subst hk
    obtain ⟨v,h1,h2⟩:=ME (P:=P) (w:=w) (X:=X) (π:=π) (H:=H) op k a b t av h
    exact ⟨v,by rw [Sem.run_bind,hg];exact h1,h2⟩
   ·cases h
 ·rename_i a _ b
  have:=fR hx;subst this
  have:=fR hy;subst this
  have hg: ∀op,(eqGuard op t ox oy (.string a) (.string b)).run P w= .ok () w:=by intro op;cases op<;>simp [eqGuard]
  split at h
  ·simp only [Pr,Aa] at h;subst h
   exact ⟨_,by rw [Sem.run_bind,hg];simp [binOp,Op.stringOp],Mi _ _⟩
  ·simp only [Pr,Aa] at h;subst h
   exact ⟨_,by rw [Sem.run_bind,hg];simp [binOp,Op.stringOp],Mi _ _⟩
  ·split at h
   ·rename_i hl
    simp only [Aa] at h;subst h
    exact ⟨_,by rw [Sem.run_bind,hg];simp only [Result.andThen_ok,binOp];exact run_string_add_sum w a b (by omega),mB _ _⟩
   ·cases h
  ·cases h
 ·cases h
theorem jv {t:TypeId} (h:P.underlying t=some .bool) (a b:Bool) (w:World):(Op.equal t (.bool a) (.bool b)).run P w= .ok (a==b) w:=by
 unfold Op.equal
 rw [show Op.maxDepth=9999+1 from rfl]
 unfold Op.equalIn
 rw [Sem.run_bind,run_underlying h]
 rfl
theorem GV (hT:Eh P T) {x:AV} {vx:Value} {b:Bool} {t:TypeId} (hx:Bt X w π H x vx) (h:ee x=some b) (ht:(T.elem t).isSome=true):
  (∃a len cap,vx= .slice a len cap/\(match a with|none=>true|some _=>false)=b)/\(Op.equal t vx (.slice none 0 0)).run P w= .ok b w:=by
 have h1: ∃a len cap,vx= .slice a len cap/\(match a with|none=>true|some _=>false)=b:=by
  unfold ee at h
  split at h
  ·simp only [Aa] at h;subst h
   have hx:vx= .slice none 0 0:=hx
   exact ⟨none,0,0,hx,rfl⟩
  ·simp only [Aa] at h;subst h
   obtain ⟨cs,hc,rfl⟩:=hx
   simp only [Cells] at hc
   rcases hc with ⟨rfl,c,rfl⟩|⟨xs,ad,len,cap,rfl,rfl,_⟩
   ·exact ⟨none,0,c,by simp [Ci,Ty.Ar],rfl⟩
   ·exact ⟨some ad,len,cap,by simp [Ci,Ty.Ar],rfl⟩
  ·cases h
 refine ⟨h1,?_⟩
 obtain ⟨a,len,cap,rfl,rfl⟩:=h1
 obtain ⟨te,lr⟩:=Xl.1 ht
 have hu:=hT.elem t te lr
 unfold Op.equal
 rw [show Op.maxDepth=9999+1 from rfl]
 unfold Op.equalIn
 rw [Sem.run_bind,run_underlying hu]
 cases a<;>rfl
theorem GU (hT:Eh P T) {x:AV} {vx:Value} {b:Bool} {t:TypeId} (hx:Bt X w π H x vx) (h:ed x=some b) (ht:Aag (T.ty t)=true):
  (∃a,vx= .pointer a/\(match a with|none=>true|some _=>false)=b)/\(Op.equal t vx (.pointer none)).run P w= .ok b w:=by
 have h1: ∃a,vx= .pointer a/\(match a with|none=>true|some _=>false)=b:=by
  unfold ed at h
  split at h
  ·simp only [Aa] at h;subst h
   have hx:vx= .pointer none:=hx
   exact ⟨none,hx,rfl⟩
  ·simp only [Aa] at h;subst h
   obtain ⟨r,tid,vs,_,_,rfl⟩:=hx
   exact ⟨_,rfl,rfl⟩
  ·simp only [Aa] at h;subst h
   obtain ⟨cs,hc,rfl⟩:=hx
   simp only [Cells] at hc
   rcases hc with ⟨rfl,rfl⟩|⟨xs,g,o,rfl,rfl,_⟩
   ·exact ⟨none,by simp [Ci,Ty.Ar],rfl⟩
   ·exact ⟨some ⟨g,o,none⟩,by simp [Ci,Ty.Ar],rfl⟩
  ·simp only [Aa] at h;subst h
   obtain ⟨cs,hc,rfl⟩:=hx
   simp only [Cells] at hc
   obtain ⟨g,o,rfl,_⟩:=hc
   exact ⟨some ⟨g,o,none⟩,by simp [Ci,Ty.Ar],rfl⟩
  ·cases h
 refine ⟨h1,?_⟩
 obtain ⟨a,rfl,rfl⟩:=h1
 have hu: ∃u,P.underlying t=some (.pointer u):=by
  cases Yl:T.ty t with
  |none=>rw [Yl] at ht;cases ht
  |some τ=>
   have hd:=(hT.ty t τ Yl).desc
   rw [Yl] at ht
   cases τ<;>first|exact hd|cases ht
 obtain ⟨u,hu⟩:=hu
 unfold Op.equal
 rw [show Op.maxDepth=9999+1 from rfl]
 unfold Op.equalIn
 rw [Sem.run_bind,run_underlying hu]
 cases a<;>rfl
theorem z7 {T:Tab} (hT:Eh P T) (op:BinOp) (x y:AV) (vx vy:Value) (ox oy:Operand) (t:TypeId) (av:AV) (hx:Bt X w π H x vx) (hy:Bt X w π H y vy) (h:Ud T op t x y=some av):
  ∃v,(do eqGuard op t ox oy vx vy;binOp op t vx vy:Sem Value).run P w= .ok v w/\Bt X w π H av v:=by
 unfold Ud at h
 split at h
 ·split at h
  ·rename_i ht
   cases hn:ee x with
   |none=>rw [hn] at h;cases h
   |some b=>
    rw [hn] at h
    simp only [Fc,Pr,Aa] at h;subst h
    have hy:vy= .slice none 0 0:=hy
    subst hy
    obtain ⟨⟨a,len,cap,rfl,_⟩,h2⟩:=GV hT hx hn ht
    exact ⟨.bool b,by rw [Sem.run_bind];simp [eqGuard,binOp,h2],Mi _ _⟩
  ·cases h
 ·split at h
  ·rename_i ht
   cases hn:ed x with
   |none=>rw [hn] at h;cases h
   |some b=>
    rw [hn] at h
    simp only [Fc,Pr,Aa] at h;subst h
    have hy:vy= .pointer none:=hy
    subst hy
    obtain ⟨⟨a,rfl,_⟩,h2⟩:=GU hT hx hn ht
    exact ⟨.bool b,by rw [Sem.run_bind];simp [eqGuard,binOp,h2],Mi _ _⟩
  ·cases h
 ·split at h
  ·rename_i ht
   cases hn:ee x with
   |none=>rw [hn] at h;cases h
   |some b=>
    rw [hn] at h
    simp only [Fc,Pr,Aa] at h;subst h
    have hy:vy= .slice none 0 0:=hy
    subst hy
    obtain ⟨⟨a,len,cap,rfl,_⟩,h2⟩:=GV hT hx hn ht
    exact ⟨.bool (!b),by rw [Sem.run_bind];simp [eqGuard,binOp,h2],Mi _ _⟩
  ·cases h
 ·split at h
  ·rename_i ht
   cases hn:ed x with
   |none=>rw [hn] at h;cases h
   |some b=>
    rw [hn] at h
    simp only [Fc,Pr,Aa] at h;subst h
    have hy:vy= .pointer none:=hy
    subst hy
    obtain ⟨⟨a,rfl,_⟩,h2⟩:=GU hT hx hn ht
    exact ⟨.bool (!b),by rw [Sem.run_bind];simp [eqGuard,binOp,h2],Mi _ _⟩
  ·cases h
 ·rename_i a _ b
  have:=ag hx;subst this
  have:=ag hy;subst this
  split at h
  ·rename_i ht
   simp only [Pr,Aa] at h;subst h
   have hu:P.underlying t=some .bool:=(hT.ty t _ ht).desc
   exact ⟨_,by rw [Sem.run_bind];simp [eqGuard,binOp,jv hu],Mi _ _⟩
  ·cases h
 ·rename_i a _ b
  have:=ag hx;subst this
  have:=ag hy;subst this
  split at h
  ·rename_i ht
   simp only [Pr,Aa] at h;subst h
   have hu:P.underlying t=some .bool:=(hT.ty t _ ht).desc
   exact ⟨_,by rw [Sem.run_bind];simp [eqGuard,binOp,jv hu],Mi _ _⟩
  ·cases h
 ·exact EK op x y vx vy ox oy t av hx hy h
theorem LI (op:UnOp) (x:AV) (vx:Value) (av:AV) (hx:Bt X w π H x vx) (h:zb op x=some av):
  ∃v,(Op.unary op vx).run P w= .ok v w/\Bt X w π H av v:=by
 unfold zb at h
 split at h
 ·have:=ag hx;subst this
  simp only [Pr,Aa] at h;subst h
  exact ⟨_,by simp [Op.unary],Mi _ _⟩
 ·have:=Qd hx;subst this
  simp only [aO,Aa] at h;subst h
  exact ⟨_,by simp [Op.unary,Op.intArith],No _ _ _⟩
 ·cases h
theorem Ja {t:TypeId} {τ:Ty} (ht:oR P T t τ) (g o:Nat) (es:List Value) (hl:es.length=τ.size) (hc: ∀j u,es[j]?=some u->w.cell? ⟨g,o+j,none⟩=some u):
  (loadVar t ⟨g,o,none⟩).run P w= .ok (Ci τ es) w:=by
 unfold loadVar
 rw [Sem.run_bind,ht.agg,Result.andThen_ok]
 cases hs:τ.Ar with
 |true=>
  simp only [Oz,Sem.run_bind,ht.size,Result.andThen_ok]
  rw [<-hl,run_loadCells_list w ⟨g,o,none⟩ es (λj v hv=>by rw [Addr.add_lit];exact hc j v hv)]
  simp [Ci,hs]
 |false=>
  have h1:τ.size=1:=by cases τ<;>simp_all [Ty.Ar,Ty.size]
  rw [h1] at hl
  obtain ⟨u,rfl⟩:=Es.1 hl
  have:=hc 0 u rfl
  simp only [Ed] at this
  simp [this,Ci,hs]
theorem uw {fr:Bool} {τ:Ty} {x:τ.den} {v:Value} (h:Bt X w π H (.at (.data fr τ x)) v):Bt X w π H (.at (.data (fr||τ.flat) τ x)) v:=by
 cases hf:τ.flat with
 |true=>exact Dc.flat hf h
 |false=>rw [ij];exact h
theorem wy {cs ds:List AC} {us vs:List Value} (h1:Gh X w π H cs us) (h2:Gh X w π H ds vs):Gh X w π H (cs++ds) (us++vs):=by
 have e1:=h1.1
 refine ⟨by simp [h1.1,h2.1],λi c hc=>?_⟩
 by_cases hi:i<cs.length
 ·rw [Au hi] at hc
  obtain ⟨u,hu,h3⟩:=h1.2 i c hc
  exact ⟨u,by rw [Au (by omega)];exact hu,h3⟩
 ·rw [At (by omega)] at hc
  obtain ⟨u,hu,h3⟩:=h2.2 _ c hc
  exact ⟨u,by rw [At (by omega),e1];exact hu,h3⟩
theorem fQ {c:AC} {u:Value} (h1:u.oneCell'=true) (h2:Hu X w π H c u):Gh X w π H [c] [u]:=⟨rfl,λi c' hc=>by
 rcases i with _|i
 ·simp at hc;subst hc;exact ⟨u,rfl,h1,h2⟩
 ·simp at hc⟩
theorem OV {l i:Nat} {e:Ty} {tid:TypeId} {xs:List e.den} {r:Real} (hl:Ay H l=some (.Hc e tid xs)) (hp:π l=some r) (hi:i<xs.length): ∀(τ:Ty) (c:Nat) (F:List Nat) (us:List Value) (x:τ.den),
  Dj w F τ us x->c+τ.size<=e.size->(∀j u,us[j]?=some u->w.cell? ⟨r.g,(r.o+i)*e.size+(c+j),none⟩=some u)->Gh X w π H (gi l i c τ x) us:=by
 intro τ
 induction τ with
 |unit=>intro c F us x h _ _;simp only [Dj] at h;obtain ⟨_,rfl⟩:=h;exact ⟨rfl,λi c hc=>by simp [gi] at hc⟩
 |pair a r il ie=>
  intro c F us x h hle hc
  have zh:=Dj.cells (S:= λ_=>False) F _ us x h (λ_ _ h=>h)
  simp only [Dj] at h
  obtain ⟨c1,c2,F1,F2,rfl,rfl,h1,h2⟩:=h
  have LS:c1.length=a.size:=Cells.len a c1 x.1 (Dj.cells (S:= λ_=>False) F1 a c1 x.1 h1 (λ_ _ h=>h))
  simp only [Ty.size] at hle
  refine wy (il c F1 c1 x.1 h1 (by omega) λj u hu=>hc j u (by rw [Au (Ap.1 hu).1];exact hu)) (ie (c+a.size) F2 c2 x.2 h2 (by omega) λj u hu=>?_)
  have:=hc (a.size+j) u (by rw [At (by omega),LS];simpa using hu)
  rw [show c+a.size+j=c+(a.size+j) by omega];exact this
 |int k=>intro c F us x h _ _;simp only [Dj] at h;obtain ⟨_,rfl⟩:=h;exact fQ rfl (No (H:=H) k x true)
 |bool=>intro c F us x h _ _;simp only [Dj] at h;obtain ⟨_,rfl⟩:=h;exact fQ rfl (Mi (H:=H) x true)
 |str=>intro c F us x h _ _;simp only [Dj] at h;obtain ⟨_,rfl⟩:=h;exact fQ rfl (mB (H:=H) x true)
 |slice e'=>
  intro c F us x h hle hc
  simp only [Dj] at h
  obtain ⟨a,len,cap,rfl,_⟩:=h
  exact fQ rfl ⟨r,_,e.size,xs.length,hl,rfl,hp,hi,⟨by simp only [Ty.size] at hle;omega,_,_,_,rfl⟩,by simpa using hc 0 _ rfl⟩
 |_=>intro c F us x h;simp only [Dj] at h
theorem nE (hT:Eh P T) {st:St} {a:Act} (h:Bm X π st a w) (t:TypeId) (p:AV) (vp:Value) (av:AV) (hp:Bt X w π st.heap p vp) (he:Qi T st t p=some av):
  ∃v,(Instr.loadAt t vp).run P w= .ok v w/\Bt X w π st.heap av v:=by
 unfold Qi at he
 split at he
 ·rename_i τ fr Ox x ht
  split at he
  ·rename_i Ue
   subst Ue
   simp only [Aa] at he;subst he
   have Yl:=hT.ty _ _ ht
   obtain ⟨cs,hc,rfl⟩:=hp
   simp only [Cells] at hc
   obtain ⟨g,o,rfl,hg,hn,es,hl,Wo,bT⟩:=hc
   refine ⟨Ci Ox es,?_,uw (show Bt X w π st.heap (.at (.data fr Ox _)) (Ci Ox es) from ⟨es,bT,rfl⟩)⟩
   have hr:=Ja (P:=P) (w:=w) Yl g o es hl Wo
   show (do loadVar t (<-Instr.sureAddr (.pointer (some ⟨g,o,none⟩))):Sem Value).run P w=_
   simpa [Instr.sureAddr] using hr
  ·cases he
 ·rename_i τ fr Ox x ht
  split at he
  ·rename_i Ue
   subst Ue
   simp only [Aa] at he;subst he
   have Yl:=hT.ty _ _ ht
   obtain ⟨cs,hc,rfl⟩:=hp
   simp only [Cells] at hc
   rcases hc with ⟨h0,_⟩|⟨y,g,o,h0,rfl,hg,hn,es,hl,Wo,bT⟩
   ·cases h0
   simp only [Aa] at h0;subst h0
   refine ⟨Ci Ox es,?_,uw (show Bt X w π st.heap (.at (.data fr Ox _)) (Ci Ox es) from ⟨es,bT,rfl⟩)⟩
   have hr:=Ja (P:=P) (w:=w) Yl g o es hl Wo
   show (do loadVar t (<-Instr.sureAddr (.pointer (some ⟨g,o,none⟩))):Sem Value).run P w=_
   simpa [Instr.sureAddr] using hr
  ·cases he
 ·rename_i τ l i ht
  have Yl:=hT.ty _ _ ht
  split at he
  ·rename_i tid vs hl
   obtain ⟨r,Vh,vs',h1,h2,rfl⟩:=hp
   unfold St.at at hl
   rw [hl] at h1;cases h1
   obtain ⟨r',h3,h4,cur,h5,h6⟩:=(h.1.heap l).Ru hl
   rw [h2] at h3;cases h3
   split at he
   ·rename_i hs
    split at he
    ·rename_i hlen
     simp only [Aa] at he;subst he
     have Rn:cur.toList.length=vs.length:=h6.1
     refine ⟨_,by
      simp only [Instr.loadAt,Instr.sureAddr]
      simpa using Ja (P:=P) (w:=w) Yl r.g i ((cur.toList.drop i).take τ.size) (by simp at Rn⊢;omega) (λj u hu=>by
       rw [cellOf h5]
       rw [Db] at hu
       split at hu
       ·rw [Cs] at hu;simpa using hu
       ·cases hu),?_⟩
     exact ⟨_,by simp [Ci,hs],ae h6 i τ.size⟩
    ·cases he
   ·rename_i hs
    simp only [En] at hs
    have h1:τ.size=1:=by cases τ<;>simp_all [Ty.Ar,Ty.size]
    cases hi:vs[i]? with
    |none=>rw [hi] at he;cases he
    |some c=>
     rw [hi] at he
     simp only [An,Aa] at he;subst he
     obtain ⟨u,hu,_,hc⟩:=h6.2 i c hi
     refine ⟨u,?_,hc⟩
     simp only [Instr.loadAt,Instr.sureAddr]
     have:=Ja (P:=P) (w:=w) Yl r.g i [u] (by simp [h1]) (λj u' ic=>by
       rcases j with _|j
       ·simp at ic;subst ic;rw [Ed,cellOf h5];simpa using hu
       ·simp at ic)
     simpa [Ci,hs] using this
  ·cases he
 ·rename_i τ l i ht
  have Yl:=hT.ty _ _ ht
  split at he
  ·rename_i fr tr e tid xs hl
   split at he
   ·rename_i heq;subst heq
    obtain ⟨r,b,sz,n,h1,h0,h2,h3,rfl⟩:=hp
    unfold St.at at hl
    rw [hl] at h1;cases h1
    simp only [OB.row,Aa,Ag] at h0
    obtain ⟨rfl,rfl⟩:=h0
    have hb:=(h.1.heap l).Ru hl
    simp only [Co,Kn,h3] at hb
    obtain ⟨h4,cur,_,h5,h6,h7,h8,h9,_⟩:=hb
    have hx:xs[i]?=some xs[i]:=Ad h2
    rw [hx] at he
    simp only [An,Aa] at he;subst he
    obtain ⟨es,eu,hj,zh⟩:=h9 i _ hx
    refine ⟨Ci e es,?_,uw (show Bt X w π st.heap (.at (.data fr e _)) (Ci e es) from ⟨es,zh,rfl⟩)⟩
    simp only [Instr.loadAt,Instr.sureAddr]
    simpa using Ja (P:=P) (w:=w) Yl r.g ((r.o+i)*e.size) es eu (λj u hu=>by rw [cellOf h5];exact hj j u hu)
   ·cases he
  ·rename_i e tid xs hl
   split at he
   ·rename_i heq;subst heq
    obtain ⟨r,b,sz,n,h1,h0,h2,h3,rfl⟩:=hp
    unfold St.at at hl
    rw [hl] at h1;cases h1
    simp only [OB.row,Aa,Ag] at h0
    obtain ⟨rfl,rfl⟩:=h0
    have hb:=(h.1.heap l).Ru hl
    simp only [Co,Om,h3] at hb
    obtain ⟨h4,cur,_,h5,h6,h7,h8,Fs,k1,k2,k3,k4⟩:=hb
    have hx:xs[i]?=some xs[i]:=Ad h2
    rw [hx] at he
    simp only [An,Aa] at he;subst he
    obtain ⟨es,eu,hj,zh⟩:=k4 i _ _ hx (Ad (by omega))
    have hrs:=OV (X:=X) (H:=st.heap) hl h3 h2 e 0 _ es _ zh (by omega) (λj u hu=>by rw [cellOf h5,Bk];exact hj j u hu)
    refine ⟨Ci e es,?_,?_⟩
    ·simp only [Instr.loadAt,Instr.sureAddr]
     simpa using Ja (P:=P) (w:=w) Yl r.g ((r.o+i)*e.size) es eu (λj u hu=>by rw [cellOf h5];exact hj j u hu)
    ·cases Pc:e.Ar with
     |true=>rw [Ab rfl];exact ⟨es,by simp [Ci,Pc],hrs⟩
     |false=>
      rw [Ai (by simp)]
      have h1:e.size=1:=by cases e<;>simp_all [Ty.Ar,Ty.size]
      rw [h1] at eu
      obtain ⟨u,rfl⟩:=Es.1 eu
      have LS:=hrs.1
      generalize gi l i 0 e xs[i]=sc at*
      simp only [Aw,Dv] at LS
      obtain ⟨c,rfl⟩:=Es.1 LS.symm
      obtain ⟨u',ic,_,xo⟩:=hrs.2 0 c rfl
      simp at ic;subst ic
      have e1:Ci e [u]=u:=by simp [Ci,Pc]
      rw [e1]
      exact xo
   ·cases he
  ·rename_i e te rows kp hl
   split at he
   ·cases he
   ·rename_i Pc
    simp only [En] at Pc
    simp only [Aa] at he;subst he
    obtain ⟨r,b,sz,n,h1,h0,h2,h3,rfl⟩:=hp
    unfold St.at at hl
    rw [hl] at h1;cases h1
    simp only [OB.row,Aa,Ag] at h0
    obtain ⟨rfl,rfl⟩:=h0
    obtain ⟨u,R,k1,k2,k3⟩:=nP h.1 hl h3 h2 (by simp)
    have Uo:τ.size=1:=by cases τ<;>simp_all [Ty.Ar,Ty.size]
    refine ⟨u,?_,r,_,1,rows.length,hl,rfl,h3,h2,⟨by omega,bb k2⟩,by rw [Fw,Ed];exact k1⟩
    simp only [Instr.loadAt,Instr.sureAddr]
    have:=Ja (P:=P) (w:=w) Yl r.g ((r.o+i)*1) [u] (by simp [Uo]) (λj u' ic=>by
     rcases j with _|j
     ·simp at ic;subst ic;rw [Fw,Ed];exact k1
     ·simp at ic)
    simpa [Ci,Pc] using this
  ·cases he
 ·rename_i τ l i j ht
  have Yl:=hT.ty _ _ ht
  split at he
  ·rename_i e te rows kp hl
   split at he
   ·rename_i heq;subst heq
    simp only [Aa] at he;subst he
    obtain ⟨r,b,n,sz,g,o,len,cap,h1,h0,h2,h3,h4,h5,rfl⟩:=hp
    unfold St.at at hl
    rw [hl] at h1;cases h1
    simp only [OB.vS,Aa,Ag] at h0
    obtain ⟨rfl,rfl⟩:=h0
    obtain ⟨u,R,k1,k2,k3⟩:=nP h.1 hl h2 h3 (by simp)
    rw [h5] at k1
    have hu:=Bd k1
    subst hu
    cases R with
    |none=>obtain ⟨hh,_⟩:=k2;cases hh
    |some q=>
     obtain ⟨ad,hh,g1,g2⟩:=k2
     simp only [Value.slice.injEq,Aa] at hh
     obtain ⟨rfl,rfl,rfl⟩:=hh
     have ZD:=g2 (by omega)
     simp only [Addr.mk.injEq,bm] at ZD
     obtain ⟨rfl,rfl⟩:=ZD
     obtain ⟨f1,cur,ti,f2,f3,f4,f5,f6⟩:=k3
     have hj:(rows.getD i [])[j]?=some ((rows.getD i []).getD j e.zero):=by rw [Al (l:=rows.getD i []),Ad h4];rfl
     obtain ⟨es,eu,c1,c2⟩:=f6 j _ hj
     refine ⟨Ci e es,?_,uw (fr:=false) (show Bt X w π st.heap (.at (.data false e _)) (Ci e es) from ⟨es,c2,rfl⟩)⟩
     simp only [Instr.loadAt,Instr.sureAddr]
     simpa using Ja (P:=P) (w:=w) Yl q.g ((q.o+0)*e.size+j*e.size) es eu (λm u hu=>by rw [cellOf f2,Ed,<-Dq];exact c1 m u hu)
   ·cases he
  ·cases he
 ·cases he
theorem Aab {α:Type} {xs:List α} {n:Int} {x:α} (h:idx xs n=some x):0<=n/\n<xs.length/\xs[n.toNat]?=some x:=by
 unfold idx at h
 split at h
 ·rename_i h0
  have:=(Ap.1 h).1
  exact ⟨h0,by omega,h⟩
 ·cases h
theorem s7 (hT:Eh P T) {t:TypeId} {e:Ty} (h:(T.elem t).bind T.ty=some e): ∃te,T.elem t=some te/\T.ty te=some e/\P.underlying t=some (.slice te)/\P.elem t=te:=by
 cases ht:T.elem t with
 |none=>rw [ht] at h;cases h
 |some te=>
  rw [ht] at h
  have hu:=hT.elem t te ht
  exact ⟨te,rfl,h,hu,by simp [Program.elem,hu]⟩
theorem nD (hT:Eh P T) {st:St} {a:Act} (h:Bm X π st a w) (t:TypeId) (x i:AV) (vx vi:Value) (av:AV) (hx:Bt X w π st.heap x vx) (hi:Bt X w π st.heap i vi)
  (he:Lf T st t x i=some av): ∃v,(Instr.indexAt t vx vi).run P w= .ok v w/\Bt X w π st.heap av v:=by
 unfold Lf at he
 split at he
 ·rename_i fr e xs _ k n
  have:=Qd hi;subst this
  split at he
  ·rename_i ll
   obtain ⟨te,h1,h2,h3,h4⟩:=s7 hT ll
   cases JU:idx xs n with
   |none=>rw [JU] at he;cases he
   |some y=>
    rw [JU] at he
    simp only [An,Aa] at he;subst he
    obtain ⟨h5,h6,h7⟩:=Aab JU
    obtain ⟨cs,hc,rfl⟩:=hx
    simp only [Cells] at hc
    obtain ⟨ad,len,cap,rfl,hlen,tq,LV⟩:=hc
    rcases LV with rfl|⟨g,o,rfl,hg,hn,Ly⟩
    ·simp at h6;omega
    ·obtain ⟨es,eu,Wo,bT⟩:=Ly _ _ h7
     have Uo:=(hT.ty _ _ h2).size (w:=w)
     refine ⟨.pointer (some ⟨g,o+n.toNat*e.size,none⟩),?_,[_],⟨g,_,rfl,hg,hn,es,eu,Wo,bT⟩,by simp [Ci,Ty.Ar]⟩
     simp only [Ci,Ty.Ar,Di,Rt,iv]
     rw [run_indexAt_slice (P:=P) w t _ _ _ k n (by rw [h3,h4]),Ab ⟨h5,by omega⟩,h4,Uo,Result.andThen_ok,Addr.add_lit]
  ·cases he
 ·rename_i l off len _ k n
  have:=Qd hi;subst this
  split at he
  ·rename_i fr tr e tid xs hl
   split at he
   ·rename_i Kh
    obtain ⟨h1,h2,h56⟩:=Kh
    obtain ⟨h5,h6⟩:=Up.1 h56
    simp only [Aa] at he;subst he
    have h3:=hT.elem t tid h1
    have h4:P.elem t=tid:=by simp [Program.elem,h3]
    unfold St.at at hl
    have Ll:=hl
    obtain ⟨h8,h9⟩:=Pd (X:=X) (w:=w) hx hl
    cases hp:π l with
    |none=>rw [hp] at h9;obtain ⟨_,_,h9⟩:=h9;omega
    |some r=>
     rw [hp] at h9
     obtain ⟨ad,rfl,qt,lg⟩:=h9
     have h12:=lg (by omega)
     subst h12
     have Uo:=(hT.ty _ _ h2).size (w:=w)
     refine ⟨.pointer (some ⟨r.g,(r.o+off)*e.size+n.toNat*e.size,none⟩),?_,r,_,e.size,xs.length,Ll,rfl,by omega,hp,?_⟩
     ·rw [run_indexAt_slice (P:=P) w t _ _ _ k n (by rw [h3,h4]),Ab ⟨h5,by omega⟩,h4,Uo,Result.andThen_ok,Addr.add_lit]
     ·rw [<-Gx r.o off n.toNat,Dq (r.o+off)]
   ·cases he
  ·rename_i e tid xs hl
   split at he
   ·rename_i Kh
    obtain ⟨h1,h2,h56⟩:=Kh
    obtain ⟨h5,h6⟩:=Up.1 h56
    simp only [Aa] at he;subst he
    have h3:=hT.elem t tid h1
    have h4:P.elem t=tid:=by simp [Program.elem,h3]
    unfold St.at at hl
    have Ll:=hl
    obtain ⟨h8,h9⟩:=cg (X:=X) (w:=w) hx hl
    cases hp:π l with
    |none=>rw [hp] at h9;obtain ⟨_,_,h9⟩:=h9;omega
    |some r=>
     rw [hp] at h9
     obtain ⟨ad,rfl,qt,lg⟩:=h9
     have h12:=lg (by omega)
     subst h12
     have Uo:=(hT.ty _ _ h2).size (w:=w)
     refine ⟨.pointer (some ⟨r.g,(r.o+off)*e.size+n.toNat*e.size,none⟩),?_,r,_,e.size,xs.length,Ll,rfl,by omega,hp,?_⟩
     ·rw [run_indexAt_slice (P:=P) w t _ _ _ k n (by rw [h3,h4]),Ab ⟨h5,by omega⟩,h4,Uo,Result.andThen_ok,Addr.add_lit]
     ·rw [<-Gx r.o off n.toNat,Dq (r.o+off)]
   ·cases he
  ·rename_i e te rows out kp hl
   split at he
   ·rename_i Kh
    obtain ⟨h1,h2,h56⟩:=Kh
    obtain ⟨h5,h6⟩:=Up.1 h56
    simp only [Aa] at he;subst he
    have h3:=hT.elem t te h1
    have h4:P.elem t=te:=by simp [Program.elem,h3]
    unfold St.at at hl
    have Ll:=hl
    obtain ⟨h8,h9⟩:=oo (X:=X) (w:=w) hx hl
    cases hp:π l with
    |none=>rw [hp] at h9;obtain ⟨_,_,h9⟩:=h9;omega
    |some r=>
     rw [hp] at h9
     obtain ⟨ad,rfl,qt,lg⟩:=h9
     have h12:=lg (by omega)
     subst h12
     cases lr:T.ty te with
     |none=>rw [lr] at h2;cases h2
     |some τ=>
      rw [lr] at h2
      have h2:τ.size=1:=Bd h2
      have Uo:=(hT.ty _ _ lr).size (w:=w)
      refine ⟨.pointer (some ⟨r.g,(r.o+off)*1+n.toNat*τ.size,none⟩),?_,r,_,1,rows.length,Ll,rfl,by omega,hp,?_⟩
      ·rw [run_indexAt_slice (P:=P) w t _ _ _ k n (by rw [h3,h4]),Ab ⟨h5,by omega⟩,h4,Uo,Result.andThen_ok,Addr.add_lit]
      ·rw [h2,<-Gx r.o off n.toNat,Dq (r.o+off)]
   ·cases he
  ·cases he
 ·rename_i l i c _ k n
  have:=Qd hi;subst this
  split at he
  ·rename_i e te rows kp hl
   split at he
   ·rename_i Kh
    obtain ⟨h2,h56⟩:=Kh
    obtain ⟨h5,h6⟩:=Up.1 h56
    simp only [Aa] at he;subst he
    cases lr:T.elem t with
    |none=>rw [lr] at h2;cases h2
    |some Ro=>
     rw [lr] at h2
     cases Yl:T.ty Ro with
     |none=>rw [Fc,Yl] at h2;cases h2
     |some τ=>
      rw [Fc,Yl] at h2
      have h2:τ.size=e.size:=Bd h2
      have h3:=hT.elem t Ro lr
      have h4:P.elem t=Ro:=by simp [Program.elem,h3]
      unfold St.at at hl
      obtain ⟨r,b,sz,m,g1,g0,g2,g3,⟨g4,_⟩,g5⟩:=hx
      rw [hl] at g1;cases g1
      simp only [OB.gJ,Aa,Ag] at g0
      obtain ⟨rfl,rfl⟩:=g0
      have kO:c=0:=by omega
      subst kO
      rw [Fw,Ed] at g5
      obtain ⟨u,R,k1,k2,k3⟩:=nP h.1 hl g2 g3 (by simp)
      rw [g5] at k1
      have hu:=Bd k1
      subst hu
      cases R with
      |none=>obtain ⟨_,_,hh⟩:=k2;omega
      |some q=>
       obtain ⟨ad,rfl,f1,f2⟩:=k2
       have ZD:=f2 (by omega)
       subst ZD
       have Uo:=(hT.ty _ _ Yl).size (w:=w)
       refine ⟨.pointer (some ⟨q.g,(q.o+0)*e.size+n.toNat*τ.size,none⟩),?_,r,_,rows.length,e.size,q.g,(q.o+0)*e.size,_,_,hl,rfl,g2,g3,by omega,g5,by rw [h2]⟩
       rw [run_indexAt_slice (P:=P) w t _ _ _ k n (by rw [h3,h4]),Ab ⟨h5,by omega⟩,h4,Uo,Result.andThen_ok,Addr.add_lit]
   ·cases he
  ·cases he
 ·cases he
end
end Go.Proofs.Ytkkdpknjohcekaa
