/-
  Part 7 of the proof that the statement FnSymmetries holds.
-/
import Derived.Test.YtkkdpknjohcekaaCFSymmetries05
namespace Go.Proofs.Ytkkdpknjohcekaa
open Go.RowKit
section
variable {P:Program} {T:Tab} {X:Ctx} {w w':World} {π:Pi} {H:List (Nat×OB)}
def FU (P:Program) (X:Ctx) (π:Pi) (H:List (Nat×OB)) (w:World) (av:AV):Result Next->Prop
 | .ok (.value v) w'=>w'=w/\Bf X w π H av v
 | .ok (.enter f args) w'=>w'=w/\Calls P f args w (λe o9=> ∃v,e= .returned v/\Below w.heap.size w o9/\Bf X o9 π H av v)
 |_=>False
def jr (s:Spec) (w:World) (S:Nat->Prop) (v:Value) (y:s.res.den):Prop:=
 if s.Hc then ∃us:List Value,v= .tuple us.toArray/\Cl w S s.res us y else Cz w S s.res v y
structure Sound (P:Program) (f:FuncId) (s:Spec):Prop where
 enter: ∀args w,(callFunc f args).run P w= .ok (.enter f args) w
 calls: ∀(w:World) (S:Nat->Prop) (vs:List Value) (x:s.arg.den) (y:s.res.den),(∀k,S k->k<w.heap.size)->Cl w S s.arg vs x->s.fn x=some y->
  Calls P f vs.toArray w λe w'=> ∃v,e= .returned v/\Below w.heap.size w w'/\jr s w' (λb=>S b\/(s.fresh=true/\b<w.heap.size)) v y
def ei (w:World) (D:Nat->Prop) (r:Option Real):(c:CK)->c.den->Prop
 | .Gb _,_=>r=none
 | .row e _,xs=>Rw w D r e xs
 | .Ha e te,xs=>Nj w r e te xs
 | .part e _,x=>e.flat=true/\Rw w D r e x.1
 | .Bj e _ _,rows=>Yx w D r e rows none
def cU (w:World) (D:Nat->Prop) (r:Option Real) (v:Value):(c:CK)->c.den->Prop
 | .Gb τ,x=>r=none/\Cz w D τ v x
 | .row e te,xs=>Hf r e.size 0 (List.length xs) v/\ei w D r (.row e te) xs
 | .Ha e te,xs=>Hf r e.size 0 (List.length xs) v/\ei w D r (.Ha e te) xs
 | .part e te,x=>(Hf r e.size x.2.1 x.2.2 v/\x.2.1+x.2.2<=List.length x.1)/\ei w D r (.part e te) x
 | .Bj e te kp,rows=>Hf r 1 0 (List.length rows) v/\ei w D r (.Bj e te kp) rows
def cV (w:World) (D:Nat->Prop) (π:Pi):(k:Nat)->(cs:List (Bool×CK))->Ins.den cs->List Value->Prop
 |_,[],_,[]=>True
 |k,p::r,x,u::us=>cU w D (π (Dt p.1 k)) u p.2 x.1/\cV w D π (k+1) r x.2 us
 |_,_,_,_=>False
def Lw (w:World) (D:Nat->Prop) (π:Pi):(k:Nat)->(cs:List (Bool×CK))->IOs.den cs->Prop
 |_,[],_=>True
 |k,(true, .Gb _)::r,x=>Lw w D π (k+1) r x
 |k,(true, .Bj _ _ _)::r,x=>Lw w D π (k+1) r x
 |k,(true, .row e te)::r,x=>ei w D (π (Dt true k)) (.row e te) x.1/\Lw w D π (k+1) r x.2
 |k,(true, .Ha e te)::r,x=>ei w D (π (Dt true k)) (.Ha e te) x.1/\Lw w D π (k+1) r x.2
 |k,(true, .part e te)::r,x=>ei w D (π (Dt true k)) (.row e te) x.1/\Lw w D π (k+1) r x.2
 |k,(false,_)::r,x=>Lw w D π (k+1) r x
def Ip (w:World) (D:Nat->Prop) (ρ:Pi):(k:Nat)->(cs:List CK)->CKs.den cs->List Value->Prop
 |_,[],_,[]=>True
 |k,c::r,x,u::us=>cU w D (ρ (Jq k)) u c x.1/\Ip w D ρ (k+1) r x.2 us
 |_,_,_,_=>False
structure fi (π:Pi) (A:Nat->Prop):Prop where
 Zg: ∀l r b,π l=some r->r.Cm b->A b
 inj: ∀l l' r r' b,π l=some r->π l'=some r'->r.Cm b->r'.Cm b->l=l'
def bx:List (Option Nat)->List Value->Prop
 | [],[]=>True
 |none::s,_::us=>bx s us
 |some n::s,us=>n<=us.length/\(∀u∈us.take n,u.oneCell'=true)/\bx s (us.drop n)
 |_,_=>False
def RC (Hc:Bool) (sh:List (Option Nat)) (us:List Value) (v:Value):Prop:=if Hc then v= .tuple (Ko sh us).toArray else Ko sh us= [v]\/Ko sh us= []
def ir (S:Nat->Prop) (π ρ:Pi) (b:Nat):Prop:=S b\/(∃l q,Be<=l/\π l=some q/\q.Cm b)\/Un ρ b
def mb (s:MSpec) (w:World) (g:Nat) (us vs:List Value):Prop:=
 match s.ptr with
 |none=>vs=Ko s.Ke us/\bx s.Ke us
 |some p=>vs= .pointer (some ⟨g,0,none⟩)::Ko s.Ke (us.drop p.2)/\bx s.Ke (us.drop p.2)/\p.2<=us.length/\w.heap[g]?=some (.cells (us.take p.2).toArray p.1 (0,0))/\ ∀u∈us.take p.2,u.oneCell'=true
def MSpec.gv (s:MSpec) (g b:Nat):Prop:=s.ptr.isSome=true/\b=g
def Ei (π:Pi):(k:Nat)->(cs:List (Bool×CK))->IOs.den cs->(n:Nat)->List Value->List Value->Prop
 |_,_,_,0,us,_=>us= []
 |k,(true, .row e _)::r,o,n+1,u::us,as=>Hf (π (Dt true k)) e.size 0 (List.length o.1) u/\Ei π (k+1) r o.2 n us as
 |k,(true, .Ha e _)::r,o,n+1,u::us,as=>Hf (π (Dt true k)) e.size 0 (List.length o.1) u/\Ei π (k+1) r o.2 n us as
 |k,(false,_)::r,o,n+1,u::us,a::as=>u=a/\Ei π (k+1) r o n us as
 |_,_,_,_,_,_=>False
def jo (s:MSpec) (π:Pi) (w':World) (g:Nat) (Vw:List Value) (o:IOs.den s.ins):Prop:=
 match s.ptr with
 |none=>True
 |some p=> ∃cs,w'.heap[g]?=some (.cells cs.toArray p.1 (0,0))/\(∀u∈cs,u.oneCell'=true)/\Ei π 0 s.ins o p.2 cs Vw
def xM (w w':World) (r r':Option Real) (n:Nat):Prop:=match r,r' with
 |none,none=>True
 |some q,some q'=>q'.g=q.g/\q'.o=q.o/\q'.cap=q.cap/\ ∀j,j<n->j<q.cap->w'.cell? ⟨q.g,q.o+j,none⟩=w.cell? ⟨q.g,q.o+j,none⟩
 |_,_=>False
def pb (s:MSpec) (w':World) (ρ:Pi) (us:List Value) (v:Value):Prop:=match s.rp with
 |none=>RC s.Hc s.Iw us v/\bx s.Iw us
 |some tid=> ∃q,ρ (Jq s.outs.length)=some q/\q.Cm q.g/\w'.heap[q.g]?=some (.cells us.toArray tid (0,0))/\(∀u∈us,u.oneCell'=true)/\v= .pointer (some ⟨q.g,0,none⟩)
def MSpec.Tp (s:MSpec):Nat:=s.outs.length+(match s.rp with|none=>0|some _=>1)
structure Dx (P:Program) (f:FuncId) (s:MSpec):Prop where
 enter: ∀args w,(callFunc f args).run P w= .ok (.enter f args) w
 calls: ∀(w:World) (S:Nat->Prop) (π:Pi) (us:List Value) (x:Ins.den s.ins) (r:CKs.den s.outs) (o:IOs.den s.ins) (g:Nat) (vs:List Value),
  mb s w g us vs->(s.ptr.isSome=true->S g)->cV w (λb=>Un π b\/S b) π 0 s.ins x us->fi π (λb=>b<w.heap.size)->(∀b,S b->b<w.heap.size/\ ¬Un π b)->(∀l,As (Xz 0 s.ins x) l=none->π l=none)->s.fn x=some (r,o)->
  Calls P f vs.toArray w λe w'=> ∃v Vw ρ,e= .returned v/\pb s w' ρ (Vw.drop s.Zd) v/\jo s π w' g Vw o/\Kl w.heap.size (λb=>Un π b\/s.gv g b) w w'/\Lw w' (ir S π ρ) π 0 s.ins o/\Ip w' (ir S π ρ) ρ 0 s.outs r Vw/\
   fi ρ (λb=>b<w'.heap.size/\(w.heap.size<=b\/ ∃l q,l<Be/\π l=some q/\q.Cm b))/\(∀l,(∀k,k<s.Tp->l≠Jq k)->ρ l=none)/\(∀kj∈s.keeps,xM w w' (π (Dt false kj.1)) (ρ (Jq kj.2)) (s.Fw x))
def YC (P:Program) (f:FuncId):iB->Prop
 | .q s=>Sound P f s
 | .m s=>Dx P f s
 | .b s m=>Sound P f s/\Dx P f m
def Ju (P:Program) (Γ:Env):Prop:= ∀f s,Γ f=some s->YC P f s
theorem Ju.reg {P:Program} {Γ:Env} (h:Ju P Γ) (draw:Bool):Ju P (wG Γ draw):= λf s hs=>by
 unfold wG at hs
 split at hs
 ·rename_i s0 m Of
  have:=h f _ Of
  cases draw with
  |true=>simp only [Qf,Aa] at hs;subst hs;exact this.1
  |false=>simp only [Cy,Sl,Aa] at hs;subst hs;exact this.2
 ·exact h f s hs
theorem Ph {k:IntKind} {n:Int} {fr:Bool} {v:Value} (h:Bf X w π H (.at (.data fr (.int k) n)) v):v= .int k n:=by
 obtain ⟨cs,h1,rfl⟩:=h;simp only [Cells] at h1;subst h1;rfl
theorem Yh {b:Bool} {fr:Bool} {v:Value} (h:Bf X w π H (.at (.data fr .bool b)) v):v= .bool b:=by
 obtain ⟨cs,h1,rfl⟩:=h;simp only [Cells] at h1;subst h1;rfl
theorem dF {s:ByteArray} {fr:Bool} {v:Value} (h:Bf X w π H (.at (.data fr .str s)) v):v= .string s:=by
 obtain ⟨cs,h1,rfl⟩:=h;simp only [Cells] at h1;subst h1;rfl
theorem Mo (k:IntKind) (n:Int) (fr:Bool):Bf X w π H (.at (.data fr (.int k) n)) (.int k n):=⟨[.int k n],rfl,rfl⟩
theorem Ln (b:Bool) (fr:Bool):Bf X w π H (.at (.data fr .bool b)) (.bool b):=⟨[.bool b],rfl,rfl⟩
theorem jR (s:ByteArray) (fr:Bool):Bf X w π H (.at (.data fr .str s)) (.string s):=⟨[.string s],rfl,rfl⟩
theorem Aaa (f:FuncId):Bf X w π H (.at (.clo f [])) (.func (.func f) #[] #[]):=⟨[],rfl,rfl,λi p hi=>by simp at hi⟩
theorem IG (v:Value):Bf X w π H (kF v) v:=by
 unfold kF
 split
 ·exact Mo _ _ _
 ·exact Ln _ _
 ·exact jR _ _
 ·rfl
 ·rfl
 ·trivial
theorem Dn {st:St} {a:Act} (h:pa X w π st a) (x:Operand):Bf X w π st.heap (st.ev x) (a.eval x):=by
 cases x with
 |tmp t=>exact h.tmps t
 |const v=>exact IG v
 |global g=>trivial
 |func f=>exact Aaa f
theorem CS (op:BinOp) (k:IntKind) (a b:Int) (t:TypeId) (av:AV) (h:q7 op k a b=some av):
  ∃v,(binOp op t (.int k a) (.int k b)).run P w= .ok v w/\Bf X w π H av v:=by
 cases op<;>simp only [q7,Zh,Ov] at h
 case add=>cases h;exact ⟨_,by simp [binOp,Op.intArith],Mo _ _ _⟩
 case sub=>cases h;exact ⟨_,by simp [binOp,Op.intArith],Mo _ _ _⟩
 case mul=>cases h;exact ⟨_,by simp [binOp,Op.intArith],Mo _ _ _⟩
 case quo=>split at h<;>cases h;rename_i hb;exact ⟨_,by simp [binOp,Op.intDiv,hb],Mo _ _ _⟩
 case rem=>split at h<;>cases h;rename_i hb;exact ⟨_,by simp [binOp,Op.intDiv,hb],Mo _ _ _⟩
 case and=>cases h;exact ⟨_,by simp [binOp,Op.intBits],Mo _ _ _⟩
 case or=>cases h;exact ⟨_,by simp [binOp,Op.intBits],Mo _ _ _⟩
 case eql=>cases h;exact ⟨_,by simp [binOp,Op.intCmp],Ln _ _⟩
 case neq=>cases h;exact ⟨_,by simp [binOp,Op.intCmp],Ln _ _⟩
 case lss=>cases h;exact ⟨_,by simp [binOp,Op.intCmp],Ln _ _⟩
 case leq=>cases h;exact ⟨_,by simp [binOp,Op.intCmp],Ln _ _⟩
 case gtr=>cases h;exact ⟨_,by simp [binOp,Op.intCmp],Ln _ _⟩
 case geq=>cases h;exact ⟨_,by simp [binOp,Op.intCmp],Ln _ _⟩
 all_goals cases h
theorem yk (op:BinOp) (x y:AV) (vx vy:Value) (ox oy:Operand) (t:TypeId) (av:AV) (hx:Bf X w π H x vx) (hy:Bf X w π H y vy) (h:evalBin op x y=some av):
  ∃v,(do eqGuard op t ox oy vx vy;binOp op t vx vy:Sem Value).run P w= .ok v w/\Bf X w π H av v:=by
 unfold evalBin at h
 split at h
 ·rename_i k a _ k' b
  have:=Ph hx;subst this
  have:=Ph hy;subst this
  have hg: ∀op,(eqGuard op t ox oy (.int k a) (.int k' b)).run P w= .ok () w:=by intro op;cases op<;>simp [eqGuard]
  split at h
  ·split at h
   ·cases h
   ·rename_i hb
    simp only [Zh,Aa] at h;subst h
    exact ⟨_,by rw [Sem.run_bind,hg];simp [binOp,Op.shift,hb],Mo _ _ _⟩
  ·split at h
   ·cases h
   ·rename_i hb
    simp only [Zh,Aa] at h;subst h
    exact ⟨_,by rw [Sem.run_bind,hg];simp [binOp,Op.shift,hb],Mo _ _ _⟩
  ·split at h
   ·rename_i hk;subst hk
    obtain ⟨v,h1,h2⟩:=CS (P:=P) (w:=w) (X:=X) (π:=π) (H:=H) op k a b t av h
    exact ⟨v,by rw [Sem.run_bind,hg];exact h1,h2⟩
   ·cases h
 ·rename_i a _ b
  have:=dF hx;subst this
  have:=dF hy;subst this
  have hg: ∀op,(eqGuard op t ox oy (.string a) (.string b)).run P w= .ok () w:=by intro op;cases op<;>simp [eqGuard]
  split at h
  ·simp only [Ov,Aa] at h;subst h
   exact ⟨_,by rw [Sem.run_bind,hg];simp [binOp,Op.stringOp],Ln _ _⟩
  ·simp only [Ov,Aa] at h;subst h
   exact ⟨_,by rw [Sem.run_bind,hg];simp [binOp,Op.stringOp],Ln _ _⟩
  ·split at h
   ·rename_i hl
    simp only [Aa] at h;subst h
    exact ⟨_,by rw [Sem.run_bind,hg];simp only [Result.andThen_ok,binOp];exact run_string_add_sum w a b (by omega),jR _ _⟩
   ·cases h
  ·cases h
 ·cases h
theorem gz {t:TypeId} (h:P.underlying t=some .bool) (a b:Bool) (w:World):(Op.equal t (.bool a) (.bool b)).run P w= .ok (a==b) w:=by
 unfold Op.equal
 rw [show Op.maxDepth=9999+1 from rfl]
 unfold Op.equalIn
 rw [Sem.run_bind,run_underlying h]
 rfl
theorem zf (hT:Du P T) {x:AV} {vx:Value} {b:Bool} {t:TypeId} (hx:Bf X w π H x vx) (h:cj x=some b) (ht:(T.elem t).isSome=true):
  (∃a len cap,vx= .slice a len cap/\(match a with|none=>true|some _=>false)=b)/\(Op.equal t vx (.slice none 0 0)).run P w= .ok b w:=by
 have h1: ∃a len cap,vx= .slice a len cap/\(match a with|none=>true|some _=>false)=b:=by
  unfold cj at h
  split at h
  ·simp only [Aa] at h;subst h
   have hx:vx= .slice none 0 0:=hx
   exact ⟨none,0,0,hx,rfl⟩
  ·simp only [Aa] at h;subst h
   obtain ⟨cs,hc,rfl⟩:=hx
   simp only [Cells] at hc
   rcases hc with ⟨rfl,c,rfl⟩|⟨xs,ad,len,cap,rfl,rfl,_⟩
   ·exact ⟨none,0,c,by simp [Bs,Ty.Ap],rfl⟩
   ·exact ⟨some ad,len,cap,by simp [Bs,Ty.Ap],rfl⟩
  ·cases h
 refine ⟨h1,?_⟩
 obtain ⟨a,len,cap,rfl,rfl⟩:=h1
 obtain ⟨te,iS⟩:=Option.isSome_iff_exists.1 ht
 have hu:=hT.elem t te iS
 unfold Op.equal
 rw [show Op.maxDepth=9999+1 from rfl]
 unfold Op.equalIn
 rw [Sem.run_bind,run_underlying hu]
 cases a<;>rfl
theorem ze (hT:Du P T) {x:AV} {vx:Value} {b:Bool} {t:TypeId} (hx:Bf X w π H x vx) (h:cg x=some b) (ht:PK (T.ty t)=true):
  (∃a,vx= .pointer a/\(match a with|none=>true|some _=>false)=b)/\(Op.equal t vx (.pointer none)).run P w= .ok b w:=by
 have h1: ∃a,vx= .pointer a/\(match a with|none=>true|some _=>false)=b:=by
  unfold cg at h
  split at h
  ·simp only [Aa] at h;subst h
   have hx:vx= .pointer none:=hx
   exact ⟨none,hx,rfl⟩
  ·simp only [Aa] at h;subst h
   obtain ⟨r,tid,vs,_,_,rfl⟩:=hx
   exact ⟨_,rfl,rfl⟩
  ·simp only [Aa] at h;subst h
   obtain ⟨cs,hc,rfl⟩:=hx
   simp only [Cells] at hc
   rcases hc with ⟨rfl,rfl⟩|⟨xs,g,o,rfl,rfl,_⟩
   ·exact ⟨none,by simp [Bs,Ty.Ap],rfl⟩
   ·exact ⟨some ⟨g,o,none⟩,by simp [Bs,Ty.Ap],rfl⟩
  ·simp only [Aa] at h;subst h
   obtain ⟨cs,hc,rfl⟩:=hx
   simp only [Cells] at hc
   obtain ⟨g,o,rfl,_⟩:=hc
   exact ⟨some ⟨g,o,none⟩,by simp [Bs,Ty.Ap],rfl⟩
  ·cases h
 refine ⟨h1,?_⟩
 obtain ⟨a,rfl,rfl⟩:=h1
 have hu: ∃u,P.underlying t=some (.pointer u):=by
  cases Wr:T.ty t with
  |none=>rw [Wr] at ht;cases ht
  |some τ=>
   have hd:=(hT.ty t τ Wr).desc
   rw [Wr] at ht
   cases τ<;>first|exact hd|cases ht
 obtain ⟨u,hu⟩:=hu
 unfold Op.equal
 rw [show Op.maxDepth=9999+1 from rfl]
 unfold Op.equalIn
 rw [Sem.run_bind,run_underlying hu]
 cases a<;>rfl
theorem vn {T:Tab} (hT:Du P T) (op:BinOp) (x y:AV) (vx vy:Value) (ox oy:Operand) (t:TypeId) (av:AV) (hx:Bf X w π H x vx) (hy:Bf X w π H y vy) (h:Sp T op t x y=some av):
  ∃v,(do eqGuard op t ox oy vx vy;binOp op t vx vy:Sem Value).run P w= .ok v w/\Bf X w π H av v:=by
 unfold Sp at h
 split at h
 ·split at h
  ·rename_i ht
   cases hn:cj x with
   |none=>rw [hn] at h;cases h
   |some b=>
    rw [hn] at h
    simp only [Ev,Ov,Aa] at h;subst h
    have hy:vy= .slice none 0 0:=hy
    subst hy
    obtain ⟨⟨a,len,cap,rfl,_⟩,h2⟩:=zf hT hx hn ht
    exact ⟨.bool b,by rw [Sem.run_bind];simp [eqGuard,binOp,h2],Ln _ _⟩
  ·cases h
 ·split at h
  ·rename_i ht
   cases hn:cg x with
   |none=>rw [hn] at h;cases h
   |some b=>
    rw [hn] at h
    simp only [Ev,Ov,Aa] at h;subst h
    have hy:vy= .pointer none:=hy
    subst hy
    obtain ⟨⟨a,rfl,_⟩,h2⟩:=ze hT hx hn ht
    exact ⟨.bool b,by rw [Sem.run_bind];simp [eqGuard,binOp,h2],Ln _ _⟩
  ·cases h
 ·split at h
  ·rename_i ht
   cases hn:cj x with
   |none=>rw [hn] at h;cases h
   |some b=>
    rw [hn] at h
    simp only [Ev,Ov,Aa] at h;subst h
    have hy:vy= .slice none 0 0:=hy
    subst hy
    obtain ⟨⟨a,len,cap,rfl,_⟩,h2⟩:=zf hT hx hn ht
    exact ⟨.bool (!b),by rw [Sem.run_bind];simp [eqGuard,binOp,h2],Ln _ _⟩
  ·cases h
 ·split at h
  ·rename_i ht
   cases hn:cg x with
   |none=>rw [hn] at h;cases h
   |some b=>
    rw [hn] at h
    simp only [Ev,Ov,Aa] at h;subst h
    have hy:vy= .pointer none:=hy
    subst hy
    obtain ⟨⟨a,rfl,_⟩,h2⟩:=ze hT hx hn ht
    exact ⟨.bool (!b),by rw [Sem.run_bind];simp [eqGuard,binOp,h2],Ln _ _⟩
  ·cases h
 ·rename_i a _ b
  have:=Yh hx;subst this
  have:=Yh hy;subst this
  split at h
  ·rename_i ht
   simp only [Ov,Aa] at h;subst h
   have hu:P.underlying t=some .bool:=(hT.ty t _ ht).desc
   exact ⟨_,by rw [Sem.run_bind];simp [eqGuard,binOp,gz hu],Ln _ _⟩
  ·cases h
 ·rename_i a _ b
  have:=Yh hx;subst this
  have:=Yh hy;subst this
  split at h
  ·rename_i ht
   simp only [Ov,Aa] at h;subst h
   have hu:P.underlying t=some .bool:=(hT.ty t _ ht).desc
   exact ⟨_,by rw [Sem.run_bind];simp [eqGuard,binOp,gz hu],Ln _ _⟩
  ·cases h
 ·exact yk op x y vx vy ox oy t av hx hy h
theorem CA (op:UnOp) (x:AV) (vx:Value) (av:AV) (hx:Bf X w π H x vx) (h:vu op x=some av):
  ∃v,(Op.unary op vx).run P w= .ok v w/\Bf X w π H av v:=by
 unfold vu at h
 split at h
 ·have:=Yh hx;subst this
  simp only [Ov,Aa] at h;subst h
  exact ⟨_,by simp [Op.unary],Ln _ _⟩
 ·have:=Ph hx;subst this
  simp only [Zh,Aa] at h;subst h
  exact ⟨_,by simp [Op.unary,Op.intArith],Mo _ _ _⟩
 ·cases h
theorem Hx {t:TypeId} {τ:Ty} (ht:pd P T t τ) (g o:Nat) (es:List Value) (hl:es.length=τ.size) (hc: ∀j u,es[j]?=some u->w.cell? ⟨g,o+j,none⟩=some u):
  (loadVar t ⟨g,o,none⟩).run P w= .ok (Bs τ es) w:=by
 unfold loadVar
 rw [Sem.run_bind,ht.agg,Result.andThen_ok]
 cases hs:τ.Ap with
 |true=>
  simp only [Qf,Sem.run_bind,ht.size,Result.andThen_ok]
  rw [<-hl,run_loadCells_list w ⟨g,o,none⟩ es (λj v hv=>by rw [Addr.add_lit];exact hc j v hv)]
  simp [Bs,hs]
 |false=>
  have h1:τ.size=1:=by cases τ<;>simp_all [Ty.Ap,Ty.size]
  rw [h1] at hl
  obtain ⟨u,rfl⟩:=Dy.1 hl
  have:=hc 0 u rfl
  simp only [Dz] at this
  simp [this,Bs,hs]
theorem qJ {fr:Bool} {τ:Ty} {x:τ.den} {v:Value} (h:Bf X w π H (.at (.data fr τ x)) v):Bf X w π H (.at (.data (fr||τ.flat) τ x)) v:=by
 cases hf:τ.flat with
 |true=>exact Cz.flat hf h
 |false=>rw [eW];exact h
theorem sw {cs ds:List AC} {us vs:List Value} (h1:Fc X w π H cs us) (h2:Fc X w π H ds vs):Fc X w π H (cs++ds) (us++vs):=by
 have e1:=h1.1
 refine ⟨by simp [h1.1,h2.1],λi c hc=>?_⟩
 by_cases hi:i<cs.length
 ·rw [Aq hi] at hc
  obtain ⟨u,hu,h3⟩:=h1.2 i c hc
  exact ⟨u,by rw [Aq (by omega)];exact hu,h3⟩
 ·rw [Ao (by omega)] at hc
  obtain ⟨u,hu,h3⟩:=h2.2 _ c hc
  exact ⟨u,by rw [Ao (by omega),e1];exact hu,h3⟩
theorem dE {c:AC} {u:Value} (h1:u.oneCell'=true) (h2:Gy X w π H c u):Fc X w π H [c] [u]:=⟨rfl,λi c' hc=>by
 rcases i with _|i
 ·simp at hc;subst hc;exact ⟨u,rfl,h1,h2⟩
 ·simp at hc⟩
theorem EX {l i:Nat} {e:Ty} {tid:TypeId} {xs:List e.den} {r:Real} (hl:As H l=some (.Gg e tid xs)) (hp:π l=some r) (hi:i<xs.length): ∀(τ:Ty) (c:Nat) (F:List Nat) (us:List Value) (x:τ.den),
  Cp w F τ us x->c+τ.size<=e.size->(∀j u,us[j]?=some u->w.cell? ⟨r.g,(r.o+i)*e.size+(c+j),none⟩=some u)->Fc X w π H (dU l i c τ x) us:=by
 intro τ
 induction τ with
 |unit=>intro c F us x h _ _;simp only [Cp] at h;obtain ⟨_,rfl⟩:=h;exact ⟨rfl,λi c hc=>by simp [dU] at hc⟩
 |pair a r eZ eV=>
  intro c F us x h hle hc
  have rI:=Cp.cells (S:= λ_=>False) F _ us x h (λ_ _ h=>h)
  simp only [Cp] at h
  obtain ⟨c1,c2,F1,F2,rfl,rfl,h1,h2⟩:=h
  have GQ:c1.length=a.size:=Cells.len a c1 x.1 (Cp.cells (S:= λ_=>False) F1 a c1 x.1 h1 (λ_ _ h=>h))
  simp only [Ty.size] at hle
  refine sw (eZ c F1 c1 x.1 h1 (by omega) λj u hu=>hc j u (by rw [Aq (Aj.1 hu).1];exact hu)) (eV (c+a.size) F2 c2 x.2 h2 (by omega) λj u hu=>?_)
  have:=hc (a.size+j) u (by rw [Ao (by omega),GQ];simpa using hu)
  rw [show c+a.size+j=c+(a.size+j) by omega];exact this
 |int k=>intro c F us x h _ _;simp only [Cp] at h;obtain ⟨_,rfl⟩:=h;exact dE rfl (Mo (H:=H) k x true)
 |bool=>intro c F us x h _ _;simp only [Cp] at h;obtain ⟨_,rfl⟩:=h;exact dE rfl (Ln (H:=H) x true)
 |str=>intro c F us x h _ _;simp only [Cp] at h;obtain ⟨_,rfl⟩:=h;exact dE rfl (jR (H:=H) x true)
 |slice e'=>
  intro c F us x h hle hc
  simp only [Cp] at h
  obtain ⟨a,len,cap,rfl,_⟩:=h
  exact dE rfl ⟨r,_,e.size,xs.length,hl,rfl,hp,hi,⟨by simp only [Ty.size] at hle;omega,_,_,_,rfl⟩,by simpa using hc 0 _ rfl⟩
 |_=>intro c F us x h;simp only [Cp] at h
theorem kN (hT:Du P T) {st:St} {a:Act} (h:Bb X π st a w) (t:TypeId) (p:AV) (vp:Value) (av:AV) (hp:Bf X w π st.heap p vp) (he:Po T st t p=some av):
  ∃v,(Instr.loadAt t vp).run P w= .ok v w/\Bf X w π st.heap av v:=by
 unfold Po at he
 split at he
 ·rename_i τ fr Nr x ht
  split at he
  ·rename_i Sq
   subst Sq
   simp only [Aa] at he;subst he
   have Wr:=hT.ty _ _ ht
   obtain ⟨cs,hc,rfl⟩:=hp
   simp only [Cells] at hc
   obtain ⟨g,o,rfl,hg,hn,es,hl,Va,ay⟩:=hc
   refine ⟨Bs Nr es,?_,qJ (show Bf X w π st.heap (.at (.data fr Nr _)) (Bs Nr es) from ⟨es,ay,rfl⟩)⟩
   have hr:=Hx (P:=P) (w:=w) Wr g o es hl Va
   show (do loadVar t (<-Instr.sureAddr (.pointer (some ⟨g,o,none⟩))):Sem Value).run P w=_
   simpa [Instr.sureAddr] using hr
  ·cases he
 ·rename_i τ fr Nr x ht
  split at he
  ·rename_i Sq
   subst Sq
   simp only [Aa] at he;subst he
   have Wr:=hT.ty _ _ ht
   obtain ⟨cs,hc,rfl⟩:=hp
   simp only [Cells] at hc
   rcases hc with ⟨h0,_⟩|⟨y,g,o,h0,rfl,hg,hn,es,hl,Va,ay⟩
   ·cases h0
   simp only [Aa] at h0;subst h0
   refine ⟨Bs Nr es,?_,qJ (show Bf X w π st.heap (.at (.data fr Nr _)) (Bs Nr es) from ⟨es,ay,rfl⟩)⟩
   have hr:=Hx (P:=P) (w:=w) Wr g o es hl Va
   show (do loadVar t (<-Instr.sureAddr (.pointer (some ⟨g,o,none⟩))):Sem Value).run P w=_
   simpa [Instr.sureAddr] using hr
  ·cases he
 ·rename_i τ l i ht
  have Wr:=hT.ty _ _ ht
  split at he
  ·rename_i tid vs hl
   obtain ⟨r,Tu,vs',h1,h2,rfl⟩:=hp
   unfold St.at at hl
   rw [hl] at h1;cases h1
   obtain ⟨r',h3,h4,cur,h5,h6⟩:=(h.1.heap l).Qq hl
   rw [h2] at h3;cases h3
   split at he
   ·rename_i hs
    split at he
    ·rename_i hlen
     simp only [Aa] at he;subst he
     have Qp:cur.toList.length=vs.length:=h6.1
     refine ⟨_,by
      simp only [Instr.loadAt,Instr.sureAddr]
      simpa using Hx (P:=P) (w:=w) Wr r.g i ((cur.toList.drop i).take τ.size) (by simp at Qp⊢;omega) (λj u hu=>by
       rw [cellOf h5]
       rw [Cn] at hu
       split at hu
       ·rw [Ci] at hu;simpa using hu
       ·cases hu),?_⟩
     exact ⟨_,by simp [Bs,hs],Yg h6 i τ.size⟩
    ·cases he
   ·rename_i hs
    simp only [Gw] at hs
    have h1:τ.size=1:=by cases τ<;>simp_all [Ty.Ap,Ty.size]
    cases hi:vs[i]? with
    |none=>rw [hi] at he;cases he
    |some c=>
     rw [hi] at he
     simp only [Ah,Aa] at he;subst he
     obtain ⟨u,hu,_,hc⟩:=h6.2 i c hi
     refine ⟨u,?_,hc⟩
     simp only [Instr.loadAt,Instr.sureAddr]
     have:=Hx (P:=P) (w:=w) Wr r.g i [u] (by simp [h1]) (λj u' eU=>by
       rcases j with _|j
       ·simp at eU;subst eU;rw [Dz,cellOf h5];simpa using hu
       ·simp at eU)
     simpa [Bs,hs] using this
  ·cases he
 ·rename_i τ l i ht
  have Wr:=hT.ty _ _ ht
  split at he
  ·rename_i fr tr e tid xs hl
   split at he
   ·rename_i heq;subst heq
    obtain ⟨r,b,sz,n,h1,h0,h2,h3,rfl⟩:=hp
    unfold St.at at hl
    rw [hl] at h1;cases h1
    simp only [OB.row,Aa,Ad] at h0
    obtain ⟨rfl,rfl⟩:=h0
    have hb:=(h.1.heap l).Qq hl
    simp only [By,Jo,h3] at hb
    obtain ⟨h4,cur,_,h5,h6,h7,h8,h9,_⟩:=hb
    have hx:xs[i]?=some xs[i]:=Ac h2
    rw [hx] at he
    simp only [Ah,Aa] at he;subst he
    obtain ⟨es,eR,hj,rI⟩:=h9 i _ hx
    refine ⟨Bs e es,?_,qJ (show Bf X w π st.heap (.at (.data fr e _)) (Bs e es) from ⟨es,rI,rfl⟩)⟩
    simp only [Instr.loadAt,Instr.sureAddr]
    simpa using Hx (P:=P) (w:=w) Wr r.g ((r.o+i)*e.size) es eR (λj u hu=>by rw [cellOf h5];exact hj j u hu)
   ·cases he
  ·rename_i e tid xs hl
   split at he
   ·rename_i heq;subst heq
    obtain ⟨r,b,sz,n,h1,h0,h2,h3,rfl⟩:=hp
    unfold St.at at hl
    rw [hl] at h1;cases h1
    simp only [OB.row,Aa,Ad] at h0
    obtain ⟨rfl,rfl⟩:=h0
    have hb:=(h.1.heap l).Qq hl
    simp only [By,Nj,h3] at hb
    obtain ⟨h4,cur,_,h5,h6,h7,h8,Fs,k1,k2,k3,k4⟩:=hb
    have hx:xs[i]?=some xs[i]:=Ac h2
    rw [hx] at he
    simp only [Ah,Aa] at he;subst he
    obtain ⟨es,eR,hj,rI⟩:=k4 i _ _ hx (Ac (by omega))
    have UR:=EX (X:=X) (H:=st.heap) hl h3 h2 e 0 _ es _ rI (by omega) (λj u hu=>by rw [cellOf h5,Db];exact hj j u hu)
    refine ⟨Bs e es,?_,?_⟩
    ·simp only [Instr.loadAt,Instr.sureAddr]
     simpa using Hx (P:=P) (w:=w) Wr r.g ((r.o+i)*e.size) es eR (λj u hu=>by rw [cellOf h5];exact hj j u hu)
    ·cases Up:e.Ap with
     |true=>rw [Ab rfl];exact ⟨es,by simp [Bs,Up],UR⟩
     |false=>
      rw [Ai (by simp)]
      have h1:e.size=1:=by cases e<;>simp_all [Ty.Ap,Ty.size]
      rw [h1] at eR
      obtain ⟨u,rfl⟩:=Dy.1 eR
      have GQ:=UR.1
      generalize dU l i 0 e xs[i]=sc at*
      simp only [Bg,Hr] at GQ
      obtain ⟨c,rfl⟩:=Dy.1 GQ.symm
      obtain ⟨u',eU,_,tA⟩:=UR.2 0 c rfl
      simp at eU;subst eU
      have e1:Bs e [u]=u:=by simp [Bs,Up]
      rw [e1]
      exact tA
   ·cases he
  ·rename_i e te rows kp hl
   split at he
   ·cases he
   ·rename_i Up
    simp only [Gw] at Up
    simp only [Aa] at he;subst he
    obtain ⟨r,b,sz,n,h1,h0,h2,h3,rfl⟩:=hp
    unfold St.at at hl
    rw [hl] at h1;cases h1
    simp only [OB.row,Aa,Ad] at h0
    obtain ⟨rfl,rfl⟩:=h0
    obtain ⟨u,R,k1,k2,k3⟩:=kX h.1 hl h3 h2 (by simp)
    have Yz:τ.size=1:=by cases τ<;>simp_all [Ty.Ap,Ty.size]
    refine ⟨u,?_,r,_,1,rows.length,hl,rfl,h3,h2,⟨by omega,Zp k2⟩,by rw [Et,Dz];exact k1⟩
    simp only [Instr.loadAt,Instr.sureAddr]
    have:=Hx (P:=P) (w:=w) Wr r.g ((r.o+i)*1) [u] (by simp [Yz]) (λj u' eU=>by
     rcases j with _|j
     ·simp at eU;subst eU;rw [Et,Dz];exact k1
     ·simp at eU)
    simpa [Bs,Up] using this
  ·cases he
 ·rename_i τ l i j ht
  have Wr:=hT.ty _ _ ht
  split at he
  ·rename_i e te rows kp hl
   split at he
   ·rename_i heq;subst heq
    simp only [Aa] at he;subst he
    obtain ⟨r,b,n,sz,g,o,len,cap,h1,h0,h2,h3,h4,h5,rfl⟩:=hp
    unfold St.at at hl
    rw [hl] at h1;cases h1
    simp only [OB.rV,Aa,Ad] at h0
    obtain ⟨rfl,rfl⟩:=h0
    obtain ⟨u,R,k1,k2,k3⟩:=kX h.1 hl h2 h3 (by simp)
    rw [h5] at k1
    have hu:=Aw k1
    subst hu
    cases R with
    |none=>obtain ⟨hh,_⟩:=k2;cases hh
    |some q=>
     obtain ⟨ad,hh,g1,g2⟩:=k2
     simp only [Value.slice.injEq,Aa] at hh
     obtain ⟨rfl,rfl,rfl⟩:=hh
     have NZ:=g2 (by omega)
     simp only [Addr.mk.injEq,eY] at NZ
     obtain ⟨rfl,rfl⟩:=NZ
     obtain ⟨f1,cur,ti,f2,f3,f4,f5,f6⟩:=k3
     have hj:(rows.getD i [])[j]?=some ((rows.getD i []).getD j e.zero):=by rw [Al (l:=rows.getD i []),Ac h4];rfl
     obtain ⟨es,eR,c1,c2⟩:=f6 j _ hj
     refine ⟨Bs e es,?_,qJ (fr:=false) (show Bf X w π st.heap (.at (.data false e _)) (Bs e es) from ⟨es,c2,rfl⟩)⟩
     simp only [Instr.loadAt,Instr.sureAddr]
     simpa using Hx (P:=P) (w:=w) Wr q.g ((q.o+0)*e.size+j*e.size) es eR (λm u hu=>by rw [cellOf f2,Dz,<-Cw];exact c1 m u hu)
   ·cases he
  ·cases he
 ·cases he
theorem PF {α:Type} {xs:List α} {n:Int} {x:α} (h:idx xs n=some x):0<=n/\n<xs.length/\xs[n.toNat]?=some x:=by
 unfold idx at h
 split at h
 ·rename_i h0
  have:=(Aj.1 h).1
  exact ⟨h0,by omega,h⟩
 ·cases h
theorem oL (hT:Du P T) {t:TypeId} {e:Ty} (h:(T.elem t).bind T.ty=some e): ∃te,T.elem t=some te/\T.ty te=some e/\P.underlying t=some (.slice te)/\P.elem t=te:=by
 cases ht:T.elem t with
 |none=>rw [ht] at h;cases h
 |some te=>
  rw [ht] at h
  have hu:=hT.elem t te ht
  exact ⟨te,rfl,h,hu,by simp [Program.elem,hu]⟩
theorem kM (hT:Du P T) {st:St} {a:Act} (h:Bb X π st a w) (t:TypeId) (x i:AV) (vx vi:Value) (av:AV) (hx:Bf X w π st.heap x vx) (hi:Bf X w π st.heap i vi)
  (he:Ki T st t x i=some av): ∃v,(Instr.indexAt t vx vi).run P w= .ok v w/\Bf X w π st.heap av v:=by
 unfold Ki at he
 split at he
 ·rename_i fr e xs _ k n
  have:=Ph hi;subst this
  split at he
  ·rename_i iR
   obtain ⟨te,h1,h2,h3,h4⟩:=oL hT iR
   cases hix:idx xs n with
   |none=>rw [hix] at he;cases he
   |some y=>
    rw [hix] at he
    simp only [Ah,Aa] at he;subst he
    obtain ⟨h5,h6,h7⟩:=PF hix
    obtain ⟨cs,hc,rfl⟩:=hx
    simp only [Cells] at hc
    obtain ⟨ad,len,cap,rfl,hlen,pT,CJ⟩:=hc
    rcases CJ with rfl|⟨g,o,rfl,hg,hn,Kp⟩
    ·simp at h6;omega
    ·obtain ⟨es,eR,Va,ay⟩:=Kp _ _ h7
     have Yz:=(hT.ty _ _ h2).size (w:=w)
     refine ⟨.pointer (some ⟨g,o+n.toNat*e.size,none⟩),?_,[_],⟨g,_,rfl,hg,hn,es,eR,Va,ay⟩,by simp [Bs,Ty.Ap]⟩
     simp only [Bs,Ty.Ap,Cy,Sl,fh]
     rw [run_indexAt_slice (P:=P) w t _ _ _ k n (by rw [h3,h4]),Ab ⟨h5,by omega⟩,h4,Yz,Result.andThen_ok,Addr.add_lit]
  ·cases he
 ·rename_i l off len _ k n
  have:=Ph hi;subst this
  split at he
  ·rename_i fr tr e tid xs hl
   split at he
   ·rename_i Jg
    obtain ⟨h1,h2,YR⟩:=Jg
    obtain ⟨h5,h6⟩:=Tc.1 YR
    simp only [Aa] at he;subst he
    have h3:=hT.elem t tid h1
    have h4:P.elem t=tid:=by simp [Program.elem,h3]
    unfold St.at at hl
    have Nt:=hl
    obtain ⟨h8,h9⟩:=Nx (X:=X) (w:=w) hx hl
    cases hp:π l with
    |none=>rw [hp] at h9;obtain ⟨_,_,h9⟩:=h9;omega
    |some r=>
     rw [hp] at h9
     obtain ⟨ad,rfl,oQ,mz⟩:=h9
     have TX:=mz (by omega)
     subst TX
     have Yz:=(hT.ty _ _ h2).size (w:=w)
     refine ⟨.pointer (some ⟨r.g,(r.o+off)*e.size+n.toNat*e.size,none⟩),?_,r,_,e.size,xs.length,Nt,rfl,by omega,hp,?_⟩
     ·rw [run_indexAt_slice (P:=P) w t _ _ _ k n (by rw [h3,h4]),Ab ⟨h5,by omega⟩,h4,Yz,Result.andThen_ok,Addr.add_lit]
     ·rw [<-Fy r.o off n.toNat,Cw (r.o+off)]
   ·cases he
  ·rename_i e tid xs hl
   split at he
   ·rename_i Jg
    obtain ⟨h1,h2,YR⟩:=Jg
    obtain ⟨h5,h6⟩:=Tc.1 YR
    simp only [Aa] at he;subst he
    have h3:=hT.elem t tid h1
    have h4:P.elem t=tid:=by simp [Program.elem,h3]
    unfold St.at at hl
    have Nt:=hl
    obtain ⟨h8,h9⟩:=aM (X:=X) (w:=w) hx hl
    cases hp:π l with
    |none=>rw [hp] at h9;obtain ⟨_,_,h9⟩:=h9;omega
    |some r=>
     rw [hp] at h9
     obtain ⟨ad,rfl,oQ,mz⟩:=h9
     have TX:=mz (by omega)
     subst TX
     have Yz:=(hT.ty _ _ h2).size (w:=w)
     refine ⟨.pointer (some ⟨r.g,(r.o+off)*e.size+n.toNat*e.size,none⟩),?_,r,_,e.size,xs.length,Nt,rfl,by omega,hp,?_⟩
     ·rw [run_indexAt_slice (P:=P) w t _ _ _ k n (by rw [h3,h4]),Ab ⟨h5,by omega⟩,h4,Yz,Result.andThen_ok,Addr.add_lit]
     ·rw [<-Fy r.o off n.toNat,Cw (r.o+off)]
   ·cases he
  ·rename_i e te rows out kp hl
   split at he
   ·rename_i Jg
    obtain ⟨h1,h2,YR⟩:=Jg
    obtain ⟨h5,h6⟩:=Tc.1 YR
    simp only [Aa] at he;subst he
    have h3:=hT.elem t te h1
    have h4:P.elem t=te:=by simp [Program.elem,h3]
    unfold St.at at hl
    have Nt:=hl
    obtain ⟨h8,h9⟩:=lH (X:=X) (w:=w) hx hl
    cases hp:π l with
    |none=>rw [hp] at h9;obtain ⟨_,_,h9⟩:=h9;omega
    |some r=>
     rw [hp] at h9
     obtain ⟨ad,rfl,oQ,mz⟩:=h9
     have TX:=mz (by omega)
     subst TX
     cases iS:T.ty te with
     |none=>rw [iS] at h2;cases h2
     |some τ=>
      rw [iS] at h2
      have h2:τ.size=1:=Aw h2
      have Yz:=(hT.ty _ _ iS).size (w:=w)
      refine ⟨.pointer (some ⟨r.g,(r.o+off)*1+n.toNat*τ.size,none⟩),?_,r,_,1,rows.length,Nt,rfl,by omega,hp,?_⟩
      ·rw [run_indexAt_slice (P:=P) w t _ _ _ k n (by rw [h3,h4]),Ab ⟨h5,by omega⟩,h4,Yz,Result.andThen_ok,Addr.add_lit]
      ·rw [h2,<-Fy r.o off n.toNat,Cw (r.o+off)]
   ·cases he
  ·cases he
 ·rename_i l i c _ k n
  have:=Ph hi;subst this
  split at he
  ·rename_i e te rows kp hl
   split at he
   ·rename_i Jg
    obtain ⟨h2,YR⟩:=Jg
    obtain ⟨h5,h6⟩:=Tc.1 YR
    simp only [Aa] at he;subst he
    cases iS:T.elem t with
    |none=>rw [iS] at h2;cases h2
    |some Qo=>
     rw [iS] at h2
     cases Wr:T.ty Qo with
     |none=>rw [Ev,Wr] at h2;cases h2
     |some τ=>
      rw [Ev,Wr] at h2
      have h2:τ.size=e.size:=Aw h2
      have h3:=hT.elem t Qo iS
      have h4:P.elem t=Qo:=by simp [Program.elem,h3]
      unfold St.at at hl
      obtain ⟨r,b,sz,m,g1,g0,g2,g3,⟨g4,_⟩,g5⟩:=hx
      rw [hl] at g1;cases g1
      simp only [OB.ez,Aa,Ad] at g0
      obtain ⟨rfl,rfl⟩:=g0
      have ko:c=0:=by omega
      subst ko
      rw [Et,Dz] at g5
      obtain ⟨u,R,k1,k2,k3⟩:=kX h.1 hl g2 g3 (by simp)
      rw [g5] at k1
      have hu:=Aw k1
      subst hu
      cases R with
      |none=>obtain ⟨_,_,hh⟩:=k2;omega
      |some q=>
       obtain ⟨ad,rfl,f1,f2⟩:=k2
       have NZ:=f2 (by omega)
       subst NZ
       have Yz:=(hT.ty _ _ Wr).size (w:=w)
       refine ⟨.pointer (some ⟨q.g,(q.o+0)*e.size+n.toNat*τ.size,none⟩),?_,r,_,rows.length,e.size,q.g,(q.o+0)*e.size,_,_,hl,rfl,g2,g3,by omega,g5,by rw [h2]⟩
       rw [run_indexAt_slice (P:=P) w t _ _ _ k n (by rw [h3,h4]),Ab ⟨h5,by omega⟩,h4,Yz,Result.andThen_ok,Addr.add_lit]
   ·cases he
  ·cases he
 ·cases he
end
end Go.Proofs.Ytkkdpknjohcekaa
