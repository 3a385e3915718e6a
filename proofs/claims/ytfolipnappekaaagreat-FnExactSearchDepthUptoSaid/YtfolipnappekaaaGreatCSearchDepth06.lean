/-
  Part 7 of the proof that the statement FnExactSearchDepth holds.
-/
import Derived.Test.YtfolipnappekaaaGreatCSearchDepth05
namespace Go.Proofs.YtfolipnappekaaaGreat
open Go.RowKit
section
variable {P:Program} {T:Tab} {X:Ctx} {w w':World} {π:Pi} {H:List (Nat×OB)}
def QN (P:Program) (X:Ctx) (π:Pi) (H:List (Nat×OB)) (w:World) (av:AV):Result Next->Prop
 | .ok (.value v) w'=>w'=w/\Bu X w π H av v
 | .ok (.enter f args) w'=>w'=w/\Calls P f args w (λe ry=> ∃v,e= .returned v/\Below w.heap.size w ry/\Bu X ry π H av v)
 |_=>False
def lJ (s:Spec) (w:World) (S:Nat->Prop) (v:Value) (y:s.res.den):Prop:=
 if s.Gy then ∃us:List Value,v= .tuple us.toArray/\Cv w S s.res us y else Cs w S s.res v y
structure Sound (P:Program) (f:FuncId) (s:Spec):Prop where
 enter: ∀args w,(callFunc f args).run P w= .ok (.enter f args) w
 calls: ∀(w:World) (S:Nat->Prop) (vs:List Value) (x:s.arg.den) (y:s.res.den),(∀k,S k->k<w.heap.size)->Cv w S s.arg vs x->s.fn x=some y->
  Calls P f vs.toArray w λe w'=> ∃v,e= .returned v/\Below w.heap.size w w'/\lJ s w' (λb=>S b\/(s.fresh=true/\b<w.heap.size)) v y
def fU (w:World) (D:Nat->Prop) (r:Option Real):(c:CK)->c.den->Prop
 | .Eu _,_=>r=none
 | .row e _,xs=>Sy w D r e xs
 | .Hi e te,xs=>Nu w r e te xs
 | .part e _,x=>e.flat=true/\Sy w D r e x.1
 | .Bm e _ _,rows=>aA w D r e rows none
def eF (w:World) (D:Nat->Prop) (r:Option Real) (v:Value):(c:CK)->c.den->Prop
 | .Eu τ,x=>r=none/\Cs w D τ v x
 | .row e te,xs=>Hw r e.size 0 (List.length xs) v/\fU w D r (.row e te) xs
 | .Hi e te,xs=>Hw r e.size 0 (List.length xs) v/\fU w D r (.Hi e te) xs
 | .part e te,x=>(Hw r e.size x.2.1 x.2.2 v/\x.2.1+x.2.2<=List.length x.1)/\fU w D r (.part e te) x
 | .Bm e te kp,rows=>Hw r 1 0 (List.length rows) v/\fU w D r (.Bm e te kp) rows
def eH (w:World) (D:Nat->Prop) (π:Pi):(k:Nat)->(cs:List (Bool×CK))->Ins.den cs->List Value->Prop
 |_,[],_,[]=>True
 |k,p::r,x,u::us=>eF w D (π (Dr p.1 k)) u p.2 x.1/\eH w D π (k+1) r x.2 us
 |_,_,_,_=>False
def Ll (w:World) (D:Nat->Prop) (π:Pi):(k:Nat)->(cs:List (Bool×CK))->IOs.den cs->Prop
 |_,[],_=>True
 |k,(true, .Eu _)::r,x=>Ll w D π (k+1) r x
 |k,(true, .Bm _ _ _)::r,x=>Ll w D π (k+1) r x
 |k,(true, .row e te)::r,x=>fU w D (π (Dr true k)) (.row e te) x.1/\Ll w D π (k+1) r x.2
 |k,(true, .Hi e te)::r,x=>fU w D (π (Dr true k)) (.Hi e te) x.1/\Ll w D π (k+1) r x.2
 |k,(true, .part e te)::r,x=>fU w D (π (Dr true k)) (.row e te) x.1/\Ll w D π (k+1) r x.2
 |k,(false,_)::r,x=>Ll w D π (k+1) r x
def Jb (w:World) (D:Nat->Prop) (ρ:Pi):(k:Nat)->(cs:List CK)->CKs.den cs->List Value->Prop
 |_,[],_,[]=>True
 |k,c::r,x,u::us=>eF w D (ρ (Jp k)) u c x.1/\Jb w D ρ (k+1) r x.2 us
 |_,_,_,_=>False
structure eI (π:Pi) (A:Nat->Prop):Prop where
 aL: ∀l r b,π l=some r->r.Ct b->A b
 inj: ∀l l' r r' b,π l=some r->π l'=some r'->r.Ct b->r'.Ct b->l=l'
def cT:List (Option Nat)->List Value->Prop
 | [],[]=>True
 |none::s,_::us=>cT s us
 |some n::s,us=>n<=us.length/\(∀u∈us.take n,u.oneCell'=true)/\cT s (us.drop n)
 |_,_=>False
def Abe (Gy:Bool) (sh:List (Option Nat)) (us:List Value) (v:Value):Prop:=if Gy then v= .tuple (Ko sh us).toArray else Ko sh us= [v]\/Ko sh us= []
def gH (S:Nat->Prop) (π ρ:Pi) (b:Nat):Prop:=S b\/(∃l q,Bn<=l/\π l=some q/\q.Ct b)\/Ud ρ b
def oR (s:MSpec) (w:World) (g:Nat) (us vs:List Value):Prop:=
 match s.ptr with
 |none=>vs=Ko s.Je us/\cT s.Je us
 |some p=>vs= .pointer (some ⟨g,0,none⟩)::Ko s.Je (us.drop p.2)/\cT s.Je (us.drop p.2)/\p.2<=us.length/\w.heap[g]?=some (.cells (us.take p.2).toArray p.1 (0,0))/\ ∀u∈us.take p.2,u.oneCell'=true
def MSpec.gv (s:MSpec) (g b:Nat):Prop:=s.ptr.isSome=true/\b=g
def Ej (π:Pi):(k:Nat)->(cs:List (Bool×CK))->IOs.den cs->(n:Nat)->List Value->List Value->Prop
 |_,_,_,0,us,_=>us= []
 |k,(true, .row e _)::r,o,n+1,u::us,as=>Hw (π (Dr true k)) e.size 0 (List.length o.1) u/\Ej π (k+1) r o.2 n us as
 |k,(true, .Hi e _)::r,o,n+1,u::us,as=>Hw (π (Dr true k)) e.size 0 (List.length o.1) u/\Ej π (k+1) r o.2 n us as
 |k,(false,_)::r,o,n+1,u::us,a::as=>u=a/\Ej π (k+1) r o n us as
 |_,_,_,_,_,_=>False
def gU (s:MSpec) (π:Pi) (w':World) (g:Nat) (Sb:List Value) (o:IOs.den s.ins):Prop:=
 match s.ptr with
 |none=>True
 |some p=> ∃cs,w'.heap[g]?=some (.cells cs.toArray p.1 (0,0))/\(∀u∈cs,u.oneCell'=true)/\Ej π 0 s.ins o p.2 cs Sb
def xG (w w':World) (r r':Option Real) (n:Nat):Prop:=match r,r' with
 |none,none=>True
 |some q,some q'=>q'.g=q.g/\q'.o=q.o/\q'.cap=q.cap/\ ∀j,j<n->j<q.cap->w'.cell? ⟨q.g,q.o+j,none⟩=w.cell? ⟨q.g,q.o+j,none⟩
 |_,_=>False
def qh (s:MSpec) (w':World) (ρ:Pi) (us:List Value) (v:Value):Prop:=match s.rp with
 |none=>Abe s.Gy s.Hz us v/\cT s.Hz us
 |some tid=> ∃q,ρ (Jp s.outs.length)=some q/\q.Ct q.g/\w'.heap[q.g]?=some (.cells us.toArray tid (0,0))/\(∀u∈us,u.oneCell'=true)/\v= .pointer (some ⟨q.g,0,none⟩)
def MSpec.Tx (s:MSpec):Nat:=s.outs.length+(match s.rp with|none=>0|some _=>1)
structure By (P:Program) (f:FuncId) (s:MSpec):Prop where
 enter: ∀args w,(callFunc f args).run P w= .ok (.enter f args) w
 calls: ∀(w:World) (S:Nat->Prop) (π:Pi) (us:List Value) (x:Ins.den s.ins) (r:CKs.den s.outs) (o:IOs.den s.ins) (g:Nat) (vs:List Value),
  oR s w g us vs->(s.ptr.isSome=true->S g)->eH w (λb=>Ud π b\/S b) π 0 s.ins x us->eI π (λb=>b<w.heap.size)->(∀b,S b->b<w.heap.size/\ ¬Ud π b)->(∀l,Au (Zs 0 s.ins x) l=none->π l=none)->s.fn x=some (r,o)->
  Calls P f vs.toArray w λe w'=> ∃v Sb ρ,e= .returned v/\qh s w' ρ (Sb.drop s.Zv) v/\gU s π w' g Sb o/\Gw w.heap.size (λb=>Ud π b\/s.gv g b) w w'/\Ll w' (gH S π ρ) π 0 s.ins o/\Jb w' (gH S π ρ) ρ 0 s.outs r Sb/\
   eI ρ (λb=>b<w'.heap.size/\(w.heap.size<=b\/ ∃l q,l<Bn/\π l=some q/\q.Ct b))/\(∀l,(∀k,k<s.Tx->l≠Jp k)->ρ l=none)/\(∀kj∈s.keeps,xG w w' (π (Dr false kj.1)) (ρ (Jp kj.2)) (s.Ez x))
def Aho (P:Program) (f:FuncId):Pc->Prop
 | .q s=>Sound P f s
 | .m s=>By P f s
 | .b s m=>Sound P f s/\By P f m
def Ki (P:Program) (Γ:Env):Prop:= ∀f s,Γ f=some s->Aho P f s
theorem Ki.reg {P:Program} {Γ:Env} (h:Ki P Γ) (draw:Bool):Ki P (BC Γ draw):= λf s hs=>by
 unfold BC at hs
 split at hs
 ·rename_i s0 m Pg
  have:=h f _ Pg
  cases draw with
  |true=>simp only [Ph,Aa] at hs;subst hs;exact this.1
  |false=>simp only [Dh,Tr,Aa] at hs;subst hs;exact this.2
 ·exact h f s hs
theorem Qb {k:IntKind} {n:Int} {fr:Bool} {v:Value} (h:Bu X w π H (.at (.data fr (.int k) n)) v):v= .int k n:=by
 obtain ⟨cs,h1,rfl⟩:=h;simp only [Cells] at h1;subst h1;rfl
theorem a5 {b:Bool} {fr:Bool} {v:Value} (h:Bu X w π H (.at (.data fr .bool b)) v):v= .bool b:=by
 obtain ⟨cs,h1,rfl⟩:=h;simp only [Cells] at h1;subst h1;rfl
theorem fu {s:ByteArray} {fr:Bool} {v:Value} (h:Bu X w π H (.at (.data fr .str s)) v):v= .string s:=by
 obtain ⟨cs,h1,rfl⟩:=h;simp only [Cells] at h1;subst h1;rfl
theorem Oa (k:IntKind) (n:Int) (fr:Bool):Bu X w π H (.at (.data fr (.int k) n)) (.int k n):=⟨[.int k n],rfl,rfl⟩
theorem Mt (b:Bool) (fr:Bool):Bu X w π H (.at (.data fr .bool b)) (.bool b):=⟨[.bool b],rfl,rfl⟩
theorem pB (s:ByteArray) (fr:Bool):Bu X w π H (.at (.data fr .str s)) (.string s):=⟨[.string s],rfl,rfl⟩
theorem Ajp (f:FuncId):Bu X w π H (.at (.clo f [])) (.func (.func f) #[] #[]):=⟨[],rfl,rfl,λi p hi=>by simp at hi⟩
theorem TJ (v:Value):Bu X w π H (mX v) v:=by
 unfold mX
 split
 ·exact Oa _ _ _
 ·exact Mt _ _
 ·exact pB _ _
 ·rfl
 ·rfl
 ·trivial
theorem Du {st:St} {a:Act} (h:sQ X w π st a) (x:Operand):Bu X w π st.heap (st.ev x) (a.eval x):=by
 cases x with
 |tmp t=>exact h.tmps t
 |const v=>exact TJ v
 |global g=>trivial
 |func f=>exact Ajp f
theorem MR (op:BinOp) (k:IntKind) (a b:Int) (t:TypeId) (av:AV) (h:u9 op k a b=some av):
  ∃v,(binOp op t (.int k a) (.int k b)).run P w= .ok v w/\Bu X w π H av v:=by
 cases op<;>simp only [u9,aM,Pd] at h
 case add=>cases h;exact ⟨_,by simp [binOp,Op.intArith],Oa _ _ _⟩
 case sub=>cases h;exact ⟨_,by simp [binOp,Op.intArith],Oa _ _ _⟩
 case mul=>cases h;exact ⟨_,by simp [binOp,Op.intArith],Oa _ _ _⟩
 case quo=>split at h<;>cases h;rename_i hb;exact ⟨_,by simp [binOp,Op.intDiv,hb],Oa _ _ _⟩
 case rem=>split at h<;>cases h;rename_i hb;exact ⟨_,by simp [binOp,Op.intDiv,hb],Oa _ _ _⟩
 case and=>cases h;exact ⟨_,by simp [binOp,Op.intBits],Oa _ _ _⟩
 case or=>cases h;exact ⟨_,by simp [binOp,Op.intBits],Oa _ _ _⟩
 case eql=>cases h;exact ⟨_,by simp [binOp,Op.intCmp],Mt _ _⟩
 case neq=>cases h;exact ⟨_,by simp [binOp,Op.intCmp],Mt _ _⟩
 case lss=>cases h;exact ⟨_,by simp [binOp,Op.intCmp],Mt _ _⟩
 case leq=>cases h;exact ⟨_,by simp [binOp,Op.intCmp],Mt _ _⟩
 case gtr=>cases h;exact ⟨_,by simp [binOp,Op.intCmp],Mt _ _⟩
 case geq=>cases h;exact ⟨_,by simp [binOp,Op.intCmp],Mt _ _⟩
 all_goals cases h
theorem EP (op:BinOp) (x y:AV) (vx vy:Value) (ox oy:Operand) (t:TypeId) (av:AV) (hx:Bu X w π H x vx) (hy:Bu X w π H y vy) (h:evalBin op x y=some av):
  ∃v,(do eqGuard op t ox oy vx vy;binOp op t vx vy:Sem Value).run P w= .ok v w/\Bu X w π H av v:=by
 unfold evalBin at h
 split at h
 ·rename_i k a _ k' b
  have:=Qb hx;subst this
  have:=Qb hy;subst this
  have hg: ∀op,(eqGuard op t ox oy (.int k a) (.int k' b)).run P w= .ok () w:=by intro op;cases op<;>simp [eqGuard]
  split at h
  ·split at h
   ·cases h
   ·rename_i hb
    simp only [aM,Aa] at h;subst h
    exact ⟨_,by rw [Sem.run_bind,hg];simp [binOp,Op.shift,hb],Oa _ _ _⟩
  ·split at h
   ·cases h
   ·rename_i hb
    simp only [aM,Aa] at h;subst h
    exact ⟨_,by rw [Sem.run_bind,hg];simp [binOp,Op.shift,hb],Oa _ _ _⟩
  ·split at h
   ·rename_i hk;subst hk
    obtain ⟨v,h1,h2⟩:=MR (P:=P) (w:=w) (X:=X) (π:=π) (H:=H) op k a b t av h
    exact ⟨v,by rw [Sem.run_bind,hg];exact h1,h2⟩
   ·cases h
 ·rename_i a _ b
  have:=fu hx;subst this
  have:=fu hy;subst this
  have hg: ∀op,(eqGuard op t ox oy (.string a) (.string b)).run P w= .ok () w:=by intro op;cases op<;>simp [eqGuard]
  split at h
  ·simp only [Pd,Aa] at h;subst h
   exact ⟨_,by rw [Sem.run_bind,hg];simp [binOp,Op.stringOp],Mt _ _⟩
  ·simp only [Pd,Aa] at h;subst h
   exact ⟨_,by rw [Sem.run_bind,hg];simp [binOp,Op.stringOp],Mt _ _⟩
  ·split at h
   ·rename_i hl
    simp only [Aa] at h;subst h
    exact ⟨_,by rw [Sem.run_bind,hg];simp only [Result.andThen_ok,binOp];exact run_string_add_sum w a b (by omega),pB _ _⟩
   ·cases h
  ·cases h
 ·cases h
theorem jg {t:TypeId} (h:P.underlying t=some .bool) (a b:Bool) (w:World):(Op.equal t (.bool a) (.bool b)).run P w= .ok (a==b) w:=by
 unfold Op.equal
 rw [show Op.maxDepth=9999+1 from rfl]
 unfold Op.equalIn
 rw [Sem.run_bind,run_underlying h]
 rfl
theorem GZ (hT:Dz P T) {x:AV} {vx:Value} {b:Bool} {t:TypeId} (hx:Bu X w π H x vx) (h:dL x=some b) (ht:(T.elem t).isSome=true):
  (∃a len cap,vx= .slice a len cap/\(match a with|none=>true|some _=>false)=b)/\(Op.equal t vx (.slice none 0 0)).run P w= .ok b w:=by
 have h1: ∃a len cap,vx= .slice a len cap/\(match a with|none=>true|some _=>false)=b:=by
  unfold dL at h
  split at h
  ·simp only [Aa] at h;subst h
   have hx:vx= .slice none 0 0:=hx
   exact ⟨none,0,0,hx,rfl⟩
  ·simp only [Aa] at h;subst h
   obtain ⟨cs,hc,rfl⟩:=hx
   simp only [Cells] at hc
   rcases hc with ⟨rfl,c,rfl⟩|⟨xs,ad,len,cap,rfl,rfl,_⟩
   ·exact ⟨none,0,c,by simp [Ci,Ty.Aq],rfl⟩
   ·exact ⟨some ad,len,cap,by simp [Ci,Ty.Aq],rfl⟩
  ·cases h
 refine ⟨h1,?_⟩
 obtain ⟨a,len,cap,rfl,rfl⟩:=h1
 obtain ⟨te,lb⟩:=gQ.1 ht
 have hu:=hT.elem t te lb
 unfold Op.equal
 rw [show Op.maxDepth=9999+1 from rfl]
 unfold Op.equalIn
 rw [Sem.run_bind,run_underlying hu]
 cases a<;>rfl
theorem GY (hT:Dz P T) {x:AV} {vx:Value} {b:Bool} {t:TypeId} (hx:Bu X w π H x vx) (h:dK x=some b) (ht:Aab (T.ty t)=true):
  (∃a,vx= .pointer a/\(match a with|none=>true|some _=>false)=b)/\(Op.equal t vx (.pointer none)).run P w= .ok b w:=by
 have h1: ∃a,vx= .pointer a/\(match a with|none=>true|some _=>false)=b:=by
  unfold dK at h
  split at h
  ·simp only [Aa] at h;subst h
   have hx:vx= .pointer none:=hx
   exact ⟨none,hx,rfl⟩
  ·simp only [Aa] at h;subst h
   obtain ⟨r,tid,vs,_,_,rfl⟩:=hx
   exact ⟨_,rfl,rfl⟩
  ·simp only [Aa] at h;subst h
   obtain ⟨cs,hc,rfl⟩:=hx
   simp only [Cells] at hc
   rcases hc with ⟨rfl,rfl⟩|⟨xs,g,o,rfl,rfl,_⟩
   ·exact ⟨none,by simp [Ci,Ty.Aq],rfl⟩
   ·exact ⟨some ⟨g,o,none⟩,by simp [Ci,Ty.Aq],rfl⟩
  ·simp only [Aa] at h;subst h
   obtain ⟨cs,hc,rfl⟩:=hx
   simp only [Cells] at hc
   obtain ⟨g,o,rfl,_⟩:=hc
   exact ⟨some ⟨g,o,none⟩,by simp [Ci,Ty.Aq],rfl⟩
  ·cases h
 refine ⟨h1,?_⟩
 obtain ⟨a,rfl,rfl⟩:=h1
 have hu: ∃u,P.underlying t=some (.pointer u):=by
  cases Ya:T.ty t with
  |none=>rw [Ya] at ht;cases ht
  |some τ=>
   have hd:=(hT.ty t τ Ya).desc
   rw [Ya] at ht
   cases τ<;>first|exact hd|cases ht
 obtain ⟨u,hu⟩:=hu
 unfold Op.equal
 rw [show Op.maxDepth=9999+1 from rfl]
 unfold Op.equalIn
 rw [Sem.run_bind,run_underlying hu]
 cases a<;>rfl
theorem zq {T:Tab} (hT:Dz P T) (op:BinOp) (x y:AV) (vx vy:Value) (ox oy:Operand) (t:TypeId) (av:AV) (hx:Bu X w π H x vx) (hy:Bu X w π H y vy) (h:Tv T op t x y=some av):
  ∃v,(do eqGuard op t ox oy vx vy;binOp op t vx vy:Sem Value).run P w= .ok v w/\Bu X w π H av v:=by
 unfold Tv at h
 split at h
 ·split at h
  ·rename_i ht
   cases hn:dL x with
   |none=>rw [hn] at h;cases h
   |some b=>
    rw [hn] at h
    simp only [Fh,Pd,Aa] at h;subst h
    have hy:vy= .slice none 0 0:=hy
    subst hy
    obtain ⟨⟨a,len,cap,rfl,_⟩,h2⟩:=GZ hT hx hn ht
    exact ⟨.bool b,by rw [Sem.run_bind];simp [eqGuard,binOp,h2],Mt _ _⟩
  ·cases h
 ·split at h
  ·rename_i ht
   cases hn:dK x with
   |none=>rw [hn] at h;cases h
   |some b=>
    rw [hn] at h
    simp only [Fh,Pd,Aa] at h;subst h
    have hy:vy= .pointer none:=hy
    subst hy
    obtain ⟨⟨a,rfl,_⟩,h2⟩:=GY hT hx hn ht
    exact ⟨.bool b,by rw [Sem.run_bind];simp [eqGuard,binOp,h2],Mt _ _⟩
  ·cases h
 ·split at h
  ·rename_i ht
   cases hn:dL x with
   |none=>rw [hn] at h;cases h
   |some b=>
    rw [hn] at h
    simp only [Fh,Pd,Aa] at h;subst h
    have hy:vy= .slice none 0 0:=hy
    subst hy
    obtain ⟨⟨a,len,cap,rfl,_⟩,h2⟩:=GZ hT hx hn ht
    exact ⟨.bool (!b),by rw [Sem.run_bind];simp [eqGuard,binOp,h2],Mt _ _⟩
  ·cases h
 ·split at h
  ·rename_i ht
   cases hn:dK x with
   |none=>rw [hn] at h;cases h
   |some b=>
    rw [hn] at h
    simp only [Fh,Pd,Aa] at h;subst h
    have hy:vy= .pointer none:=hy
    subst hy
    obtain ⟨⟨a,rfl,_⟩,h2⟩:=GY hT hx hn ht
    exact ⟨.bool (!b),by rw [Sem.run_bind];simp [eqGuard,binOp,h2],Mt _ _⟩
  ·cases h
 ·rename_i a _ b
  have:=a5 hx;subst this
  have:=a5 hy;subst this
  split at h
  ·rename_i ht
   simp only [Pd,Aa] at h;subst h
   have hu:P.underlying t=some .bool:=(hT.ty t _ ht).desc
   exact ⟨_,by rw [Sem.run_bind];simp [eqGuard,binOp,jg hu],Mt _ _⟩
  ·cases h
 ·rename_i a _ b
  have:=a5 hx;subst this
  have:=a5 hy;subst this
  split at h
  ·rename_i ht
   simp only [Pd,Aa] at h;subst h
   have hu:P.underlying t=some .bool:=(hT.ty t _ ht).desc
   exact ⟨_,by rw [Sem.run_bind];simp [eqGuard,binOp,jg hu],Mt _ _⟩
  ·cases h
 ·exact EP op x y vx vy ox oy t av hx hy h
theorem LY (op:UnOp) (x:AV) (vx:Value) (av:AV) (hx:Bu X w π H x vx) (h:zv op x=some av):
  ∃v,(Op.unary op vx).run P w= .ok v w/\Bu X w π H av v:=by
 unfold zv at h
 split at h
 ·have:=a5 hx;subst this
  simp only [Pd,Aa] at h;subst h
  exact ⟨_,by simp [Op.unary],Mt _ _⟩
 ·have:=Qb hx;subst this
  simp only [aM,Aa] at h;subst h
  exact ⟨_,by simp [Op.unary,Op.intArith],Oa _ _ _⟩
 ·cases h
theorem Io {t:TypeId} {τ:Ty} (ht:oT P T t τ) (g o:Nat) (es:List Value) (hl:es.length=τ.size) (hc: ∀j u,es[j]?=some u->w.cell? ⟨g,o+j,none⟩=some u):
  (loadVar t ⟨g,o,none⟩).run P w= .ok (Ci τ es) w:=by
 unfold loadVar
 rw [Sem.run_bind,ht.agg,Result.andThen_ok]
 cases hs:τ.Aq with
 |true=>
  simp only [Ph,Sem.run_bind,ht.size,Result.andThen_ok]
  rw [<-hl,run_loadCells_list w ⟨g,o,none⟩ es (λj v hv=>by rw [Addr.add_lit];exact hc j v hv)]
  simp [Ci,hs]
 |false=>
  have h1:τ.size=1:=by cases τ<;>simp_all [Ty.Aq,Ty.size]
  rw [h1] at hl
  obtain ⟨u,rfl⟩:=De.1 hl
  have:=hc 0 u rfl
  simp only [Ex] at this
  simp [this,Ci,hs]
theorem uO {fr:Bool} {τ:Ty} {x:τ.den} {v:Value} (h:Bu X w π H (.at (.data fr τ x)) v):Bu X w π H (.at (.data (fr||τ.flat) τ x)) v:=by
 cases hf:τ.flat with
 |true=>exact Cs.flat hf h
 |false=>rw [gO];exact h
theorem wY {cs ds:List AC} {us vs:List Value} (h1:Gi X w π H cs us) (h2:Gi X w π H ds vs):Gi X w π H (cs++ds) (us++vs):=by
 have e1:=h1.1
 refine ⟨by simp [h1.1,h2.1],λi c hc=>?_⟩
 by_cases hi:i<cs.length
 ·rw [At hi] at hc
  obtain ⟨u,hu,h3⟩:=h1.2 i c hc
  exact ⟨u,by rw [At (by omega)];exact hu,h3⟩
 ·rw [Ar (by omega)] at hc
  obtain ⟨u,hu,h3⟩:=h2.2 _ c hc
  exact ⟨u,by rw [Ar (by omega),e1];exact hu,h3⟩
theorem fq {c:AC} {u:Value} (h1:u.oneCell'=true) (h2:Hp X w π H c u):Gi X w π H [c] [u]:=⟨rfl,λi c' hc=>by
 rcases i with _|i
 ·simp at hc;subst hc;exact ⟨u,rfl,h1,h2⟩
 ·simp at hc⟩
theorem PU {l i:Nat} {e:Ty} {tid:TypeId} {xs:List e.den} {r:Real} (hl:Au H l=some (.Gt e tid xs)) (hp:π l=some r) (hi:i<xs.length): ∀(τ:Ty) (c:Nat) (F:List Nat) (us:List Value) (x:τ.den),
  Cg w F τ us x->c+τ.size<=e.size->(∀j u,us[j]?=some u->w.cell? ⟨r.g,(r.o+i)*e.size+(c+j),none⟩=some u)->Gi X w π H (fJ l i c τ x) us:=by
 intro τ
 induction τ with
 |unit=>intro c F us x h _ _;simp only [Cg] at h;obtain ⟨_,rfl⟩:=h;exact ⟨rfl,λi c hc=>by simp [fJ] at hc⟩
 |pair a r mI jX=>
  intro c F us x h hle hc
  have rJ:=Cg.cells (S:= λ_=>False) F _ us x h (λ_ _ h=>h)
  simp only [Cg] at h
  obtain ⟨c1,c2,F1,F2,rfl,rfl,h1,h2⟩:=h
  have jV:c1.length=a.size:=Cells.len a c1 x.1 (Cg.cells (S:= λ_=>False) F1 a c1 x.1 h1 (λ_ _ h=>h))
  simp only [Ty.size] at hle
  refine wY (mI c F1 c1 x.1 h1 (by omega) λj u hu=>hc j u (by rw [At (An.1 hu).1];exact hu)) (jX (c+a.size) F2 c2 x.2 h2 (by omega) λj u hu=>?_)
  have:=hc (a.size+j) u (by rw [Ar (by omega),jV];simpa using hu)
  rw [show c+a.size+j=c+(a.size+j) by omega];exact this
 |int k=>intro c F us x h _ _;simp only [Cg] at h;obtain ⟨_,rfl⟩:=h;exact fq rfl (Oa (H:=H) k x true)
 |bool=>intro c F us x h _ _;simp only [Cg] at h;obtain ⟨_,rfl⟩:=h;exact fq rfl (Mt (H:=H) x true)
 |str=>intro c F us x h _ _;simp only [Cg] at h;obtain ⟨_,rfl⟩:=h;exact fq rfl (pB (H:=H) x true)
 |slice e'=>
  intro c F us x h hle hc
  simp only [Cg] at h
  obtain ⟨a,len,cap,rfl,_⟩:=h
  exact fq rfl ⟨r,_,e.size,xs.length,hl,rfl,hp,hi,⟨by simp only [Ty.size] at hle;omega,_,_,_,rfl⟩,by simpa using hc 0 _ rfl⟩
 |_=>intro c F us x h;simp only [Cg] at h
theorem ng (hT:Dz P T) {st:St} {a:Act} (h:Bl X π st a w) (t:TypeId) (p:AV) (vp:Value) (av:AV) (hp:Bu X w π st.heap p vp) (he:Qd T st t p=some av):
  ∃v,(Instr.loadAt t vp).run P w= .ok v w/\Bu X w π st.heap av v:=by
 unfold Qd at he
 split at he
 ·rename_i τ fr Oe x ht
  split at he
  ·rename_i Tw
   subst Tw
   simp only [Aa] at he;subst he
   have Ya:=hT.ty _ _ ht
   obtain ⟨cs,hc,rfl⟩:=hp
   simp only [Cells] at hc
   obtain ⟨g,o,rfl,hg,hn,es,hl,Zo,bN⟩:=hc
   refine ⟨Ci Oe es,?_,uO (show Bu X w π st.heap (.at (.data fr Oe _)) (Ci Oe es) from ⟨es,bN,rfl⟩)⟩
   have hr:=Io (P:=P) (w:=w) Ya g o es hl Zo
   show (do loadVar t (<-Instr.sureAddr (.pointer (some ⟨g,o,none⟩))):Sem Value).run P w=_
   simpa [Instr.sureAddr] using hr
  ·cases he
 ·rename_i τ fr Oe x ht
  split at he
  ·rename_i Tw
   subst Tw
   simp only [Aa] at he;subst he
   have Ya:=hT.ty _ _ ht
   obtain ⟨cs,hc,rfl⟩:=hp
   simp only [Cells] at hc
   rcases hc with ⟨h0,_⟩|⟨y,g,o,h0,rfl,hg,hn,es,hl,Zo,bN⟩
   ·cases h0
   simp only [Aa] at h0;subst h0
   refine ⟨Ci Oe es,?_,uO (show Bu X w π st.heap (.at (.data fr Oe _)) (Ci Oe es) from ⟨es,bN,rfl⟩)⟩
   have hr:=Io (P:=P) (w:=w) Ya g o es hl Zo
   show (do loadVar t (<-Instr.sureAddr (.pointer (some ⟨g,o,none⟩))):Sem Value).run P w=_
   simpa [Instr.sureAddr] using hr
  ·cases he
 ·rename_i τ l i ht
  have Ya:=hT.ty _ _ ht
  split at he
  ·rename_i tid vs hl
   obtain ⟨r,Ux,vs',h1,h2,rfl⟩:=hp
   unfold St.at at hl
   rw [hl] at h1;cases h1
   obtain ⟨r',h3,h4,cur,h5,h6⟩:=(h.1.heap l).Qi hl
   rw [h2] at h3;cases h3
   split at he
   ·rename_i hs
    split at he
    ·rename_i hlen
     simp only [Aa] at he;subst he
     have Pw:cur.toList.length=vs.length:=h6.1
     refine ⟨_,by
      simp only [Instr.loadAt,Instr.sureAddr]
      simpa using Io (P:=P) (w:=w) Ya r.g i ((cur.toList.drop i).take τ.size) (by simp at Pw⊢;omega) (λj u hu=>by
       rw [cellOf h5]
       rw [Cx] at hu
       split at hu
       ·rw [Cw] at hu;simpa using hu
       ·cases hu),?_⟩
     exact ⟨_,by simp [Ci,hs],Zz h6 i τ.size⟩
    ·cases he
   ·rename_i hs
    simp only [Ii] at hs
    have h1:τ.size=1:=by cases τ<;>simp_all [Ty.Aq,Ty.size]
    cases hi:vs[i]? with
    |none=>rw [hi] at he;cases he
    |some c=>
     rw [hi] at he
     simp only [Am,Aa] at he;subst he
     obtain ⟨u,hu,_,hc⟩:=h6.2 i c hi
     refine ⟨u,?_,hc⟩
     simp only [Instr.loadAt,Instr.sureAddr]
     have:=Io (P:=P) (w:=w) Ya r.g i [u] (by simp [h1]) (λj u' eX=>by
       rcases j with _|j
       ·simp at eX;subst eX;rw [Ex,cellOf h5];simpa using hu
       ·simp at eX)
     simpa [Ci,hs] using this
  ·cases he
 ·rename_i τ l i ht
  have Ya:=hT.ty _ _ ht
  split at he
  ·rename_i fr tr e tid xs hl
   split at he
   ·rename_i heq;subst heq
    obtain ⟨r,b,sz,n,h1,h0,h2,h3,rfl⟩:=hp
    unfold St.at at hl
    rw [hl] at h1;cases h1
    simp only [OB.row,Aa,Ad] at h0
    obtain ⟨rfl,rfl⟩:=h0
    have hb:=(h.1.heap l).Qi hl
    simp only [Cj,Jw,h3] at hb
    obtain ⟨h4,cur,_,h5,h6,h7,h8,h9,_⟩:=hb
    have hx:xs[i]?=some xs[i]:=Ac h2
    rw [hx] at he
    simp only [Am,Aa] at he;subst he
    obtain ⟨es,gR,hj,rJ⟩:=h9 i _ hx
    refine ⟨Ci e es,?_,uO (show Bu X w π st.heap (.at (.data fr e _)) (Ci e es) from ⟨es,rJ,rfl⟩)⟩
    simp only [Instr.loadAt,Instr.sureAddr]
    simpa using Io (P:=P) (w:=w) Ya r.g ((r.o+i)*e.size) es gR (λj u hu=>by rw [cellOf h5];exact hj j u hu)
   ·cases he
  ·rename_i e tid xs hl
   split at he
   ·rename_i heq;subst heq
    obtain ⟨r,b,sz,n,h1,h0,h2,h3,rfl⟩:=hp
    unfold St.at at hl
    rw [hl] at h1;cases h1
    simp only [OB.row,Aa,Ad] at h0
    obtain ⟨rfl,rfl⟩:=h0
    have hb:=(h.1.heap l).Qi hl
    simp only [Cj,Nu,h3] at hb
    obtain ⟨h4,cur,_,h5,h6,h7,h8,Fs,k1,k2,k3,k4⟩:=hb
    have hx:xs[i]?=some xs[i]:=Ac h2
    rw [hx] at he
    simp only [Am,Aa] at he;subst he
    obtain ⟨es,gR,hj,rJ⟩:=k4 i _ _ hx (Ac (by omega))
    have hrs:=PU (X:=X) (H:=st.heap) hl h3 h2 e 0 _ es _ rJ (by omega) (λj u hu=>by rw [cellOf h5,Bv];exact hj j u hu)
    refine ⟨Ci e es,?_,?_⟩
    ·simp only [Instr.loadAt,Instr.sureAddr]
     simpa using Io (P:=P) (w:=w) Ya r.g ((r.o+i)*e.size) es gR (λj u hu=>by rw [cellOf h5];exact hj j u hu)
    ·cases Tq:e.Aq with
     |true=>rw [Ab rfl];exact ⟨es,by simp [Ci,Tq],hrs⟩
     |false=>
      rw [Ag (by simp)]
      have h1:e.size=1:=by cases e<;>simp_all [Ty.Aq,Ty.size]
      rw [h1] at gR
      obtain ⟨u,rfl⟩:=De.1 gR
      have jV:=hrs.1
      generalize fJ l i 0 e xs[i]=sc at*
      simp only [Az,Gc] at jV
      obtain ⟨c,rfl⟩:=De.1 jV.symm
      obtain ⟨u',eX,_,FF⟩:=hrs.2 0 c rfl
      simp at eX;subst eX
      have e1:Ci e [u]=u:=by simp [Ci,Tq]
      rw [e1]
      exact FF
   ·cases he
  ·rename_i e te rows kp hl
   split at he
   ·cases he
   ·rename_i Tq
    simp only [Ii] at Tq
    simp only [Aa] at he;subst he
    obtain ⟨r,b,sz,n,h1,h0,h2,h3,rfl⟩:=hp
    unfold St.at at hl
    rw [hl] at h1;cases h1
    simp only [OB.row,Aa,Ad] at h0
    obtain ⟨rfl,rfl⟩:=h0
    obtain ⟨u,R,k1,k2,k3⟩:=nv h.1 hl h3 h2 (by simp)
    have aG:τ.size=1:=by cases τ<;>simp_all [Ty.Aq,Ty.size]
    refine ⟨u,?_,r,_,1,rows.length,hl,rfl,h3,h2,⟨by omega,ba k2⟩,by rw [Fq,Ex];exact k1⟩
    simp only [Instr.loadAt,Instr.sureAddr]
    have:=Io (P:=P) (w:=w) Ya r.g ((r.o+i)*1) [u] (by simp [aG]) (λj u' eX=>by
     rcases j with _|j
     ·simp at eX;subst eX;rw [Fq,Ex];exact k1
     ·simp at eX)
    simpa [Ci,Tq] using this
  ·cases he
 ·rename_i τ l i j ht
  have Ya:=hT.ty _ _ ht
  split at he
  ·rename_i e te rows kp hl
   split at he
   ·rename_i heq;subst heq
    simp only [Aa] at he;subst he
    obtain ⟨r,b,n,sz,g,o,len,cap,h1,h0,h2,h3,h4,h5,rfl⟩:=hp
    unfold St.at at hl
    rw [hl] at h1;cases h1
    simp only [OB.wq,Aa,Ad] at h0
    obtain ⟨rfl,rfl⟩:=h0
    obtain ⟨u,R,k1,k2,k3⟩:=nv h.1 hl h2 h3 (by simp)
    rw [h5] at k1
    have hu:=Ba k1
    subst hu
    cases R with
    |none=>obtain ⟨hh,_⟩:=k2;cases hh
    |some q=>
     obtain ⟨ad,hh,g1,g2⟩:=k2
     simp only [Value.slice.injEq,Aa] at hh
     obtain ⟨rfl,rfl,rfl⟩:=hh
     have MB:=g2 (by omega)
     simp only [Addr.mk.injEq,Oi] at MB
     obtain ⟨rfl,rfl⟩:=MB
     obtain ⟨f1,cur,ti,f2,f3,f4,f5,f6⟩:=k3
     have hj:(rows.getD i [])[j]?=some ((rows.getD i []).getD j e.zero):=by rw [Ak (l:=rows.getD i []),Ac h4];rfl
     obtain ⟨es,gR,c1,c2⟩:=f6 j _ hj
     refine ⟨Ci e es,?_,uO (fr:=false) (show Bu X w π st.heap (.at (.data false e _)) (Ci e es) from ⟨es,c2,rfl⟩)⟩
     simp only [Instr.loadAt,Instr.sureAddr]
     simpa using Io (P:=P) (w:=w) Ya q.g ((q.o+0)*e.size+j*e.size) es gR (λm u hu=>by rw [cellOf f2,Ex,<-Dc];exact c1 m u hu)
   ·cases he
  ·cases he
 ·cases he
theorem Aa5 {α:Type} {xs:List α} {n:Int} {x:α} (h:idx xs n=some x):0<=n/\n<xs.length/\xs[n.toNat]?=some x:=by
 unfold idx at h
 split at h
 ·rename_i h0
  have:=(An.1 h).1
  exact ⟨h0,by omega,h⟩
 ·cases h
theorem su (hT:Dz P T) {t:TypeId} {e:Ty} (h:(T.elem t).bind T.ty=some e): ∃te,T.elem t=some te/\T.ty te=some e/\P.underlying t=some (.slice te)/\P.elem t=te:=by
 cases ht:T.elem t with
 |none=>rw [ht] at h;cases h
 |some te=>
  rw [ht] at h
  have hu:=hT.elem t te ht
  exact ⟨te,rfl,h,hu,by simp [Program.elem,hu]⟩
theorem nf (hT:Dz P T) {st:St} {a:Act} (h:Bl X π st a w) (t:TypeId) (x i:AV) (vx vi:Value) (av:AV) (hx:Bu X w π st.heap x vx) (hi:Bu X w π st.heap i vi)
  (he:Kk T st t x i=some av): ∃v,(Instr.indexAt t vx vi).run P w= .ok v w/\Bu X w π st.heap av v:=by
 unfold Kk at he
 split at he
 ·rename_i fr e xs _ k n
  have:=Qb hi;subst this
  split at he
  ·rename_i l7
   obtain ⟨te,h1,h2,h3,h4⟩:=su hT l7
   cases hix:idx xs n with
   |none=>rw [hix] at he;cases he
   |some y=>
    rw [hix] at he
    simp only [Am,Aa] at he;subst he
    obtain ⟨h5,h6,h7⟩:=Aa5 hix
    obtain ⟨cs,hc,rfl⟩:=hx
    simp only [Cells] at hc
    obtain ⟨ad,len,cap,rfl,hlen,tR,MF⟩:=hc
    rcases MF with rfl|⟨g,o,rfl,hg,hn,Ke⟩
    ·simp at h6;omega
    ·obtain ⟨es,gR,Zo,bN⟩:=Ke _ _ h7
     have aG:=(hT.ty _ _ h2).size (w:=w)
     refine ⟨.pointer (some ⟨g,o+n.toNat*e.size,none⟩),?_,[_],⟨g,_,rfl,hg,hn,es,gR,Zo,bN⟩,by simp [Ci,Ty.Aq]⟩
     simp only [Ci,Ty.Aq,Dh,Tr,gY]
     rw [run_indexAt_slice (P:=P) w t _ _ _ k n (by rw [h3,h4]),Ab ⟨h5,by omega⟩,h4,aG,Result.andThen_ok,Addr.add_lit]
  ·cases he
 ·rename_i l off len _ k n
  have:=Qb hi;subst this
  split at he
  ·rename_i fr tr e tid xs hl
   split at he
   ·rename_i Jn
    obtain ⟨h1,h2,h56⟩:=Jn
    obtain ⟨h5,h6⟩:=Uf.1 h56
    simp only [Aa] at he;subst he
    have h3:=hT.elem t tid h1
    have h4:P.elem t=tid:=by simp [Program.elem,h3]
    unfold St.at at hl
    have Km:=hl
    obtain ⟨h8,h9⟩:=Ok (X:=X) (w:=w) hx hl
    cases hp:π l with
    |none=>rw [hp] at h9;obtain ⟨_,_,h9⟩:=h9;omega
    |some r=>
     rw [hp] at h9
     obtain ⟨ad,rfl,oO,gJ⟩:=h9
     have h12:=gJ (by omega)
     subst h12
     have aG:=(hT.ty _ _ h2).size (w:=w)
     refine ⟨.pointer (some ⟨r.g,(r.o+off)*e.size+n.toNat*e.size,none⟩),?_,r,_,e.size,xs.length,Km,rfl,by omega,hp,?_⟩
     ·rw [run_indexAt_slice (P:=P) w t _ _ _ k n (by rw [h3,h4]),Ab ⟨h5,by omega⟩,h4,aG,Result.andThen_ok,Addr.add_lit]
     ·rw [<-Gm r.o off n.toNat,Dc (r.o+off)]
   ·cases he
  ·rename_i e tid xs hl
   split at he
   ·rename_i Jn
    obtain ⟨h1,h2,h56⟩:=Jn
    obtain ⟨h5,h6⟩:=Uf.1 h56
    simp only [Aa] at he;subst he
    have h3:=hT.elem t tid h1
    have h4:P.elem t=tid:=by simp [Program.elem,h3]
    unfold St.at at hl
    have Km:=hl
    obtain ⟨h8,h9⟩:=c5 (X:=X) (w:=w) hx hl
    cases hp:π l with
    |none=>rw [hp] at h9;obtain ⟨_,_,h9⟩:=h9;omega
    |some r=>
     rw [hp] at h9
     obtain ⟨ad,rfl,oO,gJ⟩:=h9
     have h12:=gJ (by omega)
     subst h12
     have aG:=(hT.ty _ _ h2).size (w:=w)
     refine ⟨.pointer (some ⟨r.g,(r.o+off)*e.size+n.toNat*e.size,none⟩),?_,r,_,e.size,xs.length,Km,rfl,by omega,hp,?_⟩
     ·rw [run_indexAt_slice (P:=P) w t _ _ _ k n (by rw [h3,h4]),Ab ⟨h5,by omega⟩,h4,aG,Result.andThen_ok,Addr.add_lit]
     ·rw [<-Gm r.o off n.toNat,Dc (r.o+off)]
   ·cases he
  ·rename_i e te rows out kp hl
   split at he
   ·rename_i Jn
    obtain ⟨h1,h2,h56⟩:=Jn
    obtain ⟨h5,h6⟩:=Uf.1 h56
    simp only [Aa] at he;subst he
    have h3:=hT.elem t te h1
    have h4:P.elem t=te:=by simp [Program.elem,h3]
    unfold St.at at hl
    have Km:=hl
    obtain ⟨h8,h9⟩:=o4 (X:=X) (w:=w) hx hl
    cases hp:π l with
    |none=>rw [hp] at h9;obtain ⟨_,_,h9⟩:=h9;omega
    |some r=>
     rw [hp] at h9
     obtain ⟨ad,rfl,oO,gJ⟩:=h9
     have h12:=gJ (by omega)
     subst h12
     cases lb:T.ty te with
     |none=>rw [lb] at h2;cases h2
     |some τ=>
      rw [lb] at h2
      have h2:τ.size=1:=Ba h2
      have aG:=(hT.ty _ _ lb).size (w:=w)
      refine ⟨.pointer (some ⟨r.g,(r.o+off)*1+n.toNat*τ.size,none⟩),?_,r,_,1,rows.length,Km,rfl,by omega,hp,?_⟩
      ·rw [run_indexAt_slice (P:=P) w t _ _ _ k n (by rw [h3,h4]),Ab ⟨h5,by omega⟩,h4,aG,Result.andThen_ok,Addr.add_lit]
      ·rw [h2,<-Gm r.o off n.toNat,Dc (r.o+off)]
   ·cases he
  ·cases he
 ·rename_i l i c _ k n
  have:=Qb hi;subst this
  split at he
  ·rename_i e te rows kp hl
   split at he
   ·rename_i Jn
    obtain ⟨h2,h56⟩:=Jn
    obtain ⟨h5,h6⟩:=Uf.1 h56
    simp only [Aa] at he;subst he
    cases lb:T.elem t with
    |none=>rw [lb] at h2;cases h2
    |some Rb=>
     rw [lb] at h2
     cases Ya:T.ty Rb with
     |none=>rw [Fh,Ya] at h2;cases h2
     |some τ=>
      rw [Fh,Ya] at h2
      have h2:τ.size=e.size:=Ba h2
      have h3:=hT.elem t Rb lb
      have h4:P.elem t=Rb:=by simp [Program.elem,h3]
      unfold St.at at hl
      obtain ⟨r,b,sz,m,g1,g0,g2,g3,⟨g4,_⟩,g5⟩:=hx
      rw [hl] at g1;cases g1
      simp only [OB.gi,Aa,Ad] at g0
      obtain ⟨rfl,rfl⟩:=g0
      have l4:c=0:=by omega
      subst l4
      rw [Fq,Ex] at g5
      obtain ⟨u,R,k1,k2,k3⟩:=nv h.1 hl g2 g3 (by simp)
      rw [g5] at k1
      have hu:=Ba k1
      subst hu
      cases R with
      |none=>obtain ⟨_,_,hh⟩:=k2;omega
      |some q=>
       obtain ⟨ad,rfl,f1,f2⟩:=k2
       have MB:=f2 (by omega)
       subst MB
       have aG:=(hT.ty _ _ Ya).size (w:=w)
       refine ⟨.pointer (some ⟨q.g,(q.o+0)*e.size+n.toNat*τ.size,none⟩),?_,r,_,rows.length,e.size,q.g,(q.o+0)*e.size,_,_,hl,rfl,g2,g3,by omega,g5,by rw [h2]⟩
       rw [run_indexAt_slice (P:=P) w t _ _ _ k n (by rw [h3,h4]),Ab ⟨h5,by omega⟩,h4,aG,Result.andThen_ok,Addr.add_lit]
   ·cases he
  ·cases he
 ·cases he
end
end Go.Proofs.YtfolipnappekaaaGreat
