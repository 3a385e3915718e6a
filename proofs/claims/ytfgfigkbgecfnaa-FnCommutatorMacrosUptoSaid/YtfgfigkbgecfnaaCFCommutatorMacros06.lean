/-
  Part 7 of the proof that the statement FnCommutatorMacros holds.
-/
import Derived.Test.YtfgfigkbgecfnaaCFCommutatorMacros05
namespace Go.Proofs.Ytfgfigkbgecfnaa
open Go.RowKit
section
variable {P:Program} {T:Tab} {X:Ctx} {w w':World} {π:Pi} {H:List (Nat×OB)}
def xe (P:Program) (X:Ctx) (π:Pi) (H:List (Nat×OB)) (w:World) (av:AV):Result Next->Prop
 | .ok (.value v) w'=>w'=w/\Ba X w π H av v
 | .ok (.enter f args) w'=>w'=w/\Calls P f args w (λe kF=> ∃v,e= .returned v/\Below w.heap.size w kF/\Ba X kF π H av v)
 |_=>False
def fG (s:Spec) (w:World) (S:Nat->Prop) (v:Value) (y:s.res.den):Prop:=
 if s.Hy then ∃us:List Value,v= .tuple us.toArray/\Bv w S s.res us y else Ck w S s.res v y
structure Sound (P:Program) (f:FuncId) (s:Spec):Prop where
 enter: ∀args w,(callFunc f args).run P w= .ok (.enter f args) w
 calls: ∀(w:World) (S:Nat->Prop) (vs:List Value) (x:s.arg.den) (y:s.res.den),(∀k,S k->k<w.heap.size)->Bv w S s.arg vs x->s.fn x=some y->
  Calls P f vs.toArray w λe w'=> ∃v,e= .returned v/\Below w.heap.size w w'/\fG s w' (λb=>S b\/(s.fresh=true/\b<w.heap.size)) v y
def bQ (w:World) (D:Nat->Prop) (r:Option Real):(c:CK)->c.den->Prop
 | .Ji _,_=>r=none
 | .row e _,xs=>Oe w D r e xs
 | .Fl e te,xs=>Kz w r e te xs
 | .part e _,x=>e.flat=true/\Oe w D r e x.1
 | .Bc e _ _,rows=>Uy w D r e rows none
def aI (w:World) (D:Nat->Prop) (r:Option Real) (v:Value):(c:CK)->c.den->Prop
 | .Ji τ,x=>r=none/\Ck w D τ v x
 | .row e te,xs=>Fm r e.size 0 (List.length xs) v/\bQ w D r (.row e te) xs
 | .Fl e te,xs=>Fm r e.size 0 (List.length xs) v/\bQ w D r (.Fl e te) xs
 | .part e te,x=>(Fm r e.size x.2.1 x.2.2 v/\x.2.1+x.2.2<=List.length x.1)/\bQ w D r (.part e te) x
 | .Bc e te kp,rows=>Fm r 1 0 (List.length rows) v/\bQ w D r (.Bc e te kp) rows
def aK (w:World) (D:Nat->Prop) (π:Pi):(k:Nat)->(cs:List (Bool×CK))->Ins.den cs->List Value->Prop
 |_,[],_,[]=>True
 |k,p::r,x,u::us=>aI w D (π (Cp p.1 k)) u p.2 x.1/\aK w D π (k+1) r x.2 us
 |_,_,_,_=>False
def Jc (w:World) (D:Nat->Prop) (π:Pi):(k:Nat)->(cs:List (Bool×CK))->IOs.den cs->Prop
 |_,[],_=>True
 |k,(true, .Ji _)::r,x=>Jc w D π (k+1) r x
 |k,(true, .Bc _ _ _)::r,x=>Jc w D π (k+1) r x
 |k,(true, .row e te)::r,x=>bQ w D (π (Cp true k)) (.row e te) x.1/\Jc w D π (k+1) r x.2
 |k,(true, .Fl e te)::r,x=>bQ w D (π (Cp true k)) (.Fl e te) x.1/\Jc w D π (k+1) r x.2
 |k,(true, .part e te)::r,x=>bQ w D (π (Cp true k)) (.row e te) x.1/\Jc w D π (k+1) r x.2
 |k,(false,_)::r,x=>Jc w D π (k+1) r x
def Gk (w:World) (D:Nat->Prop) (ρ:Pi):(k:Nat)->(cs:List CK)->CKs.den cs->List Value->Prop
 |_,[],_,[]=>True
 |k,c::r,x,u::us=>aI w D (ρ (Hb k)) u c x.1/\Gk w D ρ (k+1) r x.2 us
 |_,_,_,_=>False
structure aL (π:Pi) (A:Nat->Prop):Prop where
 Vy: ∀l r b,π l=some r->r.Bu b->A b
 inj: ∀l l' r r' b,π l=some r->π l'=some r'->r.Bu b->r'.Bu b->l=l'
def Yt:List (Option Nat)->List Value->Prop
 | [],[]=>True
 |none::s,_::us=>Yt s us
 |some n::s,us=>n<=us.length/\(∀u∈us.take n,u.oneCell'=true)/\Yt s (us.drop n)
 |_,_=>False
def DR (Hy:Bool) (sh:List (Option Nat)) (us:List Value) (v:Value):Prop:=if Hy then v= .tuple (Ie sh us).toArray else Ie sh us= [v]\/Ie sh us= []
def aJ (S:Nat->Prop) (π ρ:Pi) (b:Nat):Prop:=S b\/(∃l q,Az<=l/\π l=some q/\q.Bu b)\/Qk ρ b
def iT (s:MSpec) (w:World) (g:Nat) (us vs:List Value):Prop:=
 match s.ptr with
 |none=>vs=Ie s.Jg us/\Yt s.Jg us
 |some p=>vs= .pointer (some ⟨g,0,none⟩)::Ie s.Jg (us.drop p.2)/\Yt s.Jg (us.drop p.2)/\p.2<=us.length/\w.heap[g]?=some (.cells (us.take p.2).toArray p.1 (0,0))/\ ∀u∈us.take p.2,u.oneCell'=true
def MSpec.gv (s:MSpec) (g b:Nat):Prop:=s.ptr.isSome=true/\b=g
def Di (π:Pi):(k:Nat)->(cs:List (Bool×CK))->IOs.den cs->(n:Nat)->List Value->List Value->Prop
 |_,_,_,0,us,_=>us= []
 |k,(true, .row e _)::r,o,n+1,u::us,as=>Fm (π (Cp true k)) e.size 0 (List.length o.1) u/\Di π (k+1) r o.2 n us as
 |k,(true, .Fl e _)::r,o,n+1,u::us,as=>Fm (π (Cp true k)) e.size 0 (List.length o.1) u/\Di π (k+1) r o.2 n us as
 |k,(false,_)::r,o,n+1,u::us,a::as=>u=a/\Di π (k+1) r o n us as
 |_,_,_,_,_,_=>False
def cE (s:MSpec) (π:Pi) (w':World) (g:Nat) (Qu:List Value) (o:IOs.den s.ins):Prop:=
 match s.ptr with
 |none=>True
 |some p=> ∃cs,w'.heap[g]?=some (.cells cs.toArray p.1 (0,0))/\(∀u∈cs,u.oneCell'=true)/\Di π 0 s.ins o p.2 cs Qu
def oN (w w':World) (r r':Option Real) (n:Nat):Prop:=match r,r' with
 |none,none=>True
 |some q,some q'=>q'.g=q.g/\q'.o=q.o/\q'.cap=q.cap/\ ∀j,j<n->j<q.cap->w'.cell? ⟨q.g,q.o+j,none⟩=w.cell? ⟨q.g,q.o+j,none⟩
 |_,_=>False
def jG (s:MSpec) (w':World) (ρ:Pi) (us:List Value) (v:Value):Prop:=match s.rp with
 |none=>DR s.Hy s.Ia us v/\Yt s.Ia us
 |some tid=> ∃q,ρ (Hb s.outs.length)=some q/\q.Bu q.g/\w'.heap[q.g]?=some (.cells us.toArray tid (0,0))/\(∀u∈us,u.oneCell'=true)/\v= .pointer (some ⟨q.g,0,none⟩)
def MSpec.Pr (s:MSpec):Nat:=s.outs.length+(match s.rp with|none=>0|some _=>1)
structure Jd (P:Program) (f:FuncId) (s:MSpec):Prop where
 enter: ∀args w,(callFunc f args).run P w= .ok (.enter f args) w
 calls: ∀(w:World) (S:Nat->Prop) (π:Pi) (us:List Value) (x:Ins.den s.ins) (r:CKs.den s.outs) (o:IOs.den s.ins) (g:Nat) (vs:List Value),
  iT s w g us vs->(s.ptr.isSome=true->S g)->aK w (λb=>Qk π b\/S b) π 0 s.ins x us->aL π (λb=>b<w.heap.size)->(∀b,S b->b<w.heap.size/\ ¬Qk π b)->(∀l,Ap (Ug 0 s.ins x) l=none->π l=none)->s.fn x=some (r,o)->
  Calls P f vs.toArray w λe w'=> ∃v Qu ρ,e= .returned v/\jG s w' ρ (Qu.drop s.Ui) v/\cE s π w' g Qu o/\Gw w.heap.size (λb=>Qk π b\/s.gv g b) w w'/\Jc w' (aJ S π ρ) π 0 s.ins o/\Gk w' (aJ S π ρ) ρ 0 s.outs r Qu/\
   aL ρ (λb=>b<w'.heap.size/\(w.heap.size<=b\/ ∃l q,l<Az/\π l=some q/\q.Bu b))/\(∀l,(∀k,k<s.Pr->l≠Hb k)->ρ l=none)/\(∀kj∈s.keeps,oN w w' (π (Cp false kj.1)) (ρ (Hb kj.2)) (s.Ep x))
def JU (P:Program) (f:FuncId):lp->Prop
 | .q s=>Sound P f s
 | .m s=>Jd P f s
 | .b s m=>Sound P f s/\Jd P f m
def Ib (P:Program) (Γ:Env):Prop:= ∀f s,Γ f=some s->JU P f s
theorem Ib.reg {P:Program} {Γ:Env} (h:Ib P Γ) (draw:Bool):Ib P (rz Γ draw):= λf s hs=>by
 unfold rz at hs
 split at hs
 ·rename_i s0 m Ls
  have:=h f _ Ls
  cases draw with
  |true=>simp only [Nh,Aa] at hs;subst hs;exact this.1
  |false=>simp only [Ci,Pk,Aa] at hs;subst hs;exact this.2
 ·exact h f s hs
theorem Mn {k:IntKind} {n:Int} {fr:Bool} {v:Value} (h:Ba X w π H (.at (.data fr (.int k) n)) v):v= .int k n:=by
 obtain ⟨cs,h1,rfl⟩:=h;simp only [Cells] at h1;subst h1;rfl
theorem Un {b:Bool} {fr:Bool} {v:Value} (h:Ba X w π H (.at (.data fr .bool b)) v):v= .bool b:=by
 obtain ⟨cs,h1,rfl⟩:=h;simp only [Cells] at h1;subst h1;rfl
theorem bw {s:ByteArray} {fr:Bool} {v:Value} (h:Ba X w π H (.at (.data fr .str s)) v):v= .string s:=by
 obtain ⟨cs,h1,rfl⟩:=h;simp only [Cells] at h1;subst h1;rfl
theorem Ke (k:IntKind) (n:Int) (fr:Bool):Ba X w π H (.at (.data fr (.int k) n)) (.int k n):=⟨[.int k n],rfl,rfl⟩
theorem Je (b:Bool) (fr:Bool):Ba X w π H (.at (.data fr .bool b)) (.bool b):=⟨[.bool b],rfl,rfl⟩
theorem gj (s:ByteArray) (fr:Bool):Ba X w π H (.at (.data fr .str s)) (.string s):=⟨[.string s],rfl,rfl⟩
theorem LZ (f:FuncId):Ba X w π H (.at (.clo f [])) (.func (.func f) #[] #[]):=⟨[],rfl,rfl,λi p hi=>by simp at hi⟩
theorem yk (v:Value):Ba X w π H (gJ v) v:=by
 unfold gJ
 split
 ·exact Ke _ _ _
 ·exact Je _ _
 ·exact gj _ _
 ·rfl
 ·rfl
 ·trivial
theorem Co {st:St} {a:Act} (h:lv X w π st a) (x:Operand):Ba X w π st.heap (st.ev x) (a.eval x):=by
 cases x with
 |tmp t=>exact h.tmps t
 |const v=>exact yk v
 |global g=>trivial
 |func f=>exact LZ f
theorem vV (op:BinOp) (k:IntKind) (a b:Int) (t:TypeId) (av:AV) (h:mh op k a b=some av):
  ∃v,(binOp op t (.int k a) (.int k b)).run P w= .ok v w/\Ba X w π H av v:=by
 cases op<;>simp only [mh,Vi,Mc] at h
 case add=>cases h;exact ⟨_,by simp [binOp,Op.intArith],Ke _ _ _⟩
 case sub=>cases h;exact ⟨_,by simp [binOp,Op.intArith],Ke _ _ _⟩
 case mul=>cases h;exact ⟨_,by simp [binOp,Op.intArith],Ke _ _ _⟩
 case quo=>split at h<;>cases h;rename_i hb;exact ⟨_,by simp [binOp,Op.intDiv,hb],Ke _ _ _⟩
 case rem=>split at h<;>cases h;rename_i hb;exact ⟨_,by simp [binOp,Op.intDiv,hb],Ke _ _ _⟩
 case and=>cases h;exact ⟨_,by simp [binOp,Op.intBits],Ke _ _ _⟩
 case or=>cases h;exact ⟨_,by simp [binOp,Op.intBits],Ke _ _ _⟩
 case eql=>cases h;exact ⟨_,by simp [binOp,Op.intCmp],Je _ _⟩
 case neq=>cases h;exact ⟨_,by simp [binOp,Op.intCmp],Je _ _⟩
 case lss=>cases h;exact ⟨_,by simp [binOp,Op.intCmp],Je _ _⟩
 case leq=>cases h;exact ⟨_,by simp [binOp,Op.intCmp],Je _ _⟩
 case gtr=>cases h;exact ⟨_,by simp [binOp,Op.intCmp],Je _ _⟩
 case geq=>cases h;exact ⟨_,by simp [binOp,Op.intCmp],Je _ _⟩
 all_goals cases h
theorem sR (op:BinOp) (x y:AV) (vx vy:Value) (ox oy:Operand) (t:TypeId) (av:AV) (hx:Ba X w π H x vx) (hy:Ba X w π H y vy) (h:evalBin op x y=some av):
  ∃v,(do eqGuard op t ox oy vx vy;binOp op t vx vy:Sem Value).run P w= .ok v w/\Ba X w π H av v:=by
 unfold evalBin at h
 split at h
 ·rename_i k a _ k' b
  have:=Mn hx;subst this
  have:=Mn hy;subst this
  have hg: ∀op,(eqGuard op t ox oy (.int k a) (.int k' b)).run P w= .ok () w:=by intro op;cases op<;>simp [eqGuard]
  split at h
  ·split at h
   ·cases h
   ·rename_i hb
    simp only [Vi,Aa] at h;subst h
    exact ⟨_,by rw [Sem.run_bind,hg];simp [binOp,Op.shift,hb],Ke _ _ _⟩
  ·split at h
   ·cases h
   ·rename_i hb
    simp only [Vi,Aa] at h;subst h
    exact ⟨_,by rw [Sem.run_bind,hg];simp [binOp,Op.shift,hb],Ke _ _ _⟩
  ·split at h
   ·rename_i hk;subst hk
    obtain ⟨v,h1,h2⟩:=vV (P:=P) (w:=w) (X:=X) (π:=π) (H:=H) op k a b t av h
    exact ⟨v,by rw [Sem.run_bind,hg];exact h1,h2⟩
   ·cases h
 ·rename_i a _ b
  have:=bw hx;subst this
  have:=bw hy;subst this
  have hg: ∀op,(eqGuard op t ox oy (.string a) (.string b)).run P w= .ok () w:=by intro op;cases op<;>simp [eqGuard]
  split at h
  ·simp only [Mc,Aa] at h;subst h
   exact ⟨_,by rw [Sem.run_bind,hg];simp [binOp,Op.stringOp],Je _ _⟩
  ·simp only [Mc,Aa] at h;subst h
   exact ⟨_,by rw [Sem.run_bind,hg];simp [binOp,Op.stringOp],Je _ _⟩
  ·split at h
   ·rename_i hl
    simp only [Aa] at h;subst h
    exact ⟨_,by rw [Sem.run_bind,hg];simp only [Result.andThen_ok,binOp];exact run_string_add_sum w a b (by omega),gj _ _⟩
   ·cases h
  ·cases h
 ·cases h
theorem dN {t:TypeId} (h:P.underlying t=some .bool) (a b:Bool) (w:World):(Op.equal t (.bool a) (.bool b)).run P w= .ok (a==b) w:=by
 unfold Op.equal
 rw [show Op.maxDepth=9999+1 from rfl]
 unfold Op.equalIn
 rw [Sem.run_bind,run_underlying h]
 rfl
theorem tZ (hT:De P T) {x:AV} {vx:Value} {b:Bool} {t:TypeId} (hx:Ba X w π H x vx) (h:a8 x=some b) (ht:(T.elem t).isSome=true):
  (∃a len cap,vx= .slice a len cap/\(match a with|none=>true|some _=>false)=b)/\(Op.equal t vx (.slice none 0 0)).run P w= .ok b w:=by
 have h1: ∃a len cap,vx= .slice a len cap/\(match a with|none=>true|some _=>false)=b:=by
  unfold a8 at h
  split at h
  ·simp only [Aa] at h;subst h
   have hx:vx= .slice none 0 0:=hx
   exact ⟨none,0,0,hx,rfl⟩
  ·simp only [Aa] at h;subst h
   obtain ⟨cs,hc,rfl⟩:=hx
   simp only [Cells] at hc
   rcases hc with ⟨rfl,c,rfl⟩|⟨xs,ad,len,cap,rfl,rfl,_⟩
   ·exact ⟨none,0,c,by simp [Bi,Ty.Ak],rfl⟩
   ·exact ⟨some ad,len,cap,by simp [Bi,Ty.Ak],rfl⟩
  ·cases h
 refine ⟨h1,?_⟩
 obtain ⟨a,len,cap,rfl,rfl⟩:=h1
 obtain ⟨te,fb⟩:=Option.isSome_iff_exists.1 ht
 have hu:=hT.elem t te fb
 unfold Op.equal
 rw [show Op.maxDepth=9999+1 from rfl]
 unfold Op.equalIn
 rw [Sem.run_bind,run_underlying hu]
 cases a<;>rfl
theorem tY (hT:De P T) {x:AV} {vx:Value} {b:Bool} {t:TypeId} (hx:Ba X w π H x vx) (h:a7 x=some b) (ht:CG (T.ty t)=true):
  (∃a,vx= .pointer a/\(match a with|none=>true|some _=>false)=b)/\(Op.equal t vx (.pointer none)).run P w= .ok b w:=by
 have h1: ∃a,vx= .pointer a/\(match a with|none=>true|some _=>false)=b:=by
  unfold a7 at h
  split at h
  ·simp only [Aa] at h;subst h
   have hx:vx= .pointer none:=hx
   exact ⟨none,hx,rfl⟩
  ·simp only [Aa] at h;subst h
   obtain ⟨r,tid,vs,_,_,rfl⟩:=hx
   exact ⟨_,rfl,rfl⟩
  ·simp only [Aa] at h;subst h
   obtain ⟨cs,hc,rfl⟩:=hx
   simp only [Cells] at hc
   rcases hc with ⟨rfl,rfl⟩|⟨xs,g,o,rfl,rfl,_⟩
   ·exact ⟨none,by simp [Bi,Ty.Ak],rfl⟩
   ·exact ⟨some ⟨g,o,none⟩,by simp [Bi,Ty.Ak],rfl⟩
  ·simp only [Aa] at h;subst h
   obtain ⟨cs,hc,rfl⟩:=hx
   simp only [Cells] at hc
   obtain ⟨g,o,rfl,_⟩:=hc
   exact ⟨some ⟨g,o,none⟩,by simp [Bi,Ty.Ak],rfl⟩
  ·cases h
 refine ⟨h1,?_⟩
 obtain ⟨a,rfl,rfl⟩:=h1
 have hu: ∃u,P.underlying t=some (.pointer u):=by
  cases Sw:T.ty t with
  |none=>rw [Sw] at ht;cases ht
  |some τ=>
   have hd:=(hT.ty t τ Sw).desc
   rw [Sw] at ht
   cases τ<;>first|exact hd|cases ht
 obtain ⟨u,hu⟩:=hu
 unfold Op.equal
 rw [show Op.maxDepth=9999+1 from rfl]
 unfold Op.equalIn
 rw [Sem.run_bind,run_underlying hu]
 cases a<;>rfl
theorem qi {T:Tab} (hT:De P T) (op:BinOp) (x y:AV) (vx vy:Value) (ox oy:Operand) (t:TypeId) (av:AV) (hx:Ba X w π H x vx) (hy:Ba X w π H y vy) (h:Po T op t x y=some av):
  ∃v,(do eqGuard op t ox oy vx vy;binOp op t vx vy:Sem Value).run P w= .ok v w/\Ba X w π H av v:=by
 unfold Po at h
 split at h
 ·split at h
  ·rename_i ht
   cases hn:a8 x with
   |none=>rw [hn] at h;cases h
   |some b=>
    rw [hn] at h
    simp only [Dw,Mc,Aa] at h;subst h
    have hy:vy= .slice none 0 0:=hy
    subst hy
    obtain ⟨⟨a,len,cap,rfl,_⟩,h2⟩:=tZ hT hx hn ht
    exact ⟨.bool b,by rw [Sem.run_bind];simp [eqGuard,binOp,h2],Je _ _⟩
  ·cases h
 ·split at h
  ·rename_i ht
   cases hn:a7 x with
   |none=>rw [hn] at h;cases h
   |some b=>
    rw [hn] at h
    simp only [Dw,Mc,Aa] at h;subst h
    have hy:vy= .pointer none:=hy
    subst hy
    obtain ⟨⟨a,rfl,_⟩,h2⟩:=tY hT hx hn ht
    exact ⟨.bool b,by rw [Sem.run_bind];simp [eqGuard,binOp,h2],Je _ _⟩
  ·cases h
 ·split at h
  ·rename_i ht
   cases hn:a8 x with
   |none=>rw [hn] at h;cases h
   |some b=>
    rw [hn] at h
    simp only [Dw,Mc,Aa] at h;subst h
    have hy:vy= .slice none 0 0:=hy
    subst hy
    obtain ⟨⟨a,len,cap,rfl,_⟩,h2⟩:=tZ hT hx hn ht
    exact ⟨.bool (!b),by rw [Sem.run_bind];simp [eqGuard,binOp,h2],Je _ _⟩
  ·cases h
 ·split at h
  ·rename_i ht
   cases hn:a7 x with
   |none=>rw [hn] at h;cases h
   |some b=>
    rw [hn] at h
    simp only [Dw,Mc,Aa] at h;subst h
    have hy:vy= .pointer none:=hy
    subst hy
    obtain ⟨⟨a,rfl,_⟩,h2⟩:=tY hT hx hn ht
    exact ⟨.bool (!b),by rw [Sem.run_bind];simp [eqGuard,binOp,h2],Je _ _⟩
  ·cases h
 ·rename_i a _ b
  have:=Un hx;subst this
  have:=Un hy;subst this
  split at h
  ·rename_i ht
   simp only [Mc,Aa] at h;subst h
   have hu:P.underlying t=some .bool:=(hT.ty t _ ht).desc
   exact ⟨_,by rw [Sem.run_bind];simp [eqGuard,binOp,dN hu],Je _ _⟩
  ·cases h
 ·rename_i a _ b
  have:=Un hx;subst this
  have:=Un hy;subst this
  split at h
  ·rename_i ht
   simp only [Mc,Aa] at h;subst h
   have hu:P.underlying t=some .bool:=(hT.ty t _ ht).desc
   exact ⟨_,by rw [Sem.run_bind];simp [eqGuard,binOp,dN hu],Je _ _⟩
  ·cases h
 ·exact sR op x y vx vy ox oy t av hx hy h
theorem vI (op:UnOp) (x:AV) (vx:Value) (av:AV) (hx:Ba X w π H x vx) (h:qn op x=some av):
  ∃v,(Op.unary op vx).run P w= .ok v w/\Ba X w π H av v:=by
 unfold qn at h
 split at h
 ·have:=Un hx;subst this
  simp only [Mc,Aa] at h;subst h
  exact ⟨_,by simp [Op.unary],Je _ _⟩
 ·have:=Mn hx;subst this
  simp only [Vi,Aa] at h;subst h
  exact ⟨_,by simp [Op.unary,Op.intArith],Ke _ _ _⟩
 ·cases h
theorem Ge {t:TypeId} {τ:Ty} (ht:lA P T t τ) (g o:Nat) (es:List Value) (hl:es.length=τ.size) (hc: ∀j u,es[j]?=some u->w.cell? ⟨g,o+j,none⟩=some u):
  (loadVar t ⟨g,o,none⟩).run P w= .ok (Bi τ es) w:=by
 unfold loadVar
 rw [Sem.run_bind,ht.agg,Result.andThen_ok]
 cases hs:τ.Ak with
 |true=>
  simp only [Nh,Sem.run_bind,ht.size,Result.andThen_ok]
  rw [<-hl,run_loadCells_list w ⟨g,o,none⟩ es (λj v hv=>by rw [Addr.add_lit];exact hc j v hv)]
  simp [Bi,hs]
 |false=>
  have h1:τ.size=1:=by cases τ<;>simp_all [Ty.Ak,Ty.size]
  rw [h1] at hl
  obtain ⟨u,rfl⟩:=Cv.1 hl
  have:=hc 0 u rfl
  simp only [Dc] at this
  simp [this,Bi,hs]
theorem mT {fr:Bool} {τ:Ty} {x:τ.den} {v:Value} (h:Ba X w π H (.at (.data fr τ x)) v):Ba X w π H (.at (.data (fr||τ.flat) τ x)) v:=by
 cases hf:τ.flat with
 |true=>exact Ck.flat hf h
 |false=>rw [cz];exact h
theorem oc {cs ds:List AC} {us vs:List Value} (h1:Eb X w π H cs us) (h2:Eb X w π H ds vs):Eb X w π H (cs++ds) (us++vs):=by
 have e1:=h1.1
 refine ⟨by simp [h1.1,h2.1],λi c hc=>?_⟩
 by_cases hi:i<cs.length
 ·rw [Am hi] at hc
  obtain ⟨u,hu,h3⟩:=h1.2 i c hc
  exact ⟨u,by rw [Am (by omega)];exact hu,h3⟩
 ·rw [Al (by omega)] at hc
  obtain ⟨u,hu,h3⟩:=h2.2 _ c hc
  exact ⟨u,by rw [Al (by omega),e1];exact hu,h3⟩
theorem bu {c:AC} {u:Value} (h1:u.oneCell'=true) (h2:Fe X w π H c u):Eb X w π H [c] [u]:=⟨rfl,λi c' hc=>by
 rcases i with _|i
 ·simp at hc;subst hc;exact ⟨u,rfl,h1,h2⟩
 ·simp at hc⟩
theorem wU {l i:Nat} {e:Ty} {tid:TypeId} {xs:List e.den} {r:Real} (hl:Ap H l=some (.Ev e tid xs)) (hp:π l=some r) (hi:i<xs.length): ∀(τ:Ty) (c:Nat) (F:List Nat) (us:List Value) (x:τ.den),
  Bz w F τ us x->c+τ.size<=e.size->(∀j u,us[j]?=some u->w.cell? ⟨r.g,(r.o+i)*e.size+(c+j),none⟩=some u)->Eb X w π H (bF l i c τ x) us:=by
 intro τ
 induction τ with
 |unit=>intro c F us x h _ _;simp only [Bz] at h;obtain ⟨_,rfl⟩:=h;exact ⟨rfl,λi c hc=>by simp [bF] at hc⟩
 |pair a r cC cw=>
  intro c F us x h hle hc
  have qv:=Bz.cells (S:= λ_=>False) F _ us x h (λ_ _ h=>h)
  simp only [Bz] at h
  obtain ⟨c1,c2,F1,F2,rfl,rfl,h1,h2⟩:=h
  have zY:c1.length=a.size:=Cells.len a c1 x.1 (Bz.cells (S:= λ_=>False) F1 a c1 x.1 h1 (λ_ _ h=>h))
  simp only [Ty.size] at hle
  refine oc (cC c F1 c1 x.1 h1 (by omega) λj u hu=>hc j u (by rw [Am (Ai.1 hu).1];exact hu)) (cw (c+a.size) F2 c2 x.2 h2 (by omega) λj u hu=>?_)
  have:=hc (a.size+j) u (by rw [Al (by omega),zY];simpa using hu)
  rw [show c+a.size+j=c+(a.size+j) by omega];exact this
 |int k=>intro c F us x h _ _;simp only [Bz] at h;obtain ⟨_,rfl⟩:=h;exact bu rfl (Ke (H:=H) k x true)
 |bool=>intro c F us x h _ _;simp only [Bz] at h;obtain ⟨_,rfl⟩:=h;exact bu rfl (Je (H:=H) x true)
 |str=>intro c F us x h _ _;simp only [Bz] at h;obtain ⟨_,rfl⟩:=h;exact bu rfl (gj (H:=H) x true)
 |slice e'=>
  intro c F us x h hle hc
  simp only [Bz] at h
  obtain ⟨a,len,cap,rfl,_⟩:=h
  exact bu rfl ⟨r,_,e.size,xs.length,hl,rfl,hp,hi,⟨by simp only [Ty.size] at hle;omega,_,_,_,rfl⟩,by simpa using hc 0 _ rfl⟩
 |_=>intro c F us x h;simp only [Bz] at h
theorem gR (hT:De P T) {st:St} {a:Act} (h:Ax X π st a w) (t:TypeId) (p:AV) (vp:Value) (av:AV) (hp:Ba X w π st.heap p vp) (he:Ms T st t p=some av):
  ∃v,(Instr.loadAt t vp).run P w= .ok v w/\Ba X w π st.heap av v:=by
 unfold Ms at he
 split at he
 ·rename_i τ fr Lg x ht
  split at he
  ·rename_i Pp
   subst Pp
   simp only [Aa] at he;subst he
   have Sw:=hT.ty _ _ ht
   obtain ⟨cs,hc,rfl⟩:=hp
   simp only [Cells] at hc
   obtain ⟨g,o,rfl,hg,hn,es,hl,Rk,Wy⟩:=hc
   refine ⟨Bi Lg es,?_,mT (show Ba X w π st.heap (.at (.data fr Lg _)) (Bi Lg es) from ⟨es,Wy,rfl⟩)⟩
   have hr:=Ge (P:=P) (w:=w) Sw g o es hl Rk
   show (do loadVar t (<-Instr.sureAddr (.pointer (some ⟨g,o,none⟩))):Sem Value).run P w=_
   simpa [Instr.sureAddr] using hr
  ·cases he
 ·rename_i τ fr Lg x ht
  split at he
  ·rename_i Pp
   subst Pp
   simp only [Aa] at he;subst he
   have Sw:=hT.ty _ _ ht
   obtain ⟨cs,hc,rfl⟩:=hp
   simp only [Cells] at hc
   rcases hc with ⟨h0,_⟩|⟨y,g,o,h0,rfl,hg,hn,es,hl,Rk,Wy⟩
   ·cases h0
   simp only [Aa] at h0;subst h0
   refine ⟨Bi Lg es,?_,mT (show Ba X w π st.heap (.at (.data fr Lg _)) (Bi Lg es) from ⟨es,Wy,rfl⟩)⟩
   have hr:=Ge (P:=P) (w:=w) Sw g o es hl Rk
   show (do loadVar t (<-Instr.sureAddr (.pointer (some ⟨g,o,none⟩))):Sem Value).run P w=_
   simpa [Instr.sureAddr] using hr
  ·cases he
 ·rename_i τ l i ht
  have Sw:=hT.ty _ _ ht
  split at he
  ·rename_i tid vs hl
   obtain ⟨r,Qj,vs',h1,h2,rfl⟩:=hp
   unfold St.at at hl
   rw [hl] at h1;cases h1
   obtain ⟨r',h3,h4,cur,h5,h6⟩:=(h.1.heap l).Ns hl
   rw [h2] at h3;cases h3
   split at he
   ·rename_i hs
    split at he
    ·rename_i hlen
     simp only [Aa] at he;subst he
     have Ol:cur.toList.length=vs.length:=h6.1
     refine ⟨_,by
      simp only [Instr.loadAt,Instr.sureAddr]
      simpa using Ge (P:=P) (w:=w) Sw r.g i ((cur.toList.drop i).take τ.size) (by simp at Ol⊢;omega) (λj u hu=>by
       rw [cellOf h5]
       rw [By] at hu
       split at hu
       ·rw [Ce] at hu;simpa using hu
       ·cases hu),?_⟩
     exact ⟨_,by simp [Bi,hs],Um h6 i τ.size⟩
    ·cases he
   ·rename_i hs
    simp only [Gt] at hs
    have h1:τ.size=1:=by cases τ<;>simp_all [Ty.Ak,Ty.size]
    cases hi:vs[i]? with
    |none=>rw [hi] at he;cases he
    |some c=>
     rw [hi] at he
     simp only [Ah,Aa] at he;subst he
     obtain ⟨u,hu,_,hc⟩:=h6.2 i c hi
     refine ⟨u,?_,hc⟩
     simp only [Instr.loadAt,Instr.sureAddr]
     have:=Ge (P:=P) (w:=w) Sw r.g i [u] (by simp [h1]) (λj u' cv=>by
       rcases j with _|j
       ·simp at cv;subst cv;rw [Dc,cellOf h5];simpa using hu
       ·simp at cv)
     simpa [Bi,hs] using this
  ·cases he
 ·rename_i τ l i ht
  have Sw:=hT.ty _ _ ht
  split at he
  ·rename_i fr tr e tid xs hl
   split at he
   ·rename_i heq;subst heq
    obtain ⟨r,b,sz,n,h1,h0,h2,h3,rfl⟩:=hp
    unfold St.at at hl
    rw [hl] at h1;cases h1
    simp only [OB.row,Aa,Ab] at h0
    obtain ⟨rfl,rfl⟩:=h0
    have hb:=(h.1.heap l).Ns hl
    simp only [Bn,Hg,h3] at hb
    obtain ⟨h4,cur,_,h5,h6,h7,h8,h9,_⟩:=hb
    have hx:xs[i]?=some xs[i]:=Ac h2
    rw [hx] at he
    simp only [Ah,Aa] at he;subst he
    obtain ⟨es,cr,hj,qv⟩:=h9 i _ hx
    refine ⟨Bi e es,?_,mT (show Ba X w π st.heap (.at (.data fr e _)) (Bi e es) from ⟨es,qv,rfl⟩)⟩
    simp only [Instr.loadAt,Instr.sureAddr]
    simpa using Ge (P:=P) (w:=w) Sw r.g ((r.o+i)*e.size) es cr (λj u hu=>by rw [cellOf h5];exact hj j u hu)
   ·cases he
  ·rename_i e tid xs hl
   split at he
   ·rename_i heq;subst heq
    obtain ⟨r,b,sz,n,h1,h0,h2,h3,rfl⟩:=hp
    unfold St.at at hl
    rw [hl] at h1;cases h1
    simp only [OB.row,Aa,Ab] at h0
    obtain ⟨rfl,rfl⟩:=h0
    have hb:=(h.1.heap l).Ns hl
    simp only [Bn,Kz,h3] at hb
    obtain ⟨h4,cur,_,h5,h6,h7,h8,Fs,k1,k2,k3,k4⟩:=hb
    have hx:xs[i]?=some xs[i]:=Ac h2
    rw [hx] at he
    simp only [Ah,Aa] at he;subst he
    obtain ⟨es,cr,hj,qv⟩:=k4 i _ _ hx (Ac (by omega))
    have GK:=wU (X:=X) (H:=st.heap) hl h3 h2 e 0 _ es _ qv (by omega) (λj u hu=>by rw [cellOf h5,Dp];exact hj j u hu)
    refine ⟨Bi e es,?_,?_⟩
    ·simp only [Instr.loadAt,Instr.sureAddr]
     simpa using Ge (P:=P) (w:=w) Sw r.g ((r.o+i)*e.size) es cr (λj u hu=>by rw [cellOf h5];exact hj j u hu)
    ·cases Yi:e.Ak with
     |true=>rw [Af rfl];exact ⟨es,by simp [Bi,Yi],GK⟩
     |false=>
      rw [Aj (by simp)]
      have h1:e.size=1:=by cases e<;>simp_all [Ty.Ak,Ty.size]
      rw [h1] at cr
      obtain ⟨u,rfl⟩:=Cv.1 cr
      have zY:=GK.1
      generalize bF l i 0 e xs[i]=sc at*
      simp only [Bf,Jb] at zY
      obtain ⟨c,rfl⟩:=Cv.1 zY.symm
      obtain ⟨u',cv,_,oY⟩:=GK.2 0 c rfl
      simp at cv;subst cv
      have e1:Bi e [u]=u:=by simp [Bi,Yi]
      rw [e1]
      exact oY
   ·cases he
  ·rename_i e te rows kp hl
   split at he
   ·cases he
   ·rename_i Yi
    simp only [Gt] at Yi
    simp only [Aa] at he;subst he
    obtain ⟨r,b,sz,n,h1,h0,h2,h3,rfl⟩:=hp
    unfold St.at at hl
    rw [hl] at h1;cases h1
    simp only [OB.row,Aa,Ab] at h0
    obtain ⟨rfl,rfl⟩:=h0
    obtain ⟨u,R,k1,k2,k3⟩:=hJ h.1 hl h3 h2 (by simp)
    have Vc:τ.size=1:=by cases τ<;>simp_all [Ty.Ak,Ty.size]
    refine ⟨u,?_,r,_,1,rows.length,hl,rfl,h3,h2,⟨by omega,Vr k2⟩,by rw [Dt,Dc];exact k1⟩
    simp only [Instr.loadAt,Instr.sureAddr]
    have:=Ge (P:=P) (w:=w) Sw r.g ((r.o+i)*1) [u] (by simp [Vc]) (λj u' cv=>by
     rcases j with _|j
     ·simp at cv;subst cv;rw [Dt,Dc];exact k1
     ·simp at cv)
    simpa [Bi,Yi] using this
  ·cases he
 ·rename_i τ l i j ht
  have Sw:=hT.ty _ _ ht
  split at he
  ·rename_i e te rows kp hl
   split at he
   ·rename_i heq;subst heq
    simp only [Aa] at he;subst he
    obtain ⟨r,b,n,sz,g,o,len,cap,h1,h0,h2,h3,h4,h5,rfl⟩:=hp
    unfold St.at at hl
    rw [hl] at h1;cases h1
    simp only [OB.nP,Aa,Ab] at h0
    obtain ⟨rfl,rfl⟩:=h0
    obtain ⟨u,R,k1,k2,k3⟩:=hJ h.1 hl h2 h3 (by simp)
    rw [h5] at k1
    have hu:=Aw k1
    subst hu
    cases R with
    |none=>obtain ⟨hh,_⟩:=k2;cases hh
    |some q=>
     obtain ⟨ad,hh,g1,g2⟩:=k2
     simp only [Value.slice.injEq,Aa] at hh
     obtain ⟨rfl,rfl,rfl⟩:=hh
     have yv:=g2 (by omega)
     simp only [Addr.mk.injEq,cA] at yv
     obtain ⟨rfl,rfl⟩:=yv
     obtain ⟨f1,cur,ti,f2,f3,f4,f5,f6⟩:=k3
     have hj:(rows.getD i [])[j]?=some ((rows.getD i []).getD j e.zero):=by rw [An (l:=rows.getD i []),Ac h4];rfl
     obtain ⟨es,cr,c1,c2⟩:=f6 j _ hj
     refine ⟨Bi e es,?_,mT (fr:=false) (show Ba X w π st.heap (.at (.data false e _)) (Bi e es) from ⟨es,c2,rfl⟩)⟩
     simp only [Instr.loadAt,Instr.sureAddr]
     simpa using Ge (P:=P) (w:=w) Sw q.g ((q.o+0)*e.size+j*e.size) es cr (λm u hu=>by rw [cellOf f2,Dc,<-Ch];exact c1 m u hu)
   ·cases he
  ·cases he
 ·cases he
theorem CC {α:Type} {xs:List α} {n:Int} {x:α} (h:idx xs n=some x):0<=n/\n<xs.length/\xs[n.toNat]?=some x:=by
 unfold idx at h
 split at h
 ·rename_i h0
  have:=(Ai.1 h).1
  exact ⟨h0,by omega,h⟩
 ·cases h
theorem l6 (hT:De P T) {t:TypeId} {e:Ty} (h:(T.elem t).bind T.ty=some e): ∃te,T.elem t=some te/\T.ty te=some e/\P.underlying t=some (.slice te)/\P.elem t=te:=by
 cases ht:T.elem t with
 |none=>rw [ht] at h;cases h
 |some te=>
  rw [ht] at h
  have hu:=hT.elem t te ht
  exact ⟨te,rfl,h,hu,by simp [Program.elem,hu]⟩
theorem gQ (hT:De P T) {st:St} {a:Act} (h:Ax X π st a w) (t:TypeId) (x i:AV) (vx vi:Value) (av:AV) (hx:Ba X w π st.heap x vx) (hi:Ba X w π st.heap i vi)
  (he:Hz T st t x i=some av): ∃v,(Instr.indexAt t vx vi).run P w= .ok v w/\Ba X w π st.heap av v:=by
 unfold Hz at he
 split at he
 ·rename_i fr e xs _ k n
  have:=Mn hi;subst this
  split at he
  ·rename_i eZ
   obtain ⟨te,h1,h2,h3,h4⟩:=l6 hT eZ
   cases NO:idx xs n with
   |none=>rw [NO] at he;cases he
   |some y=>
    rw [NO] at he
    simp only [Ah,Aa] at he;subst he
    obtain ⟨h5,h6,h7⟩:=CC NO
    obtain ⟨cs,hc,rfl⟩:=hx
    simp only [Cells] at hc
    obtain ⟨ad,len,cap,rfl,hlen,kO,vP⟩:=hc
    rcases vP with rfl|⟨g,o,rfl,hg,hn,Ig⟩
    ·simp at h6;omega
    ·obtain ⟨es,cr,Rk,Wy⟩:=Ig _ _ h7
     have Vc:=(hT.ty _ _ h2).size (w:=w)
     refine ⟨.pointer (some ⟨g,o+n.toNat*e.size,none⟩),?_,[_],⟨g,_,rfl,hg,hn,es,cr,Rk,Wy⟩,by simp [Bi,Ty.Ak]⟩
     simp only [Bi,Ty.Ak,Ci,Pk,cI]
     rw [run_indexAt_slice (P:=P) w t _ _ _ k n (by rw [h3,h4]),Af ⟨h5,by omega⟩,h4,Vc,Result.andThen_ok,Addr.add_lit]
  ·cases he
 ·rename_i l off len _ k n
  have:=Mn hi;subst this
  split at he
  ·rename_i fr tr e tid xs hl
   split at he
   ·rename_i Ha
    obtain ⟨h1,h2,KG⟩:=Ha
    obtain ⟨h5,h6⟩:=Pw.1 KG
    simp only [Aa] at he;subst he
    have h3:=hT.elem t tid h1
    have h4:P.elem t=tid:=by simp [Program.elem,h3]
    unfold St.at at hl
    have Tu:=hl
    obtain ⟨h8,h9⟩:=Lk (X:=X) (w:=w) hx hl
    cases hp:π l with
    |none=>rw [hp] at h9;obtain ⟨_,_,h9⟩:=h9;omega
    |some r=>
     rw [hp] at h9
     obtain ⟨ad,rfl,lb,j9⟩:=h9
     have EY:=j9 (by omega)
     subst EY
     have Vc:=(hT.ty _ _ h2).size (w:=w)
     refine ⟨.pointer (some ⟨r.g,(r.o+off)*e.size+n.toNat*e.size,none⟩),?_,r,_,e.size,xs.length,Tu,rfl,by omega,hp,?_⟩
     ·rw [run_indexAt_slice (P:=P) w t _ _ _ k n (by rw [h3,h4]),Af ⟨h5,by omega⟩,h4,Vc,Result.andThen_ok,Addr.add_lit]
     ·rw [<-Er r.o off n.toNat,Ch (r.o+off)]
   ·cases he
  ·rename_i e tid xs hl
   split at he
   ·rename_i Ha
    obtain ⟨h1,h2,KG⟩:=Ha
    obtain ⟨h5,h6⟩:=Pw.1 KG
    simp only [Aa] at he;subst he
    have h3:=hT.elem t tid h1
    have h4:P.elem t=tid:=by simp [Program.elem,h3]
    unfold St.at at hl
    have Tu:=hl
    obtain ⟨h8,h9⟩:=Xi (X:=X) (w:=w) hx hl
    cases hp:π l with
    |none=>rw [hp] at h9;obtain ⟨_,_,h9⟩:=h9;omega
    |some r=>
     rw [hp] at h9
     obtain ⟨ad,rfl,lb,j9⟩:=h9
     have EY:=j9 (by omega)
     subst EY
     have Vc:=(hT.ty _ _ h2).size (w:=w)
     refine ⟨.pointer (some ⟨r.g,(r.o+off)*e.size+n.toNat*e.size,none⟩),?_,r,_,e.size,xs.length,Tu,rfl,by omega,hp,?_⟩
     ·rw [run_indexAt_slice (P:=P) w t _ _ _ k n (by rw [h3,h4]),Af ⟨h5,by omega⟩,h4,Vc,Result.andThen_ok,Addr.add_lit]
     ·rw [<-Er r.o off n.toNat,Ch (r.o+off)]
   ·cases he
  ·rename_i e te rows out kp hl
   split at he
   ·rename_i Ha
    obtain ⟨h1,h2,KG⟩:=Ha
    obtain ⟨h5,h6⟩:=Pw.1 KG
    simp only [Aa] at he;subst he
    have h3:=hT.elem t te h1
    have h4:P.elem t=te:=by simp [Program.elem,h3]
    unfold St.at at hl
    have Tu:=hl
    obtain ⟨h8,h9⟩:=iE (X:=X) (w:=w) hx hl
    cases hp:π l with
    |none=>rw [hp] at h9;obtain ⟨_,_,h9⟩:=h9;omega
    |some r=>
     rw [hp] at h9
     obtain ⟨ad,rfl,lb,j9⟩:=h9
     have EY:=j9 (by omega)
     subst EY
     cases fb:T.ty te with
     |none=>rw [fb] at h2;cases h2
     |some τ=>
      rw [fb] at h2
      have h2:τ.size=1:=Aw h2
      have Vc:=(hT.ty _ _ fb).size (w:=w)
      refine ⟨.pointer (some ⟨r.g,(r.o+off)*1+n.toNat*τ.size,none⟩),?_,r,_,1,rows.length,Tu,rfl,by omega,hp,?_⟩
      ·rw [run_indexAt_slice (P:=P) w t _ _ _ k n (by rw [h3,h4]),Af ⟨h5,by omega⟩,h4,Vc,Result.andThen_ok,Addr.add_lit]
      ·rw [h2,<-Er r.o off n.toNat,Ch (r.o+off)]
   ·cases he
  ·cases he
 ·rename_i l i c _ k n
  have:=Mn hi;subst this
  split at he
  ·rename_i e te rows kp hl
   split at he
   ·rename_i Ha
    obtain ⟨h2,KG⟩:=Ha
    obtain ⟨h5,h6⟩:=Pw.1 KG
    simp only [Aa] at he;subst he
    cases fb:T.elem t with
    |none=>rw [fb] at h2;cases h2
    |some Nr=>
     rw [fb] at h2
     cases Sw:T.ty Nr with
     |none=>rw [Dw,Sw] at h2;cases h2
     |some τ=>
      rw [Dw,Sw] at h2
      have h2:τ.size=e.size:=Aw h2
      have h3:=hT.elem t Nr fb
      have h4:P.elem t=Nr:=by simp [Program.elem,h3]
      unfold St.at at hl
      obtain ⟨r,b,sz,m,g1,g0,g2,g3,⟨g4,_⟩,g5⟩:=hx
      rw [hl] at g1;cases g1
      simp only [OB.c6,Aa,Ab] at g0
      obtain ⟨rfl,rfl⟩:=g0
      have gz:c=0:=by omega
      subst gz
      rw [Dt,Dc] at g5
      obtain ⟨u,R,k1,k2,k3⟩:=hJ h.1 hl g2 g3 (by simp)
      rw [g5] at k1
      have hu:=Aw k1
      subst hu
      cases R with
      |none=>obtain ⟨_,_,hh⟩:=k2;omega
      |some q=>
       obtain ⟨ad,rfl,f1,f2⟩:=k2
       have yv:=f2 (by omega)
       subst yv
       have Vc:=(hT.ty _ _ Sw).size (w:=w)
       refine ⟨.pointer (some ⟨q.g,(q.o+0)*e.size+n.toNat*τ.size,none⟩),?_,r,_,rows.length,e.size,q.g,(q.o+0)*e.size,_,_,hl,rfl,g2,g3,by omega,g5,by rw [h2]⟩
       rw [run_indexAt_slice (P:=P) w t _ _ _ k n (by rw [h3,h4]),Af ⟨h5,by omega⟩,h4,Vc,Result.andThen_ok,Addr.add_lit]
   ·cases he
  ·cases he
 ·cases he
end
end Go.Proofs.Ytfgfigkbgecfnaa
