/-
  Part 7 of the proof that the statement FnStateClasses holds.
-/
import Derived.Test.YtkkdpknjohcekaaCFStateClasses05
namespace Go.Proofs.Ytkkdpknjohcekaa
open Go.RowKit
section
variable {P:Program} {T:Tab} {X:Ctx} {w w':World} {π:Pi} {H:List (Nat×OB)}
def JV (P:Program) (X:Ctx) (π:Pi) (H:List (Nat×OB)) (w:World) (av:AV):Result Next->Prop
 | .ok (.value v) w'=>w'=w/\Bn X w π H av v
 | .ok (.enter f args) w'=>w'=w/\Calls P f args w (λe oW=> ∃v,e= .returned v/\Below w.heap.size w oW/\Bn X oW π H av v)
 |_=>False
def kb (s:Spec) (w:World) (S:Nat->Prop) (v:Value) (y:s.res.den):Prop:=
 if s.Gh then ∃us:List Value,v= .tuple us.toArray/\Cp w S s.res us y else Ct w S s.res v y
structure Sound (P:Program) (f:FuncId) (s:Spec):Prop where
 enter: ∀args w,(callFunc f args).run P w= .ok (.enter f args) w
 calls: ∀(w:World) (S:Nat->Prop) (vs:List Value) (x:s.arg.den) (y:s.res.den),(∀k,S k->k<w.heap.size)->Cp w S s.arg vs x->s.fn x=some y->
  Calls P f vs.toArray w λe w'=> ∃v,e= .returned v/\Below w.heap.size w w'/\kb s w' (λb=>S b\/(s.fresh=true/\b<w.heap.size)) v y
def eM (w:World) (D:Nat->Prop) (r:Option Real):(c:CK)->c.den->Prop
 | .Hx _,_=>r=none
 | .row e _,xs=>Se w D r e xs
 | .Gz e te,xs=>Np w r e te xs
 | .part e _,x=>e.flat=true/\Se w D r e x.1
 | .Bo e _ _,rows=>Zg w D r e rows none
def dw (w:World) (D:Nat->Prop) (r:Option Real) (v:Value):(c:CK)->c.den->Prop
 | .Hx τ,x=>r=none/\Ct w D τ v x
 | .row e te,xs=>He r e.size 0 (List.length xs) v/\eM w D r (.row e te) xs
 | .Gz e te,xs=>He r e.size 0 (List.length xs) v/\eM w D r (.Gz e te) xs
 | .part e te,x=>(He r e.size x.2.1 x.2.2 v/\x.2.1+x.2.2<=List.length x.1)/\eM w D r (.part e te) x
 | .Bo e te kp,rows=>He r 1 0 (List.length rows) v/\eM w D r (.Bo e te kp) rows
def dy (w:World) (D:Nat->Prop) (π:Pi):(k:Nat)->(cs:List (Bool×CK))->Ins.den cs->List Value->Prop
 |_,[],_,[]=>True
 |k,p::r,x,u::us=>dw w D (π (Dr p.1 k)) u p.2 x.1/\dy w D π (k+1) r x.2 us
 |_,_,_,_=>False
def Lu (w:World) (D:Nat->Prop) (π:Pi):(k:Nat)->(cs:List (Bool×CK))->IOs.den cs->Prop
 |_,[],_=>True
 |k,(true, .Hx _)::r,x=>Lu w D π (k+1) r x
 |k,(true, .Bo _ _ _)::r,x=>Lu w D π (k+1) r x
 |k,(true, .row e te)::r,x=>eM w D (π (Dr true k)) (.row e te) x.1/\Lu w D π (k+1) r x.2
 |k,(true, .Gz e te)::r,x=>eM w D (π (Dr true k)) (.Gz e te) x.1/\Lu w D π (k+1) r x.2
 |k,(true, .part e te)::r,x=>eM w D (π (Dr true k)) (.row e te) x.1/\Lu w D π (k+1) r x.2
 |k,(false,_)::r,x=>Lu w D π (k+1) r x
def Iq (w:World) (D:Nat->Prop) (ρ:Pi):(k:Nat)->(cs:List CK)->CKs.den cs->List Value->Prop
 |_,[],_,[]=>True
 |k,c::r,x,u::us=>dw w D (ρ (Jn k)) u c x.1/\Iq w D ρ (k+1) r x.2 us
 |_,_,_,_=>False
structure fQ (π:Pi) (A:Nat->Prop):Prop where
 Yh: ∀l r b,π l=some r->r.Cq b->A b
 inj: ∀l l' r r' b,π l=some r->π l'=some r'->r.Cq b->r'.Cq b->l=l'
def bR:List (Option Nat)->List Value->Prop
 | [],[]=>True
 |none::s,_::us=>bR s us
 |some n::s,us=>n<=us.length/\(∀u∈us.take n,u.oneCell'=true)/\bR s (us.drop n)
 |_,_=>False
def VH (Gh:Bool) (sh:List (Option Nat)) (us:List Value) (v:Value):Prop:=if Gh then v= .tuple (Kk sh us).toArray else Kk sh us= [v]\/Kk sh us= []
def j5 (S:Nat->Prop) (π ρ:Pi) (b:Nat):Prop:=S b\/(∃l q,Bl<=l/\π l=some q/\q.Cq b)\/Ut ρ b
def mM (s:MSpec) (w:World) (g:Nat) (us vs:List Value):Prop:=
 match s.ptr with
 |none=>vs=Kk s.Ih us/\bR s.Ih us
 |some p=>vs= .pointer (some ⟨g,0,none⟩)::Kk s.Ih (us.drop p.2)/\bR s.Ih (us.drop p.2)/\p.2<=us.length/\w.heap[g]?=some (.cells (us.take p.2).toArray p.1 (0,0))/\ ∀u∈us.take p.2,u.oneCell'=true
def MSpec.gv (s:MSpec) (g b:Nat):Prop:=s.ptr.isSome=true/\b=g
def El (π:Pi):(k:Nat)->(cs:List (Bool×CK))->IOs.den cs->(n:Nat)->List Value->List Value->Prop
 |_,_,_,0,us,_=>us= []
 |k,(true, .row e _)::r,o,n+1,u::us,as=>He (π (Dr true k)) e.size 0 (List.length o.1) u/\El π (k+1) r o.2 n us as
 |k,(true, .Gz e _)::r,o,n+1,u::us,as=>He (π (Dr true k)) e.size 0 (List.length o.1) u/\El π (k+1) r o.2 n us as
 |k,(false,_)::r,o,n+1,u::us,a::as=>u=a/\El π (k+1) r o n us as
 |_,_,_,_,_,_=>False
def ka (s:MSpec) (π:Pi) (w':World) (g:Nat) (Vw:List Value) (o:IOs.den s.ins):Prop:=
 match s.ptr with
 |none=>True
 |some p=> ∃cs,w'.heap[g]?=some (.cells cs.toArray p.1 (0,0))/\(∀u∈cs,u.oneCell'=true)/\El π 0 s.ins o p.2 cs Vw
def zc (w w':World) (r r':Option Real) (n:Nat):Prop:=match r,r' with
 |none,none=>True
 |some q,some q'=>q'.g=q.g/\q'.o=q.o/\q'.cap=q.cap/\ ∀j,j<n->j<q.cap->w'.cell? ⟨q.g,q.o+j,none⟩=w.cell? ⟨q.g,q.o+j,none⟩
 |_,_=>False
def pZ (s:MSpec) (w':World) (ρ:Pi) (us:List Value) (v:Value):Prop:=match s.rp with
 |none=>VH s.Gh s.Hb us v/\bR s.Hb us
 |some tid=> ∃q,ρ (Jn s.outs.length)=some q/\q.Cq q.g/\w'.heap[q.g]?=some (.cells us.toArray tid (0,0))/\(∀u∈us,u.oneCell'=true)/\v= .pointer (some ⟨q.g,0,none⟩)
def MSpec.Tr (s:MSpec):Nat:=s.outs.length+(match s.rp with|none=>0|some _=>1)
structure Da (P:Program) (f:FuncId) (s:MSpec):Prop where
 enter: ∀args w,(callFunc f args).run P w= .ok (.enter f args) w
 calls: ∀(w:World) (S:Nat->Prop) (π:Pi) (us:List Value) (x:Ins.den s.ins) (r:CKs.den s.outs) (o:IOs.den s.ins) (g:Nat) (vs:List Value),
  mM s w g us vs->(s.ptr.isSome=true->S g)->dy w (λb=>Ut π b\/S b) π 0 s.ins x us->fQ π (λb=>b<w.heap.size)->(∀b,S b->b<w.heap.size/\ ¬Ut π b)->(∀l,At (Ym 0 s.ins x) l=none->π l=none)->s.fn x=some (r,o)->
  Calls P f vs.toArray w λe w'=> ∃v Vw ρ,e= .returned v/\pZ s w' ρ (Vw.drop s.Zp) v/\ka s π w' g Vw o/\Kh w.heap.size (λb=>Ut π b\/s.gv g b) w w'/\Lu w' (j5 S π ρ) π 0 s.ins o/\Iq w' (j5 S π ρ) ρ 0 s.outs r Vw/\
   fQ ρ (λb=>b<w'.heap.size/\(w.heap.size<=b\/ ∃l q,l<Bl/\π l=some q/\q.Cq b))/\(∀l,(∀k,k<s.Tr->l≠Jn k)->ρ l=none)/\(∀kj∈s.keeps,zc w w' (π (Dr false kj.1)) (ρ (Jn kj.2)) (s.Fb x))
def Ac2 (P:Program) (f:FuncId):fJ->Prop
 | .q s=>Sound P f s
 | .m s=>Da P f s
 | .b s m=>Sound P f s/\Da P f m
def Ki (P:Program) (Γ:Env):Prop:= ∀f s,Γ f=some s->Ac2 P f s
theorem Ki.reg {P:Program} {Γ:Env} (h:Ki P Γ) (draw:Bool):Ki P (xQ Γ draw):= λf s hs=>by
 unfold xQ at hs
 split at hs
 ·rename_i s0 m Oh
  have:=h f _ Oh
  cases draw with
  |true=>simp only [Oy,Aa] at hs;subst hs;exact this.1
  |false=>simp only [Cx,Qu,Aa] at hs;subst hs;exact this.2
 ·exact h f s hs
theorem Pl {k:IntKind} {n:Int} {fr:Bool} {v:Value} (h:Bn X w π H (.at (.data fr (.int k) n)) v):v= .int k n:=by
 obtain ⟨cs,h1,rfl⟩:=h;simp only [Cells] at h1;subst h1;rfl
theorem Yt {b:Bool} {fr:Bool} {v:Value} (h:Bn X w π H (.at (.data fr .bool b)) v):v= .bool b:=by
 obtain ⟨cs,h1,rfl⟩:=h;simp only [Cells] at h1;subst h1;rfl
theorem eh {s:ByteArray} {fr:Bool} {v:Value} (h:Bn X w π H (.at (.data fr .str s)) v):v= .string s:=by
 obtain ⟨cs,h1,rfl⟩:=h;simp only [Cells] at h1;subst h1;rfl
theorem Mp (k:IntKind) (n:Int) (fr:Bool):Bn X w π H (.at (.data fr (.int k) n)) (.int k n):=⟨[.int k n],rfl,rfl⟩
theorem Lm (b:Bool) (fr:Bool):Bn X w π H (.at (.data fr .bool b)) (.bool b):=⟨[.bool b],rfl,rfl⟩
theorem kJ (s:ByteArray) (fr:Bool):Bn X w π H (.at (.data fr .str s)) (.string s):=⟨[.string s],rfl,rfl⟩
theorem Adw (f:FuncId):Bn X w π H (.at (.clo f [])) (.func (.func f) #[] #[]):=⟨[],rfl,rfl,λi p hi=>by simp at hi⟩
theorem MN (v:Value):Bn X w π H (ll v) v:=by
 unfold ll
 split
 ·exact Mp _ _ _
 ·exact Lm _ _
 ·exact kJ _ _
 ·rfl
 ·rfl
 ·trivial
theorem Dm {st:St} {a:Act} (h:pY X w π st a) (x:Operand):Bn X w π st.heap (st.ev x) (a.eval x):=by
 cases x with
 |tmp t=>exact h.tmps t
 |const v=>exact MN v
 |global g=>trivial
 |func f=>exact Adw f
theorem GP (op:BinOp) (k:IntKind) (a b:Int) (t:TypeId) (av:AV) (h:r9 op k a b=some av):
  ∃v,(binOp op t (.int k a) (.int k b)).run P w= .ok v w/\Bn X w π H av v:=by
 cases op<;>simp only [r9,Zs,Ow] at h
 case add=>cases h;exact ⟨_,by simp [binOp,Op.intArith],Mp _ _ _⟩
 case sub=>cases h;exact ⟨_,by simp [binOp,Op.intArith],Mp _ _ _⟩
 case mul=>cases h;exact ⟨_,by simp [binOp,Op.intArith],Mp _ _ _⟩
 case quo=>split at h<;>cases h;rename_i hb;exact ⟨_,by simp [binOp,Op.intDiv,hb],Mp _ _ _⟩
 case rem=>split at h<;>cases h;rename_i hb;exact ⟨_,by simp [binOp,Op.intDiv,hb],Mp _ _ _⟩
 case and=>cases h;exact ⟨_,by simp [binOp,Op.intBits],Mp _ _ _⟩
 case or=>cases h;exact ⟨_,by simp [binOp,Op.intBits],Mp _ _ _⟩
 case eql=>cases h;exact ⟨_,by simp [binOp,Op.intCmp],Lm _ _⟩
 case neq=>cases h;exact ⟨_,by simp [binOp,Op.intCmp],Lm _ _⟩
 case lss=>cases h;exact ⟨_,by simp [binOp,Op.intCmp],Lm _ _⟩
 case leq=>cases h;exact ⟨_,by simp [binOp,Op.intCmp],Lm _ _⟩
 case gtr=>cases h;exact ⟨_,by simp [binOp,Op.intCmp],Lm _ _⟩
 case geq=>cases h;exact ⟨_,by simp [binOp,Op.intCmp],Lm _ _⟩
 all_goals cases h
theorem zI (op:BinOp) (x y:AV) (vx vy:Value) (ox oy:Operand) (t:TypeId) (av:AV) (hx:Bn X w π H x vx) (hy:Bn X w π H y vy) (h:evalBin op x y=some av):
  ∃v,(do eqGuard op t ox oy vx vy;binOp op t vx vy:Sem Value).run P w= .ok v w/\Bn X w π H av v:=by
 unfold evalBin at h
 split at h
 ·rename_i k a _ k' b
  have:=Pl hx;subst this
  have:=Pl hy;subst this
  have hg: ∀op,(eqGuard op t ox oy (.int k a) (.int k' b)).run P w= .ok () w:=by intro op;cases op<;>simp [eqGuard]
  split at h
  ·split at h
   ·cases h
   ·rename_i hb
    simp only [Zs,Aa] at h;subst h
    exact ⟨_,by rw [Sem.run_bind,hg];simp [binOp,Op.shift,hb],Mp _ _ _⟩
  ·split at h
   ·cases h
   ·rename_i hb
    simp only [Zs,Aa] at h;subst h
    exact ⟨_,by rw [Sem.run_bind,hg];simp [binOp,Op.shift,hb],Mp _ _ _⟩
  ·split at h
   ·rename_i hk;subst hk
    obtain ⟨v,h1,h2⟩:=GP (P:=P) (w:=w) (X:=X) (π:=π) (H:=H) op k a b t av h
    exact ⟨v,by rw [Sem.run_bind,hg];exact h1,h2⟩
   ·cases h
 ·rename_i a _ b
  have:=eh hx;subst this
  have:=eh hy;subst this
  have hg: ∀op,(eqGuard op t ox oy (.string a) (.string b)).run P w= .ok () w:=by intro op;cases op<;>simp [eqGuard]
  split at h
  ·simp only [Ow,Aa] at h;subst h
   exact ⟨_,by rw [Sem.run_bind,hg];simp [binOp,Op.stringOp],Lm _ _⟩
  ·simp only [Ow,Aa] at h;subst h
   exact ⟨_,by rw [Sem.run_bind,hg];simp [binOp,Op.stringOp],Lm _ _⟩
  ·split at h
   ·rename_i hl
    simp only [Aa] at h;subst h
    exact ⟨_,by rw [Sem.run_bind,hg];simp only [Result.andThen_ok,binOp];exact run_string_add_sum w a b (by omega),kJ _ _⟩
   ·cases h
  ·cases h
 ·cases h
theorem hY {t:TypeId} (h:P.underlying t=some .bool) (a b:Bool) (w:World):(Op.equal t (.bool a) (.bool b)).run P w= .ok (a==b) w:=by
 unfold Op.equal
 rw [show Op.maxDepth=9999+1 from rfl]
 unfold Op.equalIn
 rw [Sem.run_bind,run_underlying h]
 rfl
theorem BL (hT:Dn P T) {x:AV} {vx:Value} {b:Bool} {t:TypeId} (hx:Bn X w π H x vx) (h:cK x=some b) (ht:(T.elem t).isSome=true):
  (∃a len cap,vx= .slice a len cap/\(match a with|none=>true|some _=>false)=b)/\(Op.equal t vx (.slice none 0 0)).run P w= .ok b w:=by
 have h1: ∃a len cap,vx= .slice a len cap/\(match a with|none=>true|some _=>false)=b:=by
  unfold cK at h
  split at h
  ·simp only [Aa] at h;subst h
   have hx:vx= .slice none 0 0:=hx
   exact ⟨none,0,0,hx,rfl⟩
  ·simp only [Aa] at h;subst h
   obtain ⟨cs,hc,rfl⟩:=hx
   simp only [Cells] at hc
   rcases hc with ⟨rfl,c,rfl⟩|⟨xs,ad,len,cap,rfl,rfl,_⟩
   ·exact ⟨none,0,c,by simp [Bv,Ty.Ap],rfl⟩
   ·exact ⟨some ad,len,cap,by simp [Bv,Ty.Ap],rfl⟩
  ·cases h
 refine ⟨h1,?_⟩
 obtain ⟨a,len,cap,rfl,rfl⟩:=h1
 obtain ⟨te,jz⟩:=Vv.1 ht
 have hu:=hT.elem t te jz
 unfold Op.equal
 rw [show Op.maxDepth=9999+1 from rfl]
 unfold Op.equalIn
 rw [Sem.run_bind,run_underlying hu]
 cases a<;>rfl
theorem BK (hT:Dn P T) {x:AV} {vx:Value} {b:Bool} {t:TypeId} (hx:Bn X w π H x vx) (h:cJ x=some b) (ht:TU (T.ty t)=true):
  (∃a,vx= .pointer a/\(match a with|none=>true|some _=>false)=b)/\(Op.equal t vx (.pointer none)).run P w= .ok b w:=by
 have h1: ∃a,vx= .pointer a/\(match a with|none=>true|some _=>false)=b:=by
  unfold cJ at h
  split at h
  ·simp only [Aa] at h;subst h
   have hx:vx= .pointer none:=hx
   exact ⟨none,hx,rfl⟩
  ·simp only [Aa] at h;subst h
   obtain ⟨r,tid,vs,_,_,rfl⟩:=hx
   exact ⟨_,rfl,rfl⟩
  ·simp only [Aa] at h;subst h
   obtain ⟨cs,hc,rfl⟩:=hx
   simp only [Cells] at hc
   rcases hc with ⟨rfl,rfl⟩|⟨xs,g,o,rfl,rfl,_⟩
   ·exact ⟨none,by simp [Bv,Ty.Ap],rfl⟩
   ·exact ⟨some ⟨g,o,none⟩,by simp [Bv,Ty.Ap],rfl⟩
  ·simp only [Aa] at h;subst h
   obtain ⟨cs,hc,rfl⟩:=hx
   simp only [Cells] at hc
   obtain ⟨g,o,rfl,_⟩:=hc
   exact ⟨some ⟨g,o,none⟩,by simp [Bv,Ty.Ap],rfl⟩
  ·cases h
 refine ⟨h1,?_⟩
 obtain ⟨a,rfl,rfl⟩:=h1
 have hu: ∃u,P.underlying t=some (.pointer u):=by
  cases Xa:T.ty t with
  |none=>rw [Xa] at ht;cases ht
  |some τ=>
   have hd:=(hT.ty t τ Xa).desc
   rw [Xa] at ht
   cases τ<;>first|exact hd|cases ht
 obtain ⟨u,hu⟩:=hu
 unfold Op.equal
 rw [show Op.maxDepth=9999+1 from rfl]
 unfold Op.equalIn
 rw [Sem.run_bind,run_underlying hu]
 cases a<;>rfl
theorem wK {T:Tab} (hT:Dn P T) (op:BinOp) (x y:AV) (vx vy:Value) (ox oy:Operand) (t:TypeId) (av:AV) (hx:Bn X w π H x vx) (hy:Bn X w π H y vy) (h:Sy T op t x y=some av):
  ∃v,(do eqGuard op t ox oy vx vy;binOp op t vx vy:Sem Value).run P w= .ok v w/\Bn X w π H av v:=by
 unfold Sy at h
 split at h
 ·split at h
  ·rename_i ht
   cases hn:cK x with
   |none=>rw [hn] at h;cases h
   |some b=>
    rw [hn] at h
    simp only [Ez,Ow,Aa] at h;subst h
    have hy:vy= .slice none 0 0:=hy
    subst hy
    obtain ⟨⟨a,len,cap,rfl,_⟩,h2⟩:=BL hT hx hn ht
    exact ⟨.bool b,by rw [Sem.run_bind];simp [eqGuard,binOp,h2],Lm _ _⟩
  ·cases h
 ·split at h
  ·rename_i ht
   cases hn:cJ x with
   |none=>rw [hn] at h;cases h
   |some b=>
    rw [hn] at h
    simp only [Ez,Ow,Aa] at h;subst h
    have hy:vy= .pointer none:=hy
    subst hy
    obtain ⟨⟨a,rfl,_⟩,h2⟩:=BK hT hx hn ht
    exact ⟨.bool b,by rw [Sem.run_bind];simp [eqGuard,binOp,h2],Lm _ _⟩
  ·cases h
 ·split at h
  ·rename_i ht
   cases hn:cK x with
   |none=>rw [hn] at h;cases h
   |some b=>
    rw [hn] at h
    simp only [Ez,Ow,Aa] at h;subst h
    have hy:vy= .slice none 0 0:=hy
    subst hy
    obtain ⟨⟨a,len,cap,rfl,_⟩,h2⟩:=BL hT hx hn ht
    exact ⟨.bool (!b),by rw [Sem.run_bind];simp [eqGuard,binOp,h2],Lm _ _⟩
  ·cases h
 ·split at h
  ·rename_i ht
   cases hn:cJ x with
   |none=>rw [hn] at h;cases h
   |some b=>
    rw [hn] at h
    simp only [Ez,Ow,Aa] at h;subst h
    have hy:vy= .pointer none:=hy
    subst hy
    obtain ⟨⟨a,rfl,_⟩,h2⟩:=BK hT hx hn ht
    exact ⟨.bool (!b),by rw [Sem.run_bind];simp [eqGuard,binOp,h2],Lm _ _⟩
  ·cases h
 ·rename_i a _ b
  have:=Yt hx;subst this
  have:=Yt hy;subst this
  split at h
  ·rename_i ht
   simp only [Ow,Aa] at h;subst h
   have hu:P.underlying t=some .bool:=(hT.ty t _ ht).desc
   exact ⟨_,by rw [Sem.run_bind];simp [eqGuard,binOp,hY hu],Lm _ _⟩
  ·cases h
 ·rename_i a _ b
  have:=Yt hx;subst this
  have:=Yt hy;subst this
  split at h
  ·rename_i ht
   simp only [Ow,Aa] at h;subst h
   have hu:P.underlying t=some .bool:=(hT.ty t _ ht).desc
   exact ⟨_,by rw [Sem.run_bind];simp [eqGuard,binOp,hY hu],Lm _ _⟩
  ·cases h
 ·exact zI op x y vx vy ox oy t av hx hy h
theorem FR (op:UnOp) (x:AV) (vx:Value) (av:AV) (hx:Bn X w π H x vx) (h:wO op x=some av):
  ∃v,(Op.unary op vx).run P w= .ok v w/\Bn X w π H av v:=by
 unfold wO at h
 split at h
 ·have:=Yt hx;subst this
  simp only [Ow,Aa] at h;subst h
  exact ⟨_,by simp [Op.unary],Lm _ _⟩
 ·have:=Pl hx;subst this
  simp only [Zs,Aa] at h;subst h
  exact ⟨_,by simp [Op.unary,Op.intArith],Mp _ _ _⟩
 ·cases h
theorem Ia {t:TypeId} {τ:Ty} (ht:p7 P T t τ) (g o:Nat) (es:List Value) (hl:es.length=τ.size) (hc: ∀j u,es[j]?=some u->w.cell? ⟨g,o+j,none⟩=some u):
  (loadVar t ⟨g,o,none⟩).run P w= .ok (Bv τ es) w:=by
 unfold loadVar
 rw [Sem.run_bind,ht.agg,Result.andThen_ok]
 cases hs:τ.Ap with
 |true=>
  simp only [Oy,Sem.run_bind,ht.size,Result.andThen_ok]
  rw [<-hl,run_loadCells_list w ⟨g,o,none⟩ es (λj v hv=>by rw [Addr.add_lit];exact hc j v hv)]
  simp [Bv,hs]
 |false=>
  have h1:τ.size=1:=by cases τ<;>simp_all [Ty.Ap,Ty.size]
  rw [h1] at hl
  obtain ⟨u,rfl⟩:=Dw.1 hl
  have:=hc 0 u rfl
  simp only [Dx] at this
  simp [this,Bv,hs]
theorem rZ {fr:Bool} {τ:Ty} {x:τ.den} {v:Value} (h:Bn X w π H (.at (.data fr τ x)) v):Bn X w π H (.at (.data (fr||τ.flat) τ x)) v:=by
 cases hf:τ.flat with
 |true=>exact Ct.flat hf h
 |false=>rw [aA];exact h
theorem tU {cs ds:List AC} {us vs:List Value} (h1:Fg X w π H cs us) (h2:Fg X w π H ds vs):Fg X w π H (cs++ds) (us++vs):=by
 have e1:=h1.1
 refine ⟨by simp [h1.1,h2.1],λi c hc=>?_⟩
 by_cases hi:i<cs.length
 ·rw [Ar hi] at hc
  obtain ⟨u,hu,h3⟩:=h1.2 i c hc
  exact ⟨u,by rw [Ar (by omega)];exact hu,h3⟩
 ·rw [Aq (by omega)] at hc
  obtain ⟨u,hu,h3⟩:=h2.2 _ c hc
  exact ⟨u,by rw [Aq (by omega),e1];exact hu,h3⟩
theorem eg {c:AC} {u:Value} (h1:u.oneCell'=true) (h2:Gu X w π H c u):Fg X w π H [c] [u]:=⟨rfl,λi c' hc=>by
 rcases i with _|i
 ·simp at hc;subst hc;exact ⟨u,rfl,h1,h2⟩
 ·simp at hc⟩
theorem JC {l i:Nat} {e:Ty} {tid:TypeId} {xs:List e.den} {r:Real} (hl:At H l=some (.Gg e tid xs)) (hp:π l=some r) (hi:i<xs.length): ∀(τ:Ty) (c:Nat) (F:List Nat) (us:List Value) (x:τ.den),
  Cy w F τ us x->c+τ.size<=e.size->(∀j u,us[j]?=some u->w.cell? ⟨r.g,(r.o+i)*e.size+(c+j),none⟩=some u)->Fg X w π H (eC l i c τ x) us:=by
 intro τ
 induction τ with
 |unit=>intro c F us x h _ _;simp only [Cy] at h;obtain ⟨_,rfl⟩:=h;exact ⟨rfl,λi c hc=>by simp [eC] at hc⟩
 |pair a r fH fF=>
  intro c F us x h hle hc
  have pK:=Cy.cells (S:= λ_=>False) F _ us x h (λ_ _ h=>h)
  simp only [Cy] at h
  obtain ⟨c1,c2,F1,F2,rfl,rfl,h1,h2⟩:=h
  have KT:c1.length=a.size:=Cells.len a c1 x.1 (Cy.cells (S:= λ_=>False) F1 a c1 x.1 h1 (λ_ _ h=>h))
  simp only [Ty.size] at hle
  refine tU (fH c F1 c1 x.1 h1 (by omega) λj u hu=>hc j u (by rw [Ar (Am.1 hu).1];exact hu)) (fF (c+a.size) F2 c2 x.2 h2 (by omega) λj u hu=>?_)
  have:=hc (a.size+j) u (by rw [Aq (by omega),KT];simpa using hu)
  rw [show c+a.size+j=c+(a.size+j) by omega];exact this
 |int k=>intro c F us x h _ _;simp only [Cy] at h;obtain ⟨_,rfl⟩:=h;exact eg rfl (Mp (H:=H) k x true)
 |bool=>intro c F us x h _ _;simp only [Cy] at h;obtain ⟨_,rfl⟩:=h;exact eg rfl (Lm (H:=H) x true)
 |str=>intro c F us x h _ _;simp only [Cy] at h;obtain ⟨_,rfl⟩:=h;exact eg rfl (kJ (H:=H) x true)
 |slice e'=>
  intro c F us x h hle hc
  simp only [Cy] at h
  obtain ⟨a,len,cap,rfl,_⟩:=h
  exact eg rfl ⟨r,_,e.size,xs.length,hl,rfl,hp,hi,⟨by simp only [Ty.size] at hle;omega,_,_,_,rfl⟩,by simpa using hc 0 _ rfl⟩
 |_=>intro c F us x h;simp only [Cy] at h
theorem lz (hT:Dn P T) {st:St} {a:Act} (h:Bg X π st a w) (t:TypeId) (p:AV) (vp:Value) (av:AV) (hp:Bn X w π st.heap p vp) (he:Pq T st t p=some av):
  ∃v,(Instr.loadAt t vp).run P w= .ok v w/\Bn X w π st.heap av v:=by
 unfold Pq at he
 split at he
 ·rename_i τ fr Nx x ht
  split at he
  ·rename_i Sz
   subst Sz
   simp only [Aa] at he;subst he
   have Xa:=hT.ty _ _ ht
   obtain ⟨cs,hc,rfl⟩:=hp
   simp only [Cells] at hc
   obtain ⟨g,o,rfl,hg,hn,es,hl,Ve,aP⟩:=hc
   refine ⟨Bv Nx es,?_,rZ (show Bn X w π st.heap (.at (.data fr Nx _)) (Bv Nx es) from ⟨es,aP,rfl⟩)⟩
   have hr:=Ia (P:=P) (w:=w) Xa g o es hl Ve
   show (do loadVar t (<-Instr.sureAddr (.pointer (some ⟨g,o,none⟩))):Sem Value).run P w=_
   simpa [Instr.sureAddr] using hr
  ·cases he
 ·rename_i τ fr Nx x ht
  split at he
  ·rename_i Sz
   subst Sz
   simp only [Aa] at he;subst he
   have Xa:=hT.ty _ _ ht
   obtain ⟨cs,hc,rfl⟩:=hp
   simp only [Cells] at hc
   rcases hc with ⟨h0,_⟩|⟨y,g,o,h0,rfl,hg,hn,es,hl,Ve,aP⟩
   ·cases h0
   simp only [Aa] at h0;subst h0
   refine ⟨Bv Nx es,?_,rZ (show Bn X w π st.heap (.at (.data fr Nx _)) (Bv Nx es) from ⟨es,aP,rfl⟩)⟩
   have hr:=Ia (P:=P) (w:=w) Xa g o es hl Ve
   show (do loadVar t (<-Instr.sureAddr (.pointer (some ⟨g,o,none⟩))):Sem Value).run P w=_
   simpa [Instr.sureAddr] using hr
  ·cases he
 ·rename_i τ l i ht
  have Xa:=hT.ty _ _ ht
  split at he
  ·rename_i tid vs hl
   obtain ⟨r,Tw,vs',h1,h2,rfl⟩:=hp
   unfold St.at at hl
   rw [hl] at h1;cases h1
   obtain ⟨r',h3,h4,cur,h5,h6⟩:=(h.1.heap l).Qw hl
   rw [h2] at h3;cases h3
   split at he
   ·rename_i hs
    split at he
    ·rename_i hlen
     simp only [Aa] at he;subst he
     have Py:cur.toList.length=vs.length:=h6.1
     refine ⟨_,by
      simp only [Instr.loadAt,Instr.sureAddr]
      simpa using Ia (P:=P) (w:=w) Xa r.g i ((cur.toList.drop i).take τ.size) (by simp at Py⊢;omega) (λj u hu=>by
       rw [cellOf h5]
       rw [Cr] at hu
       split at hu
       ·rw [Co] at hu;simpa using hu
       ·cases hu),?_⟩
     exact ⟨_,by simp [Bv,hs],Ys h6 i τ.size⟩
    ·cases he
   ·rename_i hs
    simp only [Hs] at hs
    have h1:τ.size=1:=by cases τ<;>simp_all [Ty.Ap,Ty.size]
    cases hi:vs[i]? with
    |none=>rw [hi] at he;cases he
    |some c=>
     rw [hi] at he
     simp only [Ak,Aa] at he;subst he
     obtain ⟨u,hu,_,hc⟩:=h6.2 i c hi
     refine ⟨u,?_,hc⟩
     simp only [Instr.loadAt,Instr.sureAddr]
     have:=Ia (P:=P) (w:=w) Xa r.g i [u] (by simp [h1]) (λj u' fE=>by
       rcases j with _|j
       ·simp at fE;subst fE;rw [Dx,cellOf h5];simpa using hu
       ·simp at fE)
     simpa [Bv,hs] using this
  ·cases he
 ·rename_i τ l i ht
  have Xa:=hT.ty _ _ ht
  split at he
  ·rename_i fr tr e tid xs hl
   split at he
   ·rename_i heq;subst heq
    obtain ⟨r,b,sz,n,h1,h0,h2,h3,rfl⟩:=hp
    unfold St.at at hl
    rw [hl] at h1;cases h1
    simp only [OB.row,Aa,Ad] at h0
    obtain ⟨rfl,rfl⟩:=h0
    have hb:=(h.1.heap l).Qw hl
    simp only [Cd,Jk,h3] at hb
    obtain ⟨h4,cur,_,h5,h6,h7,h8,h9,_⟩:=hb
    have hx:xs[i]?=some xs[i]:=Ab h2
    rw [hx] at he
    simp only [Ak,Aa] at he;subst he
    obtain ⟨es,fz,hj,pK⟩:=h9 i _ hx
    refine ⟨Bv e es,?_,rZ (show Bn X w π st.heap (.at (.data fr e _)) (Bv e es) from ⟨es,pK,rfl⟩)⟩
    simp only [Instr.loadAt,Instr.sureAddr]
    simpa using Ia (P:=P) (w:=w) Xa r.g ((r.o+i)*e.size) es fz (λj u hu=>by rw [cellOf h5];exact hj j u hu)
   ·cases he
  ·rename_i e tid xs hl
   split at he
   ·rename_i heq;subst heq
    obtain ⟨r,b,sz,n,h1,h0,h2,h3,rfl⟩:=hp
    unfold St.at at hl
    rw [hl] at h1;cases h1
    simp only [OB.row,Aa,Ad] at h0
    obtain ⟨rfl,rfl⟩:=h0
    have hb:=(h.1.heap l).Qw hl
    simp only [Cd,Np,h3] at hb
    obtain ⟨h4,cur,_,h5,h6,h7,h8,Fs,k1,k2,k3,k4⟩:=hb
    have hx:xs[i]?=some xs[i]:=Ab h2
    rw [hx] at he
    simp only [Ak,Aa] at he;subst he
    obtain ⟨es,fz,hj,pK⟩:=k4 i _ _ hx (Ab (by omega))
    have YV:=JC (X:=X) (H:=st.heap) hl h3 h2 e 0 _ es _ pK (by omega) (λj u hu=>by rw [cellOf h5,Cj];exact hj j u hu)
    refine ⟨Bv e es,?_,?_⟩
    ·simp only [Instr.loadAt,Instr.sureAddr]
     simpa using Ia (P:=P) (w:=w) Xa r.g ((r.o+i)*e.size) es fz (λj u hu=>by rw [cellOf h5];exact hj j u hu)
    ·cases Ya:e.Ap with
     |true=>rw [Ac rfl];exact ⟨es,by simp [Bv,Ya],YV⟩
     |false=>
      rw [Ai (by simp)]
      have h1:e.size=1:=by cases e<;>simp_all [Ty.Ap,Ty.size]
      rw [h1] at fz
      obtain ⟨u,rfl⟩:=Dw.1 fz
      have KT:=YV.1
      generalize eC l i 0 e xs[i]=sc at*
      simp only [Aw,Ho] at KT
      obtain ⟨c,rfl⟩:=Dw.1 KT.symm
      obtain ⟨u',fE,_,uM⟩:=YV.2 0 c rfl
      simp at fE;subst fE
      have e1:Bv e [u]=u:=by simp [Bv,Ya]
      rw [e1]
      exact uM
   ·cases he
  ·rename_i e te rows kp hl
   split at he
   ·cases he
   ·rename_i Ya
    simp only [Hs] at Ya
    simp only [Aa] at he;subst he
    obtain ⟨r,b,sz,n,h1,h0,h2,h3,rfl⟩:=hp
    unfold St.at at hl
    rw [hl] at h1;cases h1
    simp only [OB.row,Aa,Ad] at h0
    obtain ⟨rfl,rfl⟩:=h0
    obtain ⟨u,R,k1,k2,k3⟩:=lL h.1 hl h3 h2 (by simp)
    have Zl:τ.size=1:=by cases τ<;>simp_all [Ty.Ap,Ty.size]
    refine ⟨u,?_,r,_,1,rows.length,hl,rfl,h3,h2,⟨by omega,a7 k2⟩,by rw [Ew,Dx];exact k1⟩
    simp only [Instr.loadAt,Instr.sureAddr]
    have:=Ia (P:=P) (w:=w) Xa r.g ((r.o+i)*1) [u] (by simp [Zl]) (λj u' fE=>by
     rcases j with _|j
     ·simp at fE;subst fE;rw [Ew,Dx];exact k1
     ·simp at fE)
    simpa [Bv,Ya] using this
  ·cases he
 ·rename_i τ l i j ht
  have Xa:=hT.ty _ _ ht
  split at he
  ·rename_i e te rows kp hl
   split at he
   ·rename_i heq;subst heq
    simp only [Aa] at he;subst he
    obtain ⟨r,b,n,sz,g,o,len,cap,h1,h0,h2,h3,h4,h5,rfl⟩:=hp
    unfold St.at at hl
    rw [hl] at h1;cases h1
    simp only [OB.tp,Aa,Ad] at h0
    obtain ⟨rfl,rfl⟩:=h0
    obtain ⟨u,R,k1,k2,k3⟩:=lL h.1 hl h2 h3 (by simp)
    rw [h5] at k1
    have hu:=Ax k1
    subst hu
    cases R with
    |none=>obtain ⟨hh,_⟩:=k2;cases hh
    |some q=>
     obtain ⟨ad,hh,g1,g2⟩:=k2
     simp only [Value.slice.injEq,Aa] at hh
     obtain ⟨rfl,rfl,rfl⟩:=hh
     have SI:=g2 (by omega)
     simp only [Addr.mk.injEq,ah] at SI
     obtain ⟨rfl,rfl⟩:=SI
     obtain ⟨f1,cur,ti,f2,f3,f4,f5,f6⟩:=k3
     have hj:(rows.getD i [])[j]?=some ((rows.getD i []).getD j e.zero):=by rw [Ah (l:=rows.getD i []),Ab h4];rfl
     obtain ⟨es,fz,c1,c2⟩:=f6 j _ hj
     refine ⟨Bv e es,?_,rZ (fr:=false) (show Bn X w π st.heap (.at (.data false e _)) (Bv e es) from ⟨es,c2,rfl⟩)⟩
     simp only [Instr.loadAt,Instr.sureAddr]
     simpa using Ia (P:=P) (w:=w) Xa q.g ((q.o+0)*e.size+j*e.size) es fz (λm u hu=>by rw [cellOf f2,Dx,<-Dc];exact c1 m u hu)
   ·cases he
  ·cases he
 ·cases he
theorem TQ {α:Type} {xs:List α} {n:Int} {x:α} (h:idx xs n=some x):0<=n/\n<xs.length/\xs[n.toNat]?=some x:=by
 unfold idx at h
 split at h
 ·rename_i h0
  have:=(Am.1 h).1
  exact ⟨h0,by omega,h⟩
 ·cases h
theorem pE (hT:Dn P T) {t:TypeId} {e:Ty} (h:(T.elem t).bind T.ty=some e): ∃te,T.elem t=some te/\T.ty te=some e/\P.underlying t=some (.slice te)/\P.elem t=te:=by
 cases ht:T.elem t with
 |none=>rw [ht] at h;cases h
 |some te=>
  rw [ht] at h
  have hu:=hT.elem t te ht
  exact ⟨te,rfl,h,hu,by simp [Program.elem,hu]⟩
theorem ly (hT:Dn P T) {st:St} {a:Act} (h:Bg X π st a w) (t:TypeId) (x i:AV) (vx vi:Value) (av:AV) (hx:Bn X w π st.heap x vx) (hi:Bn X w π st.heap i vi)
  (he:Kc T st t x i=some av): ∃v,(Instr.indexAt t vx vi).run P w= .ok v w/\Bn X w π st.heap av v:=by
 unfold Kc at he
 split at he
 ·rename_i fr e xs _ k n
  have:=Pl hi;subst this
  split at he
  ·rename_i jy
   obtain ⟨te,h1,h2,h3,h4⟩:=pE hT jy
   cases hix:idx xs n with
   |none=>rw [hix] at he;cases he
   |some y=>
    rw [hix] at he
    simp only [Ak,Aa] at he;subst he
    obtain ⟨h5,h6,h7⟩:=TQ hix
    obtain ⟨cs,hc,rfl⟩:=hx
    simp only [Cells] at hc
    obtain ⟨ad,len,cap,rfl,hlen,qR,GC⟩:=hc
    rcases GC with rfl|⟨g,o,rfl,hg,hn,Kl⟩
    ·simp at h6;omega
    ·obtain ⟨es,fz,Ve,aP⟩:=Kl _ _ h7
     have Zl:=(hT.ty _ _ h2).size (w:=w)
     refine ⟨.pointer (some ⟨g,o+n.toNat*e.size,none⟩),?_,[_],⟨g,_,rfl,hg,hn,es,fz,Ve,aP⟩,by simp [Bv,Ty.Ap]⟩
     simp only [Bv,Ty.Ap,Cx,Qu,fP]
     rw [run_indexAt_slice (P:=P) w t _ _ _ k n (by rw [h3,h4]),Ac ⟨h5,by omega⟩,h4,Zl,Result.andThen_ok,Addr.add_lit]
  ·cases he
 ·rename_i l off len _ k n
  have:=Pl hi;subst this
  split at he
  ·rename_i fr tr e tid xs hl
   split at he
   ·rename_i Je
    obtain ⟨h1,h2,h56⟩:=Je
    obtain ⟨h5,h6⟩:=Tf.1 h56
    simp only [Aa] at he;subst he
    have h3:=hT.elem t tid h1
    have h4:P.elem t=tid:=by simp [Program.elem,h3]
    unfold St.at at hl
    have Ll:=hl
    obtain ⟨h8,h9⟩:=Oa (X:=X) (w:=w) hx hl
    cases hp:π l with
    |none=>rw [hp] at h9;obtain ⟨_,_,h9⟩:=h9;omega
    |some r=>
     rw [hp] at h9
     obtain ⟨ad,rfl,og,ju⟩:=h9
     have YA:=ju (by omega)
     subst YA
     have Zl:=(hT.ty _ _ h2).size (w:=w)
     refine ⟨.pointer (some ⟨r.g,(r.o+off)*e.size+n.toNat*e.size,none⟩),?_,r,_,e.size,xs.length,Ll,rfl,by omega,hp,?_⟩
     ·rw [run_indexAt_slice (P:=P) w t _ _ _ k n (by rw [h3,h4]),Ac ⟨h5,by omega⟩,h4,Zl,Result.andThen_ok,Addr.add_lit]
     ·rw [<-Gd r.o off n.toNat,Dc (r.o+off)]
   ·cases he
  ·rename_i e tid xs hl
   split at he
   ·rename_i Je
    obtain ⟨h1,h2,h56⟩:=Je
    obtain ⟨h5,h6⟩:=Tf.1 h56
    simp only [Aa] at he;subst he
    have h3:=hT.elem t tid h1
    have h4:P.elem t=tid:=by simp [Program.elem,h3]
    unfold St.at at hl
    have Ll:=hl
    obtain ⟨h8,h9⟩:=bb (X:=X) (w:=w) hx hl
    cases hp:π l with
    |none=>rw [hp] at h9;obtain ⟨_,_,h9⟩:=h9;omega
    |some r=>
     rw [hp] at h9
     obtain ⟨ad,rfl,og,ju⟩:=h9
     have YA:=ju (by omega)
     subst YA
     have Zl:=(hT.ty _ _ h2).size (w:=w)
     refine ⟨.pointer (some ⟨r.g,(r.o+off)*e.size+n.toNat*e.size,none⟩),?_,r,_,e.size,xs.length,Ll,rfl,by omega,hp,?_⟩
     ·rw [run_indexAt_slice (P:=P) w t _ _ _ k n (by rw [h3,h4]),Ac ⟨h5,by omega⟩,h4,Zl,Result.andThen_ok,Addr.add_lit]
     ·rw [<-Gd r.o off n.toNat,Dc (r.o+off)]
   ·cases he
  ·rename_i e te rows out kp hl
   split at he
   ·rename_i Je
    obtain ⟨h1,h2,h56⟩:=Je
    obtain ⟨h5,h6⟩:=Tf.1 h56
    simp only [Aa] at he;subst he
    have h3:=hT.elem t te h1
    have h4:P.elem t=te:=by simp [Program.elem,h3]
    unfold St.at at hl
    have Ll:=hl
    obtain ⟨h8,h9⟩:=mq (X:=X) (w:=w) hx hl
    cases hp:π l with
    |none=>rw [hp] at h9;obtain ⟨_,_,h9⟩:=h9;omega
    |some r=>
     rw [hp] at h9
     obtain ⟨ad,rfl,og,ju⟩:=h9
     have YA:=ju (by omega)
     subst YA
     cases jz:T.ty te with
     |none=>rw [jz] at h2;cases h2
     |some τ=>
      rw [jz] at h2
      have h2:τ.size=1:=Ax h2
      have Zl:=(hT.ty _ _ jz).size (w:=w)
      refine ⟨.pointer (some ⟨r.g,(r.o+off)*1+n.toNat*τ.size,none⟩),?_,r,_,1,rows.length,Ll,rfl,by omega,hp,?_⟩
      ·rw [run_indexAt_slice (P:=P) w t _ _ _ k n (by rw [h3,h4]),Ac ⟨h5,by omega⟩,h4,Zl,Result.andThen_ok,Addr.add_lit]
      ·rw [h2,<-Gd r.o off n.toNat,Dc (r.o+off)]
   ·cases he
  ·cases he
 ·rename_i l i c _ k n
  have:=Pl hi;subst this
  split at he
  ·rename_i e te rows kp hl
   split at he
   ·rename_i Je
    obtain ⟨h2,h56⟩:=Je
    obtain ⟨h5,h6⟩:=Tf.1 h56
    simp only [Aa] at he;subst he
    cases jz:T.elem t with
    |none=>rw [jz] at h2;cases h2
    |some Qr=>
     rw [jz] at h2
     cases Xa:T.ty Qr with
     |none=>rw [Ez,Xa] at h2;cases h2
     |some τ=>
      rw [Ez,Xa] at h2
      have h2:τ.size=e.size:=Ax h2
      have h3:=hT.elem t Qr jz
      have h4:P.elem t=Qr:=by simp [Program.elem,h3]
      unfold St.at at hl
      obtain ⟨r,b,sz,m,g1,g0,g2,g3,⟨g4,_⟩,g5⟩:=hx
      rw [hl] at g1;cases g1
      simp only [OB.eW,Aa,Ad] at g0
      obtain ⟨rfl,rfl⟩:=g0
      have j7:c=0:=by omega
      subst j7
      rw [Ew,Dx] at g5
      obtain ⟨u,R,k1,k2,k3⟩:=lL h.1 hl g2 g3 (by simp)
      rw [g5] at k1
      have hu:=Ax k1
      subst hu
      cases R with
      |none=>obtain ⟨_,_,hh⟩:=k2;omega
      |some q=>
       obtain ⟨ad,rfl,f1,f2⟩:=k2
       have SI:=f2 (by omega)
       subst SI
       have Zl:=(hT.ty _ _ Xa).size (w:=w)
       refine ⟨.pointer (some ⟨q.g,(q.o+0)*e.size+n.toNat*τ.size,none⟩),?_,r,_,rows.length,e.size,q.g,(q.o+0)*e.size,_,_,hl,rfl,g2,g3,by omega,g5,by rw [h2]⟩
       rw [run_indexAt_slice (P:=P) w t _ _ _ k n (by rw [h3,h4]),Ac ⟨h5,by omega⟩,h4,Zl,Result.andThen_ok,Addr.add_lit]
   ·cases he
  ·cases he
 ·cases he
end
end Go.Proofs.Ytkkdpknjohcekaa
