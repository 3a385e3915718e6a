/-
  Part 7 of the proof that the statement FnMethods holds.
-/
import Derived.Test.YtkkdpknjohcekaaGreatCFMethods05
namespace Go.Proofs.YtkkdpknjohcekaaGreat
open Go.RowKit
section
variable {P:Program} {T:Tab} {X:Ctx} {w w':World} {π:Pi} {H:List (Nat×OB)}
def QQ (P:Program) (X:Ctx) (π:Pi) (H:List (Nat×OB)) (w:World) (av:AV):Result Next->Prop
 | .ok (.value v) w'=>w'=w/\Bs X w π H av v
 | .ok (.enter f args) w'=>w'=w/\Calls P f args w (λe rG=> ∃v,e= .returned v/\Below w.heap.size w rG/\Bs X rG π H av v)
 |_=>False
def lU (s:Spec) (w:World) (S:Nat->Prop) (v:Value) (y:s.res.den):Prop:=
 if s.Jy then ∃us:List Value,v= .tuple us.toArray/\Cy w S s.res us y else Dg w S s.res v y
structure Sound (P:Program) (f:FuncId) (s:Spec):Prop where
 enter: ∀args w,(callFunc f args).run P w= .ok (.enter f args) w
 calls: ∀(w:World) (S:Nat->Prop) (vs:List Value) (x:s.arg.den) (y:s.res.den),(∀k,S k->k<w.heap.size)->Cy w S s.arg vs x->s.fn x=some y->
  Calls P f vs.toArray w λe w'=> ∃v,e= .returned v/\Below w.heap.size w w'/\lU s w' (λb=>S b\/(s.fresh=true/\b<w.heap.size)) v y
def gC (w:World) (D:Nat->Prop) (r:Option Real):(c:CK)->c.den->Prop
 | .Hw _,_=>r=none
 | .row e _,xs=>Sk w D r e xs
 | .Iu e te,xs=>Pb w r e te xs
 | .part e _,x=>e.flat=true/\Sk w D r e x.1
 | .Bu e _ _,rows=>aK w D r e rows none
def fc (w:World) (D:Nat->Prop) (r:Option Real) (v:Value):(c:CK)->c.den->Prop
 | .Hw τ,x=>r=none/\Dg w D τ v x
 | .row e te,xs=>Ib r e.size 0 (List.length xs) v/\gC w D r (.row e te) xs
 | .Iu e te,xs=>Ib r e.size 0 (List.length xs) v/\gC w D r (.Iu e te) xs
 | .part e te,x=>(Ib r e.size x.2.1 x.2.2 v/\x.2.1+x.2.2<=List.length x.1)/\gC w D r (.part e te) x
 | .Bu e te kp,rows=>Ib r 1 0 (List.length rows) v/\gC w D r (.Bu e te kp) rows
def fe (w:World) (D:Nat->Prop) (π:Pi):(k:Nat)->(cs:List (Bool×CK))->Ins.den cs->List Value->Prop
 |_,[],_,[]=>True
 |k,p::r,x,u::us=>fc w D (π (Ee p.1 k)) u p.2 x.1/\fe w D π (k+1) r x.2 us
 |_,_,_,_=>False
def Mo (w:World) (D:Nat->Prop) (π:Pi):(k:Nat)->(cs:List (Bool×CK))->IOs.den cs->Prop
 |_,[],_=>True
 |k,(true, .Hw _)::r,x=>Mo w D π (k+1) r x
 |k,(true, .Bu _ _ _)::r,x=>Mo w D π (k+1) r x
 |k,(true, .row e te)::r,x=>gC w D (π (Ee true k)) (.row e te) x.1/\Mo w D π (k+1) r x.2
 |k,(true, .Iu e te)::r,x=>gC w D (π (Ee true k)) (.Iu e te) x.1/\Mo w D π (k+1) r x.2
 |k,(true, .part e te)::r,x=>gC w D (π (Ee true k)) (.row e te) x.1/\Mo w D π (k+1) r x.2
 |k,(false,_)::r,x=>Mo w D π (k+1) r x
def Jq (w:World) (D:Nat->Prop) (ρ:Pi):(k:Nat)->(cs:List CK)->CKs.den cs->List Value->Prop
 |_,[],_,[]=>True
 |k,c::r,x,u::us=>fc w D (ρ (Jh k)) u c x.1/\Jq w D ρ (k+1) r x.2 us
 |_,_,_,_=>False
structure dz (π:Pi) (A:Nat->Prop):Prop where
 Wl: ∀l r b,π l=some r->r.Cw b->A b
 inj: ∀l l' r r' b,π l=some r->π l'=some r'->r.Cw b->r'.Cw b->l=l'
def dk:List (Option Nat)->List Value->Prop
 | [],[]=>True
 |none::s,_::us=>dk s us
 |some n::s,us=>n<=us.length/\(∀u∈us.take n,u.oneCell'=true)/\dk s (us.drop n)
 |_,_=>False
def Aca (Jy:Bool) (sh:List (Option Nat)) (us:List Value) (v:Value):Prop:=if Jy then v= .tuple (Lt sh us).toArray else Lt sh us= [v]\/Lt sh us= []
def dy (S:Nat->Prop) (π ρ:Pi) (b:Nat):Prop:=S b\/(∃l q,Bk<=l/\π l=some q/\q.Cw b)\/Vd ρ b
def pd (s:MSpec) (w:World) (g:Nat) (us vs:List Value):Prop:=
 match s.ptr with
 |none=>vs=Lt s.Kn us/\dk s.Kn us
 |some p=>vs= .pointer (some ⟨g,0,none⟩)::Lt s.Kn (us.drop p.2)/\dk s.Kn (us.drop p.2)/\p.2<=us.length/\w.heap[g]?=some (.cells (us.take p.2).toArray p.1 (0,0))/\ ∀u∈us.take p.2,u.oneCell'=true
def MSpec.gv (s:MSpec) (g b:Nat):Prop:=s.ptr.isSome=true/\b=g
def Fp (π:Pi):(k:Nat)->(cs:List (Bool×CK))->IOs.den cs->(n:Nat)->List Value->List Value->Prop
 |_,_,_,0,us,_=>us= []
 |k,(true, .row e _)::r,o,n+1,u::us,as=>Ib (π (Ee true k)) e.size 0 (List.length o.1) u/\Fp π (k+1) r o.2 n us as
 |k,(true, .Iu e _)::r,o,n+1,u::us,as=>Ib (π (Ee true k)) e.size 0 (List.length o.1) u/\Fp π (k+1) r o.2 n us as
 |k,(false,_)::r,o,n+1,u::us,a::as=>u=a/\Fp π (k+1) r o n us as
 |_,_,_,_,_,_=>False
def fb (s:MSpec) (π:Pi) (w':World) (g:Nat) (Ug:List Value) (o:IOs.den s.ins):Prop:=
 match s.ptr with
 |none=>True
 |some p=> ∃cs,w'.heap[g]?=some (.cells cs.toArray p.1 (0,0))/\(∀u∈cs,u.oneCell'=true)/\Fp π 0 s.ins o p.2 cs Ug
def sE (w w':World) (r r':Option Real) (n:Nat):Prop:=match r,r' with
 |none,none=>True
 |some q,some q'=>q'.g=q.g/\q'.o=q.o/\q'.cap=q.cap/\ ∀j,j<n->j<q.cap->w'.cell? ⟨q.g,q.o+j,none⟩=w.cell? ⟨q.g,q.o+j,none⟩
 |_,_=>False
def ni (s:MSpec) (w':World) (ρ:Pi) (us:List Value) (v:Value):Prop:=match s.rp with
 |none=>Aca s.Jy s.Ji us v/\dk s.Ji us
 |some tid=> ∃q,ρ (Jh s.outs.length)=some q/\q.Cw q.g/\w'.heap[q.g]?=some (.cells us.toArray tid (0,0))/\(∀u∈us,u.oneCell'=true)/\v= .pointer (some ⟨q.g,0,none⟩)
def MSpec.Tu (s:MSpec):Nat:=s.outs.length+(match s.rp with|none=>0|some _=>1)
structure Eu (P:Program) (f:FuncId) (s:MSpec):Prop where
 enter: ∀args w,(callFunc f args).run P w= .ok (.enter f args) w
 calls: ∀(w:World) (S:Nat->Prop) (π:Pi) (us:List Value) (x:Ins.den s.ins) (r:CKs.den s.outs) (o:IOs.den s.ins) (g:Nat) (vs:List Value),
  pd s w g us vs->(s.ptr.isSome=true->S g)->fe w (λb=>Vd π b\/S b) π 0 s.ins x us->dz π (λb=>b<w.heap.size)->(∀b,S b->b<w.heap.size/\ ¬Vd π b)->(∀l,Av (a9 0 s.ins x) l=none->π l=none)->s.fn x=some (r,o)->
  Calls P f vs.toArray w λe w'=> ∃v Ug ρ,e= .returned v/\ni s w' ρ (Ug.drop s.Yc) v/\fb s π w' g Ug o/\Jz w.heap.size (λb=>Vd π b\/s.gv g b) w w'/\Mo w' (dy S π ρ) π 0 s.ins o/\Jq w' (dy S π ρ) ρ 0 s.outs r Ug/\
   dz ρ (λb=>b<w'.heap.size/\(w.heap.size<=b\/ ∃l q,l<Bk/\π l=some q/\q.Cw b))/\(∀l,(∀k,k<s.Tu->l≠Jh k)->ρ l=none)/\(∀kj∈s.keeps,sE w w' (π (Ee false kj.1)) (ρ (Jh kj.2)) (s.Gj x))
def Ait (P:Program) (f:FuncId):ng->Prop
 | .q s=>Sound P f s
 | .m s=>Eu P f s
 | .b s m=>Sound P f s/\Eu P f m
def Lr (P:Program) (Γ:Env):Prop:= ∀f s,Γ f=some s->Ait P f s
theorem Lr.reg {P:Program} {Γ:Env} (h:Lr P Γ) (draw:Bool):Lr P (BM Γ draw):= λf s hs=>by
 unfold BM at hs
 split at hs
 ·rename_i s0 m Pw
  have:=h f _ Pw
  cases draw with
  |true=>simp only [Pl,Aa] at hs;subst hs;exact this.1
  |false=>simp only [Dh,Si,Aa] at hs;subst hs;exact this.2
 ·exact h f s hs
theorem Qq {k:IntKind} {n:Int} {fr:Bool} {v:Value} (h:Bs X w π H (.at (.data fr (.int k) n)) v):v= .int k n:=by
 obtain ⟨cs,h1,rfl⟩:=h;simp only [Cells] at h1;subst h1;rfl
theorem aq {b:Bool} {fr:Bool} {v:Value} (h:Bs X w π H (.at (.data fr .bool b)) v):v= .bool b:=by
 obtain ⟨cs,h1,rfl⟩:=h;simp only [Cells] at h1;subst h1;rfl
theorem fW {s:ByteArray} {fr:Bool} {v:Value} (h:Bs X w π H (.at (.data fr .str s)) v):v= .string s:=by
 obtain ⟨cs,h1,rfl⟩:=h;simp only [Cells] at h1;subst h1;rfl
theorem Nz (k:IntKind) (n:Int) (fr:Bool):Bs X w π H (.at (.data fr (.int k) n)) (.int k n):=⟨[.int k n],rfl,rfl⟩
theorem Mw (b:Bool) (fr:Bool):Bs X w π H (.at (.data fr .bool b)) (.bool b):=⟨[.bool b],rfl,rfl⟩
theorem mB (s:ByteArray) (fr:Bool):Bs X w π H (.at (.data fr .str s)) (.string s):=⟨[.string s],rfl,rfl⟩
theorem Akr (f:FuncId):Bs X w π H (.at (.clo f [])) (.func (.func f) #[] #[]):=⟨[],rfl,rfl,λi p hi=>by simp at hi⟩
theorem TU (v:Value):Bs X w π H (nA v) v:=by
 unfold nA
 split
 ·exact Nz _ _ _
 ·exact Mw _ _
 ·exact mB _ _
 ·rfl
 ·rfl
 ·trivial
theorem Ed {st:St} {a:Act} (h:sH X w π st a) (x:Operand):Bs X w π st.heap (st.ev x) (a.eval x):=by
 cases x with
 |tmp t=>exact h.tmps t
 |const v=>exact TU v
 |global g=>trivial
 |func f=>exact Akr f
theorem MP (op:BinOp) (k:IntKind) (a b:Int) (t:TypeId) (av:AV) (h:tX op k a b=some av):
  ∃v,(binOp op t (.int k a) (.int k b)).run P w= .ok v w/\Bs X w π H av v:=by
 cases op<;>simp only [tX,aT,Qc] at h
 case add=>cases h;exact ⟨_,by simp [binOp,Op.intArith],Nz _ _ _⟩
 case sub=>cases h;exact ⟨_,by simp [binOp,Op.intArith],Nz _ _ _⟩
 case mul=>cases h;exact ⟨_,by simp [binOp,Op.intArith],Nz _ _ _⟩
 case quo=>split at h<;>cases h;rename_i hb;exact ⟨_,by simp [binOp,Op.intDiv,hb],Nz _ _ _⟩
 case rem=>split at h<;>cases h;rename_i hb;exact ⟨_,by simp [binOp,Op.intDiv,hb],Nz _ _ _⟩
 case and=>cases h;exact ⟨_,by simp [binOp,Op.intBits],Nz _ _ _⟩
 case or=>cases h;exact ⟨_,by simp [binOp,Op.intBits],Nz _ _ _⟩
 case eql=>cases h;exact ⟨_,by simp [binOp,Op.intCmp],Mw _ _⟩
 case neq=>cases h;exact ⟨_,by simp [binOp,Op.intCmp],Mw _ _⟩
 case lss=>cases h;exact ⟨_,by simp [binOp,Op.intCmp],Mw _ _⟩
 case leq=>cases h;exact ⟨_,by simp [binOp,Op.intCmp],Mw _ _⟩
 case gtr=>cases h;exact ⟨_,by simp [binOp,Op.intCmp],Mw _ _⟩
 case geq=>cases h;exact ⟨_,by simp [binOp,Op.intCmp],Mw _ _⟩
 all_goals cases h
theorem FD (op:BinOp) (x y:AV) (vx vy:Value) (ox oy:Operand) (t:TypeId) (av:AV) (hx:Bs X w π H x vx) (hy:Bs X w π H y vy) (h:evalBin op x y=some av):
  ∃v,(do eqGuard op t ox oy vx vy;binOp op t vx vy:Sem Value).run P w= .ok v w/\Bs X w π H av v:=by
 unfold evalBin at h
 split at h
 ·rename_i k a _ k' b
  have:=Qq hx;subst this
  have:=Qq hy;subst this
  have hg: ∀op,(eqGuard op t ox oy (.int k a) (.int k' b)).run P w= .ok () w:=by intro op;cases op<;>simp [eqGuard]
  split at h
  ·split at h
   ·cases h
   ·rename_i hb
    simp only [aT,Aa] at h;subst h
    exact ⟨_,by rw [Sem.run_bind,hg];simp [binOp,Op.shift,hb],Nz _ _ _⟩
  ·split at h
   ·cases h
   ·rename_i hb
    simp only [aT,Aa] at h;subst h
    exact ⟨_,by rw [Sem.run_bind,hg];simp [binOp,Op.shift,hb],Nz _ _ _⟩
  ·split at h
   ·rename_i hk;subst hk
    obtain ⟨v,h1,h2⟩:=MP (P:=P) (w:=w) (X:=X) (π:=π) (H:=H) op k a b t av h
    exact ⟨v,by rw [Sem.run_bind,hg];exact h1,h2⟩
   ·cases h
 ·rename_i a _ b
  have:=fW hx;subst this
  have:=fW hy;subst this
  have hg: ∀op,(eqGuard op t ox oy (.string a) (.string b)).run P w= .ok () w:=by intro op;cases op<;>simp [eqGuard]
  split at h
  ·simp only [Qc,Aa] at h;subst h
   exact ⟨_,by rw [Sem.run_bind,hg];simp [binOp,Op.stringOp],Mw _ _⟩
  ·simp only [Qc,Aa] at h;subst h
   exact ⟨_,by rw [Sem.run_bind,hg];simp [binOp,Op.stringOp],Mw _ _⟩
  ·split at h
   ·rename_i hl
    simp only [Aa] at h;subst h
    exact ⟨_,by rw [Sem.run_bind,hg];simp only [Result.andThen_ok,binOp];exact run_string_add_sum w a b (by omega),mB _ _⟩
   ·cases h
  ·cases h
 ·cases h
theorem jJ {t:TypeId} (h:P.underlying t=some .bool) (a b:Bool) (w:World):(Op.equal t (.bool a) (.bool b)).run P w= .ok (a==b) w:=by
 unfold Op.equal
 rw [show Op.maxDepth=9999+1 from rfl]
 unfold Op.equalIn
 rw [Sem.run_bind,run_underlying h]
 rfl
theorem HI (hT:Ep P T) {x:AV} {vx:Value} {b:Bool} {t:TypeId} (hx:Bs X w π H x vx) (h:ei x=some b) (ht:(T.elem t).isSome=true):
  (∃a len cap,vx= .slice a len cap/\(match a with|none=>true|some _=>false)=b)/\(Op.equal t vx (.slice none 0 0)).run P w= .ok b w:=by
 have h1: ∃a len cap,vx= .slice a len cap/\(match a with|none=>true|some _=>false)=b:=by
  unfold ei at h
  split at h
  ·simp only [Aa] at h;subst h
   have hx:vx= .slice none 0 0:=hx
   exact ⟨none,0,0,hx,rfl⟩
  ·simp only [Aa] at h;subst h
   obtain ⟨cs,hc,rfl⟩:=hx
   simp only [Cells] at hc
   rcases hc with ⟨rfl,c,rfl⟩|⟨xs,ad,len,cap,rfl,rfl,_⟩
   ·exact ⟨none,0,c,by simp [Ce,Ty.Ar],rfl⟩
   ·exact ⟨some ad,len,cap,by simp [Ce,Ty.Ar],rfl⟩
  ·cases h
 refine ⟨h1,?_⟩
 obtain ⟨a,len,cap,rfl,rfl⟩:=h1
 obtain ⟨te,lr⟩:=Xs.1 ht
 have hu:=hT.elem t te lr
 unfold Op.equal
 rw [show Op.maxDepth=9999+1 from rfl]
 unfold Op.equalIn
 rw [Sem.run_bind,run_underlying hu]
 cases a<;>rfl
theorem HH (hT:Ep P T) {x:AV} {vx:Value} {b:Bool} {t:TypeId} (hx:Bs X w π H x vx) (h:eh x=some b) (ht:Aaw (T.ty t)=true):
  (∃a,vx= .pointer a/\(match a with|none=>true|some _=>false)=b)/\(Op.equal t vx (.pointer none)).run P w= .ok b w:=by
 have h1: ∃a,vx= .pointer a/\(match a with|none=>true|some _=>false)=b:=by
  unfold eh at h
  split at h
  ·simp only [Aa] at h;subst h
   have hx:vx= .pointer none:=hx
   exact ⟨none,hx,rfl⟩
  ·simp only [Aa] at h;subst h
   obtain ⟨r,tid,vs,_,_,rfl⟩:=hx
   exact ⟨_,rfl,rfl⟩
  ·simp only [Aa] at h;subst h
   obtain ⟨cs,hc,rfl⟩:=hx
   simp only [Cells] at hc
   rcases hc with ⟨rfl,rfl⟩|⟨xs,g,o,rfl,rfl,_⟩
   ·exact ⟨none,by simp [Ce,Ty.Ar],rfl⟩
   ·exact ⟨some ⟨g,o,none⟩,by simp [Ce,Ty.Ar],rfl⟩
  ·simp only [Aa] at h;subst h
   obtain ⟨cs,hc,rfl⟩:=hx
   simp only [Cells] at hc
   obtain ⟨g,o,rfl,_⟩:=hc
   exact ⟨some ⟨g,o,none⟩,by simp [Ce,Ty.Ar],rfl⟩
  ·cases h
 refine ⟨h1,?_⟩
 obtain ⟨a,rfl,rfl⟩:=h1
 have hu: ∃u,P.underlying t=some (.pointer u):=by
  cases Yt:T.ty t with
  |none=>rw [Yt] at ht;cases ht
  |some τ=>
   have hd:=(hT.ty t τ Yt).desc
   rw [Yt] at ht
   cases τ<;>first|exact hd|cases ht
 obtain ⟨u,hu⟩:=hu
 unfold Op.equal
 rw [show Op.maxDepth=9999+1 from rfl]
 unfold Op.equalIn
 rw [Sem.run_bind,run_underlying hu]
 cases a<;>rfl
theorem zu {T:Tab} (hT:Ep P T) (op:BinOp) (x y:AV) (vx vy:Value) (ox oy:Operand) (t:TypeId) (av:AV) (hx:Bs X w π H x vx) (hy:Bs X w π H y vy) (h:Uk T op t x y=some av):
  ∃v,(do eqGuard op t ox oy vx vy;binOp op t vx vy:Sem Value).run P w= .ok v w/\Bs X w π H av v:=by
 unfold Uk at h
 split at h
 ·split at h
  ·rename_i ht
   cases hn:ei x with
   |none=>rw [hn] at h;cases h
   |some b=>
    rw [hn] at h
    simp only [Gm,Qc,Aa] at h;subst h
    have hy:vy= .slice none 0 0:=hy
    subst hy
    obtain ⟨⟨a,len,cap,rfl,_⟩,h2⟩:=HI hT hx hn ht
    exact ⟨.bool b,by rw [Sem.run_bind];simp [eqGuard,binOp,h2],Mw _ _⟩
  ·cases h
 ·split at h
  ·rename_i ht
   cases hn:eh x with
   |none=>rw [hn] at h;cases h
   |some b=>
    rw [hn] at h
    simp only [Gm,Qc,Aa] at h;subst h
    have hy:vy= .pointer none:=hy
    subst hy
    obtain ⟨⟨a,rfl,_⟩,h2⟩:=HH hT hx hn ht
    exact ⟨.bool b,by rw [Sem.run_bind];simp [eqGuard,binOp,h2],Mw _ _⟩
  ·cases h
 ·split at h
  ·rename_i ht
   cases hn:ei x with
   |none=>rw [hn] at h;cases h
   |some b=>
    rw [hn] at h
    simp only [Gm,Qc,Aa] at h;subst h
    have hy:vy= .slice none 0 0:=hy
    subst hy
    obtain ⟨⟨a,len,cap,rfl,_⟩,h2⟩:=HI hT hx hn ht
    exact ⟨.bool (!b),by rw [Sem.run_bind];simp [eqGuard,binOp,h2],Mw _ _⟩
  ·cases h
 ·split at h
  ·rename_i ht
   cases hn:eh x with
   |none=>rw [hn] at h;cases h
   |some b=>
    rw [hn] at h
    simp only [Gm,Qc,Aa] at h;subst h
    have hy:vy= .pointer none:=hy
    subst hy
    obtain ⟨⟨a,rfl,_⟩,h2⟩:=HH hT hx hn ht
    exact ⟨.bool (!b),by rw [Sem.run_bind];simp [eqGuard,binOp,h2],Mw _ _⟩
  ·cases h
 ·rename_i a _ b
  have:=aq hx;subst this
  have:=aq hy;subst this
  split at h
  ·rename_i ht
   simp only [Qc,Aa] at h;subst h
   have hu:P.underlying t=some .bool:=(hT.ty t _ ht).desc
   exact ⟨_,by rw [Sem.run_bind];simp [eqGuard,binOp,jJ hu],Mw _ _⟩
  ·cases h
 ·rename_i a _ b
  have:=aq hx;subst this
  have:=aq hy;subst this
  split at h
  ·rename_i ht
   simp only [Qc,Aa] at h;subst h
   have hu:P.underlying t=some .bool:=(hT.ty t _ ht).desc
   exact ⟨_,by rw [Sem.run_bind];simp [eqGuard,binOp,jJ hu],Mw _ _⟩
  ·cases h
 ·exact FD op x y vx vy ox oy t av hx hy h
theorem LS (op:UnOp) (x:AV) (vx:Value) (av:AV) (hx:Bs X w π H x vx) (h:zy op x=some av):
  ∃v,(Op.unary op vx).run P w= .ok v w/\Bs X w π H av v:=by
 unfold zy at h
 split at h
 ·have:=aq hx;subst this
  simp only [Qc,Aa] at h;subst h
  exact ⟨_,by simp [Op.unary],Mw _ _⟩
 ·have:=Qq hx;subst this
  simp only [aT,Aa] at h;subst h
  exact ⟨_,by simp [Op.unary,Op.intArith],Nz _ _ _⟩
 ·cases h
theorem Jn {t:TypeId} {τ:Ty} (ht:ph P T t τ) (g o:Nat) (es:List Value) (hl:es.length=τ.size) (hc: ∀j u,es[j]?=some u->w.cell? ⟨g,o+j,none⟩=some u):
  (loadVar t ⟨g,o,none⟩).run P w= .ok (Ce τ es) w:=by
 unfold loadVar
 rw [Sem.run_bind,ht.agg,Result.andThen_ok]
 cases hs:τ.Ar with
 |true=>
  simp only [Pl,Sem.run_bind,ht.size,Result.andThen_ok]
  rw [<-hl,run_loadCells_list w ⟨g,o,none⟩ es (λj v hv=>by rw [Addr.add_lit];exact hc j v hv)]
  simp [Ce,hs]
 |false=>
  have h1:τ.size=1:=by cases τ<;>simp_all [Ty.Ar,Ty.size]
  rw [h1] at hl
  obtain ⟨u,rfl⟩:=En.1 hl
  have:=hc 0 u rfl
  simp only [Eo] at this
  simp [this,Ce,hs]
theorem uP {fr:Bool} {τ:Ty} {x:τ.den} {v:Value} (h:Bs X w π H (.at (.data fr τ x)) v):Bs X w π H (.at (.data (fr||τ.flat) τ x)) v:=by
 cases hf:τ.flat with
 |true=>exact Dg.flat hf h
 |false=>rw [iz];exact h
theorem wO {cs ds:List AC} {us vs:List Value} (h1:Gv X w π H cs us) (h2:Gv X w π H ds vs):Gv X w π H (cs++ds) (us++vs):=by
 have e1:=h1.1
 refine ⟨by simp [h1.1,h2.1],λi c hc=>?_⟩
 by_cases hi:i<cs.length
 ·rw [At hi] at hc
  obtain ⟨u,hu,h3⟩:=h1.2 i c hc
  exact ⟨u,by rw [At (by omega)];exact hu,h3⟩
 ·rw [As (by omega)] at hc
  obtain ⟨u,hu,h3⟩:=h2.2 _ c hc
  exact ⟨u,by rw [As (by omega),e1];exact hu,h3⟩
theorem fV {c:AC} {u:Value} (h1:u.oneCell'=true) (h2:Iq X w π H c u):Gv X w π H [c] [u]:=⟨rfl,λi c' hc=>by
 rcases i with _|i
 ·simp at hc;subst hc;exact ⟨u,rfl,h1,h2⟩
 ·simp at hc⟩
theorem PM {l i:Nat} {e:Ty} {tid:TypeId} {xs:List e.den} {r:Real} (hl:Av H l=some (.Hs e tid xs)) (hp:π l=some r) (hi:i<xs.length): ∀(τ:Ty) (c:Nat) (F:List Nat) (us:List Value) (x:τ.den),
  Di w F τ us x->c+τ.size<=e.size->(∀j u,us[j]?=some u->w.cell? ⟨r.g,(r.o+i)*e.size+(c+j),none⟩=some u)->Gv X w π H (gn l i c τ x) us:=by
 intro τ
 induction τ with
 |unit=>intro c F us x h _ _;simp only [Di] at h;obtain ⟨_,rfl⟩:=h;exact ⟨rfl,λi c hc=>by simp [gn] at hc⟩
 |pair a r iC iw=>
  intro c F us x h hle hc
  have tF:=Di.cells (S:= λ_=>False) F _ us x h (λ_ _ h=>h)
  simp only [Di] at h
  obtain ⟨c1,c2,F1,F2,rfl,rfl,h1,h2⟩:=h
  have p9:c1.length=a.size:=Cells.len a c1 x.1 (Di.cells (S:= λ_=>False) F1 a c1 x.1 h1 (λ_ _ h=>h))
  simp only [Ty.size] at hle
  refine wO (iC c F1 c1 x.1 h1 (by omega) λj u hu=>hc j u (by rw [At (Ao.1 hu).1];exact hu)) (iw (c+a.size) F2 c2 x.2 h2 (by omega) λj u hu=>?_)
  have:=hc (a.size+j) u (by rw [As (by omega),p9];simpa using hu)
  rw [show c+a.size+j=c+(a.size+j) by omega];exact this
 |int k=>intro c F us x h _ _;simp only [Di] at h;obtain ⟨_,rfl⟩:=h;exact fV rfl (Nz (H:=H) k x true)
 |bool=>intro c F us x h _ _;simp only [Di] at h;obtain ⟨_,rfl⟩:=h;exact fV rfl (Mw (H:=H) x true)
 |str=>intro c F us x h _ _;simp only [Di] at h;obtain ⟨_,rfl⟩:=h;exact fV rfl (mB (H:=H) x true)
 |slice e'=>
  intro c F us x h hle hc
  simp only [Di] at h
  obtain ⟨a,len,cap,rfl,_⟩:=h
  exact fV rfl ⟨r,_,e.size,xs.length,hl,rfl,hp,hi,⟨by simp only [Ty.size] at hle;omega,_,_,_,rfl⟩,by simpa using hc 0 _ rfl⟩
 |_=>intro c F us x h;simp only [Di] at h
theorem nI (hT:Ep P T) {st:St} {a:Act} (h:Bh X π st a w) (t:TypeId) (p:AV) (vp:Value) (av:AV) (hp:Bs X w π st.heap p vp) (he:Qx T st t p=some av):
  ∃v,(Instr.loadAt t vp).run P w= .ok v w/\Bs X w π st.heap av v:=by
 unfold Qx at he
 split at he
 ·rename_i τ fr Pj x ht
  split at he
  ·rename_i Um
   subst Um
   simp only [Aa] at he;subst he
   have Yt:=hT.ty _ _ ht
   obtain ⟨cs,hc,rfl⟩:=hp
   simp only [Cells] at hc
   obtain ⟨g,o,rfl,hg,hn,es,hl,Wv,c9⟩:=hc
   refine ⟨Ce Pj es,?_,uP (show Bs X w π st.heap (.at (.data fr Pj _)) (Ce Pj es) from ⟨es,c9,rfl⟩)⟩
   have hr:=Jn (P:=P) (w:=w) Yt g o es hl Wv
   show (do loadVar t (<-Instr.sureAddr (.pointer (some ⟨g,o,none⟩))):Sem Value).run P w=_
   simpa [Instr.sureAddr] using hr
  ·cases he
 ·rename_i τ fr Pj x ht
  split at he
  ·rename_i Um
   subst Um
   simp only [Aa] at he;subst he
   have Yt:=hT.ty _ _ ht
   obtain ⟨cs,hc,rfl⟩:=hp
   simp only [Cells] at hc
   rcases hc with ⟨h0,_⟩|⟨y,g,o,h0,rfl,hg,hn,es,hl,Wv,c9⟩
   ·cases h0
   simp only [Aa] at h0;subst h0
   refine ⟨Ce Pj es,?_,uP (show Bs X w π st.heap (.at (.data fr Pj _)) (Ce Pj es) from ⟨es,c9,rfl⟩)⟩
   have hr:=Jn (P:=P) (w:=w) Yt g o es hl Wv
   show (do loadVar t (<-Instr.sureAddr (.pointer (some ⟨g,o,none⟩))):Sem Value).run P w=_
   simpa [Instr.sureAddr] using hr
  ·cases he
 ·rename_i τ l i ht
  have Yt:=hT.ty _ _ ht
  split at he
  ·rename_i tid vs hl
   obtain ⟨r,Vo,vs',h1,h2,rfl⟩:=hp
   unfold St.at at hl
   rw [hl] at h1;cases h1
   obtain ⟨r',h3,h4,cur,h5,h6⟩:=(h.1.heap l).Sl hl
   rw [h2] at h3;cases h3
   split at he
   ·rename_i hs
    split at he
    ·rename_i hlen
     simp only [Aa] at he;subst he
     have Sa:cur.toList.length=vs.length:=h6.1
     refine ⟨_,by
      simp only [Instr.loadAt,Instr.sureAddr]
      simpa using Jn (P:=P) (w:=w) Yt r.g i ((cur.toList.drop i).take τ.size) (by simp at Sa⊢;omega) (λj u hu=>by
       rw [cellOf h5]
       rw [Cv] at hu
       split at hu
       ·rw [Cz] at hu;simpa using hu
       ·cases hu),?_⟩
     exact ⟨_,by simp [Ce,hs],an h6 i τ.size⟩
    ·cases he
   ·rename_i hs
    simp only [Fc] at hs
    have h1:τ.size=1:=by cases τ<;>simp_all [Ty.Ar,Ty.size]
    cases hi:vs[i]? with
    |none=>rw [hi] at he;cases he
    |some c=>
     rw [hi] at he
     simp only [An,Aa] at he;subst he
     obtain ⟨u,hu,_,hc⟩:=h6.2 i c hi
     refine ⟨u,?_,hc⟩
     simp only [Instr.loadAt,Instr.sureAddr]
     have:=Jn (P:=P) (w:=w) Yt r.g i [u] (by simp [h1]) (λj u' iv=>by
       rcases j with _|j
       ·simp at iv;subst iv;rw [Eo,cellOf h5];simpa using hu
       ·simp at iv)
     simpa [Ce,hs] using this
  ·cases he
 ·rename_i τ l i ht
  have Yt:=hT.ty _ _ ht
  split at he
  ·rename_i fr tr e tid xs hl
   split at he
   ·rename_i heq;subst heq
    obtain ⟨r,b,sz,n,h1,h0,h2,h3,rfl⟩:=hp
    unfold St.at at hl
    rw [hl] at h1;cases h1
    simp only [OB.row,Aa,Af] at h0
    obtain ⟨rfl,rfl⟩:=h0
    have hb:=(h.1.heap l).Sl hl
    simp only [Cl,Kz,h3] at hb
    obtain ⟨h4,cur,_,h5,h6,h7,h8,h9,_⟩:=hb
    have hx:xs[i]?=some xs[i]:=Ac h2
    rw [hx] at he
    simp only [An,Aa] at he;subst he
    obtain ⟨es,ir,hj,tF⟩:=h9 i _ hx
    refine ⟨Ce e es,?_,uP (show Bs X w π st.heap (.at (.data fr e _)) (Ce e es) from ⟨es,tF,rfl⟩)⟩
    simp only [Instr.loadAt,Instr.sureAddr]
    simpa using Jn (P:=P) (w:=w) Yt r.g ((r.o+i)*e.size) es ir (λj u hu=>by rw [cellOf h5];exact hj j u hu)
   ·cases he
  ·rename_i e tid xs hl
   split at he
   ·rename_i heq;subst heq
    obtain ⟨r,b,sz,n,h1,h0,h2,h3,rfl⟩:=hp
    unfold St.at at hl
    rw [hl] at h1;cases h1
    simp only [OB.row,Aa,Af] at h0
    obtain ⟨rfl,rfl⟩:=h0
    have hb:=(h.1.heap l).Sl hl
    simp only [Cl,Pb,h3] at hb
    obtain ⟨h4,cur,_,h5,h6,h7,h8,Fs,k1,k2,k3,k4⟩:=hb
    have hx:xs[i]?=some xs[i]:=Ac h2
    rw [hx] at he
    simp only [An,Aa] at he;subst he
    obtain ⟨es,ir,hj,tF⟩:=k4 i _ _ hx (Ac (by omega))
    have hrs:=PM (X:=X) (H:=st.heap) hl h3 h2 e 0 _ es _ tF (by omega) (λj u hu=>by rw [cellOf h5,Bt];exact hj j u hu)
    refine ⟨Ce e es,?_,?_⟩
    ·simp only [Instr.loadAt,Instr.sureAddr]
     simpa using Jn (P:=P) (w:=w) Yt r.g ((r.o+i)*e.size) es ir (λj u hu=>by rw [cellOf h5];exact hj j u hu)
    ·cases Qj:e.Ar with
     |true=>rw [Ab rfl];exact ⟨es,by simp [Ce,Qj],hrs⟩
     |false=>
      rw [Ai (by simp)]
      have h1:e.size=1:=by cases e<;>simp_all [Ty.Ar,Ty.size]
      rw [h1] at ir
      obtain ⟨u,rfl⟩:=En.1 ir
      have p9:=hrs.1
      generalize gn l i 0 e xs[i]=sc at*
      simp only [Ay,Gp] at p9
      obtain ⟨c,rfl⟩:=En.1 p9.symm
      obtain ⟨u',iv,_,xG⟩:=hrs.2 0 c rfl
      simp at iv;subst iv
      have e1:Ce e [u]=u:=by simp [Ce,Qj]
      rw [e1]
      exact xG
   ·cases he
  ·rename_i e te rows kp hl
   split at he
   ·cases he
   ·rename_i Qj
    simp only [Fc] at Qj
    simp only [Aa] at he;subst he
    obtain ⟨r,b,sz,n,h1,h0,h2,h3,rfl⟩:=hp
    unfold St.at at hl
    rw [hl] at h1;cases h1
    simp only [OB.row,Aa,Af] at h0
    obtain ⟨rfl,rfl⟩:=h0
    obtain ⟨u,R,k1,k2,k3⟩:=nU h.1 hl h3 h2 (by simp)
    have aN:τ.size=1:=by cases τ<;>simp_all [Ty.Ar,Ty.size]
    refine ⟨u,?_,r,_,1,rows.length,hl,rfl,h3,h2,⟨by omega,bj k2⟩,by rw [Fw,Eo];exact k1⟩
    simp only [Instr.loadAt,Instr.sureAddr]
    have:=Jn (P:=P) (w:=w) Yt r.g ((r.o+i)*1) [u] (by simp [aN]) (λj u' iv=>by
     rcases j with _|j
     ·simp at iv;subst iv;rw [Fw,Eo];exact k1
     ·simp at iv)
    simpa [Ce,Qj] using this
  ·cases he
 ·rename_i τ l i j ht
  have Yt:=hT.ty _ _ ht
  split at he
  ·rename_i e te rows kp hl
   split at he
   ·rename_i heq;subst heq
    simp only [Aa] at he;subst he
    obtain ⟨r,b,n,sz,g,o,len,cap,h1,h0,h2,h3,h4,h5,rfl⟩:=hp
    unfold St.at at hl
    rw [hl] at h1;cases h1
    simp only [OB.w9,Aa,Af] at h0
    obtain ⟨rfl,rfl⟩:=h0
    obtain ⟨u,R,k1,k2,k3⟩:=nU h.1 hl h2 h3 (by simp)
    rw [h5] at k1
    have hu:=Bd k1
    subst hu
    cases R with
    |none=>obtain ⟨hh,_⟩:=k2;cases hh
    |some q=>
     obtain ⟨ad,hh,g1,g2⟩:=k2
     simp only [Value.slice.injEq,Aa] at hh
     obtain ⟨rfl,rfl,rfl⟩:=hh
     have RT:=g2 (by omega)
     simp only [Addr.mk.injEq,bq] at RT
     obtain ⟨rfl,rfl⟩:=RT
     obtain ⟨f1,cur,ti,f2,f3,f4,f5,f6⟩:=k3
     have hj:(rows.getD i [])[j]?=some ((rows.getD i []).getD j e.zero):=by rw [Ak (l:=rows.getD i []),Ac h4];rfl
     obtain ⟨es,ir,c1,c2⟩:=f6 j _ hj
     refine ⟨Ce e es,?_,uP (fr:=false) (show Bs X w π st.heap (.at (.data false e _)) (Ce e es) from ⟨es,c2,rfl⟩)⟩
     simp only [Instr.loadAt,Instr.sureAddr]
     simpa using Jn (P:=P) (w:=w) Yt q.g ((q.o+0)*e.size+j*e.size) es ir (λm u hu=>by rw [cellOf f2,Eo,<-Dq];exact c1 m u hu)
   ·cases he
  ·cases he
 ·cases he
theorem Aar {α:Type} {xs:List α} {n:Int} {x:α} (h:idx xs n=some x):0<=n/\n<xs.length/\xs[n.toNat]?=some x:=by
 unfold idx at h
 split at h
 ·rename_i h0
  have:=(Ao.1 h).1
  exact ⟨h0,by omega,h⟩
 ·cases h
theorem si (hT:Ep P T) {t:TypeId} {e:Ty} (h:(T.elem t).bind T.ty=some e): ∃te,T.elem t=some te/\T.ty te=some e/\P.underlying t=some (.slice te)/\P.elem t=te:=by
 cases ht:T.elem t with
 |none=>rw [ht] at h;cases h
 |some te=>
  rw [ht] at h
  have hu:=hT.elem t te ht
  exact ⟨te,rfl,h,hu,by simp [Program.elem,hu]⟩
theorem nH (hT:Ep P T) {st:St} {a:Act} (h:Bh X π st a w) (t:TypeId) (x i:AV) (vx vi:Value) (av:AV) (hx:Bs X w π st.heap x vx) (hi:Bs X w π st.heap i vi)
  (he:Lp T st t x i=some av): ∃v,(Instr.indexAt t vx vi).run P w= .ok v w/\Bs X w π st.heap av v:=by
 unfold Lp at he
 split at he
 ·rename_i fr e xs _ k n
  have:=Qq hi;subst this
  split at he
  ·rename_i jg
   obtain ⟨te,h1,h2,h3,h4⟩:=si hT jg
   cases hix:idx xs n with
   |none=>rw [hix] at he;cases he
   |some y=>
    rw [hix] at he
    simp only [An,Aa] at he;subst he
    obtain ⟨h5,h6,h7⟩:=Aar hix
    obtain ⟨cs,hc,rfl⟩:=hx
    simp only [Cells] at hc
    obtain ⟨ad,len,cap,rfl,hlen,tE,MF⟩:=hc
    rcases MF with rfl|⟨g,o,rfl,hg,hn,Le⟩
    ·simp at h6;omega
    ·obtain ⟨es,ir,Wv,c9⟩:=Le _ _ h7
     have aN:=(hT.ty _ _ h2).size (w:=w)
     refine ⟨.pointer (some ⟨g,o+n.toNat*e.size,none⟩),?_,[_],⟨g,_,rfl,hg,hn,es,ir,Wv,c9⟩,by simp [Ce,Ty.Ar]⟩
     simp only [Ce,Ty.Ar,Dh,Si,iI]
     rw [run_indexAt_slice (P:=P) w t _ _ _ k n (by rw [h3,h4]),Ab ⟨h5,by omega⟩,h4,aN,Result.andThen_ok,Addr.add_lit]
  ·cases he
 ·rename_i l off len _ k n
  have:=Qq hi;subst this
  split at he
  ·rename_i fr tr e tid xs hl
   split at he
   ·rename_i Kt
    obtain ⟨h1,h2,h56⟩:=Kt
    obtain ⟨h5,h6⟩:=Ut.1 h56
    simp only [Aa] at he;subst he
    have h3:=hT.elem t tid h1
    have h4:P.elem t=tid:=by simp [Program.elem,h3]
    unfold St.at at hl
    have Lq:=hl
    obtain ⟨h8,h9⟩:=Po (X:=X) (w:=w) hx hl
    cases hp:π l with
    |none=>rw [hp] at h9;obtain ⟨_,_,h9⟩:=h9;omega
    |some r=>
     rw [hp] at h9
     obtain ⟨ad,rfl,qN,lk⟩:=h9
     have h12:=lk (by omega)
     subst h12
     have aN:=(hT.ty _ _ h2).size (w:=w)
     refine ⟨.pointer (some ⟨r.g,(r.o+off)*e.size+n.toNat*e.size,none⟩),?_,r,_,e.size,xs.length,Lq,rfl,by omega,hp,?_⟩
     ·rw [run_indexAt_slice (P:=P) w t _ _ _ k n (by rw [h3,h4]),Ab ⟨h5,by omega⟩,h4,aN,Result.andThen_ok,Addr.add_lit]
     ·rw [<-Hp r.o off n.toNat,Dq (r.o+off)]
   ·cases he
  ·rename_i e tid xs hl
   split at he
   ·rename_i Kt
    obtain ⟨h1,h2,h56⟩:=Kt
    obtain ⟨h5,h6⟩:=Ut.1 h56
    simp only [Aa] at he;subst he
    have h3:=hT.elem t tid h1
    have h4:P.elem t=tid:=by simp [Program.elem,h3]
    unfold St.at at hl
    have Lq:=hl
    obtain ⟨h8,h9⟩:=ct (X:=X) (w:=w) hx hl
    cases hp:π l with
    |none=>rw [hp] at h9;obtain ⟨_,_,h9⟩:=h9;omega
    |some r=>
     rw [hp] at h9
     obtain ⟨ad,rfl,qN,lk⟩:=h9
     have h12:=lk (by omega)
     subst h12
     have aN:=(hT.ty _ _ h2).size (w:=w)
     refine ⟨.pointer (some ⟨r.g,(r.o+off)*e.size+n.toNat*e.size,none⟩),?_,r,_,e.size,xs.length,Lq,rfl,by omega,hp,?_⟩
     ·rw [run_indexAt_slice (P:=P) w t _ _ _ k n (by rw [h3,h4]),Ab ⟨h5,by omega⟩,h4,aN,Result.andThen_ok,Addr.add_lit]
     ·rw [<-Hp r.o off n.toNat,Dq (r.o+off)]
   ·cases he
  ·rename_i e te rows out kp hl
   split at he
   ·rename_i Kt
    obtain ⟨h1,h2,h56⟩:=Kt
    obtain ⟨h5,h6⟩:=Ut.1 h56
    simp only [Aa] at he;subst he
    have h3:=hT.elem t te h1
    have h4:P.elem t=te:=by simp [Program.elem,h3]
    unfold St.at at hl
    have Lq:=hl
    obtain ⟨h8,h9⟩:=oC (X:=X) (w:=w) hx hl
    cases hp:π l with
    |none=>rw [hp] at h9;obtain ⟨_,_,h9⟩:=h9;omega
    |some r=>
     rw [hp] at h9
     obtain ⟨ad,rfl,qN,lk⟩:=h9
     have h12:=lk (by omega)
     subst h12
     cases lr:T.ty te with
     |none=>rw [lr] at h2;cases h2
     |some τ=>
      rw [lr] at h2
      have h2:τ.size=1:=Bd h2
      have aN:=(hT.ty _ _ lr).size (w:=w)
      refine ⟨.pointer (some ⟨r.g,(r.o+off)*1+n.toNat*τ.size,none⟩),?_,r,_,1,rows.length,Lq,rfl,by omega,hp,?_⟩
      ·rw [run_indexAt_slice (P:=P) w t _ _ _ k n (by rw [h3,h4]),Ab ⟨h5,by omega⟩,h4,aN,Result.andThen_ok,Addr.add_lit]
      ·rw [h2,<-Hp r.o off n.toNat,Dq (r.o+off)]
   ·cases he
  ·cases he
 ·rename_i l i c _ k n
  have:=Qq hi;subst this
  split at he
  ·rename_i e te rows kp hl
   split at he
   ·rename_i Kt
    obtain ⟨h2,h56⟩:=Kt
    obtain ⟨h5,h6⟩:=Ut.1 h56
    simp only [Aa] at he;subst he
    cases lr:T.elem t with
    |none=>rw [lr] at h2;cases h2
    |some Se=>
     rw [lr] at h2
     cases Yt:T.ty Se with
     |none=>rw [Gm,Yt] at h2;cases h2
     |some τ=>
      rw [Gm,Yt] at h2
      have h2:τ.size=e.size:=Bd h2
      have h3:=hT.elem t Se lr
      have h4:P.elem t=Se:=by simp [Program.elem,h3]
      unfold St.at at hl
      obtain ⟨r,b,sz,m,g1,g0,g2,g3,⟨g4,_⟩,g5⟩:=hx
      rw [hl] at g1;cases g1
      simp only [OB.gQ,Aa,Af] at g0
      obtain ⟨rfl,rfl⟩:=g0
      have kV:c=0:=by omega
      subst kV
      rw [Fw,Eo] at g5
      obtain ⟨u,R,k1,k2,k3⟩:=nU h.1 hl g2 g3 (by simp)
      rw [g5] at k1
      have hu:=Bd k1
      subst hu
      cases R with
      |none=>obtain ⟨_,_,hh⟩:=k2;omega
      |some q=>
       obtain ⟨ad,rfl,f1,f2⟩:=k2
       have RT:=f2 (by omega)
       subst RT
       have aN:=(hT.ty _ _ Yt).size (w:=w)
       refine ⟨.pointer (some ⟨q.g,(q.o+0)*e.size+n.toNat*τ.size,none⟩),?_,r,_,rows.length,e.size,q.g,(q.o+0)*e.size,_,_,hl,rfl,g2,g3,by omega,g5,by rw [h2]⟩
       rw [run_indexAt_slice (P:=P) w t _ _ _ k n (by rw [h3,h4]),Ab ⟨h5,by omega⟩,h4,aN,Result.andThen_ok,Addr.add_lit]
   ·cases he
  ·cases he
 ·cases he
end
end Go.Proofs.YtkkdpknjohcekaaGreat
