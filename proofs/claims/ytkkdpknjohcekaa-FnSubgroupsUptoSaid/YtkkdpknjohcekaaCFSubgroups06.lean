/-
  Part 7 of the proof that the statement FnSubgroups holds.
-/
import Derived.Test.YtkkdpknjohcekaaCFSubgroups05
namespace Go.Proofs.Ytkkdpknjohcekaa
open Go.RowKit
section
variable {P:Program} {T:Tab} {X:Ctx} {w w':World} {π:Pi} {H:List (Nat×OB)}
def PV (P:Program) (X:Ctx) (π:Pi) (H:List (Nat×OB)) (w:World) (av:AV):Result Next->Prop
 | .ok (.value v) w'=>w'=w/\Bq X w π H av v
 | .ok (.enter f args) w'=>w'=w/\Calls P f args w (λe rE=> ∃v,e= .returned v/\Below w.heap.size w rE/\Bq X rE π H av v)
 |_=>False
def lY (s:Spec) (w:World) (S:Nat->Prop) (v:Value) (y:s.res.den):Prop:=
 if s.Gl then ∃us:List Value,v= .tuple us.toArray/\Cy w S s.res us y else Da w S s.res v y
structure Sound (P:Program) (f:FuncId) (s:Spec):Prop where
 enter: ∀args w,(callFunc f args).run P w= .ok (.enter f args) w
 calls: ∀(w:World) (S:Nat->Prop) (vs:List Value) (x:s.arg.den) (y:s.res.den),(∀k,S k->k<w.heap.size)->Cy w S s.arg vs x->s.fn x=some y->
  Calls P f vs.toArray w λe w'=> ∃v,e= .returned v/\Below w.heap.size w w'/\lY s w' (λb=>S b\/(s.fresh=true/\b<w.heap.size)) v y
def gz (w:World) (D:Nat->Prop) (r:Option Real):(c:CK)->c.den->Prop
 | .Fe _,_=>r=none
 | .row e _,xs=>Sv w D r e xs
 | .Ho e te,xs=>No w r e te xs
 | .part e _,x=>e.flat=true/\Sv w D r e x.1
 | .Bo e _ _,rows=>aC w D r e rows none
def eX (w:World) (D:Nat->Prop) (r:Option Real) (v:Value):(c:CK)->c.den->Prop
 | .Fe τ,x=>r=none/\Da w D τ v x
 | .row e te,xs=>Hs r e.size 0 (List.length xs) v/\gz w D r (.row e te) xs
 | .Ho e te,xs=>Hs r e.size 0 (List.length xs) v/\gz w D r (.Ho e te) xs
 | .part e te,x=>(Hs r e.size x.2.1 x.2.2 v/\x.2.1+x.2.2<=List.length x.1)/\gz w D r (.part e te) x
 | .Bo e te kp,rows=>Hs r 1 0 (List.length rows) v/\gz w D r (.Bo e te kp) rows
def eY (w:World) (D:Nat->Prop) (π:Pi):(k:Nat)->(cs:List (Bool×CK))->Ins.den cs->List Value->Prop
 |_,[],_,[]=>True
 |k,p::r,x,u::us=>eX w D (π (Ed p.1 k)) u p.2 x.1/\eY w D π (k+1) r x.2 us
 |_,_,_,_=>False
def Ly (w:World) (D:Nat->Prop) (π:Pi):(k:Nat)->(cs:List (Bool×CK))->IOs.den cs->Prop
 |_,[],_=>True
 |k,(true, .Fe _)::r,x=>Ly w D π (k+1) r x
 |k,(true, .Bo _ _ _)::r,x=>Ly w D π (k+1) r x
 |k,(true, .row e te)::r,x=>gz w D (π (Ed true k)) (.row e te) x.1/\Ly w D π (k+1) r x.2
 |k,(true, .Ho e te)::r,x=>gz w D (π (Ed true k)) (.Ho e te) x.1/\Ly w D π (k+1) r x.2
 |k,(true, .part e te)::r,x=>gz w D (π (Ed true k)) (.row e te) x.1/\Ly w D π (k+1) r x.2
 |k,(false,_)::r,x=>Ly w D π (k+1) r x
def Iv (w:World) (D:Nat->Prop) (ρ:Pi):(k:Nat)->(cs:List CK)->CKs.den cs->List Value->Prop
 |_,[],_,[]=>True
 |k,c::r,x,u::us=>eX w D (ρ (Jw k)) u c x.1/\Iv w D ρ (k+1) r x.2 us
 |_,_,_,_=>False
structure iB (π:Pi) (A:Nat->Prop):Prop where
 Ss: ∀l r b,π l=some r->r.Cz b->A b
 inj: ∀l l' r r' b,π l=some r->π l'=some r'->r.Cz b->r'.Cz b->l=l'
def cZ:List (Option Nat)->List Value->Prop
 | [],[]=>True
 |none::s,_::us=>cZ s us
 |some n::s,us=>n<=us.length/\(∀u∈us.take n,u.oneCell'=true)/\cZ s (us.drop n)
 |_,_=>False
def Abs (Gl:Bool) (sh:List (Option Nat)) (us:List Value) (v:Value):Prop:=if Gl then v= .tuple (Ks sh us).toArray else Ks sh us= [v]\/Ks sh us= []
def kO (S:Nat->Prop) (π ρ:Pi) (b:Nat):Prop:=S b\/(∃l q,Bp<=l/\π l=some q/\q.Cz b)\/Vu ρ b
def p7 (s:MSpec) (w:World) (g:Nat) (us vs:List Value):Prop:=
 match s.ptr with
 |none=>vs=Ks s.Hw us/\cZ s.Hw us
 |some p=>vs= .pointer (some ⟨g,0,none⟩)::Ks s.Hw (us.drop p.2)/\cZ s.Hw (us.drop p.2)/\p.2<=us.length/\w.heap[g]?=some (.cells (us.take p.2).toArray p.1 (0,0))/\ ∀u∈us.take p.2,u.oneCell'=true
def MSpec.gv (s:MSpec) (g b:Nat):Prop:=s.ptr.isSome=true/\b=g
def Ey (π:Pi):(k:Nat)->(cs:List (Bool×CK))->IOs.den cs->(n:Nat)->List Value->List Value->Prop
 |_,_,_,0,us,_=>us= []
 |k,(true, .row e _)::r,o,n+1,u::us,as=>Hs (π (Ed true k)) e.size 0 (List.length o.1) u/\Ey π (k+1) r o.2 n us as
 |k,(true, .Ho e _)::r,o,n+1,u::us,as=>Hs (π (Ed true k)) e.size 0 (List.length o.1) u/\Ey π (k+1) r o.2 n us as
 |k,(false,_)::r,o,n+1,u::us,a::as=>u=a/\Ey π (k+1) r o n us as
 |_,_,_,_,_,_=>False
def lW (s:MSpec) (π:Pi) (w':World) (g:Nat) (Xa:List Value) (o:IOs.den s.ins):Prop:=
 match s.ptr with
 |none=>True
 |some p=> ∃cs,w'.heap[g]?=some (.cells cs.toArray p.1 (0,0))/\(∀u∈cs,u.oneCell'=true)/\Ey π 0 s.ins o p.2 cs Xa
def DG (w w':World) (r r':Option Real) (n:Nat):Prop:=match r,r' with
 |none,none=>True
 |some q,some q'=>q'.g=q.g/\q'.o=q.o/\q'.cap=q.cap/\ ∀j,j<n->j<q.cap->w'.cell? ⟨q.g,q.o+j,none⟩=w.cell? ⟨q.g,q.o+j,none⟩
 |_,_=>False
def sC (s:MSpec) (w':World) (ρ:Pi) (us:List Value) (v:Value):Prop:=match s.rp with
 |none=>Abs s.Gl s.Gz us v/\cZ s.Gz us
 |some tid=> ∃q,ρ (Jw s.outs.length)=some q/\q.Cz q.g/\w'.heap[q.g]?=some (.cells us.toArray tid (0,0))/\(∀u∈us,u.oneCell'=true)/\v= .pointer (some ⟨q.g,0,none⟩)
def MSpec.Ut (s:MSpec):Nat:=s.outs.length+(match s.rp with|none=>0|some _=>1)
structure Ci (P:Program) (f:FuncId) (s:MSpec):Prop where
 enter: ∀args w,(callFunc f args).run P w= .ok (.enter f args) w
 calls: ∀(w:World) (S:Nat->Prop) (π:Pi) (us:List Value) (x:Ins.den s.ins) (r:CKs.den s.outs) (o:IOs.den s.ins) (g:Nat) (vs:List Value),
  p7 s w g us vs->(s.ptr.isSome=true->S g)->eY w (λb=>Vu π b\/S b) π 0 s.ins x us->iB π (λb=>b<w.heap.size)->(∀b,S b->b<w.heap.size/\ ¬Vu π b)->(∀l,Aw (Zv 0 s.ins x) l=none->π l=none)->s.fn x=some (r,o)->
  Calls P f vs.toArray w λe w'=> ∃v Xa ρ,e= .returned v/\sC s w' ρ (Xa.drop s.aJ) v/\lW s π w' g Xa o/\Kp w.heap.size (λb=>Vu π b\/s.gv g b) w w'/\Ly w' (kO S π ρ) π 0 s.ins o/\Iv w' (kO S π ρ) ρ 0 s.outs r Xa/\
   iB ρ (λb=>b<w'.heap.size/\(w.heap.size<=b\/ ∃l q,l<Bp/\π l=some q/\q.Cz b))/\(∀l,(∀k,k<s.Ut->l≠Jw k)->ρ l=none)/\(∀kj∈s.keeps,DG w w' (π (Ed false kj.1)) (ρ (Jw kj.2)) (s.Fm x))
def Aij (P:Program) (f:FuncId):bq->Prop
 | .q s=>Sound P f s
 | .m s=>Ci P f s
 | .b s m=>Sound P f s/\Ci P f m
def Kq (P:Program) (Γ:Env):Prop:= ∀f s,Γ f=some s->Aij P f s
theorem Kq.reg {P:Program} {Γ:Env} (h:Kq P Γ) (draw:Bool):Kq P (AO Γ draw):= λf s hs=>by
 unfold AO at hs
 split at hs
 ·rename_i s0 m Om
  have:=h f _ Om
  cases draw with
  |true=>simp only [Ny,Aa] at hs;subst hs;exact this.1
  |false=>simp only [Df,Rb,Aa] at hs;subst hs;exact this.2
 ·exact h f s hs
theorem Pq {k:IntKind} {n:Int} {fr:Bool} {v:Value} (h:Bq X w π H (.at (.data fr (.int k) n)) v):v= .int k n:=by
 obtain ⟨cs,h1,rfl⟩:=h;simp only [Cells] at h1;subst h1;rfl
theorem a8 {b:Bool} {fr:Bool} {v:Value} (h:Bq X w π H (.at (.data fr .bool b)) v):v= .bool b:=by
 obtain ⟨cs,h1,rfl⟩:=h;simp only [Cells] at h1;subst h1;rfl
theorem fQ {s:ByteArray} {fr:Bool} {v:Value} (h:Bq X w π H (.at (.data fr .str s)) v):v= .string s:=by
 obtain ⟨cs,h1,rfl⟩:=h;simp only [Cells] at h1;subst h1;rfl
theorem Mt (k:IntKind) (n:Int) (fr:Bool):Bq X w π H (.at (.data fr (.int k) n)) (.int k n):=⟨[.int k n],rfl,rfl⟩
theorem Lo (b:Bool) (fr:Bool):Bq X w π H (.at (.data fr .bool b)) (.bool b):=⟨[.bool b],rfl,rfl⟩
theorem mJ (s:ByteArray) (fr:Bool):Bq X w π H (.at (.data fr .str s)) (.string s):=⟨[.string s],rfl,rfl⟩
theorem Ake (f:FuncId):Bq X w π H (.at (.clo f [])) (.func (.func f) #[] #[]):=⟨[],rfl,rfl,λi p hi=>by simp at hi⟩
theorem TF (v:Value):Bq X w π H (nz v) v:=by
 unfold nz
 split
 ·exact Mt _ _ _
 ·exact Lo _ _
 ·exact mJ _ _
 ·rfl
 ·rfl
 ·trivial
theorem Ea {st:St} {a:Act} (h:sB X w π st a) (x:Operand):Bq X w π st.heap (st.ev x) (a.eval x):=by
 cases x with
 |tmp t=>exact h.tmps t
 |const v=>exact TF v
 |global g=>trivial
 |func f=>exact Ake f
theorem MC (op:BinOp) (k:IntKind) (a b:Int) (t:TypeId) (av:AV) (h:tN op k a b=some av):
  ∃v,(binOp op t (.int k a) (.int k b)).run P w= .ok v w/\Bq X w π H av v:=by
 cases op<;>simp only [tN,aM,Oy] at h
 case add=>cases h;exact ⟨_,by simp [binOp,Op.intArith],Mt _ _ _⟩
 case sub=>cases h;exact ⟨_,by simp [binOp,Op.intArith],Mt _ _ _⟩
 case mul=>cases h;exact ⟨_,by simp [binOp,Op.intArith],Mt _ _ _⟩
 case quo=>split at h<;>cases h;rename_i hb;exact ⟨_,by simp [binOp,Op.intDiv,hb],Mt _ _ _⟩
 case rem=>split at h<;>cases h;rename_i hb;exact ⟨_,by simp [binOp,Op.intDiv,hb],Mt _ _ _⟩
 case and=>cases h;exact ⟨_,by simp [binOp,Op.intBits],Mt _ _ _⟩
 case or=>cases h;exact ⟨_,by simp [binOp,Op.intBits],Mt _ _ _⟩
 case eql=>cases h;exact ⟨_,by simp [binOp,Op.intCmp],Lo _ _⟩
 case neq=>cases h;exact ⟨_,by simp [binOp,Op.intCmp],Lo _ _⟩
 case lss=>cases h;exact ⟨_,by simp [binOp,Op.intCmp],Lo _ _⟩
 case leq=>cases h;exact ⟨_,by simp [binOp,Op.intCmp],Lo _ _⟩
 case gtr=>cases h;exact ⟨_,by simp [binOp,Op.intCmp],Lo _ _⟩
 case geq=>cases h;exact ⟨_,by simp [binOp,Op.intCmp],Lo _ _⟩
 all_goals cases h
theorem EN (op:BinOp) (x y:AV) (vx vy:Value) (ox oy:Operand) (t:TypeId) (av:AV) (hx:Bq X w π H x vx) (hy:Bq X w π H y vy) (h:evalBin op x y=some av):
  ∃v,(do eqGuard op t ox oy vx vy;binOp op t vx vy:Sem Value).run P w= .ok v w/\Bq X w π H av v:=by
 unfold evalBin at h
 split at h
 ·rename_i k a _ k' b
  have:=Pq hx;subst this
  have:=Pq hy;subst this
  have hg: ∀op,(eqGuard op t ox oy (.int k a) (.int k' b)).run P w= .ok () w:=by intro op;cases op<;>simp [eqGuard]
  split at h
  ·split at h
   ·cases h
   ·rename_i hb
    simp only [aM,Aa] at h;subst h
    exact ⟨_,by rw [Sem.run_bind,hg];simp [binOp,Op.shift,hb],Mt _ _ _⟩
  ·split at h
   ·cases h
   ·rename_i hb
    simp only [aM,Aa] at h;subst h
    exact ⟨_,by rw [Sem.run_bind,hg];simp [binOp,Op.shift,hb],Mt _ _ _⟩
  ·split at h
   ·rename_i hk;subst hk
    obtain ⟨v,h1,h2⟩:=MC (P:=P) (w:=w) (X:=X) (π:=π) (H:=H) op k a b t av h
    exact ⟨v,by rw [Sem.run_bind,hg];exact h1,h2⟩
   ·cases h
 ·rename_i a _ b
  have:=fQ hx;subst this
  have:=fQ hy;subst this
  have hg: ∀op,(eqGuard op t ox oy (.string a) (.string b)).run P w= .ok () w:=by intro op;cases op<;>simp [eqGuard]
  split at h
  ·simp only [Oy,Aa] at h;subst h
   exact ⟨_,by rw [Sem.run_bind,hg];simp [binOp,Op.stringOp],Lo _ _⟩
  ·simp only [Oy,Aa] at h;subst h
   exact ⟨_,by rw [Sem.run_bind,hg];simp [binOp,Op.stringOp],Lo _ _⟩
  ·split at h
   ·rename_i hl
    simp only [Aa] at h;subst h
    exact ⟨_,by rw [Sem.run_bind,hg];simp only [Result.andThen_ok,binOp];exact run_string_add_sum w a b (by omega),mJ _ _⟩
   ·cases h
  ·cases h
 ·cases h
theorem jE {t:TypeId} (h:P.underlying t=some .bool) (a b:Bool) (w:World):(Op.equal t (.bool a) (.bool b)).run P w= .ok (a==b) w:=by
 unfold Op.equal
 rw [show Op.maxDepth=9999+1 from rfl]
 unfold Op.equalIn
 rw [Sem.run_bind,run_underlying h]
 rfl
theorem HF (hT:Ef P T) {x:AV} {vx:Value} {b:Bool} {t:TypeId} (hx:Bq X w π H x vx) (h:ef x=some b) (ht:(T.elem t).isSome=true):
  (∃a len cap,vx= .slice a len cap/\(match a with|none=>true|some _=>false)=b)/\(Op.equal t vx (.slice none 0 0)).run P w= .ok b w:=by
 have h1: ∃a len cap,vx= .slice a len cap/\(match a with|none=>true|some _=>false)=b:=by
  unfold ef at h
  split at h
  ·simp only [Aa] at h;subst h
   have hx:vx= .slice none 0 0:=hx
   exact ⟨none,0,0,hx,rfl⟩
  ·simp only [Aa] at h;subst h
   obtain ⟨cs,hc,rfl⟩:=hx
   simp only [Cells] at hc
   rcases hc with ⟨rfl,c,rfl⟩|⟨xs,ad,len,cap,rfl,rfl,_⟩
   ·exact ⟨none,0,c,by simp [Ce,Ty.Ap],rfl⟩
   ·exact ⟨some ad,len,cap,by simp [Ce,Ty.Ap],rfl⟩
  ·cases h
 refine ⟨h1,?_⟩
 obtain ⟨a,len,cap,rfl,rfl⟩:=h1
 obtain ⟨te,lu⟩:=Wz.1 ht
 have hu:=hT.elem t te lu
 unfold Op.equal
 rw [show Op.maxDepth=9999+1 from rfl]
 unfold Op.equalIn
 rw [Sem.run_bind,run_underlying hu]
 cases a<;>rfl
theorem HE (hT:Ef P T) {x:AV} {vx:Value} {b:Bool} {t:TypeId} (hx:Bq X w π H x vx) (h:ee x=some b) (ht:Aae (T.ty t)=true):
  (∃a,vx= .pointer a/\(match a with|none=>true|some _=>false)=b)/\(Op.equal t vx (.pointer none)).run P w= .ok b w:=by
 have h1: ∃a,vx= .pointer a/\(match a with|none=>true|some _=>false)=b:=by
  unfold ee at h
  split at h
  ·simp only [Aa] at h;subst h
   have hx:vx= .pointer none:=hx
   exact ⟨none,hx,rfl⟩
  ·simp only [Aa] at h;subst h
   obtain ⟨r,tid,vs,_,_,rfl⟩:=hx
   exact ⟨_,rfl,rfl⟩
  ·simp only [Aa] at h;subst h
   obtain ⟨cs,hc,rfl⟩:=hx
   simp only [Cells] at hc
   rcases hc with ⟨rfl,rfl⟩|⟨xs,g,o,rfl,rfl,_⟩
   ·exact ⟨none,by simp [Ce,Ty.Ap],rfl⟩
   ·exact ⟨some ⟨g,o,none⟩,by simp [Ce,Ty.Ap],rfl⟩
  ·simp only [Aa] at h;subst h
   obtain ⟨cs,hc,rfl⟩:=hx
   simp only [Cells] at hc
   obtain ⟨g,o,rfl,_⟩:=hc
   exact ⟨some ⟨g,o,none⟩,by simp [Ce,Ty.Ap],rfl⟩
  ·cases h
 refine ⟨h1,?_⟩
 obtain ⟨a,rfl,rfl⟩:=h1
 have hu: ∃u,P.underlying t=some (.pointer u):=by
  cases Xx:T.ty t with
  |none=>rw [Xx] at ht;cases ht
  |some τ=>
   have hd:=(hT.ty t τ Xx).desc
   rw [Xx] at ht
   cases τ<;>first|exact hd|cases ht
 obtain ⟨u,hu⟩:=hu
 unfold Op.equal
 rw [show Op.maxDepth=9999+1 from rfl]
 unfold Op.equalIn
 rw [Sem.run_bind,run_underlying hu]
 cases a<;>rfl
theorem z8 {T:Tab} (hT:Ef P T) (op:BinOp) (x y:AV) (vx vy:Value) (ox oy:Operand) (t:TypeId) (av:AV) (hx:Bq X w π H x vx) (hy:Bq X w π H y vy) (h:Tr T op t x y=some av):
  ∃v,(do eqGuard op t ox oy vx vy;binOp op t vx vy:Sem Value).run P w= .ok v w/\Bq X w π H av v:=by
 unfold Tr at h
 split at h
 ·split at h
  ·rename_i ht
   cases hn:ef x with
   |none=>rw [hn] at h;cases h
   |some b=>
    rw [hn] at h
    simp only [Eu,Oy,Aa] at h;subst h
    have hy:vy= .slice none 0 0:=hy
    subst hy
    obtain ⟨⟨a,len,cap,rfl,_⟩,h2⟩:=HF hT hx hn ht
    exact ⟨.bool b,by rw [Sem.run_bind];simp [eqGuard,binOp,h2],Lo _ _⟩
  ·cases h
 ·split at h
  ·rename_i ht
   cases hn:ee x with
   |none=>rw [hn] at h;cases h
   |some b=>
    rw [hn] at h
    simp only [Eu,Oy,Aa] at h;subst h
    have hy:vy= .pointer none:=hy
    subst hy
    obtain ⟨⟨a,rfl,_⟩,h2⟩:=HE hT hx hn ht
    exact ⟨.bool b,by rw [Sem.run_bind];simp [eqGuard,binOp,h2],Lo _ _⟩
  ·cases h
 ·split at h
  ·rename_i ht
   cases hn:ef x with
   |none=>rw [hn] at h;cases h
   |some b=>
    rw [hn] at h
    simp only [Eu,Oy,Aa] at h;subst h
    have hy:vy= .slice none 0 0:=hy
    subst hy
    obtain ⟨⟨a,len,cap,rfl,_⟩,h2⟩:=HF hT hx hn ht
    exact ⟨.bool (!b),by rw [Sem.run_bind];simp [eqGuard,binOp,h2],Lo _ _⟩
  ·cases h
 ·split at h
  ·rename_i ht
   cases hn:ee x with
   |none=>rw [hn] at h;cases h
   |some b=>
    rw [hn] at h
    simp only [Eu,Oy,Aa] at h;subst h
    have hy:vy= .pointer none:=hy
    subst hy
    obtain ⟨⟨a,rfl,_⟩,h2⟩:=HE hT hx hn ht
    exact ⟨.bool (!b),by rw [Sem.run_bind];simp [eqGuard,binOp,h2],Lo _ _⟩
  ·cases h
 ·rename_i a _ b
  have:=a8 hx;subst this
  have:=a8 hy;subst this
  split at h
  ·rename_i ht
   simp only [Oy,Aa] at h;subst h
   have hu:P.underlying t=some .bool:=(hT.ty t _ ht).desc
   exact ⟨_,by rw [Sem.run_bind];simp [eqGuard,binOp,jE hu],Lo _ _⟩
  ·cases h
 ·rename_i a _ b
  have:=a8 hx;subst this
  have:=a8 hy;subst this
  split at h
  ·rename_i ht
   simp only [Oy,Aa] at h;subst h
   have hu:P.underlying t=some .bool:=(hT.ty t _ ht).desc
   exact ⟨_,by rw [Sem.run_bind];simp [eqGuard,binOp,jE hu],Lo _ _⟩
  ·cases h
 ·exact EN op x y vx vy ox oy t av hx hy h
theorem LJ (op:UnOp) (x:AV) (vx:Value) (av:AV) (hx:Bq X w π H x vx) (h:zc op x=some av):
  ∃v,(Op.unary op vx).run P w= .ok v w/\Bq X w π H av v:=by
 unfold zc at h
 split at h
 ·have:=a8 hx;subst this
  simp only [Oy,Aa] at h;subst h
  exact ⟨_,by simp [Op.unary],Lo _ _⟩
 ·have:=Pq hx;subst this
  simp only [aM,Aa] at h;subst h
  exact ⟨_,by simp [Op.unary,Op.intArith],Mt _ _ _⟩
 ·cases h
theorem Ij {t:TypeId} {τ:Ty} (ht:nk P T t τ) (g o:Nat) (es:List Value) (hl:es.length=τ.size) (hc: ∀j u,es[j]?=some u->w.cell? ⟨g,o+j,none⟩=some u):
  (loadVar t ⟨g,o,none⟩).run P w= .ok (Ce τ es) w:=by
 unfold loadVar
 rw [Sem.run_bind,ht.agg,Result.andThen_ok]
 cases hs:τ.Ap with
 |true=>
  simp only [Ny,Sem.run_bind,ht.size,Result.andThen_ok]
  rw [<-hl,run_loadCells_list w ⟨g,o,none⟩ es (λj v hv=>by rw [Addr.add_lit];exact hc j v hv)]
  simp [Ce,hs]
 |false=>
  have h1:τ.size=1:=by cases τ<;>simp_all [Ty.Ap,Ty.size]
  rw [h1] at hl
  obtain ⟨u,rfl⟩:=Eh.1 hl
  have:=hc 0 u rfl
  simp only [Dv] at this
  simp [this,Ce,hs]
theorem uC {fr:Bool} {τ:Ty} {x:τ.den} {v:Value} (h:Bq X w π H (.at (.data fr τ x)) v):Bq X w π H (.at (.data (fr||τ.flat) τ x)) v:=by
 cases hf:τ.flat with
 |true=>exact Da.flat hf h
 |false=>rw [il];exact h
theorem wB {cs ds:List AC} {us vs:List Value} (h1:Fw X w π H cs us) (h2:Fw X w π H ds vs):Fw X w π H (cs++ds) (us++vs):=by
 have e1:=h1.1
 refine ⟨by simp [h1.1,h2.1],λi c hc=>?_⟩
 by_cases hi:i<cs.length
 ·rw [At hi] at hc
  obtain ⟨u,hu,h3⟩:=h1.2 i c hc
  exact ⟨u,by rw [At (by omega)];exact hu,h3⟩
 ·rw [As (by omega)] at hc
  obtain ⟨u,hu,h3⟩:=h2.2 _ c hc
  exact ⟨u,by rw [As (by omega),e1];exact hu,h3⟩
theorem fP {c:AC} {u:Value} (h1:u.oneCell'=true) (h2:Hj X w π H c u):Fw X w π H [c] [u]:=⟨rfl,λi c' hc=>by
 rcases i with _|i
 ·simp at hc;subst hc;exact ⟨u,rfl,h1,h2⟩
 ·simp at hc⟩
theorem OU {l i:Nat} {e:Ty} {tid:TypeId} {xs:List e.den} {r:Real} (hl:Aw H l=some (.Gx e tid xs)) (hp:π l=some r) (hi:i<xs.length): ∀(τ:Ty) (c:Nat) (F:List Nat) (us:List Value) (x:τ.den),
  Dg w F τ us x->c+τ.size<=e.size->(∀j u,us[j]?=some u->w.cell? ⟨r.g,(r.o+i)*e.size+(c+j),none⟩=some u)->Fw X w π H (gf l i c τ x) us:=by
 intro τ
 induction τ with
 |unit=>intro c F us x h _ _;simp only [Dg] at h;obtain ⟨_,rfl⟩:=h;exact ⟨rfl,λi c hc=>by simp [gf] at hc⟩
 |pair a r iq ie=>
  intro c F us x h hle hc
  have zi:=Dg.cells (S:= λ_=>False) F _ us x h (λ_ _ h=>h)
  simp only [Dg] at h
  obtain ⟨c1,c2,F1,F2,rfl,rfl,h1,h2⟩:=h
  have hl1:c1.length=a.size:=Cells.len a c1 x.1 (Dg.cells (S:= λ_=>False) F1 a c1 x.1 h1 (λ_ _ h=>h))
  simp only [Ty.size] at hle
  refine wB (iq c F1 c1 x.1 h1 (by omega) λj u hu=>hc j u (by rw [At (Ao.1 hu).1];exact hu)) (ie (c+a.size) F2 c2 x.2 h2 (by omega) λj u hu=>?_)
  have:=hc (a.size+j) u (by rw [As (by omega),hl1];simpa using hu)
  rw [show c+a.size+j=c+(a.size+j) by omega];exact this
 |int k=>intro c F us x h _ _;simp only [Dg] at h;obtain ⟨_,rfl⟩:=h;exact fP rfl (Mt (H:=H) k x true)
 |bool=>intro c F us x h _ _;simp only [Dg] at h;obtain ⟨_,rfl⟩:=h;exact fP rfl (Lo (H:=H) x true)
 |str=>intro c F us x h _ _;simp only [Dg] at h;obtain ⟨_,rfl⟩:=h;exact fP rfl (mJ (H:=H) x true)
 |slice e'=>
  intro c F us x h hle hc
  simp only [Dg] at h
  obtain ⟨a,len,cap,rfl,_⟩:=h
  exact fP rfl ⟨r,_,e.size,xs.length,hl,rfl,hp,hi,⟨by simp only [Ty.size] at hle;omega,_,_,_,rfl⟩,by simpa using hc 0 _ rfl⟩
 |_=>intro c F us x h;simp only [Dg] at h
theorem nH (hT:Ef P T) {st:St} {a:Act} (h:Bl X π st a w) (t:TypeId) (p:AV) (vp:Value) (av:AV) (hp:Bq X w π st.heap p vp) (he:Px T st t p=some av):
  ∃v,(Instr.loadAt t vp).run P w= .ok v w/\Bq X w π st.heap av v:=by
 unfold Px at he
 split at he
 ·rename_i τ fr Nv x ht
  split at he
  ·rename_i Ts
   subst Ts
   simp only [Aa] at he;subst he
   have Xx:=hT.ty _ _ ht
   obtain ⟨cs,hc,rfl⟩:=hp
   simp only [Cells] at hc
   obtain ⟨g,o,rfl,hg,hn,es,hl,We,bM⟩:=hc
   refine ⟨Ce Nv es,?_,uC (show Bq X w π st.heap (.at (.data fr Nv _)) (Ce Nv es) from ⟨es,bM,rfl⟩)⟩
   have hr:=Ij (P:=P) (w:=w) Xx g o es hl We
   show (do loadVar t (<-Instr.sureAddr (.pointer (some ⟨g,o,none⟩))):Sem Value).run P w=_
   simpa [Instr.sureAddr] using hr
  ·cases he
 ·rename_i τ fr Nv x ht
  split at he
  ·rename_i Ts
   subst Ts
   simp only [Aa] at he;subst he
   have Xx:=hT.ty _ _ ht
   obtain ⟨cs,hc,rfl⟩:=hp
   simp only [Cells] at hc
   rcases hc with ⟨h0,_⟩|⟨y,g,o,h0,rfl,hg,hn,es,hl,We,bM⟩
   ·cases h0
   simp only [Aa] at h0;subst h0
   refine ⟨Ce Nv es,?_,uC (show Bq X w π st.heap (.at (.data fr Nv _)) (Ce Nv es) from ⟨es,bM,rfl⟩)⟩
   have hr:=Ij (P:=P) (w:=w) Xx g o es hl We
   show (do loadVar t (<-Instr.sureAddr (.pointer (some ⟨g,o,none⟩))):Sem Value).run P w=_
   simpa [Instr.sureAddr] using hr
  ·cases he
 ·rename_i τ l i ht
  have Xx:=hT.ty _ _ ht
  split at he
  ·rename_i tid vs hl
   obtain ⟨r,Ux,vs',h1,h2,rfl⟩:=hp
   unfold St.at at hl
   rw [hl] at h1;cases h1
   obtain ⟨r',h3,h4,cur,h5,h6⟩:=(h.1.heap l).Rc hl
   rw [h2] at h3;cases h3
   split at he
   ·rename_i hs
    split at he
    ·rename_i hlen
     simp only [Aa] at he;subst he
     have Qf:cur.toList.length=vs.length:=h6.1
     refine ⟨_,by
      simp only [Instr.loadAt,Instr.sureAddr]
      simpa using Ij (P:=P) (w:=w) Xx r.g i ((cur.toList.drop i).take τ.size) (by simp at Qf⊢;omega) (λj u hu=>by
       rw [cellOf h5]
       rw [Dc] at hu
       split at hu
       ·rw [Db] at hu;simpa using hu
       ·cases hu),?_⟩
     exact ⟨_,by simp [Ce,hs],a7 h6 i τ.size⟩
    ·cases he
   ·rename_i hs
    simp only [Fa] at hs
    have h1:τ.size=1:=by cases τ<;>simp_all [Ty.Ap,Ty.size]
    cases hi:vs[i]? with
    |none=>rw [hi] at he;cases he
    |some c=>
     rw [hi] at he
     simp only [Am,Aa] at he;subst he
     obtain ⟨u,hu,_,hc⟩:=h6.2 i c hi
     refine ⟨u,?_,hc⟩
     simp only [Instr.loadAt,Instr.sureAddr]
     have:=Ij (P:=P) (w:=w) Xx r.g i [u] (by simp [h1]) (λj u' ic=>by
       rcases j with _|j
       ·simp at ic;subst ic;rw [Dv,cellOf h5];simpa using hu
       ·simp at ic)
     simpa [Ce,hs] using this
  ·cases he
 ·rename_i τ l i ht
  have Xx:=hT.ty _ _ ht
  split at he
  ·rename_i fr tr e tid xs hl
   split at he
   ·rename_i heq;subst heq
    obtain ⟨r,b,sz,n,h1,h0,h2,h3,rfl⟩:=hp
    unfold St.at at hl
    rw [hl] at h1;cases h1
    simp only [OB.row,Aa,Ah] at h0
    obtain ⟨rfl,rfl⟩:=h0
    have hb:=(h.1.heap l).Rc hl
    simp only [Cn,Jt,h3] at hb
    obtain ⟨h4,cur,_,h5,h6,h7,h8,h9,_⟩:=hb
    have hx:xs[i]?=some xs[i]:=Ad h2
    rw [hx] at he
    simp only [Am,Aa] at he;subst he
    obtain ⟨es,fv,hj,zi⟩:=h9 i _ hx
    refine ⟨Ce e es,?_,uC (show Bq X w π st.heap (.at (.data fr e _)) (Ce e es) from ⟨es,zi,rfl⟩)⟩
    simp only [Instr.loadAt,Instr.sureAddr]
    simpa using Ij (P:=P) (w:=w) Xx r.g ((r.o+i)*e.size) es fv (λj u hu=>by rw [cellOf h5];exact hj j u hu)
   ·cases he
  ·rename_i e tid xs hl
   split at he
   ·rename_i heq;subst heq
    obtain ⟨r,b,sz,n,h1,h0,h2,h3,rfl⟩:=hp
    unfold St.at at hl
    rw [hl] at h1;cases h1
    simp only [OB.row,Aa,Ah] at h0
    obtain ⟨rfl,rfl⟩:=h0
    have hb:=(h.1.heap l).Rc hl
    simp only [Cn,No,h3] at hb
    obtain ⟨h4,cur,_,h5,h6,h7,h8,Fs,k1,k2,k3,k4⟩:=hb
    have hx:xs[i]?=some xs[i]:=Ad h2
    rw [hx] at he
    simp only [Am,Aa] at he;subst he
    obtain ⟨es,fv,hj,zi⟩:=k4 i _ _ hx (Ad (by omega))
    have hrs:=OU (X:=X) (H:=st.heap) hl h3 h2 e 0 _ es _ zi (by omega) (λj u hu=>by rw [cellOf h5,Bn];exact hj j u hu)
    refine ⟨Ce e es,?_,?_⟩
    ·simp only [Instr.loadAt,Instr.sureAddr]
     simpa using Ij (P:=P) (w:=w) Xx r.g ((r.o+i)*e.size) es fv (λj u hu=>by rw [cellOf h5];exact hj j u hu)
    ·cases Rj:e.Ap with
     |true=>rw [Ab rfl];exact ⟨es,by simp [Ce,Rj],hrs⟩
     |false=>
      rw [Ak (by simp)]
      have h1:e.size=1:=by cases e<;>simp_all [Ty.Ap,Ty.size]
      rw [h1] at fv
      obtain ⟨u,rfl⟩:=Eh.1 fv
      have hl1:=hrs.1
      generalize gf l i 0 e xs[i]=sc at*
      simp only [Av,Di] at hl1
      obtain ⟨c,rfl⟩:=Eh.1 hl1.symm
      obtain ⟨u',ic,_,xp⟩:=hrs.2 0 c rfl
      simp at ic;subst ic
      have e1:Ce e [u]=u:=by simp [Ce,Rj]
      rw [e1]
      exact xp
   ·cases he
  ·rename_i e te rows kp hl
   split at he
   ·cases he
   ·rename_i Rj
    simp only [Fa] at Rj
    simp only [Aa] at he;subst he
    obtain ⟨r,b,sz,n,h1,h0,h2,h3,rfl⟩:=hp
    unfold St.at at hl
    rw [hl] at h1;cases h1
    simp only [OB.row,Aa,Ah] at h0
    obtain ⟨rfl,rfl⟩:=h0
    obtain ⟨u,R,k1,k2,k3⟩:=nU h.1 hl h3 h2 (by simp)
    have Uf:τ.size=1:=by cases τ<;>simp_all [Ty.Ap,Ty.size]
    refine ⟨u,?_,r,_,1,rows.length,hl,rfl,h3,h2,⟨by omega,aW k2⟩,by rw [Fo,Dv];exact k1⟩
    simp only [Instr.loadAt,Instr.sureAddr]
    have:=Ij (P:=P) (w:=w) Xx r.g ((r.o+i)*1) [u] (by simp [Uf]) (λj u' ic=>by
     rcases j with _|j
     ·simp at ic;subst ic;rw [Fo,Dv];exact k1
     ·simp at ic)
    simpa [Ce,Rj] using this
  ·cases he
 ·rename_i τ l i j ht
  have Xx:=hT.ty _ _ ht
  split at he
  ·rename_i e te rows kp hl
   split at he
   ·rename_i heq;subst heq
    simp only [Aa] at he;subst he
    obtain ⟨r,b,n,sz,g,o,len,cap,h1,h0,h2,h3,h4,h5,rfl⟩:=hp
    unfold St.at at hl
    rw [hl] at h1;cases h1
    simp only [OB.vZ,Aa,Ah] at h0
    obtain ⟨rfl,rfl⟩:=h0
    obtain ⟨u,R,k1,k2,k3⟩:=nU h.1 hl h2 h3 (by simp)
    rw [h5] at k1
    have hu:=Bd k1
    subst hu
    cases R with
    |none=>obtain ⟨hh,_⟩:=k2;cases hh
    |some q=>
     obtain ⟨ad,hh,g1,g2⟩:=k2
     simp only [Value.slice.injEq,Aa] at hh
     obtain ⟨rfl,rfl,rfl⟩:=hh
     have ZI:=g2 (by omega)
     simp only [Addr.mk.injEq,Oa] at ZI
     obtain ⟨rfl,rfl⟩:=ZI
     obtain ⟨f1,cur,ti,f2,f3,f4,f5,f6⟩:=k3
     have hj:(rows.getD i [])[j]?=some ((rows.getD i []).getD j e.zero):=by rw [Al (l:=rows.getD i []),Ad h4];rfl
     obtain ⟨es,fv,c1,c2⟩:=f6 j _ hj
     refine ⟨Ce e es,?_,uC (fr:=false) (show Bq X w π st.heap (.at (.data false e _)) (Ce e es) from ⟨es,c2,rfl⟩)⟩
     simp only [Instr.loadAt,Instr.sureAddr]
     simpa using Ij (P:=P) (w:=w) Xx q.g ((q.o+0)*e.size+j*e.size) es fv (λm u hu=>by rw [cellOf f2,Dv,<-Dh];exact c1 m u hu)
   ·cases he
  ·cases he
 ·cases he
theorem Aaa {α:Type} {xs:List α} {n:Int} {x:α} (h:idx xs n=some x):0<=n/\n<xs.length/\xs[n.toNat]?=some x:=by
 unfold idx at h
 split at h
 ·rename_i h0
  have:=(Ao.1 h).1
  exact ⟨h0,by omega,h⟩
 ·cases h
theorem sj (hT:Ef P T) {t:TypeId} {e:Ty} (h:(T.elem t).bind T.ty=some e): ∃te,T.elem t=some te/\T.ty te=some e/\P.underlying t=some (.slice te)/\P.elem t=te:=by
 cases ht:T.elem t with
 |none=>rw [ht] at h;cases h
 |some te=>
  rw [ht] at h
  have hu:=hT.elem t te ht
  exact ⟨te,rfl,h,hu,by simp [Program.elem,hu]⟩
theorem nG (hT:Ef P T) {st:St} {a:Act} (h:Bl X π st a w) (t:TypeId) (x i:AV) (vx vi:Value) (av:AV) (hx:Bq X w π st.heap x vx) (hi:Bq X w π st.heap i vi)
  (he:Kn T st t x i=some av): ∃v,(Instr.indexAt t vx vi).run P w= .ok v w/\Bq X w π st.heap av v:=by
 unfold Kn at he
 split at he
 ·rename_i fr e xs _ k n
  have:=Pq hi;subst this
  split at he
  ·rename_i ll
   obtain ⟨te,h1,h2,h3,h4⟩:=sj hT ll
   cases hix:idx xs n with
   |none=>rw [hix] at he;cases he
   |some y=>
    rw [hix] at he
    simp only [Am,Aa] at he;subst he
    obtain ⟨h5,h6,h7⟩:=Aaa hix
    obtain ⟨cs,hc,rfl⟩:=hx
    simp only [Cells] at hc
    obtain ⟨ad,len,cap,rfl,hlen,tz,LV⟩:=hc
    rcases LV with rfl|⟨g,o,rfl,hg,hn,Kf⟩
    ·simp at h6;omega
    ·obtain ⟨es,fv,We,bM⟩:=Kf _ _ h7
     have Uf:=(hT.ty _ _ h2).size (w:=w)
     refine ⟨.pointer (some ⟨g,o+n.toNat*e.size,none⟩),?_,[_],⟨g,_,rfl,hg,hn,es,fv,We,bM⟩,by simp [Ce,Ty.Ap]⟩
     simp only [Ce,Ty.Ap,Df,Rb,iA]
     rw [run_indexAt_slice (P:=P) w t _ _ _ k n (by rw [h3,h4]),Ab ⟨h5,by omega⟩,h4,Uf,Result.andThen_ok,Addr.add_lit]
  ·cases he
 ·rename_i l off len _ k n
  have:=Pq hi;subst this
  split at he
  ·rename_i fr tr e tid xs hl
   split at he
   ·rename_i Jk
    obtain ⟨h1,h2,h56⟩:=Jk
    obtain ⟨h5,h6⟩:=Ug.1 h56
    simp only [Aa] at he;subst he
    have h3:=hT.elem t tid h1
    have h4:P.elem t=tid:=by simp [Program.elem,h3]
    unfold St.at at hl
    have Jg:=hl
    obtain ⟨h8,h9⟩:=Oc (X:=X) (w:=w) hx hl
    cases hp:π l with
    |none=>rw [hp] at h9;obtain ⟨_,_,h9⟩:=h9;omega
    |some r=>
     rw [hp] at h9
     obtain ⟨ad,rfl,oX,hZ⟩:=h9
     have h12:=hZ (by omega)
     subst h12
     have Uf:=(hT.ty _ _ h2).size (w:=w)
     refine ⟨.pointer (some ⟨r.g,(r.o+off)*e.size+n.toNat*e.size,none⟩),?_,r,_,e.size,xs.length,Jg,rfl,by omega,hp,?_⟩
     ·rw [run_indexAt_slice (P:=P) w t _ _ _ k n (by rw [h3,h4]),Ab ⟨h5,by omega⟩,h4,Uf,Result.andThen_ok,Addr.add_lit]
     ·rw [<-Gs r.o off n.toNat,Dh (r.o+off)]
   ·cases he
  ·rename_i e tid xs hl
   split at he
   ·rename_i Jk
    obtain ⟨h1,h2,h56⟩:=Jk
    obtain ⟨h5,h6⟩:=Ug.1 h56
    simp only [Aa] at he;subst he
    have h3:=hT.elem t tid h1
    have h4:P.elem t=tid:=by simp [Program.elem,h3]
    unfold St.at at hl
    have Jg:=hl
    obtain ⟨h8,h9⟩:=bZ (X:=X) (w:=w) hx hl
    cases hp:π l with
    |none=>rw [hp] at h9;obtain ⟨_,_,h9⟩:=h9;omega
    |some r=>
     rw [hp] at h9
     obtain ⟨ad,rfl,oX,hZ⟩:=h9
     have h12:=hZ (by omega)
     subst h12
     have Uf:=(hT.ty _ _ h2).size (w:=w)
     refine ⟨.pointer (some ⟨r.g,(r.o+off)*e.size+n.toNat*e.size,none⟩),?_,r,_,e.size,xs.length,Jg,rfl,by omega,hp,?_⟩
     ·rw [run_indexAt_slice (P:=P) w t _ _ _ k n (by rw [h3,h4]),Ab ⟨h5,by omega⟩,h4,Uf,Result.andThen_ok,Addr.add_lit]
     ·rw [<-Gs r.o off n.toNat,Dh (r.o+off)]
   ·cases he
  ·rename_i e te rows out kp hl
   split at he
   ·rename_i Jk
    obtain ⟨h1,h2,h56⟩:=Jk
    obtain ⟨h5,h6⟩:=Ug.1 h56
    simp only [Aa] at he;subst he
    have h3:=hT.elem t te h1
    have h4:P.elem t=te:=by simp [Program.elem,h3]
    unfold St.at at hl
    have Jg:=hl
    obtain ⟨h8,h9⟩:=oE (X:=X) (w:=w) hx hl
    cases hp:π l with
    |none=>rw [hp] at h9;obtain ⟨_,_,h9⟩:=h9;omega
    |some r=>
     rw [hp] at h9
     obtain ⟨ad,rfl,oX,hZ⟩:=h9
     have h12:=hZ (by omega)
     subst h12
     cases lu:T.ty te with
     |none=>rw [lu] at h2;cases h2
     |some τ=>
      rw [lu] at h2
      have h2:τ.size=1:=Bd h2
      have Uf:=(hT.ty _ _ lu).size (w:=w)
      refine ⟨.pointer (some ⟨r.g,(r.o+off)*1+n.toNat*τ.size,none⟩),?_,r,_,1,rows.length,Jg,rfl,by omega,hp,?_⟩
      ·rw [run_indexAt_slice (P:=P) w t _ _ _ k n (by rw [h3,h4]),Ab ⟨h5,by omega⟩,h4,Uf,Result.andThen_ok,Addr.add_lit]
      ·rw [h2,<-Gs r.o off n.toNat,Dh (r.o+off)]
   ·cases he
  ·cases he
 ·rename_i l i c _ k n
  have:=Pq hi;subst this
  split at he
  ·rename_i e te rows kp hl
   split at he
   ·rename_i Jk
    obtain ⟨h2,h56⟩:=Jk
    obtain ⟨h5,h6⟩:=Ug.1 h56
    simp only [Aa] at he;subst he
    cases lu:T.elem t with
    |none=>rw [lu] at h2;cases h2
    |some Qx=>
     rw [lu] at h2
     cases Xx:T.ty Qx with
     |none=>rw [Eu,Xx] at h2;cases h2
     |some τ=>
      rw [Eu,Xx] at h2
      have h2:τ.size=e.size:=Bd h2
      have h3:=hT.elem t Qx lu
      have h4:P.elem t=Qx:=by simp [Program.elem,h3]
      unfold St.at at hl
      obtain ⟨r,b,sz,m,g1,g0,g2,g3,⟨g4,_⟩,g5⟩:=hx
      rw [hl] at g1;cases g1
      simp only [OB.gK,Aa,Ah] at g0
      obtain ⟨rfl,rfl⟩:=g0
      have kq:c=0:=by omega
      subst kq
      rw [Fo,Dv] at g5
      obtain ⟨u,R,k1,k2,k3⟩:=nU h.1 hl g2 g3 (by simp)
      rw [g5] at k1
      have hu:=Bd k1
      subst hu
      cases R with
      |none=>obtain ⟨_,_,hh⟩:=k2;omega
      |some q=>
       obtain ⟨ad,rfl,f1,f2⟩:=k2
       have ZI:=f2 (by omega)
       subst ZI
       have Uf:=(hT.ty _ _ Xx).size (w:=w)
       refine ⟨.pointer (some ⟨q.g,(q.o+0)*e.size+n.toNat*τ.size,none⟩),?_,r,_,rows.length,e.size,q.g,(q.o+0)*e.size,_,_,hl,rfl,g2,g3,by omega,g5,by rw [h2]⟩
       rw [run_indexAt_slice (P:=P) w t _ _ _ k n (by rw [h3,h4]),Ab ⟨h5,by omega⟩,h4,Uf,Result.andThen_ok,Addr.add_lit]
   ·cases he
  ·cases he
 ·cases he
end
end Go.Proofs.Ytkkdpknjohcekaa
