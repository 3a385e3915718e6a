/-
  Part 4 of the proof that the statement FnExactSolveIDAStar holds.
-/
import Derived.Test.YtfgfigkbgecfnaaGreatCSolveIDAStar02
namespace Go.Proofs.YtfgfigkbgecfnaaGreat
open Go.RowKit
structure Real where
 g:Nat
 o:Nat
 cap:Nat
 Cx:Nat->Prop
 cl:Nat->Prop
abbrev Pi:=Nat->Option Real
def Ux (π:Pi) (b:Nat):Prop:= ∃l r,π l=some r/\r.Cx b
def Dd (B:Nat) (Sc:Nat->Prop) (π:Pi) (fr:Bool) (b:Nat):Prop:=Ux π b\/Sc b\/(fr=true/\b<B)
def Shape (w:World) (g o s cap:Nat):Prop:= ∃(cur:Array Value) (ti:TypeId) (o':Nat),w.heap[g]?=some (.cells cur ti (0,0))/\o=o'*s/\cur.size=(o'+cap)*s/\cap<=maxLen
theorem Shape.lt {w:World} {g o s cap:Nat} (h:Shape w g o s cap):g<w.heap.size:=let ⟨_,_,_,h,_⟩:=h;(Nj.1 h).1
theorem Shape.Fg {w w':World} {g o s cap:Nat} (h:Shape w g o s cap) (hk:w'.heap[g]?=w.heap[g]?):Shape w' g o s cap:=let ⟨c,t,o',h1,h2⟩:=h;⟨c,t,o',hk.trans h1,h2⟩
def Ci (w:World):(F:List Nat)->(τ:Ty)->List Value->τ.den->Prop
 |F, .int k,cs,n=>F= []/\cs= [.int k n]
 |F, .bool,cs,b=>F= []/\cs= [.bool b]
 |F, .str,cs,s=>F= []/\cs= [.string s]
 |F, .slice e,cs,xs=> ∃a len cap,cs= [.slice a len cap]/\len=xs.length/\len<=cap/\((xs= []/\F= []/\a=none/\cap=0)\/ ∃ad g o Fs,a=some ad/\(0<cap->ad=⟨g,o,none⟩)/\Shape w g o e.size cap/\F=g::List.flatten Fs/\Fs.length=xs.length/\
   ∀(i:Nat) (x:e.den) (Fi:List Nat),xs[i]?=some x->Fs[i]?=some Fi-> ∃es:List Value,es.length=e.size/\(∀j u,es[j]?=some u->w.cell? ⟨g,o+i*e.size+j,none⟩=some u)/\Ci w Fi e es x)
 |F, .unit,cs,_=>F= []/\cs= []
 |F, .pair a r,cs,x=> ∃c1 c2 F1 F2,cs=c1++c2/\F=F1++F2/\Ci w F1 a c1 x.1/\Ci w F2 r c2 x.2
 |_,_,_,_=>False
def Yk (w:World) (P:Nat->Prop) (g o:Nat) (cur:Array Value) (e:Ty) (xs:List e.den):Prop:=
 ∃Fs:List (List Nat),Fs.length=xs.length/\(g::List.flatten Fs).Nodup/\(∀b∈List.flatten Fs,P b)/\
  ∀(i:Nat) (x:e.den) (F:List Nat),xs[i]?=some x->Fs[i]?=some F-> ∃es:List Value,es.length=e.size/\(∀j u,es[j]?=some u->cur[(o+i)*e.size+j]?=some u)/\Ci w F e es x
def Ib (r:Option Real) (size off len:Nat) (v:Value):Prop:=
 match r with
 |none=>v= .slice none 0 0/\off=0/\len=0
 |some r=> ∃ad:Addr,v= .slice (some ad) len (r.cap-off)/\off+len<=r.cap/\(off<r.cap->ad=⟨r.g,(r.o+off)*size,none⟩)
def Ts (w:World) (D:Nat->Prop) (r:Option Real) (e:Ty) (xs:List e.den):Prop:=
 match r with
 |none=>xs= []
 |some r=>(r.Cx r.g/\(∀b,r.Cx b->b=r.g))/\ ∃(cur:Array Value) (ti:TypeId),w.heap[r.g]?=some (.cells cur ti (0,0))/\cur.size=(r.o+r.cap)*e.size/\r.cap<=maxLen/\xs.length<=r.cap/\
   (∀(i:Nat) (x:e.den),xs[i]?=some x-> ∃es:List Value,es.length=e.size/\(∀j u,es[j]?=some u->cur[(r.o+i)*e.size+j]?=some u)/\Cells w D e es x)
def bd (w:World) (D:Nat->Prop) (r:Option Real) (e:Ty) (rows:List (List e.den)) (out:Option Nat):Prop:=
 match r with
 |none=>rows= []
 |some r=>r.Cx r.g/\ ∃(cur:Array Value) (ti:TypeId),w.heap[r.g]?=some (.cells cur ti (0,0))/\cur.size=r.o+r.cap/\r.cap<=maxLen/\rows.length<=r.cap/\
   ∃Rs:List (Option Real),Rs.length=rows.length/\(∀(i:Nat) (q:Real),Rs[i]?=some (some q)->r.Cx q.g/\q.g≠r.g)/\(∀(i j:Nat) (q q':Real),Rs[i]?=some (some q)->Rs[j]?=some (some q')->q.g=q'.g->i=j)/\
    ∀(i:Nat) (x:List e.den),rows[i]?=some x->out≠some i-> ∃u R,cur[r.o+i]?=some u/\Rs[i]?=some R/\Ib R e.size 0 x.length u/\Ts w D R e x
structure Ctx where
 w0:World
 Sc:Nat->Prop
 gv:Nat->Prop
 iY:Pi
structure He (B:Nat) (gv:Nat->Prop) (w w':World):Prop where
 os:w'.os=w.os
 tape:w'.tape=w.tape
 output:w'.output=w.output
 size:w.heap.size<=w'.heap.size
 block: ∀k,k<B-> ¬gv k->w'.heap[k]?=w.heap[k]?
theorem He.refl (B:Nat) (gv:Nat->Prop) (w:World):He B gv w w:=⟨rfl,rfl,rfl,Ao _,λ_ _ _=>rfl⟩
theorem He.trans {B:Nat} {gv:Nat->Prop} {a b c:World} (h:He B gv a b) (k:He B gv b c):He B gv a c:=
 ⟨k.os.trans h.os,k.tape.trans h.tape,k.output.trans h.output,Jd h.size k.size,λi hi hg=>(k.block i hi hg).trans (h.block i hi hg)⟩
theorem He.plain {B:Nat} {w w':World} (h:He B (λ_=>False) w w'):Below B w w':=⟨h.os,h.tape,h.output,h.size,λk hk=>h.block k hk (λh=>h)⟩
theorem He.of {B:Nat} {gv:Nat->Prop} {w w':World} (h:Below B w w'):He B gv w w':=⟨h.os,h.tape,h.output,h.size,λk hk _=>h.block k hk⟩
theorem He.grown {B:Nat} {gv:Nat->Prop} {a w w':World} {row:Option Nat} (h:He B gv a w) (hg:w.grownBy w' row) (hB:B<=w.heap.size) (hr: ∀k,row=some k->B<=k\/gv k):He B gv a w':=
 h.trans ⟨hg.os,hg.tape,hg.output,hg.size,λk hk hn=>hg.block k (by omega) (λe=>by rcases hr k e.symm with h|h;omega;exact hn h)⟩
def OB.row:OB->Option (Nat×Nat)
 | .arr _ _ e _ xs=>some (e.size,xs.length)
 | .Gz e _ xs=>some (e.size,xs.length)
 | .Bp _ _ rows _ _=>some (1,rows.length)
 |_=>none
def OB.iu:OB->Option (Nat×Nat)
 | .Gz e _ xs=>some (e.size,xs.length)
 | .Bp _ _ rows _ _=>some (1,rows.length)
 |_=>none
def OB.xO:OB->Option (Nat×Nat)
 | .Bp e _ rows _ _=>some (rows.length,e.size)
 |_=>none
def ck:Option Real->Option Real->Prop
 |none,none=>True
 |some r,some r'=>r.g=r'.g/\r.o=r'.o/\r.cap=r'.cap/\ ∀b,r.Cx b↔r'.Cx b
 |_,_=>False
theorem ck.rfl' (r:Option Real):ck r r:=by cases r<;>simp [ck]
section
variable (X:Ctx) (w:World) (π:Pi) (H:List (Nat×OB))
def Hk:AC->Value->Prop
 | .undef,_=>True
 | .skip,v=>v=Go.undef
 | .Lm,v=>v= .slice none 0 0
 | .Vo,v=>v= .pointer none
 | .data fr τ x,v=>Cw w (Dd X.w0.heap.size X.Sc π fr) τ v x
 | .own l off len,v=> ∃b sz n,Au H l=some b/\b.row=some (sz,n)/\off+len<=n/\Ib (π l) sz off len v
 | .Gy l i,v=> ∃r tid vs,Au H l=some (.var tid vs)/\π l=some r/\v= .pointer (some ⟨r.g,i,none⟩)
 | .Kh l i,v=> ∃r b sz n,Au H l=some b/\b.row=some (sz,n)/\i<n/\π l=some r/\v= .pointer (some ⟨r.g,(r.o+i)*sz,none⟩)
 | .sub l i c,v=> ∃r b sz n,Au H l=some b/\b.iu=some (sz,n)/\π l=some r/\i<n/\(c<sz/\ ∃a n m,v= .slice a n m)/\w.cell? ⟨r.g,(r.o+i)*sz+c,none⟩=some v
 | .Kd l i j,v=> ∃r b n sz g o len cap,Au H l=some b/\b.xO=some (n,sz)/\π l=some r/\i<n/\j<len/\w.cell? ⟨r.g,r.o+i,none⟩=some (.slice (some ⟨g,o,none⟩) len cap)/\v= .pointer (some ⟨g,o+j*sz,none⟩)
 | .clo f Eg,v=> ∃us:List Value,v= .func (.func f) #[] us.toArray/\us.length=Eg.length/\
   ∀(j:Nat) p,Eg[j]?=some p-> ∃r tid vs,Au H p.1=some (.var tid vs)/\π p.1=some r/\us[j]?=some (.pointer (some ⟨r.g,p.2,none⟩))
 | .Kr l,v=> ∃r vt m,Au H l=some (.Wo vt m)/\π l=some r/\v= .map (some r.g)
def Fv (cs:List AC) (us:List Value):Prop:=us.length=cs.length/\ ∀(i:Nat) c,cs[i]?=some c-> ∃u,us[i]?=some u/\u.oneCell'=true/\Hk X w π H c u
def di (p:Bool×List AC) (v:Value):Prop:=if p.1 then ∃us:List Value,v= .agg us.toArray/\Fv X w π H p.2 us else ∀a,p.2= [a]->Hk X w π H a v
def Bs:AV->Value->Prop
 | .at a,v=>Hk X w π H a v
 | .agg cs,v=> ∃us:List Value,v= .agg us.toArray/\Fv X w π H cs us
 | .cf fr τ x,v=> ∃vs:List Value,v= .tuple vs.toArray/\Cy w (Dd X.w0.heap.size X.Sc π fr) τ vs x
 | .Mn l,v=> ∃vs:List Value,v= .tuple vs.toArray/\vs.length=l.length/\ ∀(i:Nat) p u,l[i]?=some p->vs[i]?=some u->di X w π H p u
def Ke (r:Option Real) (fr tr:Bool) (e:Ty) (_:TypeId) (xs:List e.den):Prop:=
 match r with
 |none=>xs= []
 |some r=>(r.Cx r.g/\(∀b,r.Cx b->b=r.g)/\(fr=true->X.w0.heap.size<=r.g))/\ ∃(cur:Array Value) (ti:TypeId),w.heap[r.g]?=some (.cells cur ti (0,0))/\cur.size=(r.o+r.cap)*e.size/\r.cap<=maxLen/\xs.length<=r.cap/\
   (∀(i:Nat) (x:e.den),xs[i]?=some x-> ∃es:List Value,es.length=e.size/\(∀j u,es[j]?=some u->cur[(r.o+i)*e.size+j]?=some u)/\Cells w (Dd X.w0.heap.size X.Sc π fr) e es x)/\
   (tr=true->Yk w r.cl r.g r.o cur e xs)
def Of (r:Option Real) (e:Ty) (_:TypeId) (xs:List e.den):Prop:=
 match r with
 |none=>xs= []
 |some r=>r.Cx r.g/\ ∃(cur:Array Value) (ti:TypeId),w.heap[r.g]?=some (.cells cur ti (0,0))/\cur.size=(r.o+r.cap)*e.size/\r.cap<=maxLen/\xs.length<=r.cap/\Yk w r.Cx r.g r.o cur e xs
def Aj7 (r:Option Real) (tid:TypeId) (vs:List AC):Prop:=
 ∃r',r=some r'/\r'.Cx r'.g/\ ∃cur:Array Value,w.heap[r'.g]?=some (.cells cur tid (0,0))/\Fv X w π H vs cur.toList
def Abj (r:Option Real) (v:Ty) (m:ByteArray->Option v.den):Prop:=
 ∃r',r=some r'/\r'.Cx r'.g/\(v.flat=true/\v.Aq=false)/\Cells w (λ_=>False) (.smap v) [.map (some r'.g)] m
def KeptAt (r:Option Real):Option (Nat×Nat)->Prop
 |none=>True
 |some (l0,n)=>match X.iY l0,r with
  |none,none=>True
  |some r0,some r'=>r'.g=r0.g/\r'.o=r0.o/\r'.cap=r0.cap/\ ∀j,j<n->j<r0.cap->w.cell? ⟨r0.g,r0.o+j,none⟩=X.w0.cell? ⟨r0.g,r0.o+j,none⟩
  |_,_=>False
def j5 (r:Option Real) (e:Ty) (rows:List (List e.den)) (out:Option Nat) (kp:Option (Nat×Nat)):Prop:=
 bd w (Dd X.w0.heap.size X.Sc π false) r e rows out/\KeptAt X w r kp
def Gk (l:Nat):Prop:=
 match Au H l with
 |none=>π l=none
 |some (.arr fr tr e tid xs)=>Ke X w π (π l) fr tr e tid xs
 |some (.Gz e tid xs)=>Of w (π l) e tid xs
 |some (.Bp e _ rows out kp)=>j5 X w π (π l) e rows out kp
 |some (.var tid vs)=>Aj7 X w π H (π l) tid vs
 |some (.Wo v m)=>Abj w (π l) v m
structure Nf:Prop where
 below:He X.w0.heap.size X.gv X.w0 w
 sc: ∀b,X.Sc b->b<X.w0.heap.size/\ ¬X.gv b
 sub: ∀l r b,π l=some r->r.Cx b->r.cl b
 place: ∀l r b,π l=some r->r.cl b->(X.w0.heap.size<=b\/X.gv b)/\b<w.heap.size
 inj: ∀l l' r r' b,π l=some r->π l'=some r'->r.cl b->r'.cl b->l=l'
 iY: ∀l,Bn<=l->Au H l≠none->ck (X.iY l) (π l)
 heap: ∀l,Gk X w π H l
structure um (st:St) (a:Act):Prop where
 size:a.tmps.size=st.tmps.length
 defers:a.defers= []
 tmps: ∀t,Bs X w π st.heap (st.get t) (a.tmps.getD t undef)
end
def Bk (X:Ctx) (π:Pi) (st:St) (a:Act) (w:World):Prop:=Nf X w π st.heap/\um X w π st a
def Rel (X:Ctx) (st:St) (a:Act) (w:World):Prop:= ∃π,Bk X π st a w
theorem Pg (f:AC->AC): ∀(H:List (Nat×OB)) (l:Nat),Au (H.map λp=>(p.1,p.2.map f)) l=(Au H l).map (OB.map f)
 | [],_=>rfl
 |(k,b)::r,l=>by
  simp only [Ce,Au]
  split
  ·rfl
  ·exact Pg f r l
theorem Ms: ∀(H:List (Nat×OB)) (l:Nat),Au (bl H l) l=none
 | [],_=>rfl
 |(k,b)::r,l=>by
  simp only [bl]
  split
  ·exact Ms r l
  ·rename_i h;simp only [Au,Ag h];exact Ms r l
theorem Nz: ∀(H:List (Nat×OB)) (l m:Nat),m≠l->Au (bl H l) m=Au H m
 | [],_,_,_=>rfl
 |(k,b)::r,l,m,Ih=>by
  simp only [bl]
  split
  ·rename_i h;subst h;simp only [Au,Ag (Gl Ih)];exact Nz r _ m Ih
  ·simp only [Au];split
   ·rfl
   ·exact Nz r l m Ih
theorem Rc: ∀(H:List (Nat×OB)) (l:Nat) (b:OB),Au H l=none->Au (Ou H l b) l=some b
 | [],l,b,_=>by simp [Ou,Au]
 |(k,c)::r,l,b,h=>by
  simp only [Au] at h
  split at h
  ·cases h
  ·rename_i hk
   simp only [Ou]
   split
   ·simp [Au]
   ·simp only [Au,Ag hk];exact Rc r l b h
theorem Pu: ∀(H:List (Nat×OB)) (l m:Nat) (b:OB),m≠l->Au (Ou H l b) m=Au H m
 | [],l,m,b,Ih=>by simp [Ou,Au,Gl Ih]
 |(k,c)::r,l,m,b,Ih=>by
  simp only [Ou]
  split
  ·simp only [Au,Ag (Gl Ih)]
  ·simp only [Au];split
   ·rfl
   ·exact Pu r l m b Ih
theorem Ew: ∀(H:List (Nat×OB)) (l:Nat) (b c:OB),Au H l=some c->Au (aY H l b) l=some b
 | [],_,_,_,h=>by cases h
 |(k,d)::r,l,b,c,h=>by
  simp only [Au] at h
  simp only [aY]
  split
  ·rename_i hk;subst hk;simp [Au]
  ·rename_i hk;rw [Ag hk] at h;simp only [Au,Ag hk];exact Ew r l b c h
theorem Ee: ∀(H:List (Nat×OB)) (l m:Nat) (b:OB),m≠l->Au (aY H l b) m=Au H m
 | [],_,_,_,_=>rfl
 |(k,d)::r,l,m,b,Ih=>by
  simp only [aY]
  split
  ·rename_i hk;subst hk;simp only [Au,Ag (Gl Ih)]
  ·simp only [Au];split
   ·rfl
   ·exact Ee r l m b Ih
theorem aN {α:Type} : ∀(l:List α) (i:Nat) (x:α),(Tj l i x).length=l.length
 | [],_,_=>rfl
 |_::_,0,_=>rfl
 |_::r,n+1,x=>by simp [Tj,aN r n x]
theorem Rh {α:Type} (d:α): ∀(l:List α) (i j:Nat) (x:α),(Tj l i x).getD j d=if i=j/\j<l.length then x else l.getD j d
 | [],i,j,x=>by simp [Tj]
 |_::_,0,0,x=>by simp [Tj]
 |_::_,0,j+1,x=>by simp [Tj]
 |_::_,n+1,0,x=>by simp [Tj]
 |_::r,n+1,j+1,x=>by
  have h:=Rh d r n j x
  simp only [Tj,Nu,h,Aw,Nat.add_right_cancel_iff,Nat.add_lt_add_iff_right]
section
variable {X:Ctx} {w w':World} {π π':Pi} {H H':List (Nat×OB)}
structure Move (X:Ctx) (w w':World) (π π':Pi) (H H':List (Nat×OB)) (f:AC->AC):Prop where
 ac: ∀c v,Hk X w π H c v->Hk X w' π' H' (f c) v
 cells: ∀fr τ cs x,Cells w (Dd X.w0.heap.size X.Sc π fr) τ cs x->Cells w' (Dd X.w0.heap.size X.Sc π' fr) τ cs x
theorem Move.rep {f:AC->AC} (m:Move X w w' π π' H H' f) {fr:Bool} {τ:Ty} {v:Value} {x:τ.den} (h:Cw w (Dd X.w0.heap.size X.Sc π fr) τ v x):
  Cw w' (Dd X.w0.heap.size X.Sc π' fr) τ v x:=
 let ⟨cs,hc,hv⟩:=h
 ⟨cs,m.cells fr τ cs x hc,hv⟩
theorem Move.args {f:AC->AC} (m:Move X w w' π π' H H' f) {fr:Bool} : ∀(τ:Ty) (vs:List Value) (x:τ.den),Cy w (Dd X.w0.heap.size X.Sc π fr) τ vs x->
  Cy w' (Dd X.w0.heap.size X.Sc π' fr) τ vs x
 | .pair a r,[],x,h=>h
 | .pair a r,v::vs,x,h=>⟨m.rep h.1,m.args r vs x.2 h.2⟩
 | .unit,[],_,_=>trivial
 | .unit,_::_,_,h=>h
 | .int _,_,_,h=>by simp [Cy] at h
 | .bool,_,_,h=>by simp [Cy] at h
 | .str,_,_,h=>by simp [Cy] at h
 | .slice _,_,_,h=>by simp [Cy] at h
 | .ptr _,_,_,h=>by simp [Cy] at h
 | .oslice _,_,_,h=>by simp [Cy] at h
 | .optr _,_,_,h=>by simp [Cy] at h
 | .smap _,_,_,h=>by simp [Cy] at h
 | .clo _ _,_,_,h=>by simp [Cy] at h
theorem Move.acs {f:AC->AC} (m:Move X w w' π π' H H' f) {cs:List AC} {us:List Value} (h:Fv X w π H cs us):Fv X w' π' H' (cs.map f) us:=
 ⟨by rw [Dl];exact h.1,λi c hc=>by
  rw [Fm] at hc
  cases hi:cs[i]? with
  |none=>rw [hi] at hc;cases hc
  |some d=>
   rw [hi] at hc
   simp only [Am,Aa] at hc
   subst hc
   obtain ⟨u,hu,h1,h2⟩:=h.2 i d hi
   exact ⟨u,hu,h1,m.ac d u h2⟩⟩
theorem Move.part {f:AC->AC} (m:Move X w w' π π' H H' f) {p:Bool×List AC} {v:Value} (h:di X w π H p v):di X w' π' H' (p.1,p.2.map f) v:=by
 unfold di at h⊢
 dsimp only
 split at h
 ·rename_i hp
  rw [Ab hp]
  obtain ⟨us,hv,hr⟩:=h
  exact ⟨us,hv,m.acs hr⟩
 ·rename_i hp
  rw [Ag hp]
  intro a ha
  cases hq:p.2 with
  |nil=>rw [hq] at ha;cases ha
  |cons c r=>
   rw [hq] at ha
   simp only [Ce,Gj,List.map_eq_nil_iff] at ha
   obtain ⟨rfl,rfl⟩:=ha
   exact m.ac c v (h c hq)
theorem Move.av {f:AC->AC} (m:Move X w w' π π' H H' f) {c:AV} {v:Value} (h:Bs X w π H c v):Bs X w' π' H' (c.map f) v:=by
 cases c with
 | «at»a=>exact m.ac a v h
 |agg cs=>obtain ⟨us,hv,hr⟩:=h;exact ⟨us,hv,m.acs hr⟩
 |cf fr τ x=>obtain ⟨vs,hv,hr⟩:=h;exact ⟨vs,hv,m.args τ vs x hr⟩
 |Mn l=>
  obtain ⟨vs,hv,hl,hr⟩:=h
  refine ⟨vs,hv,by rw [Dl];exact hl,λi p u hp hu=>?_⟩
  rw [Fm] at hp
  cases hi:l[i]? with
  |none=>rw [hi] at hp;cases hp
  |some q=>
   rw [hi] at hp
   simp only [Am,Aa] at hp
   subst hp
   exact m.part (hr i q u hi hu)
theorem Vx (f:AC->AC) (hu:f .undef= .undef) (l:List AV) (t:Nat):(l.map (·.map f)).getD t .undef=(l.getD t .undef).map f:=by
 simp only [Aj,Fm]
 cases l[t]? with
 |none=>simp [AV.undef,AV.map,hu]
 |some v=>rfl
theorem Move.SG {f:AC->AC} (hu:f .undef= .undef) {st:St} {a:Act} {H':List (Nat×OB)} (m:Move X w w' π π' st.heap H' f) (h:um X w π st a):
  um X w' π' {tmps:=st.tmps.map (·.map f),heap:=H'} a:=
 ⟨by simpa using h.size,h.defers,λt=>by
  have:=m.av (h.tmps t)
  unfold St.get
  rw [Vx f hu]
  exact this⟩
theorem AC.map_id (c:AV):c.map (λc=>c)=c:=by
 cases c<;>simp [AV.map]
theorem dm {w:World} {a:Addr} {v:Value} (h:w.cell? a=some v):a.block<w.heap.size:=by
 unfold World.cell? at h
 cases hb:w.heap[a.block]? with
 |none=>rw [hb] at h;cases h
 |some o=>exact (Nj.1 hb).1
theorem Move.quiet (hw: ∀k,k<w.heap.size->w'.heap[k]?=w.heap[k]?) (hs:w.heap.size<=w'.heap.size):Move X w w' π π H H (λc=>c):=by
 have hc: ∀fr τ cs x,Cells w (Dd X.w0.heap.size X.Sc π fr) τ cs x->Cells w' (Dd X.w0.heap.size X.Sc π fr) τ cs x:=
  fun fr τ cs x h=>Cells.Fg hs (λk hk _=>hw k hk) (λ_ _ h=>h) τ cs x h
 refine ⟨λc v h=>?_,hc⟩
 cases c with
 |data fr τ x=>obtain ⟨cs,h1,h2⟩:=h;exact ⟨cs,hc _ _ _ _ h1,h2⟩
 |sub l i c=>
  obtain ⟨r,e,tid,xs,h1,h2,h3,h4,h5,h6⟩:=h
  exact ⟨r,e,tid,xs,h1,h2,h3,h4,h5,by rw [World.cell?_of_block (hw _ (dm h6))];exact h6⟩
 |Kd l i j=>
  obtain ⟨r,b,n,sz,g,o,len,cap,h1,h2,h3,h4,h5,h6,h7⟩:=h
  exact ⟨r,b,n,sz,g,o,len,cap,h1,h2,h3,h4,h5,by rw [World.cell?_of_block (hw _ (dm h6))];exact h6,h7⟩
 |_=>exact h
theorem Fw {w:World} {g:Nat} {o:Obj} (h:w.heap[g]?=some o):g<w.heap.size:=(Nj.1 h).1
theorem Nf.own (h:Nf X w π H) {b:Nat} (hb:Ux π b):b<w.heap.size/\(X.w0.heap.size<=b\/X.gv b):=by
 obtain ⟨l,r,hr,hf⟩:=hb
 have:=h.place l r b hr (h.sub l r b hr hf)
 exact ⟨this.2,this.1⟩
theorem Nf.Cx (h:Nf X w π H) {l:Nat} {r:Real} (hr:π l=some r):r.Cx r.g:=by
 have hl:=h.heap l
 unfold Gk at hl
 split at hl
 ·rw [hl] at hr;cases hr
 ·rw [hr] at hl;exact hl.1.1
 ·rw [hr] at hl;exact hl.1
 ·rw [hr] at hl;exact hl.1.1
 ·obtain ⟨r',h0,h1,_⟩:=hl;rw [hr] at h0;cases h0;exact h1
 ·obtain ⟨r',h0,h1,_⟩:=hl;rw [hr] at h0;cases h0;exact h1
theorem Nf.lt (h:Nf X w π H) {l:Nat} {r:Real} (hr:π l=some r):r.g<w.heap.size/\(X.w0.heap.size<=r.g\/X.gv r.g):=
 h.own ⟨l,r,hr,h.Cx hr⟩
theorem Nf.apart (h:Nf X w π H) {l l':Nat} {r r':Real} {b:Nat} (hr:π l=some r) (eE:π l'=some r') (hb:r.Cx b) (jB:r'.Cx b):l=l':=
 h.inj l l' r r' b hr eE (h.sub l r b hr hb) (h.sub l' r' b eE jB)
theorem Ci.lt {w:World} : ∀(F:List Nat) (τ:Ty) (cs:List Value) (x:τ.den),Ci w F τ cs x-> ∀b∈F,b<w.heap.size:=by
 intro F τ
 induction τ generalizing F with
 |slice e ih=>
  intro cs xs h b hb
  simp only [Ci] at h
  obtain ⟨a,len,cap,_,_,_,h⟩:=h
  rcases h with ⟨_,rfl,_⟩|⟨ad,g,o,Fs,_,_,hg,rfl,hl,Js⟩
  ·cases hb
  ·rcases Be.1 hb with rfl|hb
   ·exact hg.lt
   ·obtain ⟨Fi,hFi,hbi⟩:=Fq.1 hb
    obtain ⟨i,hi,rfl⟩:=Ry hFi
    obtain ⟨es,_,_,hr⟩:=Js i (xs[i]'(by omega)) _ (Ac _) (Ac hi)
    exact ih _ es _ hr b hbi
 |pair a r iX iR=>
  intro cs x h b hb
  simp only [Ci] at h
  obtain ⟨c1,c2,F1,F2,_,rfl,h1,h2⟩:=h
  rcases Az.1 hb with hb|hb
  ·exact iX _ c1 _ h1 b hb
  ·exact iR _ c2 _ h2 b hb
 |int k=>intro cs x h b hb;simp only [Ci] at h;rw [h.1] at hb;cases hb
 |bool=>intro cs x h b hb;simp only [Ci] at h;rw [h.1] at hb;cases hb
 |str=>intro cs x h b hb;simp only [Ci] at h;rw [h.1] at hb;cases hb
 |unit=>intro cs x h b hb;simp only [Ci] at h;rw [h.1] at hb;cases hb
 |_=>intro cs x h;simp only [Ci] at h
theorem Ci.Fg {w w':World} : ∀(F:List Nat) (τ:Ty) (cs:List Value) (x:τ.den),Ci w F τ cs x->w.heap.size<=w'.heap.size->(∀b∈F,w'.heap[b]?=w.heap[b]?)->Ci w' F τ cs x:=by
 intro F τ
 induction τ generalizing F with
 |slice e ih=>
  intro cs xs h hs hk
  simp only [Ci] at h⊢
  obtain ⟨a,len,cap,h1,h2,h3,h⟩:=h
  refine ⟨a,len,cap,h1,h2,h3,?_⟩
  rcases h with h|⟨ad,g,o,Fs,h4,h0,hg,rfl,hl,Js⟩
  ·exact .inl h
  ·refine .inr ⟨ad,g,o,Fs,h4,h0,hg.Fg (hk g (by simp)),rfl,hl,λi x Fi hx hF=>?_⟩
   obtain ⟨es,h5,h6,h7⟩:=Js i x Fi hx hF
   exact ⟨es,h5,λj u hu=>by rw [World.cell?_of_block (hk g (by simp))];exact h6 j u hu,
    ih Fi es x h7 hs λb hb=>hk b (Ar _ (Fq.2 ⟨Fi,Bv hF,hb⟩))⟩
 |pair a r iX iR=>
  intro cs x h hs hk
  simp only [Ci] at h⊢
  obtain ⟨c1,c2,F1,F2,h1,rfl,h2,h3⟩:=h
  exact ⟨c1,c2,F1,F2,h1,rfl,iX F1 c1 _ h2 hs (λb hb=>hk b (Bd _ hb)),iR F2 c2 _ h3 hs (λb hb=>hk b (Bx _ hb))⟩
 |int k=>intro cs x h _ _;exact h
 |bool=>intro cs x h _ _;exact h
 |str=>intro cs x h _ _;exact h
 |unit=>intro cs x h _ _;exact h
 |_=>intro cs x h;simp only [Ci] at h
theorem Ci.cells {w:World} {S:Nat->Prop} : ∀(F:List Nat) (τ:Ty) (cs:List Value) (x:τ.den),Ci w F τ cs x->(∀b∈F,¬S b)->Cells w S τ cs x:=by
 intro F τ
 induction τ generalizing F with
 |slice e ih=>
  intro cs xs h hk
  simp only [Ci] at h
  simp only [Cells]
  obtain ⟨a,len,cap,h1,h2,h3,h⟩:=h
  refine ⟨a,len,cap,h1,h2,h3,?_⟩
  rcases h with h|⟨ad,g,o,Fs,h4,h0,hg,rfl,hl,Js⟩
  ·exact .inl h.1
  by_cases hx0:xs= []
  ·exact .inl hx0
  ·have m5:0<cap:=by
    rcases bh cap with e0|e0
    ·exact absurd (Cn (by omega)) hx0
    ·exact e0
   refine .inr ⟨g,o,by rw [h4,h0 m5],hg.lt,hk g (by simp),λi x hx=>?_⟩
   have hi:i<Fs.length:=by have:=(An.1 hx).1;omega
   obtain ⟨es,h5,h6,h7⟩:=Js i x _ hx (Ac hi)
   exact ⟨es,h5,h6,ih _ es x h7 λb hb=>hk b (Ar _ (Fq.2 ⟨_,Ak hi,hb⟩))⟩
 |pair a r iX iR=>
  intro cs x h hk
  simp only [Ci] at h
  simp only [Cells]
  obtain ⟨c1,c2,F1,F2,h1,rfl,h2,h3⟩:=h
  exact ⟨c1,c2,h1,iX F1 c1 _ h2 (λb hb=>hk b (Bd _ hb)),iR F2 c2 _ h3 (λb hb=>hk b (Bx _ hb))⟩
 |int k=>intro cs x h _;simp only [Ci] at h;exact h.2
 |bool=>intro cs x h _;simp only [Ci] at h;exact h.2
 |str=>intro cs x h _;simp only [Ci] at h;exact h.2
 |unit=>intro cs x h _;simp only [Ci] at h;exact h.2
 |_=>intro cs x h;simp only [Ci] at h
theorem Yk.Fg {w w':World} {P P':Nat->Prop} {g o:Nat} {cur:Array Value} {e:Ty} {xs:List e.den} (h:Yk w P g o cur e xs) (hs:w.heap.size<=w'.heap.size)
  (hk: ∀b,b≠g->b<w.heap.size->P b->w'.heap[b]?=w.heap[b]?) (hP: ∀b,P b->P' b):Yk w' P' g o cur e xs:=by
 obtain ⟨Fs,h1,h2,h3,h4⟩:=h
 refine ⟨Fs,h1,h2,λb hb=>hP b (h3 b hb),λi x F hx hF=>?_⟩
 obtain ⟨es,h5,h6,h7⟩:=h4 i x F hx hF
 refine ⟨es,h5,h6,h7.Fg _ _ _ _ hs λb hb=>?_⟩
 have hbf:b∈List.flatten Fs:=Fq.2 ⟨F,Bv hF,hb⟩
 exact hk b (λe=>by subst e;exact (Cd.1 h2).1 hbf) (h7.lt _ _ _ _ b hb) (h3 b hbf)
theorem Ts.to {w w':World} {D D':Nat->Prop} {r:Option Real} {e:Ty} {xs:List e.den} (h:Ts w D r e xs) (hk: ∀q,r=some q->w'.heap[q.g]?=w.heap[q.g]?) (hc: ∀es x,Cells w D e es x->Cells w' D' e es x):Ts w' D' r e xs:=by
 cases r with
 |none=>exact h
 |some q=>
  obtain ⟨h1,cur,ti,h2,h3,h4,h5,h6⟩:=h
  refine ⟨h1,cur,ti,(hk q rfl).trans h2,h3,h4,h5,λi x hx=>?_⟩
  obtain ⟨es,g1,g2,g3⟩:=h6 i x hx
  exact ⟨es,g1,g2,hc es x g3⟩
theorem bd.Fg {w w':World} {D D':Nat->Prop} {r:Option Real} {e:Ty} {rows:List (List e.den)} {out:Option Nat} (h:bd w D r e rows out)
  (hk: ∀q b,r=some q->q.Cx b->b<w.heap.size->w'.heap[b]?=w.heap[b]?) (hc: ∀es x,Cells w D e es x->Cells w' D' e es x):bd w' D' r e rows out:=by
 cases r with
 |none=>have h:rows= []:=h;exact (h:rows= [])
 |some r=>
  obtain ⟨h1,cur,ti,h2,h3,h4,h5,Rs,h6,h7,h8,h9⟩:=h
  refine ⟨h1,cur,ti,(hk r _ rfl h1 (Fw h2)).trans h2,h3,h4,h5,Rs,h6,h7,h8,λi x hx ho=>?_⟩
  obtain ⟨u,R,k1,k2,k3,k4⟩:=h9 i x hx ho
  refine ⟨u,R,k1,k2,k3,k4.to (λq hq=>?_) hc⟩
  subst hq
  obtain ⟨_,cu,ti',k5,_⟩:=k4
  exact hk r _ rfl (h7 i q k2).1 (Fw k5)
theorem KeptAt.Fg {w w':World} {r:Option Real} {kp:Option (Nat×Nat)} (h:KeptAt X w r kp) (hk: ∀q,r=some q->w'.heap[q.g]?=w.heap[q.g]?):KeptAt X w' r kp:=by
 cases kp with
 |none=>trivial
 |some p=>
  obtain ⟨l0,n⟩:=p
  simp only [KeptAt] at h⊢
  cases hp:X.iY l0 with
  |none=>cases r with
   |none=>trivial
   |some r'=>rw [hp] at h;exact h.elim
  |some r0=>cases r with
   |none=>rw [hp] at h;exact h.elim
   |some r'=>
    rw [hp] at h
    obtain ⟨h1,h2,h3,h4⟩:=h
    refine ⟨h1,h2,h3,λj hj hc=>?_⟩
    rw [World.cell?_of_block (show w'.heap[(Addr.mk r0.g (r0.o+j) none).block]?=w.heap[(Addr.mk r0.g (r0.o+j) none).block]? from h1▸hk r' rfl)]
    exact h4 j hj hc
theorem j5.Fg {w w':World} {π π':Pi} {r:Option Real} {e:Ty} {rows:List (List e.den)} {out:Option Nat} {kp:Option (Nat×Nat)} (h:j5 X w π r e rows out kp)
  (hk: ∀q b,r=some q->q.Cx b->b<w.heap.size->w'.heap[b]?=w.heap[b]?) (hc: ∀es x,Cells w (Dd X.w0.heap.size X.Sc π false) e es x->Cells w' (Dd X.w0.heap.size X.Sc π' false) e es x):j5 X w' π' r e rows out kp:=by
 refine ⟨h.1.Fg hk hc,h.2.Fg λq hq=>?_⟩
 subst hq
 obtain ⟨h1,cur,ti,h2,_⟩:=h.1
 exact hk q _ rfl h1 (Fw h2)
theorem Nf.quiet (h:Nf X w π H) (hb:Below w.heap.size w w'):Nf X w' π H:=by
 have m:Move X w w' π π H H (λc=>c):=Move.quiet (λk hk=>hb.block k hk) hb.size
 refine ⟨h.below.trans (.of (hb.mono h.below.size)),h.sc,h.sub,λl r b h1 h2=>⟨(h.place l r b h1 h2).1,Dk (h.place l r b h1 h2).2 hb.size⟩,h.inj,h.iY,λl=>?_⟩
 have hl:=h.heap l
 unfold Gk at hl⊢
 cases hg:Au H l with
 |none=>rw [hg] at hl;exact hl
 |some b=>
  rw [hg] at hl
  cases b with
  |arr fr tr e tid xs=>
   simp only [Ke] at hl⊢
   cases hp:π l with
   |none=>rw [hp] at hl;exact hl
   |some r=>
    rw [hp] at hl
    obtain ⟨h1,cur,ti,h2,h3,h4,h5,h6,h7⟩:=hl
    refine ⟨h1,cur,ti,(hb.block _ (Fw h2)).trans h2,h3,h4,h5,λi x hx=>?_,λht=>(h7 ht).Fg hb.size (λb _ Iz _=>hb.block b Iz) λ_ hb=>hb⟩
    obtain ⟨es,he,hj,hc⟩:=h6 i x hx
    exact ⟨es,he,hj,m.cells _ _ _ _ hc⟩
  |Gz e tid xs=>
   simp only [Of] at hl⊢
   cases hp:π l with
   |none=>rw [hp] at hl;exact hl
   |some r=>
    rw [hp] at hl
    obtain ⟨h1,cur,ti,h2,h3,h4,h5,h7⟩:=hl
    exact ⟨h1,cur,ti,(hb.block _ (Fw h2)).trans h2,h3,h4,h5,h7.Fg hb.size (λb _ Iz _=>hb.block b Iz) λ_ hb=>hb⟩
  |var tid vs=>
   obtain ⟨r,h0,h1,cur,h2,h3⟩:=hl
   refine ⟨r,h0,h1,cur,(hb.block _ (Fw h2)).trans h2,?_⟩
   have:=m.acs h3
   simpa using this
  |Bp e te rows out kp=>exact j5.Fg hl (λq b _ _ Iz=>hb.block b Iz) (λes x=>m.cells false e es x)
  |Wo v f=>
   obtain ⟨r,h0,h1,h2,h3⟩:=hl
   exact ⟨r,h0,h1,h2,Cells.Fg hb.size (λk hk _=>hb.block k hk) (λ_ _ h=>h) _ _ _ h3⟩
theorem Bk.quiet {st:St} {a:Act} (h:Bk X π st a w) (hb:Below w.heap.size w w'):Bk X π st a w':=by
 refine ⟨h.1.quiet hb,?_⟩
 have m:Move X w w' π π st.heap st.heap (λc=>c):=Move.quiet (λk hk=>hb.block k hk) hb.size
 exact ⟨h.2.size,h.2.defers,λt=>by have:=m.av (h.2.tmps t);rwa [AC.map_id] at this⟩
theorem Bk.put {st:St} {a:Act} (h:Bk X π st a w) (dst:Option Tmp) {c:AV} {v:Value} (hv:Bs X w π st.heap c v):Bk X π (st.put dst c) (a.put dst v) w:=by
 cases dst with
 |none=>exact h
 |some d=>
  refine ⟨h.1,⟨by simp [St.put,Act.put,aN,h.2.size],h.2.defers,λt=>?_⟩⟩
  show Bs X w π st.heap ((Tj st.tmps d c).getD t .undef) ((a.tmps.setIfInBounds d v).getD t undef)
  rw [Rh]
  have bm:=h.2.size
  by_cases hdt:d=t/\t<st.tmps.length
  ·rw [Ab hdt]
   obtain ⟨rfl,Iz⟩:=hdt
   have:(a.tmps.setIfInBounds d v).getD d undef=v:=by simp [bm,Iz]
   rw [this];exact hv
  ·rw [Ag hdt]
   have:(a.tmps.setIfInBounds d v).getD t undef=a.tmps.getD t undef:=by
    by_cases hd:d=t
    ·subst hd
     have pX: ¬d<a.tmps.size:= λhh=>hdt ⟨rfl,bm▸hh⟩
     simp [Array.setIfInBounds,pX]
    ·simp [Array.getElem?_setIfInBounds_ne hd]
   rw [this];exact h.2.tmps t
end
end Go.Proofs.YtfgfigkbgecfnaaGreat
