/-
  Part 4 of the proof that the statement FnExactSolveTwoPhaseWithin holds.
-/
import Derived.Test.YtfgfigkbgecfnaaCSolveTwoPhaseWithin02
namespace Go.Proofs.Ytfgfigkbgecfnaa
open Go.RowKit
structure Real where
 g:Nat
 o:Nat
 cap:Nat
 Df:Nat->Prop
 cl:Nat->Prop
abbrev Pi:=Nat->Option Real
def Wn (π:Pi) (b:Nat):Prop:= ∃l r,π l=some r/\r.Df b
def Dk (B:Nat) (Sc:Nat->Prop) (π:Pi) (fr:Bool) (b:Nat):Prop:=Wn π b\/Sc b\/(fr=true/\b<B)
def Shape (w:World) (g o s cap:Nat):Prop:= ∃(cur:Array Value) (ti:TypeId) (o':Nat),w.heap[g]?=some (.cells cur ti (0,0))/\o=o'*s/\cur.size=(o'+cap)*s/\cap<=maxLen
theorem Shape.lt {w:World} {g o s cap:Nat} (h:Shape w g o s cap):g<w.heap.size:=let ⟨_,_,_,h,_⟩:=h;(Nu.1 h).1
theorem Shape.Gd {w w':World} {g o s cap:Nat} (h:Shape w g o s cap) (hk:w'.heap[g]?=w.heap[g]?):Shape w' g o s cap:=let ⟨c,t,o',h1,h2⟩:=h;⟨c,t,o',hk.trans h1,h2⟩
def Dn (w:World):(F:List Nat)->(τ:Ty)->List Value->τ.den->Prop
 |F, .int k,cs,n=>F= []/\cs= [.int k n]
 |F, .bool,cs,b=>F= []/\cs= [.bool b]
 |F, .str,cs,s=>F= []/\cs= [.string s]
 |F, .slice e,cs,xs=> ∃a len cap,cs= [.slice a len cap]/\len=xs.length/\len<=cap/\((xs= []/\F= []/\a=none/\cap=0)\/ ∃ad g o Fs,a=some ad/\(0<cap->ad=⟨g,o,none⟩)/\Shape w g o e.size cap/\F=g::List.flatten Fs/\Fs.length=xs.length/\
   ∀(i:Nat) (x:e.den) (Fi:List Nat),xs[i]?=some x->Fs[i]?=some Fi-> ∃es:List Value,es.length=e.size/\(∀j u,es[j]?=some u->w.cell? ⟨g,o+i*e.size+j,none⟩=some u)/\Dn w Fi e es x)
 |F, .unit,cs,_=>F= []/\cs= []
 |F, .pair a r,cs,x=> ∃c1 c2 F1 F2,cs=c1++c2/\F=F1++F2/\Dn w F1 a c1 x.1/\Dn w F2 r c2 x.2
 |_,_,_,_=>False
def Yh (w:World) (P:Nat->Prop) (g o:Nat) (cur:Array Value) (e:Ty) (xs:List e.den):Prop:=
 ∃Fs:List (List Nat),Fs.length=xs.length/\(g::List.flatten Fs).Nodup/\(∀b∈List.flatten Fs,P b)/\
  ∀(i:Nat) (x:e.den) (F:List Nat),xs[i]?=some x->Fs[i]?=some F-> ∃es:List Value,es.length=e.size/\(∀j u,es[j]?=some u->cur[(o+i)*e.size+j]?=some u)/\Dn w F e es x
def Ih (r:Option Real) (size off len:Nat) (v:Value):Prop:=
 match r with
 |none=>v= .slice none 0 0/\off=0/\len=0
 |some r=> ∃ad:Addr,v= .slice (some ad) len (r.cap-off)/\off+len<=r.cap/\(off<r.cap->ad=⟨r.g,(r.o+off)*size,none⟩)
def Tr (w:World) (D:Nat->Prop) (r:Option Real) (e:Ty) (xs:List e.den):Prop:=
 match r with
 |none=>xs= []
 |some r=>(r.Df r.g/\(∀b,r.Df b->b=r.g))/\ ∃(cur:Array Value) (ti:TypeId),w.heap[r.g]?=some (.cells cur ti (0,0))/\cur.size=(r.o+r.cap)*e.size/\r.cap<=maxLen/\xs.length<=r.cap/\
   (∀(i:Nat) (x:e.den),xs[i]?=some x-> ∃es:List Value,es.length=e.size/\(∀j u,es[j]?=some u->cur[(r.o+i)*e.size+j]?=some u)/\Cells w D e es x)
def aP (w:World) (D:Nat->Prop) (r:Option Real) (e:Ty) (rows:List (List e.den)) (out:Option Nat):Prop:=
 match r with
 |none=>rows= []
 |some r=>r.Df r.g/\ ∃(cur:Array Value) (ti:TypeId),w.heap[r.g]?=some (.cells cur ti (0,0))/\cur.size=r.o+r.cap/\r.cap<=maxLen/\rows.length<=r.cap/\
   ∃Rs:List (Option Real),Rs.length=rows.length/\(∀(i:Nat) (q:Real),Rs[i]?=some (some q)->r.Df q.g/\q.g≠r.g)/\(∀(i j:Nat) (q q':Real),Rs[i]?=some (some q)->Rs[j]?=some (some q')->q.g=q'.g->i=j)/\
    ∀(i:Nat) (x:List e.den),rows[i]?=some x->out≠some i-> ∃u R,cur[r.o+i]?=some u/\Rs[i]?=some R/\Ih R e.size 0 x.length u/\Tr w D R e x
structure Ctx where
 w0:World
 Sc:Nat->Prop
 gv:Nat->Prop
 iM:Pi
structure Lk (B:Nat) (gv:Nat->Prop) (w w':World):Prop where
 os:w'.os=w.os
 tape:w'.tape=w.tape
 output:w'.output=w.output
 size:w.heap.size<=w'.heap.size
 block: ∀k,k<B-> ¬gv k->w'.heap[k]?=w.heap[k]?
theorem Lk.refl (B:Nat) (gv:Nat->Prop) (w:World):Lk B gv w w:=⟨rfl,rfl,rfl,Ap _,λ_ _ _=>rfl⟩
theorem Lk.trans {B:Nat} {gv:Nat->Prop} {a b c:World} (h:Lk B gv a b) (k:Lk B gv b c):Lk B gv a c:=
 ⟨k.os.trans h.os,k.tape.trans h.tape,k.output.trans h.output,Gz h.size k.size,λi hi hg=>(k.block i hi hg).trans (h.block i hi hg)⟩
theorem Lk.plain {B:Nat} {w w':World} (h:Lk B (λ_=>False) w w'):Below B w w':=⟨h.os,h.tape,h.output,h.size,λk hk=>h.block k hk (λh=>h)⟩
theorem Lk.of {B:Nat} {gv:Nat->Prop} {w w':World} (h:Below B w w'):Lk B gv w w':=⟨h.os,h.tape,h.output,h.size,λk hk _=>h.block k hk⟩
theorem Lk.grown {B:Nat} {gv:Nat->Prop} {a w w':World} {row:Option Nat} (h:Lk B gv a w) (hg:w.grownBy w' row) (hB:B<=w.heap.size) (hr: ∀k,row=some k->B<=k\/gv k):Lk B gv a w':=
 h.trans ⟨hg.os,hg.tape,hg.output,hg.size,λk hk hn=>hg.block k (by omega) (λe=>by rcases hr k e.symm with h|h;omega;exact hn h)⟩
def OB.row:OB->Option (Nat×Nat)
 | .arr _ _ e _ xs=>some (e.size,xs.length)
 | .Hl e _ xs=>some (e.size,xs.length)
 | .Ca _ _ rows _ _=>some (1,rows.length)
 |_=>none
def OB.ic:OB->Option (Nat×Nat)
 | .Hl e _ xs=>some (e.size,xs.length)
 | .Ca _ _ rows _ _=>some (1,rows.length)
 |_=>none
def OB.wE:OB->Option (Nat×Nat)
 | .Ca e _ rows _ _=>some (rows.length,e.size)
 |_=>none
def bP:Option Real->Option Real->Prop
 |none,none=>True
 |some r,some r'=>r.g=r'.g/\r.o=r'.o/\r.cap=r'.cap/\ ∀b,r.Df b↔r'.Df b
 |_,_=>False
theorem bP.rfl' (r:Option Real):bP r r:=by cases r<;>simp [bP]
section
variable (X:Ctx) (w:World) (π:Pi) (H:List (Nat×OB))
def Hw:AC->Value->Prop
 | .undef,_=>True
 | .skip,v=>v=Go.undef
 | .Mn,v=>v= .slice none 0 0
 | .Wk,v=>v= .pointer none
 | .data fr τ x,v=>Dd w (Dk X.w0.heap.size X.Sc π fr) τ v x
 | .own l off len,v=> ∃b sz n,Ay H l=some b/\b.row=some (sz,n)/\off+len<=n/\Ih (π l) sz off len v
 | .Hs l i,v=> ∃r tid vs,Ay H l=some (.var tid vs)/\π l=some r/\v= .pointer (some ⟨r.g,i,none⟩)
 | .Kq l i,v=> ∃r b sz n,Ay H l=some b/\b.row=some (sz,n)/\i<n/\π l=some r/\v= .pointer (some ⟨r.g,(r.o+i)*sz,none⟩)
 | .sub l i c,v=> ∃r b sz n,Ay H l=some b/\b.ic=some (sz,n)/\π l=some r/\i<n/\(c<sz/\ ∃a n m,v= .slice a n m)/\w.cell? ⟨r.g,(r.o+i)*sz+c,none⟩=some v
 | .Kl l i j,v=> ∃r b n sz g o len cap,Ay H l=some b/\b.wE=some (n,sz)/\π l=some r/\i<n/\j<len/\w.cell? ⟨r.g,r.o+i,none⟩=some (.slice (some ⟨g,o,none⟩) len cap)/\v= .pointer (some ⟨g,o+j*sz,none⟩)
 | .clo f En,v=> ∃us:List Value,v= .func (.func f) #[] us.toArray/\us.length=En.length/\
   ∀(j:Nat) p,En[j]?=some p-> ∃r tid vs,Ay H p.1=some (.var tid vs)/\π p.1=some r/\us[j]?=some (.pointer (some ⟨r.g,p.2,none⟩))
 | .Le l,v=> ∃r vt m,Ay H l=some (.Wl vt m)/\π l=some r/\v= .map (some r.g)
def Gq (cs:List AC) (us:List Value):Prop:=us.length=cs.length/\ ∀(i:Nat) c,cs[i]?=some c-> ∃u,us[i]?=some u/\u.oneCell'=true/\Hw X w π H c u
def fE (p:Bool×List AC) (v:Value):Prop:=if p.1 then ∃us:List Value,v= .agg us.toArray/\Gq X w π H p.2 us else ∀a,p.2= [a]->Hw X w π H a v
def Bx:AV->Value->Prop
 | .at a,v=>Hw X w π H a v
 | .agg cs,v=> ∃us:List Value,v= .agg us.toArray/\Gq X w π H cs us
 | .bL fr τ x,v=> ∃vs:List Value,v= .tuple vs.toArray/\De w (Dk X.w0.heap.size X.Sc π fr) τ vs x
 | .Nh l,v=> ∃vs:List Value,v= .tuple vs.toArray/\vs.length=l.length/\ ∀(i:Nat) p u,l[i]?=some p->vs[i]?=some u->fE X w π H p u
def Km (r:Option Real) (fr tr:Bool) (e:Ty) (_:TypeId) (xs:List e.den):Prop:=
 match r with
 |none=>xs= []
 |some r=>(r.Df r.g/\(∀b,r.Df b->b=r.g)/\(fr=true->X.w0.heap.size<=r.g))/\ ∃(cur:Array Value) (ti:TypeId),w.heap[r.g]?=some (.cells cur ti (0,0))/\cur.size=(r.o+r.cap)*e.size/\r.cap<=maxLen/\xs.length<=r.cap/\
   (∀(i:Nat) (x:e.den),xs[i]?=some x-> ∃es:List Value,es.length=e.size/\(∀j u,es[j]?=some u->cur[(r.o+i)*e.size+j]?=some u)/\Cells w (Dk X.w0.heap.size X.Sc π fr) e es x)/\
   (tr=true->Yh w r.cl r.g r.o cur e xs)
def On (r:Option Real) (e:Ty) (_:TypeId) (xs:List e.den):Prop:=
 match r with
 |none=>xs= []
 |some r=>r.Df r.g/\ ∃(cur:Array Value) (ti:TypeId),w.heap[r.g]?=some (.cells cur ti (0,0))/\cur.size=(r.o+r.cap)*e.size/\r.cap<=maxLen/\xs.length<=r.cap/\Yh w r.Df r.g r.o cur e xs
def Ahk (r:Option Real) (tid:TypeId) (vs:List AC):Prop:=
 ∃r',r=some r'/\r'.Df r'.g/\ ∃cur:Array Value,w.heap[r'.g]?=some (.cells cur tid (0,0))/\Gq X w π H vs cur.toList
def ZH (r:Option Real) (v:Ty) (m:ByteArray->Option v.den):Prop:=
 ∃r',r=some r'/\r'.Df r'.g/\(v.flat=true/\v.Ar=false)/\Cells w (λ_=>False) (.smap v) [.map (some r'.g)] m
def KeptAt (r:Option Real):Option (Nat×Nat)->Prop
 |none=>True
 |some (l0,n)=>match X.iM l0,r with
  |none,none=>True
  |some r0,some r'=>r'.g=r0.g/\r'.o=r0.o/\r'.cap=r0.cap/\ ∀j,j<n->j<r0.cap->w.cell? ⟨r0.g,r0.o+j,none⟩=X.w0.cell? ⟨r0.g,r0.o+j,none⟩
  |_,_=>False
def iP (r:Option Real) (e:Ty) (rows:List (List e.den)) (out:Option Nat) (kp:Option (Nat×Nat)):Prop:=
 aP w (Dk X.w0.heap.size X.Sc π false) r e rows out/\KeptAt X w r kp
def Gu (l:Nat):Prop:=
 match Ay H l with
 |none=>π l=none
 |some (.arr fr tr e tid xs)=>Km X w π (π l) fr tr e tid xs
 |some (.Hl e tid xs)=>On w (π l) e tid xs
 |some (.Ca e _ rows out kp)=>iP X w π (π l) e rows out kp
 |some (.var tid vs)=>Ahk X w π H (π l) tid vs
 |some (.Wl v m)=>ZH w (π l) v m
structure Nm:Prop where
 below:Lk X.w0.heap.size X.gv X.w0 w
 sc: ∀b,X.Sc b->b<X.w0.heap.size/\ ¬X.gv b
 sub: ∀l r b,π l=some r->r.Df b->r.cl b
 place: ∀l r b,π l=some r->r.cl b->(X.w0.heap.size<=b\/X.gv b)/\b<w.heap.size
 inj: ∀l l' r r' b,π l=some r->π l'=some r'->r.cl b->r'.cl b->l=l'
 iM: ∀l,Bv<=l->Ay H l≠none->bP (X.iM l) (π l)
 heap: ∀l,Gu X w π H l
structure sV (st:St) (a:Act):Prop where
 size:a.tmps.size=st.tmps.length
 defers:a.defers= []
 tmps: ∀t,Bx X w π st.heap (st.get t) (a.tmps.getD t undef)
end
def Bs (X:Ctx) (π:Pi) (st:St) (a:Act) (w:World):Prop:=Nm X w π st.heap/\sV X w π st a
def Rel (X:Ctx) (st:St) (a:Act) (w:World):Prop:= ∃π,Bs X π st a w
theorem Pl (f:AC->AC): ∀(H:List (Nat×OB)) (l:Nat),Ay (H.map λp=>(p.1,p.2.map f)) l=(Ay H l).map (OB.map f)
 | [],_=>rfl
 |(k,b)::r,l=>by
  simp only [Cb,Ay];split
  ·rfl
  ·exact Pl f r l
theorem Mz: ∀(H:List (Nat×OB)) (l:Nat),Ay (aT H l) l=none
 | [],_=>rfl
 |(k,b)::r,l=>by
  simp only [aT];split
  ·exact Mz r l
  ·rename_i h;simp only [Ay,Ai h];exact Mz r l
theorem Oi: ∀(H:List (Nat×OB)) (l m:Nat),m≠l->Ay (aT H l) m=Ay H m
 | [],_,_,_=>rfl
 |(k,b)::r,l,m,Ii=>by
  simp only [aT];split
  ·rename_i h;subst h;simp only [Ay,Ai (Ha Ii)];exact Oi r _ m Ii
  ·simp only [Ay];split
   ·rfl
   ·exact Oi r l m Ii
theorem Rb: ∀(H:List (Nat×OB)) (l:Nat) (b:OB),Ay H l=none->Ay (Pb H l b) l=some b
 | [],l,b,_=>by simp [Pb,Ay]
 |(k,c)::r,l,b,h=>by
  simp only [Ay] at h;split at h
  ·cases h
  ·rename_i hk;simp only [Pb];split
   ·simp [Ay]
   ·simp only [Ay,Ai hk];exact Rb r l b h
theorem Pv: ∀(H:List (Nat×OB)) (l m:Nat) (b:OB),m≠l->Ay (Pb H l b) m=Ay H m
 | [],l,m,b,Ii=>by simp [Pb,Ay,Ha Ii]
 |(k,c)::r,l,m,b,Ii=>by
  simp only [Pb];split
  ·simp only [Ay,Ai (Ha Ii)]
  ·simp only [Ay];split
   ·rfl
   ·exact Pv r l m b Ii
theorem Ff: ∀(H:List (Nat×OB)) (l:Nat) (b c:OB),Ay H l=some c->Ay (aN H l b) l=some b
 | [],_,_,_,h=>by cases h
 |(k,d)::r,l,b,c,h=>by
  simp only [Ay] at h;simp only [aN];split
  ·rename_i hk;subst hk;simp [Ay]
  ·rename_i hk;rw [Ai hk] at h;simp only [Ay,Ai hk];exact Ff r l b c h
theorem Ej: ∀(H:List (Nat×OB)) (l m:Nat) (b:OB),m≠l->Ay (aN H l b) m=Ay H m
 | [],_,_,_,_=>rfl
 |(k,d)::r,l,m,b,Ii=>by
  simp only [aN];split
  ·rename_i hk;subst hk;simp only [Ay,Ai (Ha Ii)]
  ·simp only [Ay];split
   ·rfl
   ·exact Ej r l m b Ii
theorem aB {α:Type} : ∀(l:List α) (i:Nat) (x:α),(Tm l i x).length=l.length
 | [],_,_=>rfl
 |_::_,0,_=>rfl
 |_::r,n+1,x=>by simp [Tm,aB r n x]
theorem Ri {α:Type} (d:α): ∀(l:List α) (i j:Nat) (x:α),(Tm l i x).getD j d=if i=j/\j<l.length then x else l.getD j d
 | [],i,j,x=>by simp [Tm]
 |_::_,0,0,x=>by simp [Tm]
 |_::_,0,j+1,x=>by simp [Tm]
 |_::_,n+1,0,x=>by simp [Tm]
 |_::r,n+1,j+1,x=>by
  have h:=Ri d r n j x;simp only [Tm,Nz,h,Aw,Nat.add_right_cancel_iff,Nat.add_lt_add_iff_right]
section
variable {X:Ctx} {w w':World} {π π':Pi} {H H':List (Nat×OB)}
structure Move (X:Ctx) (w w':World) (π π':Pi) (H H':List (Nat×OB)) (f:AC->AC):Prop where
 ac: ∀c v,Hw X w π H c v->Hw X w' π' H' (f c) v
 cells: ∀fr τ cs x,Cells w (Dk X.w0.heap.size X.Sc π fr) τ cs x->Cells w' (Dk X.w0.heap.size X.Sc π' fr) τ cs x
theorem Move.rep {f:AC->AC} (m:Move X w w' π π' H H' f) {fr:Bool} {τ:Ty} {v:Value} {x:τ.den} (h:Dd w (Dk X.w0.heap.size X.Sc π fr) τ v x):
  Dd w' (Dk X.w0.heap.size X.Sc π' fr) τ v x:=
 let ⟨cs,hc,hv⟩:=h
 ⟨cs,m.cells fr τ cs x hc,hv⟩
theorem Move.args {f:AC->AC} (m:Move X w w' π π' H H' f) {fr:Bool} : ∀(τ:Ty) (vs:List Value) (x:τ.den),De w (Dk X.w0.heap.size X.Sc π fr) τ vs x->
  De w' (Dk X.w0.heap.size X.Sc π' fr) τ vs x
 | .pair a r,[],x,h=>h
 | .pair a r,v::vs,x,h=>⟨m.rep h.1,m.args r vs x.2 h.2⟩
 | .unit,[],_,_=>trivial
 | .unit,_::_,_,h=>h
 | .int _,_,_,h=>by simp [De] at h
 | .bool,_,_,h=>by simp [De] at h
 | .str,_,_,h=>by simp [De] at h
 | .slice _,_,_,h=>by simp [De] at h
 | .ptr _,_,_,h=>by simp [De] at h
 | .oslice _,_,_,h=>by simp [De] at h
 | .optr _,_,_,h=>by simp [De] at h
 | .smap _,_,_,h=>by simp [De] at h
 | .clo _ _,_,_,h=>by simp [De] at h
theorem Move.acs {f:AC->AC} (m:Move X w w' π π' H H' f) {cs:List AC} {us:List Value} (h:Gq X w π H cs us):Gq X w' π' H' (cs.map f) us:=
 ⟨by rw [Ct];exact h.1,λi c hc=>by
  rw [Fa] at hc
  cases hi:cs[i]? with
  |none=>rw [hi] at hc;cases hc
  |some d=>
   rw [hi] at hc;simp only [An,Aa] at hc;subst hc;obtain ⟨u,hu,h1,h2⟩:=h.2 i d hi
   exact ⟨u,hu,h1,m.ac d u h2⟩⟩
theorem Move.part {f:AC->AC} (m:Move X w w' π π' H H' f) {p:Bool×List AC} {v:Value} (h:fE X w π H p v):fE X w' π' H' (p.1,p.2.map f) v:=by
 unfold fE at h⊢;dsimp only;split at h
 ·rename_i hp;rw [Ac hp];obtain ⟨us,hv,hr⟩:=h;exact ⟨us,hv,m.acs hr⟩
 ·rename_i hp;rw [Ai hp];intro a ha
  cases hq:p.2 with
  |nil=>rw [hq] at ha;cases ha
  |cons c r=>
   rw [hq] at ha;simp only [Cb,Hi,List.map_eq_nil_iff] at ha;obtain ⟨rfl,rfl⟩:=ha;exact m.ac c v (h c hq)
theorem Move.av {f:AC->AC} (m:Move X w w' π π' H H' f) {c:AV} {v:Value} (h:Bx X w π H c v):Bx X w' π' H' (c.map f) v:=by
 cases c with
 | «at»a=>exact m.ac a v h
 |agg cs=>obtain ⟨us,hv,hr⟩:=h;exact ⟨us,hv,m.acs hr⟩
 |bL fr τ x=>obtain ⟨vs,hv,hr⟩:=h;exact ⟨vs,hv,m.args τ vs x hr⟩
 |Nh l=>
  obtain ⟨vs,hv,hl,hr⟩:=h;refine ⟨vs,hv,by rw [Ct];exact hl,λi p u hp hu=>?_⟩;rw [Fa] at hp
  cases hi:l[i]? with
  |none=>rw [hi] at hp;cases hp
  |some q=>
   rw [hi] at hp;simp only [An,Aa] at hp;subst hp;exact m.part (hr i q u hi hu)
theorem Vx (f:AC->AC) (hu:f .undef= .undef) (l:List AV) (t:Nat):(l.map (·.map f)).getD t .undef=(l.getD t .undef).map f:=by
 simp only [Al,Fa]
 cases l[t]? with
 |none=>simp [AV.undef,AV.map,hu]
 |some v=>rfl
theorem Move.PD {f:AC->AC} (hu:f .undef= .undef) {st:St} {a:Act} {H':List (Nat×OB)} (m:Move X w w' π π' st.heap H' f) (h:sV X w π st a):
  sV X w' π' {tmps:=st.tmps.map (·.map f),heap:=H'} a:=
 ⟨by simpa using h.size,h.defers,λt=>by
  have:=m.av (h.tmps t);unfold St.get;rw [Vx f hu]
  exact this⟩
theorem AC.map_id (c:AV):c.map (λc=>c)=c:=by
 cases c<;>simp [AV.map]
theorem db {w:World} {a:Addr} {v:Value} (h:w.cell? a=some v):a.block<w.heap.size:=by
 unfold World.cell? at h
 cases hb:w.heap[a.block]? with
 |none=>rw [hb] at h;cases h
 |some o=>exact (Nu.1 hb).1
theorem Move.quiet (hw: ∀k,k<w.heap.size->w'.heap[k]?=w.heap[k]?) (hs:w.heap.size<=w'.heap.size):Move X w w' π π H H (λc=>c):=by
 have hc: ∀fr τ cs x,Cells w (Dk X.w0.heap.size X.Sc π fr) τ cs x->Cells w' (Dk X.w0.heap.size X.Sc π fr) τ cs x:=
  fun fr τ cs x h=>Cells.Gd hs (λk hk _=>hw k hk) (λ_ _ h=>h) τ cs x h
 refine ⟨λc v h=>?_,hc⟩
 cases c with
 |data fr τ x=>obtain ⟨cs,h1,h2⟩:=h;exact ⟨cs,hc _ _ _ _ h1,h2⟩
 |sub l i c=>
  obtain ⟨r,e,tid,xs,h1,h2,h3,h4,h5,h6⟩:=h;exact ⟨r,e,tid,xs,h1,h2,h3,h4,h5,by rw [World.cell?_of_block (hw _ (db h6))];exact h6⟩
 |Kl l i j=>
  obtain ⟨r,b,n,sz,g,o,len,cap,h1,h2,h3,h4,h5,h6,h7⟩:=h;exact ⟨r,b,n,sz,g,o,len,cap,h1,h2,h3,h4,h5,by rw [World.cell?_of_block (hw _ (db h6))];exact h6,h7⟩
 |_=>exact h
theorem Gv {w:World} {g:Nat} {o:Obj} (h:w.heap[g]?=some o):g<w.heap.size:=(Nu.1 h).1
theorem Nm.own (h:Nm X w π H) {b:Nat} (hb:Wn π b):b<w.heap.size/\(X.w0.heap.size<=b\/X.gv b):=by
 obtain ⟨l,r,hr,hf⟩:=hb;have:=h.place l r b hr (h.sub l r b hr hf);exact ⟨this.2,this.1⟩
theorem Nm.Df (h:Nm X w π H) {l:Nat} {r:Real} (hr:π l=some r):r.Df r.g:=by
 have hl:=h.heap l;unfold Gu at hl;split at hl
 ·rw [hl] at hr;cases hr
 ·rw [hr] at hl;exact hl.1.1
 ·rw [hr] at hl;exact hl.1
 ·rw [hr] at hl;exact hl.1.1
 ·obtain ⟨r',h0,h1,_⟩:=hl;rw [hr] at h0;cases h0;exact h1
 ·obtain ⟨r',h0,h1,_⟩:=hl;rw [hr] at h0;cases h0;exact h1
theorem Nm.lt (h:Nm X w π H) {l:Nat} {r:Real} (hr:π l=some r):r.g<w.heap.size/\(X.w0.heap.size<=r.g\/X.gv r.g):=
 h.own ⟨l,r,hr,h.Df hr⟩
theorem Nm.apart (h:Nm X w π H) {l l':Nat} {r r':Real} {b:Nat} (hr:π l=some r) (lb:π l'=some r') (hb:r.Df b) (sD:r'.Df b):l=l':=
 h.inj l l' r r' b hr lb (h.sub l r b hr hb) (h.sub l' r' b lb sD)
theorem Dn.lt {w:World} : ∀(F:List Nat) (τ:Ty) (cs:List Value) (x:τ.den),Dn w F τ cs x-> ∀b∈F,b<w.heap.size:=by
 intro F τ
 induction τ generalizing F with
 |slice e ih=>
  intro cs xs h b hb;simp only [Dn] at h;obtain ⟨a,len,cap,_,_,_,h⟩:=h;rcases h with ⟨_,rfl,_⟩|⟨ad,g,o,Fs,_,_,hg,rfl,hl,Ma⟩
  ·cases hb
  ·rcases Bd.1 hb with rfl|hb
   ·exact hg.lt
   ·obtain ⟨Fi,hFi,hbi⟩:=Hv.1 hb;obtain ⟨i,hi,rfl⟩:=Sa hFi;obtain ⟨es,_,_,hr⟩:=Ma i (xs[i]'(by omega)) _ (Ad _) (Ad hi);exact ih _ es _ hr b hbi
 |pair a r iL iH=>
  intro cs x h b hb;simp only [Dn] at h;obtain ⟨c1,c2,F1,F2,_,rfl,h1,h2⟩:=h;rcases Be.1 hb with hb|hb
  ·exact iL _ c1 _ h1 b hb
  ·exact iH _ c2 _ h2 b hb
 |int k=>intro cs x h b hb;simp only [Dn] at h;rw [h.1] at hb;cases hb
 |bool=>intro cs x h b hb;simp only [Dn] at h;rw [h.1] at hb;cases hb
 |str=>intro cs x h b hb;simp only [Dn] at h;rw [h.1] at hb;cases hb
 |unit=>intro cs x h b hb;simp only [Dn] at h;rw [h.1] at hb;cases hb
 |_=>intro cs x h;simp only [Dn] at h
theorem Dn.Gd {w w':World} : ∀(F:List Nat) (τ:Ty) (cs:List Value) (x:τ.den),Dn w F τ cs x->w.heap.size<=w'.heap.size->(∀b∈F,w'.heap[b]?=w.heap[b]?)->Dn w' F τ cs x:=by
 intro F τ
 induction τ generalizing F with
 |slice e ih=>
  intro cs xs h hs hk;simp only [Dn] at h⊢;obtain ⟨a,len,cap,h1,h2,h3,h⟩:=h;refine ⟨a,len,cap,h1,h2,h3,?_⟩;rcases h with h|⟨ad,g,o,Fs,h4,h0,hg,rfl,hl,Ma⟩
  ·exact .inl h
  ·refine .inr ⟨ad,g,o,Fs,h4,h0,hg.Gd (hk g (by simp)),rfl,hl,λi x Fi hx hF=>?_⟩;obtain ⟨es,h5,h6,h7⟩:=Ma i x Fi hx hF
   exact ⟨es,h5,λj u hu=>by rw [World.cell?_of_block (hk g (by simp))];exact h6 j u hu,
    ih Fi es x h7 hs λb hb=>hk b (At _ (Hv.2 ⟨Fi,Cs hF,hb⟩))⟩
 |pair a r iL iH=>
  intro cs x h hs hk;simp only [Dn] at h⊢;obtain ⟨c1,c2,F1,F2,h1,rfl,h2,h3⟩:=h;exact ⟨c1,c2,F1,F2,h1,rfl,iL F1 c1 _ h2 hs (λb hb=>hk b (Bo _ hb)),iH F2 c2 _ h3 hs (λb hb=>hk b (Cm _ hb))⟩
 |int k=>intro cs x h _ _;exact h
 |bool=>intro cs x h _ _;exact h
 |str=>intro cs x h _ _;exact h
 |unit=>intro cs x h _ _;exact h
 |_=>intro cs x h;simp only [Dn] at h
theorem Dn.cells {w:World} {S:Nat->Prop} : ∀(F:List Nat) (τ:Ty) (cs:List Value) (x:τ.den),Dn w F τ cs x->(∀b∈F,¬S b)->Cells w S τ cs x:=by
 intro F τ
 induction τ generalizing F with
 |slice e ih=>
  intro cs xs h hk;simp only [Dn] at h;simp only [Cells];obtain ⟨a,len,cap,h1,h2,h3,h⟩:=h;refine ⟨a,len,cap,h1,h2,h3,?_⟩;rcases h with h|⟨ad,g,o,Fs,h4,h0,hg,rfl,hl,Ma⟩
  ·exact .inl h.1
  by_cases hx0:xs= []
  ·exact .inl hx0
  ·have mF:0<cap:=by
    rcases Uh cap with e0|e0
    ·exact absurd (Cr (by omega)) hx0
    ·exact e0
   refine .inr ⟨g,o,by rw [h4,h0 mF],hg.lt,hk g (by simp),λi x hx=>?_⟩
   have hi:i<Fs.length:=by have:=(Ao.1 hx).1;omega
   obtain ⟨es,h5,h6,h7⟩:=Ma i x _ hx (Ad hi);exact ⟨es,h5,h6,ih _ es x h7 λb hb=>hk b (At _ (Hv.2 ⟨_,Ah hi,hb⟩))⟩
 |pair a r iL iH=>
  intro cs x h hk;simp only [Dn] at h;simp only [Cells];obtain ⟨c1,c2,F1,F2,h1,rfl,h2,h3⟩:=h;exact ⟨c1,c2,h1,iL F1 c1 _ h2 (λb hb=>hk b (Bo _ hb)),iH F2 c2 _ h3 (λb hb=>hk b (Cm _ hb))⟩
 |int k=>intro cs x h _;simp only [Dn] at h;exact h.2
 |bool=>intro cs x h _;simp only [Dn] at h;exact h.2
 |str=>intro cs x h _;simp only [Dn] at h;exact h.2
 |unit=>intro cs x h _;simp only [Dn] at h;exact h.2
 |_=>intro cs x h;simp only [Dn] at h
theorem Yh.Gd {w w':World} {P P':Nat->Prop} {g o:Nat} {cur:Array Value} {e:Ty} {xs:List e.den} (h:Yh w P g o cur e xs) (hs:w.heap.size<=w'.heap.size)
  (hk: ∀b,b≠g->b<w.heap.size->P b->w'.heap[b]?=w.heap[b]?) (hP: ∀b,P b->P' b):Yh w' P' g o cur e xs:=by
 obtain ⟨Fs,h1,h2,h3,h4⟩:=h;refine ⟨Fs,h1,h2,λb hb=>hP b (h3 b hb),λi x F hx hF=>?_⟩;obtain ⟨es,h5,h6,h7⟩:=h4 i x F hx hF;refine ⟨es,h5,h6,h7.Gd _ _ _ _ hs λb hb=>?_⟩;have hbf:b∈List.flatten Fs:=Hv.2 ⟨F,Cs hF,hb⟩;exact hk b (λe=>by subst e;exact (Cn.1 h2).1 hbf) (h7.lt _ _ _ _ b hb) (h3 b hbf)
theorem Tr.to {w w':World} {D D':Nat->Prop} {r:Option Real} {e:Ty} {xs:List e.den} (h:Tr w D r e xs) (hk: ∀q,r=some q->w'.heap[q.g]?=w.heap[q.g]?) (hc: ∀es x,Cells w D e es x->Cells w' D' e es x):Tr w' D' r e xs:=by
 cases r with
 |none=>exact h
 |some q=>
  obtain ⟨h1,cur,ti,h2,h3,h4,h5,h6⟩:=h;refine ⟨h1,cur,ti,(hk q rfl).trans h2,h3,h4,h5,λi x hx=>?_⟩;obtain ⟨es,g1,g2,g3⟩:=h6 i x hx;exact ⟨es,g1,g2,hc es x g3⟩
theorem aP.Gd {w w':World} {D D':Nat->Prop} {r:Option Real} {e:Ty} {rows:List (List e.den)} {out:Option Nat} (h:aP w D r e rows out)
  (hk: ∀q b,r=some q->q.Df b->b<w.heap.size->w'.heap[b]?=w.heap[b]?) (hc: ∀es x,Cells w D e es x->Cells w' D' e es x):aP w' D' r e rows out:=by
 cases r with
 |none=>have h:rows= []:=h;exact (h:rows= [])
 |some r=>
  obtain ⟨h1,cur,ti,h2,h3,h4,h5,Rs,h6,h7,h8,h9⟩:=h;refine ⟨h1,cur,ti,(hk r _ rfl h1 (Gv h2)).trans h2,h3,h4,h5,Rs,h6,h7,h8,λi x hx ho=>?_⟩;obtain ⟨u,R,k1,k2,k3,k4⟩:=h9 i x hx ho;refine ⟨u,R,k1,k2,k3,k4.to (λq hq=>?_) hc⟩;subst hq;obtain ⟨_,cu,ti',k5,_⟩:=k4;exact hk r _ rfl (h7 i q k2).1 (Gv k5)
theorem KeptAt.Gd {w w':World} {r:Option Real} {kp:Option (Nat×Nat)} (h:KeptAt X w r kp) (hk: ∀q,r=some q->w'.heap[q.g]?=w.heap[q.g]?):KeptAt X w' r kp:=by
 cases kp with
 |none=>trivial
 |some p=>
  obtain ⟨l0,n⟩:=p;simp only [KeptAt] at h⊢
  cases hp:X.iM l0 with
  |none=>cases r with
   |none=>trivial
   |some r'=>rw [hp] at h;exact h.elim
  |some r0=>cases r with
   |none=>rw [hp] at h;exact h.elim
   |some r'=>
    rw [hp] at h;obtain ⟨h1,h2,h3,h4⟩:=h;refine ⟨h1,h2,h3,λj hj hc=>?_⟩;rw [World.cell?_of_block (show w'.heap[(Addr.mk r0.g (r0.o+j) none).block]?=w.heap[(Addr.mk r0.g (r0.o+j) none).block]? from h1▸hk r' rfl)];exact h4 j hj hc
theorem iP.Gd {w w':World} {π π':Pi} {r:Option Real} {e:Ty} {rows:List (List e.den)} {out:Option Nat} {kp:Option (Nat×Nat)} (h:iP X w π r e rows out kp)
  (hk: ∀q b,r=some q->q.Df b->b<w.heap.size->w'.heap[b]?=w.heap[b]?) (hc: ∀es x,Cells w (Dk X.w0.heap.size X.Sc π false) e es x->Cells w' (Dk X.w0.heap.size X.Sc π' false) e es x):iP X w' π' r e rows out kp:=by
 refine ⟨h.1.Gd hk hc,h.2.Gd λq hq=>?_⟩;subst hq;obtain ⟨h1,cur,ti,h2,_⟩:=h.1;exact hk q _ rfl h1 (Gv h2)
theorem Nm.quiet (h:Nm X w π H) (hb:Below w.heap.size w w'):Nm X w' π H:=by
 have m:Move X w w' π π H H (λc=>c):=Move.quiet (λk hk=>hb.block k hk) hb.size;refine ⟨h.below.trans (.of (hb.mono h.below.size)),h.sc,h.sub,λl r b h1 h2=>⟨(h.place l r b h1 h2).1,Ep (h.place l r b h1 h2).2 hb.size⟩,h.inj,h.iM,λl=>?_⟩;have hl:=h.heap l;unfold Gu at hl⊢
 cases hg:Ay H l with
 |none=>rw [hg] at hl;exact hl
 |some b=>
  rw [hg] at hl
  cases b with
  |arr fr tr e tid xs=>
   simp only [Km] at hl⊢
   cases hp:π l with
   |none=>rw [hp] at hl;exact hl
   |some r=>
    rw [hp] at hl;obtain ⟨h1,cur,ti,h2,h3,h4,h5,h6,h7⟩:=hl;refine ⟨h1,cur,ti,(hb.block _ (Gv h2)).trans h2,h3,h4,h5,λi x hx=>?_,λht=>(h7 ht).Gd hb.size (λb _ Kr _=>hb.block b Kr) λ_ hb=>hb⟩;obtain ⟨es,he,hj,hc⟩:=h6 i x hx;exact ⟨es,he,hj,m.cells _ _ _ _ hc⟩
  |Hl e tid xs=>
   simp only [On] at hl⊢
   cases hp:π l with
   |none=>rw [hp] at hl;exact hl
   |some r=>
    rw [hp] at hl;obtain ⟨h1,cur,ti,h2,h3,h4,h5,h7⟩:=hl;exact ⟨h1,cur,ti,(hb.block _ (Gv h2)).trans h2,h3,h4,h5,h7.Gd hb.size (λb _ Kr _=>hb.block b Kr) λ_ hb=>hb⟩
  |var tid vs=>
   obtain ⟨r,h0,h1,cur,h2,h3⟩:=hl;refine ⟨r,h0,h1,cur,(hb.block _ (Gv h2)).trans h2,?_⟩;have:=m.acs h3;simpa using this
  |Ca e te rows out kp=>exact iP.Gd hl (λq b _ _ Kr=>hb.block b Kr) (λes x=>m.cells false e es x)
  |Wl v f=>
   obtain ⟨r,h0,h1,h2,h3⟩:=hl;exact ⟨r,h0,h1,h2,Cells.Gd hb.size (λk hk _=>hb.block k hk) (λ_ _ h=>h) _ _ _ h3⟩
theorem Bs.quiet {st:St} {a:Act} (h:Bs X π st a w) (hb:Below w.heap.size w w'):Bs X π st a w':=by
 refine ⟨h.1.quiet hb,?_⟩;have m:Move X w w' π π st.heap st.heap (λc=>c):=Move.quiet (λk hk=>hb.block k hk) hb.size;exact ⟨h.2.size,h.2.defers,λt=>by have:=m.av (h.2.tmps t);rwa [AC.map_id] at this⟩
theorem Bs.put {st:St} {a:Act} (h:Bs X π st a w) (dst:Option Tmp) {c:AV} {v:Value} (hv:Bx X w π st.heap c v):Bs X π (st.put dst c) (a.put dst v) w:=by
 cases dst with
 |none=>exact h
 |some d=>
  refine ⟨h.1,⟨by simp [St.put,Act.put,aB,h.2.size],h.2.defers,λt=>?_⟩⟩;show Bx X w π st.heap ((Tm st.tmps d c).getD t .undef) ((a.tmps.setIfInBounds d v).getD t undef);rw [Ri];have Uj:=h.2.size
  by_cases hdt:d=t/\t<st.tmps.length
  ·rw [Ac hdt];obtain ⟨rfl,Kr⟩:=hdt
   have:(a.tmps.setIfInBounds d v).getD d undef=v:=by simp [Uj,Kr]
   rw [this];exact hv
  ·rw [Ai hdt]
   have:(a.tmps.setIfInBounds d v).getD t undef=a.tmps.getD t undef:=by
    by_cases hd:d=t
    ·subst hd;have wG: ¬d<a.tmps.size:= λhh=>hdt ⟨rfl,Uj▸hh⟩;simp [Array.setIfInBounds,wG]
    ·simp [Array.getElem?_setIfInBounds_ne hd]
   rw [this];exact h.2.tmps t
end
end Go.Proofs.Ytfgfigkbgecfnaa
