/-
  Part 4 of the proof that the statement FnMethods holds.
-/
import Derived.Test.YtkkdpknjohcekaaGreatCFMethods02
namespace Go.Proofs.YtkkdpknjohcekaaGreat
open Go.RowKit
structure Real where
 g:Nat
 o:Nat
 cap:Nat
 Cw:Nat->Prop
 cl:Nat->Prop
abbrev Pi:=Nat->Option Real
def Vd (π:Pi) (b:Nat):Prop:= ∃l r,π l=some r/\r.Cw b
def Dc (B:Nat) (Sc:Nat->Prop) (π:Pi) (fr:Bool) (b:Nat):Prop:=Vd π b\/Sc b\/(fr=true/\b<B)
def Shape (w:World) (g o s cap:Nat):Prop:= ∃(cur:Array Value) (ti:TypeId) (o':Nat),w.heap[g]?=some (.cells cur ti (0,0))/\o=o'*s/\cur.size=(o'+cap)*s/\cap<=maxLen
theorem Shape.lt {w:World} {g o s cap:Nat} (h:Shape w g o s cap):g<w.heap.size:=let ⟨_,_,_,h,_⟩:=h;(Oa.1 h).1
theorem Shape.Gj {w w':World} {g o s cap:Nat} (h:Shape w g o s cap) (hk:w'.heap[g]?=w.heap[g]?):Shape w' g o s cap:=let ⟨c,t,o',h1,h2⟩:=h;⟨c,t,o',hk.trans h1,h2⟩
def Di (w:World):(F:List Nat)->(τ:Ty)->List Value->τ.den->Prop
 |F, .int k,cs,n=>F= []/\cs= [.int k n]
 |F, .bool,cs,b=>F= []/\cs= [.bool b]
 |F, .str,cs,s=>F= []/\cs= [.string s]
 |F, .slice e,cs,xs=> ∃a len cap,cs= [.slice a len cap]/\len=xs.length/\len<=cap/\((xs= []/\F= []/\a=none/\cap=0)\/ ∃ad g o Fs,a=some ad/\(0<cap->ad=⟨g,o,none⟩)/\Shape w g o e.size cap/\F=g::List.flatten Fs/\Fs.length=xs.length/\
   ∀(i:Nat) (x:e.den) (Fi:List Nat),xs[i]?=some x->Fs[i]?=some Fi-> ∃es:List Value,es.length=e.size/\(∀j u,es[j]?=some u->w.cell? ⟨g,o+i*e.size+j,none⟩=some u)/\Di w Fi e es x)
 |F, .unit,cs,_=>F= []/\cs= []
 |F, .pair a r,cs,x=> ∃c1 c2 F1 F2,cs=c1++c2/\F=F1++F2/\Di w F1 a c1 x.1/\Di w F2 r c2 x.2
 |_,_,_,_=>False
def Ye (w:World) (P:Nat->Prop) (g o:Nat) (cur:Array Value) (e:Ty) (xs:List e.den):Prop:=
 ∃Fs:List (List Nat),Fs.length=xs.length/\(g::List.flatten Fs).Nodup/\(∀b∈List.flatten Fs,P b)/\
  ∀(i:Nat) (x:e.den) (F:List Nat),xs[i]?=some x->Fs[i]?=some F-> ∃es:List Value,es.length=e.size/\(∀j u,es[j]?=some u->cur[(o+i)*e.size+j]?=some u)/\Di w F e es x
def Ib (r:Option Real) (size off len:Nat) (v:Value):Prop:=
 match r with
 |none=>v= .slice none 0 0/\off=0/\len=0
 |some r=> ∃ad:Addr,v= .slice (some ad) len (r.cap-off)/\off+len<=r.cap/\(off<r.cap->ad=⟨r.g,(r.o+off)*size,none⟩)
def Sk (w:World) (D:Nat->Prop) (r:Option Real) (e:Ty) (xs:List e.den):Prop:=
 match r with
 |none=>xs= []
 |some r=>(r.Cw r.g/\(∀b,r.Cw b->b=r.g))/\ ∃(cur:Array Value) (ti:TypeId),w.heap[r.g]?=some (.cells cur ti (0,0))/\cur.size=(r.o+r.cap)*e.size/\r.cap<=maxLen/\xs.length<=r.cap/\
   (∀(i:Nat) (x:e.den),xs[i]?=some x-> ∃es:List Value,es.length=e.size/\(∀j u,es[j]?=some u->cur[(r.o+i)*e.size+j]?=some u)/\Cells w D e es x)
def aK (w:World) (D:Nat->Prop) (r:Option Real) (e:Ty) (rows:List (List e.den)) (out:Option Nat):Prop:=
 match r with
 |none=>rows= []
 |some r=>r.Cw r.g/\ ∃(cur:Array Value) (ti:TypeId),w.heap[r.g]?=some (.cells cur ti (0,0))/\cur.size=r.o+r.cap/\r.cap<=maxLen/\rows.length<=r.cap/\
   ∃Rs:List (Option Real),Rs.length=rows.length/\(∀(i:Nat) (q:Real),Rs[i]?=some (some q)->r.Cw q.g/\q.g≠r.g)/\(∀(i j:Nat) (q q':Real),Rs[i]?=some (some q)->Rs[j]?=some (some q')->q.g=q'.g->i=j)/\
    ∀(i:Nat) (x:List e.den),rows[i]?=some x->out≠some i-> ∃u R,cur[r.o+i]?=some u/\Rs[i]?=some R/\Ib R e.size 0 x.length u/\Sk w D R e x
structure Ctx where
 w0:World
 Sc:Nat->Prop
 gv:Nat->Prop
 iD:Pi
structure Jz (B:Nat) (gv:Nat->Prop) (w w':World):Prop where
 os:w'.os=w.os
 tape:w'.tape=w.tape
 output:w'.output=w.output
 size:w.heap.size<=w'.heap.size
 block: ∀k,k<B-> ¬gv k->w'.heap[k]?=w.heap[k]?
theorem Jz.refl (B:Nat) (gv:Nat->Prop) (w:World):Jz B gv w w:=⟨rfl,rfl,rfl,Aq _,λ_ _ _=>rfl⟩
theorem Jz.trans {B:Nat} {gv:Nat->Prop} {a b c:World} (h:Jz B gv a b) (k:Jz B gv b c):Jz B gv a c:=
 ⟨k.os.trans h.os,k.tape.trans h.tape,k.output.trans h.output,Je h.size k.size,λi hi hg=>(k.block i hi hg).trans (h.block i hi hg)⟩
theorem Jz.plain {B:Nat} {w w':World} (h:Jz B (λ_=>False) w w'):Below B w w':=⟨h.os,h.tape,h.output,h.size,λk hk=>h.block k hk (λh=>h)⟩
theorem Jz.of {B:Nat} {gv:Nat->Prop} {w w':World} (h:Below B w w'):Jz B gv w w':=⟨h.os,h.tape,h.output,h.size,λk hk _=>h.block k hk⟩
theorem Jz.grown {B:Nat} {gv:Nat->Prop} {a w w':World} {row:Option Nat} (h:Jz B gv a w) (hg:w.grownBy w' row) (hB:B<=w.heap.size) (hr: ∀k,row=some k->B<=k\/gv k):Jz B gv a w':=
 h.trans ⟨hg.os,hg.tape,hg.output,hg.size,λk hk hn=>hg.block k (by omega) (λe=>by rcases hr k e.symm with h|h;omega;exact hn h)⟩
def OB.row:OB->Option (Nat×Nat)
 | .arr _ _ e _ xs=>some (e.size,xs.length)
 | .Hs e _ xs=>some (e.size,xs.length)
 | .Bu _ _ rows _ _=>some (1,rows.length)
 |_=>none
def OB.gQ:OB->Option (Nat×Nat)
 | .Hs e _ xs=>some (e.size,xs.length)
 | .Bu _ _ rows _ _=>some (1,rows.length)
 |_=>none
def OB.w9:OB->Option (Nat×Nat)
 | .Bu e _ rows _ _=>some (rows.length,e.size)
 |_=>none
def bM:Option Real->Option Real->Prop
 |none,none=>True
 |some r,some r'=>r.g=r'.g/\r.o=r'.o/\r.cap=r'.cap/\ ∀b,r.Cw b↔r'.Cw b
 |_,_=>False
theorem bM.rfl' (r:Option Real):bM r r:=by cases r<;>simp [bM]
section
variable (X:Ctx) (w:World) (π:Pi) (H:List (Nat×OB))
def Iq:AC->Value->Prop
 | .undef,_=>True
 | .skip,v=>v=Go.undef
 | .Mx,v=>v= .slice none 0 0
 | .Wh,v=>v= .pointer none
 | .data fr τ x,v=>Dg w (Dc X.w0.heap.size X.Sc π fr) τ v x
 | .own l off len,v=> ∃b sz n,Av H l=some b/\b.row=some (sz,n)/\off+len<=n/\Ib (π l) sz off len v
 | .Ii l i,v=> ∃r tid vs,Av H l=some (.var tid vs)/\π l=some r/\v= .pointer (some ⟨r.g,i,none⟩)
 | .Ld l i,v=> ∃r b sz n,Av H l=some b/\b.row=some (sz,n)/\i<n/\π l=some r/\v= .pointer (some ⟨r.g,(r.o+i)*sz,none⟩)
 | .sub l i c,v=> ∃r b sz n,Av H l=some b/\b.gQ=some (sz,n)/\π l=some r/\i<n/\(c<sz/\ ∃a n m,v= .slice a n m)/\w.cell? ⟨r.g,(r.o+i)*sz+c,none⟩=some v
 | .Ky l i j,v=> ∃r b n sz g o len cap,Av H l=some b/\b.w9=some (n,sz)/\π l=some r/\i<n/\j<len/\w.cell? ⟨r.g,r.o+i,none⟩=some (.slice (some ⟨g,o,none⟩) len cap)/\v= .pointer (some ⟨g,o+j*sz,none⟩)
 | .clo f Ev,v=> ∃us:List Value,v= .func (.func f) #[] us.toArray/\us.length=Ev.length/\
   ∀(j:Nat) p,Ev[j]?=some p-> ∃r tid vs,Av H p.1=some (.var tid vs)/\π p.1=some r/\us[j]?=some (.pointer (some ⟨r.g,p.2,none⟩))
 | .Lk l,v=> ∃r vt m,Av H l=some (.Wi vt m)/\π l=some r/\v= .map (some r.g)
def Gv (cs:List AC) (us:List Value):Prop:=us.length=cs.length/\ ∀(i:Nat) c,cs[i]?=some c-> ∃u,us[i]?=some u/\u.oneCell'=true/\Iq X w π H c u
def ff (p:Bool×List AC) (v:Value):Prop:=if p.1 then ∃us:List Value,v= .agg us.toArray/\Gv X w π H p.2 us else ∀a,p.2= [a]->Iq X w π H a v
def Bs:AV->Value->Prop
 | .at a,v=>Iq X w π H a v
 | .agg cs,v=> ∃us:List Value,v= .agg us.toArray/\Gv X w π H cs us
 | .bH fr τ x,v=> ∃vs:List Value,v= .tuple vs.toArray/\Cy w (Dc X.w0.heap.size X.Sc π fr) τ vs x
 | .Nr l,v=> ∃vs:List Value,v= .tuple vs.toArray/\vs.length=l.length/\ ∀(i:Nat) p u,l[i]?=some p->vs[i]?=some u->ff X w π H p u
def Kz (r:Option Real) (fr tr:Bool) (e:Ty) (_:TypeId) (xs:List e.den):Prop:=
 match r with
 |none=>xs= []
 |some r=>(r.Cw r.g/\(∀b,r.Cw b->b=r.g)/\(fr=true->X.w0.heap.size<=r.g))/\ ∃(cur:Array Value) (ti:TypeId),w.heap[r.g]?=some (.cells cur ti (0,0))/\cur.size=(r.o+r.cap)*e.size/\r.cap<=maxLen/\xs.length<=r.cap/\
   (∀(i:Nat) (x:e.den),xs[i]?=some x-> ∃es:List Value,es.length=e.size/\(∀j u,es[j]?=some u->cur[(r.o+i)*e.size+j]?=some u)/\Cells w (Dc X.w0.heap.size X.Sc π fr) e es x)/\
   (tr=true->Ye w r.cl r.g r.o cur e xs)
def Pb (r:Option Real) (e:Ty) (_:TypeId) (xs:List e.den):Prop:=
 match r with
 |none=>xs= []
 |some r=>r.Cw r.g/\ ∃(cur:Array Value) (ti:TypeId),w.heap[r.g]?=some (.cells cur ti (0,0))/\cur.size=(r.o+r.cap)*e.size/\r.cap<=maxLen/\xs.length<=r.cap/\Ye w r.Cw r.g r.o cur e xs
def Ah5 (r:Option Real) (tid:TypeId) (vs:List AC):Prop:=
 ∃r',r=some r'/\r'.Cw r'.g/\ ∃cur:Array Value,w.heap[r'.g]?=some (.cells cur tid (0,0))/\Gv X w π H vs cur.toList
def YY (r:Option Real) (v:Ty) (m:ByteArray->Option v.den):Prop:=
 ∃r',r=some r'/\r'.Cw r'.g/\(v.flat=true/\v.Ar=false)/\Cells w (λ_=>False) (.smap v) [.map (some r'.g)] m
def KeptAt (r:Option Real):Option (Nat×Nat)->Prop
 |none=>True
 |some (l0,n)=>match X.iD l0,r with
  |none,none=>True
  |some r0,some r'=>r'.g=r0.g/\r'.o=r0.o/\r'.cap=r0.cap/\ ∀j,j<n->j<r0.cap->w.cell? ⟨r0.g,r0.o+j,none⟩=X.w0.cell? ⟨r0.g,r0.o+j,none⟩
  |_,_=>False
def iG (r:Option Real) (e:Ty) (rows:List (List e.den)) (out:Option Nat) (kp:Option (Nat×Nat)):Prop:=
 aK w (Dc X.w0.heap.size X.Sc π false) r e rows out/\KeptAt X w r kp
def Hc (l:Nat):Prop:=
 match Av H l with
 |none=>π l=none
 |some (.arr fr tr e tid xs)=>Kz X w π (π l) fr tr e tid xs
 |some (.Hs e tid xs)=>Pb w (π l) e tid xs
 |some (.Bu e _ rows out kp)=>iG X w π (π l) e rows out kp
 |some (.var tid vs)=>Ah5 X w π H (π l) tid vs
 |some (.Wi v m)=>YY w (π l) v m
structure Nw:Prop where
 below:Jz X.w0.heap.size X.gv X.w0 w
 sc: ∀b,X.Sc b->b<X.w0.heap.size/\ ¬X.gv b
 sub: ∀l r b,π l=some r->r.Cw b->r.cl b
 place: ∀l r b,π l=some r->r.cl b->(X.w0.heap.size<=b\/X.gv b)/\b<w.heap.size
 inj: ∀l l' r r' b,π l=some r->π l'=some r'->r.cl b->r'.cl b->l=l'
 iD: ∀l,Bk<=l->Av H l≠none->bM (X.iD l) (π l)
 heap: ∀l,Hc X w π H l
structure sH (st:St) (a:Act):Prop where
 size:a.tmps.size=st.tmps.length
 defers:a.defers= []
 tmps: ∀t,Bs X w π st.heap (st.get t) (a.tmps.getD t undef)
end
def Bh (X:Ctx) (π:Pi) (st:St) (a:Act) (w:World):Prop:=Nw X w π st.heap/\sH X w π st a
def Rel (X:Ctx) (st:St) (a:Act) (w:World):Prop:= ∃π,Bh X π st a w
theorem Pv (f:AC->AC): ∀(H:List (Nat×OB)) (l:Nat),Av (H.map λp=>(p.1,p.2.map f)) l=(Av H l).map (OB.map f)
 | [],_=>rfl
 |(k,b)::r,l=>by
  simp only [Bz,Av]
  split
  ·rfl
  ·exact Pv f r l
theorem Nl: ∀(H:List (Nat×OB)) (l:Nat),Av (aM H l) l=none
 | [],_=>rfl
 |(k,b)::r,l=>by
  simp only [aM]
  split
  ·exact Nl r l
  ·rename_i h;simp only [Av,Ai h];exact Nl r l
theorem Ot: ∀(H:List (Nat×OB)) (l m:Nat),m≠l->Av (aM H l) m=Av H m
 | [],_,_,_=>rfl
 |(k,b)::r,l,m,Jd=>by
  simp only [aM]
  split
  ·rename_i h;subst h;simp only [Av,Ai (Hv Jd)];exact Ot r _ m Jd
  ·simp only [Av];split
   ·rfl
   ·exact Ot r l m Jd
theorem Rh: ∀(H:List (Nat×OB)) (l:Nat) (b:OB),Av H l=none->Av (Pn H l b) l=some b
 | [],l,b,_=>by simp [Pn,Av]
 |(k,c)::r,l,b,h=>by
  simp only [Av] at h
  split at h
  ·cases h
  ·rename_i hk
   simp only [Pn]
   split
   ·simp [Av]
   ·simp only [Av,Ai hk];exact Rh r l b h
theorem Qd: ∀(H:List (Nat×OB)) (l m:Nat) (b:OB),m≠l->Av (Pn H l b) m=Av H m
 | [],l,m,b,Jd=>by simp [Pn,Av,Hv Jd]
 |(k,c)::r,l,m,b,Jd=>by
  simp only [Pn]
  split
  ·simp only [Av,Ai (Hv Jd)]
  ·simp only [Av];split
   ·rfl
   ·exact Qd r l m b Jd
theorem Fu: ∀(H:List (Nat×OB)) (l:Nat) (b c:OB),Av H l=some c->Av (aF H l b) l=some b
 | [],_,_,_,h=>by cases h
 |(k,d)::r,l,b,c,h=>by
  simp only [Av] at h
  simp only [aF]
  split
  ·rename_i hk;subst hk;simp [Av]
  ·rename_i hk;rw [Ai hk] at h;simp only [Av,Ai hk];exact Fu r l b c h
theorem El: ∀(H:List (Nat×OB)) (l m:Nat) (b:OB),m≠l->Av (aF H l b) m=Av H m
 | [],_,_,_,_=>rfl
 |(k,d)::r,l,m,b,Jd=>by
  simp only [aF]
  split
  ·rename_i hk;subst hk;simp only [Av,Ai (Hv Jd)]
  ·simp only [Av];split
   ·rfl
   ·exact El r l m b Jd
theorem ar {α:Type} : ∀(l:List α) (i:Nat) (x:α),(Tk l i x).length=l.length
 | [],_,_=>rfl
 |_::_,0,_=>rfl
 |_::r,n+1,x=>by simp [Tk,ar r n x]
theorem Rp {α:Type} (d:α): ∀(l:List α) (i j:Nat) (x:α),(Tk l i x).getD j d=if i=j/\j<l.length then x else l.getD j d
 | [],i,j,x=>by simp [Tk]
 |_::_,0,0,x=>by simp [Tk]
 |_::_,0,j+1,x=>by simp [Tk]
 |_::_,n+1,0,x=>by simp [Tk]
 |_::r,n+1,j+1,x=>by
  have h:=Rp d r n j x
  simp only [Tk,Ok,h,Ay,Nat.add_right_cancel_iff,Nat.add_lt_add_iff_right]
section
variable {X:Ctx} {w w':World} {π π':Pi} {H H':List (Nat×OB)}
structure Move (X:Ctx) (w w':World) (π π':Pi) (H H':List (Nat×OB)) (f:AC->AC):Prop where
 ac: ∀c v,Iq X w π H c v->Iq X w' π' H' (f c) v
 cells: ∀fr τ cs x,Cells w (Dc X.w0.heap.size X.Sc π fr) τ cs x->Cells w' (Dc X.w0.heap.size X.Sc π' fr) τ cs x
theorem Move.rep {f:AC->AC} (m:Move X w w' π π' H H' f) {fr:Bool} {τ:Ty} {v:Value} {x:τ.den} (h:Dg w (Dc X.w0.heap.size X.Sc π fr) τ v x):
  Dg w' (Dc X.w0.heap.size X.Sc π' fr) τ v x:=
 let ⟨cs,hc,hv⟩:=h
 ⟨cs,m.cells fr τ cs x hc,hv⟩
theorem Move.args {f:AC->AC} (m:Move X w w' π π' H H' f) {fr:Bool} : ∀(τ:Ty) (vs:List Value) (x:τ.den),Cy w (Dc X.w0.heap.size X.Sc π fr) τ vs x->
  Cy w' (Dc X.w0.heap.size X.Sc π' fr) τ vs x
 | .pair a r,[],x,h=>h
 | .pair a r,v::vs,x,h=>⟨m.rep h.1,m.args r vs x.2 h.2⟩
 | .unit,[],_,_=>trivial
 | .unit,_::_,_,h=>h
 | .int _,_,_,h=>by simp [Cy] at h
 | .bool,_,_,h=>by simp [Cy] at h
 | .str,_,_,h=>by simp [Cy] at h
 | .slice _,_,_,h=>by simp [Cy] at h
 | .ptr _,_,_,h=>by simp [Cy] at h
 | .oslice _,_,_,h=>by simp [Cy] at h
 | .optr _,_,_,h=>by simp [Cy] at h
 | .smap _,_,_,h=>by simp [Cy] at h
 | .clo _ _,_,_,h=>by simp [Cy] at h
theorem Move.acs {f:AC->AC} (m:Move X w w' π π' H H' f) {cs:List AC} {us:List Value} (h:Gv X w π H cs us):Gv X w' π' H' (cs.map f) us:=
 ⟨by rw [Dk];exact h.1,λi c hc=>by
  rw [Fo] at hc
  cases hi:cs[i]? with
  |none=>rw [hi] at hc;cases hc
  |some d=>
   rw [hi] at hc
   simp only [An,Aa] at hc
   subst hc
   obtain ⟨u,hu,h1,h2⟩:=h.2 i d hi
   exact ⟨u,hu,h1,m.ac d u h2⟩⟩
theorem Move.part {f:AC->AC} (m:Move X w w' π π' H H' f) {p:Bool×List AC} {v:Value} (h:ff X w π H p v):ff X w' π' H' (p.1,p.2.map f) v:=by
 unfold ff at h⊢
 dsimp only
 split at h
 ·rename_i hp
  rw [Ab hp]
  obtain ⟨us,hv,hr⟩:=h
  exact ⟨us,hv,m.acs hr⟩
 ·rename_i hp
  rw [Ai hp]
  intro a ha
  cases hq:p.2 with
  |nil=>rw [hq] at ha;cases ha
  |cons c r=>
   rw [hq] at ha
   simp only [Bz,Hq,List.map_eq_nil_iff] at ha
   obtain ⟨rfl,rfl⟩:=ha
   exact m.ac c v (h c hq)
theorem Move.av {f:AC->AC} (m:Move X w w' π π' H H' f) {c:AV} {v:Value} (h:Bs X w π H c v):Bs X w' π' H' (c.map f) v:=by
 cases c with
 | «at»a=>exact m.ac a v h
 |agg cs=>obtain ⟨us,hv,hr⟩:=h;exact ⟨us,hv,m.acs hr⟩
 |bH fr τ x=>obtain ⟨vs,hv,hr⟩:=h;exact ⟨vs,hv,m.args τ vs x hr⟩
 |Nr l=>
  obtain ⟨vs,hv,hl,hr⟩:=h
  refine ⟨vs,hv,by rw [Dk];exact hl,λi p u hp hu=>?_⟩
  rw [Fo] at hp
  cases hi:l[i]? with
  |none=>rw [hi] at hp;cases hp
  |some q=>
   rw [hi] at hp
   simp only [An,Aa] at hp
   subst hp
   exact m.part (hr i q u hi hu)
theorem Vs (f:AC->AC) (hu:f .undef= .undef) (l:List AV) (t:Nat):(l.map (·.map f)).getD t .undef=(l.getD t .undef).map f:=by
 simp only [Ak,Fo]
 cases l[t]? with
 |none=>simp [AV.undef,AV.map,hu]
 |some v=>rfl
theorem Move.OG {f:AC->AC} (hu:f .undef= .undef) {st:St} {a:Act} {H':List (Nat×OB)} (m:Move X w w' π π' st.heap H' f) (h:sH X w π st a):
  sH X w' π' {tmps:=st.tmps.map (·.map f),heap:=H'} a:=
 ⟨by simpa using h.size,h.defers,λt=>by
  have:=m.av (h.tmps t)
  unfold St.get
  rw [Vs f hu]
  exact this⟩
theorem AC.map_id (c:AV):c.map (λc=>c)=c:=by
 cases c<;>simp [AV.map]
theorem cQ {w:World} {a:Addr} {v:Value} (h:w.cell? a=some v):a.block<w.heap.size:=by
 unfold World.cell? at h
 cases hb:w.heap[a.block]? with
 |none=>rw [hb] at h;cases h
 |some o=>exact (Oa.1 hb).1
theorem Move.quiet (hw: ∀k,k<w.heap.size->w'.heap[k]?=w.heap[k]?) (hs:w.heap.size<=w'.heap.size):Move X w w' π π H H (λc=>c):=by
 have hc: ∀fr τ cs x,Cells w (Dc X.w0.heap.size X.Sc π fr) τ cs x->Cells w' (Dc X.w0.heap.size X.Sc π fr) τ cs x:=
  fun fr τ cs x h=>Cells.Gj hs (λk hk _=>hw k hk) (λ_ _ h=>h) τ cs x h
 refine ⟨λc v h=>?_,hc⟩
 cases c with
 |data fr τ x=>obtain ⟨cs,h1,h2⟩:=h;exact ⟨cs,hc _ _ _ _ h1,h2⟩
 |sub l i c=>
  obtain ⟨r,e,tid,xs,h1,h2,h3,h4,h5,h6⟩:=h
  exact ⟨r,e,tid,xs,h1,h2,h3,h4,h5,by rw [World.cell?_of_block (hw _ (cQ h6))];exact h6⟩
 |Ky l i j=>
  obtain ⟨r,b,n,sz,g,o,len,cap,h1,h2,h3,h4,h5,h6,h7⟩:=h
  exact ⟨r,b,n,sz,g,o,len,cap,h1,h2,h3,h4,h5,by rw [World.cell?_of_block (hw _ (cQ h6))];exact h6,h7⟩
 |_=>exact h
theorem He {w:World} {g:Nat} {o:Obj} (h:w.heap[g]?=some o):g<w.heap.size:=(Oa.1 h).1
theorem Nw.own (h:Nw X w π H) {b:Nat} (hb:Vd π b):b<w.heap.size/\(X.w0.heap.size<=b\/X.gv b):=by
 obtain ⟨l,r,hr,hf⟩:=hb
 have:=h.place l r b hr (h.sub l r b hr hf)
 exact ⟨this.2,this.1⟩
theorem Nw.Cw (h:Nw X w π H) {l:Nat} {r:Real} (hr:π l=some r):r.Cw r.g:=by
 have hl:=h.heap l
 unfold Hc at hl
 split at hl
 ·rw [hl] at hr;cases hr
 ·rw [hr] at hl;exact hl.1.1
 ·rw [hr] at hl;exact hl.1
 ·rw [hr] at hl;exact hl.1.1
 ·obtain ⟨r',h0,h1,_⟩:=hl;rw [hr] at h0;cases h0;exact h1
 ·obtain ⟨r',h0,h1,_⟩:=hl;rw [hr] at h0;cases h0;exact h1
theorem Nw.lt (h:Nw X w π H) {l:Nat} {r:Real} (hr:π l=some r):r.g<w.heap.size/\(X.w0.heap.size<=r.g\/X.gv r.g):=
 h.own ⟨l,r,hr,h.Cw hr⟩
theorem Nw.apart (h:Nw X w π H) {l l':Nat} {r r':Real} {b:Nat} (hr:π l=some r) (kW:π l'=some r') (hb:r.Cw b) (vT:r'.Cw b):l=l':=
 h.inj l l' r r' b hr kW (h.sub l r b hr hb) (h.sub l' r' b kW vT)
theorem Di.lt {w:World} : ∀(F:List Nat) (τ:Ty) (cs:List Value) (x:τ.den),Di w F τ cs x-> ∀b∈F,b<w.heap.size:=by
 intro F τ
 induction τ generalizing F with
 |slice e ih=>
  intro cs xs h b hb
  simp only [Di] at h
  obtain ⟨a,len,cap,_,_,_,h⟩:=h
  rcases h with ⟨_,rfl,_⟩|⟨ad,g,o,Fs,_,_,hg,rfl,hl,Le⟩
  ·cases hb
  ·rcases Bb.1 hb with rfl|hb
   ·exact hg.lt
   ·obtain ⟨Fi,hFi,hbi⟩:=Ip.1 hb
    obtain ⟨i,hi,rfl⟩:=Ol hFi
    obtain ⟨es,_,_,hr⟩:=Le i (xs[i]'(by omega)) _ (Ac _) (Ac hi)
    exact ih _ es _ hr b hbi
 |pair a r iC iw=>
  intro cs x h b hb
  simp only [Di] at h
  obtain ⟨c1,c2,F1,F2,_,rfl,h1,h2⟩:=h
  rcases Ba.1 hb with hb|hb
  ·exact iC _ c1 _ h1 b hb
  ·exact iw _ c2 _ h2 b hb
 |int k=>intro cs x h b hb;simp only [Di] at h;rw [h.1] at hb;cases hb
 |bool=>intro cs x h b hb;simp only [Di] at h;rw [h.1] at hb;cases hb
 |str=>intro cs x h b hb;simp only [Di] at h;rw [h.1] at hb;cases hb
 |unit=>intro cs x h b hb;simp only [Di] at h;rw [h.1] at hb;cases hb
 |_=>intro cs x h;simp only [Di] at h
theorem Di.Gj {w w':World} : ∀(F:List Nat) (τ:Ty) (cs:List Value) (x:τ.den),Di w F τ cs x->w.heap.size<=w'.heap.size->(∀b∈F,w'.heap[b]?=w.heap[b]?)->Di w' F τ cs x:=by
 intro F τ
 induction τ generalizing F with
 |slice e ih=>
  intro cs xs h hs hk
  simp only [Di] at h⊢
  obtain ⟨a,len,cap,h1,h2,h3,h⟩:=h
  refine ⟨a,len,cap,h1,h2,h3,?_⟩
  rcases h with h|⟨ad,g,o,Fs,h4,h0,hg,rfl,hl,Le⟩
  ·exact .inl h
  ·refine .inr ⟨ad,g,o,Fs,h4,h0,hg.Gj (hk g (by simp)),rfl,hl,λi x Fi hx hF=>?_⟩
   obtain ⟨es,h5,h6,h7⟩:=Le i x Fi hx hF
   exact ⟨es,h5,λj u hu=>by rw [World.cell?_of_block (hk g (by simp))];exact h6 j u hu,
    ih Fi es x h7 hs λb hb=>hk b (Ap _ (Ip.2 ⟨Fi,Cn hF,hb⟩))⟩
 |pair a r iC iw=>
  intro cs x h hs hk
  simp only [Di] at h⊢
  obtain ⟨c1,c2,F1,F2,h1,rfl,h2,h3⟩:=h
  exact ⟨c1,c2,F1,F2,h1,rfl,iC F1 c1 _ h2 hs (λb hb=>hk b (Bi _ hb)),iw F2 c2 _ h3 hs (λb hb=>hk b (Ck _ hb))⟩
 |int k=>intro cs x h _ _;exact h
 |bool=>intro cs x h _ _;exact h
 |str=>intro cs x h _ _;exact h
 |unit=>intro cs x h _ _;exact h
 |_=>intro cs x h;simp only [Di] at h
theorem Di.cells {w:World} {S:Nat->Prop} : ∀(F:List Nat) (τ:Ty) (cs:List Value) (x:τ.den),Di w F τ cs x->(∀b∈F,¬S b)->Cells w S τ cs x:=by
 intro F τ
 induction τ generalizing F with
 |slice e ih=>
  intro cs xs h hk
  simp only [Di] at h
  simp only [Cells]
  obtain ⟨a,len,cap,h1,h2,h3,h⟩:=h
  refine ⟨a,len,cap,h1,h2,h3,?_⟩
  rcases h with h|⟨ad,g,o,Fs,h4,h0,hg,rfl,hl,Le⟩
  ·exact .inl h.1
  by_cases hx0:xs= []
  ·exact .inl hx0
  ·have kV:0<cap:=by
    rcases Ue cap with e0|e0
    ·exact absurd (Cm (by omega)) hx0
    ·exact e0
   refine .inr ⟨g,o,by rw [h4,h0 kV],hg.lt,hk g (by simp),λi x hx=>?_⟩
   have hi:i<Fs.length:=by have:=(Ao.1 hx).1;omega
   obtain ⟨es,h5,h6,h7⟩:=Le i x _ hx (Ac hi)
   exact ⟨es,h5,h6,ih _ es x h7 λb hb=>hk b (Ap _ (Ip.2 ⟨_,Am hi,hb⟩))⟩
 |pair a r iC iw=>
  intro cs x h hk
  simp only [Di] at h
  simp only [Cells]
  obtain ⟨c1,c2,F1,F2,h1,rfl,h2,h3⟩:=h
  exact ⟨c1,c2,h1,iC F1 c1 _ h2 (λb hb=>hk b (Bi _ hb)),iw F2 c2 _ h3 (λb hb=>hk b (Ck _ hb))⟩
 |int k=>intro cs x h _;simp only [Di] at h;exact h.2
 |bool=>intro cs x h _;simp only [Di] at h;exact h.2
 |str=>intro cs x h _;simp only [Di] at h;exact h.2
 |unit=>intro cs x h _;simp only [Di] at h;exact h.2
 |_=>intro cs x h;simp only [Di] at h
theorem Ye.Gj {w w':World} {P P':Nat->Prop} {g o:Nat} {cur:Array Value} {e:Ty} {xs:List e.den} (h:Ye w P g o cur e xs) (hs:w.heap.size<=w'.heap.size)
  (hk: ∀b,b≠g->b<w.heap.size->P b->w'.heap[b]?=w.heap[b]?) (hP: ∀b,P b->P' b):Ye w' P' g o cur e xs:=by
 obtain ⟨Fs,h1,h2,h3,h4⟩:=h
 refine ⟨Fs,h1,h2,λb hb=>hP b (h3 b hb),λi x F hx hF=>?_⟩
 obtain ⟨es,h5,h6,h7⟩:=h4 i x F hx hF
 refine ⟨es,h5,h6,h7.Gj _ _ _ _ hs λb hb=>?_⟩
 have ZY:b∈List.flatten Fs:=Ip.2 ⟨F,Cn hF,hb⟩
 exact hk b (λe=>by subst e;exact (Cg.1 h2).1 ZY) (h7.lt _ _ _ _ b hb) (h3 b ZY)
theorem Sk.to {w w':World} {D D':Nat->Prop} {r:Option Real} {e:Ty} {xs:List e.den} (h:Sk w D r e xs) (hk: ∀q,r=some q->w'.heap[q.g]?=w.heap[q.g]?) (hc: ∀es x,Cells w D e es x->Cells w' D' e es x):Sk w' D' r e xs:=by
 cases r with
 |none=>exact h
 |some q=>
  obtain ⟨h1,cur,ti,h2,h3,h4,h5,h6⟩:=h
  refine ⟨h1,cur,ti,(hk q rfl).trans h2,h3,h4,h5,λi x hx=>?_⟩
  obtain ⟨es,g1,g2,g3⟩:=h6 i x hx
  exact ⟨es,g1,g2,hc es x g3⟩
theorem aK.Gj {w w':World} {D D':Nat->Prop} {r:Option Real} {e:Ty} {rows:List (List e.den)} {out:Option Nat} (h:aK w D r e rows out)
  (hk: ∀q b,r=some q->q.Cw b->b<w.heap.size->w'.heap[b]?=w.heap[b]?) (hc: ∀es x,Cells w D e es x->Cells w' D' e es x):aK w' D' r e rows out:=by
 cases r with
 |none=>have h:rows= []:=h;exact (h:rows= [])
 |some r=>
  obtain ⟨h1,cur,ti,h2,h3,h4,h5,Rs,h6,h7,h8,h9⟩:=h
  refine ⟨h1,cur,ti,(hk r _ rfl h1 (He h2)).trans h2,h3,h4,h5,Rs,h6,h7,h8,λi x hx ho=>?_⟩
  obtain ⟨u,R,k1,k2,k3,k4⟩:=h9 i x hx ho
  refine ⟨u,R,k1,k2,k3,k4.to (λq hq=>?_) hc⟩
  subst hq
  obtain ⟨_,cu,ti',k5,_⟩:=k4
  exact hk r _ rfl (h7 i q k2).1 (He k5)
theorem KeptAt.Gj {w w':World} {r:Option Real} {kp:Option (Nat×Nat)} (h:KeptAt X w r kp) (hk: ∀q,r=some q->w'.heap[q.g]?=w.heap[q.g]?):KeptAt X w' r kp:=by
 cases kp with
 |none=>trivial
 |some p=>
  obtain ⟨l0,n⟩:=p
  simp only [KeptAt] at h⊢
  cases hp:X.iD l0 with
  |none=>cases r with
   |none=>trivial
   |some r'=>rw [hp] at h;exact h.elim
  |some r0=>cases r with
   |none=>rw [hp] at h;exact h.elim
   |some r'=>
    rw [hp] at h
    obtain ⟨h1,h2,h3,h4⟩:=h
    refine ⟨h1,h2,h3,λj hj hc=>?_⟩
    rw [World.cell?_of_block (show w'.heap[(Addr.mk r0.g (r0.o+j) none).block]?=w.heap[(Addr.mk r0.g (r0.o+j) none).block]? from h1▸hk r' rfl)]
    exact h4 j hj hc
theorem iG.Gj {w w':World} {π π':Pi} {r:Option Real} {e:Ty} {rows:List (List e.den)} {out:Option Nat} {kp:Option (Nat×Nat)} (h:iG X w π r e rows out kp)
  (hk: ∀q b,r=some q->q.Cw b->b<w.heap.size->w'.heap[b]?=w.heap[b]?) (hc: ∀es x,Cells w (Dc X.w0.heap.size X.Sc π false) e es x->Cells w' (Dc X.w0.heap.size X.Sc π' false) e es x):iG X w' π' r e rows out kp:=by
 refine ⟨h.1.Gj hk hc,h.2.Gj λq hq=>?_⟩
 subst hq
 obtain ⟨h1,cur,ti,h2,_⟩:=h.1
 exact hk q _ rfl h1 (He h2)
theorem Nw.quiet (h:Nw X w π H) (hb:Below w.heap.size w w'):Nw X w' π H:=by
 have m:Move X w w' π π H H (λc=>c):=Move.quiet (λk hk=>hb.block k hk) hb.size
 refine ⟨h.below.trans (.of (hb.mono h.below.size)),h.sc,h.sub,λl r b h1 h2=>⟨(h.place l r b h1 h2).1,Ew (h.place l r b h1 h2).2 hb.size⟩,h.inj,h.iD,λl=>?_⟩
 have hl:=h.heap l
 unfold Hc at hl⊢
 cases hg:Av H l with
 |none=>rw [hg] at hl;exact hl
 |some b=>
  rw [hg] at hl
  cases b with
  |arr fr tr e tid xs=>
   simp only [Kz] at hl⊢
   cases hp:π l with
   |none=>rw [hp] at hl;exact hl
   |some r=>
    rw [hp] at hl
    obtain ⟨h1,cur,ti,h2,h3,h4,h5,h6,h7⟩:=hl
    refine ⟨h1,cur,ti,(hb.block _ (He h2)).trans h2,h3,h4,h5,λi x hx=>?_,λht=>(h7 ht).Gj hb.size (λb _ Me _=>hb.block b Me) λ_ hb=>hb⟩
    obtain ⟨es,he,hj,hc⟩:=h6 i x hx
    exact ⟨es,he,hj,m.cells _ _ _ _ hc⟩
  |Hs e tid xs=>
   simp only [Pb] at hl⊢
   cases hp:π l with
   |none=>rw [hp] at hl;exact hl
   |some r=>
    rw [hp] at hl
    obtain ⟨h1,cur,ti,h2,h3,h4,h5,h7⟩:=hl
    exact ⟨h1,cur,ti,(hb.block _ (He h2)).trans h2,h3,h4,h5,h7.Gj hb.size (λb _ Me _=>hb.block b Me) λ_ hb=>hb⟩
  |var tid vs=>
   obtain ⟨r,h0,h1,cur,h2,h3⟩:=hl
   refine ⟨r,h0,h1,cur,(hb.block _ (He h2)).trans h2,?_⟩
   have:=m.acs h3
   simpa using this
  |Bu e te rows out kp=>exact iG.Gj hl (λq b _ _ Me=>hb.block b Me) (λes x=>m.cells false e es x)
  |Wi v f=>
   obtain ⟨r,h0,h1,h2,h3⟩:=hl
   exact ⟨r,h0,h1,h2,Cells.Gj hb.size (λk hk _=>hb.block k hk) (λ_ _ h=>h) _ _ _ h3⟩
theorem Bh.quiet {st:St} {a:Act} (h:Bh X π st a w) (hb:Below w.heap.size w w'):Bh X π st a w':=by
 refine ⟨h.1.quiet hb,?_⟩
 have m:Move X w w' π π st.heap st.heap (λc=>c):=Move.quiet (λk hk=>hb.block k hk) hb.size
 exact ⟨h.2.size,h.2.defers,λt=>by have:=m.av (h.2.tmps t);rwa [AC.map_id] at this⟩
theorem Bh.put {st:St} {a:Act} (h:Bh X π st a w) (dst:Option Tmp) {c:AV} {v:Value} (hv:Bs X w π st.heap c v):Bh X π (st.put dst c) (a.put dst v) w:=by
 cases dst with
 |none=>exact h
 |some d=>
  refine ⟨h.1,⟨by simp [St.put,Act.put,ar,h.2.size],h.2.defers,λt=>?_⟩⟩
  show Bs X w π st.heap ((Tk st.tmps d c).getD t .undef) ((a.tmps.setIfInBounds d v).getD t undef)
  rw [Rp]
  have aN:=h.2.size
  by_cases hdt:d=t/\t<st.tmps.length
  ·rw [Ab hdt]
   obtain ⟨rfl,Me⟩:=hdt
   have:(a.tmps.setIfInBounds d v).getD d undef=v:=by simp [aN,Me]
   rw [this];exact hv
  ·rw [Ai hdt]
   have:(a.tmps.setIfInBounds d v).getD t undef=a.tmps.getD t undef:=by
    by_cases hd:d=t
    ·subst hd
     have wc: ¬d<a.tmps.size:= λhh=>hdt ⟨rfl,aN▸hh⟩
     simp [Array.setIfInBounds,wc]
    ·simp [Array.getElem?_setIfInBounds_ne hd]
   rw [this];exact h.2.tmps t
end
end Go.Proofs.YtkkdpknjohcekaaGreat
