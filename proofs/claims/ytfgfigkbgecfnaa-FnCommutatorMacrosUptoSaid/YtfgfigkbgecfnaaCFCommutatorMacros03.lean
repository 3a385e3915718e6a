/-
  Part 4 of the proof that the statement FnCommutatorMacros holds.
-/
import Derived.Test.YtfgfigkbgecfnaaCFCommutatorMacros02
namespace Go.Proofs.Ytfgfigkbgecfnaa
open Go.RowKit
structure Real where
 g:Nat
 o:Nat
 cap:Nat
 Bu:Nat->Prop
 cl:Nat->Prop
abbrev Pi:=Nat->Option Real
def Qk (π:Pi) (b:Nat):Prop:= ∃l r,π l=some r/\r.Bu b
def Cb (B:Nat) (Sc:Nat->Prop) (π:Pi) (fr:Bool) (b:Nat):Prop:=Qk π b\/Sc b\/(fr=true/\b<B)
def Shape (w:World) (g o s cap:Nat):Prop:= ∃(cur:Array Value) (ti:TypeId) (o':Nat),w.heap[g]?=some (.cells cur ti (0,0))/\o=o'*s/\cur.size=(o'+cap)*s/\cap<=maxLen
theorem Shape.lt {w:World} {g o s cap:Nat} (h:Shape w g o s cap):g<w.heap.size:=let ⟨_,_,_,h,_⟩:=h;(Hl.1 h).1
theorem Shape.Ep {w w':World} {g o s cap:Nat} (h:Shape w g o s cap) (hk:w'.heap[g]?=w.heap[g]?):Shape w' g o s cap:=let ⟨c,t,o',h1,h2⟩:=h;⟨c,t,o',hk.trans h1,h2⟩
def Bz (w:World):(F:List Nat)->(τ:Ty)->List Value->τ.den->Prop
 |F, .int k,cs,n=>F= []/\cs= [.int k n]
 |F, .bool,cs,b=>F= []/\cs= [.bool b]
 |F, .str,cs,s=>F= []/\cs= [.string s]
 |F, .slice e,cs,xs=> ∃a len cap,cs= [.slice a len cap]/\len=xs.length/\len<=cap/\((xs= []/\F= []/\a=none/\cap=0)\/ ∃ad g o Fs,a=some ad/\(0<cap->ad=⟨g,o,none⟩)/\Shape w g o e.size cap/\F=g::List.flatten Fs/\Fs.length=xs.length/\
   ∀(i:Nat) (x:e.den) (Fi:List Nat),xs[i]?=some x->Fs[i]?=some Fi-> ∃es:List Value,es.length=e.size/\(∀j u,es[j]?=some u->w.cell? ⟨g,o+i*e.size+j,none⟩=some u)/\Bz w Fi e es x)
 |F, .unit,cs,_=>F= []/\cs= []
 |F, .pair a r,cs,x=> ∃c1 c2 F1 F2,cs=c1++c2/\F=F1++F2/\Bz w F1 a c1 x.1/\Bz w F2 r c2 x.2
 |_,_,_,_=>False
def Sh (w:World) (P:Nat->Prop) (g o:Nat) (cur:Array Value) (e:Ty) (xs:List e.den):Prop:=
 ∃Fs:List (List Nat),Fs.length=xs.length/\(g::List.flatten Fs).Nodup/\(∀b∈List.flatten Fs,P b)/\
  ∀(i:Nat) (x:e.den) (F:List Nat),xs[i]?=some x->Fs[i]?=some F-> ∃es:List Value,es.length=e.size/\(∀j u,es[j]?=some u->cur[(o+i)*e.size+j]?=some u)/\Bz w F e es x
def Fm (r:Option Real) (size off len:Nat) (v:Value):Prop:=
 match r with
 |none=>v= .slice none 0 0/\off=0/\len=0
 |some r=> ∃ad:Addr,v= .slice (some ad) len (r.cap-off)/\off+len<=r.cap/\(off<r.cap->ad=⟨r.g,(r.o+off)*size,none⟩)
def Oe (w:World) (D:Nat->Prop) (r:Option Real) (e:Ty) (xs:List e.den):Prop:=
 match r with
 |none=>xs= []
 |some r=>(r.Bu r.g/\(∀b,r.Bu b->b=r.g))/\ ∃(cur:Array Value) (ti:TypeId),w.heap[r.g]?=some (.cells cur ti (0,0))/\cur.size=(r.o+r.cap)*e.size/\r.cap<=maxLen/\xs.length<=r.cap/\
   (∀(i:Nat) (x:e.den),xs[i]?=some x-> ∃es:List Value,es.length=e.size/\(∀j u,es[j]?=some u->cur[(r.o+i)*e.size+j]?=some u)/\Cells w D e es x)
def Uy (w:World) (D:Nat->Prop) (r:Option Real) (e:Ty) (rows:List (List e.den)) (out:Option Nat):Prop:=
 match r with
 |none=>rows= []
 |some r=>r.Bu r.g/\ ∃(cur:Array Value) (ti:TypeId),w.heap[r.g]?=some (.cells cur ti (0,0))/\cur.size=r.o+r.cap/\r.cap<=maxLen/\rows.length<=r.cap/\
   ∃Rs:List (Option Real),Rs.length=rows.length/\(∀(i:Nat) (q:Real),Rs[i]?=some (some q)->r.Bu q.g/\q.g≠r.g)/\(∀(i j:Nat) (q q':Real),Rs[i]?=some (some q)->Rs[j]?=some (some q')->q.g=q'.g->i=j)/\
    ∀(i:Nat) (x:List e.den),rows[i]?=some x->out≠some i-> ∃u R,cur[r.o+i]?=some u/\Rs[i]?=some R/\Fm R e.size 0 x.length u/\Oe w D R e x
structure Ctx where
 w0:World
 Sc:Nat->Prop
 gv:Nat->Prop
 cD:Pi
structure Gw (B:Nat) (gv:Nat->Prop) (w w':World):Prop where
 os:w'.os=w.os
 tape:w'.tape=w.tape
 output:w'.output=w.output
 size:w.heap.size<=w'.heap.size
 block: ∀k,k<B-> ¬gv k->w'.heap[k]?=w.heap[k]?
theorem Gw.refl (B:Nat) (gv:Nat->Prop) (w:World):Gw B gv w w:=⟨rfl,rfl,rfl,Ao _,λ_ _ _=>rfl⟩
theorem Gw.trans {B:Nat} {gv:Nat->Prop} {a b c:World} (h:Gw B gv a b) (k:Gw B gv b c):Gw B gv a c:=
 ⟨k.os.trans h.os,k.tape.trans h.tape,k.output.trans h.output,Kj h.size k.size,λi hi hg=>(k.block i hi hg).trans (h.block i hi hg)⟩
theorem Gw.plain {B:Nat} {w w':World} (h:Gw B (λ_=>False) w w'):Below B w w':=⟨h.os,h.tape,h.output,h.size,λk hk=>h.block k hk (λh=>h)⟩
theorem Gw.of {B:Nat} {gv:Nat->Prop} {w w':World} (h:Below B w w'):Gw B gv w w':=⟨h.os,h.tape,h.output,h.size,λk hk _=>h.block k hk⟩
theorem Gw.grown {B:Nat} {gv:Nat->Prop} {a w w':World} {row:Option Nat} (h:Gw B gv a w) (hg:w.grownBy w' row) (hB:B<=w.heap.size) (hr: ∀k,row=some k->B<=k\/gv k):Gw B gv a w':=
 h.trans ⟨hg.os,hg.tape,hg.output,hg.size,λk hk hn=>hg.block k (by omega) (λe=>by rcases hr k e.symm with h|h;omega;exact hn h)⟩
def OB.row:OB->Option (Nat×Nat)
 | .arr _ _ e _ xs=>some (e.size,xs.length)
 | .Ev e _ xs=>some (e.size,xs.length)
 | .Bc _ _ rows _ _=>some (1,rows.length)
 |_=>none
def OB.c6:OB->Option (Nat×Nat)
 | .Ev e _ xs=>some (e.size,xs.length)
 | .Bc _ _ rows _ _=>some (1,rows.length)
 |_=>none
def OB.nP:OB->Option (Nat×Nat)
 | .Bc e _ rows _ _=>some (rows.length,e.size)
 |_=>none
def Wl:Option Real->Option Real->Prop
 |none,none=>True
 |some r,some r'=>r.g=r'.g/\r.o=r'.o/\r.cap=r'.cap/\ ∀b,r.Bu b↔r'.Bu b
 |_,_=>False
theorem Wl.rfl' (r:Option Real):Wl r r:=by cases r<;>simp [Wl]
section
variable (X:Ctx) (w:World) (π:Pi) (H:List (Nat×OB))
def Fe:AC->Value->Prop
 | .undef,_=>True
 | .skip,v=>v=Go.undef
 | .Jf,v=>v= .slice none 0 0
 | .Qx,v=>v= .pointer none
 | .data fr τ x,v=>Ck w (Cb X.w0.heap.size X.Sc π fr) τ v x
 | .own l off len,v=> ∃b sz n,Ap H l=some b/\b.row=some (sz,n)/\off+len<=n/\Fm (π l) sz off len v
 | .Ez l i,v=> ∃r tid vs,Ap H l=some (.var tid vs)/\π l=some r/\v= .pointer (some ⟨r.g,i,none⟩)
 | .Hj l i,v=> ∃r b sz n,Ap H l=some b/\b.row=some (sz,n)/\i<n/\π l=some r/\v= .pointer (some ⟨r.g,(r.o+i)*sz,none⟩)
 | .sub l i c,v=> ∃r b sz n,Ap H l=some b/\b.c6=some (sz,n)/\π l=some r/\i<n/\(c<sz/\ ∃a n m,v= .slice a n m)/\w.cell? ⟨r.g,(r.o+i)*sz+c,none⟩=some v
 | .Hf l i j,v=> ∃r b n sz g o len cap,Ap H l=some b/\b.nP=some (n,sz)/\π l=some r/\i<n/\j<len/\w.cell? ⟨r.g,r.o+i,none⟩=some (.slice (some ⟨g,o,none⟩) len cap)/\v= .pointer (some ⟨g,o+j*sz,none⟩)
 | .clo f Cx,v=> ∃us:List Value,v= .func (.func f) #[] us.toArray/\us.length=Cx.length/\
   ∀(j:Nat) p,Cx[j]?=some p-> ∃r tid vs,Ap H p.1=some (.var tid vs)/\π p.1=some r/\us[j]?=some (.pointer (some ⟨r.g,p.2,none⟩))
 | .Hv l,v=> ∃r vt m,Ap H l=some (.Qy vt m)/\π l=some r/\v= .map (some r.g)
def Eb (cs:List AC) (us:List Value):Prop:=us.length=cs.length/\ ∀(i:Nat) c,cs[i]?=some c-> ∃u,us[i]?=some u/\u.oneCell'=true/\Fe X w π H c u
def aM (p:Bool×List AC) (v:Value):Prop:=if p.1 then ∃us:List Value,v= .agg us.toArray/\Eb X w π H p.2 us else ∀a,p.2= [a]->Fe X w π H a v
def Ba:AV->Value->Prop
 | .at a,v=>Fe X w π H a v
 | .agg cs,v=> ∃us:List Value,v= .agg us.toArray/\Eb X w π H cs us
 | .Wh fr τ x,v=> ∃vs:List Value,v= .tuple vs.toArray/\Bv w (Cb X.w0.heap.size X.Sc π fr) τ vs x
 | .Jy l,v=> ∃vs:List Value,v= .tuple vs.toArray/\vs.length=l.length/\ ∀(i:Nat) p u,l[i]?=some p->vs[i]?=some u->aM X w π H p u
def Hg (r:Option Real) (fr tr:Bool) (e:Ty) (_:TypeId) (xs:List e.den):Prop:=
 match r with
 |none=>xs= []
 |some r=>(r.Bu r.g/\(∀b,r.Bu b->b=r.g)/\(fr=true->X.w0.heap.size<=r.g))/\ ∃(cur:Array Value) (ti:TypeId),w.heap[r.g]?=some (.cells cur ti (0,0))/\cur.size=(r.o+r.cap)*e.size/\r.cap<=maxLen/\xs.length<=r.cap/\
   (∀(i:Nat) (x:e.den),xs[i]?=some x-> ∃es:List Value,es.length=e.size/\(∀j u,es[j]?=some u->cur[(r.o+i)*e.size+j]?=some u)/\Cells w (Cb X.w0.heap.size X.Sc π fr) e es x)/\
   (tr=true->Sh w r.cl r.g r.o cur e xs)
def Kz (r:Option Real) (e:Ty) (_:TypeId) (xs:List e.den):Prop:=
 match r with
 |none=>xs= []
 |some r=>r.Bu r.g/\ ∃(cur:Array Value) (ti:TypeId),w.heap[r.g]?=some (.cells cur ti (0,0))/\cur.size=(r.o+r.cap)*e.size/\r.cap<=maxLen/\xs.length<=r.cap/\Sh w r.Bu r.g r.o cur e xs
def HQ (r:Option Real) (tid:TypeId) (vs:List AC):Prop:=
 ∃r',r=some r'/\r'.Bu r'.g/\ ∃cur:Array Value,w.heap[r'.g]?=some (.cells cur tid (0,0))/\Eb X w π H vs cur.toList
def AH (r:Option Real) (v:Ty) (m:ByteArray->Option v.den):Prop:=
 ∃r',r=some r'/\r'.Bu r'.g/\(v.flat=true/\v.Ak=false)/\Cells w (λ_=>False) (.smap v) [.map (some r'.g)] m
def KeptAt (r:Option Real):Option (Nat×Nat)->Prop
 |none=>True
 |some (l0,n)=>match X.cD l0,r with
  |none,none=>True
  |some r0,some r'=>r'.g=r0.g/\r'.o=r0.o/\r'.cap=r0.cap/\ ∀j,j<n->j<r0.cap->w.cell? ⟨r0.g,r0.o+j,none⟩=X.w0.cell? ⟨r0.g,r0.o+j,none⟩
  |_,_=>False
def cH (r:Option Real) (e:Ty) (rows:List (List e.den)) (out:Option Nat) (kp:Option (Nat×Nat)):Prop:=
 Uy w (Cb X.w0.heap.size X.Sc π false) r e rows out/\KeptAt X w r kp
def Ei (l:Nat):Prop:=
 match Ap H l with
 |none=>π l=none
 |some (.arr fr tr e tid xs)=>Hg X w π (π l) fr tr e tid xs
 |some (.Ev e tid xs)=>Kz w (π l) e tid xs
 |some (.Bc e _ rows out kp)=>cH X w π (π l) e rows out kp
 |some (.var tid vs)=>HQ X w π H (π l) tid vs
 |some (.Qy v m)=>AH w (π l) v m
structure Kc:Prop where
 below:Gw X.w0.heap.size X.gv X.w0 w
 sc: ∀b,X.Sc b->b<X.w0.heap.size/\ ¬X.gv b
 sub: ∀l r b,π l=some r->r.Bu b->r.cl b
 place: ∀l r b,π l=some r->r.cl b->(X.w0.heap.size<=b\/X.gv b)/\b<w.heap.size
 inj: ∀l l' r r' b,π l=some r->π l'=some r'->r.cl b->r'.cl b->l=l'
 cD: ∀l,Az<=l->Ap H l≠none->Wl (X.cD l) (π l)
 heap: ∀l,Ei X w π H l
structure lv (st:St) (a:Act):Prop where
 size:a.tmps.size=st.tmps.length
 defers:a.defers= []
 tmps: ∀t,Ba X w π st.heap (st.get t) (a.tmps.getD t undef)
end
def Ax (X:Ctx) (π:Pi) (st:St) (a:Act) (w:World):Prop:=Kc X w π st.heap/\lv X w π st a
def Rel (X:Ctx) (st:St) (a:Act) (w:World):Prop:= ∃π,Ax X π st a w
theorem Lr (f:AC->AC): ∀(H:List (Nat×OB)) (l:Nat),Ap (H.map λp=>(p.1,p.2.map f)) l=(Ap H l).map (OB.map f)
 | [],_=>rfl
 |(k,b)::r,l=>by
  simp only [Bl,Ap]
  split
  ·rfl
  ·exact Lr f r l
theorem Ju: ∀(H:List (Nat×OB)) (l:Nat),Ap (Vb H l) l=none
 | [],_=>rfl
 |(k,b)::r,l=>by
  simp only [Vb]
  split
  ·exact Ju r l
  ·rename_i h;simp only [Ap,Aj h];exact Ju r l
theorem Kt: ∀(H:List (Nat×OB)) (l m:Nat),m≠l->Ap (Vb H l) m=Ap H m
 | [],_,_,_=>rfl
 |(k,b)::r,l,m,Hs=>by
  simp only [Vb]
  split
  ·rename_i h;subst h;simp only [Ap,Aj (Fo Hs)];exact Kt r _ m Hs
  ·simp only [Ap];split
   ·rfl
   ·exact Kt r l m Hs
theorem Mz: ∀(H:List (Nat×OB)) (l:Nat) (b:OB),Ap H l=none->Ap (Li H l b) l=some b
 | [],l,b,_=>by simp [Li,Ap]
 |(k,c)::r,l,b,h=>by
  simp only [Ap] at h
  split at h
  ·cases h
  ·rename_i hk
   simp only [Li]
   split
   ·simp [Ap]
   ·simp only [Ap,Aj hk];exact Mz r l b h
theorem Md: ∀(H:List (Nat×OB)) (l m:Nat) (b:OB),m≠l->Ap (Li H l b) m=Ap H m
 | [],l,m,b,Hs=>by simp [Li,Ap,Fo Hs]
 |(k,c)::r,l,m,b,Hs=>by
  simp only [Li]
  split
  ·simp only [Ap,Aj (Fo Hs)]
  ·simp only [Ap];split
   ·rfl
   ·exact Md r l m b Hs
theorem Dj: ∀(H:List (Nat×OB)) (l:Nat) (b c:OB),Ap H l=some c->Ap (Ux H l b) l=some b
 | [],_,_,_,h=>by cases h
 |(k,d)::r,l,b,c,h=>by
  simp only [Ap] at h
  simp only [Ux]
  split
  ·rename_i hk;subst hk;simp [Ap]
  ·rename_i hk;rw [Aj hk] at h;simp only [Ap,Aj hk];exact Dj r l b c h
theorem Cu: ∀(H:List (Nat×OB)) (l m:Nat) (b:OB),m≠l->Ap (Ux H l b) m=Ap H m
 | [],_,_,_,_=>rfl
 |(k,d)::r,l,m,b,Hs=>by
  simp only [Ux]
  split
  ·rename_i hk;subst hk;simp only [Ap,Aj (Fo Hs)]
  ·simp only [Ap];split
   ·rfl
   ·exact Cu r l m b Hs
theorem Uo {α:Type} : ∀(l:List α) (i:Nat) (x:α),(Oo l i x).length=l.length
 | [],_,_=>rfl
 |_::_,0,_=>rfl
 |_::r,n+1,x=>by simp [Oo,Uo r n x]
theorem Ng {α:Type} (d:α): ∀(l:List α) (i j:Nat) (x:α),(Oo l i x).getD j d=if i=j/\j<l.length then x else l.getD j d
 | [],i,j,x=>by simp [Oo]
 |_::_,0,0,x=>by simp [Oo]
 |_::_,0,j+1,x=>by simp [Oo]
 |_::_,n+1,0,x=>by simp [Oo]
 |_::r,n+1,j+1,x=>by
  have h:=Ng d r n j x
  simp only [Oo,Kn,h,Bf,Nat.add_right_cancel_iff,Nat.add_lt_add_iff_right]
section
variable {X:Ctx} {w w':World} {π π':Pi} {H H':List (Nat×OB)}
structure Move (X:Ctx) (w w':World) (π π':Pi) (H H':List (Nat×OB)) (f:AC->AC):Prop where
 ac: ∀c v,Fe X w π H c v->Fe X w' π' H' (f c) v
 cells: ∀fr τ cs x,Cells w (Cb X.w0.heap.size X.Sc π fr) τ cs x->Cells w' (Cb X.w0.heap.size X.Sc π' fr) τ cs x
theorem Move.rep {f:AC->AC} (m:Move X w w' π π' H H' f) {fr:Bool} {τ:Ty} {v:Value} {x:τ.den} (h:Ck w (Cb X.w0.heap.size X.Sc π fr) τ v x):
  Ck w' (Cb X.w0.heap.size X.Sc π' fr) τ v x:=
 let ⟨cs,hc,hv⟩:=h
 ⟨cs,m.cells fr τ cs x hc,hv⟩
theorem Move.args {f:AC->AC} (m:Move X w w' π π' H H' f) {fr:Bool} : ∀(τ:Ty) (vs:List Value) (x:τ.den),Bv w (Cb X.w0.heap.size X.Sc π fr) τ vs x->
  Bv w' (Cb X.w0.heap.size X.Sc π' fr) τ vs x
 | .pair a r,[],x,h=>h
 | .pair a r,v::vs,x,h=>⟨m.rep h.1,m.args r vs x.2 h.2⟩
 | .unit,[],_,_=>trivial
 | .unit,_::_,_,h=>h
 | .int _,_,_,h=>by simp [Bv] at h
 | .bool,_,_,h=>by simp [Bv] at h
 | .str,_,_,h=>by simp [Bv] at h
 | .slice _,_,_,h=>by simp [Bv] at h
 | .ptr _,_,_,h=>by simp [Bv] at h
 | .oslice _,_,_,h=>by simp [Bv] at h
 | .optr _,_,_,h=>by simp [Bv] at h
 | .smap _,_,_,h=>by simp [Bv] at h
 | .clo _ _,_,_,h=>by simp [Bv] at h
theorem Move.EW {f:AC->AC} (m:Move X w w' π π' H H' f) {cs:List AC} {us:List Value} (h:Eb X w π H cs us):Eb X w' π' H' (cs.map f) us:=
 ⟨by rw [Nl];exact h.1,λi c hc=>by
  rw [Et] at hc
  cases hi:cs[i]? with
  |none=>rw [hi] at hc;cases hc
  |some d=>
   rw [hi] at hc
   simp only [Ah,Aa] at hc
   subst hc
   obtain ⟨u,hu,h1,h2⟩:=h.2 i d hi
   exact ⟨u,hu,h1,m.ac d u h2⟩⟩
theorem Move.part {f:AC->AC} (m:Move X w w' π π' H H' f) {p:Bool×List AC} {v:Value} (h:aM X w π H p v):aM X w' π' H' (p.1,p.2.map f) v:=by
 unfold aM at h⊢
 dsimp only
 split at h
 ·rename_i hp
  rw [Af hp]
  obtain ⟨us,hv,hr⟩:=h
  exact ⟨us,hv,m.EW hr⟩
 ·rename_i hp
  rw [Aj hp]
  intro a ha
  cases hq:p.2 with
  |nil=>rw [hq] at ha;cases ha
  |cons c r=>
   rw [hq] at ha
   simp only [Bl,Es,List.map_eq_nil_iff] at ha
   obtain ⟨rfl,rfl⟩:=ha
   exact m.ac c v (h c hq)
theorem Move.av {f:AC->AC} (m:Move X w w' π π' H H' f) {c:AV} {v:Value} (h:Ba X w π H c v):Ba X w' π' H' (c.map f) v:=by
 cases c with
 | «at»a=>exact m.ac a v h
 |agg cs=>obtain ⟨us,hv,hr⟩:=h;exact ⟨us,hv,m.EW hr⟩
 |Wh fr τ x=>obtain ⟨vs,hv,hr⟩:=h;exact ⟨vs,hv,m.args τ vs x hr⟩
 |Jy l=>
  obtain ⟨vs,hv,hl,hr⟩:=h
  refine ⟨vs,hv,by rw [Nl];exact hl,λi p u hp hu=>?_⟩
  rw [Et] at hp
  cases hi:l[i]? with
  |none=>rw [hi] at hp;cases hp
  |some q=>
   rw [hi] at hp
   simp only [Ah,Aa] at hp
   subst hp
   exact m.part (hr i q u hi hu)
theorem Qn (f:AC->AC) (hu:f .undef= .undef) (l:List AV) (t:Nat):(l.map (·.map f)).getD t .undef=(l.getD t .undef).map f:=by
 simp only [An,Et]
 cases l[t]? with
 |none=>simp [AV.undef,AV.map,hu]
 |some v=>rfl
theorem Move.wB {f:AC->AC} (hu:f .undef= .undef) {st:St} {a:Act} {H':List (Nat×OB)} (m:Move X w w' π π' st.heap H' f) (h:lv X w π st a):
  lv X w' π' {tmps:=st.tmps.map (·.map f),heap:=H'} a:=
 ⟨by simpa using h.size,h.defers,λt=>by
  have:=m.av (h.tmps t)
  unfold St.get
  rw [Qn f hu]
  exact this⟩
theorem AC.map_id (c:AV):c.map (λc=>c)=c:=by
 cases c<;>simp [AV.map]
theorem Xy {w:World} {a:Addr} {v:Value} (h:w.cell? a=some v):a.block<w.heap.size:=by
 unfold World.cell? at h
 cases hb:w.heap[a.block]? with
 |none=>rw [hb] at h;cases h
 |some o=>exact (Hl.1 hb).1
theorem Move.quiet (hw: ∀k,k<w.heap.size->w'.heap[k]?=w.heap[k]?) (hs:w.heap.size<=w'.heap.size):Move X w w' π π H H (λc=>c):=by
 have hc: ∀fr τ cs x,Cells w (Cb X.w0.heap.size X.Sc π fr) τ cs x->Cells w' (Cb X.w0.heap.size X.Sc π fr) τ cs x:=
  fun fr τ cs x h=>Cells.Ep hs (λk hk _=>hw k hk) (λ_ _ h=>h) τ cs x h
 refine ⟨λc v h=>?_,hc⟩
 cases c with
 |data fr τ x=>obtain ⟨cs,h1,h2⟩:=h;exact ⟨cs,hc _ _ _ _ h1,h2⟩
 |sub l i c=>
  obtain ⟨r,e,tid,xs,h1,h2,h3,h4,h5,h6⟩:=h
  exact ⟨r,e,tid,xs,h1,h2,h3,h4,h5,by rw [World.cell?_of_block (hw _ (Xy h6))];exact h6⟩
 |Hf l i j=>
  obtain ⟨r,b,n,sz,g,o,len,cap,h1,h2,h3,h4,h5,h6,h7⟩:=h
  exact ⟨r,b,n,sz,g,o,len,cap,h1,h2,h3,h4,h5,by rw [World.cell?_of_block (hw _ (Xy h6))];exact h6,h7⟩
 |_=>exact h
theorem Ej {w:World} {g:Nat} {o:Obj} (h:w.heap[g]?=some o):g<w.heap.size:=(Hl.1 h).1
theorem Kc.own (h:Kc X w π H) {b:Nat} (hb:Qk π b):b<w.heap.size/\(X.w0.heap.size<=b\/X.gv b):=by
 obtain ⟨l,r,hr,hf⟩:=hb
 have:=h.place l r b hr (h.sub l r b hr hf)
 exact ⟨this.2,this.1⟩
theorem Kc.Bu (h:Kc X w π H) {l:Nat} {r:Real} (hr:π l=some r):r.Bu r.g:=by
 have hl:=h.heap l
 unfold Ei at hl
 split at hl
 ·rw [hl] at hr;cases hr
 ·rw [hr] at hl;exact hl.1.1
 ·rw [hr] at hl;exact hl.1
 ·rw [hr] at hl;exact hl.1.1
 ·obtain ⟨r',h0,h1,_⟩:=hl;rw [hr] at h0;cases h0;exact h1
 ·obtain ⟨r',h0,h1,_⟩:=hl;rw [hr] at h0;cases h0;exact h1
theorem Kc.lt (h:Kc X w π H) {l:Nat} {r:Real} (hr:π l=some r):r.g<w.heap.size/\(X.w0.heap.size<=r.g\/X.gv r.g):=
 h.own ⟨l,r,hr,h.Bu hr⟩
theorem Kc.apart (h:Kc X w π H) {l l':Nat} {r r':Real} {b:Nat} (hr:π l=some r) (eH:π l'=some r') (hb:r.Bu b) (nF:r'.Bu b):l=l':=
 h.inj l l' r r' b hr eH (h.sub l r b hr hb) (h.sub l' r' b eH nF)
theorem Bz.lt {w:World} : ∀(F:List Nat) (τ:Ty) (cs:List Value) (x:τ.den),Bz w F τ cs x-> ∀b∈F,b<w.heap.size:=by
 intro F τ
 induction τ generalizing F with
 |slice e ih=>
  intro cs xs h b hb
  simp only [Bz] at h
  obtain ⟨a,len,cap,_,_,_,h⟩:=h
  rcases h with ⟨_,rfl,_⟩|⟨ad,g,o,Fs,_,_,hg,rfl,hl,Ig⟩
  ·cases hb
  ·rcases Ay.1 hb with rfl|hb
   ·exact hg.lt
   ·obtain ⟨Fi,OO,hbi⟩:=Fc.1 hb
    obtain ⟨i,hi,rfl⟩:=Ko OO
    obtain ⟨es,_,_,hr⟩:=Ig i (xs[i]'(by omega)) _ (Ac _) (Ac hi)
    exact ih _ es _ hr b hbi
 |pair a r cC cw=>
  intro cs x h b hb
  simp only [Bz] at h
  obtain ⟨c1,c2,F1,F2,_,rfl,h1,h2⟩:=h
  rcases Av.1 hb with hb|hb
  ·exact cC _ c1 _ h1 b hb
  ·exact cw _ c2 _ h2 b hb
 |int k=>intro cs x h b hb;simp only [Bz] at h;rw [h.1] at hb;cases hb
 |bool=>intro cs x h b hb;simp only [Bz] at h;rw [h.1] at hb;cases hb
 |str=>intro cs x h b hb;simp only [Bz] at h;rw [h.1] at hb;cases hb
 |unit=>intro cs x h b hb;simp only [Bz] at h;rw [h.1] at hb;cases hb
 |_=>intro cs x h;simp only [Bz] at h
theorem Bz.Ep {w w':World} : ∀(F:List Nat) (τ:Ty) (cs:List Value) (x:τ.den),Bz w F τ cs x->w.heap.size<=w'.heap.size->(∀b∈F,w'.heap[b]?=w.heap[b]?)->Bz w' F τ cs x:=by
 intro F τ
 induction τ generalizing F with
 |slice e ih=>
  intro cs xs h hs hk
  simp only [Bz] at h⊢
  obtain ⟨a,len,cap,h1,h2,h3,h⟩:=h
  refine ⟨a,len,cap,h1,h2,h3,?_⟩
  rcases h with h|⟨ad,g,o,Fs,h4,h0,hg,rfl,hl,Ig⟩
  ·exact .inl h
  ·refine .inr ⟨ad,g,o,Fs,h4,h0,hg.Ep (hk g (by simp)),rfl,hl,λi x Fi hx hF=>?_⟩
   obtain ⟨es,h5,h6,h7⟩:=Ig i x Fi hx hF
   exact ⟨es,h5,λj u hu=>by rw [World.cell?_of_block (hk g (by simp))];exact h6 j u hu,
    ih Fi es x h7 hs λb hb=>hk b (Aq _ (Fc.2 ⟨Fi,Bo hF,hb⟩))⟩
 |pair a r cC cw=>
  intro cs x h hs hk
  simp only [Bz] at h⊢
  obtain ⟨c1,c2,F1,F2,h1,rfl,h2,h3⟩:=h
  exact ⟨c1,c2,F1,F2,h1,rfl,cC F1 c1 _ h2 hs (λb hb=>hk b (Bg _ hb)),cw F2 c2 _ h3 hs (λb hb=>hk b (Bp _ hb))⟩
 |int k=>intro cs x h _ _;exact h
 |bool=>intro cs x h _ _;exact h
 |str=>intro cs x h _ _;exact h
 |unit=>intro cs x h _ _;exact h
 |_=>intro cs x h;simp only [Bz] at h
theorem Bz.cells {w:World} {S:Nat->Prop} : ∀(F:List Nat) (τ:Ty) (cs:List Value) (x:τ.den),Bz w F τ cs x->(∀b∈F,¬S b)->Cells w S τ cs x:=by
 intro F τ
 induction τ generalizing F with
 |slice e ih=>
  intro cs xs h hk
  simp only [Bz] at h
  simp only [Cells]
  obtain ⟨a,len,cap,h1,h2,h3,h⟩:=h
  refine ⟨a,len,cap,h1,h2,h3,?_⟩
  rcases h with h|⟨ad,g,o,Fs,h4,h0,hg,rfl,hl,Ig⟩
  ·exact .inl h.1
  by_cases TM:xs= []
  ·exact .inl TM
  ·have gz:0<cap:=by
    rcases Uz cap with e0|e0
    ·exact absurd (Cj (by omega)) TM
    ·exact e0
   refine .inr ⟨g,o,by rw [h4,h0 gz],hg.lt,hk g (by simp),λi x hx=>?_⟩
   have hi:i<Fs.length:=by have:=(Ai.1 hx).1;omega
   obtain ⟨es,h5,h6,h7⟩:=Ig i x _ hx (Ac hi)
   exact ⟨es,h5,h6,ih _ es x h7 λb hb=>hk b (Aq _ (Fc.2 ⟨_,Ar hi,hb⟩))⟩
 |pair a r cC cw=>
  intro cs x h hk
  simp only [Bz] at h
  simp only [Cells]
  obtain ⟨c1,c2,F1,F2,h1,rfl,h2,h3⟩:=h
  exact ⟨c1,c2,h1,cC F1 c1 _ h2 (λb hb=>hk b (Bg _ hb)),cw F2 c2 _ h3 (λb hb=>hk b (Bp _ hb))⟩
 |int k=>intro cs x h _;simp only [Bz] at h;exact h.2
 |bool=>intro cs x h _;simp only [Bz] at h;exact h.2
 |str=>intro cs x h _;simp only [Bz] at h;exact h.2
 |unit=>intro cs x h _;simp only [Bz] at h;exact h.2
 |_=>intro cs x h;simp only [Bz] at h
theorem Sh.Ep {w w':World} {P P':Nat->Prop} {g o:Nat} {cur:Array Value} {e:Ty} {xs:List e.den} (h:Sh w P g o cur e xs) (hs:w.heap.size<=w'.heap.size)
  (hk: ∀b,b≠g->b<w.heap.size->P b->w'.heap[b]?=w.heap[b]?) (hP: ∀b,P b->P' b):Sh w' P' g o cur e xs:=by
 obtain ⟨Fs,h1,h2,h3,h4⟩:=h
 refine ⟨Fs,h1,h2,λb hb=>hP b (h3 b hb),λi x F hx hF=>?_⟩
 obtain ⟨es,h5,h6,h7⟩:=h4 i x F hx hF
 refine ⟨es,h5,h6,h7.Ep _ _ _ _ hs λb hb=>?_⟩
 have SQ:b∈List.flatten Fs:=Fc.2 ⟨F,Bo hF,hb⟩
 exact hk b (λe=>by subst e;exact (Bw.1 h2).1 SQ) (h7.lt _ _ _ _ b hb) (h3 b SQ)
theorem Oe.to {w w':World} {D D':Nat->Prop} {r:Option Real} {e:Ty} {xs:List e.den} (h:Oe w D r e xs) (hk: ∀q,r=some q->w'.heap[q.g]?=w.heap[q.g]?) (hc: ∀es x,Cells w D e es x->Cells w' D' e es x):Oe w' D' r e xs:=by
 cases r with
 |none=>exact h
 |some q=>
  obtain ⟨h1,cur,ti,h2,h3,h4,h5,h6⟩:=h
  refine ⟨h1,cur,ti,(hk q rfl).trans h2,h3,h4,h5,λi x hx=>?_⟩
  obtain ⟨es,g1,g2,g3⟩:=h6 i x hx
  exact ⟨es,g1,g2,hc es x g3⟩
theorem Uy.Ep {w w':World} {D D':Nat->Prop} {r:Option Real} {e:Ty} {rows:List (List e.den)} {out:Option Nat} (h:Uy w D r e rows out)
  (hk: ∀q b,r=some q->q.Bu b->b<w.heap.size->w'.heap[b]?=w.heap[b]?) (hc: ∀es x,Cells w D e es x->Cells w' D' e es x):Uy w' D' r e rows out:=by
 cases r with
 |none=>have h:rows= []:=h;exact (h:rows= [])
 |some r=>
  obtain ⟨h1,cur,ti,h2,h3,h4,h5,Rs,h6,h7,h8,h9⟩:=h
  refine ⟨h1,cur,ti,(hk r _ rfl h1 (Ej h2)).trans h2,h3,h4,h5,Rs,h6,h7,h8,λi x hx ho=>?_⟩
  obtain ⟨u,R,k1,k2,k3,k4⟩:=h9 i x hx ho
  refine ⟨u,R,k1,k2,k3,k4.to (λq hq=>?_) hc⟩
  subst hq
  obtain ⟨_,cu,FH,k5,_⟩:=k4
  exact hk r _ rfl (h7 i q k2).1 (Ej k5)
theorem KeptAt.Ep {w w':World} {r:Option Real} {kp:Option (Nat×Nat)} (h:KeptAt X w r kp) (hk: ∀q,r=some q->w'.heap[q.g]?=w.heap[q.g]?):KeptAt X w' r kp:=by
 cases kp with
 |none=>trivial
 |some p=>
  obtain ⟨l0,n⟩:=p
  simp only [KeptAt] at h⊢
  cases hp:X.cD l0 with
  |none=>cases r with
   |none=>trivial
   |some r'=>rw [hp] at h;exact h.elim
  |some r0=>cases r with
   |none=>rw [hp] at h;exact h.elim
   |some r'=>
    rw [hp] at h
    obtain ⟨h1,h2,h3,h4⟩:=h
    refine ⟨h1,h2,h3,λj hj hc=>?_⟩
    rw [World.cell?_of_block (show w'.heap[(Addr.mk r0.g (r0.o+j) none).block]?=w.heap[(Addr.mk r0.g (r0.o+j) none).block]? from h1▸hk r' rfl)]
    exact h4 j hj hc
theorem cH.Ep {w w':World} {π π':Pi} {r:Option Real} {e:Ty} {rows:List (List e.den)} {out:Option Nat} {kp:Option (Nat×Nat)} (h:cH X w π r e rows out kp)
  (hk: ∀q b,r=some q->q.Bu b->b<w.heap.size->w'.heap[b]?=w.heap[b]?) (hc: ∀es x,Cells w (Cb X.w0.heap.size X.Sc π false) e es x->Cells w' (Cb X.w0.heap.size X.Sc π' false) e es x):cH X w' π' r e rows out kp:=by
 refine ⟨h.1.Ep hk hc,h.2.Ep λq hq=>?_⟩
 subst hq
 obtain ⟨h1,cur,ti,h2,_⟩:=h.1
 exact hk q _ rfl h1 (Ej h2)
theorem Kc.quiet (h:Kc X w π H) (hb:Below w.heap.size w w'):Kc X w' π H:=by
 have m:Move X w w' π π H H (λc=>c):=Move.quiet (λk hk=>hb.block k hk) hb.size
 refine ⟨h.below.trans (.of (hb.mono h.below.size)),h.sc,h.sub,λl r b h1 h2=>⟨(h.place l r b h1 h2).1,Cy (h.place l r b h1 h2).2 hb.size⟩,h.inj,h.cD,λl=>?_⟩
 have hl:=h.heap l
 unfold Ei at hl⊢
 cases hg:Ap H l with
 |none=>rw [hg] at hl;exact hl
 |some b=>
  rw [hg] at hl
  cases b with
  |arr fr tr e tid xs=>
   simp only [Hg] at hl⊢
   cases hp:π l with
   |none=>rw [hp] at hl;exact hl
   |some r=>
    rw [hp] at hl
    obtain ⟨h1,cur,ti,h2,h3,h4,h5,h6,h7⟩:=hl
    refine ⟨h1,cur,ti,(hb.block _ (Ej h2)).trans h2,h3,h4,h5,λi x hx=>?_,λht=>(h7 ht).Ep hb.size (λb _ Im _=>hb.block b Im) λ_ hb=>hb⟩
    obtain ⟨es,he,hj,hc⟩:=h6 i x hx
    exact ⟨es,he,hj,m.cells _ _ _ _ hc⟩
  |Ev e tid xs=>
   simp only [Kz] at hl⊢
   cases hp:π l with
   |none=>rw [hp] at hl;exact hl
   |some r=>
    rw [hp] at hl
    obtain ⟨h1,cur,ti,h2,h3,h4,h5,h7⟩:=hl
    exact ⟨h1,cur,ti,(hb.block _ (Ej h2)).trans h2,h3,h4,h5,h7.Ep hb.size (λb _ Im _=>hb.block b Im) λ_ hb=>hb⟩
  |var tid vs=>
   obtain ⟨r,h0,h1,cur,h2,h3⟩:=hl
   refine ⟨r,h0,h1,cur,(hb.block _ (Ej h2)).trans h2,?_⟩
   have:=m.EW h3
   simpa using this
  |Bc e te rows out kp=>exact cH.Ep hl (λq b _ _ Im=>hb.block b Im) (λes x=>m.cells false e es x)
  |Qy v f=>
   obtain ⟨r,h0,h1,h2,h3⟩:=hl
   exact ⟨r,h0,h1,h2,Cells.Ep hb.size (λk hk _=>hb.block k hk) (λ_ _ h=>h) _ _ _ h3⟩
theorem Ax.quiet {st:St} {a:Act} (h:Ax X π st a w) (hb:Below w.heap.size w w'):Ax X π st a w':=by
 refine ⟨h.1.quiet hb,?_⟩
 have m:Move X w w' π π st.heap st.heap (λc=>c):=Move.quiet (λk hk=>hb.block k hk) hb.size
 exact ⟨h.2.size,h.2.defers,λt=>by have:=m.av (h.2.tmps t);rwa [AC.map_id] at this⟩
theorem Ax.put {st:St} {a:Act} (h:Ax X π st a w) (dst:Option Tmp) {c:AV} {v:Value} (hv:Ba X w π st.heap c v):Ax X π (st.put dst c) (a.put dst v) w:=by
 cases dst with
 |none=>exact h
 |some d=>
  refine ⟨h.1,⟨by simp [St.put,Act.put,Uo,h.2.size],h.2.defers,λt=>?_⟩⟩
  show Ba X w π st.heap ((Oo st.tmps d c).getD t .undef) ((a.tmps.setIfInBounds d v).getD t undef)
  rw [Ng]
  have Vc:=h.2.size
  by_cases SS:d=t/\t<st.tmps.length
  ·rw [Af SS]
   obtain ⟨rfl,Im⟩:=SS
   have:(a.tmps.setIfInBounds d v).getD d undef=v:=by simp [Vc,Im]
   rw [this];exact hv
  ·rw [Aj SS]
   have:(a.tmps.setIfInBounds d v).getD t undef=a.tmps.getD t undef:=by
    by_cases hd:d=t
    ·subst hd
     have zV: ¬d<a.tmps.size:= λhh=>SS ⟨rfl,Vc▸hh⟩
     simp [Array.setIfInBounds,zV]
    ·simp [Array.getElem?_setIfInBounds_ne hd]
   rw [this];exact h.2.tmps t
end
end Go.Proofs.Ytfgfigkbgecfnaa
