/-
  Part 4 of the proof that the statement FnExactLowerBounds holds.
-/
import Derived.Test.YtfolipnappekaaaGreatCLowerBounds02
namespace Go.Proofs.YtfolipnappekaaaGreat
open Go.RowKit
structure Real where
 g:Nat
 o:Nat
 cap:Nat
 Bb:Nat->Prop
 cl:Nat->Prop
abbrev Pi:=Nat->Option Real
def No (π:Pi) (b:Nat):Prop:= ∃l r,π l=some r/\r.Bb b
def Bg (B:Nat) (Sc:Nat->Prop) (π:Pi) (fr:Bool) (b:Nat):Prop:=No π b\/Sc b\/(fr=true/\b<B)
def Shape (w:World) (g o s cap:Nat):Prop:= ∃(cur:Array Value) (ti:TypeId) (o':Nat),w.heap[g]?=some (.cells cur ti (0,0))/\o=o'*s/\cur.size=(o'+cap)*s/\cap<=maxLen
theorem Shape.lt {w:World} {g o s cap:Nat} (h:Shape w g o s cap):g<w.heap.size:=let ⟨_,_,_,h,_⟩:=h;(Array.getElem?_eq_some_iff.1 h).1
theorem Shape.Ch {w w':World} {g o s cap:Nat} (h:Shape w g o s cap) (hk:w'.heap[g]?=w.heap[g]?):Shape w' g o s cap:=let ⟨c,t,o',h1,h2⟩:=h;⟨c,t,o',hk.trans h1,h2⟩
def Ar (w:World):(F:List Nat)->(τ:Ty)->List Value->τ.den->Prop
 |F, .int k,cs,n=>F= []/\cs= [.int k n]
 |F, .bool,cs,b=>F= []/\cs= [.bool b]
 |F, .str,cs,s=>F= []/\cs= [.string s]
 |F, .slice e,cs,xs=> ∃a len cap,cs= [.slice a len cap]/\len=xs.length/\len<=cap/\((xs= []/\F= []/\a=none/\cap=0)\/ ∃ad g o Fs,a=some ad/\(0<cap->ad=⟨g,o,none⟩)/\Shape w g o e.size cap/\F=g::List.flatten Fs/\Fs.length=xs.length/\
   ∀(i:Nat) (x:e.den) (Fi:List Nat),xs[i]?=some x->Fs[i]?=some Fi-> ∃es:List Value,es.length=e.size/\(∀j u,es[j]?=some u->w.cell? ⟨g,o+i*e.size+j,none⟩=some u)/\Ar w Fi e es x)
 |F, .unit,cs,_=>F= []/\cs= []
 |F, .pair a r,cs,x=> ∃c1 c2 F1 F2,cs=c1++c2/\F=F1++F2/\Ar w F1 a c1 x.1/\Ar w F2 r c2 x.2
 |_,_,_,_=>False
def Qi (w:World) (P:Nat->Prop) (g o:Nat) (cur:Array Value) (e:Ty) (xs:List e.den):Prop:=
 ∃Fs:List (List Nat),Fs.length=xs.length/\(g::List.flatten Fs).Nodup/\(∀b∈List.flatten Fs,P b)/\
  ∀(i:Nat) (x:e.den) (F:List Nat),xs[i]?=some x->Fs[i]?=some F-> ∃es:List Value,es.length=e.size/\(∀j u,es[j]?=some u->cur[(o+i)*e.size+j]?=some u)/\Ar w F e es x
def Eb (r:Option Real) (size off len:Nat) (v:Value):Prop:=
 match r with
 |none=>v= .slice none 0 0/\off=0/\len=0
 |some r=> ∃ad:Addr,v= .slice (some ad) len (r.cap-off)/\off+len<=r.cap/\(off<r.cap->ad=⟨r.g,(r.o+off)*size,none⟩)
def Mr (w:World) (D:Nat->Prop) (r:Option Real) (e:Ty) (xs:List e.den):Prop:=
 match r with
 |none=>xs= []
 |some r=>(r.Bb r.g/\(∀b,r.Bb b->b=r.g))/\ ∃(cur:Array Value) (ti:TypeId),w.heap[r.g]?=some (.cells cur ti (0,0))/\cur.size=(r.o+r.cap)*e.size/\r.cap<=maxLen/\xs.length<=r.cap/\
   (∀(i:Nat) (x:e.den),xs[i]?=some x-> ∃es:List Value,es.length=e.size/\(∀j u,es[j]?=some u->cur[(r.o+i)*e.size+j]?=some u)/\Cells w D e es x)
def Tu (w:World) (D:Nat->Prop) (r:Option Real) (e:Ty) (rows:List (List e.den)) (out:Option Nat):Prop:=
 match r with
 |none=>rows= []
 |some r=>r.Bb r.g/\ ∃(cur:Array Value) (ti:TypeId),w.heap[r.g]?=some (.cells cur ti (0,0))/\cur.size=r.o+r.cap/\r.cap<=maxLen/\rows.length<=r.cap/\
   ∃Rs:List (Option Real),Rs.length=rows.length/\(∀(i:Nat) (q:Real),Rs[i]?=some (some q)->r.Bb q.g/\q.g≠r.g)/\(∀(i j:Nat) (q q':Real),Rs[i]?=some (some q)->Rs[j]?=some (some q')->q.g=q'.g->i=j)/\
    ∀(i:Nat) (x:List e.den),rows[i]?=some x->out≠some i-> ∃u R,cur[r.o+i]?=some u/\Rs[i]?=some R/\Eb R e.size 0 x.length u/\Mr w D R e x
structure Ctx where
 w0:World
 Sc:Nat->Prop
 gv:Nat->Prop
 cg:Pi
structure Dg (B:Nat) (gv:Nat->Prop) (w w':World):Prop where
 os:w'.os=w.os
 tape:w'.tape=w.tape
 output:w'.output=w.output
 size:w.heap.size<=w'.heap.size
 block: ∀k,k<B-> ¬gv k->w'.heap[k]?=w.heap[k]?
theorem Dg.refl (B:Nat) (gv:Nat->Prop) (w:World):Dg B gv w w:=⟨rfl,rfl,rfl,Nat.le_refl _,λ_ _ _=>rfl⟩
theorem Dg.trans {B:Nat} {gv:Nat->Prop} {a b c:World} (h:Dg B gv a b) (k:Dg B gv b c):Dg B gv a c:=
 ⟨k.os.trans h.os,k.tape.trans h.tape,k.output.trans h.output,Nat.le_trans h.size k.size,λi hi hg=>(k.block i hi hg).trans (h.block i hi hg)⟩
theorem Dg.plain {B:Nat} {w w':World} (h:Dg B (λ_=>False) w w'):Below B w w':=⟨h.os,h.tape,h.output,h.size,λk hk=>h.block k hk (λh=>h)⟩
theorem Dg.of {B:Nat} {gv:Nat->Prop} {w w':World} (h:Below B w w'):Dg B gv w w':=⟨h.os,h.tape,h.output,h.size,λk hk _=>h.block k hk⟩
theorem Dg.grown {B:Nat} {gv:Nat->Prop} {a w w':World} {row:Option Nat} (h:Dg B gv a w) (hg:w.grownBy w' row) (hB:B<=w.heap.size) (hr: ∀k,row=some k->B<=k\/gv k):Dg B gv a w':=
 h.trans ⟨hg.os,hg.tape,hg.output,hg.size,λk hk hn=>hg.block k (by omega) (λe=>by rcases hr k e.symm with h|h;omega;exact hn h)⟩
def OB.row:OB->Option (Nat×Nat)
 | .arr _ _ e _ xs=>some (e.size,xs.length)
 | .Dc e _ xs=>some (e.size,xs.length)
 | .Aj _ _ rows _ _=>some (1,rows.length)
 |_=>none
def OB.bJ:OB->Option (Nat×Nat)
 | .Dc e _ xs=>some (e.size,xs.length)
 | .Aj _ _ rows _ _=>some (1,rows.length)
 |_=>none
def OB.qt:OB->Option (Nat×Nat)
 | .Aj e _ rows _ _=>some (rows.length,e.size)
 |_=>none
def Vm:Option Real->Option Real->Prop
 |none,none=>True
 |some r,some r'=>r.g=r'.g/\r.o=r'.o/\r.cap=r'.cap/\ ∀b,r.Bb b↔r'.Bb b
 |_,_=>False
theorem Vm.rfl' (r:Option Real):Vm r r:=by cases r<;>simp [Vm]
section
variable (X:Ctx) (w:World) (π:Pi) (H:List (Nat×OB))
def Dw:AC->Value->Prop
 | .undef,_=>True
 | .skip,v=>v=Go.undef
 | .Hp,v=>v= .slice none 0 0
 | .Qd,v=>v= .pointer none
 | .data fr τ x,v=>Be w (Bg X.w0.heap.size X.Sc π fr) τ v x
 | .own l off len,v=> ∃b sz n,Ad H l=some b/\b.row=some (sz,n)/\off+len<=n/\Eb (π l) sz off len v
 | .Dv l i,v=> ∃r tid vs,Ad H l=some (.var tid vs)/\π l=some r/\v= .pointer (some ⟨r.g,i,none⟩)
 | .Fu l i,v=> ∃r b sz n,Ad H l=some b/\b.row=some (sz,n)/\i<n/\π l=some r/\v= .pointer (some ⟨r.g,(r.o+i)*sz,none⟩)
 | .sub l i c,v=> ∃r b sz n,Ad H l=some b/\b.bJ=some (sz,n)/\π l=some r/\i<n/\(c<sz/\ ∃a n m,v= .slice a n m)/\w.cell? ⟨r.g,(r.o+i)*sz+c,none⟩=some v
 | .Fp l i j,v=> ∃r b n sz g o len cap,Ad H l=some b/\b.qt=some (n,sz)/\π l=some r/\i<n/\j<len/\w.cell? ⟨r.g,r.o+i,none⟩=some (.slice (some ⟨g,o,none⟩) len cap)/\v= .pointer (some ⟨g,o+j*sz,none⟩)
 | .clo f Bv,v=> ∃us:List Value,v= .func (.func f) #[] us.toArray/\us.length=Bv.length/\
   ∀(j:Nat) p,Bv[j]?=some p-> ∃r tid vs,Ad H p.1=some (.var tid vs)/\π p.1=some r/\us[j]?=some (.pointer (some ⟨r.g,p.2,none⟩))
 | .Ga l,v=> ∃r vt m,Ad H l=some (.Pb vt m)/\π l=some r/\v= .map (some r.g)
def Cy (cs:List AC) (us:List Value):Prop:=us.length=cs.length/\ ∀(i:Nat) c,cs[i]?=some c-> ∃u,us[i]?=some u/\u.oneCell'=true/\Dw X w π H c u
def au (p:Bool×List AC) (v:Value):Prop:=if p.1 then ∃us:List Value,v= .agg us.toArray/\Cy X w π H p.2 us else ∀a,p.2= [a]->Dw X w π H a v
def An:AV->Value->Prop
 | .at a,v=>Dw X w π H a v
 | .agg cs,v=> ∃us:List Value,v= .agg us.toArray/\Cy X w π H cs us
 | .Vl fr τ x,v=> ∃vs:List Value,v= .tuple vs.toArray/\Bd w (Bg X.w0.heap.size X.Sc π fr) τ vs x
 | .Ib l,v=> ∃vs:List Value,v= .tuple vs.toArray/\vs.length=l.length/\ ∀(i:Nat) p u,l[i]?=some p->vs[i]?=some u->au X w π H p u
def Fq (r:Option Real) (fr tr:Bool) (e:Ty) (_:TypeId) (xs:List e.den):Prop:=
 match r with
 |none=>xs= []
 |some r=>(r.Bb r.g/\(∀b,r.Bb b->b=r.g)/\(fr=true->X.w0.heap.size<=r.g))/\ ∃(cur:Array Value) (ti:TypeId),w.heap[r.g]?=some (.cells cur ti (0,0))/\cur.size=(r.o+r.cap)*e.size/\r.cap<=maxLen/\xs.length<=r.cap/\
   (∀(i:Nat) (x:e.den),xs[i]?=some x-> ∃es:List Value,es.length=e.size/\(∀j u,es[j]?=some u->cur[(r.o+i)*e.size+j]?=some u)/\Cells w (Bg X.w0.heap.size X.Sc π fr) e es x)/\
   (tr=true->Qi w r.cl r.g r.o cur e xs)
def Iu (r:Option Real) (e:Ty) (_:TypeId) (xs:List e.den):Prop:=
 match r with
 |none=>xs= []
 |some r=>r.Bb r.g/\ ∃(cur:Array Value) (ti:TypeId),w.heap[r.g]?=some (.cells cur ti (0,0))/\cur.size=(r.o+r.cap)*e.size/\r.cap<=maxLen/\xs.length<=r.cap/\Qi w r.Bb r.g r.o cur e xs
def UN (r:Option Real) (tid:TypeId) (vs:List AC):Prop:=
 ∃r',r=some r'/\r'.Bb r'.g/\ ∃cur:Array Value,w.heap[r'.g]?=some (.cells cur tid (0,0))/\Cy X w π H vs cur.toList
def LP (r:Option Real) (v:Ty) (m:ByteArray->Option v.den):Prop:=
 ∃r',r=some r'/\r'.Bb r'.g/\(v.flat=true/\v.Ab=false)/\Cells w (λ_=>False) (.smap v) [.map (some r'.g)] m
def KeptAt (r:Option Real):Option (Nat×Nat)->Prop
 |none=>True
 |some (l0,n)=>match X.cg l0,r with
  |none,none=>True
  |some r0,some r'=>r'.g=r0.g/\r'.o=r0.o/\r'.cap=r0.cap/\ ∀j,j<n->j<r0.cap->w.cell? ⟨r0.g,r0.o+j,none⟩=X.w0.cell? ⟨r0.g,r0.o+j,none⟩
  |_,_=>False
def cn (r:Option Real) (e:Ty) (rows:List (List e.den)) (out:Option Nat) (kp:Option (Nat×Nat)):Prop:=
 Tu w (Bg X.w0.heap.size X.Sc π false) r e rows out/\KeptAt X w r kp
def Cv (l:Nat):Prop:=
 match Ad H l with
 |none=>π l=none
 |some (.arr fr tr e tid xs)=>Fq X w π (π l) fr tr e tid xs
 |some (.Dc e tid xs)=>Iu w (π l) e tid xs
 |some (.Aj e _ rows out kp)=>cn X w π (π l) e rows out kp
 |some (.var tid vs)=>UN X w π H (π l) tid vs
 |some (.Pb v m)=>LP w (π l) v m
structure Ih:Prop where
 below:Dg X.w0.heap.size X.gv X.w0 w
 sc: ∀b,X.Sc b->b<X.w0.heap.size/\ ¬X.gv b
 sub: ∀l r b,π l=some r->r.Bb b->r.cl b
 place: ∀l r b,π l=some r->r.cl b->(X.w0.heap.size<=b\/X.gv b)/\b<w.heap.size
 inj: ∀l l' r r' b,π l=some r->π l'=some r'->r.cl b->r'.cl b->l=l'
 cg: ∀l,Ak<=l->Ad H l≠none->Vm (X.cg l) (π l)
 heap: ∀l,Cv X w π H l
structure nm (st:St) (a:Act):Prop where
 size:a.tmps.size=st.tmps.length
 defers:a.defers= []
 tmps: ∀t,An X w π st.heap (st.get t) (a.tmps.getD t undef)
end
def Al (X:Ctx) (π:Pi) (st:St) (a:Act) (w:World):Prop:=Ih X w π st.heap/\nm X w π st a
def Rel (X:Ctx) (st:St) (a:Act) (w:World):Prop:= ∃π,Al X π st a w
theorem Jn (f:AC->AC): ∀(H:List (Nat×OB)) (l:Nat),Ad (H.map λp=>(p.1,p.2.map f)) l=(Ad H l).map (OB.map f)
 | [],_=>rfl
 |(k,b)::r,l=>by
  simp only [List.map_cons,Ad]
  split
  ·rfl
  ·exact Jn f r l
theorem Hv: ∀(H:List (Nat×OB)) (l:Nat),Ad (Tw H l) l=none
 | [],_=>rfl
 |(k,b)::r,l=>by
  simp only [Tw]
  split
  ·exact Hv r l
  ·rename_i h;simp only [Ad,if_neg h];exact Hv r l
theorem Ir: ∀(H:List (Nat×OB)) (l m:Nat),m≠l->Ad (Tw H l) m=Ad H m
 | [],_,_,_=>rfl
 |(k,b)::r,l,m,Fa=>by
  simp only [Tw]
  split
  ·rename_i h;subst h;simp only [Ad,if_neg (Ne.symm Fa)];exact Ir r _ m Fa
  ·simp only [Ad];split
   ·rfl
   ·exact Ir r l m Fa
theorem Kv: ∀(H:List (Nat×OB)) (l:Nat) (b:OB),Ad H l=none->Ad (Je H l b) l=some b
 | [],l,b,_=>by simp [Je,Ad]
 |(k,c)::r,l,b,h=>by
  simp only [Ad] at h
  split at h
  ·cases h
  ·rename_i hk
   simp only [Je]
   split
   ·simp [Ad]
   ·simp only [Ad,if_neg hk];exact Kv r l b h
theorem Jw: ∀(H:List (Nat×OB)) (l m:Nat) (b:OB),m≠l->Ad (Je H l b) m=Ad H m
 | [],l,m,b,Fa=>by simp [Je,Ad,Ne.symm Fa]
 |(k,c)::r,l,m,b,Fa=>by
  simp only [Je]
  split
  ·simp only [Ad,if_neg (Ne.symm Fa)]
  ·simp only [Ad];split
   ·rfl
   ·exact Jw r l m b Fa
theorem Cd: ∀(H:List (Nat×OB)) (l:Nat) (b c:OB),Ad H l=some c->Ad (Tq H l b) l=some b
 | [],_,_,_,h=>by cases h
 |(k,d)::r,l,b,c,h=>by
  simp only [Ad] at h
  simp only [Tq]
  split
  ·rename_i hk;subst hk;simp [Ad]
  ·rename_i hk;rw [if_neg hk] at h;simp only [Ad,if_neg hk];exact Cd r l b c h
theorem Bs: ∀(H:List (Nat×OB)) (l m:Nat) (b:OB),m≠l->Ad (Tq H l b) m=Ad H m
 | [],_,_,_,_=>rfl
 |(k,d)::r,l,m,b,Fa=>by
  simp only [Tq]
  split
  ·rename_i hk;subst hk;simp only [Ad,if_neg (Ne.symm Fa)]
  ·simp only [Ad];split
   ·rfl
   ·exact Bs r l m b Fa
theorem Xw {α:Type} : ∀(l:List α) (i:Nat) (x:α),(Od l i x).length=l.length
 | [],_,_=>rfl
 |_::_,0,_=>rfl
 |_::r,n+1,x=>by simp [Od,Xw r n x]
theorem Vj {α:Type} (d:α): ∀(l:List α) (i j:Nat) (x:α),(Od l i x).getD j d=if i=j/\j<l.length then x else l.getD j d
 | [],i,j,x=>by simp [Od]
 |_::_,0,0,x=>by simp [Od]
 |_::_,0,j+1,x=>by simp [Od]
 |_::_,n+1,0,x=>by simp [Od]
 |_::r,n+1,j+1,x=>by
  have h:=Vj d r n j x
  simp only [Od,List.getD_cons_succ,h,List.length_cons,Nat.add_right_cancel_iff,Nat.add_lt_add_iff_right]
section
variable {X:Ctx} {w w':World} {π π':Pi} {H H':List (Nat×OB)}
structure Move (X:Ctx) (w w':World) (π π':Pi) (H H':List (Nat×OB)) (f:AC->AC):Prop where
 ac: ∀c v,Dw X w π H c v->Dw X w' π' H' (f c) v
 cells: ∀fr τ cs x,Cells w (Bg X.w0.heap.size X.Sc π fr) τ cs x->Cells w' (Bg X.w0.heap.size X.Sc π' fr) τ cs x
theorem Move.rep {f:AC->AC} (m:Move X w w' π π' H H' f) {fr:Bool} {τ:Ty} {v:Value} {x:τ.den} (h:Be w (Bg X.w0.heap.size X.Sc π fr) τ v x):
  Be w' (Bg X.w0.heap.size X.Sc π' fr) τ v x:=
 let ⟨cs,hc,hv⟩:=h
 ⟨cs,m.cells fr τ cs x hc,hv⟩
theorem Move.args {f:AC->AC} (m:Move X w w' π π' H H' f) {fr:Bool} : ∀(τ:Ty) (vs:List Value) (x:τ.den),Bd w (Bg X.w0.heap.size X.Sc π fr) τ vs x->
  Bd w' (Bg X.w0.heap.size X.Sc π' fr) τ vs x
 | .pair a r,[],x,h=>h
 | .pair a r,v::vs,x,h=>⟨m.rep h.1,m.args r vs x.2 h.2⟩
 | .unit,[],_,_=>trivial
 | .unit,_::_,_,h=>h
 | .int _,_,_,h=>by simp [Bd] at h
 | .bool,_,_,h=>by simp [Bd] at h
 | .str,_,_,h=>by simp [Bd] at h
 | .slice _,_,_,h=>by simp [Bd] at h
 | .ptr _,_,_,h=>by simp [Bd] at h
 | .oslice _,_,_,h=>by simp [Bd] at h
 | .optr _,_,_,h=>by simp [Bd] at h
 | .smap _,_,_,h=>by simp [Bd] at h
 | .clo _ _,_,_,h=>by simp [Bd] at h
theorem Move.RQ {f:AC->AC} (m:Move X w w' π π' H H' f) {cs:List AC} {us:List Value} (h:Cy X w π H cs us):Cy X w' π' H' (cs.map f) us:=
 ⟨by rw [List.length_map];exact h.1,λi c hc=>by
  rw [List.getElem?_map] at hc
  cases hi:cs[i]? with
  |none=>rw [hi] at hc;cases hc
  |some d=>
   rw [hi] at hc
   simp only [Option.map_some,Option.some.injEq] at hc
   subst hc
   obtain ⟨u,hu,h1,h2⟩:=h.2 i d hi
   exact ⟨u,hu,h1,m.ac d u h2⟩⟩
theorem Move.part {f:AC->AC} (m:Move X w w' π π' H H' f) {p:Bool×List AC} {v:Value} (h:au X w π H p v):au X w' π' H' (p.1,p.2.map f) v:=by
 unfold au at h⊢
 dsimp only
 split at h
 ·rename_i hp
  rw [if_pos hp]
  obtain ⟨us,hv,hr⟩:=h
  exact ⟨us,hv,m.RQ hr⟩
 ·rename_i hp
  rw [if_neg hp]
  intro a ha
  cases hq:p.2 with
  |nil=>rw [hq] at ha;cases ha
  |cons c r=>
   rw [hq] at ha
   simp only [List.map_cons,List.cons.injEq,List.map_eq_nil_iff] at ha
   obtain ⟨rfl,rfl⟩:=ha
   exact m.ac c v (h c hq)
theorem Move.av {f:AC->AC} (m:Move X w w' π π' H H' f) {c:AV} {v:Value} (h:An X w π H c v):An X w' π' H' (c.map f) v:=by
 cases c with
 | «at»a=>exact m.ac a v h
 |agg cs=>obtain ⟨us,hv,hr⟩:=h;exact ⟨us,hv,m.RQ hr⟩
 |Vl fr τ x=>obtain ⟨vs,hv,hr⟩:=h;exact ⟨vs,hv,m.args τ vs x hr⟩
 |Ib l=>
  obtain ⟨vs,hv,hl,hr⟩:=h
  refine ⟨vs,hv,by rw [List.length_map];exact hl,λi p u hp hu=>?_⟩
  rw [List.getElem?_map] at hp
  cases hi:l[i]? with
  |none=>rw [hi] at hp;cases hp
  |some q=>
   rw [hi] at hp
   simp only [Option.map_some,Option.some.injEq] at hp
   subst hp
   exact m.part (hr i q u hi hu)
theorem Oj (f:AC->AC) (hu:f .undef= .undef) (l:List AV) (t:Nat):(l.map (·.map f)).getD t .undef=(l.getD t .undef).map f:=by
 simp only [List.getD_eq_getElem?_getD,List.getElem?_map]
 cases l[t]? with
 |none=>simp [AV.undef,AV.map,hu]
 |some v=>rfl
theorem Move.CU {f:AC->AC} (hu:f .undef= .undef) {st:St} {a:Act} {H':List (Nat×OB)} (m:Move X w w' π π' st.heap H' f) (h:nm X w π st a):
  nm X w' π' {tmps:=st.tmps.map (·.map f),heap:=H'} a:=
 ⟨by simpa using h.size,h.defers,λt=>by
  have:=m.av (h.tmps t)
  unfold St.get
  rw [Oj f hu]
  exact this⟩
theorem AC.map_id (c:AV):c.map (λc=>c)=c:=by
 cases c<;>simp [AV.map]
theorem Xd {w:World} {a:Addr} {v:Value} (h:w.cell? a=some v):a.block<w.heap.size:=by
 unfold World.cell? at h
 cases hb:w.heap[a.block]? with
 |none=>rw [hb] at h;cases h
 |some o=>exact (Array.getElem?_eq_some_iff.1 hb).1
theorem Move.quiet (hw: ∀k,k<w.heap.size->w'.heap[k]?=w.heap[k]?) (hs:w.heap.size<=w'.heap.size):Move X w w' π π H H (λc=>c):=by
 have hc: ∀fr τ cs x,Cells w (Bg X.w0.heap.size X.Sc π fr) τ cs x->Cells w' (Bg X.w0.heap.size X.Sc π fr) τ cs x:=
  fun fr τ cs x h=>Cells.Ch hs (λk hk _=>hw k hk) (λ_ _ h=>h) τ cs x h
 refine ⟨λc v h=>?_,hc⟩
 cases c with
 |data fr τ x=>obtain ⟨cs,h1,h2⟩:=h;exact ⟨cs,hc _ _ _ _ h1,h2⟩
 |sub l i c=>
  obtain ⟨r,e,tid,xs,h1,h2,h3,h4,h5,h6⟩:=h
  exact ⟨r,e,tid,xs,h1,h2,h3,h4,h5,by rw [World.cell?_of_block (hw _ (Xd h6))];exact h6⟩
 |Fp l i j=>
  obtain ⟨r,b,n,sz,g,o,len,cap,h1,h2,h3,h4,h5,h6,h7⟩:=h
  exact ⟨r,b,n,sz,g,o,len,cap,h1,h2,h3,h4,h5,by rw [World.cell?_of_block (hw _ (Xd h6))];exact h6,h7⟩
 |_=>exact h
theorem Cs {w:World} {g:Nat} {o:Obj} (h:w.heap[g]?=some o):g<w.heap.size:=(Array.getElem?_eq_some_iff.1 h).1
theorem Ih.own (h:Ih X w π H) {b:Nat} (hb:No π b):b<w.heap.size/\(X.w0.heap.size<=b\/X.gv b):=by
 obtain ⟨l,r,hr,hf⟩:=hb
 have:=h.place l r b hr (h.sub l r b hr hf)
 exact ⟨this.2,this.1⟩
theorem Ih.Bb (h:Ih X w π H) {l:Nat} {r:Real} (hr:π l=some r):r.Bb r.g:=by
 have hl:=h.heap l
 unfold Cv at hl
 split at hl
 ·rw [hl] at hr;cases hr
 ·rw [hr] at hl;exact hl.1.1
 ·rw [hr] at hl;exact hl.1
 ·rw [hr] at hl;exact hl.1.1
 ·obtain ⟨r',h0,h1,_⟩:=hl;rw [hr] at h0;cases h0;exact h1
 ·obtain ⟨r',h0,h1,_⟩:=hl;rw [hr] at h0;cases h0;exact h1
theorem Ih.lt (h:Ih X w π H) {l:Nat} {r:Real} (hr:π l=some r):r.g<w.heap.size/\(X.w0.heap.size<=r.g\/X.gv r.g):=
 h.own ⟨l,r,hr,h.Bb hr⟩
theorem Ih.apart (h:Ih X w π H) {l l':Nat} {r r':Real} {b:Nat} (hr:π l=some r) (al:π l'=some r') (hb:r.Bb b) (cS:r'.Bb b):l=l':=
 h.inj l l' r r' b hr al (h.sub l r b hr hb) (h.sub l' r' b al cS)
theorem Ar.lt {w:World} : ∀(F:List Nat) (τ:Ty) (cs:List Value) (x:τ.den),Ar w F τ cs x-> ∀b∈F,b<w.heap.size:=by
 intro F τ
 induction τ generalizing F with
 |slice e ih=>
  intro cs xs h b hb
  simp only [Ar] at h
  obtain ⟨a,len,cap,_,_,_,h⟩:=h
  rcases h with ⟨_,rfl,_⟩|⟨ad,g,o,Fs,_,_,hg,rfl,hl,Hf⟩
  ·cases hb
  ·rcases List.mem_cons.1 hb with rfl|hb
   ·exact hg.lt
   ·obtain ⟨Fi,hFi,hbi⟩:=List.mem_flatten.1 hb
    obtain ⟨i,hi,rfl⟩:=List.getElem_of_mem hFi
    obtain ⟨es,_,_,hr⟩:=Hf i (xs[i]'(by omega)) _ (List.getElem?_eq_getElem _) (List.getElem?_eq_getElem hi)
    exact ih _ es _ hr b hbi
 |pair a r hJ er=>
  intro cs x h b hb
  simp only [Ar] at h
  obtain ⟨c1,c2,F1,F2,_,rfl,h1,h2⟩:=h
  rcases List.mem_append.1 hb with hb|hb
  ·exact hJ _ c1 _ h1 b hb
  ·exact er _ c2 _ h2 b hb
 |int k=>intro cs x h b hb;simp only [Ar] at h;rw [h.1] at hb;cases hb
 |bool=>intro cs x h b hb;simp only [Ar] at h;rw [h.1] at hb;cases hb
 |str=>intro cs x h b hb;simp only [Ar] at h;rw [h.1] at hb;cases hb
 |unit=>intro cs x h b hb;simp only [Ar] at h;rw [h.1] at hb;cases hb
 |_=>intro cs x h;simp only [Ar] at h
theorem Ar.Ch {w w':World} : ∀(F:List Nat) (τ:Ty) (cs:List Value) (x:τ.den),Ar w F τ cs x->w.heap.size<=w'.heap.size->(∀b∈F,w'.heap[b]?=w.heap[b]?)->Ar w' F τ cs x:=by
 intro F τ
 induction τ generalizing F with
 |slice e ih=>
  intro cs xs h hs hk
  simp only [Ar] at h⊢
  obtain ⟨a,len,cap,h1,h2,h3,h⟩:=h
  refine ⟨a,len,cap,h1,h2,h3,?_⟩
  rcases h with h|⟨ad,g,o,Fs,h4,h0,hg,rfl,hl,Hf⟩
  ·exact .inl h
  ·refine .inr ⟨ad,g,o,Fs,h4,h0,hg.Ch (hk g (by simp)),rfl,hl,λi x Fi hx hF=>?_⟩
   obtain ⟨es,h5,h6,h7⟩:=Hf i x Fi hx hF
   exact ⟨es,h5,λj u hu=>by rw [World.cell?_of_block (hk g (by simp))];exact h6 j u hu,
    ih Fi es x h7 hs λb hb=>hk b (List.mem_cons_of_mem _ (List.mem_flatten.2 ⟨Fi,List.mem_of_getElem? hF,hb⟩))⟩
 |pair a r hJ er=>
  intro cs x h hs hk
  simp only [Ar] at h⊢
  obtain ⟨c1,c2,F1,F2,h1,rfl,h2,h3⟩:=h
  exact ⟨c1,c2,F1,F2,h1,rfl,hJ F1 c1 _ h2 hs (λb hb=>hk b (List.mem_append_left _ hb)),er F2 c2 _ h3 hs (λb hb=>hk b (List.mem_append_right _ hb))⟩
 |int k=>intro cs x h _ _;exact h
 |bool=>intro cs x h _ _;exact h
 |str=>intro cs x h _ _;exact h
 |unit=>intro cs x h _ _;exact h
 |_=>intro cs x h;simp only [Ar] at h
theorem Ar.cells {w:World} {S:Nat->Prop} : ∀(F:List Nat) (τ:Ty) (cs:List Value) (x:τ.den),Ar w F τ cs x->(∀b∈F,¬S b)->Cells w S τ cs x:=by
 intro F τ
 induction τ generalizing F with
 |slice e ih=>
  intro cs xs h hk
  simp only [Ar] at h
  simp only [Cells]
  obtain ⟨a,len,cap,h1,h2,h3,h⟩:=h
  refine ⟨a,len,cap,h1,h2,h3,?_⟩
  rcases h with h|⟨ad,g,o,Fs,h4,h0,hg,rfl,hl,Hf⟩
  ·exact .inl h.1
  by_cases hx0:xs= []
  ·exact .inl hx0
  ·have fj:0<cap:=by
    rcases Nat.eq_zero_or_pos cap with e0|e0
    ·exact absurd (List.eq_nil_of_length_eq_zero (by omega)) hx0
    ·exact e0
   refine .inr ⟨g,o,by rw [h4,h0 fj],hg.lt,hk g (by simp),λi x hx=>?_⟩
   have hi:i<Fs.length:=by have:=(List.getElem?_eq_some_iff.1 hx).1;omega
   obtain ⟨es,h5,h6,h7⟩:=Hf i x _ hx (List.getElem?_eq_getElem hi)
   exact ⟨es,h5,h6,ih _ es x h7 λb hb=>hk b (List.mem_cons_of_mem _ (List.mem_flatten.2 ⟨_,List.getElem_mem hi,hb⟩))⟩
 |pair a r hJ er=>
  intro cs x h hk
  simp only [Ar] at h
  simp only [Cells]
  obtain ⟨c1,c2,F1,F2,h1,rfl,h2,h3⟩:=h
  exact ⟨c1,c2,h1,hJ F1 c1 _ h2 (λb hb=>hk b (List.mem_append_left _ hb)),er F2 c2 _ h3 (λb hb=>hk b (List.mem_append_right _ hb))⟩
 |int k=>intro cs x h _;simp only [Ar] at h;exact h.2
 |bool=>intro cs x h _;simp only [Ar] at h;exact h.2
 |str=>intro cs x h _;simp only [Ar] at h;exact h.2
 |unit=>intro cs x h _;simp only [Ar] at h;exact h.2
 |_=>intro cs x h;simp only [Ar] at h
theorem Qi.Ch {w w':World} {P P':Nat->Prop} {g o:Nat} {cur:Array Value} {e:Ty} {xs:List e.den} (h:Qi w P g o cur e xs) (hs:w.heap.size<=w'.heap.size)
  (hk: ∀b,b≠g->b<w.heap.size->P b->w'.heap[b]?=w.heap[b]?) (hP: ∀b,P b->P' b):Qi w' P' g o cur e xs:=by
 obtain ⟨Fs,h1,h2,h3,h4⟩:=h
 refine ⟨Fs,h1,h2,λb hb=>hP b (h3 b hb),λi x F hx hF=>?_⟩
 obtain ⟨es,h5,h6,h7⟩:=h4 i x F hx hF
 refine ⟨es,h5,h6,h7.Ch _ _ _ _ hs λb hb=>?_⟩
 have MI:b∈List.flatten Fs:=List.mem_flatten.2 ⟨F,List.mem_of_getElem? hF,hb⟩
 exact hk b (λe=>by subst e;exact (List.nodup_cons.1 h2).1 MI) (h7.lt _ _ _ _ b hb) (h3 b MI)
theorem Mr.to {w w':World} {D D':Nat->Prop} {r:Option Real} {e:Ty} {xs:List e.den} (h:Mr w D r e xs) (hk: ∀q,r=some q->w'.heap[q.g]?=w.heap[q.g]?) (hc: ∀es x,Cells w D e es x->Cells w' D' e es x):Mr w' D' r e xs:=by
 cases r with
 |none=>exact h
 |some q=>
  obtain ⟨h1,cur,ti,h2,h3,h4,h5,h6⟩:=h
  refine ⟨h1,cur,ti,(hk q rfl).trans h2,h3,h4,h5,λi x hx=>?_⟩
  obtain ⟨es,g1,g2,g3⟩:=h6 i x hx
  exact ⟨es,g1,g2,hc es x g3⟩
theorem Tu.Ch {w w':World} {D D':Nat->Prop} {r:Option Real} {e:Ty} {rows:List (List e.den)} {out:Option Nat} (h:Tu w D r e rows out)
  (hk: ∀q b,r=some q->q.Bb b->b<w.heap.size->w'.heap[b]?=w.heap[b]?) (hc: ∀es x,Cells w D e es x->Cells w' D' e es x):Tu w' D' r e rows out:=by
 cases r with
 |none=>have h:rows= []:=h;exact (h:rows= [])
 |some r=>
  obtain ⟨h1,cur,ti,h2,h3,h4,h5,Rs,h6,h7,h8,h9⟩:=h
  refine ⟨h1,cur,ti,(hk r _ rfl h1 (Cs h2)).trans h2,h3,h4,h5,Rs,h6,h7,h8,λi x hx ho=>?_⟩
  obtain ⟨u,R,k1,k2,k3,k4⟩:=h9 i x hx ho
  refine ⟨u,R,k1,k2,k3,k4.to (λq hq=>?_) hc⟩
  subst hq
  obtain ⟨_,cu,RN,k5,_⟩:=k4
  exact hk r _ rfl (h7 i q k2).1 (Cs k5)
theorem KeptAt.Ch {w w':World} {r:Option Real} {kp:Option (Nat×Nat)} (h:KeptAt X w r kp) (hk: ∀q,r=some q->w'.heap[q.g]?=w.heap[q.g]?):KeptAt X w' r kp:=by
 cases kp with
 |none=>trivial
 |some p=>
  obtain ⟨l0,n⟩:=p
  simp only [KeptAt] at h⊢
  cases hp:X.cg l0 with
  |none=>cases r with
   |none=>trivial
   |some r'=>rw [hp] at h;exact h.elim
  |some r0=>cases r with
   |none=>rw [hp] at h;exact h.elim
   |some r'=>
    rw [hp] at h
    obtain ⟨h1,h2,h3,h4⟩:=h
    refine ⟨h1,h2,h3,λj hj hc=>?_⟩
    rw [World.cell?_of_block (show w'.heap[(Addr.mk r0.g (r0.o+j) none).block]?=w.heap[(Addr.mk r0.g (r0.o+j) none).block]? from h1▸hk r' rfl)]
    exact h4 j hj hc
theorem cn.Ch {w w':World} {π π':Pi} {r:Option Real} {e:Ty} {rows:List (List e.den)} {out:Option Nat} {kp:Option (Nat×Nat)} (h:cn X w π r e rows out kp)
  (hk: ∀q b,r=some q->q.Bb b->b<w.heap.size->w'.heap[b]?=w.heap[b]?) (hc: ∀es x,Cells w (Bg X.w0.heap.size X.Sc π false) e es x->Cells w' (Bg X.w0.heap.size X.Sc π' false) e es x):cn X w' π' r e rows out kp:=by
 refine ⟨h.1.Ch hk hc,h.2.Ch λq hq=>?_⟩
 subst hq
 obtain ⟨h1,cur,ti,h2,_⟩:=h.1
 exact hk q _ rfl h1 (Cs h2)
theorem Ih.quiet (h:Ih X w π H) (hb:Below w.heap.size w w'):Ih X w' π H:=by
 have m:Move X w w' π π H H (λc=>c):=Move.quiet (λk hk=>hb.block k hk) hb.size
 refine ⟨h.below.trans (.of (hb.mono h.below.size)),h.sc,h.sub,λl r b h1 h2=>⟨(h.place l r b h1 h2).1,Nat.lt_of_lt_of_le (h.place l r b h1 h2).2 hb.size⟩,h.inj,h.cg,λl=>?_⟩
 have hl:=h.heap l
 unfold Cv at hl⊢
 cases hg:Ad H l with
 |none=>rw [hg] at hl;exact hl
 |some b=>
  rw [hg] at hl
  cases b with
  |arr fr tr e tid xs=>
   simp only [Fq] at hl⊢
   cases hp:π l with
   |none=>rw [hp] at hl;exact hl
   |some r=>
    rw [hp] at hl
    obtain ⟨h1,cur,ti,h2,h3,h4,h5,h6,h7⟩:=hl
    refine ⟨h1,cur,ti,(hb.block _ (Cs h2)).trans h2,h3,h4,h5,λi x hx=>?_,λht=>(h7 ht).Ch hb.size (λb _ Fc _=>hb.block b Fc) λ_ hb=>hb⟩
    obtain ⟨es,he,hj,hc⟩:=h6 i x hx
    exact ⟨es,he,hj,m.cells _ _ _ _ hc⟩
  |Dc e tid xs=>
   simp only [Iu] at hl⊢
   cases hp:π l with
   |none=>rw [hp] at hl;exact hl
   |some r=>
    rw [hp] at hl
    obtain ⟨h1,cur,ti,h2,h3,h4,h5,h7⟩:=hl
    exact ⟨h1,cur,ti,(hb.block _ (Cs h2)).trans h2,h3,h4,h5,h7.Ch hb.size (λb _ Fc _=>hb.block b Fc) λ_ hb=>hb⟩
  |var tid vs=>
   obtain ⟨r,h0,h1,cur,h2,h3⟩:=hl
   refine ⟨r,h0,h1,cur,(hb.block _ (Cs h2)).trans h2,?_⟩
   have:=m.RQ h3
   simpa using this
  |Aj e te rows out kp=>exact cn.Ch hl (λq b _ _ Fc=>hb.block b Fc) (λes x=>m.cells false e es x)
  |Pb v f=>
   obtain ⟨r,h0,h1,h2,h3⟩:=hl
   exact ⟨r,h0,h1,h2,Cells.Ch hb.size (λk hk _=>hb.block k hk) (λ_ _ h=>h) _ _ _ h3⟩
theorem Al.quiet {st:St} {a:Act} (h:Al X π st a w) (hb:Below w.heap.size w w'):Al X π st a w':=by
 refine ⟨h.1.quiet hb,?_⟩
 have m:Move X w w' π π st.heap st.heap (λc=>c):=Move.quiet (λk hk=>hb.block k hk) hb.size
 exact ⟨h.2.size,h.2.defers,λt=>by have:=m.av (h.2.tmps t);rwa [AC.map_id] at this⟩
theorem Al.put {st:St} {a:Act} (h:Al X π st a w) (dst:Option Tmp) {c:AV} {v:Value} (hv:An X w π st.heap c v):Al X π (st.put dst c) (a.put dst v) w:=by
 cases dst with
 |none=>exact h
 |some d=>
  refine ⟨h.1,⟨by simp [St.put,Act.put,Xw,h.2.size],h.2.defers,λt=>?_⟩⟩
  show An X w π st.heap ((Od st.tmps d c).getD t .undef) ((a.tmps.setIfInBounds d v).getD t undef)
  rw [Vj]
  have Xm:=h.2.size
  by_cases hdt:d=t/\t<st.tmps.length
  ·rw [if_pos hdt]
   obtain ⟨rfl,Fc⟩:=hdt
   have:(a.tmps.setIfInBounds d v).getD d undef=v:=by simp [Xm,Fc]
   rw [this];exact hv
  ·rw [if_neg hdt]
   have:(a.tmps.setIfInBounds d v).getD t undef=a.tmps.getD t undef:=by
    by_cases hd:d=t
    ·subst hd
     have jH: ¬d<a.tmps.size:= λhh=>hdt ⟨rfl,Xm▸hh⟩
     simp [Array.setIfInBounds,jH]
    ·simp [Array.getElem?_setIfInBounds_ne hd]
   rw [this];exact h.2.tmps t
end
end Go.Proofs.YtfolipnappekaaaGreat
