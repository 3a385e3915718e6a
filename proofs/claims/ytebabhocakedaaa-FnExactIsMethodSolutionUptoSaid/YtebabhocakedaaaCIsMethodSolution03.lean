/-
  Part 4 of the proof that the statement FnExactIsMethodSolution holds.
-/
import Derived.Test.YtebabhocakedaaaCIsMethodSolution02
namespace Go.Proofs.Ytebabhocakedaaa
open Go.RowKit
structure Real where
 g:Nat
 o:Nat
 cap:Nat
 Av:Nat→Prop
 cl:Nat→Prop
abbrev Pi:=Nat→Option Real
def Own (π:Pi) (b:Nat):Prop:= ∃l r,π l=some r∧r.Av b
def Bb (B:Nat) (Sc:Nat→Prop) (π:Pi) (fr:Bool) (b:Nat):Prop:=Own π b∨Sc b∨(fr=true∧b<B)
def Shape (w:World) (g o s cap:Nat):Prop:= ∃(cur:Array Value) (ti:TypeId) (o':Nat),w.heap[g]?=some (.cells cur ti (0,0))∧o=o'*s∧cur.size=(o'+cap)*s∧cap≤maxLen
theorem Shape.lt {w:World} {g o s cap:Nat} (h:Shape w g o s cap):g<w.heap.size:=let ⟨_,_,_,h,_⟩:=h;(Array.getElem?_eq_some_iff.1 h).1
theorem Shape.Ch {w w':World} {g o s cap:Nat} (h:Shape w g o s cap) (hk:w'.heap[g]?=w.heap[g]?):Shape w' g o s cap:=let ⟨c,t,o',h1,h2⟩:=h;⟨c,t,o',hk.trans h1,h2⟩
def Bd (w:World):(F:List Nat)→(τ:Ty)→List Value→τ.den→Prop
 |F, .int k,cs,n=>F= []∧cs= [.int k n]
 |F, .bool,cs,b=>F= []∧cs= [.bool b]
 |F, .str,cs,s=>F= []∧cs= [.string s]
 |F, .slice e,cs,xs=> ∃a len cap,cs= [.slice a len cap]∧len=xs.length∧len≤cap∧((xs= []∧F= []∧a=none∧cap=0)∨ ∃ad g o Fs,a=some ad∧(0<cap→ad=⟨g,o,none⟩)∧Shape w g o e.size cap∧F=g::List.flatten Fs∧Fs.length=xs.length∧
   ∀(i:Nat) (x:e.den) (Fi:List Nat),xs[i]?=some x→Fs[i]?=some Fi→ ∃es:List Value,es.length=e.size∧(∀j u,es[j]?=some u→w.cell? ⟨g,o+i*e.size+j,none⟩=some u)∧Bd w Fi e es x)
 |F, .unit,cs,_=>F= []∧cs= []
 |F, .pair a r,cs,x=> ∃c1 c2 F1 F2,cs=c1++c2∧F=F1++F2∧Bd w F1 a c1 x.1∧Bd w F2 r c2 x.2
 |_,_,_,_=>False
def Mu (w:World) (P:Nat→Prop) (g o:Nat) (cur:Array Value) (e:Ty) (xs:List e.den):Prop:=
 ∃Fs:List (List Nat),Fs.length=xs.length∧(g::List.flatten Fs).Nodup∧(∀b∈List.flatten Fs,P b)∧
  ∀(i:Nat) (x:e.den) (F:List Nat),xs[i]?=some x→Fs[i]?=some F→ ∃es:List Value,es.length=e.size∧(∀j u,es[j]?=some u→cur[(o+i)*e.size+j]?=some u)∧Bd w F e es x
def De (r:Option Real) (size off len:Nat) (v:Value):Prop:=
 match r with
 |none=>v= .slice none 0 0∧off=0∧len=0
 |some r=> ∃ad:Addr,v= .slice (some ad) len (r.cap-off)∧off+len≤r.cap∧(off<r.cap→ad=⟨r.g,(r.o+off)*size,none⟩)
def Kf (w:World) (D:Nat→Prop) (r:Option Real) (e:Ty) (xs:List e.den):Prop:=
 match r with
 |none=>xs= []
 |some r=>(r.Av r.g∧(∀b,r.Av b→b=r.g))∧ ∃(cur:Array Value) (ti:TypeId),w.heap[r.g]?=some (.cells cur ti (0,0))∧cur.size=(r.o+r.cap)*e.size∧r.cap≤maxLen∧xs.length≤r.cap∧
   (∀(i:Nat) (x:e.den),xs[i]?=some x→ ∃es:List Value,es.length=e.size∧(∀j u,es[j]?=some u→cur[(r.o+i)*e.size+j]?=some u)∧Cells w D e es x)
def Pk (w:World) (D:Nat→Prop) (r:Option Real) (e:Ty) (rows:List (List e.den)) (out:Option Nat):Prop:=
 match r with
 |none=>rows= []
 |some r=>r.Av r.g∧ ∃(cur:Array Value) (ti:TypeId),w.heap[r.g]?=some (.cells cur ti (0,0))∧cur.size=r.o+r.cap∧r.cap≤maxLen∧rows.length≤r.cap∧
   ∃Rs:List (Option Real),Rs.length=rows.length∧(∀(i:Nat) (q:Real),Rs[i]?=some (some q)→r.Av q.g∧q.g≠r.g)∧(∀(i j:Nat) (q q':Real),Rs[i]?=some (some q)→Rs[j]?=some (some q')→q.g=q'.g→i=j)∧
    ∀(i:Nat) (x:List e.den),rows[i]?=some x→out≠some i→ ∃u R,cur[r.o+i]?=some u∧Rs[i]?=some R∧De R e.size 0 x.length u∧Kf w D R e x
structure Ctx where
 w0:World
 Sc:Nat→Prop
 gv:Nat→Prop
 pin:Pi
structure Fa (B:Nat) (gv:Nat→Prop) (w w':World):Prop where
 os:w'.os=w.os
 tape:w'.tape=w.tape
 output:w'.output=w.output
 size:w.heap.size≤w'.heap.size
 block: ∀k,k<B→ ¬gv k→w'.heap[k]?=w.heap[k]?
theorem Fa.refl (B:Nat) (gv:Nat→Prop) (w:World):Fa B gv w w:=⟨rfl,rfl,rfl,Nat.le_refl _,fun _ _ _=>rfl⟩
theorem Fa.trans {B:Nat} {gv:Nat→Prop} {a b c:World} (h:Fa B gv a b) (k:Fa B gv b c):Fa B gv a c:=
 ⟨k.os.trans h.os,k.tape.trans h.tape,k.output.trans h.output,Nat.le_trans h.size k.size,fun i hi hg=>(k.block i hi hg).trans (h.block i hi hg)⟩
theorem Fa.plain {B:Nat} {w w':World} (h:Fa B (fun _=>False) w w'):Below B w w':=⟨h.os,h.tape,h.output,h.size,fun k hk=>h.block k hk (fun h=>h)⟩
theorem Fa.of {B:Nat} {gv:Nat→Prop} {w w':World} (h:Below B w w'):Fa B gv w w':=⟨h.os,h.tape,h.output,h.size,fun k hk _=>h.block k hk⟩
theorem Fa.grown {B:Nat} {gv:Nat→Prop} {a w w':World} {row:Option Nat} (h:Fa B gv a w) (hg:w.grownBy w' row) (hB:B≤w.heap.size) (hr: ∀k,row=some k→B≤k∨gv k):Fa B gv a w':=
 h.trans ⟨hg.os,hg.tape,hg.output,hg.size,fun k hk hn=>hg.block k (by omega) (fun e=>by rcases hr k e.symm with h|h;omega;exact hn h)⟩
def OB.row:OB→Option (Nat×Nat)
 | .arr _ _ e _ xs=>some (e.size,xs.length)
 | .xarr e _ xs=>some (e.size,xs.length)
 | .grid _ _ rows _ _=>some (1,rows.length)
 |_=>none
def OB.inn:OB→Option (Nat×Nat)
 | .xarr e _ xs=>some (e.size,xs.length)
 | .grid _ _ rows _ _=>some (1,rows.length)
 |_=>none
def OB.gsz:OB→Option (Nat×Nat)
 | .grid e _ rows _ _=>some (rows.length,e.size)
 |_=>none
def Qu:Option Real→Option Real→Prop
 |none,none=>True
 |some r,some r'=>r.g=r'.g∧r.o=r'.o∧r.cap=r'.cap∧ ∀b,r.Av b↔r'.Av b
 |_,_=>False
theorem Qu.Hl (r:Option Real):Qu r r:=by cases r<;>simp [Qu]
section
variable (X:Ctx) (w:World) (π:Pi) (H:List (Nat×OB))
def Df:AC→Value→Prop
 | .undef,_=>True
 | .skip,v=>v=Go.undef
 | .nilv,v=>v= .slice none 0 0
 | .nilp,v=>v= .pointer none
 | .data fr τ x,v=>Bc w (Bb X.w0.heap.size X.Sc π fr) τ v x
 | .own l off len,v=> ∃b sz n,Ac H l=some b∧b.row=some (sz,n)∧off+len≤n∧De (π l) sz off len v
 | .vptr l i,v=> ∃r tid vs,Ac H l=some (.var tid vs)∧π l=some r∧v= .pointer (some ⟨r.g,i,none⟩)
 | .eptr l i,v=> ∃r b sz n,Ac H l=some b∧b.row=some (sz,n)∧i<n∧π l=some r∧v= .pointer (some ⟨r.g,(r.o+i)*sz,none⟩)
 | .sub l i c,v=> ∃r b sz n,Ac H l=some b∧b.inn=some (sz,n)∧π l=some r∧i<n∧(c<sz∧ ∃a n m,v= .slice a n m)∧w.cell? ⟨r.g,(r.o+i)*sz+c,none⟩=some v
 | .sptr l i j,v=> ∃r b n sz g o len cap,Ac H l=some b∧b.gsz=some (n,sz)∧π l=some r∧i<n∧j<len∧w.cell? ⟨r.g,r.o+i,none⟩=some (.slice (some ⟨g,o,none⟩) len cap)∧v= .pointer (some ⟨g,o+j*sz,none⟩)
 | .clo f caps,v=> ∃us:List Value,v= .func (.func f) #[] us.toArray∧us.length=caps.length∧
   ∀(j:Nat) p,caps[j]?=some p→ ∃r tid vs,Ac H p.1=some (.var tid vs)∧π p.1=some r∧us[j]?=some (.pointer (some ⟨r.g,p.2,none⟩))
 | .mapr l,v=> ∃r vt m,Ac H l=some (.smp vt m)∧π l=some r∧v= .map (some r.g)
def Cl (cs:List AC) (us:List Value):Prop:=us.length=cs.length∧ ∀(i:Nat) c,cs[i]?=some c→ ∃u,us[i]?=some u∧u.oneCell'=true∧Df X w π H c u
def Uy (p:Bool×List AC) (v:Value):Prop:=if p.1 then ∃us:List Value,v= .agg us.toArray∧Cl X w π H p.2 us else ∀a,p.2= [a]→Df X w π H a v
def Ai:AV→Value→Prop
 | .at a,v=>Df X w π H a v
 | .agg cs,v=> ∃us:List Value,v= .agg us.toArray∧Cl X w π H cs us
 | .tup fr τ x,v=> ∃vs:List Value,v= .tuple vs.toArray∧Au w (Bb X.w0.heap.size X.Sc π fr) τ vs x
 | .tupc l,v=> ∃vs:List Value,v= .tuple vs.toArray∧vs.length=l.length∧ ∀(i:Nat) p u,l[i]?=some p→vs[i]?=some u→Uy X w π H p u
def El (r:Option Real) (fr tr:Bool) (e:Ty) (_:TypeId) (xs:List e.den):Prop:=
 match r with
 |none=>xs= []
 |some r=>(r.Av r.g∧(∀b,r.Av b→b=r.g)∧(fr=true→X.w0.heap.size≤r.g))∧ ∃(cur:Array Value) (ti:TypeId),w.heap[r.g]?=some (.cells cur ti (0,0))∧cur.size=(r.o+r.cap)*e.size∧r.cap≤maxLen∧xs.length≤r.cap∧
   (∀(i:Nat) (x:e.den),xs[i]?=some x→ ∃es:List Value,es.length=e.size∧(∀j u,es[j]?=some u→cur[(r.o+i)*e.size+j]?=some u)∧Cells w (Bb X.w0.heap.size X.Sc π fr) e es x)∧
   (tr=true→Mu w r.cl r.g r.o cur e xs)
def Hf (r:Option Real) (e:Ty) (_:TypeId) (xs:List e.den):Prop:=
 match r with
 |none=>xs= []
 |some r=>r.Av r.g∧ ∃(cur:Array Value) (ti:TypeId),w.heap[r.g]?=some (.cells cur ti (0,0))∧cur.size=(r.o+r.cap)*e.size∧r.cap≤maxLen∧xs.length≤r.cap∧Mu w r.Av r.g r.o cur e xs
def Bef (r:Option Real) (tid:TypeId) (vs:List AC):Prop:=
 ∃r',r=some r'∧r'.Av r'.g∧ ∃cur:Array Value,w.heap[r'.g]?=some (.cells cur tid (0,0))∧Cl X w π H vs cur.toList
def Bav (r:Option Real) (v:Ty) (m:ByteArray→Option v.den):Prop:=
 ∃r',r=some r'∧r'.Av r'.g∧(v.flat=true∧v.Ab=false)∧Cells w (fun _=>False) (.smap v) [.map (some r'.g)] m
def KeptAt (r:Option Real):Option (Nat×Nat)→Prop
 |none=>True
 |some (l0,n)=>match X.pin l0,r with
  |none,none=>True
  |some r0,some r'=>r'.g=r0.g∧r'.o=r0.o∧r'.cap=r0.cap∧ ∀j,j<n→j<r0.cap→w.cell? ⟨r0.g,r0.o+j,none⟩=X.w0.cell? ⟨r0.g,r0.o+j,none⟩
  |_,_=>False
def Xt (r:Option Real) (e:Ty) (rows:List (List e.den)) (out:Option Nat) (kp:Option (Nat×Nat)):Prop:=
 Pk w (Bb X.w0.heap.size X.Sc π false) r e rows out∧KeptAt X w r kp
def Cq (l:Nat):Prop:=
 match Ac H l with
 |none=>π l=none
 |some (.arr fr tr e tid xs)=>El X w π (π l) fr tr e tid xs
 |some (.xarr e tid xs)=>Hf w (π l) e tid xs
 |some (.grid e _ rows out kp)=>Xt X w π (π l) e rows out kp
 |some (.var tid vs)=>Bef X w π H (π l) tid vs
 |some (.smp v m)=>Bav w (π l) v m
structure Gj:Prop where
 below:Fa X.w0.heap.size X.gv X.w0 w
 sc: ∀b,X.Sc b→b<X.w0.heap.size∧ ¬X.gv b
 sub: ∀l r b,π l=some r→r.Av b→r.cl b
 place: ∀l r b,π l=some r→r.cl b→(X.w0.heap.size≤b∨X.gv b)∧b<w.heap.size
 inj: ∀l l' r r' b,π l=some r→π l'=some r'→r.cl b→r'.cl b→l=l'
 pin: ∀l,Ag≤l→Ac H l≠none→Qu (X.pin l) (π l)
 heap: ∀l,Cq X w π H l
structure Ai9 (st:St) (a:Act):Prop where
 size:a.tmps.size=st.tmps.length
 defers:a.defers= []
 tmps: ∀t,Ai X w π st.heap (st.get t) (a.tmps.getD t undef)
end
def Af (X:Ctx) (π:Pi) (st:St) (a:Act) (w:World):Prop:=Gj X w π st.heap∧Ai9 X w π st a
def Rel (X:Ctx) (st:St) (a:Act) (w:World):Prop:= ∃π,Af X π st a w
theorem Hw (f:AC→AC): ∀(H:List (Nat×OB)) (l:Nat),Ac (H.map fun p=>(p.1,p.2.map f)) l=(Ac H l).map (OB.map f)
 | [],_=>rfl
 |(k,b)::r,l=>by
  simp only [List.map_cons,Ac]
  split
  ·rfl
  ·exact Hw f r l
theorem Ge: ∀(H:List (Nat×OB)) (l:Nat),Ac (Pn H l) l=none
 | [],_=>rfl
 |(k,b)::r,l=>by
  simp only [Pn]
  split
  ·exact Ge r l
  ·rename_i h;simp only [Ac,if_neg h];exact Ge r l
theorem Gy: ∀(H:List (Nat×OB)) (l m:Nat),m≠l→Ac (Pn H l) m=Ac H m
 | [],_,_,_=>rfl
 |(k,b)::r,l,m,hne=>by
  simp only [Pn]
  split
  ·rename_i h;subst h;simp only [Ac,if_neg (Ne.symm hne)];exact Gy r _ m hne
  ·simp only [Ac];split
   ·rfl
   ·exact Gy r l m hne
theorem Jc: ∀(H:List (Nat×OB)) (l:Nat) (b:OB),Ac H l=none→Ac (Hr H l b) l=some b
 | [],l,b,_=>by simp [Hr,Ac]
 |(k,c)::r,l,b,h=>by
  simp only [Ac] at h
  split at h
  ·cases h
  ·rename_i hk
   simp only [Hr]
   split
   ·simp [Ac]
   ·simp only [Ac,if_neg hk];exact Jc r l b h
theorem Ic: ∀(H:List (Nat×OB)) (l m:Nat) (b:OB),m≠l→Ac (Hr H l b) m=Ac H m
 | [],l,m,b,hne=>by simp [Hr,Ac,Ne.symm hne]
 |(k,c)::r,l,m,b,hne=>by
  simp only [Hr]
  split
  ·simp only [Ac,if_neg (Ne.symm hne)]
  ·simp only [Ac];split
   ·rfl
   ·exact Ic r l m b hne
theorem Cf: ∀(H:List (Nat×OB)) (l:Nat) (b c:OB),Ac H l=some c→Ac (Tj H l b) l=some b
 | [],_,_,_,h=>by cases h
 |(k,d)::r,l,b,c,h=>by
  simp only [Ac] at h
  simp only [Tj]
  split
  ·rename_i hk;subst hk;simp [Ac]
  ·rename_i hk;rw [if_neg hk] at h;simp only [Ac,if_neg hk];exact Cf r l b c h
theorem Cb: ∀(H:List (Nat×OB)) (l m:Nat) (b:OB),m≠l→Ac (Tj H l b) m=Ac H m
 | [],_,_,_,_=>rfl
 |(k,d)::r,l,m,b,hne=>by
  simp only [Tj]
  split
  ·rename_i hk;subst hk;simp only [Ac,if_neg (Ne.symm hne)]
  ·simp only [Ac];split
   ·rfl
   ·exact Cb r l m b hne
theorem So {α:Type} : ∀(l:List α) (i:Nat) (x:α),(Ln l i x).length=l.length
 | [],_,_=>rfl
 |_::_,0,_=>rfl
 |_::r,n+1,x=>by simp [Ln,So r n x]
theorem Qq {α:Type} (d:α): ∀(l:List α) (i j:Nat) (x:α),(Ln l i x).getD j d=if i=j∧j<l.length then x else l.getD j d
 | [],i,j,x=>by simp [Ln]
 |_::_,0,0,x=>by simp [Ln]
 |_::_,0,j+1,x=>by simp [Ln]
 |_::_,n+1,0,x=>by simp [Ln]
 |_::r,n+1,j+1,x=>by
  have h:=Qq d r n j x
  simp only [Ln,List.getD_cons_succ,h,List.length_cons,Nat.add_right_cancel_iff,Nat.add_lt_add_iff_right]
section
variable {X:Ctx} {w w':World} {π π':Pi} {H H':List (Nat×OB)}
structure Move (X:Ctx) (w w':World) (π π':Pi) (H H':List (Nat×OB)) (f:AC→AC):Prop where
 ac: ∀c v,Df X w π H c v→Df X w' π' H' (f c) v
 cells: ∀fr τ cs x,Cells w (Bb X.w0.heap.size X.Sc π fr) τ cs x→Cells w' (Bb X.w0.heap.size X.Sc π' fr) τ cs x
theorem Move.rep {f:AC→AC} (m:Move X w w' π π' H H' f) {fr:Bool} {τ:Ty} {v:Value} {x:τ.den} (h:Bc w (Bb X.w0.heap.size X.Sc π fr) τ v x):
  Bc w' (Bb X.w0.heap.size X.Sc π' fr) τ v x:=
 let ⟨cs,hc,hv⟩:=h
 ⟨cs,m.cells fr τ cs x hc,hv⟩
theorem Move.args {f:AC→AC} (m:Move X w w' π π' H H' f) {fr:Bool} : ∀(τ:Ty) (vs:List Value) (x:τ.den),Au w (Bb X.w0.heap.size X.Sc π fr) τ vs x→
  Au w' (Bb X.w0.heap.size X.Sc π' fr) τ vs x
 | .pair a r,[],x,h=>h
 | .pair a r,v::vs,x,h=>⟨m.rep h.1,m.args r vs x.2 h.2⟩
 | .unit,[],_,_=>trivial
 | .unit,_::_,_,h=>h
 | .int _,_,_,h=>by simp [Au] at h
 | .bool,_,_,h=>by simp [Au] at h
 | .str,_,_,h=>by simp [Au] at h
 | .slice _,_,_,h=>by simp [Au] at h
 | .ptr _,_,_,h=>by simp [Au] at h
 | .oslice _,_,_,h=>by simp [Au] at h
 | .optr _,_,_,h=>by simp [Au] at h
 | .smap _,_,_,h=>by simp [Au] at h
 | .clo _ _,_,_,h=>by simp [Au] at h
theorem Move.acs {f:AC→AC} (m:Move X w w' π π' H H' f) {cs:List AC} {us:List Value} (h:Cl X w π H cs us):Cl X w' π' H' (cs.map f) us:=
 ⟨by rw [List.length_map];exact h.1,fun i c hc=>by
  rw [List.getElem?_map] at hc
  cases hi:cs[i]? with
  |none=>rw [hi] at hc;cases hc
  |some d=>
   rw [hi] at hc
   simp only [Option.map_some,Option.some.injEq] at hc
   subst hc
   obtain ⟨u,hu,h1,h2⟩:=h.2 i d hi
   exact ⟨u,hu,h1,m.ac d u h2⟩⟩
theorem Move.part {f:AC→AC} (m:Move X w w' π π' H H' f) {p:Bool×List AC} {v:Value} (h:Uy X w π H p v):Uy X w' π' H' (p.1,p.2.map f) v:=by
 unfold Uy at h⊢
 dsimp only
 split at h
 ·rename_i hp
  rw [if_pos hp]
  obtain ⟨us,hv,hr⟩:=h
  exact ⟨us,hv,m.acs hr⟩
 ·rename_i hp
  rw [if_neg hp]
  intro a ha
  cases hq:p.2 with
  |nil=>rw [hq] at ha;cases ha
  |cons c r=>
   rw [hq] at ha
   simp only [List.map_cons,List.cons.injEq,List.map_eq_nil_iff] at ha
   obtain ⟨rfl,rfl⟩:=ha
   exact m.ac c v (h c hq)
theorem Move.av {f:AC→AC} (m:Move X w w' π π' H H' f) {c:AV} {v:Value} (h:Ai X w π H c v):Ai X w' π' H' (c.map f) v:=by
 cases c with
 | «at»a=>exact m.ac a v h
 |agg cs=>obtain ⟨us,hv,hr⟩:=h;exact ⟨us,hv,m.acs hr⟩
 |tup fr τ x=>obtain ⟨vs,hv,hr⟩:=h;exact ⟨vs,hv,m.args τ vs x hr⟩
 |tupc l=>
  obtain ⟨vs,hv,hl,hr⟩:=h
  refine ⟨vs,hv,by rw [List.length_map];exact hl,fun i p u hp hu=>?_⟩
  rw [List.getElem?_map] at hp
  cases hi:l[i]? with
  |none=>rw [hi] at hp;cases hp
  |some q=>
   rw [hi] at hp
   simp only [Option.map_some,Option.some.injEq] at hp
   subst hp
   exact m.part (hr i q u hi hu)
theorem Ok (f:AC→AC) (hu:f .undef= .undef) (l:List AV) (t:Nat):(l.map (·.map f)).getD t .undef=(l.getD t .undef).map f:=by
 simp only [List.getD_eq_getElem?_getD,List.getElem?_map]
 cases l[t]? with
 |none=>simp [AV.undef,AV.map,hu]
 |some v=>rfl
theorem Move.Awo {f:AC→AC} (hu:f .undef= .undef) {st:St} {a:Act} {H':List (Nat×OB)} (m:Move X w w' π π' st.heap H' f) (h:Ai9 X w π st a):
  Ai9 X w' π' {tmps:=st.tmps.map (·.map f),heap:=H'} a:=
 ⟨by simpa using h.size,h.defers,fun t=>by
  have:=m.av (h.tmps t)
  unfold St.get
  rw [Ok f hu]
  exact this⟩
theorem AC.map_id (c:AV):c.map (fun c=>c)=c:=by
 cases c<;>simp [AV.map]
theorem Ry {w:World} {a:Addr} {v:Value} (h:w.cell? a=some v):a.block<w.heap.size:=by
 unfold World.cell? at h
 cases hb:w.heap[a.block]? with
 |none=>rw [hb] at h;cases h
 |some o=>exact (Array.getElem?_eq_some_iff.1 hb).1
theorem Move.quiet (hw: ∀k,k<w.heap.size→w'.heap[k]?=w.heap[k]?) (hs:w.heap.size≤w'.heap.size):Move X w w' π π H H (fun c=>c):=by
 have hc: ∀fr τ cs x,Cells w (Bb X.w0.heap.size X.Sc π fr) τ cs x→Cells w' (Bb X.w0.heap.size X.Sc π fr) τ cs x:=
  fun fr τ cs x h=>Cells.Ch hs (fun k hk _=>hw k hk) (fun _ _ h=>h) τ cs x h
 refine ⟨fun c v h=>?_,hc⟩
 cases c with
 |data fr τ x=>obtain ⟨cs,h1,h2⟩:=h;exact ⟨cs,hc _ _ _ _ h1,h2⟩
 |sub l i c=>
  obtain ⟨r,e,tid,xs,h1,h2,h3,h4,h5,h6⟩:=h
  exact ⟨r,e,tid,xs,h1,h2,h3,h4,h5,by rw [World.cell?_of_block (hw _ (Ry h6))];exact h6⟩
 |sptr l i j=>
  obtain ⟨r,b,n,sz,g,o,len,cap,h1,h2,h3,h4,h5,h6,h7⟩:=h
  exact ⟨r,b,n,sz,g,o,len,cap,h1,h2,h3,h4,h5,by rw [World.cell?_of_block (hw _ (Ry h6))];exact h6,h7⟩
 |_=>exact h
theorem Cn {w:World} {g:Nat} {o:Obj} (h:w.heap[g]?=some o):g<w.heap.size:=(Array.getElem?_eq_some_iff.1 h).1
theorem Gj.own (h:Gj X w π H) {b:Nat} (hb:Own π b):b<w.heap.size∧(X.w0.heap.size≤b∨X.gv b):=by
 obtain ⟨l,r,hr,hf⟩:=hb
 have:=h.place l r b hr (h.sub l r b hr hf)
 exact ⟨this.2,this.1⟩
theorem Gj.Av (h:Gj X w π H) {l:Nat} {r:Real} (hr:π l=some r):r.Av r.g:=by
 have hl:=h.heap l
 unfold Cq at hl
 split at hl
 ·rw [hl] at hr;cases hr
 ·rw [hr] at hl;exact hl.1.1
 ·rw [hr] at hl;exact hl.1
 ·rw [hr] at hl;exact hl.1.1
 ·obtain ⟨r',h0,h1,_⟩:=hl;rw [hr] at h0;cases h0;exact h1
 ·obtain ⟨r',h0,h1,_⟩:=hl;rw [hr] at h0;cases h0;exact h1
theorem Gj.lt (h:Gj X w π H) {l:Nat} {r:Real} (hr:π l=some r):r.g<w.heap.size∧(X.w0.heap.size≤r.g∨X.gv r.g):=
 h.own ⟨l,r,hr,h.Av hr⟩
theorem Gj.apart (h:Gj X w π H) {l l':Nat} {r r':Real} {b:Nat} (hr:π l=some r) (hr':π l'=some r') (hb:r.Av b) (hb':r'.Av b):l=l':=
 h.inj l l' r r' b hr hr' (h.sub l r b hr hb) (h.sub l' r' b hr' hb')
theorem Bd.lt {w:World} : ∀(F:List Nat) (τ:Ty) (cs:List Value) (x:τ.den),Bd w F τ cs x→ ∀b∈F,b<w.heap.size:=by
 intro F τ
 induction τ generalizing F with
 |slice e ih=>
  intro cs xs h b hb
  simp only [Bd] at h
  obtain ⟨a,len,cap,_,_,_,h⟩:=h
  rcases h with ⟨_,rfl,_⟩|⟨ad,g,o,Fs,_,_,hg,rfl,hl,hall⟩
  ·cases hb
  ·rcases List.mem_cons.1 hb with rfl|hb
   ·exact hg.lt
   ·obtain ⟨Fi,hFi,hbi⟩:=List.mem_flatten.1 hb
    obtain ⟨i,hi,rfl⟩:=List.getElem_of_mem hFi
    obtain ⟨es,_,_,hr⟩:=hall i (xs[i]'(by omega)) _ (List.getElem?_eq_getElem _) (List.getElem?_eq_getElem hi)
    exact ih _ es _ hr b hbi
 |pair a r iha ihr=>
  intro cs x h b hb
  simp only [Bd] at h
  obtain ⟨c1,c2,F1,F2,_,rfl,h1,h2⟩:=h
  rcases List.mem_append.1 hb with hb|hb
  ·exact iha _ c1 _ h1 b hb
  ·exact ihr _ c2 _ h2 b hb
 |int k=>intro cs x h b hb;simp only [Bd] at h;rw [h.1] at hb;cases hb
 |bool=>intro cs x h b hb;simp only [Bd] at h;rw [h.1] at hb;cases hb
 |str=>intro cs x h b hb;simp only [Bd] at h;rw [h.1] at hb;cases hb
 |unit=>intro cs x h b hb;simp only [Bd] at h;rw [h.1] at hb;cases hb
 |_=>intro cs x h;simp only [Bd] at h
theorem Bd.Ch {w w':World} : ∀(F:List Nat) (τ:Ty) (cs:List Value) (x:τ.den),Bd w F τ cs x→w.heap.size≤w'.heap.size→(∀b∈F,w'.heap[b]?=w.heap[b]?)→Bd w' F τ cs x:=by
 intro F τ
 induction τ generalizing F with
 |slice e ih=>
  intro cs xs h hs hk
  simp only [Bd] at h⊢
  obtain ⟨a,len,cap,h1,h2,h3,h⟩:=h
  refine ⟨a,len,cap,h1,h2,h3,?_⟩
  rcases h with h|⟨ad,g,o,Fs,h4,h0,hg,rfl,hl,hall⟩
  ·exact .inl h
  ·refine .inr ⟨ad,g,o,Fs,h4,h0,hg.Ch (hk g (by simp)),rfl,hl,fun i x Fi hx hF=>?_⟩
   obtain ⟨es,h5,h6,h7⟩:=hall i x Fi hx hF
   exact ⟨es,h5,fun j u hu=>by rw [World.cell?_of_block (hk g (by simp))];exact h6 j u hu,
    ih Fi es x h7 hs fun b hb=>hk b (List.mem_cons_of_mem _ (List.mem_flatten.2 ⟨Fi,List.mem_of_getElem? hF,hb⟩))⟩
 |pair a r iha ihr=>
  intro cs x h hs hk
  simp only [Bd] at h⊢
  obtain ⟨c1,c2,F1,F2,h1,rfl,h2,h3⟩:=h
  exact ⟨c1,c2,F1,F2,h1,rfl,iha F1 c1 _ h2 hs (fun b hb=>hk b (List.mem_append_left _ hb)),ihr F2 c2 _ h3 hs (fun b hb=>hk b (List.mem_append_right _ hb))⟩
 |int k=>intro cs x h _ _;exact h
 |bool=>intro cs x h _ _;exact h
 |str=>intro cs x h _ _;exact h
 |unit=>intro cs x h _ _;exact h
 |_=>intro cs x h;simp only [Bd] at h
theorem Bd.cells {w:World} {S:Nat→Prop} : ∀(F:List Nat) (τ:Ty) (cs:List Value) (x:τ.den),Bd w F τ cs x→(∀b∈F,¬S b)→Cells w S τ cs x:=by
 intro F τ
 induction τ generalizing F with
 |slice e ih=>
  intro cs xs h hk
  simp only [Bd] at h
  simp only [Cells]
  obtain ⟨a,len,cap,h1,h2,h3,h⟩:=h
  refine ⟨a,len,cap,h1,h2,h3,?_⟩
  rcases h with h|⟨ad,g,o,Fs,h4,h0,hg,rfl,hl,hall⟩
  ·exact .inl h.1
  by_cases hx0:xs= []
  ·exact .inl hx0
  ·have hc0:0<cap:=by
    rcases Nat.eq_zero_or_pos cap with e0|e0
    ·exact absurd (List.eq_nil_of_length_eq_zero (by omega)) hx0
    ·exact e0
   refine .inr ⟨g,o,by rw [h4,h0 hc0],hg.lt,hk g (by simp),fun i x hx=>?_⟩
   have hi:i<Fs.length:=by have:=(List.getElem?_eq_some_iff.1 hx).1;omega
   obtain ⟨es,h5,h6,h7⟩:=hall i x _ hx (List.getElem?_eq_getElem hi)
   exact ⟨es,h5,h6,ih _ es x h7 fun b hb=>hk b (List.mem_cons_of_mem _ (List.mem_flatten.2 ⟨_,List.getElem_mem hi,hb⟩))⟩
 |pair a r iha ihr=>
  intro cs x h hk
  simp only [Bd] at h
  simp only [Cells]
  obtain ⟨c1,c2,F1,F2,h1,rfl,h2,h3⟩:=h
  exact ⟨c1,c2,h1,iha F1 c1 _ h2 (fun b hb=>hk b (List.mem_append_left _ hb)),ihr F2 c2 _ h3 (fun b hb=>hk b (List.mem_append_right _ hb))⟩
 |int k=>intro cs x h _;simp only [Bd] at h;exact h.2
 |bool=>intro cs x h _;simp only [Bd] at h;exact h.2
 |str=>intro cs x h _;simp only [Bd] at h;exact h.2
 |unit=>intro cs x h _;simp only [Bd] at h;exact h.2
 |_=>intro cs x h;simp only [Bd] at h
theorem Mu.Ch {w w':World} {P P':Nat→Prop} {g o:Nat} {cur:Array Value} {e:Ty} {xs:List e.den} (h:Mu w P g o cur e xs) (hs:w.heap.size≤w'.heap.size)
  (hk: ∀b,b≠g→b<w.heap.size→P b→w'.heap[b]?=w.heap[b]?) (hP: ∀b,P b→P' b):Mu w' P' g o cur e xs:=by
 obtain ⟨Fs,h1,h2,h3,h4⟩:=h
 refine ⟨Fs,h1,h2,fun b hb=>hP b (h3 b hb),fun i x F hx hF=>?_⟩
 obtain ⟨es,h5,h6,h7⟩:=h4 i x F hx hF
 refine ⟨es,h5,h6,h7.Ch _ _ _ _ hs fun b hb=>?_⟩
 have hbf:b∈List.flatten Fs:=List.mem_flatten.2 ⟨F,List.mem_of_getElem? hF,hb⟩
 exact hk b (fun e=>by subst e;exact (List.nodup_cons.1 h2).1 hbf) (h7.lt _ _ _ _ b hb) (h3 b hbf)
theorem Kf.to {w w':World} {D D':Nat→Prop} {r:Option Real} {e:Ty} {xs:List e.den} (h:Kf w D r e xs) (hk: ∀q,r=some q→w'.heap[q.g]?=w.heap[q.g]?) (hc: ∀es x,Cells w D e es x→Cells w' D' e es x):Kf w' D' r e xs:=by
 cases r with
 |none=>exact h
 |some q=>
  obtain ⟨h1,cur,ti,h2,h3,h4,h5,h6⟩:=h
  refine ⟨h1,cur,ti,(hk q rfl).trans h2,h3,h4,h5,fun i x hx=>?_⟩
  obtain ⟨es,g1,g2,g3⟩:=h6 i x hx
  exact ⟨es,g1,g2,hc es x g3⟩
theorem Pk.Ch {w w':World} {D D':Nat→Prop} {r:Option Real} {e:Ty} {rows:List (List e.den)} {out:Option Nat} (h:Pk w D r e rows out)
  (hk: ∀q b,r=some q→q.Av b→b<w.heap.size→w'.heap[b]?=w.heap[b]?) (hc: ∀es x,Cells w D e es x→Cells w' D' e es x):Pk w' D' r e rows out:=by
 cases r with
 |none=>have h:rows= []:=h;exact (h:rows= [])
 |some r=>
  obtain ⟨h1,cur,ti,h2,h3,h4,h5,Rs,h6,h7,h8,h9⟩:=h
  refine ⟨h1,cur,ti,(hk r _ rfl h1 (Cn h2)).trans h2,h3,h4,h5,Rs,h6,h7,h8,fun i x hx ho=>?_⟩
  obtain ⟨u,R,k1,k2,k3,k4⟩:=h9 i x hx ho
  refine ⟨u,R,k1,k2,k3,k4.to (fun q hq=>?_) hc⟩
  subst hq
  obtain ⟨_,cu,ti',k5,_⟩:=k4
  exact hk r _ rfl (h7 i q k2).1 (Cn k5)
theorem KeptAt.Ch {w w':World} {r:Option Real} {kp:Option (Nat×Nat)} (h:KeptAt X w r kp) (hk: ∀q,r=some q→w'.heap[q.g]?=w.heap[q.g]?):KeptAt X w' r kp:=by
 cases kp with
 |none=>trivial
 |some p=>
  obtain ⟨l0,n⟩:=p
  simp only [KeptAt] at h⊢
  cases hp:X.pin l0 with
  |none=>cases r with
   |none=>trivial
   |some r'=>rw [hp] at h;exact h.elim
  |some r0=>cases r with
   |none=>rw [hp] at h;exact h.elim
   |some r'=>
    rw [hp] at h
    obtain ⟨h1,h2,h3,h4⟩:=h
    refine ⟨h1,h2,h3,fun j hj hc=>?_⟩
    rw [World.cell?_of_block (show w'.heap[(Addr.mk r0.g (r0.o+j) none).block]?=w.heap[(Addr.mk r0.g (r0.o+j) none).block]? from h1▸hk r' rfl)]
    exact h4 j hj hc
theorem Xt.Ch {w w':World} {π π':Pi} {r:Option Real} {e:Ty} {rows:List (List e.den)} {out:Option Nat} {kp:Option (Nat×Nat)} (h:Xt X w π r e rows out kp)
  (hk: ∀q b,r=some q→q.Av b→b<w.heap.size→w'.heap[b]?=w.heap[b]?) (hc: ∀es x,Cells w (Bb X.w0.heap.size X.Sc π false) e es x→Cells w' (Bb X.w0.heap.size X.Sc π' false) e es x):Xt X w' π' r e rows out kp:=by
 refine ⟨h.1.Ch hk hc,h.2.Ch fun q hq=>?_⟩
 subst hq
 obtain ⟨h1,cur,ti,h2,_⟩:=h.1
 exact hk q _ rfl h1 (Cn h2)
theorem Gj.quiet (h:Gj X w π H) (hb:Below w.heap.size w w'):Gj X w' π H:=by
 have m:Move X w w' π π H H (fun c=>c):=Move.quiet (fun k hk=>hb.block k hk) hb.size
 refine ⟨h.below.trans (.of (hb.mono h.below.size)),h.sc,h.sub,fun l r b h1 h2=>⟨(h.place l r b h1 h2).1,Nat.lt_of_lt_of_le (h.place l r b h1 h2).2 hb.size⟩,h.inj,h.pin,fun l=>?_⟩
 have hl:=h.heap l
 unfold Cq at hl⊢
 cases hg:Ac H l with
 |none=>rw [hg] at hl;exact hl
 |some b=>
  rw [hg] at hl
  cases b with
  |arr fr tr e tid xs=>
   simp only [El] at hl⊢
   cases hp:π l with
   |none=>rw [hp] at hl;exact hl
   |some r=>
    rw [hp] at hl
    obtain ⟨h1,cur,ti,h2,h3,h4,h5,h6,h7⟩:=hl
    refine ⟨h1,cur,ti,(hb.block _ (Cn h2)).trans h2,h3,h4,h5,fun i x hx=>?_,fun ht=>(h7 ht).Ch hb.size (fun b _ hlt _=>hb.block b hlt) fun _ hb=>hb⟩
    obtain ⟨es,he,hj,hc⟩:=h6 i x hx
    exact ⟨es,he,hj,m.cells _ _ _ _ hc⟩
  |xarr e tid xs=>
   simp only [Hf] at hl⊢
   cases hp:π l with
   |none=>rw [hp] at hl;exact hl
   |some r=>
    rw [hp] at hl
    obtain ⟨h1,cur,ti,h2,h3,h4,h5,h7⟩:=hl
    exact ⟨h1,cur,ti,(hb.block _ (Cn h2)).trans h2,h3,h4,h5,h7.Ch hb.size (fun b _ hlt _=>hb.block b hlt) fun _ hb=>hb⟩
  |var tid vs=>
   obtain ⟨r,h0,h1,cur,h2,h3⟩:=hl
   refine ⟨r,h0,h1,cur,(hb.block _ (Cn h2)).trans h2,?_⟩
   have:=m.acs h3
   simpa using this
  |grid e te rows out kp=>exact Xt.Ch hl (fun q b _ _ hlt=>hb.block b hlt) (fun es x=>m.cells false e es x)
  |smp v f=>
   obtain ⟨r,h0,h1,h2,h3⟩:=hl
   exact ⟨r,h0,h1,h2,Cells.Ch hb.size (fun k hk _=>hb.block k hk) (fun _ _ h=>h) _ _ _ h3⟩
theorem Af.quiet {st:St} {a:Act} (h:Af X π st a w) (hb:Below w.heap.size w w'):Af X π st a w':=by
 refine ⟨h.1.quiet hb,?_⟩
 have m:Move X w w' π π st.heap st.heap (fun c=>c):=Move.quiet (fun k hk=>hb.block k hk) hb.size
 exact ⟨h.2.size,h.2.defers,fun t=>by have:=m.av (h.2.tmps t);rwa [AC.map_id] at this⟩
theorem Af.put {st:St} {a:Act} (h:Af X π st a w) (dst:Option Tmp) {c:AV} {v:Value} (hv:Ai X w π st.heap c v):Af X π (st.put dst c) (a.put dst v) w:=by
 cases dst with
 |none=>exact h
 |some d=>
  refine ⟨h.1,⟨by simp [St.put,Act.put,So,h.2.size],h.2.defers,fun t=>?_⟩⟩
  show Ai X w π st.heap ((Ln st.tmps d c).getD t .undef) ((a.tmps.setIfInBounds d v).getD t undef)
  rw [Qq]
  have hsz:=h.2.size
  by_cases hdt:d=t∧t<st.tmps.length
  ·rw [if_pos hdt]
   obtain ⟨rfl,hlt⟩:=hdt
   have:(a.tmps.setIfInBounds d v).getD d undef=v:=by simp [hsz,hlt]
   rw [this];exact hv
  ·rw [if_neg hdt]
   have:(a.tmps.setIfInBounds d v).getD t undef=a.tmps.getD t undef:=by
    by_cases hd:d=t
    ·subst hd
     have hge: ¬d<a.tmps.size:=fun hh=>hdt ⟨rfl,hsz▸hh⟩
     simp [Array.setIfInBounds,hge]
    ·simp [Array.getElem?_setIfInBounds_ne hd]
   rw [this];exact h.2.tmps t
end
end Go.Proofs.Ytebabhocakedaaa
