/-
  Part 29 of the proof that the statement FnExactLowerBoundWithInverse holds.
-/
import Derived.Test.YtfolipnappekaaaGreatCLowerBoundWithInverse27
namespace Go.Proofs.YtfolipnappekaaaGreat
open Go.RowKit
def Aw (st st':St):Prop:= ∀(t:Nat) (fr:Bool) (τ:Ty) (x:τ.den),st.get t= .at (.data fr τ x)->st'.get t= .at (.data fr τ x)
theorem Aw.rfl' {st:St} :Aw st st:= λ_ _ _ _ h=>h
theorem Aw.trans {a b c:St} (h1:Aw a b) (h2:Aw b c):Aw a c:= λt fr τ x h=>h2 t fr τ x (h1 t fr τ x h)
theorem Aw.Ro {a b:St} (h:b.tmps=a.tmps):Aw a b:= λt fr τ x hx=>by
 simp only [St.get] at hx⊢
 rw [h]
 exact hx
theorem Vc (st:St) {t d:Nat} (v:AV) (h:t≠d):(st.put (some d) v).get t=st.get t:=by
 simp only [St.put,St.get]
 rw [Um]
 rw [if_neg (by rintro ⟨rfl,_⟩;exact h rfl)]
theorem Jr (st:St) (f:AC->AC) (hu:f .undef= .undef) (hd: ∀fr (τ:Ty) (x:τ.den),f (.data fr τ x)= .data fr τ x):Aw st (st.Gh f):=by
 intro t fr τ x h
 simp only [St.Gh,St.get]
 rw [Nw f hu,show st.tmps.getD t .undef=_ from h]
 simp only [AV.map,hd]
theorem iv (st:St) (l:Nat):Aw st (st.forget l):=
 (Jr st (Ay l) rfl λ_ _ _=>rfl).trans (Aw.Ro rfl)
theorem Tr (st:St) (l:Nat) (fr:Bool) (e:Ty) (xs:List e.den):Aw st (st.freeze l fr e xs):=
 (Jr st (Bc l fr e xs) rfl λ_ _ _=>rfl).trans (Aw.Ro rfl)
theorem bm (st:St) (l:Nat) (v:Ty) (m:ByteArray->Option v.den):Aw st (st.Eh l v m):=
 (Jr st (Df l v m) rfl λ_ _ _=>rfl).trans (Aw.Ro rfl)
theorem Hg (st:St) (l:Nat) (b:OB):Aw st (st.new l b):=(iv st l).trans (Aw.Ro rfl)
theorem Hr (st:St) (l:Nat) (b:OB):Aw st (st.Fk l b):=Aw.Ro rfl
theorem Yw (b:OB) (key l i:Nat) (st:St):Aw st (Nn b key l i st):=by
 unfold Nn
 split
 ·split
  ·dsimp only
   split
   ·exact (Hg _ _ _).trans (Hr _ _ _)
   ·exact Hg _ _ _
  ·exact Aw.rfl'
 ·exact Aw.rfl'
theorem eQ (T:Tab) (l:Nat) (t:TypeId) (τ:Ty): ∀(n i:Nat) (st:St),Aw st (aA T l t τ n i st)
 |0,_,_=>Aw.rfl'
 |n+1,i,st=>by
  simp only [aA]
  refine Aw.trans ?_ (eQ T l t τ n (i+1) _)
  split
  ·exact Yw _ _ _ _ _
  ·exact Aw.rfl'
theorem cB (T:Tab) (l off:Nat) (t:TypeId) (τ:Ty): ∀(n i:Nat) (st:St),Aw st (Zc T l off t τ n i st)
 |0,_,_=>Aw.rfl'
 |n+1,i,st=>by
  simp only [Zc]
  refine Aw.trans ?_ (cB T l off t τ n (i+1) _)
  split
  ·exact Yw _ _ _ _ _
  ·exact Aw.rfl'
theorem Kx: ∀(n:Nat) (st:St) (cs cb:List AC) (st':St),Dm n st cs=some (cb,st')->Aw st st'
 |0,st,cs,cb,st',h=>by
  simp only [Dm] at h
  split at h
  ·injection h with h;injection h with h1 h2;subst h2;exact Aw.rfl'
  ·cases h
 |n+1,st,cs,cb,st',h=>by
  simp only [Dm] at h
  split at h
  ·injection h with h;injection h with h1 h2;subst h2;exact Aw.rfl'
  ·split at h
   ·exact (Tr _ _ _ _ _).trans (Kx n _ _ _ _ h)
   ·exact (Tr _ _ _ _ _).trans (Kx n _ _ _ _ h)
   ·cases h
  ·split at h
   ·exact (bm _ _ _ _).trans (Kx n _ _ _ _ h)
   ·cases h
  ·cases h
theorem Lz {st st':St} {v v':AV} (h:settle st v=some (v',st')):Aw st st':=by
 unfold settle at h
 split at h
 ·split at h
  ·injection h with h;injection h with h1 h2;subst h2;exact Tr _ _ _ _ _
  ·injection h with h;injection h with h1 h2;subst h2;exact Tr _ _ _ _ _
  ·cases h
 ·split at h
  ·injection h with h;injection h with h1 h2;subst h2;exact bm _ _ _ _
  ·cases h
 ·split at h
  ·injection h with h;injection h with h1 h2;subst h2;exact Aw.rfl'
  ·cases h
 ·rename_i cs
  cases hs:Dm cs.length st cs with
  |none=>rw [hs] at h;cases h
  |some p=>rw [hs] at h;injection h with h;injection h with h1 h2;subst h2;exact Kx _ _ _ _ _ hs
 ·injection h with h;injection h with h1 h2;subst h2;exact Aw.rfl'
 ·cases h
theorem kQ {T:Tab} {st st':St} {l:Nat} {t:TypeId} {τ:Ty} {cs:List AC} {v:AV} (h:mkVar T st l t τ cs=some (v,st')):Aw st st':=by
 unfold mkVar at h
 split at h
 ·cases h
 dsimp only at h
 split at h
 ·injection h with h;injection h with h1 h2;subst h2;exact (Hg _ _ _).trans (eQ _ _ _ _ _ _ _)
 ·cases h
theorem wV {T:Tab} {st st':St} {t:TypeId} {p v:AV} (h:Nv T st t p v=some st'):Aw st st':=by
 unfold Nv at h
 split at h
 ·split at h
  ·split at h
   ·injection h with h
    split at h
    ·subst h;exact (Hr _ _ _).trans (cB _ _ _ _ _ _ _ _)
    ·subst h;exact Hr _ _ _
   ·cases h
  ·cases h
 ·split at h
  ·rename_i hs
   split at h
   ·split at h
    ·split at h
     ·injection h with h;subst h;exact (Lz hs).trans (Hr _ _ _)
     ·cases h
    ·cases h
   ·cases h
  ·cases h
 ·cases h
theorem nB (st:St) (l j m:Nat) (e:Ty) (te:TypeId) (rows:List (List e.den)) (xs:List e.den) (kp:Option (Nat×Nat)):Aw st (Mw st l j m e te rows xs kp):=
 ((Jr st (Ax [m] [l]) (by simp [Ax,AC.refs]) λfr τ x=>by simp [Ax,AC.refs]).trans (Aw.Ro rfl)).trans (Hr (st.Wm [m] [l]) _ _)
theorem nC (st:St) (l i m:Nat) (e:Ty) (te tid:TypeId) (rows:List (List e.den)) (kp:Option (Nat×Nat)):Aw st (Kh st l i m e te tid rows kp):=
 (Hr st l _).trans (Hg _ m _)
theorem tD {T:Tab} {st st':St} {t:TypeId} {p v:AV} (h:Jy T st t p v=some st'):Aw st st':=by
 unfold Jy at h
 split at h
 rotate_left
 ·exact wV h
 unfold Va at h
 split at h
 ·split at h
  ·rename_i hs
   split at h
   ·split at h
    ·injection h with h;subst h;exact (Lz hs).trans (Hr _ _ _)
    ·cases h
   ·cases h
  ·cases h
 ·split at h
  ·split at h
   ·split at h
    ·injection h with h;subst h
     exact nB _ _ _ _ _ _ _ _ _
    ·cases h
   ·cases h
  ·cases h
 ·cases h
theorem ak {T:Tab} {st st':St} {d:Nat} {t:TypeId} {x y:Operand} {v:AV} (h:Iq T st d t x y=some (v,st')):Aw st st':=by
 unfold Iq at h
 split at h
 ·cases h
 ·split at h
  ·rename_i hs
   split at h
   ·cases h
   ·split at h
    ·split at h
     ·injection h with h;injection h with h1 h2;subst h2;exact ((Lz hs).trans (Hg _ _ _)).trans (Hg _ _ _)
     ·cases h
    ·split at h
     ·split at h
      ·split at h
       ·injection h with h;injection h with h1 h2;subst h2;exact (Lz hs).trans (Hg _ _ _)
       ·cases h
      ·cases h
     ·cases h
    ·cases h
  ·cases h
theorem pM {T:Tab} {st st':St} {d:Nat} {t:TypeId} {x y:Operand} {v:AV} (h:Lf T st d t x y=some (v,st')):Aw st st':=by
 unfold Lf at h
 split at h
 ·rename_i tx
  split at h
  ·rename_i l i c hg
   split at h
   ·split at h
    ·rename_i e te rows kp tid hl ht hc
     refine Aw.trans (b:=(Kh st l i d e te tid rows kp).put (some tx) (.at (.own d 0 (rows.getD i []).length))) ?_ (ak h)
     intro t' fr τ z hz
     by_cases e':t'=tx
     ·subst e';rw [hg] at hz;cases hz
     ·rw [Vc _ _ e'];exact nC st l i d e te tid rows kp t' fr τ z hz
    ·cases h
   ·cases h
  ·exact ak h
 ·exact ak h
theorem zB {T:Tab} {st st':St} {d:Nat} {t:TypeId} {l c v:AV} (h:Ux T st d t l c=some (v,st')):Aw st st':=by
 unfold Ux at h
 split at h
 ·split at h
  ·split at h
   ·injection h with h;injection h with h1 h2;subst h2;exact Hg _ _ _
   ·cases h
  ·cases h
 ·cases h
theorem kR (e:Ty): ∀(l:List (Nat×Operand)) (i:Nat) (st st':St) (fr tr:Bool) (ys:List e.den),Gp e i l st=some (fr,tr,ys,st')->Aw st st'
 | [],_,_,_,_,_,_,h=>by
  simp only [Gp] at h
  injection h with h;injection h with h1 h2;injection h2 with h2 h3;injection h3 with h3 h4;subst h4;exact Aw.rfl'
 |(j,x)::r,i,st,st',fr,tr,ys,h=>by
  simp only [Gp] at h
  split at h
  ·split at h
   ·rename_i hs
    split at h
    ·split at h
     ·rename_i hp
      injection h with h;injection h with h1 h2;injection h2 with h2 h3;injection h3 with h3 h4;subst h4
      exact (Lz hs).trans (kR e r _ _ _ _ _ _ hp)
     ·cases h
    ·cases h
   ·cases h
  ·cases h
theorem jE {T:Tab} {st st':St} {d:Nat} {t:TypeId} {n:Nat} {parts:Array (Nat×Operand)} {v:AV} (h:Hl T st d t n parts=some (v,st')):Aw st st':=by
 unfold Hl at h
 split at h
 ·cases h
 ·split at h
  ·cases h
  ·split at h
   ·split at h
    ·rename_i hp
     injection h with h;injection h with h1 h2;subst h2;exact (kR _ _ _ _ _ _ _ _ hp).trans (Hg _ _ _)
    ·cases h
   ·cases h
theorem pO {T:Tab} {st st':St} {d:Nat} {t:TypeId} {v:AV} (h:Nu T st d t=some (v,st')):Aw st st':=by
 unfold Nu at h
 split at h
 ·split at h
  ·injection h with h;injection h with h1 h2;subst h2;exact Hg _ _ _
  ·cases h
 ·cases h
theorem iw {T:Tab} {st st':St} {t:TypeId} {m k x:AV} (h:Eo T st t m k x=some st'):Aw st st':=by
 unfold Eo at h
 split at h
 ·split at h
  ·split at h
   ·injection h with h;subst h;exact Hr _ _ _
   ·cases h
  ·cases h
 ·cases h
theorem zA {T:Tab} {st st':St} {t t':TypeId} {x y v:AV} (h:cf T st t t' x y=some (v,st')):Aw st st':=by
 unfold cf at h
 split at h
 ·split at h
  ·split at h
   ·split at h
    ·injection h with h;injection h with h1 h2;subst h2;exact Hr _ _ _
    ·cases h
   ·cases h
  ·cases h
 ·cases h
theorem wT {T:Tab} {st st':St} {t:TypeId} {x:AV} (h:evalClear T st t x=some st'):Aw st st':=by
 unfold evalClear at h
 split at h
 ·split at h
  ·split at h
   ·split at h
    ·injection h with h;subst h;exact Hr _ _ _
    ·cases h
   ·cases h
  ·cases h
 ·cases h
theorem s9 {st st':St} {c:CK} {ys:c.den} {a:AC} (h:Wc st c ys a=some st'):st'.tmps=st.tmps:=by
 unfold Wc at h
 repeat' split at h
 all_goals first|(cases h;done)|(simp only [Option.some.injEq] at h;subst h;rfl)|skip
theorem GX {st st':St} {e:Ty} {ys:List e.den} {a:AC} (h:AM st e ys a=some st'):st'.tmps=st.tmps:=by
 unfold AM at h
 repeat' split at h
 all_goals first|(cases h;done)|(simp only [Option.some.injEq] at h;subst h;rfl)|skip
theorem No: ∀(cs:List (Bool×CK)) (o:IOs.den cs) (as:List AC) (st st':St),Ea cs o as st=some st'->st'.tmps=st.tmps
 | [],_,_,st,st',h=>by simp only [Ea,Option.some.injEq] at h;subst h;rfl
 |(true, .Ee _)::r,o,[],st,st',h=>by simp [Ea] at h
 |(true, .row _ _)::r,o,[],st,st',h=>by simp [Ea] at h
 |(true, .Dq _ _)::r,o,[],st,st',h=>by simp [Ea] at h
 |(true, .part _ _)::r,o,[],st,st',h=>by simp [Ea] at h
 |(true, .Ah _ _ _)::r,o,[],st,st',h=>by simp [Ea] at h
 |(true, .Ah _ _ _)::r,o,a::as,st,st',h=>No r o as st st' (by simpa only [Ea] using h)
 |(false,_)::r,o,[],st,st',h=>by simp [Ea] at h
 |(true, .Ee _)::r,o,a::as,st,st',h=>No r o as st st' (by simpa only [Ea] using h)
 |(false,_)::r,o,a::as,st,st',h=>No r o as st st' (by simpa only [Ea] using h)
 |(true, .row _ _)::r,o,a::as,st,st',h=>by
  simp only [Ea] at h
  split at h
  ·rename_i hc;exact (No r o.2 as _ st' h).trans (s9 hc)
  ·cases h
 |(true, .part _ _)::r,o,a::as,st,st',h=>by
  simp only [Ea] at h
  split at h
  ·rename_i hc;exact (No r o.2 as _ st' h).trans (GX hc)
  ·cases h
 |(true, .Dq _ _)::r,o,a::as,st,st',h=>by
  simp only [Ea] at h
  split at h
  ·rename_i hc;exact (No r o.2 as _ st' h).trans (s9 hc)
  ·cases h
theorem tB (bx st:St) (ls:List Nat) (n:Nat) (hl:bx.tmps.length=st.tmps.length) (h:Aw bx st):Aw bx (fR bx st ls n):=by
 unfold fR
 split
 ·exact h
 ·intro t fr τ x hx
  show (Gv _ bx.tmps st.tmps).getD t .undef=_
  rcases aQ ls bx.tmps st.tmps t hl with ⟨k,i,c,h1,_⟩|h1
  ·rw [show bx.tmps.getD t .undef=_ from hx] at h1;cases h1
  ·rw [h1];exact h t fr τ x hx
theorem wS {st st':St} {d:Option Nat} {s:MSpec} {args:List AV} {v:AV} (h:Qd st d s args=some (v,st')):Aw st st':=by
 unfold Qd at h
 split at h
 ·cases h
 split at h
 ·cases h
 split at h
 ·cases h
 split at h
 ·split at h
  ·cases h
  split at h
  ·cases h
  rename_i st1 hp
  split at h
  ·cases h
  split at h
  ·simp only [Option.some.injEq,Prod.mk.injEq] at h
   obtain ⟨_,rfl⟩:=h
   have Wb:=No _ _ _ _ _ hp
   refine tB _ _ _ _ ?_ ?_
   ·simp only [fw,kc]
    rw [<-Wb]
    simp only [St.Wm,St.Gh,List.length_map]
   ·refine Aw.trans (Aw.Ro Wb) ?_
    refine Aw.trans (Jr st1 (Ax _ _) (by simp [Ax,AC.refs]) λfr τ x=>by simp [Ax,AC.refs]) (Aw.Ro kc)
  ·cases h
 ·cases h
theorem Xr (st:St) (k m:Nat) (b:OB):Aw st (Kv st k m b):=
 (Jr st (Ax [m,k] []) (by simp [Ax,AC.refs]) λfr τ x=>by simp [Ax,AC.refs]).trans (Aw.Ro rfl)
theorem wU {T:Tab} {st st':St} {d:Nat} {t:TypeId} {l c v:AV} (h:Qf T st d t l c=some (v,st')):Aw st st':=by
 unfold Qf at h
 split at h
 ·exact zB h
 ·split at h
  ·split at h
   ·injection h with h;injection h with h1 h2;subst h2;exact Xr _ _ _ _
   ·cases h
  ·cases h
theorem iu {T:Tab} {st st':St} {d:Nat} {t:TypeId} {n:Nat} {parts:Array (Nat×Operand)} {v:AV} (h:Em T st d t n parts=some (v,st')):Aw st st':=by
 unfold Em at h
 split at h
 ·exact jE h
 ·repeat' split at h
  all_goals first|(cases h;done)|(injection h with h;injection h with h1 h2;subst h2;exact Xr _ _ _ _)
theorem pN {T:Tab} {st st':St} {d:Nat} {t:TypeId} {x y:Operand} {v:AV} (h:Lg T st d t x y=some (v,st')):Aw st st':=by
 unfold Lg at h
 split at h
 ·exact pM h
 ·repeat' split at h
  all_goals first|(cases h;done)|(injection h with h;injection h with h1 h2;subst h2;exact Xr _ _ _ _)
theorem Yv {st st':St} {v:AV} {o:Option AV} (h:o.map (λv=>(v,st))=some (v,st')):Aw st st':=by
 cases o with
 |none=>cases h
 |some u=>injection h with h;injection h with h1 h2;subst h2;exact Aw.rfl'
theorem Ss: ∀(l:List Operand) {st st1:St},Jk l st=some st1->Aw st st1
 | [],st,st1,h=>by
  simp only [Jk,Option.some.injEq] at h
  subst h
  exact Aw.rfl'
 |x::r,st,st1,h=>by
  simp only [Jk] at h
  cases hs:settle st (st.ev x) with
  |none=>rw [hs] at h;cases h
  |some p=>
   rw [hs] at h
   exact (Lz (v':=p.1) (st':=p.2) hs).trans (Ss r h)
theorem gX {T:Tab} {Γ:Env} {st st':St} {o:Oper} {v:AV} (h:evalOp T Γ st o=some (v,st')):Aw st st':=by
 unfold evalOp at h
 split at h
 ·split at h
  ·split at h
   ·injection h with h;injection h with h1 h2;subst h2;exact Hg _ _ _
   ·cases h
  ·injection h with h;injection h with h1 h2;subst h2;exact Aw.rfl'
 ·split at h
  ·exact kQ h
  ·cases h
 ·split at h
  ·split at h
   ·exact kQ h
   ·cases h
  ·cases h
 ·rename_i t p x _
  cases hs:Jy T st t (st.ev p) (st.ev x) with
  |none=>rw [hs] at h;cases h
  |some s=>rw [hs] at h;injection h with h;injection h with h1 h2;subst h2;exact tD hs
 ·split at h
  ·exact wU h
  ·cases h
 ·split at h
  ·exact pO h
  ·cases h
 ·rename_i t m k x _
  cases hs:Eo T st t (st.ev m) (st.ev k) (st.ev x) with
  |none=>rw [hs] at h;cases h
  |some s=>rw [hs] at h;injection h with h;injection h with h1 h2;subst h2;exact iw hs
 ·rename_i t m k x _
  cases hs:Eo T st t (st.ev m) (st.ev k) (st.ev x) with
  |none=>rw [hs] at h;cases h
  |some s=>rw [hs] at h;injection h with h;injection h with h1 h2;subst h2;exact iw hs
 ·split at h
  ·exact iu h
  ·cases h
 ·exact Yv h
 ·split at h
  ·split at h
   ·exact pN h
   ·cases h
  ·cases h
 ·split at h
  ·exact zA h
  ·cases h
 ·split at h
  ·rename_i x t _ _
   cases hs:evalClear T st t (st.ev x) with
   |none=>rw [hs] at h;cases h
   |some s=>rw [hs] at h;injection h with h;injection h with h1 h2;subst h2;exact wT hs
  ·cases h
 ·split at h
  ·exact wS h
  ·split at h
   ·rename_i args _ _ _ _ _ _
    cases hs:Jk args.toList st with
    |none=>rw [hs] at h;cases h
    |some st1=>
     rw [hs] at h
     exact (Ss _ hs).trans (Yv h)
   ·exact Yv h
  ·exact Yv h
 ·exact Yv h
def Kr:List Oper->List Nat
 | []=> []
 |o::r=>(match o.dst with|some d=> [d]|none=> [])++Kr r
def writes:Code->List Nat
 | .region _ ops _=>Kr ops.toList
 | .seq a b=>writes a++writes b
 | .cond _ a b=>writes a++writes b
 | .block _ c=>writes c
 | .loop c=>writes c
 |_=> []
def Ev (P:Nat->Prop) (st st':St):Prop:= ∀(t:Nat) (fr:Bool) (τ:Ty) (x:τ.den),P t->st.get t= .at (.data fr τ x)->st'.get t= .at (.data fr τ x)
theorem Ev.trans {P:Nat->Prop} {a b c:St} (h1:Ev P a b) (h2:Ev P b c):Ev P a c:= λt fr τ x hp h=>h2 t fr τ x hp (h1 t fr τ x hp h)
theorem Ev.mono {P Q:Nat->Prop} {a b:St} (h1:Ev P a b) (h: ∀t,Q t->P t):Ev Q a b:= λt fr τ x hp hx=>h1 t fr τ x (h t hp) hx
theorem Aw.on {P:Nat->Prop} {a b:St} (h:Aw a b):Ev P a b:= λt fr τ x _ hx=>h t fr τ x hx
theorem Wr (st:St) (dst:Option Tmp) (v:AV):Ev (λt=>dst≠some t) st (st.put dst v):=by
 intro t fr τ x hp hx
 cases dst with
 |none=>exact hx
 |some d=>rw [Vc st v (λh=>hp (by rw [h]))];exact hx
theorem cg {T:Tab} {Γ:Env} {ops:Array Oper} {st st':St} {o:Oper} (h:Ci T Γ ops st o=some st'):Ev (λt=>o.dst≠some t) st st':=by
 have key: ∀s,(evalOp T Γ st o).map (λr=>r.2.put o.dst r.1)=some s->Ev (λt=>o.dst≠some t) st s:=by
  intro s hs
  cases he:evalOp T Γ st o with
  |none=>rw [he] at hs;cases hs
  |some p=>rw [he] at hs;injection hs with hs;subst hs;exact (gX (v:=p.1) (st':=p.2) he).on.trans (Wr _ _ _)
 unfold Ci at h
 split at h
 ·exact key _ h
 ·split at h
  ·split at h
   ·exact key _ h
   ·injection h with h;subst h;exact Wr _ _ _
  ·injection h with h;subst h;exact Wr _ _ _
  ·cases h
theorem eE {T:Tab} {Γ:Env} {ops:Array Oper} : ∀(l:List Oper) (st st':St),Tn T Γ ops l st=some st'->Ev (λt=>t∉Kr l) st st'
 | [],st,st',h=>by injection h with h;subst h;exact Aw.rfl'.on
 |o::r,st,st',h=>by
  simp only [Tn] at h
  split at h
  ·rename_i s hs
   refine Ev.trans ((cg hs).mono λt ht=>?_) ((eE r _ _ h).mono λt ht=>?_)
   ·intro hd;apply ht;simp [Kr,hd]
   ·intro hd;apply ht;simp [Kr,hd]
  ·cases h
theorem Xt: ∀(l:List Oper) (o:Oper) (d:Nat),o∈l->o.dst=some d->d∈Kr l
 | [],_,_,h,_=>by cases h
 |p::r,o,d,h,hd=>by
  cases h with
  |head=>simp [Kr,hd]
  |tail _ h=>simp only [Kr,List.mem_append];exact .inr (Xt r o d h hd)
theorem rU {ops:Array Oper} {i:Nat} {o:Oper} (h:ops[i]?=some o):o∈ops.toList:=by
 rw [Array.getElem?_eq_some_iff] at h
 obtain ⟨h1,h2⟩:=h
 rw [<-h2]
 simp
theorem Xo {T:Tab} {Γ:Env} {ops:Array Oper} : ∀(l:List Nat) (st st':St),Iz T Γ ops l st=some st'->Ev (λt=>t∉Kr ops.toList) st st'
 | [],st,st',h=>by injection h with h;subst h;exact Aw.rfl'.on
 |i::r,st,st',h=>by
  simp only [Iz] at h
  split at h
  ·cases h
  ·rename_i o ho
   split at h
   ·rename_i s hs
    exact ((cg hs).mono λt ht hd=>ht (Xt _ _ _ (rU ho) hd)).trans (Xo r _ _ h)
   ·cases h
theorem Uy {T:Tab} {Γ:Env} {ops:Array Oper} : ∀(l:List Nat) (st st':St),Dz T Γ ops l st=some st'->Ev (λt=>t∉Kr ops.toList) st st'
 | [],st,st',h=>by injection h with h;subst h;exact Aw.rfl'.on
 |i::r,st,st',h=>by
  simp only [Dz] at h
  split at h
  ·cases h
  ·rename_i o ho
   split at h
   ·exact ((Wr _ _ _).mono λt ht hd=>ht (Xt _ _ _ (rU ho) hd)).trans (Uy r _ _ h)
   ·cases h
theorem bl: ∀(l:List Nat) (st:St),Aw st (Yn l st)
 | [],_=>Aw.rfl'
 |a::r,st=>(iv st a).trans (bl r _)
theorem c6 (live:List Nat): ∀(i:Nat) (l:List AV) (t:Nat),i+t∈live->(Fu live i l).getD t .undef=l.getD t .undef
 |_,[],_,_=>rfl
 |i,v::r,0,h=>by simp [Fu];intro hn;exact absurd h hn
 |i,v::r,t+1,h=>by
  simp only [Fu,List.getD_cons_succ]
  exact c6 live (i+1) r t (by rw [show i+1+t=i+(t+1) by omega];exact h)
theorem tC (l k:Nat) (st:St):Aw st (st.rename l k):=by
 unfold St.rename
 split
 ·split
  ·exact (Jr st (Ob l k) rfl λ_ _ _=>rfl).trans (Aw.Ro rfl)
  ·exact Aw.rfl'
 ·exact Aw.rfl'
theorem Yx: ∀(n t:Nat) (st:St),Aw st (Hs n t st)
 |0,_,_=>Aw.rfl'
 |n+1,t,st=>by
  simp only [Hs]
  refine Aw.trans ?_ (Yx n (t+1) _)
  split
  ·split
   ·split
    ·exact Aw.rfl'
    ·exact tC _ _ _
   ·exact Aw.rfl'
  ·exact Aw.rfl'
theorem nD (t:Nat) (st:St):Aw st (Vn t st):=by
 unfold Vn
 split
 ·rename_i l off len hg
  split
  ·split
   ·intro k fr τ x hk
    have Ey:k≠t:= λe=>by subst e;rw [hg] at hk;cases hk
    rw [Vc _ _ Ey]
    exact Hg _ _ _ k fr τ x hk
   ·exact Aw.rfl'
  ·exact Aw.rfl'
 ·exact Aw.rfl'
theorem fS (c:Nat) (st:St):Aw st (Ke c st):=by
 unfold Ke
 split
 ·split
  ·split
   ·split
    ·split
     ·exact (Hg _ _ _).trans (Hr _ _ _)
     ·exact Aw.rfl'
    ·exact Aw.rfl'
   ·exact Aw.rfl'
  ·exact Aw.rfl'
 ·exact Aw.rfl'
theorem Ws (live:List Nat): ∀(n c:Nat) (st:St),Aw st (Jv live n c st)
 |0,_,_=>Aw.rfl'
 |n+1,c,st=>by
  simp only [Jv]
  refine Aw.trans ?_ (Ws live n (c+1) _)
  split
  ·exact fS _ _
  ·exact Aw.rfl'
theorem bn (live:List Nat): ∀(n t:Nat) (st:St),Aw st (Jj live n t st)
 |0,_,st=>Ws live 16 0 st
 |n+1,t,st=>by
  simp only [Jj]
  refine Aw.trans ?_ (bn live n (t+1) _)
  split
  ·exact nD _ _
  ·exact Aw.rfl'
theorem eO (live:List Nat) (st:St):Ev (λt=>t∈live) st (st.clean live):=by
 intro t fr τ x hp hx
 unfold St.clean
 have key: ∀s:St,s.get t= .at (.data fr τ x)->(if live.contains Wy then Hs s.tmps.length 0 s else s).get t= .at (.data fr τ x):=by
  intro s hs
  split
  ·exact Yx _ _ s t fr τ x hs
  ·exact hs
 have LN: ∀s:St,s.get t= .at (.data fr τ x)->(if live.any (λt=>Nat.ble Sn t) then s.El live else s).get t= .at (.data fr τ x):=by
  intro s hs
  split<;>exact hs
 have LO: ∀s:St,s.get t= .at (.data fr τ x)->(if live.any (λt=>Nat.ble Lo t&&Nat.blt t Wy) then Jj live s.tmps.length 0 s else s).get t= .at (.data fr τ x):=by
  intro s hs
  split
  ·exact bn _ _ _ s t fr τ x hs
  ·exact hs
 refine LN _ (key _ (LO _ (bl _ _ t fr τ x ?_)))
 simp only [St.get] at hx⊢
 rw [c6 live 0 st.tmps t (by simpa using hp)]
 exact hx
def Vg (live:Nat->List Nat):Code->Nat->Bool
 | .seq a b,t=>Vg live a t&&Vg live b t
 | .cond _ a b,t=>Vg live a t&&Vg live b t
 | .block _ c,t=>Vg live c t
 | .loop c,t=>(live (Cd c)).contains t&&Vg live c t
 |_,_=>true
theorem jj {a b:Bool} (h:(a&&b)=true):a=true:=by cases a<;>simp_all
theorem fy {a b:Bool} (h:(a&&b)=true):b=true:=by cases a<;>simp_all
theorem jr {T:Tab} {Γ:Env} {ops:Array Oper} {draw:Bool} {st st':St} (h:Lh T Γ ops draw st=some st'):Ev (λt=>t∉writes (.region 0 ops draw)) st st':=by
 unfold Lh at h
 have go: ∀q,(match Dz T Γ ops (dF q Γ ops) st with
   |some s=>Iz T Γ ops (Ex q Γ ops) s
   |none=>none)=some st'->Ev (λt=>t∉writes (.region 0 ops draw)) st st':=by
  intro q h
  split at h
  ·rename_i s hs
   exact (Uy _ _ _ hs).trans (Xo _ _ _ h)
  ·cases h
 split at h
 ·split at h
  ·exact go false h
  ·split at h
   ·exact go true h
   ·cases h
 ·exact eE _ _ _ h
theorem mz {T:Tab} {Γ:Env} {ops:Array Oper} {draw:Bool} {K:St->Prop} (s0:St): ∀(f:Nat) (Ac:Array Bool) (st:St),Ev (λt=>t∉writes (.region 0 ops draw)) s0 st->anyS T Γ ops K f Ac st->anyS T Γ ops (λs=>K s/\Ev (λt=>t∉writes (.region 0 ops draw)) s0 s) f Ac st
 |0,_,_,hk,h=>⟨h.1,h.2,hk⟩
 |f+1,Ac,st,hk,h=>⟨h.1,λi hi=>by
  obtain ⟨o,st',h1,h2,h3⟩:=h.2 i hi
  have h4:Iz T Γ ops [i] st=some st':=by simp only [Iz,h1,h2]
  exact ⟨o,st',h1,h2,mz s0 f _ _ (hk.trans (Xo _ _ _ h4)) h3⟩⟩
theorem sB.keeps {T:Tab} {Γ:Env} {ops:Array Oper} {draw:Bool} {st:St} {K:St->Prop} (h:sB T Γ ops draw st K):sB T Γ ops draw st (λs=>K s/\Ev (λt=>t∉writes (.region 0 ops draw)) st s):=by
 rcases h with ⟨st',h1,h2⟩|⟨h1,h2,bx,h3,h4⟩
 ·exact .inl ⟨st',h1,h2,jr h1⟩
 ·exact .inr ⟨h1,h2,bx,h3,mz st _ _ _ (Uy _ _ _ h3) h4⟩
theorem ez (ops:Array Oper) {fr:Bool} {τ:Ty} {x:τ.den} : ∀(i:Nat) (l:List AV) (t:Nat),l.getD t .undef= .at (.data fr τ x)->(Jf ops i l).getD t .undef= .at (.data fr τ x)
 |_,[],_,h=>h
 |i,v::r,0,h=>by
  cases v with
  |Hv l=>cases h
  |_=>exact h
 |i,v::r,t+1,h=>by
  have h':=ez ops (i+1) r t h
  cases v<;>(simp only [Jf,List.getD_cons_succ];exact h')
theorem eP (ops:Array Oper) (st:St):Aw st (st.gP ops):= λt _ _ _ hx=>ez ops 0 st.tmps t hx
theorem AW {T:Tab} {Γ:Env} {live:Nat->List Nat} {c:Code} {st:St} {Q:Gt->St->Prop} (h:Ix T Γ live c st Q): ∀(s0:St) (p:Nat->Prop),Ev p s0 st->(∀t,p t->t∉writes c/\Vg live c t=true)->Ix T Γ live c st (λe s=>Q e s/\Ev p s0 s):=by
 induction h with
 |skip h=>exact λs0 p hk _=> .skip ⟨h,hk⟩
 |label h=>exact λs0 p hk _=> .label ⟨h,hk⟩
 |exit h=>exact λs0 p hk _=> .exit ⟨h,hk⟩
 |ret h=>exact λs0 p hk _=> .ret ⟨h,hk⟩
 |region h=>
  exact λs0 p hk hp=> .region (h.keeps.mono λs hs=>⟨hs.1,(hk.trans (eP _ _).on).trans (hs.2.mono λt ht=>(hp t ht).1)⟩)
 |seq Q1 _ _ h3 FN wO=>
  exact λs0 p hk hp=> .seq _ (FN s0 p hk λt ht=>⟨λhm=>(hp t ht).1 (by simp [writes,hm]),jj (hp t ht).2⟩)
   (λs hs=>wO s hs.1 s0 p hs.2 λt ht=>⟨λhm=>(hp t ht).1 (by simp [writes,hm]),fy (hp t ht).2⟩) λe s he hs=>⟨h3 e s he hs.1,hs.2⟩
 |cond hc _ _ FN wO=>
  exact λs0 p hk hp=> .cond hc (λht=>FN ht s0 p hk λt h=>⟨λhm=>(hp t h).1 (by simp [writes,hm]),jj (hp t h).2⟩)
   fun ht=>wO ht s0 p hk λt h=>⟨λhm=>(hp t h).1 (by simp [writes,hm]),fy (hp t h).2⟩
 |block Q1 _ h2 ih=>
  exact λs0 p hk hp=> .block _ (ih s0 p hk λt ht=>⟨λhm=>(hp t ht).1 (by simpa [writes] using hm),by simpa [Vg] using (hp t ht).2⟩) λe s hs=>by
   have h:=h2 e s hs.1
   cases e with
   |normal=>exact ⟨h,hs.2⟩
   |ret=>exact ⟨h,hs.2⟩
   |exit FM=>
    simp only [rE] at h⊢
    split at h
    ·rename_i hi;rw [if_pos hi];exact ⟨h,hs.2⟩
    ·rename_i hi;rw [if_neg hi];exact ⟨h,hs.2⟩
 |loop Q1 _ _ h3 FN wO=>
  intro s0 p hk hp
  refine .loop _ (FN s0 p (hk.trans ((eO _ _).mono λt ht=>by simpa using jj (hp t ht).2)) λt ht=>⟨λhm=>(hp t ht).1 (by simpa [writes] using hm),fy (hp t ht).2⟩)
   (λs hs=>wO s hs.1 s0 p hs.2 hp) λe s he hs=>⟨h3 e s he hs.1,hs.2⟩
end Go.Proofs.YtfolipnappekaaaGreat
