/-
  Part 29 of the proof that the statement FnCommutatorMacros holds.
-/
import Derived.Test.YtfgfigkbgecfnaaCFCommutatorMacros27
namespace Go.Proofs.Ytfgfigkbgecfnaa
open Go.RowKit
def Holds (st st':St):Prop:= ∀(t:Nat) (fr:Bool) (τ:Ty) (x:τ.den),st.get t= .at (.data fr τ x)->st'.get t= .at (.data fr τ x)
theorem Holds.rfl' {st:St} :Holds st st:= λ_ _ _ _ h=>h
theorem Holds.trans {a b c:St} (h1:Holds a b) (h2:Holds b c):Holds a c:= λt fr τ x h=>h2 t fr τ x (h1 t fr τ x h)
theorem Holds.Tx {a b:St} (h:b.tmps=a.tmps):Holds a b:= λt fr τ x hx=>by
 simp only [St.get] at hx⊢
 rw [h]
 exact hx
theorem Wx (st:St) {t d:Nat} (v:AV) (h:t≠d):(st.put (some d) v).get t=st.get t:=by
 simp only [St.put,St.get]
 rw [Ng]
 rw [Aj (by rintro ⟨rfl,_⟩;exact h rfl)]
theorem Me (st:St) (f:AC->AC) (hu:f .undef= .undef) (hd: ∀fr (τ:Ty) (x:τ.den),f (.data fr τ x)= .data fr τ x):Holds st (st.Ih f):=by
 intro t fr τ x h
 simp only [St.Ih,St.get]
 rw [Qn f hu,show st.tmps.getD t .undef=_ from h]
 simp only [AV.map,hd]
theorem il (st:St) (l:Nat):Holds st (st.forget l):=
 (Me st (Bs l) rfl λ_ _ _=>rfl).trans (Holds.Tx rfl)
theorem Vq (st:St) (l:Nat) (fr:Bool) (e:Ty) (xs:List e.den):Holds st (st.freeze l fr e xs):=
 (Me st (Ca l fr e xs) rfl λ_ _ _=>rfl).trans (Holds.Tx rfl)
theorem c7 (st:St) (l:Nat) (v:Ty) (m:ByteArray->Option v.den):Holds st (st.Gf l v m):=
 (Me st (Ey l v m) rfl λ_ _ _=>rfl).trans (Holds.Tx rfl)
theorem Io (st:St) (l:Nat) (b:OB):Holds st (st.new l b):=(il st l).trans (Holds.Tx rfl)
theorem Jv (st:St) (l:Nat) (b:OB):Holds st (st.He l b):=Holds.Tx rfl
theorem ao (b:OB) (key l i:Nat) (st:St):Holds st (Qf b key l i st):=by
 unfold Qf
 split
 ·split
  ·dsimp only
   split
   ·exact (Io _ _ _).trans (Jv _ _ _)
   ·exact Io _ _ _
  ·exact Holds.rfl'
 ·exact Holds.rfl'
theorem ff (T:Tab) (l:Nat) (t:TypeId) (τ:Ty): ∀(n i:Nat) (st:St),Holds st (br T l t τ n i st)
 |0,_,_=>Holds.rfl'
 |n+1,i,st=>by
  simp only [br]
  refine Holds.trans ?_ (ff T l t τ n (i+1) _)
  split
  ·exact ao _ _ _ _ _
  ·exact Holds.rfl'
theorem dq (T:Tab) (l off:Nat) (t:TypeId) (τ:Ty): ∀(n i:Nat) (st:St),Holds st (ay T l off t τ n i st)
 |0,_,_=>Holds.rfl'
 |n+1,i,st=>by
  simp only [ay]
  refine Holds.trans ?_ (dq T l off t τ n (i+1) _)
  split
  ·exact ao _ _ _ _ _
  ·exact Holds.rfl'
theorem Np: ∀(n:Nat) (st:St) (cs cX:List AC) (st':St),Ff n st cs=some (cX,st')->Holds st st'
 |0,st,cs,cX,st',h=>by
  simp only [Ff] at h
  split at h
  ·injection h with h;injection h with h1 h2;subst h2;exact Holds.rfl'
  ·cases h
 |n+1,st,cs,cX,st',h=>by
  simp only [Ff] at h
  split at h
  ·injection h with h;injection h with h1 h2;subst h2;exact Holds.rfl'
  ·split at h
   ·exact (Vq _ _ _ _ _).trans (Np n _ _ _ _ h)
   ·exact (Vq _ _ _ _ _).trans (Np n _ _ _ _ h)
   ·cases h
  ·split at h
   ·exact (c7 _ _ _ _).trans (Np n _ _ _ _ h)
   ·cases h
  ·cases h
theorem On {st st':St} {v v':AV} (h:settle st v=some (v',st')):Holds st st':=by
 unfold settle at h
 split at h
 ·split at h
  ·injection h with h;injection h with h1 h2;subst h2;exact Vq _ _ _ _ _
  ·injection h with h;injection h with h1 h2;subst h2;exact Vq _ _ _ _ _
  ·cases h
 ·split at h
  ·injection h with h;injection h with h1 h2;subst h2;exact c7 _ _ _ _
  ·cases h
 ·split at h
  ·injection h with h;injection h with h1 h2;subst h2;exact Holds.rfl'
  ·cases h
 ·rename_i cs
  cases hs:Ff cs.length st cs with
  |none=>rw [hs] at h;cases h
  |some p=>rw [hs] at h;injection h with h;injection h with h1 h2;subst h2;exact Np _ _ _ _ _ hs
 ·injection h with h;injection h with h1 h2;subst h2;exact Holds.rfl'
 ·cases h
theorem qJ {st st':St} {l:Nat} {t:TypeId} {cs:List AC} {v:AV} (h:mC st l t cs=some (v,st')):Holds st st':=by
 unfold mC at h
 split at h
 ·cases h
 ·injection h with h;injection h with h1 h2;subst h2;exact Io _ _ _
theorem kb {T:Tab} {st st':St} {l:Nat} {t:TypeId} {τ:Ty} {cs:List AC} {v:AV} (h:mkVar T st l t τ cs=some (v,st')):Holds st st':=by
 unfold mkVar at h
 split at h
 ·cases h
 dsimp only at h
 split at h
 ·injection h with h;injection h with h1 h2;subst h2;exact (Io _ _ _).trans (ff _ _ _ _ _ _ _)
 ·cases h
theorem tC {T:Tab} {st st':St} {t:TypeId} {p v:AV} (h:Qm T st t p v=some st'):Holds st st':=by
 unfold Qm at h
 split at h
 ·split at h
  ·split at h
   ·injection h with h
    split at h
    ·subst h;exact (Jv _ _ _).trans (dq _ _ _ _ _ _ _ _)
    ·subst h;exact Jv _ _ _
   ·cases h
  ·cases h
 ·split at h
  ·rename_i hs
   split at h
   ·split at h
    ·split at h
     ·injection h with h;subst h;exact (On hs).trans (Jv _ _ _)
     ·cases h
    ·cases h
   ·cases h
  ·cases h
 ·cases h
theorem mn (st:St) (l j m:Nat) (e:Ty) (te:TypeId) (rows:List (List e.den)) (xs:List e.den) (kp:Option (Nat×Nat)):Holds st (Pn st l j m e te rows xs kp):=
 ((Me st (Bt [m] [l]) (by simp [Bt,AC.refs]) λfr τ x=>by simp [Bt,AC.refs]).trans (Holds.Tx rfl)).trans (Jv (st.Yf [m] [l]) _ _)
theorem mo (st:St) (l i m:Nat) (e:Ty) (te tid:TypeId) (rows:List (List e.den)) (kp:Option (Nat×Nat)):Holds st (Mr st l i m e te tid rows kp):=
 (Jv st l _).trans (Io _ m _)
theorem qL {T:Tab} {st st':St} {t:TypeId} {p v:AV} (h:Mh T st t p v=some st'):Holds st st':=by
 unfold Mh at h
 split at h
 rotate_left
 ·exact tC h
 unfold Wv at h
 split at h
 ·split at h
  ·rename_i hs
   split at h
   ·split at h
    ·injection h with h;subst h;exact (On hs).trans (Jv _ _ _)
    ·cases h
   ·cases h
  ·cases h
 ·split at h
  ·split at h
   ·split at h
    ·injection h with h;subst h
     exact mn _ _ _ _ _ _ _ _ _
    ·cases h
   ·cases h
  ·cases h
 ·cases h
theorem bh {T:Tab} {st st':St} {d:Nat} {t:TypeId} {x y:Operand} {v:AV} (h:Lb T st d t x y=some (v,st')):Holds st st':=by
 unfold Lb at h
 split at h
 ·cases h
 ·split at h
  ·rename_i hs
   split at h
   ·cases h
   ·split at h
    ·split at h
     ·injection h with h;injection h with h1 h2;subst h2;exact ((On hs).trans (Io _ _ _)).trans (Io _ _ _)
     ·cases h
    ·split at h
     ·split at h
      ·split at h
       ·injection h with h;injection h with h1 h2;subst h2;exact (On hs).trans (Io _ _ _)
       ·cases h
      ·cases h
     ·cases h
    ·cases h
  ·cases h
theorem nU {T:Tab} {st st':St} {d:Nat} {t:TypeId} {x y:Operand} {v:AV} (h:Nu T st d t x y=some (v,st')):Holds st st':=by
 unfold Nu at h
 split at h
 ·rename_i tx
  split at h
  ·rename_i l i c hg
   split at h
   ·split at h
    ·rename_i e te rows kp tid hl ht hc
     refine Holds.trans (b:=(Mr st l i d e te tid rows kp).put (some tx) (.at (.own d 0 (rows.getD i []).length))) ?_ (bh h)
     intro t' fr τ z hz
     by_cases e':t'=tx
     ·subst e';rw [hg] at hz;cases hz
     ·rw [Wx _ _ e'];exact mo st l i d e te tid rows kp t' fr τ z hz
    ·cases h
   ·cases h
  ·exact bh h
 ·exact bh h
theorem vY {T:Tab} {st st':St} {d:Nat} {t:TypeId} {l c v:AV} (h:Wt T st d t l c=some (v,st')):Holds st st':=by
 unfold Wt at h
 split at h
 ·split at h
  ·split at h
   ·injection h with h;injection h with h1 h2;subst h2;exact Io _ _ _
   ·cases h
  ·cases h
 ·cases h
theorem kc (e:Ty): ∀(l:List (Nat×Operand)) (i:Nat) (st st':St) (fr tr:Bool) (ys:List e.den),Is e i l st=some (fr,tr,ys,st')->Holds st st'
 | [],_,_,_,_,_,_,h=>by
  simp only [Is] at h
  injection h with h;injection h with h1 h2;injection h2 with h2 h3;injection h3 with h3 h4;subst h4;exact Holds.rfl'
 |(j,x)::r,i,st,st',fr,tr,ys,h=>by
  simp only [Is] at h
  split at h
  ·split at h
   ·rename_i hs
    split at h
    ·split at h
     ·rename_i hp
      injection h with h;injection h with h1 h2;injection h2 with h2 h3;injection h3 with h3 h4;subst h4
      exact (On hs).trans (kc e r _ _ _ _ _ _ hp)
     ·cases h
    ·cases h
   ·cases h
  ·cases h
theorem je {T:Tab} {st st':St} {d:Nat} {t:TypeId} {n:Nat} {parts:Array (Nat×Operand)} {v:AV} (h:Jt T st d t n parts=some (v,st')):Holds st st':=by
 unfold Jt at h
 split at h
 ·cases h
 ·split at h
  ·cases h
  ·split at h
   ·split at h
    ·rename_i hp
     injection h with h;injection h with h1 h2;subst h2;exact (kc _ _ _ _ _ _ _ _ hp).trans (Io _ _ _)
    ·cases h
   ·cases h
theorem nW {T:Tab} {st st':St} {d:Nat} {t:TypeId} {v:AV} (h:Ql T st d t=some (v,st')):Holds st st':=by
 unfold Ql at h
 split at h
 ·split at h
  ·injection h with h;injection h with h1 h2;subst h2;exact Io _ _ _
  ·cases h
 ·cases h
theorem im {T:Tab} {st st':St} {t:TypeId} {m k x:AV} (h:Gl T st t m k x=some st'):Holds st st':=by
 unfold Gl at h
 split at h
 ·split at h
  ·split at h
   ·injection h with h;subst h;exact Jv _ _ _
   ·cases h
  ·cases h
 ·cases h
theorem vX {T:Tab} {st st':St} {t t':TypeId} {x y v:AV} (h:da T st t t' x y=some (v,st')):Holds st st':=by
 unfold da at h
 split at h
 ·split at h
  ·split at h
   ·split at h
    ·injection h with h;injection h with h1 h2;subst h2;exact Jv _ _ _
    ·cases h
   ·cases h
  ·cases h
 ·cases h
theorem tz {T:Tab} {st st':St} {t:TypeId} {x:AV} (h:evalClear T st t x=some st'):Holds st st':=by
 unfold evalClear at h
 split at h
 ·split at h
  ·split at h
   ·split at h
    ·injection h with h;subst h;exact Jv _ _ _
    ·cases h
   ·cases h
  ·cases h
 ·cases h
theorem pE {st st':St} {c:CK} {ys:c.den} {a:AC} (h:Xv st c ys a=some st'):st'.tmps=st.tmps:=by
 unfold Xv at h
 repeat' split at h
 all_goals first|(cases h;done)|(simp only [Aa] at h;subst h;rfl)|skip
theorem zj {st st':St} {e:Ty} {ys:List e.den} {a:AC} (h:wy st e ys a=some st'):st'.tmps=st.tmps:=by
 unfold wy at h
 repeat' split at h
 all_goals first|(cases h;done)|(simp only [Aa] at h;subst h;rfl)|skip
theorem Qg: ∀(cs:List (Bool×CK)) (o:IOs.den cs) (as:List AC) (st st':St),Ft cs o as st=some st'->st'.tmps=st.tmps
 | [],_,_,st,st',h=>by simp only [Ft,Aa] at h;subst h;rfl
 |(true, .Ji _)::r,o,[],st,st',h=>by simp [Ft] at h
 |(true, .row _ _)::r,o,[],st,st',h=>by simp [Ft] at h
 |(true, .Fl _ _)::r,o,[],st,st',h=>by simp [Ft] at h
 |(true, .part _ _)::r,o,[],st,st',h=>by simp [Ft] at h
 |(true, .Bc _ _ _)::r,o,[],st,st',h=>by simp [Ft] at h
 |(true, .Bc _ _ _)::r,o,a::as,st,st',h=>Qg r o as st st' (by simpa only [Ft] using h)
 |(false,_)::r,o,[],st,st',h=>by simp [Ft] at h
 |(true, .Ji _)::r,o,a::as,st,st',h=>Qg r o as st st' (by simpa only [Ft] using h)
 |(false,_)::r,o,a::as,st,st',h=>Qg r o as st st' (by simpa only [Ft] using h)
 |(true, .row _ _)::r,o,a::as,st,st',h=>by
  simp only [Ft] at h
  split at h
  ·rename_i hc;exact (Qg r o.2 as _ st' h).trans (pE hc)
  ·cases h
 |(true, .part _ _)::r,o,a::as,st,st',h=>by
  simp only [Ft] at h
  split at h
  ·rename_i hc;exact (Qg r o.2 as _ st' h).trans (zj hc)
  ·cases h
 |(true, .Fl _ _)::r,o,a::as,st,st',h=>by
  simp only [Ft] at h
  split at h
  ·rename_i hc;exact (Qg r o.2 as _ st' h).trans (pE hc)
  ·cases h
theorem qI (Xq st:St) (ls:List Nat) (n:Nat) (hl:Xq.tmps.length=st.tmps.length) (h:Holds Xq st):Holds Xq (ga Xq st ls n):=by
 unfold ga
 split
 ·exact h
 ·intro t fr τ x hx
  show (Iy _ Xq.tmps st.tmps).getD t .undef=_
  rcases bG ls Xq.tmps st.tmps t hl with ⟨k,i,c,h1,_⟩|h1
  ·rw [show Xq.tmps.getD t .undef=_ from hx] at h1;cases h1
  ·rw [h1];exact h t fr τ x hx
theorem tw {st st':St} {d:Option Nat} {s:MSpec} {args:List AV} {v:AV} (h:Sp st d s args=some (v,st')):Holds st st':=by
 unfold Sp at h
 split at h
 ·cases h
 split at h
 ·cases h
 split at h
 ·cases h
 split at h
 ·split at h
  ·cases h
  split at h
  ·cases h
  rename_i st1 hp
  split at h
  ·cases h
  split at h
  ·simp only [Aa,Ab] at h
   obtain ⟨_,rfl⟩:=h
   have NV:=Qg _ _ _ _ _ hp
   refine qI _ _ _ _ ?_ ?_
   ·simp only [fI,jv]
    rw [<-NV]
    simp only [St.Yf,St.Ih,Nl]
   ·refine Holds.trans (Holds.Tx NV) ?_
    refine Holds.trans (Me st1 (Bt _ _) (by simp [Bt,AC.refs]) λfr τ x=>by simp [Bt,AC.refs]) (Holds.Tx jv)
  ·cases h
 ·cases h
theorem Zd (st:St) (k m:Nat) (b:OB):Holds st (Nn st k m b):=
 (Me st (Bt [m,k] []) (by simp [Bt,AC.refs]) λfr τ x=>by simp [Bt,AC.refs]).trans (Holds.Tx rfl)
theorem tA {T:Tab} {st st':St} {d:Nat} {t:TypeId} {l c v:AV} (h:Sr T st d t l c=some (v,st')):Holds st st':=by
 unfold Sr at h
 split at h
 ·exact vY h
 ·split at h
  ·split at h
   ·injection h with h;injection h with h1 h2;subst h2;exact Zd _ _ _ _
   ·cases h
  ·cases h
theorem ik {T:Tab} {st st':St} {d:Nat} {t:TypeId} {n:Nat} {parts:Array (Nat×Operand)} {v:AV} (h:Gi T st d t n parts=some (v,st')):Holds st st':=by
 unfold Gi at h
 split at h
 ·exact je h
 ·repeat' split at h
  all_goals first|(cases h;done)|(injection h with h;injection h with h1 h2;subst h2;exact Zd _ _ _ _)
theorem nV {T:Tab} {st st':St} {d:Nat} {t:TypeId} {x y:Operand} {v:AV} (h:Nv T st d t x y=some (v,st')):Holds st st':=by
 unfold Nv at h
 split at h
 ·exact nU h
 ·repeat' split at h
  all_goals first|(cases h;done)|(injection h with h;injection h with h1 h2;subst h2;exact Zd _ _ _ _)
theorem an {st st':St} {v:AV} {o:Option AV} (h:o.map (λv=>(v,st))=some (v,st')):Holds st st':=by
 cases o with
 |none=>cases h
 |some u=>injection h with h;injection h with h1 h2;subst h2;exact Holds.rfl'
theorem Py: ∀(l:List Operand) {st st1:St},Km l st=some st1->Holds st st1
 | [],st,st1,h=>by
  simp only [Km,Aa] at h
  subst h
  exact Holds.rfl'
 |x::r,st,st1,h=>by
  simp only [Km] at h
  cases hs:settle st (st.ev x) with
  |none=>rw [hs] at h;cases h
  |some p=>
   rw [hs] at h
   exact (On (v':=p.1) (st':=p.2) hs).trans (Py r h)
theorem nX {T:Tab} {st:St} (p x:Operand):Holds st (Ll T st p x):=by
 unfold Ll
 split
 ·split
  ·split
   ·rename_i hs;exact Py _ hs
   ·exact Holds.rfl'
  ·exact Holds.rfl'
 ·exact Holds.rfl'
theorem gT {T:Tab} {Γ:Env} {st st':St} {o:Oper} {v:AV} (h:evalOp T Γ st o=some (v,st')):Holds st st':=by
 unfold evalOp at h
 split at h
 ·split at h
  ·split at h
   ·injection h with h;injection h with h1 h2;subst h2;exact Io _ _ _
   ·cases h
  ·injection h with h;injection h with h1 h2;subst h2;exact Holds.rfl'
 ·split at h
  ·split at h
   ·exact qJ h
   ·exact kb h
  ·cases h
 ·split at h
  ·split at h
   ·split at h
    ·split at h
     ·obtain ⟨p,_,hp⟩:=Option.map_eq_some_iff.1 h
      cases hp
      exact Holds.rfl'
     ·cases h
    ·exact kb h
   ·cases h
  ·cases h
 ·rename_i t p x _
  cases hs:Mh T (Ll T st p x) t ((Ll T st p x).ev p) ((Ll T st p x).ev x) with
  |none=>rw [hs] at h;cases h
  |some s=>rw [hs] at h;injection h with h;injection h with h1 h2;subst h2;exact (nX p x).trans (qL hs)
 ·split at h
  ·exact tA h
  ·cases h
 ·split at h
  ·exact nW h
  ·cases h
 ·rename_i t m k x _
  cases hs:Gl T st t (st.ev m) (st.ev k) (st.ev x) with
  |none=>rw [hs] at h;cases h
  |some s=>rw [hs] at h;injection h with h;injection h with h1 h2;subst h2;exact im hs
 ·rename_i t m k x _
  cases hs:Gl T st t (st.ev m) (st.ev k) (st.ev x) with
  |none=>rw [hs] at h;cases h
  |some s=>rw [hs] at h;injection h with h;injection h with h1 h2;subst h2;exact im hs
 ·split at h
  ·exact ik h
  ·cases h
 ·exact an h
 ·split at h
  ·split at h
   ·exact nV h
   ·cases h
  ·cases h
 ·split at h
  ·exact vX h
  ·cases h
 ·split at h
  ·rename_i x t _ _
   cases hs:evalClear T st t (st.ev x) with
   |none=>rw [hs] at h;cases h
   |some s=>rw [hs] at h;injection h with h;injection h with h1 h2;subst h2;exact tz hs
  ·cases h
 ·split at h
  ·exact tw h
  ·split at h
   ·rename_i args _ _ _ _ _ _
    cases hs:Km args.toList st with
    |none=>rw [hs] at h;cases h
    |some st1=>
     rw [hs] at h
     exact (Py _ hs).trans (an h)
   ·exact an h
  ·exact an h
 ·exact an h
def Hx:List Oper->List Nat
 | []=> []
 |o::r=>(match o.dst with|some d=> [d]|none=> [])++Hx r
def writes:Code->List Nat
 | .region _ ops _=>Hx ops.toList
 | .seq a b=>writes a++writes b
 | .cond _ a b=>writes a++writes b
 | .block _ c=>writes c
 | .loop c=>writes c
 |_=> []
def Dy (P:Nat->Prop) (st st':St):Prop:= ∀(t:Nat) (fr:Bool) (τ:Ty) (x:τ.den),P t->st.get t= .at (.data fr τ x)->st'.get t= .at (.data fr τ x)
theorem Dy.trans {P:Nat->Prop} {a b c:St} (h1:Dy P a b) (h2:Dy P b c):Dy P a c:= λt fr τ x hp h=>h2 t fr τ x hp (h1 t fr τ x hp h)
theorem Dy.mono {P Q:Nat->Prop} {a b:St} (h1:Dy P a b) (h: ∀t,Q t->P t):Dy Q a b:= λt fr τ x hp hx=>h1 t fr τ x (h t hp) hx
theorem Holds.on {P:Nat->Prop} {a b:St} (h:Holds a b):Dy P a b:= λt fr τ x _ hx=>h t fr τ x hx
theorem Yj (st:St) (dst:Option Tmp) (v:AV):Dy (λt=>dst≠some t) st (st.put dst v):=by
 intro t fr τ x hp hx
 cases dst with
 |none=>exact hx
 |some d=>rw [Wx st v (λh=>hp (by rw [h]))];exact hx
theorem Wu {T:Tab} {Γ:Env} {ops:Array Oper} {st st':St} {o:Oper} (h:Dl T Γ ops st o=some st'):Dy (λt=>o.dst≠some t) st st':=by
 have key: ∀s,(evalOp T Γ st o).map (λr=>r.2.put o.dst r.1)=some s->Dy (λt=>o.dst≠some t) st s:=by
  intro s hs
  cases he:evalOp T Γ st o with
  |none=>rw [he] at hs;cases hs
  |some p=>rw [he] at hs;injection hs with hs;subst hs;exact (gT (v:=p.1) (st':=p.2) he).on.trans (Yj _ _ _)
 unfold Dl at h
 split at h
 ·exact key _ h
 ·split at h
  ·split at h
   ·exact key _ h
   ·injection h with h;subst h;exact Yj _ _ _
  ·injection h with h;subst h;exact Yj _ _ _
  ·cases h
theorem eT {T:Tab} {Γ:Env} {ops:Array Oper} : ∀(l:List Oper) (st st':St),Vl T Γ ops l st=some st'->Dy (λt=>t∉Hx l) st st'
 | [],st,st',h=>by injection h with h;subst h;exact Holds.rfl'.on
 |o::r,st,st',h=>by
  simp only [Vl] at h
  split at h
  ·rename_i s hs
   refine Dy.trans ((Wu hs).mono λt ht=>?_) ((eT r _ _ h).mono λt ht=>?_)
   ·intro hd;apply ht;simp [Hx,hd]
   ·intro hd;apply ht;simp [Hx,hd]
  ·cases h
theorem Tw: ∀(l:List Oper) (o:Oper) (d:Nat),o∈l->o.dst=some d->d∈Hx l
 | [],_,_,h,_=>by cases h
 |p::r,o,d,h,hd=>by
  cases h with
  |head=>simp [Hx,hd]
  |tail _ h=>simp only [Hx,Av];exact .inr (Tw r o d h hd)
theorem jk {ops:Array Oper} {i:Nat} {o:Oper} (h:ops[i]?=some o):o∈ops.toList:=by
 rw [Hl] at h
 obtain ⟨h1,h2⟩:=h
 rw [<-h2]
 simp
theorem Ts {T:Tab} {Γ:Env} {ops:Array Oper} : ∀(l:List Nat) (st st':St),Kb T Γ ops l st=some st'->Dy (λt=>t∉Hx ops.toList) st st'
 | [],st,st',h=>by injection h with h;subst h;exact Holds.rfl'.on
 |i::r,st,st',h=>by
  simp only [Kb] at h
  split at h
  ·cases h
  ·rename_i o ho
   split at h
   ·rename_i s hs
    exact ((Wu hs).mono λt ht hd=>ht (Tw _ _ _ (jk ho) hd)).trans (Ts r _ _ h)
   ·cases h
theorem Nw {T:Tab} {Γ:Env} {ops:Array Oper} : ∀(l:List Nat) (st st':St),Ef T Γ ops l st=some st'->Dy (λt=>t∉Hx ops.toList) st st'
 | [],st,st',h=>by injection h with h;subst h;exact Holds.rfl'.on
 |i::r,st,st',h=>by
  simp only [Ef] at h
  split at h
  ·cases h
  ·rename_i o ho
   split at h
   ·exact ((Yj _ _ _).mono λt ht hd=>ht (Tw _ _ _ (jk ho) hd)).trans (Nw r _ _ h)
   ·cases h
theorem Px: ∀(l:List Nat) (st:St),Holds st (Vz l st)
 | [],_=>Holds.rfl'
 |a::r,st=>(il st a).trans (Px r _)
theorem Rf (live:List Nat): ∀(i:Nat) (l:List AV) (t:Nat),i+t∈live->(Fy live i l).getD t .undef=l.getD t .undef
 |_,[],_,_=>rfl
 |i,v::r,0,h=>by simp [Fy];intro hn;exact absurd h hn
 |i,v::r,t+1,h=>by
  simp only [Fy,Kn]
  exact Rf live (i+1) r t (by rw [show i+1+t=i+(t+1) by omega];exact h)
theorem qK (l k:Nat) (st:St):Holds st (st.rename l k):=by
 unfold St.rename
 split
 ·split
  ·exact (Me st (Qs l k) rfl λ_ _ _=>rfl).trans (Holds.Tx rfl)
  ·exact Holds.rfl'
 ·exact Holds.rfl'
theorem aq: ∀(n t:Nat) (st:St),Holds st (Jw n t st)
 |0,_,_=>Holds.rfl'
 |n+1,t,st=>by
  simp only [Jw]
  refine Holds.trans ?_ (aq n (t+1) _)
  split
  ·split
   ·split
    ·exact Holds.rfl'
    ·exact qK _ _ _
   ·exact Holds.rfl'
  ·exact Holds.rfl'
theorem mq (t:Nat) (st:St):Holds st (Xf t st):=by
 unfold Xf
 split
 ·rename_i l off len hg
  split
  ·split
   ·intro k fr τ x hk
    have Hs:k≠t:= λe=>by subst e;rw [hg] at hk;cases hk
    rw [Wx _ _ Hs]
    exact Io _ _ _ k fr τ x hk
   ·exact Holds.rfl'
  ·exact Holds.rfl'
 ·exact Holds.rfl'
theorem gf (c:Nat) (st:St):Holds st (Mm c st):=by
 unfold Mm
 split
 ·split
  ·split
   ·split
    ·split
     ·exact (Io _ _ _).trans (Jv _ _ _)
     ·exact Holds.rfl'
    ·exact Holds.rfl'
   ·exact Holds.rfl'
  ·exact Holds.rfl'
 ·exact Holds.rfl'
theorem Yk (live:List Nat): ∀(n c:Nat) (st:St),Holds st (Mg live n c st)
 |0,_,_=>Holds.rfl'
 |n+1,c,st=>by
  simp only [Mg]
  refine Holds.trans ?_ (Yk live n (c+1) _)
  split
  ·exact gf _ _
  ·exact Holds.rfl'
theorem c8 (live:List Nat): ∀(n t:Nat) (st:St),Holds st (Lx live n t st)
 |0,_,st=>Yk live 16 0 st
 |n+1,t,st=>by
  simp only [Lx]
  refine Holds.trans ?_ (c8 live n (t+1) _)
  split
  ·exact mq _ _
  ·exact Holds.rfl'
theorem fc (live:List Nat) (st:St):Dy (λt=>t∈live) st (st.clean live):=by
 intro t fr τ x hp hx
 unfold St.clean
 have key: ∀s:St,s.get t= .at (.data fr τ x)->(if live.contains Ys then Jw s.tmps.length 0 s else s).get t= .at (.data fr τ x):=by
  intro s hs
  split
  ·exact aq _ _ s t fr τ x hs
  ·exact hs
 have CI: ∀s:St,s.get t= .at (.data fr τ x)->(if live.any (λt=>Nat.ble Ur t) then s.Gj live else s).get t= .at (.data fr τ x):=by
  intro s hs
  split<;>exact hs
 have CJ: ∀s:St,s.get t= .at (.data fr τ x)->(if live.any (λt=>Nat.ble Xg t&&Nat.blt t Ys) then Lx live s.tmps.length 0 s else s).get t= .at (.data fr τ x):=by
  intro s hs
  split
  ·exact c8 _ _ _ s t fr τ x hs
  ·exact hs
 refine CI _ (key _ (CJ _ (Px _ _ t fr τ x ?_)))
 simp only [St.get] at hx⊢
 rw [Rf live 0 st.tmps t (by simpa using hp)]
 exact hx
def Xb (live:Nat->List Nat):Code->Nat->Bool
 | .seq a b,t=>Xb live a t&&Xb live b t
 | .cond _ a b,t=>Xb live a t&&Xb live b t
 | .block _ c,t=>Xb live c t
 | .loop c,t=>(live (Dm c)).contains t&&Xb live c t
 |_,_=>true
theorem iV {a b:Bool} (h:(a&&b)=true):a=true:=by cases a<;>simp_all
theorem fJ {a b:Bool} (h:(a&&b)=true):b=true:=by cases a<;>simp_all
theorem j0 {T:Tab} {Γ:Env} {ops:Array Oper} {draw:Bool} {st st':St} (h:Nx T Γ ops draw st=some st'):Dy (λt=>t∉writes (.region 0 ops draw)) st st':=by
 unfold Nx at h
 have go: ∀q,(match Ef T Γ ops (ei q Γ ops) st with
   |some s=>Kb T Γ ops (Gv q Γ ops) s
   |none=>none)=some st'->Dy (λt=>t∉writes (.region 0 ops draw)) st st':=by
  intro q h
  split at h
  ·rename_i s hs
   exact (Nw _ _ _ hs).trans (Ts _ _ _ h)
  ·cases h
 split at h
 ·split at h
  ·exact go false h
  ·split at h
   ·exact go true h
   ·cases h
 ·exact eT _ _ _ h
theorem lD {T:Tab} {Γ:Env} {ops:Array Oper} {draw:Bool} {K:St->Prop} (s0:St): ∀(f:Nat) (Ae:Array Bool) (st:St),Dy (λt=>t∉writes (.region 0 ops draw)) s0 st->anyS T Γ ops K f Ae st->anyS T Γ ops (λs=>K s/\Dy (λt=>t∉writes (.region 0 ops draw)) s0 s) f Ae st
 |0,_,_,hk,h=>⟨h.1,h.2,hk⟩
 |f+1,Ae,st,hk,h=>⟨h.1,λi hi=>by
  obtain ⟨o,st',h1,h2,h3⟩:=h.2 i hi
  have h4:Kb T Γ ops [i] st=some st':=by simp only [Kb,h1,h2]
  exact ⟨o,st',h1,h2,lD s0 f _ _ (hk.trans (Ts _ _ _ h4)) h3⟩⟩
theorem fK {T:Tab} {Γ:Env} {ops:Array Oper} {draw:Bool} {E:List Nat} {K:St->Prop} (s0:St): ∀(f:Nat) (Ae:Array Bool) (st:St),Dy (λt=>t∉writes (.region 0 ops draw)) s0 st->kJ T Γ ops E K f Ae st->kJ T Γ ops E (λs=>K s/\Dy (λt=>t∉writes (.region 0 ops draw)) s0 s) f Ae st
 |0,_,_,hk,h=>⟨h.1,h.2.1,h.2.2,hk⟩
 |f+1,Ae,st,hk,h=>⟨h.1,h.2.1,λi hi=>by
  obtain ⟨o,st',h1,h2,h3⟩:=h.2.2 i hi
  have h4:Kb T Γ ops [i] st=some st':=by simp only [Kb,h1,h2]
  exact ⟨o,st',h1,h2,fK s0 f _ _ (hk.trans (Ts _ _ _ h4)) h3⟩⟩
theorem dr {ops:Array Oper} {dead:List Nat} (hd:dead.all (Tm ops)=true) (st:St):Dy (λt=>t∉Hx ops.toList) st (st.Mw dead):=by
 intro t fr τ x ht hx
 unfold St.Mw
 refine Px _ _ t fr τ x ?_
 show (Fy _ 0 st.tmps).getD t .undef=_
 rw [Rf _ 0 st.tmps t ?_]
 ·exact hx
 ·refine Bk.2 ⟨Ho.2 ?_,?_⟩
  ·refine Cd λhn=>?_
   have:st.get t= .undef:=by
    unfold St.get
    rw [An,Ee (by omega)];rfl
   rw [hx] at this
   cases this
  ·cases hc:dead.contains (0+t) with
   |false=>rfl
   |true=>
    have hm:0+t∈dead:=by simpa using hc
    have h1:=Au.1 hd _ hm
    obtain ⟨o,ho,h2⟩:=Dv.1 h1
    rw [Dp] at h2
    exact absurd (Tw _ o t ho (by simpa using h2)) ht
theorem eJ.keeps {T:Tab} {Γ:Env} {ops:Array Oper} {draw:Bool} {st:St} {K:St->Prop} (h:eJ T Γ ops draw st K):eJ T Γ ops draw st (λs=>K s/\Dy (λt=>t∉writes (.region 0 ops draw)) st s):=by
 rcases h with ⟨st',h1,h2⟩|⟨h1,h2,Xq,h3,h4|⟨E,st1,h4,h5,h6,h7⟩⟩
 ·exact .inl ⟨st',h1,h2,j0 h1⟩
 ·exact .inr ⟨h1,h2,Xq,h3, .inl (lD st _ _ _ (Nw _ _ _ h3) h4)⟩
 ·exact .inr ⟨h1,h2,Xq,h3, .inr ⟨E,st1,h4,h5,h6,fK st _ _ _ ((Nw _ _ _ h3).trans (Nw _ _ _ h6)) h7⟩⟩
theorem q6.keeps {T:Tab} {Γ:Env} {ops:Array Oper} {draw:Bool} {st:St} {K:St->Prop} (h:q6 T Γ ops draw st K):q6 T Γ ops draw st (λs=>K s/\Dy (λt=>t∉writes (.region 0 ops draw)) st s):=by
 rcases h with h|⟨dead,hd,h⟩
 ·exact .inl h.keeps
 ·exact .inr ⟨dead,hd,h.keeps.mono λs hs=>⟨hs.1,hs.2.trans (dr hd s)⟩⟩
theorem eN (ops:Array Oper) {fr:Bool} {τ:Ty} {x:τ.den} : ∀(i:Nat) (l:List AV) (t:Nat),l.getD t .undef= .at (.data fr τ x)->(Lp ops i l).getD t .undef= .at (.data fr τ x)
 |_,[],_,h=>h
 |i,v::r,0,h=>by
  cases v with
  |Jy l=>cases h
  |_=>exact h
 |i,v::r,t+1,h=>by
  have h':=eN ops (i+1) r t h
  cases v<;>(simp only [Lp,Kn];exact h')
theorem fe (ops:Array Oper) (st:St):Holds st (st.gK ops):= λt _ _ _ hx=>eN ops 0 st.tmps t hx
theorem wG {T:Tab} {Γ:Env} {live:Nat->List Nat} {c:Code} {st:St} {Q:Iu->St->Prop} (h:Lh T Γ live c st Q): ∀(s0:St) (p:Nat->Prop),Dy p s0 st->(∀t,p t->t∉writes c/\Xb live c t=true)->Lh T Γ live c st (λe s=>Q e s/\Dy p s0 s):=by
 induction h with
 |skip h=>exact λs0 p hk _=> .skip ⟨h,hk⟩
 |label h=>exact λs0 p hk _=> .label ⟨h,hk⟩
 |exit h=>exact λs0 p hk _=> .exit ⟨h,hk⟩
 |ret h=>exact λs0 p hk _=> .ret ⟨h,hk⟩
 |region h=>
  exact λs0 p hk hp=> .region (h.keeps.mono λs hs=>⟨hs.1,(hk.trans (fe _ _).on).trans (hs.2.mono λt ht=>(hp t ht).1)⟩)
 |seq Q1 _ _ h3 yF tt=>
  exact λs0 p hk hp=> .seq _ (yF s0 p hk λt ht=>⟨λhm=>(hp t ht).1 (by simp [writes,hm]),iV (hp t ht).2⟩)
   (λs hs=>tt s hs.1 s0 p hs.2 λt ht=>⟨λhm=>(hp t ht).1 (by simp [writes,hm]),fJ (hp t ht).2⟩) λe s he hs=>⟨h3 e s he hs.1,hs.2⟩
 |cond hc _ _ yF tt=>
  exact λs0 p hk hp=> .cond hc (λht=>yF ht s0 p hk λt h=>⟨λhm=>(hp t h).1 (by simp [writes,hm]),iV (hp t h).2⟩)
   fun ht=>tt ht s0 p hk λt h=>⟨λhm=>(hp t h).1 (by simp [writes,hm]),fJ (hp t h).2⟩
 |block Q1 _ h2 ih=>
  exact λs0 p hk hp=> .block _ (ih s0 p hk λt ht=>⟨λhm=>(hp t ht).1 (by simpa [writes] using hm),by simpa [Xb] using (hp t ht).2⟩) λe s hs=>by
   have h:=h2 e s hs.1
   cases e with
   |normal=>exact ⟨h,hs.2⟩
   |ret=>exact ⟨h,hs.2⟩
   |exit yE=>
    simp only [pb] at h⊢
    split at h
    ·rename_i hi;rw [Af hi];exact ⟨h,hs.2⟩
    ·rename_i hi;rw [Aj hi];exact ⟨h,hs.2⟩
 |loop Q1 _ _ h3 yF tt=>
  intro s0 p hk hp
  refine .loop _ (yF s0 p (hk.trans ((fc _ _).mono λt ht=>by simpa using iV (hp t ht).2)) λt ht=>⟨λhm=>(hp t ht).1 (by simpa [writes] using hm),fJ (hp t ht).2⟩)
   (λs hs=>tt s hs.1 s0 p hs.2 hp) λe s he hs=>⟨h3 e s he hs.1,hs.2⟩
end Go.Proofs.Ytfgfigkbgecfnaa
