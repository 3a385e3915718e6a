/-
  Part 29 of the proof that the statement FnExactLongestMethodSolution holds.
-/
import Derived.Test.YtjbdmibbbpdnnaaCLongestMethodSolution27
namespace Go.Proofs.Ytjbdmibbbpdnnaa
open Go.RowKit
def Bb (st st':St):Prop:= ∀(t:Nat) (fr:Bool) (τ:Ty) (x:τ.den),st.get t= .at (.data fr τ x)->st'.get t= .at (.data fr τ x)
theorem Bb.rfl' {st:St} :Bb st st:= λ_ _ _ _ h=>h
theorem Bb.trans {a b c:St} (h1:Bb a b) (h2:Bb b c):Bb a c:= λt fr τ x h=>h2 t fr τ x (h1 t fr τ x h)
theorem Bb.Rb {a b:St} (h:b.tmps=a.tmps):Bb a b:= λt fr τ x hx=>by
 simp only [St.get] at hx⊢
 rw [h]
 exact hx
theorem Uk (st:St) {t d:Nat} (v:AV) (h:t≠d):(st.put (some d) v).get t=st.get t:=by
 simp only [St.put,St.get]
 rw [Tt]
 rw [if_neg (by rintro ⟨rfl,_⟩;exact h rfl)]
theorem Js (st:St) (f:AC->AC) (hu:f .undef= .undef) (hd: ∀fr (τ:Ty) (x:τ.den),f (.data fr τ x)= .data fr τ x):Bb st (st.Gh f):=by
 intro t fr τ x h
 simp only [St.Gh,St.get]
 rw [Rl f hu,show st.tmps.getD t .undef=_ from h]
 simp only [AV.map,hd]
theorem gR (st:St) (l:Nat):Bb st (st.forget l):=
 (Js st (Az l) rfl λ_ _ _=>rfl).trans (Bb.Rb rfl)
theorem Tc (st:St) (l:Nat) (fr:Bool) (e:Ty) (xs:List e.den):Bb st (st.freeze l fr e xs):=
 (Js st (Ba l fr e xs) rfl λ_ _ _=>rfl).trans (Bb.Rb rfl)
theorem aO (st:St) (l:Nat) (v:Ty) (m:ByteArray->Option v.den):Bb st (st.Ek l v m):=
 (Js st (Dk l v m) rfl λ_ _ _=>rfl).trans (Bb.Rb rfl)
theorem Ic (st:St) (l:Nat) (b:OB):Bb st (st.new l b):=(gR st l).trans (Bb.Rb rfl)
theorem Ix (st:St) (l:Nat) (b:OB):Bb st (st.Ga l b):=Bb.Rb rfl
theorem Yc (b:OB) (key l i:Nat) (st:St):Bb st (Nj b key l i st):=by
 unfold Nj
 split
 ·split
  ·dsimp only
   split
   ·exact (Ic _ _ _).trans (Ix _ _ _)
   ·exact Ic _ _ _
  ·exact Bb.rfl'
 ·exact Bb.rfl'
theorem ek (T:Tab) (l:Nat) (t:TypeId) (τ:Ty): ∀(n i:Nat) (st:St),Bb st (a8 T l t τ n i st)
 |0,_,_=>Bb.rfl'
 |n+1,i,st=>by
  simp only [a8]
  refine Bb.trans ?_ (ek T l t τ n (i+1) _)
  split
  ·exact Yc _ _ _ _ _
  ·exact Bb.rfl'
theorem cc (T:Tab) (l off:Nat) (t:TypeId) (τ:Ty): ∀(n i:Nat) (st:St),Bb st (Yg T l off t τ n i st)
 |0,_,_=>Bb.rfl'
 |n+1,i,st=>by
  simp only [Yg]
  refine Bb.trans ?_ (cc T l off t τ n (i+1) _)
  split
  ·exact Yc _ _ _ _ _
  ·exact Bb.rfl'
theorem Ky: ∀(n:Nat) (st:St) (cs bN:List AC) (st':St),Dq n st cs=some (bN,st')->Bb st st'
 |0,st,cs,bN,st',h=>by
  simp only [Dq] at h
  split at h
  ·injection h with h;injection h with h1 h2;subst h2;exact Bb.rfl'
  ·cases h
 |n+1,st,cs,bN,st',h=>by
  simp only [Dq] at h
  split at h
  ·injection h with h;injection h with h1 h2;subst h2;exact Bb.rfl'
  ·split at h
   ·exact (Tc _ _ _ _ _).trans (Ky n _ _ _ _ h)
   ·exact (Tc _ _ _ _ _).trans (Ky n _ _ _ _ h)
   ·cases h
  ·split at h
   ·exact (aO _ _ _ _).trans (Ky n _ _ _ _ h)
   ·cases h
  ·cases h
theorem Lu {st st':St} {v v':AV} (h:settle st v=some (v',st')):Bb st st':=by
 unfold settle at h
 split at h
 ·split at h
  ·injection h with h;injection h with h1 h2;subst h2;exact Tc _ _ _ _ _
  ·injection h with h;injection h with h1 h2;subst h2;exact Tc _ _ _ _ _
  ·cases h
 ·split at h
  ·injection h with h;injection h with h1 h2;subst h2;exact aO _ _ _ _
  ·cases h
 ·split at h
  ·injection h with h;injection h with h1 h2;subst h2;exact Bb.rfl'
  ·cases h
 ·rename_i cs
  cases hs:Dq cs.length st cs with
  |none=>rw [hs] at h;cases h
  |some p=>rw [hs] at h;injection h with h;injection h with h1 h2;subst h2;exact Ky _ _ _ _ _ hs
 ·injection h with h;injection h with h1 h2;subst h2;exact Bb.rfl'
 ·cases h
theorem kd {T:Tab} {st st':St} {l:Nat} {t:TypeId} {τ:Ty} {cs:List AC} {v:AV} (h:mkVar T st l t τ cs=some (v,st')):Bb st st':=by
 unfold mkVar at h
 split at h
 ·cases h
 dsimp only at h
 split at h
 ·injection h with h;injection h with h1 h2;subst h2;exact (Ic _ _ _).trans (ek _ _ _ _ _ _ _)
 ·cases h
theorem vr {T:Tab} {st st':St} {t:TypeId} {p v:AV} (h:Nq T st t p v=some st'):Bb st st':=by
 unfold Nq at h
 split at h
 ·split at h
  ·split at h
   ·injection h with h
    split at h
    ·subst h;exact (Ix _ _ _).trans (cc _ _ _ _ _ _ _ _)
    ·subst h;exact Ix _ _ _
   ·cases h
  ·cases h
 ·split at h
  ·rename_i hs
   split at h
   ·split at h
    ·split at h
     ·injection h with h;subst h;exact (Lu hs).trans (Ix _ _ _)
     ·cases h
    ·cases h
   ·cases h
  ·cases h
 ·cases h
theorem mA (st:St) (l j m:Nat) (e:Ty) (te:TypeId) (rows:List (List e.den)) (xs:List e.den) (kp:Option (Nat×Nat)):Bb st (Mq st l j m e te rows xs kp):=
 ((Js st (Av [m] [l]) (by simp [Av,AC.refs]) λfr τ x=>by simp [Av,AC.refs]).trans (Bb.Rb rfl)).trans (Ix (st.Vs [m] [l]) _ _)
theorem mB (st:St) (l i m:Nat) (e:Ty) (te tid:TypeId) (rows:List (List e.den)) (kp:Option (Nat×Nat)):Bb st (Kg st l i m e te tid rows kp):=
 (Ix st l _).trans (Ic _ m _)
theorem s6 {T:Tab} {st st':St} {t:TypeId} {p v:AV} (h:Jv T st t p v=some st'):Bb st st':=by
 unfold Jv at h
 split at h
 rotate_left
 ·exact vr h
 unfold Uj at h
 split at h
 ·split at h
  ·rename_i hs
   split at h
   ·split at h
    ·injection h with h;subst h;exact (Lu hs).trans (Ix _ _ _)
    ·cases h
   ·cases h
  ·cases h
 ·split at h
  ·split at h
   ·split at h
    ·injection h with h;subst h
     exact mA _ _ _ _ _ _ _ _ _
    ·cases h
   ·cases h
  ·cases h
 ·cases h
theorem Zr {T:Tab} {st st':St} {d:Nat} {t:TypeId} {x y:Operand} {v:AV} (h:It T st d t x y=some (v,st')):Bb st st':=by
 unfold It at h
 split at h
 ·cases h
 ·split at h
  ·rename_i hs
   split at h
   ·cases h
   ·split at h
    ·split at h
     ·injection h with h;injection h with h1 h2;subst h2;exact ((Lu hs).trans (Ic _ _ _)).trans (Ic _ _ _)
     ·cases h
    ·split at h
     ·split at h
      ·split at h
       ·injection h with h;injection h with h1 h2;subst h2;exact (Lu hs).trans (Ic _ _ _)
       ·cases h
      ·cases h
     ·cases h
    ·cases h
  ·cases h
theorem oL {T:Tab} {st st':St} {d:Nat} {t:TypeId} {x y:Operand} {v:AV} (h:Ld T st d t x y=some (v,st')):Bb st st':=by
 unfold Ld at h
 split at h
 ·rename_i tx
  split at h
  ·rename_i l i c hg
   split at h
   ·split at h
    ·rename_i e te rows kp tid hl ht hc
     refine Bb.trans (b:=(Kg st l i d e te tid rows kp).put (some tx) (.at (.own d 0 (rows.getD i []).length))) ?_ (Zr h)
     intro t' fr τ z hz
     by_cases e':t'=tx
     ·subst e';rw [hg] at hz;cases hz
     ·rw [Uk _ _ e'];exact mB st l i d e te tid rows kp t' fr τ z hz
    ·cases h
   ·cases h
  ·exact Zr h
 ·exact Zr h
theorem yg {T:Tab} {st st':St} {d:Nat} {t:TypeId} {l c v:AV} (h:Ug T st d t l c=some (v,st')):Bb st st':=by
 unfold Ug at h
 split at h
 ·split at h
  ·split at h
   ·injection h with h;injection h with h1 h2;subst h2;exact Ic _ _ _
   ·cases h
  ·cases h
 ·cases h
theorem ke (e:Ty): ∀(l:List (Nat×Operand)) (i:Nat) (st st':St) (fr tr:Bool) (ys:List e.den),Gq e i l st=some (fr,tr,ys,st')->Bb st st'
 | [],_,_,_,_,_,_,h=>by
  simp only [Gq] at h
  injection h with h;injection h with h1 h2;injection h2 with h2 h3;injection h3 with h3 h4;subst h4;exact Bb.rfl'
 |(j,x)::r,i,st,st',fr,tr,ys,h=>by
  simp only [Gq] at h
  split at h
  ·split at h
   ·rename_i hs
    split at h
    ·split at h
     ·rename_i hp
      injection h with h;injection h with h1 h2;injection h2 with h2 h3;injection h3 with h3 h4;subst h4
      exact (Lu hs).trans (ke e r _ _ _ _ _ _ hp)
     ·cases h
    ·cases h
   ·cases h
  ·cases h
theorem j9 {T:Tab} {st st':St} {d:Nat} {t:TypeId} {n:Nat} {parts:Array (Nat×Operand)} {v:AV} (h:Hk T st d t n parts=some (v,st')):Bb st st':=by
 unfold Hk at h
 split at h
 ·cases h
 ·split at h
  ·cases h
  ·split at h
   ·split at h
    ·rename_i hp
     injection h with h;injection h with h1 h2;subst h2;exact (ke _ _ _ _ _ _ _ _ hp).trans (Ic _ _ _)
    ·cases h
   ·cases h
theorem oN {T:Tab} {st st':St} {d:Nat} {t:TypeId} {v:AV} (h:Np T st d t=some (v,st')):Bb st st':=by
 unfold Np at h
 split at h
 ·split at h
  ·injection h with h;injection h with h1 h2;subst h2;exact Ic _ _ _
  ·cases h
 ·cases h
theorem gS {T:Tab} {st st':St} {t:TypeId} {m k x:AV} (h:Et T st t m k x=some st'):Bb st st':=by
 unfold Et at h
 split at h
 ·split at h
  ·split at h
   ·injection h with h;subst h;exact Ix _ _ _
   ·cases h
  ·cases h
 ·cases h
theorem yf {T:Tab} {st st':St} {t t':TypeId} {x y v:AV} (h:bQ T st t t' x y=some (v,st')):Bb st st':=by
 unfold bQ at h
 split at h
 ·split at h
  ·split at h
   ·split at h
    ·injection h with h;injection h with h1 h2;subst h2;exact Ix _ _ _
    ·cases h
   ·cases h
  ·cases h
 ·cases h
theorem vo {T:Tab} {st st':St} {t:TypeId} {x:AV} (h:evalClear T st t x=some st'):Bb st st':=by
 unfold evalClear at h
 split at h
 ·split at h
  ·split at h
   ·split at h
    ·injection h with h;subst h;exact Ix _ _ _
    ·cases h
   ·cases h
  ·cases h
 ·cases h
theorem qx {st st':St} {c:CK} {ys:c.den} {a:AC} (h:Vl st c ys a=some st'):st'.tmps=st.tmps:=by
 unfold Vl at h
 repeat' split at h
 all_goals first|(cases h;done)|(simp only [Option.some.injEq] at h;subst h;rfl)|skip
theorem DW {st st':St} {e:Ty} {ys:List e.den} {a:AC} (h:yM st e ys a=some st'):st'.tmps=st.tmps:=by
 unfold yM at h
 repeat' split at h
 all_goals first|(cases h;done)|(simp only [Option.some.injEq] at h;subst h;rfl)|skip
theorem Nk: ∀(cs:List (Bool×CK)) (o:IOs.den cs) (as:List AC) (st st':St),Ee cs o as st=some st'->st'.tmps=st.tmps
 | [],_,_,st,st',h=>by simp only [Ee,Option.some.injEq] at h;subst h;rfl
 |(true, .Hf _)::r,o,[],st,st',h=>by simp [Ee] at h
 |(true, .row _ _)::r,o,[],st,st',h=>by simp [Ee] at h
 |(true, .Dv _ _)::r,o,[],st,st',h=>by simp [Ee] at h
 |(true, .part _ _)::r,o,[],st,st',h=>by simp [Ee] at h
 |(true, .Al _ _ _)::r,o,[],st,st',h=>by simp [Ee] at h
 |(true, .Al _ _ _)::r,o,a::as,st,st',h=>Nk r o as st st' (by simpa only [Ee] using h)
 |(false,_)::r,o,[],st,st',h=>by simp [Ee] at h
 |(true, .Hf _)::r,o,a::as,st,st',h=>Nk r o as st st' (by simpa only [Ee] using h)
 |(false,_)::r,o,a::as,st,st',h=>Nk r o as st st' (by simpa only [Ee] using h)
 |(true, .row _ _)::r,o,a::as,st,st',h=>by
  simp only [Ee] at h
  split at h
  ·rename_i hc;exact (Nk r o.2 as _ st' h).trans (qx hc)
  ·cases h
 |(true, .part _ _)::r,o,a::as,st,st',h=>by
  simp only [Ee] at h
  split at h
  ·rename_i hc;exact (Nk r o.2 as _ st' h).trans (DW hc)
  ·cases h
 |(true, .Dv _ _)::r,o,a::as,st,st',h=>by
  simp only [Ee] at h
  split at h
  ·rename_i hc;exact (Nk r o.2 as _ st' h).trans (qx hc)
  ·cases h
theorem rZ (aY st:St) (ls:List Nat) (n:Nat) (hl:aY.tmps.length=st.tmps.length) (h:Bb aY st):Bb aY (fw aY st ls n):=by
 unfold fw
 split
 ·exact h
 ·intro t fr τ x hx
  show (Gx _ aY.tmps st.tmps).getD t .undef=_
  rcases aw ls aY.tmps st.tmps t hl with ⟨k,i,c,h1,_⟩|h1
  ·rw [show aY.tmps.getD t .undef=_ from hx] at h1;cases h1
  ·rw [h1];exact h t fr τ x hx
theorem vn {st st':St} {d:Option Nat} {s:MSpec} {args:List AV} {v:AV} (h:Px st d s args=some (v,st')):Bb st st':=by
 unfold Px at h
 split at h
 ·cases h
 split at h
 ·cases h
 split at h
 ·cases h
 split at h
 ·split at h
  ·cases h
  split at h
  ·cases h
  rename_i st1 hp
  split at h
  ·cases h
  split at h
  ·simp only [Option.some.injEq,Prod.mk.injEq] at h
   obtain ⟨_,rfl⟩:=h
   have XH:=Nk _ _ _ _ _ hp
   refine rZ _ _ _ _ ?_ ?_
   ·simp only [eV,jx]
    rw [<-XH]
    simp only [St.Vs,St.Gh,List.length_map]
   ·refine Bb.trans (Bb.Rb XH) ?_
    refine Bb.trans (Js st1 (Av _ _) (by simp [Av,AC.refs]) λfr τ x=>by simp [Av,AC.refs]) (Bb.Rb jx)
  ·cases h
 ·cases h
theorem Wt (st:St) (k m:Nat) (b:OB):Bb st (Kw st k m b):=
 (Js st (Av [m,k] []) (by simp [Av,AC.refs]) λfr τ x=>by simp [Av,AC.refs]).trans (Bb.Rb rfl)
theorem vq {T:Tab} {st st':St} {d:Nat} {t:TypeId} {l c v:AV} (h:Pz T st d t l c=some (v,st')):Bb st st':=by
 unfold Pz at h
 split at h
 ·exact yg h
 ·split at h
  ·split at h
   ·injection h with h;injection h with h1 h2;subst h2;exact Wt _ _ _ _
   ·cases h
  ·cases h
theorem gQ {T:Tab} {st st':St} {d:Nat} {t:TypeId} {n:Nat} {parts:Array (Nat×Operand)} {v:AV} (h:Ep T st d t n parts=some (v,st')):Bb st st':=by
 unfold Ep at h
 split at h
 ·exact j9 h
 ·repeat' split at h
  all_goals first|(cases h;done)|(injection h with h;injection h with h1 h2;subst h2;exact Wt _ _ _ _)
theorem oM {T:Tab} {st st':St} {d:Nat} {t:TypeId} {x y:Operand} {v:AV} (h:Le T st d t x y=some (v,st')):Bb st st':=by
 unfold Le at h
 split at h
 ·exact oL h
 ·repeat' split at h
  all_goals first|(cases h;done)|(injection h with h;injection h with h1 h2;subst h2;exact Wt _ _ _ _)
theorem Yb {st st':St} {v:AV} {o:Option AV} (h:o.map (λv=>(v,st))=some (v,st')):Bb st st':=by
 cases o with
 |none=>cases h
 |some u=>injection h with h;injection h with h1 h2;subst h2;exact Bb.rfl'
theorem Se: ∀(l:List Operand) {st st1:St},Jn l st=some st1->Bb st st1
 | [],st,st1,h=>by
  simp only [Jn,Option.some.injEq] at h
  subst h
  exact Bb.rfl'
 |x::r,st,st1,h=>by
  simp only [Jn] at h
  cases hs:settle st (st.ev x) with
  |none=>rw [hs] at h;cases h
  |some p=>
   rw [hs] at h
   exact (Lu (v':=p.1) (st':=p.2) hs).trans (Se r h)
theorem gD {T:Tab} {Γ:Env} {st st':St} {o:Oper} {v:AV} (h:evalOp T Γ st o=some (v,st')):Bb st st':=by
 unfold evalOp at h
 split at h
 ·split at h
  ·split at h
   ·injection h with h;injection h with h1 h2;subst h2;exact Ic _ _ _
   ·cases h
  ·injection h with h;injection h with h1 h2;subst h2;exact Bb.rfl'
 ·split at h
  ·exact kd h
  ·cases h
 ·split at h
  ·split at h
   ·exact kd h
   ·cases h
  ·cases h
 ·rename_i t p x _
  cases hs:Jv T st t (st.ev p) (st.ev x) with
  |none=>rw [hs] at h;cases h
  |some s=>rw [hs] at h;injection h with h;injection h with h1 h2;subst h2;exact s6 hs
 ·split at h
  ·exact vq h
  ·cases h
 ·split at h
  ·exact oN h
  ·cases h
 ·rename_i t m k x _
  cases hs:Et T st t (st.ev m) (st.ev k) (st.ev x) with
  |none=>rw [hs] at h;cases h
  |some s=>rw [hs] at h;injection h with h;injection h with h1 h2;subst h2;exact gS hs
 ·rename_i t m k x _
  cases hs:Et T st t (st.ev m) (st.ev k) (st.ev x) with
  |none=>rw [hs] at h;cases h
  |some s=>rw [hs] at h;injection h with h;injection h with h1 h2;subst h2;exact gS hs
 ·split at h
  ·exact gQ h
  ·cases h
 ·exact Yb h
 ·split at h
  ·split at h
   ·exact oM h
   ·cases h
  ·cases h
 ·split at h
  ·exact yf h
  ·cases h
 ·split at h
  ·rename_i x t _ _
   cases hs:evalClear T st t (st.ev x) with
   |none=>rw [hs] at h;cases h
   |some s=>rw [hs] at h;injection h with h;injection h with h1 h2;subst h2;exact vo hs
  ·cases h
 ·split at h
  ·exact vn h
  ·split at h
   ·rename_i args _ _ _ _ _ _
    cases hs:Jn args.toList st with
    |none=>rw [hs] at h;cases h
    |some st1=>
     rw [hs] at h
     exact (Se _ hs).trans (Yb h)
   ·exact Yb h
  ·exact Yb h
 ·exact Yb h
def Ks:List Oper->List Nat
 | []=> []
 |o::r=>(match o.dst with|some d=> [d]|none=> [])++Ks r
def writes:Code->List Nat
 | .region _ ops _=>Ks ops.toList
 | .seq a b=>writes a++writes b
 | .cond _ a b=>writes a++writes b
 | .block _ c=>writes c
 | .loop c=>writes c
 |_=> []
def Fc (P:Nat->Prop) (st st':St):Prop:= ∀(t:Nat) (fr:Bool) (τ:Ty) (x:τ.den),P t->st.get t= .at (.data fr τ x)->st'.get t= .at (.data fr τ x)
theorem Fc.trans {P:Nat->Prop} {a b c:St} (h1:Fc P a b) (h2:Fc P b c):Fc P a c:= λt fr τ x hp h=>h2 t fr τ x hp (h1 t fr τ x hp h)
theorem Fc.mono {P Q:Nat->Prop} {a b:St} (h1:Fc P a b) (h: ∀t,Q t->P t):Fc Q a b:= λt fr τ x hp hx=>h1 t fr τ x (h t hp) hx
theorem Bb.on {P:Nat->Prop} {a b:St} (h:Bb a b):Fc P a b:= λt fr τ x _ hx=>h t fr τ x hx
theorem Vw (st:St) (dst:Option Tmp) (v:AV):Fc (λt=>dst≠some t) st (st.put dst v):=by
 intro t fr τ x hp hx
 cases dst with
 |none=>exact hx
 |some d=>rw [Uk st v (λh=>hp (by rw [h]))];exact hx
theorem bR {T:Tab} {Γ:Env} {ops:Array Oper} {st st':St} {o:Oper} (h:Cm T Γ ops st o=some st'):Fc (λt=>o.dst≠some t) st st':=by
 have key: ∀s,(evalOp T Γ st o).map (λr=>r.2.put o.dst r.1)=some s->Fc (λt=>o.dst≠some t) st s:=by
  intro s hs
  cases he:evalOp T Γ st o with
  |none=>rw [he] at hs;cases hs
  |some p=>rw [he] at hs;injection hs with hs;subst hs;exact (gD (v:=p.1) (st':=p.2) he).on.trans (Vw _ _ _)
 unfold Cm at h
 split at h
 ·exact key _ h
 ·split at h
  ·split at h
   ·exact key _ h
   ·injection h with h;subst h;exact Vw _ _ _
  ·injection h with h;subst h;exact Vw _ _ _
  ·cases h
theorem dW {T:Tab} {Γ:Env} {ops:Array Oper} : ∀(l:List Oper) (st st':St),Sz T Γ ops l st=some st'->Fc (λt=>t∉Ks l) st st'
 | [],st,st',h=>by injection h with h;subst h;exact Bb.rfl'.on
 |o::r,st,st',h=>by
  simp only [Sz] at h
  split at h
  ·rename_i s hs
   refine Fc.trans ((bR hs).mono λt ht=>?_) ((dW r _ _ h).mono λt ht=>?_)
   ·intro hd;apply ht;simp [Ks,hd]
   ·intro hd;apply ht;simp [Ks,hd]
  ·cases h
theorem Wx: ∀(l:List Oper) (o:Oper) (d:Nat),o∈l->o.dst=some d->d∈Ks l
 | [],_,_,h,_=>by cases h
 |p::r,o,d,h,hd=>by
  cases h with
  |head=>simp [Ks,hd]
  |tail _ h=>simp only [Ks,List.mem_append];exact .inr (Wx r o d h hd)
theorem qi {ops:Array Oper} {i:Nat} {o:Oper} (h:ops[i]?=some o):o∈ops.toList:=by
 rw [Array.getElem?_eq_some_iff] at h
 obtain ⟨h1,h2⟩:=h
 rw [<-h2]
 simp
theorem Wr {T:Tab} {Γ:Env} {ops:Array Oper} : ∀(l:List Nat) (st st':St),Je T Γ ops l st=some st'->Fc (λt=>t∉Ks ops.toList) st st'
 | [],st,st',h=>by injection h with h;subst h;exact Bb.rfl'.on
 |i::r,st,st',h=>by
  simp only [Je] at h
  split at h
  ·cases h
  ·rename_i o ho
   split at h
   ·rename_i s hs
    exact ((bR hs).mono λt ht hd=>ht (Wx _ _ _ (qi ho) hd)).trans (Wr r _ _ h)
   ·cases h
theorem Uh {T:Tab} {Γ:Env} {ops:Array Oper} : ∀(l:List Nat) (st st':St),Ec T Γ ops l st=some st'->Fc (λt=>t∉Ks ops.toList) st st'
 | [],st,st',h=>by injection h with h;subst h;exact Bb.rfl'.on
 |i::r,st,st',h=>by
  simp only [Ec] at h
  split at h
  ·cases h
  ·rename_i o ho
   split at h
   ·exact ((Vw _ _ _).mono λt ht hd=>ht (Wx _ _ _ (qi ho) hd)).trans (Uh r _ _ h)
   ·cases h
theorem aN: ∀(l:List Nat) (st:St),Bb st (Xr l st)
 | [],_=>Bb.rfl'
 |a::r,st=>(gR st a).trans (aN r _)
theorem bH (live:List Nat): ∀(i:Nat) (l:List AV) (t:Nat),i+t∈live->(Fw live i l).getD t .undef=l.getD t .undef
 |_,[],_,_=>rfl
 |i,v::r,0,h=>by simp [Fw];intro hn;exact absurd h hn
 |i,v::r,t+1,h=>by
  simp only [Fw,List.getD_cons_succ]
  exact bH live (i+1) r t (by rw [show i+1+t=i+(t+1) by omega];exact h)
theorem s5 (l k:Nat) (st:St):Bb st (st.rename l k):=by
 unfold St.rename
 split
 ·split
  ·exact (Js st (Nx l k) rfl λ_ _ _=>rfl).trans (Bb.Rb rfl)
  ·exact Bb.rfl'
 ·exact Bb.rfl'
theorem Yd: ∀(n t:Nat) (st:St),Bb st (Hs n t st)
 |0,_,_=>Bb.rfl'
 |n+1,t,st=>by
  simp only [Hs]
  refine Bb.trans ?_ (Yd n (t+1) _)
  split
  ·split
   ·split
    ·exact Bb.rfl'
    ·exact s5 _ _ _
   ·exact Bb.rfl'
  ·exact Bb.rfl'
theorem mC (t:Nat) (st:St):Bb st (Uw t st):=by
 unfold Uw
 split
 ·rename_i l off len hg
  split
  ·split
   ·intro k fr τ x hk
    have Er:k≠t:= λe=>by subst e;rw [hg] at hk;cases hk
    rw [Uk _ _ Er]
    exact Ic _ _ _ k fr τ x hk
   ·exact Bb.rfl'
  ·exact Bb.rfl'
 ·exact Bb.rfl'
theorem aP (live:List Nat): ∀(n t:Nat) (st:St),Bb st (Jm live n t st)
 |0,_,_=>Bb.rfl'
 |n+1,t,st=>by
  simp only [Jm]
  refine Bb.trans ?_ (aP live n (t+1) _)
  split
  ·exact mC _ _
  ·exact Bb.rfl'
theorem ej (live:List Nat) (st:St):Fc (λt=>t∈live) st (st.clean live):=by
 intro t fr τ x hp hx
 unfold St.clean
 have key: ∀s:St,s.get t= .at (.data fr τ x)->(if live.contains Wd then Hs s.tmps.length 0 s else s).get t= .at (.data fr τ x):=by
  intro s hs
  split
  ·exact Yd _ _ s t fr τ x hs
  ·exact hs
 have IY: ∀s:St,s.get t= .at (.data fr τ x)->(if live.any (λt=>Nat.ble Rz t) then s.Ev live else s).get t= .at (.data fr τ x):=by
  intro s hs
  split<;>exact hs
 have IZ: ∀s:St,s.get t= .at (.data fr τ x)->(if live.any (λt=>Nat.ble Hr t&&Nat.blt t Wd) then Jm live s.tmps.length 0 s else s).get t= .at (.data fr τ x):=by
  intro s hs
  split
  ·exact aP _ _ _ s t fr τ x hs
  ·exact hs
 refine IY _ (key _ (IZ _ (aN _ _ t fr τ x ?_)))
 simp only [St.get] at hx⊢
 rw [bH live 0 st.tmps t (by simpa using hp)]
 exact hx
def Up (live:Nat->List Nat):Code->Nat->Bool
 | .seq a b,t=>Up live a t&&Up live b t
 | .cond _ a b,t=>Up live a t&&Up live b t
 | .block _ c,t=>Up live c t
 | .loop c,t=>(live (Ci c)).contains t&&Up live c t
 |_,_=>true
theorem iL {a b:Bool} (h:(a&&b)=true):a=true:=by cases a<;>simp_all
theorem eW {a b:Bool} (h:(a&&b)=true):b=true:=by cases a<;>simp_all
theorem iP {T:Tab} {Γ:Env} {ops:Array Oper} {draw:Bool} {st st':St} (h:Lf T Γ ops draw st=some st'):Fc (λt=>t∉writes (.region 0 ops draw)) st st':=by
 unfold Lf at h
 have go: ∀q,(match Ec T Γ ops (dm q Γ ops) st with
   |some s=>Je T Γ ops (Fe q Γ ops) s
   |none=>none)=some st'->Fc (λt=>t∉writes (.region 0 ops draw)) st st':=by
  intro q h
  split at h
  ·rename_i s hs
   exact (Uh _ _ _ hs).trans (Wr _ _ _ h)
  ·cases h
 split at h
 ·split at h
  ·exact go false h
  ·split at h
   ·exact go true h
   ·cases h
 ·exact dW _ _ _ h
theorem lJ {T:Tab} {Γ:Env} {ops:Array Oper} {draw:Bool} {K:St->Prop} (s0:St): ∀(f:Nat) (Ad:Array Bool) (st:St),Fc (λt=>t∉writes (.region 0 ops draw)) s0 st->anyS T Γ ops K f Ad st->anyS T Γ ops (λs=>K s/\Fc (λt=>t∉writes (.region 0 ops draw)) s0 s) f Ad st
 |0,_,_,hk,h=>⟨h.1,h.2,hk⟩
 |f+1,Ad,st,hk,h=>⟨h.1,λi hi=>by
  obtain ⟨o,st',h1,h2,h3⟩:=h.2 i hi
  have h4:Je T Γ ops [i] st=some st':=by simp only [Je,h1,h2]
  exact ⟨o,st',h1,h2,lJ s0 f _ _ (hk.trans (Wr _ _ _ h4)) h3⟩⟩
theorem qX.keeps {T:Tab} {Γ:Env} {ops:Array Oper} {draw:Bool} {st:St} {K:St->Prop} (h:qX T Γ ops draw st K):qX T Γ ops draw st (λs=>K s/\Fc (λt=>t∉writes (.region 0 ops draw)) st s):=by
 rcases h with ⟨st',h1,h2⟩|⟨h1,h2,aY,h3,h4⟩
 ·exact .inl ⟨st',h1,h2,iP h1⟩
 ·exact .inr ⟨h1,h2,aY,h3,lJ st _ _ _ (Uh _ _ _ h3) h4⟩
theorem yW {T:Tab} {Γ:Env} {live:Nat->List Nat} {c:Code} {st:St} {Q:Gv->St->Prop} (h:Jc T Γ live c st Q): ∀(s0:St) (p:Nat->Prop),Fc p s0 st->(∀t,p t->t∉writes c/\Up live c t=true)->Jc T Γ live c st (λe s=>Q e s/\Fc p s0 s):=by
 induction h with
 |skip h=>exact λs0 p hk _=> .skip ⟨h,hk⟩
 |label h=>exact λs0 p hk _=> .label ⟨h,hk⟩
 |exit h=>exact λs0 p hk _=> .exit ⟨h,hk⟩
 |ret h=>exact λs0 p hk _=> .ret ⟨h,hk⟩
 |region h=>
  exact λs0 p hk hp=> .region (h.keeps.mono λs hs=>⟨hs.1,hk.trans (hs.2.mono λt ht=>(hp t ht).1)⟩)
 |seq Q1 _ _ h3 CI ve=>
  exact λs0 p hk hp=> .seq _ (CI s0 p hk λt ht=>⟨λhm=>(hp t ht).1 (by simp [writes,hm]),iL (hp t ht).2⟩)
   (λs hs=>ve s hs.1 s0 p hs.2 λt ht=>⟨λhm=>(hp t ht).1 (by simp [writes,hm]),eW (hp t ht).2⟩) λe s he hs=>⟨h3 e s he hs.1,hs.2⟩
 |cond hc _ _ CI ve=>
  exact λs0 p hk hp=> .cond hc (λht=>CI ht s0 p hk λt h=>⟨λhm=>(hp t h).1 (by simp [writes,hm]),iL (hp t h).2⟩)
   fun ht=>ve ht s0 p hk λt h=>⟨λhm=>(hp t h).1 (by simp [writes,hm]),eW (hp t h).2⟩
 |block Q1 _ h2 ih=>
  exact λs0 p hk hp=> .block _ (ih s0 p hk λt ht=>⟨λhm=>(hp t ht).1 (by simpa [writes] using hm),by simpa [Up] using (hp t ht).2⟩) λe s hs=>by
   have h:=h2 e s hs.1
   cases e with
   |normal=>exact ⟨h,hs.2⟩
   |ret=>exact ⟨h,hs.2⟩
   |exit CG=>
    simp only [pY] at h⊢
    split at h
    ·rename_i hi;rw [if_pos hi];exact ⟨h,hs.2⟩
    ·rename_i hi;rw [if_neg hi];exact ⟨h,hs.2⟩
 |loop Q1 _ _ h3 CI ve=>
  intro s0 p hk hp
  refine .loop _ (CI s0 p (hk.trans ((ej _ _).mono λt ht=>by simpa using iL (hp t ht).2)) λt ht=>⟨λhm=>(hp t ht).1 (by simpa [writes] using hm),eW (hp t ht).2⟩)
   (λs hs=>ve s hs.1 s0 p hs.2 hp) λe s he hs=>⟨h3 e s he hs.1,hs.2⟩
end Go.Proofs.Ytjbdmibbbpdnnaa
