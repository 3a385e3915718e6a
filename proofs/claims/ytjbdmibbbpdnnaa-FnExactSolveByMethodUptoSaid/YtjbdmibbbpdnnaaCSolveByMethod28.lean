/-
  Part 29 of the proof that the statement FnExactSolveByMethod holds.
-/
import Derived.Test.YtjbdmibbbpdnnaaCSolveByMethod27
namespace Go.Proofs.Ytjbdmibbbpdnnaa
open Go.RowKit
def Bc (st st':St):Prop:= ∀(t:Nat) (fr:Bool) (τ:Ty) (x:τ.den),st.get t= .at (.data fr τ x)->st'.get t= .at (.data fr τ x)
theorem Bc.rfl' {st:St} :Bc st st:= λ_ _ _ _ h=>h
theorem Bc.trans {a b c:St} (h1:Bc a b) (h2:Bc b c):Bc a c:= λt fr τ x h=>h2 t fr τ x (h1 t fr τ x h)
theorem Bc.Rv {a b:St} (h:b.tmps=a.tmps):Bc a b:= λt fr τ x hx=>by
 simp only [St.get] at hx⊢
 rw [h]
 exact hx
theorem Vg (st:St) {t d:Nat} (v:AV) (h:t≠d):(st.put (some d) v).get t=st.get t:=by
 simp only [St.put,St.get]
 rw [Uq]
 rw [if_neg (by rintro ⟨rfl,_⟩;exact h rfl)]
theorem Ka (st:St) (f:AC->AC) (hu:f .undef= .undef) (hd: ∀fr (τ:Ty) (x:τ.den),f (.data fr τ x)= .data fr τ x):Bc st (st.Gm f):=by
 intro t fr τ x h
 simp only [St.Gm,St.get]
 rw [Sd f hu,show st.tmps.getD t .undef=_ from h]
 simp only [AV.map,hd]
theorem iA (st:St) (l:Nat):Bc st (st.forget l):=
 (Ka st (Ba l) rfl λ_ _ _=>rfl).trans (Bc.Rv rfl)
theorem Tx (st:St) (l:Nat) (fr:Bool) (e:Ty) (xs:List e.den):Bc st (st.freeze l fr e xs):=
 (Ka st (Bb l fr e xs) rfl λ_ _ _=>rfl).trans (Bc.Rv rfl)
theorem bu (st:St) (l:Nat) (v:Ty) (m:ByteArray->Option v.den):Bc st (st.Eo l v m):=
 (Ka st (Dq l v m) rfl λ_ _ _=>rfl).trans (Bc.Rv rfl)
theorem Ig (st:St) (l:Nat) (b:OB):Bc st (st.new l b):=(iA st l).trans (Bc.Rv rfl)
theorem Jc (st:St) (l:Nat) (b:OB):Bc st (st.Gg l b):=Bc.Rv rfl
theorem Zd (b:OB) (key l i:Nat) (st:St):Bc st (Nv b key l i st):=by
 unfold Nv
 split
 ·split
  ·dsimp only
   split
   ·exact (Ig _ _ _).trans (Jc _ _ _)
   ·exact Ig _ _ _
  ·exact Bc.rfl'
 ·exact Bc.rfl'
theorem fb (T:Tab) (l:Nat) (t:TypeId) (τ:Ty): ∀(n i:Nat) (st:St),Bc st (aI T l t τ n i st)
 |0,_,_=>Bc.rfl'
 |n+1,i,st=>by
  simp only [aI]
  refine Bc.trans ?_ (fb T l t τ n (i+1) _)
  split
  ·exact Zd _ _ _ _ _
  ·exact Bc.rfl'
theorem cM (T:Tab) (l off:Nat) (t:TypeId) (τ:Ty): ∀(n i:Nat) (st:St),Bc st (Zi T l off t τ n i st)
 |0,_,_=>Bc.rfl'
 |n+1,i,st=>by
  simp only [Zi]
  refine Bc.trans ?_ (cM T l off t τ n (i+1) _)
  split
  ·exact Zd _ _ _ _ _
  ·exact Bc.rfl'
theorem Lg: ∀(n:Nat) (st:St) (cs cr:List AC) (st':St),Dw n st cs=some (cr,st')->Bc st st'
 |0,st,cs,cr,st',h=>by
  simp only [Dw] at h
  split at h
  ·injection h with h;injection h with h1 h2;subst h2;exact Bc.rfl'
  ·cases h
 |n+1,st,cs,cr,st',h=>by
  simp only [Dw] at h
  split at h
  ·injection h with h;injection h with h1 h2;subst h2;exact Bc.rfl'
  ·split at h
   ·exact (Tx _ _ _ _ _).trans (Lg n _ _ _ _ h)
   ·exact (Tx _ _ _ _ _).trans (Lg n _ _ _ _ h)
   ·cases h
  ·split at h
   ·exact (bu _ _ _ _).trans (Lg n _ _ _ _ h)
   ·cases h
  ·cases h
theorem Ma {st st':St} {v v':AV} (h:settle st v=some (v',st')):Bc st st':=by
 unfold settle at h
 split at h
 ·split at h
  ·injection h with h;injection h with h1 h2;subst h2;exact Tx _ _ _ _ _
  ·injection h with h;injection h with h1 h2;subst h2;exact Tx _ _ _ _ _
  ·cases h
 ·split at h
  ·injection h with h;injection h with h1 h2;subst h2;exact bu _ _ _ _
  ·cases h
 ·split at h
  ·injection h with h;injection h with h1 h2;subst h2;exact Bc.rfl'
  ·cases h
 ·rename_i cs
  cases hs:Dw cs.length st cs with
  |none=>rw [hs] at h;cases h
  |some p=>rw [hs] at h;injection h with h;injection h with h1 h2;subst h2;exact Lg _ _ _ _ _ hs
 ·injection h with h;injection h with h1 h2;subst h2;exact Bc.rfl'
 ·cases h
theorem kV {T:Tab} {st st':St} {l:Nat} {t:TypeId} {τ:Ty} {cs:List AC} {v:AV} (h:mkVar T st l t τ cs=some (v,st')):Bc st st':=by
 unfold mkVar at h
 split at h
 ·cases h
 dsimp only at h
 split at h
 ·injection h with h;injection h with h1 h2;subst h2;exact (Ig _ _ _).trans (fb _ _ _ _ _ _ _)
 ·cases h
theorem wD {T:Tab} {st st':St} {t:TypeId} {p v:AV} (h:Od T st t p v=some st'):Bc st st':=by
 unfold Od at h
 split at h
 ·split at h
  ·split at h
   ·injection h with h
    split at h
    ·subst h;exact (Jc _ _ _).trans (cM _ _ _ _ _ _ _ _)
    ·subst h;exact Jc _ _ _
   ·cases h
  ·cases h
 ·split at h
  ·rename_i hs
   split at h
   ·split at h
    ·split at h
     ·injection h with h;subst h;exact (Ma hs).trans (Jc _ _ _)
     ·cases h
    ·cases h
   ·cases h
  ·cases h
 ·cases h
theorem ny (st:St) (l j m:Nat) (e:Ty) (te:TypeId) (rows:List (List e.den)) (xs:List e.den) (kp:Option (Nat×Nat)):Bc st (Mz st l j m e te rows xs kp):=
 ((Ka st (Aw [m] [l]) (by simp [Aw,AC.refs]) λfr τ x=>by simp [Aw,AC.refs]).trans (Bc.Rv rfl)).trans (Jc (st.Wp [m] [l]) _ _)
theorem nz (st:St) (l i m:Nat) (e:Ty) (te tid:TypeId) (rows:List (List e.den)) (kp:Option (Nat×Nat)):Bc st (Km st l i m e te tid rows kp):=
 (Jc st l _).trans (Ig _ m _)
theorem th {T:Tab} {st st':St} {t:TypeId} {p v:AV} (h:Ke T st t p v=some st'):Bc st st':=by
 unfold Ke at h
 split at h
 rotate_left
 ·exact wD h
 unfold Vf at h
 split at h
 ·split at h
  ·rename_i hs
   split at h
   ·split at h
    ·injection h with h;subst h;exact (Ma hs).trans (Jc _ _ _)
    ·cases h
   ·cases h
  ·cases h
 ·split at h
  ·split at h
   ·split at h
    ·injection h with h;subst h
     exact ny _ _ _ _ _ _ _ _ _
    ·cases h
   ·cases h
  ·cases h
 ·cases h
theorem ar {T:Tab} {st st':St} {d:Nat} {t:TypeId} {x y:Operand} {v:AV} (h:Ix T st d t x y=some (v,st')):Bc st st':=by
 unfold Ix at h
 split at h
 ·cases h
 ·split at h
  ·rename_i hs
   split at h
   ·cases h
   ·split at h
    ·split at h
     ·injection h with h;injection h with h1 h2;subst h2;exact ((Ma hs).trans (Ig _ _ _)).trans (Ig _ _ _)
     ·cases h
    ·split at h
     ·split at h
      ·split at h
       ·injection h with h;injection h with h1 h2;subst h2;exact (Ma hs).trans (Ig _ _ _)
       ·cases h
      ·cases h
     ·cases h
    ·cases h
  ·cases h
theorem pF {T:Tab} {st st':St} {d:Nat} {t:TypeId} {x y:Operand} {v:AV} (h:Ll T st d t x y=some (v,st')):Bc st st':=by
 unfold Ll at h
 split at h
 ·rename_i tx
  split at h
  ·rename_i l i c hg
   split at h
   ·split at h
    ·rename_i e te rows kp tid hl ht hc
     refine Bc.trans (b:=(Km st l i d e te tid rows kp).put (some tx) (.at (.own d 0 (rows.getD i []).length))) ?_ (ar h)
     intro t' fr τ z hz
     by_cases e':t'=tx
     ·subst e';rw [hg] at hz;cases hz
     ·rw [Vg _ _ e'];exact nz st l i d e te tid rows kp t' fr τ z hz
    ·cases h
   ·cases h
  ·exact ar h
 ·exact ar h
theorem zm {T:Tab} {st st':St} {d:Nat} {t:TypeId} {l c v:AV} (h:Vc T st d t l c=some (v,st')):Bc st st':=by
 unfold Vc at h
 split at h
 ·split at h
  ·split at h
   ·injection h with h;injection h with h1 h2;subst h2;exact Ig _ _ _
   ·cases h
  ·cases h
 ·cases h
theorem kW (e:Ty): ∀(l:List (Nat×Operand)) (i:Nat) (st st':St) (fr tr:Bool) (ys:List e.den),Gu e i l st=some (fr,tr,ys,st')->Bc st st'
 | [],_,_,_,_,_,_,h=>by
  simp only [Gu] at h
  injection h with h;injection h with h1 h2;injection h2 with h2 h3;injection h3 with h3 h4;subst h4;exact Bc.rfl'
 |(j,x)::r,i,st,st',fr,tr,ys,h=>by
  simp only [Gu] at h
  split at h
  ·split at h
   ·rename_i hs
    split at h
    ·split at h
     ·rename_i hp
      injection h with h;injection h with h1 h2;injection h2 with h2 h3;injection h3 with h3 h4;subst h4
      exact (Ma hs).trans (kW e r _ _ _ _ _ _ hp)
     ·cases h
    ·cases h
   ·cases h
  ·cases h
theorem jJ {T:Tab} {st st':St} {d:Nat} {t:TypeId} {n:Nat} {parts:Array (Nat×Operand)} {v:AV} (h:Ho T st d t n parts=some (v,st')):Bc st st':=by
 unfold Ho at h
 split at h
 ·cases h
 ·split at h
  ·cases h
  ·split at h
   ·split at h
    ·rename_i hp
     injection h with h;injection h with h1 h2;subst h2;exact (kW _ _ _ _ _ _ _ _ hp).trans (Ig _ _ _)
    ·cases h
   ·cases h
theorem pH {T:Tab} {st st':St} {d:Nat} {t:TypeId} {v:AV} (h:Oc T st d t=some (v,st')):Bc st st':=by
 unfold Oc at h
 split at h
 ·split at h
  ·injection h with h;injection h with h1 h2;subst h2;exact Ig _ _ _
  ·cases h
 ·cases h
theorem iB {T:Tab} {st st':St} {t:TypeId} {m k x:AV} (h:Ez T st t m k x=some st'):Bc st st':=by
 unfold Ez at h
 split at h
 ·split at h
  ·split at h
   ·injection h with h;subst h;exact Jc _ _ _
   ·cases h
  ·cases h
 ·cases h
theorem zl {T:Tab} {st st':St} {t t':TypeId} {x y v:AV} (h:cw T st t t' x y=some (v,st')):Bc st st':=by
 unfold cw at h
 split at h
 ·split at h
  ·split at h
   ·split at h
    ·injection h with h;injection h with h1 h2;subst h2;exact Jc _ _ _
    ·cases h
   ·cases h
  ·cases h
 ·cases h
theorem wB {T:Tab} {st st':St} {t:TypeId} {x:AV} (h:evalClear T st t x=some st'):Bc st st':=by
 unfold evalClear at h
 split at h
 ·split at h
  ·split at h
   ·split at h
    ·injection h with h;subst h;exact Jc _ _ _
    ·cases h
   ·cases h
  ·cases h
 ·cases h
theorem rG {st st':St} {c:CK} {ys:c.den} {a:AC} (h:Wh st c ys a=some st'):st'.tmps=st.tmps:=by
 unfold Wh at h
 repeat' split at h
 all_goals first|(cases h;done)|(simp only [Option.some.injEq] at h;subst h;rfl)|skip
theorem GL {st st':St} {e:Ty} {ys:List e.den} {a:AC} (h:zR st e ys a=some st'):st'.tmps=st.tmps:=by
 unfold zR at h
 repeat' split at h
 all_goals first|(cases h;done)|(simp only [Option.some.injEq] at h;subst h;rfl)|skip
theorem Nw: ∀(cs:List (Bool×CK)) (o:IOs.den cs) (as:List AC) (st st':St),Eg cs o as st=some st'->st'.tmps=st.tmps
 | [],_,_,st,st',h=>by simp only [Eg,Option.some.injEq] at h;subst h;rfl
 |(true, .Ft _)::r,o,[],st,st',h=>by simp [Eg] at h
 |(true, .row _ _)::r,o,[],st,st',h=>by simp [Eg] at h
 |(true, .Dv _ _)::r,o,[],st,st',h=>by simp [Eg] at h
 |(true, .part _ _)::r,o,[],st,st',h=>by simp [Eg] at h
 |(true, .Am _ _ _)::r,o,[],st,st',h=>by simp [Eg] at h
 |(true, .Am _ _ _)::r,o,a::as,st,st',h=>Nw r o as st st' (by simpa only [Eg] using h)
 |(false,_)::r,o,[],st,st',h=>by simp [Eg] at h
 |(true, .Ft _)::r,o,a::as,st,st',h=>Nw r o as st st' (by simpa only [Eg] using h)
 |(false,_)::r,o,a::as,st,st',h=>Nw r o as st st' (by simpa only [Eg] using h)
 |(true, .row _ _)::r,o,a::as,st,st',h=>by
  simp only [Eg] at h
  split at h
  ·rename_i hc;exact (Nw r o.2 as _ st' h).trans (rG hc)
  ·cases h
 |(true, .part _ _)::r,o,a::as,st,st',h=>by
  simp only [Eg] at h
  split at h
  ·rename_i hc;exact (Nw r o.2 as _ st' h).trans (GL hc)
  ·cases h
 |(true, .Dv _ _)::r,o,a::as,st,st',h=>by
  simp only [Eg] at h
  split at h
  ·rename_i hc;exact (Nw r o.2 as _ st' h).trans (rG hc)
  ·cases h
theorem tf (bH st:St) (ls:List Nat) (n:Nat) (hl:bH.tmps.length=st.tmps.length) (h:Bc bH st):Bc bH (gk bH st ls n):=by
 unfold gk
 split
 ·exact h
 ·intro t fr τ x hx
  show (Hb _ bH.tmps st.tmps).getD t .undef=_
  rcases aY ls bH.tmps st.tmps t hl with ⟨k,i,c,h1,_⟩|h1
  ·rw [show bH.tmps.getD t .undef=_ from hx] at h1;cases h1
  ·rw [h1];exact h t fr τ x hx
theorem wA {st st':St} {d:Option Nat} {s:MSpec} {args:List AV} {v:AV} (h:Ql st d s args=some (v,st')):Bc st st':=by
 unfold Ql at h
 split at h
 ·cases h
 split at h
 ·cases h
 split at h
 ·cases h
 split at h
 ·split at h
  ·cases h
  split at h
  ·cases h
  rename_i st1 hp
  split at h
  ·cases h
  split at h
  ·simp only [Option.some.injEq,Prod.mk.injEq] at h
   obtain ⟨_,rfl⟩:=h
   have hpt:=Nw _ _ _ _ _ hp
   refine tf _ _ _ _ ?_ ?_
   ·simp only [fK,km]
    rw [<-hpt]
    simp only [St.Wp,St.Gm,List.length_map]
   ·refine Bc.trans (Bc.Rv hpt) ?_
    refine Bc.trans (Ka st1 (Aw _ _) (by simp [Aw,AC.refs]) λfr τ x=>by simp [Aw,AC.refs]) (Bc.Rv km)
  ·cases h
 ·cases h
theorem Xs (st:St) (k m:Nat) (b:OB):Bc st (Le st k m b):=
 (Ka st (Aw [m,k] []) (by simp [Aw,AC.refs]) λfr τ x=>by simp [Aw,AC.refs]).trans (Bc.Rv rfl)
theorem wC {T:Tab} {st st':St} {d:Nat} {t:TypeId} {l c v:AV} (h:Qn T st d t l c=some (v,st')):Bc st st':=by
 unfold Qn at h
 split at h
 ·exact zm h
 ·split at h
  ·split at h
   ·injection h with h;injection h with h1 h2;subst h2;exact Xs _ _ _ _
   ·cases h
  ·cases h
theorem iz {T:Tab} {st st':St} {d:Nat} {t:TypeId} {n:Nat} {parts:Array (Nat×Operand)} {v:AV} (h:Ex T st d t n parts=some (v,st')):Bc st st':=by
 unfold Ex at h
 split at h
 ·exact jJ h
 ·repeat' split at h
  all_goals first|(cases h;done)|(injection h with h;injection h with h1 h2;subst h2;exact Xs _ _ _ _)
theorem pG {T:Tab} {st st':St} {d:Nat} {t:TypeId} {x y:Operand} {v:AV} (h:Lm T st d t x y=some (v,st')):Bc st st':=by
 unfold Lm at h
 split at h
 ·exact pF h
 ·repeat' split at h
  all_goals first|(cases h;done)|(injection h with h;injection h with h1 h2;subst h2;exact Xs _ _ _ _)
theorem Zc {st st':St} {v:AV} {o:Option AV} (h:o.map (λv=>(v,st))=some (v,st')):Bc st st':=by
 cases o with
 |none=>cases h
 |some u=>injection h with h;injection h with h1 h2;subst h2;exact Bc.rfl'
theorem Sx: ∀(l:List Operand) {st st1:St},Jv l st=some st1->Bc st st1
 | [],st,st1,h=>by
  simp only [Jv,Option.some.injEq] at h
  subst h
  exact Bc.rfl'
 |x::r,st,st1,h=>by
  simp only [Jv] at h
  cases hs:settle st (st.ev x) with
  |none=>rw [hs] at h;cases h
  |some p=>
   rw [hs] at h
   exact (Ma (v':=p.1) (st':=p.2) hs).trans (Sx r h)
theorem ic {T:Tab} {Γ:Env} {st st':St} {o:Oper} {v:AV} (h:evalOp T Γ st o=some (v,st')):Bc st st':=by
 unfold evalOp at h
 split at h
 ·split at h
  ·split at h
   ·injection h with h;injection h with h1 h2;subst h2;exact Ig _ _ _
   ·cases h
  ·injection h with h;injection h with h1 h2;subst h2;exact Bc.rfl'
 ·split at h
  ·exact kV h
  ·cases h
 ·split at h
  ·split at h
   ·exact kV h
   ·cases h
  ·cases h
 ·rename_i t p x _
  cases hs:Ke T st t (st.ev p) (st.ev x) with
  |none=>rw [hs] at h;cases h
  |some s=>rw [hs] at h;injection h with h;injection h with h1 h2;subst h2;exact th hs
 ·split at h
  ·exact wC h
  ·cases h
 ·split at h
  ·exact pH h
  ·cases h
 ·rename_i t m k x _
  cases hs:Ez T st t (st.ev m) (st.ev k) (st.ev x) with
  |none=>rw [hs] at h;cases h
  |some s=>rw [hs] at h;injection h with h;injection h with h1 h2;subst h2;exact iB hs
 ·rename_i t m k x _
  cases hs:Ez T st t (st.ev m) (st.ev k) (st.ev x) with
  |none=>rw [hs] at h;cases h
  |some s=>rw [hs] at h;injection h with h;injection h with h1 h2;subst h2;exact iB hs
 ·split at h
  ·exact iz h
  ·cases h
 ·exact Zc h
 ·split at h
  ·split at h
   ·exact pG h
   ·cases h
  ·cases h
 ·split at h
  ·exact zl h
  ·cases h
 ·split at h
  ·rename_i x t _ _
   cases hs:evalClear T st t (st.ev x) with
   |none=>rw [hs] at h;cases h
   |some s=>rw [hs] at h;injection h with h;injection h with h1 h2;subst h2;exact wB hs
  ·cases h
 ·split at h
  ·exact wA h
  ·split at h
   ·rename_i args _ _ _ _ _ _
    cases hs:Jv args.toList st with
    |none=>rw [hs] at h;cases h
    |some st1=>
     rw [hs] at h
     exact (Sx _ hs).trans (Zc h)
   ·exact Zc h
  ·exact Zc h
 ·exact Zc h
def La:List Oper->List Nat
 | []=> []
 |o::r=>(match o.dst with|some d=> [d]|none=> [])++La r
def writes:Code->List Nat
 | .region _ ops _=>La ops.toList
 | .seq a b=>writes a++writes b
 | .cond _ a b=>writes a++writes b
 | .block _ c=>writes c
 | .loop c=>writes c
 |_=> []
def Fk (P:Nat->Prop) (st st':St):Prop:= ∀(t:Nat) (fr:Bool) (τ:Ty) (x:τ.den),P t->st.get t= .at (.data fr τ x)->st'.get t= .at (.data fr τ x)
theorem Fk.trans {P:Nat->Prop} {a b c:St} (h1:Fk P a b) (h2:Fk P b c):Fk P a c:= λt fr τ x hp h=>h2 t fr τ x hp (h1 t fr τ x hp h)
theorem Fk.mono {P Q:Nat->Prop} {a b:St} (h1:Fk P a b) (h: ∀t,Q t->P t):Fk Q a b:= λt fr τ x hp hx=>h1 t fr τ x (h t hp) hx
theorem Bc.on {P:Nat->Prop} {a b:St} (h:Bc a b):Fk P a b:= λt fr τ x _ hx=>h t fr τ x hx
theorem Wt (st:St) (dst:Option Tmp) (v:AV):Fk (λt=>dst≠some t) st (st.put dst v):=by
 intro t fr τ x hp hx
 cases dst with
 |none=>exact hx
 |some d=>rw [Vg st v (λh=>hp (by rw [h]))];exact hx
theorem cy {T:Tab} {Γ:Env} {ops:Array Oper} {st st':St} {o:Oper} (h:Co T Γ ops st o=some st'):Fk (λt=>o.dst≠some t) st st':=by
 have key: ∀s,(evalOp T Γ st o).map (λr=>r.2.put o.dst r.1)=some s->Fk (λt=>o.dst≠some t) st s:=by
  intro s hs
  cases he:evalOp T Γ st o with
  |none=>rw [he] at hs;cases hs
  |some p=>rw [he] at hs;injection hs with hs;subst hs;exact (ic (v:=p.1) (st':=p.2) he).on.trans (Wt _ _ _)
 unfold Co at h
 split at h
 ·exact key _ h
 ·split at h
  ·split at h
   ·exact key _ h
   ·injection h with h;subst h;exact Wt _ _ _
  ·injection h with h;subst h;exact Wt _ _ _
  ·cases h
theorem eO {T:Tab} {Γ:Env} {ops:Array Oper} : ∀(l:List Oper) (st st':St),Tu T Γ ops l st=some st'->Fk (λt=>t∉La l) st st'
 | [],st,st',h=>by injection h with h;subst h;exact Bc.rfl'.on
 |o::r,st,st',h=>by
  simp only [Tu] at h
  split at h
  ·rename_i s hs
   refine Fk.trans ((cy hs).mono λt ht=>?_) ((eO r _ _ h).mono λt ht=>?_)
   ·intro hd;apply ht;simp [La,hd]
   ·intro hd;apply ht;simp [La,hd]
  ·cases h
theorem Xx: ∀(l:List Oper) (o:Oper) (d:Nat),o∈l->o.dst=some d->d∈La l
 | [],_,_,h,_=>by cases h
 |p::r,o,d,h,hd=>by
  cases h with
  |head=>simp [La,hd]
  |tail _ h=>simp only [La,List.mem_append];exact .inr (Xx r o d h hd)
theorem rn {ops:Array Oper} {i:Nat} {o:Oper} (h:ops[i]?=some o):o∈ops.toList:=by
 rw [Array.getElem?_eq_some_iff] at h
 obtain ⟨h1,h2⟩:=h
 rw [<-h2]
 simp
theorem Xq {T:Tab} {Γ:Env} {ops:Array Oper} : ∀(l:List Nat) (st st':St),Jl T Γ ops l st=some st'->Fk (λt=>t∉La ops.toList) st st'
 | [],st,st',h=>by injection h with h;subst h;exact Bc.rfl'.on
 |i::r,st,st',h=>by
  simp only [Jl] at h
  split at h
  ·cases h
  ·rename_i o ho
   split at h
   ·rename_i s hs
    exact ((cy hs).mono λt ht hd=>ht (Xx _ _ _ (rn ho) hd)).trans (Xq r _ _ h)
   ·cases h
theorem Vd {T:Tab} {Γ:Env} {ops:Array Oper} : ∀(l:List Nat) (st st':St),Ef T Γ ops l st=some st'->Fk (λt=>t∉La ops.toList) st st'
 | [],st,st',h=>by injection h with h;subst h;exact Bc.rfl'.on
 |i::r,st,st',h=>by
  simp only [Ef] at h
  split at h
  ·cases h
  ·rename_i o ho
   split at h
   ·exact ((Wt _ _ _).mono λt ht hd=>ht (Xx _ _ _ (rn ho) hd)).trans (Vd r _ _ h)
   ·cases h
theorem bt: ∀(l:List Nat) (st:St),Bc st (Yt l st)
 | [],_=>Bc.rfl'
 |a::r,st=>(iA st a).trans (bt r _)
theorem cj (live:List Nat): ∀(i:Nat) (l:List AV) (t:Nat),i+t∈live->(Ge live i l).getD t .undef=l.getD t .undef
 |_,[],_,_=>rfl
 |i,v::r,0,h=>by simp [Ge];intro hn;exact absurd h hn
 |i,v::r,t+1,h=>by
  simp only [Ge,List.getD_cons_succ]
  exact cj live (i+1) r t (by rw [show i+1+t=i+(t+1) by omega];exact h)
theorem tg (l k:Nat) (st:St):Bc st (st.rename l k):=by
 unfold St.rename
 split
 ·split
  ·exact (Ka st (Oj l k) rfl λ_ _ _=>rfl).trans (Bc.Rv rfl)
  ·exact Bc.rfl'
 ·exact Bc.rfl'
theorem Ze: ∀(n t:Nat) (st:St),Bc st (Hu n t st)
 |0,_,_=>Bc.rfl'
 |n+1,t,st=>by
  simp only [Hu]
  refine Bc.trans ?_ (Ze n (t+1) _)
  split
  ·split
   ·split
    ·exact Bc.rfl'
    ·exact tg _ _ _
   ·exact Bc.rfl'
  ·exact Bc.rfl'
theorem nA (t:Nat) (st:St):Bc st (Vs t st):=by
 unfold Vs
 split
 ·rename_i l off len hg
  split
  ·split
   ·intro k fr τ x hk
    have Ep:k≠t:= λe=>by subst e;rw [hg] at hk;cases hk
    rw [Vg _ _ Ep]
    exact Ig _ _ _ k fr τ x hk
   ·exact Bc.rfl'
  ·exact Bc.rfl'
 ·exact Bc.rfl'
theorem bw (live:List Nat): ∀(n t:Nat) (st:St),Bc st (Ju live n t st)
 |0,_,_=>Bc.rfl'
 |n+1,t,st=>by
  simp only [Ju]
  refine Bc.trans ?_ (bw live n (t+1) _)
  split
  ·exact nA _ _
  ·exact Bc.rfl'
theorem fa (live:List Nat) (st:St):Fk (λt=>t∈live) st (st.clean live):=by
 intro t fr τ x hp hx
 unfold St.clean
 have key: ∀s:St,s.get t= .at (.data fr τ x)->(if live.contains Xb then Hu s.tmps.length 0 s else s).get t= .at (.data fr τ x):=by
  intro s hs
  split
  ·exact Ze _ _ s t fr τ x hs
  ·exact hs
 have LI: ∀s:St,s.get t= .at (.data fr τ x)->(if live.any (λt=>Nat.ble Sr t) then s.Fa live else s).get t= .at (.data fr τ x):=by
  intro s hs
  split<;>exact hs
 have LJ: ∀s:St,s.get t= .at (.data fr τ x)->(if live.any (λt=>Nat.ble Ht t&&Nat.blt t Xb) then Ju live s.tmps.length 0 s else s).get t= .at (.data fr τ x):=by
  intro s hs
  split
  ·exact bw _ _ _ s t fr τ x hs
  ·exact hs
 refine LI _ (key _ (LJ _ (bt _ _ t fr τ x ?_)))
 simp only [St.get] at hx⊢
 rw [cj live 0 st.tmps t (by simpa using hp)]
 exact hx
def Vl (live:Nat->List Nat):Code->Nat->Bool
 | .seq a b,t=>Vl live a t&&Vl live b t
 | .cond _ a b,t=>Vl live a t&&Vl live b t
 | .block _ c,t=>Vl live c t
 | .loop c,t=>(live (Cl c)).contains t&&Vl live c t
 |_,_=>true
theorem jm {a b:Bool} (h:(a&&b)=true):a=true:=by cases a<;>simp_all
theorem fL {a b:Bool} (h:(a&&b)=true):b=true:=by cases a<;>simp_all
theorem js {T:Tab} {Γ:Env} {ops:Array Oper} {draw:Bool} {st st':St} (h:Ln T Γ ops draw st=some st'):Fk (λt=>t∉writes (.region 0 ops draw)) st st':=by
 unfold Ln at h
 have go: ∀q,(match Ef T Γ ops (dX q Γ ops) st with
   |some s=>Jl T Γ ops (Fl q Γ ops) s
   |none=>none)=some st'->Fk (λt=>t∉writes (.region 0 ops draw)) st st':=by
  intro q h
  split at h
  ·rename_i s hs
   exact (Vd _ _ _ hs).trans (Xq _ _ _ h)
  ·cases h
 split at h
 ·split at h
  ·exact go false h
  ·split at h
   ·exact go true h
   ·cases h
 ·exact eO _ _ _ h
theorem my {T:Tab} {Γ:Env} {ops:Array Oper} {draw:Bool} {K:St->Prop} (s0:St): ∀(f:Nat) (Ad:Array Bool) (st:St),Fk (λt=>t∉writes (.region 0 ops draw)) s0 st->anyS T Γ ops K f Ad st->anyS T Γ ops (λs=>K s/\Fk (λt=>t∉writes (.region 0 ops draw)) s0 s) f Ad st
 |0,_,_,hk,h=>⟨h.1,h.2,hk⟩
 |f+1,Ad,st,hk,h=>⟨h.1,λi hi=>by
  obtain ⟨o,st',h1,h2,h3⟩:=h.2 i hi
  have h4:Jl T Γ ops [i] st=some st':=by simp only [Jl,h1,h2]
  exact ⟨o,st',h1,h2,my s0 f _ _ (hk.trans (Xq _ _ _ h4)) h3⟩⟩
theorem sj.keeps {T:Tab} {Γ:Env} {ops:Array Oper} {draw:Bool} {st:St} {K:St->Prop} (h:sj T Γ ops draw st K):sj T Γ ops draw st (λs=>K s/\Fk (λt=>t∉writes (.region 0 ops draw)) st s):=by
 rcases h with ⟨st',h1,h2⟩|⟨h1,h2,bH,h3,h4⟩
 ·exact .inl ⟨st',h1,h2,js h1⟩
 ·exact .inr ⟨h1,h2,bH,h3,my st _ _ _ (Vd _ _ _ h3) h4⟩
theorem AB {T:Tab} {Γ:Env} {live:Nat->List Nat} {c:Code} {st:St} {Q:Gy->St->Prop} (h:Jj T Γ live c st Q): ∀(s0:St) (p:Nat->Prop),Fk p s0 st->(∀t,p t->t∉writes c/\Vl live c t=true)->Jj T Γ live c st (λe s=>Q e s/\Fk p s0 s):=by
 induction h with
 |skip h=>exact λs0 p hk _=> .skip ⟨h,hk⟩
 |label h=>exact λs0 p hk _=> .label ⟨h,hk⟩
 |exit h=>exact λs0 p hk _=> .exit ⟨h,hk⟩
 |ret h=>exact λs0 p hk _=> .ret ⟨h,hk⟩
 |region h=>
  exact λs0 p hk hp=> .region (h.keeps.mono λs hs=>⟨hs.1,hk.trans (hs.2.mono λt ht=>(hp t ht).1)⟩)
 |seq Q1 _ _ h3 EY wv=>
  exact λs0 p hk hp=> .seq _ (EY s0 p hk λt ht=>⟨λhm=>(hp t ht).1 (by simp [writes,hm]),jm (hp t ht).2⟩)
   (λs hs=>wv s hs.1 s0 p hs.2 λt ht=>⟨λhm=>(hp t ht).1 (by simp [writes,hm]),fL (hp t ht).2⟩) λe s he hs=>⟨h3 e s he hs.1,hs.2⟩
 |cond hc _ _ EY wv=>
  exact λs0 p hk hp=> .cond hc (λht=>EY ht s0 p hk λt h=>⟨λhm=>(hp t h).1 (by simp [writes,hm]),jm (hp t h).2⟩)
   fun ht=>wv ht s0 p hk λt h=>⟨λhm=>(hp t h).1 (by simp [writes,hm]),fL (hp t h).2⟩
 |block Q1 _ h2 ih=>
  exact λs0 p hk hp=> .block _ (ih s0 p hk λt ht=>⟨λhm=>(hp t ht).1 (by simpa [writes] using hm),by simpa [Vl] using (hp t ht).2⟩) λe s hs=>by
   have h:=h2 e s hs.1
   cases e with
   |normal=>exact ⟨h,hs.2⟩
   |ret=>exact ⟨h,hs.2⟩
   |exit EV=>
    simp only [qX] at h⊢
    split at h
    ·rename_i hi;rw [if_pos hi];exact ⟨h,hs.2⟩
    ·rename_i hi;rw [if_neg hi];exact ⟨h,hs.2⟩
 |loop Q1 _ _ h3 EY wv=>
  intro s0 p hk hp
  refine .loop _ (EY s0 p (hk.trans ((fa _ _).mono λt ht=>by simpa using jm (hp t ht).2)) λt ht=>⟨λhm=>(hp t ht).1 (by simpa [writes] using hm),fL (hp t ht).2⟩)
   (λs hs=>wv s hs.1 s0 p hs.2 hp) λe s he hs=>⟨h3 e s he hs.1,hs.2⟩
end Go.Proofs.Ytjbdmibbbpdnnaa
