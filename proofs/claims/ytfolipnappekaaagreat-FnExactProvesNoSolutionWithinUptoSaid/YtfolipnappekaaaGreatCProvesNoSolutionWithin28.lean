/-
  Part 29 of the proof that the statement FnExactProvesNoSolutionWithin holds.
-/
import Derived.Test.YtfolipnappekaaaGreatCProvesNoSolutionWithin27
namespace Go.Proofs.YtfolipnappekaaaGreat
open Go.RowKit
def Az (st st':St):Prop:= ∀(t:Nat) (fr:Bool) (τ:Ty) (x:τ.den),st.get t= .at (.data fr τ x)->st'.get t= .at (.data fr τ x)
theorem Az.rfl' {st:St} :Az st st:= λ_ _ _ _ h=>h
theorem Az.trans {a b c:St} (h1:Az a b) (h2:Az b c):Az a c:= λt fr τ x h=>h2 t fr τ x (h1 t fr τ x h)
theorem Az.Tz {a b:St} (h:b.tmps=a.tmps):Az a b:= λt fr τ x hx=>by
 simp only [St.get] at hx⊢
 rw [h]
 exact hx
theorem Xl (st:St) {t d:Nat} (v:AV) (h:t≠d):(st.put (some d) v).get t=st.get t:=by
 simp only [St.put,St.get]
 rw [Lr]
 rw [if_neg (by rintro ⟨rfl,_⟩;exact h rfl)]
theorem Ko (st:St) (f:AC->AC) (hu:f .undef= .undef) (hd: ∀fr (τ:Ty) (x:τ.den),f (.data fr τ x)= .data fr τ x):Az st (st.Gl f):=by
 intro t fr τ x h
 simp only [St.Gl,St.get]
 rw [Ps f hu,show st.tmps.getD t .undef=_ from h]
 simp only [AV.map,hd]
theorem kd (st:St) (l:Nat):Az st (st.forget l):=
 (Ko st (Bd l) rfl λ_ _ _=>rfl).trans (Az.Tz rfl)
theorem Wd (st:St) (l:Nat) (fr:Bool) (e:Ty) (xs:List e.den):Az st (st.freeze l fr e xs):=
 (Ko st (Bh l fr e xs) rfl λ_ _ _=>rfl).trans (Az.Tz rfl)
theorem cG (st:St) (l:Nat) (v:Ty) (m:ByteArray->Option v.den):Az st (st.Eo l v m):=
 (Ko st (Dl l v m) rfl λ_ _ _=>rfl).trans (Az.Tz rfl)
theorem Hq (st:St) (l:Nat) (b:OB):Az st (st.new l b):=(kd st l).trans (Az.Tz rfl)
theorem Ia (st:St) (l:Nat) (b:OB):Az st (st.Ft l b):=Az.Tz rfl
theorem aN (b:OB) (key l i:Nat) (st:St):Az st (Pj b key l i st):=by
 unfold Pj
 split
 ·split
  ·dsimp only
   split
   ·exact (Hq _ _ _).trans (Ia _ _ _)
   ·exact Hq _ _ _
  ·exact Az.rfl'
 ·exact Az.rfl'
theorem gR (T:Tab) (l:Nat) (t:TypeId) (τ:Ty): ∀(n i:Nat) (st:St),Az st (bS T l t τ n i st)
 |0,_,_=>Az.rfl'
 |n+1,i,st=>by
  simp only [bS]
  refine Az.trans ?_ (gR T l t τ n (i+1) _)
  split
  ·exact aN _ _ _ _ _
  ·exact Az.rfl'
theorem dT (T:Tab) (l off:Nat) (t:TypeId) (τ:Ty): ∀(n i:Nat) (st:St),Az st (aT T l off t τ n i st)
 |0,_,_=>Az.rfl'
 |n+1,i,st=>by
  simp only [aT]
  refine Az.trans ?_ (dT T l off t τ n (i+1) _)
  split
  ·exact aN _ _ _ _ _
  ·exact Az.rfl'
theorem Mb: ∀(n:Nat) (st:St) (cs dx:List AC) (st':St),Dr n st cs=some (dx,st')->Az st st'
 |0,st,cs,dx,st',h=>by
  simp only [Dr] at h
  split at h
  ·injection h with h;injection h with h1 h2;subst h2;exact Az.rfl'
  ·cases h
 |n+1,st,cs,dx,st',h=>by
  simp only [Dr] at h
  split at h
  ·injection h with h;injection h with h1 h2;subst h2;exact Az.rfl'
  ·split at h
   ·exact (Wd _ _ _ _ _).trans (Mb n _ _ _ _ h)
   ·exact (Wd _ _ _ _ _).trans (Mb n _ _ _ _ h)
   ·cases h
  ·split at h
   ·exact (cG _ _ _ _).trans (Mb n _ _ _ _ h)
   ·cases h
  ·cases h
theorem Nh {st st':St} {v v':AV} (h:settle st v=some (v',st')):Az st st':=by
 unfold settle at h
 split at h
 ·split at h
  ·injection h with h;injection h with h1 h2;subst h2;exact Wd _ _ _ _ _
  ·injection h with h;injection h with h1 h2;subst h2;exact Wd _ _ _ _ _
  ·cases h
 ·split at h
  ·injection h with h;injection h with h1 h2;subst h2;exact cG _ _ _ _
  ·cases h
 ·split at h
  ·injection h with h;injection h with h1 h2;subst h2;exact Az.rfl'
  ·cases h
 ·rename_i cs
  cases hs:Dr cs.length st cs with
  |none=>rw [hs] at h;cases h
  |some p=>rw [hs] at h;injection h with h;injection h with h1 h2;subst h2;exact Mb _ _ _ _ _ hs
 ·injection h with h;injection h with h1 h2;subst h2;exact Az.rfl'
 ·cases h
theorem ni {T:Tab} {st st':St} {l:Nat} {t:TypeId} {τ:Ty} {cs:List AC} {v:AV} (h:mkVar T st l t τ cs=some (v,st')):Az st st':=by
 unfold mkVar at h
 split at h
 ·cases h
 dsimp only at h
 split at h
 ·injection h with h;injection h with h1 h2;subst h2;exact (Hq _ _ _).trans (gR _ _ _ _ _ _ _)
 ·cases h
theorem zv {T:Tab} {st st':St} {t:TypeId} {p v:AV} (h:Pr T st t p v=some st'):Az st st':=by
 unfold Pr at h
 split at h
 ·split at h
  ·split at h
   ·injection h with h
    split at h
    ·subst h;exact (Ia _ _ _).trans (dT _ _ _ _ _ _ _ _)
    ·subst h;exact Ia _ _ _
   ·cases h
  ·cases h
 ·split at h
  ·rename_i hs
   split at h
   ·split at h
    ·split at h
     ·injection h with h;subst h;exact (Nh hs).trans (Ia _ _ _)
     ·cases h
    ·cases h
   ·cases h
  ·cases h
 ·cases h
theorem qd (st:St) (l j m:Nat) (e:Ty) (te:TypeId) (rows:List (List e.den)) (xs:List e.den) (kp:Option (Nat×Nat)):Az st (Og st l j m e te rows xs kp):=
 ((Ko st (Ba [m] [l]) (by simp [Ba,AC.refs]) λfr τ x=>by simp [Ba,AC.refs]).trans (Az.Tz rfl)).trans (Ia (st.Yx [m] [l]) _ _)
theorem qe (st:St) (l i m:Nat) (e:Ty) (te tid:TypeId) (rows:List (List e.den)) (kp:Option (Nat×Nat)):Az st (Lf st l i m e te tid rows kp):=
 (Ia st l _).trans (Hq _ m _)
theorem wB {T:Tab} {st st':St} {t:TypeId} {p v:AV} (h:Kw T st t p v=some st'):Az st st':=by
 unfold Kw at h
 split at h
 rotate_left
 ·exact zv h
 unfold Xj at h
 split at h
 ·split at h
  ·rename_i hs
   split at h
   ·split at h
    ·injection h with h;subst h;exact (Nh hs).trans (Ia _ _ _)
    ·cases h
   ·cases h
  ·cases h
 ·split at h
  ·split at h
   ·split at h
    ·injection h with h;subst h
     exact qd _ _ _ _ _ _ _ _ _
    ·cases h
   ·cases h
  ·cases h
 ·cases h
theorem bG {T:Tab} {st st':St} {d:Nat} {t:TypeId} {x y:Operand} {v:AV} (h:Jj T st d t x y=some (v,st')):Az st st':=by
 unfold Jj at h
 split at h
 ·cases h
 ·split at h
  ·rename_i hs
   split at h
   ·cases h
   ·split at h
    ·split at h
     ·injection h with h;injection h with h1 h2;subst h2;exact ((Nh hs).trans (Hq _ _ _)).trans (Hq _ _ _)
     ·cases h
    ·split at h
     ·split at h
      ·split at h
       ·injection h with h;injection h with h1 h2;subst h2;exact (Nh hs).trans (Hq _ _ _)
       ·cases h
      ·cases h
     ·cases h
    ·cases h
  ·cases h
theorem sx {T:Tab} {st st':St} {d:Nat} {t:TypeId} {x y:Operand} {v:AV} (h:Mj T st d t x y=some (v,st')):Az st st':=by
 unfold Mj at h
 split at h
 ·rename_i tx
  split at h
  ·rename_i l i c hg
   split at h
   ·split at h
    ·rename_i e te rows kp tid hl ht hc
     refine Az.trans (b:=(Lf st l i d e te tid rows kp).put (some tx) (.at (.own d 0 (rows.getD i []).length))) ?_ (bG h)
     intro t' fr τ z hz
     by_cases e':t'=tx
     ·subst e';rw [hg] at hz;cases hz
     ·rw [Xl _ _ e'];exact qe st l i d e te tid rows kp t' fr τ z hz
    ·cases h
   ·cases h
  ·exact bG h
 ·exact bG h
theorem EW {T:Tab} {st st':St} {d:Nat} {t:TypeId} {l c v:AV} (h:Xi T st d t l c=some (v,st')):Az st st':=by
 unfold Xi at h
 split at h
 ·split at h
  ·split at h
   ·injection h with h;injection h with h1 h2;subst h2;exact Hq _ _ _
   ·cases h
  ·cases h
 ·cases h
theorem nj (e:Ty): ∀(l:List (Nat×Operand)) (i:Nat) (st st':St) (fr tr:Bool) (ys:List e.den),Gu e i l st=some (fr,tr,ys,st')->Az st st'
 | [],_,_,_,_,_,_,h=>by
  simp only [Gu] at h
  injection h with h;injection h with h1 h2;injection h2 with h2 h3;injection h3 with h3 h4;subst h4;exact Az.rfl'
 |(j,x)::r,i,st,st',fr,tr,ys,h=>by
  simp only [Gu] at h
  split at h
  ·split at h
   ·rename_i hs
    split at h
    ·split at h
     ·rename_i hp
      injection h with h;injection h with h1 h2;injection h2 with h2 h3;injection h3 with h3 h4;subst h4
      exact (Nh hs).trans (nj e r _ _ _ _ _ _ hp)
     ·cases h
    ·cases h
   ·cases h
  ·cases h
theorem lQ {T:Tab} {st st':St} {d:Nat} {t:TypeId} {n:Nat} {parts:Array (Nat×Operand)} {v:AV} (h:Hv T st d t n parts=some (v,st')):Az st st':=by
 unfold Hv at h
 split at h
 ·cases h
 ·split at h
  ·cases h
  ·split at h
   ·split at h
    ·rename_i hp
     injection h with h;injection h with h1 h2;subst h2;exact (nj _ _ _ _ _ _ _ _ hp).trans (Hq _ _ _)
    ·cases h
   ·cases h
theorem sA {T:Tab} {st st':St} {d:Nat} {t:TypeId} {v:AV} (h:Pq T st d t=some (v,st')):Az st st':=by
 unfold Pq at h
 split at h
 ·split at h
  ·injection h with h;injection h with h1 h2;subst h2;exact Hq _ _ _
  ·cases h
 ·cases h
theorem ke {T:Tab} {st st':St} {t:TypeId} {m k x:AV} (h:Ex T st t m k x=some st'):Az st st':=by
 unfold Ex at h
 split at h
 ·split at h
  ·split at h
   ·injection h with h;subst h;exact Ia _ _ _
   ·cases h
  ·cases h
 ·cases h
theorem EV {T:Tab} {st st':St} {t t':TypeId} {x y v:AV} (h:dA T st t t' x y=some (v,st')):Az st st':=by
 unfold dA at h
 split at h
 ·split at h
  ·split at h
   ·split at h
    ·injection h with h;injection h with h1 h2;subst h2;exact Ia _ _ _
    ·cases h
   ·cases h
  ·cases h
 ·cases h
theorem zt {T:Tab} {st st':St} {t:TypeId} {x:AV} (h:evalClear T st t x=some st'):Az st st':=by
 unfold evalClear at h
 split at h
 ·split at h
  ·split at h
   ·split at h
    ·injection h with h;subst h;exact Ia _ _ _
    ·cases h
   ·cases h
  ·cases h
 ·cases h
theorem uP {st st':St} {c:CK} {ys:c.den} {a:AC} (h:Ym st c ys a=some st'):st'.tmps=st.tmps:=by
 unfold Ym at h
 repeat' split at h
 all_goals first|(cases h;done)|(simp only [Option.some.injEq] at h;subst h;rfl)|skip
theorem NT {st st':St} {e:Ty} {ys:List e.den} {a:AC} (h:GH st e ys a=some st'):st'.tmps=st.tmps:=by
 unfold GH at h
 repeat' split at h
 all_goals first|(cases h;done)|(simp only [Option.some.injEq] at h;subst h;rfl)|skip
theorem Pk: ∀(cs:List (Bool×CK)) (o:IOs.den cs) (as:List AC) (st st':St),Ef cs o as st=some st'->st'.tmps=st.tmps
 | [],_,_,st,st',h=>by simp only [Ef,Option.some.injEq] at h;subst h;rfl
 |(true, .Dm _)::r,o,[],st,st',h=>by simp [Ef] at h
 |(true, .row _ _)::r,o,[],st,st',h=>by simp [Ef] at h
 |(true, .Du _ _)::r,o,[],st,st',h=>by simp [Ef] at h
 |(true, .part _ _)::r,o,[],st,st',h=>by simp [Ef] at h
 |(true, .Al _ _ _)::r,o,[],st,st',h=>by simp [Ef] at h
 |(true, .Al _ _ _)::r,o,a::as,st,st',h=>Pk r o as st st' (by simpa only [Ef] using h)
 |(false,_)::r,o,[],st,st',h=>by simp [Ef] at h
 |(true, .Dm _)::r,o,a::as,st,st',h=>Pk r o as st st' (by simpa only [Ef] using h)
 |(false,_)::r,o,a::as,st,st',h=>Pk r o as st st' (by simpa only [Ef] using h)
 |(true, .row _ _)::r,o,a::as,st,st',h=>by
  simp only [Ef] at h
  split at h
  ·rename_i hc;exact (Pk r o.2 as _ st' h).trans (uP hc)
  ·cases h
 |(true, .part _ _)::r,o,a::as,st,st',h=>by
  simp only [Ef] at h
  split at h
  ·rename_i hc;exact (Pk r o.2 as _ st' h).trans (NT hc)
  ·cases h
 |(true, .Du _ _)::r,o,a::as,st,st',h=>by
  simp only [Ef] at h
  split at h
  ·rename_i hc;exact (Pk r o.2 as _ st' h).trans (uP hc)
  ·cases h
theorem wz (Yj st:St) (ls:List Nat) (n:Nat) (hl:Yj.tmps.length=st.tmps.length) (h:Az Yj st):Az Yj (iS Yj st ls n):=by
 unfold iS
 split
 ·exact h
 ·intro t fr τ x hx
  show (He _ Yj.tmps st.tmps).getD t .undef=_
  rcases cd ls Yj.tmps st.tmps t hl with ⟨k,i,c,h1,_⟩|h1
  ·rw [show Yj.tmps.getD t .undef=_ from hx] at h1;cases h1
  ·rw [h1];exact h t fr τ x hx
theorem zr {st st':St} {d:Option Nat} {s:MSpec} {args:List AV} {v:AV} (h:Sl st d s args=some (v,st')):Az st st':=by
 unfold Sl at h
 split at h
 ·cases h
 split at h
 ·cases h
 split at h
 ·cases h
 split at h
 ·split at h
  ·cases h
  split at h
  ·cases h
  rename_i st1 hp
  split at h
  ·cases h
  split at h
  ·simp only [Option.some.injEq,Prod.mk.injEq] at h
   obtain ⟨_,rfl⟩:=h
   have Yl:=Pk _ _ _ _ _ hp
   refine wz _ _ _ _ ?_ ?_
   ·simp only [iz,mo]
    rw [<-Yl]
    simp only [St.Yx,St.Gl,List.length_map]
   ·refine Az.trans (Az.Tz Yl) ?_
    refine Az.trans (Ko st1 (Ba _ _) (by simp [Ba,AC.refs]) λfr τ x=>by simp [Ba,AC.refs]) (Az.Tz mo)
  ·cases h
 ·cases h
theorem a6 (st:St) (k m:Nat) (b:OB):Az st (Lz st k m b):=
 (Ko st (Ba [m,k] []) (by simp [Ba,AC.refs]) λfr τ x=>by simp [Ba,AC.refs]).trans (Az.Tz rfl)
theorem zu {T:Tab} {st st':St} {d:Nat} {t:TypeId} {l c v:AV} (h:Sn T st d t l c=some (v,st')):Az st st':=by
 unfold Sn at h
 split at h
 ·exact EW h
 ·split at h
  ·split at h
   ·injection h with h;injection h with h1 h2;subst h2;exact a6 _ _ _ _
   ·cases h
  ·cases h
theorem kc {T:Tab} {st st':St} {d:Nat} {t:TypeId} {n:Nat} {parts:Array (Nat×Operand)} {v:AV} (h:Eu T st d t n parts=some (v,st')):Az st st':=by
 unfold Eu at h
 split at h
 ·exact lQ h
 ·repeat' split at h
  all_goals first|(cases h;done)|(injection h with h;injection h with h1 h2;subst h2;exact a6 _ _ _ _)
theorem sy {T:Tab} {st st':St} {d:Nat} {t:TypeId} {x y:Operand} {v:AV} (h:Mk T st d t x y=some (v,st')):Az st st':=by
 unfold Mk at h
 split at h
 ·exact sx h
 ·repeat' split at h
  all_goals first|(cases h;done)|(injection h with h;injection h with h1 h2;subst h2;exact a6 _ _ _ _)
theorem aM {st st':St} {v:AV} {o:Option AV} (h:o.map (λv=>(v,st))=some (v,st')):Az st st':=by
 cases o with
 |none=>cases h
 |some u=>injection h with h;injection h with h1 h2;subst h2;exact Az.rfl'
theorem Ve: ∀(l:List Operand) {st st1:St},Kg l st=some st1->Az st st1
 | [],st,st1,h=>by
  simp only [Kg,Option.some.injEq] at h
  subst h
  exact Az.rfl'
 |x::r,st,st1,h=>by
  simp only [Kg] at h
  cases hs:settle st (st.ev x) with
  |none=>rw [hs] at h;cases h
  |some p=>
   rw [hs] at h
   exact (Nh (v':=p.1) (st':=p.2) hs).trans (Ve r h)
theorem jK {T:Tab} {Γ:Env} {st st':St} {o:Oper} {v:AV} (h:evalOp T Γ st o=some (v,st')):Az st st':=by
 unfold evalOp at h
 split at h
 ·split at h
  ·split at h
   ·injection h with h;injection h with h1 h2;subst h2;exact Hq _ _ _
   ·cases h
  ·injection h with h;injection h with h1 h2;subst h2;exact Az.rfl'
 ·split at h
  ·exact ni h
  ·cases h
 ·split at h
  ·split at h
   ·exact ni h
   ·cases h
  ·cases h
 ·rename_i t p x _
  cases hs:Kw T st t (st.ev p) (st.ev x) with
  |none=>rw [hs] at h;cases h
  |some s=>rw [hs] at h;injection h with h;injection h with h1 h2;subst h2;exact wB hs
 ·split at h
  ·exact zu h
  ·cases h
 ·split at h
  ·exact sA h
  ·cases h
 ·rename_i t m k x _
  cases hs:Ex T st t (st.ev m) (st.ev k) (st.ev x) with
  |none=>rw [hs] at h;cases h
  |some s=>rw [hs] at h;injection h with h;injection h with h1 h2;subst h2;exact ke hs
 ·rename_i t m k x _
  cases hs:Ex T st t (st.ev m) (st.ev k) (st.ev x) with
  |none=>rw [hs] at h;cases h
  |some s=>rw [hs] at h;injection h with h;injection h with h1 h2;subst h2;exact ke hs
 ·split at h
  ·exact kc h
  ·cases h
 ·exact aM h
 ·split at h
  ·split at h
   ·exact sy h
   ·cases h
  ·cases h
 ·split at h
  ·exact EV h
  ·cases h
 ·split at h
  ·rename_i x t _ _
   cases hs:evalClear T st t (st.ev x) with
   |none=>rw [hs] at h;cases h
   |some s=>rw [hs] at h;injection h with h;injection h with h1 h2;subst h2;exact zt hs
  ·cases h
 ·split at h
  ·exact zr h
  ·split at h
   ·rename_i args _ _ _ _ _ _
    cases hs:Kg args.toList st with
    |none=>rw [hs] at h;cases h
    |some st1=>
     rw [hs] at h
     exact (Ve _ hs).trans (aM h)
   ·exact aM h
  ·exact aM h
 ·exact aM h
def Lt:List Oper->List Nat
 | []=> []
 |o::r=>(match o.dst with|some d=> [d]|none=> [])++Lt r
def writes:Code->List Nat
 | .region _ ops _=>Lt ops.toList
 | .seq a b=>writes a++writes b
 | .cond _ a b=>writes a++writes b
 | .block _ c=>writes c
 | .loop c=>writes c
 |_=> []
def El (P:Nat->Prop) (st st':St):Prop:= ∀(t:Nat) (fr:Bool) (τ:Ty) (x:τ.den),P t->st.get t= .at (.data fr τ x)->st'.get t= .at (.data fr τ x)
theorem El.trans {P:Nat->Prop} {a b c:St} (h1:El P a b) (h2:El P b c):El P a c:= λt fr τ x hp h=>h2 t fr τ x hp (h1 t fr τ x hp h)
theorem El.mono {P Q:Nat->Prop} {a b:St} (h1:El P a b) (h: ∀t,Q t->P t):El Q a b:= λt fr τ x hp hx=>h1 t fr τ x (h t hp) hx
theorem Az.on {P:Nat->Prop} {a b:St} (h:Az a b):El P a b:= λt fr τ x _ hx=>h t fr τ x hx
theorem Zb (st:St) (dst:Option Tmp) (v:AV):El (λt=>dst≠some t) st (st.put dst v):=by
 intro t fr τ x hp hx
 cases dst with
 |none=>exact hx
 |some d=>rw [Xl st v (λh=>hp (by rw [h]))];exact hx
theorem dC {T:Tab} {Γ:Env} {ops:Array Oper} {st st':St} {o:Oper} (h:Ch T Γ ops st o=some st'):El (λt=>o.dst≠some t) st st':=by
 have key: ∀s,(evalOp T Γ st o).map (λr=>r.2.put o.dst r.1)=some s->El (λt=>o.dst≠some t) st s:=by
  intro s hs
  cases he:evalOp T Γ st o with
  |none=>rw [he] at hs;cases hs
  |some p=>rw [he] at hs;injection hs with hs;subst hs;exact (jK (v:=p.1) (st':=p.2) he).on.trans (Zb _ _ _)
 unfold Ch at h
 split at h
 ·exact key _ h
 ·split at h
  ·split at h
   ·exact key _ h
   ·injection h with h;subst h;exact Zb _ _ _
  ·injection h with h;subst h;exact Zb _ _ _
  ·cases h
theorem gD {T:Tab} {Γ:Env} {ops:Array Oper} : ∀(l:List Oper) (st st':St),Vz T Γ ops l st=some st'->El (λt=>t∉Lt l) st st'
 | [],st,st',h=>by injection h with h;subst h;exact Az.rfl'.on
 |o::r,st,st',h=>by
  simp only [Vz] at h
  split at h
  ·rename_i s hs
   refine El.trans ((dC hs).mono λt ht=>?_) ((gD r _ _ h).mono λt ht=>?_)
   ·intro hd;apply ht;simp [Lt,hd]
   ·intro hd;apply ht;simp [Lt,hd]
  ·cases h
theorem aa: ∀(l:List Oper) (o:Oper) (d:Nat),o∈l->o.dst=some d->d∈Lt l
 | [],_,_,h,_=>by cases h
 |p::r,o,d,h,hd=>by
  cases h with
  |head=>simp [Lt,hd]
  |tail _ h=>simp only [Lt,List.mem_append];exact .inr (aa r o d h hd)
theorem uH {ops:Array Oper} {i:Nat} {o:Oper} (h:ops[i]?=some o):o∈ops.toList:=by
 rw [Array.getElem?_eq_some_iff] at h
 obtain ⟨h1,h2⟩:=h
 rw [<-h2]
 simp
theorem Tu {T:Tab} {Γ:Env} {ops:Array Oper} : ∀(l:List Nat) (st st':St),Ij T Γ ops l st=some st'->El (λt=>t∉Lt ops.toList) st st'
 | [],st,st',h=>by injection h with h;subst h;exact Az.rfl'.on
 |i::r,st,st',h=>by
  simp only [Ij] at h
  split at h
  ·cases h
  ·rename_i o ho
   split at h
   ·rename_i s hs
    exact ((dC hs).mono λt ht hd=>ht (aa _ _ _ (uH ho) hd)).trans (Tu r _ _ h)
   ·cases h
theorem Ml {T:Tab} {Γ:Env} {ops:Array Oper} : ∀(l:List Nat) (st st':St),Cw T Γ ops l st=some st'->El (λt=>t∉Lt ops.toList) st st'
 | [],st,st',h=>by injection h with h;subst h;exact Az.rfl'.on
 |i::r,st,st',h=>by
  simp only [Cw] at h
  split at h
  ·cases h
  ·rename_i o ho
   split at h
   ·exact ((Zb _ _ _).mono λt ht hd=>ht (aa _ _ _ (uH ho) hd)).trans (Ml r _ _ h)
   ·cases h
theorem cF: ∀(l:List Nat) (st:St),Az st (aE l st)
 | [],_=>Az.rfl'
 |a::r,st=>(kd st a).trans (cF r _)
theorem dr (live:List Nat): ∀(i:Nat) (l:List AV) (t:Nat),i+t∈live->(Gb live i l).getD t .undef=l.getD t .undef
 |_,[],_,_=>rfl
 |i,v::r,0,h=>by simp [Gb];intro hn;exact absurd h hn
 |i,v::r,t+1,h=>by
  simp only [Gb,List.getD_cons_succ]
  exact dr live (i+1) r t (by rw [show i+1+t=i+(t+1) by omega];exact h)
theorem wA (l k:Nat) (st:St):Az st (st.rename l k):=by
 unfold St.rename
 split
 ·split
  ·exact (Ko st (Qa l k) rfl λ_ _ _=>rfl).trans (Az.Tz rfl)
  ·exact Az.rfl'
 ·exact Az.rfl'
theorem aO: ∀(n t:Nat) (st:St),Az st (Ib n t st)
 |0,_,_=>Az.rfl'
 |n+1,t,st=>by
  simp only [Ib]
  refine Az.trans ?_ (aO n (t+1) _)
  split
  ·split
   ·split
    ·exact Az.rfl'
    ·exact wA _ _ _
   ·exact Az.rfl'
  ·exact Az.rfl'
theorem qf (t:Nat) (st:St):Az st (Xw t st):=by
 unfold Xw
 split
 ·rename_i l off len hg
  split
  ·split
   ·intro k fr τ x hk
    have Ek:k≠t:= λe=>by subst e;rw [hg] at hk;cases hk
    rw [Xl _ _ Ek]
    exact Hq _ _ _ k fr τ x hk
   ·exact Az.rfl'
  ·exact Az.rfl'
 ·exact Az.rfl'
theorem iT (c:Nat) (st:St):Az st (Lc c st):=by
 unfold Lc
 split
 ·split
  ·split
   ·split
    ·split
     ·exact (Hq _ _ _).trans (Ia _ _ _)
     ·exact Az.rfl'
    ·exact Az.rfl'
   ·exact Az.rfl'
  ·exact Az.rfl'
 ·exact Az.rfl'
theorem Zc (live:List Nat): ∀(n c:Nat) (st:St),Az st (Kt live n c st)
 |0,_,_=>Az.rfl'
 |n+1,c,st=>by
  simp only [Kt]
  refine Az.trans ?_ (Zc live n (c+1) _)
  split
  ·exact iT _ _
  ·exact Az.rfl'
theorem cH (live:List Nat): ∀(n t:Nat) (st:St),Az st (Kf live n t st)
 |0,_,st=>Zc live 16 0 st
 |n+1,t,st=>by
  simp only [Kf]
  refine Az.trans ?_ (cH live n (t+1) _)
  split
  ·exact qf _ _
  ·exact Az.rfl'
theorem gP (live:List Nat) (st:St):El (λt=>t∈live) st (st.clean live):=by
 intro t fr τ x hp hx
 unfold St.clean
 have key: ∀s:St,s.get t= .at (.data fr τ x)->(if live.contains Zh then Ib s.tmps.length 0 s else s).get t= .at (.data fr τ x):=by
  intro s hs
  split
  ·exact aO _ _ s t fr τ x hs
  ·exact hs
 have TB: ∀s:St,s.get t= .at (.data fr τ x)->(if live.any (λt=>Nat.ble Ol t) then s.En live else s).get t= .at (.data fr τ x):=by
  intro s hs
  split<;>exact hs
 have TC: ∀s:St,s.get t= .at (.data fr τ x)->(if live.any (λt=>Nat.ble Mw t&&Nat.blt t Zh) then Kf live s.tmps.length 0 s else s).get t= .at (.data fr τ x):=by
  intro s hs
  split
  ·exact cH _ _ _ s t fr τ x hs
  ·exact hs
 refine TB _ (key _ (TC _ (cF _ _ t fr τ x ?_)))
 simp only [St.get] at hx⊢
 rw [dr live 0 st.tmps t (by simpa using hp)]
 exact hx
def Xp (live:Nat->List Nat):Code->Nat->Bool
 | .seq a b,t=>Xp live a t&&Xp live b t
 | .cond _ a b,t=>Xp live a t&&Xp live b t
 | .block _ c,t=>Xp live c t
 | .loop c,t=>(live (Ci c)).contains t&&Xp live c t
 |_,_=>true
theorem lv {a b:Bool} (h:(a&&b)=true):a=true:=by cases a<;>simp_all
theorem iA {a b:Bool} (h:(a&&b)=true):b=true:=by cases a<;>simp_all
theorem lE {T:Tab} {Γ:Env} {ops:Array Oper} {draw:Bool} {st st':St} (h:Mm T Γ ops draw st=some st'):El (λt=>t∉writes (.region 0 ops draw)) st st':=by
 unfold Mm at h
 have go: ∀q,(match Cw T Γ ops (fk q Γ ops) st with
   |some s=>Ij T Γ ops (Fg q Γ ops) s
   |none=>none)=some st'->El (λt=>t∉writes (.region 0 ops draw)) st st':=by
  intro q h
  split at h
  ·rename_i s hs
   exact (Ml _ _ _ hs).trans (Tu _ _ _ h)
  ·cases h
 split at h
 ·split at h
  ·exact go false h
  ·split at h
   ·exact go true h
   ·cases h
 ·exact gD _ _ _ h
theorem pa {T:Tab} {Γ:Env} {ops:Array Oper} {draw:Bool} {K:St->Prop} (s0:St): ∀(f:Nat) (Aa:Array Bool) (st:St),El (λt=>t∉writes (.region 0 ops draw)) s0 st->anyS T Γ ops K f Aa st->anyS T Γ ops (λs=>K s/\El (λt=>t∉writes (.region 0 ops draw)) s0 s) f Aa st
 |0,_,_,hk,h=>⟨h.1,h.2,hk⟩
 |f+1,Aa,st,hk,h=>⟨h.1,λi hi=>by
  obtain ⟨o,st',h1,h2,h3⟩:=h.2 i hi
  have h4:Ij T Γ ops [i] st=some st':=by simp only [Ij,h1,h2]
  exact ⟨o,st',h1,h2,pa s0 f _ _ (hk.trans (Tu _ _ _ h4)) h3⟩⟩
theorem p9 {T:Tab} {Γ:Env} {ops:Array Oper} {draw:Bool} {E:List Nat} {K:St->Prop} (s0:St): ∀(f:Nat) (Aa:Array Bool) (st:St),El (λt=>t∉writes (.region 0 ops draw)) s0 st->se T Γ ops E K f Aa st->se T Γ ops E (λs=>K s/\El (λt=>t∉writes (.region 0 ops draw)) s0 s) f Aa st
 |0,_,_,hk,h=>⟨h.1,h.2.1,h.2.2,hk⟩
 |f+1,Aa,st,hk,h=>⟨h.1,h.2.1,λi hi=>by
  obtain ⟨o,st',h1,h2,h3⟩:=h.2.2 i hi
  have h4:Ij T Γ ops [i] st=some st':=by simp only [Ij,h1,h2]
  exact ⟨o,st',h1,h2,p9 s0 f _ _ (hk.trans (Tu _ _ _ h4)) h3⟩⟩
theorem vE.keeps {T:Tab} {Γ:Env} {ops:Array Oper} {draw:Bool} {st:St} {K:St->Prop} (h:vE T Γ ops draw st K):vE T Γ ops draw st (λs=>K s/\El (λt=>t∉writes (.region 0 ops draw)) st s):=by
 rcases h with ⟨st',h1,h2⟩|⟨h1,h2,Yj,h3,h4|⟨E,st1,h4,h5,h6,h7⟩⟩
 ·exact .inl ⟨st',h1,h2,lE h1⟩
 ·exact .inr ⟨h1,h2,Yj,h3, .inl (pa st _ _ _ (Ml _ _ _ h3) h4)⟩
 ·exact .inr ⟨h1,h2,Yj,h3, .inr ⟨E,st1,h4,h5,h6,p9 st _ _ _ ((Ml _ _ _ h3).trans (Ml _ _ _ h6)) h7⟩⟩
theorem gx (ops:Array Oper) {fr:Bool} {τ:Ty} {x:τ.den} : ∀(i:Nat) (l:List AV) (t:Nat),l.getD t .undef= .at (.data fr τ x)->(Kb ops i l).getD t .undef= .at (.data fr τ x)
 |_,[],_,h=>h
 |i,v::r,0,h=>by
  cases v with
  |Ih l=>cases h
  |_=>exact h
 |i,v::r,t+1,h=>by
  have h':=gx ops (i+1) r t h
  cases v<;>(simp only [Kb,List.getD_cons_succ];exact h')
theorem gQ (ops:Array Oper) (st:St):Az st (st.jC ops):= λt _ _ _ hx=>gx ops 0 st.tmps t hx
theorem GS {T:Tab} {Γ:Env} {live:Nat->List Nat} {c:Code} {st:St} {Q:Ha->St->Prop} (h:Js T Γ live c st Q): ∀(s0:St) (p:Nat->Prop),El p s0 st->(∀t,p t->t∉writes c/\Xp live c t=true)->Js T Γ live c st (λe s=>Q e s/\El p s0 s):=by
 induction h with
 |skip h=>exact λs0 p hk _=> .skip ⟨h,hk⟩
 |label h=>exact λs0 p hk _=> .label ⟨h,hk⟩
 |exit h=>exact λs0 p hk _=> .exit ⟨h,hk⟩
 |ret h=>exact λs0 p hk _=> .ret ⟨h,hk⟩
 |region h=>
  exact λs0 p hk hp=> .region (h.keeps.mono λs hs=>⟨hs.1,(hk.trans (gQ _ _).on).trans (hs.2.mono λt ht=>(hp t ht).1)⟩)
 |seq Q1 _ _ h3 MJ zn=>
  exact λs0 p hk hp=> .seq _ (MJ s0 p hk λt ht=>⟨λhm=>(hp t ht).1 (by simp [writes,hm]),lv (hp t ht).2⟩)
   (λs hs=>zn s hs.1 s0 p hs.2 λt ht=>⟨λhm=>(hp t ht).1 (by simp [writes,hm]),iA (hp t ht).2⟩) λe s he hs=>⟨h3 e s he hs.1,hs.2⟩
 |cond hc _ _ MJ zn=>
  exact λs0 p hk hp=> .cond hc (λht=>MJ ht s0 p hk λt h=>⟨λhm=>(hp t h).1 (by simp [writes,hm]),lv (hp t h).2⟩)
   fun ht=>zn ht s0 p hk λt h=>⟨λhm=>(hp t h).1 (by simp [writes,hm]),iA (hp t h).2⟩
 |block Q1 _ h2 ih=>
  exact λs0 p hk hp=> .block _ (ih s0 p hk λt ht=>⟨λhm=>(hp t ht).1 (by simpa [writes] using hm),by simpa [Xp] using (hp t ht).2⟩) λe s hs=>by
   have h:=h2 e s hs.1
   cases e with
   |normal=>exact ⟨h,hs.2⟩
   |ret=>exact ⟨h,hs.2⟩
   |exit MI=>
    simp only [uq] at h⊢
    split at h
    ·rename_i hi;rw [if_pos hi];exact ⟨h,hs.2⟩
    ·rename_i hi;rw [if_neg hi];exact ⟨h,hs.2⟩
 |loop Q1 _ _ h3 MJ zn=>
  intro s0 p hk hp
  refine .loop _ (MJ s0 p (hk.trans ((gP _ _).mono λt ht=>by simpa using lv (hp t ht).2)) λt ht=>⟨λhm=>(hp t ht).1 (by simpa [writes] using hm),iA (hp t ht).2⟩)
   (λs hs=>zn s hs.1 s0 p hs.2 hp) λe s he hs=>⟨h3 e s he hs.1,hs.2⟩
end Go.Proofs.YtfolipnappekaaaGreat
