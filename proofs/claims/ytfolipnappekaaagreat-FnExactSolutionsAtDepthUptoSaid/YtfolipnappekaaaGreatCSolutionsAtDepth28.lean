/-
  Part 29 of the proof that the statement FnExactSolutionsAtDepth holds.
-/
import Derived.Test.YtfolipnappekaaaGreatCSolutionsAtDepth27
namespace Go.Proofs.YtfolipnappekaaaGreat
open Go.RowKit
def Az (st st':St):Prop:= ∀(t:Nat) (fr:Bool) (τ:Ty) (x:τ.den),st.get t= .at (.data fr τ x)->st'.get t= .at (.data fr τ x)
theorem Az.rfl' {st:St} :Az st st:= λ_ _ _ _ h=>h
theorem Az.trans {a b c:St} (h1:Az a b) (h2:Az b c):Az a c:= λt fr τ x h=>h2 t fr τ x (h1 t fr τ x h)
theorem Az.Tu {a b:St} (h:b.tmps=a.tmps):Az a b:= λt fr τ x hx=>by
 simp only [St.get] at hx⊢
 rw [h]
 exact hx
theorem Xg (st:St) {t d:Nat} (v:AV) (h:t≠d):(st.put (some d) v).get t=st.get t:=by
 simp only [St.put,St.get]
 rw [Lo]
 rw [if_neg (by rintro ⟨rfl,_⟩;exact h rfl)]
theorem Km (st:St) (f:AC->AC) (hu:f .undef= .undef) (hd: ∀fr (τ:Ty) (x:τ.den),f (.data fr τ x)= .data fr τ x):Az st (st.Gl f):=by
 intro t fr τ x h
 simp only [St.Gl,St.get]
 rw [Pr f hu,show st.tmps.getD t .undef=_ from h]
 simp only [AV.map,hd]
theorem jV (st:St) (l:Nat):Az st (st.forget l):=
 (Km st (Bd l) rfl λ_ _ _=>rfl).trans (Az.Tu rfl)
theorem Vz (st:St) (l:Nat) (fr:Bool) (e:Ty) (xs:List e.den):Az st (st.freeze l fr e xs):=
 (Km st (Bh l fr e xs) rfl λ_ _ _=>rfl).trans (Az.Tu rfl)
theorem cB (st:St) (l:Nat) (v:Ty) (m:ByteArray->Option v.den):Az st (st.Eo l v m):=
 (Km st (Dm l v m) rfl λ_ _ _=>rfl).trans (Az.Tu rfl)
theorem Hq (st:St) (l:Nat) (b:OB):Az st (st.new l b):=(jV st l).trans (Az.Tu rfl)
theorem Ia (st:St) (l:Nat) (b:OB):Az st (st.Fq l b):=Az.Tu rfl
theorem aJ (b:OB) (key l i:Nat) (st:St):Az st (Ph b key l i st):=by
 unfold Ph
 split
 ·split
  ·dsimp only
   split
   ·exact (Hq _ _ _).trans (Ia _ _ _)
   ·exact Hq _ _ _
  ·exact Az.rfl'
 ·exact Az.rfl'
theorem gO (T:Tab) (l:Nat) (t:TypeId) (τ:Ty): ∀(n i:Nat) (st:St),Az st (bP T l t τ n i st)
 |0,_,_=>Az.rfl'
 |n+1,i,st=>by
  simp only [bP]
  refine Az.trans ?_ (gO T l t τ n (i+1) _)
  split
  ·exact aJ _ _ _ _ _
  ·exact Az.rfl'
theorem dO (T:Tab) (l off:Nat) (t:TypeId) (τ:Ty): ∀(n i:Nat) (st:St),Az st (aP T l off t τ n i st)
 |0,_,_=>Az.rfl'
 |n+1,i,st=>by
  simp only [aP]
  refine Az.trans ?_ (dO T l off t τ n (i+1) _)
  split
  ·exact aJ _ _ _ _ _
  ·exact Az.rfl'
theorem Ly: ∀(n:Nat) (st:St) (cs dr:List AC) (st':St),Ds n st cs=some (dr,st')->Az st st'
 |0,st,cs,dr,st',h=>by
  simp only [Ds] at h
  split at h
  ·injection h with h;injection h with h1 h2;subst h2;exact Az.rfl'
  ·cases h
 |n+1,st,cs,dr,st',h=>by
  simp only [Ds] at h
  split at h
  ·injection h with h;injection h with h1 h2;subst h2;exact Az.rfl'
  ·split at h
   ·exact (Vz _ _ _ _ _).trans (Ly n _ _ _ _ h)
   ·exact (Vz _ _ _ _ _).trans (Ly n _ _ _ _ h)
   ·cases h
  ·split at h
   ·exact (cB _ _ _ _).trans (Ly n _ _ _ _ h)
   ·cases h
  ·cases h
theorem Nf {st st':St} {v v':AV} (h:settle st v=some (v',st')):Az st st':=by
 unfold settle at h
 split at h
 ·split at h
  ·injection h with h;injection h with h1 h2;subst h2;exact Vz _ _ _ _ _
  ·injection h with h;injection h with h1 h2;subst h2;exact Vz _ _ _ _ _
  ·cases h
 ·split at h
  ·injection h with h;injection h with h1 h2;subst h2;exact cB _ _ _ _
  ·cases h
 ·split at h
  ·injection h with h;injection h with h1 h2;subst h2;exact Az.rfl'
  ·cases h
 ·rename_i cs
  cases hs:Ds cs.length st cs with
  |none=>rw [hs] at h;cases h
  |some p=>rw [hs] at h;injection h with h;injection h with h1 h2;subst h2;exact Ly _ _ _ _ _ hs
 ·injection h with h;injection h with h1 h2;subst h2;exact Az.rfl'
 ·cases h
theorem mX {T:Tab} {st st':St} {l:Nat} {t:TypeId} {τ:Ty} {cs:List AC} {v:AV} (h:mkVar T st l t τ cs=some (v,st')):Az st st':=by
 unfold mkVar at h
 split at h
 ·cases h
 dsimp only at h
 split at h
 ·injection h with h;injection h with h1 h2;subst h2;exact (Hq _ _ _).trans (gO _ _ _ _ _ _ _)
 ·cases h
theorem zj {T:Tab} {st st':St} {t:TypeId} {p v:AV} (h:Pq T st t p v=some st'):Az st st':=by
 unfold Pq at h
 split at h
 ·split at h
  ·split at h
   ·injection h with h
    split at h
    ·subst h;exact (Ia _ _ _).trans (dO _ _ _ _ _ _ _ _)
    ·subst h;exact Ia _ _ _
   ·cases h
  ·cases h
 ·split at h
  ·rename_i hs
   split at h
   ·split at h
    ·split at h
     ·injection h with h;subst h;exact (Nf hs).trans (Ia _ _ _)
     ·cases h
    ·cases h
   ·cases h
  ·cases h
 ·cases h
theorem pY (st:St) (l j m:Nat) (e:Ty) (te:TypeId) (rows:List (List e.den)) (xs:List e.den) (kp:Option (Nat×Nat)):Az st (Oe st l j m e te rows xs kp):=
 ((Km st (Ba [m] [l]) (by simp [Ba,AC.refs]) λfr τ x=>by simp [Ba,AC.refs]).trans (Az.Tu rfl)).trans (Ia (st.Ys [m] [l]) _ _)
theorem pZ (st:St) (l i m:Nat) (e:Ty) (te tid:TypeId) (rows:List (List e.den)) (kp:Option (Nat×Nat)):Az st (Ld st l i m e te tid rows kp):=
 (Ia st l _).trans (Hq _ m _)
theorem wq {T:Tab} {st st':St} {t:TypeId} {p v:AV} (h:Ku T st t p v=some st'):Az st st':=by
 unfold Ku at h
 split at h
 rotate_left
 ·exact zj h
 unfold Xe at h
 split at h
 ·split at h
  ·rename_i hs
   split at h
   ·split at h
    ·injection h with h;subst h;exact (Nf hs).trans (Ia _ _ _)
    ·cases h
   ·cases h
  ·cases h
 ·split at h
  ·split at h
   ·split at h
    ·injection h with h;subst h
     exact pY _ _ _ _ _ _ _ _ _
    ·cases h
   ·cases h
  ·cases h
 ·cases h
theorem bC {T:Tab} {st st':St} {d:Nat} {t:TypeId} {x y:Operand} {v:AV} (h:Jh T st d t x y=some (v,st')):Az st st':=by
 unfold Jh at h
 split at h
 ·cases h
 ·split at h
  ·rename_i hs
   split at h
   ·cases h
   ·split at h
    ·split at h
     ·injection h with h;injection h with h1 h2;subst h2;exact ((Nf hs).trans (Hq _ _ _)).trans (Hq _ _ _)
     ·cases h
    ·split at h
     ·split at h
      ·split at h
       ·injection h with h;injection h with h1 h2;subst h2;exact (Nf hs).trans (Hq _ _ _)
       ·cases h
      ·cases h
     ·cases h
    ·cases h
  ·cases h
theorem sn {T:Tab} {st st':St} {d:Nat} {t:TypeId} {x y:Operand} {v:AV} (h:Mh T st d t x y=some (v,st')):Az st st':=by
 unfold Mh at h
 split at h
 ·rename_i tx
  split at h
  ·rename_i l i c hg
   split at h
   ·split at h
    ·rename_i e te rows kp tid hl ht hc
     refine Az.trans (b:=(Ld st l i d e te tid rows kp).put (some tx) (.at (.own d 0 (rows.getD i []).length))) ?_ (bC h)
     intro t' fr τ z hz
     by_cases e':t'=tx
     ·subst e';rw [hg] at hz;cases hz
     ·rw [Xg _ _ e'];exact pZ st l i d e te tid rows kp t' fr τ z hz
    ·cases h
   ·cases h
  ·exact bC h
 ·exact bC h
theorem EM {T:Tab} {st st':St} {d:Nat} {t:TypeId} {l c v:AV} (h:Xd T st d t l c=some (v,st')):Az st st':=by
 unfold Xd at h
 split at h
 ·split at h
  ·split at h
   ·injection h with h;injection h with h1 h2;subst h2;exact Hq _ _ _
   ·cases h
  ·cases h
 ·cases h
theorem mY (e:Ty): ∀(l:List (Nat×Operand)) (i:Nat) (st st':St) (fr tr:Bool) (ys:List e.den),Gu e i l st=some (fr,tr,ys,st')->Az st st'
 | [],_,_,_,_,_,_,h=>by
  simp only [Gu] at h
  injection h with h;injection h with h1 h2;injection h2 with h2 h3;injection h3 with h3 h4;subst h4;exact Az.rfl'
 |(j,x)::r,i,st,st',fr,tr,ys,h=>by
  simp only [Gu] at h
  split at h
  ·split at h
   ·rename_i hs
    split at h
    ·split at h
     ·rename_i hp
      injection h with h;injection h with h1 h2;injection h2 with h2 h3;injection h3 with h3 h4;subst h4
      exact (Nf hs).trans (mY e r _ _ _ _ _ _ hp)
     ·cases h
    ·cases h
   ·cases h
  ·cases h
theorem lI {T:Tab} {st st':St} {d:Nat} {t:TypeId} {n:Nat} {parts:Array (Nat×Operand)} {v:AV} (h:Hv T st d t n parts=some (v,st')):Az st st':=by
 unfold Hv at h
 split at h
 ·cases h
 ·split at h
  ·cases h
  ·split at h
   ·split at h
    ·rename_i hp
     injection h with h;injection h with h1 h2;subst h2;exact (mY _ _ _ _ _ _ _ _ hp).trans (Hq _ _ _)
    ·cases h
   ·cases h
theorem sq {T:Tab} {st st':St} {d:Nat} {t:TypeId} {v:AV} (h:Pp T st d t=some (v,st')):Az st st':=by
 unfold Pp at h
 split at h
 ·split at h
  ·injection h with h;injection h with h1 h2;subst h2;exact Hq _ _ _
  ·cases h
 ·cases h
theorem jW {T:Tab} {st st':St} {t:TypeId} {m k x:AV} (h:Ex T st t m k x=some st'):Az st st':=by
 unfold Ex at h
 split at h
 ·split at h
  ·split at h
   ·injection h with h;subst h;exact Ia _ _ _
   ·cases h
  ·cases h
 ·cases h
theorem EL {T:Tab} {st st':St} {t t':TypeId} {x y v:AV} (h:dv T st t t' x y=some (v,st')):Az st st':=by
 unfold dv at h
 split at h
 ·split at h
  ·split at h
   ·split at h
    ·injection h with h;injection h with h1 h2;subst h2;exact Ia _ _ _
    ·cases h
   ·cases h
  ·cases h
 ·cases h
theorem zh {T:Tab} {st st':St} {t:TypeId} {x:AV} (h:evalClear T st t x=some st'):Az st st':=by
 unfold evalClear at h
 split at h
 ·split at h
  ·split at h
   ·split at h
    ·injection h with h;subst h;exact Ia _ _ _
    ·cases h
   ·cases h
  ·cases h
 ·cases h
theorem uJ {st st':St} {c:CK} {ys:c.den} {a:AC} (h:Yh st c ys a=some st'):st'.tmps=st.tmps:=by
 unfold Yh at h
 repeat' split at h
 all_goals first|(cases h;done)|(simp only [Option.some.injEq] at h;subst h;rfl)|skip
theorem NJ {st st':St} {e:Ty} {ys:List e.den} {a:AC} (h:FY st e ys a=some st'):st'.tmps=st.tmps:=by
 unfold FY at h
 repeat' split at h
 all_goals first|(cases h;done)|(simp only [Option.some.injEq] at h;subst h;rfl)|skip
theorem Pj: ∀(cs:List (Bool×CK)) (o:IOs.den cs) (as:List AC) (st st':St),Ef cs o as st=some st'->st'.tmps=st.tmps
 | [],_,_,st,st',h=>by simp only [Ef,Option.some.injEq] at h;subst h;rfl
 |(true, .Dn _)::r,o,[],st,st',h=>by simp [Ef] at h
 |(true, .row _ _)::r,o,[],st,st',h=>by simp [Ef] at h
 |(true, .Dv _ _)::r,o,[],st,st',h=>by simp [Ef] at h
 |(true, .part _ _)::r,o,[],st,st',h=>by simp [Ef] at h
 |(true, .Al _ _ _)::r,o,[],st,st',h=>by simp [Ef] at h
 |(true, .Al _ _ _)::r,o,a::as,st,st',h=>Pj r o as st st' (by simpa only [Ef] using h)
 |(false,_)::r,o,[],st,st',h=>by simp [Ef] at h
 |(true, .Dn _)::r,o,a::as,st,st',h=>Pj r o as st st' (by simpa only [Ef] using h)
 |(false,_)::r,o,a::as,st,st',h=>Pj r o as st st' (by simpa only [Ef] using h)
 |(true, .row _ _)::r,o,a::as,st,st',h=>by
  simp only [Ef] at h
  split at h
  ·rename_i hc;exact (Pj r o.2 as _ st' h).trans (uJ hc)
  ·cases h
 |(true, .part _ _)::r,o,a::as,st,st',h=>by
  simp only [Ef] at h
  split at h
  ·rename_i hc;exact (Pj r o.2 as _ st' h).trans (NJ hc)
  ·cases h
 |(true, .Dv _ _)::r,o,a::as,st,st',h=>by
  simp only [Ef] at h
  split at h
  ·rename_i hc;exact (Pj r o.2 as _ st' h).trans (uJ hc)
  ·cases h
theorem wm (Ye st:St) (ls:List Nat) (n:Nat) (hl:Ye.tmps.length=st.tmps.length) (h:Az Ye st):Az Ye (iK Ye st ls n):=by
 unfold iK
 split
 ·exact h
 ·intro t fr τ x hx
  show (He _ Ye.tmps st.tmps).getD t .undef=_
  rcases ca ls Ye.tmps st.tmps t hl with ⟨k,i,c,h1,_⟩|h1
  ·rw [show Ye.tmps.getD t .undef=_ from hx] at h1;cases h1
  ·rw [h1];exact h t fr τ x hx
theorem zg {st st':St} {d:Option Nat} {s:MSpec} {args:List AV} {v:AV} (h:Si st d s args=some (v,st')):Az st st':=by
 unfold Si at h
 split at h
 ·cases h
 split at h
 ·cases h
 split at h
 ·cases h
 split at h
 ·split at h
  ·cases h
  split at h
  ·cases h
  rename_i st1 hp
  split at h
  ·cases h
  split at h
  ·simp only [Option.some.injEq,Prod.mk.injEq] at h
   obtain ⟨_,rfl⟩:=h
   have Yg:=Pj _ _ _ _ _ hp
   refine wm _ _ _ _ ?_ ?_
   ·simp only [iq,me]
    rw [<-Yg]
    simp only [St.Ys,St.Gl,List.length_map]
   ·refine Az.trans (Az.Tu Yg) ?_
    refine Az.trans (Km st1 (Ba _ _) (by simp [Ba,AC.refs]) λfr τ x=>by simp [Ba,AC.refs]) (Az.Tu me)
  ·cases h
 ·cases h
theorem Zx (st:St) (k m:Nat) (b:OB):Az st (Lw st k m b):=
 (Km st (Ba [m,k] []) (by simp [Ba,AC.refs]) λfr τ x=>by simp [Ba,AC.refs]).trans (Az.Tu rfl)
theorem zi {T:Tab} {st st':St} {d:Nat} {t:TypeId} {l c v:AV} (h:Sk T st d t l c=some (v,st')):Az st st':=by
 unfold Sk at h
 split at h
 ·exact EM h
 ·split at h
  ·split at h
   ·injection h with h;injection h with h1 h2;subst h2;exact Zx _ _ _ _
   ·cases h
  ·cases h
theorem jU {T:Tab} {st st':St} {d:Nat} {t:TypeId} {n:Nat} {parts:Array (Nat×Operand)} {v:AV} (h:Eu T st d t n parts=some (v,st')):Az st st':=by
 unfold Eu at h
 split at h
 ·exact lI h
 ·repeat' split at h
  all_goals first|(cases h;done)|(injection h with h;injection h with h1 h2;subst h2;exact Zx _ _ _ _)
theorem so {T:Tab} {st st':St} {d:Nat} {t:TypeId} {x y:Operand} {v:AV} (h:Mi T st d t x y=some (v,st')):Az st st':=by
 unfold Mi at h
 split at h
 ·exact sn h
 ·repeat' split at h
  all_goals first|(cases h;done)|(injection h with h;injection h with h1 h2;subst h2;exact Zx _ _ _ _)
theorem aI {st st':St} {v:AV} {o:Option AV} (h:o.map (λv=>(v,st))=some (v,st')):Az st st':=by
 cases o with
 |none=>cases h
 |some u=>injection h with h;injection h with h1 h2;subst h2;exact Az.rfl'
theorem Va: ∀(l:List Operand) {st st1:St},Ke l st=some st1->Az st st1
 | [],st,st1,h=>by
  simp only [Ke,Option.some.injEq] at h
  subst h
  exact Az.rfl'
 |x::r,st,st1,h=>by
  simp only [Ke] at h
  cases hs:settle st (st.ev x) with
  |none=>rw [hs] at h;cases h
  |some p=>
   rw [hs] at h
   exact (Nf (v':=p.1) (st':=p.2) hs).trans (Va r h)
theorem jC {T:Tab} {Γ:Env} {st st':St} {o:Oper} {v:AV} (h:evalOp T Γ st o=some (v,st')):Az st st':=by
 unfold evalOp at h
 split at h
 ·split at h
  ·split at h
   ·injection h with h;injection h with h1 h2;subst h2;exact Hq _ _ _
   ·cases h
  ·injection h with h;injection h with h1 h2;subst h2;exact Az.rfl'
 ·split at h
  ·exact mX h
  ·cases h
 ·split at h
  ·split at h
   ·exact mX h
   ·cases h
  ·cases h
 ·rename_i t p x _
  cases hs:Ku T st t (st.ev p) (st.ev x) with
  |none=>rw [hs] at h;cases h
  |some s=>rw [hs] at h;injection h with h;injection h with h1 h2;subst h2;exact wq hs
 ·split at h
  ·exact zi h
  ·cases h
 ·split at h
  ·exact sq h
  ·cases h
 ·rename_i t m k x _
  cases hs:Ex T st t (st.ev m) (st.ev k) (st.ev x) with
  |none=>rw [hs] at h;cases h
  |some s=>rw [hs] at h;injection h with h;injection h with h1 h2;subst h2;exact jW hs
 ·rename_i t m k x _
  cases hs:Ex T st t (st.ev m) (st.ev k) (st.ev x) with
  |none=>rw [hs] at h;cases h
  |some s=>rw [hs] at h;injection h with h;injection h with h1 h2;subst h2;exact jW hs
 ·split at h
  ·exact jU h
  ·cases h
 ·exact aI h
 ·split at h
  ·split at h
   ·exact so h
   ·cases h
  ·cases h
 ·split at h
  ·exact EL h
  ·cases h
 ·split at h
  ·rename_i x t _ _
   cases hs:evalClear T st t (st.ev x) with
   |none=>rw [hs] at h;cases h
   |some s=>rw [hs] at h;injection h with h;injection h with h1 h2;subst h2;exact zh hs
  ·cases h
 ·split at h
  ·exact zg h
  ·split at h
   ·rename_i args _ _ _ _ _ _
    cases hs:Ke args.toList st with
    |none=>rw [hs] at h;cases h
    |some st1=>
     rw [hs] at h
     exact (Va _ hs).trans (aI h)
   ·exact aI h
  ·exact aI h
 ·exact aI h
def Lq:List Oper->List Nat
 | []=> []
 |o::r=>(match o.dst with|some d=> [d]|none=> [])++Lq r
def writes:Code->List Nat
 | .region _ ops _=>Lq ops.toList
 | .seq a b=>writes a++writes b
 | .cond _ a b=>writes a++writes b
 | .block _ c=>writes c
 | .loop c=>writes c
 |_=> []
def El (P:Nat->Prop) (st st':St):Prop:= ∀(t:Nat) (fr:Bool) (τ:Ty) (x:τ.den),P t->st.get t= .at (.data fr τ x)->st'.get t= .at (.data fr τ x)
theorem El.trans {P:Nat->Prop} {a b c:St} (h1:El P a b) (h2:El P b c):El P a c:= λt fr τ x hp h=>h2 t fr τ x hp (h1 t fr τ x hp h)
theorem El.mono {P Q:Nat->Prop} {a b:St} (h1:El P a b) (h: ∀t,Q t->P t):El Q a b:= λt fr τ x hp hx=>h1 t fr τ x (h t hp) hx
theorem Az.on {P:Nat->Prop} {a b:St} (h:Az a b):El P a b:= λt fr τ x _ hx=>h t fr τ x hx
theorem Yw (st:St) (dst:Option Tmp) (v:AV):El (λt=>dst≠some t) st (st.put dst v):=by
 intro t fr τ x hp hx
 cases dst with
 |none=>exact hx
 |some d=>rw [Xg st v (λh=>hp (by rw [h]))];exact hx
theorem dx {T:Tab} {Γ:Env} {ops:Array Oper} {st st':St} {o:Oper} (h:Ch T Γ ops st o=some st'):El (λt=>o.dst≠some t) st st':=by
 have key: ∀s,(evalOp T Γ st o).map (λr=>r.2.put o.dst r.1)=some s->El (λt=>o.dst≠some t) st s:=by
  intro s hs
  cases he:evalOp T Γ st o with
  |none=>rw [he] at hs;cases hs
  |some p=>rw [he] at hs;injection hs with hs;subst hs;exact (jC (v:=p.1) (st':=p.2) he).on.trans (Yw _ _ _)
 unfold Ch at h
 split at h
 ·exact key _ h
 ·split at h
  ·split at h
   ·exact key _ h
   ·injection h with h;subst h;exact Yw _ _ _
  ·injection h with h;subst h;exact Yw _ _ _
  ·cases h
theorem gA {T:Tab} {Γ:Env} {ops:Array Oper} : ∀(l:List Oper) (st st':St),Vv T Γ ops l st=some st'->El (λt=>t∉Lq l) st st'
 | [],st,st',h=>by injection h with h;subst h;exact Az.rfl'.on
 |o::r,st,st',h=>by
  simp only [Vv] at h
  split at h
  ·rename_i s hs
   refine El.trans ((dx hs).mono λt ht=>?_) ((gA r _ _ h).mono λt ht=>?_)
   ·intro hd;apply ht;simp [Lq,hd]
   ·intro hd;apply ht;simp [Lq,hd]
  ·cases h
theorem a6: ∀(l:List Oper) (o:Oper) (d:Nat),o∈l->o.dst=some d->d∈Lq l
 | [],_,_,h,_=>by cases h
 |p::r,o,d,h,hd=>by
  cases h with
  |head=>simp [Lq,hd]
  |tail _ h=>simp only [Lq,List.mem_append];exact .inr (a6 r o d h hd)
theorem uz {ops:Array Oper} {i:Nat} {o:Oper} (h:ops[i]?=some o):o∈ops.toList:=by
 rw [Array.getElem?_eq_some_iff] at h
 obtain ⟨h1,h2⟩:=h
 rw [<-h2]
 simp
theorem Tq {T:Tab} {Γ:Env} {ops:Array Oper} : ∀(l:List Nat) (st st':St),Ij T Γ ops l st=some st'->El (λt=>t∉Lq ops.toList) st st'
 | [],st,st',h=>by injection h with h;subst h;exact Az.rfl'.on
 |i::r,st,st',h=>by
  simp only [Ij] at h
  split at h
  ·cases h
  ·rename_i o ho
   split at h
   ·rename_i s hs
    exact ((dx hs).mono λt ht hd=>ht (a6 _ _ _ (uz ho) hd)).trans (Tq r _ _ h)
   ·cases h
theorem Mj {T:Tab} {Γ:Env} {ops:Array Oper} : ∀(l:List Nat) (st st':St),Cw T Γ ops l st=some st'->El (λt=>t∉Lq ops.toList) st st'
 | [],st,st',h=>by injection h with h;subst h;exact Az.rfl'.on
 |i::r,st,st',h=>by
  simp only [Cw] at h
  split at h
  ·cases h
  ·rename_i o ho
   split at h
   ·exact ((Yw _ _ _).mono λt ht hd=>ht (a6 _ _ _ (uz ho) hd)).trans (Mj r _ _ h)
   ·cases h
theorem cA: ∀(l:List Nat) (st:St),Az st (aA l st)
 | [],_=>Az.rfl'
 |a::r,st=>(jV st a).trans (cA r _)
theorem dj (live:List Nat): ∀(i:Nat) (l:List AV) (t:Nat),i+t∈live->(Ga live i l).getD t .undef=l.getD t .undef
 |_,[],_,_=>rfl
 |i,v::r,0,h=>by simp [Ga];intro hn;exact absurd h hn
 |i,v::r,t+1,h=>by
  simp only [Ga,List.getD_cons_succ]
  exact dj live (i+1) r t (by rw [show i+1+t=i+(t+1) by omega];exact h)
theorem wo (l k:Nat) (st:St):Az st (st.rename l k):=by
 unfold St.rename
 split
 ·split
  ·exact (Km st (Pz l k) rfl λ_ _ _=>rfl).trans (Az.Tu rfl)
  ·exact Az.rfl'
 ·exact Az.rfl'
theorem aK: ∀(n t:Nat) (st:St),Az st (Ib n t st)
 |0,_,_=>Az.rfl'
 |n+1,t,st=>by
  simp only [Ib]
  refine Az.trans ?_ (aK n (t+1) _)
  split
  ·split
   ·split
    ·exact Az.rfl'
    ·exact wo _ _ _
   ·exact Az.rfl'
  ·exact Az.rfl'
theorem q7 (t:Nat) (st:St):Az st (Xr t st):=by
 unfold Xr
 split
 ·rename_i l off len hg
  split
  ·split
   ·intro k fr τ x hk
    have Ek:k≠t:= λe=>by subst e;rw [hg] at hk;cases hk
    rw [Xg _ _ Ek]
    exact Hq _ _ _ k fr τ x hk
   ·exact Az.rfl'
  ·exact Az.rfl'
 ·exact Az.rfl'
theorem iL (c:Nat) (st:St):Az st (La c st):=by
 unfold La
 split
 ·split
  ·split
   ·split
    ·split
     ·exact (Hq _ _ _).trans (Ia _ _ _)
     ·exact Az.rfl'
    ·exact Az.rfl'
   ·exact Az.rfl'
  ·exact Az.rfl'
 ·exact Az.rfl'
theorem Yx (live:List Nat): ∀(n c:Nat) (st:St),Az st (Kr live n c st)
 |0,_,_=>Az.rfl'
 |n+1,c,st=>by
  simp only [Kr]
  refine Az.trans ?_ (Yx live n (c+1) _)
  split
  ·exact iL _ _
  ·exact Az.rfl'
theorem cC (live:List Nat): ∀(n t:Nat) (st:St),Az st (Kd live n t st)
 |0,_,st=>Yx live 16 0 st
 |n+1,t,st=>by
  simp only [Kd]
  refine Az.trans ?_ (cC live n (t+1) _)
  split
  ·exact q7 _ _
  ·exact Az.rfl'
theorem gM (live:List Nat) (st:St):El (λt=>t∈live) st (st.clean live):=by
 intro t fr τ x hp hx
 unfold St.clean
 have key: ∀s:St,s.get t= .at (.data fr τ x)->(if live.contains Zc then Ib s.tmps.length 0 s else s).get t= .at (.data fr τ x):=by
  intro s hs
  split
  ·exact aK _ _ s t fr τ x hs
  ·exact hs
 have SO: ∀s:St,s.get t= .at (.data fr τ x)->(if live.any (λt=>Nat.ble Oj t) then s.En live else s).get t= .at (.data fr τ x):=by
  intro s hs
  split<;>exact hs
 have SP: ∀s:St,s.get t= .at (.data fr τ x)->(if live.any (λt=>Nat.ble Mu t&&Nat.blt t Zc) then Kd live s.tmps.length 0 s else s).get t= .at (.data fr τ x):=by
  intro s hs
  split
  ·exact cC _ _ _ s t fr τ x hs
  ·exact hs
 refine SO _ (key _ (SP _ (cA _ _ t fr τ x ?_)))
 simp only [St.get] at hx⊢
 rw [dj live 0 st.tmps t (by simpa using hp)]
 exact hx
def Xk (live:Nat->List Nat):Code->Nat->Bool
 | .seq a b,t=>Xk live a t&&Xk live b t
 | .cond _ a b,t=>Xk live a t&&Xk live b t
 | .block _ c,t=>Xk live c t
 | .loop c,t=>(live (Ci c)).contains t&&Xk live c t
 |_,_=>true
theorem lh {a b:Bool} (h:(a&&b)=true):a=true:=by cases a<;>simp_all
theorem ir {a b:Bool} (h:(a&&b)=true):b=true:=by cases a<;>simp_all
theorem lv {T:Tab} {Γ:Env} {ops:Array Oper} {draw:Bool} {st st':St} (h:Mk T Γ ops draw st=some st'):El (λt=>t∉writes (.region 0 ops draw)) st st':=by
 unfold Mk at h
 have go: ∀q,(match Cw T Γ ops (fh q Γ ops) st with
   |some s=>Ij T Γ ops (Fg q Γ ops) s
   |none=>none)=some st'->El (λt=>t∉writes (.region 0 ops draw)) st st':=by
  intro q h
  split at h
  ·rename_i s hs
   exact (Mj _ _ _ hs).trans (Tq _ _ _ h)
  ·cases h
 split at h
 ·split at h
  ·exact go false h
  ·split at h
   ·exact go true h
   ·cases h
 ·exact gA _ _ _ h
theorem oW {T:Tab} {Γ:Env} {ops:Array Oper} {draw:Bool} {K:St->Prop} (s0:St): ∀(f:Nat) (Aa:Array Bool) (st:St),El (λt=>t∉writes (.region 0 ops draw)) s0 st->anyS T Γ ops K f Aa st->anyS T Γ ops (λs=>K s/\El (λt=>t∉writes (.region 0 ops draw)) s0 s) f Aa st
 |0,_,_,hk,h=>⟨h.1,h.2,hk⟩
 |f+1,Aa,st,hk,h=>⟨h.1,λi hi=>by
  obtain ⟨o,st',h1,h2,h3⟩:=h.2 i hi
  have h4:Ij T Γ ops [i] st=some st':=by simp only [Ij,h1,h2]
  exact ⟨o,st',h1,h2,oW s0 f _ _ (hk.trans (Tq _ _ _ h4)) h3⟩⟩
theorem oV {T:Tab} {Γ:Env} {ops:Array Oper} {draw:Bool} {E:List Nat} {K:St->Prop} (s0:St): ∀(f:Nat) (Aa:Array Bool) (st:St),El (λt=>t∉writes (.region 0 ops draw)) s0 st->rW T Γ ops E K f Aa st->rW T Γ ops E (λs=>K s/\El (λt=>t∉writes (.region 0 ops draw)) s0 s) f Aa st
 |0,_,_,hk,h=>⟨h.1,h.2.1,h.2.2,hk⟩
 |f+1,Aa,st,hk,h=>⟨h.1,h.2.1,λi hi=>by
  obtain ⟨o,st',h1,h2,h3⟩:=h.2.2 i hi
  have h4:Ij T Γ ops [i] st=some st':=by simp only [Ij,h1,h2]
  exact ⟨o,st',h1,h2,oV s0 f _ _ (hk.trans (Tq _ _ _ h4)) h3⟩⟩
theorem vr.keeps {T:Tab} {Γ:Env} {ops:Array Oper} {draw:Bool} {st:St} {K:St->Prop} (h:vr T Γ ops draw st K):vr T Γ ops draw st (λs=>K s/\El (λt=>t∉writes (.region 0 ops draw)) st s):=by
 rcases h with ⟨st',h1,h2⟩|⟨h1,h2,Ye,h3,h4|⟨E,st1,h4,h5,h6,h7⟩⟩
 ·exact .inl ⟨st',h1,h2,lv h1⟩
 ·exact .inr ⟨h1,h2,Ye,h3, .inl (oW st _ _ _ (Mj _ _ _ h3) h4)⟩
 ·exact .inr ⟨h1,h2,Ye,h3, .inr ⟨E,st1,h4,h5,h6,oV st _ _ _ ((Mj _ _ _ h3).trans (Mj _ _ _ h6)) h7⟩⟩
theorem gr (ops:Array Oper) {fr:Bool} {τ:Ty} {x:τ.den} : ∀(i:Nat) (l:List AV) (t:Nat),l.getD t .undef= .at (.data fr τ x)->(Jz ops i l).getD t .undef= .at (.data fr τ x)
 |_,[],_,h=>h
 |i,v::r,0,h=>by
  cases v with
  |Ih l=>cases h
  |_=>exact h
 |i,v::r,t+1,h=>by
  have h':=gr ops (i+1) r t h
  cases v<;>(simp only [Jz,List.getD_cons_succ];exact h')
theorem gN (ops:Array Oper) (st:St):Az st (st.ju ops):= λt _ _ _ hx=>gr ops 0 st.tmps t hx
theorem GK {T:Tab} {Γ:Env} {live:Nat->List Nat} {c:Code} {st:St} {Q:Ha->St->Prop} (h:Jq T Γ live c st Q): ∀(s0:St) (p:Nat->Prop),El p s0 st->(∀t,p t->t∉writes c/\Xk live c t=true)->Jq T Γ live c st (λe s=>Q e s/\El p s0 s):=by
 induction h with
 |skip h=>exact λs0 p hk _=> .skip ⟨h,hk⟩
 |label h=>exact λs0 p hk _=> .label ⟨h,hk⟩
 |exit h=>exact λs0 p hk _=> .exit ⟨h,hk⟩
 |ret h=>exact λs0 p hk _=> .ret ⟨h,hk⟩
 |region h=>
  exact λs0 p hk hp=> .region (h.keeps.mono λs hs=>⟨hs.1,(hk.trans (gN _ _).on).trans (hs.2.mono λt ht=>(hp t ht).1)⟩)
 |seq Q1 _ _ h3 LZ zc=>
  exact λs0 p hk hp=> .seq _ (LZ s0 p hk λt ht=>⟨λhm=>(hp t ht).1 (by simp [writes,hm]),lh (hp t ht).2⟩)
   (λs hs=>zc s hs.1 s0 p hs.2 λt ht=>⟨λhm=>(hp t ht).1 (by simp [writes,hm]),ir (hp t ht).2⟩) λe s he hs=>⟨h3 e s he hs.1,hs.2⟩
 |cond hc _ _ LZ zc=>
  exact λs0 p hk hp=> .cond hc (λht=>LZ ht s0 p hk λt h=>⟨λhm=>(hp t h).1 (by simp [writes,hm]),lh (hp t h).2⟩)
   fun ht=>zc ht s0 p hk λt h=>⟨λhm=>(hp t h).1 (by simp [writes,hm]),ir (hp t h).2⟩
 |block Q1 _ h2 ih=>
  exact λs0 p hk hp=> .block _ (ih s0 p hk λt ht=>⟨λhm=>(hp t ht).1 (by simpa [writes] using hm),by simpa [Xk] using (hp t ht).2⟩) λe s hs=>by
   have h:=h2 e s hs.1
   cases e with
   |normal=>exact ⟨h,hs.2⟩
   |ret=>exact ⟨h,hs.2⟩
   |exit LY=>
    simp only [uf] at h⊢
    split at h
    ·rename_i hi;rw [if_pos hi];exact ⟨h,hs.2⟩
    ·rename_i hi;rw [if_neg hi];exact ⟨h,hs.2⟩
 |loop Q1 _ _ h3 LZ zc=>
  intro s0 p hk hp
  refine .loop _ (LZ s0 p (hk.trans ((gM _ _).mono λt ht=>by simpa using lh (hp t ht).2)) λt ht=>⟨λhm=>(hp t ht).1 (by simpa [writes] using hm),ir (hp t ht).2⟩)
   (λs hs=>zc s hs.1 s0 p hs.2 hp) λe s he hs=>⟨h3 e s he hs.1,hs.2⟩
end Go.Proofs.YtfolipnappekaaaGreat
