/-
  Part 29 of the proof that the statement FnExactIsMethodSolution holds.
-/
import Derived.Test.YtebabhocakedaaaCIsMethodSolution27
namespace Go.Proofs.Ytebabhocakedaaa
open Go.RowKit
def Ba (st st':St):Prop:= ∀(t:Nat) (fr:Bool) (τ:Ty) (x:τ.den),st.get t= .at (.data fr τ x)→st'.get t= .at (.data fr τ x)
theorem Ba.Hl {st:St} :Ba st st:=fun _ _ _ _ h=>h
theorem Ba.trans {a b c:St} (h1:Ba a b) (h2:Ba b c):Ba a c:=fun t fr τ x h=>h2 t fr τ x (h1 t fr τ x h)
theorem Ba.Od {a b:St} (h:b.tmps=a.tmps):Ba a b:=fun t fr τ x hx=>by
 simp only [St.get] at hx⊢
 rw [h]
 exact hx
theorem Rd (st:St) {t d:Nat} (v:AV) (h:t≠d):(st.put (some d) v).get t=st.get t:=by
 simp only [St.put,St.get]
 rw [Qq]
 rw [if_neg (by rintro ⟨rfl,_⟩;exact h rfl)]
theorem Ie (st:St) (f:AC→AC) (hu:f .undef= .undef) (hd: ∀fr (τ:Ty) (x:τ.den),f (.data fr τ x)= .data fr τ x):Ba st (st.Fc f):=by
 intro t fr τ x h
 simp only [St.Fc,St.get]
 rw [Ok f hu,show st.tmps.getD t .undef=_ from h]
 simp only [AV.map,hd]
theorem Ae1 (st:St) (l:Nat):Ba st (st.forget l):=
 (Ie st (Aw l) rfl fun _ _ _=>rfl).trans (Ba.Od rfl)
theorem Qa (st:St) (l:Nat) (fr:Bool) (e:Ty) (xs:List e.den):Ba st (st.freeze l fr e xs):=
 (Ie st (Ax l fr e xs) rfl fun _ _ _=>rfl).trans (Ba.Od rfl)
theorem Xd (st:St) (l:Nat) (v:Ty) (m:ByteArray→Option v.den):Ba st (st.Dt l v m):=
 (Ie st (Cs l v m) rfl fun _ _ _=>rfl).trans (Ba.Od rfl)
theorem Gr (st:St) (l:Nat) (b:OB):Ba st (st.new l b):=(Ae1 st l).trans (Ba.Od rfl)
theorem Hj (st:St) (l:Nat) (b:OB):Ba st (st.Ew l b):=Ba.Od rfl
theorem Uh (b:OB) (key l i:Nat) (st:St):Ba st (Ll b key l i st):=by
 unfold Ll
 split
 ·split
  ·dsimp only
   split
   ·exact (Gr _ _ _).trans (Hj _ _ _)
   ·exact Gr _ _ _
  ·exact Ba.Hl
 ·exact Ba.Hl
theorem Abc (T:Tab) (l:Nat) (t:TypeId) (τ:Ty): ∀(n i:Nat) (st:St),Ba st (Wa T l t τ n i st)
 |0,_,_=>Ba.Hl
 |n+1,i,st=>by
  simp only [Wa]
  refine Ba.trans ?_ (Abc T l t τ n (i+1) _)
  split
  ·exact Uh _ _ _ _ _
  ·exact Ba.Hl
theorem Yu (T:Tab) (l off:Nat) (t:TypeId) (τ:Ty): ∀(n i:Nat) (st:St),Ba st (Um T l off t τ n i st)
 |0,_,_=>Ba.Hl
 |n+1,i,st=>by
  simp only [Um]
  refine Ba.trans ?_ (Yu T l off t τ n (i+1) _)
  split
  ·exact Uh _ _ _ _ _
  ·exact Ba.Hl
theorem Jk: ∀(n:Nat) (st:St) (cs cs':List AC) (st':St),Da n st cs=some (cs',st')→Ba st st'
 |0,st,cs,cs',st',h=>by
  simp only [Da] at h
  split at h
  ·injection h with h;injection h with h1 h2;subst h2;exact Ba.Hl
  ·cases h
 |n+1,st,cs,cs',st',h=>by
  simp only [Da] at h
  split at h
  ·injection h with h;injection h with h1 h2;subst h2;exact Ba.Hl
  ·split at h
   ·exact (Qa _ _ _ _ _).trans (Jk n _ _ _ _ h)
   ·exact (Qa _ _ _ _ _).trans (Jk n _ _ _ _ h)
   ·cases h
  ·split at h
   ·exact (Xd _ _ _ _).trans (Jk n _ _ _ _ h)
   ·cases h
  ·cases h
theorem Jz {st st':St} {v v':AV} (h:settle st v=some (v',st')):Ba st st':=by
 unfold settle at h
 split at h
 ·split at h
  ·injection h with h;injection h with h1 h2;subst h2;exact Qa _ _ _ _ _
  ·injection h with h;injection h with h1 h2;subst h2;exact Qa _ _ _ _ _
  ·cases h
 ·split at h
  ·injection h with h;injection h with h1 h2;subst h2;exact Xd _ _ _ _
  ·cases h
 ·split at h
  ·injection h with h;injection h with h1 h2;subst h2;exact Ba.Hl
  ·cases h
 ·rename_i cs
  cases hs:Da cs.length st cs with
  |none=>rw [hs] at h;cases h
  |some p=>rw [hs] at h;injection h with h;injection h with h1 h2;subst h2;exact Jk _ _ _ _ _ hs
 ·injection h with h;injection h with h1 h2;subst h2;exact Ba.Hl
 ·cases h
theorem Agr {T:Tab} {st st':St} {l:Nat} {t:TypeId} {τ:Ty} {cs:List AC} {v:AV} (h:mkVar T st l t τ cs=some (v,st')):Ba st st':=by
 unfold mkVar at h
 split at h
 ·cases h
 dsimp only at h
 split at h
 ·injection h with h;injection h with h1 h2;subst h2;exact (Gr _ _ _).trans (Abc _ _ _ _ _ _ _)
 ·cases h
theorem Asl {T:Tab} {st st':St} {t:TypeId} {p v:AV} (h:Lp T st t p v=some st'):Ba st st':=by
 unfold Lp at h
 split at h
 ·split at h
  ·split at h
   ·injection h with h
    split at h
    ·subst h;exact (Hj _ _ _).trans (Yu _ _ _ _ _ _ _ _)
    ·subst h;exact Hj _ _ _
   ·cases h
  ·cases h
 ·split at h
  ·rename_i hs
   split at h
   ·split at h
    ·split at h
     ·injection h with h;subst h;exact (Jz hs).trans (Hj _ _ _)
     ·cases h
    ·cases h
   ·cases h
  ·cases h
 ·cases h
theorem Aj9 (st:St) (l j m:Nat) (e:Ty) (te:TypeId) (rows:List (List e.den)) (xs:List e.den) (kp:Option (Nat×Nat)):Ba st (Kr st l j m e te rows xs kp):=
 ((Ie st (At [m] [l]) (by simp [At,AC.refs]) fun fr τ x=>by simp [At,AC.refs]).trans (Ba.Od rfl)).trans (Hj (st.Se [m] [l]) _ _)
theorem Aja (st:St) (l i m:Nat) (e:Ty) (te tid:TypeId) (rows:List (List e.den)) (kp:Option (Nat×Nat)):Ba st (It st l i m e te tid rows kp):=
 (Hj st l _).trans (Gr _ m _)
theorem Ap7 {T:Tab} {st st':St} {t:TypeId} {p v:AV} (h:Ih T st t p v=some st'):Ba st st':=by
 unfold Ih at h
 split at h
 rotate_left
 ·exact Asl h
 unfold Rc at h
 split at h
 ·split at h
  ·rename_i hs
   split at h
   ·split at h
    ·injection h with h;subst h;exact (Jz hs).trans (Hj _ _ _)
    ·cases h
   ·cases h
  ·cases h
 ·split at h
  ·split at h
   ·split at h
    ·injection h with h;subst h
     exact Aj9 _ _ _ _ _ _ _ _ _
    ·cases h
   ·cases h
  ·cases h
 ·cases h
theorem Vp {T:Tab} {st st':St} {d:Nat} {t:TypeId} {x y:Operand} {v:AV} (h:Hg T st d t x y=some (v,st')):Ba st st':=by
 unfold Hg at h
 split at h
 ·cases h
 ·split at h
  ·rename_i hs
   split at h
   ·cases h
   ·split at h
    ·split at h
     ·injection h with h;injection h with h1 h2;subst h2;exact ((Jz hs).trans (Gr _ _ _)).trans (Gr _ _ _)
     ·cases h
    ·split at h
     ·split at h
      ·split at h
       ·injection h with h;injection h with h1 h2;subst h2;exact (Jz hs).trans (Gr _ _ _)
       ·cases h
      ·cases h
     ·cases h
    ·cases h
  ·cases h
theorem Al9 {T:Tab} {st st':St} {d:Nat} {t:TypeId} {x y:Operand} {v:AV} (h:Jn T st d t x y=some (v,st')):Ba st st':=by
 unfold Jn at h
 split at h
 ·rename_i tx
  split at h
  ·rename_i l i c hg
   split at h
   ·split at h
    ·rename_i e te rows kp tid hl ht hc
     refine Ba.trans (b:=(It st l i d e te tid rows kp).put (some tx) (.at (.own d 0 (rows.getD i []).length))) ?_ (Vp h)
     intro t' fr τ z hz
     by_cases e':t'=tx
     ·subst e';rw [hg] at hz;cases hz
     ·rw [Rd _ _ e'];exact Aja st l i d e te tid rows kp t' fr τ z hz
    ·cases h
   ·cases h
  ·exact Vp h
 ·exact Vp h
theorem Avs {T:Tab} {st st':St} {d:Nat} {t:TypeId} {l c v:AV} (h:Qz T st d t l c=some (v,st')):Ba st st':=by
 unfold Qz at h
 split at h
 ·split at h
  ·split at h
   ·injection h with h;injection h with h1 h2;subst h2;exact Gr _ _ _
   ·cases h
  ·cases h
 ·cases h
theorem Ags (e:Ty): ∀(l:List (Nat×Operand)) (i:Nat) (st st':St) (fr tr:Bool) (ys:List e.den),Fl e i l st=some (fr,tr,ys,st')→Ba st st'
 | [],_,_,_,_,_,_,h=>by
  simp only [Fl] at h
  injection h with h;injection h with h1 h2;injection h2 with h2 h3;injection h3 with h3 h4;subst h4;exact Ba.Hl
 |(j,x)::r,i,st,st',fr,tr,ys,h=>by
  simp only [Fl] at h
  split at h
  ·split at h
   ·rename_i hs
    split at h
    ·split at h
     ·rename_i hp
      injection h with h;injection h with h1 h2;injection h2 with h2 h3;injection h3 with h3 h4;subst h4
      exact (Jz hs).trans (Ags e r _ _ _ _ _ _ hp)
     ·cases h
    ·cases h
   ·cases h
  ·cases h
theorem Afg {T:Tab} {st st':St} {d:Nat} {t:TypeId} {n:Nat} {parts:Array (Nat×Operand)} {v:AV} (h:Gc T st d t n parts=some (v,st')):Ba st st':=by
 unfold Gc at h
 split at h
 ·cases h
 ·split at h
  ·cases h
  ·split at h
   ·split at h
    ·rename_i hp
     injection h with h;injection h with h1 h2;subst h2;exact (Ags _ _ _ _ _ _ _ _ hp).trans (Gr _ _ _)
    ·cases h
   ·cases h
theorem Alb {T:Tab} {st st':St} {d:Nat} {t:TypeId} {v:AV} (h:Lo T st d t=some (v,st')):Ba st st':=by
 unfold Lo at h
 split at h
 ·split at h
  ·injection h with h;injection h with h1 h2;subst h2;exact Gr _ _ _
  ·cases h
 ·cases h
theorem Ae2 {T:Tab} {st st':St} {t:TypeId} {m k x:AV} (h:Ea T st t m k x=some st'):Ba st st':=by
 unfold Ea at h
 split at h
 ·split at h
  ·split at h
   ·injection h with h;subst h;exact Hj _ _ _
   ·cases h
  ·cases h
 ·cases h
theorem Avr {T:Tab} {st st':St} {t t':TypeId} {x y v:AV} (h:Yk T st t t' x y=some (v,st')):Ba st st':=by
 unfold Yk at h
 split at h
 ·split at h
  ·split at h
   ·split at h
    ·injection h with h;injection h with h1 h2;subst h2;exact Hj _ _ _
    ·cases h
   ·cases h
  ·cases h
 ·cases h
theorem Asi {T:Tab} {st st':St} {t:TypeId} {x:AV} (h:evalClear T st t x=some st'):Ba st st':=by
 unfold evalClear at h
 split at h
 ·split at h
  ·split at h
   ·split at h
    ·injection h with h;subst h;exact Hj _ _ _
    ·cases h
   ·cases h
  ·cases h
 ·cases h
theorem Ann {st st':St} {c:CK} {ys:c.den} {a:AC} (h:Rx st c ys a=some st'):st'.tmps=st.tmps:=by
 unfold Rx at h
 repeat' split at h
 all_goals first|(cases h;done)|(simp only [Option.some.injEq] at h;subst h;rfl)|skip
theorem Azo {st st':St} {e:Ty} {ys:List e.den} {a:AC} (h:Awk st e ys a=some st'):st'.tmps=st.tmps:=by
 unfold Awk at h
 repeat' split at h
 all_goals first|(cases h;done)|(simp only [Option.some.injEq] at h;subst h;rfl)|skip
theorem Lm: ∀(cs:List (Bool×CK)) (o:IOs.den cs) (as:List AC) (st st':St),Di cs o as st=some st'→st'.tmps=st.tmps
 | [],_,_,st,st',h=>by simp only [Di,Option.some.injEq] at h;subst h;rfl
 |(true, .dat _)::r,o,[],st,st',h=>by simp [Di] at h
 |(true, .row _ _)::r,o,[],st,st',h=>by simp [Di] at h
 |(true, .xrow _ _)::r,o,[],st,st',h=>by simp [Di] at h
 |(true, .part _ _)::r,o,[],st,st',h=>by simp [Di] at h
 |(true, .grid _ _ _)::r,o,[],st,st',h=>by simp [Di] at h
 |(true, .grid _ _ _)::r,o,a::as,st,st',h=>Lm r o as st st' (by simpa only [Di] using h)
 |(false,_)::r,o,[],st,st',h=>by simp [Di] at h
 |(true, .dat _)::r,o,a::as,st,st',h=>Lm r o as st st' (by simpa only [Di] using h)
 |(false,_)::r,o,a::as,st,st',h=>Lm r o as st st' (by simpa only [Di] using h)
 |(true, .row _ _)::r,o,a::as,st,st',h=>by
  simp only [Di] at h
  split at h
  ·rename_i hc;exact (Lm r o.2 as _ st' h).trans (Ann hc)
  ·cases h
 |(true, .part _ _)::r,o,a::as,st,st',h=>by
  simp only [Di] at h
  split at h
  ·rename_i hc;exact (Lm r o.2 as _ st' h).trans (Azo hc)
  ·cases h
 |(true, .xrow _ _)::r,o,a::as,st,st',h=>by
  simp only [Di] at h
  split at h
  ·rename_i hc;exact (Lm r o.2 as _ st' h).trans (Ann hc)
  ·cases h
theorem Ap5 (st0 st:St) (ls:List Nat) (n:Nat) (hl:st0.tmps.length=st.tmps.length) (h:Ba st0 st):Ba st0 (Aci st0 st ls n):=by
 unfold Aci
 split
 ·exact h
 ·intro t fr τ x hx
  show (Ft _ st0.tmps st.tmps).getD t .undef=_
  rcases Wp ls st0.tmps st.tmps t hl with ⟨k,i,c,h1,_⟩|h1
  ·rw [show st0.tmps.getD t .undef=_ from hx] at h1;cases h1
  ·rw [h1];exact h t fr τ x hx
theorem Ash {st st':St} {d:Option Nat} {s:Bp} {args:List AV} {v:AV} (h:Na st d s args=some (v,st')):Ba st st':=by
 unfold Na at h
 split at h
 ·cases h
 split at h
 ·cases h
 split at h
 ·cases h
 split at h
 ·split at h
  ·cases h
  split at h
  ·cases h
  rename_i st1 hp
  split at h
  ·cases h
  split at h
  ·simp only [Option.some.injEq,Prod.mk.injEq] at h
   obtain ⟨_,rfl⟩:=h
   have hpt:=Lm _ _ _ _ _ hp
   refine Ap5 _ _ _ _ ?_ ?_
   ·simp only [Ac2,Ag1]
    rw [←hpt]
    simp only [St.Se,St.Fc,List.length_map]
   ·refine Ba.trans (Ba.Od hpt) ?_
    refine Ba.trans (Ie st1 (At _ _) (by simp [At,AC.refs]) fun fr τ x=>by simp [At,AC.refs]) (Ba.Od Ag1)
  ·cases h
 ·cases h
theorem Tc (st:St) (k m:Nat) (b:OB):Ba st (Jj st k m b):=
 (Ie st (At [m,k] []) (by simp [At,AC.refs]) fun fr τ x=>by simp [At,AC.refs]).trans (Ba.Od rfl)
theorem Asj {T:Tab} {st st':St} {d:Nat} {t:TypeId} {l c v:AV} (h:Nb T st d t l c=some (v,st')):Ba st st':=by
 unfold Nb at h
 split at h
 ·exact Avs h
 ·split at h
  ·split at h
   ·injection h with h;injection h with h1 h2;subst h2;exact Tc _ _ _ _
   ·cases h
  ·cases h
theorem Ae0 {T:Tab} {st st':St} {d:Nat} {t:TypeId} {n:Nat} {parts:Array (Nat×Operand)} {v:AV} (h:Dy T st d t n parts=some (v,st')):Ba st st':=by
 unfold Dy at h
 split at h
 ·exact Afg h
 ·repeat' split at h
  all_goals first|(cases h;done)|(injection h with h;injection h with h1 h2;subst h2;exact Tc _ _ _ _)
theorem Ala {T:Tab} {st st':St} {d:Nat} {t:TypeId} {x y:Operand} {v:AV} (h:Jo T st d t x y=some (v,st')):Ba st st':=by
 unfold Jo at h
 split at h
 ·exact Al9 h
 ·repeat' split at h
  all_goals first|(cases h;done)|(injection h with h;injection h with h1 h2;subst h2;exact Tc _ _ _ _)
theorem Ug {st st':St} {v:AV} {o:Option AV} (h:o.map (fun v=>(v,st))=some (v,st')):Ba st st':=by
 cases o with
 |none=>cases h
 |some u=>injection h with h;injection h with h1 h2;subst h2;exact Ba.Hl
theorem Pd: ∀(l:List Operand) {st st1:St},Hy l st=some st1→Ba st st1
 | [],st,st1,h=>by
  simp only [Hy,Option.some.injEq] at h
  subst h
  exact Ba.Hl
 |x::r,st,st1,h=>by
  simp only [Hy] at h
  cases hs:settle st (st.ev x) with
  |none=>rw [hs] at h;cases h
  |some p=>
   rw [hs] at h
   exact (Jz (v':=p.1) (st':=p.2) hs).trans (Pd r h)
theorem Adq {T:Tab} {Γ:Env} {st st':St} {o:Oper} {v:AV} (h:evalOp T Γ st o=some (v,st')):Ba st st':=by
 unfold evalOp at h
 split at h
 ·split at h
  ·split at h
   ·injection h with h;injection h with h1 h2;subst h2;exact Gr _ _ _
   ·cases h
  ·injection h with h;injection h with h1 h2;subst h2;exact Ba.Hl
 ·split at h
  ·exact Agr h
  ·cases h
 ·split at h
  ·split at h
   ·exact Agr h
   ·cases h
  ·cases h
 ·rename_i t p x _
  cases hs:Ih T st t (st.ev p) (st.ev x) with
  |none=>rw [hs] at h;cases h
  |some s=>rw [hs] at h;injection h with h;injection h with h1 h2;subst h2;exact Ap7 hs
 ·split at h
  ·exact Asj h
  ·cases h
 ·split at h
  ·exact Alb h
  ·cases h
 ·rename_i t m k x _
  cases hs:Ea T st t (st.ev m) (st.ev k) (st.ev x) with
  |none=>rw [hs] at h;cases h
  |some s=>rw [hs] at h;injection h with h;injection h with h1 h2;subst h2;exact Ae2 hs
 ·rename_i t m k x _
  cases hs:Ea T st t (st.ev m) (st.ev k) (st.ev x) with
  |none=>rw [hs] at h;cases h
  |some s=>rw [hs] at h;injection h with h;injection h with h1 h2;subst h2;exact Ae2 hs
 ·split at h
  ·exact Ae0 h
  ·cases h
 ·exact Ug h
 ·split at h
  ·split at h
   ·exact Ala h
   ·cases h
  ·cases h
 ·split at h
  ·exact Avr h
  ·cases h
 ·split at h
  ·rename_i x t _ _
   cases hs:evalClear T st t (st.ev x) with
   |none=>rw [hs] at h;cases h
   |some s=>rw [hs] at h;injection h with h;injection h with h1 h2;subst h2;exact Asi hs
  ·cases h
 ·split at h
  ·exact Ash h
  ·split at h
   ·rename_i args _ _ _ _ _ _
    cases hs:Hy args.toList st with
    |none=>rw [hs] at h;cases h
    |some st1=>
     rw [hs] at h
     exact (Pd _ hs).trans (Ug h)
   ·exact Ug h
  ·exact Ug h
 ·exact Ug h
def Jg:List Oper→List Nat
 | []=> []
 |o::r=>(match o.dst with|some d=> [d]|none=> [])++Jg r
def writes:Code→List Nat
 | .region _ ops _=>Jg ops.toList
 | .seq a b=>writes a++writes b
 | .cond _ a b=>writes a++writes b
 | .block _ c=>writes c
 | .loop c=>writes c
 |_=> []
def Eh (P:Nat→Prop) (st st':St):Prop:= ∀(t:Nat) (fr:Bool) (τ:Ty) (x:τ.den),P t→st.get t= .at (.data fr τ x)→st'.get t= .at (.data fr τ x)
theorem Eh.trans {P:Nat→Prop} {a b c:St} (h1:Eh P a b) (h2:Eh P b c):Eh P a c:=fun t fr τ x hp h=>h2 t fr τ x hp (h1 t fr τ x hp h)
theorem Eh.mono {P Q:Nat→Prop} {a b:St} (h1:Eh P a b) (h: ∀t,Q t→P t):Eh Q a b:=fun t fr τ x hp hx=>h1 t fr τ x (h t hp) hx
theorem Ba.on {P:Nat→Prop} {a b:St} (h:Ba a b):Eh P a b:=fun t fr τ x _ hx=>h t fr τ x hx
theorem Si (st:St) (dst:Option Tmp) (v:AV):Eh (fun t=>dst≠some t) st (st.put dst v):=by
 intro t fr τ x hp hx
 cases dst with
 |none=>exact hx
 |some d=>rw [Rd st v (fun h=>hp (by rw [h]))];exact hx
theorem Yl {T:Tab} {Γ:Env} {ops:Array Oper} {st st':St} {o:Oper} (h:Ca T Γ ops st o=some st'):Eh (fun t=>o.dst≠some t) st st':=by
 have key: ∀s,(evalOp T Γ st o).map (fun r=>r.2.put o.dst r.1)=some s→Eh (fun t=>o.dst≠some t) st s:=by
  intro s hs
  cases he:evalOp T Γ st o with
  |none=>rw [he] at hs;cases hs
  |some p=>rw [he] at hs;injection hs with hs;subst hs;exact (Adq (v:=p.1) (st':=p.2) he).on.trans (Si _ _ _)
 unfold Ca at h
 split at h
 ·exact key _ h
 ·split at h
  ·split at h
   ·exact key _ h
   ·injection h with h;subst h;exact Si _ _ _
  ·injection h with h;subst h;exact Si _ _ _
  ·cases h
theorem Ab4 {T:Tab} {Γ:Env} {ops:Array Oper} : ∀(l:List Oper) (st st':St),Px T Γ ops l st=some st'→Eh (fun t=>t∉Jg l) st st'
 | [],st,st',h=>by injection h with h;subst h;exact Ba.Hl.on
 |o::r,st,st',h=>by
  simp only [Px] at h
  split at h
  ·rename_i s hs
   refine Eh.trans ((Yl hs).mono fun t ht=>?_) ((Ab4 r _ _ h).mono fun t ht=>?_)
   ·intro hd;apply ht;simp [Jg,hd]
   ·intro hd;apply ht;simp [Jg,hd]
  ·cases h
theorem Te: ∀(l:List Oper) (o:Oper) (d:Nat),o∈l→o.dst=some d→d∈Jg l
 | [],_,_,h,_=>by cases h
 |p::r,o,d,h,hd=>by
  cases h with
  |head=>simp [Jg,hd]
  |tail _ h=>simp only [Jg,List.mem_append];exact .inr (Te r o d h hd)
theorem Ane {ops:Array Oper} {i:Nat} {o:Oper} (h:ops[i]?=some o):o∈ops.toList:=by
 rw [Array.getElem?_eq_some_iff] at h
 obtain ⟨h1,h2⟩:=h
 rw [←h2]
 simp
theorem Tb {T:Tab} {Γ:Env} {ops:Array Oper} : ∀(l:List Nat) (st st':St),Hs T Γ ops l st=some st'→Eh (fun t=>t∉Jg ops.toList) st st'
 | [],st,st',h=>by injection h with h;subst h;exact Ba.Hl.on
 |i::r,st,st',h=>by
  simp only [Hs] at h
  split at h
  ·cases h
  ·rename_i o ho
   split at h
   ·rename_i s hs
    exact ((Yl hs).mono fun t ht hd=>ht (Te _ _ _ (Ane ho) hd)).trans (Tb r _ _ h)
   ·cases h
theorem Ra {T:Tab} {Γ:Env} {ops:Array Oper} : ∀(l:List Nat) (st st':St),Dh T Γ ops l st=some st'→Eh (fun t=>t∉Jg ops.toList) st st'
 | [],st,st',h=>by injection h with h;subst h;exact Ba.Hl.on
 |i::r,st,st',h=>by
  simp only [Dh] at h
  split at h
  ·cases h
  ·rename_i o ho
   split at h
   ·exact ((Si _ _ _).mono fun t ht hd=>ht (Te _ _ _ (Ane ho) hd)).trans (Ra r _ _ h)
   ·cases h
theorem Xc: ∀(l:List Nat) (st:St),Ba st (Ua l st)
 | [],_=>Ba.Hl
 |a::r,st=>(Ae1 st a).trans (Xc r _)
theorem Ye (live:List Nat): ∀(i:Nat) (l:List AV) (t:Nat),i+t∈live→(Ev live i l).getD t .undef=l.getD t .undef
 |_,[],_,_=>rfl
 |i,v::r,0,h=>by simp [Ev];intro hn;exact absurd h hn
 |i,v::r,t+1,h=>by
  simp only [Ev,List.getD_cons_succ]
  exact Ye live (i+1) r t (by rw [show i+1+t=i+(t+1) by omega];exact h)
theorem Ap6 (l k:Nat) (st:St):Ba st (st.rename l k):=by
 unfold St.rename
 split
 ·split
  ·exact (Ie st (Lu l k) rfl fun _ _ _=>rfl).trans (Ba.Od rfl)
  ·exact Ba.Hl
 ·exact Ba.Hl
theorem Ui: ∀(n t:Nat) (st:St),Ba st (Gf n t st)
 |0,_,_=>Ba.Hl
 |n+1,t,st=>by
  simp only [Gf]
  refine Ba.trans ?_ (Ui n (t+1) _)
  split
  ·split
   ·split
    ·exact Ba.Hl
    ·exact Ap6 _ _ _
   ·exact Ba.Hl
  ·exact Ba.Hl
theorem Ajb (t:Nat) (st:St):Ba st (Rl t st):=by
 unfold Rl
 split
 ·rename_i l off len hg
  split
  ·split
   ·intro k fr τ x hk
    have hne:k≠t:=fun e=>by subst e;rw [hg] at hk;cases hk
    rw [Rd _ _ hne]
    exact Gr _ _ _ k fr τ x hk
   ·exact Ba.Hl
  ·exact Ba.Hl
 ·exact Ba.Hl
theorem Xe (live:List Nat): ∀(n t:Nat) (st:St),Ba st (Hx live n t st)
 |0,_,_=>Ba.Hl
 |n+1,t,st=>by
  simp only [Hx]
  refine Ba.trans ?_ (Xe live n (t+1) _)
  split
  ·exact Ajb _ _
  ·exact Ba.Hl
theorem Abb (live:List Nat) (st:St):Eh (fun t=>t∈live) st (st.clean live):=by
 intro t fr τ x hp hx
 unfold St.clean
 have key: ∀s:St,s.get t= .at (.data fr τ x)→(if live.contains Sm then Gf s.tmps.length 0 s else s).get t= .at (.data fr τ x):=by
  intro s hs
  split
  ·exact Ui _ _ s t fr τ x hs
  ·exact hs
 have key0: ∀s:St,s.get t= .at (.data fr τ x)→(if live.any (fun t=>Nat.ble Oy t) then s.Eb live else s).get t= .at (.data fr τ x):=by
  intro s hs
  split<;>exact hs
 have key1: ∀s:St,s.get t= .at (.data fr τ x)→(if live.any (fun t=>Nat.ble Js t&&Nat.blt t Sm) then Hx live s.tmps.length 0 s else s).get t= .at (.data fr τ x):=by
  intro s hs
  split
  ·exact Xe _ _ _ s t fr τ x hs
  ·exact hs
 refine key0 _ (key _ (key1 _ (Xc _ _ t fr τ x ?_)))
 simp only [St.get] at hx⊢
 rw [Ye live 0 st.tmps t (by simpa using hp)]
 exact hx
def Rf (live:Nat→List Nat):Code→Nat→Bool
 | .seq a b,t=>Rf live a t&&Rf live b t
 | .cond _ a b,t=>Rf live a t&&Rf live b t
 | .block _ c,t=>Rf live c t
 | .loop c,t=>(live (Bw c)).contains t&&Rf live c t
 |_,_=>true
theorem Af1 {a b:Bool} (h:(a&&b)=true):a=true:=by cases a<;>simp_all
theorem Ac3 {a b:Bool} (h:(a&&b)=true):b=true:=by cases a<;>simp_all
theorem Af5 {T:Tab} {Γ:Env} {ops:Array Oper} {draw:Bool} {st st':St} (h:Jp T Γ ops draw st=some st'):Eh (fun t=>t∉writes (.region 0 ops draw)) st st':=by
 unfold Jp at h
 have go: ∀q,(match Dh T Γ ops (Aag q Γ ops) st with
   |some s=>Hs T Γ ops (Ei q Γ ops) s
   |none=>none)=some st'→Eh (fun t=>t∉writes (.region 0 ops draw)) st st':=by
  intro q h
  split at h
  ·rename_i s hs
   exact (Ra _ _ _ hs).trans (Tb _ _ _ h)
  ·cases h
 split at h
 ·split at h
  ·exact go false h
  ·split at h
   ·exact go true h
   ·cases h
 ·exact Ab4 _ _ _ h
theorem Aid {T:Tab} {Γ:Env} {ops:Array Oper} {draw:Bool} {K:St→Prop} (s0:St): ∀(f:Nat) (listed:Array Bool) (st:St),Eh (fun t=>t∉writes (.region 0 ops draw)) s0 st→anyS T Γ ops K f listed st→anyS T Γ ops (fun s=>K s∧Eh (fun t=>t∉writes (.region 0 ops draw)) s0 s) f listed st
 |0,_,_,hk,h=>⟨h.1,h.2,hk⟩
 |f+1,listed,st,hk,h=>⟨h.1,fun i hi=>by
  obtain ⟨o,st',h1,h2,h3⟩:=h.2 i hi
  have h4:Hs T Γ ops [i] st=some st':=by simp only [Hs,h1,h2]
  exact ⟨o,st',h1,h2,Aid s0 f _ _ (hk.trans (Tb _ _ _ h4)) h3⟩⟩
theorem Aof.keeps {T:Tab} {Γ:Env} {ops:Array Oper} {draw:Bool} {st:St} {K:St→Prop} (h:Aof T Γ ops draw st K):Aof T Γ ops draw st (fun s=>K s∧Eh (fun t=>t∉writes (.region 0 ops draw)) st s):=by
 rcases h with ⟨st',h1,h2⟩|⟨h1,h2,st0,h3,h4⟩
 ·exact .inl ⟨st',h1,h2,Af5 h1⟩
 ·exact .inr ⟨h1,h2,st0,h3,Aid st _ _ _ (Ra _ _ _ h3) h4⟩
theorem Awu {T:Tab} {Γ:Env} {live:Nat→List Nat} {c:Code} {st:St} {Q:Fp→St→Prop} (h:Hq T Γ live c st Q): ∀(s0:St) (p:Nat→Prop),Eh p s0 st→(∀t,p t→t∉writes c∧Rf live c t=true)→Hq T Γ live c st (fun e s=>Q e s∧Eh p s0 s):=by
 induction h with
 |skip h=>exact fun s0 p hk _=> .skip ⟨h,hk⟩
 |label h=>exact fun s0 p hk _=> .label ⟨h,hk⟩
 |exit h=>exact fun s0 p hk _=> .exit ⟨h,hk⟩
 |ret h=>exact fun s0 p hk _=> .ret ⟨h,hk⟩
 |region h=>
  exact fun s0 p hk hp=> .region (h.keeps.mono fun s hs=>⟨hs.1,hk.trans (hs.2.mono fun t ht=>(hp t ht).1)⟩)
 |seq Q1 _ _ h3 ih1 ih2=>
  exact fun s0 p hk hp=> .seq _ (ih1 s0 p hk fun t ht=>⟨fun hm=>(hp t ht).1 (by simp [writes,hm]),Af1 (hp t ht).2⟩)
   (fun s hs=>ih2 s hs.1 s0 p hs.2 fun t ht=>⟨fun hm=>(hp t ht).1 (by simp [writes,hm]),Ac3 (hp t ht).2⟩) fun e s he hs=>⟨h3 e s he hs.1,hs.2⟩
 |cond hc _ _ ih1 ih2=>
  exact fun s0 p hk hp=> .cond hc (fun ht=>ih1 ht s0 p hk fun t h=>⟨fun hm=>(hp t h).1 (by simp [writes,hm]),Af1 (hp t h).2⟩)
   fun ht=>ih2 ht s0 p hk fun t h=>⟨fun hm=>(hp t h).1 (by simp [writes,hm]),Ac3 (hp t h).2⟩
 |block Q1 _ h2 ih=>
  exact fun s0 p hk hp=> .block _ (ih s0 p hk fun t ht=>⟨fun hm=>(hp t ht).1 (by simpa [writes] using hm),by simpa [Rf] using (hp t ht).2⟩) fun e s hs=>by
   have h:=h2 e s hs.1
   cases e with
   |normal=>exact ⟨h,hs.2⟩
   |ret=>exact ⟨h,hs.2⟩
   |exit id'=>
    simp only [Amz] at h⊢
    split at h
    ·rename_i hi;rw [if_pos hi];exact ⟨h,hs.2⟩
    ·rename_i hi;rw [if_neg hi];exact ⟨h,hs.2⟩
 |loop Q1 _ _ h3 ih1 ih2=>
  intro s0 p hk hp
  refine .loop _ (ih1 s0 p (hk.trans ((Abb _ _).mono fun t ht=>by simpa using Af1 (hp t ht).2)) fun t ht=>⟨fun hm=>(hp t ht).1 (by simpa [writes] using hm),Ac3 (hp t ht).2⟩)
   (fun s hs=>ih2 s hs.1 s0 p hs.2 hp) fun e s he hs=>⟨h3 e s he hs.1,hs.2⟩
end Go.Proofs.Ytebabhocakedaaa
