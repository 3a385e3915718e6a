/-
  Part 29 of the proof that the statement FnExactSatisfiesGoal holds.
-/
import Derived.Test.YtebabhocakedaaaCSatisfiesGoal27
namespace Go.Proofs.Ytebabhocakedaaa
open Go.RowKit
def Au (st st':St):Prop:= ∀(t:Nat) (fr:Bool) (τ:Ty) (x:τ.den),st.get t= .at (.data fr τ x)→st'.get t= .at (.data fr τ x)
theorem Au.Gx {st:St} :Au st st:=fun _ _ _ _ h=>h
theorem Au.trans {a b c:St} (h1:Au a b) (h2:Au b c):Au a c:=fun t fr τ x h=>h2 t fr τ x (h1 t fr τ x h)
theorem Au.Nn {a b:St} (h:b.tmps=a.tmps):Au a b:=fun t fr τ x hx=>by
 simp only [St.get] at hx⊢
 rw [h]
 exact hx
theorem Qk (st:St) {t d:Nat} (v:AV) (h:t≠d):(st.put (some d) v).get t=st.get t:=by
 simp only [St.put,St.get]
 rw [Px]
 rw [if_neg (by rintro ⟨rfl,_⟩;exact h rfl)]
theorem Hs (st:St) (f:AC→AC) (hu:f .undef= .undef) (hd: ∀fr (τ:Ty) (x:τ.den),f (.data fr τ x)= .data fr τ x):Au st (st.Es f):=by
 intro t fr τ x h
 simp only [St.Es,St.get]
 rw [Nu f hu,show st.tmps.getD t .undef=_ from h]
 simp only [AV.map,hd]
theorem Ad5 (st:St) (l:Nat):Au st (st.forget l):=
 (Hs st (Aq l) rfl fun _ _ _=>rfl).trans (Au.Nn rfl)
theorem Pe (st:St) (l:Nat) (fr:Bool) (e:Ty) (xs:List e.den):Au st (st.freeze l fr e xs):=
 (Hs st (Ar l fr e xs) rfl fun _ _ _=>rfl).trans (Au.Nn rfl)
theorem Wh (st:St) (l:Nat) (v:Ty) (m:ByteArray→Option v.den):Au st (st.Dj l v m):=
 (Hs st (Cn l v m) rfl fun _ _ _=>rfl).trans (Au.Nn rfl)
theorem Gf (st:St) (l:Nat) (b:OB):Au st (st.new l b):=(Ad5 st l).trans (Au.Nn rfl)
theorem Gv (st:St) (l:Nat) (b:OB):Au st (st.Ek l b):=Au.Nn rfl
theorem Tm (b:OB) (key l i:Nat) (st:St):Au st (Ku b key l i st):=by
 unfold Ku
 split
 ·split
  ·dsimp only
   split
   ·exact (Gf _ _ _).trans (Gv _ _ _)
   ·exact Gf _ _ _
  ·exact Au.Gx
 ·exact Au.Gx
theorem Aam (T:Tab) (l:Nat) (t:TypeId) (τ:Ty): ∀(n i:Nat) (st:St),Au st (Vf T l t τ n i st)
 |0,_,_=>Au.Gx
 |n+1,i,st=>by
  simp only [Vf]
  refine Au.trans ?_ (Aam T l t τ n (i+1) _)
  split
  ·exact Tm _ _ _ _ _
  ·exact Au.Gx
theorem Xz (T:Tab) (l off:Nat) (t:TypeId) (τ:Ty): ∀(n i:Nat) (st:St),Au st (Tr T l off t τ n i st)
 |0,_,_=>Au.Gx
 |n+1,i,st=>by
  simp only [Tr]
  refine Au.trans ?_ (Xz T l off t τ n (i+1) _)
  split
  ·exact Tm _ _ _ _ _
  ·exact Au.Gx
theorem Iv: ∀(n:Nat) (st:St) (cs cs':List AC) (st':St),Cs n st cs=some (cs',st')→Au st st'
 |0,st,cs,cs',st',h=>by
  simp only [Cs] at h
  split at h
  ·injection h with h;injection h with h1 h2;subst h2;exact Au.Gx
  ·cases h
 |n+1,st,cs,cs',st',h=>by
  simp only [Cs] at h
  split at h
  ·injection h with h;injection h with h1 h2;subst h2;exact Au.Gx
  ·split at h
   ·exact (Pe _ _ _ _ _).trans (Iv n _ _ _ _ h)
   ·exact (Pe _ _ _ _ _).trans (Iv n _ _ _ _ h)
   ·cases h
  ·split at h
   ·exact (Wh _ _ _ _).trans (Iv n _ _ _ _ h)
   ·cases h
  ·cases h
theorem Jk {st st':St} {v v':AV} (h:settle st v=some (v',st')):Au st st':=by
 unfold settle at h
 split at h
 ·split at h
  ·injection h with h;injection h with h1 h2;subst h2;exact Pe _ _ _ _ _
  ·injection h with h;injection h with h1 h2;subst h2;exact Pe _ _ _ _ _
  ·cases h
 ·split at h
  ·injection h with h;injection h with h1 h2;subst h2;exact Wh _ _ _ _
  ·cases h
 ·split at h
  ·injection h with h;injection h with h1 h2;subst h2;exact Au.Gx
  ·cases h
 ·rename_i cs
  cases hs:Cs cs.length st cs with
  |none=>rw [hs] at h;cases h
  |some p=>rw [hs] at h;injection h with h;injection h with h1 h2;subst h2;exact Iv _ _ _ _ _ hs
 ·injection h with h;injection h with h1 h2;subst h2;exact Au.Gx
 ·cases h
theorem Ag0 {T:Tab} {st st':St} {l:Nat} {t:TypeId} {τ:Ty} {cs:List AC} {v:AV} (h:mkVar T st l t τ cs=some (v,st')):Au st st':=by
 unfold mkVar at h
 split at h
 ·cases h
 dsimp only at h
 split at h
 ·injection h with h;injection h with h1 h2;subst h2;exact (Gf _ _ _).trans (Aam _ _ _ _ _ _ _)
 ·cases h
theorem Ar2 {T:Tab} {st st':St} {t:TypeId} {p v:AV} (h:Ky T st t p v=some st'):Au st st':=by
 unfold Ky at h
 split at h
 ·split at h
  ·split at h
   ·injection h with h
    split at h
    ·subst h;exact (Gv _ _ _).trans (Xz _ _ _ _ _ _ _ _)
    ·subst h;exact Gv _ _ _
   ·cases h
  ·cases h
 ·split at h
  ·rename_i hs
   split at h
   ·split at h
    ·split at h
     ·injection h with h;subst h;exact (Jk hs).trans (Gv _ _ _)
     ·cases h
    ·cases h
   ·cases h
  ·cases h
 ·cases h
theorem Aid (st:St) (l j m:Nat) (e:Ty) (te:TypeId) (rows:List (List e.den)) (xs:List e.den) (kp:Option (Nat×Nat)):Au st (Kf st l j m e te rows xs kp):=
 ((Hs st (An [m] [l]) (by simp [An,AC.refs]) fun fr τ x=>by simp [An,AC.refs]).trans (Au.Nn rfl)).trans (Gv (st.Rj [m] [l]) _ _)
theorem Aie (st:St) (l i m:Nat) (e:Ty) (te tid:TypeId) (rows:List (List e.den)) (kp:Option (Nat×Nat)):Au st (Ib st l i m e te tid rows kp):=
 (Gv st l _).trans (Gf _ m _)
theorem Ant {T:Tab} {st st':St} {t:TypeId} {p v:AV} (h:Hu T st t p v=some st'):Au st st':=by
 unfold Hu at h
 split at h
 rotate_left
 ·exact Ar2 h
 unfold Qj at h
 split at h
 ·split at h
  ·rename_i hs
   split at h
   ·split at h
    ·injection h with h;subst h;exact (Jk hs).trans (Gv _ _ _)
    ·cases h
   ·cases h
  ·cases h
 ·split at h
  ·split at h
   ·split at h
    ·injection h with h;subst h
     exact Aid _ _ _ _ _ _ _ _ _
    ·cases h
   ·cases h
  ·cases h
 ·cases h
theorem Uv {T:Tab} {st st':St} {d:Nat} {t:TypeId} {x y:Operand} {v:AV} (h:Gt T st d t x y=some (v,st')):Au st st':=by
 unfold Gt at h
 split at h
 ·cases h
 ·split at h
  ·rename_i hs
   split at h
   ·cases h
   ·split at h
    ·split at h
     ·injection h with h;injection h with h1 h2;subst h2;exact ((Jk hs).trans (Gf _ _ _)).trans (Gf _ _ _)
     ·cases h
    ·split at h
     ·split at h
      ·split at h
       ·injection h with h;injection h with h1 h2;subst h2;exact (Jk hs).trans (Gf _ _ _)
       ·cases h
      ·cases h
     ·cases h
    ·cases h
  ·cases h
theorem Ak3 {T:Tab} {st st':St} {d:Nat} {t:TypeId} {x y:Operand} {v:AV} (h:Iz T st d t x y=some (v,st')):Au st st':=by
 unfold Iz at h
 split at h
 ·rename_i tx
  split at h
  ·rename_i l i c hg
   split at h
   ·split at h
    ·rename_i e te rows kp tid hl ht hc
     refine Au.trans (b:=(Ib st l i d e te tid rows kp).put (some tx) (.at (.own d 0 (rows.getD i []).length))) ?_ (Uv h)
     intro t' fr τ z hz
     by_cases e':t'=tx
     ·subst e';rw [hg] at hz;cases hz
     ·rw [Qk _ _ e'];exact Aie st l i d e te tid rows kp t' fr τ z hz
    ·cases h
   ·cases h
  ·exact Uv h
 ·exact Uv h
theorem Au5 {T:Tab} {st st':St} {d:Nat} {t:TypeId} {l c v:AV} (h:Qg T st d t l c=some (v,st')):Au st st':=by
 unfold Qg at h
 split at h
 ·split at h
  ·split at h
   ·injection h with h;injection h with h1 h2;subst h2;exact Gf _ _ _
   ·cases h
  ·cases h
 ·cases h
theorem Ag1 (e:Ty): ∀(l:List (Nat×Operand)) (i:Nat) (st st':St) (fr tr:Bool) (ys:List e.den),Ez e i l st=some (fr,tr,ys,st')→Au st st'
 | [],_,_,_,_,_,_,h=>by
  simp only [Ez] at h
  injection h with h;injection h with h1 h2;injection h2 with h2 h3;injection h3 with h3 h4;subst h4;exact Au.Gx
 |(j,x)::r,i,st,st',fr,tr,ys,h=>by
  simp only [Ez] at h
  split at h
  ·split at h
   ·rename_i hs
    split at h
    ·split at h
     ·rename_i hp
      injection h with h;injection h with h1 h2;injection h2 with h2 h3;injection h3 with h3 h4;subst h4
      exact (Jk hs).trans (Ag1 e r _ _ _ _ _ _ hp)
     ·cases h
    ·cases h
   ·cases h
  ·cases h
theorem Aep {T:Tab} {st st':St} {d:Nat} {t:TypeId} {n:Nat} {parts:Array (Nat×Operand)} {v:AV} (h:Fp T st d t n parts=some (v,st')):Au st st':=by
 unfold Fp at h
 split at h
 ·cases h
 ·split at h
  ·cases h
  ·split at h
   ·split at h
    ·rename_i hp
     injection h with h;injection h with h1 h2;subst h2;exact (Ag1 _ _ _ _ _ _ _ _ hp).trans (Gf _ _ _)
    ·cases h
   ·cases h
theorem Ak5 {T:Tab} {st st':St} {d:Nat} {t:TypeId} {v:AV} (h:Kx T st d t=some (v,st')):Au st st':=by
 unfold Kx at h
 split at h
 ·split at h
  ·injection h with h;injection h with h1 h2;subst h2;exact Gf _ _ _
  ·cases h
 ·cases h
theorem Ad6 {T:Tab} {st st':St} {t:TypeId} {m k x:AV} (h:Ds T st t m k x=some st'):Au st st':=by
 unfold Ds at h
 split at h
 ·split at h
  ·split at h
   ·injection h with h;subst h;exact Gv _ _ _
   ·cases h
  ·cases h
 ·cases h
theorem Au4 {T:Tab} {st st':St} {t t':TypeId} {x y v:AV} (h:Xp T st t t' x y=some (v,st')):Au st st':=by
 unfold Xp at h
 split at h
 ·split at h
  ·split at h
   ·split at h
    ·injection h with h;injection h with h1 h2;subst h2;exact Gv _ _ _
    ·cases h
   ·cases h
  ·cases h
 ·cases h
theorem Ar0 {T:Tab} {st st':St} {t:TypeId} {x:AV} (h:evalClear T st t x=some st'):Au st st':=by
 unfold evalClear at h
 split at h
 ·split at h
  ·split at h
   ·split at h
    ·injection h with h;subst h;exact Gv _ _ _
    ·cases h
   ·cases h
  ·cases h
 ·cases h
theorem Ame {st st':St} {c:CK} {ys:c.den} {a:AC} (h:Rd st c ys a=some st'):st'.tmps=st.tmps:=by
 unfold Rd at h
 repeat' split at h
 all_goals first|(cases h;done)|(simp only [Option.some.injEq] at h;subst h;rfl)|skip
theorem Axv {st st':St} {e:Ty} {ys:List e.den} {a:AC} (h:Aut st e ys a=some st'):st'.tmps=st.tmps:=by
 unfold Aut at h
 repeat' split at h
 all_goals first|(cases h;done)|(simp only [Option.some.injEq] at h;subst h;rfl)|skip
theorem Kv: ∀(cs:List (Bool×CK)) (o:IOs.den cs) (as:List AC) (st st':St),Db cs o as st=some st'→st'.tmps=st.tmps
 | [],_,_,st,st',h=>by simp only [Db,Option.some.injEq] at h;subst h;rfl
 |(true, .dat _)::r,o,[],st,st',h=>by simp [Db] at h
 |(true, .row _ _)::r,o,[],st,st',h=>by simp [Db] at h
 |(true, .xrow _ _)::r,o,[],st,st',h=>by simp [Db] at h
 |(true, .part _ _)::r,o,[],st,st',h=>by simp [Db] at h
 |(true, .grid _ _ _)::r,o,[],st,st',h=>by simp [Db] at h
 |(true, .grid _ _ _)::r,o,a::as,st,st',h=>Kv r o as st st' (by simpa only [Db] using h)
 |(false,_)::r,o,[],st,st',h=>by simp [Db] at h
 |(true, .dat _)::r,o,a::as,st,st',h=>Kv r o as st st' (by simpa only [Db] using h)
 |(false,_)::r,o,a::as,st,st',h=>Kv r o as st st' (by simpa only [Db] using h)
 |(true, .row _ _)::r,o,a::as,st,st',h=>by
  simp only [Db] at h
  split at h
  ·rename_i hc;exact (Kv r o.2 as _ st' h).trans (Ame hc)
  ·cases h
 |(true, .part _ _)::r,o,a::as,st,st',h=>by
  simp only [Db] at h
  split at h
  ·rename_i hc;exact (Kv r o.2 as _ st' h).trans (Axv hc)
  ·cases h
 |(true, .xrow _ _)::r,o,a::as,st,st',h=>by
  simp only [Db] at h
  split at h
  ·rename_i hc;exact (Kv r o.2 as _ st' h).trans (Ame hc)
  ·cases h
theorem Anr (st0 st:St) (ls:List Nat) (n:Nat) (hl:st0.tmps.length=st.tmps.length) (h:Au st0 st):Au st0 (Abs st0 st ls n):=by
 unfold Abs
 split
 ·exact h
 ·intro t fr τ x hx
  show (Fe _ st0.tmps st.tmps).getD t .undef=_
  rcases Vt ls st0.tmps st.tmps t hl with ⟨k,i,c,h1,_⟩|h1
  ·rw [show st0.tmps.getD t .undef=_ from hx] at h1;cases h1
  ·rw [h1];exact h t fr τ x hx
theorem Aqz {st st':St} {d:Option Nat} {s:Bm} {args:List AV} {v:AV} (h:Mk st d s args=some (v,st')):Au st st':=by
 unfold Mk at h
 split at h
 ·cases h
 split at h
 ·cases h
 split at h
 ·cases h
 split at h
 ·split at h
  ·cases h
  split at h
  ·cases h
  rename_i st1 hp
  split at h
  ·cases h
  split at h
  ·simp only [Option.some.injEq,Prod.mk.injEq] at h
   obtain ⟨_,rfl⟩:=h
   have hpt:=Kv _ _ _ _ _ hp
   refine Anr _ _ _ _ ?_ ?_
   ·simp only [Abd,Afc]
    rw [←hpt]
    simp only [St.Rj,St.Es,List.length_map]
   ·refine Au.trans (Au.Nn hpt) ?_
    refine Au.trans (Hs st1 (An _ _) (by simp [An,AC.refs]) fun fr τ x=>by simp [An,AC.refs]) (Au.Nn Afc)
  ·cases h
 ·cases h
theorem Si (st:St) (k m:Nat) (b:OB):Au st (Iu st k m b):=
 (Hs st (An [m,k] []) (by simp [An,AC.refs]) fun fr τ x=>by simp [An,AC.refs]).trans (Au.Nn rfl)
theorem Ar1 {T:Tab} {st st':St} {d:Nat} {t:TypeId} {l c v:AV} (h:Ml T st d t l c=some (v,st')):Au st st':=by
 unfold Ml at h
 split at h
 ·exact Au5 h
 ·split at h
  ·split at h
   ·injection h with h;injection h with h1 h2;subst h2;exact Si _ _ _ _
   ·cases h
  ·cases h
theorem Ad4 {T:Tab} {st st':St} {d:Nat} {t:TypeId} {n:Nat} {parts:Array (Nat×Operand)} {v:AV} (h:Dq T st d t n parts=some (v,st')):Au st st':=by
 unfold Dq at h
 split at h
 ·exact Aep h
 ·repeat' split at h
  all_goals first|(cases h;done)|(injection h with h;injection h with h1 h2;subst h2;exact Si _ _ _ _)
theorem Ak4 {T:Tab} {st st':St} {d:Nat} {t:TypeId} {x y:Operand} {v:AV} (h:Ja T st d t x y=some (v,st')):Au st st':=by
 unfold Ja at h
 split at h
 ·exact Ak3 h
 ·repeat' split at h
  all_goals first|(cases h;done)|(injection h with h;injection h with h1 h2;subst h2;exact Si _ _ _ _)
theorem Tl {st st':St} {v:AV} {o:Option AV} (h:o.map (fun v=>(v,st))=some (v,st')):Au st st':=by
 cases o with
 |none=>cases h
 |some u=>injection h with h;injection h with h1 h2;subst h2;exact Au.Gx
theorem Oh: ∀(l:List Operand) {st st1:St},Hm l st=some st1→Au st st1
 | [],st,st1,h=>by
  simp only [Hm,Option.some.injEq] at h
  subst h
  exact Au.Gx
 |x::r,st,st1,h=>by
  simp only [Hm] at h
  cases hs:settle st (st.ev x) with
  |none=>rw [hs] at h;cases h
  |some p=>
   rw [hs] at h
   exact (Jk (v':=p.1) (st':=p.2) hs).trans (Oh r h)
theorem Acu {T:Tab} {Γ:Env} {st st':St} {o:Oper} {v:AV} (h:evalOp T Γ st o=some (v,st')):Au st st':=by
 unfold evalOp at h
 split at h
 ·split at h
  ·split at h
   ·injection h with h;injection h with h1 h2;subst h2;exact Gf _ _ _
   ·cases h
  ·injection h with h;injection h with h1 h2;subst h2;exact Au.Gx
 ·split at h
  ·exact Ag0 h
  ·cases h
 ·split at h
  ·split at h
   ·exact Ag0 h
   ·cases h
  ·cases h
 ·rename_i t p x _
  cases hs:Hu T st t (st.ev p) (st.ev x) with
  |none=>rw [hs] at h;cases h
  |some s=>rw [hs] at h;injection h with h;injection h with h1 h2;subst h2;exact Ant hs
 ·split at h
  ·exact Ar1 h
  ·cases h
 ·split at h
  ·exact Ak5 h
  ·cases h
 ·rename_i t m k x _
  cases hs:Ds T st t (st.ev m) (st.ev k) (st.ev x) with
  |none=>rw [hs] at h;cases h
  |some s=>rw [hs] at h;injection h with h;injection h with h1 h2;subst h2;exact Ad6 hs
 ·rename_i t m k x _
  cases hs:Ds T st t (st.ev m) (st.ev k) (st.ev x) with
  |none=>rw [hs] at h;cases h
  |some s=>rw [hs] at h;injection h with h;injection h with h1 h2;subst h2;exact Ad6 hs
 ·split at h
  ·exact Ad4 h
  ·cases h
 ·exact Tl h
 ·split at h
  ·split at h
   ·exact Ak4 h
   ·cases h
  ·cases h
 ·split at h
  ·exact Au4 h
  ·cases h
 ·split at h
  ·rename_i x t _ _
   cases hs:evalClear T st t (st.ev x) with
   |none=>rw [hs] at h;cases h
   |some s=>rw [hs] at h;injection h with h;injection h with h1 h2;subst h2;exact Ar0 hs
  ·cases h
 ·split at h
  ·exact Aqz h
  ·split at h
   ·rename_i args _ _ _ _ _ _
    cases hs:Hm args.toList st with
    |none=>rw [hs] at h;cases h
    |some st1=>
     rw [hs] at h
     exact (Oh _ hs).trans (Tl h)
   ·exact Tl h
  ·exact Tl h
 ·exact Tl h
def Ir:List Oper→List Nat
 | []=> []
 |o::r=>(match o.dst with|some d=> [d]|none=> [])++Ir r
def writes:Code→List Nat
 | .region _ ops _=>Ir ops.toList
 | .seq a b=>writes a++writes b
 | .cond _ a b=>writes a++writes b
 | .block _ c=>writes c
 | .loop c=>writes c
 |_=> []
def Dz (P:Nat→Prop) (st st':St):Prop:= ∀(t:Nat) (fr:Bool) (τ:Ty) (x:τ.den),P t→st.get t= .at (.data fr τ x)→st'.get t= .at (.data fr τ x)
theorem Dz.trans {P:Nat→Prop} {a b c:St} (h1:Dz P a b) (h2:Dz P b c):Dz P a c:=fun t fr τ x hp h=>h2 t fr τ x hp (h1 t fr τ x hp h)
theorem Dz.mono {P Q:Nat→Prop} {a b:St} (h1:Dz P a b) (h: ∀t,Q t→P t):Dz Q a b:=fun t fr τ x hp hx=>h1 t fr τ x (h t hp) hx
theorem Au.on {P:Nat→Prop} {a b:St} (h:Au a b):Dz P a b:=fun t fr τ x _ hx=>h t fr τ x hx
theorem Rn (st:St) (dst:Option Tmp) (v:AV):Dz (fun t=>dst≠some t) st (st.put dst v):=by
 intro t fr τ x hp hx
 cases dst with
 |none=>exact hx
 |some d=>rw [Qk st v (fun h=>hp (by rw [h]))];exact hx
theorem Xq {T:Tab} {Γ:Env} {ops:Array Oper} {st st':St} {o:Oper} (h:Bu T Γ ops st o=some st'):Dz (fun t=>o.dst≠some t) st st':=by
 have key: ∀s,(evalOp T Γ st o).map (fun r=>r.2.put o.dst r.1)=some s→Dz (fun t=>o.dst≠some t) st s:=by
  intro s hs
  cases he:evalOp T Γ st o with
  |none=>rw [he] at hs;cases hs
  |some p=>rw [he] at hs;injection hs with hs;subst hs;exact (Acu (v:=p.1) (st':=p.2) he).on.trans (Rn _ _ _)
 unfold Bu at h
 split at h
 ·exact key _ h
 ·split at h
  ·split at h
   ·exact key _ h
   ·injection h with h;subst h;exact Rn _ _ _
  ·injection h with h;subst h;exact Rn _ _ _
  ·cases h
theorem Aae {T:Tab} {Γ:Env} {ops:Array Oper} : ∀(l:List Oper) (st st':St),Pb T Γ ops l st=some st'→Dz (fun t=>t∉Ir l) st st'
 | [],st,st',h=>by injection h with h;subst h;exact Au.Gx.on
 |o::r,st,st',h=>by
  simp only [Pb] at h
  split at h
  ·rename_i s hs
   refine Dz.trans ((Xq hs).mono fun t ht=>?_) ((Aae r _ _ h).mono fun t ht=>?_)
   ·intro hd;apply ht;simp [Ir,hd]
   ·intro hd;apply ht;simp [Ir,hd]
  ·cases h
theorem Sl: ∀(l:List Oper) (o:Oper) (d:Nat),o∈l→o.dst=some d→d∈Ir l
 | [],_,_,h,_=>by cases h
 |p::r,o,d,h,hd=>by
  cases h with
  |head=>simp [Ir,hd]
  |tail _ h=>simp only [Ir,List.mem_append];exact .inr (Sl r o d h hd)
theorem Am5 {ops:Array Oper} {i:Nat} {o:Oper} (h:ops[i]?=some o):o∈ops.toList:=by
 rw [Array.getElem?_eq_some_iff] at h
 obtain ⟨h1,h2⟩:=h
 rw [←h2]
 simp
theorem Sh {T:Tab} {Γ:Env} {ops:Array Oper} : ∀(l:List Nat) (st st':St),Hc T Γ ops l st=some st'→Dz (fun t=>t∉Ir ops.toList) st st'
 | [],st,st',h=>by injection h with h;subst h;exact Au.Gx.on
 |i::r,st,st',h=>by
  simp only [Hc] at h
  split at h
  ·cases h
  ·rename_i o ho
   split at h
   ·rename_i s hs
    exact ((Xq hs).mono fun t ht hd=>ht (Sl _ _ _ (Am5 ho) hd)).trans (Sh r _ _ h)
   ·cases h
theorem Qh {T:Tab} {Γ:Env} {ops:Array Oper} : ∀(l:List Nat) (st st':St),Da T Γ ops l st=some st'→Dz (fun t=>t∉Ir ops.toList) st st'
 | [],st,st',h=>by injection h with h;subst h;exact Au.Gx.on
 |i::r,st,st',h=>by
  simp only [Da] at h
  split at h
  ·cases h
  ·rename_i o ho
   split at h
   ·exact ((Rn _ _ _).mono fun t ht hd=>ht (Sl _ _ _ (Am5 ho) hd)).trans (Qh r _ _ h)
   ·cases h
theorem Wg: ∀(l:List Nat) (st:St),Au st (Tf l st)
 | [],_=>Au.Gx
 |a::r,st=>(Ad5 st a).trans (Wg r _)
theorem Xj (live:List Nat): ∀(i:Nat) (l:List AV) (t:Nat),i+t∈live→(Ej live i l).getD t .undef=l.getD t .undef
 |_,[],_,_=>rfl
 |i,v::r,0,h=>by simp [Ej];intro hn;exact absurd h hn
 |i,v::r,t+1,h=>by
  simp only [Ej,List.getD_cons_succ]
  exact Xj live (i+1) r t (by rw [show i+1+t=i+(t+1) by omega];exact h)
theorem Ans (l k:Nat) (st:St):Au st (st.rename l k):=by
 unfold St.rename
 split
 ·split
  ·exact (Hs st (Ld l k) rfl fun _ _ _=>rfl).trans (Au.Nn rfl)
  ·exact Au.Gx
 ·exact Au.Gx
theorem Tn: ∀(n t:Nat) (st:St),Au st (Fv n t st)
 |0,_,_=>Au.Gx
 |n+1,t,st=>by
  simp only [Fv]
  refine Au.trans ?_ (Tn n (t+1) _)
  split
  ·split
   ·split
    ·exact Au.Gx
    ·exact Ans _ _ _
   ·exact Au.Gx
  ·exact Au.Gx
theorem Aif (t:Nat) (st:St):Au st (Qu t st):=by
 unfold Qu
 split
 ·rename_i l off len hg
  split
  ·split
   ·intro k fr τ x hk
    have hne:k≠t:=fun e=>by subst e;rw [hg] at hk;cases hk
    rw [Qk _ _ hne]
    exact Gf _ _ _ k fr τ x hk
   ·exact Au.Gx
  ·exact Au.Gx
 ·exact Au.Gx
theorem Wi (live:List Nat): ∀(n t:Nat) (st:St),Au st (Hl live n t st)
 |0,_,_=>Au.Gx
 |n+1,t,st=>by
  simp only [Hl]
  refine Au.trans ?_ (Wi live n (t+1) _)
  split
  ·exact Aif _ _
  ·exact Au.Gx
theorem Aal (live:List Nat) (st:St):Dz (fun t=>t∈live) st (st.clean live):=by
 intro t fr τ x hp hx
 unfold St.clean
 have key: ∀s:St,s.get t= .at (.data fr τ x)→(if live.contains Rr then Fv s.tmps.length 0 s else s).get t= .at (.data fr τ x):=by
  intro s hs
  split
  ·exact Tn _ _ s t fr τ x hs
  ·exact hs
 have key0: ∀s:St,s.get t= .at (.data fr τ x)→(if live.any (fun t=>Nat.ble Oe t) then s.Dt live else s).get t= .at (.data fr τ x):=by
  intro s hs
  split<;>exact hs
 have key1: ∀s:St,s.get t= .at (.data fr τ x)→(if live.any (fun t=>Nat.ble Je t&&Nat.blt t Rr) then Hl live s.tmps.length 0 s else s).get t= .at (.data fr τ x):=by
  intro s hs
  split
  ·exact Wi _ _ _ s t fr τ x hs
  ·exact hs
 refine key0 _ (key _ (key1 _ (Wg _ _ t fr τ x ?_)))
 simp only [St.get] at hx⊢
 rw [Xj live 0 st.tmps t (by simpa using hp)]
 exact hx
def Qm (live:Nat→List Nat):Code→Nat→Bool
 | .seq a b,t=>Qm live a t&&Qm live b t
 | .cond _ a b,t=>Qm live a t&&Qm live b t
 | .block _ c,t=>Qm live c t
 | .loop c,t=>(live (Bq c)).contains t&&Qm live c t
 |_,_=>true
theorem Ae9 {a b:Bool} (h:(a&&b)=true):a=true:=by cases a<;>simp_all
theorem Abe {a b:Bool} (h:(a&&b)=true):b=true:=by cases a<;>simp_all
theorem Aed {T:Tab} {Γ:Env} {ops:Array Oper} {draw:Bool} {st st':St} (h:Jb T Γ ops draw st=some st'):Dz (fun t=>t∉writes (.region 0 ops draw)) st st':=by
 unfold Jb at h
 have go: ∀q,(match Da T Γ ops (Zt q Γ ops) st with
   |some s=>Hc T Γ ops (Ea q Γ ops) s
   |none=>none)=some st'→Dz (fun t=>t∉writes (.region 0 ops draw)) st st':=by
  intro q h
  split at h
  ·rename_i s hs
   exact (Qh _ _ _ hs).trans (Sh _ _ _ h)
  ·cases h
 split at h
 ·split at h
  ·exact go false h
  ·split at h
   ·exact go true h
   ·cases h
 ·exact Aae _ _ _ h
theorem Ahi {T:Tab} {Γ:Env} {ops:Array Oper} {draw:Bool} {K:St→Prop} (s0:St): ∀(f:Nat) (listed:Array Bool) (st:St),Dz (fun t=>t∉writes (.region 0 ops draw)) s0 st→anyS T Γ ops K f listed st→anyS T Γ ops (fun s=>K s∧Dz (fun t=>t∉writes (.region 0 ops draw)) s0 s) f listed st
 |0,_,_,hk,h=>⟨h.1,h.2,hk⟩
 |f+1,listed,st,hk,h=>⟨h.1,fun i hi=>by
  obtain ⟨o,st',h1,h2,h3⟩:=h.2 i hi
  have h4:Hc T Γ ops [i] st=some st':=by simp only [Hc,h1,h2]
  exact ⟨o,st',h1,h2,Ahi s0 f _ _ (hk.trans (Sh _ _ _ h4)) h3⟩⟩
theorem An0.keeps {T:Tab} {Γ:Env} {ops:Array Oper} {draw:Bool} {st:St} {K:St→Prop} (h:An0 T Γ ops draw st K):An0 T Γ ops draw st (fun s=>K s∧Dz (fun t=>t∉writes (.region 0 ops draw)) st s):=by
 rcases h with ⟨st',h1,h2⟩|⟨h1,h2,st0,h3,h4⟩
 ·exact .inl ⟨st',h1,h2,Aed h1⟩
 ·exact .inr ⟨h1,h2,st0,h3,Ahi st _ _ _ (Qh _ _ _ h3) h4⟩
theorem Av3 {T:Tab} {Γ:Env} {live:Nat→List Nat} {c:Code} {st:St} {Q:Fb→St→Prop} (h:Ha T Γ live c st Q): ∀(s0:St) (p:Nat→Prop),Dz p s0 st→(∀t,p t→t∉writes c∧Qm live c t=true)→Ha T Γ live c st (fun e s=>Q e s∧Dz p s0 s):=by
 induction h with
 |skip h=>exact fun s0 p hk _=> .skip ⟨h,hk⟩
 |label h=>exact fun s0 p hk _=> .label ⟨h,hk⟩
 |exit h=>exact fun s0 p hk _=> .exit ⟨h,hk⟩
 |ret h=>exact fun s0 p hk _=> .ret ⟨h,hk⟩
 |region h=>
  exact fun s0 p hk hp=> .region (h.keeps.mono fun s hs=>⟨hs.1,hk.trans (hs.2.mono fun t ht=>(hp t ht).1)⟩)
 |seq Q1 _ _ h3 ih1 ih2=>
  exact fun s0 p hk hp=> .seq _ (ih1 s0 p hk fun t ht=>⟨fun hm=>(hp t ht).1 (by simp [writes,hm]),Ae9 (hp t ht).2⟩)
   (fun s hs=>ih2 s hs.1 s0 p hs.2 fun t ht=>⟨fun hm=>(hp t ht).1 (by simp [writes,hm]),Abe (hp t ht).2⟩) fun e s he hs=>⟨h3 e s he hs.1,hs.2⟩
 |cond hc _ _ ih1 ih2=>
  exact fun s0 p hk hp=> .cond hc (fun ht=>ih1 ht s0 p hk fun t h=>⟨fun hm=>(hp t h).1 (by simp [writes,hm]),Ae9 (hp t h).2⟩)
   fun ht=>ih2 ht s0 p hk fun t h=>⟨fun hm=>(hp t h).1 (by simp [writes,hm]),Abe (hp t h).2⟩
 |block Q1 _ h2 ih=>
  exact fun s0 p hk hp=> .block _ (ih s0 p hk fun t ht=>⟨fun hm=>(hp t ht).1 (by simpa [writes] using hm),by simpa [Qm] using (hp t ht).2⟩) fun e s hs=>by
   have h:=h2 e s hs.1
   cases e with
   |normal=>exact ⟨h,hs.2⟩
   |ret=>exact ⟨h,hs.2⟩
   |exit id'=>
    simp only [Alr] at h⊢
    split at h
    ·rename_i hi;rw [if_pos hi];exact ⟨h,hs.2⟩
    ·rename_i hi;rw [if_neg hi];exact ⟨h,hs.2⟩
 |loop Q1 _ _ h3 ih1 ih2=>
  intro s0 p hk hp
  refine .loop _ (ih1 s0 p (hk.trans ((Aal _ _).mono fun t ht=>by simpa using Ae9 (hp t ht).2)) fun t ht=>⟨fun hm=>(hp t ht).1 (by simpa [writes] using hm),Abe (hp t ht).2⟩)
   (fun s hs=>ih2 s hs.1 s0 p hs.2 hp) fun e s he hs=>⟨h3 e s he hs.1,hs.2⟩
end Go.Proofs.Ytebabhocakedaaa
