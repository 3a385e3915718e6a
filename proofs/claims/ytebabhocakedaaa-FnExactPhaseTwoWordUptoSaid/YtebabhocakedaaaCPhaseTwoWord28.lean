/-
  Part 29 of the proof that the statement FnExactPhaseTwoWord holds.
-/
import Derived.Test.YtebabhocakedaaaCPhaseTwoWord27
namespace Go.Proofs.Ytebabhocakedaaa
open Go.RowKit
def Bb (st st':St):Prop:= ∀(t:Nat) (fr:Bool) (τ:Ty) (x:τ.den),st.get t= .at (.data fr τ x)→st'.get t= .at (.data fr τ x)
theorem Bb.Hv {st:St} :Bb st st:=fun _ _ _ _ h=>h
theorem Bb.trans {a b c:St} (h1:Bb a b) (h2:Bb b c):Bb a c:=fun t fr τ x h=>h2 t fr τ x (h1 t fr τ x h)
theorem Bb.Ph {a b:St} (h:b.tmps=a.tmps):Bb a b:=fun t fr τ x hx=>by
 simp only [St.get] at hx⊢
 rw [h]
 exact hx
theorem Sk (st:St) {t d:Nat} (v:AV) (h:t≠d):(st.put (some d) v).get t=st.get t:=by
 simp only [St.put,St.get]
 rw [Rr]
 rw [if_neg (by rintro ⟨rfl,_⟩;exact h rfl)]
theorem Ir (st:St) (f:AC→AC) (hu:f .undef= .undef) (hd: ∀fr (τ:Ty) (x:τ.den),f (.data fr τ x)= .data fr τ x):Bb st (st.Fo f):=by
 intro t fr τ x h
 simp only [St.Fo,St.get]
 rw [Pp f hu,show st.tmps.getD t .undef=_ from h]
 simp only [AV.map,hd]
theorem Af9 (st:St) (l:Nat):Bb st (st.forget l):=
 (Ir st (Az l) rfl fun _ _ _=>rfl).trans (Bb.Ph rfl)
theorem Qz (st:St) (l:Nat) (fr:Bool) (e:Ty) (xs:List e.den):Bb st (st.freeze l fr e xs):=
 (Ir st (Ba l fr e xs) rfl fun _ _ _=>rfl).trans (Bb.Ph rfl)
theorem Yq (st:St) (l:Nat) (v:Ty) (m:ByteArray→Option v.den):Bb st (st.Dz l v m):=
 (Ir st (Dd l v m) rfl fun _ _ _=>rfl).trans (Bb.Ph rfl)
theorem Hb (st:St) (l:Nat) (b:OB):Bb st (st.new l b):=(Af9 st l).trans (Bb.Ph rfl)
theorem Ht (st:St) (l:Nat) (b:OB):Bb st (st.Ff l b):=Bb.Ph rfl
theorem Vp (b:OB) (key l i:Nat) (st:St):Bb st (Me b key l i st):=by
 unfold Me
 split
 ·split
  ·dsimp only
   split
   ·exact (Hb _ _ _).trans (Ht _ _ _)
   ·exact Hb _ _ _
  ·exact Bb.Hv
 ·exact Bb.Hv
theorem Acn (T:Tab) (l:Nat) (t:TypeId) (τ:Ty): ∀(n i:Nat) (st:St),Bb st (Xl T l t τ n i st)
 |0,_,_=>Bb.Hv
 |n+1,i,st=>by
  simp only [Xl]
  refine Bb.trans ?_ (Acn T l t τ n (i+1) _)
  split
  ·exact Vp _ _ _ _ _
  ·exact Bb.Hv
theorem Aaa (T:Tab) (l off:Nat) (t:TypeId) (τ:Ty): ∀(n i:Nat) (st:St),Bb st (Vu T l off t τ n i st)
 |0,_,_=>Bb.Hv
 |n+1,i,st=>by
  simp only [Vu]
  refine Bb.trans ?_ (Aaa T l off t τ n (i+1) _)
  split
  ·exact Vp _ _ _ _ _
  ·exact Bb.Hv
theorem Jx: ∀(n:Nat) (st:St) (cs cs':List AC) (st':St),Dh n st cs=some (cs',st')→Bb st st'
 |0,st,cs,cs',st',h=>by
  simp only [Dh] at h
  split at h
  ·injection h with h;injection h with h1 h2;subst h2;exact Bb.Hv
  ·cases h
 |n+1,st,cs,cs',st',h=>by
  simp only [Dh] at h
  split at h
  ·injection h with h;injection h with h1 h2;subst h2;exact Bb.Hv
  ·split at h
   ·exact (Qz _ _ _ _ _).trans (Jx n _ _ _ _ h)
   ·exact (Qz _ _ _ _ _).trans (Jx n _ _ _ _ h)
   ·cases h
  ·split at h
   ·exact (Yq _ _ _ _).trans (Jx n _ _ _ _ h)
   ·cases h
  ·cases h
theorem Ko {st st':St} {v v':AV} (h:settle st v=some (v',st')):Bb st st':=by
 unfold settle at h
 split at h
 ·split at h
  ·injection h with h;injection h with h1 h2;subst h2;exact Qz _ _ _ _ _
  ·injection h with h;injection h with h1 h2;subst h2;exact Qz _ _ _ _ _
  ·cases h
 ·split at h
  ·injection h with h;injection h with h1 h2;subst h2;exact Yq _ _ _ _
  ·cases h
 ·split at h
  ·injection h with h;injection h with h1 h2;subst h2;exact Bb.Hv
  ·cases h
 ·rename_i cs
  cases hs:Dh cs.length st cs with
  |none=>rw [hs] at h;cases h
  |some p=>rw [hs] at h;injection h with h;injection h with h1 h2;subst h2;exact Jx _ _ _ _ _ hs
 ·injection h with h;injection h with h1 h2;subst h2;exact Bb.Hv
 ·cases h
theorem Ai5 {T:Tab} {st st':St} {l:Nat} {t:TypeId} {τ:Ty} {cs:List AC} {v:AV} (h:mkVar T st l t τ cs=some (v,st')):Bb st st':=by
 unfold mkVar at h
 split at h
 ·cases h
 dsimp only at h
 split at h
 ·injection h with h;injection h with h1 h2;subst h2;exact (Hb _ _ _).trans (Acn _ _ _ _ _ _ _)
 ·cases h
theorem Au6 {T:Tab} {st st':St} {t:TypeId} {p v:AV} (h:Mk T st t p v=some st'):Bb st st':=by
 unfold Mk at h
 split at h
 ·split at h
  ·split at h
   ·injection h with h
    split at h
    ·subst h;exact (Ht _ _ _).trans (Aaa _ _ _ _ _ _ _ _)
    ·subst h;exact Ht _ _ _
   ·cases h
  ·cases h
 ·split at h
  ·rename_i hs
   split at h
   ·split at h
    ·split at h
     ·injection h with h;subst h;exact (Ko hs).trans (Ht _ _ _)
     ·cases h
    ·cases h
   ·cases h
  ·cases h
 ·cases h
theorem Akw (st:St) (l j m:Nat) (e:Ty) (te:TypeId) (rows:List (List e.den)) (xs:List e.den) (kp:Option (Nat×Nat)):Bb st (Lk st l j m e te rows xs kp):=
 ((Ir st (Av [m] [l]) (by simp [Av,AC.refs]) fun fr τ x=>by simp [Av,AC.refs]).trans (Bb.Ph rfl)).trans (Ht (st.Tm [m] [l]) _ _)
theorem Akx (st:St) (l i m:Nat) (e:Ty) (te tid:TypeId) (rows:List (List e.den)) (kp:Option (Nat×Nat)):Bb st (Je st l i m e te tid rows kp):=
 (Ht st l _).trans (Hb _ m _)
theorem Aqo {T:Tab} {st st':St} {t:TypeId} {p v:AV} (h:Iw T st t p v=some st'):Bb st st':=by
 unfold Iw at h
 split at h
 rotate_left
 ·exact Au6 h
 unfold Si at h
 split at h
 ·split at h
  ·rename_i hs
   split at h
   ·split at h
    ·injection h with h;subst h;exact (Ko hs).trans (Ht _ _ _)
    ·cases h
   ·cases h
  ·cases h
 ·split at h
  ·split at h
   ·split at h
    ·injection h with h;subst h
     exact Akw _ _ _ _ _ _ _ _ _
    ·cases h
   ·cases h
  ·cases h
 ·cases h
theorem Xc {T:Tab} {st st':St} {d:Nat} {t:TypeId} {x y:Operand} {v:AV} (h:Hr T st d t x y=some (v,st')):Bb st st':=by
 unfold Hr at h
 split at h
 ·cases h
 ·split at h
  ·rename_i hs
   split at h
   ·cases h
   ·split at h
    ·split at h
     ·injection h with h;injection h with h1 h2;subst h2;exact ((Ko hs).trans (Hb _ _ _)).trans (Hb _ _ _)
     ·cases h
    ·split at h
     ·split at h
      ·split at h
       ·injection h with h;injection h with h1 h2;subst h2;exact (Ko hs).trans (Hb _ _ _)
       ·cases h
      ·cases h
     ·cases h
    ·cases h
  ·cases h
theorem Ams {T:Tab} {st st':St} {d:Nat} {t:TypeId} {x y:Operand} {v:AV} (h:Ka T st d t x y=some (v,st')):Bb st st':=by
 unfold Ka at h
 split at h
 ·rename_i tx
  split at h
  ·rename_i l i c hg
   split at h
   ·split at h
    ·rename_i e te rows kp tid hl ht hc
     refine Bb.trans (b:=(Je st l i d e te tid rows kp).put (some tx) (.at (.own d 0 (rows.getD i []).length))) ?_ (Xc h)
     intro t' fr τ z hz
     by_cases e':t'=tx
     ·subst e';rw [hg] at hz;cases hz
     ·rw [Sk _ _ e'];exact Akx st l i d e te tid rows kp t' fr τ z hz
    ·cases h
   ·cases h
  ·exact Xc h
 ·exact Xc h
theorem Axh {T:Tab} {st st':St} {d:Nat} {t:TypeId} {l c v:AV} (h:Se T st d t l c=some (v,st')):Bb st st':=by
 unfold Se at h
 split at h
 ·split at h
  ·split at h
   ·injection h with h;injection h with h1 h2;subst h2;exact Hb _ _ _
   ·cases h
  ·cases h
 ·cases h
theorem Ai6 (e:Ty): ∀(l:List (Nat×Operand)) (i:Nat) (st st':St) (fr tr:Bool) (ys:List e.den),Ga e i l st=some (fr,tr,ys,st')→Bb st st'
 | [],_,_,_,_,_,_,h=>by
  simp only [Ga] at h
  injection h with h;injection h with h1 h2;injection h2 with h2 h3;injection h3 with h3 h4;subst h4;exact Bb.Hv
 |(j,x)::r,i,st,st',fr,tr,ys,h=>by
  simp only [Ga] at h
  split at h
  ·split at h
   ·rename_i hs
    split at h
    ·split at h
     ·rename_i hp
      injection h with h;injection h with h1 h2;injection h2 with h2 h3;injection h3 with h3 h4;subst h4
      exact (Ko hs).trans (Ai6 e r _ _ _ _ _ _ hp)
     ·cases h
    ·cases h
   ·cases h
  ·cases h
theorem Agr {T:Tab} {st st':St} {d:Nat} {t:TypeId} {n:Nat} {parts:Array (Nat×Operand)} {v:AV} (h:Gp T st d t n parts=some (v,st')):Bb st st':=by
 unfold Gp at h
 split at h
 ·cases h
 ·split at h
  ·cases h
  ·split at h
   ·split at h
    ·rename_i hp
     injection h with h;injection h with h1 h2;subst h2;exact (Ai6 _ _ _ _ _ _ _ _ hp).trans (Hb _ _ _)
    ·cases h
   ·cases h
theorem Amu {T:Tab} {st st':St} {d:Nat} {t:TypeId} {v:AV} (h:Mj T st d t=some (v,st')):Bb st st':=by
 unfold Mj at h
 split at h
 ·split at h
  ·injection h with h;injection h with h1 h2;subst h2;exact Hb _ _ _
  ·cases h
 ·cases h
theorem Afa {T:Tab} {st st':St} {t:TypeId} {m k x:AV} (h:Eh T st t m k x=some st'):Bb st st':=by
 unfold Eh at h
 split at h
 ·split at h
  ·split at h
   ·injection h with h;subst h;exact Ht _ _ _
   ·cases h
  ·cases h
 ·cases h
theorem Axg {T:Tab} {st st':St} {t t':TypeId} {x y v:AV} (h:Aa0 T st t t' x y=some (v,st')):Bb st st':=by
 unfold Aa0 at h
 split at h
 ·split at h
  ·split at h
   ·split at h
    ·injection h with h;injection h with h1 h2;subst h2;exact Ht _ _ _
    ·cases h
   ·cases h
  ·cases h
 ·cases h
theorem Au4 {T:Tab} {st st':St} {t:TypeId} {x:AV} (h:evalClear T st t x=some st'):Bb st st':=by
 unfold evalClear at h
 split at h
 ·split at h
  ·split at h
   ·split at h
    ·injection h with h;subst h;exact Ht _ _ _
    ·cases h
   ·cases h
  ·cases h
 ·cases h
theorem Ap7 {st st':St} {c:CK} {ys:c.den} {a:AC} (h:Tf st c ys a=some st'):st'.tmps=st.tmps:=by
 unfold Tf at h
 repeat' split at h
 all_goals first|(cases h;done)|(simp only [Option.some.injEq] at h;subst h;rfl)|skip
theorem Bbk {st st':St} {e:Ty} {ys:List e.den} {a:AC} (h:Ay7 st e ys a=some st'):st'.tmps=st.tmps:=by
 unfold Ay7 at h
 repeat' split at h
 all_goals first|(cases h;done)|(simp only [Option.some.injEq] at h;subst h;rfl)|skip
theorem Mf: ∀(cs:List (Bool×CK)) (o:IOs.den cs) (as:List AC) (st st':St),Dr cs o as st=some st'→st'.tmps=st.tmps
 | [],_,_,st,st',h=>by simp only [Dr,Option.some.injEq] at h;subst h;rfl
 |(true, .dat _)::r,o,[],st,st',h=>by simp [Dr] at h
 |(true, .row _ _)::r,o,[],st,st',h=>by simp [Dr] at h
 |(true, .xrow _ _)::r,o,[],st,st',h=>by simp [Dr] at h
 |(true, .part _ _)::r,o,[],st,st',h=>by simp [Dr] at h
 |(true, .grid _ _ _)::r,o,[],st,st',h=>by simp [Dr] at h
 |(true, .grid _ _ _)::r,o,a::as,st,st',h=>Mf r o as st st' (by simpa only [Dr] using h)
 |(false,_)::r,o,[],st,st',h=>by simp [Dr] at h
 |(true, .dat _)::r,o,a::as,st,st',h=>Mf r o as st st' (by simpa only [Dr] using h)
 |(false,_)::r,o,a::as,st,st',h=>Mf r o as st st' (by simpa only [Dr] using h)
 |(true, .row _ _)::r,o,a::as,st,st',h=>by
  simp only [Dr] at h
  split at h
  ·rename_i hc;exact (Mf r o.2 as _ st' h).trans (Ap7 hc)
  ·cases h
 |(true, .part _ _)::r,o,a::as,st,st',h=>by
  simp only [Dr] at h
  split at h
  ·rename_i hc;exact (Mf r o.2 as _ st' h).trans (Bbk hc)
  ·cases h
 |(true, .xrow _ _)::r,o,a::as,st,st',h=>by
  simp only [Dr] at h
  split at h
  ·rename_i hc;exact (Mf r o.2 as _ st' h).trans (Ap7 hc)
  ·cases h
theorem Aqm (st0 st:St) (ls:List Nat) (n:Nat) (hl:st0.tmps.length=st.tmps.length) (h:Bb st0 st):Bb st0 (Adx st0 st ls n):=by
 unfold Adx
 split
 ·exact h
 ·intro t fr τ x hx
  show (Gd _ st0.tmps st.tmps).getD t .undef=_
  rcases Yd ls st0.tmps st.tmps t hl with ⟨k,i,c,h1,_⟩|h1
  ·rw [show st0.tmps.getD t .undef=_ from hx] at h1;cases h1
  ·rw [h1];exact h t fr τ x hx
theorem Au3 {st st':St} {d:Option Nat} {s:Bl} {args:List AV} {v:AV} (h:Oc st d s args=some (v,st')):Bb st st':=by
 unfold Oc at h
 split at h
 ·cases h
 split at h
 ·cases h
 split at h
 ·cases h
 split at h
 ·split at h
  ·cases h
  split at h
  ·cases h
  rename_i st1 hp
  split at h
  ·cases h
  split at h
  ·simp only [Option.some.injEq,Prod.mk.injEq] at h
   obtain ⟨_,rfl⟩:=h
   have hpt:=Mf _ _ _ _ _ hp
   refine Aqm _ _ _ _ ?_ ?_
   ·simp only [Adg,Ahe]
    rw [←hpt]
    simp only [St.Tm,St.Fo,List.length_map]
   ·refine Bb.trans (Bb.Ph hpt) ?_
    refine Bb.trans (Ir st1 (Av _ _) (by simp [Av,AC.refs]) fun fr τ x=>by simp [Av,AC.refs]) (Bb.Ph Ahe)
  ·cases h
 ·cases h
theorem Ul (st:St) (k m:Nat) (b:OB):Bb st (Jw st k m b):=
 (Ir st (Av [m,k] []) (by simp [Av,AC.refs]) fun fr τ x=>by simp [Av,AC.refs]).trans (Bb.Ph rfl)
theorem Au5 {T:Tab} {st st':St} {d:Nat} {t:TypeId} {l c v:AV} (h:Od T st d t l c=some (v,st')):Bb st st':=by
 unfold Od at h
 split at h
 ·exact Axh h
 ·split at h
  ·split at h
   ·injection h with h;injection h with h1 h2;subst h2;exact Ul _ _ _ _
   ·cases h
  ·cases h
theorem Af8 {T:Tab} {st st':St} {d:Nat} {t:TypeId} {n:Nat} {parts:Array (Nat×Operand)} {v:AV} (h:Ee T st d t n parts=some (v,st')):Bb st st':=by
 unfold Ee at h
 split at h
 ·exact Agr h
 ·repeat' split at h
  all_goals first|(cases h;done)|(injection h with h;injection h with h1 h2;subst h2;exact Ul _ _ _ _)
theorem Amt {T:Tab} {st st':St} {d:Nat} {t:TypeId} {x y:Operand} {v:AV} (h:Kb T st d t x y=some (v,st')):Bb st st':=by
 unfold Kb at h
 split at h
 ·exact Ams h
 ·repeat' split at h
  all_goals first|(cases h;done)|(injection h with h;injection h with h1 h2;subst h2;exact Ul _ _ _ _)
theorem Vo {st st':St} {v:AV} {o:Option AV} (h:o.map (fun v=>(v,st))=some (v,st')):Bb st st':=by
 cases o with
 |none=>cases h
 |some u=>injection h with h;injection h with h1 h2;subst h2;exact Bb.Hv
theorem Qg: ∀(l:List Operand) {st st1:St},Ik l st=some st1→Bb st st1
 | [],st,st1,h=>by
  simp only [Ik,Option.some.injEq] at h
  subst h
  exact Bb.Hv
 |x::r,st,st1,h=>by
  simp only [Ik] at h
  cases hs:settle st (st.ev x) with
  |none=>rw [hs] at h;cases h
  |some p=>
   rw [hs] at h
   exact (Ko (v':=p.1) (st':=p.2) hs).trans (Qg r h)
theorem Aex {T:Tab} {Γ:Env} {st st':St} {o:Oper} {v:AV} (h:evalOp T Γ st o=some (v,st')):Bb st st':=by
 unfold evalOp at h
 split at h
 ·split at h
  ·split at h
   ·injection h with h;injection h with h1 h2;subst h2;exact Hb _ _ _
   ·cases h
  ·injection h with h;injection h with h1 h2;subst h2;exact Bb.Hv
 ·split at h
  ·exact Ai5 h
  ·cases h
 ·split at h
  ·split at h
   ·exact Ai5 h
   ·cases h
  ·cases h
 ·rename_i t p x _
  cases hs:Iw T st t (st.ev p) (st.ev x) with
  |none=>rw [hs] at h;cases h
  |some s=>rw [hs] at h;injection h with h;injection h with h1 h2;subst h2;exact Aqo hs
 ·split at h
  ·exact Au5 h
  ·cases h
 ·split at h
  ·exact Amu h
  ·cases h
 ·rename_i t m k x _
  cases hs:Eh T st t (st.ev m) (st.ev k) (st.ev x) with
  |none=>rw [hs] at h;cases h
  |some s=>rw [hs] at h;injection h with h;injection h with h1 h2;subst h2;exact Afa hs
 ·rename_i t m k x _
  cases hs:Eh T st t (st.ev m) (st.ev k) (st.ev x) with
  |none=>rw [hs] at h;cases h
  |some s=>rw [hs] at h;injection h with h;injection h with h1 h2;subst h2;exact Afa hs
 ·split at h
  ·exact Af8 h
  ·cases h
 ·exact Vo h
 ·split at h
  ·split at h
   ·exact Amt h
   ·cases h
  ·cases h
 ·split at h
  ·exact Axg h
  ·cases h
 ·split at h
  ·rename_i x t _ _
   cases hs:evalClear T st t (st.ev x) with
   |none=>rw [hs] at h;cases h
   |some s=>rw [hs] at h;injection h with h;injection h with h1 h2;subst h2;exact Au4 hs
  ·cases h
 ·split at h
  ·exact Au3 h
  ·split at h
   ·rename_i args _ _ _ _ _ _
    cases hs:Ik args.toList st with
    |none=>rw [hs] at h;cases h
    |some st1=>
     rw [hs] at h
     exact (Qg _ hs).trans (Vo h)
   ·exact Vo h
  ·exact Vo h
 ·exact Vo h
def Jt:List Oper→List Nat
 | []=> []
 |o::r=>(match o.dst with|some d=> [d]|none=> [])++Jt r
def writes:Code→List Nat
 | .region _ ops _=>Jt ops.toList
 | .seq a b=>writes a++writes b
 | .cond _ a b=>writes a++writes b
 | .block _ c=>writes c
 | .loop c=>writes c
 |_=> []
def Ep (P:Nat→Prop) (st st':St):Prop:= ∀(t:Nat) (fr:Bool) (τ:Ty) (x:τ.den),P t→st.get t= .at (.data fr τ x)→st'.get t= .at (.data fr τ x)
theorem Ep.trans {P:Nat→Prop} {a b c:St} (h1:Ep P a b) (h2:Ep P b c):Ep P a c:=fun t fr τ x hp h=>h2 t fr τ x hp (h1 t fr τ x hp h)
theorem Ep.mono {P Q:Nat→Prop} {a b:St} (h1:Ep P a b) (h: ∀t,Q t→P t):Ep Q a b:=fun t fr τ x hp hx=>h1 t fr τ x (h t hp) hx
theorem Bb.on {P:Nat→Prop} {a b:St} (h:Bb a b):Ep P a b:=fun t fr τ x _ hx=>h t fr τ x hx
theorem Tp (st:St) (dst:Option Tmp) (v:AV):Ep (fun t=>dst≠some t) st (st.put dst v):=by
 intro t fr τ x hp hx
 cases dst with
 |none=>exact hx
 |some d=>rw [Sk st v (fun h=>hp (by rw [h]))];exact hx
theorem Aa1 {T:Tab} {Γ:Env} {ops:Array Oper} {st st':St} {o:Oper} (h:Ci T Γ ops st o=some st'):Ep (fun t=>o.dst≠some t) st st':=by
 have key: ∀s,(evalOp T Γ st o).map (fun r=>r.2.put o.dst r.1)=some s→Ep (fun t=>o.dst≠some t) st s:=by
  intro s hs
  cases he:evalOp T Γ st o with
  |none=>rw [he] at hs;cases hs
  |some p=>rw [he] at hs;injection hs with hs;subst hs;exact (Aex (v:=p.1) (st':=p.2) he).on.trans (Tp _ _ _)
 unfold Ci at h
 split at h
 ·exact key _ h
 ·split at h
  ·split at h
   ·exact key _ h
   ·injection h with h;subst h;exact Tp _ _ _
  ·injection h with h;subst h;exact Tp _ _ _
  ·cases h
theorem Acf {T:Tab} {Γ:Env} {ops:Array Oper} : ∀(l:List Oper) (st st':St),Qw T Γ ops l st=some st'→Ep (fun t=>t∉Jt l) st st'
 | [],st,st',h=>by injection h with h;subst h;exact Bb.Hv.on
 |o::r,st,st',h=>by
  simp only [Qw] at h
  split at h
  ·rename_i s hs
   refine Ep.trans ((Aa1 hs).mono fun t ht=>?_) ((Acf r _ _ h).mono fun t ht=>?_)
   ·intro hd;apply ht;simp [Jt,hd]
   ·intro hd;apply ht;simp [Jt,hd]
  ·cases h
theorem Up: ∀(l:List Oper) (o:Oper) (d:Nat),o∈l→o.dst=some d→d∈Jt l
 | [],_,_,h,_=>by cases h
 |p::r,o,d,h,hd=>by
  cases h with
  |head=>simp [Jt,hd]
  |tail _ h=>simp only [Jt,List.mem_append];exact .inr (Up r o d h hd)
theorem Aoy {ops:Array Oper} {i:Nat} {o:Oper} (h:ops[i]?=some o):o∈ops.toList:=by
 rw [Array.getElem?_eq_some_iff] at h
 obtain ⟨h1,h2⟩:=h
 rw [←h2]
 simp
theorem Uj {T:Tab} {Γ:Env} {ops:Array Oper} : ∀(l:List Nat) (st st':St),Ia T Γ ops l st=some st'→Ep (fun t=>t∉Jt ops.toList) st st'
 | [],st,st',h=>by injection h with h;subst h;exact Bb.Hv.on
 |i::r,st,st',h=>by
  simp only [Ia] at h
  split at h
  ·cases h
  ·rename_i o ho
   split at h
   ·rename_i s hs
    exact ((Aa1 hs).mono fun t ht hd=>ht (Up _ _ _ (Aoy ho) hd)).trans (Uj r _ _ h)
   ·cases h
theorem Sf {T:Tab} {Γ:Env} {ops:Array Oper} : ∀(l:List Nat) (st st':St),Dp T Γ ops l st=some st'→Ep (fun t=>t∉Jt ops.toList) st st'
 | [],st,st',h=>by injection h with h;subst h;exact Bb.Hv.on
 |i::r,st,st',h=>by
  simp only [Dp] at h
  split at h
  ·cases h
  ·rename_i o ho
   split at h
   ·exact ((Tp _ _ _).mono fun t ht hd=>ht (Up _ _ _ (Aoy ho) hd)).trans (Sf r _ _ h)
   ·cases h
theorem Yp: ∀(l:List Nat) (st:St),Bb st (Vj l st)
 | [],_=>Bb.Hv
 |a::r,st=>(Af9 st a).trans (Yp r _)
theorem Zs (live:List Nat): ∀(i:Nat) (l:List AV) (t:Nat),i+t∈live→(Fb live i l).getD t .undef=l.getD t .undef
 |_,[],_,_=>rfl
 |i,v::r,0,h=>by simp [Fb];intro hn;exact absurd h hn
 |i,v::r,t+1,h=>by
  simp only [Fb,List.getD_cons_succ]
  exact Zs live (i+1) r t (by rw [show i+1+t=i+(t+1) by omega];exact h)
theorem Aqn (l k:Nat) (st:St):Bb st (st.rename l k):=by
 unfold St.rename
 split
 ·split
  ·exact (Ir st (Mp l k) rfl fun _ _ _=>rfl).trans (Bb.Ph rfl)
  ·exact Bb.Hv
 ·exact Bb.Hv
theorem Vq: ∀(n t:Nat) (st:St),Bb st (Gs n t st)
 |0,_,_=>Bb.Hv
 |n+1,t,st=>by
  simp only [Gs]
  refine Bb.trans ?_ (Vq n (t+1) _)
  split
  ·split
   ·split
    ·exact Bb.Hv
    ·exact Aqn _ _ _
   ·exact Bb.Hv
  ·exact Bb.Hv
theorem Aky (t:Nat) (st:St):Bb st (Sw t st):=by
 unfold Sw
 split
 ·rename_i l off len hg
  split
  ·split
   ·intro k fr τ x hk
    have hne:k≠t:=fun e=>by subst e;rw [hg] at hk;cases hk
    rw [Sk _ _ hne]
    exact Hb _ _ _ k fr τ x hk
   ·exact Bb.Hv
  ·exact Bb.Hv
 ·exact Bb.Hv
theorem Yr (live:List Nat): ∀(n t:Nat) (st:St),Bb st (Ij live n t st)
 |0,_,_=>Bb.Hv
 |n+1,t,st=>by
  simp only [Ij]
  refine Bb.trans ?_ (Yr live n (t+1) _)
  split
  ·exact Aky _ _
  ·exact Bb.Hv
theorem Acm (live:List Nat) (st:St):Ep (fun t=>t∈live) st (st.clean live):=by
 intro t fr τ x hp hx
 unfold St.clean
 have key: ∀s:St,s.get t= .at (.data fr τ x)→(if live.contains Tv then Gs s.tmps.length 0 s else s).get t= .at (.data fr τ x):=by
  intro s hs
  split
  ·exact Vq _ _ s t fr τ x hs
  ·exact hs
 have key0: ∀s:St,s.get t= .at (.data fr τ x)→(if live.any (fun t=>Nat.ble Qd t) then s.Ei live else s).get t= .at (.data fr τ x):=by
  intro s hs
  split<;>exact hs
 have key1: ∀s:St,s.get t= .at (.data fr τ x)→(if live.any (fun t=>Nat.ble Kh t&&Nat.blt t Tv) then Ij live s.tmps.length 0 s else s).get t= .at (.data fr τ x):=by
  intro s hs
  split
  ·exact Yr _ _ _ s t fr τ x hs
  ·exact hs
 refine key0 _ (key _ (key1 _ (Yp _ _ t fr τ x ?_)))
 simp only [St.get] at hx⊢
 rw [Zs live 0 st.tmps t (by simpa using hp)]
 exact hx
def Sn (live:Nat→List Nat):Code→Nat→Bool
 | .seq a b,t=>Sn live a t&&Sn live b t
 | .cond _ a b,t=>Sn live a t&&Sn live b t
 | .block _ c,t=>Sn live c t
 | .loop c,t=>(live (Ce c)).contains t&&Sn live c t
 |_,_=>true
theorem Aga {a b:Bool} (h:(a&&b)=true):a=true:=by cases a<;>simp_all
theorem Adh {a b:Bool} (h:(a&&b)=true):b=true:=by cases a<;>simp_all
theorem Agg {T:Tab} {Γ:Env} {ops:Array Oper} {draw:Bool} {st st':St} (h:Kc T Γ ops draw st=some st'):Ep (fun t=>t∉writes (.region 0 ops draw)) st st':=by
 unfold Kc at h
 have go: ∀q,(match Dp T Γ ops (Abq q Γ ops) st with
   |some s=>Ia T Γ ops (Er q Γ ops) s
   |none=>none)=some st'→Ep (fun t=>t∉writes (.region 0 ops draw)) st st':=by
  intro q h
  split at h
  ·rename_i s hs
   exact (Sf _ _ _ hs).trans (Uj _ _ _ h)
  ·cases h
 split at h
 ·split at h
  ·exact go false h
  ·split at h
   ·exact go true h
   ·cases h
 ·exact Acf _ _ _ h
theorem Ajz {T:Tab} {Γ:Env} {ops:Array Oper} {draw:Bool} {K:St→Prop} (s0:St): ∀(f:Nat) (listed:Array Bool) (st:St),Ep (fun t=>t∉writes (.region 0 ops draw)) s0 st→anyS T Γ ops K f listed st→anyS T Γ ops (fun s=>K s∧Ep (fun t=>t∉writes (.region 0 ops draw)) s0 s) f listed st
 |0,_,_,hk,h=>⟨h.1,h.2,hk⟩
 |f+1,listed,st,hk,h=>⟨h.1,fun i hi=>by
  obtain ⟨o,st',h1,h2,h3⟩:=h.2 i hi
  have h4:Ia T Γ ops [i] st=some st':=by simp only [Ia,h1,h2]
  exact ⟨o,st',h1,h2,Ajz s0 f _ _ (hk.trans (Uj _ _ _ h4)) h3⟩⟩
theorem Apv.keeps {T:Tab} {Γ:Env} {ops:Array Oper} {draw:Bool} {st:St} {K:St→Prop} (h:Apv T Γ ops draw st K):Apv T Γ ops draw st (fun s=>K s∧Ep (fun t=>t∉writes (.region 0 ops draw)) st s):=by
 rcases h with ⟨st',h1,h2⟩|⟨h1,h2,st0,h3,h4⟩
 ·exact .inl ⟨st',h1,h2,Agg h1⟩
 ·exact .inr ⟨h1,h2,st0,h3,Ajz st _ _ _ (Sf _ _ _ h3) h4⟩
theorem Ayh {T:Tab} {Γ:Env} {live:Nat→List Nat} {c:Code} {st:St} {Q:Gc→St→Prop} (h:Hx T Γ live c st Q): ∀(s0:St) (p:Nat→Prop),Ep p s0 st→(∀t,p t→t∉writes c∧Sn live c t=true)→Hx T Γ live c st (fun e s=>Q e s∧Ep p s0 s):=by
 induction h with
 |skip h=>exact fun s0 p hk _=> .skip ⟨h,hk⟩
 |label h=>exact fun s0 p hk _=> .label ⟨h,hk⟩
 |exit h=>exact fun s0 p hk _=> .exit ⟨h,hk⟩
 |ret h=>exact fun s0 p hk _=> .ret ⟨h,hk⟩
 |region h=>
  exact fun s0 p hk hp=> .region (h.keeps.mono fun s hs=>⟨hs.1,hk.trans (hs.2.mono fun t ht=>(hp t ht).1)⟩)
 |seq Q1 _ _ h3 ih1 ih2=>
  exact fun s0 p hk hp=> .seq _ (ih1 s0 p hk fun t ht=>⟨fun hm=>(hp t ht).1 (by simp [writes,hm]),Aga (hp t ht).2⟩)
   (fun s hs=>ih2 s hs.1 s0 p hs.2 fun t ht=>⟨fun hm=>(hp t ht).1 (by simp [writes,hm]),Adh (hp t ht).2⟩) fun e s he hs=>⟨h3 e s he hs.1,hs.2⟩
 |cond hc _ _ ih1 ih2=>
  exact fun s0 p hk hp=> .cond hc (fun ht=>ih1 ht s0 p hk fun t h=>⟨fun hm=>(hp t h).1 (by simp [writes,hm]),Aga (hp t h).2⟩)
   fun ht=>ih2 ht s0 p hk fun t h=>⟨fun hm=>(hp t h).1 (by simp [writes,hm]),Adh (hp t h).2⟩
 |block Q1 _ h2 ih=>
  exact fun s0 p hk hp=> .block _ (ih s0 p hk fun t ht=>⟨fun hm=>(hp t ht).1 (by simpa [writes] using hm),by simpa [Sn] using (hp t ht).2⟩) fun e s hs=>by
   have h:=h2 e s hs.1
   cases e with
   |normal=>exact ⟨h,hs.2⟩
   |ret=>exact ⟨h,hs.2⟩
   |exit id'=>
    simp only [Aoj] at h⊢
    split at h
    ·rename_i hi;rw [if_pos hi];exact ⟨h,hs.2⟩
    ·rename_i hi;rw [if_neg hi];exact ⟨h,hs.2⟩
 |loop Q1 _ _ h3 ih1 ih2=>
  intro s0 p hk hp
  refine .loop _ (ih1 s0 p (hk.trans ((Acm _ _).mono fun t ht=>by simpa using Aga (hp t ht).2)) fun t ht=>⟨fun hm=>(hp t ht).1 (by simpa [writes] using hm),Adh (hp t ht).2⟩)
   (fun s hs=>ih2 s hs.1 s0 p hs.2 hp) fun e s he hs=>⟨h3 e s he hs.1,hs.2⟩
end Go.Proofs.Ytebabhocakedaaa
