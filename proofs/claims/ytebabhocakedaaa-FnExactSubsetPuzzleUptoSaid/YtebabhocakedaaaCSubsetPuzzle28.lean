/-
  Part 29 of the proof that the statement FnExactSubsetPuzzle holds.
-/
import Derived.Test.YtebabhocakedaaaCSubsetPuzzle27
namespace Go.Proofs.Ytebabhocakedaaa
open Go.RowKit
def Aw (st st':St):Prop:= ∀(t:Nat) (fr:Bool) (τ:Ty) (x:τ.den),st.get t= .at (.data fr τ x)→st'.get t= .at (.data fr τ x)
theorem Aw.Gy {st:St} :Aw st st:=fun _ _ _ _ h=>h
theorem Aw.trans {a b c:St} (h1:Aw a b) (h2:Aw b c):Aw a c:=fun t fr τ x h=>h2 t fr τ x (h1 t fr τ x h)
theorem Aw.Nw {a b:St} (h:b.tmps=a.tmps):Aw a b:=fun t fr τ x hx=>by
 simp only [St.get] at hx⊢
 rw [h]
 exact hx
theorem Qv (st:St) {t d:Nat} (v:AV) (h:t≠d):(st.put (some d) v).get t=st.get t:=by
 simp only [St.put,St.get]
 rw [Qi]
 rw [if_neg (by rintro ⟨rfl,_⟩;exact h rfl)]
theorem Hs (st:St) (f:AC→AC) (hu:f .undef= .undef) (hd: ∀fr (τ:Ty) (x:τ.den),f (.data fr τ x)= .data fr τ x):Aw st (st.Ev f):=by
 intro t fr τ x h
 simp only [St.Ev,St.get]
 rw [Oc f hu,show st.tmps.getD t .undef=_ from h]
 simp only [AV.map,hd]
theorem Adx (st:St) (l:Nat):Aw st (st.forget l):=
 (Hs st (Au l) rfl fun _ _ _=>rfl).trans (Aw.Nw rfl)
theorem Pr (st:St) (l:Nat) (fr:Bool) (e:Ty) (xs:List e.den):Aw st (st.freeze l fr e xs):=
 (Hs st (Av l fr e xs) rfl fun _ _ _=>rfl).trans (Aw.Nw rfl)
theorem Xb (st:St) (l:Nat) (v:Ty) (m:ByteArray→Option v.den):Aw st (st.Dp l v m):=
 (Hs st (Ct l v m) rfl fun _ _ _=>rfl).trans (Aw.Nw rfl)
theorem Gi (st:St) (l:Nat) (b:OB):Aw st (st.new l b):=(Adx st l).trans (Aw.Nw rfl)
theorem Gw (st:St) (l:Nat) (b:OB):Aw st (st.En l b):=Aw.Nw rfl
theorem Ud (b:OB) (key l i:Nat) (st:St):Aw st (Lk b key l i st):=by
 unfold Lk
 split
 ·split
  ·dsimp only
   split
   ·exact (Gi _ _ _).trans (Gw _ _ _)
   ·exact Gi _ _ _
  ·exact Aw.Gy
 ·exact Aw.Gy
theorem Abd (T:Tab) (l:Nat) (t:TypeId) (τ:Ty): ∀(n i:Nat) (st:St),Aw st (Wb T l t τ n i st)
 |0,_,_=>Aw.Gy
 |n+1,i,st=>by
  simp only [Wb]
  refine Aw.trans ?_ (Abd T l t τ n (i+1) _)
  split
  ·exact Ud _ _ _ _ _
  ·exact Aw.Gy
theorem Yt (T:Tab) (l off:Nat) (t:TypeId) (τ:Ty): ∀(n i:Nat) (st:St),Aw st (Ui T l off t τ n i st)
 |0,_,_=>Aw.Gy
 |n+1,i,st=>by
  simp only [Ui]
  refine Aw.trans ?_ (Yt T l off t τ n (i+1) _)
  split
  ·exact Ud _ _ _ _ _
  ·exact Aw.Gy
theorem Jh: ∀(n:Nat) (st:St) (cs cs':List AC) (st':St),Cy n st cs=some (cs',st')→Aw st st'
 |0,st,cs,cs',st',h=>by
  simp only [Cy] at h
  split at h
  ·injection h with h;injection h with h1 h2;subst h2;exact Aw.Gy
  ·cases h
 |n+1,st,cs,cs',st',h=>by
  simp only [Cy] at h
  split at h
  ·injection h with h;injection h with h1 h2;subst h2;exact Aw.Gy
  ·split at h
   ·exact (Pr _ _ _ _ _).trans (Jh n _ _ _ _ h)
   ·exact (Pr _ _ _ _ _).trans (Jh n _ _ _ _ h)
   ·cases h
  ·split at h
   ·exact (Xb _ _ _ _).trans (Jh n _ _ _ _ h)
   ·cases h
  ·cases h
theorem Jw {st st':St} {v v':AV} (h:settle st v=some (v',st')):Aw st st':=by
 unfold settle at h
 split at h
 ·split at h
  ·injection h with h;injection h with h1 h2;subst h2;exact Pr _ _ _ _ _
  ·injection h with h;injection h with h1 h2;subst h2;exact Pr _ _ _ _ _
  ·cases h
 ·split at h
  ·injection h with h;injection h with h1 h2;subst h2;exact Xb _ _ _ _
  ·cases h
 ·split at h
  ·injection h with h;injection h with h1 h2;subst h2;exact Aw.Gy
  ·cases h
 ·rename_i cs
  cases hs:Cy cs.length st cs with
  |none=>rw [hs] at h;cases h
  |some p=>rw [hs] at h;injection h with h;injection h with h1 h2;subst h2;exact Jh _ _ _ _ _ hs
 ·injection h with h;injection h with h1 h2;subst h2;exact Aw.Gy
 ·cases h
theorem Ags {T:Tab} {st st':St} {l:Nat} {t:TypeId} {τ:Ty} {cs:List AC} {v:AV} (h:mkVar T st l t τ cs=some (v,st')):Aw st st':=by
 unfold mkVar at h
 split at h
 ·cases h
 dsimp only at h
 split at h
 ·injection h with h;injection h with h1 h2;subst h2;exact (Gi _ _ _).trans (Abd _ _ _ _ _ _ _)
 ·cases h
theorem Asc {T:Tab} {st st':St} {t:TypeId} {p v:AV} (h:Lo T st t p v=some st'):Aw st st':=by
 unfold Lo at h
 split at h
 ·split at h
  ·split at h
   ·injection h with h
    split at h
    ·subst h;exact (Gw _ _ _).trans (Yt _ _ _ _ _ _ _ _)
    ·subst h;exact Gw _ _ _
   ·cases h
  ·cases h
 ·split at h
  ·rename_i hs
   split at h
   ·split at h
    ·split at h
     ·injection h with h;subst h;exact (Jw hs).trans (Gw _ _ _)
     ·cases h
    ·cases h
   ·cases h
  ·cases h
 ·cases h
theorem Ajb (st:St) (l j m:Nat) (e:Ty) (te:TypeId) (rows:List (List e.den)) (xs:List e.den) (kp:Option (Nat×Nat)):Aw st (Ko st l j m e te rows xs kp):=
 ((Hs st (Aq [m] [l]) (by simp [Aq,AC.refs]) fun fr τ x=>by simp [Aq,AC.refs]).trans (Aw.Nw rfl)).trans (Gw (st.Rz [m] [l]) _ _)
theorem Ajc (st:St) (l i m:Nat) (e:Ty) (te tid:TypeId) (rows:List (List e.den)) (kp:Option (Nat×Nat)):Aw st (Il st l i m e te tid rows kp):=
 (Gw st l _).trans (Gi _ m _)
theorem Aop {T:Tab} {st st':St} {t:TypeId} {p v:AV} (h:Hw T st t p v=some st'):Aw st st':=by
 unfold Hw at h
 split at h
 rotate_left
 ·exact Asc h
 unfold Qu at h
 split at h
 ·split at h
  ·rename_i hs
   split at h
   ·split at h
    ·injection h with h;subst h;exact (Jw hs).trans (Gw _ _ _)
    ·cases h
   ·cases h
  ·cases h
 ·split at h
  ·split at h
   ·split at h
    ·injection h with h;subst h
     exact Ajb _ _ _ _ _ _ _ _ _
    ·cases h
   ·cases h
  ·cases h
 ·cases h
theorem Vr {T:Tab} {st st':St} {d:Nat} {t:TypeId} {x y:Operand} {v:AV} (h:Gu T st d t x y=some (v,st')):Aw st st':=by
 unfold Gu at h
 split at h
 ·cases h
 ·split at h
  ·rename_i hs
   split at h
   ·cases h
   ·split at h
    ·split at h
     ·injection h with h;injection h with h1 h2;subst h2;exact ((Jw hs).trans (Gi _ _ _)).trans (Gi _ _ _)
     ·cases h
    ·split at h
     ·split at h
      ·split at h
       ·injection h with h;injection h with h1 h2;subst h2;exact (Jw hs).trans (Gi _ _ _)
       ·cases h
      ·cases h
     ·cases h
    ·cases h
  ·cases h
theorem Al3 {T:Tab} {st st':St} {d:Nat} {t:TypeId} {x y:Operand} {v:AV} (h:Jk T st d t x y=some (v,st')):Aw st st':=by
 unfold Jk at h
 split at h
 ·rename_i tx
  split at h
  ·rename_i l i c hg
   split at h
   ·split at h
    ·rename_i e te rows kp tid hl ht hc
     refine Aw.trans (b:=(Il st l i d e te tid rows kp).put (some tx) (.at (.own d 0 (rows.getD i []).length))) ?_ (Vr h)
     intro t' fr τ z hz
     by_cases e':t'=tx
     ·subst e';rw [hg] at hz;cases hz
     ·rw [Qv _ _ e'];exact Ajc st l i d e te tid rows kp t' fr τ z hz
    ·cases h
   ·cases h
  ·exact Vr h
 ·exact Vr h
theorem Avh {T:Tab} {st st':St} {d:Nat} {t:TypeId} {l c v:AV} (h:Qr T st d t l c=some (v,st')):Aw st st':=by
 unfold Qr at h
 split at h
 ·split at h
  ·split at h
   ·injection h with h;injection h with h1 h2;subst h2;exact Gi _ _ _
   ·cases h
  ·cases h
 ·cases h
theorem Agt (e:Ty): ∀(l:List (Nat×Operand)) (i:Nat) (st st':St) (fr tr:Bool) (ys:List e.den),Fb e i l st=some (fr,tr,ys,st')→Aw st st'
 | [],_,_,_,_,_,_,h=>by
  simp only [Fb] at h
  injection h with h;injection h with h1 h2;injection h2 with h2 h3;injection h3 with h3 h4;subst h4;exact Aw.Gy
 |(j,x)::r,i,st,st',fr,tr,ys,h=>by
  simp only [Fb] at h
  split at h
  ·split at h
   ·rename_i hs
    split at h
    ·split at h
     ·rename_i hp
      injection h with h;injection h with h1 h2;injection h2 with h2 h3;injection h3 with h3 h4;subst h4
      exact (Jw hs).trans (Agt e r _ _ _ _ _ _ hp)
     ·cases h
    ·cases h
   ·cases h
  ·cases h
theorem Afb {T:Tab} {st st':St} {d:Nat} {t:TypeId} {n:Nat} {parts:Array (Nat×Operand)} {v:AV} (h:Fv T st d t n parts=some (v,st')):Aw st st':=by
 unfold Fv at h
 split at h
 ·cases h
 ·split at h
  ·cases h
  ·split at h
   ·split at h
    ·rename_i hp
     injection h with h;injection h with h1 h2;subst h2;exact (Agt _ _ _ _ _ _ _ _ hp).trans (Gi _ _ _)
    ·cases h
   ·cases h
theorem Al5 {T:Tab} {st st':St} {d:Nat} {t:TypeId} {v:AV} (h:Ln T st d t=some (v,st')):Aw st st':=by
 unfold Ln at h
 split at h
 ·split at h
  ·injection h with h;injection h with h1 h2;subst h2;exact Gi _ _ _
  ·cases h
 ·cases h
theorem Ady {T:Tab} {st st':St} {t:TypeId} {m k x:AV} (h:Dw T st t m k x=some st'):Aw st st':=by
 unfold Dw at h
 split at h
 ·split at h
  ·split at h
   ·injection h with h;subst h;exact Gw _ _ _
   ·cases h
  ·cases h
 ·cases h
theorem Avg {T:Tab} {st st':St} {t t':TypeId} {x y v:AV} (h:Yj T st t t' x y=some (v,st')):Aw st st':=by
 unfold Yj at h
 split at h
 ·split at h
  ·split at h
   ·split at h
    ·injection h with h;injection h with h1 h2;subst h2;exact Gw _ _ _
    ·cases h
   ·cases h
  ·cases h
 ·cases h
theorem Asa {T:Tab} {st st':St} {t:TypeId} {x:AV} (h:evalClear T st t x=some st'):Aw st st':=by
 unfold evalClear at h
 split at h
 ·split at h
  ·split at h
   ·split at h
    ·injection h with h;subst h;exact Gw _ _ _
    ·cases h
   ·cases h
  ·cases h
 ·cases h
theorem Ana {st st':St} {c:CK} {ys:c.den} {a:AC} (h:Rq st c ys a=some st'):st'.tmps=st.tmps:=by
 unfold Rq at h
 repeat' split at h
 all_goals first|(cases h;done)|(simp only [Option.some.injEq] at h;subst h;rfl)|skip
theorem Az7 {st st':St} {e:Ty} {ys:List e.den} {a:AC} (h:Aw5 st e ys a=some st'):st'.tmps=st.tmps:=by
 unfold Aw5 at h
 repeat' split at h
 all_goals first|(cases h;done)|(simp only [Option.some.injEq] at h;subst h;rfl)|skip
theorem Ll: ∀(cs:List (Bool×CK)) (o:IOs.den cs) (as:List AC) (st st':St),Dg cs o as st=some st'→st'.tmps=st.tmps
 | [],_,_,st,st',h=>by simp only [Dg,Option.some.injEq] at h;subst h;rfl
 |(true, .dat _)::r,o,[],st,st',h=>by simp [Dg] at h
 |(true, .row _ _)::r,o,[],st,st',h=>by simp [Dg] at h
 |(true, .xrow _ _)::r,o,[],st,st',h=>by simp [Dg] at h
 |(true, .part _ _)::r,o,[],st,st',h=>by simp [Dg] at h
 |(true, .grid _ _ _)::r,o,[],st,st',h=>by simp [Dg] at h
 |(true, .grid _ _ _)::r,o,a::as,st,st',h=>Ll r o as st st' (by simpa only [Dg] using h)
 |(false,_)::r,o,[],st,st',h=>by simp [Dg] at h
 |(true, .dat _)::r,o,a::as,st,st',h=>Ll r o as st st' (by simpa only [Dg] using h)
 |(false,_)::r,o,a::as,st,st',h=>Ll r o as st st' (by simpa only [Dg] using h)
 |(true, .row _ _)::r,o,a::as,st,st',h=>by
  simp only [Dg] at h
  split at h
  ·rename_i hc;exact (Ll r o.2 as _ st' h).trans (Ana hc)
  ·cases h
 |(true, .part _ _)::r,o,a::as,st,st',h=>by
  simp only [Dg] at h
  split at h
  ·rename_i hc;exact (Ll r o.2 as _ st' h).trans (Az7 hc)
  ·cases h
 |(true, .xrow _ _)::r,o,a::as,st,st',h=>by
  simp only [Dg] at h
  split at h
  ·rename_i hc;exact (Ll r o.2 as _ st' h).trans (Ana hc)
  ·cases h
theorem Aon (st0 st:St) (ls:List Nat) (n:Nat) (hl:st0.tmps.length=st.tmps.length) (h:Aw st0 st):Aw st0 (Acj st0 st ls n):=by
 unfold Acj
 split
 ·exact h
 ·intro t fr τ x hx
  show (Fh _ st0.tmps st.tmps).getD t .undef=_
  rcases Wo ls st0.tmps st.tmps t hl with ⟨k,i,c,h1,_⟩|h1
  ·rw [show st0.tmps.getD t .undef=_ from hx] at h1;cases h1
  ·rw [h1];exact h t fr τ x hx
theorem As9 {st st':St} {d:Option Nat} {s:Be} {args:List AV} {v:AV} (h:Na st d s args=some (v,st')):Aw st st':=by
 unfold Na at h
 split at h
 ·cases h
 split at h
 ·cases h
 split at h
 ·cases h
 split at h
 ·split at h
  ·cases h
  split at h
  ·cases h
  rename_i st1 hp
  split at h
  ·cases h
  split at h
  ·simp only [Option.some.injEq,Prod.mk.injEq] at h
   obtain ⟨_,rfl⟩:=h
   have hpt:=Ll _ _ _ _ _ hp
   refine Aon _ _ _ _ ?_ ?_
   ·simp only [Ac3,Afz]
    rw [←hpt]
    simp only [St.Rz,St.Ev,List.length_map]
   ·refine Aw.trans (Aw.Nw hpt) ?_
    refine Aw.trans (Hs st1 (Aq _ _) (by simp [Aq,AC.refs]) fun fr τ x=>by simp [Aq,AC.refs]) (Aw.Nw Afz)
  ·cases h
 ·cases h
theorem Sz (st:St) (k m:Nat) (b:OB):Aw st (Jg st k m b):=
 (Hs st (Aq [m,k] []) (by simp [Aq,AC.refs]) fun fr τ x=>by simp [Aq,AC.refs]).trans (Aw.Nw rfl)
theorem Asb {T:Tab} {st st':St} {d:Nat} {t:TypeId} {l c v:AV} (h:Nb T st d t l c=some (v,st')):Aw st st':=by
 unfold Nb at h
 split at h
 ·exact Avh h
 ·split at h
  ·split at h
   ·injection h with h;injection h with h1 h2;subst h2;exact Sz _ _ _ _
   ·cases h
  ·cases h
theorem Adw {T:Tab} {st st':St} {d:Nat} {t:TypeId} {n:Nat} {parts:Array (Nat×Operand)} {v:AV} (h:Dt T st d t n parts=some (v,st')):Aw st st':=by
 unfold Dt at h
 split at h
 ·exact Afb h
 ·repeat' split at h
  all_goals first|(cases h;done)|(injection h with h;injection h with h1 h2;subst h2;exact Sz _ _ _ _)
theorem Al4 {T:Tab} {st st':St} {d:Nat} {t:TypeId} {x y:Operand} {v:AV} (h:Jl T st d t x y=some (v,st')):Aw st st':=by
 unfold Jl at h
 split at h
 ·exact Al3 h
 ·repeat' split at h
  all_goals first|(cases h;done)|(injection h with h;injection h with h1 h2;subst h2;exact Sz _ _ _ _)
theorem Uc {st st':St} {v:AV} {o:Option AV} (h:o.map (fun v=>(v,st))=some (v,st')):Aw st st':=by
 cases o with
 |none=>cases h
 |some u=>injection h with h;injection h with h1 h2;subst h2;exact Aw.Gy
theorem Ou: ∀(l:List Operand) {st st1:St},Hm l st=some st1→Aw st st1
 | [],st,st1,h=>by
  simp only [Hm,Option.some.injEq] at h
  subst h
  exact Aw.Gy
 |x::r,st,st1,h=>by
  simp only [Hm] at h
  cases hs:settle st (st.ev x) with
  |none=>rw [hs] at h;cases h
  |some p=>
   rw [hs] at h
   exact (Jw (v':=p.1) (st':=p.2) hs).trans (Ou r h)
theorem Adm {T:Tab} {Γ:Env} {st st':St} {o:Oper} {v:AV} (h:evalOp T Γ st o=some (v,st')):Aw st st':=by
 unfold evalOp at h
 split at h
 ·split at h
  ·split at h
   ·injection h with h;injection h with h1 h2;subst h2;exact Gi _ _ _
   ·cases h
  ·injection h with h;injection h with h1 h2;subst h2;exact Aw.Gy
 ·split at h
  ·exact Ags h
  ·cases h
 ·split at h
  ·split at h
   ·exact Ags h
   ·cases h
  ·cases h
 ·rename_i t p x _
  cases hs:Hw T st t (st.ev p) (st.ev x) with
  |none=>rw [hs] at h;cases h
  |some s=>rw [hs] at h;injection h with h;injection h with h1 h2;subst h2;exact Aop hs
 ·split at h
  ·exact Asb h
  ·cases h
 ·split at h
  ·exact Al5 h
  ·cases h
 ·rename_i t m k x _
  cases hs:Dw T st t (st.ev m) (st.ev k) (st.ev x) with
  |none=>rw [hs] at h;cases h
  |some s=>rw [hs] at h;injection h with h;injection h with h1 h2;subst h2;exact Ady hs
 ·rename_i t m k x _
  cases hs:Dw T st t (st.ev m) (st.ev k) (st.ev x) with
  |none=>rw [hs] at h;cases h
  |some s=>rw [hs] at h;injection h with h;injection h with h1 h2;subst h2;exact Ady hs
 ·split at h
  ·exact Adw h
  ·cases h
 ·exact Uc h
 ·split at h
  ·split at h
   ·exact Al4 h
   ·cases h
  ·cases h
 ·split at h
  ·exact Avg h
  ·cases h
 ·split at h
  ·rename_i x t _ _
   cases hs:evalClear T st t (st.ev x) with
   |none=>rw [hs] at h;cases h
   |some s=>rw [hs] at h;injection h with h;injection h with h1 h2;subst h2;exact Asa hs
  ·cases h
 ·split at h
  ·exact As9 h
  ·split at h
   ·rename_i args _ _ _ _ _ _
    cases hs:Hm args.toList st with
    |none=>rw [hs] at h;cases h
    |some st1=>
     rw [hs] at h
     exact (Ou _ hs).trans (Uc h)
   ·exact Uc h
  ·exact Uc h
 ·exact Uc h
def Jc:List Oper→List Nat
 | []=> []
 |o::r=>(match o.dst with|some d=> [d]|none=> [])++Jc r
def writes:Code→List Nat
 | .region _ ops _=>Jc ops.toList
 | .seq a b=>writes a++writes b
 | .cond _ a b=>writes a++writes b
 | .block _ c=>writes c
 | .loop c=>writes c
 |_=> []
def Ec (P:Nat→Prop) (st st':St):Prop:= ∀(t:Nat) (fr:Bool) (τ:Ty) (x:τ.den),P t→st.get t= .at (.data fr τ x)→st'.get t= .at (.data fr τ x)
theorem Ec.trans {P:Nat→Prop} {a b c:St} (h1:Ec P a b) (h2:Ec P b c):Ec P a c:=fun t fr τ x hp h=>h2 t fr τ x hp (h1 t fr τ x hp h)
theorem Ec.mono {P Q:Nat→Prop} {a b:St} (h1:Ec P a b) (h: ∀t,Q t→P t):Ec Q a b:=fun t fr τ x hp hx=>h1 t fr τ x (h t hp) hx
theorem Aw.on {P:Nat→Prop} {a b:St} (h:Aw a b):Ec P a b:=fun t fr τ x _ hx=>h t fr τ x hx
theorem Sd (st:St) (dst:Option Tmp) (v:AV):Ec (fun t=>dst≠some t) st (st.put dst v):=by
 intro t fr τ x hp hx
 cases dst with
 |none=>exact hx
 |some d=>rw [Qv st v (fun h=>hp (by rw [h]))];exact hx
theorem Yk {T:Tab} {Γ:Env} {ops:Array Oper} {st st':St} {o:Oper} (h:Ca T Γ ops st o=some st'):Ec (fun t=>o.dst≠some t) st st':=by
 have key: ∀s,(evalOp T Γ st o).map (fun r=>r.2.put o.dst r.1)=some s→Ec (fun t=>o.dst≠some t) st s:=by
  intro s hs
  cases he:evalOp T Γ st o with
  |none=>rw [he] at hs;cases hs
  |some p=>rw [he] at hs;injection hs with hs;subst hs;exact (Adm (v:=p.1) (st':=p.2) he).on.trans (Sd _ _ _)
 unfold Ca at h
 split at h
 ·exact key _ h
 ·split at h
  ·split at h
   ·exact key _ h
   ·injection h with h;subst h;exact Sd _ _ _
  ·injection h with h;subst h;exact Sd _ _ _
  ·cases h
theorem Ab5 {T:Tab} {Γ:Env} {ops:Array Oper} : ∀(l:List Oper) (st st':St),Po T Γ ops l st=some st'→Ec (fun t=>t∉Jc l) st st'
 | [],st,st',h=>by injection h with h;subst h;exact Aw.Gy.on
 |o::r,st,st',h=>by
  simp only [Po] at h
  split at h
  ·rename_i s hs
   refine Ec.trans ((Yk hs).mono fun t ht=>?_) ((Ab5 r _ _ h).mono fun t ht=>?_)
   ·intro hd;apply ht;simp [Jc,hd]
   ·intro hd;apply ht;simp [Jc,hd]
  ·cases h
theorem Td: ∀(l:List Oper) (o:Oper) (d:Nat),o∈l→o.dst=some d→d∈Jc l
 | [],_,_,h,_=>by cases h
 |p::r,o,d,h,hd=>by
  cases h with
  |head=>simp [Jc,hd]
  |tail _ h=>simp only [Jc,List.mem_append];exact .inr (Td r o d h hd)
theorem An1 {ops:Array Oper} {i:Nat} {o:Oper} (h:ops[i]?=some o):o∈ops.toList:=by
 rw [Array.getElem?_eq_some_iff] at h
 obtain ⟨h1,h2⟩:=h
 rw [←h2]
 simp
theorem Sy {T:Tab} {Γ:Env} {ops:Array Oper} : ∀(l:List Nat) (st st':St),Hd T Γ ops l st=some st'→Ec (fun t=>t∉Jc ops.toList) st st'
 | [],st,st',h=>by injection h with h;subst h;exact Aw.Gy.on
 |i::r,st,st',h=>by
  simp only [Hd] at h
  split at h
  ·cases h
  ·rename_i o ho
   split at h
   ·rename_i s hs
    exact ((Yk hs).mono fun t ht hd=>ht (Td _ _ _ (An1 ho) hd)).trans (Sy r _ _ h)
   ·cases h
theorem Qs {T:Tab} {Γ:Env} {ops:Array Oper} : ∀(l:List Nat) (st st':St),Df T Γ ops l st=some st'→Ec (fun t=>t∉Jc ops.toList) st st'
 | [],st,st',h=>by injection h with h;subst h;exact Aw.Gy.on
 |i::r,st,st',h=>by
  simp only [Df] at h
  split at h
  ·cases h
  ·rename_i o ho
   split at h
   ·exact ((Sd _ _ _).mono fun t ht hd=>ht (Td _ _ _ (An1 ho) hd)).trans (Qs r _ _ h)
   ·cases h
theorem Xa: ∀(l:List Nat) (st:St),Aw st (Tv l st)
 | [],_=>Aw.Gy
 |a::r,st=>(Adx st a).trans (Xa r _)
theorem Yc (live:List Nat): ∀(i:Nat) (l:List AV) (t:Nat),i+t∈live→(Ek live i l).getD t .undef=l.getD t .undef
 |_,[],_,_=>rfl
 |i,v::r,0,h=>by simp [Ek];intro hn;exact absurd h hn
 |i,v::r,t+1,h=>by
  simp only [Ek,List.getD_cons_succ]
  exact Yc live (i+1) r t (by rw [show i+1+t=i+(t+1) by omega];exact h)
theorem Aoo (l k:Nat) (st:St):Aw st (st.rename l k):=by
 unfold St.rename
 split
 ·split
  ·exact (Hs st (Lw l k) rfl fun _ _ _=>rfl).trans (Aw.Nw rfl)
  ·exact Aw.Gy
 ·exact Aw.Gy
theorem Ue: ∀(n t:Nat) (st:St),Aw st (Ga n t st)
 |0,_,_=>Aw.Gy
 |n+1,t,st=>by
  simp only [Ga]
  refine Aw.trans ?_ (Ue n (t+1) _)
  split
  ·split
   ·split
    ·exact Aw.Gy
    ·exact Aoo _ _ _
   ·exact Aw.Gy
  ·exact Aw.Gy
theorem Ajd (t:Nat) (st:St):Aw st (Rg t st):=by
 unfold Rg
 split
 ·rename_i l off len hg
  split
  ·split
   ·intro k fr τ x hk
    have hne:k≠t:=fun e=>by subst e;rw [hg] at hk;cases hk
    rw [Qv _ _ hne]
    exact Gi _ _ _ k fr τ x hk
   ·exact Aw.Gy
  ·exact Aw.Gy
 ·exact Aw.Gy
theorem Xc (live:List Nat): ∀(n t:Nat) (st:St),Aw st (Hl live n t st)
 |0,_,_=>Aw.Gy
 |n+1,t,st=>by
  simp only [Hl]
  refine Aw.trans ?_ (Xc live n (t+1) _)
  split
  ·exact Ajd _ _
  ·exact Aw.Gy
theorem Abc (live:List Nat) (st:St):Ec (fun t=>t∈live) st (st.clean live):=by
 intro t fr τ x hp hx
 unfold St.clean
 have key: ∀s:St,s.get t= .at (.data fr τ x)→(if live.contains Si then Ga s.tmps.length 0 s else s).get t= .at (.data fr τ x):=by
  intro s hs
  split
  ·exact Ue _ _ s t fr τ x hs
  ·exact hs
 have key0: ∀s:St,s.get t= .at (.data fr τ x)→(if live.any (fun t=>Nat.ble On t) then s.Dx live else s).get t= .at (.data fr τ x):=by
  intro s hs
  split<;>exact hs
 have key1: ∀s:St,s.get t= .at (.data fr τ x)→(if live.any (fun t=>Nat.ble Jq t&&Nat.blt t Si) then Hl live s.tmps.length 0 s else s).get t= .at (.data fr τ x):=by
  intro s hs
  split
  ·exact Xc _ _ _ s t fr τ x hs
  ·exact hs
 refine key0 _ (key _ (key1 _ (Xa _ _ t fr τ x ?_)))
 simp only [St.get] at hx⊢
 rw [Yc live 0 st.tmps t (by simpa using hp)]
 exact hx
def Qx (live:Nat→List Nat):Code→Nat→Bool
 | .seq a b,t=>Qx live a t&&Qx live b t
 | .cond _ a b,t=>Qx live a t&&Qx live b t
 | .block _ c,t=>Qx live c t
 | .loop c,t=>(live (Bw c)).contains t&&Qx live c t
 |_,_=>true
theorem Aew {a b:Bool} (h:(a&&b)=true):a=true:=by cases a<;>simp_all
theorem Ac4 {a b:Bool} (h:(a&&b)=true):b=true:=by cases a<;>simp_all
theorem Af1 {T:Tab} {Γ:Env} {ops:Array Oper} {draw:Bool} {st st':St} (h:Jm T Γ ops draw st=some st'):Ec (fun t=>t∉writes (.region 0 ops draw)) st st':=by
 unfold Jm at h
 have go: ∀q,(match Df T Γ ops (Aaj q Γ ops) st with
   |some s=>Hd T Γ ops (Ed q Γ ops) s
   |none=>none)=some st'→Ec (fun t=>t∉writes (.region 0 ops draw)) st st':=by
  intro q h
  split at h
  ·rename_i s hs
   exact (Qs _ _ _ hs).trans (Sy _ _ _ h)
  ·cases h
 split at h
 ·split at h
  ·exact go false h
  ·split at h
   ·exact go true h
   ·cases h
 ·exact Ab5 _ _ _ h
theorem Aig {T:Tab} {Γ:Env} {ops:Array Oper} {draw:Bool} {K:St→Prop} (s0:St): ∀(f:Nat) (listed:Array Bool) (st:St),Ec (fun t=>t∉writes (.region 0 ops draw)) s0 st→anyS T Γ ops K f listed st→anyS T Γ ops (fun s=>K s∧Ec (fun t=>t∉writes (.region 0 ops draw)) s0 s) f listed st
 |0,_,_,hk,h=>⟨h.1,h.2,hk⟩
 |f+1,listed,st,hk,h=>⟨h.1,fun i hi=>by
  obtain ⟨o,st',h1,h2,h3⟩:=h.2 i hi
  have h4:Hd T Γ ops [i] st=some st':=by simp only [Hd,h1,h2]
  exact ⟨o,st',h1,h2,Aig s0 f _ _ (hk.trans (Sy _ _ _ h4)) h3⟩⟩
theorem Anw.keeps {T:Tab} {Γ:Env} {ops:Array Oper} {draw:Bool} {st:St} {K:St→Prop} (h:Anw T Γ ops draw st K):Anw T Γ ops draw st (fun s=>K s∧Ec (fun t=>t∉writes (.region 0 ops draw)) st s):=by
 rcases h with ⟨st',h1,h2⟩|⟨h1,h2,st0,h3,h4⟩
 ·exact .inl ⟨st',h1,h2,Af1 h1⟩
 ·exact .inr ⟨h1,h2,st0,h3,Aig st _ _ _ (Qs _ _ _ h3) h4⟩
theorem Awf {T:Tab} {Γ:Env} {live:Nat→List Nat} {c:Code} {st:St} {Q:Fe→St→Prop} (h:Hb T Γ live c st Q): ∀(s0:St) (p:Nat→Prop),Ec p s0 st→(∀t,p t→t∉writes c∧Qx live c t=true)→Hb T Γ live c st (fun e s=>Q e s∧Ec p s0 s):=by
 induction h with
 |skip h=>exact fun s0 p hk _=> .skip ⟨h,hk⟩
 |label h=>exact fun s0 p hk _=> .label ⟨h,hk⟩
 |exit h=>exact fun s0 p hk _=> .exit ⟨h,hk⟩
 |ret h=>exact fun s0 p hk _=> .ret ⟨h,hk⟩
 |region h=>
  exact fun s0 p hk hp=> .region (h.keeps.mono fun s hs=>⟨hs.1,hk.trans (hs.2.mono fun t ht=>(hp t ht).1)⟩)
 |seq Q1 _ _ h3 ih1 ih2=>
  exact fun s0 p hk hp=> .seq _ (ih1 s0 p hk fun t ht=>⟨fun hm=>(hp t ht).1 (by simp [writes,hm]),Aew (hp t ht).2⟩)
   (fun s hs=>ih2 s hs.1 s0 p hs.2 fun t ht=>⟨fun hm=>(hp t ht).1 (by simp [writes,hm]),Ac4 (hp t ht).2⟩) fun e s he hs=>⟨h3 e s he hs.1,hs.2⟩
 |cond hc _ _ ih1 ih2=>
  exact fun s0 p hk hp=> .cond hc (fun ht=>ih1 ht s0 p hk fun t h=>⟨fun hm=>(hp t h).1 (by simp [writes,hm]),Aew (hp t h).2⟩)
   fun ht=>ih2 ht s0 p hk fun t h=>⟨fun hm=>(hp t h).1 (by simp [writes,hm]),Ac4 (hp t h).2⟩
 |block Q1 _ h2 ih=>
  exact fun s0 p hk hp=> .block _ (ih s0 p hk fun t ht=>⟨fun hm=>(hp t ht).1 (by simpa [writes] using hm),by simpa [Qx] using (hp t ht).2⟩) fun e s hs=>by
   have h:=h2 e s hs.1
   cases e with
   |normal=>exact ⟨h,hs.2⟩
   |ret=>exact ⟨h,hs.2⟩
   |exit id'=>
    simp only [Amp] at h⊢
    split at h
    ·rename_i hi;rw [if_pos hi];exact ⟨h,hs.2⟩
    ·rename_i hi;rw [if_neg hi];exact ⟨h,hs.2⟩
 |loop Q1 _ _ h3 ih1 ih2=>
  intro s0 p hk hp
  refine .loop _ (ih1 s0 p (hk.trans ((Abc _ _).mono fun t ht=>by simpa using Aew (hp t ht).2)) fun t ht=>⟨fun hm=>(hp t ht).1 (by simpa [writes] using hm),Ac4 (hp t ht).2⟩)
   (fun s hs=>ih2 s hs.1 s0 p hs.2 hp) fun e s he hs=>⟨h3 e s he hs.1,hs.2⟩
end Go.Proofs.Ytebabhocakedaaa
