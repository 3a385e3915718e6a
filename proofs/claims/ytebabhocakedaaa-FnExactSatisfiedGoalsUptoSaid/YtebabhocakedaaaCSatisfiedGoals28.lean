/-
  Part 29 of the proof that the statement FnExactSatisfiedGoals holds.
-/
import Derived.Test.YtebabhocakedaaaCSatisfiedGoals27
namespace Go.Proofs.Ytebabhocakedaaa
open Go.RowKit
def Ay (st st':St):Prop:= ∀(t:Nat) (fr:Bool) (τ:Ty) (x:τ.den),st.get t= .at (.data fr τ x)→st'.get t= .at (.data fr τ x)
theorem Ay.Hc {st:St} :Ay st st:=fun _ _ _ _ h=>h
theorem Ay.trans {a b c:St} (h1:Ay a b) (h2:Ay b c):Ay a c:=fun t fr τ x h=>h2 t fr τ x (h1 t fr τ x h)
theorem Ay.Np {a b:St} (h:b.tmps=a.tmps):Ay a b:=fun t fr τ x hx=>by
 simp only [St.get] at hx⊢
 rw [h]
 exact hx
theorem Qq (st:St) {t d:Nat} (v:AV) (h:t≠d):(st.put (some d) v).get t=st.get t:=by
 simp only [St.put,St.get]
 rw [Qd]
 rw [if_neg (by rintro ⟨rfl,_⟩;exact h rfl)]
theorem Hw (st:St) (f:AC→AC) (hu:f .undef= .undef) (hd: ∀fr (τ:Ty) (x:τ.den),f (.data fr τ x)= .data fr τ x):Ay st (st.Ex f):=by
 intro t fr τ x h
 simp only [St.Ex,St.get]
 rw [Nx f hu,show st.tmps.getD t .undef=_ from h]
 simp only [AV.map,hd]
theorem Adm (st:St) (l:Nat):Ay st (st.forget l):=
 (Hw st (Av l) rfl fun _ _ _=>rfl).trans (Ay.Np rfl)
theorem Pk (st:St) (l:Nat) (fr:Bool) (e:Ty) (xs:List e.den):Ay st (st.freeze l fr e xs):=
 (Hw st (Aw l fr e xs) rfl fun _ _ _=>rfl).trans (Ay.Np rfl)
theorem Ws (st:St) (l:Nat) (v:Ty) (m:ByteArray→Option v.den):Ay st (st.Dq l v m):=
 (Hw st (Cs l v m) rfl fun _ _ _=>rfl).trans (Ay.Np rfl)
theorem Gl (st:St) (l:Nat) (b:OB):Ay st (st.new l b):=(Adm st l).trans (Ay.Np rfl)
theorem Ha (st:St) (l:Nat) (b:OB):Ay st (st.Er l b):=Ay.Np rfl
theorem Tv (b:OB) (key l i:Nat) (st:St):Ay st (Ky b key l i st):=by
 unfold Ky
 split
 ·split
  ·dsimp only
   split
   ·exact (Gl _ _ _).trans (Ha _ _ _)
   ·exact Gl _ _ _
  ·exact Ay.Hc
 ·exact Ay.Hc
theorem Aaw (T:Tab) (l:Nat) (t:TypeId) (τ:Ty): ∀(n i:Nat) (st:St),Ay st (Vp T l t τ n i st)
 |0,_,_=>Ay.Hc
 |n+1,i,st=>by
  simp only [Vp]
  refine Ay.trans ?_ (Aaw T l t τ n (i+1) _)
  split
  ·exact Tv _ _ _ _ _
  ·exact Ay.Hc
theorem Yj (T:Tab) (l off:Nat) (t:TypeId) (τ:Ty): ∀(n i:Nat) (st:St),Ay st (Ua T l off t τ n i st)
 |0,_,_=>Ay.Hc
 |n+1,i,st=>by
  simp only [Ua]
  refine Ay.trans ?_ (Yj T l off t τ n (i+1) _)
  split
  ·exact Tv _ _ _ _ _
  ·exact Ay.Hc
theorem Iy: ∀(n:Nat) (st:St) (cs cs':List AC) (st':St),Cw n st cs=some (cs',st')→Ay st st'
 |0,st,cs,cs',st',h=>by
  simp only [Cw] at h
  split at h
  ·injection h with h;injection h with h1 h2;subst h2;exact Ay.Hc
  ·cases h
 |n+1,st,cs,cs',st',h=>by
  simp only [Cw] at h
  split at h
  ·injection h with h;injection h with h1 h2;subst h2;exact Ay.Hc
  ·split at h
   ·exact (Pk _ _ _ _ _).trans (Iy n _ _ _ _ h)
   ·exact (Pk _ _ _ _ _).trans (Iy n _ _ _ _ h)
   ·cases h
  ·split at h
   ·exact (Ws _ _ _ _).trans (Iy n _ _ _ _ h)
   ·cases h
  ·cases h
theorem Jo {st st':St} {v v':AV} (h:settle st v=some (v',st')):Ay st st':=by
 unfold settle at h
 split at h
 ·split at h
  ·injection h with h;injection h with h1 h2;subst h2;exact Pk _ _ _ _ _
  ·injection h with h;injection h with h1 h2;subst h2;exact Pk _ _ _ _ _
  ·cases h
 ·split at h
  ·injection h with h;injection h with h1 h2;subst h2;exact Ws _ _ _ _
  ·cases h
 ·split at h
  ·injection h with h;injection h with h1 h2;subst h2;exact Ay.Hc
  ·cases h
 ·rename_i cs
  cases hs:Cw cs.length st cs with
  |none=>rw [hs] at h;cases h
  |some p=>rw [hs] at h;injection h with h;injection h with h1 h2;subst h2;exact Iy _ _ _ _ _ hs
 ·injection h with h;injection h with h1 h2;subst h2;exact Ay.Hc
 ·cases h
theorem Ag8 {T:Tab} {st st':St} {l:Nat} {t:TypeId} {τ:Ty} {cs:List AC} {v:AV} (h:mkVar T st l t τ cs=some (v,st')):Ay st st':=by
 unfold mkVar at h
 split at h
 ·cases h
 dsimp only at h
 split at h
 ·injection h with h;injection h with h1 h2;subst h2;exact (Gl _ _ _).trans (Aaw _ _ _ _ _ _ _)
 ·cases h
theorem Arp {T:Tab} {st st':St} {t:TypeId} {p v:AV} (h:Lc T st t p v=some st'):Ay st st':=by
 unfold Lc at h
 split at h
 ·split at h
  ·split at h
   ·injection h with h
    split at h
    ·subst h;exact (Ha _ _ _).trans (Yj _ _ _ _ _ _ _ _)
    ·subst h;exact Ha _ _ _
   ·cases h
  ·cases h
 ·split at h
  ·rename_i hs
   split at h
   ·split at h
    ·split at h
     ·injection h with h;subst h;exact (Jo hs).trans (Ha _ _ _)
     ·cases h
    ·cases h
   ·cases h
  ·cases h
 ·cases h
theorem Aip (st:St) (l j m:Nat) (e:Ty) (te:TypeId) (rows:List (List e.den)) (xs:List e.den) (kp:Option (Nat×Nat)):Ay st (Ki st l j m e te rows xs kp):=
 ((Hw st (Ar [m] [l]) (by simp [Ar,AC.refs]) fun fr τ x=>by simp [Ar,AC.refs]).trans (Ay.Np rfl)).trans (Ha (st.Ru [m] [l]) _ _)
theorem Aiq (st:St) (l i m:Nat) (e:Ty) (te tid:TypeId) (rows:List (List e.den)) (kp:Option (Nat×Nat)):Ay st (Ih st l i m e te tid rows kp):=
 (Ha st l _).trans (Gl _ m _)
theorem Aoi {T:Tab} {st st':St} {t:TypeId} {p v:AV} (h:Hy T st t p v=some st'):Ay st st':=by
 unfold Hy at h
 split at h
 rotate_left
 ·exact Arp h
 unfold Qp at h
 split at h
 ·split at h
  ·rename_i hs
   split at h
   ·split at h
    ·injection h with h;subst h;exact (Jo hs).trans (Ha _ _ _)
    ·cases h
   ·cases h
  ·cases h
 ·split at h
  ·split at h
   ·split at h
    ·injection h with h;subst h
     exact Aip _ _ _ _ _ _ _ _ _
    ·cases h
   ·cases h
  ·cases h
 ·cases h
theorem Vf {T:Tab} {st st':St} {d:Nat} {t:TypeId} {x y:Operand} {v:AV} (h:Gy T st d t x y=some (v,st')):Ay st st':=by
 unfold Gy at h
 split at h
 ·cases h
 ·split at h
  ·rename_i hs
   split at h
   ·cases h
   ·split at h
    ·split at h
     ·injection h with h;injection h with h1 h2;subst h2;exact ((Jo hs).trans (Gl _ _ _)).trans (Gl _ _ _)
     ·cases h
    ·split at h
     ·split at h
      ·split at h
       ·injection h with h;injection h with h1 h2;subst h2;exact (Jo hs).trans (Gl _ _ _)
       ·cases h
      ·cases h
     ·cases h
    ·cases h
  ·cases h
theorem Akt {T:Tab} {st st':St} {d:Nat} {t:TypeId} {x y:Operand} {v:AV} (h:Jc T st d t x y=some (v,st')):Ay st st':=by
 unfold Jc at h
 split at h
 ·rename_i tx
  split at h
  ·rename_i l i c hg
   split at h
   ·split at h
    ·rename_i e te rows kp tid hl ht hc
     refine Ay.trans (b:=(Ih st l i d e te tid rows kp).put (some tx) (.at (.own d 0 (rows.getD i []).length))) ?_ (Vf h)
     intro t' fr τ z hz
     by_cases e':t'=tx
     ·subst e';rw [hg] at hz;cases hz
     ·rw [Qq _ _ e'];exact Aiq st l i d e te tid rows kp t' fr τ z hz
    ·cases h
   ·cases h
  ·exact Vf h
 ·exact Vf h
theorem Auw {T:Tab} {st st':St} {d:Nat} {t:TypeId} {l c v:AV} (h:Qm T st d t l c=some (v,st')):Ay st st':=by
 unfold Qm at h
 split at h
 ·split at h
  ·split at h
   ·injection h with h;injection h with h1 h2;subst h2;exact Gl _ _ _
   ·cases h
  ·cases h
 ·cases h
theorem Ag9 (e:Ty): ∀(l:List (Nat×Operand)) (i:Nat) (st st':St) (fr tr:Bool) (ys:List e.den),Fe e i l st=some (fr,tr,ys,st')→Ay st st'
 | [],_,_,_,_,_,_,h=>by
  simp only [Fe] at h
  injection h with h;injection h with h1 h2;injection h2 with h2 h3;injection h3 with h3 h4;subst h4;exact Ay.Hc
 |(j,x)::r,i,st,st',fr,tr,ys,h=>by
  simp only [Fe] at h
  split at h
  ·split at h
   ·rename_i hs
    split at h
    ·split at h
     ·rename_i hp
      injection h with h;injection h with h1 h2;injection h2 with h2 h3;injection h3 with h3 h4;subst h4
      exact (Jo hs).trans (Ag9 e r _ _ _ _ _ _ hp)
     ·cases h
    ·cases h
   ·cases h
  ·cases h
theorem Af0 {T:Tab} {st st':St} {d:Nat} {t:TypeId} {n:Nat} {parts:Array (Nat×Operand)} {v:AV} (h:Fy T st d t n parts=some (v,st')):Ay st st':=by
 unfold Fy at h
 split at h
 ·cases h
 ·split at h
  ·cases h
  ·split at h
   ·split at h
    ·rename_i hp
     injection h with h;injection h with h1 h2;subst h2;exact (Ag9 _ _ _ _ _ _ _ _ hp).trans (Gl _ _ _)
    ·cases h
   ·cases h
theorem Akv {T:Tab} {st st':St} {d:Nat} {t:TypeId} {v:AV} (h:Lb T st d t=some (v,st')):Ay st st':=by
 unfold Lb at h
 split at h
 ·split at h
  ·injection h with h;injection h with h1 h2;subst h2;exact Gl _ _ _
  ·cases h
 ·cases h
theorem Adn {T:Tab} {st st':St} {t:TypeId} {m k x:AV} (h:Dx T st t m k x=some st'):Ay st st':=by
 unfold Dx at h
 split at h
 ·split at h
  ·split at h
   ·injection h with h;subst h;exact Ha _ _ _
   ·cases h
  ·cases h
 ·cases h
theorem Auv {T:Tab} {st st':St} {t t':TypeId} {x y v:AV} (h:Xz T st t t' x y=some (v,st')):Ay st st':=by
 unfold Xz at h
 split at h
 ·split at h
  ·split at h
   ·split at h
    ·injection h with h;injection h with h1 h2;subst h2;exact Ha _ _ _
    ·cases h
   ·cases h
  ·cases h
 ·cases h
theorem Arn {T:Tab} {st st':St} {t:TypeId} {x:AV} (h:evalClear T st t x=some st'):Ay st st':=by
 unfold evalClear at h
 split at h
 ·split at h
  ·split at h
   ·split at h
    ·injection h with h;subst h;exact Ha _ _ _
    ·cases h
   ·cases h
  ·cases h
 ·cases h
theorem An0 {st st':St} {c:CK} {ys:c.den} {a:AC} (h:Rl st c ys a=some st'):st'.tmps=st.tmps:=by
 unfold Rl at h
 repeat' split at h
 all_goals first|(cases h;done)|(simp only [Option.some.injEq] at h;subst h;rfl)|skip
theorem Ayj {st st':St} {e:Ty} {ys:List e.den} {a:AC} (h:Avl st e ys a=some st'):st'.tmps=st.tmps:=by
 unfold Avl at h
 repeat' split at h
 all_goals first|(cases h;done)|(simp only [Option.some.injEq] at h;subst h;rfl)|skip
theorem Kz: ∀(cs:List (Bool×CK)) (o:IOs.den cs) (as:List AC) (st st':St),Df cs o as st=some st'→st'.tmps=st.tmps
 | [],_,_,st,st',h=>by simp only [Df,Option.some.injEq] at h;subst h;rfl
 |(true, .dat _)::r,o,[],st,st',h=>by simp [Df] at h
 |(true, .row _ _)::r,o,[],st,st',h=>by simp [Df] at h
 |(true, .xrow _ _)::r,o,[],st,st',h=>by simp [Df] at h
 |(true, .part _ _)::r,o,[],st,st',h=>by simp [Df] at h
 |(true, .grid _ _ _)::r,o,[],st,st',h=>by simp [Df] at h
 |(true, .grid _ _ _)::r,o,a::as,st,st',h=>Kz r o as st st' (by simpa only [Df] using h)
 |(false,_)::r,o,[],st,st',h=>by simp [Df] at h
 |(true, .dat _)::r,o,a::as,st,st',h=>Kz r o as st st' (by simpa only [Df] using h)
 |(false,_)::r,o,a::as,st,st',h=>Kz r o as st st' (by simpa only [Df] using h)
 |(true, .row _ _)::r,o,a::as,st,st',h=>by
  simp only [Df] at h
  split at h
  ·rename_i hc;exact (Kz r o.2 as _ st' h).trans (An0 hc)
  ·cases h
 |(true, .part _ _)::r,o,a::as,st,st',h=>by
  simp only [Df] at h
  split at h
  ·rename_i hc;exact (Kz r o.2 as _ st' h).trans (Ayj hc)
  ·cases h
 |(true, .xrow _ _)::r,o,a::as,st,st',h=>by
  simp only [Df] at h
  split at h
  ·rename_i hc;exact (Kz r o.2 as _ st' h).trans (An0 hc)
  ·cases h
theorem Aog (st0 st:St) (ls:List Nat) (n:Nat) (hl:st0.tmps.length=st.tmps.length) (h:Ay st0 st):Ay st0 (Ac1 st0 st ls n):=by
 unfold Ac1
 split
 ·exact h
 ·intro t fr τ x hx
  show (Fm _ st0.tmps st.tmps).getD t .undef=_
  rcases We ls st0.tmps st.tmps t hl with ⟨k,i,c,h1,_⟩|h1
  ·rw [show st0.tmps.getD t .undef=_ from hx] at h1;cases h1
  ·rw [h1];exact h t fr τ x hx
theorem Arm {st st':St} {d:Option Nat} {s:Bn} {args:List AV} {v:AV} (h:Mm st d s args=some (v,st')):Ay st st':=by
 unfold Mm at h
 split at h
 ·cases h
 split at h
 ·cases h
 split at h
 ·cases h
 split at h
 ·split at h
  ·cases h
  split at h
  ·cases h
  rename_i st1 hp
  split at h
  ·cases h
  split at h
  ·simp only [Option.some.injEq,Prod.mk.injEq] at h
   obtain ⟨_,rfl⟩:=h
   have hpt:=Kz _ _ _ _ _ hp
   refine Aog _ _ _ _ ?_ ?_
   ·simp only [Abm,Afm]
    rw [←hpt]
    simp only [St.Ru,St.Ex,List.length_map]
   ·refine Ay.trans (Ay.Np hpt) ?_
    refine Ay.trans (Hw st1 (Ar _ _) (by simp [Ar,AC.refs]) fun fr τ x=>by simp [Ar,AC.refs]) (Ay.Np Afm)
  ·cases h
 ·cases h
theorem Su (st:St) (k m:Nat) (b:OB):Ay st (Ix st k m b):=
 (Hw st (Ar [m,k] []) (by simp [Ar,AC.refs]) fun fr τ x=>by simp [Ar,AC.refs]).trans (Ay.Np rfl)
theorem Aro {T:Tab} {st st':St} {d:Nat} {t:TypeId} {l c v:AV} (h:Mn T st d t l c=some (v,st')):Ay st st':=by
 unfold Mn at h
 split at h
 ·exact Auw h
 ·split at h
  ·split at h
   ·injection h with h;injection h with h1 h2;subst h2;exact Su _ _ _ _
   ·cases h
  ·cases h
theorem Adl {T:Tab} {st st':St} {d:Nat} {t:TypeId} {n:Nat} {parts:Array (Nat×Operand)} {v:AV} (h:Dv T st d t n parts=some (v,st')):Ay st st':=by
 unfold Dv at h
 split at h
 ·exact Af0 h
 ·repeat' split at h
  all_goals first|(cases h;done)|(injection h with h;injection h with h1 h2;subst h2;exact Su _ _ _ _)
theorem Aku {T:Tab} {st st':St} {d:Nat} {t:TypeId} {x y:Operand} {v:AV} (h:Jd T st d t x y=some (v,st')):Ay st st':=by
 unfold Jd at h
 split at h
 ·exact Akt h
 ·repeat' split at h
  all_goals first|(cases h;done)|(injection h with h;injection h with h1 h2;subst h2;exact Su _ _ _ _)
theorem Tu {st st':St} {v:AV} {o:Option AV} (h:o.map (fun v=>(v,st))=some (v,st')):Ay st st':=by
 cases o with
 |none=>cases h
 |some u=>injection h with h;injection h with h1 h2;subst h2;exact Ay.Hc
theorem Ok: ∀(l:List Operand) {st st1:St},Hr l st=some st1→Ay st st1
 | [],st,st1,h=>by
  simp only [Hr,Option.some.injEq] at h
  subst h
  exact Ay.Hc
 |x::r,st,st1,h=>by
  simp only [Hr] at h
  cases hs:settle st (st.ev x) with
  |none=>rw [hs] at h;cases h
  |some p=>
   rw [hs] at h
   exact (Jo (v':=p.1) (st':=p.2) hs).trans (Ok r h)
theorem Ada {T:Tab} {Γ:Env} {st st':St} {o:Oper} {v:AV} (h:evalOp T Γ st o=some (v,st')):Ay st st':=by
 unfold evalOp at h
 split at h
 ·split at h
  ·split at h
   ·injection h with h;injection h with h1 h2;subst h2;exact Gl _ _ _
   ·cases h
  ·injection h with h;injection h with h1 h2;subst h2;exact Ay.Hc
 ·split at h
  ·exact Ag8 h
  ·cases h
 ·split at h
  ·split at h
   ·exact Ag8 h
   ·cases h
  ·cases h
 ·rename_i t p x _
  cases hs:Hy T st t (st.ev p) (st.ev x) with
  |none=>rw [hs] at h;cases h
  |some s=>rw [hs] at h;injection h with h;injection h with h1 h2;subst h2;exact Aoi hs
 ·split at h
  ·exact Aro h
  ·cases h
 ·split at h
  ·exact Akv h
  ·cases h
 ·rename_i t m k x _
  cases hs:Dx T st t (st.ev m) (st.ev k) (st.ev x) with
  |none=>rw [hs] at h;cases h
  |some s=>rw [hs] at h;injection h with h;injection h with h1 h2;subst h2;exact Adn hs
 ·rename_i t m k x _
  cases hs:Dx T st t (st.ev m) (st.ev k) (st.ev x) with
  |none=>rw [hs] at h;cases h
  |some s=>rw [hs] at h;injection h with h;injection h with h1 h2;subst h2;exact Adn hs
 ·split at h
  ·exact Adl h
  ·cases h
 ·exact Tu h
 ·split at h
  ·split at h
   ·exact Aku h
   ·cases h
  ·cases h
 ·split at h
  ·exact Auv h
  ·cases h
 ·split at h
  ·rename_i x t _ _
   cases hs:evalClear T st t (st.ev x) with
   |none=>rw [hs] at h;cases h
   |some s=>rw [hs] at h;injection h with h;injection h with h1 h2;subst h2;exact Arn hs
  ·cases h
 ·split at h
  ·exact Arm h
  ·split at h
   ·rename_i args _ _ _ _ _ _
    cases hs:Hr args.toList st with
    |none=>rw [hs] at h;cases h
    |some st1=>
     rw [hs] at h
     exact (Ok _ hs).trans (Tu h)
   ·exact Tu h
  ·exact Tu h
 ·exact Tu h
def Iu:List Oper→List Nat
 | []=> []
 |o::r=>(match o.dst with|some d=> [d]|none=> [])++Iu r
def writes:Code→List Nat
 | .region _ ops _=>Iu ops.toList
 | .seq a b=>writes a++writes b
 | .cond _ a b=>writes a++writes b
 | .block _ c=>writes c
 | .loop c=>writes c
 |_=> []
def Ed (P:Nat→Prop) (st st':St):Prop:= ∀(t:Nat) (fr:Bool) (τ:Ty) (x:τ.den),P t→st.get t= .at (.data fr τ x)→st'.get t= .at (.data fr τ x)
theorem Ed.trans {P:Nat→Prop} {a b c:St} (h1:Ed P a b) (h2:Ed P b c):Ed P a c:=fun t fr τ x hp h=>h2 t fr τ x hp (h1 t fr τ x hp h)
theorem Ed.mono {P Q:Nat→Prop} {a b:St} (h1:Ed P a b) (h: ∀t,Q t→P t):Ed Q a b:=fun t fr τ x hp hx=>h1 t fr τ x (h t hp) hx
theorem Ay.on {P:Nat→Prop} {a b:St} (h:Ay a b):Ed P a b:=fun t fr τ x _ hx=>h t fr τ x hx
theorem Rx (st:St) (dst:Option Tmp) (v:AV):Ed (fun t=>dst≠some t) st (st.put dst v):=by
 intro t fr τ x hp hx
 cases dst with
 |none=>exact hx
 |some d=>rw [Qq st v (fun h=>hp (by rw [h]))];exact hx
theorem Ya {T:Tab} {Γ:Env} {ops:Array Oper} {st st':St} {o:Oper} (h:Bz T Γ ops st o=some st'):Ed (fun t=>o.dst≠some t) st st':=by
 have key: ∀s,(evalOp T Γ st o).map (fun r=>r.2.put o.dst r.1)=some s→Ed (fun t=>o.dst≠some t) st s:=by
  intro s hs
  cases he:evalOp T Γ st o with
  |none=>rw [he] at hs;cases hs
  |some p=>rw [he] at hs;injection hs with hs;subst hs;exact (Ada (v:=p.1) (st':=p.2) he).on.trans (Rx _ _ _)
 unfold Bz at h
 split at h
 ·exact key _ h
 ·split at h
  ·split at h
   ·exact key _ h
   ·injection h with h;subst h;exact Rx _ _ _
  ·injection h with h;subst h;exact Rx _ _ _
  ·cases h
theorem Aao {T:Tab} {Γ:Env} {ops:Array Oper} : ∀(l:List Oper) (st st':St),Pg T Γ ops l st=some st'→Ed (fun t=>t∉Iu l) st st'
 | [],st,st',h=>by injection h with h;subst h;exact Ay.Hc.on
 |o::r,st,st',h=>by
  simp only [Pg] at h
  split at h
  ·rename_i s hs
   refine Ed.trans ((Ya hs).mono fun t ht=>?_) ((Aao r _ _ h).mono fun t ht=>?_)
   ·intro hd;apply ht;simp [Iu,hd]
   ·intro hd;apply ht;simp [Iu,hd]
  ·cases h
theorem Sw: ∀(l:List Oper) (o:Oper) (d:Nat),o∈l→o.dst=some d→d∈Iu l
 | [],_,_,h,_=>by cases h
 |p::r,o,d,h,hd=>by
  cases h with
  |head=>simp [Iu,hd]
  |tail _ h=>simp only [Iu,List.mem_append];exact .inr (Sw r o d h hd)
theorem Amr {ops:Array Oper} {i:Nat} {o:Oper} (h:ops[i]?=some o):o∈ops.toList:=by
 rw [Array.getElem?_eq_some_iff] at h
 obtain ⟨h1,h2⟩:=h
 rw [←h2]
 simp
theorem Ss {T:Tab} {Γ:Env} {ops:Array Oper} : ∀(l:List Nat) (st st':St),Hi T Γ ops l st=some st'→Ed (fun t=>t∉Iu ops.toList) st st'
 | [],st,st',h=>by injection h with h;subst h;exact Ay.Hc.on
 |i::r,st,st',h=>by
  simp only [Hi] at h
  split at h
  ·cases h
  ·rename_i o ho
   split at h
   ·rename_i s hs
    exact ((Ya hs).mono fun t ht hd=>ht (Sw _ _ _ (Amr ho) hd)).trans (Ss r _ _ h)
   ·cases h
theorem Qn {T:Tab} {Γ:Env} {ops:Array Oper} : ∀(l:List Nat) (st st':St),De T Γ ops l st=some st'→Ed (fun t=>t∉Iu ops.toList) st st'
 | [],st,st',h=>by injection h with h;subst h;exact Ay.Hc.on
 |i::r,st,st',h=>by
  simp only [De] at h
  split at h
  ·cases h
  ·rename_i o ho
   split at h
   ·exact ((Rx _ _ _).mono fun t ht hd=>ht (Sw _ _ _ (Amr ho) hd)).trans (Qn r _ _ h)
   ·cases h
theorem Wr: ∀(l:List Nat) (st:St),Ay st (To l st)
 | [],_=>Ay.Hc
 |a::r,st=>(Adm st a).trans (Wr r _)
theorem Xt (live:List Nat): ∀(i:Nat) (l:List AV) (t:Nat),i+t∈live→(Ep live i l).getD t .undef=l.getD t .undef
 |_,[],_,_=>rfl
 |i,v::r,0,h=>by simp [Ep];intro hn;exact absurd h hn
 |i,v::r,t+1,h=>by
  simp only [Ep,List.getD_cons_succ]
  exact Xt live (i+1) r t (by rw [show i+1+t=i+(t+1) by omega];exact h)
theorem Aoh (l k:Nat) (st:St):Ay st (st.rename l k):=by
 unfold St.rename
 split
 ·split
  ·exact (Hw st (Lh l k) rfl fun _ _ _=>rfl).trans (Ay.Np rfl)
  ·exact Ay.Hc
 ·exact Ay.Hc
theorem Tw: ∀(n t:Nat) (st:St),Ay st (Gc n t st)
 |0,_,_=>Ay.Hc
 |n+1,t,st=>by
  simp only [Gc]
  refine Ay.trans ?_ (Tw n (t+1) _)
  split
  ·split
   ·split
    ·exact Ay.Hc
    ·exact Aoh _ _ _
   ·exact Ay.Hc
  ·exact Ay.Hc
theorem Air (t:Nat) (st:St):Ay st (Ra t st):=by
 unfold Ra
 split
 ·rename_i l off len hg
  split
  ·split
   ·intro k fr τ x hk
    have hne:k≠t:=fun e=>by subst e;rw [hg] at hk;cases hk
    rw [Qq _ _ hne]
    exact Gl _ _ _ k fr τ x hk
   ·exact Ay.Hc
  ·exact Ay.Hc
 ·exact Ay.Hc
theorem Wt (live:List Nat): ∀(n t:Nat) (st:St),Ay st (Hq live n t st)
 |0,_,_=>Ay.Hc
 |n+1,t,st=>by
  simp only [Hq]
  refine Ay.trans ?_ (Wt live n (t+1) _)
  split
  ·exact Air _ _
  ·exact Ay.Hc
theorem Aav (live:List Nat) (st:St):Ed (fun t=>t∈live) st (st.clean live):=by
 intro t fr τ x hp hx
 unfold St.clean
 have key: ∀s:St,s.get t= .at (.data fr τ x)→(if live.contains Sd then Gc s.tmps.length 0 s else s).get t= .at (.data fr τ x):=by
  intro s hs
  split
  ·exact Tw _ _ s t fr τ x hs
  ·exact hs
 have key0: ∀s:St,s.get t= .at (.data fr τ x)→(if live.any (fun t=>Nat.ble Oh t) then s.Dy live else s).get t= .at (.data fr τ x):=by
  intro s hs
  split<;>exact hs
 have key1: ∀s:St,s.get t= .at (.data fr τ x)→(if live.any (fun t=>Nat.ble Ji t&&Nat.blt t Sd) then Hq live s.tmps.length 0 s else s).get t= .at (.data fr τ x):=by
  intro s hs
  split
  ·exact Wt _ _ _ s t fr τ x hs
  ·exact hs
 refine key0 _ (key _ (key1 _ (Wr _ _ t fr τ x ?_)))
 simp only [St.get] at hx⊢
 rw [Xt live 0 st.tmps t (by simpa using hp)]
 exact hx
def Qs (live:Nat→List Nat):Code→Nat→Bool
 | .seq a b,t=>Qs live a t&&Qs live b t
 | .cond _ a b,t=>Qs live a t&&Qs live b t
 | .block _ c,t=>Qs live c t
 | .loop c,t=>(live (Bv c)).contains t&&Qs live c t
 |_,_=>true
theorem Ael {a b:Bool} (h:(a&&b)=true):a=true:=by cases a<;>simp_all
theorem Abn {a b:Bool} (h:(a&&b)=true):b=true:=by cases a<;>simp_all
theorem Aep {T:Tab} {Γ:Env} {ops:Array Oper} {draw:Bool} {st st':St} (h:Je T Γ ops draw st=some st'):Ed (fun t=>t∉writes (.region 0 ops draw)) st st':=by
 unfold Je at h
 have go: ∀q,(match De T Γ ops (Aa2 q Γ ops) st with
   |some s=>Hi T Γ ops (Ef q Γ ops) s
   |none=>none)=some st'→Ed (fun t=>t∉writes (.region 0 ops draw)) st st':=by
  intro q h
  split at h
  ·rename_i s hs
   exact (Qn _ _ _ hs).trans (Ss _ _ _ h)
  ·cases h
 split at h
 ·split at h
  ·exact go false h
  ·split at h
   ·exact go true h
   ·cases h
 ·exact Aao _ _ _ h
theorem Ahu {T:Tab} {Γ:Env} {ops:Array Oper} {draw:Bool} {K:St→Prop} (s0:St): ∀(f:Nat) (listed:Array Bool) (st:St),Ed (fun t=>t∉writes (.region 0 ops draw)) s0 st→anyS T Γ ops K f listed st→anyS T Γ ops (fun s=>K s∧Ed (fun t=>t∉writes (.region 0 ops draw)) s0 s) f listed st
 |0,_,_,hk,h=>⟨h.1,h.2,hk⟩
 |f+1,listed,st,hk,h=>⟨h.1,fun i hi=>by
  obtain ⟨o,st',h1,h2,h3⟩:=h.2 i hi
  have h4:Hi T Γ ops [i] st=some st':=by simp only [Hi,h1,h2]
  exact ⟨o,st',h1,h2,Ahu s0 f _ _ (hk.trans (Ss _ _ _ h4)) h3⟩⟩
theorem Anp.keeps {T:Tab} {Γ:Env} {ops:Array Oper} {draw:Bool} {st:St} {K:St→Prop} (h:Anp T Γ ops draw st K):Anp T Γ ops draw st (fun s=>K s∧Ed (fun t=>t∉writes (.region 0 ops draw)) st s):=by
 rcases h with ⟨st',h1,h2⟩|⟨h1,h2,st0,h3,h4⟩
 ·exact .inl ⟨st',h1,h2,Aep h1⟩
 ·exact .inr ⟨h1,h2,st0,h3,Ahu st _ _ _ (Qn _ _ _ h3) h4⟩
theorem Avv {T:Tab} {Γ:Env} {live:Nat→List Nat} {c:Code} {st:St} {Q:Fk→St→Prop} (h:Hf T Γ live c st Q): ∀(s0:St) (p:Nat→Prop),Ed p s0 st→(∀t,p t→t∉writes c∧Qs live c t=true)→Hf T Γ live c st (fun e s=>Q e s∧Ed p s0 s):=by
 induction h with
 |skip h=>exact fun s0 p hk _=> .skip ⟨h,hk⟩
 |label h=>exact fun s0 p hk _=> .label ⟨h,hk⟩
 |exit h=>exact fun s0 p hk _=> .exit ⟨h,hk⟩
 |ret h=>exact fun s0 p hk _=> .ret ⟨h,hk⟩
 |region h=>
  exact fun s0 p hk hp=> .region (h.keeps.mono fun s hs=>⟨hs.1,hk.trans (hs.2.mono fun t ht=>(hp t ht).1)⟩)
 |seq Q1 _ _ h3 ih1 ih2=>
  exact fun s0 p hk hp=> .seq _ (ih1 s0 p hk fun t ht=>⟨fun hm=>(hp t ht).1 (by simp [writes,hm]),Ael (hp t ht).2⟩)
   (fun s hs=>ih2 s hs.1 s0 p hs.2 fun t ht=>⟨fun hm=>(hp t ht).1 (by simp [writes,hm]),Abn (hp t ht).2⟩) fun e s he hs=>⟨h3 e s he hs.1,hs.2⟩
 |cond hc _ _ ih1 ih2=>
  exact fun s0 p hk hp=> .cond hc (fun ht=>ih1 ht s0 p hk fun t h=>⟨fun hm=>(hp t h).1 (by simp [writes,hm]),Ael (hp t h).2⟩)
   fun ht=>ih2 ht s0 p hk fun t h=>⟨fun hm=>(hp t h).1 (by simp [writes,hm]),Abn (hp t h).2⟩
 |block Q1 _ h2 ih=>
  exact fun s0 p hk hp=> .block _ (ih s0 p hk fun t ht=>⟨fun hm=>(hp t ht).1 (by simpa [writes] using hm),by simpa [Qs] using (hp t ht).2⟩) fun e s hs=>by
   have h:=h2 e s hs.1
   cases e with
   |normal=>exact ⟨h,hs.2⟩
   |ret=>exact ⟨h,hs.2⟩
   |exit id'=>
    simp only [Ame] at h⊢
    split at h
    ·rename_i hi;rw [if_pos hi];exact ⟨h,hs.2⟩
    ·rename_i hi;rw [if_neg hi];exact ⟨h,hs.2⟩
 |loop Q1 _ _ h3 ih1 ih2=>
  intro s0 p hk hp
  refine .loop _ (ih1 s0 p (hk.trans ((Aav _ _).mono fun t ht=>by simpa using Ael (hp t ht).2)) fun t ht=>⟨fun hm=>(hp t ht).1 (by simpa [writes] using hm),Abn (hp t ht).2⟩)
   (fun s hs=>ih2 s hs.1 s0 p hs.2 hp) fun e s he hs=>⟨h3 e s he hs.1,hs.2⟩
end Go.Proofs.Ytebabhocakedaaa
