/-
  Part 29 of the proof that the statement FnExactStateClassCount holds.
-/
import Derived.Test.YtebabhocakedaaaCStateClassCount27
namespace Go.Proofs.Ytebabhocakedaaa
open Go.RowKit
def Ay (st st':St):Prop:= ∀(t:Nat) (fr:Bool) (τ:Ty) (x:τ.den),st.get t= .at (.data fr τ x)→st'.get t= .at (.data fr τ x)
theorem Ay.Hg {st:St} :Ay st st:=fun _ _ _ _ h=>h
theorem Ay.trans {a b c:St} (h1:Ay a b) (h2:Ay b c):Ay a c:=fun t fr τ x h=>h2 t fr τ x (h1 t fr τ x h)
theorem Ay.Oh {a b:St} (h:b.tmps=a.tmps):Ay a b:=fun t fr τ x hx=>by
 simp only [St.get] at hx⊢
 rw [h]
 exact hx
theorem Re (st:St) {t d:Nat} (v:AV) (h:t≠d):(st.put (some d) v).get t=st.get t:=by
 simp only [St.put,St.get]
 rw [Qq]
 rw [if_neg (by rintro ⟨rfl,_⟩;exact h rfl)]
theorem Ig (st:St) (f:AC→AC) (hu:f .undef= .undef) (hd: ∀fr (τ:Ty) (x:τ.den),f (.data fr τ x)= .data fr τ x):Ay st (st.Ew f):=by
 intro t fr τ x h
 simp only [St.Ew,St.get]
 rw [Oo f hu,show st.tmps.getD t .undef=_ from h]
 simp only [AV.map,hd]
theorem Ae7 (st:St) (l:Nat):Ay st (st.forget l):=
 (Ig st (Aw l) rfl fun _ _ _=>rfl).trans (Ay.Oh rfl)
theorem Qc (st:St) (l:Nat) (fr:Bool) (e:Ty) (xs:List e.den):Ay st (st.freeze l fr e xs):=
 (Ig st (Ax l fr e xs) rfl fun _ _ _=>rfl).trans (Ay.Oh rfl)
theorem Xh (st:St) (l:Nat) (v:Ty) (m:ByteArray→Option v.den):Ay st (st.Dm l v m):=
 (Ig st (Cp l v m) rfl fun _ _ _=>rfl).trans (Ay.Oh rfl)
theorem Gp (st:St) (l:Nat) (b:OB):Ay st (st.new l b):=(Ae7 st l).trans (Ay.Oh rfl)
theorem He (st:St) (l:Nat) (b:OB):Ay st (st.Ej l b):=Ay.Oh rfl
theorem Um (b:OB) (key l i:Nat) (st:St):Ay st (Lq b key l i st):=by
 unfold Lq
 split
 ·split
  ·dsimp only
   split
   ·exact (Gp _ _ _).trans (He _ _ _)
   ·exact Gp _ _ _
  ·exact Ay.Hg
 ·exact Ay.Hg
theorem Abh (T:Tab) (l:Nat) (t:TypeId) (τ:Ty): ∀(n i:Nat) (st:St),Ay st (Wg T l t τ n i st)
 |0,_,_=>Ay.Hg
 |n+1,i,st=>by
  simp only [Wg]
  refine Ay.trans ?_ (Abh T l t τ n (i+1) _)
  split
  ·exact Um _ _ _ _ _
  ·exact Ay.Hg
theorem Zd (T:Tab) (l off:Nat) (t:TypeId) (τ:Ty): ∀(n i:Nat) (st:St),Ay st (Ur T l off t τ n i st)
 |0,_,_=>Ay.Hg
 |n+1,i,st=>by
  simp only [Ur]
  refine Ay.trans ?_ (Zd T l off t τ n (i+1) _)
  split
  ·exact Um _ _ _ _ _
  ·exact Ay.Hg
theorem Jm: ∀(n:Nat) (st:St) (cs cs':List AC) (st':St),Cw n st cs=some (cs',st')→Ay st st'
 |0,st,cs,cs',st',h=>by
  simp only [Cw] at h
  split at h
  ·injection h with h;injection h with h1 h2;subst h2;exact Ay.Hg
  ·cases h
 |n+1,st,cs,cs',st',h=>by
  simp only [Cw] at h
  split at h
  ·injection h with h;injection h with h1 h2;subst h2;exact Ay.Hg
  ·split at h
   ·exact (Qc _ _ _ _ _).trans (Jm n _ _ _ _ h)
   ·exact (Qc _ _ _ _ _).trans (Jm n _ _ _ _ h)
   ·cases h
  ·split at h
   ·exact (Xh _ _ _ _).trans (Jm n _ _ _ _ h)
   ·cases h
  ·cases h
theorem Ki {st st':St} {v v':AV} (h:settle st v=some (v',st')):Ay st st':=by
 unfold settle at h
 split at h
 ·split at h
  ·injection h with h;injection h with h1 h2;subst h2;exact Qc _ _ _ _ _
  ·injection h with h;injection h with h1 h2;subst h2;exact Qc _ _ _ _ _
  ·cases h
 ·split at h
  ·injection h with h;injection h with h1 h2;subst h2;exact Xh _ _ _ _
  ·cases h
 ·split at h
  ·injection h with h;injection h with h1 h2;subst h2;exact Ay.Hg
  ·cases h
 ·rename_i cs
  cases hs:Cw cs.length st cs with
  |none=>rw [hs] at h;cases h
  |some p=>rw [hs] at h;injection h with h;injection h with h1 h2;subst h2;exact Jm _ _ _ _ _ hs
 ·injection h with h;injection h with h1 h2;subst h2;exact Ay.Hg
 ·cases h
theorem Agu {T:Tab} {st st':St} {l:Nat} {t:TypeId} {τ:Ty} {cs:List AC} {v:AV} (h:mkVar T st l t τ cs=some (v,st')):Ay st st':=by
 unfold mkVar at h
 split at h
 ·cases h
 dsimp only at h
 split at h
 ·injection h with h;injection h with h1 h2;subst h2;exact (Gp _ _ _).trans (Abh _ _ _ _ _ _ _)
 ·cases h
theorem Asg {T:Tab} {st st':St} {t:TypeId} {p v:AV} (h:Lw T st t p v=some st'):Ay st st':=by
 unfold Lw at h
 split at h
 ·split at h
  ·split at h
   ·injection h with h
    split at h
    ·subst h;exact (He _ _ _).trans (Zd _ _ _ _ _ _ _ _)
    ·subst h;exact He _ _ _
   ·cases h
  ·cases h
 ·split at h
  ·rename_i hs
   split at h
   ·split at h
    ·split at h
     ·injection h with h;subst h;exact (Ki hs).trans (He _ _ _)
     ·cases h
    ·cases h
   ·cases h
  ·cases h
 ·cases h
theorem Ajc (st:St) (l j m:Nat) (e:Ty) (te:TypeId) (rows:List (List e.den)) (xs:List e.den) (kp:Option (Nat×Nat)):Ay st (La st l j m e te rows xs kp):=
 ((Ig st (As [m] [l]) (by simp [As,AC.refs]) fun fr τ x=>by simp [As,AC.refs]).trans (Ay.Oh rfl)).trans (He (st.Sf [m] [l]) _ _)
theorem Ajd (st:St) (l i m:Nat) (e:Ty) (te tid:TypeId) (rows:List (List e.den)) (kp:Option (Nat×Nat)):Ay st (It st l i m e te tid rows kp):=
 (He st l _).trans (Gp _ m _)
theorem Aor {T:Tab} {st st':St} {t:TypeId} {p v:AV} (h:Ii T st t p v=some st'):Ay st st':=by
 unfold Ii at h
 split at h
 rotate_left
 ·exact Asg h
 unfold Rd at h
 split at h
 ·split at h
  ·rename_i hs
   split at h
   ·split at h
    ·injection h with h;subst h;exact (Ki hs).trans (He _ _ _)
    ·cases h
   ·cases h
  ·cases h
 ·split at h
  ·split at h
   ·split at h
    ·injection h with h;subst h
     exact Ajc _ _ _ _ _ _ _ _ _
    ·cases h
   ·cases h
  ·cases h
 ·cases h
theorem Vy {T:Tab} {st st':St} {d:Nat} {t:TypeId} {x y:Operand} {v:AV} (h:Hc T st d t x y=some (v,st')):Ay st st':=by
 unfold Hc at h
 split at h
 ·cases h
 ·split at h
  ·rename_i hs
   split at h
   ·cases h
   ·split at h
    ·split at h
     ·injection h with h;injection h with h1 h2;subst h2;exact ((Ki hs).trans (Gp _ _ _)).trans (Gp _ _ _)
     ·cases h
    ·split at h
     ·split at h
      ·split at h
       ·injection h with h;injection h with h1 h2;subst h2;exact (Ki hs).trans (Gp _ _ _)
       ·cases h
      ·cases h
     ·cases h
    ·cases h
  ·cases h
theorem Al7 {T:Tab} {st st':St} {d:Nat} {t:TypeId} {x y:Operand} {v:AV} (h:Jt T st d t x y=some (v,st')):Ay st st':=by
 unfold Jt at h
 split at h
 ·rename_i tx
  split at h
  ·rename_i l i c hg
   split at h
   ·split at h
    ·rename_i e te rows kp tid hl ht hc
     refine Ay.trans (b:=(It st l i d e te tid rows kp).put (some tx) (.at (.own d 0 (rows.getD i []).length))) ?_ (Vy h)
     intro t' fr τ z hz
     by_cases e':t'=tx
     ·subst e';rw [hg] at hz;cases hz
     ·rw [Re _ _ e'];exact Ajd st l i d e te tid rows kp t' fr τ z hz
    ·cases h
   ·cases h
  ·exact Vy h
 ·exact Vy h
theorem Avq {T:Tab} {st st':St} {d:Nat} {t:TypeId} {l c v:AV} (h:Ra T st d t l c=some (v,st')):Ay st st':=by
 unfold Ra at h
 split at h
 ·split at h
  ·split at h
   ·injection h with h;injection h with h1 h2;subst h2;exact Gp _ _ _
   ·cases h
  ·cases h
 ·cases h
theorem Agv (e:Ty): ∀(l:List (Nat×Operand)) (i:Nat) (st st':St) (fr tr:Bool) (ys:List e.den),Fc e i l st=some (fr,tr,ys,st')→Ay st st'
 | [],_,_,_,_,_,_,h=>by
  simp only [Fc] at h
  injection h with h;injection h with h1 h2;injection h2 with h2 h3;injection h3 with h3 h4;subst h4;exact Ay.Hg
 |(j,x)::r,i,st,st',fr,tr,ys,h=>by
  simp only [Fc] at h
  split at h
  ·split at h
   ·rename_i hs
    split at h
    ·split at h
     ·rename_i hp
      injection h with h;injection h with h1 h2;injection h2 with h2 h3;injection h3 with h3 h4;subst h4
      exact (Ki hs).trans (Agv e r _ _ _ _ _ _ hp)
     ·cases h
    ·cases h
   ·cases h
  ·cases h
theorem Afk {T:Tab} {st st':St} {d:Nat} {t:TypeId} {n:Nat} {parts:Array (Nat×Operand)} {v:AV} (h:Gb T st d t n parts=some (v,st')):Ay st st':=by
 unfold Gb at h
 split at h
 ·cases h
 ·split at h
  ·cases h
  ·split at h
   ·split at h
    ·rename_i hp
     injection h with h;injection h with h1 h2;subst h2;exact (Agv _ _ _ _ _ _ _ _ hp).trans (Gp _ _ _)
    ·cases h
   ·cases h
theorem Al9 {T:Tab} {st st':St} {d:Nat} {t:TypeId} {v:AV} (h:Lu T st d t=some (v,st')):Ay st st':=by
 unfold Lu at h
 split at h
 ·split at h
  ·injection h with h;injection h with h1 h2;subst h2;exact Gp _ _ _
  ·cases h
 ·cases h
theorem Ae8 {T:Tab} {st st':St} {t:TypeId} {m k x:AV} (h:Ds T st t m k x=some st'):Ay st st':=by
 unfold Ds at h
 split at h
 ·split at h
  ·split at h
   ·injection h with h;subst h;exact He _ _ _
   ·cases h
  ·cases h
 ·cases h
theorem Avp {T:Tab} {st st':St} {t t':TypeId} {x y v:AV} (h:Ys T st t t' x y=some (v,st')):Ay st st':=by
 unfold Ys at h
 split at h
 ·split at h
  ·split at h
   ·split at h
    ·injection h with h;injection h with h1 h2;subst h2;exact He _ _ _
    ·cases h
   ·cases h
  ·cases h
 ·cases h
theorem Ase {T:Tab} {st st':St} {t:TypeId} {x:AV} (h:evalClear T st t x=some st'):Ay st st':=by
 unfold evalClear at h
 split at h
 ·split at h
  ·split at h
   ·split at h
    ·injection h with h;subst h;exact He _ _ _
    ·cases h
   ·cases h
  ·cases h
 ·cases h
theorem Ane {st st':St} {c:CK} {ys:c.den} {a:AC} (h:Rz st c ys a=some st'):st'.tmps=st.tmps:=by
 unfold Rz at h
 repeat' split at h
 all_goals first|(cases h;done)|(simp only [Option.some.injEq] at h;subst h;rfl)|skip
theorem Azt {st st':St} {e:Ty} {ys:List e.den} {a:AC} (h:Awg st e ys a=some st'):st'.tmps=st.tmps:=by
 unfold Awg at h
 repeat' split at h
 all_goals first|(cases h;done)|(simp only [Option.some.injEq] at h;subst h;rfl)|skip
theorem Lr: ∀(cs:List (Bool×CK)) (o:IOs.den cs) (as:List AC) (st st':St),De cs o as st=some st'→st'.tmps=st.tmps
 | [],_,_,st,st',h=>by simp only [De,Option.some.injEq] at h;subst h;rfl
 |(true, .dat _)::r,o,[],st,st',h=>by simp [De] at h
 |(true, .row _ _)::r,o,[],st,st',h=>by simp [De] at h
 |(true, .xrow _ _)::r,o,[],st,st',h=>by simp [De] at h
 |(true, .part _ _)::r,o,[],st,st',h=>by simp [De] at h
 |(true, .grid _ _ _)::r,o,[],st,st',h=>by simp [De] at h
 |(true, .grid _ _ _)::r,o,a::as,st,st',h=>Lr r o as st st' (by simpa only [De] using h)
 |(false,_)::r,o,[],st,st',h=>by simp [De] at h
 |(true, .dat _)::r,o,a::as,st,st',h=>Lr r o as st st' (by simpa only [De] using h)
 |(false,_)::r,o,a::as,st,st',h=>Lr r o as st st' (by simpa only [De] using h)
 |(true, .row _ _)::r,o,a::as,st,st',h=>by
  simp only [De] at h
  split at h
  ·rename_i hc;exact (Lr r o.2 as _ st' h).trans (Ane hc)
  ·cases h
 |(true, .part _ _)::r,o,a::as,st,st',h=>by
  simp only [De] at h
  split at h
  ·rename_i hc;exact (Lr r o.2 as _ st' h).trans (Azt hc)
  ·cases h
 |(true, .xrow _ _)::r,o,a::as,st,st',h=>by
  simp only [De] at h
  split at h
  ·rename_i hc;exact (Lr r o.2 as _ st' h).trans (Ane hc)
  ·cases h
theorem Aop (st0 st:St) (ls:List Nat) (n:Nat) (hl:st0.tmps.length=st.tmps.length) (h:Ay st0 st):Ay st0 (Acp st0 st ls n):=by
 unfold Acp
 split
 ·exact h
 ·intro t fr τ x hx
  show (Fl _ st0.tmps st.tmps).getD t .undef=_
  rcases Wu ls st0.tmps st.tmps t hl with ⟨k,i,c,h1,_⟩|h1
  ·rw [show st0.tmps.getD t .undef=_ from hx] at h1;cases h1
  ·rw [h1];exact h t fr τ x hx
theorem Asd {st st':St} {d:Option Nat} {s:Be} {args:List AV} {v:AV} (h:Ng st d s args=some (v,st')):Ay st st':=by
 unfold Ng at h
 split at h
 ·cases h
 split at h
 ·cases h
 split at h
 ·cases h
 split at h
 ·split at h
  ·cases h
  split at h
  ·cases h
  rename_i st1 hp
  split at h
  ·cases h
  split at h
  ·simp only [Option.some.injEq,Prod.mk.injEq] at h
   obtain ⟨_,rfl⟩:=h
   have hpt:=Lr _ _ _ _ _ hp
   refine Aop _ _ _ _ ?_ ?_
   ·simp only [Ac9,Ag3]
    rw [←hpt]
    simp only [St.Sf,St.Ew,List.length_map]
   ·refine Ay.trans (Ay.Oh hpt) ?_
    refine Ay.trans (Ig st1 (As _ _) (by simp [As,AC.refs]) fun fr τ x=>by simp [As,AC.refs]) (Ay.Oh Ag3)
  ·cases h
 ·cases h
theorem Th (st:St) (k m:Nat) (b:OB):Ay st (Jl st k m b):=
 (Ig st (As [m,k] []) (by simp [As,AC.refs]) fun fr τ x=>by simp [As,AC.refs]).trans (Ay.Oh rfl)
theorem Asf {T:Tab} {st st':St} {d:Nat} {t:TypeId} {l c v:AV} (h:Nh T st d t l c=some (v,st')):Ay st st':=by
 unfold Nh at h
 split at h
 ·exact Avq h
 ·split at h
  ·split at h
   ·injection h with h;injection h with h1 h2;subst h2;exact Th _ _ _ _
   ·cases h
  ·cases h
theorem Ae6 {T:Tab} {st st':St} {d:Nat} {t:TypeId} {n:Nat} {parts:Array (Nat×Operand)} {v:AV} (h:Dr T st d t n parts=some (v,st')):Ay st st':=by
 unfold Dr at h
 split at h
 ·exact Afk h
 ·repeat' split at h
  all_goals first|(cases h;done)|(injection h with h;injection h with h1 h2;subst h2;exact Th _ _ _ _)
theorem Al8 {T:Tab} {st st':St} {d:Nat} {t:TypeId} {x y:Operand} {v:AV} (h:Ju T st d t x y=some (v,st')):Ay st st':=by
 unfold Ju at h
 split at h
 ·exact Al7 h
 ·repeat' split at h
  all_goals first|(cases h;done)|(injection h with h;injection h with h1 h2;subst h2;exact Th _ _ _ _)
theorem Ul {st st':St} {v:AV} {o:Option AV} (h:o.map (fun v=>(v,st))=some (v,st')):Ay st st':=by
 cases o with
 |none=>cases h
 |some u=>injection h with h;injection h with h1 h2;subst h2;exact Ay.Hg
theorem Pg: ∀(l:List Operand) {st st1:St},Hy l st=some st1→Ay st st1
 | [],st,st1,h=>by
  simp only [Hy,Option.some.injEq] at h
  subst h
  exact Ay.Hg
 |x::r,st,st1,h=>by
  simp only [Hy] at h
  cases hs:settle st (st.ev x) with
  |none=>rw [hs] at h;cases h
  |some p=>
   rw [hs] at h
   exact (Ki (v':=p.1) (st':=p.2) hs).trans (Pg r h)
theorem Adw {T:Tab} {Γ:Env} {st st':St} {o:Oper} {v:AV} (h:evalOp T Γ st o=some (v,st')):Ay st st':=by
 unfold evalOp at h
 split at h
 ·split at h
  ·split at h
   ·injection h with h;injection h with h1 h2;subst h2;exact Gp _ _ _
   ·cases h
  ·injection h with h;injection h with h1 h2;subst h2;exact Ay.Hg
 ·split at h
  ·exact Agu h
  ·cases h
 ·split at h
  ·split at h
   ·exact Agu h
   ·cases h
  ·cases h
 ·rename_i t p x _
  cases hs:Ii T st t (st.ev p) (st.ev x) with
  |none=>rw [hs] at h;cases h
  |some s=>rw [hs] at h;injection h with h;injection h with h1 h2;subst h2;exact Aor hs
 ·split at h
  ·exact Asf h
  ·cases h
 ·split at h
  ·exact Al9 h
  ·cases h
 ·rename_i t m k x _
  cases hs:Ds T st t (st.ev m) (st.ev k) (st.ev x) with
  |none=>rw [hs] at h;cases h
  |some s=>rw [hs] at h;injection h with h;injection h with h1 h2;subst h2;exact Ae8 hs
 ·rename_i t m k x _
  cases hs:Ds T st t (st.ev m) (st.ev k) (st.ev x) with
  |none=>rw [hs] at h;cases h
  |some s=>rw [hs] at h;injection h with h;injection h with h1 h2;subst h2;exact Ae8 hs
 ·split at h
  ·exact Ae6 h
  ·cases h
 ·exact Ul h
 ·split at h
  ·split at h
   ·exact Al8 h
   ·cases h
  ·cases h
 ·split at h
  ·exact Avp h
  ·cases h
 ·split at h
  ·rename_i x t _ _
   cases hs:evalClear T st t (st.ev x) with
   |none=>rw [hs] at h;cases h
   |some s=>rw [hs] at h;injection h with h;injection h with h1 h2;subst h2;exact Ase hs
  ·cases h
 ·split at h
  ·exact Asd h
  ·split at h
   ·rename_i args _ _ _ _ _ _
    cases hs:Hy args.toList st with
    |none=>rw [hs] at h;cases h
    |some st1=>
     rw [hs] at h
     exact (Pg _ hs).trans (Ul h)
   ·exact Ul h
  ·exact Ul h
 ·exact Ul h
def Ji:List Oper→List Nat
 | []=> []
 |o::r=>(match o.dst with|some d=> [d]|none=> [])++Ji r
def writes:Code→List Nat
 | .region _ ops _=>Ji ops.toList
 | .seq a b=>writes a++writes b
 | .cond _ a b=>writes a++writes b
 | .block _ c=>writes c
 | .loop c=>writes c
 |_=> []
def Dz (P:Nat→Prop) (st st':St):Prop:= ∀(t:Nat) (fr:Bool) (τ:Ty) (x:τ.den),P t→st.get t= .at (.data fr τ x)→st'.get t= .at (.data fr τ x)
theorem Dz.trans {P:Nat→Prop} {a b c:St} (h1:Dz P a b) (h2:Dz P b c):Dz P a c:=fun t fr τ x hp h=>h2 t fr τ x hp (h1 t fr τ x hp h)
theorem Dz.mono {P Q:Nat→Prop} {a b:St} (h1:Dz P a b) (h: ∀t,Q t→P t):Dz Q a b:=fun t fr τ x hp hx=>h1 t fr τ x (h t hp) hx
theorem Ay.on {P:Nat→Prop} {a b:St} (h:Ay a b):Dz P a b:=fun t fr τ x _ hx=>h t fr τ x hx
theorem Sj (st:St) (dst:Option Tmp) (v:AV):Dz (fun t=>dst≠some t) st (st.put dst v):=by
 intro t fr τ x hp hx
 cases dst with
 |none=>exact hx
 |some d=>rw [Re st v (fun h=>hp (by rw [h]))];exact hx
theorem Yt {T:Tab} {Γ:Env} {ops:Array Oper} {st st':St} {o:Oper} (h:Bz T Γ ops st o=some st'):Dz (fun t=>o.dst≠some t) st st':=by
 have key: ∀s,(evalOp T Γ st o).map (fun r=>r.2.put o.dst r.1)=some s→Dz (fun t=>o.dst≠some t) st s:=by
  intro s hs
  cases he:evalOp T Γ st o with
  |none=>rw [he] at hs;cases hs
  |some p=>rw [he] at hs;injection hs with hs;subst hs;exact (Adw (v:=p.1) (st':=p.2) he).on.trans (Sj _ _ _)
 unfold Bz at h
 split at h
 ·exact key _ h
 ·split at h
  ·split at h
   ·exact key _ h
   ·injection h with h;subst h;exact Sj _ _ _
  ·injection h with h;subst h;exact Sj _ _ _
  ·cases h
theorem Ab9 {T:Tab} {Γ:Env} {ops:Array Oper} : ∀(l:List Oper) (st st':St),Qa T Γ ops l st=some st'→Dz (fun t=>t∉Ji l) st st'
 | [],st,st',h=>by injection h with h;subst h;exact Ay.Hg.on
 |o::r,st,st',h=>by
  simp only [Qa] at h
  split at h
  ·rename_i s hs
   refine Dz.trans ((Yt hs).mono fun t ht=>?_) ((Ab9 r _ _ h).mono fun t ht=>?_)
   ·intro hd;apply ht;simp [Ji,hd]
   ·intro hd;apply ht;simp [Ji,hd]
  ·cases h
theorem Tk: ∀(l:List Oper) (o:Oper) (d:Nat),o∈l→o.dst=some d→d∈Ji l
 | [],_,_,h,_=>by cases h
 |p::r,o,d,h,hd=>by
  cases h with
  |head=>simp [Ji,hd]
  |tail _ h=>simp only [Ji,List.mem_append];exact .inr (Tk r o d h hd)
theorem An4 {ops:Array Oper} {i:Nat} {o:Oper} (h:ops[i]?=some o):o∈ops.toList:=by
 rw [Array.getElem?_eq_some_iff] at h
 obtain ⟨h1,h2⟩:=h
 rw [←h2]
 simp
theorem Tf {T:Tab} {Γ:Env} {ops:Array Oper} : ∀(l:List Nat) (st st':St),Hp T Γ ops l st=some st'→Dz (fun t=>t∉Ji ops.toList) st st'
 | [],st,st',h=>by injection h with h;subst h;exact Ay.Hg.on
 |i::r,st,st',h=>by
  simp only [Hp] at h
  split at h
  ·cases h
  ·rename_i o ho
   split at h
   ·rename_i s hs
    exact ((Yt hs).mono fun t ht hd=>ht (Tk _ _ _ (An4 ho) hd)).trans (Tf r _ _ h)
   ·cases h
theorem Rb {T:Tab} {Γ:Env} {ops:Array Oper} : ∀(l:List Nat) (st st':St),Dd T Γ ops l st=some st'→Dz (fun t=>t∉Ji ops.toList) st st'
 | [],st,st',h=>by injection h with h;subst h;exact Ay.Hg.on
 |i::r,st,st',h=>by
  simp only [Dd] at h
  split at h
  ·cases h
  ·rename_i o ho
   split at h
   ·exact ((Sj _ _ _).mono fun t ht hd=>ht (Tk _ _ _ (An4 ho) hd)).trans (Rb r _ _ h)
   ·cases h
theorem Xg: ∀(l:List Nat) (st:St),Ay st (Uf l st)
 | [],_=>Ay.Hg
 |a::r,st=>(Ae7 st a).trans (Xg r _)
theorem Ym (live:List Nat): ∀(i:Nat) (l:List AV) (t:Nat),i+t∈live→(Eh live i l).getD t .undef=l.getD t .undef
 |_,[],_,_=>rfl
 |i,v::r,0,h=>by simp [Eh];intro hn;exact absurd h hn
 |i,v::r,t+1,h=>by
  simp only [Eh,List.getD_cons_succ]
  exact Ym live (i+1) r t (by rw [show i+1+t=i+(t+1) by omega];exact h)
theorem Aoq (l k:Nat) (st:St):Ay st (st.rename l k):=by
 unfold St.rename
 split
 ·split
  ·exact (Ig st (Mc l k) rfl fun _ _ _=>rfl).trans (Ay.Oh rfl)
  ·exact Ay.Hg
 ·exact Ay.Hg
theorem Un: ∀(n t:Nat) (st:St),Ay st (Ge n t st)
 |0,_,_=>Ay.Hg
 |n+1,t,st=>by
  simp only [Ge]
  refine Ay.trans ?_ (Un n (t+1) _)
  split
  ·split
   ·split
    ·exact Ay.Hg
    ·exact Aoq _ _ _
   ·exact Ay.Hg
  ·exact Ay.Hg
theorem Aje (t:Nat) (st:St):Ay st (Rq t st):=by
 unfold Rq
 split
 ·rename_i l off len hg
  split
  ·split
   ·intro k fr τ x hk
    have hne:k≠t:=fun e=>by subst e;rw [hg] at hk;cases hk
    rw [Re _ _ hne]
    exact Gp _ _ _ k fr τ x hk
   ·exact Ay.Hg
  ·exact Ay.Hg
 ·exact Ay.Hg
theorem Xi (live:List Nat): ∀(n t:Nat) (st:St),Ay st (Hx live n t st)
 |0,_,_=>Ay.Hg
 |n+1,t,st=>by
  simp only [Hx]
  refine Ay.trans ?_ (Xi live n (t+1) _)
  split
  ·exact Aje _ _
  ·exact Ay.Hg
theorem Abg (live:List Nat) (st:St):Dz (fun t=>t∈live) st (st.clean live):=by
 intro t fr τ x hp hx
 unfold St.clean
 have key: ∀s:St,s.get t= .at (.data fr τ x)→(if live.contains So then Ge s.tmps.length 0 s else s).get t= .at (.data fr τ x):=by
  intro s hs
  split
  ·exact Un _ _ s t fr τ x hs
  ·exact hs
 have key0: ∀s:St,s.get t= .at (.data fr τ x)→(if live.any (fun t=>Nat.ble Pc t) then s.Dt live else s).get t= .at (.data fr τ x):=by
  intro s hs
  split<;>exact hs
 have key1: ∀s:St,s.get t= .at (.data fr τ x)→(if live.any (fun t=>Nat.ble Ka t&&Nat.blt t So) then Hx live s.tmps.length 0 s else s).get t= .at (.data fr τ x):=by
  intro s hs
  split
  ·exact Xi _ _ _ s t fr τ x hs
  ·exact hs
 refine key0 _ (key _ (key1 _ (Xg _ _ t fr τ x ?_)))
 simp only [St.get] at hx⊢
 rw [Ym live 0 st.tmps t (by simpa using hp)]
 exact hx
def Rg (live:Nat→List Nat):Code→Nat→Bool
 | .seq a b,t=>Rg live a t&&Rg live b t
 | .cond _ a b,t=>Rg live a t&&Rg live b t
 | .block _ c,t=>Rg live c t
 | .loop c,t=>(live (Bw c)).contains t&&Rg live c t
 |_,_=>true
theorem Af5 {a b:Bool} (h:(a&&b)=true):a=true:=by cases a<;>simp_all
theorem Aca {a b:Bool} (h:(a&&b)=true):b=true:=by cases a<;>simp_all
theorem Afa {T:Tab} {Γ:Env} {ops:Array Oper} {draw:Bool} {st st':St} (h:Jv T Γ ops draw st=some st'):Dz (fun t=>t∉writes (.region 0 ops draw)) st st':=by
 unfold Jv at h
 have go: ∀q,(match Dd T Γ ops (Aao q Γ ops) st with
   |some s=>Hp T Γ ops (Ea q Γ ops) s
   |none=>none)=some st'→Dz (fun t=>t∉writes (.region 0 ops draw)) st st':=by
  intro q h
  split at h
  ·rename_i s hs
   exact (Rb _ _ _ hs).trans (Tf _ _ _ h)
  ·cases h
 split at h
 ·split at h
  ·exact go false h
  ·split at h
   ·exact go true h
   ·cases h
 ·exact Ab9 _ _ _ h
theorem Aif {T:Tab} {Γ:Env} {ops:Array Oper} {draw:Bool} {K:St→Prop} (s0:St): ∀(f:Nat) (listed:Array Bool) (st:St),Dz (fun t=>t∉writes (.region 0 ops draw)) s0 st→anyS T Γ ops K f listed st→anyS T Γ ops (fun s=>K s∧Dz (fun t=>t∉writes (.region 0 ops draw)) s0 s) f listed st
 |0,_,_,hk,h=>⟨h.1,h.2,hk⟩
 |f+1,listed,st,hk,h=>⟨h.1,fun i hi=>by
  obtain ⟨o,st',h1,h2,h3⟩:=h.2 i hi
  have h4:Hp T Γ ops [i] st=some st':=by simp only [Hp,h1,h2]
  exact ⟨o,st',h1,h2,Aif s0 f _ _ (hk.trans (Tf _ _ _ h4)) h3⟩⟩
theorem Anx.keeps {T:Tab} {Γ:Env} {ops:Array Oper} {draw:Bool} {st:St} {K:St→Prop} (h:Anx T Γ ops draw st K):Anx T Γ ops draw st (fun s=>K s∧Dz (fun t=>t∉writes (.region 0 ops draw)) st s):=by
 rcases h with ⟨st',h1,h2⟩|⟨h1,h2,st0,h3,h4⟩
 ·exact .inl ⟨st',h1,h2,Afa h1⟩
 ·exact .inr ⟨h1,h2,st0,h3,Aif st _ _ _ (Rb _ _ _ h3) h4⟩
theorem Awp {T:Tab} {Γ:Env} {live:Nat→List Nat} {c:Code} {st:St} {Q:Fg→St→Prop} (h:Hl T Γ live c st Q): ∀(s0:St) (p:Nat→Prop),Dz p s0 st→(∀t,p t→t∉writes c∧Rg live c t=true)→Hl T Γ live c st (fun e s=>Q e s∧Dz p s0 s):=by
 induction h with
 |skip h=>exact fun s0 p hk _=> .skip ⟨h,hk⟩
 |label h=>exact fun s0 p hk _=> .label ⟨h,hk⟩
 |exit h=>exact fun s0 p hk _=> .exit ⟨h,hk⟩
 |ret h=>exact fun s0 p hk _=> .ret ⟨h,hk⟩
 |region h=>
  exact fun s0 p hk hp=> .region (h.keeps.mono fun s hs=>⟨hs.1,hk.trans (hs.2.mono fun t ht=>(hp t ht).1)⟩)
 |seq Q1 _ _ h3 ih1 ih2=>
  exact fun s0 p hk hp=> .seq _ (ih1 s0 p hk fun t ht=>⟨fun hm=>(hp t ht).1 (by simp [writes,hm]),Af5 (hp t ht).2⟩)
   (fun s hs=>ih2 s hs.1 s0 p hs.2 fun t ht=>⟨fun hm=>(hp t ht).1 (by simp [writes,hm]),Aca (hp t ht).2⟩) fun e s he hs=>⟨h3 e s he hs.1,hs.2⟩
 |cond hc _ _ ih1 ih2=>
  exact fun s0 p hk hp=> .cond hc (fun ht=>ih1 ht s0 p hk fun t h=>⟨fun hm=>(hp t h).1 (by simp [writes,hm]),Af5 (hp t h).2⟩)
   fun ht=>ih2 ht s0 p hk fun t h=>⟨fun hm=>(hp t h).1 (by simp [writes,hm]),Aca (hp t h).2⟩
 |block Q1 _ h2 ih=>
  exact fun s0 p hk hp=> .block _ (ih s0 p hk fun t ht=>⟨fun hm=>(hp t ht).1 (by simpa [writes] using hm),by simpa [Rg] using (hp t ht).2⟩) fun e s hs=>by
   have h:=h2 e s hs.1
   cases e with
   |normal=>exact ⟨h,hs.2⟩
   |ret=>exact ⟨h,hs.2⟩
   |exit id'=>
    simp only [Amq] at h⊢
    split at h
    ·rename_i hi;rw [if_pos hi];exact ⟨h,hs.2⟩
    ·rename_i hi;rw [if_neg hi];exact ⟨h,hs.2⟩
 |loop Q1 _ _ h3 ih1 ih2=>
  intro s0 p hk hp
  refine .loop _ (ih1 s0 p (hk.trans ((Abg _ _).mono fun t ht=>by simpa using Af5 (hp t ht).2)) fun t ht=>⟨fun hm=>(hp t ht).1 (by simpa [writes] using hm),Aca (hp t ht).2⟩)
   (fun s hs=>ih2 s hs.1 s0 p hs.2 hp) fun e s he hs=>⟨h3 e s he hs.1,hs.2⟩
end Go.Proofs.Ytebabhocakedaaa
