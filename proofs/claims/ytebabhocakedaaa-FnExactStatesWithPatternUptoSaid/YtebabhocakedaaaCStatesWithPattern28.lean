/-
  Part 29 of the proof that the statement FnExactStatesWithPattern holds.
-/
import Derived.Test.YtebabhocakedaaaCStatesWithPattern27
namespace Go.Proofs.Ytebabhocakedaaa
open Go.RowKit
def Av (st st':St):Prop:= ∀(t:Nat) (fr:Bool) (τ:Ty) (x:τ.den),st.get t= .at (.data fr τ x)→st'.get t= .at (.data fr τ x)
theorem Av.Gu {st:St} :Av st st:=fun _ _ _ _ h=>h
theorem Av.trans {a b c:St} (h1:Av a b) (h2:Av b c):Av a c:=fun t fr τ x h=>h2 t fr τ x (h1 t fr τ x h)
theorem Av.Ng {a b:St} (h:b.tmps=a.tmps):Av a b:=fun t fr τ x hx=>by
 simp only [St.get] at hx⊢
 rw [h]
 exact hx
theorem Qf (st:St) {t d:Nat} (v:AV) (h:t≠d):(st.put (some d) v).get t=st.get t:=by
 simp only [St.put,St.get]
 rw [Pr]
 rw [if_neg (by rintro ⟨rfl,_⟩;exact h rfl)]
theorem Hp (st:St) (f:AC→AC) (hu:f .undef= .undef) (hd: ∀fr (τ:Ty) (x:τ.den),f (.data fr τ x)= .data fr τ x):Av st (st.Es f):=by
 intro t fr τ x h
 simp only [St.Es,St.get]
 rw [No f hu,show st.tmps.getD t .undef=_ from h]
 simp only [AV.map,hd]
theorem Adc (st:St) (l:Nat):Av st (st.forget l):=
 (Hp st (At l) rfl fun _ _ _=>rfl).trans (Av.Ng rfl)
theorem Oy (st:St) (l:Nat) (fr:Bool) (e:Ty) (xs:List e.den):Av st (st.freeze l fr e xs):=
 (Hp st (Au l fr e xs) rfl fun _ _ _=>rfl).trans (Av.Ng rfl)
theorem Wk (st:St) (l:Nat) (v:Ty) (m:ByteArray→Option v.den):Av st (st.Dl l v m):=
 (Hp st (Cq l v m) rfl fun _ _ _=>rfl).trans (Av.Ng rfl)
theorem Gf (st:St) (l:Nat) (b:OB):Av st (st.new l b):=(Adc st l).trans (Av.Ng rfl)
theorem Gs (st:St) (l:Nat) (b:OB):Av st (st.El l b):=Av.Ng rfl
theorem To (b:OB) (key l i:Nat) (st:St):Av st (Ks b key l i st):=by
 unfold Ks
 split
 ·split
  ·dsimp only
   split
   ·exact (Gf _ _ _).trans (Gs _ _ _)
   ·exact Gf _ _ _
  ·exact Av.Gu
 ·exact Av.Gu
theorem Aao (T:Tab) (l:Nat) (t:TypeId) (τ:Ty): ∀(n i:Nat) (st:St),Av st (Vk T l t τ n i st)
 |0,_,_=>Av.Gu
 |n+1,i,st=>by
  simp only [Vk]
  refine Av.trans ?_ (Aao T l t τ n (i+1) _)
  split
  ·exact To _ _ _ _ _
  ·exact Av.Gu
theorem Yc (T:Tab) (l off:Nat) (t:TypeId) (τ:Ty): ∀(n i:Nat) (st:St),Av st (Tu T l off t τ n i st)
 |0,_,_=>Av.Gu
 |n+1,i,st=>by
  simp only [Tu]
  refine Av.trans ?_ (Yc T l off t τ n (i+1) _)
  split
  ·exact To _ _ _ _ _
  ·exact Av.Gu
theorem It: ∀(n:Nat) (st:St) (cs cs':List AC) (st':St),Cv n st cs=some (cs',st')→Av st st'
 |0,st,cs,cs',st',h=>by
  simp only [Cv] at h
  split at h
  ·injection h with h;injection h with h1 h2;subst h2;exact Av.Gu
  ·cases h
 |n+1,st,cs,cs',st',h=>by
  simp only [Cv] at h
  split at h
  ·injection h with h;injection h with h1 h2;subst h2;exact Av.Gu
  ·split at h
   ·exact (Oy _ _ _ _ _).trans (It n _ _ _ _ h)
   ·exact (Oy _ _ _ _ _).trans (It n _ _ _ _ h)
   ·cases h
  ·split at h
   ·exact (Wk _ _ _ _).trans (It n _ _ _ _ h)
   ·cases h
  ·cases h
theorem Jj {st st':St} {v v':AV} (h:settle st v=some (v',st')):Av st st':=by
 unfold settle at h
 split at h
 ·split at h
  ·injection h with h;injection h with h1 h2;subst h2;exact Oy _ _ _ _ _
  ·injection h with h;injection h with h1 h2;subst h2;exact Oy _ _ _ _ _
  ·cases h
 ·split at h
  ·injection h with h;injection h with h1 h2;subst h2;exact Wk _ _ _ _
  ·cases h
 ·split at h
  ·injection h with h;injection h with h1 h2;subst h2;exact Av.Gu
  ·cases h
 ·rename_i cs
  cases hs:Cv cs.length st cs with
  |none=>rw [hs] at h;cases h
  |some p=>rw [hs] at h;injection h with h;injection h with h1 h2;subst h2;exact It _ _ _ _ _ hs
 ·injection h with h;injection h with h1 h2;subst h2;exact Av.Gu
 ·cases h
theorem Ag2 {T:Tab} {st st':St} {l:Nat} {t:TypeId} {τ:Ty} {cs:List AC} {v:AV} (h:mkVar T st l t τ cs=some (v,st')):Av st st':=by
 unfold mkVar at h
 split at h
 ·cases h
 dsimp only at h
 split at h
 ·injection h with h;injection h with h1 h2;subst h2;exact (Gf _ _ _).trans (Aao _ _ _ _ _ _ _)
 ·cases h
theorem Ar7 {T:Tab} {st st':St} {t:TypeId} {p v:AV} (h:Kw T st t p v=some st'):Av st st':=by
 unfold Kw at h
 split at h
 ·split at h
  ·split at h
   ·injection h with h
    split at h
    ·subst h;exact (Gs _ _ _).trans (Yc _ _ _ _ _ _ _ _)
    ·subst h;exact Gs _ _ _
   ·cases h
  ·cases h
 ·split at h
  ·rename_i hs
   split at h
   ·split at h
    ·split at h
     ·injection h with h;subst h;exact (Jj hs).trans (Gs _ _ _)
     ·cases h
    ·cases h
   ·cases h
  ·cases h
 ·cases h
theorem Aij (st:St) (l j m:Nat) (e:Ty) (te:TypeId) (rows:List (List e.den)) (xs:List e.den) (kp:Option (Nat×Nat)):Av st (Kc st l j m e te rows xs kp):=
 ((Hp st (Ap [m] [l]) (by simp [Ap,AC.refs]) fun fr τ x=>by simp [Ap,AC.refs]).trans (Av.Ng rfl)).trans (Gs (st.Rg [m] [l]) _ _)
theorem Aik (st:St) (l i m:Nat) (e:Ty) (te tid:TypeId) (rows:List (List e.den)) (kp:Option (Nat×Nat)):Av st (Ia st l i m e te tid rows kp):=
 (Gs st l _).trans (Gf _ m _)
theorem Ao2 {T:Tab} {st st':St} {t:TypeId} {p v:AV} (h:Hr T st t p v=some st'):Av st st':=by
 unfold Hr at h
 split at h
 rotate_left
 ·exact Ar7 h
 unfold Qe at h
 split at h
 ·split at h
  ·rename_i hs
   split at h
   ·split at h
    ·injection h with h;subst h;exact (Jj hs).trans (Gs _ _ _)
    ·cases h
   ·cases h
  ·cases h
 ·split at h
  ·split at h
   ·split at h
    ·injection h with h;subst h
     exact Aij _ _ _ _ _ _ _ _ _
    ·cases h
   ·cases h
  ·cases h
 ·cases h
theorem Vb {T:Tab} {st st':St} {d:Nat} {t:TypeId} {x y:Operand} {v:AV} (h:Gq T st d t x y=some (v,st')):Av st st':=by
 unfold Gq at h
 split at h
 ·cases h
 ·split at h
  ·rename_i hs
   split at h
   ·cases h
   ·split at h
    ·split at h
     ·injection h with h;injection h with h1 h2;subst h2;exact ((Jj hs).trans (Gf _ _ _)).trans (Gf _ _ _)
     ·cases h
    ·split at h
     ·split at h
      ·split at h
       ·injection h with h;injection h with h1 h2;subst h2;exact (Jj hs).trans (Gf _ _ _)
       ·cases h
      ·cases h
     ·cases h
    ·cases h
  ·cases h
theorem Akc {T:Tab} {st st':St} {d:Nat} {t:TypeId} {x y:Operand} {v:AV} (h:Iw T st d t x y=some (v,st')):Av st st':=by
 unfold Iw at h
 split at h
 ·rename_i tx
  split at h
  ·rename_i l i c hg
   split at h
   ·split at h
    ·rename_i e te rows kp tid hl ht hc
     refine Av.trans (b:=(Ia st l i d e te tid rows kp).put (some tx) (.at (.own d 0 (rows.getD i []).length))) ?_ (Vb h)
     intro t' fr τ z hz
     by_cases e':t'=tx
     ·subst e';rw [hg] at hz;cases hz
     ·rw [Qf _ _ e'];exact Aik st l i d e te tid rows kp t' fr τ z hz
    ·cases h
   ·cases h
  ·exact Vb h
 ·exact Vb h
theorem Auc {T:Tab} {st st':St} {d:Nat} {t:TypeId} {l c v:AV} (h:Qb T st d t l c=some (v,st')):Av st st':=by
 unfold Qb at h
 split at h
 ·split at h
  ·split at h
   ·injection h with h;injection h with h1 h2;subst h2;exact Gf _ _ _
   ·cases h
  ·cases h
 ·cases h
theorem Ag3 (e:Ty): ∀(l:List (Nat×Operand)) (i:Nat) (st st':St) (fr tr:Bool) (ys:List e.den),Ex e i l st=some (fr,tr,ys,st')→Av st st'
 | [],_,_,_,_,_,_,h=>by
  simp only [Ex] at h
  injection h with h;injection h with h1 h2;injection h2 with h2 h3;injection h3 with h3 h4;subst h4;exact Av.Gu
 |(j,x)::r,i,st,st',fr,tr,ys,h=>by
  simp only [Ex] at h
  split at h
  ·split at h
   ·rename_i hs
    split at h
    ·split at h
     ·rename_i hp
      injection h with h;injection h with h1 h2;injection h2 with h2 h3;injection h3 with h3 h4;subst h4
      exact (Jj hs).trans (Ag3 e r _ _ _ _ _ _ hp)
     ·cases h
    ·cases h
   ·cases h
  ·cases h
theorem Aet {T:Tab} {st st':St} {d:Nat} {t:TypeId} {n:Nat} {parts:Array (Nat×Operand)} {v:AV} (h:Fo T st d t n parts=some (v,st')):Av st st':=by
 unfold Fo at h
 split at h
 ·cases h
 ·split at h
  ·cases h
  ·split at h
   ·split at h
    ·rename_i hp
     injection h with h;injection h with h1 h2;subst h2;exact (Ag3 _ _ _ _ _ _ _ _ hp).trans (Gf _ _ _)
    ·cases h
   ·cases h
theorem Ake {T:Tab} {st st':St} {d:Nat} {t:TypeId} {v:AV} (h:Kv T st d t=some (v,st')):Av st st':=by
 unfold Kv at h
 split at h
 ·split at h
  ·injection h with h;injection h with h1 h2;subst h2;exact Gf _ _ _
  ·cases h
 ·cases h
theorem Ade {T:Tab} {st st':St} {t:TypeId} {m k x:AV} (h:Du T st t m k x=some st'):Av st st':=by
 unfold Du at h
 split at h
 ·split at h
  ·split at h
   ·injection h with h;subst h;exact Gs _ _ _
   ·cases h
  ·cases h
 ·cases h
theorem Aub {T:Tab} {st st':St} {t t':TypeId} {x y v:AV} (h:Xs T st t t' x y=some (v,st')):Av st st':=by
 unfold Xs at h
 split at h
 ·split at h
  ·split at h
   ·split at h
    ·injection h with h;injection h with h1 h2;subst h2;exact Gs _ _ _
    ·cases h
   ·cases h
  ·cases h
 ·cases h
theorem Ar5 {T:Tab} {st st':St} {t:TypeId} {x:AV} (h:evalClear T st t x=some st'):Av st st':=by
 unfold evalClear at h
 split at h
 ·split at h
  ·split at h
   ·split at h
    ·injection h with h;subst h;exact Gs _ _ _
    ·cases h
   ·cases h
  ·cases h
 ·cases h
theorem Amm {st st':St} {c:CK} {ys:c.den} {a:AC} (h:Qz st c ys a=some st'):st'.tmps=st.tmps:=by
 unfold Qz at h
 repeat' split at h
 all_goals first|(cases h;done)|(simp only [Option.some.injEq] at h;subst h;rfl)|skip
theorem Axz {st st':St} {e:Ty} {ys:List e.den} {a:AC} (h:Av1 st e ys a=some st'):st'.tmps=st.tmps:=by
 unfold Av1 at h
 repeat' split at h
 all_goals first|(cases h;done)|(simp only [Option.some.injEq] at h;subst h;rfl)|skip
theorem Kt: ∀(cs:List (Bool×CK)) (o:IOs.den cs) (as:List AC) (st st':St),De cs o as st=some st'→st'.tmps=st.tmps
 | [],_,_,st,st',h=>by simp only [De,Option.some.injEq] at h;subst h;rfl
 |(true, .dat _)::r,o,[],st,st',h=>by simp [De] at h
 |(true, .row _ _)::r,o,[],st,st',h=>by simp [De] at h
 |(true, .xrow _ _)::r,o,[],st,st',h=>by simp [De] at h
 |(true, .part _ _)::r,o,[],st,st',h=>by simp [De] at h
 |(true, .grid _ _ _)::r,o,[],st,st',h=>by simp [De] at h
 |(true, .grid _ _ _)::r,o,a::as,st,st',h=>Kt r o as st st' (by simpa only [De] using h)
 |(false,_)::r,o,[],st,st',h=>by simp [De] at h
 |(true, .dat _)::r,o,a::as,st,st',h=>Kt r o as st st' (by simpa only [De] using h)
 |(false,_)::r,o,a::as,st,st',h=>Kt r o as st st' (by simpa only [De] using h)
 |(true, .row _ _)::r,o,a::as,st,st',h=>by
  simp only [De] at h
  split at h
  ·rename_i hc;exact (Kt r o.2 as _ st' h).trans (Amm hc)
  ·cases h
 |(true, .part _ _)::r,o,a::as,st,st',h=>by
  simp only [De] at h
  split at h
  ·rename_i hc;exact (Kt r o.2 as _ st' h).trans (Axz hc)
  ·cases h
 |(true, .xrow _ _)::r,o,a::as,st,st',h=>by
  simp only [De] at h
  split at h
  ·rename_i hc;exact (Kt r o.2 as _ st' h).trans (Amm hc)
  ·cases h
theorem Ao0 (st0 st:St) (ls:List Nat) (n:Nat) (hl:st0.tmps.length=st.tmps.length) (h:Av st0 st):Av st0 (Abv st0 st ls n):=by
 unfold Abv
 split
 ·exact h
 ·intro t fr τ x hx
  show (Fc _ st0.tmps st.tmps).getD t .undef=_
  rcases Vx ls st0.tmps st.tmps t hl with ⟨k,i,c,h1,_⟩|h1
  ·rw [show st0.tmps.getD t .undef=_ from hx] at h1;cases h1
  ·rw [h1];exact h t fr τ x hx
theorem Ar4 {st st':St} {d:Option Nat} {s:Bn} {args:List AV} {v:AV} (h:Mh st d s args=some (v,st')):Av st st':=by
 unfold Mh at h
 split at h
 ·cases h
 split at h
 ·cases h
 split at h
 ·cases h
 split at h
 ·split at h
  ·cases h
  split at h
  ·cases h
  rename_i st1 hp
  split at h
  ·cases h
  split at h
  ·simp only [Option.some.injEq,Prod.mk.injEq] at h
   obtain ⟨_,rfl⟩:=h
   have hpt:=Kt _ _ _ _ _ hp
   refine Ao0 _ _ _ _ ?_ ?_
   ·simp only [Abg,Afe]
    rw [←hpt]
    simp only [St.Rg,St.Es,List.length_map]
   ·refine Av.trans (Av.Ng hpt) ?_
    refine Av.trans (Hp st1 (Ap _ _) (by simp [Ap,AC.refs]) fun fr τ x=>by simp [Ap,AC.refs]) (Av.Ng Afe)
  ·cases h
 ·cases h
theorem Sk (st:St) (k m:Nat) (b:OB):Av st (Is st k m b):=
 (Hp st (Ap [m,k] []) (by simp [Ap,AC.refs]) fun fr τ x=>by simp [Ap,AC.refs]).trans (Av.Ng rfl)
theorem Ar6 {T:Tab} {st st':St} {d:Nat} {t:TypeId} {l c v:AV} (h:Mi T st d t l c=some (v,st')):Av st st':=by
 unfold Mi at h
 split at h
 ·exact Auc h
 ·split at h
  ·split at h
   ·injection h with h;injection h with h1 h2;subst h2;exact Sk _ _ _ _
   ·cases h
  ·cases h
theorem Adb {T:Tab} {st st':St} {d:Nat} {t:TypeId} {n:Nat} {parts:Array (Nat×Operand)} {v:AV} (h:Dq T st d t n parts=some (v,st')):Av st st':=by
 unfold Dq at h
 split at h
 ·exact Aet h
 ·repeat' split at h
  all_goals first|(cases h;done)|(injection h with h;injection h with h1 h2;subst h2;exact Sk _ _ _ _)
theorem Akd {T:Tab} {st st':St} {d:Nat} {t:TypeId} {x y:Operand} {v:AV} (h:Ix T st d t x y=some (v,st')):Av st st':=by
 unfold Ix at h
 split at h
 ·exact Akc h
 ·repeat' split at h
  all_goals first|(cases h;done)|(injection h with h;injection h with h1 h2;subst h2;exact Sk _ _ _ _)
theorem Tn {st st':St} {v:AV} {o:Option AV} (h:o.map (fun v=>(v,st))=some (v,st')):Av st st':=by
 cases o with
 |none=>cases h
 |some u=>injection h with h;injection h with h1 h2;subst h2;exact Av.Gu
theorem Oc: ∀(l:List Operand) {st st1:St},Hj l st=some st1→Av st st1
 | [],st,st1,h=>by
  simp only [Hj,Option.some.injEq] at h
  subst h
  exact Av.Gu
 |x::r,st,st1,h=>by
  simp only [Hj] at h
  cases hs:settle st (st.ev x) with
  |none=>rw [hs] at h;cases h
  |some p=>
   rw [hs] at h
   exact (Jj (v':=p.1) (st':=p.2) hs).trans (Oc r h)
theorem Ad1 {T:Tab} {Γ:Env} {st st':St} {o:Oper} {v:AV} (h:evalOp T Γ st o=some (v,st')):Av st st':=by
 unfold evalOp at h
 split at h
 ·split at h
  ·split at h
   ·injection h with h;injection h with h1 h2;subst h2;exact Gf _ _ _
   ·cases h
  ·injection h with h;injection h with h1 h2;subst h2;exact Av.Gu
 ·split at h
  ·exact Ag2 h
  ·cases h
 ·split at h
  ·split at h
   ·exact Ag2 h
   ·cases h
  ·cases h
 ·rename_i t p x _
  cases hs:Hr T st t (st.ev p) (st.ev x) with
  |none=>rw [hs] at h;cases h
  |some s=>rw [hs] at h;injection h with h;injection h with h1 h2;subst h2;exact Ao2 hs
 ·split at h
  ·exact Ar6 h
  ·cases h
 ·split at h
  ·exact Ake h
  ·cases h
 ·rename_i t m k x _
  cases hs:Du T st t (st.ev m) (st.ev k) (st.ev x) with
  |none=>rw [hs] at h;cases h
  |some s=>rw [hs] at h;injection h with h;injection h with h1 h2;subst h2;exact Ade hs
 ·rename_i t m k x _
  cases hs:Du T st t (st.ev m) (st.ev k) (st.ev x) with
  |none=>rw [hs] at h;cases h
  |some s=>rw [hs] at h;injection h with h;injection h with h1 h2;subst h2;exact Ade hs
 ·split at h
  ·exact Adb h
  ·cases h
 ·exact Tn h
 ·split at h
  ·split at h
   ·exact Akd h
   ·cases h
  ·cases h
 ·split at h
  ·exact Aub h
  ·cases h
 ·split at h
  ·rename_i x t _ _
   cases hs:evalClear T st t (st.ev x) with
   |none=>rw [hs] at h;cases h
   |some s=>rw [hs] at h;injection h with h;injection h with h1 h2;subst h2;exact Ar5 hs
  ·cases h
 ·split at h
  ·exact Ar4 h
  ·split at h
   ·rename_i args _ _ _ _ _ _
    cases hs:Hj args.toList st with
    |none=>rw [hs] at h;cases h
    |some st1=>
     rw [hs] at h
     exact (Oc _ hs).trans (Tn h)
   ·exact Tn h
  ·exact Tn h
 ·exact Tn h
def Ip:List Oper→List Nat
 | []=> []
 |o::r=>(match o.dst with|some d=> [d]|none=> [])++Ip r
def writes:Code→List Nat
 | .region _ ops _=>Ip ops.toList
 | .seq a b=>writes a++writes b
 | .cond _ a b=>writes a++writes b
 | .block _ c=>writes c
 | .loop c=>writes c
 |_=> []
def Ea (P:Nat→Prop) (st st':St):Prop:= ∀(t:Nat) (fr:Bool) (τ:Ty) (x:τ.den),P t→st.get t= .at (.data fr τ x)→st'.get t= .at (.data fr τ x)
theorem Ea.trans {P:Nat→Prop} {a b c:St} (h1:Ea P a b) (h2:Ea P b c):Ea P a c:=fun t fr τ x hp h=>h2 t fr τ x hp (h1 t fr τ x hp h)
theorem Ea.mono {P Q:Nat→Prop} {a b:St} (h1:Ea P a b) (h: ∀t,Q t→P t):Ea Q a b:=fun t fr τ x hp hx=>h1 t fr τ x (h t hp) hx
theorem Av.on {P:Nat→Prop} {a b:St} (h:Av a b):Ea P a b:=fun t fr τ x _ hx=>h t fr τ x hx
theorem Rj (st:St) (dst:Option Tmp) (v:AV):Ea (fun t=>dst≠some t) st (st.put dst v):=by
 intro t fr τ x hp hx
 cases dst with
 |none=>exact hx
 |some d=>rw [Qf st v (fun h=>hp (by rw [h]))];exact hx
theorem Xt {T:Tab} {Γ:Env} {ops:Array Oper} {st st':St} {o:Oper} (h:Bw T Γ ops st o=some st'):Ea (fun t=>o.dst≠some t) st st':=by
 have key: ∀s,(evalOp T Γ st o).map (fun r=>r.2.put o.dst r.1)=some s→Ea (fun t=>o.dst≠some t) st s:=by
  intro s hs
  cases he:evalOp T Γ st o with
  |none=>rw [he] at hs;cases hs
  |some p=>rw [he] at hs;injection hs with hs;subst hs;exact (Ad1 (v:=p.1) (st':=p.2) he).on.trans (Rj _ _ _)
 unfold Bw at h
 split at h
 ·exact key _ h
 ·split at h
  ·split at h
   ·exact key _ h
   ·injection h with h;subst h;exact Rj _ _ _
  ·injection h with h;subst h;exact Rj _ _ _
  ·cases h
theorem Aag {T:Tab} {Γ:Env} {ops:Array Oper} : ∀(l:List Oper) (st st':St),Ov T Γ ops l st=some st'→Ea (fun t=>t∉Ip l) st st'
 | [],st,st',h=>by injection h with h;subst h;exact Av.Gu.on
 |o::r,st,st',h=>by
  simp only [Ov] at h
  split at h
  ·rename_i s hs
   refine Ea.trans ((Xt hs).mono fun t ht=>?_) ((Aag r _ _ h).mono fun t ht=>?_)
   ·intro hd;apply ht;simp [Ip,hd]
   ·intro hd;apply ht;simp [Ip,hd]
  ·cases h
theorem So: ∀(l:List Oper) (o:Oper) (d:Nat),o∈l→o.dst=some d→d∈Ip l
 | [],_,_,h,_=>by cases h
 |p::r,o,d,h,hd=>by
  cases h with
  |head=>simp [Ip,hd]
  |tail _ h=>simp only [Ip,List.mem_append];exact .inr (So r o d h hd)
theorem Amd {ops:Array Oper} {i:Nat} {o:Oper} (h:ops[i]?=some o):o∈ops.toList:=by
 rw [Array.getElem?_eq_some_iff] at h
 obtain ⟨h1,h2⟩:=h
 rw [←h2]
 simp
theorem Sj {T:Tab} {Γ:Env} {ops:Array Oper} : ∀(l:List Nat) (st st':St),Gz T Γ ops l st=some st'→Ea (fun t=>t∉Ip ops.toList) st st'
 | [],st,st',h=>by injection h with h;subst h;exact Av.Gu.on
 |i::r,st,st',h=>by
  simp only [Gz] at h
  split at h
  ·cases h
  ·rename_i o ho
   split at h
   ·rename_i s hs
    exact ((Xt hs).mono fun t ht hd=>ht (So _ _ _ (Amd ho) hd)).trans (Sj r _ _ h)
   ·cases h
theorem Qc {T:Tab} {Γ:Env} {ops:Array Oper} : ∀(l:List Nat) (st st':St),Dc T Γ ops l st=some st'→Ea (fun t=>t∉Ip ops.toList) st st'
 | [],st,st',h=>by injection h with h;subst h;exact Av.Gu.on
 |i::r,st,st',h=>by
  simp only [Dc] at h
  split at h
  ·cases h
  ·rename_i o ho
   split at h
   ·exact ((Rj _ _ _).mono fun t ht hd=>ht (So _ _ _ (Amd ho) hd)).trans (Qc r _ _ h)
   ·cases h
theorem Wj: ∀(l:List Nat) (st:St),Av st (Th l st)
 | [],_=>Av.Gu
 |a::r,st=>(Adc st a).trans (Wj r _)
theorem Xm (live:List Nat): ∀(i:Nat) (l:List AV) (t:Nat),i+t∈live→(Ej live i l).getD t .undef=l.getD t .undef
 |_,[],_,_=>rfl
 |i,v::r,0,h=>by simp [Ej];intro hn;exact absurd h hn
 |i,v::r,t+1,h=>by
  simp only [Ej,List.getD_cons_succ]
  exact Xm live (i+1) r t (by rw [show i+1+t=i+(t+1) by omega];exact h)
theorem Ao1 (l k:Nat) (st:St):Av st (st.rename l k):=by
 unfold St.rename
 split
 ·split
  ·exact (Hp st (Lc l k) rfl fun _ _ _=>rfl).trans (Av.Ng rfl)
  ·exact Av.Gu
 ·exact Av.Gu
theorem Tp: ∀(n t:Nat) (st:St),Av st (Fu n t st)
 |0,_,_=>Av.Gu
 |n+1,t,st=>by
  simp only [Fu]
  refine Av.trans ?_ (Tp n (t+1) _)
  split
  ·split
   ·split
    ·exact Av.Gu
    ·exact Ao1 _ _ _
   ·exact Av.Gu
  ·exact Av.Gu
theorem Ail (t:Nat) (st:St):Av st (Qq t st):=by
 unfold Qq
 split
 ·rename_i l off len hg
  split
  ·split
   ·intro k fr τ x hk
    have hne:k≠t:=fun e=>by subst e;rw [hg] at hk;cases hk
    rw [Qf _ _ hne]
    exact Gf _ _ _ k fr τ x hk
   ·exact Av.Gu
  ·exact Av.Gu
 ·exact Av.Gu
theorem Wl (live:List Nat): ∀(n t:Nat) (st:St),Av st (Hi live n t st)
 |0,_,_=>Av.Gu
 |n+1,t,st=>by
  simp only [Hi]
  refine Av.trans ?_ (Wl live n (t+1) _)
  split
  ·exact Ail _ _
  ·exact Av.Gu
theorem Aan (live:List Nat) (st:St):Ea (fun t=>t∈live) st (st.clean live):=by
 intro t fr τ x hp hx
 unfold St.clean
 have key: ∀s:St,s.get t= .at (.data fr τ x)→(if live.contains Rp then Fu s.tmps.length 0 s else s).get t= .at (.data fr τ x):=by
  intro s hs
  split
  ·exact Tp _ _ s t fr τ x hs
  ·exact hs
 have key0: ∀s:St,s.get t= .at (.data fr τ x)→(if live.any (fun t=>Nat.ble Nz t) then s.Dv live else s).get t= .at (.data fr τ x):=by
  intro s hs
  split<;>exact hs
 have key1: ∀s:St,s.get t= .at (.data fr τ x)→(if live.any (fun t=>Nat.ble Jc t&&Nat.blt t Rp) then Hi live s.tmps.length 0 s else s).get t= .at (.data fr τ x):=by
  intro s hs
  split
  ·exact Wl _ _ _ s t fr τ x hs
  ·exact hs
 refine key0 _ (key _ (key1 _ (Wj _ _ t fr τ x ?_)))
 simp only [St.get] at hx⊢
 rw [Xm live 0 st.tmps t (by simpa using hp)]
 exact hx
def Qh (live:Nat→List Nat):Code→Nat→Bool
 | .seq a b,t=>Qh live a t&&Qh live b t
 | .cond _ a b,t=>Qh live a t&&Qh live b t
 | .block _ c,t=>Qh live c t
 | .loop c,t=>(live (Bt c)).contains t&&Qh live c t
 |_,_=>true
theorem Aee {a b:Bool} (h:(a&&b)=true):a=true:=by cases a<;>simp_all
theorem Abh {a b:Bool} (h:(a&&b)=true):b=true:=by cases a<;>simp_all
theorem Aei {T:Tab} {Γ:Env} {ops:Array Oper} {draw:Bool} {st st':St} (h:Iy T Γ ops draw st=some st'):Ea (fun t=>t∉writes (.region 0 ops draw)) st st':=by
 unfold Iy at h
 have go: ∀q,(match Dc T Γ ops (Zu q Γ ops) st with
   |some s=>Gz T Γ ops (Eb q Γ ops) s
   |none=>none)=some st'→Ea (fun t=>t∉writes (.region 0 ops draw)) st st':=by
  intro q h
  split at h
  ·rename_i s hs
   exact (Qc _ _ _ hs).trans (Sj _ _ _ h)
  ·cases h
 split at h
 ·split at h
  ·exact go false h
  ·split at h
   ·exact go true h
   ·cases h
 ·exact Aag _ _ _ h
theorem Ahn {T:Tab} {Γ:Env} {ops:Array Oper} {draw:Bool} {K:St→Prop} (s0:St): ∀(f:Nat) (listed:Array Bool) (st:St),Ea (fun t=>t∉writes (.region 0 ops draw)) s0 st→anyS T Γ ops K f listed st→anyS T Γ ops (fun s=>K s∧Ea (fun t=>t∉writes (.region 0 ops draw)) s0 s) f listed st
 |0,_,_,hk,h=>⟨h.1,h.2,hk⟩
 |f+1,listed,st,hk,h=>⟨h.1,fun i hi=>by
  obtain ⟨o,st',h1,h2,h3⟩:=h.2 i hi
  have h4:Gz T Γ ops [i] st=some st':=by simp only [Gz,h1,h2]
  exact ⟨o,st',h1,h2,Ahn s0 f _ _ (hk.trans (Sj _ _ _ h4)) h3⟩⟩
theorem An6.keeps {T:Tab} {Γ:Env} {ops:Array Oper} {draw:Bool} {st:St} {K:St→Prop} (h:An6 T Γ ops draw st K):An6 T Γ ops draw st (fun s=>K s∧Ea (fun t=>t∉writes (.region 0 ops draw)) st s):=by
 rcases h with ⟨st',h1,h2⟩|⟨h1,h2,st0,h3,h4⟩
 ·exact .inl ⟨st',h1,h2,Aei h1⟩
 ·exact .inr ⟨h1,h2,st0,h3,Ahn st _ _ _ (Qc _ _ _ h3) h4⟩
theorem Avb {T:Tab} {Γ:Env} {live:Nat→List Nat} {c:Code} {st:St} {Q:Ez→St→Prop} (h:Gx T Γ live c st Q): ∀(s0:St) (p:Nat→Prop),Ea p s0 st→(∀t,p t→t∉writes c∧Qh live c t=true)→Gx T Γ live c st (fun e s=>Q e s∧Ea p s0 s):=by
 induction h with
 |skip h=>exact fun s0 p hk _=> .skip ⟨h,hk⟩
 |label h=>exact fun s0 p hk _=> .label ⟨h,hk⟩
 |exit h=>exact fun s0 p hk _=> .exit ⟨h,hk⟩
 |ret h=>exact fun s0 p hk _=> .ret ⟨h,hk⟩
 |region h=>
  exact fun s0 p hk hp=> .region (h.keeps.mono fun s hs=>⟨hs.1,hk.trans (hs.2.mono fun t ht=>(hp t ht).1)⟩)
 |seq Q1 _ _ h3 ih1 ih2=>
  exact fun s0 p hk hp=> .seq _ (ih1 s0 p hk fun t ht=>⟨fun hm=>(hp t ht).1 (by simp [writes,hm]),Aee (hp t ht).2⟩)
   (fun s hs=>ih2 s hs.1 s0 p hs.2 fun t ht=>⟨fun hm=>(hp t ht).1 (by simp [writes,hm]),Abh (hp t ht).2⟩) fun e s he hs=>⟨h3 e s he hs.1,hs.2⟩
 |cond hc _ _ ih1 ih2=>
  exact fun s0 p hk hp=> .cond hc (fun ht=>ih1 ht s0 p hk fun t h=>⟨fun hm=>(hp t h).1 (by simp [writes,hm]),Aee (hp t h).2⟩)
   fun ht=>ih2 ht s0 p hk fun t h=>⟨fun hm=>(hp t h).1 (by simp [writes,hm]),Abh (hp t h).2⟩
 |block Q1 _ h2 ih=>
  exact fun s0 p hk hp=> .block _ (ih s0 p hk fun t ht=>⟨fun hm=>(hp t ht).1 (by simpa [writes] using hm),by simpa [Qh] using (hp t ht).2⟩) fun e s hs=>by
   have h:=h2 e s hs.1
   cases e with
   |normal=>exact ⟨h,hs.2⟩
   |ret=>exact ⟨h,hs.2⟩
   |exit id'=>
    simp only [Am0] at h⊢
    split at h
    ·rename_i hi;rw [if_pos hi];exact ⟨h,hs.2⟩
    ·rename_i hi;rw [if_neg hi];exact ⟨h,hs.2⟩
 |loop Q1 _ _ h3 ih1 ih2=>
  intro s0 p hk hp
  refine .loop _ (ih1 s0 p (hk.trans ((Aan _ _).mono fun t ht=>by simpa using Aee (hp t ht).2)) fun t ht=>⟨fun hm=>(hp t ht).1 (by simpa [writes] using hm),Abh (hp t ht).2⟩)
   (fun s hs=>ih2 s hs.1 s0 p hs.2 hp) fun e s he hs=>⟨h3 e s he hs.1,hs.2⟩
end Go.Proofs.Ytebabhocakedaaa
