/-
  Part 29 of the proof that the statement FnExactLowerBounds holds.
-/
import Derived.Test.YtfolipnappekaaaGreatCLowerBounds27
namespace Go.Proofs.YtfolipnappekaaaGreat
open Go.RowKit
def Az (st st':St):Prop:= ∀(t:Nat) (fr:Bool) (τ:Ty) (x:τ.den),st.get t= .at (.data fr τ x)->st'.get t= .at (.data fr τ x)
theorem Az.rfl' {st:St} :Az st st:= λ_ _ _ _ h=>h
theorem Az.trans {a b c:St} (h1:Az a b) (h2:Az b c):Az a c:= λt fr τ x h=>h2 t fr τ x (h1 t fr τ x h)
theorem Az.Sh {a b:St} (h:b.tmps=a.tmps):Az a b:= λt fr τ x hx=>by
 simp only [St.get] at hx⊢
 rw [h]
 exact hx
theorem Vy (st:St) {t d:Nat} (v:AV) (h:t≠d):(st.put (some d) v).get t=st.get t:=by
 simp only [St.put,St.get]
 rw [Vj]
 rw [if_neg (by rintro ⟨rfl,_⟩;exact h rfl)]
theorem Jx (st:St) (f:AC->AC) (hu:f .undef= .undef) (hd: ∀fr (τ:Ty) (x:τ.den),f (.data fr τ x)= .data fr τ x):Az st (st.Gj f):=by
 intro t fr τ x h
 simp only [St.Gj,St.get]
 rw [Oj f hu,show st.tmps.getD t .undef=_ from h]
 simp only [AV.map,hd]
theorem iS (st:St) (l:Nat):Az st (st.forget l):=
 (Jx st (Bc l) rfl λ_ _ _=>rfl).trans (Az.Sh rfl)
theorem Um (st:St) (l:Nat) (fr:Bool) (e:Ty) (xs:List e.den):Az st (st.freeze l fr e xs):=
 (Jx st (Bf l fr e xs) rfl λ_ _ _=>rfl).trans (Az.Sh rfl)
theorem bL (st:St) (l:Nat) (v:Ty) (m:ByteArray->Option v.den):Az st (st.Em l v m):=
 (Jx st (Dk l v m) rfl λ_ _ _=>rfl).trans (Az.Sh rfl)
theorem Hm (st:St) (l:Nat) (b:OB):Az st (st.new l b):=(iS st l).trans (Az.Sh rfl)
theorem Hx (st:St) (l:Nat) (b:OB):Az st (st.Fo l b):=Az.Sh rfl
theorem Zr (b:OB) (key l i:Nat) (st:St):Az st (Nz b key l i st):=by
 unfold Nz
 split
 ·split
  ·dsimp only
   split
   ·exact (Hm _ _ _).trans (Hx _ _ _)
   ·exact Hm _ _ _
  ·exact Az.rfl'
 ·exact Az.rfl'
theorem fw (T:Tab) (l:Nat) (t:TypeId) (τ:Ty): ∀(n i:Nat) (st:St),Az st (aY T l t τ n i st)
 |0,_,_=>Az.rfl'
 |n+1,i,st=>by
  simp only [aY]
  refine Az.trans ?_ (fw T l t τ n (i+1) _)
  split
  ·exact Zr _ _ _ _ _
  ·exact Az.rfl'
theorem cY (T:Tab) (l off:Nat) (t:TypeId) (τ:Ty): ∀(n i:Nat) (st:St),Az st (Zx T l off t τ n i st)
 |0,_,_=>Az.rfl'
 |n+1,i,st=>by
  simp only [Zx]
  refine Az.trans ?_ (cY T l off t τ n (i+1) _)
  split
  ·exact Zr _ _ _ _ _
  ·exact Az.rfl'
theorem Lg: ∀(n:Nat) (st:St) (cs cF:List AC) (st':St),Dt n st cs=some (cF,st')->Az st st'
 |0,st,cs,cF,st',h=>by
  simp only [Dt] at h
  split at h
  ·injection h with h;injection h with h1 h2;subst h2;exact Az.rfl'
  ·cases h
 |n+1,st,cs,cF,st',h=>by
  simp only [Dt] at h
  split at h
  ·injection h with h;injection h with h1 h2;subst h2;exact Az.rfl'
  ·split at h
   ·exact (Um _ _ _ _ _).trans (Lg n _ _ _ _ h)
   ·exact (Um _ _ _ _ _).trans (Lg n _ _ _ _ h)
   ·cases h
  ·split at h
   ·exact (bL _ _ _ _).trans (Lg n _ _ _ _ h)
   ·cases h
  ·cases h
theorem Mh {st st':St} {v v':AV} (h:settle st v=some (v',st')):Az st st':=by
 unfold settle at h
 split at h
 ·split at h
  ·injection h with h;injection h with h1 h2;subst h2;exact Um _ _ _ _ _
  ·injection h with h;injection h with h1 h2;subst h2;exact Um _ _ _ _ _
  ·cases h
 ·split at h
  ·injection h with h;injection h with h1 h2;subst h2;exact bL _ _ _ _
  ·cases h
 ·split at h
  ·injection h with h;injection h with h1 h2;subst h2;exact Az.rfl'
  ·cases h
 ·rename_i cs
  cases hs:Dt cs.length st cs with
  |none=>rw [hs] at h;cases h
  |some p=>rw [hs] at h;injection h with h;injection h with h1 h2;subst h2;exact Lg _ _ _ _ _ hs
 ·injection h with h;injection h with h1 h2;subst h2;exact Az.rfl'
 ·cases h
theorem lA {T:Tab} {st st':St} {l:Nat} {t:TypeId} {τ:Ty} {cs:List AC} {v:AV} (h:mkVar T st l t τ cs=some (v,st')):Az st st':=by
 unfold mkVar at h
 split at h
 ·cases h
 dsimp only at h
 split at h
 ·injection h with h;injection h with h1 h2;subst h2;exact (Hm _ _ _).trans (fw _ _ _ _ _ _ _)
 ·cases h
theorem xM {T:Tab} {st st':St} {t:TypeId} {p v:AV} (h:Oi T st t p v=some st'):Az st st':=by
 unfold Oi at h
 split at h
 ·split at h
  ·split at h
   ·injection h with h
    split at h
    ·subst h;exact (Hx _ _ _).trans (cY _ _ _ _ _ _ _ _)
    ·subst h;exact Hx _ _ _
   ·cases h
  ·cases h
 ·split at h
  ·rename_i hs
   split at h
   ·split at h
    ·split at h
     ·injection h with h;subst h;exact (Mh hs).trans (Hx _ _ _)
     ·cases h
    ·cases h
   ·cases h
  ·cases h
 ·cases h
theorem ov (st:St) (l j m:Nat) (e:Ty) (te:TypeId) (rows:List (List e.den)) (xs:List e.den) (kp:Option (Nat×Nat)):Az st (Ni st l j m e te rows xs kp):=
 ((Jx st (Ba [m] [l]) (by simp [Ba,AC.refs]) λfr τ x=>by simp [Ba,AC.refs]).trans (Az.Sh rfl)).trans (Hx (st.Xi [m] [l]) _ _)
theorem ow (st:St) (l i m:Nat) (e:Ty) (te tid:TypeId) (rows:List (List e.den)) (kp:Option (Nat×Nat)):Az st (Ko st l i m e te tid rows kp):=
 (Hx st l _).trans (Hm _ m _)
theorem uw {T:Tab} {st st':St} {t:TypeId} {p v:AV} (h:Kf T st t p v=some st'):Az st st':=by
 unfold Kf at h
 split at h
 rotate_left
 ·exact xM h
 unfold Vw at h
 split at h
 ·split at h
  ·rename_i hs
   split at h
   ·split at h
    ·injection h with h;subst h;exact (Mh hs).trans (Hx _ _ _)
    ·cases h
   ·cases h
  ·cases h
 ·split at h
  ·split at h
   ·split at h
    ·injection h with h;subst h
     exact ov _ _ _ _ _ _ _ _ _
    ·cases h
   ·cases h
  ·cases h
 ·cases h
theorem aO {T:Tab} {st st':St} {d:Nat} {t:TypeId} {x y:Operand} {v:AV} (h:Iv T st d t x y=some (v,st')):Az st st':=by
 unfold Iv at h
 split at h
 ·cases h
 ·split at h
  ·rename_i hs
   split at h
   ·cases h
   ·split at h
    ·split at h
     ·injection h with h;injection h with h1 h2;subst h2;exact ((Mh hs).trans (Hm _ _ _)).trans (Hm _ _ _)
     ·cases h
    ·split at h
     ·split at h
      ·split at h
       ·injection h with h;injection h with h1 h2;subst h2;exact (Mh hs).trans (Hm _ _ _)
       ·cases h
      ·cases h
     ·cases h
    ·cases h
  ·cases h
theorem qB {T:Tab} {st st':St} {d:Nat} {t:TypeId} {x y:Operand} {v:AV} (h:Lm T st d t x y=some (v,st')):Az st st':=by
 unfold Lm at h
 split at h
 ·rename_i tx
  split at h
  ·rename_i l i c hg
   split at h
   ·split at h
    ·rename_i e te rows kp tid hl ht hc
     refine Az.trans (b:=(Ko st l i d e te tid rows kp).put (some tx) (.at (.own d 0 (rows.getD i []).length))) ?_ (aO h)
     intro t' fr τ z hz
     by_cases e':t'=tx
     ·subst e';rw [hg] at hz;cases hz
     ·rw [Vy _ _ e'];exact ow st l i d e te tid rows kp t' fr τ z hz
    ·cases h
   ·cases h
  ·exact aO h
 ·exact aO h
theorem BI {T:Tab} {st st':St} {d:Nat} {t:TypeId} {l c v:AV} (h:Vt T st d t l c=some (v,st')):Az st st':=by
 unfold Vt at h
 split at h
 ·split at h
  ·split at h
   ·injection h with h;injection h with h1 h2;subst h2;exact Hm _ _ _
   ·cases h
  ·cases h
 ·cases h
theorem lB (e:Ty): ∀(l:List (Nat×Operand)) (i:Nat) (st st':St) (fr tr:Bool) (ys:List e.den),Gs e i l st=some (fr,tr,ys,st')->Az st st'
 | [],_,_,_,_,_,_,h=>by
  simp only [Gs] at h
  injection h with h;injection h with h1 h2;injection h2 with h2 h3;injection h3 with h3 h4;subst h4;exact Az.rfl'
 |(j,x)::r,i,st,st',fr,tr,ys,h=>by
  simp only [Gs] at h
  split at h
  ·split at h
   ·rename_i hs
    split at h
    ·split at h
     ·rename_i hp
      injection h with h;injection h with h1 h2;injection h2 with h2 h3;injection h3 with h3 h4;subst h4
      exact (Mh hs).trans (lB e r _ _ _ _ _ _ hp)
     ·cases h
    ·cases h
   ·cases h
  ·cases h
theorem kl {T:Tab} {st st':St} {d:Nat} {t:TypeId} {n:Nat} {parts:Array (Nat×Operand)} {v:AV} (h:Hs T st d t n parts=some (v,st')):Az st st':=by
 unfold Hs at h
 split at h
 ·cases h
 ·split at h
  ·cases h
  ·split at h
   ·split at h
    ·rename_i hp
     injection h with h;injection h with h1 h2;subst h2;exact (lB _ _ _ _ _ _ _ _ hp).trans (Hm _ _ _)
    ·cases h
   ·cases h
theorem qD {T:Tab} {st st':St} {d:Nat} {t:TypeId} {v:AV} (h:Oh T st d t=some (v,st')):Az st st':=by
 unfold Oh at h
 split at h
 ·split at h
  ·injection h with h;injection h with h1 h2;subst h2;exact Hm _ _ _
  ·cases h
 ·cases h
theorem iT {T:Tab} {st st':St} {t:TypeId} {m k x:AV} (h:Eu T st t m k x=some st'):Az st st':=by
 unfold Eu at h
 split at h
 ·split at h
  ·split at h
   ·injection h with h;subst h;exact Hx _ _ _
   ·cases h
  ·cases h
 ·cases h
theorem BH {T:Tab} {st st':St} {t t':TypeId} {x y v:AV} (h:cI T st t t' x y=some (v,st')):Az st st':=by
 unfold cI at h
 split at h
 ·split at h
  ·split at h
   ·split at h
    ·injection h with h;injection h with h1 h2;subst h2;exact Hx _ _ _
    ·cases h
   ·cases h
  ·cases h
 ·cases h
theorem xK {T:Tab} {st st':St} {t:TypeId} {x:AV} (h:evalClear T st t x=some st'):Az st st':=by
 unfold evalClear at h
 split at h
 ·split at h
  ·split at h
   ·split at h
    ·injection h with h;subst h;exact Hx _ _ _
    ·cases h
   ·cases h
  ·cases h
 ·cases h
theorem sV {st st':St} {c:CK} {ys:c.den} {a:AC} (h:Wy st c ys a=some st'):st'.tmps=st.tmps:=by
 unfold Wy at h
 repeat' split at h
 all_goals first|(cases h;done)|(simp only [Option.some.injEq] at h;subst h;rfl)|skip
theorem JF {st st':St} {e:Ty} {ys:List e.den} {a:AC} (h:CQ st e ys a=some st'):st'.tmps=st.tmps:=by
 unfold CQ at h
 repeat' split at h
 all_goals first|(cases h;done)|(simp only [Option.some.injEq] at h;subst h;rfl)|skip
theorem Oa: ∀(cs:List (Bool×CK)) (o:IOs.den cs) (as:List AC) (st st':St),Ef cs o as st=some st'->st'.tmps=st.tmps
 | [],_,_,st,st',h=>by simp only [Ef,Option.some.injEq] at h;subst h;rfl
 |(true, .Dh _)::r,o,[],st,st',h=>by simp [Ef] at h
 |(true, .row _ _)::r,o,[],st,st',h=>by simp [Ef] at h
 |(true, .Ds _ _)::r,o,[],st,st',h=>by simp [Ef] at h
 |(true, .part _ _)::r,o,[],st,st',h=>by simp [Ef] at h
 |(true, .Aj _ _ _)::r,o,[],st,st',h=>by simp [Ef] at h
 |(true, .Aj _ _ _)::r,o,a::as,st,st',h=>Oa r o as st st' (by simpa only [Ef] using h)
 |(false,_)::r,o,[],st,st',h=>by simp [Ef] at h
 |(true, .Dh _)::r,o,a::as,st,st',h=>Oa r o as st st' (by simpa only [Ef] using h)
 |(false,_)::r,o,a::as,st,st',h=>Oa r o as st st' (by simpa only [Ef] using h)
 |(true, .row _ _)::r,o,a::as,st,st',h=>by
  simp only [Ef] at h
  split at h
  ·rename_i hc;exact (Oa r o.2 as _ st' h).trans (sV hc)
  ·cases h
 |(true, .part _ _)::r,o,a::as,st,st',h=>by
  simp only [Ef] at h
  split at h
  ·rename_i hc;exact (Oa r o.2 as _ st' h).trans (JF hc)
  ·cases h
 |(true, .Ds _ _)::r,o,a::as,st,st',h=>by
  simp only [Ef] at h
  split at h
  ·rename_i hc;exact (Oa r o.2 as _ st' h).trans (sV hc)
  ·cases h
theorem uu (bV st:St) (ls:List Nat) (n:Nat) (hl:bV.tmps.length=st.tmps.length) (h:Az bV st):Az bV (gC bV st ls n):=by
 unfold gC
 split
 ·exact h
 ·intro t fr τ x hx
  show (Gz _ bV.tmps st.tmps).getD t .undef=_
  rcases bq ls bV.tmps st.tmps t hl with ⟨k,i,c,h1,_⟩|h1
  ·rw [show bV.tmps.getD t .undef=_ from hx] at h1;cases h1
  ·rw [h1];exact h t fr τ x hx
theorem xJ {st st':St} {d:Option Nat} {s:MSpec} {args:List AV} {v:AV} (h:Qp st d s args=some (v,st')):Az st st':=by
 unfold Qp at h
 split at h
 ·cases h
 split at h
 ·cases h
 split at h
 ·cases h
 split at h
 ·split at h
  ·cases h
  split at h
  ·cases h
  rename_i st1 hp
  split at h
  ·cases h
  split at h
  ·simp only [Option.some.injEq,Prod.mk.injEq] at h
   obtain ⟨_,rfl⟩:=h
   have Ww:=Oa _ _ _ _ _ hp
   refine uu _ _ _ _ ?_ ?_
   ·simp only [ga,kO]
    rw [<-Ww]
    simp only [St.Xi,St.Gj,List.length_map]
   ·refine Az.trans (Az.Sh Ww) ?_
    refine Az.trans (Jx st1 (Ba _ _) (by simp [Ba,AC.refs]) λfr τ x=>by simp [Ba,AC.refs]) (Az.Sh kO)
  ·cases h
 ·cases h
theorem Yo (st:St) (k m:Nat) (b:OB):Az st (Le st k m b):=
 (Jx st (Ba [m,k] []) (by simp [Ba,AC.refs]) λfr τ x=>by simp [Ba,AC.refs]).trans (Az.Sh rfl)
theorem xL {T:Tab} {st st':St} {d:Nat} {t:TypeId} {l c v:AV} (h:Qr T st d t l c=some (v,st')):Az st st':=by
 unfold Qr at h
 split at h
 ·exact BI h
 ·split at h
  ·split at h
   ·injection h with h;injection h with h1 h2;subst h2;exact Yo _ _ _ _
   ·cases h
  ·cases h
theorem iR {T:Tab} {st st':St} {d:Nat} {t:TypeId} {n:Nat} {parts:Array (Nat×Operand)} {v:AV} (h:Er T st d t n parts=some (v,st')):Az st st':=by
 unfold Er at h
 split at h
 ·exact kl h
 ·repeat' split at h
  all_goals first|(cases h;done)|(injection h with h;injection h with h1 h2;subst h2;exact Yo _ _ _ _)
theorem qC {T:Tab} {st st':St} {d:Nat} {t:TypeId} {x y:Operand} {v:AV} (h:Ln T st d t x y=some (v,st')):Az st st':=by
 unfold Ln at h
 split at h
 ·exact qB h
 ·repeat' split at h
  all_goals first|(cases h;done)|(injection h with h;injection h with h1 h2;subst h2;exact Yo _ _ _ _)
theorem Zq {st st':St} {v:AV} {o:Option AV} (h:o.map (λv=>(v,st))=some (v,st')):Az st st':=by
 cases o with
 |none=>cases h
 |some u=>injection h with h;injection h with h1 h2;subst h2;exact Az.rfl'
theorem Tm: ∀(l:List Operand) {st st1:St},Jq l st=some st1->Az st st1
 | [],st,st1,h=>by
  simp only [Jq,Option.some.injEq] at h
  subst h
  exact Az.rfl'
 |x::r,st,st1,h=>by
  simp only [Jq] at h
  cases hs:settle st (st.ev x) with
  |none=>rw [hs] at h;cases h
  |some p=>
   rw [hs] at h
   exact (Mh (v':=p.1) (st':=p.2) hs).trans (Tm r h)
theorem iB {T:Tab} {Γ:Env} {st st':St} {o:Oper} {v:AV} (h:evalOp T Γ st o=some (v,st')):Az st st':=by
 unfold evalOp at h
 split at h
 ·split at h
  ·split at h
   ·injection h with h;injection h with h1 h2;subst h2;exact Hm _ _ _
   ·cases h
  ·injection h with h;injection h with h1 h2;subst h2;exact Az.rfl'
 ·split at h
  ·exact lA h
  ·cases h
 ·split at h
  ·split at h
   ·exact lA h
   ·cases h
  ·cases h
 ·rename_i t p x _
  cases hs:Kf T st t (st.ev p) (st.ev x) with
  |none=>rw [hs] at h;cases h
  |some s=>rw [hs] at h;injection h with h;injection h with h1 h2;subst h2;exact uw hs
 ·split at h
  ·exact xL h
  ·cases h
 ·split at h
  ·exact qD h
  ·cases h
 ·rename_i t m k x _
  cases hs:Eu T st t (st.ev m) (st.ev k) (st.ev x) with
  |none=>rw [hs] at h;cases h
  |some s=>rw [hs] at h;injection h with h;injection h with h1 h2;subst h2;exact iT hs
 ·rename_i t m k x _
  cases hs:Eu T st t (st.ev m) (st.ev k) (st.ev x) with
  |none=>rw [hs] at h;cases h
  |some s=>rw [hs] at h;injection h with h;injection h with h1 h2;subst h2;exact iT hs
 ·split at h
  ·exact iR h
  ·cases h
 ·exact Zq h
 ·split at h
  ·split at h
   ·exact qC h
   ·cases h
  ·cases h
 ·split at h
  ·exact BH h
  ·cases h
 ·split at h
  ·rename_i x t _ _
   cases hs:evalClear T st t (st.ev x) with
   |none=>rw [hs] at h;cases h
   |some s=>rw [hs] at h;injection h with h;injection h with h1 h2;subst h2;exact xK hs
  ·cases h
 ·split at h
  ·exact xJ h
  ·split at h
   ·rename_i args _ _ _ _ _ _
    cases hs:Jq args.toList st with
    |none=>rw [hs] at h;cases h
    |some st1=>
     rw [hs] at h
     exact (Tm _ hs).trans (Zq h)
   ·exact Zq h
  ·exact Zq h
 ·exact Zq h
def Kz:List Oper->List Nat
 | []=> []
 |o::r=>(match o.dst with|some d=> [d]|none=> [])++Kz r
def writes:Code->List Nat
 | .region _ ops _=>Kz ops.toList
 | .seq a b=>writes a++writes b
 | .cond _ a b=>writes a++writes b
 | .block _ c=>writes c
 | .loop c=>writes c
 |_=> []
def Ez (P:Nat->Prop) (st st':St):Prop:= ∀(t:Nat) (fr:Bool) (τ:Ty) (x:τ.den),P t->st.get t= .at (.data fr τ x)->st'.get t= .at (.data fr τ x)
theorem Ez.trans {P:Nat->Prop} {a b c:St} (h1:Ez P a b) (h2:Ez P b c):Ez P a c:= λt fr τ x hp h=>h2 t fr τ x hp (h1 t fr τ x hp h)
theorem Ez.mono {P Q:Nat->Prop} {a b:St} (h1:Ez P a b) (h: ∀t,Q t->P t):Ez Q a b:= λt fr τ x hp hx=>h1 t fr τ x (h t hp) hx
theorem Az.on {P:Nat->Prop} {a b:St} (h:Az a b):Ez P a b:= λt fr τ x _ hx=>h t fr τ x hx
theorem Xn (st:St) (dst:Option Tmp) (v:AV):Ez (λt=>dst≠some t) st (st.put dst v):=by
 intro t fr τ x hp hx
 cases dst with
 |none=>exact hx
 |some d=>rw [Vy st v (λh=>hp (by rw [h]))];exact hx
theorem cJ {T:Tab} {Γ:Env} {ops:Array Oper} {st st':St} {o:Oper} (h:Cj T Γ ops st o=some st'):Ez (λt=>o.dst≠some t) st st':=by
 have key: ∀s,(evalOp T Γ st o).map (λr=>r.2.put o.dst r.1)=some s->Ez (λt=>o.dst≠some t) st s:=by
  intro s hs
  cases he:evalOp T Γ st o with
  |none=>rw [he] at hs;cases hs
  |some p=>rw [he] at hs;injection hs with hs;subst hs;exact (iB (v:=p.1) (st':=p.2) he).on.trans (Xn _ _ _)
 unfold Cj at h
 split at h
 ·exact key _ h
 ·split at h
  ·split at h
   ·exact key _ h
   ·injection h with h;subst h;exact Xn _ _ _
  ·injection h with h;subst h;exact Xn _ _ _
  ·cases h
theorem fg {T:Tab} {Γ:Env} {ops:Array Oper} : ∀(l:List Oper) (st st':St),Ui T Γ ops l st=some st'->Ez (λt=>t∉Kz l) st st'
 | [],st,st',h=>by injection h with h;subst h;exact Az.rfl'.on
 |o::r,st,st',h=>by
  simp only [Ui] at h
  split at h
  ·rename_i s hs
   refine Ez.trans ((cJ hs).mono λt ht=>?_) ((fg r _ _ h).mono λt ht=>?_)
   ·intro hd;apply ht;simp [Kz,hd]
   ·intro hd;apply ht;simp [Kz,hd]
  ·cases h
theorem Yr: ∀(l:List Oper) (o:Oper) (d:Nat),o∈l->o.dst=some d->d∈Kz l
 | [],_,_,h,_=>by cases h
 |p::r,o,d,h,hd=>by
  cases h with
  |head=>simp [Kz,hd]
  |tail _ h=>simp only [Kz,List.mem_append];exact .inr (Yr r o d h hd)
theorem sO {ops:Array Oper} {i:Nat} {o:Oper} (h:ops[i]?=some o):o∈ops.toList:=by
 rw [Array.getElem?_eq_some_iff] at h
 obtain ⟨h1,h2⟩:=h
 rw [<-h2]
 simp
theorem Yk {T:Tab} {Γ:Env} {ops:Array Oper} : ∀(l:List Nat) (st st':St),Jf T Γ ops l st=some st'->Ez (λt=>t∉Kz ops.toList) st st'
 | [],st,st',h=>by injection h with h;subst h;exact Az.rfl'.on
 |i::r,st,st',h=>by
  simp only [Jf] at h
  split at h
  ·cases h
  ·rename_i o ho
   split at h
   ·rename_i s hs
    exact ((cJ hs).mono λt ht hd=>ht (Yr _ _ _ (sO ho) hd)).trans (Yk r _ _ h)
   ·cases h
theorem Vu {T:Tab} {Γ:Env} {ops:Array Oper} : ∀(l:List Nat) (st st':St),Ed T Γ ops l st=some st'->Ez (λt=>t∉Kz ops.toList) st st'
 | [],st,st',h=>by injection h with h;subst h;exact Az.rfl'.on
 |i::r,st,st',h=>by
  simp only [Ed] at h
  split at h
  ·cases h
  ·rename_i o ho
   split at h
   ·exact ((Xn _ _ _).mono λt ht hd=>ht (Yr _ _ _ (sO ho) hd)).trans (Vu r _ _ h)
   ·cases h
theorem bK: ∀(l:List Nat) (st:St),Az st (Zj l st)
 | [],_=>Az.rfl'
 |a::r,st=>(iS st a).trans (bK r _)
theorem cA (live:List Nat): ∀(i:Nat) (l:List AV) (t:Nat),i+t∈live->(Fw live i l).getD t .undef=l.getD t .undef
 |_,[],_,_=>rfl
 |i,v::r,0,h=>by simp [Fw];intro hn;exact absurd h hn
 |i,v::r,t+1,h=>by
  simp only [Fw,List.getD_cons_succ]
  exact cA live (i+1) r t (by rw [show i+1+t=i+(t+1) by omega];exact h)
theorem uv (l k:Nat) (st:St):Az st (st.rename l k):=by
 unfold St.rename
 split
 ·split
  ·exact (Jx st (Oq l k) rfl λ_ _ _=>rfl).trans (Az.Sh rfl)
  ·exact Az.rfl'
 ·exact Az.rfl'
theorem Zs: ∀(n t:Nat) (st:St),Az st (Hy n t st)
 |0,_,_=>Az.rfl'
 |n+1,t,st=>by
  simp only [Hy]
  refine Az.trans ?_ (Zs n (t+1) _)
  split
  ·split
   ·split
    ·exact Az.rfl'
    ·exact uv _ _ _
   ·exact Az.rfl'
  ·exact Az.rfl'
theorem oz (t:Nat) (st:St):Az st (Wj t st):=by
 unfold Wj
 split
 ·rename_i l off len hg
  split
  ·split
   ·intro k fr τ x hk
    have Fa:k≠t:= λe=>by subst e;rw [hg] at hk;cases hk
    rw [Vy _ _ Fa]
    exact Hm _ _ _ k fr τ x hk
   ·exact Az.rfl'
  ·exact Az.rfl'
 ·exact Az.rfl'
theorem gD (c:Nat) (st:St):Az st (Km c st):=by
 unfold Km
 split
 ·split
  ·split
   ·split
    ·split
     ·exact (Hm _ _ _).trans (Hx _ _ _)
     ·exact Az.rfl'
    ·exact Az.rfl'
   ·exact Az.rfl'
  ·exact Az.rfl'
 ·exact Az.rfl'
theorem Xo (live:List Nat): ∀(n c:Nat) (st:St),Az st (Kb live n c st)
 |0,_,_=>Az.rfl'
 |n+1,c,st=>by
  simp only [Kb]
  refine Az.trans ?_ (Xo live n (c+1) _)
  split
  ·exact gD _ _
  ·exact Az.rfl'
theorem bM (live:List Nat): ∀(n t:Nat) (st:St),Az st (Jp live n t st)
 |0,_,st=>Xo live 16 0 st
 |n+1,t,st=>by
  simp only [Jp]
  refine Az.trans ?_ (bM live n (t+1) _)
  split
  ·exact oz _ _
  ·exact Az.rfl'
theorem fu (live:List Nat) (st:St):Ez (λt=>t∈live) st (st.clean live):=by
 intro t fr τ x hp hx
 unfold St.clean
 have key: ∀s:St,s.get t= .at (.data fr τ x)->(if live.contains Xu then Hy s.tmps.length 0 s else s).get t= .at (.data fr τ x):=by
  intro s hs
  split
  ·exact Zs _ _ s t fr τ x hs
  ·exact hs
 have NR: ∀s:St,s.get t= .at (.data fr τ x)->(if live.any (λt=>Nat.ble Tg t) then s.Ep live else s).get t= .at (.data fr τ x):=by
  intro s hs
  split<;>exact hs
 have NS: ∀s:St,s.get t= .at (.data fr τ x)->(if live.any (λt=>Nat.ble Lw t&&Nat.blt t Xu) then Jp live s.tmps.length 0 s else s).get t= .at (.data fr τ x):=by
  intro s hs
  split
  ·exact bM _ _ _ s t fr τ x hs
  ·exact hs
 refine NR _ (key _ (NS _ (bK _ _ t fr τ x ?_)))
 simp only [St.get] at hx⊢
 rw [cA live 0 st.tmps t (by simpa using hp)]
 exact hx
def Wc (live:Nat->List Nat):Code->Nat->Bool
 | .seq a b,t=>Wc live a t&&Wc live b t
 | .cond _ a b,t=>Wc live a t&&Wc live b t
 | .block _ c,t=>Wc live c t
 | .loop c,t=>(live (Ce c)).contains t&&Wc live c t
 |_,_=>true
theorem jP {a b:Bool} (h:(a&&b)=true):a=true:=by cases a<;>simp_all
theorem gf {a b:Bool} (h:(a&&b)=true):b=true:=by cases a<;>simp_all
theorem jW {T:Tab} {Γ:Env} {ops:Array Oper} {draw:Bool} {st st':St} (h:Lo T Γ ops draw st=some st'):Ez (λt=>t∉writes (.region 0 ops draw)) st st':=by
 unfold Lo at h
 have go: ∀q,(match Ed T Γ ops (eg q Γ ops) st with
   |some s=>Jf T Γ ops (Fb q Γ ops) s
   |none=>none)=some st'->Ez (λt=>t∉writes (.region 0 ops draw)) st st':=by
  intro q h
  split at h
  ·rename_i s hs
   exact (Vu _ _ _ hs).trans (Yk _ _ _ h)
  ·cases h
 split at h
 ·split at h
  ·exact go false h
  ·split at h
   ·exact go true h
   ·cases h
 ·exact fg _ _ _ h
theorem nv {T:Tab} {Γ:Env} {ops:Array Oper} {draw:Bool} {K:St->Prop} (s0:St): ∀(f:Nat) (Ac:Array Bool) (st:St),Ez (λt=>t∉writes (.region 0 ops draw)) s0 st->anyS T Γ ops K f Ac st->anyS T Γ ops (λs=>K s/\Ez (λt=>t∉writes (.region 0 ops draw)) s0 s) f Ac st
 |0,_,_,hk,h=>⟨h.1,h.2,hk⟩
 |f+1,Ac,st,hk,h=>⟨h.1,λi hi=>by
  obtain ⟨o,st',h1,h2,h3⟩:=h.2 i hi
  have h4:Jf T Γ ops [i] st=some st':=by simp only [Jf,h1,h2]
  exact ⟨o,st',h1,h2,nv s0 f _ _ (hk.trans (Yk _ _ _ h4)) h3⟩⟩
theorem tC.keeps {T:Tab} {Γ:Env} {ops:Array Oper} {draw:Bool} {st:St} {K:St->Prop} (h:tC T Γ ops draw st K):tC T Γ ops draw st (λs=>K s/\Ez (λt=>t∉writes (.region 0 ops draw)) st s):=by
 rcases h with ⟨st',h1,h2⟩|⟨h1,h2,bV,h3,h4⟩
 ·exact .inl ⟨st',h1,h2,jW h1⟩
 ·exact .inr ⟨h1,h2,bV,h3,nv st _ _ _ (Vu _ _ _ h3) h4⟩
theorem fa (ops:Array Oper) {fr:Bool} {τ:Ty} {x:τ.den} : ∀(i:Nat) (l:List AV) (t:Nat),l.getD t .undef= .at (.data fr τ x)->(Jl ops i l).getD t .undef= .at (.data fr τ x)
 |_,[],_,h=>h
 |i,v::r,0,h=>by
  cases v with
  |Ib l=>cases h
  |_=>exact h
 |i,v::r,t+1,h=>by
  have h':=fa ops (i+1) r t h
  cases v<;>(simp only [Jl,List.getD_cons_succ];exact h')
theorem fv (ops:Array Oper) (st:St):Az st (st.ir ops):= λt _ _ _ hx=>fa ops 0 st.tmps t hx
theorem CZ {T:Tab} {Γ:Env} {live:Nat->List Nat} {c:Code} {st:St} {Q:Gw->St->Prop} (h:Jd T Γ live c st Q): ∀(s0:St) (p:Nat->Prop),Ez p s0 st->(∀t,p t->t∉writes c/\Wc live c t=true)->Jd T Γ live c st (λe s=>Q e s/\Ez p s0 s):=by
 induction h with
 |skip h=>exact λs0 p hk _=> .skip ⟨h,hk⟩
 |label h=>exact λs0 p hk _=> .label ⟨h,hk⟩
 |exit h=>exact λs0 p hk _=> .exit ⟨h,hk⟩
 |ret h=>exact λs0 p hk _=> .ret ⟨h,hk⟩
 |region h=>
  exact λs0 p hk hp=> .region (h.keeps.mono λs hs=>⟨hs.1,(hk.trans (fv _ _).on).trans (hs.2.mono λt ht=>(hp t ht).1)⟩)
 |seq Q1 _ _ h3 HU xF=>
  exact λs0 p hk hp=> .seq _ (HU s0 p hk λt ht=>⟨λhm=>(hp t ht).1 (by simp [writes,hm]),jP (hp t ht).2⟩)
   (λs hs=>xF s hs.1 s0 p hs.2 λt ht=>⟨λhm=>(hp t ht).1 (by simp [writes,hm]),gf (hp t ht).2⟩) λe s he hs=>⟨h3 e s he hs.1,hs.2⟩
 |cond hc _ _ HU xF=>
  exact λs0 p hk hp=> .cond hc (λht=>HU ht s0 p hk λt h=>⟨λhm=>(hp t h).1 (by simp [writes,hm]),jP (hp t h).2⟩)
   fun ht=>xF ht s0 p hk λt h=>⟨λhm=>(hp t h).1 (by simp [writes,hm]),gf (hp t h).2⟩
 |block Q1 _ h2 ih=>
  exact λs0 p hk hp=> .block _ (ih s0 p hk λt ht=>⟨λhm=>(hp t ht).1 (by simpa [writes] using hm),by simpa [Wc] using (hp t ht).2⟩) λe s hs=>by
   have h:=h2 e s hs.1
   cases e with
   |normal=>exact ⟨h,hs.2⟩
   |ret=>exact ⟨h,hs.2⟩
   |exit HT=>
    simp only [sB] at h⊢
    split at h
    ·rename_i hi;rw [if_pos hi];exact ⟨h,hs.2⟩
    ·rename_i hi;rw [if_neg hi];exact ⟨h,hs.2⟩
 |loop Q1 _ _ h3 HU xF=>
  intro s0 p hk hp
  refine .loop _ (HU s0 p (hk.trans ((fu _ _).mono λt ht=>by simpa using jP (hp t ht).2)) λt ht=>⟨λhm=>(hp t ht).1 (by simpa [writes] using hm),gf (hp t ht).2⟩)
   (λs hs=>xF s hs.1 s0 p hs.2 hp) λe s he hs=>⟨h3 e s he hs.1,hs.2⟩
end Go.Proofs.YtfolipnappekaaaGreat
