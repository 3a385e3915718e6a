/-
  Part 29 of the proof that the statement FnExactSolveTwoPhase holds.
-/
import Derived.Test.YtjbdmibbbpdnnaaCSolveTwoPhase27
namespace Go.Proofs.Ytjbdmibbbpdnnaa
open Go.RowKit
def Bg (st st':St):Prop:= ∀(t:Nat) (fr:Bool) (τ:Ty) (x:τ.den),st.get t= .at (.data fr τ x)->st'.get t= .at (.data fr τ x)
theorem Bg.rfl' {st:St} :Bg st st:= λ_ _ _ _ h=>h
theorem Bg.trans {a b c:St} (h1:Bg a b) (h2:Bg b c):Bg a c:= λt fr τ x h=>h2 t fr τ x (h1 t fr τ x h)
theorem Bg.Sx {a b:St} (h:b.tmps=a.tmps):Bg a b:= λt fr τ x hx=>by
 simp only [St.get] at hx⊢
 rw [h]
 exact hx
theorem Wa (st:St) {t d:Nat} (v:AV) (h:t≠d):(st.put (some d) v).get t=st.get t:=by
 simp only [St.put,St.get]
 rw [Vl]
 rw [if_neg (by rintro ⟨rfl,_⟩;exact h rfl)]
theorem Ki (st:St) (f:AC->AC) (hu:f .undef= .undef) (hd: ∀fr (τ:Ty) (x:τ.den),f (.data fr τ x)= .data fr τ x):Bg st (st.Gs f):=by
 intro t fr τ x h
 simp only [St.Gs,St.get]
 rw [Te f hu,show st.tmps.getD t .undef=_ from h]
 simp only [AV.map,hd]
theorem iZ (st:St) (l:Nat):Bg st (st.forget l):=
 (Ki st (Be l) rfl λ_ _ _=>rfl).trans (Bg.Sx rfl)
theorem Uu (st:St) (l:Nat) (fr:Bool) (e:Ty) (xs:List e.den):Bg st (st.freeze l fr e xs):=
 (Ki st (Bf l fr e xs) rfl λ_ _ _=>rfl).trans (Bg.Sx rfl)
theorem bO (st:St) (l:Nat) (v:Ty) (m:ByteArray->Option v.den):Bg st (st.Es l v m):=
 (Ki st (Dp l v m) rfl λ_ _ _=>rfl).trans (Bg.Sx rfl)
theorem Iw (st:St) (l:Nat) (b:OB):Bg st (st.new l b):=(iZ st l).trans (Bg.Sx rfl)
theorem Jo (st:St) (l:Nat) (b:OB):Bg st (st.Gk l b):=Bg.Sx rfl
theorem Zv (b:OB) (key l i:Nat) (st:St):Bg st (Oq b key l i st):=by
 unfold Oq
 split
 ·split
  ·dsimp only
   split
   ·exact (Iw _ _ _).trans (Jo _ _ _)
   ·exact Iw _ _ _
  ·exact Bg.rfl'
 ·exact Bg.rfl'
theorem fD (T:Tab) (l:Nat) (t:TypeId) (τ:Ty): ∀(n i:Nat) (st:St),Bg st (ba T l t τ n i st)
 |0,_,_=>Bg.rfl'
 |n+1,i,st=>by
  simp only [ba]
  refine Bg.trans ?_ (fD T l t τ n (i+1) _)
  split
  ·exact Zv _ _ _ _ _
  ·exact Bg.rfl'
theorem dd (T:Tab) (l off:Nat) (t:TypeId) (τ:Ty): ∀(n i:Nat) (st:St),Bg st (a5 T l off t τ n i st)
 |0,_,_=>Bg.rfl'
 |n+1,i,st=>by
  simp only [a5]
  refine Bg.trans ?_ (dd T l off t τ n (i+1) _)
  split
  ·exact Zv _ _ _ _ _
  ·exact Bg.rfl'
theorem Lr: ∀(n:Nat) (st:St) (cs cK:List AC) (st':St),Du n st cs=some (cK,st')->Bg st st'
 |0,st,cs,cK,st',h=>by
  simp only [Du] at h
  split at h
  ·injection h with h;injection h with h1 h2;subst h2;exact Bg.rfl'
  ·cases h
 |n+1,st,cs,cK,st',h=>by
  simp only [Du] at h
  split at h
  ·injection h with h;injection h with h1 h2;subst h2;exact Bg.rfl'
  ·split at h
   ·exact (Uu _ _ _ _ _).trans (Lr n _ _ _ _ h)
   ·exact (Uu _ _ _ _ _).trans (Lr n _ _ _ _ h)
   ·cases h
  ·split at h
   ·exact (bO _ _ _ _).trans (Lr n _ _ _ _ h)
   ·cases h
  ·cases h
theorem Mq {st st':St} {v v':AV} (h:settle st v=some (v',st')):Bg st st':=by
 unfold settle at h
 split at h
 ·split at h
  ·injection h with h;injection h with h1 h2;subst h2;exact Uu _ _ _ _ _
  ·injection h with h;injection h with h1 h2;subst h2;exact Uu _ _ _ _ _
  ·cases h
 ·split at h
  ·injection h with h;injection h with h1 h2;subst h2;exact bO _ _ _ _
  ·cases h
 ·split at h
  ·injection h with h;injection h with h1 h2;subst h2;exact Bg.rfl'
  ·cases h
 ·rename_i cs
  cases hs:Du cs.length st cs with
  |none=>rw [hs] at h;cases h
  |some p=>rw [hs] at h;injection h with h;injection h with h1 h2;subst h2;exact Lr _ _ _ _ _ hs
 ·injection h with h;injection h with h1 h2;subst h2;exact Bg.rfl'
 ·cases h
theorem lB {T:Tab} {st st':St} {l:Nat} {t:TypeId} {τ:Ty} {cs:List AC} {v:AV} (h:mkVar T st l t τ cs=some (v,st')):Bg st st':=by
 unfold mkVar at h
 split at h
 ·cases h
 dsimp only at h
 split at h
 ·injection h with h;injection h with h1 h2;subst h2;exact (Iw _ _ _).trans (fD _ _ _ _ _ _ _)
 ·cases h
theorem xb {T:Tab} {st st':St} {t:TypeId} {p v:AV} (h:Oz T st t p v=some st'):Bg st st':=by
 unfold Oz at h
 split at h
 ·split at h
  ·split at h
   ·injection h with h
    split at h
    ·subst h;exact (Jo _ _ _).trans (dd _ _ _ _ _ _ _ _)
    ·subst h;exact Jo _ _ _
   ·cases h
  ·cases h
 ·split at h
  ·rename_i hs
   split at h
   ·split at h
    ·split at h
     ·injection h with h;subst h;exact (Mq hs).trans (Jo _ _ _)
     ·cases h
    ·cases h
   ·cases h
  ·cases h
 ·cases h
theorem o9 (st:St) (l j m:Nat) (e:Ty) (te:TypeId) (rows:List (List e.den)) (xs:List e.den) (kp:Option (Nat×Nat)):Bg st (Nu st l j m e te rows xs kp):=
 ((Ki st (Az [m] [l]) (by simp [Az,AC.refs]) λfr τ x=>by simp [Az,AC.refs]).trans (Bg.Sx rfl)).trans (Jo (st.Xk [m] [l]) _ _)
theorem oa (st:St) (l i m:Nat) (e:Ty) (te tid:TypeId) (rows:List (List e.den)) (kp:Option (Nat×Nat)):Bg st (Kt st l i m e te tid rows kp):=
 (Jo st l _).trans (Iw _ m _)
theorem tM {T:Tab} {st st':St} {t:TypeId} {p v:AV} (h:Km T st t p v=some st'):Bg st st':=by
 unfold Km at h
 split at h
 rotate_left
 ·exact xb h
 unfold Vz at h
 split at h
 ·split at h
  ·rename_i hs
   split at h
   ·split at h
    ·injection h with h;subst h;exact (Mq hs).trans (Jo _ _ _)
    ·cases h
   ·cases h
  ·cases h
 ·split at h
  ·split at h
   ·split at h
    ·injection h with h;subst h
     exact o9 _ _ _ _ _ _ _ _ _
    ·cases h
   ·cases h
  ·cases h
 ·cases h
theorem aQ {T:Tab} {st st':St} {d:Nat} {t:TypeId} {x y:Operand} {v:AV} (h:Jk T st d t x y=some (v,st')):Bg st st':=by
 unfold Jk at h
 split at h
 ·cases h
 ·split at h
  ·rename_i hs
   split at h
   ·cases h
   ·split at h
    ·split at h
     ·injection h with h;injection h with h1 h2;subst h2;exact ((Mq hs).trans (Iw _ _ _)).trans (Iw _ _ _)
     ·cases h
    ·split at h
     ·split at h
      ·split at h
       ·injection h with h;injection h with h1 h2;subst h2;exact (Mq hs).trans (Iw _ _ _)
       ·cases h
      ·cases h
     ·cases h
    ·cases h
  ·cases h
theorem qb {T:Tab} {st st':St} {d:Nat} {t:TypeId} {x y:Operand} {v:AV} (h:Lz T st d t x y=some (v,st')):Bg st st':=by
 unfold Lz at h
 split at h
 ·rename_i tx
  split at h
  ·rename_i l i c hg
   split at h
   ·split at h
    ·rename_i e te rows kp tid hl ht hc
     refine Bg.trans (b:=(Kt st l i d e te tid rows kp).put (some tx) (.at (.own d 0 (rows.getD i []).length))) ?_ (aQ h)
     intro t' fr τ z hz
     by_cases e':t'=tx
     ·subst e';rw [hg] at hz;cases hz
     ·rw [Wa _ _ e'];exact oa st l i d e te tid rows kp t' fr τ z hz
    ·cases h
   ·cases h
  ·exact aQ h
 ·exact aQ h
theorem zY {T:Tab} {st st':St} {d:Nat} {t:TypeId} {l c v:AV} (h:Vw T st d t l c=some (v,st')):Bg st st':=by
 unfold Vw at h
 split at h
 ·split at h
  ·split at h
   ·injection h with h;injection h with h1 h2;subst h2;exact Iw _ _ _
   ·cases h
  ·cases h
 ·cases h
theorem lC (e:Ty): ∀(l:List (Nat×Operand)) (i:Nat) (st st':St) (fr tr:Bool) (ys:List e.den),Hc e i l st=some (fr,tr,ys,st')->Bg st st'
 | [],_,_,_,_,_,_,h=>by
  simp only [Hc] at h
  injection h with h;injection h with h1 h2;injection h2 with h2 h3;injection h3 with h3 h4;subst h4;exact Bg.rfl'
 |(j,x)::r,i,st,st',fr,tr,ys,h=>by
  simp only [Hc] at h
  split at h
  ·split at h
   ·rename_i hs
    split at h
    ·split at h
     ·rename_i hp
      injection h with h;injection h with h1 h2;injection h2 with h2 h3;injection h3 with h3 h4;subst h4
      exact (Mq hs).trans (lC e r _ _ _ _ _ _ hp)
     ·cases h
    ·cases h
   ·cases h
  ·cases h
theorem kl {T:Tab} {st st':St} {d:Nat} {t:TypeId} {n:Nat} {parts:Array (Nat×Operand)} {v:AV} (h:Hz T st d t n parts=some (v,st')):Bg st st':=by
 unfold Hz at h
 split at h
 ·cases h
 ·split at h
  ·cases h
  ·split at h
   ·split at h
    ·rename_i hp
     injection h with h;injection h with h1 h2;subst h2;exact (lC _ _ _ _ _ _ _ _ hp).trans (Iw _ _ _)
    ·cases h
   ·cases h
theorem qd {T:Tab} {st st':St} {d:Nat} {t:TypeId} {v:AV} (h:Oy T st d t=some (v,st')):Bg st st':=by
 unfold Oy at h
 split at h
 ·split at h
  ·injection h with h;injection h with h1 h2;subst h2;exact Iw _ _ _
  ·cases h
 ·cases h
theorem j0 {T:Tab} {st st':St} {t:TypeId} {m k x:AV} (h:Fc T st t m k x=some st'):Bg st st':=by
 unfold Fc at h
 split at h
 ·split at h
  ·split at h
   ·injection h with h;subst h;exact Jo _ _ _
   ·cases h
  ·cases h
 ·cases h
theorem zX {T:Tab} {st st':St} {t t':TypeId} {x y v:AV} (h:cN T st t t' x y=some (v,st')):Bg st st':=by
 unfold cN at h
 split at h
 ·split at h
  ·split at h
   ·split at h
    ·injection h with h;injection h with h1 h2;subst h2;exact Jo _ _ _
    ·cases h
   ·cases h
  ·cases h
 ·cases h
theorem x9 {T:Tab} {st st':St} {t:TypeId} {x:AV} (h:evalClear T st t x=some st'):Bg st st':=by
 unfold evalClear at h
 split at h
 ·split at h
  ·split at h
   ·split at h
    ·injection h with h;subst h;exact Jo _ _ _
    ·cases h
   ·cases h
  ·cases h
 ·cases h
theorem s9 {st st':St} {c:CK} {ys:c.den} {a:AC} (h:Xa st c ys a=some st'):st'.tmps=st.tmps:=by
 unfold Xa at h
 repeat' split at h
 all_goals first|(cases h;done)|(simp only [Option.some.injEq] at h;subst h;rfl)|skip
theorem IF {st st':St} {e:Ty} {ys:List e.den} {a:AC} (h:BC st e ys a=some st'):st'.tmps=st.tmps:=by
 unfold BC at h
 repeat' split at h
 all_goals first|(cases h;done)|(simp only [Option.some.injEq] at h;subst h;rfl)|skip
theorem Ot: ∀(cs:List (Bool×CK)) (o:IOs.den cs) (as:List AC) (st st':St),Eg cs o as st=some st'->st'.tmps=st.tmps
 | [],_,_,st,st',h=>by simp only [Eg,Option.some.injEq] at h;subst h;rfl
 |(true, .Dy _)::r,o,[],st,st',h=>by simp [Eg] at h
 |(true, .row _ _)::r,o,[],st,st',h=>by simp [Eg] at h
 |(true, .Dx _ _)::r,o,[],st,st',h=>by simp [Eg] at h
 |(true, .part _ _)::r,o,[],st,st',h=>by simp [Eg] at h
 |(true, .Ao _ _ _)::r,o,[],st,st',h=>by simp [Eg] at h
 |(true, .Ao _ _ _)::r,o,a::as,st,st',h=>Ot r o as st st' (by simpa only [Eg] using h)
 |(false,_)::r,o,[],st,st',h=>by simp [Eg] at h
 |(true, .Dy _)::r,o,a::as,st,st',h=>Ot r o as st st' (by simpa only [Eg] using h)
 |(false,_)::r,o,a::as,st,st',h=>Ot r o as st st' (by simpa only [Eg] using h)
 |(true, .row _ _)::r,o,a::as,st,st',h=>by
  simp only [Eg] at h
  split at h
  ·rename_i hc;exact (Ot r o.2 as _ st' h).trans (s9 hc)
  ·cases h
 |(true, .part _ _)::r,o,a::as,st,st',h=>by
  simp only [Eg] at h
  split at h
  ·rename_i hc;exact (Ot r o.2 as _ st' h).trans (IF hc)
  ·cases h
 |(true, .Dx _ _)::r,o,a::as,st,st',h=>by
  simp only [Eg] at h
  split at h
  ·rename_i hc;exact (Ot r o.2 as _ st' h).trans (s9 hc)
  ·cases h
theorem tJ (bY st:St) (ls:List Nat) (n:Nat) (hl:bY.tmps.length=st.tmps.length) (h:Bg bY st):Bg bY (gI bY st ls n):=by
 unfold gI
 split
 ·exact h
 ·intro t fr τ x hx
  show (Hj _ bY.tmps st.tmps).getD t .undef=_
  rcases bu ls bY.tmps st.tmps t hl with ⟨k,i,c,h1,_⟩|h1
  ·rw [show bY.tmps.getD t .undef=_ from hx] at h1;cases h1
  ·rw [h1];exact h t fr τ x hx
theorem x8 {st st':St} {d:Option Nat} {s:MSpec} {args:List AV} {v:AV} (h:Ri st d s args=some (v,st')):Bg st st':=by
 unfold Ri at h
 split at h
 ·cases h
 split at h
 ·cases h
 split at h
 ·cases h
 split at h
 ·split at h
  ·cases h
  split at h
  ·cases h
  rename_i st1 hp
  split at h
  ·cases h
  split at h
  ·simp only [Option.some.injEq,Prod.mk.injEq] at h
   obtain ⟨_,rfl⟩:=h
   have hpt:=Ot _ _ _ _ _ hp
   refine tJ _ _ _ _ ?_ ?_
   ·simp only [gh,kP]
    rw [<-hpt]
    simp only [St.Xk,St.Gs,List.length_map]
   ·refine Bg.trans (Bg.Sx hpt) ?_
    refine Bg.trans (Ki st1 (Az _ _) (by simp [Az,AC.refs]) λfr τ x=>by simp [Az,AC.refs]) (Bg.Sx kP)
  ·cases h
 ·cases h
theorem Yk (st:St) (k m:Nat) (b:OB):Bg st (Lp st k m b):=
 (Ki st (Az [m,k] []) (by simp [Az,AC.refs]) λfr τ x=>by simp [Az,AC.refs]).trans (Bg.Sx rfl)
theorem xa {T:Tab} {st st':St} {d:Nat} {t:TypeId} {l c v:AV} (h:Rk T st d t l c=some (v,st')):Bg st st':=by
 unfold Rk at h
 split at h
 ·exact zY h
 ·split at h
  ·split at h
   ·injection h with h;injection h with h1 h2;subst h2;exact Yk _ _ _ _
   ·cases h
  ·cases h
theorem iY {T:Tab} {st st':St} {d:Nat} {t:TypeId} {n:Nat} {parts:Array (Nat×Operand)} {v:AV} (h:Ez T st d t n parts=some (v,st')):Bg st st':=by
 unfold Ez at h
 split at h
 ·exact kl h
 ·repeat' split at h
  all_goals first|(cases h;done)|(injection h with h;injection h with h1 h2;subst h2;exact Yk _ _ _ _)
theorem qc {T:Tab} {st st':St} {d:Nat} {t:TypeId} {x y:Operand} {v:AV} (h:Ma T st d t x y=some (v,st')):Bg st st':=by
 unfold Ma at h
 split at h
 ·exact qb h
 ·repeat' split at h
  all_goals first|(cases h;done)|(injection h with h;injection h with h1 h2;subst h2;exact Yk _ _ _ _)
theorem Zu {st st':St} {v:AV} {o:Option AV} (h:o.map (λv=>(v,st))=some (v,st')):Bg st st':=by
 cases o with
 |none=>cases h
 |some u=>injection h with h;injection h with h1 h2;subst h2;exact Bg.rfl'
theorem Tz: ∀(l:List Operand) {st st1:St},Kd l st=some st1->Bg st st1
 | [],st,st1,h=>by
  simp only [Kd,Option.some.injEq] at h
  subst h
  exact Bg.rfl'
 |x::r,st,st1,h=>by
  simp only [Kd] at h
  cases hs:settle st (st.ev x) with
  |none=>rw [hs] at h;cases h
  |some p=>
   rw [hs] at h
   exact (Mq (v':=p.1) (st':=p.2) hs).trans (Tz r h)
theorem iJ {T:Tab} {Γ:Env} {st st':St} {o:Oper} {v:AV} (h:evalOp T Γ st o=some (v,st')):Bg st st':=by
 unfold evalOp at h
 split at h
 ·split at h
  ·split at h
   ·injection h with h;injection h with h1 h2;subst h2;exact Iw _ _ _
   ·cases h
  ·injection h with h;injection h with h1 h2;subst h2;exact Bg.rfl'
 ·split at h
  ·exact lB h
  ·cases h
 ·split at h
  ·split at h
   ·exact lB h
   ·cases h
  ·cases h
 ·rename_i t p x _
  cases hs:Km T st t (st.ev p) (st.ev x) with
  |none=>rw [hs] at h;cases h
  |some s=>rw [hs] at h;injection h with h;injection h with h1 h2;subst h2;exact tM hs
 ·split at h
  ·exact xa h
  ·cases h
 ·split at h
  ·exact qd h
  ·cases h
 ·rename_i t m k x _
  cases hs:Fc T st t (st.ev m) (st.ev k) (st.ev x) with
  |none=>rw [hs] at h;cases h
  |some s=>rw [hs] at h;injection h with h;injection h with h1 h2;subst h2;exact j0 hs
 ·rename_i t m k x _
  cases hs:Fc T st t (st.ev m) (st.ev k) (st.ev x) with
  |none=>rw [hs] at h;cases h
  |some s=>rw [hs] at h;injection h with h;injection h with h1 h2;subst h2;exact j0 hs
 ·split at h
  ·exact iY h
  ·cases h
 ·exact Zu h
 ·split at h
  ·split at h
   ·exact qc h
   ·cases h
  ·cases h
 ·split at h
  ·exact zX h
  ·cases h
 ·split at h
  ·rename_i x t _ _
   cases hs:evalClear T st t (st.ev x) with
   |none=>rw [hs] at h;cases h
   |some s=>rw [hs] at h;injection h with h;injection h with h1 h2;subst h2;exact x9 hs
  ·cases h
 ·split at h
  ·exact x8 h
  ·split at h
   ·rename_i args _ _ _ _ _ _
    cases hs:Kd args.toList st with
    |none=>rw [hs] at h;cases h
    |some st1=>
     rw [hs] at h
     exact (Tz _ hs).trans (Zu h)
   ·exact Zu h
  ·exact Zu h
 ·exact Zu h
def Ll:List Oper->List Nat
 | []=> []
 |o::r=>(match o.dst with|some d=> [d]|none=> [])++Ll r
def writes:Code->List Nat
 | .region _ ops _=>Ll ops.toList
 | .seq a b=>writes a++writes b
 | .cond _ a b=>writes a++writes b
 | .block _ c=>writes c
 | .loop c=>writes c
 |_=> []
def Fq (P:Nat->Prop) (st st':St):Prop:= ∀(t:Nat) (fr:Bool) (τ:Ty) (x:τ.den),P t->st.get t= .at (.data fr τ x)->st'.get t= .at (.data fr τ x)
theorem Fq.trans {P:Nat->Prop} {a b c:St} (h1:Fq P a b) (h2:Fq P b c):Fq P a c:= λt fr τ x hp h=>h2 t fr τ x hp (h1 t fr τ x hp h)
theorem Fq.mono {P Q:Nat->Prop} {a b:St} (h1:Fq P a b) (h: ∀t,Q t->P t):Fq Q a b:= λt fr τ x hp hx=>h1 t fr τ x (h t hp) hx
theorem Bg.on {P:Nat->Prop} {a b:St} (h:Bg a b):Fq P a b:= λt fr τ x _ hx=>h t fr τ x hx
theorem Xn (st:St) (dst:Option Tmp) (v:AV):Fq (λt=>dst≠some t) st (st.put dst v):=by
 intro t fr τ x hp hx
 cases dst with
 |none=>exact hx
 |some d=>rw [Wa st v (λh=>hp (by rw [h]))];exact hx
theorem cO {T:Tab} {Γ:Env} {ops:Array Oper} {st st':St} {o:Oper} (h:Cq T Γ ops st o=some st'):Fq (λt=>o.dst≠some t) st st':=by
 have key: ∀s,(evalOp T Γ st o).map (λr=>r.2.put o.dst r.1)=some s->Fq (λt=>o.dst≠some t) st s:=by
  intro s hs
  cases he:evalOp T Γ st o with
  |none=>rw [he] at hs;cases hs
  |some p=>rw [he] at hs;injection hs with hs;subst hs;exact (iJ (v:=p.1) (st':=p.2) he).on.trans (Xn _ _ _)
 unfold Cq at h
 split at h
 ·exact key _ h
 ·split at h
  ·split at h
   ·exact key _ h
   ·injection h with h;subst h;exact Xn _ _ _
  ·injection h with h;subst h;exact Xn _ _ _
  ·cases h
theorem fh {T:Tab} {Γ:Env} {ops:Array Oper} : ∀(l:List Oper) (st st':St),Ur T Γ ops l st=some st'->Fq (λt=>t∉Ll l) st st'
 | [],st,st',h=>by injection h with h;subst h;exact Bg.rfl'.on
 |o::r,st,st',h=>by
  simp only [Ur] at h
  split at h
  ·rename_i s hs
   refine Fq.trans ((cO hs).mono λt ht=>?_) ((fh r _ _ h).mono λt ht=>?_)
   ·intro hd;apply ht;simp [Ll,hd]
   ·intro hd;apply ht;simp [Ll,hd]
  ·cases h
theorem Yo: ∀(l:List Oper) (o:Oper) (d:Nat),o∈l->o.dst=some d->d∈Ll l
 | [],_,_,h,_=>by cases h
 |p::r,o,d,h,hd=>by
  cases h with
  |head=>simp [Ll,hd]
  |tail _ h=>simp only [Ll,List.mem_append];exact .inr (Yo r o d h hd)
theorem rV {ops:Array Oper} {i:Nat} {o:Oper} (h:ops[i]?=some o):o∈ops.toList:=by
 rw [Array.getElem?_eq_some_iff] at h
 obtain ⟨h1,h2⟩:=h
 rw [<-h2]
 simp
theorem Yh {T:Tab} {Γ:Env} {ops:Array Oper} : ∀(l:List Nat) (st st':St),Jw T Γ ops l st=some st'->Fq (λt=>t∉Ll ops.toList) st st'
 | [],st,st',h=>by injection h with h;subst h;exact Bg.rfl'.on
 |i::r,st,st',h=>by
  simp only [Jw] at h
  split at h
  ·cases h
  ·rename_i o ho
   split at h
   ·rename_i s hs
    exact ((cO hs).mono λt ht hd=>ht (Yo _ _ _ (rV ho) hd)).trans (Yh r _ _ h)
   ·cases h
theorem Vx {T:Tab} {Γ:Env} {ops:Array Oper} : ∀(l:List Nat) (st st':St),Ef T Γ ops l st=some st'->Fq (λt=>t∉Ll ops.toList) st st'
 | [],st,st',h=>by injection h with h;subst h;exact Bg.rfl'.on
 |i::r,st,st',h=>by
  simp only [Ef] at h
  split at h
  ·cases h
  ·rename_i o ho
   split at h
   ·exact ((Xn _ _ _).mono λt ht hd=>ht (Yo _ _ _ (rV ho) hd)).trans (Vx r _ _ h)
   ·cases h
theorem bN: ∀(l:List Nat) (st:St),Bg st (Zk l st)
 | [],_=>Bg.rfl'
 |a::r,st=>(iZ st a).trans (bN r _)
theorem cE (live:List Nat): ∀(i:Nat) (l:List AV) (t:Nat),i+t∈live->(Gg live i l).getD t .undef=l.getD t .undef
 |_,[],_,_=>rfl
 |i,v::r,0,h=>by simp [Gg];intro hn;exact absurd h hn
 |i,v::r,t+1,h=>by
  simp only [Gg,List.getD_cons_succ]
  exact cE live (i+1) r t (by rw [show i+1+t=i+(t+1) by omega];exact h)
theorem tK (l k:Nat) (st:St):Bg st (st.rename l k):=by
 unfold St.rename
 split
 ·split
  ·exact (Ki st (Pg l k) rfl λ_ _ _=>rfl).trans (Bg.Sx rfl)
  ·exact Bg.rfl'
 ·exact Bg.rfl'
theorem Zw: ∀(n t:Nat) (st:St),Bg st (Ii n t st)
 |0,_,_=>Bg.rfl'
 |n+1,t,st=>by
  simp only [Ii]
  refine Bg.trans ?_ (Zw n (t+1) _)
  split
  ·split
   ·split
    ·exact Bg.rfl'
    ·exact tK _ _ _
   ·exact Bg.rfl'
  ·exact Bg.rfl'
theorem oc (t:Nat) (st:St):Bg st (Wn t st):=by
 unfold Wn
 split
 ·rename_i l off len hg
  split
  ·split
   ·intro k fr τ x hk
    have Et:k≠t:= λe=>by subst e;rw [hg] at hk;cases hk
    rw [Wa _ _ Et]
    exact Iw _ _ _ k fr τ x hk
   ·exact Bg.rfl'
  ·exact Bg.rfl'
 ·exact Bg.rfl'
theorem bP (live:List Nat): ∀(n t:Nat) (st:St),Bg st (Kc live n t st)
 |0,_,_=>Bg.rfl'
 |n+1,t,st=>by
  simp only [Kc]
  refine Bg.trans ?_ (bP live n (t+1) _)
  split
  ·exact oc _ _
  ·exact Bg.rfl'
theorem fC (live:List Nat) (st:St):Fq (λt=>t∈live) st (st.clean live):=by
 intro t fr τ x hp hx
 unfold St.clean
 have key: ∀s:St,s.get t= .at (.data fr τ x)->(if live.contains Xt then Ii s.tmps.length 0 s else s).get t= .at (.data fr τ x):=by
  intro s hs
  split
  ·exact Zw _ _ s t fr τ x hs
  ·exact hs
 have MV: ∀s:St,s.get t= .at (.data fr τ x)->(if live.any (λt=>Nat.ble Tt t) then s.Fe live else s).get t= .at (.data fr τ x):=by
  intro s hs
  split<;>exact hs
 have MW: ∀s:St,s.get t= .at (.data fr τ x)->(if live.any (λt=>Nat.ble Ih t&&Nat.blt t Xt) then Kc live s.tmps.length 0 s else s).get t= .at (.data fr τ x):=by
  intro s hs
  split
  ·exact bP _ _ _ s t fr τ x hs
  ·exact hs
 refine MV _ (key _ (MW _ (bN _ _ t fr τ x ?_)))
 simp only [St.get] at hx⊢
 rw [cE live 0 st.tmps t (by simpa using hp)]
 exact hx
def We (live:Nat->List Nat):Code->Nat->Bool
 | .seq a b,t=>We live a t&&We live b t
 | .cond _ a b,t=>We live a t&&We live b t
 | .block _ c,t=>We live c t
 | .loop c,t=>(live (Cl c)).contains t&&We live c t
 |_,_=>true
theorem jO {a b:Bool} (h:(a&&b)=true):a=true:=by cases a<;>simp_all
theorem gi {a b:Bool} (h:(a&&b)=true):b=true:=by cases a<;>simp_all
theorem jU {T:Tab} {Γ:Env} {ops:Array Oper} {draw:Bool} {st st':St} (h:Mb T Γ ops draw st=some st'):Fq (λt=>t∉writes (.region 0 ops draw)) st st':=by
 unfold Mb at h
 have go: ∀q,(match Ef T Γ ops (eB q Γ ops) st with
   |some s=>Jw T Γ ops (Ft q Γ ops) s
   |none=>none)=some st'->Fq (λt=>t∉writes (.region 0 ops draw)) st st':=by
  intro q h
  split at h
  ·rename_i s hs
   exact (Vx _ _ _ hs).trans (Yh _ _ _ h)
  ·cases h
 split at h
 ·split at h
  ·exact go false h
  ·split at h
   ·exact go true h
   ·cases h
 ·exact fh _ _ _ h
theorem nj {T:Tab} {Γ:Env} {ops:Array Oper} {draw:Bool} {K:St->Prop} (s0:St): ∀(f:Nat) (Ad:Array Bool) (st:St),Fq (λt=>t∉writes (.region 0 ops draw)) s0 st->anyS T Γ ops K f Ad st->anyS T Γ ops (λs=>K s/\Fq (λt=>t∉writes (.region 0 ops draw)) s0 s) f Ad st
 |0,_,_,hk,h=>⟨h.1,h.2,hk⟩
 |f+1,Ad,st,hk,h=>⟨h.1,λi hi=>by
  obtain ⟨o,st',h1,h2,h3⟩:=h.2 i hi
  have h4:Jw T Γ ops [i] st=some st':=by simp only [Jw,h1,h2]
  exact ⟨o,st',h1,h2,nj s0 f _ _ (hk.trans (Yh _ _ _ h4)) h3⟩⟩
theorem sF.keeps {T:Tab} {Γ:Env} {ops:Array Oper} {draw:Bool} {st:St} {K:St->Prop} (h:sF T Γ ops draw st K):sF T Γ ops draw st (λs=>K s/\Fq (λt=>t∉writes (.region 0 ops draw)) st s):=by
 rcases h with ⟨st',h1,h2⟩|⟨h1,h2,bY,h3,h4⟩
 ·exact .inl ⟨st',h1,h2,jU h1⟩
 ·exact .inr ⟨h1,h2,bY,h3,nj st _ _ _ (Vx _ _ _ h3) h4⟩
theorem BM {T:Tab} {Γ:Env} {live:Nat->List Nat} {c:Code} {st:St} {Q:Hi->St->Prop} (h:Jt T Γ live c st Q): ∀(s0:St) (p:Nat->Prop),Fq p s0 st->(∀t,p t->t∉writes c/\We live c t=true)->Jt T Γ live c st (λe s=>Q e s/\Fq p s0 s):=by
 induction h with
 |skip h=>exact λs0 p hk _=> .skip ⟨h,hk⟩
 |label h=>exact λs0 p hk _=> .label ⟨h,hk⟩
 |exit h=>exact λs0 p hk _=> .exit ⟨h,hk⟩
 |ret h=>exact λs0 p hk _=> .ret ⟨h,hk⟩
 |region h=>
  exact λs0 p hk hp=> .region (h.keeps.mono λs hs=>⟨hs.1,hk.trans (hs.2.mono λt ht=>(hp t ht).1)⟩)
 |seq Q1 _ _ h3 GS x4=>
  exact λs0 p hk hp=> .seq _ (GS s0 p hk λt ht=>⟨λhm=>(hp t ht).1 (by simp [writes,hm]),jO (hp t ht).2⟩)
   (λs hs=>x4 s hs.1 s0 p hs.2 λt ht=>⟨λhm=>(hp t ht).1 (by simp [writes,hm]),gi (hp t ht).2⟩) λe s he hs=>⟨h3 e s he hs.1,hs.2⟩
 |cond hc _ _ GS x4=>
  exact λs0 p hk hp=> .cond hc (λht=>GS ht s0 p hk λt h=>⟨λhm=>(hp t h).1 (by simp [writes,hm]),jO (hp t h).2⟩)
   fun ht=>x4 ht s0 p hk λt h=>⟨λhm=>(hp t h).1 (by simp [writes,hm]),gi (hp t h).2⟩
 |block Q1 _ h2 ih=>
  exact λs0 p hk hp=> .block _ (ih s0 p hk λt ht=>⟨λhm=>(hp t ht).1 (by simpa [writes] using hm),by simpa [We] using (hp t ht).2⟩) λe s hs=>by
   have h:=h2 e s hs.1
   cases e with
   |normal=>exact ⟨h,hs.2⟩
   |ret=>exact ⟨h,hs.2⟩
   |exit GQ=>
    simp only [rE] at h⊢
    split at h
    ·rename_i hi;rw [if_pos hi];exact ⟨h,hs.2⟩
    ·rename_i hi;rw [if_neg hi];exact ⟨h,hs.2⟩
 |loop Q1 _ _ h3 GS x4=>
  intro s0 p hk hp
  refine .loop _ (GS s0 p (hk.trans ((fC _ _).mono λt ht=>by simpa using jO (hp t ht).2)) λt ht=>⟨λhm=>(hp t ht).1 (by simpa [writes] using hm),gi (hp t ht).2⟩)
   (λs hs=>x4 s hs.1 s0 p hs.2 hp) λe s he hs=>⟨h3 e s he hs.1,hs.2⟩
end Go.Proofs.Ytjbdmibbbpdnnaa
