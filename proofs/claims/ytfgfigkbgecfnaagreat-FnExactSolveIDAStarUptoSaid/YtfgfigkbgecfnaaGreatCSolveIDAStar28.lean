/-
  Part 29 of the proof that the statement FnExactSolveIDAStar holds.
-/
import Derived.Test.YtfgfigkbgecfnaaGreatCSolveIDAStar27
namespace Go.Proofs.YtfgfigkbgecfnaaGreat
open Go.RowKit
def Cj (st st':St):Prop:= ∀(t:Nat) (fr:Bool) (τ:Ty) (x:τ.den),st.get t= .at (.data fr τ x)->st'.get t= .at (.data fr τ x)
theorem Cj.rfl' {st:St} :Cj st st:= λ_ _ _ _ h=>h
theorem Cj.trans {a b c:St} (h1:Cj a b) (h2:Cj b c):Cj a c:= λt fr τ x h=>h2 t fr τ x (h1 t fr τ x h)
theorem Cj.aj {a b:St} (h:b.tmps=a.tmps):Cj a b:= λt fr τ x hx=>by
 simp only [St.get] at hx⊢
 rw [h]
 exact hx
theorem cC (st:St) {t d:Nat} (v:AV) (h:t≠d):(st.put (some d) v).get t=st.get t:=by
 simp only [St.put,St.get]
 rw [Rh]
 rw [Ag (by rintro ⟨rfl,_⟩;exact h rfl)]
theorem Pw (st:St) (f:AC->AC) (hu:f .undef= .undef) (hd: ∀fr (τ:Ty) (x:τ.den),f (.data fr τ x)= .data fr τ x):Cj st (st.Lb f):=by
 intro t fr τ x h
 simp only [St.Lb,St.get]
 rw [Vx f hu,show st.tmps.getD t .undef=_ from h]
 simp only [AV.map,hd]
theorem oM (st:St) (l:Nat):Cj st (st.forget l):=
 (Pw st (Cs l) rfl λ_ _ _=>rfl).trans (Cj.aj rfl)
theorem bD (st:St) (l:Nat) (fr:Bool) (e:Ty) (xs:List e.den):Cj st (st.freeze l fr e xs):=
 (Pw st (Dc l fr e xs) rfl λ_ _ _=>rfl).trans (Cj.aj rfl)
theorem iv (st:St) (l:Nat) (v:Ty) (m:ByteArray->Option v.den):Cj st (st.Ix l v m):=
 (Pw st (Hi l v m) rfl λ_ _ _=>rfl).trans (Cj.aj rfl)
theorem Li (st:St) (l:Nat) (b:OB):Cj st (st.new l b):=(oM st l).trans (Cj.aj rfl)
theorem Mu (st:St) (l:Nat) (b:OB):Cj st (st.Kc l b):=Cj.aj rfl
theorem fb (b:OB) (key l i:Nat) (st:St):Cj st (Vp b key l i st):=by
 unfold Vp
 split
 ·split
  ·dsimp only
   split
   ·exact (Li _ _ _).trans (Mu _ _ _)
   ·exact Li _ _ _
  ·exact Cj.rfl'
 ·exact Cj.rfl'
theorem mg (T:Tab) (l:Nat) (t:TypeId) (τ:Ty): ∀(n i:Nat) (st:St),Cj st (gz T l t τ n i st)
 |0,_,_=>Cj.rfl'
 |n+1,i,st=>by
  simp only [gz]
  refine Cj.trans ?_ (mg T l t τ n (i+1) _)
  split
  ·exact fb _ _ _ _ _
  ·exact Cj.rfl'
theorem jJ (T:Tab) (l off:Nat) (t:TypeId) (τ:Ty): ∀(n i:Nat) (st:St),Cj st (fk T l off t τ n i st)
 |0,_,_=>Cj.rfl'
 |n+1,i,st=>by
  simp only [fk]
  refine Cj.trans ?_ (jJ T l off t τ n (i+1) _)
  split
  ·exact fb _ _ _ _ _
  ·exact Cj.rfl'
theorem Rq: ∀(n:Nat) (st:St) (cs jl:List AC) (st':St),Ht n st cs=some (jl,st')->Cj st st'
 |0,st,cs,jl,st',h=>by
  simp only [Ht] at h
  split at h
  ·injection h with h;injection h with h1 h2;subst h2;exact Cj.rfl'
  ·cases h
 |n+1,st,cs,jl,st',h=>by
  simp only [Ht] at h
  split at h
  ·injection h with h;injection h with h1 h2;subst h2;exact Cj.rfl'
  ·split at h
   ·exact (bD _ _ _ _ _).trans (Rq n _ _ _ _ h)
   ·exact (bD _ _ _ _ _).trans (Rq n _ _ _ _ h)
   ·cases h
  ·split at h
   ·exact (iv _ _ _ _).trans (Rq n _ _ _ _ h)
   ·cases h
  ·cases h
theorem Te {st st':St} {v v':AV} (h:settle st v=some (v',st')):Cj st st':=by
 unfold settle at h
 split at h
 ·split at h
  ·injection h with h;injection h with h1 h2;subst h2;exact bD _ _ _ _ _
  ·injection h with h;injection h with h1 h2;subst h2;exact bD _ _ _ _ _
  ·cases h
 ·split at h
  ·injection h with h;injection h with h1 h2;subst h2;exact iv _ _ _ _
  ·cases h
 ·split at h
  ·injection h with h;injection h with h1 h2;subst h2;exact Cj.rfl'
  ·cases h
 ·rename_i cs
  cases hs:Ht cs.length st cs with
  |none=>rw [hs] at h;cases h
  |some p=>rw [hs] at h;injection h with h;injection h with h1 h2;subst h2;exact Rq _ _ _ _ _ hs
 ·injection h with h;injection h with h1 h2;subst h2;exact Cj.rfl'
 ·cases h
theorem CT {st st':St} {l:Nat} {t:TypeId} {cs:List AC} {v:AV} (h:w6 st l t cs=some (v,st')):Cj st st':=by
 unfold w6 at h
 split at h
 ·cases h
 ·injection h with h;injection h with h1 h2;subst h2;exact Li _ _ _
theorem jI {T:Tab} {st st':St} {l:Nat} {t:TypeId} {τ:Ty} {cs:List AC} {v:AV} (h:mkVar T st l t τ cs=some (v,st')):Cj st st':=by
 unfold mkVar at h
 split at h
 ·cases h
 dsimp only at h
 split at h
 ·injection h with h;injection h with h1 h2;subst h2;exact (Li _ _ _).trans (mg _ _ _ _ _ _ _)
 ·cases h
theorem JH {T:Tab} {st st':St} {t:TypeId} {p v:AV} (h:Vv T st t p v=some st'):Cj st st':=by
 unfold Vv at h
 split at h
 ·split at h
  ·split at h
   ·injection h with h
    split at h
    ·subst h;exact (Mu _ _ _).trans (jJ _ _ _ _ _ _ _ _)
    ·subst h;exact Mu _ _ _
   ·cases h
  ·cases h
 ·split at h
  ·rename_i hs
   split at h
   ·split at h
    ·split at h
     ·injection h with h;subst h;exact (Te hs).trans (Mu _ _ _)
     ·cases h
    ·cases h
   ·cases h
  ·cases h
 ·cases h
theorem vQ (st:St) (l j m:Nat) (e:Ty) (te:TypeId) (rows:List (List e.den)) (xs:List e.den) (kp:Option (Nat×Nat)):Cj st (Uo st l j m e te rows xs kp):=
 ((Pw st (Ct [m] [l]) (by simp [Ct,AC.refs]) λfr τ x=>by simp [Ct,AC.refs]).trans (Cj.aj rfl)).trans (Mu (st.dw [m] [l]) _ _)
theorem vR (st:St) (l i m:Nat) (e:Ty) (te tid:TypeId) (rows:List (List e.den)) (kp:Option (Nat×Nat)):Cj st (Qt st l i m e te tid rows kp):=
 (Mu st l _).trans (Li _ m _)
theorem CU {T:Tab} {st st':St} {t:TypeId} {p v:AV} (h:Qf T st t p v=some st'):Cj st st':=by
 unfold Qf at h
 split at h
 rotate_left
 ·exact JH h
 unfold cz at h
 split at h
 ·split at h
  ·rename_i hs
   split at h
   ·split at h
    ·injection h with h;subst h;exact (Te hs).trans (Mu _ _ _)
    ·cases h
   ·cases h
  ·cases h
 ·split at h
  ·split at h
   ·split at h
    ·injection h with h;subst h
     exact vQ _ _ _ _ _ _ _ _ _
    ·cases h
   ·cases h
  ·cases h
 ·cases h
theorem gg {T:Tab} {st st':St} {d:Nat} {t:TypeId} {x y:Operand} {v:AV} (h:Og T st d t x y=some (v,st')):Cj st st':=by
 unfold Og at h
 split at h
 ·cases h
 ·split at h
  ·rename_i hs
   split at h
   ·cases h
   ·split at h
    ·split at h
     ·injection h with h;injection h with h1 h2;subst h2;exact ((Te hs).trans (Li _ _ _)).trans (Li _ _ _)
     ·cases h
    ·split at h
     ·split at h
      ·split at h
       ·injection h with h;injection h with h1 h2;subst h2;exact (Te hs).trans (Li _ _ _)
       ·cases h
      ·cases h
     ·cases h
    ·cases h
  ·cases h
theorem xV {T:Tab} {st st':St} {d:Nat} {t:TypeId} {x y:Operand} {v:AV} (h:Sb T st d t x y=some (v,st')):Cj st st':=by
 unfold Sb at h
 split at h
 ·rename_i tx
  split at h
  ·rename_i l i c hg
   split at h
   ·split at h
    ·rename_i e te rows kp tid hl ht hc
     refine Cj.trans (b:=(Qt st l i d e te tid rows kp).put (some tx) (.at (.own d 0 (rows.getD i []).length))) ?_ (gg h)
     intro t' fr τ z hz
     by_cases e':t'=tx
     ·subst e';rw [hg] at hz;cases hz
     ·rw [cC _ _ e'];exact vR st l i d e te tid rows kp t' fr τ z hz
    ·cases h
   ·cases h
  ·exact gg h
 ·exact gg h
theorem QP {T:Tab} {st st':St} {d:Nat} {t:TypeId} {l c v:AV} (h:cw T st d t l c=some (v,st')):Cj st st':=by
 unfold cw at h
 split at h
 ·split at h
  ·split at h
   ·injection h with h;injection h with h1 h2;subst h2;exact Li _ _ _
   ·cases h
  ·cases h
 ·cases h
theorem s9 (e:Ty): ∀(l:List (Nat×Operand)) (i:Nat) (st st':St) (fr tr:Bool) (ys:List e.den),Ll e i l st=some (fr,tr,ys,st')->Cj st st'
 | [],_,_,_,_,_,_,h=>by
  simp only [Ll] at h
  injection h with h;injection h with h1 h2;injection h2 with h2 h3;injection h3 with h3 h4;subst h4;exact Cj.rfl'
 |(j,x)::r,i,st,st',fr,tr,ys,h=>by
  simp only [Ll] at h
  split at h
  ·split at h
   ·rename_i hs
    split at h
    ·split at h
     ·rename_i hp
      injection h with h;injection h with h1 h2;injection h2 with h2 h3;injection h3 with h3 h4;subst h4
      exact (Te hs).trans (s9 e r _ _ _ _ _ _ hp)
     ·cases h
    ·cases h
   ·cases h
  ·cases h
theorem qA {T:Tab} {st st':St} {d:Nat} {t:TypeId} {n:Nat} {parts:Array (Nat×Operand)} {v:AV} (h:Mq T st d t n parts=some (v,st')):Cj st st':=by
 unfold Mq at h
 split at h
 ·cases h
 ·split at h
  ·cases h
  ·split at h
   ·split at h
    ·rename_i hp
     injection h with h;injection h with h1 h2;subst h2;exact (s9 _ _ _ _ _ _ _ _ hp).trans (Li _ _ _)
    ·cases h
   ·cases h
theorem xX {T:Tab} {st st':St} {d:Nat} {t:TypeId} {v:AV} (h:Vu T st d t=some (v,st')):Cj st st':=by
 unfold Vu at h
 split at h
 ·split at h
  ·injection h with h;injection h with h1 h2;subst h2;exact Li _ _ _
  ·cases h
 ·cases h
theorem oN {T:Tab} {st st':St} {t:TypeId} {m k x:AV} (h:Jk T st t m k x=some st'):Cj st st':=by
 unfold Jk at h
 split at h
 ·split at h
  ·split at h
   ·injection h with h;subst h;exact Mu _ _ _
   ·cases h
  ·cases h
 ·cases h
theorem QO {T:Tab} {st st':St} {t t':TypeId} {x y v:AV} (h:jq T st t t' x y=some (v,st')):Cj st st':=by
 unfold jq at h
 split at h
 ·split at h
  ·split at h
   ·split at h
    ·injection h with h;injection h with h1 h2;subst h2;exact Mu _ _ _
    ·cases h
   ·cases h
  ·cases h
 ·cases h
theorem JF {T:Tab} {st st':St} {t:TypeId} {x:AV} (h:evalClear T st t x=some st'):Cj st st':=by
 unfold evalClear at h
 split at h
 ·split at h
  ·split at h
   ·split at h
    ·injection h with h;subst h;exact Mu _ _ _
    ·cases h
   ·cases h
  ·cases h
 ·cases h
theorem zX {st st':St} {c:CK} {ys:c.den} {a:AC} (h:df st c ys a=some st'):st'.tmps=st.tmps:=by
 unfold df at h
 repeat' split at h
 all_goals first|(cases h;done)|(simp only [Aa] at h;subst h;rfl)|skip
theorem ZO {st st':St} {e:Ty} {ys:List e.den} {a:AC} (h:SB st e ys a=some st'):st'.tmps=st.tmps:=by
 unfold SB at h
 repeat' split at h
 all_goals first|(cases h;done)|(simp only [Aa] at h;subst h;rfl)|skip
theorem Vq: ∀(cs:List (Bool×CK)) (o:IOs.den cs) (as:List AC) (st st':St),Ii cs o as st=some st'->st'.tmps=st.tmps
 | [],_,_,st,st',h=>by simp only [Ii,Aa] at h;subst h;rfl
 |(true, .Em _)::r,o,[],st,st',h=>by simp [Ii] at h
 |(true, .row _ _)::r,o,[],st,st',h=>by simp [Ii] at h
 |(true, .Hp _ _)::r,o,[],st,st',h=>by simp [Ii] at h
 |(true, .part _ _)::r,o,[],st,st',h=>by simp [Ii] at h
 |(true, .Bp _ _ _)::r,o,[],st,st',h=>by simp [Ii] at h
 |(true, .Bp _ _ _)::r,o,a::as,st,st',h=>Vq r o as st st' (by simpa only [Ii] using h)
 |(false,_)::r,o,[],st,st',h=>by simp [Ii] at h
 |(true, .Em _)::r,o,a::as,st,st',h=>Vq r o as st st' (by simpa only [Ii] using h)
 |(false,_)::r,o,a::as,st,st',h=>Vq r o as st st' (by simpa only [Ii] using h)
 |(true, .row _ _)::r,o,a::as,st,st',h=>by
  simp only [Ii] at h
  split at h
  ·rename_i hc;exact (Vq r o.2 as _ st' h).trans (zX hc)
  ·cases h
 |(true, .part _ _)::r,o,a::as,st,st',h=>by
  simp only [Ii] at h
  split at h
  ·rename_i hc;exact (Vq r o.2 as _ st' h).trans (ZO hc)
  ·cases h
 |(true, .Hp _ _)::r,o,a::as,st,st',h=>by
  simp only [Ii] at h
  split at h
  ·rename_i hc;exact (Vq r o.2 as _ st' h).trans (zX hc)
  ·cases h
theorem CS (cZ st:St) (ls:List Nat) (n:Nat) (hl:cZ.tmps.length=st.tmps.length) (h:Cj cZ st):Cj cZ (nh cZ st ls n):=by
 unfold nh
 split
 ·exact h
 ·intro t fr τ x hx
  show (Lx _ cZ.tmps st.tmps).getD t .undef=_
  rcases gS ls cZ.tmps st.tmps t hl with ⟨k,i,c,h1,_⟩|h1
  ·rw [show cZ.tmps.getD t .undef=_ from hx] at h1;cases h1
  ·rw [h1];exact h t fr τ x hx
theorem JE {st st':St} {d:Option Nat} {s:MSpec} {args:List AV} {v:AV} (h:Ys st d s args=some (v,st')):Cj st st':=by
 unfold Ys at h
 split at h
 ·cases h
 split at h
 ·cases h
 split at h
 ·cases h
 split at h
 ·split at h
  ·cases h
  split at h
  ·cases h
  rename_i st1 hp
  split at h
  ·cases h
  split at h
  ·simp only [Aa,Ae] at h
   obtain ⟨_,rfl⟩:=h
   have dd:=Vq _ _ _ _ _ hp
   refine CS _ _ _ _ ?_ ?_
   ·simp only [j9,r7]
    rw [<-dd]
    simp only [St.dw,St.Lb,Dl]
   ·refine Cj.trans (Cj.aj dd) ?_
    refine Cj.trans (Pw st1 (Ct _ _) (by simp [Ct,AC.refs]) λfr τ x=>by simp [Ct,AC.refs]) (Cj.aj r7)
  ·cases h
 ·cases h
theorem ee (st:St) (k m:Nat) (b:OB):Cj st (Ro st k m b):=
 (Pw st (Ct [m,k] []) (by simp [Ct,AC.refs]) λfr τ x=>by simp [Ct,AC.refs]).trans (Cj.aj rfl)
theorem JG {T:Tab} {st st':St} {d:Nat} {t:TypeId} {l c v:AV} (h:Yu T st d t l c=some (v,st')):Cj st st':=by
 unfold Yu at h
 split at h
 ·exact QP h
 ·split at h
  ·split at h
   ·injection h with h;injection h with h1 h2;subst h2;exact ee _ _ _ _
   ·cases h
  ·cases h
theorem oL {T:Tab} {st st':St} {d:Nat} {t:TypeId} {n:Nat} {parts:Array (Nat×Operand)} {v:AV} (h:Jg T st d t n parts=some (v,st')):Cj st st':=by
 unfold Jg at h
 split at h
 ·exact qA h
 ·repeat' split at h
  all_goals first|(cases h;done)|(injection h with h;injection h with h1 h2;subst h2;exact ee _ _ _ _)
theorem xW {T:Tab} {st st':St} {d:Nat} {t:TypeId} {x y:Operand} {v:AV} (h:Sd T st d t x y=some (v,st')):Cj st st':=by
 unfold Sd at h
 split at h
 ·exact xV h
 ·repeat' split at h
  all_goals first|(cases h;done)|(injection h with h;injection h with h1 h2;subst h2;exact ee _ _ _ _)
theorem fa {st st':St} {v:AV} {o:Option AV} (h:o.map (λv=>(v,st))=some (v,st')):Cj st st':=by
 cases o with
 |none=>cases h
 |some u=>injection h with h;injection h with h1 h2;subst h2;exact Cj.rfl'
theorem Vb: ∀(l:List Operand) {st st1:St},Ns l st=some st1->Cj st st1
 | [],st,st1,h=>by
  simp only [Ns,Aa] at h
  subst h
  exact Cj.rfl'
 |x::r,st,st1,h=>by
  simp only [Ns] at h
  cases hs:settle st (st.ev x) with
  |none=>rw [hs] at h;cases h
  |some p=>
   rw [hs] at h
   exact (Te (v':=p.1) (st':=p.2) hs).trans (Vb r h)
theorem xY {T:Tab} {st:St} (p x:Operand):Cj st (Oz T st p x):=by
 unfold Oz
 split
 ·split
  ·split
   ·rename_i hs;exact Vb _ hs
   ·exact Cj.rfl'
  ·exact Cj.rfl'
 ·exact Cj.rfl'
theorem og {T:Tab} {Γ:Env} {st st':St} {o:Oper} {v:AV} (h:evalOp T Γ st o=some (v,st')):Cj st st':=by
 unfold evalOp at h
 split at h
 ·split at h
  ·split at h
   ·injection h with h;injection h with h1 h2;subst h2;exact Li _ _ _
   ·cases h
  ·injection h with h;injection h with h1 h2;subst h2;exact Cj.rfl'
 ·split at h
  ·split at h
   ·exact CT h
   ·exact jI h
  ·cases h
 ·split at h
  ·split at h
   ·split at h
    ·split at h
     ·obtain ⟨p,_,hp⟩:=Option.map_eq_some_iff.1 h
      cases hp
      exact Cj.rfl'
     ·cases h
    ·split at h
     ·exact jI h
     ·exact jI h
   ·cases h
  ·cases h
 ·rename_i t p x _
  cases hs:Qf T (Oz T st p x) t ((Oz T st p x).ev p) ((Oz T st p x).ev x) with
  |none=>rw [hs] at h;cases h
  |some s=>rw [hs] at h;injection h with h;injection h with h1 h2;subst h2;exact (xY p x).trans (CU hs)
 ·split at h
  ·exact JG h
  ·cases h
 ·split at h
  ·exact xX h
  ·cases h
 ·rename_i t m k x _
  cases hs:Jk T st t (st.ev m) (st.ev k) (st.ev x) with
  |none=>rw [hs] at h;cases h
  |some s=>rw [hs] at h;injection h with h;injection h with h1 h2;subst h2;exact oN hs
 ·rename_i t m k x _
  cases hs:Jk T st t (st.ev m) (st.ev k) (st.ev x) with
  |none=>rw [hs] at h;cases h
  |some s=>rw [hs] at h;injection h with h;injection h with h1 h2;subst h2;exact oN hs
 ·split at h
  ·exact oL h
  ·cases h
 ·exact fa h
 ·split at h
  ·split at h
   ·exact xW h
   ·cases h
  ·cases h
 ·split at h
  ·exact QO h
  ·cases h
 ·split at h
  ·rename_i x t _ _
   cases hs:evalClear T st t (st.ev x) with
   |none=>rw [hs] at h;cases h
   |some s=>rw [hs] at h;injection h with h;injection h with h1 h2;subst h2;exact JF hs
  ·cases h
 ·split at h
  ·exact JE h
  ·split at h
   ·rename_i args _ _ _ _ _ _
    cases hs:Ns args.toList st with
    |none=>rw [hs] at h;cases h
    |some st1=>
     rw [hs] at h
     exact (Vb _ hs).trans (fa h)
   ·exact fa h
  ·exact fa h
 ·exact fa h
def Ku:List Oper->List Nat
 | []=> []
 |o::r=>(match o.dst with|some d=> [d]|none=> [])++Ku r
def writes:Code->List Nat
 | .region _ ops _=>Ku ops.toList
 | .seq a b=>writes a++writes b
 | .cond _ a b=>writes a++writes b
 | .block _ c=>writes c
 | .loop c=>writes c
 |_=> []
def Fz (P:Nat->Prop) (st st':St):Prop:= ∀(t:Nat) (fr:Bool) (τ:Ty) (x:τ.den),P t->st.get t= .at (.data fr τ x)->st'.get t= .at (.data fr τ x)
theorem Fz.trans {P:Nat->Prop} {a b c:St} (h1:Fz P a b) (h2:Fz P b c):Fz P a c:= λt fr τ x hp h=>h2 t fr τ x hp (h1 t fr τ x hp h)
theorem Fz.mono {P Q:Nat->Prop} {a b:St} (h1:Fz P a b) (h: ∀t,Q t->P t):Fz Q a b:= λt fr τ x hp hx=>h1 t fr τ x (h t hp) hx
theorem Cj.on {P:Nat->Prop} {a b:St} (h:Cj a b):Fz P a b:= λt fr τ x _ hx=>h t fr τ x hx
theorem dA (st:St) (dst:Option Tmp) (v:AV):Fz (λt=>dst≠some t) st (st.put dst v):=by
 intro t fr τ x hp hx
 cases dst with
 |none=>exact hx
 |some d=>rw [cC st v (λh=>hp (by rw [h]))];exact hx
theorem cy {T:Tab} {Γ:Env} {ops:Array Oper} {st st':St} {o:Oper} (h:Ez T Γ ops st o=some st'):Fz (λt=>o.dst≠some t) st st':=by
 have key: ∀s,(evalOp T Γ st o).map (λr=>r.2.put o.dst r.1)=some s->Fz (λt=>o.dst≠some t) st s:=by
  intro s hs
  cases he:evalOp T Γ st o with
  |none=>rw [he] at hs;cases hs
  |some p=>rw [he] at hs;injection hs with hs;subst hs;exact (og (v:=p.1) (st':=p.2) he).on.trans (dA _ _ _)
 unfold Ez at h
 split at h
 ·exact key _ h
 ·split at h
  ·split at h
   ·exact key _ h
   ·injection h with h;subst h;exact dA _ _ _
  ·injection h with h;subst h;exact dA _ _ _
  ·cases h
theorem lY {T:Tab} {Γ:Env} {ops:Array Oper} : ∀(l:List Oper) (st st':St),bz T Γ ops l st=some st'->Fz (λt=>t∉Ku l) st st'
 | [],st,st',h=>by injection h with h;subst h;exact Cj.rfl'.on
 |o::r,st,st',h=>by
  simp only [bz] at h
  split at h
  ·rename_i s hs
   refine Fz.trans ((cy hs).mono λt ht=>?_) ((lY r _ _ h).mono λt ht=>?_)
   ·intro hd;apply ht;simp [Ku,hd]
   ·intro hd;apply ht;simp [Ku,hd]
  ·cases h
theorem ah: ∀(l:List Oper) (o:Oper) (d:Nat),o∈l->o.dst=some d->d∈Ku l
 | [],_,_,h,_=>by cases h
 |p::r,o,d,h,hd=>by
  cases h with
  |head=>simp [Ku,hd]
  |tail _ h=>simp only [Ku,Az];exact .inr (ah r o d h hd)
theorem qI {ops:Array Oper} {i:Nat} {o:Oper} (h:ops[i]?=some o):o∈ops.toList:=by
 rw [Nj] at h
 obtain ⟨h1,h2⟩:=h
 rw [<-h2]
 simp
theorem a7 {T:Tab} {Γ:Env} {ops:Array Oper} : ∀(l:List Nat) (st st':St),Nc T Γ ops l st=some st'->Fz (λt=>t∉Ku ops.toList) st st'
 | [],st,st',h=>by injection h with h;subst h;exact Cj.rfl'.on
 |i::r,st,st',h=>by
  simp only [Nc] at h
  split at h
  ·cases h
  ·rename_i o ho
   split at h
   ·rename_i s hs
    exact ((cy hs).mono λt ht hd=>ht (ah _ _ _ (qI ho) hd)).trans (a7 r _ _ h)
   ·cases h
theorem Se {T:Tab} {Γ:Env} {ops:Array Oper} : ∀(l:List Nat) (st st':St),Gh T Γ ops l st=some st'->Fz (λt=>t∉Ku ops.toList) st st'
 | [],st,st',h=>by injection h with h;subst h;exact Cj.rfl'.on
 |i::r,st,st',h=>by
  simp only [Gh] at h
  split at h
  ·cases h
  ·rename_i o ho
   split at h
   ·exact ((dA _ _ _).mono λt ht hd=>ht (ah _ _ _ (qI ho) hd)).trans (Se r _ _ h)
   ·cases h
theorem Va: ∀(l:List Nat) (st:St),Cj st (bT l st)
 | [],_=>Cj.rfl'
 |a::r,st=>(oM st a).trans (Va r _)
theorem Wt (live:List Nat): ∀(i:Nat) (l:List AV) (t:Nat),i+t∈live->(Iq live i l).getD t .undef=l.getD t .undef
 |_,[],_,_=>rfl
 |i,v::r,0,h=>by simp [Iq];intro hn;exact absurd h hn
 |i,v::r,t+1,h=>by
  simp only [Iq,Nu]
  exact Wt live (i+1) r t (by rw [show i+1+t=i+(t+1) by omega];exact h)
theorem gh (l k:Nat) (st:St):Cj st (st.rename l k):=by
 unfold St.rename
 split
 ·split
  ·exact (Pw st (We l k) rfl λ_ _ _=>rfl).trans (Cj.aj rfl)
  ·exact Cj.rfl'
 ·exact Cj.rfl'
theorem fc: ∀(n t:Nat) (st:St),Cj st (Mw n t st)
 |0,_,_=>Cj.rfl'
 |n+1,t,st=>by
  simp only [Mw]
  refine Cj.trans ?_ (fc n (t+1) _)
  split
  ·split
   ·split
    ·exact Cj.rfl'
    ·exact gh _ _ _
   ·exact Cj.rfl'
  ·exact Cj.rfl'
theorem Wz (t:Nat): ∀(vs:List AC) (c:Nat) (st:St),Cj st (Wf t c vs st)
 | [],_,_=>Cj.rfl'
 |v::r,c,st=>by
  cases v with
  |own m o n=>exact (gh _ _ _).trans (Wz t r (c+1) _)
  |_=>exact Wz t r (c+1) st
theorem fe: ∀(n t:Nat) (st:St),Cj st (renameVars n t st)
 |0,_,_=>Cj.rfl'
 |n+1,t,st=>by
  simp only [renameVars]
  refine Cj.trans ?_ (fe n (t+1) _)
  split
  ·split
   ·split
    ·exact Cj.rfl'
    ·exact (gh _ _ _).trans (Wz _ _ _ _)
   ·exact Cj.rfl'
  ·exact Cj.rfl'
theorem vS (t:Nat) (st:St):Cj st (cL t st):=by
 unfold cL
 split
 ·rename_i l off len hg
  split
  ·split
   ·intro k fr τ x hk
    have Ih:k≠t:= λe=>by subst e;rw [hg] at hk;cases hk
    rw [cC _ _ Ih]
    exact Li _ _ _ k fr τ x hk
   ·exact Cj.rfl'
  ·exact Cj.rfl'
 ·exact Cj.rfl'
theorem ni (c:Nat) (st:St):Cj st (Qn c st):=by
 unfold Qn
 split
 ·split
  ·split
   ·split
    ·split
     ·exact (Li _ _ _).trans (Mu _ _ _)
     ·exact Cj.rfl'
    ·exact Cj.rfl'
   ·exact Cj.rfl'
  ·exact Cj.rfl'
 ·exact Cj.rfl'
theorem dB (live:List Nat): ∀(n c:Nat) (st:St),Cj st (Qa live n c st)
 |0,_,_=>Cj.rfl'
 |n+1,c,st=>by
  simp only [Qa]
  refine Cj.trans ?_ (dB live n (c+1) _)
  split
  ·exact ni _ _
  ·exact Cj.rfl'
theorem iw (live:List Nat): ∀(n t:Nat) (st:St),Cj st (Pk live n t st)
 |0,_,st=>dB live 16 0 st
 |n+1,t,st=>by
  simp only [Pk]
  refine Cj.trans ?_ (iw live n (t+1) _)
  split
  ·exact vS _ _
  ·exact Cj.rfl'
theorem me (live:List Nat) (st:St):Fz (λt=>t∈live) st (st.clean live):=by
 intro t fr τ x hp hx
 unfold St.clean
 have key: ∀s:St,s.get t= .at (.data fr τ x)->(if live.contains dJ then Mw s.tmps.length 0 s else s).get t= .at (.data fr τ x):=by
  intro s hs
  split
  ·exact fc _ _ s t fr τ x hs
  ·exact hs
 have QQ: ∀s:St,s.get t= .at (.data fr τ x)->(if live.contains gW then renameVars s.tmps.length 0 s else s).get t= .at (.data fr τ x):=by
  intro s hs
  split
  ·exact fe _ _ s t fr τ x hs
  ·exact hs
 have Adm: ∀s:St,s.get t= .at (.data fr τ x)->(if live.any (λt=>Nat.ble Uv t) then s.Iv live else s).get t= .at (.data fr τ x):=by
  intro s hs
  split<;>exact hs
 have Adn: ∀s:St,s.get t= .at (.data fr τ x)->(if live.any (λt=>Nat.ble Sr t&&Nat.blt t dJ) then Pk live s.tmps.length 0 s else s).get t= .at (.data fr τ x):=by
  intro s hs
  split
  ·exact iw _ _ _ s t fr τ x hs
  ·exact hs
 refine Adm _ (QQ _ (key _ (Adn _ (Va _ _ t fr τ x ?_))))
 simp only [St.get] at hx⊢
 rw [Wt live 0 st.tmps t (by simpa using hp)]
 exact hx
def cG (live:Nat->List Nat):Code->Nat->Bool
 | .seq a b,t=>cG live a t&&cG live b t
 | .cond _ a b,t=>cG live a t&&cG live b t
 | .block _ c,t=>cG live c t
 | .loop c,t=>(live (Fa c)).contains t&&cG live c t
 |_,_=>true
theorem qb {a b:Bool} (h:(a&&b)=true):a=true:=by cases a<;>simp_all
theorem mO {a b:Bool} (h:(a&&b)=true):b=true:=by cases a<;>simp_all
theorem qj {T:Tab} {Γ:Env} {ops:Array Oper} {draw:Bool} {st st':St} (h:Sf T Γ ops draw st=some st'):Fz (λt=>t∉writes (.region 0 ops draw)) st st':=by
 unfold Sf at h
 have go: ∀q,(match Gh T Γ ops (kY q Γ ops) st with
   |some s=>Nc T Γ ops (Jp q Γ ops) s
   |none=>none)=some st'->Fz (λt=>t∉writes (.region 0 ops draw)) st st':=by
  intro q h
  split at h
  ·rename_i s hs
   exact (Se _ _ _ hs).trans (a7 _ _ _ h)
  ·cases h
 split at h
 ·split at h
  ·exact go false h
  ·split at h
   ·exact go true h
   ·cases h
 ·exact lY _ _ _ h
theorem ux {T:Tab} {Γ:Env} {ops:Array Oper} {draw:Bool} {K:St->Prop} (s0:St): ∀(f:Nat) (Ah:Array Bool) (st:St),Fz (λt=>t∉writes (.region 0 ops draw)) s0 st->anyS T Γ ops K f Ah st->anyS T Γ ops (λs=>K s/\Fz (λt=>t∉writes (.region 0 ops draw)) s0 s) f Ah st
 |0,_,_,hk,h=>⟨h.1,h.2,hk⟩
 |f+1,Ah,st,hk,h=>⟨h.1,λi hi=>by
  obtain ⟨o,st',h1,h2,h3⟩:=h.2 i hi
  have h4:Nc T Γ ops [i] st=some st':=by simp only [Nc,h1,h2]
  exact ⟨o,st',h1,h2,ux s0 f _ _ (hk.trans (a7 _ _ _ h4)) h3⟩⟩
theorem mP {T:Tab} {Γ:Env} {ops:Array Oper} {draw:Bool} {E:List Nat} {K:St->Prop} (s0:St): ∀(f:Nat) (Ah:Array Bool) (st:St),Fz (λt=>t∉writes (.region 0 ops draw)) s0 st->sQ T Γ ops E K f Ah st->sQ T Γ ops E (λs=>K s/\Fz (λt=>t∉writes (.region 0 ops draw)) s0 s) f Ah st
 |0,_,_,hk,h=>⟨h.1,h.2.1,h.2.2,hk⟩
 |f+1,Ah,st,hk,h=>⟨h.1,h.2.1,λi hi=>by
  obtain ⟨o,st',h1,h2,h3⟩:=h.2.2 i hi
  have h4:Nc T Γ ops [i] st=some st':=by simp only [Nc,h1,h2]
  exact ⟨o,st',h1,h2,mP s0 f _ _ (hk.trans (a7 _ _ _ h4)) h3⟩⟩
theorem jK {ops:Array Oper} {dead:List Nat} (hd:dead.all (Zx ops)=true) (st:St):Fz (λt=>t∉Ku ops.toList) st (st.Qz dead):=by
 intro t fr τ x ht hx
 unfold St.Qz
 refine Va _ _ t fr τ x ?_
 show (Iq _ 0 st.tmps).getD t .undef=_
 rw [Wt _ 0 st.tmps t ?_]
 ·exact hx
 ·refine Ch.2 ⟨Eo.2 ?_,?_⟩
  ·refine Bw λhn=>?_
   have:st.get t= .undef:=by
    unfold St.get
    rw [Aj,Ec (by omega)];rfl
   rw [hx] at this
   cases this
  ·cases hc:dead.contains (0+t) with
   |false=>rfl
   |true=>
    have hm:0+t∈dead:=by simpa using hc
    have h1:=Bc.1 hd _ hm
    obtain ⟨o,ho,h2⟩:=Hq.1 h1
    rw [Bo] at h2
    exact absurd (ah _ o t ho (by simpa using h2)) ht
theorem lP.keeps {T:Tab} {Γ:Env} {ops:Array Oper} {draw:Bool} {st:St} {K:St->Prop} (h:lP T Γ ops draw st K):lP T Γ ops draw st (λs=>K s/\Fz (λt=>t∉writes (.region 0 ops draw)) st s):=by
 rcases h with ⟨st',h1,h2⟩|⟨h1,h2,cZ,h3,h4|⟨E,st1,h4,h5,h6,h7⟩⟩
 ·exact .inl ⟨st',h1,h2,qj h1⟩
 ·exact .inr ⟨h1,h2,cZ,h3, .inl (ux st _ _ _ (Se _ _ _ h3) h4)⟩
 ·exact .inr ⟨h1,h2,cZ,h3, .inr ⟨E,st1,h4,h5,h6,mP st _ _ _ ((Se _ _ _ h3).trans (Se _ _ _ h6)) h7⟩⟩
theorem BE.keeps {T:Tab} {Γ:Env} {ops:Array Oper} {draw:Bool} {st:St} {K:St->Prop} (h:BE T Γ ops draw st K):BE T Γ ops draw st (λs=>K s/\Fz (λt=>t∉writes (.region 0 ops draw)) st s):=by
 rcases h with h|⟨dead,hd,h⟩
 ·exact .inl h.keeps
 ·exact .inr ⟨dead,hd,h.keeps.mono λs hs=>⟨hs.1,hs.2.trans (jK hd s)⟩⟩
theorem lS (ops:Array Oper) {fr:Bool} {τ:Ty} {x:τ.den} : ∀(i:Nat) (l:List AV) (t:Nat),l.getD t .undef= .at (.data fr τ x)->(Pe ops i l).getD t .undef= .at (.data fr τ x)
 |_,[],_,h=>h
 |i,v::r,0,h=>by
  cases v with
  |Mn l=>cases h
  |_=>exact h
 |i,v::r,t+1,h=>by
  have h':=lS ops (i+1) r t h
  cases v<;>(simp only [Pe,Nu];exact h')
theorem mf (ops:Array Oper) (st:St):Cj st (st.o6 ops):= λt _ _ _ hx=>lS ops 0 st.tmps t hx
theorem SL {T:Tab} {Γ:Env} {live:Nat->List Nat} {c:Code} {st:St} {Q:Ls->St->Prop} (h:Ot T Γ live c st Q): ∀(s0:St) (p:Nat->Prop),Fz p s0 st->(∀t,p t->t∉writes c/\cG live c t=true)->Ot T Γ live c st (λe s=>Q e s/\Fz p s0 s):=by
 induction h with
 |skip h=>exact λs0 p hk _=> .skip ⟨h,hk⟩
 |label h=>exact λs0 p hk _=> .label ⟨h,hk⟩
 |exit h=>exact λs0 p hk _=> .exit ⟨h,hk⟩
 |ret h=>exact λs0 p hk _=> .ret ⟨h,hk⟩
 |region h=>
  exact λs0 p hk hp=> .region (h.keeps.mono λs hs=>⟨hs.1,(hk.trans (mf _ _).on).trans (hs.2.mono λt ht=>(hp t ht).1)⟩)
 |seq Q1 _ _ h3 YB JA=>
  exact λs0 p hk hp=> .seq _ (YB s0 p hk λt ht=>⟨λhm=>(hp t ht).1 (by simp [writes,hm]),qb (hp t ht).2⟩)
   (λs hs=>JA s hs.1 s0 p hs.2 λt ht=>⟨λhm=>(hp t ht).1 (by simp [writes,hm]),mO (hp t ht).2⟩) λe s he hs=>⟨h3 e s he hs.1,hs.2⟩
 |cond hc _ _ YB JA=>
  exact λs0 p hk hp=> .cond hc (λht=>YB ht s0 p hk λt h=>⟨λhm=>(hp t h).1 (by simp [writes,hm]),qb (hp t h).2⟩)
   fun ht=>JA ht s0 p hk λt h=>⟨λhm=>(hp t h).1 (by simp [writes,hm]),mO (hp t h).2⟩
 |block Q1 _ h2 ih=>
  exact λs0 p hk hp=> .block _ (ih s0 p hk λt ht=>⟨λhm=>(hp t ht).1 (by simpa [writes] using hm),by simpa [cG] using (hp t ht).2⟩) λe s hs=>by
   have h:=h2 e s hs.1
   cases e with
   |normal=>exact ⟨h,hs.2⟩
   |ret=>exact ⟨h,hs.2⟩
   |exit YA=>
    simp only [zC] at h⊢
    split at h
    ·rename_i hi;rw [Ab hi];exact ⟨h,hs.2⟩
    ·rename_i hi;rw [Ag hi];exact ⟨h,hs.2⟩
 |loop Q1 _ _ h3 YB JA=>
  intro s0 p hk hp
  refine .loop _ (YB s0 p (hk.trans ((me _ _).mono λt ht=>by simpa using qb (hp t ht).2)) λt ht=>⟨λhm=>(hp t ht).1 (by simpa [writes] using hm),mO (hp t ht).2⟩)
   (λs hs=>JA s hs.1 s0 p hs.2 hp) λe s he hs=>⟨h3 e s he hs.1,hs.2⟩
end Go.Proofs.YtfgfigkbgecfnaaGreat
