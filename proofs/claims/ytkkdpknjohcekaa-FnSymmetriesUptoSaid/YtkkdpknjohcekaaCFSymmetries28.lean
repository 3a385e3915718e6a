/-
  Part 29 of the proof that the statement FnSymmetries holds.
-/
import Derived.Test.YtkkdpknjohcekaaCFSymmetries27
namespace Go.Proofs.Ytkkdpknjohcekaa
open Go.RowKit
def Cb (st st':St):Prop:= ∀(t:Nat) (fr:Bool) (τ:Ty) (x:τ.den),st.get t= .at (.data fr τ x)->st'.get t= .at (.data fr τ x)
theorem Cb.rfl' {st:St} :Cb st st:= λ_ _ _ _ h=>h
theorem Cb.trans {a b c:St} (h1:Cb a b) (h2:Cb b c):Cb a c:= λt fr τ x h=>h2 t fr τ x (h1 t fr τ x h)
theorem Cb.Xp {a b:St} (h:b.tmps=a.tmps):Cb a b:= λt fr τ x hx=>by
 simp only [St.get] at hx⊢
 rw [h]
 exact hx
theorem aw (st:St) {t d:Nat} (v:AV) (h:t≠d):(st.put (some d) v).get t=st.get t:=by
 simp only [St.put,St.get]
 rw [Qe]
 rw [Ai (by rintro ⟨rfl,_⟩;exact h rfl)]
theorem Ox (st:St) (f:AC->AC) (hu:f .undef= .undef) (hd: ∀fr (τ:Ty) (x:τ.den),f (.data fr τ x)= .data fr τ x):Cb st (st.Kr f):=by
 intro t fr τ x h
 simp only [St.Kr,St.get]
 rw [Tz f hu,show st.tmps.getD t .undef=_ from h]
 simp only [AV.map,hd]
theorem lg (st:St) (l:Nat):Cb st (st.forget l):=
 (Ox st (Cg l) rfl λ_ _ _=>rfl).trans (Cb.Xp rfl)
theorem Zn (st:St) (l:Nat) (fr:Bool) (e:Ty) (xs:List e.den):Cb st (st.freeze l fr e xs):=
 (Ox st (Cq l fr e xs) rfl λ_ _ _=>rfl).trans (Cb.Xp rfl)
theorem eA (st:St) (l:Nat) (v:Ty) (m:ByteArray->Option v.den):Cb st (st.Hy l v m):=
 (Ox st (Gm l v m) rfl λ_ _ _=>rfl).trans (Cb.Xp rfl)
theorem Kx (st:St) (l:Nat) (b:OB):Cb st (st.new l b):=(lg st l).trans (Cb.Xp rfl)
theorem Me (st:St) (l:Nat) (b:OB):Cb st (st.Jm l b):=Cb.Xp rfl
theorem cB (b:OB) (key l i:Nat) (st:St):Cb st (Tq b key l i st):=by
 unfold Tq
 split
 ·split
  ·dsimp only
   split
   ·exact (Kx _ _ _).trans (Me _ _ _)
   ·exact Kx _ _ _
  ·exact Cb.rfl'
 ·exact Cb.rfl'
theorem iV (T:Tab) (l:Nat) (t:TypeId) (τ:Ty): ∀(n i:Nat) (st:St),Cb st (dC T l t τ n i st)
 |0,_,_=>Cb.rfl'
 |n+1,i,st=>by
  simp only [dC]
  refine Cb.trans ?_ (iV T l t τ n (i+1) _)
  split
  ·exact cB _ _ _ _ _
  ·exact Cb.rfl'
theorem fX (T:Tab) (l off:Nat) (t:TypeId) (τ:Ty): ∀(n i:Nat) (st:St),Cb st (cE T l off t τ n i st)
 |0,_,_=>Cb.rfl'
 |n+1,i,st=>by
  simp only [cE]
  refine Cb.trans ?_ (fX T l off t τ n (i+1) _)
  split
  ·exact cB _ _ _ _ _
  ·exact Cb.rfl'
theorem Ql: ∀(n:Nat) (st:St) (cs fD:List AC) (st':St),Gz n st cs=some (fD,st')->Cb st st'
 |0,st,cs,fD,st',h=>by
  simp only [Gz] at h
  split at h
  ·injection h with h;injection h with h1 h2;subst h2;exact Cb.rfl'
  ·cases h
 |n+1,st,cs,fD,st',h=>by
  simp only [Gz] at h
  split at h
  ·injection h with h;injection h with h1 h2;subst h2;exact Cb.rfl'
  ·split at h
   ·exact (Zn _ _ _ _ _).trans (Ql n _ _ _ _ h)
   ·exact (Zn _ _ _ _ _).trans (Ql n _ _ _ _ h)
   ·cases h
  ·split at h
   ·exact (eA _ _ _ _).trans (Ql n _ _ _ _ h)
   ·cases h
  ·cases h
theorem Rn {st st':St} {v v':AV} (h:settle st v=some (v',st')):Cb st st':=by
 unfold settle at h
 split at h
 ·split at h
  ·injection h with h;injection h with h1 h2;subst h2;exact Zn _ _ _ _ _
  ·injection h with h;injection h with h1 h2;subst h2;exact Zn _ _ _ _ _
  ·cases h
 ·split at h
  ·injection h with h;injection h with h1 h2;subst h2;exact eA _ _ _ _
  ·cases h
 ·split at h
  ·injection h with h;injection h with h1 h2;subst h2;exact Cb.rfl'
  ·cases h
 ·rename_i cs
  cases hs:Gz cs.length st cs with
  |none=>rw [hs] at h;cases h
  |some p=>rw [hs] at h;injection h with h;injection h with h1 h2;subst h2;exact Ql _ _ _ _ _ hs
 ·injection h with h;injection h with h1 h2;subst h2;exact Cb.rfl'
 ·cases h
theorem vQ {st st':St} {l:Nat} {t:TypeId} {cs:List AC} {v:AV} (h:qp st l t cs=some (v,st')):Cb st st':=by
 unfold qp at h
 split at h
 ·cases h
 ·injection h with h;injection h with h1 h2;subst h2;exact Kx _ _ _
theorem nK {T:Tab} {st st':St} {l:Nat} {t:TypeId} {τ:Ty} {cs:List AC} {v:AV} (h:mkVar T st l t τ cs=some (v,st')):Cb st st':=by
 unfold mkVar at h
 split at h
 ·cases h
 dsimp only at h
 split at h
 ·injection h with h;injection h with h1 h2;subst h2;exact (Kx _ _ _).trans (iV _ _ _ _ _ _ _)
 ·cases h
theorem yM {T:Tab} {st st':St} {t:TypeId} {p v:AV} (h:Tw T st t p v=some st'):Cb st st':=by
 unfold Tw at h
 split at h
 ·split at h
  ·split at h
   ·injection h with h
    split at h
    ·subst h;exact (Me _ _ _).trans (fX _ _ _ _ _ _ _ _)
    ·subst h;exact Me _ _ _
   ·cases h
  ·cases h
 ·split at h
  ·rename_i hs
   split at h
   ·split at h
    ·split at h
     ·injection h with h;subst h;exact (Rn hs).trans (Me _ _ _)
     ·cases h
    ·cases h
   ·cases h
  ·cases h
 ·cases h
theorem q9 (st:St) (l j m:Nat) (e:Ty) (te:TypeId) (rows:List (List e.den)) (xs:List e.den) (kp:Option (Nat×Nat)):Cb st (Sn st l j m e te rows xs kp):=
 ((Ox st (Ch [m] [l]) (by simp [Ch,AC.refs]) λfr τ x=>by simp [Ch,AC.refs]).trans (Cb.Xp rfl)).trans (Me (st.bj [m] [l]) _ _)
theorem qa (st:St) (l i m:Nat) (e:Ty) (te tid:TypeId) (rows:List (List e.den)) (kp:Option (Nat×Nat)):Cb st (Pn st l i m e te tid rows kp):=
 (Me st l _).trans (Kx _ m _)
theorem vS {T:Tab} {st st':St} {t:TypeId} {p v:AV} (h:Pb T st t p v=some st'):Cb st st':=by
 unfold Pb at h
 split at h
 rotate_left
 ·exact yM h
 unfold ar at h
 split at h
 ·split at h
  ·rename_i hs
   split at h
   ·split at h
    ·injection h with h;subst h;exact (Rn hs).trans (Me _ _ _)
    ·cases h
   ·cases h
  ·cases h
 ·split at h
  ·split at h
   ·split at h
    ·injection h with h;subst h
     exact q9 _ _ _ _ _ _ _ _ _
    ·cases h
   ·cases h
  ·cases h
 ·cases h
theorem du {T:Tab} {st st':St} {d:Nat} {t:TypeId} {x y:Operand} {v:AV} (h:Nk T st d t x y=some (v,st')):Cb st st':=by
 unfold Nk at h
 split at h
 ·cases h
 ·split at h
  ·rename_i hs
   split at h
   ·cases h
   ·split at h
    ·split at h
     ·injection h with h;injection h with h1 h2;subst h2;exact ((Rn hs).trans (Kx _ _ _)).trans (Kx _ _ _)
     ·cases h
    ·split at h
     ·split at h
      ·split at h
       ·injection h with h;injection h with h1 h2;subst h2;exact (Rn hs).trans (Kx _ _ _)
       ·cases h
      ·cases h
     ·cases h
    ·cases h
  ·cases h
theorem s6 {T:Tab} {st st':St} {d:Nat} {t:TypeId} {x y:Operand} {v:AV} (h:Qs T st d t x y=some (v,st')):Cb st st':=by
 unfold Qs at h
 split at h
 ·rename_i tx
  split at h
  ·rename_i l i c hg
   split at h
   ·split at h
    ·rename_i e te rows kp tid hl ht hc
     refine Cb.trans (b:=(Pn st l i d e te tid rows kp).put (some tx) (.at (.own d 0 (rows.getD i []).length))) ?_ (du h)
     intro t' fr τ z hz
     by_cases e':t'=tx
     ·subst e';rw [hg] at hz;cases hz
     ·rw [aw _ _ e'];exact qa st l i d e te tid rows kp t' fr τ z hz
    ·cases h
   ·cases h
  ·exact du h
 ·exact du h
theorem CW {T:Tab} {st st':St} {d:Nat} {t:TypeId} {l c v:AV} (h:ao T st d t l c=some (v,st')):Cb st st':=by
 unfold ao at h
 split at h
 ·split at h
  ·split at h
   ·injection h with h;injection h with h1 h2;subst h2;exact Kx _ _ _
   ·cases h
  ·cases h
 ·cases h
theorem nL (e:Ty): ∀(l:List (Nat×Operand)) (i:Nat) (st st':St) (fr tr:Bool) (ys:List e.den),Kz e i l st=some (fr,tr,ys,st')->Cb st st'
 | [],_,_,_,_,_,_,h=>by
  simp only [Kz] at h
  injection h with h;injection h with h1 h2;injection h2 with h2 h3;injection h3 with h3 h4;subst h4;exact Cb.rfl'
 |(j,x)::r,i,st,st',fr,tr,ys,h=>by
  simp only [Kz] at h
  split at h
  ·split at h
   ·rename_i hs
    split at h
    ·split at h
     ·rename_i hp
      injection h with h;injection h with h1 h2;injection h2 with h2 h3;injection h3 with h3 h4;subst h4
      exact (Rn hs).trans (nL e r _ _ _ _ _ _ hp)
     ·cases h
    ·cases h
   ·cases h
  ·cases h
theorem mE {T:Tab} {st st':St} {d:Nat} {t:TypeId} {n:Nat} {parts:Array (Nat×Operand)} {v:AV} (h:Mc T st d t n parts=some (v,st')):Cb st st':=by
 unfold Mc at h
 split at h
 ·cases h
 ·split at h
  ·cases h
  ·split at h
   ·split at h
    ·rename_i hp
     injection h with h;injection h with h1 h2;subst h2;exact (nL _ _ _ _ _ _ _ _ hp).trans (Kx _ _ _)
    ·cases h
   ·cases h
theorem s8 {T:Tab} {st st':St} {d:Nat} {t:TypeId} {v:AV} (h:Tv T st d t=some (v,st')):Cb st st':=by
 unfold Tv at h
 split at h
 ·split at h
  ·injection h with h;injection h with h1 h2;subst h2;exact Kx _ _ _
  ·cases h
 ·cases h
theorem lh {T:Tab} {st st':St} {t:TypeId} {m k x:AV} (h:Ik T st t m k x=some st'):Cb st st':=by
 unfold Ik at h
 split at h
 ·split at h
  ·split at h
   ·injection h with h;subst h;exact Me _ _ _
   ·cases h
  ·cases h
 ·cases h
theorem CV {T:Tab} {st st':St} {t t':TypeId} {x y v:AV} (h:fH T st t t' x y=some (v,st')):Cb st st':=by
 unfold fH at h
 split at h
 ·split at h
  ·split at h
   ·split at h
    ·injection h with h;injection h with h1 h2;subst h2;exact Me _ _ _
    ·cases h
   ·cases h
  ·cases h
 ·cases h
theorem yK {T:Tab} {st st':St} {t:TypeId} {x:AV} (h:evalClear T st t x=some st'):Cb st st':=by
 unfold evalClear at h
 split at h
 ·split at h
  ·split at h
   ·split at h
    ·injection h with h;subst h;exact Me _ _ _
    ·cases h
   ·cases h
  ·cases h
 ·cases h
theorem ud {st st':St} {c:CK} {ys:c.den} {a:AC} (h:aY st c ys a=some st'):st'.tmps=st.tmps:=by
 unfold aY at h
 repeat' split at h
 all_goals first|(cases h;done)|(simp only [Aa] at h;subst h;rfl)|skip
theorem KK {st st':St} {e:Ty} {ys:List e.den} {a:AC} (h:EB st e ys a=some st'):st'.tmps=st.tmps:=by
 unfold EB at h
 repeat' split at h
 all_goals first|(cases h;done)|(simp only [Aa] at h;subst h;rfl)|skip
theorem Tr: ∀(cs:List (Bool×CK)) (o:IOs.den cs) (as:List AC) (st st':St),Hm cs o as st=some st'->st'.tmps=st.tmps
 | [],_,_,st,st',h=>by simp only [Hm,Aa] at h;subst h;rfl
 |(true, .Gb _)::r,o,[],st,st',h=>by simp [Hm] at h
 |(true, .row _ _)::r,o,[],st,st',h=>by simp [Hm] at h
 |(true, .Ha _ _)::r,o,[],st,st',h=>by simp [Hm] at h
 |(true, .part _ _)::r,o,[],st,st',h=>by simp [Hm] at h
 |(true, .Bj _ _ _)::r,o,[],st,st',h=>by simp [Hm] at h
 |(true, .Bj _ _ _)::r,o,a::as,st,st',h=>Tr r o as st st' (by simpa only [Hm] using h)
 |(false,_)::r,o,[],st,st',h=>by simp [Hm] at h
 |(true, .Gb _)::r,o,a::as,st,st',h=>Tr r o as st st' (by simpa only [Hm] using h)
 |(false,_)::r,o,a::as,st,st',h=>Tr r o as st st' (by simpa only [Hm] using h)
 |(true, .row _ _)::r,o,a::as,st,st',h=>by
  simp only [Hm] at h
  split at h
  ·rename_i hc;exact (Tr r o.2 as _ st' h).trans (ud hc)
  ·cases h
 |(true, .part _ _)::r,o,a::as,st,st',h=>by
  simp only [Hm] at h
  split at h
  ·rename_i hc;exact (Tr r o.2 as _ st' h).trans (KK hc)
  ·cases h
 |(true, .Ha _ _)::r,o,a::as,st,st',h=>by
  simp only [Hm] at h
  split at h
  ·rename_i hc;exact (Tr r o.2 as _ st' h).trans (ud hc)
  ·cases h
theorem vP (aW st:St) (ls:List Nat) (n:Nat) (hl:aW.tmps.length=st.tmps.length) (h:Cb aW st):Cb aW (jM aW st ls n):=by
 unfold jM
 split
 ·exact h
 ·intro t fr τ x hx
  show (Lh _ aW.tmps st.tmps).getD t .undef=_
  rcases dV ls aW.tmps st.tmps t hl with ⟨k,i,c,h1,_⟩|h1
  ·rw [show aW.tmps.getD t .undef=_ from hx] at h1;cases h1
  ·rw [h1];exact h t fr τ x hx
theorem yJ {st st':St} {d:Option Nat} {s:MSpec} {args:List AV} {v:AV} (h:Wl st d s args=some (v,st')):Cb st st':=by
 unfold Wl at h
 split at h
 ·cases h
 split at h
 ·cases h
 split at h
 ·cases h
 split at h
 ·split at h
  ·cases h
  split at h
  ·cases h
  rename_i st1 hp
  split at h
  ·cases h
  split at h
  ·simp only [Aa,Ad] at h
   obtain ⟨_,rfl⟩:=h
   have hpt:=Tr _ _ _ _ _ hp
   refine vP _ _ _ _ ?_ ?_
   ·simp only [jt,mX]
    rw [<-hpt]
    simp only [St.bj,St.Kr,Jv]
   ·refine Cb.trans (Cb.Xp hpt) ?_
    refine Cb.trans (Ox st1 (Ch _ _) (by simp [Ch,AC.refs]) λfr τ x=>by simp [Ch,AC.refs]) (Cb.Xp mX)
  ·cases h
 ·cases h
theorem bN (st:St) (k m:Nat) (b:OB):Cb st (Qj st k m b):=
 (Ox st (Ch [m,k] []) (by simp [Ch,AC.refs]) λfr τ x=>by simp [Ch,AC.refs]).trans (Cb.Xp rfl)
theorem yL {T:Tab} {st st':St} {d:Nat} {t:TypeId} {l c v:AV} (h:Wn T st d t l c=some (v,st')):Cb st st':=by
 unfold Wn at h
 split at h
 ·exact CW h
 ·split at h
  ·split at h
   ·injection h with h;injection h with h1 h2;subst h2;exact bN _ _ _ _
   ·cases h
  ·cases h
theorem lf {T:Tab} {st st':St} {d:Nat} {t:TypeId} {n:Nat} {parts:Array (Nat×Operand)} {v:AV} (h:Ii T st d t n parts=some (v,st')):Cb st st':=by
 unfold Ii at h
 split at h
 ·exact mE h
 ·repeat' split at h
  all_goals first|(cases h;done)|(injection h with h;injection h with h1 h2;subst h2;exact bN _ _ _ _)
theorem s7 {T:Tab} {st st':St} {d:Nat} {t:TypeId} {x y:Operand} {v:AV} (h:Qt T st d t x y=some (v,st')):Cb st st':=by
 unfold Qt at h
 split at h
 ·exact s6 h
 ·repeat' split at h
  all_goals first|(cases h;done)|(injection h with h;injection h with h1 h2;subst h2;exact bN _ _ _ _)
theorem cA {st st':St} {v:AV} {o:Option AV} (h:o.map (λv=>(v,st))=some (v,st')):Cb st st':=by
 cases o with
 |none=>cases h
 |some u=>injection h with h;injection h with h1 h2;subst h2;exact Cb.rfl'
theorem Te: ∀(l:List Operand) {st st1:St},Mu l st=some st1->Cb st st1
 | [],st,st1,h=>by
  simp only [Mu,Aa] at h
  subst h
  exact Cb.rfl'
 |x::r,st,st1,h=>by
  simp only [Mu] at h
  cases hs:settle st (st.ev x) with
  |none=>rw [hs] at h;cases h
  |some p=>
   rw [hs] at h
   exact (Rn (v':=p.1) (st':=p.2) hs).trans (Te r h)
theorem s9 {T:Tab} {st:St} (p x:Operand):Cb st (Ny T st p x):=by
 unfold Ny
 split
 ·split
  ·split
   ·rename_i hs;exact Te _ hs
   ·exact Cb.rfl'
  ·exact Cb.rfl'
 ·exact Cb.rfl'
theorem kP {T:Tab} {Γ:Env} {st st':St} {o:Oper} {v:AV} (h:evalOp T Γ st o=some (v,st')):Cb st st':=by
 unfold evalOp at h
 split at h
 ·split at h
  ·split at h
   ·injection h with h;injection h with h1 h2;subst h2;exact Kx _ _ _
   ·cases h
  ·injection h with h;injection h with h1 h2;subst h2;exact Cb.rfl'
 ·split at h
  ·split at h
   ·exact vQ h
   ·exact nK h
  ·cases h
 ·split at h
  ·split at h
   ·split at h
    ·split at h
     ·obtain ⟨p,_,hp⟩:=Option.map_eq_some_iff.1 h
      cases hp
      exact Cb.rfl'
     ·cases h
    ·exact nK h
   ·cases h
  ·cases h
 ·rename_i t p x _
  cases hs:Pb T (Ny T st p x) t ((Ny T st p x).ev p) ((Ny T st p x).ev x) with
  |none=>rw [hs] at h;cases h
  |some s=>rw [hs] at h;injection h with h;injection h with h1 h2;subst h2;exact (s9 p x).trans (vS hs)
 ·split at h
  ·exact yL h
  ·cases h
 ·split at h
  ·exact s8 h
  ·cases h
 ·rename_i t m k x _
  cases hs:Ik T st t (st.ev m) (st.ev k) (st.ev x) with
  |none=>rw [hs] at h;cases h
  |some s=>rw [hs] at h;injection h with h;injection h with h1 h2;subst h2;exact lh hs
 ·rename_i t m k x _
  cases hs:Ik T st t (st.ev m) (st.ev k) (st.ev x) with
  |none=>rw [hs] at h;cases h
  |some s=>rw [hs] at h;injection h with h;injection h with h1 h2;subst h2;exact lh hs
 ·split at h
  ·exact lf h
  ·cases h
 ·exact cA h
 ·split at h
  ·split at h
   ·exact s7 h
   ·cases h
  ·cases h
 ·split at h
  ·exact CV h
  ·cases h
 ·split at h
  ·rename_i x t _ _
   cases hs:evalClear T st t (st.ev x) with
   |none=>rw [hs] at h;cases h
   |some s=>rw [hs] at h;injection h with h;injection h with h1 h2;subst h2;exact yK hs
  ·cases h
 ·split at h
  ·exact yJ h
  ·split at h
   ·rename_i args _ _ _ _ _ _
    cases hs:Mu args.toList st with
    |none=>rw [hs] at h;cases h
    |some st1=>
     rw [hs] at h
     exact (Te _ hs).trans (cA h)
   ·exact cA h
  ·exact cA h
 ·exact cA h
def Kf:List Oper->List Nat
 | []=> []
 |o::r=>(match o.dst with|some d=> [d]|none=> [])++Kf r
def writes:Code->List Nat
 | .region _ ops _=>Kf ops.toList
 | .seq a b=>writes a++writes b
 | .cond _ a b=>writes a++writes b
 | .block _ c=>writes c
 | .loop c=>writes c
 |_=> []
def Ex (P:Nat->Prop) (st st':St):Prop:= ∀(t:Nat) (fr:Bool) (τ:Ty) (x:τ.den),P t->st.get t= .at (.data fr τ x)->st'.get t= .at (.data fr τ x)
theorem Ex.trans {P:Nat->Prop} {a b c:St} (h1:Ex P a b) (h2:Ex P b c):Ex P a c:= λt fr τ x hp h=>h2 t fr τ x hp (h1 t fr τ x hp h)
theorem Ex.mono {P Q:Nat->Prop} {a b:St} (h1:Ex P a b) (h: ∀t,Q t->P t):Ex Q a b:= λt fr τ x hp hx=>h1 t fr τ x (h t hp) hx
theorem Cb.on {P:Nat->Prop} {a b:St} (h:Cb a b):Ex P a b:= λt fr τ x _ hx=>h t fr τ x hx
theorem bm (st:St) (dst:Option Tmp) (v:AV):Ex (λt=>dst≠some t) st (st.put dst v):=by
 intro t fr τ x hp hx
 cases dst with
 |none=>exact hx
 |some d=>rw [aw st v (λh=>hp (by rw [h]))];exact hx
theorem aq {T:Tab} {Γ:Env} {ops:Array Oper} {st st':St} {o:Oper} (h:Em T Γ ops st o=some st'):Ex (λt=>o.dst≠some t) st st':=by
 have key: ∀s,(evalOp T Γ st o).map (λr=>r.2.put o.dst r.1)=some s->Ex (λt=>o.dst≠some t) st s:=by
  intro s hs
  cases he:evalOp T Γ st o with
  |none=>rw [he] at hs;cases hs
  |some p=>rw [he] at hs;injection hs with hs;subst hs;exact (kP (v:=p.1) (st':=p.2) he).on.trans (bm _ _ _)
 unfold Em at h
 split at h
 ·exact key _ h
 ·split at h
  ·split at h
   ·exact key _ h
   ·injection h with h;subst h;exact bm _ _ _
  ·injection h with h;subst h;exact bm _ _ _
  ·cases h
theorem iK {T:Tab} {Γ:Env} {ops:Array Oper} : ∀(l:List Oper) (st st':St),Zk T Γ ops l st=some st'->Ex (λt=>t∉Kf l) st st'
 | [],st,st',h=>by injection h with h;subst h;exact Cb.rfl'.on
 |o::r,st,st',h=>by
  simp only [Zk] at h
  split at h
  ·rename_i s hs
   refine Ex.trans ((aq hs).mono λt ht=>?_) ((iK r _ _ h).mono λt ht=>?_)
   ·intro hd;apply ht;simp [Kf,hd]
   ·intro hd;apply ht;simp [Kf,hd]
  ·cases h
theorem Xo: ∀(l:List Oper) (o:Oper) (d:Nat),o∈l->o.dst=some d->d∈Kf l
 | [],_,_,h,_=>by cases h
 |p::r,o,d,h,hd=>by
  cases h with
  |head=>simp [Kf,hd]
  |tail _ h=>simp only [Kf,Az];exact .inr (Xo r o d h hd)
theorem mK {ops:Array Oper} {i:Nat} {o:Oper} (h:ops[i]?=some o):o∈ops.toList:=by
 rw [Mp] at h
 obtain ⟨h1,h2⟩:=h
 rw [<-h2]
 simp
theorem Xl {T:Tab} {Γ:Env} {ops:Array Oper} : ∀(l:List Nat) (st st':St),Mk T Γ ops l st=some st'->Ex (λt=>t∉Kf ops.toList) st st'
 | [],st,st',h=>by injection h with h;subst h;exact Cb.rfl'.on
 |i::r,st,st',h=>by
  simp only [Mk] at h
  split at h
  ·cases h
  ·rename_i o ho
   split at h
   ·rename_i s hs
    exact ((aq hs).mono λt ht hd=>ht (Xo _ _ _ (mK ho) hd)).trans (Xl r _ _ h)
   ·cases h
theorem Qu {T:Tab} {Γ:Env} {ops:Array Oper} : ∀(l:List Nat) (st st':St),Fh T Γ ops l st=some st'->Ex (λt=>t∉Kf ops.toList) st st'
 | [],st,st',h=>by injection h with h;subst h;exact Cb.rfl'.on
 |i::r,st,st',h=>by
  simp only [Fh] at h
  split at h
  ·cases h
  ·rename_i o ho
   split at h
   ·exact ((bm _ _ _).mono λt ht hd=>ht (Xo _ _ _ (mK ho) hd)).trans (Qu r _ _ h)
   ·cases h
theorem Td: ∀(l:List Nat) (st:St),Cb st (Zw l st)
 | [],_=>Cb.rfl'
 |a::r,st=>(lg st a).trans (Td r _)
theorem Uu (live:List Nat): ∀(i:Nat) (l:List AV) (t:Nat),i+t∈live->(Hs live i l).getD t .undef=l.getD t .undef
 |_,[],_,_=>rfl
 |i,v::r,0,h=>by simp [Hs];intro hn;exact absurd h hn
 |i,v::r,t+1,h=>by
  simp only [Hs,Mv]
  exact Uu live (i+1) r t (by rw [show i+1+t=i+(t+1) by omega];exact h)
theorem vR (l k:Nat) (st:St):Cb st (st.rename l k):=by
 unfold St.rename
 split
 ·split
  ·exact (Ox st (Ue l k) rfl λ_ _ _=>rfl).trans (Cb.Xp rfl)
  ·exact Cb.rfl'
 ·exact Cb.rfl'
theorem cC: ∀(n t:Nat) (st:St),Cb st (Mf n t st)
 |0,_,_=>Cb.rfl'
 |n+1,t,st=>by
  simp only [Mf]
  refine Cb.trans ?_ (cC n (t+1) _)
  split
  ·split
   ·split
    ·exact Cb.rfl'
    ·exact vR _ _ _
   ·exact Cb.rfl'
  ·exact Cb.rfl'
theorem qb (t:Nat) (st:St):Cb st (aJ t st):=by
 unfold aJ
 split
 ·rename_i l off len hg
  split
  ·split
   ·intro k fr τ x hk
    have Is:k≠t:= λe=>by subst e;rw [hg] at hk;cases hk
    rw [aw _ _ Is]
    exact Kx _ _ _ k fr τ x hk
   ·exact Cb.rfl'
  ·exact Cb.rfl'
 ·exact Cb.rfl'
theorem jN (c:Nat) (st:St):Cb st (Pg c st):=by
 unfold Pg
 split
 ·split
  ·split
   ·split
    ·split
     ·exact (Kx _ _ _).trans (Me _ _ _)
     ·exact Cb.rfl'
    ·exact Cb.rfl'
   ·exact Cb.rfl'
  ·exact Cb.rfl'
 ·exact Cb.rfl'
theorem bn (live:List Nat): ∀(n c:Nat) (st:St),Cb st (Pa live n c st)
 |0,_,_=>Cb.rfl'
 |n+1,c,st=>by
  simp only [Pa]
  refine Cb.trans ?_ (bn live n (c+1) _)
  split
  ·exact jN _ _
  ·exact Cb.rfl'
theorem eB (live:List Nat): ∀(n t:Nat) (st:St),Cb st (Oj live n t st)
 |0,_,st=>bn live 16 0 st
 |n+1,t,st=>by
  simp only [Oj]
  refine Cb.trans ?_ (eB live n (t+1) _)
  split
  ·exact qb _ _
  ·exact Cb.rfl'
theorem iT (live:List Nat) (st:St):Ex (λt=>t∈live) st (st.clean live):=by
 intro t fr τ x hp hx
 unfold St.clean
 have key: ∀s:St,s.get t= .at (.data fr τ x)->(if live.contains bw then Mf s.tmps.length 0 s else s).get t= .at (.data fr τ x):=by
  intro s hs
  split
  ·exact cC _ _ s t fr τ x hs
  ·exact hs
 have PN: ∀s:St,s.get t= .at (.data fr τ x)->(if live.any (λt=>Nat.ble Ta t) then s.Ig live else s).get t= .at (.data fr τ x):=by
  intro s hs
  split<;>exact hs
 have PQ: ∀s:St,s.get t= .at (.data fr τ x)->(if live.any (λt=>Nat.ble aK t&&Nat.blt t bw) then Oj live s.tmps.length 0 s else s).get t= .at (.data fr τ x):=by
  intro s hs
  split
  ·exact eB _ _ _ s t fr τ x hs
  ·exact hs
 refine PN _ (key _ (PQ _ (Td _ _ t fr τ x ?_)))
 simp only [St.get] at hx⊢
 rw [Uu live 0 st.tmps t (by simpa using hp)]
 exact hx
def aB (live:Nat->List Nat):Code->Nat->Bool
 | .seq a b,t=>aB live a t&&aB live b t
 | .cond _ a b,t=>aB live a t&&aB live b t
 | .block _ c,t=>aB live c t
 | .loop c,t=>(live (En c)).contains t&&aB live c t
 |_,_=>true
theorem mf {a b:Bool} (h:(a&&b)=true):a=true:=by cases a<;>simp_all
theorem ju {a b:Bool} (h:(a&&b)=true):b=true:=by cases a<;>simp_all
theorem mo {T:Tab} {Γ:Env} {ops:Array Oper} {draw:Bool} {st st':St} (h:Qv T Γ ops draw st=some st'):Ex (λt=>t∉writes (.region 0 ops draw)) st st':=by
 unfold Qv at h
 have go: ∀q,(match Fh T Γ ops (gU q Γ ops) st with
   |some s=>Mk T Γ ops (Ix q Γ ops) s
   |none=>none)=some st'->Ex (λt=>t∉writes (.region 0 ops draw)) st st':=by
  intro q h
  split at h
  ·rename_i s hs
   exact (Qu _ _ _ hs).trans (Xl _ _ _ h)
  ·cases h
 split at h
 ·split at h
  ·exact go false h
  ·split at h
   ·exact go true h
   ·cases h
 ·exact iK _ _ _ h
theorem ph {T:Tab} {Γ:Env} {ops:Array Oper} {draw:Bool} {K:St->Prop} (s0:St): ∀(f:Nat) (Af:Array Bool) (st:St),Ex (λt=>t∉writes (.region 0 ops draw)) s0 st->anyS T Γ ops K f Af st->anyS T Γ ops (λs=>K s/\Ex (λt=>t∉writes (.region 0 ops draw)) s0 s) f Af st
 |0,_,_,hk,h=>⟨h.1,h.2,hk⟩
 |f+1,Af,st,hk,h=>⟨h.1,λi hi=>by
  obtain ⟨o,st',h1,h2,h3⟩:=h.2 i hi
  have h4:Mk T Γ ops [i] st=some st':=by simp only [Mk,h1,h2]
  exact ⟨o,st',h1,h2,ph s0 f _ _ (hk.trans (Xl _ _ _ h4)) h3⟩⟩
theorem jv {T:Tab} {Γ:Env} {ops:Array Oper} {draw:Bool} {E:List Nat} {K:St->Prop} (s0:St): ∀(f:Nat) (Af:Array Bool) (st:St),Ex (λt=>t∉writes (.region 0 ops draw)) s0 st->og T Γ ops E K f Af st->og T Γ ops E (λs=>K s/\Ex (λt=>t∉writes (.region 0 ops draw)) s0 s) f Af st
 |0,_,_,hk,h=>⟨h.1,h.2.1,h.2.2,hk⟩
 |f+1,Af,st,hk,h=>⟨h.1,h.2.1,λi hi=>by
  obtain ⟨o,st',h1,h2,h3⟩:=h.2.2 i hi
  have h4:Mk T Γ ops [i] st=some st':=by simp only [Mk,h1,h2]
  exact ⟨o,st',h1,h2,jv s0 f _ _ (hk.trans (Xl _ _ _ h4)) h3⟩⟩
theorem fY {ops:Array Oper} {dead:List Nat} (hd:dead.all (Xf ops)=true) (st:St):Ex (λt=>t∉Kf ops.toList) st (st.Pv dead):=by
 intro t fr τ x ht hx
 unfold St.Pv
 refine Td _ _ t fr τ x ?_
 show (Hs _ 0 st.tmps).getD t .undef=_
 rw [Uu _ 0 st.tmps t ?_]
 ·exact hx
 ·refine Bv.2 ⟨Io.2 ?_,?_⟩
  ·refine Cd λhn=>?_
   have:st.get t= .undef:=by
    unfold St.get
    rw [Al,Er (by omega)];rfl
   rw [hx] at this
   cases this
  ·cases hc:dead.contains (0+t) with
   |false=>rfl
   |true=>
    have hm:0+t∈dead:=by simpa using hc
    have h1:=Ax.1 hd _ hm
    obtain ⟨o,ho,h2⟩:=Eu.1 h1
    rw [Db] at h2
    exact absurd (Xo _ o t ho (by simpa using h2)) ht
theorem iC.keeps {T:Tab} {Γ:Env} {ops:Array Oper} {draw:Bool} {st:St} {K:St->Prop} (h:iC T Γ ops draw st K):iC T Γ ops draw st (λs=>K s/\Ex (λt=>t∉writes (.region 0 ops draw)) st s):=by
 rcases h with ⟨st',h1,h2⟩|⟨h1,h2,aW,h3,h4|⟨E,st1,h4,h5,h6,h7⟩⟩
 ·exact .inl ⟨st',h1,h2,mo h1⟩
 ·exact .inr ⟨h1,h2,aW,h3, .inl (ph st _ _ _ (Qu _ _ _ h3) h4)⟩
 ·exact .inr ⟨h1,h2,aW,h3, .inr ⟨E,st1,h4,h5,h6,jv st _ _ _ ((Qu _ _ _ h3).trans (Qu _ _ _ h6)) h7⟩⟩
theorem uQ.keeps {T:Tab} {Γ:Env} {ops:Array Oper} {draw:Bool} {st:St} {K:St->Prop} (h:uQ T Γ ops draw st K):uQ T Γ ops draw st (λs=>K s/\Ex (λt=>t∉writes (.region 0 ops draw)) st s):=by
 rcases h with h|⟨dead,hd,h⟩
 ·exact .inl h.keeps
 ·exact .inr ⟨dead,hd,h.keeps.mono λs hs=>⟨hs.1,hs.2.trans (fY hd s)⟩⟩
theorem iE (ops:Array Oper) {fr:Bool} {τ:Ty} {x:τ.den} : ∀(i:Nat) (l:List AV) (t:Nat),l.getD t .undef= .at (.data fr τ x)->(Oc ops i l).getD t .undef= .at (.data fr τ x)
 |_,[],_,h=>h
 |i,v::r,0,h=>by
  cases v with
  |Mh l=>cases h
  |_=>exact h
 |i,v::r,t+1,h=>by
  have h':=iE ops (i+1) r t h
  cases v<;>(simp only [Oc,Mv];exact h')
theorem iU (ops:Array Oper) (st:St):Cb st (st.kG ops):= λt _ _ _ hx=>iE ops 0 st.tmps t hx
theorem EJ {T:Tab} {Γ:Env} {live:Nat->List Nat} {c:Code} {st:St} {Q:Ld->St->Prop} (h:Ns T Γ live c st Q): ∀(s0:St) (p:Nat->Prop),Ex p s0 st->(∀t,p t->t∉writes c/\aB live c t=true)->Ns T Γ live c st (λe s=>Q e s/\Ex p s0 s):=by
 induction h with
 |skip h=>exact λs0 p hk _=> .skip ⟨h,hk⟩
 |label h=>exact λs0 p hk _=> .label ⟨h,hk⟩
 |exit h=>exact λs0 p hk _=> .exit ⟨h,hk⟩
 |ret h=>exact λs0 p hk _=> .ret ⟨h,hk⟩
 |region h=>
  exact λs0 p hk hp=> .region (h.keeps.mono λs hs=>⟨hs.1,(hk.trans (iU _ _).on).trans (hs.2.mono λt ht=>(hp t ht).1)⟩)
 |seq Q1 _ _ h3 JC yG=>
  exact λs0 p hk hp=> .seq _ (JC s0 p hk λt ht=>⟨λhm=>(hp t ht).1 (by simp [writes,hm]),mf (hp t ht).2⟩)
   (λs hs=>yG s hs.1 s0 p hs.2 λt ht=>⟨λhm=>(hp t ht).1 (by simp [writes,hm]),ju (hp t ht).2⟩) λe s he hs=>⟨h3 e s he hs.1,hs.2⟩
 |cond hc _ _ JC yG=>
  exact λs0 p hk hp=> .cond hc (λht=>JC ht s0 p hk λt h=>⟨λhm=>(hp t h).1 (by simp [writes,hm]),mf (hp t h).2⟩)
   fun ht=>yG ht s0 p hk λt h=>⟨λhm=>(hp t h).1 (by simp [writes,hm]),ju (hp t h).2⟩
 |block Q1 _ h2 ih=>
  exact λs0 p hk hp=> .block _ (ih s0 p hk λt ht=>⟨λhm=>(hp t ht).1 (by simpa [writes] using hm),by simpa [aB] using (hp t ht).2⟩) λe s hs=>by
   have h:=h2 e s hs.1
   cases e with
   |normal=>exact ⟨h,hs.2⟩
   |ret=>exact ⟨h,hs.2⟩
   |exit JB=>
    simp only [tN] at h⊢
    split at h
    ·rename_i hi;rw [Ab hi];exact ⟨h,hs.2⟩
    ·rename_i hi;rw [Ai hi];exact ⟨h,hs.2⟩
 |loop Q1 _ _ h3 JC yG=>
  intro s0 p hk hp
  refine .loop _ (JC s0 p (hk.trans ((iT _ _).mono λt ht=>by simpa using mf (hp t ht).2)) λt ht=>⟨λhm=>(hp t ht).1 (by simpa [writes] using hm),ju (hp t ht).2⟩)
   (λs hs=>yG s hs.1 s0 p hs.2 hp) λe s he hs=>⟨h3 e s he hs.1,hs.2⟩
end Go.Proofs.Ytkkdpknjohcekaa
