/-
  Part 29 of the proof that the statement FnTables holds.
-/
import Derived.Test.YtkkdpknjohcekaaCFTables27
namespace Go.Proofs.Ytkkdpknjohcekaa
open Go.RowKit
def By (st st':St):Prop:= ∀(t:Nat) (fr:Bool) (τ:Ty) (x:τ.den),st.get t= .at (.data fr τ x)->st'.get t= .at (.data fr τ x)
theorem By.rfl' {st:St} :By st st:= λ_ _ _ _ h=>h
theorem By.trans {a b c:St} (h1:By a b) (h2:By b c):By a c:= λt fr τ x h=>h2 t fr τ x (h1 t fr τ x h)
theorem By.Xf {a b:St} (h:b.tmps=a.tmps):By a b:= λt fr τ x hx=>by
 simp only [St.get] at hx⊢
 rw [h]
 exact hx
theorem ai (st:St) {t d:Nat} (v:AV) (h:t≠d):(st.put (some d) v).get t=st.get t:=by
 simp only [St.put,St.get]
 rw [Ps]
 rw [Al (by rintro ⟨rfl,_⟩;exact h rfl)]
theorem Ok (st:St) (f:AC->AC) (hu:f .undef= .undef) (hd: ∀fr (τ:Ty) (x:τ.den),f (.data fr τ x)= .data fr τ x):By st (st.Kh f):=by
 intro t fr τ x h
 simp only [St.Kh,St.get]
 rw [Tj f hu,show st.tmps.getD t .undef=_ from h]
 simp only [AV.map,hd]
theorem lq (st:St) (l:Nat):By st (st.forget l):=
 (Ok st (Cb l) rfl λ_ _ _=>rfl).trans (By.Xf rfl)
theorem Ze (st:St) (l:Nat) (fr:Bool) (e:Ty) (xs:List e.den):By st (st.freeze l fr e xs):=
 (Ok st (Co l fr e xs) rfl λ_ _ _=>rfl).trans (By.Xf rfl)
theorem ey (st:St) (l:Nat) (v:Ty) (m:ByteArray->Option v.den):By st (st.Ie l v m):=
 (Ok st (Gq l v m) rfl λ_ _ _=>rfl).trans (By.Xf rfl)
theorem Kp (st:St) (l:Nat) (b:OB):By st (st.new l b):=(lq st l).trans (By.Xf rfl)
theorem Lt (st:St) (l:Nat) (b:OB):By st (st.Jh l b):=By.Xf rfl
theorem cy (b:OB) (key l i:Nat) (st:St):By st (Tb b key l i st):=by
 unfold Tb
 split
 ·split
  ·dsimp only
   split
   ·exact (Kp _ _ _).trans (Lt _ _ _)
   ·exact Kp _ _ _
  ·exact By.rfl'
 ·exact By.rfl'
theorem jc (T:Tab) (l:Nat) (t:TypeId) (τ:Ty): ∀(n i:Nat) (st:St),By st (dB T l t τ n i st)
 |0,_,_=>By.rfl'
 |n+1,i,st=>by
  simp only [dB]
  refine By.trans ?_ (jc T l t τ n (i+1) _)
  split
  ·exact cy _ _ _ _ _
  ·exact By.rfl'
theorem ga (T:Tab) (l off:Nat) (t:TypeId) (τ:Ty): ∀(n i:Nat) (st:St),By st (cC T l off t τ n i st)
 |0,_,_=>By.rfl'
 |n+1,i,st=>by
  simp only [cC]
  refine By.trans ?_ (ga T l off t τ n (i+1) _)
  split
  ·exact cy _ _ _ _ _
  ·exact By.rfl'
theorem Qe: ∀(n:Nat) (st:St) (cs fE:List AC) (st':St),Gy n st cs=some (fE,st')->By st st'
 |0,st,cs,fE,st',h=>by
  simp only [Gy] at h
  split at h
  ·injection h with h;injection h with h1 h2;subst h2;exact By.rfl'
  ·cases h
 |n+1,st,cs,fE,st',h=>by
  simp only [Gy] at h
  split at h
  ·injection h with h;injection h with h1 h2;subst h2;exact By.rfl'
  ·split at h
   ·exact (Ze _ _ _ _ _).trans (Qe n _ _ _ _ h)
   ·exact (Ze _ _ _ _ _).trans (Qe n _ _ _ _ h)
   ·cases h
  ·split at h
   ·exact (ey _ _ _ _).trans (Qe n _ _ _ _ h)
   ·cases h
  ·cases h
theorem Rb {st st':St} {v v':AV} (h:settle st v=some (v',st')):By st st':=by
 unfold settle at h
 split at h
 ·split at h
  ·injection h with h;injection h with h1 h2;subst h2;exact Ze _ _ _ _ _
  ·injection h with h;injection h with h1 h2;subst h2;exact Ze _ _ _ _ _
  ·cases h
 ·split at h
  ·injection h with h;injection h with h1 h2;subst h2;exact ey _ _ _ _
  ·cases h
 ·split at h
  ·injection h with h;injection h with h1 h2;subst h2;exact By.rfl'
  ·cases h
 ·rename_i cs
  cases hs:Gy cs.length st cs with
  |none=>rw [hs] at h;cases h
  |some p=>rw [hs] at h;injection h with h;injection h with h1 h2;subst h2;exact Qe _ _ _ _ _ hs
 ·injection h with h;injection h with h1 h2;subst h2;exact By.rfl'
 ·cases h
theorem wm {st st':St} {l:Nat} {t:TypeId} {cs:List AC} {v:AV} (h:qP st l t cs=some (v,st')):By st st':=by
 unfold qP at h
 split at h
 ·cases h
 ·injection h with h;injection h with h1 h2;subst h2;exact Kp _ _ _
theorem nL {T:Tab} {st st':St} {l:Nat} {t:TypeId} {τ:Ty} {cs:List AC} {v:AV} (h:mkVar T st l t τ cs=some (v,st')):By st st':=by
 unfold mkVar at h
 split at h
 ·cases h
 dsimp only at h
 split at h
 ·injection h with h;injection h with h1 h2;subst h2;exact (Kp _ _ _).trans (jc _ _ _ _ _ _ _)
 ·cases h
theorem z9 {T:Tab} {st st':St} {t:TypeId} {p v:AV} (h:Ti T st t p v=some st'):By st st':=by
 unfold Ti at h
 split at h
 ·split at h
  ·split at h
   ·injection h with h
    split at h
    ·subst h;exact (Lt _ _ _).trans (ga _ _ _ _ _ _ _ _)
    ·subst h;exact Lt _ _ _
   ·cases h
  ·cases h
 ·split at h
  ·rename_i hs
   split at h
   ·split at h
    ·split at h
     ·injection h with h;subst h;exact (Rb hs).trans (Lt _ _ _)
     ·cases h
    ·cases h
   ·cases h
  ·cases h
 ·cases h
theorem qB (st:St) (l j m:Nat) (e:Ty) (te:TypeId) (rows:List (List e.den)) (xs:List e.den) (kp:Option (Nat×Nat)):By st (Sd st l j m e te rows xs kp):=
 ((Ok st (Ce [m] [l]) (by simp [Ce,AC.refs]) λfr τ x=>by simp [Ce,AC.refs]).trans (By.Xf rfl)).trans (Lt (st.aY [m] [l]) _ _)
theorem qC (st:St) (l i m:Nat) (e:Ty) (te tid:TypeId) (rows:List (List e.den)) (kp:Option (Nat×Nat)):By st (Pd st l i m e te tid rows kp):=
 (Lt st l _).trans (Kp _ m _)
theorem wq {T:Tab} {st st':St} {t:TypeId} {p v:AV} (h:Oo T st t p v=some st'):By st st':=by
 unfold Oo at h
 split at h
 rotate_left
 ·exact z9 h
 unfold ag at h
 split at h
 ·split at h
  ·rename_i hs
   split at h
   ·split at h
    ·injection h with h;subst h;exact (Rb hs).trans (Lt _ _ _)
    ·cases h
   ·cases h
  ·cases h
 ·split at h
  ·split at h
   ·split at h
    ·injection h with h;subst h
     exact qB _ _ _ _ _ _ _ _ _
    ·cases h
   ·cases h
  ·cases h
 ·cases h
theorem dm {T:Tab} {st st':St} {d:Nat} {t:TypeId} {x y:Operand} {v:AV} (h:Nb T st d t x y=some (v,st')):By st st':=by
 unfold Nb at h
 split at h
 ·cases h
 ·split at h
  ·rename_i hs
   split at h
   ·cases h
   ·split at h
    ·split at h
     ·injection h with h;injection h with h1 h2;subst h2;exact ((Rb hs).trans (Kp _ _ _)).trans (Kp _ _ _)
     ·cases h
    ·split at h
     ·split at h
      ·split at h
       ·injection h with h;injection h with h1 h2;subst h2;exact (Rb hs).trans (Kp _ _ _)
       ·cases h
      ·cases h
     ·cases h
    ·cases h
  ·cases h
theorem sD {T:Tab} {st st':St} {d:Nat} {t:TypeId} {x y:Operand} {v:AV} (h:Qk T st d t x y=some (v,st')):By st st':=by
 unfold Qk at h
 split at h
 ·rename_i tx
  split at h
  ·rename_i l i c hg
   split at h
   ·split at h
    ·rename_i e te rows kp tid hl ht hc
     refine By.trans (b:=(Pd st l i d e te tid rows kp).put (some tx) (.at (.own d 0 (rows.getD i []).length))) ?_ (dm h)
     intro t' fr τ z hz
     by_cases e':t'=tx
     ·subst e';rw [hg] at hz;cases hz
     ·rw [ai _ _ e'];exact qC st l i d e te tid rows kp t' fr τ z hz
    ·cases h
   ·cases h
  ·exact dm h
 ·exact dm h
theorem DI {T:Tab} {st st':St} {d:Nat} {t:TypeId} {l c v:AV} (h:ab T st d t l c=some (v,st')):By st st':=by
 unfold ab at h
 split at h
 ·split at h
  ·split at h
   ·injection h with h;injection h with h1 h2;subst h2;exact Kp _ _ _
   ·cases h
  ·cases h
 ·cases h
theorem nM (e:Ty): ∀(l:List (Nat×Operand)) (i:Nat) (st st':St) (fr tr:Bool) (ys:List e.den),Ks e i l st=some (fr,tr,ys,st')->By st st'
 | [],_,_,_,_,_,_,h=>by
  simp only [Ks] at h
  injection h with h;injection h with h1 h2;injection h2 with h2 h3;injection h3 with h3 h4;subst h4;exact By.rfl'
 |(j,x)::r,i,st,st',fr,tr,ys,h=>by
  simp only [Ks] at h
  split at h
  ·split at h
   ·rename_i hs
    split at h
    ·split at h
     ·rename_i hp
      injection h with h;injection h with h1 h2;injection h2 with h2 h3;injection h3 with h3 h4;subst h4
      exact (Rb hs).trans (nM e r _ _ _ _ _ _ hp)
     ·cases h
    ·cases h
   ·cases h
  ·cases h
theorem mz {T:Tab} {st st':St} {d:Nat} {t:TypeId} {n:Nat} {parts:Array (Nat×Operand)} {v:AV} (h:Lr T st d t n parts=some (v,st')):By st st':=by
 unfold Lr at h
 split at h
 ·cases h
 ·split at h
  ·cases h
  ·split at h
   ·split at h
    ·rename_i hp
     injection h with h;injection h with h1 h2;subst h2;exact (nM _ _ _ _ _ _ _ _ hp).trans (Kp _ _ _)
    ·cases h
   ·cases h
theorem sF {T:Tab} {st st':St} {d:Nat} {t:TypeId} {v:AV} (h:Th T st d t=some (v,st')):By st st':=by
 unfold Th at h
 split at h
 ·split at h
  ·injection h with h;injection h with h1 h2;subst h2;exact Kp _ _ _
  ·cases h
 ·cases h
theorem lr {T:Tab} {st st':St} {t:TypeId} {m k x:AV} (h:Ip T st t m k x=some st'):By st st':=by
 unfold Ip at h
 split at h
 ·split at h
  ·split at h
   ·injection h with h;subst h;exact Lt _ _ _
   ·cases h
  ·cases h
 ·cases h
theorem DH {T:Tab} {st st':St} {t t':TypeId} {x y v:AV} (h:fH T st t t' x y=some (v,st')):By st st':=by
 unfold fH at h
 split at h
 ·split at h
  ·split at h
   ·split at h
    ·injection h with h;injection h with h1 h2;subst h2;exact Lt _ _ _
    ·cases h
   ·cases h
  ·cases h
 ·cases h
theorem z7 {T:Tab} {st st':St} {t:TypeId} {x:AV} (h:evalClear T st t x=some st'):By st st':=by
 unfold evalClear at h
 split at h
 ·split at h
  ·split at h
   ·split at h
    ·injection h with h;subst h;exact Lt _ _ _
    ·cases h
   ·cases h
  ·cases h
 ·cases h
theorem uJ {st st':St} {c:CK} {ys:c.den} {a:AC} (h:aP st c ys a=some st'):st'.tmps=st.tmps:=by
 unfold aP at h
 repeat' split at h
 all_goals first|(cases h;done)|(simp only [Aa] at h;subst h;rfl)|skip
theorem LQ {st st':St} {e:Ty} {ys:List e.den} {a:AC} (h:EP st e ys a=some st'):st'.tmps=st.tmps:=by
 unfold EP at h
 repeat' split at h
 all_goals first|(cases h;done)|(simp only [Aa] at h;subst h;rfl)|skip
theorem Tc: ∀(cs:List (Bool×CK)) (o:IOs.den cs) (as:List AC) (st st':St),Hk cs o as st=some st'->st'.tmps=st.tmps
 | [],_,_,st,st',h=>by simp only [Hk,Aa] at h;subst h;rfl
 |(true, .Fp _)::r,o,[],st,st',h=>by simp [Hk] at h
 |(true, .row _ _)::r,o,[],st,st',h=>by simp [Hk] at h
 |(true, .Hb _ _)::r,o,[],st,st',h=>by simp [Hk] at h
 |(true, .part _ _)::r,o,[],st,st',h=>by simp [Hk] at h
 |(true, .Bm _ _ _)::r,o,[],st,st',h=>by simp [Hk] at h
 |(true, .Bm _ _ _)::r,o,a::as,st,st',h=>Tc r o as st st' (by simpa only [Hk] using h)
 |(false,_)::r,o,[],st,st',h=>by simp [Hk] at h
 |(true, .Fp _)::r,o,a::as,st,st',h=>Tc r o as st st' (by simpa only [Hk] using h)
 |(false,_)::r,o,a::as,st,st',h=>Tc r o as st st' (by simpa only [Hk] using h)
 |(true, .row _ _)::r,o,a::as,st,st',h=>by
  simp only [Hk] at h
  split at h
  ·rename_i hc;exact (Tc r o.2 as _ st' h).trans (uJ hc)
  ·cases h
 |(true, .part _ _)::r,o,a::as,st,st',h=>by
  simp only [Hk] at h
  split at h
  ·rename_i hc;exact (Tc r o.2 as _ st' h).trans (LQ hc)
  ·cases h
 |(true, .Hb _ _)::r,o,a::as,st,st',h=>by
  simp only [Hk] at h
  split at h
  ·rename_i hc;exact (Tc r o.2 as _ st' h).trans (uJ hc)
  ·cases h
theorem wk (aM st:St) (ls:List Nat) (n:Nat) (hl:aM.tmps.length=st.tmps.length) (h:By aM st):By aM (jZ aM st ls n):=by
 unfold jZ
 split
 ·exact h
 ·intro t fr τ x hx
  show (Lb _ aM.tmps st.tmps).getD t .undef=_
  rcases dP ls aM.tmps st.tmps t hl with ⟨k,i,c,h1,_⟩|h1
  ·rw [show aM.tmps.getD t .undef=_ from hx] at h1;cases h1
  ·rw [h1];exact h t fr τ x hx
theorem z6 {st st':St} {d:Option Nat} {s:MSpec} {args:List AV} {v:AV} (h:Wa st d s args=some (v,st')):By st st':=by
 unfold Wa at h
 split at h
 ·cases h
 split at h
 ·cases h
 split at h
 ·cases h
 split at h
 ·split at h
  ·cases h
  split at h
  ·cases h
  rename_i st1 hp
  split at h
  ·cases h
  split at h
  ·simp only [Aa,Ae] at h
   obtain ⟨_,rfl⟩:=h
   have hpt:=Tc _ _ _ _ _ hp
   refine wk _ _ _ _ ?_ ?_
   ·simp only [jH,mV]
    rw [<-hpt]
    simp only [St.aY,St.Kh,Fm]
   ·refine By.trans (By.Xf hpt) ?_
    refine By.trans (Ok st1 (Ce _ _) (by simp [Ce,AC.refs]) λfr τ x=>by simp [Ce,AC.refs]) (By.Xf mV)
  ·cases h
 ·cases h
theorem bK (st:St) (k m:Nat) (b:OB):By st (Qc st k m b):=
 (Ok st (Ce [m,k] []) (by simp [Ce,AC.refs]) λfr τ x=>by simp [Ce,AC.refs]).trans (By.Xf rfl)
theorem z8 {T:Tab} {st st':St} {d:Nat} {t:TypeId} {l c v:AV} (h:Wc T st d t l c=some (v,st')):By st st':=by
 unfold Wc at h
 split at h
 ·exact DI h
 ·split at h
  ·split at h
   ·injection h with h;injection h with h1 h2;subst h2;exact bK _ _ _ _
   ·cases h
  ·cases h
theorem lp {T:Tab} {st st':St} {d:Nat} {t:TypeId} {n:Nat} {parts:Array (Nat×Operand)} {v:AV} (h:Il T st d t n parts=some (v,st')):By st st':=by
 unfold Il at h
 split at h
 ·exact mz h
 ·repeat' split at h
  all_goals first|(cases h;done)|(injection h with h;injection h with h1 h2;subst h2;exact bK _ _ _ _)
theorem sE {T:Tab} {st st':St} {d:Nat} {t:TypeId} {x y:Operand} {v:AV} (h:Ql T st d t x y=some (v,st')):By st st':=by
 unfold Ql at h
 split at h
 ·exact sD h
 ·repeat' split at h
  all_goals first|(cases h;done)|(injection h with h;injection h with h1 h2;subst h2;exact bK _ _ _ _)
theorem cw {st st':St} {v:AV} {o:Option AV} (h:o.map (λv=>(v,st))=some (v,st')):By st st':=by
 cases o with
 |none=>cases h
 |some u=>injection h with h;injection h with h1 h2;subst h2;exact By.rfl'
theorem Sq: ∀(l:List Operand) {st st1:St},Mo l st=some st1->By st st1
 | [],st,st1,h=>by
  simp only [Mo,Aa] at h
  subst h
  exact By.rfl'
 |x::r,st,st1,h=>by
  simp only [Mo] at h
  cases hs:settle st (st.ev x) with
  |none=>rw [hs] at h;cases h
  |some p=>
   rw [hs] at h
   exact (Rb (v':=p.1) (st':=p.2) hs).trans (Sq r h)
theorem sG {T:Tab} {st:St} (p x:Operand):By st (Nm T st p x):=by
 unfold Nm
 split
 ·split
  ·split
   ·rename_i hs;exact Sq _ hs
   ·exact By.rfl'
  ·exact By.rfl'
 ·exact By.rfl'
theorem kZ {T:Tab} {Γ:Env} {st st':St} {o:Oper} {v:AV} (h:evalOp T Γ st o=some (v,st')):By st st':=by
 unfold evalOp at h
 split at h
 ·split at h
  ·split at h
   ·injection h with h;injection h with h1 h2;subst h2;exact Kp _ _ _
   ·cases h
  ·injection h with h;injection h with h1 h2;subst h2;exact By.rfl'
 ·split at h
  ·split at h
   ·exact wm h
   ·exact nL h
  ·cases h
 ·split at h
  ·split at h
   ·split at h
    ·split at h
     ·obtain ⟨p,_,hp⟩:=Option.map_eq_some_iff.1 h
      cases hp
      exact By.rfl'
     ·cases h
    ·exact nL h
   ·cases h
  ·cases h
 ·rename_i t p x _
  cases hs:Oo T (Nm T st p x) t ((Nm T st p x).ev p) ((Nm T st p x).ev x) with
  |none=>rw [hs] at h;cases h
  |some s=>rw [hs] at h;injection h with h;injection h with h1 h2;subst h2;exact (sG p x).trans (wq hs)
 ·split at h
  ·exact z8 h
  ·cases h
 ·split at h
  ·exact sF h
  ·cases h
 ·rename_i t m k x _
  cases hs:Ip T st t (st.ev m) (st.ev k) (st.ev x) with
  |none=>rw [hs] at h;cases h
  |some s=>rw [hs] at h;injection h with h;injection h with h1 h2;subst h2;exact lr hs
 ·rename_i t m k x _
  cases hs:Ip T st t (st.ev m) (st.ev k) (st.ev x) with
  |none=>rw [hs] at h;cases h
  |some s=>rw [hs] at h;injection h with h;injection h with h1 h2;subst h2;exact lr hs
 ·split at h
  ·exact lp h
  ·cases h
 ·exact cw h
 ·split at h
  ·split at h
   ·exact sE h
   ·cases h
  ·cases h
 ·split at h
  ·exact DH h
  ·cases h
 ·split at h
  ·rename_i x t _ _
   cases hs:evalClear T st t (st.ev x) with
   |none=>rw [hs] at h;cases h
   |some s=>rw [hs] at h;injection h with h;injection h with h1 h2;subst h2;exact z7 hs
  ·cases h
 ·split at h
  ·exact z6 h
  ·split at h
   ·rename_i args _ _ _ _ _ _
    cases hs:Mo args.toList st with
    |none=>rw [hs] at h;cases h
    |some st1=>
     rw [hs] at h
     exact (Sq _ hs).trans (cw h)
   ·exact cw h
  ·exact cw h
 ·exact cw h
def Jz:List Oper->List Nat
 | []=> []
 |o::r=>(match o.dst with|some d=> [d]|none=> [])++Jz r
def writes:Code->List Nat
 | .region _ ops _=>Jz ops.toList
 | .seq a b=>writes a++writes b
 | .cond _ a b=>writes a++writes b
 | .block _ c=>writes c
 | .loop c=>writes c
 |_=> []
def Fb (P:Nat->Prop) (st st':St):Prop:= ∀(t:Nat) (fr:Bool) (τ:Ty) (x:τ.den),P t->st.get t= .at (.data fr τ x)->st'.get t= .at (.data fr τ x)
theorem Fb.trans {P:Nat->Prop} {a b c:St} (h1:Fb P a b) (h2:Fb P b c):Fb P a c:= λt fr τ x hp h=>h2 t fr τ x hp (h1 t fr τ x hp h)
theorem Fb.mono {P Q:Nat->Prop} {a b:St} (h1:Fb P a b) (h: ∀t,Q t->P t):Fb Q a b:= λt fr τ x hp hx=>h1 t fr τ x (h t hp) hx
theorem By.on {P:Nat->Prop} {a b:St} (h:By a b):Fb P a b:= λt fr τ x _ hx=>h t fr τ x hx
theorem bb (st:St) (dst:Option Tmp) (v:AV):Fb (λt=>dst≠some t) st (st.put dst v):=by
 intro t fr τ x hp hx
 cases dst with
 |none=>exact hx
 |some d=>rw [ai st v (λh=>hp (by rw [h]))];exact hx
theorem ae {T:Tab} {Γ:Env} {ops:Array Oper} {st st':St} {o:Oper} (h:En T Γ ops st o=some st'):Fb (λt=>o.dst≠some t) st st':=by
 have key: ∀s,(evalOp T Γ st o).map (λr=>r.2.put o.dst r.1)=some s->Fb (λt=>o.dst≠some t) st s:=by
  intro s hs
  cases he:evalOp T Γ st o with
  |none=>rw [he] at hs;cases hs
  |some p=>rw [he] at hs;injection hs with hs;subst hs;exact (kZ (v:=p.1) (st':=p.2) he).on.trans (bb _ _ _)
 unfold En at h
 split at h
 ·exact key _ h
 ·split at h
  ·split at h
   ·exact key _ h
   ·injection h with h;subst h;exact bb _ _ _
  ·injection h with h;subst h;exact bb _ _ _
  ·cases h
theorem iX {T:Tab} {Γ:Env} {ops:Array Oper} : ∀(l:List Oper) (st st':St),Za T Γ ops l st=some st'->Fb (λt=>t∉Jz l) st st'
 | [],st,st',h=>by injection h with h;subst h;exact By.rfl'.on
 |o::r,st,st',h=>by
  simp only [Za] at h
  split at h
  ·rename_i s hs
   refine Fb.trans ((ae hs).mono λt ht=>?_) ((iX r _ _ h).mono λt ht=>?_)
   ·intro hd;apply ht;simp [Jz,hd]
   ·intro hd;apply ht;simp [Jz,hd]
  ·cases h
theorem Xe: ∀(l:List Oper) (o:Oper) (d:Nat),o∈l->o.dst=some d->d∈Jz l
 | [],_,_,h,_=>by cases h
 |p::r,o,d,h,hd=>by
  cases h with
  |head=>simp [Jz,hd]
  |tail _ h=>simp only [Jz,Aw];exact .inr (Xe r o d h hd)
theorem mH {ops:Array Oper} {i:Nat} {o:Oper} (h:ops[i]?=some o):o∈ops.toList:=by
 rw [Mk] at h
 obtain ⟨h1,h2⟩:=h
 rw [<-h2]
 simp
theorem Xa {T:Tab} {Γ:Env} {ops:Array Oper} : ∀(l:List Nat) (st st':St),Me T Γ ops l st=some st'->Fb (λt=>t∉Jz ops.toList) st st'
 | [],st,st',h=>by injection h with h;subst h;exact By.rfl'.on
 |i::r,st,st',h=>by
  simp only [Me] at h
  split at h
  ·cases h
  ·rename_i o ho
   split at h
   ·rename_i s hs
    exact ((ae hs).mono λt ht hd=>ht (Xe _ _ _ (mH ho) hd)).trans (Xa r _ _ h)
   ·cases h
theorem Qm {T:Tab} {Γ:Env} {ops:Array Oper} : ∀(l:List Nat) (st st':St),Fl T Γ ops l st=some st'->Fb (λt=>t∉Jz ops.toList) st st'
 | [],st,st',h=>by injection h with h;subst h;exact By.rfl'.on
 |i::r,st,st',h=>by
  simp only [Fl] at h
  split at h
  ·cases h
  ·rename_i o ho
   split at h
   ·exact ((bb _ _ _).mono λt ht hd=>ht (Xe _ _ _ (mH ho) hd)).trans (Qm r _ _ h)
   ·cases h
theorem Sp: ∀(l:List Nat) (st:St),By st (Zl l st)
 | [],_=>By.rfl'
 |a::r,st=>(lq st a).trans (Sp r _)
theorem Ui (live:List Nat): ∀(i:Nat) (l:List AV) (t:Nat),i+t∈live->(Hr live i l).getD t .undef=l.getD t .undef
 |_,[],_,_=>rfl
 |i,v::r,0,h=>by simp [Hr];intro hn;exact absurd h hn
 |i,v::r,t+1,h=>by
  simp only [Hr,Mp]
  exact Ui live (i+1) r t (by rw [show i+1+t=i+(t+1) by omega];exact h)
theorem wo (l k:Nat) (st:St):By st (st.rename l k):=by
 unfold St.rename
 split
 ·split
  ·exact (Ok st (Tq l k) rfl λ_ _ _=>rfl).trans (By.Xf rfl)
  ·exact By.rfl'
 ·exact By.rfl'
theorem cz: ∀(n t:Nat) (st:St),By st (Lx n t st)
 |0,_,_=>By.rfl'
 |n+1,t,st=>by
  simp only [Lx]
  refine By.trans ?_ (cz n (t+1) _)
  split
  ·split
   ·split
    ·exact By.rfl'
    ·exact wo _ _ _
   ·exact By.rfl'
  ·exact By.rfl'
theorem qD (t:Nat) (st:St):By st (az t st):=by
 unfold az
 split
 ·rename_i l off len hg
  split
  ·split
   ·intro k fr τ x hk
    have Jg:k≠t:= λe=>by subst e;rw [hg] at hk;cases hk
    rw [ai _ _ Jg]
    exact Kp _ _ _ k fr τ x hk
   ·exact By.rfl'
  ·exact By.rfl'
 ·exact By.rfl'
theorem ka (c:Nat) (st:St):By st (Oy c st):=by
 unfold Oy
 split
 ·split
  ·split
   ·split
    ·split
     ·exact (Kp _ _ _).trans (Lt _ _ _)
     ·exact By.rfl'
    ·exact By.rfl'
   ·exact By.rfl'
  ·exact By.rfl'
 ·exact By.rfl'
theorem bd (live:List Nat): ∀(n c:Nat) (st:St),By st (On live n c st)
 |0,_,_=>By.rfl'
 |n+1,c,st=>by
  simp only [On]
  refine By.trans ?_ (bd live n (c+1) _)
  split
  ·exact ka _ _
  ·exact By.rfl'
theorem ez (live:List Nat): ∀(n t:Nat) (st:St),By st (Nx live n t st)
 |0,_,st=>bd live 16 0 st
 |n+1,t,st=>by
  simp only [Nx]
  refine By.trans ?_ (ez live n (t+1) _)
  split
  ·exact qD _ _
  ·exact By.rfl'
theorem ja (live:List Nat) (st:St):Fb (λt=>t∈live) st (st.clean live):=by
 intro t fr τ x hp hx
 unfold St.clean
 have key: ∀s:St,s.get t= .at (.data fr τ x)->(if live.contains bo then Lx s.tmps.length 0 s else s).get t= .at (.data fr τ x):=by
  intro s hs
  split
  ·exact cz _ _ s t fr τ x hs
  ·exact hs
 have QL: ∀s:St,s.get t= .at (.data fr τ x)->(if live.any (λt=>Nat.ble Sm t) then s.Io live else s).get t= .at (.data fr τ x):=by
  intro s hs
  split<;>exact hs
 have QM: ∀s:St,s.get t= .at (.data fr τ x)->(if live.any (λt=>Nat.ble aA t&&Nat.blt t bo) then Nx live s.tmps.length 0 s else s).get t= .at (.data fr τ x):=by
  intro s hs
  split
  ·exact ez _ _ _ s t fr τ x hs
  ·exact hs
 refine QL _ (key _ (QM _ (Sp _ _ t fr τ x ?_)))
 simp only [St.get] at hx⊢
 rw [Ui live 0 st.tmps t (by simpa using hp)]
 exact hx
def an (live:Nat->List Nat):Code->Nat->Bool
 | .seq a b,t=>an live a t&&an live b t
 | .cond _ a b,t=>an live a t&&an live b t
 | .block _ c,t=>an live c t
 | .loop c,t=>(live (Eo c)).contains t&&an live c t
 |_,_=>true
theorem mb {a b:Bool} (h:(a&&b)=true):a=true:=by cases a<;>simp_all
theorem jI {a b:Bool} (h:(a&&b)=true):b=true:=by cases a<;>simp_all
theorem mg {T:Tab} {Γ:Env} {ops:Array Oper} {draw:Bool} {st st':St} (h:Qn T Γ ops draw st=some st'):Fb (λt=>t∉writes (.region 0 ops draw)) st st':=by
 unfold Qn at h
 have go: ∀q,(match Fl T Γ ops (ig q Γ ops) st with
   |some s=>Me T Γ ops (Iy q Γ ops) s
   |none=>none)=some st'->Fb (λt=>t∉writes (.region 0 ops draw)) st st':=by
  intro q h
  split at h
  ·rename_i s hs
   exact (Qm _ _ _ hs).trans (Xa _ _ _ h)
  ·cases h
 split at h
 ·split at h
  ·exact go false h
  ·split at h
   ·exact go true h
   ·cases h
 ·exact iX _ _ _ h
theorem pG {T:Tab} {Γ:Env} {ops:Array Oper} {draw:Bool} {K:St->Prop} (s0:St): ∀(f:Nat) (Af:Array Bool) (st:St),Fb (λt=>t∉writes (.region 0 ops draw)) s0 st->anyS T Γ ops K f Af st->anyS T Γ ops (λs=>K s/\Fb (λt=>t∉writes (.region 0 ops draw)) s0 s) f Af st
 |0,_,_,hk,h=>⟨h.1,h.2,hk⟩
 |f+1,Af,st,hk,h=>⟨h.1,λi hi=>by
  obtain ⟨o,st',h1,h2,h3⟩:=h.2 i hi
  have h4:Me T Γ ops [i] st=some st':=by simp only [Me,h1,h2]
  exact ⟨o,st',h1,h2,pG s0 f _ _ (hk.trans (Xa _ _ _ h4)) h3⟩⟩
theorem jJ {T:Tab} {Γ:Env} {ops:Array Oper} {draw:Bool} {E:List Nat} {K:St->Prop} (s0:St): ∀(f:Nat) (Af:Array Bool) (st:St),Fb (λt=>t∉writes (.region 0 ops draw)) s0 st->om T Γ ops E K f Af st->om T Γ ops E (λs=>K s/\Fb (λt=>t∉writes (.region 0 ops draw)) s0 s) f Af st
 |0,_,_,hk,h=>⟨h.1,h.2.1,h.2.2,hk⟩
 |f+1,Af,st,hk,h=>⟨h.1,h.2.1,λi hi=>by
  obtain ⟨o,st',h1,h2,h3⟩:=h.2.2 i hi
  have h4:Me T Γ ops [i] st=some st':=by simp only [Me,h1,h2]
  exact ⟨o,st',h1,h2,jJ s0 f _ _ (hk.trans (Xa _ _ _ h4)) h3⟩⟩
theorem gf {ops:Array Oper} {dead:List Nat} (hd:dead.all (Wv ops)=true) (st:St):Fb (λt=>t∉Jz ops.toList) st (st.Pk dead):=by
 intro t fr τ x ht hx
 unfold St.Pk
 refine Sp _ _ t fr τ x ?_
 show (Hr _ 0 st.tmps).getD t .undef=_
 rw [Ui _ 0 st.tmps t ?_]
 ·exact hx
 ·refine Da.2 ⟨Hu.2 ?_,?_⟩
  ·refine Cs λhn=>?_
   have:st.get t= .undef:=by
    unfold St.get
    rw [Ah,Ev (by omega)];rfl
   rw [hx] at this
   cases this
  ·cases hc:dead.contains (0+t) with
   |false=>rfl
   |true=>
    have hm:0+t∈dead:=by simpa using hc
    have h1:=At.1 hd _ hm
    obtain ⟨o,ho,h2⟩:=Ej.1 h1
    rw [Cf] at h2
    exact absurd (Xe _ o t ho (by simpa using h2)) ht
theorem iP.keeps {T:Tab} {Γ:Env} {ops:Array Oper} {draw:Bool} {st:St} {K:St->Prop} (h:iP T Γ ops draw st K):iP T Γ ops draw st (λs=>K s/\Fb (λt=>t∉writes (.region 0 ops draw)) st s):=by
 rcases h with ⟨st',h1,h2⟩|⟨h1,h2,aM,h3,h4|⟨E,st1,h4,h5,h6,h7⟩⟩
 ·exact .inl ⟨st',h1,h2,mg h1⟩
 ·exact .inr ⟨h1,h2,aM,h3, .inl (pG st _ _ _ (Qm _ _ _ h3) h4)⟩
 ·exact .inr ⟨h1,h2,aM,h3, .inr ⟨E,st1,h4,h5,h6,jJ st _ _ _ ((Qm _ _ _ h3).trans (Qm _ _ _ h6)) h7⟩⟩
theorem vu.keeps {T:Tab} {Γ:Env} {ops:Array Oper} {draw:Bool} {st:St} {K:St->Prop} (h:vu T Γ ops draw st K):vu T Γ ops draw st (λs=>K s/\Fb (λt=>t∉writes (.region 0 ops draw)) st s):=by
 rcases h with h|⟨dead,hd,h⟩
 ·exact .inl h.keeps
 ·exact .inr ⟨dead,hd,h.keeps.mono λs hs=>⟨hs.1,hs.2.trans (gf hd s)⟩⟩
theorem iR (ops:Array Oper) {fr:Bool} {τ:Ty} {x:τ.den} : ∀(i:Nat) (l:List AV) (t:Nat),l.getD t .undef= .at (.data fr τ x)->(Np ops i l).getD t .undef= .at (.data fr τ x)
 |_,[],_,h=>h
 |i,v::r,0,h=>by
  cases v with
  |Mb l=>cases h
  |_=>exact h
 |i,v::r,t+1,h=>by
  have h':=iR ops (i+1) r t h
  cases v<;>(simp only [Np,Mp];exact h')
theorem jb (ops:Array Oper) (st:St):By st (st.kQ ops):= λt _ _ _ hx=>iR ops 0 st.tmps t hx
theorem FA {T:Tab} {Γ:Env} {live:Nat->List Nat} {c:Code} {st:St} {Q:Kx->St->Prop} (h:Ni T Γ live c st Q): ∀(s0:St) (p:Nat->Prop),Fb p s0 st->(∀t,p t->t∉writes c/\an live c t=true)->Ni T Γ live c st (λe s=>Q e s/\Fb p s0 s):=by
 induction h with
 |skip h=>exact λs0 p hk _=> .skip ⟨h,hk⟩
 |label h=>exact λs0 p hk _=> .label ⟨h,hk⟩
 |exit h=>exact λs0 p hk _=> .exit ⟨h,hk⟩
 |ret h=>exact λs0 p hk _=> .ret ⟨h,hk⟩
 |region h=>
  exact λs0 p hk hp=> .region (h.keeps.mono λs hs=>⟨hs.1,(hk.trans (jb _ _).on).trans (hs.2.mono λt ht=>(hp t ht).1)⟩)
 |seq Q1 _ _ h3 KD yY=>
  exact λs0 p hk hp=> .seq _ (KD s0 p hk λt ht=>⟨λhm=>(hp t ht).1 (by simp [writes,hm]),mb (hp t ht).2⟩)
   (λs hs=>yY s hs.1 s0 p hs.2 λt ht=>⟨λhm=>(hp t ht).1 (by simp [writes,hm]),jI (hp t ht).2⟩) λe s he hs=>⟨h3 e s he hs.1,hs.2⟩
 |cond hc _ _ KD yY=>
  exact λs0 p hk hp=> .cond hc (λht=>KD ht s0 p hk λt h=>⟨λhm=>(hp t h).1 (by simp [writes,hm]),mb (hp t h).2⟩)
   fun ht=>yY ht s0 p hk λt h=>⟨λhm=>(hp t h).1 (by simp [writes,hm]),jI (hp t h).2⟩
 |block Q1 _ h2 ih=>
  exact λs0 p hk hp=> .block _ (ih s0 p hk λt ht=>⟨λhm=>(hp t ht).1 (by simpa [writes] using hm),by simpa [an] using (hp t ht).2⟩) λe s hs=>by
   have h:=h2 e s hs.1
   cases e with
   |normal=>exact ⟨h,hs.2⟩
   |ret=>exact ⟨h,hs.2⟩
   |exit KC=>
    simp only [ue] at h⊢
    split at h
    ·rename_i hi;rw [Ab hi];exact ⟨h,hs.2⟩
    ·rename_i hi;rw [Al hi];exact ⟨h,hs.2⟩
 |loop Q1 _ _ h3 KD yY=>
  intro s0 p hk hp
  refine .loop _ (KD s0 p (hk.trans ((ja _ _).mono λt ht=>by simpa using mb (hp t ht).2)) λt ht=>⟨λhm=>(hp t ht).1 (by simpa [writes] using hm),jI (hp t ht).2⟩)
   (λs hs=>yY s hs.1 s0 p hs.2 hp) λe s he hs=>⟨h3 e s he hs.1,hs.2⟩
end Go.Proofs.Ytkkdpknjohcekaa
