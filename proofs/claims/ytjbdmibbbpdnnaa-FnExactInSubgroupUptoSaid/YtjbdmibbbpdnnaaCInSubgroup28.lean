/-
  Part 29 of the proof that the statement FnExactInSubgroup holds.
-/
import Derived.Test.YtjbdmibbbpdnnaaCInSubgroup27
namespace Go.Proofs.Ytjbdmibbbpdnnaa
open Go.RowKit
def Av (st st':St):Prop:= ∀(t:Nat) (fr:Bool) (τ:Ty) (x:τ.den),st.get t= .at (.data fr τ x)->st'.get t= .at (.data fr τ x)
theorem Av.rfl' {st:St} :Av st st:= λ_ _ _ _ h=>h
theorem Av.trans {a b c:St} (h1:Av a b) (h2:Av b c):Av a c:= λt fr τ x h=>h2 t fr τ x (h1 t fr τ x h)
theorem Av.Qe {a b:St} (h:b.tmps=a.tmps):Av a b:= λt fr τ x hx=>by
 simp only [St.get] at hx⊢
 rw [h]
 exact hx
theorem Ti (st:St) {t d:Nat} (v:AV) (h:t≠d):(st.put (some d) v).get t=st.get t:=by
 simp only [St.put,St.get]
 rw [Ss]
 rw [if_neg (by rintro ⟨rfl,_⟩;exact h rfl)]
theorem Iv (st:St) (f:AC->AC) (hu:f .undef= .undef) (hd: ∀fr (τ:Ty) (x:τ.den),f (.data fr τ x)= .data fr τ x):Av st (st.Fp f):=by
 intro t fr τ x h
 simp only [St.Fp,St.get]
 rw [Ql f hu,show st.tmps.getD t .undef=_ from h]
 simp only [AV.map,hd]
theorem fj (st:St) (l:Nat):Av st (st.forget l):=
 (Iv st (As l) rfl λ_ _ _=>rfl).trans (Av.Qe rfl)
theorem Sb (st:St) (l:Nat) (fr:Bool) (e:Ty) (xs:List e.den):Av st (st.freeze l fr e xs):=
 (Iv st (At l fr e xs) rfl λ_ _ _=>rfl).trans (Av.Qe rfl)
theorem Zs (st:St) (l:Nat) (v:Ty) (m:ByteArray->Option v.den):Av st (st.Eb l v m):=
 (Iv st (Cw l v m) rfl λ_ _ _=>rfl).trans (Av.Qe rfl)
theorem Hi (st:St) (l:Nat) (b:OB):Av st (st.new l b):=(fj st l).trans (Av.Qe rfl)
theorem Hw (st:St) (l:Nat) (b:OB):Av st (st.Ff l b):=Av.Qe rfl
theorem Wn (b:OB) (key l i:Nat) (st:St):Av st (Mm b key l i st):=by
 unfold Mm
 split
 ·split
  ·dsimp only
   split
   ·exact (Hi _ _ _).trans (Hw _ _ _)
   ·exact Hi _ _ _
  ·exact Av.rfl'
 ·exact Av.rfl'
theorem cV (T:Tab) (l:Nat) (t:TypeId) (τ:Ty): ∀(n i:Nat) (st:St),Av st (Ym T l t τ n i st)
 |0,_,_=>Av.rfl'
 |n+1,i,st=>by
  simp only [Ym]
  refine Av.trans ?_ (cV T l t τ n (i+1) _)
  split
  ·exact Wn _ _ _ _ _
  ·exact Av.rfl'
theorem aX (T:Tab) (l off:Nat) (t:TypeId) (τ:Ty): ∀(n i:Nat) (st:St),Av st (Wt T l off t τ n i st)
 |0,_,_=>Av.rfl'
 |n+1,i,st=>by
  simp only [Wt]
  refine Av.trans ?_ (aX T l off t τ n (i+1) _)
  split
  ·exact Wn _ _ _ _ _
  ·exact Av.rfl'
theorem Kb: ∀(n:Nat) (st:St) (cs aH:List AC) (st':St),Dd n st cs=some (aH,st')->Av st st'
 |0,st,cs,aH,st',h=>by
  simp only [Dd] at h
  split at h
  ·injection h with h;injection h with h1 h2;subst h2;exact Av.rfl'
  ·cases h
 |n+1,st,cs,aH,st',h=>by
  simp only [Dd] at h
  split at h
  ·injection h with h;injection h with h1 h2;subst h2;exact Av.rfl'
  ·split at h
   ·exact (Sb _ _ _ _ _).trans (Kb n _ _ _ _ h)
   ·exact (Sb _ _ _ _ _).trans (Kb n _ _ _ _ h)
   ·cases h
  ·split at h
   ·exact (Zs _ _ _ _).trans (Kb n _ _ _ _ h)
   ·cases h
  ·cases h
theorem Ku {st st':St} {v v':AV} (h:settle st v=some (v',st')):Av st st':=by
 unfold settle at h
 split at h
 ·split at h
  ·injection h with h;injection h with h1 h2;subst h2;exact Sb _ _ _ _ _
  ·injection h with h;injection h with h1 h2;subst h2;exact Sb _ _ _ _ _
  ·cases h
 ·split at h
  ·injection h with h;injection h with h1 h2;subst h2;exact Zs _ _ _ _
  ·cases h
 ·split at h
  ·injection h with h;injection h with h1 h2;subst h2;exact Av.rfl'
  ·cases h
 ·rename_i cs
  cases hs:Dd cs.length st cs with
  |none=>rw [hs] at h;cases h
  |some p=>rw [hs] at h;injection h with h;injection h with h1 h2;subst h2;exact Kb _ _ _ _ _ hs
 ·injection h with h;injection h with h1 h2;subst h2;exact Av.rfl'
 ·cases h
theorem iL {T:Tab} {st st':St} {l:Nat} {t:TypeId} {τ:Ty} {cs:List AC} {v:AV} (h:mkVar T st l t τ cs=some (v,st')):Av st st':=by
 unfold mkVar at h
 split at h
 ·cases h
 dsimp only at h
 split at h
 ·injection h with h;injection h with h1 h2;subst h2;exact (Hi _ _ _).trans (cV _ _ _ _ _ _ _)
 ·cases h
theorem sI {T:Tab} {st st':St} {t:TypeId} {p v:AV} (h:Mr T st t p v=some st'):Av st st':=by
 unfold Mr at h
 split at h
 ·split at h
  ·split at h
   ·injection h with h
    split at h
    ·subst h;exact (Hw _ _ _).trans (aX _ _ _ _ _ _ _ _)
    ·subst h;exact Hw _ _ _
   ·cases h
  ·cases h
 ·split at h
  ·rename_i hs
   split at h
   ·split at h
    ·split at h
     ·injection h with h;subst h;exact (Ku hs).trans (Hw _ _ _)
     ·cases h
    ·cases h
   ·cases h
  ·cases h
 ·cases h
theorem kV (st:St) (l j m:Nat) (e:Ty) (te:TypeId) (rows:List (List e.den)) (xs:List e.den) (kp:Option (Nat×Nat)):Av st (Lr st l j m e te rows xs kp):=
 ((Iv st (Ap [m] [l]) (by simp [Ap,AC.refs]) λfr τ x=>by simp [Ap,AC.refs]).trans (Av.Qe rfl)).trans (Hw (st.Ul [m] [l]) _ _)
theorem kW (st:St) (l i m:Nat) (e:Ty) (te tid:TypeId) (rows:List (List e.den)) (kp:Option (Nat×Nat)):Av st (Jh st l i m e te tid rows kp):=
 (Hw st l _).trans (Hi _ m _)
theorem pN {T:Tab} {st st':St} {t:TypeId} {p v:AV} (h:Iy T st t p v=some st'):Av st st':=by
 unfold Iy at h
 split at h
 rotate_left
 ·exact sI h
 unfold Th at h
 split at h
 ·split at h
  ·rename_i hs
   split at h
   ·split at h
    ·injection h with h;subst h;exact (Ku hs).trans (Hw _ _ _)
    ·cases h
   ·cases h
  ·cases h
 ·split at h
  ·split at h
   ·split at h
    ·injection h with h;subst h
     exact kV _ _ _ _ _ _ _ _ _
    ·cases h
   ·cases h
  ·cases h
 ·cases h
theorem Yc {T:Tab} {st st':St} {d:Nat} {t:TypeId} {x y:Operand} {v:AV} (h:Ht T st d t x y=some (v,st')):Av st st':=by
 unfold Ht at h
 split at h
 ·cases h
 ·split at h
  ·rename_i hs
   split at h
   ·cases h
   ·split at h
    ·split at h
     ·injection h with h;injection h with h1 h2;subst h2;exact ((Ku hs).trans (Hi _ _ _)).trans (Hi _ _ _)
     ·cases h
    ·split at h
     ·split at h
      ·split at h
       ·injection h with h;injection h with h1 h2;subst h2;exact (Ku hs).trans (Hi _ _ _)
       ·cases h
      ·cases h
     ·cases h
    ·cases h
  ·cases h
theorem mL {T:Tab} {st st':St} {d:Nat} {t:TypeId} {x y:Operand} {v:AV} (h:Kg T st d t x y=some (v,st')):Av st st':=by
 unfold Kg at h
 split at h
 ·rename_i tx
  split at h
  ·rename_i l i c hg
   split at h
   ·split at h
    ·rename_i e te rows kp tid hl ht hc
     refine Av.trans (b:=(Jh st l i d e te tid rows kp).put (some tx) (.at (.own d 0 (rows.getD i []).length))) ?_ (Yc h)
     intro t' fr τ z hz
     by_cases e':t'=tx
     ·subst e';rw [hg] at hz;cases hz
     ·rw [Ti _ _ e'];exact kW st l i d e te tid rows kp t' fr τ z hz
    ·cases h
   ·cases h
  ·exact Yc h
 ·exact Yc h
theorem vJ {T:Tab} {st st':St} {d:Nat} {t:TypeId} {l c v:AV} (h:Te T st d t l c=some (v,st')):Av st st':=by
 unfold Te at h
 split at h
 ·split at h
  ·split at h
   ·injection h with h;injection h with h1 h2;subst h2;exact Hi _ _ _
   ·cases h
  ·cases h
 ·cases h
theorem iM (e:Ty): ∀(l:List (Nat×Operand)) (i:Nat) (st st':St) (fr tr:Bool) (ys:List e.den),Fz e i l st=some (fr,tr,ys,st')->Av st st'
 | [],_,_,_,_,_,_,h=>by
  simp only [Fz] at h
  injection h with h;injection h with h1 h2;injection h2 with h2 h3;injection h3 with h3 h4;subst h4;exact Av.rfl'
 |(j,x)::r,i,st,st',fr,tr,ys,h=>by
  simp only [Fz] at h
  split at h
  ·split at h
   ·rename_i hs
    split at h
    ·split at h
     ·rename_i hp
      injection h with h;injection h with h1 h2;injection h2 with h2 h3;injection h3 with h3 h4;subst h4
      exact (Ku hs).trans (iM e r _ _ _ _ _ _ hp)
     ·cases h
    ·cases h
   ·cases h
  ·cases h
theorem gD {T:Tab} {st st':St} {d:Nat} {t:TypeId} {n:Nat} {parts:Array (Nat×Operand)} {v:AV} (h:Gr T st d t n parts=some (v,st')):Av st st':=by
 unfold Gr at h
 split at h
 ·cases h
 ·split at h
  ·cases h
  ·split at h
   ·split at h
    ·rename_i hp
     injection h with h;injection h with h1 h2;subst h2;exact (iM _ _ _ _ _ _ _ _ hp).trans (Hi _ _ _)
    ·cases h
   ·cases h
theorem mN {T:Tab} {st st':St} {d:Nat} {t:TypeId} {v:AV} (h:Mq T st d t=some (v,st')):Av st st':=by
 unfold Mq at h
 split at h
 ·split at h
  ·injection h with h;injection h with h1 h2;subst h2;exact Hi _ _ _
  ·cases h
 ·cases h
theorem fk {T:Tab} {st st':St} {t:TypeId} {m k x:AV} (h:Ej T st t m k x=some st'):Av st st':=by
 unfold Ej at h
 split at h
 ·split at h
  ·split at h
   ·injection h with h;subst h;exact Hw _ _ _
   ·cases h
  ·cases h
 ·cases h
theorem vI {T:Tab} {st st':St} {t t':TypeId} {x y v:AV} (h:aK T st t t' x y=some (v,st')):Av st st':=by
 unfold aK at h
 split at h
 ·split at h
  ·split at h
   ·split at h
    ·injection h with h;injection h with h1 h2;subst h2;exact Hw _ _ _
    ·cases h
   ·cases h
  ·cases h
 ·cases h
theorem sG {T:Tab} {st st':St} {t:TypeId} {x:AV} (h:evalClear T st t x=some st'):Av st st':=by
 unfold evalClear at h
 split at h
 ·split at h
  ·split at h
   ·split at h
    ·injection h with h;subst h;exact Hw _ _ _
    ·cases h
   ·cases h
  ·cases h
 ·cases h
theorem oC {st st':St} {c:CK} {ys:c.den} {a:AC} (h:Ue st c ys a=some st'):st'.tmps=st.tmps:=by
 unfold Ue at h
 repeat' split at h
 all_goals first|(cases h;done)|(simp only [Option.some.injEq] at h;subst h;rfl)|skip
theorem zc {st st':St} {e:Ty} {ys:List e.den} {a:AC} (h:wi st e ys a=some st'):st'.tmps=st.tmps:=by
 unfold wi at h
 repeat' split at h
 all_goals first|(cases h;done)|(simp only [Option.some.injEq] at h;subst h;rfl)|skip
theorem Mn: ∀(cs:List (Bool×CK)) (o:IOs.den cs) (as:List AC) (st st':St),Dr cs o as st=some st'->st'.tmps=st.tmps
 | [],_,_,st,st',h=>by simp only [Dr,Option.some.injEq] at h;subst h;rfl
 |(true, .Gh _)::r,o,[],st,st',h=>by simp [Dr] at h
 |(true, .row _ _)::r,o,[],st,st',h=>by simp [Dr] at h
 |(true, .Dh _ _)::r,o,[],st,st',h=>by simp [Dr] at h
 |(true, .part _ _)::r,o,[],st,st',h=>by simp [Dr] at h
 |(true, .Ai _ _ _)::r,o,[],st,st',h=>by simp [Dr] at h
 |(true, .Ai _ _ _)::r,o,a::as,st,st',h=>Mn r o as st st' (by simpa only [Dr] using h)
 |(false,_)::r,o,[],st,st',h=>by simp [Dr] at h
 |(true, .Gh _)::r,o,a::as,st,st',h=>Mn r o as st st' (by simpa only [Dr] using h)
 |(false,_)::r,o,a::as,st,st',h=>Mn r o as st st' (by simpa only [Dr] using h)
 |(true, .row _ _)::r,o,a::as,st,st',h=>by
  simp only [Dr] at h
  split at h
  ·rename_i hc;exact (Mn r o.2 as _ st' h).trans (oC hc)
  ·cases h
 |(true, .part _ _)::r,o,a::as,st,st',h=>by
  simp only [Dr] at h
  split at h
  ·rename_i hc;exact (Mn r o.2 as _ st' h).trans (zc hc)
  ·cases h
 |(true, .Dh _ _)::r,o,a::as,st,st',h=>by
  simp only [Dr] at h
  split at h
  ·rename_i hc;exact (Mn r o.2 as _ st' h).trans (oC hc)
  ·cases h
theorem pL (a7 st:St) (ls:List Nat) (n:Nat) (hl:a7.tmps.length=st.tmps.length) (h:Av a7 st):Av a7 (dW a7 st ls n):=by
 unfold dW
 split
 ·exact h
 ·intro t fr τ x hx
  show (Ge _ a7.tmps st.tmps).getD t .undef=_
  rcases Zc ls a7.tmps st.tmps t hl with ⟨k,i,c,h1,_⟩|h1
  ·rw [show a7.tmps.getD t .undef=_ from hx] at h1;cases h1
  ·rw [h1];exact h t fr τ x hx
theorem sF {st st':St} {d:Option Nat} {s:MSpec} {args:List AV} {v:AV} (h:Ov st d s args=some (v,st')):Av st st':=by
 unfold Ov at h
 split at h
 ·cases h
 split at h
 ·cases h
 split at h
 ·cases h
 split at h
 ·split at h
  ·cases h
  split at h
  ·cases h
  rename_i st1 hp
  split at h
  ·cases h
  split at h
  ·simp only [Option.some.injEq,Prod.mk.injEq] at h
   obtain ⟨_,rfl⟩:=h
   have OR:=Mn _ _ _ _ _ hp
   refine pL _ _ _ _ ?_ ?_
   ·simp only [dB,ib]
    rw [<-OR]
    simp only [St.Ul,St.Fp,List.length_map]
   ·refine Av.trans (Av.Qe OR) ?_
    refine Av.trans (Iv st1 (Ap _ _) (by simp [Ap,AC.refs]) λfr τ x=>by simp [Ap,AC.refs]) (Av.Qe ib)
  ·cases h
 ·cases h
theorem Vg (st:St) (k m:Nat) (b:OB):Av st (Jz st k m b):=
 (Iv st (Ap [m,k] []) (by simp [Ap,AC.refs]) λfr τ x=>by simp [Ap,AC.refs]).trans (Av.Qe rfl)
theorem sH {T:Tab} {st st':St} {d:Nat} {t:TypeId} {l c v:AV} (h:Ox T st d t l c=some (v,st')):Av st st':=by
 unfold Ox at h
 split at h
 ·exact vJ h
 ·split at h
  ·split at h
   ·injection h with h;injection h with h1 h2;subst h2;exact Vg _ _ _ _
   ·cases h
  ·cases h
theorem fi {T:Tab} {st st':St} {d:Nat} {t:TypeId} {n:Nat} {parts:Array (Nat×Operand)} {v:AV} (h:Eh T st d t n parts=some (v,st')):Av st st':=by
 unfold Eh at h
 split at h
 ·exact gD h
 ·repeat' split at h
  all_goals first|(cases h;done)|(injection h with h;injection h with h1 h2;subst h2;exact Vg _ _ _ _)
theorem mM {T:Tab} {st st':St} {d:Nat} {t:TypeId} {x y:Operand} {v:AV} (h:Kh T st d t x y=some (v,st')):Av st st':=by
 unfold Kh at h
 split at h
 ·exact mL h
 ·repeat' split at h
  all_goals first|(cases h;done)|(injection h with h;injection h with h1 h2;subst h2;exact Vg _ _ _ _)
theorem Wm {st st':St} {v:AV} {o:Option AV} (h:o.map (λv=>(v,st))=some (v,st')):Av st st':=by
 cases o with
 |none=>cases h
 |some u=>injection h with h;injection h with h1 h2;subst h2;exact Av.rfl'
theorem Rc: ∀(l:List Operand) {st st1:St},Iq l st=some st1->Av st st1
 | [],st,st1,h=>by
  simp only [Iq,Option.some.injEq] at h
  subst h
  exact Av.rfl'
 |x::r,st,st1,h=>by
  simp only [Iq] at h
  cases hs:settle st (st.ev x) with
  |none=>rw [hs] at h;cases h
  |some p=>
   rw [hs] at h
   exact (Ku (v':=p.1) (st':=p.2) hs).trans (Rc r h)
theorem eT {T:Tab} {Γ:Env} {st st':St} {o:Oper} {v:AV} (h:evalOp T Γ st o=some (v,st')):Av st st':=by
 unfold evalOp at h
 split at h
 ·split at h
  ·split at h
   ·injection h with h;injection h with h1 h2;subst h2;exact Hi _ _ _
   ·cases h
  ·injection h with h;injection h with h1 h2;subst h2;exact Av.rfl'
 ·split at h
  ·exact iL h
  ·cases h
 ·split at h
  ·split at h
   ·exact iL h
   ·cases h
  ·cases h
 ·rename_i t p x _
  cases hs:Iy T st t (st.ev p) (st.ev x) with
  |none=>rw [hs] at h;cases h
  |some s=>rw [hs] at h;injection h with h;injection h with h1 h2;subst h2;exact pN hs
 ·split at h
  ·exact sH h
  ·cases h
 ·split at h
  ·exact mN h
  ·cases h
 ·rename_i t m k x _
  cases hs:Ej T st t (st.ev m) (st.ev k) (st.ev x) with
  |none=>rw [hs] at h;cases h
  |some s=>rw [hs] at h;injection h with h;injection h with h1 h2;subst h2;exact fk hs
 ·rename_i t m k x _
  cases hs:Ej T st t (st.ev m) (st.ev k) (st.ev x) with
  |none=>rw [hs] at h;cases h
  |some s=>rw [hs] at h;injection h with h;injection h with h1 h2;subst h2;exact fk hs
 ·split at h
  ·exact fi h
  ·cases h
 ·exact Wm h
 ·split at h
  ·split at h
   ·exact mM h
   ·cases h
  ·cases h
 ·split at h
  ·exact vI h
  ·cases h
 ·split at h
  ·rename_i x t _ _
   cases hs:evalClear T st t (st.ev x) with
   |none=>rw [hs] at h;cases h
   |some s=>rw [hs] at h;injection h with h;injection h with h1 h2;subst h2;exact sG hs
  ·cases h
 ·split at h
  ·exact sF h
  ·split at h
   ·rename_i args _ _ _ _ _ _
    cases hs:Iq args.toList st with
    |none=>rw [hs] at h;cases h
    |some st1=>
     rw [hs] at h
     exact (Rc _ hs).trans (Wm h)
   ·exact Wm h
  ·exact Wm h
 ·exact Wm h
def Jv:List Oper->List Nat
 | []=> []
 |o::r=>(match o.dst with|some d=> [d]|none=> [])++Jv r
def writes:Code->List Nat
 | .region _ ops _=>Jv ops.toList
 | .seq a b=>writes a++writes b
 | .cond _ a b=>writes a++writes b
 | .block _ c=>writes c
 | .loop c=>writes c
 |_=> []
def Ep (P:Nat->Prop) (st st':St):Prop:= ∀(t:Nat) (fr:Bool) (τ:Ty) (x:τ.den),P t->st.get t= .at (.data fr τ x)->st'.get t= .at (.data fr τ x)
theorem Ep.trans {P:Nat->Prop} {a b c:St} (h1:Ep P a b) (h2:Ep P b c):Ep P a c:= λt fr τ x hp h=>h2 t fr τ x hp (h1 t fr τ x hp h)
theorem Ep.mono {P Q:Nat->Prop} {a b:St} (h1:Ep P a b) (h: ∀t,Q t->P t):Ep Q a b:= λt fr τ x hp hx=>h1 t fr τ x (h t hp) hx
theorem Av.on {P:Nat->Prop} {a b:St} (h:Av a b):Ep P a b:= λt fr τ x _ hx=>h t fr τ x hx
theorem Uo (st:St) (dst:Option Tmp) (v:AV):Ep (λt=>dst≠some t) st (st.put dst v):=by
 intro t fr τ x hp hx
 cases dst with
 |none=>exact hx
 |some d=>rw [Ti st v (λh=>hp (by rw [h]))];exact hx
theorem aL {T:Tab} {Γ:Env} {ops:Array Oper} {st st':St} {o:Oper} (h:Cb T Γ ops st o=some st'):Ep (λt=>o.dst≠some t) st st':=by
 have key: ∀s,(evalOp T Γ st o).map (λr=>r.2.put o.dst r.1)=some s->Ep (λt=>o.dst≠some t) st s:=by
  intro s hs
  cases he:evalOp T Γ st o with
  |none=>rw [he] at hs;cases hs
  |some p=>rw [he] at hs;injection hs with hs;subst hs;exact (eT (v:=p.1) (st':=p.2) he).on.trans (Uo _ _ _)
 unfold Cb at h
 split at h
 ·exact key _ h
 ·split at h
  ·split at h
   ·exact key _ h
   ·injection h with h;subst h;exact Uo _ _ _
  ·injection h with h;subst h;exact Uo _ _ _
  ·cases h
theorem cH {T:Tab} {Γ:Env} {ops:Array Oper} : ∀(l:List Oper) (st st':St),Rx T Γ ops l st=some st'->Ep (λt=>t∉Jv l) st st'
 | [],st,st',h=>by injection h with h;subst h;exact Av.rfl'.on
 |o::r,st,st',h=>by
  simp only [Rx] at h
  split at h
  ·rename_i s hs
   refine Ep.trans ((aL hs).mono λt ht=>?_) ((cH r _ _ h).mono λt ht=>?_)
   ·intro hd;apply ht;simp [Jv,hd]
   ·intro hd;apply ht;simp [Jv,hd]
  ·cases h
theorem Vj: ∀(l:List Oper) (o:Oper) (d:Nat),o∈l->o.dst=some d->d∈Jv l
 | [],_,_,h,_=>by cases h
 |p::r,o,d,h,hd=>by
  cases h with
  |head=>simp [Jv,hd]
  |tail _ h=>simp only [Jv,List.mem_append];exact .inr (Vj r o d h hd)
theorem om {ops:Array Oper} {i:Nat} {o:Oper} (h:ops[i]?=some o):o∈ops.toList:=by
 rw [Array.getElem?_eq_some_iff] at h
 obtain ⟨h1,h2⟩:=h
 rw [<-h2]
 simp
theorem Vf {T:Tab} {Γ:Env} {ops:Array Oper} : ∀(l:List Nat) (st st':St),Ii T Γ ops l st=some st'->Ep (λt=>t∉Jv ops.toList) st st'
 | [],st,st',h=>by injection h with h;subst h;exact Av.rfl'.on
 |i::r,st,st',h=>by
  simp only [Ii] at h
  split at h
  ·cases h
  ·rename_i o ho
   split at h
   ·rename_i s hs
    exact ((aL hs).mono λt ht hd=>ht (Vj _ _ _ (om ho) hd)).trans (Vf r _ _ h)
   ·cases h
theorem Tf {T:Tab} {Γ:Env} {ops:Array Oper} : ∀(l:List Nat) (st st':St),Dp T Γ ops l st=some st'->Ep (λt=>t∉Jv ops.toList) st st'
 | [],st,st',h=>by injection h with h;subst h;exact Av.rfl'.on
 |i::r,st,st',h=>by
  simp only [Dp] at h
  split at h
  ·cases h
  ·rename_i o ho
   split at h
   ·exact ((Uo _ _ _).mono λt ht hd=>ht (Vj _ _ _ (om ho) hd)).trans (Tf r _ _ h)
   ·cases h
theorem Zr: ∀(l:List Nat) (st:St),Av st (Wd l st)
 | [],_=>Av.rfl'
 |a::r,st=>(fj st a).trans (Zr r _)
theorem aC (live:List Nat): ∀(i:Nat) (l:List AV) (t:Nat),i+t∈live->(Fb live i l).getD t .undef=l.getD t .undef
 |_,[],_,_=>rfl
 |i,v::r,0,h=>by simp [Fb];intro hn;exact absurd h hn
 |i,v::r,t+1,h=>by
  simp only [Fb,List.getD_cons_succ]
  exact aC live (i+1) r t (by rw [show i+1+t=i+(t+1) by omega];exact h)
theorem pM (l k:Nat) (st:St):Av st (st.rename l k):=by
 unfold St.rename
 split
 ·split
  ·exact (Iv st (Mx l k) rfl λ_ _ _=>rfl).trans (Av.Qe rfl)
  ·exact Av.rfl'
 ·exact Av.rfl'
theorem Wo: ∀(n t:Nat) (st:St),Av st (Gx n t st)
 |0,_,_=>Av.rfl'
 |n+1,t,st=>by
  simp only [Gx]
  refine Av.trans ?_ (Wo n (t+1) _)
  split
  ·split
   ·split
    ·exact Av.rfl'
    ·exact pM _ _ _
   ·exact Av.rfl'
  ·exact Av.rfl'
theorem kX (t:Nat) (st:St):Av st (Tt t st):=by
 unfold Tt
 split
 ·rename_i l off len hg
  split
  ·split
   ·intro k fr τ x hk
    have Ev:k≠t:= λe=>by subst e;rw [hg] at hk;cases hk
    rw [Ti _ _ Ev]
    exact Hi _ _ _ k fr τ x hk
   ·exact Av.rfl'
  ·exact Av.rfl'
 ·exact Av.rfl'
theorem Zt (live:List Nat): ∀(n t:Nat) (st:St),Av st (Ip live n t st)
 |0,_,_=>Av.rfl'
 |n+1,t,st=>by
  simp only [Ip]
  refine Av.trans ?_ (Zt live n (t+1) _)
  split
  ·exact kX _ _
  ·exact Av.rfl'
theorem cU (live:List Nat) (st:St):Ep (λt=>t∈live) st (st.clean live):=by
 intro t fr τ x hp hx
 unfold St.clean
 have key: ∀s:St,s.get t= .at (.data fr τ x)->(if live.contains Us then Gx s.tmps.length 0 s else s).get t= .at (.data fr τ x):=by
  intro s hs
  split
  ·exact Wo _ _ s t fr τ x hs
  ·exact hs
 have CB: ∀s:St,s.get t= .at (.data fr τ x)->(if live.any (λt=>Nat.ble Qx t) then s.Ek live else s).get t= .at (.data fr τ x):=by
  intro s hs
  split<;>exact hs
 have CC: ∀s:St,s.get t= .at (.data fr τ x)->(if live.any (λt=>Nat.ble Kn t&&Nat.blt t Us) then Ip live s.tmps.length 0 s else s).get t= .at (.data fr τ x):=by
  intro s hs
  split
  ·exact Zt _ _ _ s t fr τ x hs
  ·exact hs
 refine CB _ (key _ (CC _ (Zr _ _ t fr τ x ?_)))
 simp only [St.get] at hx⊢
 rw [aC live 0 st.tmps t (by simpa using hp)]
 exact hx
def Tl (live:Nat->List Nat):Code->Nat->Bool
 | .seq a b,t=>Tl live a t&&Tl live b t
 | .cond _ a b,t=>Tl live a t&&Tl live b t
 | .block _ c,t=>Tl live c t
 | .loop c,t=>(live (Bw c)).contains t&&Tl live c t
 |_,_=>true
theorem gh {a b:Bool} (h:(a&&b)=true):a=true:=by cases a<;>simp_all
theorem dC {a b:Bool} (h:(a&&b)=true):b=true:=by cases a<;>simp_all
theorem gm {T:Tab} {Γ:Env} {ops:Array Oper} {draw:Bool} {st st':St} (h:Ki T Γ ops draw st=some st'):Ep (λt=>t∉writes (.region 0 ops draw)) st st':=by
 unfold Ki at h
 have go: ∀q,(match Dp T Γ ops (cb q Γ ops) st with
   |some s=>Ii T Γ ops (Er q Γ ops) s
   |none=>none)=some st'->Ep (λt=>t∉writes (.region 0 ops draw)) st st':=by
  intro q h
  split at h
  ·rename_i s hs
   exact (Tf _ _ _ hs).trans (Vf _ _ _ h)
  ·cases h
 split at h
 ·split at h
  ·exact go false h
  ·split at h
   ·exact go true h
   ·cases h
 ·exact cH _ _ _ h
theorem jZ {T:Tab} {Γ:Env} {ops:Array Oper} {draw:Bool} {K:St->Prop} (s0:St): ∀(f:Nat) (Aa:Array Bool) (st:St),Ep (λt=>t∉writes (.region 0 ops draw)) s0 st->anyS T Γ ops K f Aa st->anyS T Γ ops (λs=>K s/\Ep (λt=>t∉writes (.region 0 ops draw)) s0 s) f Aa st
 |0,_,_,hk,h=>⟨h.1,h.2,hk⟩
 |f+1,Aa,st,hk,h=>⟨h.1,λi hi=>by
  obtain ⟨o,st',h1,h2,h3⟩:=h.2 i hi
  have h4:Ii T Γ ops [i] st=some st':=by simp only [Ii,h1,h2]
  exact ⟨o,st',h1,h2,jZ s0 f _ _ (hk.trans (Vf _ _ _ h4)) h3⟩⟩
theorem oX.keeps {T:Tab} {Γ:Env} {ops:Array Oper} {draw:Bool} {st:St} {K:St->Prop} (h:oX T Γ ops draw st K):oX T Γ ops draw st (λs=>K s/\Ep (λt=>t∉writes (.region 0 ops draw)) st s):=by
 rcases h with ⟨st',h1,h2⟩|⟨h1,h2,a7,h3,h4⟩
 ·exact .inl ⟨st',h1,h2,gm h1⟩
 ·exact .inr ⟨h1,h2,a7,h3,jZ st _ _ _ (Tf _ _ _ h3) h4⟩
theorem wz {T:Tab} {Γ:Env} {live:Nat->List Nat} {c:Code} {st:St} {Q:Gc->St->Prop} (h:Ig T Γ live c st Q): ∀(s0:St) (p:Nat->Prop),Ep p s0 st->(∀t,p t->t∉writes c/\Tl live c t=true)->Ig T Γ live c st (λe s=>Q e s/\Ep p s0 s):=by
 induction h with
 |skip h=>exact λs0 p hk _=> .skip ⟨h,hk⟩
 |label h=>exact λs0 p hk _=> .label ⟨h,hk⟩
 |exit h=>exact λs0 p hk _=> .exit ⟨h,hk⟩
 |ret h=>exact λs0 p hk _=> .ret ⟨h,hk⟩
 |region h=>
  exact λs0 p hk hp=> .region (h.keeps.mono λs hs=>⟨hs.1,hk.trans (hs.2.mono λt ht=>(hp t ht).1)⟩)
 |seq Q1 _ _ h3 yC sB=>
  exact λs0 p hk hp=> .seq _ (yC s0 p hk λt ht=>⟨λhm=>(hp t ht).1 (by simp [writes,hm]),gh (hp t ht).2⟩)
   (λs hs=>sB s hs.1 s0 p hs.2 λt ht=>⟨λhm=>(hp t ht).1 (by simp [writes,hm]),dC (hp t ht).2⟩) λe s he hs=>⟨h3 e s he hs.1,hs.2⟩
 |cond hc _ _ yC sB=>
  exact λs0 p hk hp=> .cond hc (λht=>yC ht s0 p hk λt h=>⟨λhm=>(hp t h).1 (by simp [writes,hm]),gh (hp t h).2⟩)
   fun ht=>sB ht s0 p hk λt h=>⟨λhm=>(hp t h).1 (by simp [writes,hm]),dC (hp t h).2⟩
 |block Q1 _ h2 ih=>
  exact λs0 p hk hp=> .block _ (ih s0 p hk λt ht=>⟨λhm=>(hp t ht).1 (by simpa [writes] using hm),by simpa [Tl] using (hp t ht).2⟩) λe s hs=>by
   have h:=h2 e s hs.1
   cases e with
   |normal=>exact ⟨h,hs.2⟩
   |ret=>exact ⟨h,hs.2⟩
   |exit yB=>
    simp only [o3] at h⊢
    split at h
    ·rename_i hi;rw [if_pos hi];exact ⟨h,hs.2⟩
    ·rename_i hi;rw [if_neg hi];exact ⟨h,hs.2⟩
 |loop Q1 _ _ h3 yC sB=>
  intro s0 p hk hp
  refine .loop _ (yC s0 p (hk.trans ((cU _ _).mono λt ht=>by simpa using gh (hp t ht).2)) λt ht=>⟨λhm=>(hp t ht).1 (by simpa [writes] using hm),dC (hp t ht).2⟩)
   (λs hs=>sB s hs.1 s0 p hs.2 hp) λe s he hs=>⟨h3 e s he hs.1,hs.2⟩
end Go.Proofs.Ytjbdmibbbpdnnaa
