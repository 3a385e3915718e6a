/-
  Part 29 of the proof that the statement FnTwoPhase holds.
-/
import Derived.Test.YtkkdpknjohcekaaCFTwoPhase27
namespace Go.Proofs.Ytkkdpknjohcekaa
open Go.RowKit
def Cr (st st':St):Prop:= ∀(t:Nat) (fr:Bool) (τ:Ty) (x:τ.den),st.get t= .at (.data fr τ x)->st'.get t= .at (.data fr τ x)
theorem Cr.rfl' {st:St} :Cr st st:= λ_ _ _ _ h=>h
theorem Cr.trans {a b c:St} (h1:Cr a b) (h2:Cr b c):Cr a c:= λt fr τ x h=>h2 t fr τ x (h1 t fr τ x h)
theorem Cr.Zs {a b:St} (h:b.tmps=a.tmps):Cr a b:= λt fr τ x hx=>by
 simp only [St.get] at hx⊢
 rw [h]
 exact hx
theorem bS (st:St) {t d:Nat} (v:AV) (h:t≠d):(st.put (some d) v).get t=st.get t:=by
 simp only [St.put,St.get]
 rw [Qy]
 rw [Ai (by rintro ⟨rfl,_⟩;exact h rfl)]
theorem Pu (st:St) (f:AC->AC) (hu:f .undef= .undef) (hd: ∀fr (τ:Ty) (x:τ.den),f (.data fr τ x)= .data fr τ x):Cr st (st.Ln f):=by
 intro t fr τ x h
 simp only [St.Ln,St.get]
 rw [Vm f hu,show st.tmps.getD t .undef=_ from h]
 simp only [AV.map,hd]
theorem nX (st:St) (l:Nat):Cr st (st.forget l):=
 (Pu st (Cv l) rfl λ_ _ _=>rfl).trans (Cr.Zs rfl)
theorem aZ (st:St) (l:Nat) (fr:Bool) (e:Ty) (xs:List e.den):Cr st (st.freeze l fr e xs):=
 (Pu st (De l fr e xs) rfl λ_ _ _=>rfl).trans (Cr.Zs rfl)
theorem gK (st:St) (l:Nat) (v:Ty) (m:ByteArray->Option v.den):Cr st (st.Jb l v m):=
 (Pu st (Hi l v m) rfl λ_ _ _=>rfl).trans (Cr.Zs rfl)
theorem Lu (st:St) (l:Nat) (b:OB):Cr st (st.new l b):=(nX st l).trans (Cr.Zs rfl)
theorem Mw (st:St) (l:Nat) (b:OB):Cr st (st.Kl l b):=Cr.Zs rfl
theorem eA (b:OB) (key l i:Nat) (st:St):Cr st (Ve b key l i st):=by
 unfold Ve
 split
 ·split
  ·dsimp only
   split
   ·exact (Lu _ _ _).trans (Mw _ _ _)
   ·exact Lu _ _ _
  ·exact Cr.rfl'
 ·exact Cr.rfl'
theorem lx (T:Tab) (l:Nat) (t:TypeId) (τ:Ty): ∀(n i:Nat) (st:St),Cr st (fO T l t τ n i st)
 |0,_,_=>Cr.rfl'
 |n+1,i,st=>by
  simp only [fO]
  refine Cr.trans ?_ (lx T l t τ n (i+1) _)
  split
  ·exact eA _ _ _ _ _
  ·exact Cr.rfl'
theorem j7 (T:Tab) (l off:Nat) (t:TypeId) (τ:Ty): ∀(n i:Nat) (st:St),Cr st (eE T l off t τ n i st)
 |0,_,_=>Cr.rfl'
 |n+1,i,st=>by
  simp only [eE]
  refine Cr.trans ?_ (j7 T l off t τ n (i+1) _)
  split
  ·exact eA _ _ _ _ _
  ·exact Cr.rfl'
theorem Ri: ∀(n:Nat) (st:St) (cs iL:List AC) (st':St),Hv n st cs=some (iL,st')->Cr st st'
 |0,st,cs,iL,st',h=>by
  simp only [Hv] at h
  split at h
  ·injection h with h;injection h with h1 h2;subst h2;exact Cr.rfl'
  ·cases h
 |n+1,st,cs,iL,st',h=>by
  simp only [Hv] at h
  split at h
  ·injection h with h;injection h with h1 h2;subst h2;exact Cr.rfl'
  ·split at h
   ·exact (aZ _ _ _ _ _).trans (Ri n _ _ _ _ h)
   ·exact (aZ _ _ _ _ _).trans (Ri n _ _ _ _ h)
   ·cases h
  ·split at h
   ·exact (gK _ _ _ _).trans (Ri n _ _ _ _ h)
   ·cases h
  ·cases h
theorem Sv {st st':St} {v v':AV} (h:settle st v=some (v',st')):Cr st st':=by
 unfold settle at h
 split at h
 ·split at h
  ·injection h with h;injection h with h1 h2;subst h2;exact aZ _ _ _ _ _
  ·injection h with h;injection h with h1 h2;subst h2;exact aZ _ _ _ _ _
  ·cases h
 ·split at h
  ·injection h with h;injection h with h1 h2;subst h2;exact gK _ _ _ _
  ·cases h
 ·split at h
  ·injection h with h;injection h with h1 h2;subst h2;exact Cr.rfl'
  ·cases h
 ·rename_i cs
  cases hs:Hv cs.length st cs with
  |none=>rw [hs] at h;cases h
  |some p=>rw [hs] at h;injection h with h;injection h with h1 h2;subst h2;exact Ri _ _ _ _ _ hs
 ·injection h with h;injection h with h1 h2;subst h2;exact Cr.rfl'
 ·cases h
theorem zA {st st':St} {l:Nat} {t:TypeId} {cs:List AC} {v:AV} (h:u7 st l t cs=some (v,st')):Cr st st':=by
 unfold u7 at h
 split at h
 ·cases h
 ·injection h with h;injection h with h1 h2;subst h2;exact Lu _ _ _
theorem qC {T:Tab} {st st':St} {l:Nat} {t:TypeId} {τ:Ty} {cs:List AC} {v:AV} (h:mkVar T st l t τ cs=some (v,st')):Cr st st':=by
 unfold mkVar at h
 split at h
 ·cases h
 dsimp only at h
 split at h
 ·injection h with h;injection h with h1 h2;subst h2;exact (Lu _ _ _).trans (lx _ _ _ _ _ _ _)
 ·cases h
theorem FR {T:Tab} {st st':St} {t:TypeId} {p v:AV} (h:Vl T st t p v=some st'):Cr st st':=by
 unfold Vl at h
 split at h
 ·split at h
  ·split at h
   ·injection h with h
    split at h
    ·subst h;exact (Mw _ _ _).trans (j7 _ _ _ _ _ _ _ _)
    ·subst h;exact Mw _ _ _
   ·cases h
  ·cases h
 ·split at h
  ·rename_i hs
   split at h
   ·split at h
    ·split at h
     ·injection h with h;subst h;exact (Sv hs).trans (Mw _ _ _)
     ·cases h
    ·cases h
   ·cases h
  ·cases h
 ·cases h
theorem tK (st:St) (l j m:Nat) (e:Ty) (te:TypeId) (rows:List (List e.den)) (xs:List e.den) (kp:Option (Nat×Nat)):Cr st (Ub st l j m e te rows xs kp):=
 ((Pu st (Cx [m] [l]) (by simp [Cx,AC.refs]) λfr τ x=>by simp [Cx,AC.refs]).trans (Cr.Zs rfl)).trans (Mw (st.cJ [m] [l]) _ _)
theorem tM (st:St) (l i m:Nat) (e:Ty) (te tid:TypeId) (rows:List (List e.den)) (kp:Option (Nat×Nat)):Cr st (Qh st l i m e te tid rows kp):=
 (Mw st l _).trans (Lu _ m _)
theorem zC {T:Tab} {st st':St} {t:TypeId} {p v:AV} (h:Py T st t p v=some st'):Cr st st':=by
 unfold Py at h
 split at h
 rotate_left
 ·exact FR h
 unfold bQ at h
 split at h
 ·split at h
  ·rename_i hs
   split at h
   ·split at h
    ·injection h with h;subst h;exact (Sv hs).trans (Mw _ _ _)
    ·cases h
   ·cases h
  ·cases h
 ·split at h
  ·split at h
   ·split at h
    ·injection h with h;subst h
     exact tK _ _ _ _ _ _ _ _ _
    ·cases h
   ·cases h
  ·cases h
 ·cases h
theorem fy {T:Tab} {st st':St} {d:Nat} {t:TypeId} {x y:Operand} {v:AV} (h:On T st d t x y=some (v,st')):Cr st st':=by
 unfold On at h
 split at h
 ·cases h
 ·split at h
  ·rename_i hs
   split at h
   ·cases h
   ·split at h
    ·split at h
     ·injection h with h;injection h with h1 h2;subst h2;exact ((Sv hs).trans (Lu _ _ _)).trans (Lu _ _ _)
     ·cases h
    ·split at h
     ·split at h
      ·split at h
       ·injection h with h;injection h with h1 h2;subst h2;exact (Sv hs).trans (Lu _ _ _)
       ·cases h
      ·cases h
     ·cases h
    ·cases h
  ·cases h
theorem w5 {T:Tab} {st st':St} {d:Nat} {t:TypeId} {x y:Operand} {v:AV} (h:Rx T st d t x y=some (v,st')):Cr st st':=by
 unfold Rx at h
 split at h
 ·rename_i tx
  split at h
  ·rename_i l i c hg
   split at h
   ·split at h
    ·rename_i e te rows kp tid hl ht hc
     refine Cr.trans (b:=(Qh st l i d e te tid rows kp).put (some tx) (.at (.own d 0 (rows.getD i []).length))) ?_ (fy h)
     intro t' fr τ z hz
     by_cases e':t'=tx
     ·subst e';rw [hg] at hz;cases hz
     ·rw [bS _ _ e'];exact tM st l i d e te tid rows kp t' fr τ z hz
    ·cases h
   ·cases h
  ·exact fy h
 ·exact fy h
theorem MI {T:Tab} {st st':St} {d:Nat} {t:TypeId} {l c v:AV} (h:bO T st d t l c=some (v,st')):Cr st st':=by
 unfold bO at h
 split at h
 ·split at h
  ·split at h
   ·injection h with h;injection h with h1 h2;subst h2;exact Lu _ _ _
   ·cases h
  ·cases h
 ·cases h
theorem qD (e:Ty): ∀(l:List (Nat×Operand)) (i:Nat) (st st':St) (fr tr:Bool) (ys:List e.den),Lx e i l st=some (fr,tr,ys,st')->Cr st st'
 | [],_,_,_,_,_,_,h=>by
  simp only [Lx] at h
  injection h with h;injection h with h1 h2;injection h2 with h2 h3;injection h3 with h3 h4;subst h4;exact Cr.rfl'
 |(j,x)::r,i,st,st',fr,tr,ys,h=>by
  simp only [Lx] at h
  split at h
  ·split at h
   ·rename_i hs
    split at h
    ·split at h
     ·rename_i hp
      injection h with h;injection h with h1 h2;injection h2 with h2 h3;injection h3 with h3 h4;subst h4
      exact (Sv hs).trans (qD e r _ _ _ _ _ _ hp)
     ·cases h
    ·cases h
   ·cases h
  ·cases h
theorem pk {T:Tab} {st st':St} {d:Nat} {t:TypeId} {n:Nat} {parts:Array (Nat×Operand)} {v:AV} (h:Mu T st d t n parts=some (v,st')):Cr st st':=by
 unfold Mu at h
 split at h
 ·cases h
 ·split at h
  ·cases h
  ·split at h
   ·split at h
    ·rename_i hp
     injection h with h;injection h with h1 h2;subst h2;exact (qD _ _ _ _ _ _ _ _ hp).trans (Lu _ _ _)
    ·cases h
   ·cases h
theorem w7 {T:Tab} {st st':St} {d:Nat} {t:TypeId} {v:AV} (h:Vk T st d t=some (v,st')):Cr st st':=by
 unfold Vk at h
 split at h
 ·split at h
  ·injection h with h;injection h with h1 h2;subst h2;exact Lu _ _ _
  ·cases h
 ·cases h
theorem nY {T:Tab} {st st':St} {t:TypeId} {m k x:AV} (h:Jo T st t m k x=some st'):Cr st st':=by
 unfold Jo at h
 split at h
 ·split at h
  ·split at h
   ·injection h with h;subst h;exact Mw _ _ _
   ·cases h
  ·cases h
 ·cases h
theorem MH {T:Tab} {st st':St} {t t':TypeId} {x y v:AV} (h:iO T st t t' x y=some (v,st')):Cr st st':=by
 unfold iO at h
 split at h
 ·split at h
  ·split at h
   ·split at h
    ·injection h with h;injection h with h1 h2;subst h2;exact Mw _ _ _
    ·cases h
   ·cases h
  ·cases h
 ·cases h
theorem FP {T:Tab} {st st':St} {t:TypeId} {x:AV} (h:evalClear T st t x=some st'):Cr st st':=by
 unfold evalClear at h
 split at h
 ·split at h
  ·split at h
   ·split at h
    ·injection h with h;subst h;exact Mw _ _ _
    ·cases h
   ·cases h
  ·cases h
 ·cases h
theorem ya {st st':St} {c:CK} {ys:c.den} {a:AC} (h:cA st c ys a=some st'):st'.tmps=st.tmps:=by
 unfold cA at h
 repeat' split at h
 all_goals first|(cases h;done)|(simp only [Aa] at h;subst h;rfl)|skip
theorem VK {st st':St} {e:Ty} {ys:List e.den} {a:AC} (h:NR st e ys a=some st'):st'.tmps=st.tmps:=by
 unfold NR at h
 repeat' split at h
 all_goals first|(cases h;done)|(simp only [Aa] at h;subst h;rfl)|skip
theorem Vf: ∀(cs:List (Bool×CK)) (o:IOs.den cs) (as:List AC) (st st':St),Ik cs o as st=some st'->st'.tmps=st.tmps
 | [],_,_,st,st',h=>by simp only [Ik,Aa] at h;subst h;rfl
 |(true, .Gw _)::r,o,[],st,st',h=>by simp [Ik] at h
 |(true, .row _ _)::r,o,[],st,st',h=>by simp [Ik] at h
 |(true, .Ie _ _)::r,o,[],st,st',h=>by simp [Ik] at h
 |(true, .part _ _)::r,o,[],st,st',h=>by simp [Ik] at h
 |(true, .Bu _ _ _)::r,o,[],st,st',h=>by simp [Ik] at h
 |(true, .Bu _ _ _)::r,o,a::as,st,st',h=>Vf r o as st st' (by simpa only [Ik] using h)
 |(false,_)::r,o,[],st,st',h=>by simp [Ik] at h
 |(true, .Gw _)::r,o,a::as,st,st',h=>Vf r o as st st' (by simpa only [Ik] using h)
 |(false,_)::r,o,a::as,st,st',h=>Vf r o as st st' (by simpa only [Ik] using h)
 |(true, .row _ _)::r,o,a::as,st,st',h=>by
  simp only [Ik] at h
  split at h
  ·rename_i hc;exact (Vf r o.2 as _ st' h).trans (ya hc)
  ·cases h
 |(true, .part _ _)::r,o,a::as,st,st',h=>by
  simp only [Ik] at h
  split at h
  ·rename_i hc;exact (Vf r o.2 as _ st' h).trans (VK hc)
  ·cases h
 |(true, .Ie _ _)::r,o,a::as,st,st',h=>by
  simp only [Ik] at h
  split at h
  ·rename_i hc;exact (Vf r o.2 as _ st' h).trans (ya hc)
  ·cases h
theorem zz (cw st:St) (ls:List Nat) (n:Nat) (hl:cw.tmps.length=st.tmps.length) (h:Cr cw st):Cr cw (mq cw st ls n):=by
 unfold mq
 split
 ·exact h
 ·intro t fr τ x hx
  show (Mg _ cw.tmps st.tmps).getD t .undef=_
  rcases gl ls cw.tmps st.tmps t hl with ⟨k,i,c,h1,_⟩|h1
  ·rw [show cw.tmps.getD t .undef=_ from hx] at h1;cases h1
  ·rw [h1];exact h t fr τ x hx
theorem FO {st st':St} {d:Option Nat} {s:MSpec} {args:List AV} {v:AV} (h:Yf st d s args=some (v,st')):Cr st st':=by
 unfold Yf at h
 split at h
 ·cases h
 split at h
 ·cases h
 split at h
 ·cases h
 split at h
 ·split at h
  ·cases h
  split at h
  ·cases h
  rename_i st1 hp
  split at h
  ·cases h
  split at h
  ·simp only [Aa,Ag] at h
   obtain ⟨_,rfl⟩:=h
   have hpt:=Vf _ _ _ _ _ hp
   refine zz _ _ _ _ ?_ ?_
   ·simp only [lX,pS]
    rw [<-hpt]
    simp only [St.cJ,St.Ln,Ck]
   ·refine Cr.trans (Cr.Zs hpt) ?_
    refine Cr.trans (Pu st1 (Cx _ _) (by simp [Cx,AC.refs]) λfr τ x=>by simp [Cx,AC.refs]) (Cr.Zs pS)
  ·cases h
 ·cases h
theorem dz (st:St) (k m:Nat) (b:OB):Cr st (Rg st k m b):=
 (Pu st (Cx [m,k] []) (by simp [Cx,AC.refs]) λfr τ x=>by simp [Cx,AC.refs]).trans (Cr.Zs rfl)
theorem FQ {T:Tab} {st st':St} {d:Nat} {t:TypeId} {l c v:AV} (h:Yh T st d t l c=some (v,st')):Cr st st':=by
 unfold Yh at h
 split at h
 ·exact MI h
 ·split at h
  ·split at h
   ·injection h with h;injection h with h1 h2;subst h2;exact dz _ _ _ _
   ·cases h
  ·cases h
theorem nW {T:Tab} {st st':St} {d:Nat} {t:TypeId} {n:Nat} {parts:Array (Nat×Operand)} {v:AV} (h:Jl T st d t n parts=some (v,st')):Cr st st':=by
 unfold Jl at h
 split at h
 ·exact pk h
 ·repeat' split at h
  all_goals first|(cases h;done)|(injection h with h;injection h with h1 h2;subst h2;exact dz _ _ _ _)
theorem w6 {T:Tab} {st st':St} {d:Nat} {t:TypeId} {x y:Operand} {v:AV} (h:Ry T st d t x y=some (v,st')):Cr st st':=by
 unfold Ry at h
 split at h
 ·exact w5 h
 ·repeat' split at h
  all_goals first|(cases h;done)|(injection h with h;injection h with h1 h2;subst h2;exact dz _ _ _ _)
theorem ez {st st':St} {v:AV} {o:Option AV} (h:o.map (λv=>(v,st))=some (v,st')):Cr st st':=by
 cases o with
 |none=>cases h
 |some u=>injection h with h;injection h with h1 h2;subst h2;exact Cr.rfl'
theorem Ur: ∀(l:List Operand) {st st1:St},Nu l st=some st1->Cr st st1
 | [],st,st1,h=>by
  simp only [Nu,Aa] at h
  subst h
  exact Cr.rfl'
 |x::r,st,st1,h=>by
  simp only [Nu] at h
  cases hs:settle st (st.ev x) with
  |none=>rw [hs] at h;cases h
  |some p=>
   rw [hs] at h
   exact (Sv (v':=p.1) (st':=p.2) hs).trans (Ur r h)
theorem w8 {T:Tab} {st:St} (p x:Operand):Cr st (Pe T st p x):=by
 unfold Pe
 split
 ·split
  ·split
   ·rename_i hs;exact Ur _ hs
   ·exact Cr.rfl'
  ·exact Cr.rfl'
 ·exact Cr.rfl'
theorem nG {T:Tab} {Γ:Env} {st st':St} {o:Oper} {v:AV} (h:evalOp T Γ st o=some (v,st')):Cr st st':=by
 unfold evalOp at h
 split at h
 ·split at h
  ·split at h
   ·injection h with h;injection h with h1 h2;subst h2;exact Lu _ _ _
   ·cases h
  ·injection h with h;injection h with h1 h2;subst h2;exact Cr.rfl'
 ·split at h
  ·split at h
   ·exact zA h
   ·exact qC h
  ·cases h
 ·split at h
  ·split at h
   ·split at h
    ·split at h
     ·obtain ⟨p,_,hp⟩:=Option.map_eq_some_iff.1 h
      cases hp
      exact Cr.rfl'
     ·cases h
    ·exact qC h
   ·cases h
  ·cases h
 ·rename_i t p x _
  cases hs:Py T (Pe T st p x) t ((Pe T st p x).ev p) ((Pe T st p x).ev x) with
  |none=>rw [hs] at h;cases h
  |some s=>rw [hs] at h;injection h with h;injection h with h1 h2;subst h2;exact (w8 p x).trans (zC hs)
 ·split at h
  ·exact FQ h
  ·cases h
 ·split at h
  ·exact w7 h
  ·cases h
 ·rename_i t m k x _
  cases hs:Jo T st t (st.ev m) (st.ev k) (st.ev x) with
  |none=>rw [hs] at h;cases h
  |some s=>rw [hs] at h;injection h with h;injection h with h1 h2;subst h2;exact nY hs
 ·rename_i t m k x _
  cases hs:Jo T st t (st.ev m) (st.ev k) (st.ev x) with
  |none=>rw [hs] at h;cases h
  |some s=>rw [hs] at h;injection h with h;injection h with h1 h2;subst h2;exact nY hs
 ·split at h
  ·exact nW h
  ·cases h
 ·exact ez h
 ·split at h
  ·split at h
   ·exact w6 h
   ·cases h
  ·cases h
 ·split at h
  ·exact MH h
  ·cases h
 ·split at h
  ·rename_i x t _ _
   cases hs:evalClear T st t (st.ev x) with
   |none=>rw [hs] at h;cases h
   |some s=>rw [hs] at h;injection h with h;injection h with h1 h2;subst h2;exact FP hs
  ·cases h
 ·split at h
  ·exact FO h
  ·split at h
   ·rename_i args _ _ _ _ _ _
    cases hs:Nu args.toList st with
    |none=>rw [hs] at h;cases h
    |some st1=>
     rw [hs] at h
     exact (Ur _ hs).trans (ez h)
   ·exact ez h
  ·exact ez h
 ·exact ez h
def Ld:List Oper->List Nat
 | []=> []
 |o::r=>(match o.dst with|some d=> [d]|none=> [])++Ld r
def writes:Code->List Nat
 | .region _ ops _=>Ld ops.toList
 | .seq a b=>writes a++writes b
 | .cond _ a b=>writes a++writes b
 | .block _ c=>writes c
 | .loop c=>writes c
 |_=> []
def Gd (P:Nat->Prop) (st st':St):Prop:= ∀(t:Nat) (fr:Bool) (τ:Ty) (x:τ.den),P t->st.get t= .at (.data fr τ x)->st'.get t= .at (.data fr τ x)
theorem Gd.trans {P:Nat->Prop} {a b c:St} (h1:Gd P a b) (h2:Gd P b c):Gd P a c:= λt fr τ x hp h=>h2 t fr τ x hp (h1 t fr τ x hp h)
theorem Gd.mono {P Q:Nat->Prop} {a b:St} (h1:Gd P a b) (h: ∀t,Q t->P t):Gd Q a b:= λt fr τ x hp hx=>h1 t fr τ x (h t hp) hx
theorem Cr.on {P:Nat->Prop} {a b:St} (h:Cr a b):Gd P a b:= λt fr τ x _ hx=>h t fr τ x hx
theorem cN (st:St) (dst:Option Tmp) (v:AV):Gd (λt=>dst≠some t) st (st.put dst v):=by
 intro t fr τ x hp hx
 cases dst with
 |none=>exact hx
 |some d=>rw [bS st v (λh=>hp (by rw [h]))];exact hx
theorem bP {T:Tab} {Γ:Env} {ops:Array Oper} {st st':St} {o:Oper} (h:Fm T Γ ops st o=some st'):Gd (λt=>o.dst≠some t) st st':=by
 have key: ∀s,(evalOp T Γ st o).map (λr=>r.2.put o.dst r.1)=some s->Gd (λt=>o.dst≠some t) st s:=by
  intro s hs
  cases he:evalOp T Γ st o with
  |none=>rw [he] at hs;cases hs
  |some p=>rw [he] at hs;injection hs with hs;subst hs;exact (nG (v:=p.1) (st':=p.2) he).on.trans (cN _ _ _)
 unfold Fm at h
 split at h
 ·exact key _ h
 ·split at h
  ·split at h
   ·exact key _ h
   ·injection h with h;subst h;exact cN _ _ _
  ·injection h with h;subst h;exact cN _ _ _
  ·cases h
theorem l9 {T:Tab} {Γ:Env} {ops:Array Oper} : ∀(l:List Oper) (st st':St),aU T Γ ops l st=some st'->Gd (λt=>t∉Ld l) st st'
 | [],st,st',h=>by injection h with h;subst h;exact Cr.rfl'.on
 |o::r,st,st',h=>by
  simp only [aU] at h
  split at h
  ·rename_i s hs
   refine Gd.trans ((bP hs).mono λt ht=>?_) ((l9 r _ _ h).mono λt ht=>?_)
   ·intro hd;apply ht;simp [Ld,hd]
   ·intro hd;apply ht;simp [Ld,hd]
  ·cases h
theorem Zr: ∀(l:List Oper) (o:Oper) (d:Nat),o∈l->o.dst=some d->d∈Ld l
 | [],_,_,h,_=>by cases h
 |p::r,o,d,h,hd=>by
  cases h with
  |head=>simp [Ld,hd]
  |tail _ h=>simp only [Ld,Az];exact .inr (Zr r o d h hd)
theorem pC {ops:Array Oper} {i:Nat} {o:Oper} (h:ops[i]?=some o):o∈ops.toList:=by
 rw [Np] at h
 obtain ⟨h1,h2⟩:=h
 rw [<-h2]
 simp
theorem Zm {T:Tab} {Γ:Env} {ops:Array Oper} : ∀(l:List Nat) (st st':St),Ni T Γ ops l st=some st'->Gd (λt=>t∉Ld ops.toList) st st'
 | [],st,st',h=>by injection h with h;subst h;exact Cr.rfl'.on
 |i::r,st,st',h=>by
  simp only [Ni] at h
  split at h
  ·cases h
  ·rename_i o ho
   split at h
   ·rename_i s hs
    exact ((bP hs).mono λt ht hd=>ht (Zr _ _ _ (pC ho) hd)).trans (Zm r _ _ h)
   ·cases h
theorem Rz {T:Tab} {Γ:Env} {ops:Array Oper} : ∀(l:List Nat) (st st':St),Gl T Γ ops l st=some st'->Gd (λt=>t∉Ld ops.toList) st st'
 | [],st,st',h=>by injection h with h;subst h;exact Cr.rfl'.on
 |i::r,st,st',h=>by
  simp only [Gl] at h
  split at h
  ·cases h
  ·rename_i o ho
   split at h
   ·exact ((cN _ _ _).mono λt ht hd=>ht (Zr _ _ _ (pC ho) hd)).trans (Rz r _ _ h)
   ·cases h
theorem Uq: ∀(l:List Nat) (st:St),Cr st (bp l st)
 | [],_=>Cr.rfl'
 |a::r,st=>(nX st a).trans (Uq r _)
theorem Wi (live:List Nat): ∀(i:Nat) (l:List AV) (t:Nat),i+t∈live->(It live i l).getD t .undef=l.getD t .undef
 |_,[],_,_=>rfl
 |i,v::r,0,h=>by simp [It];intro hn;exact absurd h hn
 |i,v::r,t+1,h=>by
  simp only [It,Nv]
  exact Wi live (i+1) r t (by rw [show i+1+t=i+(t+1) by omega];exact h)
theorem zB (l k:Nat) (st:St):Cr st (st.rename l k):=by
 unfold St.rename
 split
 ·split
  ·exact (Pu st (Vt l k) rfl λ_ _ _=>rfl).trans (Cr.Zs rfl)
  ·exact Cr.rfl'
 ·exact Cr.rfl'
theorem eB: ∀(n t:Nat) (st:St),Cr st (Na n t st)
 |0,_,_=>Cr.rfl'
 |n+1,t,st=>by
  simp only [Na]
  refine Cr.trans ?_ (eB n (t+1) _)
  split
  ·split
   ·split
    ·exact Cr.rfl'
    ·exact zB _ _ _
   ·exact Cr.rfl'
  ·exact Cr.rfl'
theorem tN (t:Nat) (st:St):Cr st (cd t st):=by
 unfold cd
 split
 ·rename_i l off len hg
  split
  ·split
   ·intro k fr τ x hk
    have Ip:k≠t:= λe=>by subst e;rw [hg] at hk;cases hk
    rw [bS _ _ Ip]
    exact Lu _ _ _ k fr τ x hk
   ·exact Cr.rfl'
  ·exact Cr.rfl'
 ·exact Cr.rfl'
theorem mr (c:Nat) (st:St):Cr st (Qc c st):=by
 unfold Qc
 split
 ·split
  ·split
   ·split
    ·split
     ·exact (Lu _ _ _).trans (Mw _ _ _)
     ·exact Cr.rfl'
    ·exact Cr.rfl'
   ·exact Cr.rfl'
  ·exact Cr.rfl'
 ·exact Cr.rfl'
theorem cO (live:List Nat): ∀(n c:Nat) (st:St),Cr st (Pw live n c st)
 |0,_,_=>Cr.rfl'
 |n+1,c,st=>by
  simp only [Pw]
  refine Cr.trans ?_ (cO live n (c+1) _)
  split
  ·exact mr _ _
  ·exact Cr.rfl'
theorem gL (live:List Nat): ∀(n t:Nat) (st:St),Cr st (Pn live n t st)
 |0,_,st=>cO live 16 0 st
 |n+1,t,st=>by
  simp only [Pn]
  refine Cr.trans ?_ (gL live n (t+1) _)
  split
  ·exact tN _ _
  ·exact Cr.rfl'
theorem lu (live:List Nat) (st:St):Gd (λt=>t∈live) st (st.clean live):=by
 intro t fr τ x hp hx
 unfold St.clean
 have key: ∀s:St,s.get t= .at (.data fr τ x)->(if live.contains cZ then Na s.tmps.length 0 s else s).get t= .at (.data fr τ x):=by
  intro s hs
  split
  ·exact eB _ _ s t fr τ x hs
  ·exact hs
 have Aai: ∀s:St,s.get t= .at (.data fr τ x)->(if live.any (λt=>Nat.ble Um t) then s.Jh live else s).get t= .at (.data fr τ x):=by
  intro s hs
  split<;>exact hs
 have Aaj: ∀s:St,s.get t= .at (.data fr τ x)->(if live.any (λt=>Nat.ble Mz t&&Nat.blt t cZ) then Pn live s.tmps.length 0 s else s).get t= .at (.data fr τ x):=by
  intro s hs
  split
  ·exact gL _ _ _ s t fr τ x hs
  ·exact hs
 refine Aai _ (key _ (Aaj _ (Uq _ _ t fr τ x ?_)))
 simp only [St.get] at hx⊢
 rw [Wi live 0 st.tmps t (by simpa using hp)]
 exact hx
def bZ (live:Nat->List Nat):Code->Nat->Bool
 | .seq a b,t=>bZ live a t&&bZ live b t
 | .cond _ a b,t=>bZ live a t&&bZ live b t
 | .block _ c,t=>bZ live c t
 | .loop c,t=>(live (Fo c)).contains t&&bZ live c t
 |_,_=>true
theorem oU {a b:Bool} (h:(a&&b)=true):a=true:=by cases a<;>simp_all
theorem lY {a b:Bool} (h:(a&&b)=true):b=true:=by cases a<;>simp_all
theorem p6 {T:Tab} {Γ:Env} {ops:Array Oper} {draw:Bool} {st st':St} (h:Sa T Γ ops draw st=some st'):Gd (λt=>t∉writes (.region 0 ops draw)) st st':=by
 unfold Sa at h
 have go: ∀q,(match Gl T Γ ops (kh q Γ ops) st with
   |some s=>Ni T Γ ops (Jx q Γ ops) s
   |none=>none)=some st'->Gd (λt=>t∉writes (.region 0 ops draw)) st st':=by
  intro q h
  split at h
  ·rename_i s hs
   exact (Rz _ _ _ hs).trans (Zm _ _ _ h)
  ·cases h
 split at h
 ·split at h
  ·exact go false h
  ·split at h
   ·exact go true h
   ·cases h
 ·exact l9 _ _ _ h
theorem sB {T:Tab} {Γ:Env} {ops:Array Oper} {draw:Bool} {K:St->Prop} (s0:St): ∀(f:Nat) (Ah:Array Bool) (st:St),Gd (λt=>t∉writes (.region 0 ops draw)) s0 st->anyS T Γ ops K f Ah st->anyS T Γ ops (λs=>K s/\Gd (λt=>t∉writes (.region 0 ops draw)) s0 s) f Ah st
 |0,_,_,hk,h=>⟨h.1,h.2,hk⟩
 |f+1,Ah,st,hk,h=>⟨h.1,λi hi=>by
  obtain ⟨o,st',h1,h2,h3⟩:=h.2 i hi
  have h4:Ni T Γ ops [i] st=some st':=by simp only [Ni,h1,h2]
  exact ⟨o,st',h1,h2,sB s0 f _ _ (hk.trans (Zm _ _ _ h4)) h3⟩⟩
theorem lZ {T:Tab} {Γ:Env} {ops:Array Oper} {draw:Bool} {E:List Nat} {K:St->Prop} (s0:St): ∀(f:Nat) (Ah:Array Bool) (st:St),Gd (λt=>t∉writes (.region 0 ops draw)) s0 st->ru T Γ ops E K f Ah st->ru T Γ ops E (λs=>K s/\Gd (λt=>t∉writes (.region 0 ops draw)) s0 s) f Ah st
 |0,_,_,hk,h=>⟨h.1,h.2.1,h.2.2,hk⟩
 |f+1,Ah,st,hk,h=>⟨h.1,h.2.1,λi hi=>by
  obtain ⟨o,st',h1,h2,h3⟩:=h.2.2 i hi
  have h4:Ni T Γ ops [i] st=some st':=by simp only [Ni,h1,h2]
  exact ⟨o,st',h1,h2,lZ s0 f _ _ (hk.trans (Zm _ _ _ h4)) h3⟩⟩
theorem j8 {ops:Array Oper} {dead:List Nat} (hd:dead.all (Ze ops)=true) (st:St):Gd (λt=>t∉Ld ops.toList) st (st.Qn dead):=by
 intro t fr τ x ht hx
 unfold St.Qn
 refine Uq _ _ t fr τ x ?_
 show (It _ 0 st.tmps).getD t .undef=_
 rw [Wi _ 0 st.tmps t ?_]
 ·exact hx
 ·refine Cl.2 ⟨Fb.2 ?_,?_⟩
  ·refine Bs λhn=>?_
   have:st.get t= .undef:=by
    unfold St.get
    rw [Al,Ds (by omega)];rfl
   rw [hx] at this
   cases this
  ·cases hc:dead.contains (0+t) with
   |false=>rfl
   |true=>
    have hm:0+t∈dead:=by simpa using hc
    have h1:=Bg.1 hd _ hm
    obtain ⟨o,ho,h2⟩:=Eo.1 h1
    rw [Bk] at h2
    exact absurd (Zr _ o t ho (by simpa using h2)) ht
theorem kV.keeps {T:Tab} {Γ:Env} {ops:Array Oper} {draw:Bool} {st:St} {K:St->Prop} (h:kV T Γ ops draw st K):kV T Γ ops draw st (λs=>K s/\Gd (λt=>t∉writes (.region 0 ops draw)) st s):=by
 rcases h with ⟨st',h1,h2⟩|⟨h1,h2,cw,h3,h4|⟨E,st1,h4,h5,h6,h7⟩⟩
 ·exact .inl ⟨st',h1,h2,p6 h1⟩
 ·exact .inr ⟨h1,h2,cw,h3, .inl (sB st _ _ _ (Rz _ _ _ h3) h4)⟩
 ·exact .inr ⟨h1,h2,cw,h3, .inr ⟨E,st1,h4,h5,h6,lZ st _ _ _ ((Rz _ _ _ h3).trans (Rz _ _ _ h6)) h7⟩⟩
theorem yI.keeps {T:Tab} {Γ:Env} {ops:Array Oper} {draw:Bool} {st:St} {K:St->Prop} (h:yI T Γ ops draw st K):yI T Γ ops draw st (λs=>K s/\Gd (λt=>t∉writes (.region 0 ops draw)) st s):=by
 rcases h with h|⟨dead,hd,h⟩
 ·exact .inl h.keeps
 ·exact .inr ⟨dead,hd,h.keeps.mono λs hs=>⟨hs.1,hs.2.trans (j8 hd s)⟩⟩
theorem kY (ops:Array Oper) {fr:Bool} {τ:Ty} {x:τ.den} : ∀(i:Nat) (l:List AV) (t:Nat),l.getD t .undef= .at (.data fr τ x)->(Ph ops i l).getD t .undef= .at (.data fr τ x)
 |_,[],_,h=>h
 |i,v::r,0,h=>by
  cases v with
  |Nd l=>cases h
  |_=>exact h
 |i,v::r,t+1,h=>by
  have h':=kY ops (i+1) r t h
  cases v<;>(simp only [Ph,Nv];exact h')
theorem lv (ops:Array Oper) (st:St):Cr st (st.nv ops):= λt _ _ _ hx=>kY ops 0 st.tmps t hx
theorem OA {T:Tab} {Γ:Env} {live:Nat->List Nat} {c:Code} {st:St} {Q:Md->St->Prop} (h:Oy T Γ live c st Q): ∀(s0:St) (p:Nat->Prop),Gd p s0 st->(∀t,p t->t∉writes c/\bZ live c t=true)->Oy T Γ live c st (λe s=>Q e s/\Gd p s0 s):=by
 induction h with
 |skip h=>exact λs0 p hk _=> .skip ⟨h,hk⟩
 |label h=>exact λs0 p hk _=> .label ⟨h,hk⟩
 |exit h=>exact λs0 p hk _=> .exit ⟨h,hk⟩
 |ret h=>exact λs0 p hk _=> .ret ⟨h,hk⟩
 |region h=>
  exact λs0 p hk hp=> .region (h.keeps.mono λs hs=>⟨hs.1,(hk.trans (lv _ _).on).trans (hs.2.mono λt ht=>(hp t ht).1)⟩)
 |seq Q1 _ _ h3 TZ FK=>
  exact λs0 p hk hp=> .seq _ (TZ s0 p hk λt ht=>⟨λhm=>(hp t ht).1 (by simp [writes,hm]),oU (hp t ht).2⟩)
   (λs hs=>FK s hs.1 s0 p hs.2 λt ht=>⟨λhm=>(hp t ht).1 (by simp [writes,hm]),lY (hp t ht).2⟩) λe s he hs=>⟨h3 e s he hs.1,hs.2⟩
 |cond hc _ _ TZ FK=>
  exact λs0 p hk hp=> .cond hc (λht=>TZ ht s0 p hk λt h=>⟨λhm=>(hp t h).1 (by simp [writes,hm]),oU (hp t h).2⟩)
   fun ht=>FK ht s0 p hk λt h=>⟨λhm=>(hp t h).1 (by simp [writes,hm]),lY (hp t h).2⟩
 |block Q1 _ h2 ih=>
  exact λs0 p hk hp=> .block _ (ih s0 p hk λt ht=>⟨λhm=>(hp t ht).1 (by simpa [writes] using hm),by simpa [bZ] using (hp t ht).2⟩) λe s hs=>by
   have h:=h2 e s hs.1
   cases e with
   |normal=>exact ⟨h,hs.2⟩
   |ret=>exact ⟨h,hs.2⟩
   |exit TX=>
    simp only [xz] at h⊢
    split at h
    ·rename_i hi;rw [Ab hi];exact ⟨h,hs.2⟩
    ·rename_i hi;rw [Ai hi];exact ⟨h,hs.2⟩
 |loop Q1 _ _ h3 TZ FK=>
  intro s0 p hk hp
  refine .loop _ (TZ s0 p (hk.trans ((lu _ _).mono λt ht=>by simpa using oU (hp t ht).2)) λt ht=>⟨λhm=>(hp t ht).1 (by simpa [writes] using hm),lY (hp t ht).2⟩)
   (λs hs=>FK s hs.1 s0 p hs.2 hp) λe s he hs=>⟨h3 e s he hs.1,hs.2⟩
end Go.Proofs.Ytkkdpknjohcekaa
