/-
  Part 29 of the proof that the statement FnExactBoundHistogram holds.
-/
import Derived.Test.YtjbdmibbbpdnnaaGreatCBoundHistogram27
namespace Go.Proofs.YtjbdmibbbpdnnaaGreat
open Go.RowKit
def Bc (st st':St):Prop:= ∀(t:Nat) (fr:Bool) (τ:Ty) (x:τ.den),st.get t= .at (.data fr τ x)->st'.get t= .at (.data fr τ x)
theorem Bc.rfl' {st:St} :Bc st st:= λ_ _ _ _ h=>h
theorem Bc.trans {a b c:St} (h1:Bc a b) (h2:Bc b c):Bc a c:= λt fr τ x h=>h2 t fr τ x (h1 t fr τ x h)
theorem Bc.Rp {a b:St} (h:b.tmps=a.tmps):Bc a b:= λt fr τ x hx=>by
 simp only [St.get] at hx⊢
 rw [h]
 exact hx
theorem Vd (st:St) {t d:Nat} (v:AV) (h:t≠d):(st.put (some d) v).get t=st.get t:=by
 simp only [St.put,St.get]
 rw [Up]
 rw [if_neg (by rintro ⟨rfl,_⟩;exact h rfl)]
theorem Jr (st:St) (f:AC->AC) (hu:f .undef= .undef) (hd: ∀fr (τ:Ty) (x:τ.den),f (.data fr τ x)= .data fr τ x):Bc st (st.Gj f):=by
 intro t fr τ x h
 simp only [St.Gj,St.get]
 rw [Rw f hu,show st.tmps.getD t .undef=_ from h]
 simp only [AV.map,hd]
theorem gZ (st:St) (l:Nat):Bc st (st.forget l):=
 (Jr st (Ba l) rfl λ_ _ _=>rfl).trans (Bc.Rp rfl)
theorem Tu (st:St) (l:Nat) (fr:Bool) (e:Ty) (xs:List e.den):Bc st (st.freeze l fr e xs):=
 (Jr st (Bb l fr e xs) rfl λ_ _ _=>rfl).trans (Bc.Rp rfl)
theorem bl (st:St) (l:Nat) (v:Ty) (m:ByteArray->Option v.den):Bc st (st.Ep l v m):=
 (Jr st (Dj l v m) rfl λ_ _ _=>rfl).trans (Bc.Rp rfl)
theorem Ib (st:St) (l:Nat) (b:OB):Bc st (st.new l b):=(gZ st l).trans (Bc.Rp rfl)
theorem Is (st:St) (l:Nat) (b:OB):Bc st (st.Gc l b):=Bc.Rp rfl
theorem Yv (b:OB) (key l i:Nat) (st:St):Bc st (Np b key l i st):=by
 unfold Np
 split
 ·split
  ·dsimp only
   split
   ·exact (Ib _ _ _).trans (Is _ _ _)
   ·exact Ib _ _ _
  ·exact Bc.rfl'
 ·exact Bc.rfl'
theorem eE (T:Tab) (l:Nat) (t:TypeId) (τ:Ty): ∀(n i:Nat) (st:St),Bc st (aA T l t τ n i st)
 |0,_,_=>Bc.rfl'
 |n+1,i,st=>by
  simp only [aA]
  refine Bc.trans ?_ (eE T l t τ n (i+1) _)
  split
  ·exact Yv _ _ _ _ _
  ·exact Bc.rfl'
theorem cz (T:Tab) (l off:Nat) (t:TypeId) (τ:Ty): ∀(n i:Nat) (st:St),Bc st (Zb T l off t τ n i st)
 |0,_,_=>Bc.rfl'
 |n+1,i,st=>by
  simp only [Zb]
  refine Bc.trans ?_ (cz T l off t τ n (i+1) _)
  split
  ·exact Yv _ _ _ _ _
  ·exact Bc.rfl'
theorem Kz: ∀(n:Nat) (st:St) (cs c9:List AC) (st':St),Dr n st cs=some (c9,st')->Bc st st'
 |0,st,cs,c9,st',h=>by
  simp only [Dr] at h
  split at h
  ·injection h with h;injection h with h1 h2;subst h2;exact Bc.rfl'
  ·cases h
 |n+1,st,cs,c9,st',h=>by
  simp only [Dr] at h
  split at h
  ·injection h with h;injection h with h1 h2;subst h2;exact Bc.rfl'
  ·split at h
   ·exact (Tu _ _ _ _ _).trans (Kz n _ _ _ _ h)
   ·exact (Tu _ _ _ _ _).trans (Kz n _ _ _ _ h)
   ·cases h
  ·split at h
   ·exact (bl _ _ _ _).trans (Kz n _ _ _ _ h)
   ·cases h
  ·cases h
theorem Lz {st st':St} {v v':AV} (h:settle st v=some (v',st')):Bc st st':=by
 unfold settle at h
 split at h
 ·split at h
  ·injection h with h;injection h with h1 h2;subst h2;exact Tu _ _ _ _ _
  ·injection h with h;injection h with h1 h2;subst h2;exact Tu _ _ _ _ _
  ·cases h
 ·split at h
  ·injection h with h;injection h with h1 h2;subst h2;exact bl _ _ _ _
  ·cases h
 ·split at h
  ·injection h with h;injection h with h1 h2;subst h2;exact Bc.rfl'
  ·cases h
 ·rename_i cs
  cases hs:Dr cs.length st cs with
  |none=>rw [hs] at h;cases h
  |some p=>rw [hs] at h;injection h with h;injection h with h1 h2;subst h2;exact Kz _ _ _ _ _ hs
 ·injection h with h;injection h with h1 h2;subst h2;exact Bc.rfl'
 ·cases h
theorem kz {T:Tab} {st st':St} {l:Nat} {t:TypeId} {τ:Ty} {cs:List AC} {v:AV} (h:mkVar T st l t τ cs=some (v,st')):Bc st st':=by
 unfold mkVar at h
 split at h
 ·cases h
 dsimp only at h
 split at h
 ·injection h with h;injection h with h1 h2;subst h2;exact (Ib _ _ _).trans (eE _ _ _ _ _ _ _)
 ·cases h
theorem wi {T:Tab} {st st':St} {t:TypeId} {p v:AV} (h:Ny T st t p v=some st'):Bc st st':=by
 unfold Ny at h
 split at h
 ·split at h
  ·split at h
   ·injection h with h
    split at h
    ·subst h;exact (Is _ _ _).trans (cz _ _ _ _ _ _ _ _)
    ·subst h;exact Is _ _ _
   ·cases h
  ·cases h
 ·split at h
  ·rename_i hs
   split at h
   ·split at h
    ·split at h
     ·injection h with h;subst h;exact (Lz hs).trans (Is _ _ _)
     ·cases h
    ·cases h
   ·cases h
  ·cases h
 ·cases h
theorem nk (st:St) (l j m:Nat) (e:Ty) (te:TypeId) (rows:List (List e.den)) (xs:List e.den) (kp:Option (Nat×Nat)):Bc st (Mt st l j m e te rows xs kp):=
 ((Jr st (Ax [m] [l]) (by simp [Ax,AC.refs]) λfr τ x=>by simp [Ax,AC.refs]).trans (Bc.Rp rfl)).trans (Is (st.Wk [m] [l]) _ _)
theorem nm (st:St) (l i m:Nat) (e:Ty) (te tid:TypeId) (rows:List (List e.den)) (kp:Option (Nat×Nat)):Bc st (Kf st l i m e te tid rows kp):=
 (Is st l _).trans (Ib _ m _)
theorem sQ {T:Tab} {st st':St} {t:TypeId} {p v:AV} (h:Jx T st t p v=some st'):Bc st st':=by
 unfold Jx at h
 split at h
 rotate_left
 ·exact wi h
 unfold Vc at h
 split at h
 ·split at h
  ·rename_i hs
   split at h
   ·split at h
    ·injection h with h;subst h;exact (Lz hs).trans (Is _ _ _)
    ·cases h
   ·cases h
  ·cases h
 ·split at h
  ·split at h
   ·split at h
    ·injection h with h;subst h
     exact nk _ _ _ _ _ _ _ _ _
    ·cases h
   ·cases h
  ·cases h
 ·cases h
theorem aj {T:Tab} {st st':St} {d:Nat} {t:TypeId} {x y:Operand} {v:AV} (h:Ip T st d t x y=some (v,st')):Bc st st':=by
 unfold Ip at h
 split at h
 ·cases h
 ·split at h
  ·rename_i hs
   split at h
   ·cases h
   ·split at h
    ·split at h
     ·injection h with h;injection h with h1 h2;subst h2;exact ((Lz hs).trans (Ib _ _ _)).trans (Ib _ _ _)
     ·cases h
    ·split at h
     ·split at h
      ·split at h
       ·injection h with h;injection h with h1 h2;subst h2;exact (Lz hs).trans (Ib _ _ _)
       ·cases h
      ·cases h
     ·cases h
    ·cases h
  ·cases h
theorem pt {T:Tab} {st st':St} {d:Nat} {t:TypeId} {x y:Operand} {v:AV} (h:Lf T st d t x y=some (v,st')):Bc st st':=by
 unfold Lf at h
 split at h
 ·rename_i tx
  split at h
  ·rename_i l i c hg
   split at h
   ·split at h
    ·rename_i e te rows kp tid hl ht hc
     refine Bc.trans (b:=(Kf st l i d e te tid rows kp).put (some tx) (.at (.own d 0 (rows.getD i []).length))) ?_ (aj h)
     intro t' fr τ z hz
     by_cases e':t'=tx
     ·subst e';rw [hg] at hz;cases hz
     ·rw [Vd _ _ e'];exact nm st l i d e te tid rows kp t' fr τ z hz
    ·cases h
   ·cases h
  ·exact aj h
 ·exact aj h
theorem zb {T:Tab} {st st':St} {d:Nat} {t:TypeId} {l c v:AV} (h:Uz T st d t l c=some (v,st')):Bc st st':=by
 unfold Uz at h
 split at h
 ·split at h
  ·split at h
   ·injection h with h;injection h with h1 h2;subst h2;exact Ib _ _ _
   ·cases h
  ·cases h
 ·cases h
theorem kA (e:Ty): ∀(l:List (Nat×Operand)) (i:Nat) (st st':St) (fr tr:Bool) (ys:List e.den),Gs e i l st=some (fr,tr,ys,st')->Bc st st'
 | [],_,_,_,_,_,_,h=>by
  simp only [Gs] at h
  injection h with h;injection h with h1 h2;injection h2 with h2 h3;injection h3 with h3 h4;subst h4;exact Bc.rfl'
 |(j,x)::r,i,st,st',fr,tr,ys,h=>by
  simp only [Gs] at h
  split at h
  ·split at h
   ·rename_i hs
    split at h
    ·split at h
     ·rename_i hp
      injection h with h;injection h with h1 h2;injection h2 with h2 h3;injection h3 with h3 h4;subst h4
      exact (Lz hs).trans (kA e r _ _ _ _ _ _ hp)
     ·cases h
    ·cases h
   ·cases h
  ·cases h
theorem jn {T:Tab} {st st':St} {d:Nat} {t:TypeId} {n:Nat} {parts:Array (Nat×Operand)} {v:AV} (h:Hl T st d t n parts=some (v,st')):Bc st st':=by
 unfold Hl at h
 split at h
 ·cases h
 ·split at h
  ·cases h
  ·split at h
   ·split at h
    ·rename_i hp
     injection h with h;injection h with h1 h2;subst h2;exact (kA _ _ _ _ _ _ _ _ hp).trans (Ib _ _ _)
    ·cases h
   ·cases h
theorem pw {T:Tab} {st st':St} {d:Nat} {t:TypeId} {v:AV} (h:Nx T st d t=some (v,st')):Bc st st':=by
 unfold Nx at h
 split at h
 ·split at h
  ·injection h with h;injection h with h1 h2;subst h2;exact Ib _ _ _
  ·cases h
 ·cases h
theorem hJ {T:Tab} {st st':St} {t:TypeId} {m k x:AV} (h:Ex T st t m k x=some st'):Bc st st':=by
 unfold Ex at h
 split at h
 ·split at h
  ·split at h
   ·injection h with h;subst h;exact Is _ _ _
   ·cases h
  ·cases h
 ·cases h
theorem za {T:Tab} {st st':St} {t t':TypeId} {x y v:AV} (h:cc T st t t' x y=some (v,st')):Bc st st':=by
 unfold cc at h
 split at h
 ·split at h
  ·split at h
   ·split at h
    ·injection h with h;injection h with h1 h2;subst h2;exact Is _ _ _
    ·cases h
   ·cases h
  ·cases h
 ·cases h
theorem we {T:Tab} {st st':St} {t:TypeId} {x:AV} (h:evalClear T st t x=some st'):Bc st st':=by
 unfold evalClear at h
 split at h
 ·split at h
  ·split at h
   ·split at h
    ·injection h with h;subst h;exact Is _ _ _
    ·cases h
   ·cases h
  ·cases h
 ·cases h
theorem rm {st st':St} {c:CK} {ys:c.den} {a:AC} (h:Wc st c ys a=some st'):st'.tmps=st.tmps:=by
 unfold Wc at h
 repeat' split at h
 all_goals first|(cases h;done)|(simp only [Option.some.injEq] at h;subst h;rfl)|skip
theorem FR {st st':St} {e:Ty} {ys:List e.den} {a:AC} (h:zJ st e ys a=some st'):st'.tmps=st.tmps:=by
 unfold zJ at h
 repeat' split at h
 all_goals first|(cases h;done)|(simp only [Option.some.injEq] at h;subst h;rfl)|skip
theorem Nq: ∀(cs:List (Bool×CK)) (o:IOs.den cs) (as:List AC) (st st':St),Eh cs o as st=some st'->st'.tmps=st.tmps
 | [],_,_,st,st',h=>by simp only [Eh,Option.some.injEq] at h;subst h;rfl
 |(true, .Ee _)::r,o,[],st,st',h=>by simp [Eh] at h
 |(true, .row _ _)::r,o,[],st,st',h=>by simp [Eh] at h
 |(true, .Dq _ _)::r,o,[],st,st',h=>by simp [Eh] at h
 |(true, .part _ _)::r,o,[],st,st',h=>by simp [Eh] at h
 |(true, .Al _ _ _)::r,o,[],st,st',h=>by simp [Eh] at h
 |(true, .Al _ _ _)::r,o,a::as,st,st',h=>Nq r o as st st' (by simpa only [Eh] using h)
 |(false,_)::r,o,[],st,st',h=>by simp [Eh] at h
 |(true, .Ee _)::r,o,a::as,st,st',h=>Nq r o as st st' (by simpa only [Eh] using h)
 |(false,_)::r,o,a::as,st,st',h=>Nq r o as st st' (by simpa only [Eh] using h)
 |(true, .row _ _)::r,o,a::as,st,st',h=>by
  simp only [Eh] at h
  split at h
  ·rename_i hc;exact (Nq r o.2 as _ st' h).trans (rm hc)
  ·cases h
 |(true, .part _ _)::r,o,a::as,st,st',h=>by
  simp only [Eh] at h
  split at h
  ·rename_i hc;exact (Nq r o.2 as _ st' h).trans (FR hc)
  ·cases h
 |(true, .Dq _ _)::r,o,a::as,st,st',h=>by
  simp only [Eh] at h
  split at h
  ·rename_i hc;exact (Nq r o.2 as _ st' h).trans (rm hc)
  ·cases h
theorem sO (bw st:St) (ls:List Nat) (n:Nat) (hl:bw.tmps.length=st.tmps.length) (h:Bc bw st):Bc bw (fK bw st ls n):=by
 unfold fK
 split
 ·exact h
 ·intro t fr τ x hx
  show (Gy _ bw.tmps st.tmps).getD t .undef=_
  rcases aR ls bw.tmps st.tmps t hl with ⟨k,i,c,h1,_⟩|h1
  ·rw [show bw.tmps.getD t .undef=_ from hx] at h1;cases h1
  ·rw [h1];exact h t fr τ x hx
theorem wc {st st':St} {d:Option Nat} {s:MSpec} {args:List AV} {v:AV} (h:Qk st d s args=some (v,st')):Bc st st':=by
 unfold Qk at h
 split at h
 ·cases h
 split at h
 ·cases h
 split at h
 ·cases h
 split at h
 ·split at h
  ·cases h
  split at h
  ·cases h
  rename_i st1 hp
  split at h
  ·cases h
  split at h
  ·simp only [Option.some.injEq,Prod.mk.injEq] at h
   obtain ⟨_,rfl⟩:=h
   have XW:=Nq _ _ _ _ _ hp
   refine sO _ _ _ _ ?_ ?_
   ·simp only [fh,jJ]
    rw [<-XW]
    simp only [St.Wk,St.Gj,List.length_map]
   ·refine Bc.trans (Bc.Rp XW) ?_
    refine Bc.trans (Jr st1 (Ax _ _) (by simp [Ax,AC.refs]) λfr τ x=>by simp [Ax,AC.refs]) (Bc.Rp jJ)
  ·cases h
 ·cases h
theorem Xn (st:St) (k m:Nat) (b:OB):Bc st (Kx st k m b):=
 (Jr st (Ax [m,k] []) (by simp [Ax,AC.refs]) λfr τ x=>by simp [Ax,AC.refs]).trans (Bc.Rp rfl)
theorem wg {T:Tab} {st st':St} {d:Nat} {t:TypeId} {l c v:AV} (h:Qm T st d t l c=some (v,st')):Bc st st':=by
 unfold Qm at h
 split at h
 ·exact zb h
 ·split at h
  ·split at h
   ·injection h with h;injection h with h1 h2;subst h2;exact Xn _ _ _ _
   ·cases h
  ·cases h
theorem gY {T:Tab} {st st':St} {d:Nat} {t:TypeId} {n:Nat} {parts:Array (Nat×Operand)} {v:AV} (h:Eu T st d t n parts=some (v,st')):Bc st st':=by
 unfold Eu at h
 split at h
 ·exact jn h
 ·repeat' split at h
  all_goals first|(cases h;done)|(injection h with h;injection h with h1 h2;subst h2;exact Xn _ _ _ _)
theorem pv {T:Tab} {st st':St} {d:Nat} {t:TypeId} {x y:Operand} {v:AV} (h:Lg T st d t x y=some (v,st')):Bc st st':=by
 unfold Lg at h
 split at h
 ·exact pt h
 ·repeat' split at h
  all_goals first|(cases h;done)|(injection h with h;injection h with h1 h2;subst h2;exact Xn _ _ _ _)
theorem Yu {st st':St} {v:AV} {o:Option AV} (h:o.map (λv=>(v,st))=some (v,st')):Bc st st':=by
 cases o with
 |none=>cases h
 |some u=>injection h with h;injection h with h1 h2;subst h2;exact Bc.rfl'
theorem Sw: ∀(l:List Operand) {st st1:St},Jm l st=some st1->Bc st st1
 | [],st,st1,h=>by
  simp only [Jm,Option.some.injEq] at h
  subst h
  exact Bc.rfl'
 |x::r,st,st1,h=>by
  simp only [Jm] at h
  cases hs:settle st (st.ev x) with
  |none=>rw [hs] at h;cases h
  |some p=>
   rw [hs] at h
   exact (Lz (v':=p.1) (st':=p.2) hs).trans (Sw r h)
theorem gG {T:Tab} {Γ:Env} {st st':St} {o:Oper} {v:AV} (h:evalOp T Γ st o=some (v,st')):Bc st st':=by
 unfold evalOp at h
 split at h
 ·split at h
  ·split at h
   ·injection h with h;injection h with h1 h2;subst h2;exact Ib _ _ _
   ·cases h
  ·injection h with h;injection h with h1 h2;subst h2;exact Bc.rfl'
 ·split at h
  ·exact kz h
  ·cases h
 ·split at h
  ·split at h
   ·exact kz h
   ·cases h
  ·cases h
 ·rename_i t p x _
  cases hs:Jx T st t (st.ev p) (st.ev x) with
  |none=>rw [hs] at h;cases h
  |some s=>rw [hs] at h;injection h with h;injection h with h1 h2;subst h2;exact sQ hs
 ·split at h
  ·exact wg h
  ·cases h
 ·split at h
  ·exact pw h
  ·cases h
 ·rename_i t m k x _
  cases hs:Ex T st t (st.ev m) (st.ev k) (st.ev x) with
  |none=>rw [hs] at h;cases h
  |some s=>rw [hs] at h;injection h with h;injection h with h1 h2;subst h2;exact hJ hs
 ·rename_i t m k x _
  cases hs:Ex T st t (st.ev m) (st.ev k) (st.ev x) with
  |none=>rw [hs] at h;cases h
  |some s=>rw [hs] at h;injection h with h;injection h with h1 h2;subst h2;exact hJ hs
 ·split at h
  ·exact gY h
  ·cases h
 ·exact Yu h
 ·split at h
  ·split at h
   ·exact pv h
   ·cases h
  ·cases h
 ·split at h
  ·exact za h
  ·cases h
 ·split at h
  ·rename_i x t _ _
   cases hs:evalClear T st t (st.ev x) with
   |none=>rw [hs] at h;cases h
   |some s=>rw [hs] at h;injection h with h;injection h with h1 h2;subst h2;exact we hs
  ·cases h
 ·split at h
  ·exact wc h
  ·split at h
   ·rename_i args _ _ _ _ _ _
    cases hs:Jm args.toList st with
    |none=>rw [hs] at h;cases h
    |some st1=>
     rw [hs] at h
     exact (Sw _ hs).trans (Yu h)
   ·exact Yu h
  ·exact Yu h
 ·exact Yu h
def Ks:List Oper->List Nat
 | []=> []
 |o::r=>(match o.dst with|some d=> [d]|none=> [])++Ks r
def writes:Code->List Nat
 | .region _ ops _=>Ks ops.toList
 | .seq a b=>writes a++writes b
 | .cond _ a b=>writes a++writes b
 | .block _ c=>writes c
 | .loop c=>writes c
 |_=> []
def Fg (P:Nat->Prop) (st st':St):Prop:= ∀(t:Nat) (fr:Bool) (τ:Ty) (x:τ.den),P t->st.get t= .at (.data fr τ x)->st'.get t= .at (.data fr τ x)
theorem Fg.trans {P:Nat->Prop} {a b c:St} (h1:Fg P a b) (h2:Fg P b c):Fg P a c:= λt fr τ x hp h=>h2 t fr τ x hp (h1 t fr τ x hp h)
theorem Fg.mono {P Q:Nat->Prop} {a b:St} (h1:Fg P a b) (h: ∀t,Q t->P t):Fg Q a b:= λt fr τ x hp hx=>h1 t fr τ x (h t hp) hx
theorem Bc.on {P:Nat->Prop} {a b:St} (h:Bc a b):Fg P a b:= λt fr τ x _ hx=>h t fr τ x hx
theorem Wo (st:St) (dst:Option Tmp) (v:AV):Fg (λt=>dst≠some t) st (st.put dst v):=by
 intro t fr τ x hp hx
 cases dst with
 |none=>exact hx
 |some d=>rw [Vd st v (λh=>hp (by rw [h]))];exact hx
theorem cd {T:Tab} {Γ:Env} {ops:Array Oper} {st st':St} {o:Oper} (h:Ci T Γ ops st o=some st'):Fg (λt=>o.dst≠some t) st st':=by
 have key: ∀s,(evalOp T Γ st o).map (λr=>r.2.put o.dst r.1)=some s->Fg (λt=>o.dst≠some t) st s:=by
  intro s hs
  cases he:evalOp T Γ st o with
  |none=>rw [he] at hs;cases hs
  |some p=>rw [he] at hs;injection hs with hs;subst hs;exact (gG (v:=p.1) (st':=p.2) he).on.trans (Wo _ _ _)
 unfold Ci at h
 split at h
 ·exact key _ h
 ·split at h
  ·split at h
   ·exact key _ h
   ·injection h with h;subst h;exact Wo _ _ _
  ·injection h with h;subst h;exact Wo _ _ _
  ·cases h
theorem ek {T:Tab} {Γ:Env} {ops:Array Oper} : ∀(l:List Oper) (st st':St),Tp T Γ ops l st=some st'->Fg (λt=>t∉Ks l) st st'
 | [],st,st',h=>by injection h with h;subst h;exact Bc.rfl'.on
 |o::r,st,st',h=>by
  simp only [Tp] at h
  split at h
  ·rename_i s hs
   refine Fg.trans ((cd hs).mono λt ht=>?_) ((ek r _ _ h).mono λt ht=>?_)
   ·intro hd;apply ht;simp [Ks,hd]
   ·intro hd;apply ht;simp [Ks,hd]
  ·cases h
theorem Xq: ∀(l:List Oper) (o:Oper) (d:Nat),o∈l->o.dst=some d->d∈Ks l
 | [],_,_,h,_=>by cases h
 |p::r,o,d,h,hd=>by
  cases h with
  |head=>simp [Ks,hd]
  |tail _ h=>simp only [Ks,List.mem_append];exact .inr (Xq r o d h hd)
theorem r6 {ops:Array Oper} {i:Nat} {o:Oper} (h:ops[i]?=some o):o∈ops.toList:=by
 rw [Array.getElem?_eq_some_iff] at h
 obtain ⟨h1,h2⟩:=h
 rw [<-h2]
 simp
theorem Xk {T:Tab} {Γ:Env} {ops:Array Oper} : ∀(l:List Nat) (st st':St),Jd T Γ ops l st=some st'->Fg (λt=>t∉Ks ops.toList) st st'
 | [],st,st',h=>by injection h with h;subst h;exact Bc.rfl'.on
 |i::r,st,st',h=>by
  simp only [Jd] at h
  split at h
  ·cases h
  ·rename_i o ho
   split at h
   ·rename_i s hs
    exact ((cd hs).mono λt ht hd=>ht (Xq _ _ _ (r6 ho) hd)).trans (Xk r _ _ h)
   ·cases h
theorem Va {T:Tab} {Γ:Env} {ops:Array Oper} : ∀(l:List Nat) (st st':St),Ef T Γ ops l st=some st'->Fg (λt=>t∉Ks ops.toList) st st'
 | [],st,st',h=>by injection h with h;subst h;exact Bc.rfl'.on
 |i::r,st,st',h=>by
  simp only [Ef] at h
  split at h
  ·cases h
  ·rename_i o ho
   split at h
   ·exact ((Wo _ _ _).mono λt ht hd=>ht (Xq _ _ _ (r6 ho) hd)).trans (Va r _ _ h)
   ·cases h
theorem bk: ∀(l:List Nat) (st:St),Bc st (Yn l st)
 | [],_=>Bc.rfl'
 |a::r,st=>(gZ st a).trans (bk r _)
theorem bY (live:List Nat): ∀(i:Nat) (l:List AV) (t:Nat),i+t∈live->(Ga live i l).getD t .undef=l.getD t .undef
 |_,[],_,_=>rfl
 |i,v::r,0,h=>by simp [Ga];intro hn;exact absurd h hn
 |i,v::r,t+1,h=>by
  simp only [Ga,List.getD_cons_succ]
  exact bY live (i+1) r t (by rw [show i+1+t=i+(t+1) by omega];exact h)
theorem sP (l k:Nat) (st:St):Bc st (st.rename l k):=by
 unfold St.rename
 split
 ·split
  ·exact (Jr st (Oc l k) rfl λ_ _ _=>rfl).trans (Bc.Rp rfl)
  ·exact Bc.rfl'
 ·exact Bc.rfl'
theorem Yw: ∀(n t:Nat) (st:St),Bc st (Hq n t st)
 |0,_,_=>Bc.rfl'
 |n+1,t,st=>by
  simp only [Hq]
  refine Bc.trans ?_ (Yw n (t+1) _)
  split
  ·split
   ·split
    ·exact Bc.rfl'
    ·exact sP _ _ _
   ·exact Bc.rfl'
  ·exact Bc.rfl'
theorem np (t:Nat) (st:St):Bc st (Vq t st):=by
 unfold Vq
 split
 ·rename_i l off len hg
  split
  ·split
   ·intro k fr τ x hk
    have Fc:k≠t:= λe=>by subst e;rw [hg] at hk;cases hk
    rw [Vd _ _ Fc]
    exact Ib _ _ _ k fr τ x hk
   ·exact Bc.rfl'
  ·exact Bc.rfl'
 ·exact Bc.rfl'
theorem bm (live:List Nat): ∀(n t:Nat) (st:St),Bc st (Jl live n t st)
 |0,_,_=>Bc.rfl'
 |n+1,t,st=>by
  simp only [Jl]
  refine Bc.trans ?_ (bm live n (t+1) _)
  split
  ·exact np _ _
  ·exact Bc.rfl'
theorem eD (live:List Nat) (st:St):Fg (λt=>t∈live) st (st.clean live):=by
 intro t fr τ x hp hx
 unfold St.clean
 have key: ∀s:St,s.get t= .at (.data fr τ x)->(if live.contains Wt then Hq s.tmps.length 0 s else s).get t= .at (.data fr τ x):=by
  intro s hs
  split
  ·exact Yw _ _ s t fr τ x hs
  ·exact hs
 have KE: ∀s:St,s.get t= .at (.data fr τ x)->(if live.any (λt=>Nat.ble Sr t) then s.Ez live else s).get t= .at (.data fr τ x):=by
  intro s hs
  split<;>exact hs
 have KF: ∀s:St,s.get t= .at (.data fr τ x)->(if live.any (λt=>Nat.ble Ln t&&Nat.blt t Wt) then Jl live s.tmps.length 0 s else s).get t= .at (.data fr τ x):=by
  intro s hs
  split
  ·exact bm _ _ _ s t fr τ x hs
  ·exact hs
 refine KE _ (key _ (KF _ (bk _ _ t fr τ x ?_)))
 simp only [St.get] at hx⊢
 rw [bY live 0 st.tmps t (by simpa using hp)]
 exact hx
def Vh (live:Nat->List Nat):Code->Nat->Bool
 | .seq a b,t=>Vh live a t&&Vh live b t
 | .cond _ a b,t=>Vh live a t&&Vh live b t
 | .block _ c,t=>Vh live c t
 | .loop c,t=>(live (Ce c)).contains t&&Vh live c t
 |_,_=>true
theorem j5 {a b:Bool} (h:(a&&b)=true):a=true:=by cases a<;>simp_all
theorem fi {a b:Bool} (h:(a&&b)=true):b=true:=by cases a<;>simp_all
theorem ja {T:Tab} {Γ:Env} {ops:Array Oper} {draw:Bool} {st st':St} (h:Lh T Γ ops draw st=some st'):Fg (λt=>t∉writes (.region 0 ops draw)) st st':=by
 unfold Lh at h
 have go: ∀q,(match Ef T Γ ops (dG q Γ ops) st with
   |some s=>Jd T Γ ops (Fk q Γ ops) s
   |none=>none)=some st'->Fg (λt=>t∉writes (.region 0 ops draw)) st st':=by
  intro q h
  split at h
  ·rename_i s hs
   exact (Va _ _ _ hs).trans (Xk _ _ _ h)
  ·cases h
 split at h
 ·split at h
  ·exact go false h
  ·split at h
   ·exact go true h
   ·cases h
 ·exact ek _ _ _ h
theorem mi {T:Tab} {Γ:Env} {ops:Array Oper} {draw:Bool} {K:St->Prop} (s0:St): ∀(f:Nat) (Ab:Array Bool) (st:St),Fg (λt=>t∉writes (.region 0 ops draw)) s0 st->anyS T Γ ops K f Ab st->anyS T Γ ops (λs=>K s/\Fg (λt=>t∉writes (.region 0 ops draw)) s0 s) f Ab st
 |0,_,_,hk,h=>⟨h.1,h.2,hk⟩
 |f+1,Ab,st,hk,h=>⟨h.1,λi hi=>by
  obtain ⟨o,st',h1,h2,h3⟩:=h.2 i hi
  have h4:Jd T Γ ops [i] st=some st':=by simp only [Jd,h1,h2]
  exact ⟨o,st',h1,h2,mi s0 f _ _ (hk.trans (Xk _ _ _ h4)) h3⟩⟩
theorem rZ.keeps {T:Tab} {Γ:Env} {ops:Array Oper} {draw:Bool} {st:St} {K:St->Prop} (h:rZ T Γ ops draw st K):rZ T Γ ops draw st (λs=>K s/\Fg (λt=>t∉writes (.region 0 ops draw)) st s):=by
 rcases h with ⟨st',h1,h2⟩|⟨h1,h2,bw,h3,h4⟩
 ·exact .inl ⟨st',h1,h2,ja h1⟩
 ·exact .inr ⟨h1,h2,bw,h3,mi st _ _ _ (Va _ _ _ h3) h4⟩
theorem zT {T:Tab} {Γ:Env} {live:Nat->List Nat} {c:Code} {st:St} {Q:Gw->St->Prop} (h:Jb T Γ live c st Q): ∀(s0:St) (p:Nat->Prop),Fg p s0 st->(∀t,p t->t∉writes c/\Vh live c t=true)->Jb T Γ live c st (λe s=>Q e s/\Fg p s0 s):=by
 induction h with
 |skip h=>exact λs0 p hk _=> .skip ⟨h,hk⟩
 |label h=>exact λs0 p hk _=> .label ⟨h,hk⟩
 |exit h=>exact λs0 p hk _=> .exit ⟨h,hk⟩
 |ret h=>exact λs0 p hk _=> .ret ⟨h,hk⟩
 |region h=>
  exact λs0 p hk hp=> .region (h.keeps.mono λs hs=>⟨hs.1,hk.trans (hs.2.mono λt ht=>(hp t ht).1)⟩)
 |seq Q1 _ _ h3 EG w8=>
  exact λs0 p hk hp=> .seq _ (EG s0 p hk λt ht=>⟨λhm=>(hp t ht).1 (by simp [writes,hm]),j5 (hp t ht).2⟩)
   (λs hs=>w8 s hs.1 s0 p hs.2 λt ht=>⟨λhm=>(hp t ht).1 (by simp [writes,hm]),fi (hp t ht).2⟩) λe s he hs=>⟨h3 e s he hs.1,hs.2⟩
 |cond hc _ _ EG w8=>
  exact λs0 p hk hp=> .cond hc (λht=>EG ht s0 p hk λt h=>⟨λhm=>(hp t h).1 (by simp [writes,hm]),j5 (hp t h).2⟩)
   fun ht=>w8 ht s0 p hk λt h=>⟨λhm=>(hp t h).1 (by simp [writes,hm]),fi (hp t h).2⟩
 |block Q1 _ h2 ih=>
  exact λs0 p hk hp=> .block _ (ih s0 p hk λt ht=>⟨λhm=>(hp t ht).1 (by simpa [writes] using hm),by simpa [Vh] using (hp t ht).2⟩) λe s hs=>by
   have h:=h2 e s hs.1
   cases e with
   |normal=>exact ⟨h,hs.2⟩
   |ret=>exact ⟨h,hs.2⟩
   |exit EF=>
    simp only [qL] at h⊢
    split at h
    ·rename_i hi;rw [if_pos hi];exact ⟨h,hs.2⟩
    ·rename_i hi;rw [if_neg hi];exact ⟨h,hs.2⟩
 |loop Q1 _ _ h3 EG w8=>
  intro s0 p hk hp
  refine .loop _ (EG s0 p (hk.trans ((eD _ _).mono λt ht=>by simpa using j5 (hp t ht).2)) λt ht=>⟨λhm=>(hp t ht).1 (by simpa [writes] using hm),fi (hp t ht).2⟩)
   (λs hs=>w8 s hs.1 s0 p hs.2 hp) λe s he hs=>⟨h3 e s he hs.1,hs.2⟩
end Go.Proofs.YtjbdmibbbpdnnaaGreat
