/-
  Part 29 of the proof that the statement FnExactExactStateCount holds.
-/
import Derived.Test.YtjbdmibbbpdnnaaCExactStateCount27
namespace Go.Proofs.Ytjbdmibbbpdnnaa
open Go.RowKit
def Bc (st st':St):Prop:= ∀(t:Nat) (fr:Bool) (τ:Ty) (x:τ.den),st.get t= .at (.data fr τ x)->st'.get t= .at (.data fr τ x)
theorem Bc.rfl' {st:St} :Bc st st:= λ_ _ _ _ h=>h
theorem Bc.trans {a b c:St} (h1:Bc a b) (h2:Bc b c):Bc a c:= λt fr τ x h=>h2 t fr τ x (h1 t fr τ x h)
theorem Bc.Rg {a b:St} (h:b.tmps=a.tmps):Bc a b:= λt fr τ x hx=>by
 simp only [St.get] at hx⊢
 rw [h]
 exact hx
theorem Uq (st:St) {t d:Nat} (v:AV) (h:t≠d):(st.put (some d) v).get t=st.get t:=by
 simp only [St.put,St.get]
 rw [Ud]
 rw [if_neg (by rintro ⟨rfl,_⟩;exact h rfl)]
theorem Jm (st:St) (f:AC->AC) (hu:f .undef= .undef) (hd: ∀fr (τ:Ty) (x:τ.den),f (.data fr τ x)= .data fr τ x):Bc st (st.Ge f):=by
 intro t fr τ x h
 simp only [St.Ge,St.get]
 rw [Rn f hu,show st.tmps.getD t .undef=_ from h]
 simp only [AV.map,hd]
theorem gy (st:St) (l:Nat):Bc st (st.forget l):=
 (Jm st (Az l) rfl λ_ _ _=>rfl).trans (Bc.Rg rfl)
theorem Tk (st:St) (l:Nat) (fr:Bool) (e:Ty) (xs:List e.den):Bc st (st.freeze l fr e xs):=
 (Jm st (Ba l fr e xs) rfl λ_ _ _=>rfl).trans (Bc.Rg rfl)
theorem aE (st:St) (l:Nat) (v:Ty) (m:ByteArray->Option v.den):Bc st (st.El l v m):=
 (Jm st (Di l v m) rfl λ_ _ _=>rfl).trans (Bc.Rg rfl)
theorem Hx (st:St) (l:Nat) (b:OB):Bc st (st.new l b):=(gy st l).trans (Bc.Rg rfl)
theorem Io (st:St) (l:Nat) (b:OB):Bc st (st.Fz l b):=Bc.Rg rfl
theorem Xz (b:OB) (key l i:Nat) (st:St):Bc st (Nk b key l i st):=by
 unfold Nk
 split
 ·split
  ·dsimp only
   split
   ·exact (Hx _ _ _).trans (Io _ _ _)
   ·exact Hx _ _ _
  ·exact Bc.rfl'
 ·exact Bc.rfl'
theorem dU (T:Tab) (l:Nat) (t:TypeId) (τ:Ty): ∀(n i:Nat) (st:St),Bc st (Zv T l t τ n i st)
 |0,_,_=>Bc.rfl'
 |n+1,i,st=>by
  simp only [Zv]
  refine Bc.trans ?_ (dU T l t τ n (i+1) _)
  split
  ·exact Xz _ _ _ _ _
  ·exact Bc.rfl'
theorem bS (T:Tab) (l off:Nat) (t:TypeId) (τ:Ty): ∀(n i:Nat) (st:St),Bc st (Ye T l off t τ n i st)
 |0,_,_=>Bc.rfl'
 |n+1,i,st=>by
  simp only [Ye]
  refine Bc.trans ?_ (bS T l off t τ n (i+1) _)
  split
  ·exact Xz _ _ _ _ _
  ·exact Bc.rfl'
theorem Kw: ∀(n:Nat) (st:St) (cs bB:List AC) (st':St),Dp n st cs=some (bB,st')->Bc st st'
 |0,st,cs,bB,st',h=>by
  simp only [Dp] at h
  split at h
  ·injection h with h;injection h with h1 h2;subst h2;exact Bc.rfl'
  ·cases h
 |n+1,st,cs,bB,st',h=>by
  simp only [Dp] at h
  split at h
  ·injection h with h;injection h with h1 h2;subst h2;exact Bc.rfl'
  ·split at h
   ·exact (Tk _ _ _ _ _).trans (Kw n _ _ _ _ h)
   ·exact (Tk _ _ _ _ _).trans (Kw n _ _ _ _ h)
   ·cases h
  ·split at h
   ·exact (aE _ _ _ _).trans (Kw n _ _ _ _ h)
   ·cases h
  ·cases h
theorem Lu {st st':St} {v v':AV} (h:settle st v=some (v',st')):Bc st st':=by
 unfold settle at h
 split at h
 ·split at h
  ·injection h with h;injection h with h1 h2;subst h2;exact Tk _ _ _ _ _
  ·injection h with h;injection h with h1 h2;subst h2;exact Tk _ _ _ _ _
  ·cases h
 ·split at h
  ·injection h with h;injection h with h1 h2;subst h2;exact aE _ _ _ _
  ·cases h
 ·split at h
  ·injection h with h;injection h with h1 h2;subst h2;exact Bc.rfl'
  ·cases h
 ·rename_i cs
  cases hs:Dp cs.length st cs with
  |none=>rw [hs] at h;cases h
  |some p=>rw [hs] at h;injection h with h;injection h with h1 h2;subst h2;exact Kw _ _ _ _ _ hs
 ·injection h with h;injection h with h1 h2;subst h2;exact Bc.rfl'
 ·cases h
theorem jK {T:Tab} {st st':St} {l:Nat} {t:TypeId} {τ:Ty} {cs:List AC} {v:AV} (h:mkVar T st l t τ cs=some (v,st')):Bc st st':=by
 unfold mkVar at h
 split at h
 ·cases h
 dsimp only at h
 split at h
 ·injection h with h;injection h with h1 h2;subst h2;exact (Hx _ _ _).trans (dU _ _ _ _ _ _ _)
 ·cases h
theorem vo {T:Tab} {st st':St} {t:TypeId} {p v:AV} (h:Ns T st t p v=some st'):Bc st st':=by
 unfold Ns at h
 split at h
 ·split at h
  ·split at h
   ·injection h with h
    split at h
    ·subst h;exact (Io _ _ _).trans (bS _ _ _ _ _ _ _ _)
    ·subst h;exact Io _ _ _
   ·cases h
  ·cases h
 ·split at h
  ·rename_i hs
   split at h
   ·split at h
    ·split at h
     ·injection h with h;subst h;exact (Lu hs).trans (Io _ _ _)
     ·cases h
    ·cases h
   ·cases h
  ·cases h
 ·cases h
theorem mC (st:St) (l j m:Nat) (e:Ty) (te:TypeId) (rows:List (List e.den)) (xs:List e.den) (kp:Option (Nat×Nat)):Bc st (Mr st l j m e te rows xs kp):=
 ((Jm st (Aw [m] [l]) (by simp [Aw,AC.refs]) λfr τ x=>by simp [Aw,AC.refs]).trans (Bc.Rg rfl)).trans (Io (st.Vr [m] [l]) _ _)
theorem mD (st:St) (l i m:Nat) (e:Ty) (te tid:TypeId) (rows:List (List e.den)) (kp:Option (Nat×Nat)):Bc st (Kb st l i m e te tid rows kp):=
 (Io st l _).trans (Hx _ m _)
theorem sa {T:Tab} {st st':St} {t:TypeId} {p v:AV} (h:Jr T st t p v=some st'):Bc st st':=by
 unfold Jr at h
 split at h
 rotate_left
 ·exact vo h
 unfold Up at h
 split at h
 ·split at h
  ·rename_i hs
   split at h
   ·split at h
    ·injection h with h;subst h;exact (Lu hs).trans (Io _ _ _)
    ·cases h
   ·cases h
  ·cases h
 ·split at h
  ·split at h
   ·split at h
    ·injection h with h;subst h
     exact mC _ _ _ _ _ _ _ _ _
    ·cases h
   ·cases h
  ·cases h
 ·cases h
theorem Zl {T:Tab} {st st':St} {d:Nat} {t:TypeId} {x y:Operand} {v:AV} (h:Ik T st d t x y=some (v,st')):Bc st st':=by
 unfold Ik at h
 split at h
 ·cases h
 ·split at h
  ·rename_i hs
   split at h
   ·cases h
   ·split at h
    ·split at h
     ·injection h with h;injection h with h1 h2;subst h2;exact ((Lu hs).trans (Hx _ _ _)).trans (Hx _ _ _)
     ·cases h
    ·split at h
     ·split at h
      ·split at h
       ·injection h with h;injection h with h1 h2;subst h2;exact (Lu hs).trans (Hx _ _ _)
       ·cases h
      ·cases h
     ·cases h
    ·cases h
  ·cases h
theorem oL {T:Tab} {st st':St} {d:Nat} {t:TypeId} {x y:Operand} {v:AV} (h:Lc T st d t x y=some (v,st')):Bc st st':=by
 unfold Lc at h
 split at h
 ·rename_i tx
  split at h
  ·rename_i l i c hg
   split at h
   ·split at h
    ·rename_i e te rows kp tid hl ht hc
     refine Bc.trans (b:=(Kb st l i d e te tid rows kp).put (some tx) (.at (.own d 0 (rows.getD i []).length))) ?_ (Zl h)
     intro t' fr τ z hz
     by_cases e':t'=tx
     ·subst e';rw [hg] at hz;cases hz
     ·rw [Uq _ _ e'];exact mD st l i d e te tid rows kp t' fr τ z hz
    ·cases h
   ·cases h
  ·exact Zl h
 ·exact Zl h
theorem ye {T:Tab} {st st':St} {d:Nat} {t:TypeId} {l c v:AV} (h:Um T st d t l c=some (v,st')):Bc st st':=by
 unfold Um at h
 split at h
 ·split at h
  ·split at h
   ·injection h with h;injection h with h1 h2;subst h2;exact Hx _ _ _
   ·cases h
  ·cases h
 ·cases h
theorem jL (e:Ty): ∀(l:List (Nat×Operand)) (i:Nat) (st st':St) (fr tr:Bool) (ys:List e.den),Gj e i l st=some (fr,tr,ys,st')->Bc st st'
 | [],_,_,_,_,_,_,h=>by
  simp only [Gj] at h
  injection h with h;injection h with h1 h2;injection h2 with h2 h3;injection h3 with h3 h4;subst h4;exact Bc.rfl'
 |(j,x)::r,i,st,st',fr,tr,ys,h=>by
  simp only [Gj] at h
  split at h
  ·split at h
   ·rename_i hs
    split at h
    ·split at h
     ·rename_i hp
      injection h with h;injection h with h1 h2;injection h2 with h2 h3;injection h3 with h3 h4;subst h4
      exact (Lu hs).trans (jL e r _ _ _ _ _ _ hp)
     ·cases h
    ·cases h
   ·cases h
  ·cases h
theorem iP {T:Tab} {st st':St} {d:Nat} {t:TypeId} {n:Nat} {parts:Array (Nat×Operand)} {v:AV} (h:He T st d t n parts=some (v,st')):Bc st st':=by
 unfold He at h
 split at h
 ·cases h
 ·split at h
  ·cases h
  ·split at h
   ·split at h
    ·rename_i hp
     injection h with h;injection h with h1 h2;subst h2;exact (jL _ _ _ _ _ _ _ _ hp).trans (Hx _ _ _)
    ·cases h
   ·cases h
theorem oN {T:Tab} {st st':St} {d:Nat} {t:TypeId} {v:AV} (h:Nr T st d t=some (v,st')):Bc st st':=by
 unfold Nr at h
 split at h
 ·split at h
  ·injection h with h;injection h with h1 h2;subst h2;exact Hx _ _ _
  ·cases h
 ·cases h
theorem gz {T:Tab} {st st':St} {t:TypeId} {m k x:AV} (h:Et T st t m k x=some st'):Bc st st':=by
 unfold Et at h
 split at h
 ·split at h
  ·split at h
   ·injection h with h;subst h;exact Io _ _ _
   ·cases h
  ·cases h
 ·cases h
theorem yd {T:Tab} {st st':St} {t t':TypeId} {x y v:AV} (h:bE T st t t' x y=some (v,st')):Bc st st':=by
 unfold bE at h
 split at h
 ·split at h
  ·split at h
   ·split at h
    ·injection h with h;injection h with h1 h2;subst h2;exact Io _ _ _
    ·cases h
   ·cases h
  ·cases h
 ·cases h
theorem vh {T:Tab} {st st':St} {t:TypeId} {x:AV} (h:evalClear T st t x=some st'):Bc st st':=by
 unfold evalClear at h
 split at h
 ·split at h
  ·split at h
   ·split at h
    ·injection h with h;subst h;exact Io _ _ _
    ·cases h
   ·cases h
  ·cases h
 ·cases h
theorem qD {st st':St} {c:CK} {ys:c.den} {a:AC} (h:Vl st c ys a=some st'):st'.tmps=st.tmps:=by
 unfold Vl at h
 repeat' split at h
 all_goals first|(cases h;done)|(simp only [Option.some.injEq] at h;subst h;rfl)|skip
theorem DR {st st':St} {e:Ty} {ys:List e.den} {a:AC} (h:yO st e ys a=some st'):st'.tmps=st.tmps:=by
 unfold yO at h
 repeat' split at h
 all_goals first|(cases h;done)|(simp only [Option.some.injEq] at h;subst h;rfl)|skip
theorem Nl: ∀(cs:List (Bool×CK)) (o:IOs.den cs) (as:List AC) (st st':St),Ed cs o as st=some st'->st'.tmps=st.tmps
 | [],_,_,st,st',h=>by simp only [Ed,Option.some.injEq] at h;subst h;rfl
 |(true, .Fm _)::r,o,[],st,st',h=>by simp [Ed] at h
 |(true, .row _ _)::r,o,[],st,st',h=>by simp [Ed] at h
 |(true, .Ds _ _)::r,o,[],st,st',h=>by simp [Ed] at h
 |(true, .part _ _)::r,o,[],st,st',h=>by simp [Ed] at h
 |(true, .Ak _ _ _)::r,o,[],st,st',h=>by simp [Ed] at h
 |(true, .Ak _ _ _)::r,o,a::as,st,st',h=>Nl r o as st st' (by simpa only [Ed] using h)
 |(false,_)::r,o,[],st,st',h=>by simp [Ed] at h
 |(true, .Fm _)::r,o,a::as,st,st',h=>Nl r o as st st' (by simpa only [Ed] using h)
 |(false,_)::r,o,a::as,st,st',h=>Nl r o as st st' (by simpa only [Ed] using h)
 |(true, .row _ _)::r,o,a::as,st,st',h=>by
  simp only [Ed] at h
  split at h
  ·rename_i hc;exact (Nl r o.2 as _ st' h).trans (qD hc)
  ·cases h
 |(true, .part _ _)::r,o,a::as,st,st',h=>by
  simp only [Ed] at h
  split at h
  ·rename_i hc;exact (Nl r o.2 as _ st' h).trans (DR hc)
  ·cases h
 |(true, .Ds _ _)::r,o,a::as,st,st',h=>by
  simp only [Ed] at h
  split at h
  ·rename_i hc;exact (Nl r o.2 as _ st' h).trans (qD hc)
  ·cases h
theorem s8 (aN st:St) (ls:List Nat) (n:Nat) (hl:aN.tmps.length=st.tmps.length) (h:Bc aN st):Bc aN (fa aN st ls n):=by
 unfold fa
 split
 ·exact h
 ·intro t fr τ x hx
  show (Gr _ aN.tmps st.tmps).getD t .undef=_
  rcases ai ls aN.tmps st.tmps t hl with ⟨k,i,c,h1,_⟩|h1
  ·rw [show aN.tmps.getD t .undef=_ from hx] at h1;cases h1
  ·rw [h1];exact h t fr τ x hx
theorem vg {st st':St} {d:Option Nat} {s:MSpec} {args:List AV} {v:AV} (h:Qb st d s args=some (v,st')):Bc st st':=by
 unfold Qb at h
 split at h
 ·cases h
 split at h
 ·cases h
 split at h
 ·cases h
 split at h
 ·split at h
  ·cases h
  split at h
  ·cases h
  rename_i st1 hp
  split at h
  ·cases h
  split at h
  ·simp only [Option.some.injEq,Prod.mk.injEq] at h
   obtain ⟨_,rfl⟩:=h
   have VA:=Nl _ _ _ _ _ hp
   refine s8 _ _ _ _ ?_ ?_
   ·simp only [eF,jd]
    rw [<-VA]
    simp only [St.Vr,St.Ge,List.length_map]
   ·refine Bc.trans (Bc.Rg VA) ?_
    refine Bc.trans (Jm st1 (Aw _ _) (by simp [Aw,AC.refs]) λfr τ x=>by simp [Aw,AC.refs]) (Bc.Rg jd)
  ·cases h
 ·cases h
theorem Wr (st:St) (k m:Nat) (b:OB):Bc st (Ku st k m b):=
 (Jm st (Aw [m,k] []) (by simp [Aw,AC.refs]) λfr τ x=>by simp [Aw,AC.refs]).trans (Bc.Rg rfl)
theorem vn {T:Tab} {st st':St} {d:Nat} {t:TypeId} {l c v:AV} (h:Qd T st d t l c=some (v,st')):Bc st st':=by
 unfold Qd at h
 split at h
 ·exact ye h
 ·split at h
  ·split at h
   ·injection h with h;injection h with h1 h2;subst h2;exact Wr _ _ _ _
   ·cases h
  ·cases h
theorem gx {T:Tab} {st st':St} {d:Nat} {t:TypeId} {n:Nat} {parts:Array (Nat×Operand)} {v:AV} (h:Er T st d t n parts=some (v,st')):Bc st st':=by
 unfold Er at h
 split at h
 ·exact iP h
 ·repeat' split at h
  all_goals first|(cases h;done)|(injection h with h;injection h with h1 h2;subst h2;exact Wr _ _ _ _)
theorem oM {T:Tab} {st st':St} {d:Nat} {t:TypeId} {x y:Operand} {v:AV} (h:Ld T st d t x y=some (v,st')):Bc st st':=by
 unfold Ld at h
 split at h
 ·exact oL h
 ·repeat' split at h
  all_goals first|(cases h;done)|(injection h with h;injection h with h1 h2;subst h2;exact Wr _ _ _ _)
theorem Xy {st st':St} {v:AV} {o:Option AV} (h:o.map (λv=>(v,st))=some (v,st')):Bc st st':=by
 cases o with
 |none=>cases h
 |some u=>injection h with h;injection h with h1 h2;subst h2;exact Bc.rfl'
theorem Sk: ∀(l:List Operand) {st st1:St},Jh l st=some st1->Bc st st1
 | [],st,st1,h=>by
  simp only [Jh,Option.some.injEq] at h
  subst h
  exact Bc.rfl'
 |x::r,st,st1,h=>by
  simp only [Jh] at h
  cases hs:settle st (st.ev x) with
  |none=>rw [hs] at h;cases h
  |some p=>
   rw [hs] at h
   exact (Lu (v':=p.1) (st':=p.2) hs).trans (Sk r h)
theorem fY {T:Tab} {Γ:Env} {st st':St} {o:Oper} {v:AV} (h:evalOp T Γ st o=some (v,st')):Bc st st':=by
 unfold evalOp at h
 split at h
 ·split at h
  ·split at h
   ·injection h with h;injection h with h1 h2;subst h2;exact Hx _ _ _
   ·cases h
  ·injection h with h;injection h with h1 h2;subst h2;exact Bc.rfl'
 ·split at h
  ·exact jK h
  ·cases h
 ·split at h
  ·split at h
   ·exact jK h
   ·cases h
  ·cases h
 ·rename_i t p x _
  cases hs:Jr T st t (st.ev p) (st.ev x) with
  |none=>rw [hs] at h;cases h
  |some s=>rw [hs] at h;injection h with h;injection h with h1 h2;subst h2;exact sa hs
 ·split at h
  ·exact vn h
  ·cases h
 ·split at h
  ·exact oN h
  ·cases h
 ·rename_i t m k x _
  cases hs:Et T st t (st.ev m) (st.ev k) (st.ev x) with
  |none=>rw [hs] at h;cases h
  |some s=>rw [hs] at h;injection h with h;injection h with h1 h2;subst h2;exact gz hs
 ·rename_i t m k x _
  cases hs:Et T st t (st.ev m) (st.ev k) (st.ev x) with
  |none=>rw [hs] at h;cases h
  |some s=>rw [hs] at h;injection h with h;injection h with h1 h2;subst h2;exact gz hs
 ·split at h
  ·exact gx h
  ·cases h
 ·exact Xy h
 ·split at h
  ·split at h
   ·exact oM h
   ·cases h
  ·cases h
 ·split at h
  ·exact yd h
  ·cases h
 ·split at h
  ·rename_i x t _ _
   cases hs:evalClear T st t (st.ev x) with
   |none=>rw [hs] at h;cases h
   |some s=>rw [hs] at h;injection h with h;injection h with h1 h2;subst h2;exact vh hs
  ·cases h
 ·split at h
  ·exact vg h
  ·split at h
   ·rename_i args _ _ _ _ _ _
    cases hs:Jh args.toList st with
    |none=>rw [hs] at h;cases h
    |some st1=>
     rw [hs] at h
     exact (Sk _ hs).trans (Xy h)
   ·exact Xy h
  ·exact Xy h
 ·exact Xy h
def Kq:List Oper->List Nat
 | []=> []
 |o::r=>(match o.dst with|some d=> [d]|none=> [])++Kq r
def writes:Code->List Nat
 | .region _ ops _=>Kq ops.toList
 | .seq a b=>writes a++writes b
 | .cond _ a b=>writes a++writes b
 | .block _ c=>writes c
 | .loop c=>writes c
 |_=> []
def Fa (P:Nat->Prop) (st st':St):Prop:= ∀(t:Nat) (fr:Bool) (τ:Ty) (x:τ.den),P t->st.get t= .at (.data fr τ x)->st'.get t= .at (.data fr τ x)
theorem Fa.trans {P:Nat->Prop} {a b c:St} (h1:Fa P a b) (h2:Fa P b c):Fa P a c:= λt fr τ x hp h=>h2 t fr τ x hp (h1 t fr τ x hp h)
theorem Fa.mono {P Q:Nat->Prop} {a b:St} (h1:Fa P a b) (h: ∀t,Q t->P t):Fa Q a b:= λt fr τ x hp hx=>h1 t fr τ x (h t hp) hx
theorem Bc.on {P:Nat->Prop} {a b:St} (h:Bc a b):Fa P a b:= λt fr τ x _ hx=>h t fr τ x hx
theorem Vv (st:St) (dst:Option Tmp) (v:AV):Fa (λt=>dst≠some t) st (st.put dst v):=by
 intro t fr τ x hp hx
 cases dst with
 |none=>exact hx
 |some d=>rw [Uq st v (λh=>hp (by rw [h]))];exact hx
theorem bF {T:Tab} {Γ:Env} {ops:Array Oper} {st st':St} {o:Oper} (h:Cf T Γ ops st o=some st'):Fa (λt=>o.dst≠some t) st st':=by
 have key: ∀s,(evalOp T Γ st o).map (λr=>r.2.put o.dst r.1)=some s->Fa (λt=>o.dst≠some t) st s:=by
  intro s hs
  cases he:evalOp T Γ st o with
  |none=>rw [he] at hs;cases hs
  |some p=>rw [he] at hs;injection hs with hs;subst hs;exact (fY (v:=p.1) (st':=p.2) he).on.trans (Vv _ _ _)
 unfold Cf at h
 split at h
 ·exact key _ h
 ·split at h
  ·split at h
   ·exact key _ h
   ·injection h with h;subst h;exact Vv _ _ _
  ·injection h with h;subst h;exact Vv _ _ _
  ·cases h
theorem dI {T:Tab} {Γ:Env} {ops:Array Oper} : ∀(l:List Oper) (st st':St),Tf T Γ ops l st=some st'->Fa (λt=>t∉Kq l) st st'
 | [],st,st',h=>by injection h with h;subst h;exact Bc.rfl'.on
 |o::r,st,st',h=>by
  simp only [Tf] at h
  split at h
  ·rename_i s hs
   refine Fa.trans ((bF hs).mono λt ht=>?_) ((dI r _ _ h).mono λt ht=>?_)
   ·intro hd;apply ht;simp [Kq,hd]
   ·intro hd;apply ht;simp [Kq,hd]
  ·cases h
theorem Wt: ∀(l:List Oper) (o:Oper) (d:Nat),o∈l->o.dst=some d->d∈Kq l
 | [],_,_,h,_=>by cases h
 |p::r,o,d,h,hd=>by
  cases h with
  |head=>simp [Kq,hd]
  |tail _ h=>simp only [Kq,List.mem_append];exact .inr (Wt r o d h hd)
theorem qp {ops:Array Oper} {i:Nat} {o:Oper} (h:ops[i]?=some o):o∈ops.toList:=by
 rw [Array.getElem?_eq_some_iff] at h
 obtain ⟨h1,h2⟩:=h
 rw [<-h2]
 simp
theorem Wq {T:Tab} {Γ:Env} {ops:Array Oper} : ∀(l:List Nat) (st st':St),Iy T Γ ops l st=some st'->Fa (λt=>t∉Kq ops.toList) st st'
 | [],st,st',h=>by injection h with h;subst h;exact Bc.rfl'.on
 |i::r,st,st',h=>by
  simp only [Iy] at h
  split at h
  ·cases h
  ·rename_i o ho
   split at h
   ·rename_i s hs
    exact ((bF hs).mono λt ht hd=>ht (Wt _ _ _ (qp ho) hd)).trans (Wq r _ _ h)
   ·cases h
theorem Un {T:Tab} {Γ:Env} {ops:Array Oper} : ∀(l:List Nat) (st st':St),Ec T Γ ops l st=some st'->Fa (λt=>t∉Kq ops.toList) st st'
 | [],st,st',h=>by injection h with h;subst h;exact Bc.rfl'.on
 |i::r,st,st',h=>by
  simp only [Ec] at h
  split at h
  ·cases h
  ·rename_i o ho
   split at h
   ·exact ((Vv _ _ _).mono λt ht hd=>ht (Wt _ _ _ (qp ho) hd)).trans (Un r _ _ h)
   ·cases h
theorem aD: ∀(l:List Nat) (st:St),Bc st (Xq l st)
 | [],_=>Bc.rfl'
 |a::r,st=>(gy st a).trans (aD r _)
theorem bt (live:List Nat): ∀(i:Nat) (l:List AV) (t:Nat),i+t∈live->(Fw live i l).getD t .undef=l.getD t .undef
 |_,[],_,_=>rfl
 |i,v::r,0,h=>by simp [Fw];intro hn;exact absurd h hn
 |i,v::r,t+1,h=>by
  simp only [Fw,List.getD_cons_succ]
  exact bt live (i+1) r t (by rw [show i+1+t=i+(t+1) by omega];exact h)
theorem s9 (l k:Nat) (st:St):Bc st (st.rename l k):=by
 unfold St.rename
 split
 ·split
  ·exact (Jm st (Nw l k) rfl λ_ _ _=>rfl).trans (Bc.Rg rfl)
  ·exact Bc.rfl'
 ·exact Bc.rfl'
theorem Ya: ∀(n t:Nat) (st:St),Bc st (Hk n t st)
 |0,_,_=>Bc.rfl'
 |n+1,t,st=>by
  simp only [Hk]
  refine Bc.trans ?_ (Ya n (t+1) _)
  split
  ·split
   ·split
    ·exact Bc.rfl'
    ·exact s9 _ _ _
   ·exact Bc.rfl'
  ·exact Bc.rfl'
theorem mE (t:Nat) (st:St):Bc st (Vb t st):=by
 unfold Vb
 split
 ·rename_i l off len hg
  split
  ·split
   ·intro k fr τ x hk
    have Fe:k≠t:= λe=>by subst e;rw [hg] at hk;cases hk
    rw [Uq _ _ Fe]
    exact Hx _ _ _ k fr τ x hk
   ·exact Bc.rfl'
  ·exact Bc.rfl'
 ·exact Bc.rfl'
theorem aF (live:List Nat): ∀(n t:Nat) (st:St),Bc st (Jg live n t st)
 |0,_,_=>Bc.rfl'
 |n+1,t,st=>by
  simp only [Jg]
  refine Bc.trans ?_ (aF live n (t+1) _)
  split
  ·exact mE _ _
  ·exact Bc.rfl'
theorem dT (live:List Nat) (st:St):Fa (λt=>t∈live) st (st.clean live):=by
 intro t fr τ x hp hx
 unfold St.clean
 have key: ∀s:St,s.get t= .at (.data fr τ x)->(if live.contains Wa then Hk s.tmps.length 0 s else s).get t= .at (.data fr τ x):=by
  intro s hs
  split
  ·exact Ya _ _ s t fr τ x hs
  ·exact hs
 have ID: ∀s:St,s.get t= .at (.data fr τ x)->(if live.any (λt=>Nat.ble Se t) then s.Eu live else s).get t= .at (.data fr τ x):=by
  intro s hs
  split<;>exact hs
 have IE: ∀s:St,s.get t= .at (.data fr τ x)->(if live.any (λt=>Nat.ble Lk t&&Nat.blt t Wa) then Jg live s.tmps.length 0 s else s).get t= .at (.data fr τ x):=by
  intro s hs
  split
  ·exact aF _ _ _ s t fr τ x hs
  ·exact hs
 refine ID _ (key _ (IE _ (aD _ _ t fr τ x ?_)))
 simp only [St.get] at hx⊢
 rw [bt live 0 st.tmps t (by simpa using hp)]
 exact hx
def Uu (live:Nat->List Nat):Code->Nat->Bool
 | .seq a b,t=>Uu live a t&&Uu live b t
 | .cond _ a b,t=>Uu live a t&&Uu live b t
 | .block _ c,t=>Uu live c t
 | .loop c,t=>(live (Cc c)).contains t&&Uu live c t
 |_,_=>true
theorem iw {a b:Bool} (h:(a&&b)=true):a=true:=by cases a<;>simp_all
theorem eG {a b:Bool} (h:(a&&b)=true):b=true:=by cases a<;>simp_all
theorem iB {T:Tab} {Γ:Env} {ops:Array Oper} {draw:Bool} {st st':St} (h:Le T Γ ops draw st=some st'):Fa (λt=>t∉writes (.region 0 ops draw)) st st':=by
 unfold Le at h
 have go: ∀q,(match Ec T Γ ops (cW q Γ ops) st with
   |some s=>Iy T Γ ops (Fc q Γ ops) s
   |none=>none)=some st'->Fa (λt=>t∉writes (.region 0 ops draw)) st st':=by
  intro q h
  split at h
  ·rename_i s hs
   exact (Un _ _ _ hs).trans (Wq _ _ _ h)
  ·cases h
 split at h
 ·split at h
  ·exact go false h
  ·split at h
   ·exact go true h
   ·cases h
 ·exact dI _ _ _ h
theorem lH {T:Tab} {Γ:Env} {ops:Array Oper} {draw:Bool} {K:St->Prop} (s0:St): ∀(f:Nat) (Ab:Array Bool) (st:St),Fa (λt=>t∉writes (.region 0 ops draw)) s0 st->anyS T Γ ops K f Ab st->anyS T Γ ops (λs=>K s/\Fa (λt=>t∉writes (.region 0 ops draw)) s0 s) f Ab st
 |0,_,_,hk,h=>⟨h.1,h.2,hk⟩
 |f+1,Ab,st,hk,h=>⟨h.1,λi hi=>by
  obtain ⟨o,st',h1,h2,h3⟩:=h.2 i hi
  have h4:Iy T Γ ops [i] st=some st':=by simp only [Iy,h1,h2]
  exact ⟨o,st',h1,h2,lH s0 f _ _ (hk.trans (Wq _ _ _ h4)) h3⟩⟩
theorem r9.keeps {T:Tab} {Γ:Env} {ops:Array Oper} {draw:Bool} {st:St} {K:St->Prop} (h:r9 T Γ ops draw st K):r9 T Γ ops draw st (λs=>K s/\Fa (λt=>t∉writes (.region 0 ops draw)) st s):=by
 rcases h with ⟨st',h1,h2⟩|⟨h1,h2,aN,h3,h4⟩
 ·exact .inl ⟨st',h1,h2,iB h1⟩
 ·exact .inr ⟨h1,h2,aN,h3,lH st _ _ _ (Un _ _ _ h3) h4⟩
theorem yY {T:Tab} {Γ:Env} {live:Nat->List Nat} {c:Code} {st:St} {Q:Gp->St->Prop} (h:Iw T Γ live c st Q): ∀(s0:St) (p:Nat->Prop),Fa p s0 st->(∀t,p t->t∉writes c/\Uu live c t=true)->Iw T Γ live c st (λe s=>Q e s/\Fa p s0 s):=by
 induction h with
 |skip h=>exact λs0 p hk _=> .skip ⟨h,hk⟩
 |label h=>exact λs0 p hk _=> .label ⟨h,hk⟩
 |exit h=>exact λs0 p hk _=> .exit ⟨h,hk⟩
 |ret h=>exact λs0 p hk _=> .ret ⟨h,hk⟩
 |region h=>
  exact λs0 p hk hp=> .region (h.keeps.mono λs hs=>⟨hs.1,hk.trans (hs.2.mono λt ht=>(hp t ht).1)⟩)
 |seq Q1 _ _ h3 CG va=>
  exact λs0 p hk hp=> .seq _ (CG s0 p hk λt ht=>⟨λhm=>(hp t ht).1 (by simp [writes,hm]),iw (hp t ht).2⟩)
   (λs hs=>va s hs.1 s0 p hs.2 λt ht=>⟨λhm=>(hp t ht).1 (by simp [writes,hm]),eG (hp t ht).2⟩) λe s he hs=>⟨h3 e s he hs.1,hs.2⟩
 |cond hc _ _ CG va=>
  exact λs0 p hk hp=> .cond hc (λht=>CG ht s0 p hk λt h=>⟨λhm=>(hp t h).1 (by simp [writes,hm]),iw (hp t h).2⟩)
   fun ht=>va ht s0 p hk λt h=>⟨λhm=>(hp t h).1 (by simp [writes,hm]),eG (hp t h).2⟩
 |block Q1 _ h2 ih=>
  exact λs0 p hk hp=> .block _ (ih s0 p hk λt ht=>⟨λhm=>(hp t ht).1 (by simpa [writes] using hm),by simpa [Uu] using (hp t ht).2⟩) λe s hs=>by
   have h:=h2 e s hs.1
   cases e with
   |normal=>exact ⟨h,hs.2⟩
   |ret=>exact ⟨h,hs.2⟩
   |exit CF=>
    simp only [qb] at h⊢
    split at h
    ·rename_i hi;rw [if_pos hi];exact ⟨h,hs.2⟩
    ·rename_i hi;rw [if_neg hi];exact ⟨h,hs.2⟩
 |loop Q1 _ _ h3 CG va=>
  intro s0 p hk hp
  refine .loop _ (CG s0 p (hk.trans ((dT _ _).mono λt ht=>by simpa using iw (hp t ht).2)) λt ht=>⟨λhm=>(hp t ht).1 (by simpa [writes] using hm),eG (hp t ht).2⟩)
   (λs hs=>va s hs.1 s0 p hs.2 hp) λe s he hs=>⟨h3 e s he hs.1,hs.2⟩
end Go.Proofs.Ytjbdmibbbpdnnaa
