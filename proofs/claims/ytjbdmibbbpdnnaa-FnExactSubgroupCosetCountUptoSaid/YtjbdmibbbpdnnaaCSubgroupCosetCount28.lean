/-
  Part 29 of the proof that the statement FnExactSubgroupCosetCount holds.
-/
import Derived.Test.YtjbdmibbbpdnnaaCSubgroupCosetCount27
namespace Go.Proofs.Ytjbdmibbbpdnnaa
open Go.RowKit
def Av (st st':St):Prop:= ∀(t:Nat) (fr:Bool) (τ:Ty) (x:τ.den),st.get t= .at (.data fr τ x)->st'.get t= .at (.data fr τ x)
theorem Av.rfl' {st:St} :Av st st:= λ_ _ _ _ h=>h
theorem Av.trans {a b c:St} (h1:Av a b) (h2:Av b c):Av a c:= λt fr τ x h=>h2 t fr τ x (h1 t fr τ x h)
theorem Av.Ps {a b:St} (h:b.tmps=a.tmps):Av a b:= λt fr τ x hx=>by
 simp only [St.get] at hx⊢
 rw [h]
 exact hx
theorem Sx (st:St) {t d:Nat} (v:AV) (h:t≠d):(st.put (some d) v).get t=st.get t:=by
 simp only [St.put,St.get]
 rw [Sf]
 rw [if_neg (by rintro ⟨rfl,_⟩;exact h rfl)]
theorem Is (st:St) (f:AC->AC) (hu:f .undef= .undef) (hd: ∀fr (τ:Ty) (x:τ.den),f (.data fr τ x)= .data fr τ x):Av st (st.Fl f):=by
 intro t fr τ x h
 simp only [St.Fl,St.get]
 rw [Qa f hu,show st.tmps.getD t .undef=_ from h]
 simp only [AV.map,hd]
theorem eY (st:St) (l:Nat):Av st (st.forget l):=
 (Is st (As l) rfl λ_ _ _=>rfl).trans (Av.Ps rfl)
theorem Rq (st:St) (l:Nat) (fr:Bool) (e:Ty) (xs:List e.den):Av st (st.freeze l fr e xs):=
 (Is st (At l fr e xs) rfl λ_ _ _=>rfl).trans (Av.Ps rfl)
theorem Zh (st:St) (l:Nat) (v:Ty) (m:ByteArray->Option v.den):Av st (st.Dw l v m):=
 (Is st (Cs l v m) rfl λ_ _ _=>rfl).trans (Av.Ps rfl)
theorem He (st:St) (l:Nat) (b:OB):Av st (st.new l b):=(eY st l).trans (Av.Ps rfl)
theorem Hs (st:St) (l:Nat) (b:OB):Av st (st.Fb l b):=Av.Ps rfl
theorem Wf (b:OB) (key l i:Nat) (st:St):Av st (Mh b key l i st):=by
 unfold Mh
 split
 ·split
  ·dsimp only
   split
   ·exact (He _ _ _).trans (Hs _ _ _)
   ·exact He _ _ _
  ·exact Av.rfl'
 ·exact Av.rfl'
theorem cJ (T:Tab) (l:Nat) (t:TypeId) (τ:Ty): ∀(n i:Nat) (st:St),Av st (Yc T l t τ n i st)
 |0,_,_=>Av.rfl'
 |n+1,i,st=>by
  simp only [Yc]
  refine Av.trans ?_ (cJ T l t τ n (i+1) _)
  split
  ·exact Wf _ _ _ _ _
  ·exact Av.rfl'
theorem aM (T:Tab) (l off:Nat) (t:TypeId) (τ:Ty): ∀(n i:Nat) (st:St),Av st (Wk T l off t τ n i st)
 |0,_,_=>Av.rfl'
 |n+1,i,st=>by
  simp only [Wk]
  refine Av.trans ?_ (aM T l off t τ n (i+1) _)
  split
  ·exact Wf _ _ _ _ _
  ·exact Av.rfl'
theorem Ka: ∀(n:Nat) (st:St) (cs au:List AC) (st':St),Cz n st cs=some (au,st')->Av st st'
 |0,st,cs,au,st',h=>by
  simp only [Cz] at h
  split at h
  ·injection h with h;injection h with h1 h2;subst h2;exact Av.rfl'
  ·cases h
 |n+1,st,cs,au,st',h=>by
  simp only [Cz] at h
  split at h
  ·injection h with h;injection h with h1 h2;subst h2;exact Av.rfl'
  ·split at h
   ·exact (Rq _ _ _ _ _).trans (Ka n _ _ _ _ h)
   ·exact (Rq _ _ _ _ _).trans (Ka n _ _ _ _ h)
   ·cases h
  ·split at h
   ·exact (Zh _ _ _ _).trans (Ka n _ _ _ _ h)
   ·cases h
  ·cases h
theorem Ks {st st':St} {v v':AV} (h:settle st v=some (v',st')):Av st st':=by
 unfold settle at h
 split at h
 ·split at h
  ·injection h with h;injection h with h1 h2;subst h2;exact Rq _ _ _ _ _
  ·injection h with h;injection h with h1 h2;subst h2;exact Rq _ _ _ _ _
  ·cases h
 ·split at h
  ·injection h with h;injection h with h1 h2;subst h2;exact Zh _ _ _ _
  ·cases h
 ·split at h
  ·injection h with h;injection h with h1 h2;subst h2;exact Av.rfl'
  ·cases h
 ·rename_i cs
  cases hs:Cz cs.length st cs with
  |none=>rw [hs] at h;cases h
  |some p=>rw [hs] at h;injection h with h;injection h with h1 h2;subst h2;exact Ka _ _ _ _ _ hs
 ·injection h with h;injection h with h1 h2;subst h2;exact Av.rfl'
 ·cases h
theorem iB {T:Tab} {st st':St} {l:Nat} {t:TypeId} {τ:Ty} {cs:List AC} {v:AV} (h:mkVar T st l t τ cs=some (v,st')):Av st st':=by
 unfold mkVar at h
 split at h
 ·cases h
 dsimp only at h
 split at h
 ·injection h with h;injection h with h1 h2;subst h2;exact (He _ _ _).trans (cJ _ _ _ _ _ _ _)
 ·cases h
theorem sm {T:Tab} {st st':St} {t:TypeId} {p v:AV} (h:Mm T st t p v=some st'):Av st st':=by
 unfold Mm at h
 split at h
 ·split at h
  ·split at h
   ·injection h with h
    split at h
    ·subst h;exact (Hs _ _ _).trans (aM _ _ _ _ _ _ _ _)
    ·subst h;exact Hs _ _ _
   ·cases h
  ·cases h
 ·split at h
  ·rename_i hs
   split at h
   ·split at h
    ·split at h
     ·injection h with h;subst h;exact (Ks hs).trans (Hs _ _ _)
     ·cases h
    ·cases h
   ·cases h
  ·cases h
 ·cases h
theorem kI (st:St) (l j m:Nat) (e:Ty) (te:TypeId) (rows:List (List e.den)) (xs:List e.den) (kp:Option (Nat×Nat)):Av st (Ln st l j m e te rows xs kp):=
 ((Is st (Ap [m] [l]) (by simp [Ap,AC.refs]) λfr τ x=>by simp [Ap,AC.refs]).trans (Av.Ps rfl)).trans (Hs (st.Tz [m] [l]) _ _)
theorem kJ (st:St) (l i m:Nat) (e:Ty) (te tid:TypeId) (rows:List (List e.den)) (kp:Option (Nat×Nat)):Av st (Jg st l i m e te tid rows kp):=
 (Hs st l _).trans (He _ m _)
theorem po {T:Tab} {st st':St} {t:TypeId} {p v:AV} (h:Iv T st t p v=some st'):Av st st':=by
 unfold Iv at h
 split at h
 rotate_left
 ·exact sm h
 unfold Sw at h
 split at h
 ·split at h
  ·rename_i hs
   split at h
   ·split at h
    ·injection h with h;subst h;exact (Ks hs).trans (Hs _ _ _)
    ·cases h
   ·cases h
  ·cases h
 ·split at h
  ·split at h
   ·split at h
    ·injection h with h;subst h
     exact kI _ _ _ _ _ _ _ _ _
    ·cases h
   ·cases h
  ·cases h
 ·cases h
theorem Xs {T:Tab} {st st':St} {d:Nat} {t:TypeId} {x y:Operand} {v:AV} (h:Hp T st d t x y=some (v,st')):Av st st':=by
 unfold Hp at h
 split at h
 ·cases h
 ·split at h
  ·rename_i hs
   split at h
   ·cases h
   ·split at h
    ·split at h
     ·injection h with h;injection h with h1 h2;subst h2;exact ((Ks hs).trans (He _ _ _)).trans (He _ _ _)
     ·cases h
    ·split at h
     ·split at h
      ·split at h
       ·injection h with h;injection h with h1 h2;subst h2;exact (Ks hs).trans (He _ _ _)
       ·cases h
      ·cases h
     ·cases h
    ·cases h
  ·cases h
theorem mr {T:Tab} {st st':St} {d:Nat} {t:TypeId} {x y:Operand} {v:AV} (h:Kf T st d t x y=some (v,st')):Av st st':=by
 unfold Kf at h
 split at h
 ·rename_i tx
  split at h
  ·rename_i l i c hg
   split at h
   ·split at h
    ·rename_i e te rows kp tid hl ht hc
     refine Av.trans (b:=(Jg st l i d e te tid rows kp).put (some tx) (.at (.own d 0 (rows.getD i []).length))) ?_ (Xs h)
     intro t' fr τ z hz
     by_cases e':t'=tx
     ·subst e';rw [hg] at hz;cases hz
     ·rw [Sx _ _ e'];exact kJ st l i d e te tid rows kp t' fr τ z hz
    ·cases h
   ·cases h
  ·exact Xs h
 ·exact Xs h
theorem vh {T:Tab} {st st':St} {d:Nat} {t:TypeId} {l c v:AV} (h:Ss T st d t l c=some (v,st')):Av st st':=by
 unfold Ss at h
 split at h
 ·split at h
  ·split at h
   ·injection h with h;injection h with h1 h2;subst h2;exact He _ _ _
   ·cases h
  ·cases h
 ·cases h
theorem iC (e:Ty): ∀(l:List (Nat×Operand)) (i:Nat) (st st':St) (fr tr:Bool) (ys:List e.den),Fu e i l st=some (fr,tr,ys,st')->Av st st'
 | [],_,_,_,_,_,_,h=>by
  simp only [Fu] at h
  injection h with h;injection h with h1 h2;injection h2 with h2 h3;injection h3 with h3 h4;subst h4;exact Av.rfl'
 |(j,x)::r,i,st,st',fr,tr,ys,h=>by
  simp only [Fu] at h
  split at h
  ·split at h
   ·rename_i hs
    split at h
    ·split at h
     ·rename_i hp
      injection h with h;injection h with h1 h2;injection h2 with h2 h3;injection h3 with h3 h4;subst h4
      exact (Ks hs).trans (iC e r _ _ _ _ _ _ hp)
     ·cases h
    ·cases h
   ·cases h
  ·cases h
theorem gn {T:Tab} {st st':St} {d:Nat} {t:TypeId} {n:Nat} {parts:Array (Nat×Operand)} {v:AV} (h:Gk T st d t n parts=some (v,st')):Av st st':=by
 unfold Gk at h
 split at h
 ·cases h
 ·split at h
  ·cases h
  ·split at h
   ·split at h
    ·rename_i hp
     injection h with h;injection h with h1 h2;subst h2;exact (iC _ _ _ _ _ _ _ _ hp).trans (He _ _ _)
    ·cases h
   ·cases h
theorem mw {T:Tab} {st st':St} {d:Nat} {t:TypeId} {v:AV} (h:Ml T st d t=some (v,st')):Av st st':=by
 unfold Ml at h
 split at h
 ·split at h
  ·injection h with h;injection h with h1 h2;subst h2;exact He _ _ _
  ·cases h
 ·cases h
theorem eZ {T:Tab} {st st':St} {t:TypeId} {m k x:AV} (h:Ee T st t m k x=some st'):Av st st':=by
 unfold Ee at h
 split at h
 ·split at h
  ·split at h
   ·injection h with h;subst h;exact Hs _ _ _
   ·cases h
  ·cases h
 ·cases h
theorem vg {T:Tab} {st st':St} {t t':TypeId} {x y v:AV} (h:az T st t t' x y=some (v,st')):Av st st':=by
 unfold az at h
 split at h
 ·split at h
  ·split at h
   ·split at h
    ·injection h with h;injection h with h1 h2;subst h2;exact Hs _ _ _
    ·cases h
   ·cases h
  ·cases h
 ·cases h
theorem sk {T:Tab} {st st':St} {t:TypeId} {x:AV} (h:evalClear T st t x=some st'):Av st st':=by
 unfold evalClear at h
 split at h
 ·split at h
  ·split at h
   ·split at h
    ·injection h with h;subst h;exact Hs _ _ _
    ·cases h
   ·cases h
  ·cases h
 ·cases h
theorem o5 {st st':St} {c:CK} {ys:c.den} {a:AC} (h:Tr st c ys a=some st'):st'.tmps=st.tmps:=by
 unfold Tr at h
 repeat' split at h
 all_goals first|(cases h;done)|(simp only [Option.some.injEq] at h;subst h;rfl)|skip
theorem yJ {st st':St} {e:Ty} {ys:List e.den} {a:AC} (h:vS st e ys a=some st'):st'.tmps=st.tmps:=by
 unfold vS at h
 repeat' split at h
 all_goals first|(cases h;done)|(simp only [Option.some.injEq] at h;subst h;rfl)|skip
theorem Mi: ∀(cs:List (Bool×CK)) (o:IOs.den cs) (as:List AC) (st st':St),Dl cs o as st=some st'->st'.tmps=st.tmps
 | [],_,_,st,st',h=>by simp only [Dl,Option.some.injEq] at h;subst h;rfl
 |(true, .Gd _)::r,o,[],st,st',h=>by simp [Dl] at h
 |(true, .row _ _)::r,o,[],st,st',h=>by simp [Dl] at h
 |(true, .Dc _ _)::r,o,[],st,st',h=>by simp [Dl] at h
 |(true, .part _ _)::r,o,[],st,st',h=>by simp [Dl] at h
 |(true, .Ah _ _ _)::r,o,[],st,st',h=>by simp [Dl] at h
 |(true, .Ah _ _ _)::r,o,a::as,st,st',h=>Mi r o as st st' (by simpa only [Dl] using h)
 |(false,_)::r,o,[],st,st',h=>by simp [Dl] at h
 |(true, .Gd _)::r,o,a::as,st,st',h=>Mi r o as st st' (by simpa only [Dl] using h)
 |(false,_)::r,o,a::as,st,st',h=>Mi r o as st st' (by simpa only [Dl] using h)
 |(true, .row _ _)::r,o,a::as,st,st',h=>by
  simp only [Dl] at h
  split at h
  ·rename_i hc;exact (Mi r o.2 as _ st' h).trans (o5 hc)
  ·cases h
 |(true, .part _ _)::r,o,a::as,st,st',h=>by
  simp only [Dl] at h
  split at h
  ·rename_i hc;exact (Mi r o.2 as _ st' h).trans (yJ hc)
  ·cases h
 |(true, .Dc _ _)::r,o,a::as,st,st',h=>by
  simp only [Dl] at h
  split at h
  ·rename_i hc;exact (Mi r o.2 as _ st' h).trans (o5 hc)
  ·cases h
theorem pj (Zq st:St) (ls:List Nat) (n:Nat) (hl:Zq.tmps.length=st.tmps.length) (h:Av Zq st):Av Zq (dM Zq st ls n):=by
 unfold dM
 split
 ·exact h
 ·intro t fr τ x hx
  show (Ga _ Zq.tmps st.tmps).getD t .undef=_
  rcases Yp ls Zq.tmps st.tmps t hl with ⟨k,i,c,h1,_⟩|h1
  ·rw [show Zq.tmps.getD t .undef=_ from hx] at h1;cases h1
  ·rw [h1];exact h t fr τ x hx
theorem sj {st st':St} {d:Option Nat} {s:MSpec} {args:List AV} {v:AV} (h:Ol st d s args=some (v,st')):Av st st':=by
 unfold Ol at h
 split at h
 ·cases h
 split at h
 ·cases h
 split at h
 ·cases h
 split at h
 ·split at h
  ·cases h
  split at h
  ·cases h
  rename_i st1 hp
  split at h
  ·cases h
  split at h
  ·simp only [Option.some.injEq,Prod.mk.injEq] at h
   obtain ⟨_,rfl⟩:=h
   have NA:=Mi _ _ _ _ _ hp
   refine pj _ _ _ _ ?_ ?_
   ·simp only [dr,gQ]
    rw [<-NA]
    simp only [St.Tz,St.Fl,List.length_map]
   ·refine Av.trans (Av.Ps NA) ?_
    refine Av.trans (Is st1 (Ap _ _) (by simp [Ap,AC.refs]) λfr τ x=>by simp [Ap,AC.refs]) (Av.Ps gQ)
  ·cases h
 ·cases h
theorem Uw (st:St) (k m:Nat) (b:OB):Av st (Jy st k m b):=
 (Is st (Ap [m,k] []) (by simp [Ap,AC.refs]) λfr τ x=>by simp [Ap,AC.refs]).trans (Av.Ps rfl)
theorem sl {T:Tab} {st st':St} {d:Nat} {t:TypeId} {l c v:AV} (h:On T st d t l c=some (v,st')):Av st st':=by
 unfold On at h
 split at h
 ·exact vh h
 ·split at h
  ·split at h
   ·injection h with h;injection h with h1 h2;subst h2;exact Uw _ _ _ _
   ·cases h
  ·cases h
theorem eX {T:Tab} {st st':St} {d:Nat} {t:TypeId} {n:Nat} {parts:Array (Nat×Operand)} {v:AV} (h:Ec T st d t n parts=some (v,st')):Av st st':=by
 unfold Ec at h
 split at h
 ·exact gn h
 ·repeat' split at h
  all_goals first|(cases h;done)|(injection h with h;injection h with h1 h2;subst h2;exact Uw _ _ _ _)
theorem mu {T:Tab} {st st':St} {d:Nat} {t:TypeId} {x y:Operand} {v:AV} (h:Kg T st d t x y=some (v,st')):Av st st':=by
 unfold Kg at h
 split at h
 ·exact mr h
 ·repeat' split at h
  all_goals first|(cases h;done)|(injection h with h;injection h with h1 h2;subst h2;exact Uw _ _ _ _)
theorem We {st st':St} {v:AV} {o:Option AV} (h:o.map (λv=>(v,st))=some (v,st')):Av st st':=by
 cases o with
 |none=>cases h
 |some u=>injection h with h;injection h with h1 h2;subst h2;exact Av.rfl'
theorem Qr: ∀(l:List Operand) {st st1:St},Im l st=some st1->Av st st1
 | [],st,st1,h=>by
  simp only [Im,Option.some.injEq] at h
  subst h
  exact Av.rfl'
 |x::r,st,st1,h=>by
  simp only [Im] at h
  cases hs:settle st (st.ev x) with
  |none=>rw [hs] at h;cases h
  |some p=>
   rw [hs] at h
   exact (Ks (v':=p.1) (st':=p.2) hs).trans (Qr r h)
theorem eI {T:Tab} {Γ:Env} {st st':St} {o:Oper} {v:AV} (h:evalOp T Γ st o=some (v,st')):Av st st':=by
 unfold evalOp at h
 split at h
 ·split at h
  ·split at h
   ·injection h with h;injection h with h1 h2;subst h2;exact He _ _ _
   ·cases h
  ·injection h with h;injection h with h1 h2;subst h2;exact Av.rfl'
 ·split at h
  ·exact iB h
  ·cases h
 ·split at h
  ·split at h
   ·exact iB h
   ·cases h
  ·cases h
 ·rename_i t p x _
  cases hs:Iv T st t (st.ev p) (st.ev x) with
  |none=>rw [hs] at h;cases h
  |some s=>rw [hs] at h;injection h with h;injection h with h1 h2;subst h2;exact po hs
 ·split at h
  ·exact sl h
  ·cases h
 ·split at h
  ·exact mw h
  ·cases h
 ·rename_i t m k x _
  cases hs:Ee T st t (st.ev m) (st.ev k) (st.ev x) with
  |none=>rw [hs] at h;cases h
  |some s=>rw [hs] at h;injection h with h;injection h with h1 h2;subst h2;exact eZ hs
 ·rename_i t m k x _
  cases hs:Ee T st t (st.ev m) (st.ev k) (st.ev x) with
  |none=>rw [hs] at h;cases h
  |some s=>rw [hs] at h;injection h with h;injection h with h1 h2;subst h2;exact eZ hs
 ·split at h
  ·exact eX h
  ·cases h
 ·exact We h
 ·split at h
  ·split at h
   ·exact mu h
   ·cases h
  ·cases h
 ·split at h
  ·exact vg h
  ·cases h
 ·split at h
  ·rename_i x t _ _
   cases hs:evalClear T st t (st.ev x) with
   |none=>rw [hs] at h;cases h
   |some s=>rw [hs] at h;injection h with h;injection h with h1 h2;subst h2;exact sk hs
  ·cases h
 ·split at h
  ·exact sj h
  ·split at h
   ·rename_i args _ _ _ _ _ _
    cases hs:Im args.toList st with
    |none=>rw [hs] at h;cases h
    |some st1=>
     rw [hs] at h
     exact (Qr _ hs).trans (We h)
   ·exact We h
  ·exact We h
 ·exact We h
def Ju:List Oper->List Nat
 | []=> []
 |o::r=>(match o.dst with|some d=> [d]|none=> [])++Ju r
def writes:Code->List Nat
 | .region _ ops _=>Ju ops.toList
 | .seq a b=>writes a++writes b
 | .cond _ a b=>writes a++writes b
 | .block _ c=>writes c
 | .loop c=>writes c
 |_=> []
def El (P:Nat->Prop) (st st':St):Prop:= ∀(t:Nat) (fr:Bool) (τ:Ty) (x:τ.den),P t->st.get t= .at (.data fr τ x)->st'.get t= .at (.data fr τ x)
theorem El.trans {P:Nat->Prop} {a b c:St} (h1:El P a b) (h2:El P b c):El P a c:= λt fr τ x hp h=>h2 t fr τ x hp (h1 t fr τ x hp h)
theorem El.mono {P Q:Nat->Prop} {a b:St} (h1:El P a b) (h: ∀t,Q t->P t):El Q a b:= λt fr τ x hp hx=>h1 t fr τ x (h t hp) hx
theorem Av.on {P:Nat->Prop} {a b:St} (h:Av a b):El P a b:= λt fr τ x _ hx=>h t fr τ x hx
theorem Uc (st:St) (dst:Option Tmp) (v:AV):El (λt=>dst≠some t) st (st.put dst v):=by
 intro t fr τ x hp hx
 cases dst with
 |none=>exact hx
 |some d=>rw [Sx st v (λh=>hp (by rw [h]))];exact hx
theorem aA {T:Tab} {Γ:Env} {ops:Array Oper} {st st':St} {o:Oper} (h:Ca T Γ ops st o=some st'):El (λt=>o.dst≠some t) st st':=by
 have key: ∀s,(evalOp T Γ st o).map (λr=>r.2.put o.dst r.1)=some s->El (λt=>o.dst≠some t) st s:=by
  intro s hs
  cases he:evalOp T Γ st o with
  |none=>rw [he] at hs;cases hs
  |some p=>rw [he] at hs;injection hs with hs;subst hs;exact (eI (v:=p.1) (st':=p.2) he).on.trans (Uc _ _ _)
 unfold Ca at h
 split at h
 ·exact key _ h
 ·split at h
  ·split at h
   ·exact key _ h
   ·injection h with h;subst h;exact Uc _ _ _
  ·injection h with h;subst h;exact Uc _ _ _
  ·cases h
theorem ct {T:Tab} {Γ:Env} {ops:Array Oper} : ∀(l:List Oper) (st st':St),Rl T Γ ops l st=some st'->El (λt=>t∉Ju l) st st'
 | [],st,st',h=>by injection h with h;subst h;exact Av.rfl'.on
 |o::r,st,st',h=>by
  simp only [Rl] at h
  split at h
  ·rename_i s hs
   refine El.trans ((aA hs).mono λt ht=>?_) ((ct r _ _ h).mono λt ht=>?_)
   ·intro hd;apply ht;simp [Ju,hd]
   ·intro hd;apply ht;simp [Ju,hd]
  ·cases h
theorem Vb: ∀(l:List Oper) (o:Oper) (d:Nat),o∈l->o.dst=some d->d∈Ju l
 | [],_,_,h,_=>by cases h
 |p::r,o,d,h,hd=>by
  cases h with
  |head=>simp [Ju,hd]
  |tail _ h=>simp only [Ju,List.mem_append];exact .inr (Vb r o d h hd)
theorem nV {ops:Array Oper} {i:Nat} {o:Oper} (h:ops[i]?=some o):o∈ops.toList:=by
 rw [Array.getElem?_eq_some_iff] at h
 obtain ⟨h1,h2⟩:=h
 rw [<-h2]
 simp
theorem Uv {T:Tab} {Γ:Env} {ops:Array Oper} : ∀(l:List Nat) (st st':St),Ic T Γ ops l st=some st'->El (λt=>t∉Ju ops.toList) st st'
 | [],st,st',h=>by injection h with h;subst h;exact Av.rfl'.on
 |i::r,st,st',h=>by
  simp only [Ic] at h
  split at h
  ·cases h
  ·rename_i o ho
   split at h
   ·rename_i s hs
    exact ((aA hs).mono λt ht hd=>ht (Vb _ _ _ (nV ho) hd)).trans (Uv r _ _ h)
   ·cases h
theorem Su {T:Tab} {Γ:Env} {ops:Array Oper} : ∀(l:List Nat) (st st':St),Dk T Γ ops l st=some st'->El (λt=>t∉Ju ops.toList) st st'
 | [],st,st',h=>by injection h with h;subst h;exact Av.rfl'.on
 |i::r,st,st',h=>by
  simp only [Dk] at h
  split at h
  ·cases h
  ·rename_i o ho
   split at h
   ·exact ((Uc _ _ _).mono λt ht hd=>ht (Vb _ _ _ (nV ho) hd)).trans (Su r _ _ h)
   ·cases h
theorem Zg: ∀(l:List Nat) (st:St),Av st (Vv l st)
 | [],_=>Av.rfl'
 |a::r,st=>(eY st a).trans (Zg r _)
theorem al (live:List Nat): ∀(i:Nat) (l:List AV) (t:Nat),i+t∈live->(Ex live i l).getD t .undef=l.getD t .undef
 |_,[],_,_=>rfl
 |i,v::r,0,h=>by simp [Ex];intro hn;exact absurd h hn
 |i,v::r,t+1,h=>by
  simp only [Ex,List.getD_cons_succ]
  exact al live (i+1) r t (by rw [show i+1+t=i+(t+1) by omega];exact h)
theorem pk (l k:Nat) (st:St):Av st (st.rename l k):=by
 unfold St.rename
 split
 ·split
  ·exact (Is st (Mt l k) rfl λ_ _ _=>rfl).trans (Av.Ps rfl)
  ·exact Av.rfl'
 ·exact Av.rfl'
theorem Wg: ∀(n t:Nat) (st:St),Av st (Gs n t st)
 |0,_,_=>Av.rfl'
 |n+1,t,st=>by
  simp only [Gs]
  refine Av.trans ?_ (Wg n (t+1) _)
  split
  ·split
   ·split
    ·exact Av.rfl'
    ·exact pk _ _ _
   ·exact Av.rfl'
  ·exact Av.rfl'
theorem kK (t:Nat) (st:St):Av st (Ti t st):=by
 unfold Ti
 split
 ·rename_i l off len hg
  split
  ·split
   ·intro k fr τ x hk
    have Er:k≠t:= λe=>by subst e;rw [hg] at hk;cases hk
    rw [Sx _ _ Er]
    exact He _ _ _ k fr τ x hk
   ·exact Av.rfl'
  ·exact Av.rfl'
 ·exact Av.rfl'
theorem Zi (live:List Nat): ∀(n t:Nat) (st:St),Av st (Il live n t st)
 |0,_,_=>Av.rfl'
 |n+1,t,st=>by
  simp only [Il]
  refine Av.trans ?_ (Zi live n (t+1) _)
  split
  ·exact kK _ _
  ·exact Av.rfl'
theorem cI (live:List Nat) (st:St):El (λt=>t∈live) st (st.clean live):=by
 intro t fr τ x hp hx
 unfold St.clean
 have key: ∀s:St,s.get t= .at (.data fr τ x)->(if live.contains Ug then Gs s.tmps.length 0 s else s).get t= .at (.data fr τ x):=by
  intro s hs
  split
  ·exact Wg _ _ s t fr τ x hs
  ·exact hs
 have BA: ∀s:St,s.get t= .at (.data fr τ x)->(if live.any (λt=>Nat.ble Qn t) then s.Ef live else s).get t= .at (.data fr τ x):=by
  intro s hs
  split<;>exact hs
 have BB: ∀s:St,s.get t= .at (.data fr τ x)->(if live.any (λt=>Nat.ble Kl t&&Nat.blt t Ug) then Il live s.tmps.length 0 s else s).get t= .at (.data fr τ x):=by
  intro s hs
  split
  ·exact Zi _ _ _ s t fr τ x hs
  ·exact hs
 refine BA _ (key _ (BB _ (Zg _ _ t fr τ x ?_)))
 simp only [St.get] at hx⊢
 rw [al live 0 st.tmps t (by simpa using hp)]
 exact hx
def Ta (live:Nat->List Nat):Code->Nat->Bool
 | .seq a b,t=>Ta live a t&&Ta live b t
 | .cond _ a b,t=>Ta live a t&&Ta live b t
 | .block _ c,t=>Ta live c t
 | .loop c,t=>(live (Bv c)).contains t&&Ta live c t
 |_,_=>true
theorem fS {a b:Bool} (h:(a&&b)=true):a=true:=by cases a<;>simp_all
theorem dt {a b:Bool} (h:(a&&b)=true):b=true:=by cases a<;>simp_all
theorem fW {T:Tab} {Γ:Env} {ops:Array Oper} {draw:Bool} {st st':St} (h:Kh T Γ ops draw st=some st'):El (λt=>t∉writes (.region 0 ops draw)) st st':=by
 unfold Kh at h
 have go: ∀q,(match Dk T Γ ops (bU q Γ ops) st with
   |some s=>Ic T Γ ops (Em q Γ ops) s
   |none=>none)=some st'->El (λt=>t∉writes (.region 0 ops draw)) st st':=by
  intro q h
  split at h
  ·rename_i s hs
   exact (Su _ _ _ hs).trans (Uv _ _ _ h)
  ·cases h
 split at h
 ·split at h
  ·exact go false h
  ·split at h
   ·exact go true h
   ·cases h
 ·exact ct _ _ _ h
theorem jK {T:Tab} {Γ:Env} {ops:Array Oper} {draw:Bool} {K:St->Prop} (s0:St): ∀(f:Nat) (Aa:Array Bool) (st:St),El (λt=>t∉writes (.region 0 ops draw)) s0 st->anyS T Γ ops K f Aa st->anyS T Γ ops (λs=>K s/\El (λt=>t∉writes (.region 0 ops draw)) s0 s) f Aa st
 |0,_,_,hk,h=>⟨h.1,h.2,hk⟩
 |f+1,Aa,st,hk,h=>⟨h.1,λi hi=>by
  obtain ⟨o,st',h1,h2,h3⟩:=h.2 i hi
  have h4:Ic T Γ ops [i] st=some st':=by simp only [Ic,h1,h2]
  exact ⟨o,st',h1,h2,jK s0 f _ _ (hk.trans (Uv _ _ _ h4)) h3⟩⟩
theorem oC.keeps {T:Tab} {Γ:Env} {ops:Array Oper} {draw:Bool} {st:St} {K:St->Prop} (h:oC T Γ ops draw st K):oC T Γ ops draw st (λs=>K s/\El (λt=>t∉writes (.region 0 ops draw)) st s):=by
 rcases h with ⟨st',h1,h2⟩|⟨h1,h2,Zq,h3,h4⟩
 ·exact .inl ⟨st',h1,h2,fW h1⟩
 ·exact .inr ⟨h1,h2,Zq,h3,jK st _ _ _ (Su _ _ _ h3) h4⟩
theorem w7 {T:Tab} {Γ:Env} {live:Nat->List Nat} {c:Code} {st:St} {Q:Fy->St->Prop} (h:Ia T Γ live c st Q): ∀(s0:St) (p:Nat->Prop),El p s0 st->(∀t,p t->t∉writes c/\Ta live c t=true)->Ia T Γ live c st (λe s=>Q e s/\El p s0 s):=by
 induction h with
 |skip h=>exact λs0 p hk _=> .skip ⟨h,hk⟩
 |label h=>exact λs0 p hk _=> .label ⟨h,hk⟩
 |exit h=>exact λs0 p hk _=> .exit ⟨h,hk⟩
 |ret h=>exact λs0 p hk _=> .ret ⟨h,hk⟩
 |region h=>
  exact λs0 p hk hp=> .region (h.keeps.mono λs hs=>⟨hs.1,hk.trans (hs.2.mono λt ht=>(hp t ht).1)⟩)
 |seq Q1 _ _ h3 yc sd=>
  exact λs0 p hk hp=> .seq _ (yc s0 p hk λt ht=>⟨λhm=>(hp t ht).1 (by simp [writes,hm]),fS (hp t ht).2⟩)
   (λs hs=>sd s hs.1 s0 p hs.2 λt ht=>⟨λhm=>(hp t ht).1 (by simp [writes,hm]),dt (hp t ht).2⟩) λe s he hs=>⟨h3 e s he hs.1,hs.2⟩
 |cond hc _ _ yc sd=>
  exact λs0 p hk hp=> .cond hc (λht=>yc ht s0 p hk λt h=>⟨λhm=>(hp t h).1 (by simp [writes,hm]),fS (hp t h).2⟩)
   fun ht=>sd ht s0 p hk λt h=>⟨λhm=>(hp t h).1 (by simp [writes,hm]),dt (hp t h).2⟩
 |block Q1 _ h2 ih=>
  exact λs0 p hk hp=> .block _ (ih s0 p hk λt ht=>⟨λhm=>(hp t ht).1 (by simpa [writes] using hm),by simpa [Ta] using (hp t ht).2⟩) λe s hs=>by
   have h:=h2 e s hs.1
   cases e with
   |normal=>exact ⟨h,hs.2⟩
   |ret=>exact ⟨h,hs.2⟩
   |exit yb=>
    simp only [nJ] at h⊢
    split at h
    ·rename_i hi;rw [if_pos hi];exact ⟨h,hs.2⟩
    ·rename_i hi;rw [if_neg hi];exact ⟨h,hs.2⟩
 |loop Q1 _ _ h3 yc sd=>
  intro s0 p hk hp
  refine .loop _ (yc s0 p (hk.trans ((cI _ _).mono λt ht=>by simpa using fS (hp t ht).2)) λt ht=>⟨λhm=>(hp t ht).1 (by simpa [writes] using hm),dt (hp t ht).2⟩)
   (λs hs=>sd s hs.1 s0 p hs.2 hp) λe s he hs=>⟨h3 e s he hs.1,hs.2⟩
end Go.Proofs.Ytjbdmibbbpdnnaa
