/-
  Part 29 of the proof that the statement FnLowerBounds holds.
-/
import Derived.Test.YtkkdpknjohcekaaGreatCFLowerBounds27
namespace Go.Proofs.YtkkdpknjohcekaaGreat
open Go.RowKit
def Ck (st st':St):Prop:= ∀(t:Nat) (fr:Bool) (τ:Ty) (x:τ.den),st.get t= .at (.data fr τ x)->st'.get t= .at (.data fr τ x)
theorem Ck.rfl' {st:St} :Ck st st:= λ_ _ _ _ h=>h
theorem Ck.trans {a b c:St} (h1:Ck a b) (h2:Ck b c):Ck a c:= λt fr τ x h=>h2 t fr τ x (h1 t fr τ x h)
theorem Ck.Zz {a b:St} (h:b.tmps=a.tmps):Ck a b:= λt fr τ x hx=>by
 simp only [St.get] at hx⊢
 rw [h]
 exact hx
theorem bY (st:St) {t d:Nat} (v:AV) (h:t≠d):(st.put (some d) v).get t=st.get t:=by
 simp only [St.put,St.get]
 rw [Ru]
 rw [Aj (by rintro ⟨rfl,_⟩;exact h rfl)]
theorem Qj (st:St) (f:AC->AC) (hu:f .undef= .undef) (hd: ∀fr (τ:Ty) (x:τ.den),f (.data fr τ x)= .data fr τ x):Ck st (st.Ln f):=by
 intro t fr τ x h
 simp only [St.Ln,St.get]
 rw [Vt f hu,show st.tmps.getD t .undef=_ from h]
 simp only [AV.map,hd]
theorem nJ (st:St) (l:Nat):Ck st (st.forget l):=
 (Qj st (Cl l) rfl λ_ _ _=>rfl).trans (Ck.Zz rfl)
theorem bf (st:St) (l:Nat) (fr:Bool) (e:Ty) (xs:List e.den):Ck st (st.freeze l fr e xs):=
 (Qj st (Cw l fr e xs) rfl λ_ _ _=>rfl).trans (Ck.Zz rfl)
theorem gC (st:St) (l:Nat) (v:Ty) (m:ByteArray->Option v.den):Ck st (st.Jg l v m):=
 (Qj st (Ho l v m) rfl λ_ _ _=>rfl).trans (Ck.Zz rfl)
theorem Lu (st:St) (l:Nat) (b:OB):Ck st (st.new l b):=(nJ st l).trans (Ck.Zz rfl)
theorem Nb (st:St) (l:Nat) (b:OB):Ck st (st.Kr l b):=Ck.Zz rfl
theorem ez (b:OB) (key l i:Nat) (st:St):Ck st (Vo b key l i st):=by
 unfold Vo
 split
 ·split
  ·dsimp only
   split
   ·exact (Lu _ _ _).trans (Nb _ _ _)
   ·exact Lu _ _ _
  ·exact Ck.rfl'
 ·exact Ck.rfl'
theorem l8 (T:Tab) (l:Nat) (t:TypeId) (τ:Ty): ∀(n i:Nat) (st:St),Ck st (fL T l t τ n i st)
 |0,_,_=>Ck.rfl'
 |n+1,i,st=>by
  simp only [fL]
  refine Ck.trans ?_ (l8 T l t τ n (i+1) _)
  split
  ·exact ez _ _ _ _ _
  ·exact Ck.rfl'
theorem iZ (T:Tab) (l off:Nat) (t:TypeId) (τ:Ty): ∀(n i:Nat) (st:St),Ck st (eF T l off t τ n i st)
 |0,_,_=>Ck.rfl'
 |n+1,i,st=>by
  simp only [eF]
  refine Ck.trans ?_ (iZ T l off t τ n (i+1) _)
  split
  ·exact ez _ _ _ _ _
  ·exact Ck.rfl'
theorem Sb: ∀(n:Nat) (st:St) (cs iG:List AC) (st':St),Ic n st cs=some (iG,st')->Ck st st'
 |0,st,cs,iG,st',h=>by
  simp only [Ic] at h
  split at h
  ·injection h with h;injection h with h1 h2;subst h2;exact Ck.rfl'
  ·cases h
 |n+1,st,cs,iG,st',h=>by
  simp only [Ic] at h
  split at h
  ·injection h with h;injection h with h1 h2;subst h2;exact Ck.rfl'
  ·split at h
   ·exact (bf _ _ _ _ _).trans (Sb n _ _ _ _ h)
   ·exact (bf _ _ _ _ _).trans (Sb n _ _ _ _ h)
   ·cases h
  ·split at h
   ·exact (gC _ _ _ _).trans (Sb n _ _ _ _ h)
   ·cases h
  ·cases h
theorem Tp {st st':St} {v v':AV} (h:settle st v=some (v',st')):Ck st st':=by
 unfold settle at h
 split at h
 ·split at h
  ·injection h with h;injection h with h1 h2;subst h2;exact bf _ _ _ _ _
  ·injection h with h;injection h with h1 h2;subst h2;exact bf _ _ _ _ _
  ·cases h
 ·split at h
  ·injection h with h;injection h with h1 h2;subst h2;exact gC _ _ _ _
  ·cases h
 ·split at h
  ·injection h with h;injection h with h1 h2;subst h2;exact Ck.rfl'
  ·cases h
 ·rename_i cs
  cases hs:Ic cs.length st cs with
  |none=>rw [hs] at h;cases h
  |some p=>rw [hs] at h;injection h with h;injection h with h1 h2;subst h2;exact Sb _ _ _ _ _ hs
 ·injection h with h;injection h with h1 h2;subst h2;exact Ck.rfl'
 ·cases h
theorem yZ {st st':St} {l:Nat} {t:TypeId} {cs:List AC} {v:AV} (h:tF st l t cs=some (v,st')):Ck st st':=by
 unfold tF at h
 split at h
 ·cases h
 ·injection h with h;injection h with h1 h2;subst h2;exact Lu _ _ _
theorem qi {T:Tab} {st st':St} {l:Nat} {t:TypeId} {τ:Ty} {cs:List AC} {v:AV} (h:mkVar T st l t τ cs=some (v,st')):Ck st st':=by
 unfold mkVar at h
 split at h
 ·cases h
 dsimp only at h
 split at h
 ·injection h with h;injection h with h1 h2;subst h2;exact (Lu _ _ _).trans (l8 _ _ _ _ _ _ _)
 ·cases h
theorem DY {T:Tab} {st st':St} {t:TypeId} {p v:AV} (h:Vs T st t p v=some st'):Ck st st':=by
 unfold Vs at h
 split at h
 ·split at h
  ·split at h
   ·injection h with h
    split at h
    ·subst h;exact (Nb _ _ _).trans (iZ _ _ _ _ _ _ _ _)
    ·subst h;exact Nb _ _ _
   ·cases h
  ·cases h
 ·split at h
  ·rename_i hs
   split at h
   ·split at h
    ·split at h
     ·injection h with h;subst h;exact (Tp hs).trans (Nb _ _ _)
     ·cases h
    ·cases h
   ·cases h
  ·cases h
 ·cases h
theorem tp (st:St) (l j m:Nat) (e:Ty) (te:TypeId) (rows:List (List e.den)) (xs:List e.den) (kp:Option (Nat×Nat)):Ck st (Us st l j m e te rows xs kp):=
 ((Qj st (Cm [m] [l]) (by simp [Cm,AC.refs]) λfr τ x=>by simp [Cm,AC.refs]).trans (Ck.Zz rfl)).trans (Nb (st.cP [m] [l]) _ _)
theorem tq (st:St) (l i m:Nat) (e:Ty) (te tid:TypeId) (rows:List (List e.den)) (kp:Option (Nat×Nat)):Ck st (Rd st l i m e te tid rows kp):=
 (Nb st l _).trans (Lu _ m _)
theorem z6 {T:Tab} {st st':St} {t:TypeId} {p v:AV} (h:Qq T st t p v=some st'):Ck st st':=by
 unfold Qq at h
 split at h
 rotate_left
 ·exact DY h
 unfold bV at h
 split at h
 ·split at h
  ·rename_i hs
   split at h
   ·split at h
    ·injection h with h;subst h;exact (Tp hs).trans (Nb _ _ _)
    ·cases h
   ·cases h
  ·cases h
 ·split at h
  ·split at h
   ·split at h
    ·injection h with h;subst h
     exact tp _ _ _ _ _ _ _ _ _
    ·cases h
   ·cases h
  ·cases h
 ·cases h
theorem fw {T:Tab} {st st':St} {d:Nat} {t:TypeId} {x y:Operand} {v:AV} (h:Oq T st d t x y=some (v,st')):Ck st st':=by
 unfold Oq at h
 split at h
 ·cases h
 ·split at h
  ·rename_i hs
   split at h
   ·cases h
   ·split at h
    ·split at h
     ·injection h with h;injection h with h1 h2;subst h2;exact ((Tp hs).trans (Lu _ _ _)).trans (Lu _ _ _)
     ·cases h
    ·split at h
     ·split at h
      ·split at h
       ·injection h with h;injection h with h1 h2;subst h2;exact (Tp hs).trans (Lu _ _ _)
       ·cases h
      ·cases h
     ·cases h
    ·cases h
  ·cases h
theorem vG {T:Tab} {st st':St} {d:Nat} {t:TypeId} {x y:Operand} {v:AV} (h:Sq T st d t x y=some (v,st')):Ck st st':=by
 unfold Sq at h
 split at h
 ·rename_i tx
  split at h
  ·rename_i l i c hg
   split at h
   ·split at h
    ·rename_i e te rows kp tid hl ht hc
     refine Ck.trans (b:=(Rd st l i d e te tid rows kp).put (some tx) (.at (.own d 0 (rows.getD i []).length))) ?_ (fw h)
     intro t' fr τ z hz
     by_cases e':t'=tx
     ·subst e';rw [hg] at hz;cases hz
     ·rw [bY _ _ e'];exact tq st l i d e te tid rows kp t' fr τ z hz
    ·cases h
   ·cases h
  ·exact fw h
 ·exact fw h
theorem KJ {T:Tab} {st st':St} {d:Nat} {t:TypeId} {l c v:AV} (h:bT T st d t l c=some (v,st')):Ck st st':=by
 unfold bT at h
 split at h
 ·split at h
  ·split at h
   ·injection h with h;injection h with h1 h2;subst h2;exact Lu _ _ _
   ·cases h
  ·cases h
 ·cases h
theorem qj (e:Ty): ∀(l:List (Nat×Operand)) (i:Nat) (st st':St) (fr tr:Bool) (ys:List e.den),Lx e i l st=some (fr,tr,ys,st')->Ck st st'
 | [],_,_,_,_,_,_,h=>by
  simp only [Lx] at h
  injection h with h;injection h with h1 h2;injection h2 with h2 h3;injection h3 with h3 h4;subst h4;exact Ck.rfl'
 |(j,x)::r,i,st,st',fr,tr,ys,h=>by
  simp only [Lx] at h
  split at h
  ·split at h
   ·rename_i hs
    split at h
    ·split at h
     ·rename_i hp
      injection h with h;injection h with h1 h2;injection h2 with h2 h3;injection h3 with h3 h4;subst h4
      exact (Tp hs).trans (qj e r _ _ _ _ _ _ hp)
     ·cases h
    ·cases h
   ·cases h
  ·cases h
theorem p9 {T:Tab} {st st':St} {d:Nat} {t:TypeId} {n:Nat} {parts:Array (Nat×Operand)} {v:AV} (h:My T st d t n parts=some (v,st')):Ck st st':=by
 unfold My at h
 split at h
 ·cases h
 ·split at h
  ·cases h
  ·split at h
   ·split at h
    ·rename_i hp
     injection h with h;injection h with h1 h2;subst h2;exact (qj _ _ _ _ _ _ _ _ hp).trans (Lu _ _ _)
    ·cases h
   ·cases h
theorem vI {T:Tab} {st st':St} {d:Nat} {t:TypeId} {v:AV} (h:Vr T st d t=some (v,st')):Ck st st':=by
 unfold Vr at h
 split at h
 ·split at h
  ·injection h with h;injection h with h1 h2;subst h2;exact Lu _ _ _
  ·cases h
 ·cases h
theorem nK {T:Tab} {st st':St} {t:TypeId} {m k x:AV} (h:Jt T st t m k x=some st'):Ck st st':=by
 unfold Jt at h
 split at h
 ·split at h
  ·split at h
   ·injection h with h;subst h;exact Nb _ _ _
   ·cases h
  ·cases h
 ·cases h
theorem KI {T:Tab} {st st':St} {t t':TypeId} {x y v:AV} (h:iJ T st t t' x y=some (v,st')):Ck st st':=by
 unfold iJ at h
 split at h
 ·split at h
  ·split at h
   ·split at h
    ·injection h with h;injection h with h1 h2;subst h2;exact Nb _ _ _
    ·cases h
   ·cases h
  ·cases h
 ·cases h
theorem DW {T:Tab} {st st':St} {t:TypeId} {x:AV} (h:evalClear T st t x=some st'):Ck st st':=by
 unfold evalClear at h
 split at h
 ·split at h
  ·split at h
   ·split at h
    ·injection h with h;subst h;exact Nb _ _ _
    ·cases h
   ·cases h
  ·cases h
 ·cases h
theorem xH {st st':St} {c:CK} {ys:c.den} {a:AC} (h:cH st c ys a=some st'):st'.tmps=st.tmps:=by
 unfold cH at h
 repeat' split at h
 all_goals first|(cases h;done)|(simp only [Aa] at h;subst h;rfl)|skip
theorem TN {st st':St} {e:Ty} {ys:List e.den} {a:AC} (h:LX st e ys a=some st'):st'.tmps=st.tmps:=by
 unfold LX at h
 repeat' split at h
 all_goals first|(cases h;done)|(simp only [Aa] at h;subst h;rfl)|skip
theorem Vp: ∀(cs:List (Bool×CK)) (o:IOs.den cs) (as:List AC) (st st':St),Iu cs o as st=some st'->st'.tmps=st.tmps
 | [],_,_,st,st',h=>by simp only [Iu,Aa] at h;subst h;rfl
 |(true, .Ft _)::r,o,[],st,st',h=>by simp [Iu] at h
 |(true, .row _ _)::r,o,[],st,st',h=>by simp [Iu] at h
 |(true, .Ii _ _)::r,o,[],st,st',h=>by simp [Iu] at h
 |(true, .part _ _)::r,o,[],st,st',h=>by simp [Iu] at h
 |(true, .Bp _ _ _)::r,o,[],st,st',h=>by simp [Iu] at h
 |(true, .Bp _ _ _)::r,o,a::as,st,st',h=>Vp r o as st st' (by simpa only [Iu] using h)
 |(false,_)::r,o,[],st,st',h=>by simp [Iu] at h
 |(true, .Ft _)::r,o,a::as,st,st',h=>Vp r o as st st' (by simpa only [Iu] using h)
 |(false,_)::r,o,a::as,st,st',h=>Vp r o as st st' (by simpa only [Iu] using h)
 |(true, .row _ _)::r,o,a::as,st,st',h=>by
  simp only [Iu] at h
  split at h
  ·rename_i hc;exact (Vp r o.2 as _ st' h).trans (xH hc)
  ·cases h
 |(true, .part _ _)::r,o,a::as,st,st',h=>by
  simp only [Iu] at h
  split at h
  ·rename_i hc;exact (Vp r o.2 as _ st' h).trans (TN hc)
  ·cases h
 |(true, .Ii _ _)::r,o,a::as,st,st',h=>by
  simp only [Iu] at h
  split at h
  ·rename_i hc;exact (Vp r o.2 as _ st' h).trans (xH hc)
  ·cases h
theorem yY (cC st:St) (ls:List Nat) (n:Nat) (hl:cC.tmps.length=st.tmps.length) (h:Ck cC st):Ck cC (mb cC st ls n):=by
 unfold mb
 split
 ·exact h
 ·intro t fr τ x hx
  show (Mf _ cC.tmps st.tmps).getD t .undef=_
  rcases gf ls cC.tmps st.tmps t hl with ⟨k,i,c,h1,_⟩|h1
  ·rw [show cC.tmps.getD t .undef=_ from hx] at h1;cases h1
  ·rw [h1];exact h t fr τ x hx
theorem DV {st st':St} {d:Option Nat} {s:MSpec} {args:List AV} {v:AV} (h:Yq st d s args=some (v,st')):Ck st st':=by
 unfold Yq at h
 split at h
 ·cases h
 split at h
 ·cases h
 split at h
 ·cases h
 split at h
 ·split at h
  ·cases h
  split at h
  ·cases h
  rename_i st1 hp
  split at h
  ·cases h
  split at h
  ·simp only [Aa,Ae] at h
   obtain ⟨_,rfl⟩:=h
   have hpt:=Vp _ _ _ _ _ hp
   refine yY _ _ _ _ ?_ ?_
   ·simp only [lN,pH]
    rw [<-hpt]
    simp only [St.cP,St.Ln,Dd]
   ·refine Ck.trans (Ck.Zz hpt) ?_
    refine Ck.trans (Qj st1 (Cm _ _) (by simp [Cm,AC.refs]) λfr τ x=>by simp [Cm,AC.refs]) (Ck.Zz pH)
  ·cases h
 ·cases h
theorem dz (st:St) (k m:Nat) (b:OB):Ck st (Rz st k m b):=
 (Qj st (Cm [m,k] []) (by simp [Cm,AC.refs]) λfr τ x=>by simp [Cm,AC.refs]).trans (Ck.Zz rfl)
theorem DX {T:Tab} {st st':St} {d:Nat} {t:TypeId} {l c v:AV} (h:Ys T st d t l c=some (v,st')):Ck st st':=by
 unfold Ys at h
 split at h
 ·exact KJ h
 ·split at h
  ·split at h
   ·injection h with h;injection h with h1 h2;subst h2;exact dz _ _ _ _
   ·cases h
  ·cases h
theorem nI {T:Tab} {st st':St} {d:Nat} {t:TypeId} {n:Nat} {parts:Array (Nat×Operand)} {v:AV} (h:Jq T st d t n parts=some (v,st')):Ck st st':=by
 unfold Jq at h
 split at h
 ·exact p9 h
 ·repeat' split at h
  all_goals first|(cases h;done)|(injection h with h;injection h with h1 h2;subst h2;exact dz _ _ _ _)
theorem vH {T:Tab} {st st':St} {d:Nat} {t:TypeId} {x y:Operand} {v:AV} (h:Sr T st d t x y=some (v,st')):Ck st st':=by
 unfold Sr at h
 split at h
 ·exact vG h
 ·repeat' split at h
  all_goals first|(cases h;done)|(injection h with h;injection h with h1 h2;subst h2;exact dz _ _ _ _)
theorem ey {st st':St} {v:AV} {o:Option AV} (h:o.map (λv=>(v,st))=some (v,st')):Ck st st':=by
 cases o with
 |none=>cases h
 |some u=>injection h with h;injection h with h1 h2;subst h2;exact Ck.rfl'
theorem Vd: ∀(l:List Operand) {st st1:St},Ny l st=some st1->Ck st st1
 | [],st,st1,h=>by
  simp only [Ny,Aa] at h
  subst h
  exact Ck.rfl'
 |x::r,st,st1,h=>by
  simp only [Ny] at h
  cases hs:settle st (st.ev x) with
  |none=>rw [hs] at h;cases h
  |some p=>
   rw [hs] at h
   exact (Tp (v':=p.1) (st':=p.2) hs).trans (Vd r h)
theorem vJ {T:Tab} {st:St} (p x:Operand):Ck st (Pk T st p x):=by
 unfold Pk
 split
 ·split
  ·split
   ·rename_i hs;exact Vd _ hs
   ·exact Ck.rfl'
  ·exact Ck.rfl'
 ·exact Ck.rfl'
theorem nj {T:Tab} {Γ:Env} {st st':St} {o:Oper} {v:AV} (h:evalOp T Γ st o=some (v,st')):Ck st st':=by
 unfold evalOp at h
 split at h
 ·split at h
  ·split at h
   ·injection h with h;injection h with h1 h2;subst h2;exact Lu _ _ _
   ·cases h
  ·injection h with h;injection h with h1 h2;subst h2;exact Ck.rfl'
 ·split at h
  ·split at h
   ·exact yZ h
   ·exact qi h
  ·cases h
 ·split at h
  ·split at h
   ·split at h
    ·split at h
     ·obtain ⟨p,_,hp⟩:=Option.map_eq_some_iff.1 h
      cases hp
      exact Ck.rfl'
     ·cases h
    ·exact qi h
   ·cases h
  ·cases h
 ·rename_i t p x _
  cases hs:Qq T (Pk T st p x) t ((Pk T st p x).ev p) ((Pk T st p x).ev x) with
  |none=>rw [hs] at h;cases h
  |some s=>rw [hs] at h;injection h with h;injection h with h1 h2;subst h2;exact (vJ p x).trans (z6 hs)
 ·split at h
  ·exact DX h
  ·cases h
 ·split at h
  ·exact vI h
  ·cases h
 ·rename_i t m k x _
  cases hs:Jt T st t (st.ev m) (st.ev k) (st.ev x) with
  |none=>rw [hs] at h;cases h
  |some s=>rw [hs] at h;injection h with h;injection h with h1 h2;subst h2;exact nK hs
 ·rename_i t m k x _
  cases hs:Jt T st t (st.ev m) (st.ev k) (st.ev x) with
  |none=>rw [hs] at h;cases h
  |some s=>rw [hs] at h;injection h with h;injection h with h1 h2;subst h2;exact nK hs
 ·split at h
  ·exact nI h
  ·cases h
 ·exact ey h
 ·split at h
  ·split at h
   ·exact vH h
   ·cases h
  ·cases h
 ·split at h
  ·exact KI h
  ·cases h
 ·split at h
  ·rename_i x t _ _
   cases hs:evalClear T st t (st.ev x) with
   |none=>rw [hs] at h;cases h
   |some s=>rw [hs] at h;injection h with h;injection h with h1 h2;subst h2;exact DW hs
  ·cases h
 ·split at h
  ·exact DV h
  ·split at h
   ·rename_i args _ _ _ _ _ _
    cases hs:Ny args.toList st with
    |none=>rw [hs] at h;cases h
    |some st1=>
     rw [hs] at h
     exact (Vd _ hs).trans (ey h)
   ·exact ey h
  ·exact ey h
 ·exact ey h
def Lg:List Oper->List Nat
 | []=> []
 |o::r=>(match o.dst with|some d=> [d]|none=> [])++Lg r
def writes:Code->List Nat
 | .region _ ops _=>Lg ops.toList
 | .seq a b=>writes a++writes b
 | .cond _ a b=>writes a++writes b
 | .block _ c=>writes c
 | .loop c=>writes c
 |_=> []
def Ga (P:Nat->Prop) (st st':St):Prop:= ∀(t:Nat) (fr:Bool) (τ:Ty) (x:τ.den),P t->st.get t= .at (.data fr τ x)->st'.get t= .at (.data fr τ x)
theorem Ga.trans {P:Nat->Prop} {a b c:St} (h1:Ga P a b) (h2:Ga P b c):Ga P a c:= λt fr τ x hp h=>h2 t fr τ x hp (h1 t fr τ x hp h)
theorem Ga.mono {P Q:Nat->Prop} {a b:St} (h1:Ga P a b) (h: ∀t,Q t->P t):Ga Q a b:= λt fr τ x hp hx=>h1 t fr τ x (h t hp) hx
theorem Ck.on {P:Nat->Prop} {a b:St} (h:Ck a b):Ga P a b:= λt fr τ x _ hx=>h t fr τ x hx
theorem cS (st:St) (dst:Option Tmp) (v:AV):Ga (λt=>dst≠some t) st (st.put dst v):=by
 intro t fr τ x hp hx
 cases dst with
 |none=>exact hx
 |some d=>rw [bY st v (λh=>hp (by rw [h]))];exact hx
theorem bU {T:Tab} {Γ:Env} {ops:Array Oper} {st st':St} {o:Oper} (h:Fb T Γ ops st o=some st'):Ga (λt=>o.dst≠some t) st st':=by
 have key: ∀s,(evalOp T Γ st o).map (λr=>r.2.put o.dst r.1)=some s->Ga (λt=>o.dst≠some t) st s:=by
  intro s hs
  cases he:evalOp T Γ st o with
  |none=>rw [he] at hs;cases hs
  |some p=>rw [he] at hs;injection hs with hs;subst hs;exact (nj (v:=p.1) (st':=p.2) he).on.trans (cS _ _ _)
 unfold Fb at h
 split at h
 ·exact key _ h
 ·split at h
  ·split at h
   ·exact key _ h
   ·injection h with h;subst h;exact cS _ _ _
  ·injection h with h;subst h;exact cS _ _ _
  ·cases h
theorem kS {T:Tab} {Γ:Env} {ops:Array Oper} : ∀(l:List Oper) (st st':St),aX T Γ ops l st=some st'->Ga (λt=>t∉Lg l) st st'
 | [],st,st',h=>by injection h with h;subst h;exact Ck.rfl'.on
 |o::r,st,st',h=>by
  simp only [aX] at h
  split at h
  ·rename_i s hs
   refine Ga.trans ((bU hs).mono λt ht=>?_) ((kS r _ _ h).mono λt ht=>?_)
   ·intro hd;apply ht;simp [Lg,hd]
   ·intro hd;apply ht;simp [Lg,hd]
  ·cases h
theorem Zy: ∀(l:List Oper) (o:Oper) (d:Nat),o∈l->o.dst=some d->d∈Lg l
 | [],_,_,h,_=>by cases h
 |p::r,o,d,h,hd=>by
  cases h with
  |head=>simp [Lg,hd]
  |tail _ h=>simp only [Lg,Az];exact .inr (Zy r o d h hd)
theorem pk {ops:Array Oper} {i:Nat} {o:Oper} (h:ops[i]?=some o):o∈ops.toList:=by
 rw [Nq] at h
 obtain ⟨h1,h2⟩:=h
 rw [<-h2]
 simp
theorem Zu {T:Tab} {Γ:Env} {ops:Array Oper} : ∀(l:List Nat) (st st':St),Nj T Γ ops l st=some st'->Ga (λt=>t∉Lg ops.toList) st st'
 | [],st,st',h=>by injection h with h;subst h;exact Ck.rfl'.on
 |i::r,st,st',h=>by
  simp only [Nj] at h
  split at h
  ·cases h
  ·rename_i o ho
   split at h
   ·rename_i s hs
    exact ((bU hs).mono λt ht hd=>ht (Zy _ _ _ (pk ho) hd)).trans (Zu r _ _ h)
   ·cases h
theorem Ss {T:Tab} {Γ:Env} {ops:Array Oper} : ∀(l:List Nat) (st st':St),Gj T Γ ops l st=some st'->Ga (λt=>t∉Lg ops.toList) st st'
 | [],st,st',h=>by injection h with h;subst h;exact Ck.rfl'.on
 |i::r,st,st',h=>by
  simp only [Gj] at h
  split at h
  ·cases h
  ·rename_i o ho
   split at h
   ·exact ((cS _ _ _).mono λt ht hd=>ht (Zy _ _ _ (pk ho) hd)).trans (Ss r _ _ h)
   ·cases h
theorem Vc: ∀(l:List Nat) (st:St),Ck st (bq l st)
 | [],_=>Ck.rfl'
 |a::r,st=>(nJ st a).trans (Vc r _)
theorem Wr (live:List Nat): ∀(i:Nat) (l:List AV) (t:Nat),i+t∈live->(Iz live i l).getD t .undef=l.getD t .undef
 |_,[],_,_=>rfl
 |i,v::r,0,h=>by simp [Iz];intro hn;exact absurd h hn
 |i,v::r,t+1,h=>by
  simp only [Iz,Nz]
  exact Wr live (i+1) r t (by rw [show i+1+t=i+(t+1) by omega];exact h)
theorem z0 (l k:Nat) (st:St):Ck st (st.rename l k):=by
 unfold St.rename
 split
 ·split
  ·exact (Qj st (Wa l k) rfl λ_ _ _=>rfl).trans (Ck.Zz rfl)
  ·exact Ck.rfl'
 ·exact Ck.rfl'
theorem eA: ∀(n t:Nat) (st:St),Ck st (Nf n t st)
 |0,_,_=>Ck.rfl'
 |n+1,t,st=>by
  simp only [Nf]
  refine Ck.trans ?_ (eA n (t+1) _)
  split
  ·split
   ·split
    ·exact Ck.rfl'
    ·exact z0 _ _ _
   ·exact Ck.rfl'
  ·exact Ck.rfl'
theorem tt (t:Nat) (st:St):Ck st (cg t st):=by
 unfold cg
 split
 ·rename_i l off len hg
  split
  ·split
   ·intro k fr τ x hk
    have Jd:k≠t:= λe=>by subst e;rw [hg] at hk;cases hk
    rw [bY _ _ Jd]
    exact Lu _ _ _ k fr τ x hk
   ·exact Ck.rfl'
  ·exact Ck.rfl'
 ·exact Ck.rfl'
theorem mc (c:Nat) (st:St):Ck st (Qv c st):=by
 unfold Qv
 split
 ·split
  ·split
   ·split
    ·split
     ·exact (Lu _ _ _).trans (Nb _ _ _)
     ·exact Ck.rfl'
    ·exact Ck.rfl'
   ·exact Ck.rfl'
  ·exact Ck.rfl'
 ·exact Ck.rfl'
theorem cT (live:List Nat): ∀(n c:Nat) (st:St),Ck st (Qo live n c st)
 |0,_,_=>Ck.rfl'
 |n+1,c,st=>by
  simp only [Qo]
  refine Ck.trans ?_ (cT live n (c+1) _)
  split
  ·exact mc _ _
  ·exact Ck.rfl'
theorem gD (live:List Nat): ∀(n t:Nat) (st:St),Ck st (Pw live n t st)
 |0,_,st=>cT live 16 0 st
 |n+1,t,st=>by
  simp only [Pw]
  refine Ck.trans ?_ (gD live n (t+1) _)
  split
  ·exact tt _ _
  ·exact Ck.rfl'
theorem l6 (live:List Nat) (st:St):Ga (λt=>t∈live) st (st.clean live):=by
 intro t fr τ x hp hx
 unfold St.clean
 have key: ∀s:St,s.get t= .at (.data fr τ x)->(if live.contains db then Nf s.tmps.length 0 s else s).get t= .at (.data fr τ x):=by
  intro s hs
  split
  ·exact eA _ _ s t fr τ x hs
  ·exact hs
 have YJ: ∀s:St,s.get t= .at (.data fr τ x)->(if live.any (λt=>Nat.ble Qa t) then s.Jn live else s).get t= .at (.data fr τ x):=by
  intro s hs
  split<;>exact hs
 have YK: ∀s:St,s.get t= .at (.data fr τ x)->(if live.any (λt=>Nat.ble Td t&&Nat.blt t db) then Pw live s.tmps.length 0 s else s).get t= .at (.data fr τ x):=by
  intro s hs
  split
  ·exact gD _ _ _ s t fr τ x hs
  ·exact hs
 refine YJ _ (key _ (YK _ (Vc _ _ t fr τ x ?_)))
 simp only [St.get] at hx⊢
 rw [Wr live 0 st.tmps t (by simpa using hp)]
 exact hx
def c8 (live:Nat->List Nat):Code->Nat->Bool
 | .seq a b,t=>c8 live a t&&c8 live b t
 | .cond _ a b,t=>c8 live a t&&c8 live b t
 | .block _ c,t=>c8 live c t
 | .loop c,t=>(live (Fc c)).contains t&&c8 live c t
 |_,_=>true
theorem oN {a b:Bool} (h:(a&&b)=true):a=true:=by cases a<;>simp_all
theorem lO {a b:Bool} (h:(a&&b)=true):b=true:=by cases a<;>simp_all
theorem oT {T:Tab} {Γ:Env} {ops:Array Oper} {draw:Bool} {st st':St} (h:Su T Γ ops draw st=some st'):Ga (λt=>t∉writes (.region 0 ops draw)) st st':=by
 unfold Su at h
 have go: ∀q,(match Gj T Γ ops (jS q Γ ops) st with
   |some s=>Nj T Γ ops (Kc q Γ ops) s
   |none=>none)=some st'->Ga (λt=>t∉writes (.region 0 ops draw)) st st':=by
  intro q h
  split at h
  ·rename_i s hs
   exact (Ss _ _ _ hs).trans (Zu _ _ _ h)
  ·cases h
 split at h
 ·split at h
  ·exact go false h
  ·split at h
   ·exact go true h
   ·cases h
 ·exact kS _ _ _ h
theorem sl {T:Tab} {Γ:Env} {ops:Array Oper} {draw:Bool} {K:St->Prop} (s0:St): ∀(f:Nat) (Ag:Array Bool) (st:St),Ga (λt=>t∉writes (.region 0 ops draw)) s0 st->anyS T Γ ops K f Ag st->anyS T Γ ops (λs=>K s/\Ga (λt=>t∉writes (.region 0 ops draw)) s0 s) f Ag st
 |0,_,_,hk,h=>⟨h.1,h.2,hk⟩
 |f+1,Ag,st,hk,h=>⟨h.1,λi hi=>by
  obtain ⟨o,st',h1,h2,h3⟩:=h.2 i hi
  have h4:Nj T Γ ops [i] st=some st':=by simp only [Nj,h1,h2]
  exact ⟨o,st',h1,h2,sl s0 f _ _ (hk.trans (Zu _ _ _ h4)) h3⟩⟩
theorem lP {T:Tab} {Γ:Env} {ops:Array Oper} {draw:Bool} {E:List Nat} {K:St->Prop} (s0:St): ∀(f:Nat) (Ag:Array Bool) (st:St),Ga (λt=>t∉writes (.region 0 ops draw)) s0 st->qU T Γ ops E K f Ag st->qU T Γ ops E (λs=>K s/\Ga (λt=>t∉writes (.region 0 ops draw)) s0 s) f Ag st
 |0,_,_,hk,h=>⟨h.1,h.2.1,h.2.2,hk⟩
 |f+1,Ag,st,hk,h=>⟨h.1,h.2.1,λi hi=>by
  obtain ⟨o,st',h1,h2,h3⟩:=h.2.2 i hi
  have h4:Nj T Γ ops [i] st=some st':=by simp only [Nj,h1,h2]
  exact ⟨o,st',h1,h2,lP s0 f _ _ (hk.trans (Zu _ _ _ h4)) h3⟩⟩
theorem j0 {ops:Array Oper} {dead:List Nat} (hd:dead.all (Zp ops)=true) (st:St):Ga (λt=>t∉Lg ops.toList) st (st.Ri dead):=by
 intro t fr τ x ht hx
 unfold St.Ri
 refine Vc _ _ t fr τ x ?_
 show (Iz _ 0 st.tmps).getD t .undef=_
 rw [Wr _ 0 st.tmps t ?_]
 ·exact hx
 ·refine Ce.2 ⟨Et.2 ?_,?_⟩
  ·refine Bo λhn=>?_
   have:st.get t= .undef:=by
    unfold St.get
    rw [Ah,Eb (by omega)];rfl
   rw [hx] at this
   cases this
  ·cases hc:dead.contains (0+t) with
   |false=>rfl
   |true=>
    have hm:0+t∈dead:=by simpa using hc
    have h1:=Bb.1 hd _ hm
    obtain ⟨o,ho,h2⟩:=Gh.1 h1
    rw [Bu] at h2
    exact absurd (Zy _ o t ho (by simpa using h2)) ht
theorem kJ.keeps {T:Tab} {Γ:Env} {ops:Array Oper} {draw:Bool} {st:St} {K:St->Prop} (h:kJ T Γ ops draw st K):kJ T Γ ops draw st (λs=>K s/\Ga (λt=>t∉writes (.region 0 ops draw)) st s):=by
 rcases h with ⟨st',h1,h2⟩|⟨h1,h2,cC,h3,h4|⟨E,st1,h4,h5,h6,h7⟩⟩
 ·exact .inl ⟨st',h1,h2,oT h1⟩
 ·exact .inr ⟨h1,h2,cC,h3, .inl (sl st _ _ _ (Ss _ _ _ h3) h4)⟩
 ·exact .inr ⟨h1,h2,cC,h3, .inr ⟨E,st1,h4,h5,h6,lP st _ _ _ ((Ss _ _ _ h3).trans (Ss _ _ _ h6)) h7⟩⟩
theorem yk.keeps {T:Tab} {Γ:Env} {ops:Array Oper} {draw:Bool} {st:St} {K:St->Prop} (h:yk T Γ ops draw st K):yk T Γ ops draw st (λs=>K s/\Ga (λt=>t∉writes (.region 0 ops draw)) st s):=by
 rcases h with h|⟨dead,hd,h⟩
 ·exact .inl h.keeps
 ·exact .inr ⟨dead,hd,h.keeps.mono λs hs=>⟨hs.1,hs.2.trans (j0 hd s)⟩⟩
theorem kM (ops:Array Oper) {fr:Bool} {τ:Ty} {x:τ.den} : ∀(i:Nat) (l:List AV) (t:Nat),l.getD t .undef= .at (.data fr τ x)->(Pq ops i l).getD t .undef= .at (.data fr τ x)
 |_,[],_,h=>h
 |i,v::r,0,h=>by
  cases v with
  |Ng l=>cases h
  |_=>exact h
 |i,v::r,t+1,h=>by
  have h':=kM ops (i+1) r t h
  cases v<;>(simp only [Pq,Nz];exact h')
theorem l7 (ops:Array Oper) (st:St):Ck st (st.mX ops):= λt _ _ _ hx=>kM ops 0 st.tmps t hx
theorem MH {T:Tab} {Γ:Env} {live:Nat->List Nat} {c:Code} {st:St} {Q:Ma->St->Prop} (h:Pc T Γ live c st Q): ∀(s0:St) (p:Nat->Prop),Ga p s0 st->(∀t,p t->t∉writes c/\c8 live c t=true)->Pc T Γ live c st (λe s=>Q e s/\Ga p s0 s):=by
 induction h with
 |skip h=>exact λs0 p hk _=> .skip ⟨h,hk⟩
 |label h=>exact λs0 p hk _=> .label ⟨h,hk⟩
 |exit h=>exact λs0 p hk _=> .exit ⟨h,hk⟩
 |ret h=>exact λs0 p hk _=> .ret ⟨h,hk⟩
 |region h=>
  exact λs0 p hk hp=> .region (h.keeps.mono λs hs=>⟨hs.1,(hk.trans (l7 _ _).on).trans (hs.2.mono λt ht=>(hp t ht).1)⟩)
 |seq Q1 _ _ h3 RX DR=>
  exact λs0 p hk hp=> .seq _ (RX s0 p hk λt ht=>⟨λhm=>(hp t ht).1 (by simp [writes,hm]),oN (hp t ht).2⟩)
   (λs hs=>DR s hs.1 s0 p hs.2 λt ht=>⟨λhm=>(hp t ht).1 (by simp [writes,hm]),lO (hp t ht).2⟩) λe s he hs=>⟨h3 e s he hs.1,hs.2⟩
 |cond hc _ _ RX DR=>
  exact λs0 p hk hp=> .cond hc (λht=>RX ht s0 p hk λt h=>⟨λhm=>(hp t h).1 (by simp [writes,hm]),oN (hp t h).2⟩)
   fun ht=>DR ht s0 p hk λt h=>⟨λhm=>(hp t h).1 (by simp [writes,hm]),lO (hp t h).2⟩
 |block Q1 _ h2 ih=>
  exact λs0 p hk hp=> .block _ (ih s0 p hk λt ht=>⟨λhm=>(hp t ht).1 (by simpa [writes] using hm),by simpa [c8] using (hp t ht).2⟩) λe s hs=>by
   have h:=h2 e s hs.1
   cases e with
   |normal=>exact ⟨h,hs.2⟩
   |ret=>exact ⟨h,hs.2⟩
   |exit RW=>
    simp only [xe] at h⊢
    split at h
    ·rename_i hi;rw [Ab hi];exact ⟨h,hs.2⟩
    ·rename_i hi;rw [Aj hi];exact ⟨h,hs.2⟩
 |loop Q1 _ _ h3 RX DR=>
  intro s0 p hk hp
  refine .loop _ (RX s0 p (hk.trans ((l6 _ _).mono λt ht=>by simpa using oN (hp t ht).2)) λt ht=>⟨λhm=>(hp t ht).1 (by simpa [writes] using hm),lO (hp t ht).2⟩)
   (λs hs=>DR s hs.1 s0 p hs.2 hp) λe s he hs=>⟨h3 e s he hs.1,hs.2⟩
end Go.Proofs.YtkkdpknjohcekaaGreat
