/-
  Part 29 of the proof that the statement FnExactIterationNodes holds.
-/
import Derived.Test.YtfolipnappekaaaGreatCIterationNodes27
namespace Go.Proofs.YtfolipnappekaaaGreat
open Go.RowKit
def Cp (st st':St):Prop:= ∀(t:Nat) (fr:Bool) (τ:Ty) (x:τ.den),st.get t= .at (.data fr τ x)->st'.get t= .at (.data fr τ x)
theorem Cp.rfl' {st:St} :Cp st st:= λ_ _ _ _ h=>h
theorem Cp.trans {a b c:St} (h1:Cp a b) (h2:Cp b c):Cp a c:= λt fr τ x h=>h2 t fr τ x (h1 t fr τ x h)
theorem Cp.Zo {a b:St} (h:b.tmps=a.tmps):Cp a b:= λt fr τ x hx=>by
 simp only [St.get] at hx⊢
 rw [h]
 exact hx
theorem bZ (st:St) {t d:Nat} (v:AV) (h:t≠d):(st.put (some d) v).get t=st.get t:=by
 simp only [St.put,St.get]
 rw [Qs]
 rw [Ag (by rintro ⟨rfl,_⟩;exact h rfl)]
theorem Po (st:St) (f:AC->AC) (hu:f .undef= .undef) (hd: ∀fr (τ:Ty) (x:τ.den),f (.data fr τ x)= .data fr τ x):Cp st (st.Ks f):=by
 intro t fr τ x h
 simp only [St.Ks,St.get]
 rw [Vf f hu,show st.tmps.getD t .undef=_ from h]
 simp only [AV.map,hd]
theorem nS (st:St) (l:Nat):Cp st (st.forget l):=
 (Po st (Cr l) rfl λ_ _ _=>rfl).trans (Cp.Zo rfl)
theorem bd (st:St) (l:Nat) (fr:Bool) (e:Ty) (xs:List e.den):Cp st (st.freeze l fr e xs):=
 (Po st (Da l fr e xs) rfl λ_ _ _=>rfl).trans (Cp.Zo rfl)
theorem gB (st:St) (l:Nat) (v:Ty) (m:ByteArray->Option v.den):Cp st (st.Ir l v m):=
 (Po st (Hb l v m) rfl λ_ _ _=>rfl).trans (Cp.Zo rfl)
theorem Kz (st:St) (l:Nat) (b:OB):Cp st (st.new l b):=(nS st l).trans (Cp.Zo rfl)
theorem Mn (st:St) (l:Nat) (b:OB):Cp st (st.Ju l b):=Cp.Zo rfl
theorem ej (b:OB) (key l i:Nat) (st:St):Cp st (Uw b key l i st):=by
 unfold Uw
 split
 ·split
  ·dsimp only
   split
   ·exact (Kz _ _ _).trans (Mn _ _ _)
   ·exact Kz _ _ _
  ·exact Cp.rfl'
 ·exact Cp.rfl'
theorem lz (T:Tab) (l:Nat) (t:TypeId) (τ:Ty): ∀(n i:Nat) (st:St),Cp st (fG T l t τ n i st)
 |0,_,_=>Cp.rfl'
 |n+1,i,st=>by
  simp only [fG]
  refine Cp.trans ?_ (lz T l t τ n (i+1) _)
  split
  ·exact ej _ _ _ _ _
  ·exact Cp.rfl'
theorem j5 (T:Tab) (l off:Nat) (t:TypeId) (τ:Ty): ∀(n i:Nat) (st:St),Cp st (eA T l off t τ n i st)
 |0,_,_=>Cp.rfl'
 |n+1,i,st=>by
  simp only [eA]
  refine Cp.trans ?_ (j5 T l off t τ n (i+1) _)
  split
  ·exact ej _ _ _ _ _
  ·exact Cp.rfl'
theorem Rc: ∀(n:Nat) (st:St) (cs iD:List AC) (st':St),Ho n st cs=some (iD,st')->Cp st st'
 |0,st,cs,iD,st',h=>by
  simp only [Ho] at h
  split at h
  ·injection h with h;injection h with h1 h2;subst h2;exact Cp.rfl'
  ·cases h
 |n+1,st,cs,iD,st',h=>by
  simp only [Ho] at h
  split at h
  ·injection h with h;injection h with h1 h2;subst h2;exact Cp.rfl'
  ·split at h
   ·exact (bd _ _ _ _ _).trans (Rc n _ _ _ _ h)
   ·exact (bd _ _ _ _ _).trans (Rc n _ _ _ _ h)
   ·cases h
  ·split at h
   ·exact (gB _ _ _ _).trans (Rc n _ _ _ _ h)
   ·cases h
  ·cases h
theorem Sn {st st':St} {v v':AV} (h:settle st v=some (v',st')):Cp st st':=by
 unfold settle at h
 split at h
 ·split at h
  ·injection h with h;injection h with h1 h2;subst h2;exact bd _ _ _ _ _
  ·injection h with h;injection h with h1 h2;subst h2;exact bd _ _ _ _ _
  ·cases h
 ·split at h
  ·injection h with h;injection h with h1 h2;subst h2;exact gB _ _ _ _
  ·cases h
 ·split at h
  ·injection h with h;injection h with h1 h2;subst h2;exact Cp.rfl'
  ·cases h
 ·rename_i cs
  cases hs:Ho cs.length st cs with
  |none=>rw [hs] at h;cases h
  |some p=>rw [hs] at h;injection h with h;injection h with h1 h2;subst h2;exact Rc _ _ _ _ _ hs
 ·injection h with h;injection h with h1 h2;subst h2;exact Cp.rfl'
 ·cases h
theorem AP {st st':St} {l:Nat} {t:TypeId} {cs:List AC} {v:AV} (h:uM st l t cs=some (v,st')):Cp st st':=by
 unfold uM at h
 split at h
 ·cases h
 ·injection h with h;injection h with h1 h2;subst h2;exact Kz _ _ _
theorem qY {T:Tab} {st st':St} {l:Nat} {t:TypeId} {τ:Ty} {cs:List AC} {v:AV} (h:mkVar T st l t τ cs=some (v,st')):Cp st st':=by
 unfold mkVar at h
 split at h
 ·cases h
 dsimp only at h
 split at h
 ·injection h with h;injection h with h1 h2;subst h2;exact (Kz _ _ _).trans (lz _ _ _ _ _ _ _)
 ·cases h
theorem GZ {T:Tab} {st st':St} {t:TypeId} {p v:AV} (h:Ve T st t p v=some st'):Cp st st':=by
 unfold Ve at h
 split at h
 ·split at h
  ·split at h
   ·injection h with h
    split at h
    ·subst h;exact (Mn _ _ _).trans (j5 _ _ _ _ _ _ _ _)
    ·subst h;exact Mn _ _ _
   ·cases h
  ·cases h
 ·split at h
  ·rename_i hs
   split at h
   ·split at h
    ·split at h
     ·injection h with h;subst h;exact (Sn hs).trans (Mn _ _ _)
     ·cases h
    ·cases h
   ·cases h
  ·cases h
 ·cases h
theorem uD (st:St) (l j m:Nat) (e:Ty) (te:TypeId) (rows:List (List e.den)) (xs:List e.den) (kp:Option (Nat×Nat)):Cp st (Tw st l j m e te rows xs kp):=
 ((Po st (Cs [m] [l]) (by simp [Cs,AC.refs]) λfr τ x=>by simp [Cs,AC.refs]).trans (Cp.Zo rfl)).trans (Mn (st.cQ [m] [l]) _ _)
theorem uE (st:St) (l i m:Nat) (e:Ty) (te tid:TypeId) (rows:List (List e.den)) (kp:Option (Nat×Nat)):Cp st (Qg st l i m e te tid rows kp):=
 (Mn st l _).trans (Kz _ m _)
theorem AR {T:Tab} {st st':St} {t:TypeId} {p v:AV} (h:Py T st t p v=some st'):Cp st st':=by
 unfold Py at h
 split at h
 rotate_left
 ·exact GZ h
 unfold bX at h
 split at h
 ·split at h
  ·rename_i hs
   split at h
   ·split at h
    ·injection h with h;subst h;exact (Sn hs).trans (Mn _ _ _)
    ·cases h
   ·cases h
  ·cases h
 ·split at h
  ·split at h
   ·split at h
    ·injection h with h;subst h
     exact uD _ _ _ _ _ _ _ _ _
    ·cases h
   ·cases h
  ·cases h
 ·cases h
theorem fm {T:Tab} {st st':St} {d:Nat} {t:TypeId} {x y:Operand} {v:AV} (h:Nz T st d t x y=some (v,st')):Cp st st':=by
 unfold Nz at h
 split at h
 ·cases h
 ·split at h
  ·rename_i hs
   split at h
   ·cases h
   ·split at h
    ·split at h
     ·injection h with h;injection h with h1 h2;subst h2;exact ((Sn hs).trans (Kz _ _ _)).trans (Kz _ _ _)
     ·cases h
    ·split at h
     ·split at h
      ·split at h
       ·injection h with h;injection h with h1 h2;subst h2;exact (Sn hs).trans (Kz _ _ _)
       ·cases h
      ·cases h
     ·cases h
    ·cases h
  ·cases h
theorem wX {T:Tab} {st st':St} {d:Nat} {t:TypeId} {x y:Operand} {v:AV} (h:Rk T st d t x y=some (v,st')):Cp st st':=by
 unfold Rk at h
 split at h
 ·rename_i tx
  split at h
  ·rename_i l i c hg
   split at h
   ·split at h
    ·rename_i e te rows kp tid hl ht hc
     refine Cp.trans (b:=(Qg st l i d e te tid rows kp).put (some tx) (.at (.own d 0 (rows.getD i []).length))) ?_ (fm h)
     intro t' fr τ z hz
     by_cases e':t'=tx
     ·subst e';rw [hg] at hz;cases hz
     ·rw [bZ _ _ e'];exact uE st l i d e te tid rows kp t' fr τ z hz
    ·cases h
   ·cases h
  ·exact fm h
 ·exact fm h
theorem NS {T:Tab} {st st':St} {d:Nat} {t:TypeId} {l c v:AV} (h:bV T st d t l c=some (v,st')):Cp st st':=by
 unfold bV at h
 split at h
 ·split at h
  ·split at h
   ·injection h with h;injection h with h1 h2;subst h2;exact Kz _ _ _
   ·cases h
  ·cases h
 ·cases h
theorem qZ (e:Ty): ∀(l:List (Nat×Operand)) (i:Nat) (st st':St) (fr tr:Bool) (ys:List e.den),Lb e i l st=some (fr,tr,ys,st')->Cp st st'
 | [],_,_,_,_,_,_,h=>by
  simp only [Lb] at h
  injection h with h;injection h with h1 h2;injection h2 with h2 h3;injection h3 with h3 h4;subst h4;exact Cp.rfl'
 |(j,x)::r,i,st,st',fr,tr,ys,h=>by
  simp only [Lb] at h
  split at h
  ·split at h
   ·rename_i hs
    split at h
    ·split at h
     ·rename_i hp
      injection h with h;injection h with h1 h2;injection h2 with h2 h3;injection h3 with h3 h4;subst h4
      exact (Sn hs).trans (qZ e r _ _ _ _ _ _ hp)
     ·cases h
    ·cases h
   ·cases h
  ·cases h
theorem pE {T:Tab} {st st':St} {d:Nat} {t:TypeId} {n:Nat} {parts:Array (Nat×Operand)} {v:AV} (h:Mi T st d t n parts=some (v,st')):Cp st st':=by
 unfold Mi at h
 split at h
 ·cases h
 ·split at h
  ·cases h
  ·split at h
   ·split at h
    ·rename_i hp
     injection h with h;injection h with h1 h2;subst h2;exact (qZ _ _ _ _ _ _ _ _ hp).trans (Kz _ _ _)
    ·cases h
   ·cases h
theorem wZ {T:Tab} {st st':St} {d:Nat} {t:TypeId} {v:AV} (h:Vd T st d t=some (v,st')):Cp st st':=by
 unfold Vd at h
 split at h
 ·split at h
  ·injection h with h;injection h with h1 h2;subst h2;exact Kz _ _ _
  ·cases h
 ·cases h
theorem nT {T:Tab} {st st':St} {t:TypeId} {m k x:AV} (h:Jc T st t m k x=some st'):Cp st st':=by
 unfold Jc at h
 split at h
 ·split at h
  ·split at h
   ·injection h with h;subst h;exact Mn _ _ _
   ·cases h
  ·cases h
 ·cases h
theorem NR {T:Tab} {st st':St} {t t':TypeId} {x y v:AV} (h:iG T st t t' x y=some (v,st')):Cp st st':=by
 unfold iG at h
 split at h
 ·split at h
  ·split at h
   ·split at h
    ·injection h with h;injection h with h1 h2;subst h2;exact Mn _ _ _
    ·cases h
   ·cases h
  ·cases h
 ·cases h
theorem GX {T:Tab} {st st':St} {t:TypeId} {x:AV} (h:evalClear T st t x=some st'):Cp st st':=by
 unfold evalClear at h
 split at h
 ·split at h
  ·split at h
   ·split at h
    ·injection h with h;subst h;exact Mn _ _ _
    ·cases h
   ·cases h
  ·cases h
 ·cases h
theorem z7 {st st':St} {c:CK} {ys:c.den} {a:AC} (h:cF st c ys a=some st'):st'.tmps=st.tmps:=by
 unfold cF at h
 repeat' split at h
 all_goals first|(cases h;done)|(simp only [Aa] at h;subst h;rfl)|skip
theorem WR {st st':St} {e:Ty} {ys:List e.den} {a:AC} (h:PE st e ys a=some st'):st'.tmps=st.tmps:=by
 unfold PE at h
 repeat' split at h
 all_goals first|(cases h;done)|(simp only [Aa] at h;subst h;rfl)|skip
theorem Ux: ∀(cs:List (Bool×CK)) (o:IOs.den cs) (as:List AC) (st st':St),Hz cs o as st=some st'->st'.tmps=st.tmps
 | [],_,_,st,st',h=>by simp only [Hz,Aa] at h;subst h;rfl
 |(true, .Fm _)::r,o,[],st,st',h=>by simp [Hz] at h
 |(true, .row _ _)::r,o,[],st,st',h=>by simp [Hz] at h
 |(true, .Hk _ _)::r,o,[],st,st',h=>by simp [Hz] at h
 |(true, .part _ _)::r,o,[],st,st',h=>by simp [Hz] at h
 |(true, .Bm _ _ _)::r,o,[],st,st',h=>by simp [Hz] at h
 |(true, .Bm _ _ _)::r,o,a::as,st,st',h=>Ux r o as st st' (by simpa only [Hz] using h)
 |(false,_)::r,o,[],st,st',h=>by simp [Hz] at h
 |(true, .Fm _)::r,o,a::as,st,st',h=>Ux r o as st st' (by simpa only [Hz] using h)
 |(false,_)::r,o,a::as,st,st',h=>Ux r o as st st' (by simpa only [Hz] using h)
 |(true, .row _ _)::r,o,a::as,st,st',h=>by
  simp only [Hz] at h
  split at h
  ·rename_i hc;exact (Ux r o.2 as _ st' h).trans (z7 hc)
  ·cases h
 |(true, .part _ _)::r,o,a::as,st,st',h=>by
  simp only [Hz] at h
  split at h
  ·rename_i hc;exact (Ux r o.2 as _ st' h).trans (WR hc)
  ·cases h
 |(true, .Hk _ _)::r,o,a::as,st,st',h=>by
  simp only [Hz] at h
  split at h
  ·rename_i hc;exact (Ux r o.2 as _ st' h).trans (z7 hc)
  ·cases h
theorem AO (cA st:St) (ls:List Nat) (n:Nat) (hl:cA.tmps.length=st.tmps.length) (h:Cp cA st):Cp cA (mq cA st ls n):=by
 unfold mq
 split
 ·exact h
 ·intro t fr τ x hx
  show (Ll _ cA.tmps st.tmps).getD t .undef=_
  rcases fW ls cA.tmps st.tmps t hl with ⟨k,i,c,h1,_⟩|h1
  ·rw [show cA.tmps.getD t .undef=_ from hx] at h1;cases h1
  ·rw [h1];exact h t fr τ x hx
theorem GW {st st':St} {d:Option Nat} {s:MSpec} {args:List AV} {v:AV} (h:Xz st d s args=some (v,st')):Cp st st':=by
 unfold Xz at h
 split at h
 ·cases h
 split at h
 ·cases h
 split at h
 ·cases h
 split at h
 ·split at h
  ·cases h
  split at h
  ·cases h
  rename_i st1 hp
  split at h
  ·cases h
  split at h
  ·simp only [Aa,Ad] at h
   obtain ⟨_,rfl⟩:=h
   have cE:=Ux _ _ _ _ _ hp
   refine AO _ _ _ _ ?_ ?_
   ·simp only [m4,qb]
    rw [<-cE]
    simp only [St.cQ,St.Ks,Dj]
   ·refine Cp.trans (Cp.Zo cE) ?_
    refine Cp.trans (Po st1 (Cs _ _) (by simp [Cs,AC.refs]) λfr τ x=>by simp [Cs,AC.refs]) (Cp.Zo qb)
  ·cases h
 ·cases h
theorem dx (st:St) (k m:Nat) (b:OB):Cp st (Ra st k m b):=
 (Po st (Cs [m,k] []) (by simp [Cs,AC.refs]) λfr τ x=>by simp [Cs,AC.refs]).trans (Cp.Zo rfl)
theorem GY {T:Tab} {st st':St} {d:Nat} {t:TypeId} {l c v:AV} (h:Yb T st d t l c=some (v,st')):Cp st st':=by
 unfold Yb at h
 split at h
 ·exact NS h
 ·split at h
  ·split at h
   ·injection h with h;injection h with h1 h2;subst h2;exact dx _ _ _ _
   ·cases h
  ·cases h
theorem nR {T:Tab} {st st':St} {d:Nat} {t:TypeId} {n:Nat} {parts:Array (Nat×Operand)} {v:AV} (h:Iz T st d t n parts=some (v,st')):Cp st st':=by
 unfold Iz at h
 split at h
 ·exact pE h
 ·repeat' split at h
  all_goals first|(cases h;done)|(injection h with h;injection h with h1 h2;subst h2;exact dx _ _ _ _)
theorem wY {T:Tab} {st st':St} {d:Nat} {t:TypeId} {x y:Operand} {v:AV} (h:Rl T st d t x y=some (v,st')):Cp st st':=by
 unfold Rl at h
 split at h
 ·exact wX h
 ·repeat' split at h
  all_goals first|(cases h;done)|(injection h with h;injection h with h1 h2;subst h2;exact dx _ _ _ _)
theorem ei {st st':St} {v:AV} {o:Option AV} (h:o.map (λv=>(v,st))=some (v,st')):Cp st st':=by
 cases o with
 |none=>cases h
 |some u=>injection h with h;injection h with h1 h2;subst h2;exact Cp.rfl'
theorem aB: ∀(l:List Operand) {st st1:St},Pa l st=some st1->Cp st st1
 | [],st,st1,h=>by
  simp only [Pa,Aa] at h
  subst h
  exact Cp.rfl'
 |x::r,st,st1,h=>by
  simp only [Pa] at h
  cases hs:settle st (st.ev x) with
  |none=>rw [hs] at h;cases h
  |some p=>
   rw [hs] at h
   exact (Sn (v':=p.1) (st':=p.2) hs).trans (aB r h)
theorem nz {T:Tab} {Γ:Env} {st st':St} {o:Oper} {v:AV} (h:evalOp T Γ st o=some (v,st')):Cp st st':=by
 unfold evalOp at h
 split at h
 ·split at h
  ·split at h
   ·injection h with h;injection h with h1 h2;subst h2;exact Kz _ _ _
   ·cases h
  ·injection h with h;injection h with h1 h2;subst h2;exact Cp.rfl'
 ·split at h
  ·split at h
   ·exact AP h
   ·exact qY h
  ·cases h
 ·split at h
  ·split at h
   ·split at h
    ·split at h
     ·obtain ⟨p,_,hp⟩:=Option.map_eq_some_iff.1 h
      cases hp
      exact Cp.rfl'
     ·cases h
    ·exact qY h
   ·cases h
  ·cases h
 ·rename_i t p x _
  cases hs:Py T st t (st.ev p) (st.ev x) with
  |none=>rw [hs] at h;cases h
  |some s=>rw [hs] at h;injection h with h;injection h with h1 h2;subst h2;exact AR hs
 ·split at h
  ·exact GY h
  ·cases h
 ·split at h
  ·exact wZ h
  ·cases h
 ·rename_i t m k x _
  cases hs:Jc T st t (st.ev m) (st.ev k) (st.ev x) with
  |none=>rw [hs] at h;cases h
  |some s=>rw [hs] at h;injection h with h;injection h with h1 h2;subst h2;exact nT hs
 ·rename_i t m k x _
  cases hs:Jc T st t (st.ev m) (st.ev k) (st.ev x) with
  |none=>rw [hs] at h;cases h
  |some s=>rw [hs] at h;injection h with h;injection h with h1 h2;subst h2;exact nT hs
 ·split at h
  ·exact nR h
  ·cases h
 ·exact ei h
 ·split at h
  ·split at h
   ·exact wY h
   ·cases h
  ·cases h
 ·split at h
  ·exact NR h
  ·cases h
 ·split at h
  ·rename_i x t _ _
   cases hs:evalClear T st t (st.ev x) with
   |none=>rw [hs] at h;cases h
   |some s=>rw [hs] at h;injection h with h;injection h with h1 h2;subst h2;exact GX hs
  ·cases h
 ·split at h
  ·exact GW h
  ·split at h
   ·rename_i args _ _ _ _ _ _
    cases hs:Pa args.toList st with
    |none=>rw [hs] at h;cases h
    |some st1=>
     rw [hs] at h
     exact (aB _ hs).trans (ei h)
   ·exact ei h
  ·exact ei h
 ·exact ei h
def Qt:List Oper->List Nat
 | []=> []
 |o::r=>(match o.dst with|some d=> [d]|none=> [])++Qt r
def writes:Code->List Nat
 | .region _ ops _=>Qt ops.toList
 | .seq a b=>writes a++writes b
 | .cond _ a b=>writes a++writes b
 | .block _ c=>writes c
 | .loop c=>writes c
 |_=> []
def Io (P:Nat->Prop) (st st':St):Prop:= ∀(t:Nat) (fr:Bool) (τ:Ty) (x:τ.den),P t->st.get t= .at (.data fr τ x)->st'.get t= .at (.data fr τ x)
theorem Io.trans {P:Nat->Prop} {a b c:St} (h1:Io P a b) (h2:Io P b c):Io P a c:= λt fr τ x hp h=>h2 t fr τ x hp (h1 t fr τ x hp h)
theorem Io.mono {P Q:Nat->Prop} {a b:St} (h1:Io P a b) (h: ∀t,Q t->P t):Io Q a b:= λt fr τ x hp hx=>h1 t fr τ x (h t hp) hx
theorem Cp.on {P:Nat->Prop} {a b:St} (h:Cp a b):Io P a b:= λt fr τ x _ hx=>h t fr τ x hx
theorem cU (st:St) (dst:Option Tmp) (v:AV):Io (λt=>dst≠some t) st (st.put dst v):=by
 intro t fr τ x hp hx
 cases dst with
 |none=>exact hx
 |some d=>rw [bZ st v (λh=>hp (by rw [h]))];exact hx
theorem iI {T:Tab} {Γ:Env} {ops:Array Oper} {st st':St} {o:Oper} (h:Er T Γ ops st o=some st'):Io (λt=>o.dst≠some t) st st':=by
 have key: ∀s,(evalOp T Γ st o).map (λr=>r.2.put o.dst r.1)=some s->Io (λt=>o.dst≠some t) st s:=by
  intro s hs
  cases he:evalOp T Γ st o with
  |none=>rw [he] at hs;cases hs
  |some p=>rw [he] at hs;injection hs with hs;subst hs;exact (nz (v:=p.1) (st':=p.2) he).on.trans (cU _ _ _)
 unfold Er at h
 split at h
 ·exact key _ h
 ·split at h
  ·split at h
   ·exact key _ h
   ·injection h with h;subst h;exact cU _ _ _
  ·injection h with h;subst h;exact cU _ _ _
  ·cases h
theorem lf {T:Tab} {Γ:Env} {ops:Array Oper} : ∀(l:List Oper) (st st':St),aY T Γ ops l st=some st'->Io (λt=>t∉Qt l) st st'
 | [],st,st',h=>by injection h with h;subst h;exact Cp.rfl'.on
 |o::r,st,st',h=>by
  simp only [aY] at h
  split at h
  ·rename_i s hs
   refine Io.trans ((iI hs).mono λt ht=>?_) ((lf r _ _ h).mono λt ht=>?_)
   ·intro hd;apply ht;simp [Qt,hd]
   ·intro hd;apply ht;simp [Qt,hd]
  ·cases h
theorem dC: ∀(l:List Oper) (o:Oper) (d:Nat),o∈l->o.dst=some d->d∈Qt l
 | [],_,_,h,_=>by cases h
 |p::r,o,d,h,hd=>by
  cases h with
  |head=>simp [Qt,hd]
  |tail _ h=>simp only [Qt,Bb];exact .inr (dC r o d h hd)
theorem yU {ops:Array Oper} {i:Nat} {o:Oper} (h:ops[i]?=some o):o∈ops.toList:=by
 rw [Ng] at h
 obtain ⟨h1,h2⟩:=h
 rw [<-h2]
 simp
theorem Zk {T:Tab} {Γ:Env} {ops:Array Oper} : ∀(l:List Nat) (st st':St),Mv T Γ ops l st=some st'->Io (λt=>t∉Qt ops.toList) st st'
 | [],st,st',h=>by injection h with h;subst h;exact Cp.rfl'.on
 |i::r,st,st',h=>by
  simp only [Mv] at h
  split at h
  ·cases h
  ·rename_i o ho
   split at h
   ·rename_i s hs
    exact ((iI hs).mono λt ht hd=>ht (dC _ _ _ (yU ho) hd)).trans (Zk r _ _ h)
   ·cases h
theorem Rn {T:Tab} {Γ:Env} {ops:Array Oper} : ∀(l:List Nat) (st st':St),Ga T Γ ops l st=some st'->Io (λt=>t∉Qt ops.toList) st st'
 | [],st,st',h=>by injection h with h;subst h;exact Cp.rfl'.on
 |i::r,st,st',h=>by
  simp only [Ga] at h
  split at h
  ·cases h
  ·rename_i o ho
   split at h
   ·exact ((cU _ _ _).mono λt ht hd=>ht (dC _ _ _ (yU ho) hd)).trans (Rn r _ _ h)
   ·cases h
theorem gA: ∀(l:List Nat) (st:St),Cp st (e8 l st)
 | [],_=>Cp.rfl'
 |a::r,st=>(nS st a).trans (gA r _)
theorem iy (live:List Nat): ∀(i:Nat) (l:List AV) (t:Nat),i+t∈live->(Kd live i l).getD t .undef=l.getD t .undef
 |_,[],_,_=>rfl
 |i,v::r,0,h=>by simp [Kd];intro hn;exact absurd h hn
 |i,v::r,t+1,h=>by
  simp only [Kd,No]
  exact iy live (i+1) r t (by rw [show i+1+t=i+(t+1) by omega];exact h)
theorem AQ (l k:Nat) (st:St):Cp st (st.rename l k):=by
 unfold St.rename
 split
 ·split
  ·exact (Po st (Vm l k) rfl λ_ _ _=>rfl).trans (Cp.Zo rfl)
  ·exact Cp.rfl'
 ·exact Cp.rfl'
theorem ek: ∀(n t:Nat) (st:St),Cp st (Mo n t st)
 |0,_,_=>Cp.rfl'
 |n+1,t,st=>by
  simp only [Mo]
  refine Cp.trans ?_ (ek n (t+1) _)
  split
  ·split
   ·split
    ·exact Cp.rfl'
    ·exact AQ _ _ _
   ·exact Cp.rfl'
  ·exact Cp.rfl'
theorem uF (t:Nat) (st:St):Cp st (cg t st):=by
 unfold cg
 split
 ·rename_i l off len hg
  split
  ·split
   ·intro k fr τ x hk
    have Ik:k≠t:= λe=>by subst e;rw [hg] at hk;cases hk
    rw [bZ _ _ Ik]
    exact Kz _ _ _ k fr τ x hk
   ·exact Cp.rfl'
  ·exact Cp.rfl'
 ·exact Cp.rfl'
theorem mr (c:Nat) (st:St):Cp st (Qd c st):=by
 unfold Qd
 split
 ·split
  ·split
   ·split
    ·split
     ·exact (Kz _ _ _).trans (Mn _ _ _)
     ·exact Cp.rfl'
    ·exact Cp.rfl'
   ·exact Cp.rfl'
  ·exact Cp.rfl'
 ·exact Cp.rfl'
theorem cV (live:List Nat): ∀(n c:Nat) (st:St),Cp st (Pu live n c st)
 |0,_,_=>Cp.rfl'
 |n+1,c,st=>by
  simp only [Pu]
  refine Cp.trans ?_ (cV live n (c+1) _)
  split
  ·exact mr _ _
  ·exact Cp.rfl'
theorem gC (live:List Nat): ∀(n t:Nat) (st:St),Cp st (Oz live n t st)
 |0,_,st=>cV live 16 0 st
 |n+1,t,st=>by
  simp only [Oz]
  refine Cp.trans ?_ (gC live n (t+1) _)
  split
  ·exact uF _ _
  ·exact Cp.rfl'
theorem lx (live:List Nat) (st:St):Io (λt=>t∈live) st (st.clean live):=by
 intro t fr τ x hp hx
 unfold St.clean
 have key: ∀s:St,s.get t= .at (.data fr τ x)->(if live.contains da then Mo s.tmps.length 0 s else s).get t= .at (.data fr τ x):=by
  intro s hs
  split
  ·exact ek _ _ s t fr τ x hs
  ·exact hs
 have Ab7: ∀s:St,s.get t= .at (.data fr τ x)->(if live.any (λt=>Nat.ble Ud t) then s.Im live else s).get t= .at (.data fr τ x):=by
  intro s hs
  split<;>exact hs
 have Ab8: ∀s:St,s.get t= .at (.data fr τ x)->(if live.any (λt=>Nat.ble Rz t&&Nat.blt t da) then Oz live s.tmps.length 0 s else s).get t= .at (.data fr τ x):=by
  intro s hs
  split
  ·exact gC _ _ _ s t fr τ x hs
  ·exact hs
 refine Ab7 _ (key _ (Ab8 _ (gA _ _ t fr τ x ?_)))
 simp only [St.get] at hx⊢
 rw [iy live 0 st.tmps t (by simpa using hp)]
 exact hx
def c8 (live:Nat->List Nat):Code->Nat->Bool
 | .seq a b,t=>c8 live a t&&c8 live b t
 | .cond _ a b,t=>c8 live a t&&c8 live b t
 | .block _ c,t=>c8 live c t
 | .loop c,t=>(live (Es c)).contains t&&c8 live c t
 |_,_=>true
theorem pd {a b:Bool} (h:(a&&b)=true):a=true:=by cases a<;>simp_all
theorem m5 {a b:Bool} (h:(a&&b)=true):b=true:=by cases a<;>simp_all
theorem pq {T:Tab} {Γ:Env} {ops:Array Oper} {draw:Bool} {st st':St} (h:Ro T Γ ops draw st=some st'):Io (λt=>t∉writes (.region 0 ops draw)) st st':=by
 unfold Ro at h
 have go: ∀q,(match Ga T Γ ops (ke q Γ ops) st with
   |some s=>Mv T Γ ops (Jh q Γ ops) s
   |none=>none)=some st'->Io (λt=>t∉writes (.region 0 ops draw)) st st':=by
  intro q h
  split at h
  ·rename_i s hs
   exact (Rn _ _ _ hs).trans (Zk _ _ _ h)
  ·cases h
 split at h
 ·split at h
  ·exact go false h
  ·split at h
   ·exact go true h
   ·cases h
 ·exact lf _ _ _ h
theorem tu {T:Tab} {Γ:Env} {ops:Array Oper} {draw:Bool} {K:St->Prop} (s0:St): ∀(f:Nat) (Ah:Array Bool) (st:St),Io (λt=>t∉writes (.region 0 ops draw)) s0 st->anyS T Γ ops K f Ah st->anyS T Γ ops (λs=>K s/\Io (λt=>t∉writes (.region 0 ops draw)) s0 s) f Ah st
 |0,_,_,hk,h=>⟨h.1,h.2,hk⟩
 |f+1,Ah,st,hk,h=>⟨h.1,λi hi=>by
  obtain ⟨o,st',h1,h2,h3⟩:=h.2 i hi
  have h4:Mv T Γ ops [i] st=some st':=by simp only [Mv,h1,h2]
  exact ⟨o,st',h1,h2,tu s0 f _ _ (hk.trans (Zk _ _ _ h4)) h3⟩⟩
theorem tt {T:Tab} {Γ:Env} {ops:Array Oper} {draw:Bool} {E:List Nat} {K:St->Prop} (s0:St): ∀(f:Nat) (Ah:Array Bool) (st:St),Io (λt=>t∉writes (.region 0 ops draw)) s0 st->wH T Γ ops E K f Ah st->wH T Γ ops E (λs=>K s/\Io (λt=>t∉writes (.region 0 ops draw)) s0 s) f Ah st
 |0,_,_,hk,h=>⟨h.1,h.2.1,h.2.2,hk⟩
 |f+1,Ah,st,hk,h=>⟨h.1,h.2.1,λi hi=>by
  obtain ⟨o,st',h1,h2,h3⟩:=h.2.2 i hi
  have h4:Mv T Γ ops [i] st=some st':=by simp only [Mv,h1,h2]
  exact ⟨o,st',h1,h2,tt s0 f _ _ (hk.trans (Zk _ _ _ h4)) h3⟩⟩
theorem zA.keeps {T:Tab} {Γ:Env} {ops:Array Oper} {draw:Bool} {st:St} {K:St->Prop} (h:zA T Γ ops draw st K):zA T Γ ops draw st (λs=>K s/\Io (λt=>t∉writes (.region 0 ops draw)) st s):=by
 rcases h with ⟨st',h1,h2⟩|⟨h1,h2,cA,h3,h4|⟨E,st1,h4,h5,h6,h7⟩⟩
 ·exact .inl ⟨st',h1,h2,pq h1⟩
 ·exact .inr ⟨h1,h2,cA,h3, .inl (tu st _ _ _ (Rn _ _ _ h3) h4)⟩
 ·exact .inr ⟨h1,h2,cA,h3, .inr ⟨E,st1,h4,h5,h6,tt st _ _ _ ((Rn _ _ _ h3).trans (Rn _ _ _ h6)) h7⟩⟩
theorem l6 (ops:Array Oper) {fr:Bool} {τ:Ty} {x:τ.den} : ∀(i:Nat) (l:List AV) (t:Nat),l.getD t .undef= .at (.data fr τ x)->(Ov ops i l).getD t .undef= .at (.data fr τ x)
 |_,[],_,h=>h
 |i,v::r,0,h=>by
  cases v with
  |Ms l=>cases h
  |_=>exact h
 |i,v::r,t+1,h=>by
  have h':=l6 ops (i+1) r t h
  cases v<;>(simp only [Ov,No];exact h')
theorem ly (ops:Array Oper) (st:St):Cp st (st.nm ops):= λt _ _ _ hx=>l6 ops 0 st.tmps t hx
theorem PT {T:Tab} {Γ:Env} {live:Nat->List Nat} {c:Code} {st:St} {Q:Lh->St->Prop} (h:Oi T Γ live c st Q): ∀(s0:St) (p:Nat->Prop),Io p s0 st->(∀t,p t->t∉writes c/\c8 live c t=true)->Oi T Γ live c st (λe s=>Q e s/\Io p s0 s):=by
 induction h with
 |skip h=>exact λs0 p hk _=> .skip ⟨h,hk⟩
 |label h=>exact λs0 p hk _=> .label ⟨h,hk⟩
 |exit h=>exact λs0 p hk _=> .exit ⟨h,hk⟩
 |ret h=>exact λs0 p hk _=> .ret ⟨h,hk⟩
 |region h=>
  exact λs0 p hk hp=> .region (h.keeps.mono λs hs=>⟨hs.1,(hk.trans (ly _ _).on).trans (hs.2.mono λt ht=>(hp t ht).1)⟩)
 |seq Q1 _ _ h3 VE GR=>
  exact λs0 p hk hp=> .seq _ (VE s0 p hk λt ht=>⟨λhm=>(hp t ht).1 (by simp [writes,hm]),pd (hp t ht).2⟩)
   (λs hs=>GR s hs.1 s0 p hs.2 λt ht=>⟨λhm=>(hp t ht).1 (by simp [writes,hm]),m5 (hp t ht).2⟩) λe s he hs=>⟨h3 e s he hs.1,hs.2⟩
 |cond hc _ _ VE GR=>
  exact λs0 p hk hp=> .cond hc (λht=>VE ht s0 p hk λt h=>⟨λhm=>(hp t h).1 (by simp [writes,hm]),pd (hp t h).2⟩)
   fun ht=>GR ht s0 p hk λt h=>⟨λhm=>(hp t h).1 (by simp [writes,hm]),m5 (hp t h).2⟩
 |block Q1 _ h2 ih=>
  exact λs0 p hk hp=> .block _ (ih s0 p hk λt ht=>⟨λhm=>(hp t ht).1 (by simpa [writes] using hm),by simpa [c8] using (hp t ht).2⟩) λe s hs=>by
   have h:=h2 e s hs.1
   cases e with
   |normal=>exact ⟨h,hs.2⟩
   |ret=>exact ⟨h,hs.2⟩
   |exit VD=>
    simp only [yH] at h⊢
    split at h
    ·rename_i hi;rw [Ab hi];exact ⟨h,hs.2⟩
    ·rename_i hi;rw [Ag hi];exact ⟨h,hs.2⟩
 |loop Q1 _ _ h3 VE GR=>
  intro s0 p hk hp
  refine .loop _ (VE s0 p (hk.trans ((lx _ _).mono λt ht=>by simpa using pd (hp t ht).2)) λt ht=>⟨λhm=>(hp t ht).1 (by simpa [writes] using hm),m5 (hp t ht).2⟩)
   (λs hs=>GR s hs.1 s0 p hs.2 hp) λe s he hs=>⟨h3 e s he hs.1,hs.2⟩
end Go.Proofs.YtfolipnappekaaaGreat
