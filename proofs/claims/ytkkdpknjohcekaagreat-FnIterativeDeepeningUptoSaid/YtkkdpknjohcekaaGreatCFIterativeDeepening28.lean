/-
  Part 29 of the proof that the statement FnIterativeDeepening holds.
-/
import Derived.Test.YtkkdpknjohcekaaGreatCFIterativeDeepening27
namespace Go.Proofs.YtkkdpknjohcekaaGreat
open Go.RowKit
def Ci (st st':St):Prop:= ∀(t:Nat) (fr:Bool) (τ:Ty) (x:τ.den),st.get t= .at (.data fr τ x)->st'.get t= .at (.data fr τ x)
theorem Ci.rfl' {st:St} :Ci st st:= λ_ _ _ _ h=>h
theorem Ci.trans {a b c:St} (h1:Ci a b) (h2:Ci b c):Ci a c:= λt fr τ x h=>h2 t fr τ x (h1 t fr τ x h)
theorem Ci.Zo {a b:St} (h:b.tmps=a.tmps):Ci a b:= λt fr τ x hx=>by
 simp only [St.get] at hx⊢
 rw [h]
 exact hx
theorem bL (st:St) {t d:Nat} (v:AV) (h:t≠d):(st.put (some d) v).get t=st.get t:=by
 simp only [St.put,St.get]
 rw [Rg]
 rw [Ai (by rintro ⟨rfl,_⟩;exact h rfl)]
theorem Pz (st:St) (f:AC->AC) (hu:f .undef= .undef) (hd: ∀fr (τ:Ty) (x:τ.den),f (.data fr τ x)= .data fr τ x):Ci st (st.Ln f):=by
 intro t fr τ x h
 simp only [St.Ln,St.get]
 rw [Vi f hu,show st.tmps.getD t .undef=_ from h]
 simp only [AV.map,hd]
theorem nD (st:St) (l:Nat):Ci st (st.forget l):=
 (Pz st (Ck l) rfl λ_ _ _=>rfl).trans (Ci.Zo rfl)
theorem aV (st:St) (l:Nat) (fr:Bool) (e:Ty) (xs:List e.den):Ci st (st.freeze l fr e xs):=
 (Pz st (Cv l fr e xs) rfl λ_ _ _=>rfl).trans (Ci.Zo rfl)
theorem gA (st:St) (l:Nat) (v:Ty) (m:ByteArray->Option v.den):Ci st (st.Jn l v m):=
 (Pz st (Hp l v m) rfl λ_ _ _=>rfl).trans (Ci.Zo rfl)
theorem Lu (st:St) (l:Nat) (b:OB):Ci st (st.new l b):=(nD st l).trans (Ci.Zo rfl)
theorem Mz (st:St) (l:Nat) (b:OB):Ci st (st.Kq l b):=Ci.Zo rfl
theorem ej (b:OB) (key l i:Nat) (st:St):Ci st (Vb b key l i st):=by
 unfold Vb
 split
 ·split
  ·dsimp only
   split
   ·exact (Lu _ _ _).trans (Mz _ _ _)
   ·exact Lu _ _ _
  ·exact Ci.rfl'
 ·exact Ci.rfl'
theorem l4 (T:Tab) (l:Nat) (t:TypeId) (τ:Ty): ∀(n i:Nat) (st:St),Ci st (fG T l t τ n i st)
 |0,_,_=>Ci.rfl'
 |n+1,i,st=>by
  simp only [fG]
  refine Ci.trans ?_ (l4 T l t τ n (i+1) _)
  split
  ·exact ej _ _ _ _ _
  ·exact Ci.rfl'
theorem iV (T:Tab) (l off:Nat) (t:TypeId) (τ:Ty): ∀(n i:Nat) (st:St),Ci st (ew T l off t τ n i st)
 |0,_,_=>Ci.rfl'
 |n+1,i,st=>by
  simp only [ew]
  refine Ci.trans ?_ (iV T l off t τ n (i+1) _)
  split
  ·exact ej _ _ _ _ _
  ·exact Ci.rfl'
theorem Rp: ∀(n:Nat) (st:St) (cs iB:List AC) (st':St),Ic n st cs=some (iB,st')->Ci st st'
 |0,st,cs,iB,st',h=>by
  simp only [Ic] at h
  split at h
  ·injection h with h;injection h with h1 h2;subst h2;exact Ci.rfl'
  ·cases h
 |n+1,st,cs,iB,st',h=>by
  simp only [Ic] at h
  split at h
  ·injection h with h;injection h with h1 h2;subst h2;exact Ci.rfl'
  ·split at h
   ·exact (aV _ _ _ _ _).trans (Rp n _ _ _ _ h)
   ·exact (aV _ _ _ _ _).trans (Rp n _ _ _ _ h)
   ·cases h
  ·split at h
   ·exact (gA _ _ _ _).trans (Rp n _ _ _ _ h)
   ·cases h
  ·cases h
theorem Td {st st':St} {v v':AV} (h:settle st v=some (v',st')):Ci st st':=by
 unfold settle at h
 split at h
 ·split at h
  ·injection h with h;injection h with h1 h2;subst h2;exact aV _ _ _ _ _
  ·injection h with h;injection h with h1 h2;subst h2;exact aV _ _ _ _ _
  ·cases h
 ·split at h
  ·injection h with h;injection h with h1 h2;subst h2;exact gA _ _ _ _
  ·cases h
 ·split at h
  ·injection h with h;injection h with h1 h2;subst h2;exact Ci.rfl'
  ·cases h
 ·rename_i cs
  cases hs:Ic cs.length st cs with
  |none=>rw [hs] at h;cases h
  |some p=>rw [hs] at h;injection h with h;injection h with h1 h2;subst h2;exact Rp _ _ _ _ _ hs
 ·injection h with h;injection h with h1 h2;subst h2;exact Ci.rfl'
 ·cases h
theorem z7 {st st':St} {l:Nat} {t:TypeId} {cs:List AC} {v:AV} (h:tM st l t cs=some (v,st')):Ci st st':=by
 unfold tM at h
 split at h
 ·cases h
 ·injection h with h;injection h with h1 h2;subst h2;exact Lu _ _ _
theorem qi {T:Tab} {st st':St} {l:Nat} {t:TypeId} {τ:Ty} {cs:List AC} {v:AV} (h:mkVar T st l t τ cs=some (v,st')):Ci st st':=by
 unfold mkVar at h
 split at h
 ·cases h
 dsimp only at h
 split at h
 ·injection h with h;injection h with h1 h2;subst h2;exact (Lu _ _ _).trans (l4 _ _ _ _ _ _ _)
 ·cases h
theorem ED {T:Tab} {st st':St} {t:TypeId} {p v:AV} (h:Vg T st t p v=some st'):Ci st st':=by
 unfold Vg at h
 split at h
 ·split at h
  ·split at h
   ·injection h with h
    split at h
    ·subst h;exact (Mz _ _ _).trans (iV _ _ _ _ _ _ _ _)
    ·subst h;exact Mz _ _ _
   ·cases h
  ·cases h
 ·split at h
  ·rename_i hs
   split at h
   ·split at h
    ·split at h
     ·injection h with h;subst h;exact (Td hs).trans (Mz _ _ _)
     ·cases h
    ·cases h
   ·cases h
  ·cases h
 ·cases h
theorem tv (st:St) (l j m:Nat) (e:Ty) (te:TypeId) (rows:List (List e.den)) (xs:List e.den) (kp:Option (Nat×Nat)):Ci st (Ue st l j m e te rows xs kp):=
 ((Pz st (Cm [m] [l]) (by simp [Cm,AC.refs]) λfr τ x=>by simp [Cm,AC.refs]).trans (Ci.Zo rfl)).trans (Mz (st.cI [m] [l]) _ _)
theorem tw (st:St) (l i m:Nat) (e:Ty) (te tid:TypeId) (rows:List (List e.den)) (kp:Option (Nat×Nat)):Ci st (Qq st l i m e te tid rows kp):=
 (Mz st l _).trans (Lu _ m _)
theorem z9 {T:Tab} {st st':St} {t:TypeId} {p v:AV} (h:Qe T st t p v=some st'):Ci st st':=by
 unfold Qe at h
 split at h
 rotate_left
 ·exact ED h
 unfold bJ at h
 split at h
 ·split at h
  ·rename_i hs
   split at h
   ·split at h
    ·injection h with h;subst h;exact (Td hs).trans (Mz _ _ _)
    ·cases h
   ·cases h
  ·cases h
 ·split at h
  ·split at h
   ·split at h
    ·injection h with h;subst h
     exact tv _ _ _ _ _ _ _ _ _
    ·cases h
   ·cases h
  ·cases h
 ·cases h
theorem fp {T:Tab} {st st':St} {d:Nat} {t:TypeId} {x y:Operand} {v:AV} (h:Oi T st d t x y=some (v,st')):Ci st st':=by
 unfold Oi at h
 split at h
 ·cases h
 ·split at h
  ·rename_i hs
   split at h
   ·cases h
   ·split at h
    ·split at h
     ·injection h with h;injection h with h1 h2;subst h2;exact ((Td hs).trans (Lu _ _ _)).trans (Lu _ _ _)
     ·cases h
    ·split at h
     ·split at h
      ·split at h
       ·injection h with h;injection h with h1 h2;subst h2;exact (Td hs).trans (Lu _ _ _)
       ·cases h
      ·cases h
     ·cases h
    ·cases h
  ·cases h
theorem vL {T:Tab} {st st':St} {d:Nat} {t:TypeId} {x y:Operand} {v:AV} (h:Se T st d t x y=some (v,st')):Ci st st':=by
 unfold Se at h
 split at h
 ·rename_i tx
  split at h
  ·rename_i l i c hg
   split at h
   ·split at h
    ·rename_i e te rows kp tid hl ht hc
     refine Ci.trans (b:=(Qq st l i d e te tid rows kp).put (some tx) (.at (.own d 0 (rows.getD i []).length))) ?_ (fp h)
     intro t' fr τ z hz
     by_cases e':t'=tx
     ·subst e';rw [hg] at hz;cases hz
     ·rw [bL _ _ e'];exact tw st l i d e te tid rows kp t' fr τ z hz
    ·cases h
   ·cases h
  ·exact fp h
 ·exact fp h
theorem KG {T:Tab} {st st':St} {d:Nat} {t:TypeId} {l c v:AV} (h:bH T st d t l c=some (v,st')):Ci st st':=by
 unfold bH at h
 split at h
 ·split at h
  ·split at h
   ·injection h with h;injection h with h1 h2;subst h2;exact Lu _ _ _
   ·cases h
  ·cases h
 ·cases h
theorem qj (e:Ty): ∀(l:List (Nat×Operand)) (i:Nat) (st st':St) (fr tr:Bool) (ys:List e.den),Lw e i l st=some (fr,tr,ys,st')->Ci st st'
 | [],_,_,_,_,_,_,h=>by
  simp only [Lw] at h
  injection h with h;injection h with h1 h2;injection h2 with h2 h3;injection h3 with h3 h4;subst h4;exact Ci.rfl'
 |(j,x)::r,i,st,st',fr,tr,ys,h=>by
  simp only [Lw] at h
  split at h
  ·split at h
   ·rename_i hs
    split at h
    ·split at h
     ·rename_i hp
      injection h with h;injection h with h1 h2;injection h2 with h2 h3;injection h3 with h3 h4;subst h4
      exact (Td hs).trans (qj e r _ _ _ _ _ _ hp)
     ·cases h
    ·cases h
   ·cases h
  ·cases h
theorem pd {T:Tab} {st st':St} {d:Nat} {t:TypeId} {n:Nat} {parts:Array (Nat×Operand)} {v:AV} (h:Mx T st d t n parts=some (v,st')):Ci st st':=by
 unfold Mx at h
 split at h
 ·cases h
 ·split at h
  ·cases h
  ·split at h
   ·split at h
    ·rename_i hp
     injection h with h;injection h with h1 h2;subst h2;exact (qj _ _ _ _ _ _ _ _ hp).trans (Lu _ _ _)
    ·cases h
   ·cases h
theorem vO {T:Tab} {st st':St} {d:Nat} {t:TypeId} {v:AV} (h:Vf T st d t=some (v,st')):Ci st st':=by
 unfold Vf at h
 split at h
 ·split at h
  ·injection h with h;injection h with h1 h2;subst h2;exact Lu _ _ _
  ·cases h
 ·cases h
theorem nE {T:Tab} {st st':St} {t:TypeId} {m k x:AV} (h:Jx T st t m k x=some st'):Ci st st':=by
 unfold Jx at h
 split at h
 ·split at h
  ·split at h
   ·injection h with h;subst h;exact Mz _ _ _
   ·cases h
  ·cases h
 ·cases h
theorem KF {T:Tab} {st st':St} {t t':TypeId} {x y v:AV} (h:iE T st t t' x y=some (v,st')):Ci st st':=by
 unfold iE at h
 split at h
 ·split at h
  ·split at h
   ·split at h
    ·injection h with h;injection h with h1 h2;subst h2;exact Mz _ _ _
    ·cases h
   ·cases h
  ·cases h
 ·cases h
theorem EB {T:Tab} {st st':St} {t:TypeId} {x:AV} (h:evalClear T st t x=some st'):Ci st st':=by
 unfold evalClear at h
 split at h
 ·split at h
  ·split at h
   ·split at h
    ·injection h with h;subst h;exact Mz _ _ _
    ·cases h
   ·cases h
  ·cases h
 ·cases h
theorem xG {st st':St} {c:CK} {ys:c.den} {a:AC} (h:cy st c ys a=some st'):st'.tmps=st.tmps:=by
 unfold cy at h
 repeat' split at h
 all_goals first|(cases h;done)|(simp only [Aa] at h;subst h;rfl)|skip
theorem TZ {st st':St} {e:Ty} {ys:List e.den} {a:AC} (h:LV st e ys a=some st'):st'.tmps=st.tmps:=by
 unfold LV at h
 repeat' split at h
 all_goals first|(cases h;done)|(simp only [Aa] at h;subst h;rfl)|skip
theorem Vc: ∀(cs:List (Bool×CK)) (o:IOs.den cs) (as:List AC) (st st':St),Iv cs o as st=some st'->st'.tmps=st.tmps
 | [],_,_,st,st',h=>by simp only [Iv,Aa] at h;subst h;rfl
 |(true, .Eh _)::r,o,[],st,st',h=>by simp [Iv] at h
 |(true, .row _ _)::r,o,[],st,st',h=>by simp [Iv] at h
 |(true, .Ij _ _)::r,o,[],st,st',h=>by simp [Iv] at h
 |(true, .part _ _)::r,o,[],st,st',h=>by simp [Iv] at h
 |(true, .Bn _ _ _)::r,o,[],st,st',h=>by simp [Iv] at h
 |(true, .Bn _ _ _)::r,o,a::as,st,st',h=>Vc r o as st st' (by simpa only [Iv] using h)
 |(false,_)::r,o,[],st,st',h=>by simp [Iv] at h
 |(true, .Eh _)::r,o,a::as,st,st',h=>Vc r o as st st' (by simpa only [Iv] using h)
 |(false,_)::r,o,a::as,st,st',h=>Vc r o as st st' (by simpa only [Iv] using h)
 |(true, .row _ _)::r,o,a::as,st,st',h=>by
  simp only [Iv] at h
  split at h
  ·rename_i hc;exact (Vc r o.2 as _ st' h).trans (xG hc)
  ·cases h
 |(true, .part _ _)::r,o,a::as,st,st',h=>by
  simp only [Iv] at h
  split at h
  ·rename_i hc;exact (Vc r o.2 as _ st' h).trans (TZ hc)
  ·cases h
 |(true, .Ij _ _)::r,o,a::as,st,st',h=>by
  simp only [Iv] at h
  split at h
  ·rename_i hc;exact (Vc r o.2 as _ st' h).trans (xG hc)
  ·cases h
theorem z6 (cp st:St) (ls:List Nat) (n:Nat) (hl:cp.tmps.length=st.tmps.length) (h:Ci cp st):Ci cp (m6 cp st ls n):=by
 unfold m6
 split
 ·exact h
 ·intro t fr τ x hx
  show (Mg _ cp.tmps st.tmps).getD t .undef=_
  rcases fW ls cp.tmps st.tmps t hl with ⟨k,i,c,h1,_⟩|h1
  ·rw [show cp.tmps.getD t .undef=_ from hx] at h1;cases h1
  ·rw [h1];exact h t fr τ x hx
theorem EA {st st':St} {d:Option Nat} {s:MSpec} {args:List AV} {v:AV} (h:Xz st d s args=some (v,st')):Ci st st':=by
 unfold Xz at h
 split at h
 ·cases h
 split at h
 ·cases h
 split at h
 ·cases h
 split at h
 ·split at h
  ·cases h
  split at h
  ·cases h
  rename_i st1 hp
  split at h
  ·cases h
  split at h
  ·simp only [Aa,Ae] at h
   obtain ⟨_,rfl⟩:=h
   have hpt:=Vc _ _ _ _ _ hp
   refine z6 _ _ _ _ ?_ ?_
   ·simp only [lG,pH]
    rw [<-hpt]
    simp only [St.cI,St.Ln,Gh]
   ·refine Ci.trans (Ci.Zo hpt) ?_
    refine Ci.trans (Pz st1 (Cm _ _) (by simp [Cm,AC.refs]) λfr τ x=>by simp [Cm,AC.refs]) (Ci.Zo pH)
  ·cases h
 ·cases h
theorem dr (st:St) (k m:Nat) (b:OB):Ci st (Rn st k m b):=
 (Pz st (Cm [m,k] []) (by simp [Cm,AC.refs]) λfr τ x=>by simp [Cm,AC.refs]).trans (Ci.Zo rfl)
theorem EC {T:Tab} {st st':St} {d:Nat} {t:TypeId} {l c v:AV} (h:Yb T st d t l c=some (v,st')):Ci st st':=by
 unfold Yb at h
 split at h
 ·exact KG h
 ·split at h
  ·split at h
   ·injection h with h;injection h with h1 h2;subst h2;exact dr _ _ _ _
   ·cases h
  ·cases h
theorem nC {T:Tab} {st st':St} {d:Nat} {t:TypeId} {n:Nat} {parts:Array (Nat×Operand)} {v:AV} (h:Jt T st d t n parts=some (v,st')):Ci st st':=by
 unfold Jt at h
 split at h
 ·exact pd h
 ·repeat' split at h
  all_goals first|(cases h;done)|(injection h with h;injection h with h1 h2;subst h2;exact dr _ _ _ _)
theorem vM {T:Tab} {st st':St} {d:Nat} {t:TypeId} {x y:Operand} {v:AV} (h:Sf T st d t x y=some (v,st')):Ci st st':=by
 unfold Sf at h
 split at h
 ·exact vL h
 ·repeat' split at h
  all_goals first|(cases h;done)|(injection h with h;injection h with h1 h2;subst h2;exact dr _ _ _ _)
theorem ei {st st':St} {v:AV} {o:Option AV} (h:o.map (λv=>(v,st))=some (v,st')):Ci st st':=by
 cases o with
 |none=>cases h
 |some u=>injection h with h;injection h with h1 h2;subst h2;exact Ci.rfl'
theorem Uo: ∀(l:List Operand) {st st1:St},Nu l st=some st1->Ci st st1
 | [],st,st1,h=>by
  simp only [Nu,Aa] at h
  subst h
  exact Ci.rfl'
 |x::r,st,st1,h=>by
  simp only [Nu] at h
  cases hs:settle st (st.ev x) with
  |none=>rw [hs] at h;cases h
  |some p=>
   rw [hs] at h
   exact (Td (v':=p.1) (st':=p.2) hs).trans (Uo r h)
theorem vP {T:Tab} {st:St} (p x:Operand):Ci st (Pa T st p x):=by
 unfold Pa
 split
 ·split
  ·split
   ·rename_i hs;exact Uo _ hs
   ·exact Ci.rfl'
  ·exact Ci.rfl'
 ·exact Ci.rfl'
theorem nf {T:Tab} {Γ:Env} {st st':St} {o:Oper} {v:AV} (h:evalOp T Γ st o=some (v,st')):Ci st st':=by
 unfold evalOp at h
 split at h
 ·split at h
  ·split at h
   ·injection h with h;injection h with h1 h2;subst h2;exact Lu _ _ _
   ·cases h
  ·injection h with h;injection h with h1 h2;subst h2;exact Ci.rfl'
 ·split at h
  ·split at h
   ·exact z7 h
   ·exact qi h
  ·cases h
 ·split at h
  ·split at h
   ·split at h
    ·split at h
     ·obtain ⟨p,_,hp⟩:=Option.map_eq_some_iff.1 h
      cases hp
      exact Ci.rfl'
     ·cases h
    ·exact qi h
   ·cases h
  ·cases h
 ·rename_i t p x _
  cases hs:Qe T (Pa T st p x) t ((Pa T st p x).ev p) ((Pa T st p x).ev x) with
  |none=>rw [hs] at h;cases h
  |some s=>rw [hs] at h;injection h with h;injection h with h1 h2;subst h2;exact (vP p x).trans (z9 hs)
 ·split at h
  ·exact EC h
  ·cases h
 ·split at h
  ·exact vO h
  ·cases h
 ·rename_i t m k x _
  cases hs:Jx T st t (st.ev m) (st.ev k) (st.ev x) with
  |none=>rw [hs] at h;cases h
  |some s=>rw [hs] at h;injection h with h;injection h with h1 h2;subst h2;exact nE hs
 ·rename_i t m k x _
  cases hs:Jx T st t (st.ev m) (st.ev k) (st.ev x) with
  |none=>rw [hs] at h;cases h
  |some s=>rw [hs] at h;injection h with h;injection h with h1 h2;subst h2;exact nE hs
 ·split at h
  ·exact nC h
  ·cases h
 ·exact ei h
 ·split at h
  ·split at h
   ·exact vM h
   ·cases h
  ·cases h
 ·split at h
  ·exact KF h
  ·cases h
 ·split at h
  ·rename_i x t _ _
   cases hs:evalClear T st t (st.ev x) with
   |none=>rw [hs] at h;cases h
   |some s=>rw [hs] at h;injection h with h;injection h with h1 h2;subst h2;exact EB hs
  ·cases h
 ·split at h
  ·exact EA h
  ·split at h
   ·rename_i args _ _ _ _ _ _
    cases hs:Nu args.toList st with
    |none=>rw [hs] at h;cases h
    |some st1=>
     rw [hs] at h
     exact (Uo _ hs).trans (ei h)
   ·exact ei h
  ·exact ei h
 ·exact ei h
def Lf:List Oper->List Nat
 | []=> []
 |o::r=>(match o.dst with|some d=> [d]|none=> [])++Lf r
def writes:Code->List Nat
 | .region _ ops _=>Lf ops.toList
 | .seq a b=>writes a++writes b
 | .cond _ a b=>writes a++writes b
 | .block _ c=>writes c
 | .loop c=>writes c
 |_=> []
def Fv (P:Nat->Prop) (st st':St):Prop:= ∀(t:Nat) (fr:Bool) (τ:Ty) (x:τ.den),P t->st.get t= .at (.data fr τ x)->st'.get t= .at (.data fr τ x)
theorem Fv.trans {P:Nat->Prop} {a b c:St} (h1:Fv P a b) (h2:Fv P b c):Fv P a c:= λt fr τ x hp h=>h2 t fr τ x hp (h1 t fr τ x hp h)
theorem Fv.mono {P Q:Nat->Prop} {a b:St} (h1:Fv P a b) (h: ∀t,Q t->P t):Fv Q a b:= λt fr τ x hp hx=>h1 t fr τ x (h t hp) hx
theorem Ci.on {P:Nat->Prop} {a b:St} (h:Ci a b):Fv P a b:= λt fr τ x _ hx=>h t fr τ x hx
theorem cL (st:St) (dst:Option Tmp) (v:AV):Fv (λt=>dst≠some t) st (st.put dst v):=by
 intro t fr τ x hp hx
 cases dst with
 |none=>exact hx
 |some d=>rw [bL st v (λh=>hp (by rw [h]))];exact hx
theorem bI {T:Tab} {Γ:Env} {ops:Array Oper} {st st':St} {o:Oper} (h:Fa T Γ ops st o=some st'):Fv (λt=>o.dst≠some t) st st':=by
 have key: ∀s,(evalOp T Γ st o).map (λr=>r.2.put o.dst r.1)=some s->Fv (λt=>o.dst≠some t) st s:=by
  intro s hs
  cases he:evalOp T Γ st o with
  |none=>rw [he] at hs;cases hs
  |some p=>rw [he] at hs;injection hs with hs;subst hs;exact (nf (v:=p.1) (st':=p.2) he).on.trans (cL _ _ _)
 unfold Fa at h
 split at h
 ·exact key _ h
 ·split at h
  ·split at h
   ·exact key _ h
   ·injection h with h;subst h;exact cL _ _ _
  ·injection h with h;subst h;exact cL _ _ _
  ·cases h
theorem kK {T:Tab} {Γ:Env} {ops:Array Oper} : ∀(l:List Oper) (st st':St),aQ T Γ ops l st=some st'->Fv (λt=>t∉Lf l) st st'
 | [],st,st',h=>by injection h with h;subst h;exact Ci.rfl'.on
 |o::r,st,st',h=>by
  simp only [aQ] at h
  split at h
  ·rename_i s hs
   refine Fv.trans ((bI hs).mono λt ht=>?_) ((kK r _ _ h).mono λt ht=>?_)
   ·intro hd;apply ht;simp [Lf,hd]
   ·intro hd;apply ht;simp [Lf,hd]
  ·cases h
theorem Zn: ∀(l:List Oper) (o:Oper) (d:Nat),o∈l->o.dst=some d->d∈Lf l
 | [],_,_,h,_=>by cases h
 |p::r,o,d,h,hd=>by
  cases h with
  |head=>simp [Lf,hd]
  |tail _ h=>simp only [Lf,Ay];exact .inr (Zn r o d h hd)
theorem pn {ops:Array Oper} {i:Nat} {o:Oper} (h:ops[i]?=some o):o∈ops.toList:=by
 rw [Np] at h
 obtain ⟨h1,h2⟩:=h
 rw [<-h2]
 simp
theorem Zk {T:Tab} {Γ:Env} {ops:Array Oper} : ∀(l:List Nat) (st st':St),Nh T Γ ops l st=some st'->Fv (λt=>t∉Lf ops.toList) st st'
 | [],st,st',h=>by injection h with h;subst h;exact Ci.rfl'.on
 |i::r,st,st',h=>by
  simp only [Nh] at h
  split at h
  ·cases h
  ·rename_i o ho
   split at h
   ·rename_i s hs
    exact ((bI hs).mono λt ht hd=>ht (Zn _ _ _ (pn ho) hd)).trans (Zk r _ _ h)
   ·cases h
theorem Sh {T:Tab} {Γ:Env} {ops:Array Oper} : ∀(l:List Nat) (st st':St),Gg T Γ ops l st=some st'->Fv (λt=>t∉Lf ops.toList) st st'
 | [],st,st',h=>by injection h with h;subst h;exact Ci.rfl'.on
 |i::r,st,st',h=>by
  simp only [Gg] at h
  split at h
  ·cases h
  ·rename_i o ho
   split at h
   ·exact ((cL _ _ _).mono λt ht hd=>ht (Zn _ _ _ (pn ho) hd)).trans (Sh r _ _ h)
   ·cases h
theorem Un: ∀(l:List Nat) (st:St),Ci st (bj l st)
 | [],_=>Ci.rfl'
 |a::r,st=>(nD st a).trans (Un r _)
theorem Wd (live:List Nat): ∀(i:Nat) (l:List AV) (t:Nat),i+t∈live->(Jb live i l).getD t .undef=l.getD t .undef
 |_,[],_,_=>rfl
 |i,v::r,0,h=>by simp [Jb];intro hn;exact absurd h hn
 |i,v::r,t+1,h=>by
  simp only [Jb,Nv]
  exact Wd live (i+1) r t (by rw [show i+1+t=i+(t+1) by omega];exact h)
theorem z8 (l k:Nat) (st:St):Ci st (st.rename l k):=by
 unfold St.rename
 split
 ·split
  ·exact (Pz st (Vp l k) rfl λ_ _ _=>rfl).trans (Ci.Zo rfl)
  ·exact Ci.rfl'
 ·exact Ci.rfl'
theorem ek: ∀(n t:Nat) (st:St),Ci st (Nc n t st)
 |0,_,_=>Ci.rfl'
 |n+1,t,st=>by
  simp only [Nc]
  refine Ci.trans ?_ (ek n (t+1) _)
  split
  ·split
   ·split
    ·exact Ci.rfl'
    ·exact z8 _ _ _
   ·exact Ci.rfl'
  ·exact Ci.rfl'
theorem tz (t:Nat) (st:St):Ci st (bY t st):=by
 unfold bY
 split
 ·rename_i l off len hg
  split
  ·split
   ·intro k fr τ x hk
    have Jl:k≠t:= λe=>by subst e;rw [hg] at hk;cases hk
    rw [bL _ _ Jl]
    exact Lu _ _ _ k fr τ x hk
   ·exact Ci.rfl'
  ·exact Ci.rfl'
 ·exact Ci.rfl'
theorem m7 (c:Nat) (st:St):Ci st (Qj c st):=by
 unfold Qj
 split
 ·split
  ·split
   ·split
    ·split
     ·exact (Lu _ _ _).trans (Mz _ _ _)
     ·exact Ci.rfl'
    ·exact Ci.rfl'
   ·exact Ci.rfl'
  ·exact Ci.rfl'
 ·exact Ci.rfl'
theorem cM (live:List Nat): ∀(n c:Nat) (st:St),Ci st (Qd live n c st)
 |0,_,_=>Ci.rfl'
 |n+1,c,st=>by
  simp only [Qd]
  refine Ci.trans ?_ (cM live n (c+1) _)
  split
  ·exact m7 _ _
  ·exact Ci.rfl'
theorem gB (live:List Nat): ∀(n t:Nat) (st:St),Ci st (Po live n t st)
 |0,_,st=>cM live 16 0 st
 |n+1,t,st=>by
  simp only [Po]
  refine Ci.trans ?_ (gB live n (t+1) _)
  split
  ·exact tz _ _
  ·exact Ci.rfl'
theorem kY (live:List Nat) (st:St):Fv (λt=>t∈live) st (st.clean live):=by
 intro t fr τ x hp hx
 unfold St.clean
 have key: ∀s:St,s.get t= .at (.data fr τ x)->(if live.contains cT then Nc s.tmps.length 0 s else s).get t= .at (.data fr τ x):=by
  intro s hs
  split
  ·exact ek _ _ s t fr τ x hs
  ·exact hs
 have ZI: ∀s:St,s.get t= .at (.data fr τ x)->(if live.any (λt=>Nat.ble Ps t) then s.Jr live else s).get t= .at (.data fr τ x):=by
  intro s hs
  split<;>exact hs
 have ZJ: ∀s:St,s.get t= .at (.data fr τ x)->(if live.any (λt=>Nat.ble Sp t&&Nat.blt t cT) then Po live s.tmps.length 0 s else s).get t= .at (.data fr τ x):=by
  intro s hs
  split
  ·exact gB _ _ _ s t fr τ x hs
  ·exact hs
 refine ZI _ (key _ (ZJ _ (Un _ _ t fr τ x ?_)))
 simp only [St.get] at hx⊢
 rw [Wd live 0 st.tmps t (by simpa using hp)]
 exact hx
def bQ (live:Nat->List Nat):Code->Nat->Bool
 | .seq a b,t=>bQ live a t&&bQ live b t
 | .cond _ a b,t=>bQ live a t&&bQ live b t
 | .block _ c,t=>bQ live c t
 | .loop c,t=>(live (Fb c)).contains t&&bQ live c t
 |_,_=>true
theorem oM {a b:Bool} (h:(a&&b)=true):a=true:=by cases a<;>simp_all
theorem lH {a b:Bool} (h:(a&&b)=true):b=true:=by cases a<;>simp_all
theorem oS {T:Tab} {Γ:Env} {ops:Array Oper} {draw:Bool} {st st':St} (h:Si T Γ ops draw st=some st'):Fv (λt=>t∉writes (.region 0 ops draw)) st st':=by
 unfold Si at h
 have go: ∀q,(match Gg T Γ ops (jQ q Γ ops) st with
   |some s=>Nh T Γ ops (Kd q Γ ops) s
   |none=>none)=some st'->Fv (λt=>t∉writes (.region 0 ops draw)) st st':=by
  intro q h
  split at h
  ·rename_i s hs
   exact (Sh _ _ _ hs).trans (Zk _ _ _ h)
  ·cases h
 split at h
 ·split at h
  ·exact go false h
  ·split at h
   ·exact go true h
   ·cases h
 ·exact kK _ _ _ h
theorem sq {T:Tab} {Γ:Env} {ops:Array Oper} {draw:Bool} {K:St->Prop} (s0:St): ∀(f:Nat) (Ah:Array Bool) (st:St),Fv (λt=>t∉writes (.region 0 ops draw)) s0 st->anyS T Γ ops K f Ah st->anyS T Γ ops (λs=>K s/\Fv (λt=>t∉writes (.region 0 ops draw)) s0 s) f Ah st
 |0,_,_,hk,h=>⟨h.1,h.2,hk⟩
 |f+1,Ah,st,hk,h=>⟨h.1,λi hi=>by
  obtain ⟨o,st',h1,h2,h3⟩:=h.2 i hi
  have h4:Nh T Γ ops [i] st=some st':=by simp only [Nh,h1,h2]
  exact ⟨o,st',h1,h2,sq s0 f _ _ (hk.trans (Zk _ _ _ h4)) h3⟩⟩
theorem lI {T:Tab} {Γ:Env} {ops:Array Oper} {draw:Bool} {E:List Nat} {K:St->Prop} (s0:St): ∀(f:Nat) (Ah:Array Bool) (st:St),Fv (λt=>t∉writes (.region 0 ops draw)) s0 st->qX T Γ ops E K f Ah st->qX T Γ ops E (λs=>K s/\Fv (λt=>t∉writes (.region 0 ops draw)) s0 s) f Ah st
 |0,_,_,hk,h=>⟨h.1,h.2.1,h.2.2,hk⟩
 |f+1,Ah,st,hk,h=>⟨h.1,h.2.1,λi hi=>by
  obtain ⟨o,st',h1,h2,h3⟩:=h.2.2 i hi
  have h4:Nh T Γ ops [i] st=some st':=by simp only [Nh,h1,h2]
  exact ⟨o,st',h1,h2,lI s0 f _ _ (hk.trans (Zk _ _ _ h4)) h3⟩⟩
theorem iW {ops:Array Oper} {dead:List Nat} (hd:dead.all (Zf ops)=true) (st:St):Fv (λt=>t∉Lf ops.toList) st (st.Qw dead):=by
 intro t fr τ x ht hx
 unfold St.Qw
 refine Un _ _ t fr τ x ?_
 show (Jb _ 0 st.tmps).getD t .undef=_
 rw [Wd _ 0 st.tmps t ?_]
 ·exact hx
 ·refine Bs.2 ⟨Es.2 ?_,?_⟩
  ·refine Bu λhn=>?_
   have:st.get t= .undef:=by
    unfold St.get
    rw [Aj,Dw (by omega)];rfl
   rw [hx] at this
   cases this
  ·cases hc:dead.contains (0+t) with
   |false=>rfl
   |true=>
    have hm:0+t∈dead:=by simpa using hc
    have h1:=Bb.1 hd _ hm
    obtain ⟨o,ho,h2⟩:=Gd.1 h1
    rw [Cb] at h2
    exact absurd (Zn _ o t ho (by simpa using h2)) ht
theorem kC.keeps {T:Tab} {Γ:Env} {ops:Array Oper} {draw:Bool} {st:St} {K:St->Prop} (h:kC T Γ ops draw st K):kC T Γ ops draw st (λs=>K s/\Fv (λt=>t∉writes (.region 0 ops draw)) st s):=by
 rcases h with ⟨st',h1,h2⟩|⟨h1,h2,cp,h3,h4|⟨E,st1,h4,h5,h6,h7⟩⟩
 ·exact .inl ⟨st',h1,h2,oS h1⟩
 ·exact .inr ⟨h1,h2,cp,h3, .inl (sq st _ _ _ (Sh _ _ _ h3) h4)⟩
 ·exact .inr ⟨h1,h2,cp,h3, .inr ⟨E,st1,h4,h5,h6,lI st _ _ _ ((Sh _ _ _ h3).trans (Sh _ _ _ h6)) h7⟩⟩
theorem yg.keeps {T:Tab} {Γ:Env} {ops:Array Oper} {draw:Bool} {st:St} {K:St->Prop} (h:yg T Γ ops draw st K):yg T Γ ops draw st (λs=>K s/\Fv (λt=>t∉writes (.region 0 ops draw)) st s):=by
 rcases h with h|⟨dead,hd,h⟩
 ·exact .inl h.keeps
 ·exact .inr ⟨dead,hd,h.keeps.mono λs hs=>⟨hs.1,hs.2.trans (iW hd s)⟩⟩
theorem kE (ops:Array Oper) {fr:Bool} {τ:Ty} {x:τ.den} : ∀(i:Nat) (l:List AV) (t:Nat),l.getD t .undef= .at (.data fr τ x)->(Pe ops i l).getD t .undef= .at (.data fr τ x)
 |_,[],_,h=>h
 |i,v::r,0,h=>by
  cases v with
  |Nd l=>cases h
  |_=>exact h
 |i,v::r,t+1,h=>by
  have h':=kE ops (i+1) r t h
  cases v<;>(simp only [Pe,Nv];exact h')
theorem kZ (ops:Array Oper) (st:St):Ci st (st.mU ops):= λt _ _ _ hx=>kE ops 0 st.tmps t hx
theorem MF {T:Tab} {Γ:Env} {live:Nat->List Nat} {c:Code} {st:St} {Q:Lz->St->Prop} (h:Ow T Γ live c st Q): ∀(s0:St) (p:Nat->Prop),Fv p s0 st->(∀t,p t->t∉writes c/\bQ live c t=true)->Ow T Γ live c st (λe s=>Q e s/\Fv p s0 s):=by
 induction h with
 |skip h=>exact λs0 p hk _=> .skip ⟨h,hk⟩
 |label h=>exact λs0 p hk _=> .label ⟨h,hk⟩
 |exit h=>exact λs0 p hk _=> .exit ⟨h,hk⟩
 |ret h=>exact λs0 p hk _=> .ret ⟨h,hk⟩
 |region h=>
  exact λs0 p hk hp=> .region (h.keeps.mono λs hs=>⟨hs.1,(hk.trans (kZ _ _).on).trans (hs.2.mono λt ht=>(hp t ht).1)⟩)
 |seq Q1 _ _ h3 SK DW=>
  exact λs0 p hk hp=> .seq _ (SK s0 p hk λt ht=>⟨λhm=>(hp t ht).1 (by simp [writes,hm]),oM (hp t ht).2⟩)
   (λs hs=>DW s hs.1 s0 p hs.2 λt ht=>⟨λhm=>(hp t ht).1 (by simp [writes,hm]),lH (hp t ht).2⟩) λe s he hs=>⟨h3 e s he hs.1,hs.2⟩
 |cond hc _ _ SK DW=>
  exact λs0 p hk hp=> .cond hc (λht=>SK ht s0 p hk λt h=>⟨λhm=>(hp t h).1 (by simp [writes,hm]),oM (hp t h).2⟩)
   fun ht=>DW ht s0 p hk λt h=>⟨λhm=>(hp t h).1 (by simp [writes,hm]),lH (hp t h).2⟩
 |block Q1 _ h2 ih=>
  exact λs0 p hk hp=> .block _ (ih s0 p hk λt ht=>⟨λhm=>(hp t ht).1 (by simpa [writes] using hm),by simpa [bQ] using (hp t ht).2⟩) λe s hs=>by
   have h:=h2 e s hs.1
   cases e with
   |normal=>exact ⟨h,hs.2⟩
   |ret=>exact ⟨h,hs.2⟩
   |exit SJ=>
    simp only [xh] at h⊢
    split at h
    ·rename_i hi;rw [Ab hi];exact ⟨h,hs.2⟩
    ·rename_i hi;rw [Ai hi];exact ⟨h,hs.2⟩
 |loop Q1 _ _ h3 SK DW=>
  intro s0 p hk hp
  refine .loop _ (SK s0 p (hk.trans ((kY _ _).mono λt ht=>by simpa using oM (hp t ht).2)) λt ht=>⟨λhm=>(hp t ht).1 (by simpa [writes] using hm),lH (hp t ht).2⟩)
   (λs hs=>DW s hs.1 s0 p hs.2 hp) λe s he hs=>⟨h3 e s he hs.1,hs.2⟩
end Go.Proofs.YtkkdpknjohcekaaGreat
