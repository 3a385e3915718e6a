/-
  Part 29 of the proof that the statement FnNoShorterSolution holds.
-/
import Derived.Test.YtkkdpknjohcekaaGreatCFNoShorterSolution27
namespace Go.Proofs.YtkkdpknjohcekaaGreat
open Go.RowKit
def Cj (st st':St):Prop:= ∀(t:Nat) (fr:Bool) (τ:Ty) (x:τ.den),st.get t= .at (.data fr τ x)->st'.get t= .at (.data fr τ x)
theorem Cj.rfl' {st:St} :Cj st st:= λ_ _ _ _ h=>h
theorem Cj.trans {a b c:St} (h1:Cj a b) (h2:Cj b c):Cj a c:= λt fr τ x h=>h2 t fr τ x (h1 t fr τ x h)
theorem Cj.Zq {a b:St} (h:b.tmps=a.tmps):Cj a b:= λt fr τ x hx=>by
 simp only [St.get] at hx⊢
 rw [h]
 exact hx
theorem bV (st:St) {t d:Nat} (v:AV) (h:t≠d):(st.put (some d) v).get t=st.get t:=by
 simp only [St.put,St.get]
 rw [Rk]
 rw [Ai (by rintro ⟨rfl,_⟩;exact h rfl)]
theorem Qb (st:St) (f:AC->AC) (hu:f .undef= .undef) (hd: ∀fr (τ:Ty) (x:τ.den),f (.data fr τ x)= .data fr τ x):Cj st (st.Lp f):=by
 intro t fr τ x h
 simp only [St.Lp,St.get]
 rw [Vh f hu,show st.tmps.getD t .undef=_ from h]
 simp only [AV.map,hd]
theorem nT (st:St) (l:Nat):Cj st (st.forget l):=
 (Qb st (Ck l) rfl λ_ _ _=>rfl).trans (Cj.Zq rfl)
theorem ba (st:St) (l:Nat) (fr:Bool) (e:Ty) (xs:List e.den):Cj st (st.freeze l fr e xs):=
 (Qb st (Cx l fr e xs) rfl λ_ _ _=>rfl).trans (Cj.Zq rfl)
theorem gU (st:St) (l:Nat) (v:Ty) (m:ByteArray->Option v.den):Cj st (st.Jj l v m):=
 (Qb st (Hl l v m) rfl λ_ _ _=>rfl).trans (Cj.Zq rfl)
theorem Lx (st:St) (l:Nat) (b:OB):Cj st (st.new l b):=(nT st l).trans (Cj.Zq rfl)
theorem Nc (st:St) (l:Nat) (b:OB):Cj st (st.Kp l b):=Cj.Zq rfl
theorem eF (b:OB) (key l i:Nat) (st:St):Cj st (Vb b key l i st):=by
 unfold Vb
 split
 ·split
  ·dsimp only
   split
   ·exact (Lx _ _ _).trans (Nc _ _ _)
   ·exact Lx _ _ _
  ·exact Cj.rfl'
 ·exact Cj.rfl'
theorem lA (T:Tab) (l:Nat) (t:TypeId) (τ:Ty): ∀(n i:Nat) (st:St),Cj st (fZ T l t τ n i st)
 |0,_,_=>Cj.rfl'
 |n+1,i,st=>by
  simp only [fZ]
  refine Cj.trans ?_ (lA T l t τ n (i+1) _)
  split
  ·exact eF _ _ _ _ _
  ·exact Cj.rfl'
theorem jo (T:Tab) (l off:Nat) (t:TypeId) (τ:Ty): ∀(n i:Nat) (st:St),Cj st (eK T l off t τ n i st)
 |0,_,_=>Cj.rfl'
 |n+1,i,st=>by
  simp only [eK]
  refine Cj.trans ?_ (jo T l off t τ n (i+1) _)
  split
  ·exact eF _ _ _ _ _
  ·exact Cj.rfl'
theorem Rt: ∀(n:Nat) (st:St) (cs j0:List AC) (st':St),Ie n st cs=some (j0,st')->Cj st st'
 |0,st,cs,j0,st',h=>by
  simp only [Ie] at h
  split at h
  ·injection h with h;injection h with h1 h2;subst h2;exact Cj.rfl'
  ·cases h
 |n+1,st,cs,j0,st',h=>by
  simp only [Ie] at h
  split at h
  ·injection h with h;injection h with h1 h2;subst h2;exact Cj.rfl'
  ·split at h
   ·exact (ba _ _ _ _ _).trans (Rt n _ _ _ _ h)
   ·exact (ba _ _ _ _ _).trans (Rt n _ _ _ _ h)
   ·cases h
  ·split at h
   ·exact (gU _ _ _ _).trans (Rt n _ _ _ _ h)
   ·cases h
  ·cases h
theorem Tc {st st':St} {v v':AV} (h:settle st v=some (v',st')):Cj st st':=by
 unfold settle at h
 split at h
 ·split at h
  ·injection h with h;injection h with h1 h2;subst h2;exact ba _ _ _ _ _
  ·injection h with h;injection h with h1 h2;subst h2;exact ba _ _ _ _ _
  ·cases h
 ·split at h
  ·injection h with h;injection h with h1 h2;subst h2;exact gU _ _ _ _
  ·cases h
 ·split at h
  ·injection h with h;injection h with h1 h2;subst h2;exact Cj.rfl'
  ·cases h
 ·rename_i cs
  cases hs:Ie cs.length st cs with
  |none=>rw [hs] at h;cases h
  |some p=>rw [hs] at h;injection h with h;injection h with h1 h2;subst h2;exact Rt _ _ _ _ _ hs
 ·injection h with h;injection h with h1 h2;subst h2;exact Cj.rfl'
 ·cases h
theorem zh {st st':St} {l:Nat} {t:TypeId} {cs:List AC} {v:AV} (h:tX st l t cs=some (v,st')):Cj st st':=by
 unfold tX at h
 split at h
 ·cases h
 ·injection h with h;injection h with h1 h2;subst h2;exact Lx _ _ _
theorem qt {T:Tab} {st st':St} {l:Nat} {t:TypeId} {τ:Ty} {cs:List AC} {v:AV} (h:mkVar T st l t τ cs=some (v,st')):Cj st st':=by
 unfold mkVar at h
 split at h
 ·cases h
 dsimp only at h
 split at h
 ·injection h with h;injection h with h1 h2;subst h2;exact (Lx _ _ _).trans (lA _ _ _ _ _ _ _)
 ·cases h
theorem EX {T:Tab} {st st':St} {t:TypeId} {p v:AV} (h:Vg T st t p v=some st'):Cj st st':=by
 unfold Vg at h
 split at h
 ·split at h
  ·split at h
   ·injection h with h
    split at h
    ·subst h;exact (Nc _ _ _).trans (jo _ _ _ _ _ _ _ _)
    ·subst h;exact Nc _ _ _
   ·cases h
  ·cases h
 ·split at h
  ·rename_i hs
   split at h
   ·split at h
    ·split at h
     ·injection h with h;subst h;exact (Tc hs).trans (Nc _ _ _)
     ·cases h
    ·cases h
   ·cases h
  ·cases h
 ·cases h
theorem tJ (st:St) (l j m:Nat) (e:Ty) (te:TypeId) (rows:List (List e.den)) (xs:List e.den) (kp:Option (Nat×Nat)):Cj st (Ua st l j m e te rows xs kp):=
 ((Qb st (Cl [m] [l]) (by simp [Cl,AC.refs]) λfr τ x=>by simp [Cl,AC.refs]).trans (Cj.Zq rfl)).trans (Nc (st.cO [m] [l]) _ _)
theorem tK (st:St) (l i m:Nat) (e:Ty) (te tid:TypeId) (rows:List (List e.den)) (kp:Option (Nat×Nat)):Cj st (Qt st l i m e te tid rows kp):=
 (Nc st l _).trans (Lx _ m _)
theorem zj {T:Tab} {st st':St} {t:TypeId} {p v:AV} (h:Qh T st t p v=some st'):Cj st st':=by
 unfold Qh at h
 split at h
 rotate_left
 ·exact EX h
 unfold bT at h
 split at h
 ·split at h
  ·rename_i hs
   split at h
   ·split at h
    ·injection h with h;subst h;exact (Tc hs).trans (Nc _ _ _)
    ·cases h
   ·cases h
  ·cases h
 ·split at h
  ·split at h
   ·split at h
    ·injection h with h;subst h
     exact tJ _ _ _ _ _ _ _ _ _
    ·cases h
   ·cases h
  ·cases h
 ·cases h
theorem fO {T:Tab} {st st':St} {d:Nat} {t:TypeId} {x y:Operand} {v:AV} (h:Om T st d t x y=some (v,st')):Cj st st':=by
 unfold Om at h
 split at h
 ·cases h
 ·split at h
  ·rename_i hs
   split at h
   ·cases h
   ·split at h
    ·split at h
     ·injection h with h;injection h with h1 h2;subst h2;exact ((Tc hs).trans (Lx _ _ _)).trans (Lx _ _ _)
     ·cases h
    ·split at h
     ·split at h
      ·split at h
       ·injection h with h;injection h with h1 h2;subst h2;exact (Tc hs).trans (Lx _ _ _)
       ·cases h
      ·cases h
     ·cases h
    ·cases h
  ·cases h
theorem vV {T:Tab} {st st':St} {d:Nat} {t:TypeId} {x y:Operand} {v:AV} (h:Sd T st d t x y=some (v,st')):Cj st st':=by
 unfold Sd at h
 split at h
 ·rename_i tx
  split at h
  ·rename_i l i c hg
   split at h
   ·split at h
    ·rename_i e te rows kp tid hl ht hc
     refine Cj.trans (b:=(Qt st l i d e te tid rows kp).put (some tx) (.at (.own d 0 (rows.getD i []).length))) ?_ (fO h)
     intro t' fr τ z hz
     by_cases e':t'=tx
     ·subst e';rw [hg] at hz;cases hz
     ·rw [bV _ _ e'];exact tK st l i d e te tid rows kp t' fr τ z hz
    ·cases h
   ·cases h
  ·exact fO h
 ·exact fO h
theorem KZ {T:Tab} {st st':St} {d:Nat} {t:TypeId} {l c v:AV} (h:bR T st d t l c=some (v,st')):Cj st st':=by
 unfold bR at h
 split at h
 ·split at h
  ·split at h
   ·injection h with h;injection h with h1 h2;subst h2;exact Lx _ _ _
   ·cases h
  ·cases h
 ·cases h
theorem qv (e:Ty): ∀(l:List (Nat×Operand)) (i:Nat) (st st':St) (fr tr:Bool) (ys:List e.den),Ly e i l st=some (fr,tr,ys,st')->Cj st st'
 | [],_,_,_,_,_,_,h=>by
  simp only [Ly] at h
  injection h with h;injection h with h1 h2;injection h2 with h2 h3;injection h3 with h3 h4;subst h4;exact Cj.rfl'
 |(j,x)::r,i,st,st',fr,tr,ys,h=>by
  simp only [Ly] at h
  split at h
  ·split at h
   ·rename_i hs
    split at h
    ·split at h
     ·rename_i hp
      injection h with h;injection h with h1 h2;injection h2 with h2 h3;injection h3 with h3 h4;subst h4
      exact (Tc hs).trans (qv e r _ _ _ _ _ _ hp)
     ·cases h
    ·cases h
   ·cases h
  ·cases h
theorem pk {T:Tab} {st st':St} {d:Nat} {t:TypeId} {n:Nat} {parts:Array (Nat×Operand)} {v:AV} (h:Na T st d t n parts=some (v,st')):Cj st st':=by
 unfold Na at h
 split at h
 ·cases h
 ·split at h
  ·cases h
  ·split at h
   ·split at h
    ·rename_i hp
     injection h with h;injection h with h1 h2;subst h2;exact (qv _ _ _ _ _ _ _ _ hp).trans (Lx _ _ _)
    ·cases h
   ·cases h
theorem vX {T:Tab} {st st':St} {d:Nat} {t:TypeId} {v:AV} (h:Vf T st d t=some (v,st')):Cj st st':=by
 unfold Vf at h
 split at h
 ·split at h
  ·injection h with h;injection h with h1 h2;subst h2;exact Lx _ _ _
  ·cases h
 ·cases h
theorem nU {T:Tab} {st st':St} {t:TypeId} {m k x:AV} (h:Jw T st t m k x=some st'):Cj st st':=by
 unfold Jw at h
 split at h
 ·split at h
  ·split at h
   ·injection h with h;subst h;exact Nc _ _ _
   ·cases h
  ·cases h
 ·cases h
theorem KY {T:Tab} {st st':St} {t t':TypeId} {x y v:AV} (h:j6 T st t t' x y=some (v,st')):Cj st st':=by
 unfold j6 at h
 split at h
 ·split at h
  ·split at h
   ·split at h
    ·injection h with h;injection h with h1 h2;subst h2;exact Nc _ _ _
    ·cases h
   ·cases h
  ·cases h
 ·cases h
theorem EV {T:Tab} {st st':St} {t:TypeId} {x:AV} (h:evalClear T st t x=some st'):Cj st st':=by
 unfold evalClear at h
 split at h
 ·split at h
  ·split at h
   ·split at h
    ·injection h with h;subst h;exact Nc _ _ _
    ·cases h
   ·cases h
  ·cases h
 ·cases h
theorem xW {st st':St} {c:CK} {ys:c.den} {a:AC} (h:cE st c ys a=some st'):st'.tmps=st.tmps:=by
 unfold cE at h
 repeat' split at h
 all_goals first|(cases h;done)|(simp only [Aa] at h;subst h;rfl)|skip
theorem UL {st st':St} {e:Ty} {ys:List e.den} {a:AC} (h:MN st e ys a=some st'):st'.tmps=st.tmps:=by
 unfold MN at h
 repeat' split at h
 all_goals first|(cases h;done)|(simp only [Aa] at h;subst h;rfl)|skip
theorem Vc: ∀(cs:List (Bool×CK)) (o:IOs.den cs) (as:List AC) (st st':St),It cs o as st=some st'->st'.tmps=st.tmps
 | [],_,_,st,st',h=>by simp only [It,Aa] at h;subst h;rfl
 |(true, .Ec _)::r,o,[],st,st',h=>by simp [It] at h
 |(true, .row _ _)::r,o,[],st,st',h=>by simp [It] at h
 |(true, .Ij _ _)::r,o,[],st,st',h=>by simp [It] at h
 |(true, .part _ _)::r,o,[],st,st',h=>by simp [It] at h
 |(true, .Bo _ _ _)::r,o,[],st,st',h=>by simp [It] at h
 |(true, .Bo _ _ _)::r,o,a::as,st,st',h=>Vc r o as st st' (by simpa only [It] using h)
 |(false,_)::r,o,[],st,st',h=>by simp [It] at h
 |(true, .Ec _)::r,o,a::as,st,st',h=>Vc r o as st st' (by simpa only [It] using h)
 |(false,_)::r,o,a::as,st,st',h=>Vc r o as st st' (by simpa only [It] using h)
 |(true, .row _ _)::r,o,a::as,st,st',h=>by
  simp only [It] at h
  split at h
  ·rename_i hc;exact (Vc r o.2 as _ st' h).trans (xW hc)
  ·cases h
 |(true, .part _ _)::r,o,a::as,st,st',h=>by
  simp only [It] at h
  split at h
  ·rename_i hc;exact (Vc r o.2 as _ st' h).trans (UL hc)
  ·cases h
 |(true, .Ij _ _)::r,o,a::as,st,st',h=>by
  simp only [It] at h
  split at h
  ·rename_i hc;exact (Vc r o.2 as _ st' h).trans (xW hc)
  ·cases h
theorem zg (cA st:St) (ls:List Nat) (n:Nat) (hl:cA.tmps.length=st.tmps.length) (h:Cj cA st):Cj cA (mz cA st ls n):=by
 unfold mz
 split
 ·exact h
 ·intro t fr τ x hx
  show (Mg _ cA.tmps st.tmps).getD t .undef=_
  rcases gA ls cA.tmps st.tmps t hl with ⟨k,i,c,h1,_⟩|h1
  ·rw [show cA.tmps.getD t .undef=_ from hx] at h1;cases h1
  ·rw [h1];exact h t fr τ x hx
theorem EU {st st':St} {d:Option Nat} {s:MSpec} {args:List AV} {v:AV} (h:Yd st d s args=some (v,st')):Cj st st':=by
 unfold Yd at h
 split at h
 ·cases h
 split at h
 ·cases h
 split at h
 ·cases h
 split at h
 ·split at h
  ·cases h
  split at h
  ·cases h
  rename_i st1 hp
  split at h
  ·cases h
  split at h
  ·simp only [Aa,Ae] at h
   obtain ⟨_,rfl⟩:=h
   have hpt:=Vc _ _ _ _ _ hp
   refine zg _ _ _ _ ?_ ?_
   ·simp only [m7,pM]
    rw [<-hpt]
    simp only [St.cO,St.Lp,Gf]
   ·refine Cj.trans (Cj.Zq hpt) ?_
    refine Cj.trans (Qb st1 (Cl _ _) (by simp [Cl,AC.refs]) λfr τ x=>by simp [Cl,AC.refs]) (Cj.Zq pM)
  ·cases h
 ·cases h
theorem dz (st:St) (k m:Nat) (b:OB):Cj st (Rq st k m b):=
 (Qb st (Cl [m,k] []) (by simp [Cl,AC.refs]) λfr τ x=>by simp [Cl,AC.refs]).trans (Cj.Zq rfl)
theorem EW {T:Tab} {st st':St} {d:Nat} {t:TypeId} {l c v:AV} (h:Yf T st d t l c=some (v,st')):Cj st st':=by
 unfold Yf at h
 split at h
 ·exact KZ h
 ·split at h
  ·split at h
   ·injection h with h;injection h with h1 h2;subst h2;exact dz _ _ _ _
   ·cases h
  ·cases h
theorem nS {T:Tab} {st st':St} {d:Nat} {t:TypeId} {n:Nat} {parts:Array (Nat×Operand)} {v:AV} (h:Js T st d t n parts=some (v,st')):Cj st st':=by
 unfold Js at h
 split at h
 ·exact pk h
 ·repeat' split at h
  all_goals first|(cases h;done)|(injection h with h;injection h with h1 h2;subst h2;exact dz _ _ _ _)
theorem vW {T:Tab} {st st':St} {d:Nat} {t:TypeId} {x y:Operand} {v:AV} (h:Se T st d t x y=some (v,st')):Cj st st':=by
 unfold Se at h
 split at h
 ·exact vV h
 ·repeat' split at h
  all_goals first|(cases h;done)|(injection h with h;injection h with h1 h2;subst h2;exact dz _ _ _ _)
theorem eE {st st':St} {v:AV} {o:Option AV} (h:o.map (λv=>(v,st))=some (v,st')):Cj st st':=by
 cases o with
 |none=>cases h
 |some u=>injection h with h;injection h with h1 h2;subst h2;exact Cj.rfl'
theorem Uo: ∀(l:List Operand) {st st1:St},Ny l st=some st1->Cj st st1
 | [],st,st1,h=>by
  simp only [Ny,Aa] at h
  subst h
  exact Cj.rfl'
 |x::r,st,st1,h=>by
  simp only [Ny] at h
  cases hs:settle st (st.ev x) with
  |none=>rw [hs] at h;cases h
  |some p=>
   rw [hs] at h
   exact (Tc (v':=p.1) (st':=p.2) hs).trans (Uo r h)
theorem vY {T:Tab} {st:St} (p x:Operand):Cj st (Pc T st p x):=by
 unfold Pc
 split
 ·split
  ·split
   ·rename_i hs;exact Uo _ hs
   ·exact Cj.rfl'
  ·exact Cj.rfl'
 ·exact Cj.rfl'
theorem nC {T:Tab} {Γ:Env} {st st':St} {o:Oper} {v:AV} (h:evalOp T Γ st o=some (v,st')):Cj st st':=by
 unfold evalOp at h
 split at h
 ·split at h
  ·split at h
   ·injection h with h;injection h with h1 h2;subst h2;exact Lx _ _ _
   ·cases h
  ·injection h with h;injection h with h1 h2;subst h2;exact Cj.rfl'
 ·split at h
  ·split at h
   ·exact zh h
   ·exact qt h
  ·cases h
 ·split at h
  ·split at h
   ·split at h
    ·split at h
     ·obtain ⟨p,_,hp⟩:=Option.map_eq_some_iff.1 h
      cases hp
      exact Cj.rfl'
     ·cases h
    ·exact qt h
   ·cases h
  ·cases h
 ·rename_i t p x _
  cases hs:Qh T (Pc T st p x) t ((Pc T st p x).ev p) ((Pc T st p x).ev x) with
  |none=>rw [hs] at h;cases h
  |some s=>rw [hs] at h;injection h with h;injection h with h1 h2;subst h2;exact (vY p x).trans (zj hs)
 ·split at h
  ·exact EW h
  ·cases h
 ·split at h
  ·exact vX h
  ·cases h
 ·rename_i t m k x _
  cases hs:Jw T st t (st.ev m) (st.ev k) (st.ev x) with
  |none=>rw [hs] at h;cases h
  |some s=>rw [hs] at h;injection h with h;injection h with h1 h2;subst h2;exact nU hs
 ·rename_i t m k x _
  cases hs:Jw T st t (st.ev m) (st.ev k) (st.ev x) with
  |none=>rw [hs] at h;cases h
  |some s=>rw [hs] at h;injection h with h;injection h with h1 h2;subst h2;exact nU hs
 ·split at h
  ·exact nS h
  ·cases h
 ·exact eE h
 ·split at h
  ·split at h
   ·exact vW h
   ·cases h
  ·cases h
 ·split at h
  ·exact KY h
  ·cases h
 ·split at h
  ·rename_i x t _ _
   cases hs:evalClear T st t (st.ev x) with
   |none=>rw [hs] at h;cases h
   |some s=>rw [hs] at h;injection h with h;injection h with h1 h2;subst h2;exact EV hs
  ·cases h
 ·split at h
  ·exact EU h
  ·split at h
   ·rename_i args _ _ _ _ _ _
    cases hs:Ny args.toList st with
    |none=>rw [hs] at h;cases h
    |some st1=>
     rw [hs] at h
     exact (Uo _ hs).trans (eE h)
   ·exact eE h
  ·exact eE h
 ·exact eE h
def Lg:List Oper->List Nat
 | []=> []
 |o::r=>(match o.dst with|some d=> [d]|none=> [])++Lg r
def writes:Code->List Nat
 | .region _ ops _=>Lg ops.toList
 | .seq a b=>writes a++writes b
 | .cond _ a b=>writes a++writes b
 | .block _ c=>writes c
 | .loop c=>writes c
 |_=> []
def Ft (P:Nat->Prop) (st st':St):Prop:= ∀(t:Nat) (fr:Bool) (τ:Ty) (x:τ.den),P t->st.get t= .at (.data fr τ x)->st'.get t= .at (.data fr τ x)
theorem Ft.trans {P:Nat->Prop} {a b c:St} (h1:Ft P a b) (h2:Ft P b c):Ft P a c:= λt fr τ x hp h=>h2 t fr τ x hp (h1 t fr τ x hp h)
theorem Ft.mono {P Q:Nat->Prop} {a b:St} (h1:Ft P a b) (h: ∀t,Q t->P t):Ft Q a b:= λt fr τ x hp hx=>h1 t fr τ x (h t hp) hx
theorem Cj.on {P:Nat->Prop} {a b:St} (h:Cj a b):Ft P a b:= λt fr τ x _ hx=>h t fr τ x hx
theorem cR (st:St) (dst:Option Tmp) (v:AV):Ft (λt=>dst≠some t) st (st.put dst v):=by
 intro t fr τ x hp hx
 cases dst with
 |none=>exact hx
 |some d=>rw [bV st v (λh=>hp (by rw [h]))];exact hx
theorem bS {T:Tab} {Γ:Env} {ops:Array Oper} {st st':St} {o:Oper} (h:Ey T Γ ops st o=some st'):Ft (λt=>o.dst≠some t) st st':=by
 have key: ∀s,(evalOp T Γ st o).map (λr=>r.2.put o.dst r.1)=some s->Ft (λt=>o.dst≠some t) st s:=by
  intro s hs
  cases he:evalOp T Γ st o with
  |none=>rw [he] at hs;cases hs
  |some p=>rw [he] at hs;injection hs with hs;subst hs;exact (nC (v:=p.1) (st':=p.2) he).on.trans (cR _ _ _)
 unfold Ey at h
 split at h
 ·exact key _ h
 ·split at h
  ·split at h
   ·exact key _ h
   ·injection h with h;subst h;exact cR _ _ _
  ·injection h with h;subst h;exact cR _ _ _
  ·cases h
theorem lb {T:Tab} {Γ:Env} {ops:Array Oper} : ∀(l:List Oper) (st st':St),aU T Γ ops l st=some st'->Ft (λt=>t∉Lg l) st st'
 | [],st,st',h=>by injection h with h;subst h;exact Cj.rfl'.on
 |o::r,st,st',h=>by
  simp only [aU] at h
  split at h
  ·rename_i s hs
   refine Ft.trans ((bS hs).mono λt ht=>?_) ((lb r _ _ h).mono λt ht=>?_)
   ·intro hd;apply ht;simp [Lg,hd]
   ·intro hd;apply ht;simp [Lg,hd]
  ·cases h
theorem Zp: ∀(l:List Oper) (o:Oper) (d:Nat),o∈l->o.dst=some d->d∈Lg l
 | [],_,_,h,_=>by cases h
 |p::r,o,d,h,hd=>by
  cases h with
  |head=>simp [Lg,hd]
  |tail _ h=>simp only [Lg,Bb];exact .inr (Zp r o d h hd)
theorem pw {ops:Array Oper} {i:Nat} {o:Oper} (h:ops[i]?=some o):o∈ops.toList:=by
 rw [Nt] at h
 obtain ⟨h1,h2⟩:=h
 rw [<-h2]
 simp
theorem Zm {T:Tab} {Γ:Env} {ops:Array Oper} : ∀(l:List Nat) (st st':St),Nj T Γ ops l st=some st'->Ft (λt=>t∉Lg ops.toList) st st'
 | [],st,st',h=>by injection h with h;subst h;exact Cj.rfl'.on
 |i::r,st,st',h=>by
  simp only [Nj] at h
  split at h
  ·cases h
  ·rename_i o ho
   split at h
   ·rename_i s hs
    exact ((bS hs).mono λt ht hd=>ht (Zp _ _ _ (pw ho) hd)).trans (Zm r _ _ h)
   ·cases h
theorem Sf {T:Tab} {Γ:Env} {ops:Array Oper} : ∀(l:List Nat) (st st':St),Ge T Γ ops l st=some st'->Ft (λt=>t∉Lg ops.toList) st st'
 | [],st,st',h=>by injection h with h;subst h;exact Cj.rfl'.on
 |i::r,st,st',h=>by
  simp only [Ge] at h
  split at h
  ·cases h
  ·rename_i o ho
   split at h
   ·exact ((cR _ _ _).mono λt ht hd=>ht (Zp _ _ _ (pw ho) hd)).trans (Sf r _ _ h)
   ·cases h
theorem Un: ∀(l:List Nat) (st:St),Cj st (bo l st)
 | [],_=>Cj.rfl'
 |a::r,st=>(nT st a).trans (Un r _)
theorem Wd (live:List Nat): ∀(i:Nat) (l:List AV) (t:Nat),i+t∈live->(Ja live i l).getD t .undef=l.getD t .undef
 |_,[],_,_=>rfl
 |i,v::r,0,h=>by simp [Ja];intro hn;exact absurd h hn
 |i,v::r,t+1,h=>by
  simp only [Ja,Nz]
  exact Wd live (i+1) r t (by rw [show i+1+t=i+(t+1) by omega];exact h)
theorem zi (l k:Nat) (st:St):Cj st (st.rename l k):=by
 unfold St.rename
 split
 ·split
  ·exact (Qb st (Vo l k) rfl λ_ _ _=>rfl).trans (Cj.Zq rfl)
  ·exact Cj.rfl'
 ·exact Cj.rfl'
theorem eG: ∀(n t:Nat) (st:St),Cj st (Nd n t st)
 |0,_,_=>Cj.rfl'
 |n+1,t,st=>by
  simp only [Nd]
  refine Cj.trans ?_ (eG n (t+1) _)
  split
  ·split
   ·split
    ·exact Cj.rfl'
    ·exact zi _ _ _
   ·exact Cj.rfl'
  ·exact Cj.rfl'
theorem tM (t:Nat) (st:St):Cj st (cf t st):=by
 unfold cf
 split
 ·rename_i l off len hg
  split
  ·split
   ·intro k fr τ x hk
    have Jr:k≠t:= λe=>by subst e;rw [hg] at hk;cases hk
    rw [bV _ _ Jr]
    exact Lx _ _ _ k fr τ x hk
   ·exact Cj.rfl'
  ·exact Cj.rfl'
 ·exact Cj.rfl'
theorem mA (c:Nat) (st:St):Cj st (Qo c st):=by
 unfold Qo
 split
 ·split
  ·split
   ·split
    ·split
     ·exact (Lx _ _ _).trans (Nc _ _ _)
     ·exact Cj.rfl'
    ·exact Cj.rfl'
   ·exact Cj.rfl'
  ·exact Cj.rfl'
 ·exact Cj.rfl'
theorem cS (live:List Nat): ∀(n c:Nat) (st:St),Cj st (Qf live n c st)
 |0,_,_=>Cj.rfl'
 |n+1,c,st=>by
  simp only [Qf]
  refine Cj.trans ?_ (cS live n (c+1) _)
  split
  ·exact mA _ _
  ·exact Cj.rfl'
theorem gV (live:List Nat): ∀(n t:Nat) (st:St),Cj st (Pr live n t st)
 |0,_,st=>cS live 16 0 st
 |n+1,t,st=>by
  simp only [Pr]
  refine Cj.trans ?_ (gV live n (t+1) _)
  split
  ·exact tM _ _
  ·exact Cj.rfl'
theorem ly (live:List Nat) (st:St):Ft (λt=>t∈live) st (st.clean live):=by
 intro t fr τ x hp hx
 unfold St.clean
 have key: ∀s:St,s.get t= .at (.data fr τ x)->(if live.contains cZ then Nd s.tmps.length 0 s else s).get t= .at (.data fr τ x):=by
  intro s hs
  split
  ·exact eG _ _ s t fr τ x hs
  ·exact hs
 have ZN: ∀s:St,s.get t= .at (.data fr τ x)->(if live.any (λt=>Nat.ble Pv t) then s.Jp live else s).get t= .at (.data fr τ x):=by
  intro s hs
  split<;>exact hs
 have ZO: ∀s:St,s.get t= .at (.data fr τ x)->(if live.any (λt=>Nat.ble Sq t&&Nat.blt t cZ) then Pr live s.tmps.length 0 s else s).get t= .at (.data fr τ x):=by
  intro s hs
  split
  ·exact gV _ _ _ s t fr τ x hs
  ·exact hs
 refine ZN _ (key _ (ZO _ (Un _ _ t fr τ x ?_)))
 simp only [St.get] at hx⊢
 rw [Wd live 0 st.tmps t (by simpa using hp)]
 exact hx
def c6 (live:Nat->List Nat):Code->Nat->Bool
 | .seq a b,t=>c6 live a t&&c6 live b t
 | .cond _ a b,t=>c6 live a t&&c6 live b t
 | .block _ c,t=>c6 live c t
 | .loop c,t=>(live (Ez c)).contains t&&c6 live c t
 |_,_=>true
theorem oW {a b:Bool} (h:(a&&b)=true):a=true:=by cases a<;>simp_all
theorem m8 {a b:Bool} (h:(a&&b)=true):b=true:=by cases a<;>simp_all
theorem p7 {T:Tab} {Γ:Env} {ops:Array Oper} {draw:Bool} {st st':St} (h:Sh T Γ ops draw st=some st'):Ft (λt=>t∉writes (.region 0 ops draw)) st st':=by
 unfold Sh at h
 have go: ∀q,(match Ge T Γ ops (kx q Γ ops) st with
   |some s=>Nj T Γ ops (Kb q Γ ops) s
   |none=>none)=some st'->Ft (λt=>t∉writes (.region 0 ops draw)) st st':=by
  intro q h
  split at h
  ·rename_i s hs
   exact (Sf _ _ _ hs).trans (Zm _ _ _ h)
  ·cases h
 split at h
 ·split at h
  ·exact go false h
  ·split at h
   ·exact go true h
   ·cases h
 ·exact lb _ _ _ h
theorem sA {T:Tab} {Γ:Env} {ops:Array Oper} {draw:Bool} {K:St->Prop} (s0:St): ∀(f:Nat) (Ah:Array Bool) (st:St),Ft (λt=>t∉writes (.region 0 ops draw)) s0 st->anyS T Γ ops K f Ah st->anyS T Γ ops (λs=>K s/\Ft (λt=>t∉writes (.region 0 ops draw)) s0 s) f Ah st
 |0,_,_,hk,h=>⟨h.1,h.2,hk⟩
 |f+1,Ah,st,hk,h=>⟨h.1,λi hi=>by
  obtain ⟨o,st',h1,h2,h3⟩:=h.2 i hi
  have h4:Nj T Γ ops [i] st=some st':=by simp only [Nj,h1,h2]
  exact ⟨o,st',h1,h2,sA s0 f _ _ (hk.trans (Zm _ _ _ h4)) h3⟩⟩
theorem m9 {T:Tab} {Γ:Env} {ops:Array Oper} {draw:Bool} {E:List Nat} {K:St->Prop} (s0:St): ∀(f:Nat) (Ah:Array Bool) (st:St),Ft (λt=>t∉writes (.region 0 ops draw)) s0 st->r8 T Γ ops E K f Ah st->r8 T Γ ops E (λs=>K s/\Ft (λt=>t∉writes (.region 0 ops draw)) s0 s) f Ah st
 |0,_,_,hk,h=>⟨h.1,h.2.1,h.2.2,hk⟩
 |f+1,Ah,st,hk,h=>⟨h.1,h.2.1,λi hi=>by
  obtain ⟨o,st',h1,h2,h3⟩:=h.2.2 i hi
  have h4:Nj T Γ ops [i] st=some st':=by simp only [Nj,h1,h2]
  exact ⟨o,st',h1,h2,m9 s0 f _ _ (hk.trans (Zm _ _ _ h4)) h3⟩⟩
theorem jq {ops:Array Oper} {dead:List Nat} (hd:dead.all (Zg ops)=true) (st:St):Ft (λt=>t∉Lg ops.toList) st (st.Rb dead):=by
 intro t fr τ x ht hx
 unfold St.Rb
 refine Un _ _ t fr τ x ?_
 show (Ja _ 0 st.tmps).getD t .undef=_
 rw [Wd _ 0 st.tmps t ?_]
 ·exact hx
 ·refine Bw.2 ⟨Dl.2 ?_,?_⟩
  ·refine Bx λhn=>?_
   have:st.get t= .undef:=by
    unfold St.get
    rw [Aj,Dm (by omega)];rfl
   rw [hx] at this
   cases this
  ·cases hc:dead.contains (0+t) with
   |false=>rfl
   |true=>
    have hm:0+t∈dead:=by simpa using hc
    have h1:=Az.1 hd _ hm
    obtain ⟨o,ho,h2⟩:=Fh.1 h1
    rw [Ce] at h2
    exact absurd (Zp _ o t ho (by simpa using h2)) ht
theorem kY.keeps {T:Tab} {Γ:Env} {ops:Array Oper} {draw:Bool} {st:St} {K:St->Prop} (h:kY T Γ ops draw st K):kY T Γ ops draw st (λs=>K s/\Ft (λt=>t∉writes (.region 0 ops draw)) st s):=by
 rcases h with ⟨st',h1,h2⟩|⟨h1,h2,cA,h3,h4|⟨E,st1,h4,h5,h6,h7⟩⟩
 ·exact .inl ⟨st',h1,h2,p7 h1⟩
 ·exact .inr ⟨h1,h2,cA,h3, .inl (sA st _ _ _ (Sf _ _ _ h3) h4)⟩
 ·exact .inr ⟨h1,h2,cA,h3, .inr ⟨E,st1,h4,h5,h6,m9 st _ _ _ ((Sf _ _ _ h3).trans (Sf _ _ _ h6)) h7⟩⟩
theorem yz.keeps {T:Tab} {Γ:Env} {ops:Array Oper} {draw:Bool} {st:St} {K:St->Prop} (h:yz T Γ ops draw st K):yz T Γ ops draw st (λs=>K s/\Ft (λt=>t∉writes (.region 0 ops draw)) st s):=by
 rcases h with h|⟨dead,hd,h⟩
 ·exact .inl h.keeps
 ·exact .inr ⟨dead,hd,h.keeps.mono λs hs=>⟨hs.1,hs.2.trans (jq hd s)⟩⟩
theorem l4 (ops:Array Oper) {fr:Bool} {τ:Ty} {x:τ.den} : ∀(i:Nat) (l:List AV) (t:Nat),l.getD t .undef= .at (.data fr τ x)->(Ph ops i l).getD t .undef= .at (.data fr τ x)
 |_,[],_,h=>h
 |i,v::r,0,h=>by
  cases v with
  |Ng l=>cases h
  |_=>exact h
 |i,v::r,t+1,h=>by
  have h':=l4 ops (i+1) r t h
  cases v<;>(simp only [Ph,Nz];exact h')
theorem lz (ops:Array Oper) (st:St):Cj st (st.nq ops):= λt _ _ _ hx=>l4 ops 0 st.tmps t hx
theorem MX {T:Tab} {Γ:Env} {live:Nat->List Nat} {c:Code} {st:St} {Q:Mb->St->Prop} (h:Oy T Γ live c st Q): ∀(s0:St) (p:Nat->Prop),Ft p s0 st->(∀t,p t->t∉writes c/\c6 live c t=true)->Oy T Γ live c st (λe s=>Q e s/\Ft p s0 s):=by
 induction h with
 |skip h=>exact λs0 p hk _=> .skip ⟨h,hk⟩
 |label h=>exact λs0 p hk _=> .label ⟨h,hk⟩
 |exit h=>exact λs0 p hk _=> .exit ⟨h,hk⟩
 |ret h=>exact λs0 p hk _=> .ret ⟨h,hk⟩
 |region h=>
  exact λs0 p hk hp=> .region (h.keeps.mono λs hs=>⟨hs.1,(hk.trans (lz _ _).on).trans (hs.2.mono λt ht=>(hp t ht).1)⟩)
 |seq Q1 _ _ h3 SY EP=>
  exact λs0 p hk hp=> .seq _ (SY s0 p hk λt ht=>⟨λhm=>(hp t ht).1 (by simp [writes,hm]),oW (hp t ht).2⟩)
   (λs hs=>EP s hs.1 s0 p hs.2 λt ht=>⟨λhm=>(hp t ht).1 (by simp [writes,hm]),m8 (hp t ht).2⟩) λe s he hs=>⟨h3 e s he hs.1,hs.2⟩
 |cond hc _ _ SY EP=>
  exact λs0 p hk hp=> .cond hc (λht=>SY ht s0 p hk λt h=>⟨λhm=>(hp t h).1 (by simp [writes,hm]),oW (hp t h).2⟩)
   fun ht=>EP ht s0 p hk λt h=>⟨λhm=>(hp t h).1 (by simp [writes,hm]),m8 (hp t h).2⟩
 |block Q1 _ h2 ih=>
  exact λs0 p hk hp=> .block _ (ih s0 p hk λt ht=>⟨λhm=>(hp t ht).1 (by simpa [writes] using hm),by simpa [c6] using (hp t ht).2⟩) λe s hs=>by
   have h:=h2 e s hs.1
   cases e with
   |normal=>exact ⟨h,hs.2⟩
   |ret=>exact ⟨h,hs.2⟩
   |exit SX=>
    simp only [xB] at h⊢
    split at h
    ·rename_i hi;rw [Ab hi];exact ⟨h,hs.2⟩
    ·rename_i hi;rw [Ai hi];exact ⟨h,hs.2⟩
 |loop Q1 _ _ h3 SY EP=>
  intro s0 p hk hp
  refine .loop _ (SY s0 p (hk.trans ((ly _ _).mono λt ht=>by simpa using oW (hp t ht).2)) λt ht=>⟨λhm=>(hp t ht).1 (by simpa [writes] using hm),m8 (hp t ht).2⟩)
   (λs hs=>EP s hs.1 s0 p hs.2 hp) λe s he hs=>⟨h3 e s he hs.1,hs.2⟩
end Go.Proofs.YtkkdpknjohcekaaGreat
