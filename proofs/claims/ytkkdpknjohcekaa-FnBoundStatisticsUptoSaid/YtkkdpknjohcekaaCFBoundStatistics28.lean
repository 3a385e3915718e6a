/-
  Part 29 of the proof that the statement FnBoundStatistics holds.
-/
import Derived.Test.YtkkdpknjohcekaaCFBoundStatistics27
namespace Go.Proofs.Ytkkdpknjohcekaa
open Go.RowKit
def Co (st st':St):Prop:= ∀(t:Nat) (fr:Bool) (τ:Ty) (x:τ.den),st.get t= .at (.data fr τ x)->st'.get t= .at (.data fr τ x)
theorem Co.rfl' {st:St} :Co st st:= λ_ _ _ _ h=>h
theorem Co.trans {a b c:St} (h1:Co a b) (h2:Co b c):Co a c:= λt fr τ x h=>h2 t fr τ x (h1 t fr τ x h)
theorem Co.Zr {a b:St} (h:b.tmps=a.tmps):Co a b:= λt fr τ x hx=>by
 simp only [St.get] at hx⊢
 rw [h]
 exact hx
theorem bN (st:St) {t d:Nat} (v:AV) (h:t≠d):(st.put (some d) v).get t=st.get t:=by
 simp only [St.put,St.get]
 rw [Rb]
 rw [Ak (by rintro ⟨rfl,_⟩;exact h rfl)]
theorem Pp (st:St) (f:AC->AC) (hu:f .undef= .undef) (hd: ∀fr (τ:Ty) (x:τ.den),f (.data fr τ x)= .data fr τ x):Co st (st.Lc f):=by
 intro t fr τ x h
 simp only [St.Lc,St.get]
 rw [Vd f hu,show st.tmps.getD t .undef=_ from h]
 simp only [AV.map,hd]
theorem nE (st:St) (l:Nat):Co st (st.forget l):=
 (Pp st (Cp l) rfl λ_ _ _=>rfl).trans (Co.Zr rfl)
theorem aS (st:St) (l:Nat) (fr:Bool) (e:Ty) (xs:List e.den):Co st (st.freeze l fr e xs):=
 (Pp st (Cz l fr e xs) rfl λ_ _ _=>rfl).trans (Co.Zr rfl)
theorem gr (st:St) (l:Nat) (v:Ty) (m:ByteArray->Option v.den):Co st (st.Jb l v m):=
 (Pp st (Gy l v m) rfl λ_ _ _=>rfl).trans (Co.Zr rfl)
theorem Lj (st:St) (l:Nat) (b:OB):Co st (st.new l b):=(nE st l).trans (Co.Zr rfl)
theorem Mr (st:St) (l:Nat) (b:OB):Co st (st.Kg l b):=Co.Zr rfl
theorem ei (b:OB) (key l i:Nat) (st:St):Co st (Uw b key l i st):=by
 unfold Uw
 split
 ·split
  ·dsimp only
   split
   ·exact (Lj _ _ _).trans (Mr _ _ _)
   ·exact Lj _ _ _
  ·exact Co.rfl'
 ·exact Co.rfl'
theorem l9 (T:Tab) (l:Nat) (t:TypeId) (τ:Ty): ∀(n i:Nat) (st:St),Co st (fC T l t τ n i st)
 |0,_,_=>Co.rfl'
 |n+1,i,st=>by
  simp only [fC]
  refine Co.trans ?_ (l9 T l t τ n (i+1) _)
  split
  ·exact ei _ _ _ _ _
  ·exact Co.rfl'
theorem iT (T:Tab) (l off:Nat) (t:TypeId) (τ:Ty): ∀(n i:Nat) (st:St),Co st (er T l off t τ n i st)
 |0,_,_=>Co.rfl'
 |n+1,i,st=>by
  simp only [er]
  refine Co.trans ?_ (iT T l off t τ n (i+1) _)
  split
  ·exact ei _ _ _ _ _
  ·exact Co.rfl'
theorem Rh: ∀(n:Nat) (st:St) (cs iz:List AC) (st':St),Hs n st cs=some (iz,st')->Co st st'
 |0,st,cs,iz,st',h=>by
  simp only [Hs] at h
  split at h
  ·injection h with h;injection h with h1 h2;subst h2;exact Co.rfl'
  ·cases h
 |n+1,st,cs,iz,st',h=>by
  simp only [Hs] at h
  split at h
  ·injection h with h;injection h with h1 h2;subst h2;exact Co.rfl'
  ·split at h
   ·exact (aS _ _ _ _ _).trans (Rh n _ _ _ _ h)
   ·exact (aS _ _ _ _ _).trans (Rh n _ _ _ _ h)
   ·cases h
  ·split at h
   ·exact (gr _ _ _ _).trans (Rh n _ _ _ _ h)
   ·cases h
  ·cases h
theorem Su {st st':St} {v v':AV} (h:settle st v=some (v',st')):Co st st':=by
 unfold settle at h
 split at h
 ·split at h
  ·injection h with h;injection h with h1 h2;subst h2;exact aS _ _ _ _ _
  ·injection h with h;injection h with h1 h2;subst h2;exact aS _ _ _ _ _
  ·cases h
 ·split at h
  ·injection h with h;injection h with h1 h2;subst h2;exact gr _ _ _ _
  ·cases h
 ·split at h
  ·injection h with h;injection h with h1 h2;subst h2;exact Co.rfl'
  ·cases h
 ·rename_i cs
  cases hs:Hs cs.length st cs with
  |none=>rw [hs] at h;cases h
  |some p=>rw [hs] at h;injection h with h;injection h with h1 h2;subst h2;exact Rh _ _ _ _ _ hs
 ·injection h with h;injection h with h1 h2;subst h2;exact Co.rfl'
 ·cases h
theorem zh {st st':St} {l:Nat} {t:TypeId} {cs:List AC} {v:AV} (h:tU st l t cs=some (v,st')):Co st st':=by
 unfold tU at h
 split at h
 ·cases h
 ·injection h with h;injection h with h1 h2;subst h2;exact Lj _ _ _
theorem qt {T:Tab} {st st':St} {l:Nat} {t:TypeId} {τ:Ty} {cs:List AC} {v:AV} (h:mkVar T st l t τ cs=some (v,st')):Co st st':=by
 unfold mkVar at h
 split at h
 ·cases h
 dsimp only at h
 split at h
 ·injection h with h;injection h with h1 h2;subst h2;exact (Lj _ _ _).trans (l9 _ _ _ _ _ _ _)
 ·cases h
theorem EV {T:Tab} {st st':St} {t:TypeId} {p v:AV} (h:Vc T st t p v=some st'):Co st st':=by
 unfold Vc at h
 split at h
 ·split at h
  ·split at h
   ·injection h with h
    split at h
    ·subst h;exact (Mr _ _ _).trans (iT _ _ _ _ _ _ _ _)
    ·subst h;exact Mr _ _ _
   ·cases h
  ·cases h
 ·split at h
  ·rename_i hs
   split at h
   ·split at h
    ·split at h
     ·injection h with h;subst h;exact (Su hs).trans (Mr _ _ _)
     ·cases h
    ·cases h
   ·cases h
  ·cases h
 ·cases h
theorem tJ (st:St) (l j m:Nat) (e:Ty) (te:TypeId) (rows:List (List e.den)) (xs:List e.den) (kp:Option (Nat×Nat)):Co st (Tw st l j m e te rows xs kp):=
 ((Pp st (Cr [m] [l]) (by simp [Cr,AC.refs]) λfr τ x=>by simp [Cr,AC.refs]).trans (Co.Zr rfl)).trans (Mr (st.cD [m] [l]) _ _)
theorem tK (st:St) (l i m:Nat) (e:Ty) (te tid:TypeId) (rows:List (List e.den)) (kp:Option (Nat×Nat)):Co st (Ql st l i m e te tid rows kp):=
 (Mr st l _).trans (Lj _ m _)
theorem zj {T:Tab} {st st':St} {t:TypeId} {p v:AV} (h:Py T st t p v=some st'):Co st st':=by
 unfold Py at h
 split at h
 rotate_left
 ·exact EV h
 unfold bJ at h
 split at h
 ·split at h
  ·rename_i hs
   split at h
   ·split at h
    ·injection h with h;subst h;exact (Su hs).trans (Mr _ _ _)
    ·cases h
   ·cases h
  ·cases h
 ·split at h
  ·split at h
   ·split at h
    ·injection h with h;subst h
     exact tJ _ _ _ _ _ _ _ _ _
    ·cases h
   ·cases h
  ·cases h
 ·cases h
theorem fg {T:Tab} {st st':St} {d:Nat} {t:TypeId} {x y:Operand} {v:AV} (h:Of T st d t x y=some (v,st')):Co st st':=by
 unfold Of at h
 split at h
 ·cases h
 ·split at h
  ·rename_i hs
   split at h
   ·cases h
   ·split at h
    ·split at h
     ·injection h with h;injection h with h1 h2;subst h2;exact ((Su hs).trans (Lj _ _ _)).trans (Lj _ _ _)
     ·cases h
    ·split at h
     ·split at h
      ·split at h
       ·injection h with h;injection h with h1 h2;subst h2;exact (Su hs).trans (Lj _ _ _)
       ·cases h
      ·cases h
     ·cases h
    ·cases h
  ·cases h
theorem vQ {T:Tab} {st st':St} {d:Nat} {t:TypeId} {x y:Operand} {v:AV} (h:Rt T st d t x y=some (v,st')):Co st st':=by
 unfold Rt at h
 split at h
 ·rename_i tx
  split at h
  ·rename_i l i c hg
   split at h
   ·split at h
    ·rename_i e te rows kp tid hl ht hc
     refine Co.trans (b:=(Ql st l i d e te tid rows kp).put (some tx) (.at (.own d 0 (rows.getD i []).length))) ?_ (fg h)
     intro t' fr τ z hz
     by_cases e':t'=tx
     ·subst e';rw [hg] at hz;cases hz
     ·rw [bN _ _ e'];exact tK st l i d e te tid rows kp t' fr τ z hz
    ·cases h
   ·cases h
  ·exact fg h
 ·exact fg h
theorem LL {T:Tab} {st st':St} {d:Nat} {t:TypeId} {l c v:AV} (h:bH T st d t l c=some (v,st')):Co st st':=by
 unfold bH at h
 split at h
 ·split at h
  ·split at h
   ·injection h with h;injection h with h1 h2;subst h2;exact Lj _ _ _
   ·cases h
  ·cases h
 ·cases h
theorem qv (e:Ty): ∀(l:List (Nat×Operand)) (i:Nat) (st st':St) (fr tr:Bool) (ys:List e.den),Lk e i l st=some (fr,tr,ys,st')->Co st st'
 | [],_,_,_,_,_,_,h=>by
  simp only [Lk] at h
  injection h with h;injection h with h1 h2;injection h2 with h2 h3;injection h3 with h3 h4;subst h4;exact Co.rfl'
 |(j,x)::r,i,st,st',fr,tr,ys,h=>by
  simp only [Lk] at h
  split at h
  ·split at h
   ·rename_i hs
    split at h
    ·split at h
     ·rename_i hp
      injection h with h;injection h with h1 h2;injection h2 with h2 h3;injection h3 with h3 h4;subst h4
      exact (Su hs).trans (qv e r _ _ _ _ _ _ hp)
     ·cases h
    ·cases h
   ·cases h
  ·cases h
theorem pa {T:Tab} {st st':St} {d:Nat} {t:TypeId} {n:Nat} {parts:Array (Nat×Operand)} {v:AV} (h:Mp T st d t n parts=some (v,st')):Co st st':=by
 unfold Mp at h
 split at h
 ·cases h
 ·split at h
  ·cases h
  ·split at h
   ·split at h
    ·rename_i hp
     injection h with h;injection h with h1 h2;subst h2;exact (qv _ _ _ _ _ _ _ _ hp).trans (Lj _ _ _)
    ·cases h
   ·cases h
theorem vS {T:Tab} {st st':St} {d:Nat} {t:TypeId} {v:AV} (h:Vb T st d t=some (v,st')):Co st st':=by
 unfold Vb at h
 split at h
 ·split at h
  ·injection h with h;injection h with h1 h2;subst h2;exact Lj _ _ _
  ·cases h
 ·cases h
theorem nF {T:Tab} {st st':St} {t:TypeId} {m k x:AV} (h:Ji T st t m k x=some st'):Co st st':=by
 unfold Ji at h
 split at h
 ·split at h
  ·split at h
   ·injection h with h;subst h;exact Mr _ _ _
   ·cases h
  ·cases h
 ·cases h
theorem LK {T:Tab} {st st':St} {t t':TypeId} {x y v:AV} (h:iD T st t t' x y=some (v,st')):Co st st':=by
 unfold iD at h
 split at h
 ·split at h
  ·split at h
   ·split at h
    ·injection h with h;injection h with h1 h2;subst h2;exact Mr _ _ _
    ·cases h
   ·cases h
  ·cases h
 ·cases h
theorem ET {T:Tab} {st st':St} {t:TypeId} {x:AV} (h:evalClear T st t x=some st'):Co st st':=by
 unfold evalClear at h
 split at h
 ·split at h
  ·split at h
   ·split at h
    ·injection h with h;subst h;exact Mr _ _ _
    ·cases h
   ·cases h
  ·cases h
 ·cases h
theorem xQ {st st':St} {c:CK} {ys:c.den} {a:AC} (h:cp st c ys a=some st'):st'.tmps=st.tmps:=by
 unfold cp at h
 repeat' split at h
 all_goals first|(cases h;done)|(simp only [Aa] at h;subst h;rfl)|skip
theorem UI {st st':St} {e:Ty} {ys:List e.den} {a:AC} (h:MY st e ys a=some st'):st'.tmps=st.tmps:=by
 unfold MY at h
 repeat' split at h
 all_goals first|(cases h;done)|(simp only [Aa] at h;subst h;rfl)|skip
theorem Ux: ∀(cs:List (Bool×CK)) (o:IOs.den cs) (as:List AC) (st st':St),Ih cs o as st=some st'->st'.tmps=st.tmps
 | [],_,_,st,st',h=>by simp only [Ih,Aa] at h;subst h;rfl
 |(true, .Fy _)::r,o,[],st,st',h=>by simp [Ih] at h
 |(true, .row _ _)::r,o,[],st,st',h=>by simp [Ih] at h
 |(true, .Hw _ _)::r,o,[],st,st',h=>by simp [Ih] at h
 |(true, .part _ _)::r,o,[],st,st',h=>by simp [Ih] at h
 |(true, .Bl _ _ _)::r,o,[],st,st',h=>by simp [Ih] at h
 |(true, .Bl _ _ _)::r,o,a::as,st,st',h=>Ux r o as st st' (by simpa only [Ih] using h)
 |(false,_)::r,o,[],st,st',h=>by simp [Ih] at h
 |(true, .Fy _)::r,o,a::as,st,st',h=>Ux r o as st st' (by simpa only [Ih] using h)
 |(false,_)::r,o,a::as,st,st',h=>Ux r o as st st' (by simpa only [Ih] using h)
 |(true, .row _ _)::r,o,a::as,st,st',h=>by
  simp only [Ih] at h
  split at h
  ·rename_i hc;exact (Ux r o.2 as _ st' h).trans (xQ hc)
  ·cases h
 |(true, .part _ _)::r,o,a::as,st,st',h=>by
  simp only [Ih] at h
  split at h
  ·rename_i hc;exact (Ux r o.2 as _ st' h).trans (UI hc)
  ·cases h
 |(true, .Hw _ _)::r,o,a::as,st,st',h=>by
  simp only [Ih] at h
  split at h
  ·rename_i hc;exact (Ux r o.2 as _ st' h).trans (xQ hc)
  ·cases h
theorem zg (ck st:St) (ls:List Nat) (n:Nat) (hl:ck.tmps.length=st.tmps.length) (h:Co ck st):Co ck (m9 ck st ls n):=by
 unfold m9
 split
 ·exact h
 ·intro t fr τ x hx
  show (Ls _ ck.tmps st.tmps).getD t .undef=_
  rcases fP ls ck.tmps st.tmps t hl with ⟨k,i,c,h1,_⟩|h1
  ·rw [show ck.tmps.getD t .undef=_ from hx] at h1;cases h1
  ·rw [h1];exact h t fr τ x hx
theorem ES {st st':St} {d:Option Nat} {s:MSpec} {args:List AV} {v:AV} (h:Yg st d s args=some (v,st')):Co st st':=by
 unfold Yg at h
 split at h
 ·cases h
 split at h
 ·cases h
 split at h
 ·cases h
 split at h
 ·split at h
  ·cases h
  split at h
  ·cases h
  rename_i st1 hp
  split at h
  ·cases h
  split at h
  ·simp only [Aa,Ae] at h
   obtain ⟨_,rfl⟩:=h
   have cn:=Ux _ _ _ _ _ hp
   refine zg _ _ _ _ ?_ ?_
   ·simp only [lM,pK]
    rw [<-cn]
    simp only [St.cD,St.Lc,Bt]
   ·refine Co.trans (Co.Zr cn) ?_
    refine Co.trans (Pp st1 (Cr _ _) (by simp [Cr,AC.refs]) λfr τ x=>by simp [Cr,AC.refs]) (Co.Zr pK)
  ·cases h
 ·cases h
theorem dp (st:St) (k m:Nat) (b:OB):Co st (Rf st k m b):=
 (Pp st (Cr [m,k] []) (by simp [Cr,AC.refs]) λfr τ x=>by simp [Cr,AC.refs]).trans (Co.Zr rfl)
theorem EU {T:Tab} {st st':St} {d:Nat} {t:TypeId} {l c v:AV} (h:Yi T st d t l c=some (v,st')):Co st st':=by
 unfold Yi at h
 split at h
 ·exact LL h
 ·split at h
  ·split at h
   ·injection h with h;injection h with h1 h2;subst h2;exact dp _ _ _ _
   ·cases h
  ·cases h
theorem nD {T:Tab} {st st':St} {d:Nat} {t:TypeId} {n:Nat} {parts:Array (Nat×Operand)} {v:AV} (h:Jg T st d t n parts=some (v,st')):Co st st':=by
 unfold Jg at h
 split at h
 ·exact pa h
 ·repeat' split at h
  all_goals first|(cases h;done)|(injection h with h;injection h with h1 h2;subst h2;exact dp _ _ _ _)
theorem vR {T:Tab} {st st':St} {d:Nat} {t:TypeId} {x y:Operand} {v:AV} (h:Ru T st d t x y=some (v,st')):Co st st':=by
 unfold Ru at h
 split at h
 ·exact vQ h
 ·repeat' split at h
  all_goals first|(cases h;done)|(injection h with h;injection h with h1 h2;subst h2;exact dp _ _ _ _)
theorem eh {st st':St} {v:AV} {o:Option AV} (h:o.map (λv=>(v,st))=some (v,st')):Co st st':=by
 cases o with
 |none=>cases h
 |some u=>injection h with h;injection h with h1 h2;subst h2;exact Co.rfl'
theorem Uk: ∀(l:List Operand) {st st1:St},Nq l st=some st1->Co st st1
 | [],st,st1,h=>by
  simp only [Nq,Aa] at h
  subst h
  exact Co.rfl'
 |x::r,st,st1,h=>by
  simp only [Nq] at h
  cases hs:settle st (st.ev x) with
  |none=>rw [hs] at h;cases h
  |some p=>
   rw [hs] at h
   exact (Su (v':=p.1) (st':=p.2) hs).trans (Uk r h)
theorem vT {T:Tab} {st:St} (p x:Operand):Co st (Ou T st p x):=by
 unfold Ou
 split
 ·split
  ·split
   ·rename_i hs;exact Uk _ hs
   ·exact Co.rfl'
  ·exact Co.rfl'
 ·exact Co.rfl'
theorem nc {T:Tab} {Γ:Env} {st st':St} {o:Oper} {v:AV} (h:evalOp T Γ st o=some (v,st')):Co st st':=by
 unfold evalOp at h
 split at h
 ·split at h
  ·split at h
   ·injection h with h;injection h with h1 h2;subst h2;exact Lj _ _ _
   ·cases h
  ·injection h with h;injection h with h1 h2;subst h2;exact Co.rfl'
 ·split at h
  ·split at h
   ·exact zh h
   ·exact qt h
  ·cases h
 ·split at h
  ·split at h
   ·split at h
    ·split at h
     ·obtain ⟨p,_,hp⟩:=Option.map_eq_some_iff.1 h
      cases hp
      exact Co.rfl'
     ·cases h
    ·exact qt h
   ·cases h
  ·cases h
 ·rename_i t p x _
  cases hs:Py T (Ou T st p x) t ((Ou T st p x).ev p) ((Ou T st p x).ev x) with
  |none=>rw [hs] at h;cases h
  |some s=>rw [hs] at h;injection h with h;injection h with h1 h2;subst h2;exact (vT p x).trans (zj hs)
 ·split at h
  ·exact EU h
  ·cases h
 ·split at h
  ·exact vS h
  ·cases h
 ·rename_i t m k x _
  cases hs:Ji T st t (st.ev m) (st.ev k) (st.ev x) with
  |none=>rw [hs] at h;cases h
  |some s=>rw [hs] at h;injection h with h;injection h with h1 h2;subst h2;exact nF hs
 ·rename_i t m k x _
  cases hs:Ji T st t (st.ev m) (st.ev k) (st.ev x) with
  |none=>rw [hs] at h;cases h
  |some s=>rw [hs] at h;injection h with h;injection h with h1 h2;subst h2;exact nF hs
 ·split at h
  ·exact nD h
  ·cases h
 ·exact eh h
 ·split at h
  ·split at h
   ·exact vR h
   ·cases h
  ·cases h
 ·split at h
  ·exact LK h
  ·cases h
 ·split at h
  ·rename_i x t _ _
   cases hs:evalClear T st t (st.ev x) with
   |none=>rw [hs] at h;cases h
   |some s=>rw [hs] at h;injection h with h;injection h with h1 h2;subst h2;exact ET hs
  ·cases h
 ·split at h
  ·exact ES h
  ·split at h
   ·rename_i args _ _ _ _ _ _
    cases hs:Nq args.toList st with
    |none=>rw [hs] at h;cases h
    |some st1=>
     rw [hs] at h
     exact (Uk _ hs).trans (eh h)
   ·exact eh h
  ·exact eh h
 ·exact eh h
def Ku:List Oper->List Nat
 | []=> []
 |o::r=>(match o.dst with|some d=> [d]|none=> [])++Ku r
def writes:Code->List Nat
 | .region _ ops _=>Ku ops.toList
 | .seq a b=>writes a++writes b
 | .cond _ a b=>writes a++writes b
 | .block _ c=>writes c
 | .loop c=>writes c
 |_=> []
def Fl (P:Nat->Prop) (st st':St):Prop:= ∀(t:Nat) (fr:Bool) (τ:Ty) (x:τ.den),P t->st.get t= .at (.data fr τ x)->st'.get t= .at (.data fr τ x)
theorem Fl.trans {P:Nat->Prop} {a b c:St} (h1:Fl P a b) (h2:Fl P b c):Fl P a c:= λt fr τ x hp h=>h2 t fr τ x hp (h1 t fr τ x hp h)
theorem Fl.mono {P Q:Nat->Prop} {a b:St} (h1:Fl P a b) (h: ∀t,Q t->P t):Fl Q a b:= λt fr τ x hp hx=>h1 t fr τ x (h t hp) hx
theorem Co.on {P:Nat->Prop} {a b:St} (h:Co a b):Fl P a b:= λt fr τ x _ hx=>h t fr τ x hx
theorem cH (st:St) (dst:Option Tmp) (v:AV):Fl (λt=>dst≠some t) st (st.put dst v):=by
 intro t fr τ x hp hx
 cases dst with
 |none=>exact hx
 |some d=>rw [bN st v (λh=>hp (by rw [h]))];exact hx
theorem bI {T:Tab} {Γ:Env} {ops:Array Oper} {st st':St} {o:Oper} (h:Eu T Γ ops st o=some st'):Fl (λt=>o.dst≠some t) st st':=by
 have key: ∀s,(evalOp T Γ st o).map (λr=>r.2.put o.dst r.1)=some s->Fl (λt=>o.dst≠some t) st s:=by
  intro s hs
  cases he:evalOp T Γ st o with
  |none=>rw [he] at hs;cases hs
  |some p=>rw [he] at hs;injection hs with hs;subst hs;exact (nc (v:=p.1) (st':=p.2) he).on.trans (cH _ _ _)
 unfold Eu at h
 split at h
 ·exact key _ h
 ·split at h
  ·split at h
   ·exact key _ h
   ·injection h with h;subst h;exact cH _ _ _
  ·injection h with h;subst h;exact cH _ _ _
  ·cases h
theorem kU {T:Tab} {Γ:Env} {ops:Array Oper} : ∀(l:List Oper) (st st':St),aO T Γ ops l st=some st'->Fl (λt=>t∉Ku l) st st'
 | [],st,st',h=>by injection h with h;subst h;exact Co.rfl'.on
 |o::r,st,st',h=>by
  simp only [aO] at h
  split at h
  ·rename_i s hs
   refine Fl.trans ((bI hs).mono λt ht=>?_) ((kU r _ _ h).mono λt ht=>?_)
   ·intro hd;apply ht;simp [Ku,hd]
   ·intro hd;apply ht;simp [Ku,hd]
  ·cases h
theorem Zq: ∀(l:List Oper) (o:Oper) (d:Nat),o∈l->o.dst=some d->d∈Ku l
 | [],_,_,h,_=>by cases h
 |p::r,o,d,h,hd=>by
  cases h with
  |head=>simp [Ku,hd]
  |tail _ h=>simp only [Ku,Ax];exact .inr (Zq r o d h hd)
theorem pk {ops:Array Oper} {i:Nat} {o:Oper} (h:ops[i]?=some o):o∈ops.toList:=by
 rw [Nk] at h
 obtain ⟨h1,h2⟩:=h
 rw [<-h2]
 simp
theorem Zm {T:Tab} {Γ:Env} {ops:Array Oper} : ∀(l:List Nat) (st st':St),Mz T Γ ops l st=some st'->Fl (λt=>t∉Ku ops.toList) st st'
 | [],st,st',h=>by injection h with h;subst h;exact Co.rfl'.on
 |i::r,st,st',h=>by
  simp only [Mz] at h
  split at h
  ·cases h
  ·rename_i o ho
   split at h
   ·rename_i s hs
    exact ((bI hs).mono λt ht hd=>ht (Zq _ _ _ (pk ho) hd)).trans (Zm r _ _ h)
   ·cases h
theorem Rv {T:Tab} {Γ:Env} {ops:Array Oper} : ∀(l:List Nat) (st st':St),Ge T Γ ops l st=some st'->Fl (λt=>t∉Ku ops.toList) st st'
 | [],st,st',h=>by injection h with h;subst h;exact Co.rfl'.on
 |i::r,st,st',h=>by
  simp only [Ge] at h
  split at h
  ·cases h
  ·rename_i o ho
   split at h
   ·exact ((cH _ _ _).mono λt ht hd=>ht (Zq _ _ _ (pk ho) hd)).trans (Rv r _ _ h)
   ·cases h
theorem Uj: ∀(l:List Nat) (st:St),Co st (bf l st)
 | [],_=>Co.rfl'
 |a::r,st=>(nE st a).trans (Uj r _)
theorem Wd (live:List Nat): ∀(i:Nat) (l:List AV) (t:Nat),i+t∈live->(Im live i l).getD t .undef=l.getD t .undef
 |_,[],_,_=>rfl
 |i,v::r,0,h=>by simp [Im];intro hn;exact absurd h hn
 |i,v::r,t+1,h=>by
  simp only [Im,Nr]
  exact Wd live (i+1) r t (by rw [show i+1+t=i+(t+1) by omega];exact h)
theorem zi (l k:Nat) (st:St):Co st (st.rename l k):=by
 unfold St.rename
 split
 ·split
  ·exact (Pp st (Vj l k) rfl λ_ _ _=>rfl).trans (Co.Zr rfl)
  ·exact Co.rfl'
 ·exact Co.rfl'
theorem ej: ∀(n t:Nat) (st:St),Co st (Mt n t st)
 |0,_,_=>Co.rfl'
 |n+1,t,st=>by
  simp only [Mt]
  refine Co.trans ?_ (ej n (t+1) _)
  split
  ·split
   ·split
    ·exact Co.rfl'
    ·exact zi _ _ _
   ·exact Co.rfl'
  ·exact Co.rfl'
theorem tM (t:Nat) (st:St):Co st (bY t st):=by
 unfold bY
 split
 ·rename_i l off len hg
  split
  ·split
   ·intro k fr τ x hk
    have Iv:k≠t:= λe=>by subst e;rw [hg] at hk;cases hk
    rw [bN _ _ Iv]
    exact Lj _ _ _ k fr τ x hk
   ·exact Co.rfl'
  ·exact Co.rfl'
 ·exact Co.rfl'
theorem ma (c:Nat) (st:St):Co st (Qd c st):=by
 unfold Qd
 split
 ·split
  ·split
   ·split
    ·split
     ·exact (Lj _ _ _).trans (Mr _ _ _)
     ·exact Co.rfl'
    ·exact Co.rfl'
   ·exact Co.rfl'
  ·exact Co.rfl'
 ·exact Co.rfl'
theorem cI (live:List Nat): ∀(n c:Nat) (st:St),Co st (Pu live n c st)
 |0,_,_=>Co.rfl'
 |n+1,c,st=>by
  simp only [Pu]
  refine Co.trans ?_ (cI live n (c+1) _)
  split
  ·exact ma _ _
  ·exact Co.rfl'
theorem gu (live:List Nat): ∀(n t:Nat) (st:St),Co st (Pc live n t st)
 |0,_,st=>cI live 16 0 st
 |n+1,t,st=>by
  simp only [Pc]
  refine Co.trans ?_ (gu live n (t+1) _)
  split
  ·exact tM _ _
  ·exact Co.rfl'
theorem l7 (live:List Nat) (st:St):Fl (λt=>t∈live) st (st.clean live):=by
 intro t fr τ x hp hx
 unfold St.clean
 have key: ∀s:St,s.get t= .at (.data fr τ x)->(if live.contains cS then Mt s.tmps.length 0 s else s).get t= .at (.data fr τ x):=by
  intro s hs
  split
  ·exact ej _ _ s t fr τ x hs
  ·exact hs
 have ZL: ∀s:St,s.get t= .at (.data fr τ x)->(if live.any (λt=>Nat.ble Pf t) then s.Iw live else s).get t= .at (.data fr τ x):=by
  intro s hs
  split<;>exact hs
 have ZM: ∀s:St,s.get t= .at (.data fr τ x)->(if live.any (λt=>Nat.ble Si t&&Nat.blt t cS) then Pc live s.tmps.length 0 s else s).get t= .at (.data fr τ x):=by
  intro s hs
  split
  ·exact gu _ _ _ s t fr τ x hs
  ·exact hs
 refine ZL _ (key _ (ZM _ (Uj _ _ t fr τ x ?_)))
 simp only [St.get] at hx⊢
 rw [Wd live 0 st.tmps t (by simpa using hp)]
 exact hx
def bS (live:Nat->List Nat):Code->Nat->Bool
 | .seq a b,t=>bS live a t&&bS live b t
 | .cond _ a b,t=>bS live a t&&bS live b t
 | .block _ c,t=>bS live c t
 | .loop c,t=>(live (Ev c)).contains t&&bS live c t
 |_,_=>true
theorem oN {a b:Bool} (h:(a&&b)=true):a=true:=by cases a<;>simp_all
theorem lN {a b:Bool} (h:(a&&b)=true):b=true:=by cases a<;>simp_all
theorem oS {T:Tab} {Γ:Env} {ops:Array Oper} {draw:Bool} {st st':St} (h:Rw T Γ ops draw st=some st'):Fl (λt=>t∉writes (.region 0 ops draw)) st st':=by
 unfold Rw at h
 have go: ∀q,(match Ge T Γ ops (jR q Γ ops) st with
   |some s=>Mz T Γ ops (Jp q Γ ops) s
   |none=>none)=some st'->Fl (λt=>t∉writes (.region 0 ops draw)) st st':=by
  intro q h
  split at h
  ·rename_i s hs
   exact (Rv _ _ _ hs).trans (Zm _ _ _ h)
  ·cases h
 split at h
 ·split at h
  ·exact go false h
  ·split at h
   ·exact go true h
   ·cases h
 ·exact kU _ _ _ h
theorem sv {T:Tab} {Γ:Env} {ops:Array Oper} {draw:Bool} {K:St->Prop} (s0:St): ∀(f:Nat) (Ag:Array Bool) (st:St),Fl (λt=>t∉writes (.region 0 ops draw)) s0 st->anyS T Γ ops K f Ag st->anyS T Γ ops (λs=>K s/\Fl (λt=>t∉writes (.region 0 ops draw)) s0 s) f Ag st
 |0,_,_,hk,h=>⟨h.1,h.2,hk⟩
 |f+1,Ag,st,hk,h=>⟨h.1,λi hi=>by
  obtain ⟨o,st',h1,h2,h3⟩:=h.2 i hi
  have h4:Mz T Γ ops [i] st=some st':=by simp only [Mz,h1,h2]
  exact ⟨o,st',h1,h2,sv s0 f _ _ (hk.trans (Zm _ _ _ h4)) h3⟩⟩
theorem lO {T:Tab} {Γ:Env} {ops:Array Oper} {draw:Bool} {E:List Nat} {K:St->Prop} (s0:St): ∀(f:Nat) (Ag:Array Bool) (st:St),Fl (λt=>t∉writes (.region 0 ops draw)) s0 st->r8 T Γ ops E K f Ag st->r8 T Γ ops E (λs=>K s/\Fl (λt=>t∉writes (.region 0 ops draw)) s0 s) f Ag st
 |0,_,_,hk,h=>⟨h.1,h.2.1,h.2.2,hk⟩
 |f+1,Ag,st,hk,h=>⟨h.1,h.2.1,λi hi=>by
  obtain ⟨o,st',h1,h2,h3⟩:=h.2.2 i hi
  have h4:Mz T Γ ops [i] st=some st':=by simp only [Mz,h1,h2]
  exact ⟨o,st',h1,h2,lO s0 f _ _ (hk.trans (Zm _ _ _ h4)) h3⟩⟩
theorem iU {ops:Array Oper} {dead:List Nat} (hd:dead.all (Zg ops)=true) (st:St):Fl (λt=>t∉Ku ops.toList) st (st.Qq dead):=by
 intro t fr τ x ht hx
 unfold St.Qq
 refine Uj _ _ t fr τ x ?_
 show (Im _ 0 st.tmps).getD t .undef=_
 rw [Wd _ 0 st.tmps t ?_]
 ·exact hx
 ·refine Cg.2 ⟨Dn.2 ?_,?_⟩
  ·refine Bj λhn=>?_
   have:st.get t= .undef:=by
    unfold St.get
    rw [Ah,Dy (by omega)];rfl
   rw [hx] at this
   cases this
  ·cases hc:dead.contains (0+t) with
   |false=>rfl
   |true=>
    have hm:0+t∈dead:=by simpa using hc
    have h1:=Ba.1 hd _ hm
    obtain ⟨o,ho,h2⟩:=Ir.1 h1
    rw [Bo] at h2
    exact absurd (Zq _ o t ho (by simpa using h2)) ht
theorem kL.keeps {T:Tab} {Γ:Env} {ops:Array Oper} {draw:Bool} {st:St} {K:St->Prop} (h:kL T Γ ops draw st K):kL T Γ ops draw st (λs=>K s/\Fl (λt=>t∉writes (.region 0 ops draw)) st s):=by
 rcases h with ⟨st',h1,h2⟩|⟨h1,h2,ck,h3,h4|⟨E,st1,h4,h5,h6,h7⟩⟩
 ·exact .inl ⟨st',h1,h2,oS h1⟩
 ·exact .inr ⟨h1,h2,ck,h3, .inl (sv st _ _ _ (Rv _ _ _ h3) h4)⟩
 ·exact .inr ⟨h1,h2,ck,h3, .inr ⟨E,st1,h4,h5,h6,lO st _ _ _ ((Rv _ _ _ h3).trans (Rv _ _ _ h6)) h7⟩⟩
theorem yr.keeps {T:Tab} {Γ:Env} {ops:Array Oper} {draw:Bool} {st:St} {K:St->Prop} (h:yr T Γ ops draw st K):yr T Γ ops draw st (λs=>K s/\Fl (λt=>t∉writes (.region 0 ops draw)) st s):=by
 rcases h with h|⟨dead,hd,h⟩
 ·exact .inl h.keeps
 ·exact .inr ⟨dead,hd,h.keeps.mono λs hs=>⟨hs.1,hs.2.trans (iU hd s)⟩⟩
theorem kO (ops:Array Oper) {fr:Bool} {τ:Ty} {x:τ.den} : ∀(i:Nat) (l:List AV) (t:Nat),l.getD t .undef= .at (.data fr τ x)->(Ox ops i l).getD t .undef= .at (.data fr τ x)
 |_,[],_,h=>h
 |i,v::r,0,h=>by
  cases v with
  |Mw l=>cases h
  |_=>exact h
 |i,v::r,t+1,h=>by
  have h':=kO ops (i+1) r t h
  cases v<;>(simp only [Ox,Nr];exact h')
theorem l8 (ops:Array Oper) (st:St):Co st (st.mR ops):= λt _ _ _ hx=>kO ops 0 st.tmps t hx
theorem NH {T:Tab} {Γ:Env} {live:Nat->List Nat} {c:Code} {st:St} {Q:Lo->St->Prop} (h:Ol T Γ live c st Q): ∀(s0:St) (p:Nat->Prop),Fl p s0 st->(∀t,p t->t∉writes c/\bS live c t=true)->Ol T Γ live c st (λe s=>Q e s/\Fl p s0 s):=by
 induction h with
 |skip h=>exact λs0 p hk _=> .skip ⟨h,hk⟩
 |label h=>exact λs0 p hk _=> .label ⟨h,hk⟩
 |exit h=>exact λs0 p hk _=> .exit ⟨h,hk⟩
 |ret h=>exact λs0 p hk _=> .ret ⟨h,hk⟩
 |region h=>
  exact λs0 p hk hp=> .region (h.keeps.mono λs hs=>⟨hs.1,(hk.trans (l8 _ _).on).trans (hs.2.mono λt ht=>(hp t ht).1)⟩)
 |seq Q1 _ _ h3 SX EN=>
  exact λs0 p hk hp=> .seq _ (SX s0 p hk λt ht=>⟨λhm=>(hp t ht).1 (by simp [writes,hm]),oN (hp t ht).2⟩)
   (λs hs=>EN s hs.1 s0 p hs.2 λt ht=>⟨λhm=>(hp t ht).1 (by simp [writes,hm]),lN (hp t ht).2⟩) λe s he hs=>⟨h3 e s he hs.1,hs.2⟩
 |cond hc _ _ SX EN=>
  exact λs0 p hk hp=> .cond hc (λht=>SX ht s0 p hk λt h=>⟨λhm=>(hp t h).1 (by simp [writes,hm]),oN (hp t h).2⟩)
   fun ht=>EN ht s0 p hk λt h=>⟨λhm=>(hp t h).1 (by simp [writes,hm]),lN (hp t h).2⟩
 |block Q1 _ h2 ih=>
  exact λs0 p hk hp=> .block _ (ih s0 p hk λt ht=>⟨λhm=>(hp t ht).1 (by simpa [writes] using hm),by simpa [bS] using (hp t ht).2⟩) λe s hs=>by
   have h:=h2 e s hs.1
   cases e with
   |normal=>exact ⟨h,hs.2⟩
   |ret=>exact ⟨h,hs.2⟩
   |exit SW=>
    simp only [xm] at h⊢
    split at h
    ·rename_i hi;rw [Ac hi];exact ⟨h,hs.2⟩
    ·rename_i hi;rw [Ak hi];exact ⟨h,hs.2⟩
 |loop Q1 _ _ h3 SX EN=>
  intro s0 p hk hp
  refine .loop _ (SX s0 p (hk.trans ((l7 _ _).mono λt ht=>by simpa using oN (hp t ht).2)) λt ht=>⟨λhm=>(hp t ht).1 (by simpa [writes] using hm),lN (hp t ht).2⟩)
   (λs hs=>EN s hs.1 s0 p hs.2 hp) λe s he hs=>⟨h3 e s he hs.1,hs.2⟩
end Go.Proofs.Ytkkdpknjohcekaa
