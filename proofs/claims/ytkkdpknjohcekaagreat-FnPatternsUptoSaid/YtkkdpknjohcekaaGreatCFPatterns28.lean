/-
  Part 29 of the proof that the statement FnPatterns holds.
-/
import Derived.Test.YtkkdpknjohcekaaGreatCFPatterns27
namespace Go.Proofs.YtkkdpknjohcekaaGreat
open Go.RowKit
def Cn (st st':St):Prop:= ∀(t:Nat) (fr:Bool) (τ:Ty) (x:τ.den),st.get t= .at (.data fr τ x)->st'.get t= .at (.data fr τ x)
theorem Cn.rfl' {st:St} :Cn st st:= λ_ _ _ _ h=>h
theorem Cn.trans {a b c:St} (h1:Cn a b) (h2:Cn b c):Cn a c:= λt fr τ x h=>h2 t fr τ x (h1 t fr τ x h)
theorem Cn.Zo {a b:St} (h:b.tmps=a.tmps):Cn a b:= λt fr τ x hx=>by
 simp only [St.get] at hx⊢
 rw [h]
 exact hx
theorem bO (st:St) {t d:Nat} (v:AV) (h:t≠d):(st.put (some d) v).get t=st.get t:=by
 simp only [St.put,St.get]
 rw [Qu]
 rw [Ak (by rintro ⟨rfl,_⟩;exact h rfl)]
theorem Pj (st:St) (f:AC->AC) (hu:f .undef= .undef) (hd: ∀fr (τ:Ty) (x:τ.den),f (.data fr τ x)= .data fr τ x):Cn st (st.Lb f):=by
 intro t fr τ x h
 simp only [St.Lb,St.get]
 rw [Vg f hu,show st.tmps.getD t .undef=_ from h]
 simp only [AV.map,hd]
theorem nG (st:St) (l:Nat):Cn st (st.forget l):=
 (Pj st (Cq l) rfl λ_ _ _=>rfl).trans (Cn.Zo rfl)
theorem aT (st:St) (l:Nat) (fr:Bool) (e:Ty) (xs:List e.den):Cn st (st.freeze l fr e xs):=
 (Pj st (Cz l fr e xs) rfl λ_ _ _=>rfl).trans (Cn.Zo rfl)
theorem gE (st:St) (l:Nat) (v:Ty) (m:ByteArray->Option v.den):Cn st (st.Jb l v m):=
 (Pj st (Hl l v m) rfl λ_ _ _=>rfl).trans (Cn.Zo rfl)
theorem Lj (st:St) (l:Nat) (b:OB):Cn st (st.new l b):=(nG st l).trans (Cn.Zo rfl)
theorem Mq (st:St) (l:Nat) (b:OB):Cn st (st.Ke l b):=Cn.Zo rfl
theorem eB (b:OB) (key l i:Nat) (st:St):Cn st (Uy b key l i st):=by
 unfold Uy
 split
 ·split
  ·dsimp only
   split
   ·exact (Lj _ _ _).trans (Mq _ _ _)
   ·exact Lj _ _ _
  ·exact Cn.rfl'
 ·exact Cn.rfl'
theorem l8 (T:Tab) (l:Nat) (t:TypeId) (τ:Ty): ∀(n i:Nat) (st:St),Cn st (fK T l t τ n i st)
 |0,_,_=>Cn.rfl'
 |n+1,i,st=>by
  simp only [fK]
  refine Cn.trans ?_ (l8 T l t τ n (i+1) _)
  split
  ·exact eB _ _ _ _ _
  ·exact Cn.rfl'
theorem iY (T:Tab) (l off:Nat) (t:TypeId) (τ:Ty): ∀(n i:Nat) (st:St),Cn st (eG T l off t τ n i st)
 |0,_,_=>Cn.rfl'
 |n+1,i,st=>by
  simp only [eG]
  refine Cn.trans ?_ (iY T l off t τ n (i+1) _)
  split
  ·exact eB _ _ _ _ _
  ·exact Cn.rfl'
theorem Rb: ∀(n:Nat) (st:St) (cs iH:List AC) (st':St),Hw n st cs=some (iH,st')->Cn st st'
 |0,st,cs,iH,st',h=>by
  simp only [Hw] at h
  split at h
  ·injection h with h;injection h with h1 h2;subst h2;exact Cn.rfl'
  ·cases h
 |n+1,st,cs,iH,st',h=>by
  simp only [Hw] at h
  split at h
  ·injection h with h;injection h with h1 h2;subst h2;exact Cn.rfl'
  ·split at h
   ·exact (aT _ _ _ _ _).trans (Rb n _ _ _ _ h)
   ·exact (aT _ _ _ _ _).trans (Rb n _ _ _ _ h)
   ·cases h
  ·split at h
   ·exact (gE _ _ _ _).trans (Rb n _ _ _ _ h)
   ·cases h
  ·cases h
theorem Sm {st st':St} {v v':AV} (h:settle st v=some (v',st')):Cn st st':=by
 unfold settle at h
 split at h
 ·split at h
  ·injection h with h;injection h with h1 h2;subst h2;exact aT _ _ _ _ _
  ·injection h with h;injection h with h1 h2;subst h2;exact aT _ _ _ _ _
  ·cases h
 ·split at h
  ·injection h with h;injection h with h1 h2;subst h2;exact gE _ _ _ _
  ·cases h
 ·split at h
  ·injection h with h;injection h with h1 h2;subst h2;exact Cn.rfl'
  ·cases h
 ·rename_i cs
  cases hs:Hw cs.length st cs with
  |none=>rw [hs] at h;cases h
  |some p=>rw [hs] at h;injection h with h;injection h with h1 h2;subst h2;exact Rb _ _ _ _ _ hs
 ·injection h with h;injection h with h1 h2;subst h2;exact Cn.rfl'
 ·cases h
theorem zG {st st':St} {l:Nat} {t:TypeId} {cs:List AC} {v:AV} (h:tV st l t cs=some (v,st')):Cn st st':=by
 unfold tV at h
 split at h
 ·cases h
 ·injection h with h;injection h with h1 h2;subst h2;exact Lj _ _ _
theorem qt {T:Tab} {st st':St} {l:Nat} {t:TypeId} {τ:Ty} {cs:List AC} {v:AV} (h:mkVar T st l t τ cs=some (v,st')):Cn st st':=by
 unfold mkVar at h
 split at h
 ·cases h
 dsimp only at h
 split at h
 ·injection h with h;injection h with h1 h2;subst h2;exact (Lj _ _ _).trans (l8 _ _ _ _ _ _ _)
 ·cases h
theorem GB {T:Tab} {st st':St} {t:TypeId} {p v:AV} (h:Vf T st t p v=some st'):Cn st st':=by
 unfold Vf at h
 split at h
 ·split at h
  ·split at h
   ·injection h with h
    split at h
    ·subst h;exact (Mq _ _ _).trans (iY _ _ _ _ _ _ _ _)
    ·subst h;exact Mq _ _ _
   ·cases h
  ·cases h
 ·split at h
  ·rename_i hs
   split at h
   ·split at h
    ·split at h
     ·injection h with h;subst h;exact (Sm hs).trans (Mq _ _ _)
     ·cases h
    ·cases h
   ·cases h
  ·cases h
 ·cases h
theorem tE (st:St) (l j m:Nat) (e:Ty) (te:TypeId) (rows:List (List e.den)) (xs:List e.den) (kp:Option (Nat×Nat)):Cn st (Tv st l j m e te rows xs kp):=
 ((Pj st (Cs [m] [l]) (by simp [Cs,AC.refs]) λfr τ x=>by simp [Cs,AC.refs]).trans (Cn.Zo rfl)).trans (Mq (st.cI [m] [l]) _ _)
theorem tF (st:St) (l i m:Nat) (e:Ty) (te tid:TypeId) (rows:List (List e.den)) (kp:Option (Nat×Nat)):Cn st (Qd st l i m e te tid rows kp):=
 (Mq st l _).trans (Lj _ m _)
theorem zI {T:Tab} {st st':St} {t:TypeId} {p v:AV} (h:Pq T st t p v=some st'):Cn st st':=by
 unfold Pq at h
 split at h
 rotate_left
 ·exact GB h
 unfold bL at h
 split at h
 ·split at h
  ·rename_i hs
   split at h
   ·split at h
    ·injection h with h;subst h;exact (Sm hs).trans (Mq _ _ _)
    ·cases h
   ·cases h
  ·cases h
 ·split at h
  ·split at h
   ·split at h
    ·injection h with h;subst h
     exact tE _ _ _ _ _ _ _ _ _
    ·cases h
   ·cases h
  ·cases h
 ·cases h
theorem fv {T:Tab} {st st':St} {d:Nat} {t:TypeId} {x y:Operand} {v:AV} (h:Ny T st d t x y=some (v,st')):Cn st st':=by
 unfold Ny at h
 split at h
 ·cases h
 ·split at h
  ·rename_i hs
   split at h
   ·cases h
   ·split at h
    ·split at h
     ·injection h with h;injection h with h1 h2;subst h2;exact ((Sm hs).trans (Lj _ _ _)).trans (Lj _ _ _)
     ·cases h
    ·split at h
     ·split at h
      ·split at h
       ·injection h with h;injection h with h1 h2;subst h2;exact (Sm hs).trans (Lj _ _ _)
       ·cases h
      ·cases h
     ·cases h
    ·cases h
  ·cases h
theorem w8 {T:Tab} {st st':St} {d:Nat} {t:TypeId} {x y:Operand} {v:AV} (h:Rq T st d t x y=some (v,st')):Cn st st':=by
 unfold Rq at h
 split at h
 ·rename_i tx
  split at h
  ·rename_i l i c hg
   split at h
   ·split at h
    ·rename_i e te rows kp tid hl ht hc
     refine Cn.trans (b:=(Qd st l i d e te tid rows kp).put (some tx) (.at (.own d 0 (rows.getD i []).length))) ?_ (fv h)
     intro t' fr τ z hz
     by_cases e':t'=tx
     ·subst e';rw [hg] at hz;cases hz
     ·rw [bO _ _ e'];exact tF st l i d e te tid rows kp t' fr τ z hz
    ·cases h
   ·cases h
  ·exact fv h
 ·exact fv h
theorem MM {T:Tab} {st st':St} {d:Nat} {t:TypeId} {l c v:AV} (h:bJ T st d t l c=some (v,st')):Cn st st':=by
 unfold bJ at h
 split at h
 ·split at h
  ·split at h
   ·injection h with h;injection h with h1 h2;subst h2;exact Lj _ _ _
   ·cases h
  ·cases h
 ·cases h
theorem qv (e:Ty): ∀(l:List (Nat×Operand)) (i:Nat) (st st':St) (fr tr:Bool) (ys:List e.den),Lk e i l st=some (fr,tr,ys,st')->Cn st st'
 | [],_,_,_,_,_,_,h=>by
  simp only [Lk] at h
  injection h with h;injection h with h1 h2;injection h2 with h2 h3;injection h3 with h3 h4;subst h4;exact Cn.rfl'
 |(j,x)::r,i,st,st',fr,tr,ys,h=>by
  simp only [Lk] at h
  split at h
  ·split at h
   ·rename_i hs
    split at h
    ·split at h
     ·rename_i hp
      injection h with h;injection h with h1 h2;injection h2 with h2 h3;injection h3 with h3 h4;subst h4
      exact (Sm hs).trans (qv e r _ _ _ _ _ _ hp)
     ·cases h
    ·cases h
   ·cases h
  ·cases h
theorem pa {T:Tab} {st st':St} {d:Nat} {t:TypeId} {n:Nat} {parts:Array (Nat×Operand)} {v:AV} (h:Mo T st d t n parts=some (v,st')):Cn st st':=by
 unfold Mo at h
 split at h
 ·cases h
 ·split at h
  ·cases h
  ·split at h
   ·split at h
    ·rename_i hp
     injection h with h;injection h with h1 h2;subst h2;exact (qv _ _ _ _ _ _ _ _ hp).trans (Lj _ _ _)
    ·cases h
   ·cases h
theorem wa {T:Tab} {st st':St} {d:Nat} {t:TypeId} {v:AV} (h:Ve T st d t=some (v,st')):Cn st st':=by
 unfold Ve at h
 split at h
 ·split at h
  ·injection h with h;injection h with h1 h2;subst h2;exact Lj _ _ _
  ·cases h
 ·cases h
theorem nH {T:Tab} {st st':St} {t:TypeId} {m k x:AV} (h:Ji T st t m k x=some st'):Cn st st':=by
 unfold Ji at h
 split at h
 ·split at h
  ·split at h
   ·injection h with h;subst h;exact Mq _ _ _
   ·cases h
  ·cases h
 ·cases h
theorem ML {T:Tab} {st st':St} {t t':TypeId} {x y v:AV} (h:iK T st t t' x y=some (v,st')):Cn st st':=by
 unfold iK at h
 split at h
 ·split at h
  ·split at h
   ·split at h
    ·injection h with h;injection h with h1 h2;subst h2;exact Mq _ _ _
    ·cases h
   ·cases h
  ·cases h
 ·cases h
theorem FZ {T:Tab} {st st':St} {t:TypeId} {x:AV} (h:evalClear T st t x=some st'):Cn st st':=by
 unfold evalClear at h
 split at h
 ·split at h
  ·split at h
   ·split at h
    ·injection h with h;subst h;exact Mq _ _ _
    ·cases h
   ·cases h
  ·cases h
 ·cases h
theorem yi {st st':St} {c:CK} {ys:c.den} {a:AC} (h:cy st c ys a=some st'):st'.tmps=st.tmps:=by
 unfold cy at h
 repeat' split at h
 all_goals first|(cases h;done)|(simp only [Aa] at h;subst h;rfl)|skip
theorem VW {st st':St} {e:Ty} {ys:List e.den} {a:AC} (h:OD st e ys a=some st'):st'.tmps=st.tmps:=by
 unfold OD at h
 repeat' split at h
 all_goals first|(cases h;done)|(simp only [Aa] at h;subst h;rfl)|skip
theorem Uz: ∀(cs:List (Bool×CK)) (o:IOs.den cs) (as:List AC) (st st':St),Ij cs o as st=some st'->st'.tmps=st.tmps
 | [],_,_,st,st',h=>by simp only [Ij,Aa] at h;subst h;rfl
 |(true, .Fz _)::r,o,[],st,st',h=>by simp [Ij] at h
 |(true, .row _ _)::r,o,[],st,st',h=>by simp [Ij] at h
 |(true, .Hz _ _)::r,o,[],st,st',h=>by simp [Ij] at h
 |(true, .part _ _)::r,o,[],st,st',h=>by simp [Ij] at h
 |(true, .Bl _ _ _)::r,o,[],st,st',h=>by simp [Ij] at h
 |(true, .Bl _ _ _)::r,o,a::as,st,st',h=>Uz r o as st st' (by simpa only [Ij] using h)
 |(false,_)::r,o,[],st,st',h=>by simp [Ij] at h
 |(true, .Fz _)::r,o,a::as,st,st',h=>Uz r o as st st' (by simpa only [Ij] using h)
 |(false,_)::r,o,a::as,st,st',h=>Uz r o as st st' (by simpa only [Ij] using h)
 |(true, .row _ _)::r,o,a::as,st,st',h=>by
  simp only [Ij] at h
  split at h
  ·rename_i hc;exact (Uz r o.2 as _ st' h).trans (yi hc)
  ·cases h
 |(true, .part _ _)::r,o,a::as,st,st',h=>by
  simp only [Ij] at h
  split at h
  ·rename_i hc;exact (Uz r o.2 as _ st' h).trans (VW hc)
  ·cases h
 |(true, .Hz _ _)::r,o,a::as,st,st',h=>by
  simp only [Ij] at h
  split at h
  ·rename_i hc;exact (Uz r o.2 as _ st' h).trans (yi hc)
  ·cases h
theorem zF (cp st:St) (ls:List Nat) (n:Nat) (hl:cp.tmps.length=st.tmps.length) (h:Cn cp st):Cn cp (m8 cp st ls n):=by
 unfold m8
 split
 ·exact h
 ·intro t fr τ x hx
  show (Lw _ cp.tmps st.tmps).getD t .undef=_
  rcases fY ls cp.tmps st.tmps t hl with ⟨k,i,c,h1,_⟩|h1
  ·rw [show cp.tmps.getD t .undef=_ from hx] at h1;cases h1
  ·rw [h1];exact h t fr τ x hx
theorem FY {st st':St} {d:Option Nat} {s:MSpec} {args:List AV} {v:AV} (h:Yc st d s args=some (v,st')):Cn st st':=by
 unfold Yc at h
 split at h
 ·cases h
 split at h
 ·cases h
 split at h
 ·cases h
 split at h
 ·split at h
  ·cases h
  split at h
  ·cases h
  rename_i st1 hp
  split at h
  ·cases h
  split at h
  ·simp only [Aa,Ae] at h
   obtain ⟨_,rfl⟩:=h
   have cw:=Uz _ _ _ _ _ hp
   refine zF _ _ _ _ ?_ ?_
   ·simp only [lK,pF]
    rw [<-cw]
    simp only [St.cI,St.Lb,Ch]
   ·refine Cn.trans (Cn.Zo cw) ?_
    refine Cn.trans (Pj st1 (Cs _ _) (by simp [Cs,AC.refs]) λfr τ x=>by simp [Cs,AC.refs]) (Cn.Zo pF)
  ·cases h
 ·cases h
theorem dv (st:St) (k m:Nat) (b:OB):Cn st (Qz st k m b):=
 (Pj st (Cs [m,k] []) (by simp [Cs,AC.refs]) λfr τ x=>by simp [Cs,AC.refs]).trans (Cn.Zo rfl)
theorem GA {T:Tab} {st st':St} {d:Nat} {t:TypeId} {l c v:AV} (h:Ye T st d t l c=some (v,st')):Cn st st':=by
 unfold Ye at h
 split at h
 ·exact MM h
 ·split at h
  ·split at h
   ·injection h with h;injection h with h1 h2;subst h2;exact dv _ _ _ _
   ·cases h
  ·cases h
theorem nF {T:Tab} {st st':St} {d:Nat} {t:TypeId} {n:Nat} {parts:Array (Nat×Operand)} {v:AV} (h:Jh T st d t n parts=some (v,st')):Cn st st':=by
 unfold Jh at h
 split at h
 ·exact pa h
 ·repeat' split at h
  all_goals first|(cases h;done)|(injection h with h;injection h with h1 h2;subst h2;exact dv _ _ _ _)
theorem w9 {T:Tab} {st st':St} {d:Nat} {t:TypeId} {x y:Operand} {v:AV} (h:Rr T st d t x y=some (v,st')):Cn st st':=by
 unfold Rr at h
 split at h
 ·exact w8 h
 ·repeat' split at h
  all_goals first|(cases h;done)|(injection h with h;injection h with h1 h2;subst h2;exact dv _ _ _ _)
theorem eA {st st':St} {v:AV} {o:Option AV} (h:o.map (λv=>(v,st))=some (v,st')):Cn st st':=by
 cases o with
 |none=>cases h
 |some u=>injection h with h;injection h with h1 h2;subst h2;exact Cn.rfl'
theorem Uk: ∀(l:List Operand) {st st1:St},Nl l st=some st1->Cn st st1
 | [],st,st1,h=>by
  simp only [Nl,Aa] at h
  subst h
  exact Cn.rfl'
 |x::r,st,st1,h=>by
  simp only [Nl] at h
  cases hs:settle st (st.ev x) with
  |none=>rw [hs] at h;cases h
  |some p=>
   rw [hs] at h
   exact (Sm (v':=p.1) (st':=p.2) hs).trans (Uk r h)
theorem wb {T:Tab} {st:St} (p x:Operand):Cn st (Ok T st p x):=by
 unfold Ok
 split
 ·split
  ·split
   ·rename_i hs;exact Uk _ hs
   ·exact Cn.rfl'
  ·exact Cn.rfl'
 ·exact Cn.rfl'
theorem ng {T:Tab} {Γ:Env} {st st':St} {o:Oper} {v:AV} (h:evalOp T Γ st o=some (v,st')):Cn st st':=by
 unfold evalOp at h
 split at h
 ·split at h
  ·split at h
   ·injection h with h;injection h with h1 h2;subst h2;exact Lj _ _ _
   ·cases h
  ·injection h with h;injection h with h1 h2;subst h2;exact Cn.rfl'
 ·split at h
  ·split at h
   ·exact zG h
   ·exact qt h
  ·cases h
 ·split at h
  ·split at h
   ·split at h
    ·split at h
     ·obtain ⟨p,_,hp⟩:=Option.map_eq_some_iff.1 h
      cases hp
      exact Cn.rfl'
     ·cases h
    ·exact qt h
   ·cases h
  ·cases h
 ·rename_i t p x _
  cases hs:Pq T (Ok T st p x) t ((Ok T st p x).ev p) ((Ok T st p x).ev x) with
  |none=>rw [hs] at h;cases h
  |some s=>rw [hs] at h;injection h with h;injection h with h1 h2;subst h2;exact (wb p x).trans (zI hs)
 ·split at h
  ·exact GA h
  ·cases h
 ·split at h
  ·exact wa h
  ·cases h
 ·rename_i t m k x _
  cases hs:Ji T st t (st.ev m) (st.ev k) (st.ev x) with
  |none=>rw [hs] at h;cases h
  |some s=>rw [hs] at h;injection h with h;injection h with h1 h2;subst h2;exact nH hs
 ·rename_i t m k x _
  cases hs:Ji T st t (st.ev m) (st.ev k) (st.ev x) with
  |none=>rw [hs] at h;cases h
  |some s=>rw [hs] at h;injection h with h;injection h with h1 h2;subst h2;exact nH hs
 ·split at h
  ·exact nF h
  ·cases h
 ·exact eA h
 ·split at h
  ·split at h
   ·exact w9 h
   ·cases h
  ·cases h
 ·split at h
  ·exact ML h
  ·cases h
 ·split at h
  ·rename_i x t _ _
   cases hs:evalClear T st t (st.ev x) with
   |none=>rw [hs] at h;cases h
   |some s=>rw [hs] at h;injection h with h;injection h with h1 h2;subst h2;exact FZ hs
  ·cases h
 ·split at h
  ·exact FY h
  ·split at h
   ·rename_i args _ _ _ _ _ _
    cases hs:Nl args.toList st with
    |none=>rw [hs] at h;cases h
    |some st1=>
     rw [hs] at h
     exact (Uk _ hs).trans (eA h)
   ·exact eA h
  ·exact eA h
 ·exact eA h
def Ks:List Oper->List Nat
 | []=> []
 |o::r=>(match o.dst with|some d=> [d]|none=> [])++Ks r
def writes:Code->List Nat
 | .region _ ops _=>Ks ops.toList
 | .seq a b=>writes a++writes b
 | .cond _ a b=>writes a++writes b
 | .block _ c=>writes c
 | .loop c=>writes c
 |_=> []
def Fw (P:Nat->Prop) (st st':St):Prop:= ∀(t:Nat) (fr:Bool) (τ:Ty) (x:τ.den),P t->st.get t= .at (.data fr τ x)->st'.get t= .at (.data fr τ x)
theorem Fw.trans {P:Nat->Prop} {a b c:St} (h1:Fw P a b) (h2:Fw P b c):Fw P a c:= λt fr τ x hp h=>h2 t fr τ x hp (h1 t fr τ x hp h)
theorem Fw.mono {P Q:Nat->Prop} {a b:St} (h1:Fw P a b) (h: ∀t,Q t->P t):Fw Q a b:= λt fr τ x hp hx=>h1 t fr τ x (h t hp) hx
theorem Cn.on {P:Nat->Prop} {a b:St} (h:Cn a b):Fw P a b:= λt fr τ x _ hx=>h t fr τ x hx
theorem cM (st:St) (dst:Option Tmp) (v:AV):Fw (λt=>dst≠some t) st (st.put dst v):=by
 intro t fr τ x hp hx
 cases dst with
 |none=>exact hx
 |some d=>rw [bO st v (λh=>hp (by rw [h]))];exact hx
theorem bK {T:Tab} {Γ:Env} {ops:Array Oper} {st st':St} {o:Oper} (h:Fc T Γ ops st o=some st'):Fw (λt=>o.dst≠some t) st st':=by
 have key: ∀s,(evalOp T Γ st o).map (λr=>r.2.put o.dst r.1)=some s->Fw (λt=>o.dst≠some t) st s:=by
  intro s hs
  cases he:evalOp T Γ st o with
  |none=>rw [he] at hs;cases hs
  |some p=>rw [he] at hs;injection hs with hs;subst hs;exact (ng (v:=p.1) (st':=p.2) he).on.trans (cM _ _ _)
 unfold Fc at h
 split at h
 ·exact key _ h
 ·split at h
  ·split at h
   ·exact key _ h
   ·injection h with h;subst h;exact cM _ _ _
  ·injection h with h;subst h;exact cM _ _ _
  ·cases h
theorem kS {T:Tab} {Γ:Env} {ops:Array Oper} : ∀(l:List Oper) (st st':St),aO T Γ ops l st=some st'->Fw (λt=>t∉Ks l) st st'
 | [],st,st',h=>by injection h with h;subst h;exact Cn.rfl'.on
 |o::r,st,st',h=>by
  simp only [aO] at h
  split at h
  ·rename_i s hs
   refine Fw.trans ((bK hs).mono λt ht=>?_) ((kS r _ _ h).mono λt ht=>?_)
   ·intro hd;apply ht;simp [Ks,hd]
   ·intro hd;apply ht;simp [Ks,hd]
  ·cases h
theorem Zn: ∀(l:List Oper) (o:Oper) (d:Nat),o∈l->o.dst=some d->d∈Ks l
 | [],_,_,h,_=>by cases h
 |p::r,o,d,h,hd=>by
  cases h with
  |head=>simp [Ks,hd]
  |tail _ h=>simp only [Ks,Az];exact .inr (Zn r o d h hd)
theorem po {ops:Array Oper} {i:Nat} {o:Oper} (h:ops[i]?=some o):o∈ops.toList:=by
 rw [Nc] at h
 obtain ⟨h1,h2⟩:=h
 rw [<-h2]
 simp
theorem Zi {T:Tab} {Γ:Env} {ops:Array Oper} : ∀(l:List Nat) (st st':St),Mx T Γ ops l st=some st'->Fw (λt=>t∉Ks ops.toList) st st'
 | [],st,st',h=>by injection h with h;subst h;exact Cn.rfl'.on
 |i::r,st,st',h=>by
  simp only [Mx] at h
  split at h
  ·cases h
  ·rename_i o ho
   split at h
   ·rename_i s hs
    exact ((bK hs).mono λt ht hd=>ht (Zn _ _ _ (po ho) hd)).trans (Zi r _ _ h)
   ·cases h
theorem Rt {T:Tab} {Γ:Env} {ops:Array Oper} : ∀(l:List Nat) (st st':St),Gj T Γ ops l st=some st'->Fw (λt=>t∉Ks ops.toList) st st'
 | [],st,st',h=>by injection h with h;subst h;exact Cn.rfl'.on
 |i::r,st,st',h=>by
  simp only [Gj] at h
  split at h
  ·cases h
  ·rename_i o ho
   split at h
   ·exact ((cM _ _ _).mono λt ht hd=>ht (Zn _ _ _ (po ho) hd)).trans (Rt r _ _ h)
   ·cases h
theorem Uj: ∀(l:List Nat) (st:St),Cn st (bf l st)
 | [],_=>Cn.rfl'
 |a::r,st=>(nG st a).trans (Uj r _)
theorem Wc (live:List Nat): ∀(i:Nat) (l:List AV) (t:Nat),i+t∈live->(Iq live i l).getD t .undef=l.getD t .undef
 |_,[],_,_=>rfl
 |i,v::r,0,h=>by simp [Iq];intro hn;exact absurd h hn
 |i,v::r,t+1,h=>by
  simp only [Iq,Nm]
  exact Wc live (i+1) r t (by rw [show i+1+t=i+(t+1) by omega];exact h)
theorem zH (l k:Nat) (st:St):Cn st (st.rename l k):=by
 unfold St.rename
 split
 ·split
  ·exact (Pj st (Vn l k) rfl λ_ _ _=>rfl).trans (Cn.Zo rfl)
  ·exact Cn.rfl'
 ·exact Cn.rfl'
theorem eC: ∀(n t:Nat) (st:St),Cn st (Mr n t st)
 |0,_,_=>Cn.rfl'
 |n+1,t,st=>by
  simp only [Mr]
  refine Cn.trans ?_ (eC n (t+1) _)
  split
  ·split
   ·split
    ·exact Cn.rfl'
    ·exact zH _ _ _
   ·exact Cn.rfl'
  ·exact Cn.rfl'
theorem tG (t:Nat) (st:St):Cn st (c5 t st):=by
 unfold c5
 split
 ·rename_i l off len hg
  split
  ·split
   ·intro k fr τ x hk
    have Iz:k≠t:= λe=>by subst e;rw [hg] at hk;cases hk
    rw [bO _ _ Iz]
    exact Lj _ _ _ k fr τ x hk
   ·exact Cn.rfl'
  ·exact Cn.rfl'
 ·exact Cn.rfl'
theorem m9 (c:Nat) (st:St):Cn st (Pz c st):=by
 unfold Pz
 split
 ·split
  ·split
   ·split
    ·split
     ·exact (Lj _ _ _).trans (Mq _ _ _)
     ·exact Cn.rfl'
    ·exact Cn.rfl'
   ·exact Cn.rfl'
  ·exact Cn.rfl'
 ·exact Cn.rfl'
theorem cN (live:List Nat): ∀(n c:Nat) (st:St),Cn st (Pn live n c st)
 |0,_,_=>Cn.rfl'
 |n+1,c,st=>by
  simp only [Pn]
  refine Cn.trans ?_ (cN live n (c+1) _)
  split
  ·exact m9 _ _
  ·exact Cn.rfl'
theorem gF (live:List Nat): ∀(n t:Nat) (st:St),Cn st (Ov live n t st)
 |0,_,st=>cN live 16 0 st
 |n+1,t,st=>by
  simp only [Ov]
  refine Cn.trans ?_ (gF live n (t+1) _)
  split
  ·exact tG _ _
  ·exact Cn.rfl'
theorem l6 (live:List Nat) (st:St):Fw (λt=>t∈live) st (st.clean live):=by
 intro t fr τ x hp hx
 unfold St.clean
 have key: ∀s:St,s.get t= .at (.data fr τ x)->(if live.contains cY then Mr s.tmps.length 0 s else s).get t= .at (.data fr τ x):=by
  intro s hs
  split
  ·exact eC _ _ s t fr τ x hs
  ·exact hs
 have Aam: ∀s:St,s.get t= .at (.data fr τ x)->(if live.any (λt=>Nat.ble Ue t) then s.It live else s).get t= .at (.data fr τ x):=by
  intro s hs
  split<;>exact hs
 have Aan: ∀s:St,s.get t= .at (.data fr τ x)->(if live.any (λt=>Nat.ble Sa t&&Nat.blt t cY) then Ov live s.tmps.length 0 s else s).get t= .at (.data fr τ x):=by
  intro s hs
  split
  ·exact gF _ _ _ s t fr τ x hs
  ·exact hs
 refine Aam _ (key _ (Aan _ (Uj _ _ t fr τ x ?_)))
 simp only [St.get] at hx⊢
 rw [Wc live 0 st.tmps t (by simpa using hp)]
 exact hx
def bT (live:Nat->List Nat):Code->Nat->Bool
 | .seq a b,t=>bT live a t&&bT live b t
 | .cond _ a b,t=>bT live a t&&bT live b t
 | .block _ c,t=>bT live c t
 | .loop c,t=>(live (Fe c)).contains t&&bT live c t
 |_,_=>true
theorem oM {a b:Bool} (h:(a&&b)=true):a=true:=by cases a<;>simp_all
theorem lL {a b:Bool} (h:(a&&b)=true):b=true:=by cases a<;>simp_all
theorem oS {T:Tab} {Γ:Env} {ops:Array Oper} {draw:Bool} {st st':St} (h:Ru T Γ ops draw st=some st'):Fw (λt=>t∉writes (.region 0 ops draw)) st st':=by
 unfold Ru at h
 have go: ∀q,(match Gj T Γ ops (jV q Γ ops) st with
   |some s=>Mx T Γ ops (Jq q Γ ops) s
   |none=>none)=some st'->Fw (λt=>t∉writes (.region 0 ops draw)) st st':=by
  intro q h
  split at h
  ·rename_i s hs
   exact (Rt _ _ _ hs).trans (Zi _ _ _ h)
  ·cases h
 split at h
 ·split at h
  ·exact go false h
  ·split at h
   ·exact go true h
   ·cases h
 ·exact kS _ _ _ h
theorem sm {T:Tab} {Γ:Env} {ops:Array Oper} {draw:Bool} {K:St->Prop} (s0:St): ∀(f:Nat) (Ah:Array Bool) (st:St),Fw (λt=>t∉writes (.region 0 ops draw)) s0 st->anyS T Γ ops K f Ah st->anyS T Γ ops (λs=>K s/\Fw (λt=>t∉writes (.region 0 ops draw)) s0 s) f Ah st
 |0,_,_,hk,h=>⟨h.1,h.2,hk⟩
 |f+1,Ah,st,hk,h=>⟨h.1,λi hi=>by
  obtain ⟨o,st',h1,h2,h3⟩:=h.2 i hi
  have h4:Mx T Γ ops [i] st=some st':=by simp only [Mx,h1,h2]
  exact ⟨o,st',h1,h2,sm s0 f _ _ (hk.trans (Zi _ _ _ h4)) h3⟩⟩
theorem lM {T:Tab} {Γ:Env} {ops:Array Oper} {draw:Bool} {E:List Nat} {K:St->Prop} (s0:St): ∀(f:Nat) (Ah:Array Bool) (st:St),Fw (λt=>t∉writes (.region 0 ops draw)) s0 st->r7 T Γ ops E K f Ah st->r7 T Γ ops E (λs=>K s/\Fw (λt=>t∉writes (.region 0 ops draw)) s0 s) f Ah st
 |0,_,_,hk,h=>⟨h.1,h.2.1,h.2.2,hk⟩
 |f+1,Ah,st,hk,h=>⟨h.1,h.2.1,λi hi=>by
  obtain ⟨o,st',h1,h2,h3⟩:=h.2.2 i hi
  have h4:Mx T Γ ops [i] st=some st':=by simp only [Mx,h1,h2]
  exact ⟨o,st',h1,h2,lM s0 f _ _ (hk.trans (Zi _ _ _ h4)) h3⟩⟩
theorem iZ {ops:Array Oper} {dead:List Nat} (hd:dead.all (Zd ops)=true) (st:St):Fw (λt=>t∉Ks ops.toList) st (st.Qk dead):=by
 intro t fr τ x ht hx
 unfold St.Qk
 refine Uj _ _ t fr τ x ?_
 show (Iq _ 0 st.tmps).getD t .undef=_
 rw [Wc _ 0 st.tmps t ?_]
 ·exact hx
 ·refine Bt.2 ⟨Eu.2 ?_,?_⟩
  ·refine Bk λhn=>?_
   have:st.get t= .undef:=by
    unfold St.get
    rw [Ai,Dz (by omega)];rfl
   rw [hx] at this
   cases this
  ·cases hc:dead.contains (0+t) with
   |false=>rfl
   |true=>
    have hm:0+t∈dead:=by simpa using hc
    have h1:=Bf.1 hd _ hm
    obtain ⟨o,ho,h2⟩:=Ey.1 h1
    rw [Bo] at h2
    exact absurd (Zn _ o t ho (by simpa using h2)) ht
theorem kK.keeps {T:Tab} {Γ:Env} {ops:Array Oper} {draw:Bool} {st:St} {K:St->Prop} (h:kK T Γ ops draw st K):kK T Γ ops draw st (λs=>K s/\Fw (λt=>t∉writes (.region 0 ops draw)) st s):=by
 rcases h with ⟨st',h1,h2⟩|⟨h1,h2,cp,h3,h4|⟨E,st1,h4,h5,h6,h7⟩⟩
 ·exact .inl ⟨st',h1,h2,oS h1⟩
 ·exact .inr ⟨h1,h2,cp,h3, .inl (sm st _ _ _ (Rt _ _ _ h3) h4)⟩
 ·exact .inr ⟨h1,h2,cp,h3, .inr ⟨E,st1,h4,h5,h6,lM st _ _ _ ((Rt _ _ _ h3).trans (Rt _ _ _ h6)) h7⟩⟩
theorem yN.keeps {T:Tab} {Γ:Env} {ops:Array Oper} {draw:Bool} {st:St} {K:St->Prop} (h:yN T Γ ops draw st K):yN T Γ ops draw st (λs=>K s/\Fw (λt=>t∉writes (.region 0 ops draw)) st s):=by
 rcases h with h|⟨dead,hd,h⟩
 ·exact .inl h.keeps
 ·exact .inr ⟨dead,hd,h.keeps.mono λs hs=>⟨hs.1,hs.2.trans (iZ hd s)⟩⟩
theorem kM (ops:Array Oper) {fr:Bool} {τ:Ty} {x:τ.den} : ∀(i:Nat) (l:List AV) (t:Nat),l.getD t .undef= .at (.data fr τ x)->(On ops i l).getD t .undef= .at (.data fr τ x)
 |_,[],_,h=>h
 |i,v::r,0,h=>by
  cases v with
  |Mt l=>cases h
  |_=>exact h
 |i,v::r,t+1,h=>by
  have h':=kM ops (i+1) r t h
  cases v<;>(simp only [On,Nm];exact h')
theorem l7 (ops:Array Oper) (st:St):Cn st (st.mU ops):= λt _ _ _ hx=>kM ops 0 st.tmps t hx
theorem OM {T:Tab} {Γ:Env} {live:Nat->List Nat} {c:Code} {st:St} {Q:Lp->St->Prop} (h:Of T Γ live c st Q): ∀(s0:St) (p:Nat->Prop),Fw p s0 st->(∀t,p t->t∉writes c/\bT live c t=true)->Of T Γ live c st (λe s=>Q e s/\Fw p s0 s):=by
 induction h with
 |skip h=>exact λs0 p hk _=> .skip ⟨h,hk⟩
 |label h=>exact λs0 p hk _=> .label ⟨h,hk⟩
 |exit h=>exact λs0 p hk _=> .exit ⟨h,hk⟩
 |ret h=>exact λs0 p hk _=> .ret ⟨h,hk⟩
 |region h=>
  exact λs0 p hk hp=> .region (h.keeps.mono λs hs=>⟨hs.1,(hk.trans (l7 _ _).on).trans (hs.2.mono λt ht=>(hp t ht).1)⟩)
 |seq Q1 _ _ h3 UH FU=>
  exact λs0 p hk hp=> .seq _ (UH s0 p hk λt ht=>⟨λhm=>(hp t ht).1 (by simp [writes,hm]),oM (hp t ht).2⟩)
   (λs hs=>FU s hs.1 s0 p hs.2 λt ht=>⟨λhm=>(hp t ht).1 (by simp [writes,hm]),lL (hp t ht).2⟩) λe s he hs=>⟨h3 e s he hs.1,hs.2⟩
 |cond hc _ _ UH FU=>
  exact λs0 p hk hp=> .cond hc (λht=>UH ht s0 p hk λt h=>⟨λhm=>(hp t h).1 (by simp [writes,hm]),oM (hp t h).2⟩)
   fun ht=>FU ht s0 p hk λt h=>⟨λhm=>(hp t h).1 (by simp [writes,hm]),lL (hp t h).2⟩
 |block Q1 _ h2 ih=>
  exact λs0 p hk hp=> .block _ (ih s0 p hk λt ht=>⟨λhm=>(hp t ht).1 (by simpa [writes] using hm),by simpa [bT] using (hp t ht).2⟩) λe s hs=>by
   have h:=h2 e s hs.1
   cases e with
   |normal=>exact ⟨h,hs.2⟩
   |ret=>exact ⟨h,hs.2⟩
   |exit UG=>
    simp only [xF] at h⊢
    split at h
    ·rename_i hi;rw [Ab hi];exact ⟨h,hs.2⟩
    ·rename_i hi;rw [Ak hi];exact ⟨h,hs.2⟩
 |loop Q1 _ _ h3 UH FU=>
  intro s0 p hk hp
  refine .loop _ (UH s0 p (hk.trans ((l6 _ _).mono λt ht=>by simpa using oM (hp t ht).2)) λt ht=>⟨λhm=>(hp t ht).1 (by simpa [writes] using hm),lL (hp t ht).2⟩)
   (λs hs=>FU s hs.1 s0 p hs.2 hp) λe s he hs=>⟨h3 e s he hs.1,hs.2⟩
end Go.Proofs.YtkkdpknjohcekaaGreat
