/-
  Part 29 of the proof that the statement FnExactPhaseOneWord holds.
-/
import Derived.Test.YtjbdmibbbpdnnaaCPhaseOneWord27
namespace Go.Proofs.Ytjbdmibbbpdnnaa
open Go.RowKit
def Bc (st st':St):Prop:= ∀(t:Nat) (fr:Bool) (τ:Ty) (x:τ.den),st.get t= .at (.data fr τ x)->st'.get t= .at (.data fr τ x)
theorem Bc.rfl' {st:St} :Bc st st:= λ_ _ _ _ h=>h
theorem Bc.trans {a b c:St} (h1:Bc a b) (h2:Bc b c):Bc a c:= λt fr τ x h=>h2 t fr τ x (h1 t fr τ x h)
theorem Bc.Rq {a b:St} (h:b.tmps=a.tmps):Bc a b:= λt fr τ x hx=>by
 simp only [St.get] at hx⊢
 rw [h]
 exact hx
theorem Uv (st:St) {t d:Nat} (v:AV) (h:t≠d):(st.put (some d) v).get t=st.get t:=by
 simp only [St.put,St.get]
 rw [Uh]
 rw [if_neg (by rintro ⟨rfl,_⟩;exact h rfl)]
theorem Jq (st:St) (f:AC->AC) (hu:f .undef= .undef) (hd: ∀fr (τ:Ty) (x:τ.den),f (.data fr τ x)= .data fr τ x):Bc st (st.Gh f):=by
 intro t fr τ x h
 simp only [St.Gh,St.get]
 rw [Ry f hu,show st.tmps.getD t .undef=_ from h]
 simp only [AV.map,hd]
theorem gX (st:St) (l:Nat):Bc st (st.forget l):=
 (Jq st (Ba l) rfl λ_ _ _=>rfl).trans (Bc.Rq rfl)
theorem Tq (st:St) (l:Nat) (fr:Bool) (e:Ty) (xs:List e.den):Bc st (st.freeze l fr e xs):=
 (Jq st (Bb l fr e xs) rfl λ_ _ _=>rfl).trans (Bc.Rq rfl)
theorem aU (st:St) (l:Nat) (v:Ty) (m:ByteArray->Option v.den):Bc st (st.Ek l v m):=
 (Jq st (Dj l v m) rfl λ_ _ _=>rfl).trans (Bc.Rq rfl)
theorem Ib (st:St) (l:Nat) (b:OB):Bc st (st.new l b):=(gX st l).trans (Bc.Rq rfl)
theorem Iu (st:St) (l:Nat) (b:OB):Bc st (st.Gb l b):=Bc.Rq rfl
theorem Yj (b:OB) (key l i:Nat) (st:St):Bc st (No b key l i st):=by
 unfold No
 split
 ·split
  ·dsimp only
   split
   ·exact (Ib _ _ _).trans (Iu _ _ _)
   ·exact Ib _ _ _
  ·exact Bc.rfl'
 ·exact Bc.rfl'
theorem ew (T:Tab) (l:Nat) (t:TypeId) (τ:Ty): ∀(n i:Nat) (st:St),Bc st (ah T l t τ n i st)
 |0,_,_=>Bc.rfl'
 |n+1,i,st=>by
  simp only [ah]
  refine Bc.trans ?_ (ew T l t τ n (i+1) _)
  split
  ·exact Yj _ _ _ _ _
  ·exact Bc.rfl'
theorem cf (T:Tab) (l off:Nat) (t:TypeId) (τ:Ty): ∀(n i:Nat) (st:St),Bc st (Yp T l off t τ n i st)
 |0,_,_=>Bc.rfl'
 |n+1,i,st=>by
  simp only [Yp]
  refine Bc.trans ?_ (cf T l off t τ n (i+1) _)
  split
  ·exact Yj _ _ _ _ _
  ·exact Bc.rfl'
theorem La: ∀(n:Nat) (st:St) (cs bP:List AC) (st':St),Dq n st cs=some (bP,st')->Bc st st'
 |0,st,cs,bP,st',h=>by
  simp only [Dq] at h
  split at h
  ·injection h with h;injection h with h1 h2;subst h2;exact Bc.rfl'
  ·cases h
 |n+1,st,cs,bP,st',h=>by
  simp only [Dq] at h
  split at h
  ·injection h with h;injection h with h1 h2;subst h2;exact Bc.rfl'
  ·split at h
   ·exact (Tq _ _ _ _ _).trans (La n _ _ _ _ h)
   ·exact (Tq _ _ _ _ _).trans (La n _ _ _ _ h)
   ·cases h
  ·split at h
   ·exact (aU _ _ _ _).trans (La n _ _ _ _ h)
   ·cases h
  ·cases h
theorem Ls {st st':St} {v v':AV} (h:settle st v=some (v',st')):Bc st st':=by
 unfold settle at h
 split at h
 ·split at h
  ·injection h with h;injection h with h1 h2;subst h2;exact Tq _ _ _ _ _
  ·injection h with h;injection h with h1 h2;subst h2;exact Tq _ _ _ _ _
  ·cases h
 ·split at h
  ·injection h with h;injection h with h1 h2;subst h2;exact aU _ _ _ _
  ·cases h
 ·split at h
  ·injection h with h;injection h with h1 h2;subst h2;exact Bc.rfl'
  ·cases h
 ·rename_i cs
  cases hs:Dq cs.length st cs with
  |none=>rw [hs] at h;cases h
  |some p=>rw [hs] at h;injection h with h;injection h with h1 h2;subst h2;exact La _ _ _ _ _ hs
 ·injection h with h;injection h with h1 h2;subst h2;exact Bc.rfl'
 ·cases h
theorem kA {T:Tab} {st st':St} {l:Nat} {t:TypeId} {τ:Ty} {cs:List AC} {v:AV} (h:mkVar T st l t τ cs=some (v,st')):Bc st st':=by
 unfold mkVar at h
 split at h
 ·cases h
 dsimp only at h
 split at h
 ·injection h with h;injection h with h1 h2;subst h2;exact (Ib _ _ _).trans (ew _ _ _ _ _ _ _)
 ·cases h
theorem vS {T:Tab} {st st':St} {t:TypeId} {p v:AV} (h:Nu T st t p v=some st'):Bc st st':=by
 unfold Nu at h
 split at h
 ·split at h
  ·split at h
   ·injection h with h
    split at h
    ·subst h;exact (Iu _ _ _).trans (cf _ _ _ _ _ _ _ _)
    ·subst h;exact Iu _ _ _
   ·cases h
  ·cases h
 ·split at h
  ·rename_i hs
   split at h
   ·split at h
    ·split at h
     ·injection h with h;subst h;exact (Ls hs).trans (Iu _ _ _)
     ·cases h
    ·cases h
   ·cases h
  ·cases h
 ·cases h
theorem mT (st:St) (l j m:Nat) (e:Ty) (te:TypeId) (rows:List (List e.den)) (xs:List e.den) (kp:Option (Nat×Nat)):Bc st (Ms st l j m e te rows xs kp):=
 ((Jq st (Aw [m] [l]) (by simp [Aw,AC.refs]) λfr τ x=>by simp [Aw,AC.refs]).trans (Bc.Rq rfl)).trans (Iu (st.Vz [m] [l]) _ _)
theorem mU (st:St) (l i m:Nat) (e:Ty) (te tid:TypeId) (rows:List (List e.den)) (kp:Option (Nat×Nat)):Bc st (Kf st l i m e te tid rows kp):=
 (Iu st l _).trans (Ib _ m _)
theorem sr {T:Tab} {st st':St} {t:TypeId} {p v:AV} (h:Jv T st t p v=some st'):Bc st st':=by
 unfold Jv at h
 split at h
 rotate_left
 ·exact vS h
 unfold Uu at h
 split at h
 ·split at h
  ·rename_i hs
   split at h
   ·split at h
    ·injection h with h;subst h;exact (Ls hs).trans (Iu _ _ _)
    ·cases h
   ·cases h
  ·cases h
 ·split at h
  ·split at h
   ·split at h
    ·injection h with h;subst h
     exact mT _ _ _ _ _ _ _ _ _
    ·cases h
   ·cases h
  ·cases h
 ·cases h
theorem Zz {T:Tab} {st st':St} {d:Nat} {t:TypeId} {x y:Operand} {v:AV} (h:Ir T st d t x y=some (v,st')):Bc st st':=by
 unfold Ir at h
 split at h
 ·cases h
 ·split at h
  ·rename_i hs
   split at h
   ·cases h
   ·split at h
    ·split at h
     ·injection h with h;injection h with h1 h2;subst h2;exact ((Ls hs).trans (Ib _ _ _)).trans (Ib _ _ _)
     ·cases h
    ·split at h
     ·split at h
      ·split at h
       ·injection h with h;injection h with h1 h2;subst h2;exact (Ls hs).trans (Ib _ _ _)
       ·cases h
      ·cases h
     ·cases h
    ·cases h
  ·cases h
theorem oV {T:Tab} {st st':St} {d:Nat} {t:TypeId} {x y:Operand} {v:AV} (h:Lf T st d t x y=some (v,st')):Bc st st':=by
 unfold Lf at h
 split at h
 ·rename_i tx
  split at h
  ·rename_i l i c hg
   split at h
   ·split at h
    ·rename_i e te rows kp tid hl ht hc
     refine Bc.trans (b:=(Kf st l i d e te tid rows kp).put (some tx) (.at (.own d 0 (rows.getD i []).length))) ?_ (Zz h)
     intro t' fr τ z hz
     by_cases e':t'=tx
     ·subst e';rw [hg] at hz;cases hz
     ·rw [Uv _ _ e'];exact mU st l i d e te tid rows kp t' fr τ z hz
    ·cases h
   ·cases h
  ·exact Zz h
 ·exact Zz h
theorem yF {T:Tab} {st st':St} {d:Nat} {t:TypeId} {l c v:AV} (h:Ur T st d t l c=some (v,st')):Bc st st':=by
 unfold Ur at h
 split at h
 ·split at h
  ·split at h
   ·injection h with h;injection h with h1 h2;subst h2;exact Ib _ _ _
   ·cases h
  ·cases h
 ·cases h
theorem kB (e:Ty): ∀(l:List (Nat×Operand)) (i:Nat) (st st':St) (fr tr:Bool) (ys:List e.den),Gr e i l st=some (fr,tr,ys,st')->Bc st st'
 | [],_,_,_,_,_,_,h=>by
  simp only [Gr] at h
  injection h with h;injection h with h1 h2;injection h2 with h2 h3;injection h3 with h3 h4;subst h4;exact Bc.rfl'
 |(j,x)::r,i,st,st',fr,tr,ys,h=>by
  simp only [Gr] at h
  split at h
  ·split at h
   ·rename_i hs
    split at h
    ·split at h
     ·rename_i hp
      injection h with h;injection h with h1 h2;injection h2 with h2 h3;injection h3 with h3 h4;subst h4
      exact (Ls hs).trans (kB e r _ _ _ _ _ _ hp)
     ·cases h
    ·cases h
   ·cases h
  ·cases h
theorem jk {T:Tab} {st st':St} {d:Nat} {t:TypeId} {n:Nat} {parts:Array (Nat×Operand)} {v:AV} (h:Hk T st d t n parts=some (v,st')):Bc st st':=by
 unfold Hk at h
 split at h
 ·cases h
 ·split at h
  ·cases h
  ·split at h
   ·split at h
    ·rename_i hp
     injection h with h;injection h with h1 h2;subst h2;exact (kB _ _ _ _ _ _ _ _ hp).trans (Ib _ _ _)
    ·cases h
   ·cases h
theorem oX {T:Tab} {st st':St} {d:Nat} {t:TypeId} {v:AV} (h:Nt T st d t=some (v,st')):Bc st st':=by
 unfold Nt at h
 split at h
 ·split at h
  ·injection h with h;injection h with h1 h2;subst h2;exact Ib _ _ _
  ·cases h
 ·cases h
theorem gY {T:Tab} {st st':St} {t:TypeId} {m k x:AV} (h:Eu T st t m k x=some st'):Bc st st':=by
 unfold Eu at h
 split at h
 ·split at h
  ·split at h
   ·injection h with h;subst h;exact Iu _ _ _
   ·cases h
  ·cases h
 ·cases h
theorem yE {T:Tab} {st st':St} {t t':TypeId} {x y v:AV} (h:bS T st t t' x y=some (v,st')):Bc st st':=by
 unfold bS at h
 split at h
 ·split at h
  ·split at h
   ·split at h
    ·injection h with h;injection h with h1 h2;subst h2;exact Iu _ _ _
    ·cases h
   ·cases h
  ·cases h
 ·cases h
theorem vQ {T:Tab} {st st':St} {t:TypeId} {x:AV} (h:evalClear T st t x=some st'):Bc st st':=by
 unfold evalClear at h
 split at h
 ·split at h
  ·split at h
   ·split at h
    ·injection h with h;subst h;exact Iu _ _ _
    ·cases h
   ·cases h
  ·cases h
 ·cases h
theorem qO {st st':St} {c:CK} {ys:c.den} {a:AC} (h:Vr st c ys a=some st'):st'.tmps=st.tmps:=by
 unfold Vr at h
 repeat' split at h
 all_goals first|(cases h;done)|(simp only [Option.some.injEq] at h;subst h;rfl)|skip
theorem EO {st st':St} {e:Ty} {ys:List e.den} {a:AC} (h:zb st e ys a=some st'):st'.tmps=st.tmps:=by
 unfold zb at h
 repeat' split at h
 all_goals first|(cases h;done)|(simp only [Option.some.injEq] at h;subst h;rfl)|skip
theorem Np: ∀(cs:List (Bool×CK)) (o:IOs.den cs) (as:List AC) (st st':St),Eb cs o as st=some st'->st'.tmps=st.tmps
 | [],_,_,st,st',h=>by simp only [Eb,Option.some.injEq] at h;subst h;rfl
 |(true, .Ew _)::r,o,[],st,st',h=>by simp [Eb] at h
 |(true, .row _ _)::r,o,[],st,st',h=>by simp [Eb] at h
 |(true, .Dt _ _)::r,o,[],st,st',h=>by simp [Eb] at h
 |(true, .part _ _)::r,o,[],st,st',h=>by simp [Eb] at h
 |(true, .Ak _ _ _)::r,o,[],st,st',h=>by simp [Eb] at h
 |(true, .Ak _ _ _)::r,o,a::as,st,st',h=>Np r o as st st' (by simpa only [Eb] using h)
 |(false,_)::r,o,[],st,st',h=>by simp [Eb] at h
 |(true, .Ew _)::r,o,a::as,st,st',h=>Np r o as st st' (by simpa only [Eb] using h)
 |(false,_)::r,o,a::as,st,st',h=>Np r o as st st' (by simpa only [Eb] using h)
 |(true, .row _ _)::r,o,a::as,st,st',h=>by
  simp only [Eb] at h
  split at h
  ·rename_i hc;exact (Np r o.2 as _ st' h).trans (qO hc)
  ·cases h
 |(true, .part _ _)::r,o,a::as,st,st',h=>by
  simp only [Eb] at h
  split at h
  ·rename_i hc;exact (Np r o.2 as _ st' h).trans (EO hc)
  ·cases h
 |(true, .Dt _ _)::r,o,a::as,st,st',h=>by
  simp only [Eb] at h
  split at h
  ·rename_i hc;exact (Np r o.2 as _ st' h).trans (qO hc)
  ·cases h
theorem so (bf st:St) (ls:List Nat) (n:Nat) (hl:bf.tmps.length=st.tmps.length) (h:Bc bf st):Bc bf (fG bf st ls n):=by
 unfold fG
 split
 ·exact h
 ·intro t fr τ x hx
  show (Gw _ bf.tmps st.tmps).getD t .undef=_
  rcases aE ls bf.tmps st.tmps t hl with ⟨k,i,c,h1,_⟩|h1
  ·rw [show bf.tmps.getD t .undef=_ from hx] at h1;cases h1
  ·rw [h1];exact h t fr τ x hx
theorem vP {st st':St} {d:Option Nat} {s:MSpec} {args:List AV} {v:AV} (h:Qi st d s args=some (v,st')):Bc st st':=by
 unfold Qi at h
 split at h
 ·cases h
 split at h
 ·cases h
 split at h
 ·cases h
 split at h
 ·split at h
  ·cases h
  split at h
  ·cases h
  rename_i st1 hp
  split at h
  ·cases h
  split at h
  ·simp only [Option.some.injEq,Prod.mk.injEq] at h
   obtain ⟨_,rfl⟩:=h
   have XW:=Np _ _ _ _ _ hp
   refine so _ _ _ _ ?_ ?_
   ·simp only [fc,jL]
    rw [<-XW]
    simp only [St.Vz,St.Gh,List.length_map]
   ·refine Bc.trans (Bc.Rq XW) ?_
    refine Bc.trans (Jq st1 (Aw _ _) (by simp [Aw,AC.refs]) λfr τ x=>by simp [Aw,AC.refs]) (Bc.Rq jL)
  ·cases h
 ·cases h
theorem Wx (st:St) (k m:Nat) (b:OB):Bc st (Ky st k m b):=
 (Jq st (Aw [m,k] []) (by simp [Aw,AC.refs]) λfr τ x=>by simp [Aw,AC.refs]).trans (Bc.Rq rfl)
theorem vR {T:Tab} {st st':St} {d:Nat} {t:TypeId} {l c v:AV} (h:Qk T st d t l c=some (v,st')):Bc st st':=by
 unfold Qk at h
 split at h
 ·exact yF h
 ·split at h
  ·split at h
   ·injection h with h;injection h with h1 h2;subst h2;exact Wx _ _ _ _
   ·cases h
  ·cases h
theorem gW {T:Tab} {st st':St} {d:Nat} {t:TypeId} {n:Nat} {parts:Array (Nat×Operand)} {v:AV} (h:Er T st d t n parts=some (v,st')):Bc st st':=by
 unfold Er at h
 split at h
 ·exact jk h
 ·repeat' split at h
  all_goals first|(cases h;done)|(injection h with h;injection h with h1 h2;subst h2;exact Wx _ _ _ _)
theorem oW {T:Tab} {st st':St} {d:Nat} {t:TypeId} {x y:Operand} {v:AV} (h:Lg T st d t x y=some (v,st')):Bc st st':=by
 unfold Lg at h
 split at h
 ·exact oV h
 ·repeat' split at h
  all_goals first|(cases h;done)|(injection h with h;injection h with h1 h2;subst h2;exact Wx _ _ _ _)
theorem Yi {st st':St} {v:AV} {o:Option AV} (h:o.map (λv=>(v,st))=some (v,st')):Bc st st':=by
 cases o with
 |none=>cases h
 |some u=>injection h with h;injection h with h1 h2;subst h2;exact Bc.rfl'
theorem Su: ∀(l:List Operand) {st st1:St},Jl l st=some st1->Bc st st1
 | [],st,st1,h=>by
  simp only [Jl,Option.some.injEq] at h
  subst h
  exact Bc.rfl'
 |x::r,st,st1,h=>by
  simp only [Jl] at h
  cases hs:settle st (st.ev x) with
  |none=>rw [hs] at h;cases h
  |some p=>
   rw [hs] at h
   exact (Ls (v':=p.1) (st':=p.2) hs).trans (Su r h)
theorem gI {T:Tab} {Γ:Env} {st st':St} {o:Oper} {v:AV} (h:evalOp T Γ st o=some (v,st')):Bc st st':=by
 unfold evalOp at h
 split at h
 ·split at h
  ·split at h
   ·injection h with h;injection h with h1 h2;subst h2;exact Ib _ _ _
   ·cases h
  ·injection h with h;injection h with h1 h2;subst h2;exact Bc.rfl'
 ·split at h
  ·exact kA h
  ·cases h
 ·split at h
  ·split at h
   ·exact kA h
   ·cases h
  ·cases h
 ·rename_i t p x _
  cases hs:Jv T st t (st.ev p) (st.ev x) with
  |none=>rw [hs] at h;cases h
  |some s=>rw [hs] at h;injection h with h;injection h with h1 h2;subst h2;exact sr hs
 ·split at h
  ·exact vR h
  ·cases h
 ·split at h
  ·exact oX h
  ·cases h
 ·rename_i t m k x _
  cases hs:Eu T st t (st.ev m) (st.ev k) (st.ev x) with
  |none=>rw [hs] at h;cases h
  |some s=>rw [hs] at h;injection h with h;injection h with h1 h2;subst h2;exact gY hs
 ·rename_i t m k x _
  cases hs:Eu T st t (st.ev m) (st.ev k) (st.ev x) with
  |none=>rw [hs] at h;cases h
  |some s=>rw [hs] at h;injection h with h;injection h with h1 h2;subst h2;exact gY hs
 ·split at h
  ·exact gW h
  ·cases h
 ·exact Yi h
 ·split at h
  ·split at h
   ·exact oW h
   ·cases h
  ·cases h
 ·split at h
  ·exact yE h
  ·cases h
 ·split at h
  ·rename_i x t _ _
   cases hs:evalClear T st t (st.ev x) with
   |none=>rw [hs] at h;cases h
   |some s=>rw [hs] at h;injection h with h;injection h with h1 h2;subst h2;exact vQ hs
  ·cases h
 ·split at h
  ·exact vP h
  ·split at h
   ·rename_i args _ _ _ _ _ _
    cases hs:Jl args.toList st with
    |none=>rw [hs] at h;cases h
    |some st1=>
     rw [hs] at h
     exact (Su _ hs).trans (Yi h)
   ·exact Yi h
  ·exact Yi h
 ·exact Yi h
def Ku:List Oper->List Nat
 | []=> []
 |o::r=>(match o.dst with|some d=> [d]|none=> [])++Ku r
def writes:Code->List Nat
 | .region _ ops _=>Ku ops.toList
 | .seq a b=>writes a++writes b
 | .cond _ a b=>writes a++writes b
 | .block _ c=>writes c
 | .loop c=>writes c
 |_=> []
def Fc (P:Nat->Prop) (st st':St):Prop:= ∀(t:Nat) (fr:Bool) (τ:Ty) (x:τ.den),P t->st.get t= .at (.data fr τ x)->st'.get t= .at (.data fr τ x)
theorem Fc.trans {P:Nat->Prop} {a b c:St} (h1:Fc P a b) (h2:Fc P b c):Fc P a c:= λt fr τ x hp h=>h2 t fr τ x hp (h1 t fr τ x hp h)
theorem Fc.mono {P Q:Nat->Prop} {a b:St} (h1:Fc P a b) (h: ∀t,Q t->P t):Fc Q a b:= λt fr τ x hp hx=>h1 t fr τ x (h t hp) hx
theorem Bc.on {P:Nat->Prop} {a b:St} (h:Bc a b):Fc P a b:= λt fr τ x _ hx=>h t fr τ x hx
theorem Wc (st:St) (dst:Option Tmp) (v:AV):Fc (λt=>dst≠some t) st (st.put dst v):=by
 intro t fr τ x hp hx
 cases dst with
 |none=>exact hx
 |some d=>rw [Uv st v (λh=>hp (by rw [h]))];exact hx
theorem bT {T:Tab} {Γ:Env} {ops:Array Oper} {st st':St} {o:Oper} (h:Ch T Γ ops st o=some st'):Fc (λt=>o.dst≠some t) st st':=by
 have key: ∀s,(evalOp T Γ st o).map (λr=>r.2.put o.dst r.1)=some s->Fc (λt=>o.dst≠some t) st s:=by
  intro s hs
  cases he:evalOp T Γ st o with
  |none=>rw [he] at hs;cases hs
  |some p=>rw [he] at hs;injection hs with hs;subst hs;exact (gI (v:=p.1) (st':=p.2) he).on.trans (Wc _ _ _)
 unfold Ch at h
 split at h
 ·exact key _ h
 ·split at h
  ·split at h
   ·exact key _ h
   ·injection h with h;subst h;exact Wc _ _ _
  ·injection h with h;subst h;exact Wc _ _ _
  ·cases h
theorem dZ {T:Tab} {Γ:Env} {ops:Array Oper} : ∀(l:List Oper) (st st':St),Tn T Γ ops l st=some st'->Fc (λt=>t∉Ku l) st st'
 | [],st,st',h=>by injection h with h;subst h;exact Bc.rfl'.on
 |o::r,st,st',h=>by
  simp only [Tn] at h
  split at h
  ·rename_i s hs
   refine Fc.trans ((bT hs).mono λt ht=>?_) ((dZ r _ _ h).mono λt ht=>?_)
   ·intro hd;apply ht;simp [Ku,hd]
   ·intro hd;apply ht;simp [Ku,hd]
  ·cases h
theorem Xb: ∀(l:List Oper) (o:Oper) (d:Nat),o∈l->o.dst=some d->d∈Ku l
 | [],_,_,h,_=>by cases h
 |p::r,o,d,h,hd=>by
  cases h with
  |head=>simp [Ku,hd]
  |tail _ h=>simp only [Ku,List.mem_append];exact .inr (Xb r o d h hd)
theorem qF {ops:Array Oper} {i:Nat} {o:Oper} (h:ops[i]?=some o):o∈ops.toList:=by
 rw [Array.getElem?_eq_some_iff] at h
 obtain ⟨h1,h2⟩:=h
 rw [<-h2]
 simp
theorem Wv {T:Tab} {Γ:Env} {ops:Array Oper} : ∀(l:List Nat) (st st':St),Jb T Γ ops l st=some st'->Fc (λt=>t∉Ku ops.toList) st st'
 | [],st,st',h=>by injection h with h;subst h;exact Bc.rfl'.on
 |i::r,st,st',h=>by
  simp only [Jb] at h
  split at h
  ·cases h
  ·rename_i o ho
   split at h
   ·rename_i s hs
    exact ((bT hs).mono λt ht hd=>ht (Xb _ _ _ (qF ho) hd)).trans (Wv r _ _ h)
   ·cases h
theorem Us {T:Tab} {Γ:Env} {ops:Array Oper} : ∀(l:List Nat) (st st':St),Ea T Γ ops l st=some st'->Fc (λt=>t∉Ku ops.toList) st st'
 | [],st,st',h=>by injection h with h;subst h;exact Bc.rfl'.on
 |i::r,st,st',h=>by
  simp only [Ea] at h
  split at h
  ·cases h
  ·rename_i o ho
   split at h
   ·exact ((Wc _ _ _).mono λt ht hd=>ht (Xb _ _ _ (qF ho) hd)).trans (Us r _ _ h)
   ·cases h
theorem aT: ∀(l:List Nat) (st:St),Bc st (Xz l st)
 | [],_=>Bc.rfl'
 |a::r,st=>(gX st a).trans (aT r _)
theorem bI (live:List Nat): ∀(i:Nat) (l:List AV) (t:Nat),i+t∈live->(Fy live i l).getD t .undef=l.getD t .undef
 |_,[],_,_=>rfl
 |i,v::r,0,h=>by simp [Fy];intro hn;exact absurd h hn
 |i,v::r,t+1,h=>by
  simp only [Fy,List.getD_cons_succ]
  exact bI live (i+1) r t (by rw [show i+1+t=i+(t+1) by omega];exact h)
theorem sq (l k:Nat) (st:St):Bc st (st.rename l k):=by
 unfold St.rename
 split
 ·split
  ·exact (Jq st (Ob l k) rfl λ_ _ _=>rfl).trans (Bc.Rq rfl)
  ·exact Bc.rfl'
 ·exact Bc.rfl'
theorem Yk: ∀(n t:Nat) (st:St),Bc st (Hr n t st)
 |0,_,_=>Bc.rfl'
 |n+1,t,st=>by
  simp only [Hr]
  refine Bc.trans ?_ (Yk n (t+1) _)
  split
  ·split
   ·split
    ·exact Bc.rfl'
    ·exact sq _ _ _
   ·exact Bc.rfl'
  ·exact Bc.rfl'
theorem mV (t:Nat) (st:St):Bc st (Vg t st):=by
 unfold Vg
 split
 ·rename_i l off len hg
  split
  ·split
   ·intro k fr τ x hk
    have El:k≠t:= λe=>by subst e;rw [hg] at hk;cases hk
    rw [Uv _ _ El]
    exact Ib _ _ _ k fr τ x hk
   ·exact Bc.rfl'
  ·exact Bc.rfl'
 ·exact Bc.rfl'
theorem aV (live:List Nat): ∀(n t:Nat) (st:St),Bc st (Jk live n t st)
 |0,_,_=>Bc.rfl'
 |n+1,t,st=>by
  simp only [Jk]
  refine Bc.trans ?_ (aV live n (t+1) _)
  split
  ·exact mV _ _
  ·exact Bc.rfl'
theorem eu (live:List Nat) (st:St):Fc (λt=>t∈live) st (st.clean live):=by
 intro t fr τ x hp hx
 unfold St.clean
 have key: ∀s:St,s.get t= .at (.data fr τ x)->(if live.contains Wi then Hr s.tmps.length 0 s else s).get t= .at (.data fr τ x):=by
  intro s hs
  split
  ·exact Yk _ _ s t fr τ x hs
  ·exact hs
 have JG: ∀s:St,s.get t= .at (.data fr τ x)->(if live.any (λt=>Nat.ble Sp t) then s.Ev live else s).get t= .at (.data fr τ x):=by
  intro s hs
  split<;>exact hs
 have JH: ∀s:St,s.get t= .at (.data fr τ x)->(if live.any (λt=>Nat.ble Hq t&&Nat.blt t Wi) then Jk live s.tmps.length 0 s else s).get t= .at (.data fr τ x):=by
  intro s hs
  split
  ·exact aV _ _ _ s t fr τ x hs
  ·exact hs
 refine JG _ (key _ (JH _ (aT _ _ t fr τ x ?_)))
 simp only [St.get] at hx⊢
 rw [bI live 0 st.tmps t (by simpa using hp)]
 exact hx
def Uz (live:Nat->List Nat):Code->Nat->Bool
 | .seq a b,t=>Uz live a t&&Uz live b t
 | .cond _ a b,t=>Uz live a t&&Uz live b t
 | .block _ c,t=>Uz live c t
 | .loop c,t=>(live (Ce c)).contains t&&Uz live c t
 |_,_=>true
theorem iX {a b:Bool} (h:(a&&b)=true):a=true:=by cases a<;>simp_all
theorem fe {a b:Bool} (h:(a&&b)=true):b=true:=by cases a<;>simp_all
theorem j5 {T:Tab} {Γ:Env} {ops:Array Oper} {draw:Bool} {st st':St} (h:Lh T Γ ops draw st=some st'):Fc (λt=>t∉writes (.region 0 ops draw)) st st':=by
 unfold Lh at h
 have go: ∀q,(match Ea T Γ ops (dw q Γ ops) st with
   |some s=>Jb T Γ ops (Fe q Γ ops) s
   |none=>none)=some st'->Fc (λt=>t∉writes (.region 0 ops draw)) st st':=by
  intro q h
  split at h
  ·rename_i s hs
   exact (Us _ _ _ hs).trans (Wv _ _ _ h)
  ·cases h
 split at h
 ·split at h
  ·exact go false h
  ·split at h
   ·exact go true h
   ·cases h
 ·exact dZ _ _ _ h
theorem lZ {T:Tab} {Γ:Env} {ops:Array Oper} {draw:Bool} {K:St->Prop} (s0:St): ∀(f:Nat) (Ad:Array Bool) (st:St),Fc (λt=>t∉writes (.region 0 ops draw)) s0 st->anyS T Γ ops K f Ad st->anyS T Γ ops (λs=>K s/\Fc (λt=>t∉writes (.region 0 ops draw)) s0 s) f Ad st
 |0,_,_,hk,h=>⟨h.1,h.2,hk⟩
 |f+1,Ad,st,hk,h=>⟨h.1,λi hi=>by
  obtain ⟨o,st',h1,h2,h3⟩:=h.2 i hi
  have h4:Jb T Γ ops [i] st=some st':=by simp only [Jb,h1,h2]
  exact ⟨o,st',h1,h2,lZ s0 f _ _ (hk.trans (Wv _ _ _ h4)) h3⟩⟩
theorem ru.keeps {T:Tab} {Γ:Env} {ops:Array Oper} {draw:Bool} {st:St} {K:St->Prop} (h:ru T Γ ops draw st K):ru T Γ ops draw st (λs=>K s/\Fc (λt=>t∉writes (.region 0 ops draw)) st s):=by
 rcases h with ⟨st',h1,h2⟩|⟨h1,h2,bf,h3,h4⟩
 ·exact .inl ⟨st',h1,h2,j5 h1⟩
 ·exact .inr ⟨h1,h2,bf,h3,lZ st _ _ _ (Us _ _ _ h3) h4⟩
theorem zl {T:Tab} {Γ:Env} {live:Nat->List Nat} {c:Code} {st:St} {Q:Gv->St->Prop} (h:Iz T Γ live c st Q): ∀(s0:St) (p:Nat->Prop),Fc p s0 st->(∀t,p t->t∉writes c/\Uz live c t=true)->Iz T Γ live c st (λe s=>Q e s/\Fc p s0 s):=by
 induction h with
 |skip h=>exact λs0 p hk _=> .skip ⟨h,hk⟩
 |label h=>exact λs0 p hk _=> .label ⟨h,hk⟩
 |exit h=>exact λs0 p hk _=> .exit ⟨h,hk⟩
 |ret h=>exact λs0 p hk _=> .ret ⟨h,hk⟩
 |region h=>
  exact λs0 p hk hp=> .region (h.keeps.mono λs hs=>⟨hs.1,hk.trans (hs.2.mono λt ht=>(hp t ht).1)⟩)
 |seq Q1 _ _ h3 DB vL=>
  exact λs0 p hk hp=> .seq _ (DB s0 p hk λt ht=>⟨λhm=>(hp t ht).1 (by simp [writes,hm]),iX (hp t ht).2⟩)
   (λs hs=>vL s hs.1 s0 p hs.2 λt ht=>⟨λhm=>(hp t ht).1 (by simp [writes,hm]),fe (hp t ht).2⟩) λe s he hs=>⟨h3 e s he hs.1,hs.2⟩
 |cond hc _ _ DB vL=>
  exact λs0 p hk hp=> .cond hc (λht=>DB ht s0 p hk λt h=>⟨λhm=>(hp t h).1 (by simp [writes,hm]),iX (hp t h).2⟩)
   fun ht=>vL ht s0 p hk λt h=>⟨λhm=>(hp t h).1 (by simp [writes,hm]),fe (hp t h).2⟩
 |block Q1 _ h2 ih=>
  exact λs0 p hk hp=> .block _ (ih s0 p hk λt ht=>⟨λhm=>(hp t ht).1 (by simpa [writes] using hm),by simpa [Uz] using (hp t ht).2⟩) λe s hs=>by
   have h:=h2 e s hs.1
   cases e with
   |normal=>exact ⟨h,hs.2⟩
   |ret=>exact ⟨h,hs.2⟩
   |exit CZ=>
    simp only [ql] at h⊢
    split at h
    ·rename_i hi;rw [if_pos hi];exact ⟨h,hs.2⟩
    ·rename_i hi;rw [if_neg hi];exact ⟨h,hs.2⟩
 |loop Q1 _ _ h3 DB vL=>
  intro s0 p hk hp
  refine .loop _ (DB s0 p (hk.trans ((eu _ _).mono λt ht=>by simpa using iX (hp t ht).2)) λt ht=>⟨λhm=>(hp t ht).1 (by simpa [writes] using hm),fe (hp t ht).2⟩)
   (λs hs=>vL s hs.1 s0 p hs.2 hp) λe s he hs=>⟨h3 e s he hs.1,hs.2⟩
end Go.Proofs.Ytjbdmibbbpdnnaa
