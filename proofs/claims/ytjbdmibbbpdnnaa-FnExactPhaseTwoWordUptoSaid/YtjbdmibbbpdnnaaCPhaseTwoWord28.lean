/-
  Part 29 of the proof that the statement FnExactPhaseTwoWord holds.
-/
import Derived.Test.YtjbdmibbbpdnnaaCPhaseTwoWord27
namespace Go.Proofs.Ytjbdmibbbpdnnaa
open Go.RowKit
def Bc (st st':St):Prop:= ∀(t:Nat) (fr:Bool) (τ:Ty) (x:τ.den),st.get t= .at (.data fr τ x)->st'.get t= .at (.data fr τ x)
theorem Bc.rfl' {st:St} :Bc st st:= λ_ _ _ _ h=>h
theorem Bc.trans {a b c:St} (h1:Bc a b) (h2:Bc b c):Bc a c:= λt fr τ x h=>h2 t fr τ x (h1 t fr τ x h)
theorem Bc.Ru {a b:St} (h:b.tmps=a.tmps):Bc a b:= λt fr τ x hx=>by
 simp only [St.get] at hx⊢
 rw [h]
 exact hx
theorem Vc (st:St) {t d:Nat} (v:AV) (h:t≠d):(st.put (some d) v).get t=st.get t:=by
 simp only [St.put,St.get]
 rw [Uk]
 rw [if_neg (by rintro ⟨rfl,_⟩;exact h rfl)]
theorem Jr (st:St) (f:AC->AC) (hu:f .undef= .undef) (hd: ∀fr (τ:Ty) (x:τ.den),f (.data fr τ x)= .data fr τ x):Bc st (st.Gh f):=by
 intro t fr τ x h
 simp only [St.Gh,St.get]
 rw [Sa f hu,show st.tmps.getD t .undef=_ from h]
 simp only [AV.map,hd]
theorem gU (st:St) (l:Nat):Bc st (st.forget l):=
 (Jr st (Ba l) rfl λ_ _ _=>rfl).trans (Bc.Ru rfl)
theorem Tt (st:St) (l:Nat) (fr:Bool) (e:Ty) (xs:List e.den):Bc st (st.freeze l fr e xs):=
 (Jr st (Bb l fr e xs) rfl λ_ _ _=>rfl).trans (Bc.Ru rfl)
theorem bd (st:St) (l:Nat) (v:Ty) (m:ByteArray->Option v.den):Bc st (st.El l v m):=
 (Jr st (Dj l v m) rfl λ_ _ _=>rfl).trans (Bc.Ru rfl)
theorem Ia (st:St) (l:Nat) (b:OB):Bc st (st.new l b):=(gU st l).trans (Bc.Ru rfl)
theorem Iu (st:St) (l:Nat) (b:OB):Bc st (st.Gb l b):=Bc.Ru rfl
theorem Yp (b:OB) (key l i:Nat) (st:St):Bc st (Nr b key l i st):=by
 unfold Nr
 split
 ·split
  ·dsimp only
   split
   ·exact (Ia _ _ _).trans (Iu _ _ _)
   ·exact Ia _ _ _
  ·exact Bc.rfl'
 ·exact Bc.rfl'
theorem eA (T:Tab) (l:Nat) (t:TypeId) (τ:Ty): ∀(n i:Nat) (st:St),Bc st (aq T l t τ n i st)
 |0,_,_=>Bc.rfl'
 |n+1,i,st=>by
  simp only [aq]
  refine Bc.trans ?_ (eA T l t τ n (i+1) _)
  split
  ·exact Yp _ _ _ _ _
  ·exact Bc.rfl'
theorem cm (T:Tab) (l off:Nat) (t:TypeId) (τ:Ty): ∀(n i:Nat) (st:St),Bc st (Yu T l off t τ n i st)
 |0,_,_=>Bc.rfl'
 |n+1,i,st=>by
  simp only [Yu]
  refine Bc.trans ?_ (cm T l off t τ n (i+1) _)
  split
  ·exact Yp _ _ _ _ _
  ·exact Bc.rfl'
theorem La: ∀(n:Nat) (st:St) (cs bV:List AC) (st':St),Dq n st cs=some (bV,st')->Bc st st'
 |0,st,cs,bV,st',h=>by
  simp only [Dq] at h
  split at h
  ·injection h with h;injection h with h1 h2;subst h2;exact Bc.rfl'
  ·cases h
 |n+1,st,cs,bV,st',h=>by
  simp only [Dq] at h
  split at h
  ·injection h with h;injection h with h1 h2;subst h2;exact Bc.rfl'
  ·split at h
   ·exact (Tt _ _ _ _ _).trans (La n _ _ _ _ h)
   ·exact (Tt _ _ _ _ _).trans (La n _ _ _ _ h)
   ·cases h
  ·split at h
   ·exact (bd _ _ _ _).trans (La n _ _ _ _ h)
   ·cases h
  ·cases h
theorem Lx {st st':St} {v v':AV} (h:settle st v=some (v',st')):Bc st st':=by
 unfold settle at h
 split at h
 ·split at h
  ·injection h with h;injection h with h1 h2;subst h2;exact Tt _ _ _ _ _
  ·injection h with h;injection h with h1 h2;subst h2;exact Tt _ _ _ _ _
  ·cases h
 ·split at h
  ·injection h with h;injection h with h1 h2;subst h2;exact bd _ _ _ _
  ·cases h
 ·split at h
  ·injection h with h;injection h with h1 h2;subst h2;exact Bc.rfl'
  ·cases h
 ·rename_i cs
  cases hs:Dq cs.length st cs with
  |none=>rw [hs] at h;cases h
  |some p=>rw [hs] at h;injection h with h;injection h with h1 h2;subst h2;exact La _ _ _ _ _ hs
 ·injection h with h;injection h with h1 h2;subst h2;exact Bc.rfl'
 ·cases h
theorem kq {T:Tab} {st st':St} {l:Nat} {t:TypeId} {τ:Ty} {cs:List AC} {v:AV} (h:mkVar T st l t τ cs=some (v,st')):Bc st st':=by
 unfold mkVar at h
 split at h
 ·cases h
 dsimp only at h
 split at h
 ·injection h with h;injection h with h1 h2;subst h2;exact (Ia _ _ _).trans (eA _ _ _ _ _ _ _)
 ·cases h
theorem vg {T:Tab} {st st':St} {t:TypeId} {p v:AV} (h:Ny T st t p v=some st'):Bc st st':=by
 unfold Ny at h
 split at h
 ·split at h
  ·split at h
   ·injection h with h
    split at h
    ·subst h;exact (Iu _ _ _).trans (cm _ _ _ _ _ _ _ _)
    ·subst h;exact Iu _ _ _
   ·cases h
  ·cases h
 ·split at h
  ·rename_i hs
   split at h
   ·split at h
    ·split at h
     ·injection h with h;subst h;exact (Lx hs).trans (Iu _ _ _)
     ·cases h
    ·cases h
   ·cases h
  ·cases h
 ·cases h
theorem mM (st:St) (l j m:Nat) (e:Ty) (te:TypeId) (rows:List (List e.den)) (xs:List e.den) (kp:Option (Nat×Nat)):Bc st (Mx st l j m e te rows xs kp):=
 ((Jr st (Aw [m] [l]) (by simp [Aw,AC.refs]) λfr τ x=>by simp [Aw,AC.refs]).trans (Bc.Ru rfl)).trans (Iu (st.Wh [m] [l]) _ _)
theorem mN (st:St) (l i m:Nat) (e:Ty) (te tid:TypeId) (rows:List (List e.den)) (kp:Option (Nat×Nat)):Bc st (Kf st l i m e te tid rows kp):=
 (Iu st l _).trans (Ia _ m _)
theorem rX {T:Tab} {st st':St} {t:TypeId} {p v:AV} (h:Jw T st t p v=some st'):Bc st st':=by
 unfold Jw at h
 split at h
 rotate_left
 ·exact vg h
 unfold Va at h
 split at h
 ·split at h
  ·rename_i hs
   split at h
   ·split at h
    ·injection h with h;subst h;exact (Lx hs).trans (Iu _ _ _)
    ·cases h
   ·cases h
  ·cases h
 ·split at h
  ·split at h
   ·split at h
    ·injection h with h;subst h
     exact mM _ _ _ _ _ _ _ _ _
    ·cases h
   ·cases h
  ·cases h
 ·cases h
theorem aa {T:Tab} {st st':St} {d:Nat} {t:TypeId} {x y:Operand} {v:AV} (h:Ir T st d t x y=some (v,st')):Bc st st':=by
 unfold Ir at h
 split at h
 ·cases h
 ·split at h
  ·rename_i hs
   split at h
   ·cases h
   ·split at h
    ·split at h
     ·injection h with h;injection h with h1 h2;subst h2;exact ((Lx hs).trans (Ia _ _ _)).trans (Ia _ _ _)
     ·cases h
    ·split at h
     ·split at h
      ·split at h
       ·injection h with h;injection h with h1 h2;subst h2;exact (Lx hs).trans (Ia _ _ _)
       ·cases h
      ·cases h
     ·cases h
    ·cases h
  ·cases h
theorem oH {T:Tab} {st st':St} {d:Nat} {t:TypeId} {x y:Operand} {v:AV} (h:Lg T st d t x y=some (v,st')):Bc st st':=by
 unfold Lg at h
 split at h
 ·rename_i tx
  split at h
  ·rename_i l i c hg
   split at h
   ·split at h
    ·rename_i e te rows kp tid hl ht hc
     refine Bc.trans (b:=(Kf st l i d e te tid rows kp).put (some tx) (.at (.own d 0 (rows.getD i []).length))) ?_ (aa h)
     intro t' fr τ z hz
     by_cases e':t'=tx
     ·subst e';rw [hg] at hz;cases hz
     ·rw [Vc _ _ e'];exact mN st l i d e te tid rows kp t' fr τ z hz
    ·cases h
   ·cases h
  ·exact aa h
 ·exact aa h
theorem yk {T:Tab} {st st':St} {d:Nat} {t:TypeId} {l c v:AV} (h:Ux T st d t l c=some (v,st')):Bc st st':=by
 unfold Ux at h
 split at h
 ·split at h
  ·split at h
   ·injection h with h;injection h with h1 h2;subst h2;exact Ia _ _ _
   ·cases h
  ·cases h
 ·cases h
theorem kr (e:Ty): ∀(l:List (Nat×Operand)) (i:Nat) (st st':St) (fr tr:Bool) (ys:List e.den),Gs e i l st=some (fr,tr,ys,st')->Bc st st'
 | [],_,_,_,_,_,_,h=>by
  simp only [Gs] at h
  injection h with h;injection h with h1 h2;injection h2 with h2 h3;injection h3 with h3 h4;subst h4;exact Bc.rfl'
 |(j,x)::r,i,st,st',fr,tr,ys,h=>by
  simp only [Gs] at h
  split at h
  ·split at h
   ·rename_i hs
    split at h
    ·split at h
     ·rename_i hp
      injection h with h;injection h with h1 h2;injection h2 with h2 h3;injection h3 with h3 h4;subst h4
      exact (Lx hs).trans (kr e r _ _ _ _ _ _ hp)
     ·cases h
    ·cases h
   ·cases h
  ·cases h
theorem jf {T:Tab} {st st':St} {d:Nat} {t:TypeId} {n:Nat} {parts:Array (Nat×Operand)} {v:AV} (h:Hl T st d t n parts=some (v,st')):Bc st st':=by
 unfold Hl at h
 split at h
 ·cases h
 ·split at h
  ·cases h
  ·split at h
   ·split at h
    ·rename_i hp
     injection h with h;injection h with h1 h2;subst h2;exact (kr _ _ _ _ _ _ _ _ hp).trans (Ia _ _ _)
    ·cases h
   ·cases h
theorem oJ {T:Tab} {st st':St} {d:Nat} {t:TypeId} {v:AV} (h:Nx T st d t=some (v,st')):Bc st st':=by
 unfold Nx at h
 split at h
 ·split at h
  ·injection h with h;injection h with h1 h2;subst h2;exact Ia _ _ _
  ·cases h
 ·cases h
theorem gV {T:Tab} {st st':St} {t:TypeId} {m k x:AV} (h:Eu T st t m k x=some st'):Bc st st':=by
 unfold Eu at h
 split at h
 ·split at h
  ·split at h
   ·injection h with h;subst h;exact Iu _ _ _
   ·cases h
  ·cases h
 ·cases h
theorem yj {T:Tab} {st st':St} {t t':TypeId} {x y v:AV} (h:bZ T st t t' x y=some (v,st')):Bc st st':=by
 unfold bZ at h
 split at h
 ·split at h
  ·split at h
   ·split at h
    ·injection h with h;injection h with h1 h2;subst h2;exact Iu _ _ _
    ·cases h
   ·cases h
  ·cases h
 ·cases h
theorem ve {T:Tab} {st st':St} {t:TypeId} {x:AV} (h:evalClear T st t x=some st'):Bc st st':=by
 unfold evalClear at h
 split at h
 ·split at h
  ·split at h
   ·split at h
    ·injection h with h;subst h;exact Iu _ _ _
    ·cases h
   ·cases h
  ·cases h
 ·cases h
theorem qy {st st':St} {c:CK} {ys:c.den} {a:AC} (h:Vz st c ys a=some st'):st'.tmps=st.tmps:=by
 unfold Vz at h
 repeat' split at h
 all_goals first|(cases h;done)|(simp only [Option.some.injEq] at h;subst h;rfl)|skip
theorem DT {st st':St} {e:Ty} {ys:List e.den} {a:AC} (h:yN st e ys a=some st'):st'.tmps=st.tmps:=by
 unfold yN at h
 repeat' split at h
 all_goals first|(cases h;done)|(simp only [Option.some.injEq] at h;subst h;rfl)|skip
theorem Ns: ∀(cs:List (Bool×CK)) (o:IOs.den cs) (as:List AC) (st st':St),Ec cs o as st=some st'->st'.tmps=st.tmps
 | [],_,_,st,st',h=>by simp only [Ec,Option.some.injEq] at h;subst h;rfl
 |(true, .Ee _)::r,o,[],st,st',h=>by simp [Ec] at h
 |(true, .row _ _)::r,o,[],st,st',h=>by simp [Ec] at h
 |(true, .Dt _ _)::r,o,[],st,st',h=>by simp [Ec] at h
 |(true, .part _ _)::r,o,[],st,st',h=>by simp [Ec] at h
 |(true, .Al _ _ _)::r,o,[],st,st',h=>by simp [Ec] at h
 |(true, .Al _ _ _)::r,o,a::as,st,st',h=>Ns r o as st st' (by simpa only [Ec] using h)
 |(false,_)::r,o,[],st,st',h=>by simp [Ec] at h
 |(true, .Ee _)::r,o,a::as,st,st',h=>Ns r o as st st' (by simpa only [Ec] using h)
 |(false,_)::r,o,a::as,st,st',h=>Ns r o as st st' (by simpa only [Ec] using h)
 |(true, .row _ _)::r,o,a::as,st,st',h=>by
  simp only [Ec] at h
  split at h
  ·rename_i hc;exact (Ns r o.2 as _ st' h).trans (qy hc)
  ·cases h
 |(true, .part _ _)::r,o,a::as,st,st',h=>by
  simp only [Ec] at h
  split at h
  ·rename_i hc;exact (Ns r o.2 as _ st' h).trans (DT hc)
  ·cases h
 |(true, .Dt _ _)::r,o,a::as,st,st',h=>by
  simp only [Ec] at h
  split at h
  ·rename_i hc;exact (Ns r o.2 as _ st' h).trans (qy hc)
  ·cases h
theorem rV (bp st:St) (ls:List Nat) (n:Nat) (hl:bp.tmps.length=st.tmps.length) (h:Bc bp st):Bc bp (fI bp st ls n):=by
 unfold fI
 split
 ·exact h
 ·intro t fr τ x hx
  show (Gx _ bp.tmps st.tmps).getD t .undef=_
  rcases aM ls bp.tmps st.tmps t hl with ⟨k,i,c,h1,_⟩|h1
  ·rw [show bp.tmps.getD t .undef=_ from hx] at h1;cases h1
  ·rw [h1];exact h t fr τ x hx
theorem vd {st st':St} {d:Option Nat} {s:MSpec} {args:List AV} {v:AV} (h:Qk st d s args=some (v,st')):Bc st st':=by
 unfold Qk at h
 split at h
 ·cases h
 split at h
 ·cases h
 split at h
 ·cases h
 split at h
 ·split at h
  ·cases h
  split at h
  ·cases h
  rename_i st1 hp
  split at h
  ·cases h
  split at h
  ·simp only [Option.some.injEq,Prod.mk.injEq] at h
   obtain ⟨_,rfl⟩:=h
   have VT:=Ns _ _ _ _ _ hp
   refine rV _ _ _ _ ?_ ?_
   ·simp only [fe,jF]
    rw [<-VT]
    simp only [St.Wh,St.Gh,List.length_map]
   ·refine Bc.trans (Bc.Ru VT) ?_
    refine Bc.trans (Jr st1 (Aw _ _) (by simp [Aw,AC.refs]) λfr τ x=>by simp [Aw,AC.refs]) (Bc.Ru jF)
  ·cases h
 ·cases h
theorem Xf (st:St) (k m:Nat) (b:OB):Bc st (Kx st k m b):=
 (Jr st (Aw [m,k] []) (by simp [Aw,AC.refs]) λfr τ x=>by simp [Aw,AC.refs]).trans (Bc.Ru rfl)
theorem vf {T:Tab} {st st':St} {d:Nat} {t:TypeId} {l c v:AV} (h:Qm T st d t l c=some (v,st')):Bc st st':=by
 unfold Qm at h
 split at h
 ·exact yk h
 ·split at h
  ·split at h
   ·injection h with h;injection h with h1 h2;subst h2;exact Xf _ _ _ _
   ·cases h
  ·cases h
theorem gT {T:Tab} {st st':St} {d:Nat} {t:TypeId} {n:Nat} {parts:Array (Nat×Operand)} {v:AV} (h:Er T st d t n parts=some (v,st')):Bc st st':=by
 unfold Er at h
 split at h
 ·exact jf h
 ·repeat' split at h
  all_goals first|(cases h;done)|(injection h with h;injection h with h1 h2;subst h2;exact Xf _ _ _ _)
theorem oI {T:Tab} {st st':St} {d:Nat} {t:TypeId} {x y:Operand} {v:AV} (h:Lh T st d t x y=some (v,st')):Bc st st':=by
 unfold Lh at h
 split at h
 ·exact oH h
 ·repeat' split at h
  all_goals first|(cases h;done)|(injection h with h;injection h with h1 h2;subst h2;exact Xf _ _ _ _)
theorem Yo {st st':St} {v:AV} {o:Option AV} (h:o.map (λv=>(v,st))=some (v,st')):Bc st st':=by
 cases o with
 |none=>cases h
 |some u=>injection h with h;injection h with h1 h2;subst h2;exact Bc.rfl'
theorem Sx: ∀(l:List Operand) {st st1:St},Jl l st=some st1->Bc st st1
 | [],st,st1,h=>by
  simp only [Jl,Option.some.injEq] at h
  subst h
  exact Bc.rfl'
 |x::r,st,st1,h=>by
  simp only [Jl] at h
  cases hs:settle st (st.ev x) with
  |none=>rw [hs] at h;cases h
  |some p=>
   rw [hs] at h
   exact (Lx (v':=p.1) (st':=p.2) hs).trans (Sx r h)
theorem gF {T:Tab} {Γ:Env} {st st':St} {o:Oper} {v:AV} (h:evalOp T Γ st o=some (v,st')):Bc st st':=by
 unfold evalOp at h
 split at h
 ·split at h
  ·split at h
   ·injection h with h;injection h with h1 h2;subst h2;exact Ia _ _ _
   ·cases h
  ·injection h with h;injection h with h1 h2;subst h2;exact Bc.rfl'
 ·split at h
  ·exact kq h
  ·cases h
 ·split at h
  ·split at h
   ·exact kq h
   ·cases h
  ·cases h
 ·rename_i t p x _
  cases hs:Jw T st t (st.ev p) (st.ev x) with
  |none=>rw [hs] at h;cases h
  |some s=>rw [hs] at h;injection h with h;injection h with h1 h2;subst h2;exact rX hs
 ·split at h
  ·exact vf h
  ·cases h
 ·split at h
  ·exact oJ h
  ·cases h
 ·rename_i t m k x _
  cases hs:Eu T st t (st.ev m) (st.ev k) (st.ev x) with
  |none=>rw [hs] at h;cases h
  |some s=>rw [hs] at h;injection h with h;injection h with h1 h2;subst h2;exact gV hs
 ·rename_i t m k x _
  cases hs:Eu T st t (st.ev m) (st.ev k) (st.ev x) with
  |none=>rw [hs] at h;cases h
  |some s=>rw [hs] at h;injection h with h;injection h with h1 h2;subst h2;exact gV hs
 ·split at h
  ·exact gT h
  ·cases h
 ·exact Yo h
 ·split at h
  ·split at h
   ·exact oI h
   ·cases h
  ·cases h
 ·split at h
  ·exact yj h
  ·cases h
 ·split at h
  ·rename_i x t _ _
   cases hs:evalClear T st t (st.ev x) with
   |none=>rw [hs] at h;cases h
   |some s=>rw [hs] at h;injection h with h;injection h with h1 h2;subst h2;exact ve hs
  ·cases h
 ·split at h
  ·exact vd h
  ·split at h
   ·rename_i args _ _ _ _ _ _
    cases hs:Jl args.toList st with
    |none=>rw [hs] at h;cases h
    |some st1=>
     rw [hs] at h
     exact (Sx _ hs).trans (Yo h)
   ·exact Yo h
  ·exact Yo h
 ·exact Yo h
def Kt:List Oper->List Nat
 | []=> []
 |o::r=>(match o.dst with|some d=> [d]|none=> [])++Kt r
def writes:Code->List Nat
 | .region _ ops _=>Kt ops.toList
 | .seq a b=>writes a++writes b
 | .cond _ a b=>writes a++writes b
 | .block _ c=>writes c
 | .loop c=>writes c
 |_=> []
def Fc (P:Nat->Prop) (st st':St):Prop:= ∀(t:Nat) (fr:Bool) (τ:Ty) (x:τ.den),P t->st.get t= .at (.data fr τ x)->st'.get t= .at (.data fr τ x)
theorem Fc.trans {P:Nat->Prop} {a b c:St} (h1:Fc P a b) (h2:Fc P b c):Fc P a c:= λt fr τ x hp h=>h2 t fr τ x hp (h1 t fr τ x hp h)
theorem Fc.mono {P Q:Nat->Prop} {a b:St} (h1:Fc P a b) (h: ∀t,Q t->P t):Fc Q a b:= λt fr τ x hp hx=>h1 t fr τ x (h t hp) hx
theorem Bc.on {P:Nat->Prop} {a b:St} (h:Bc a b):Fc P a b:= λt fr τ x _ hx=>h t fr τ x hx
theorem Wk (st:St) (dst:Option Tmp) (v:AV):Fc (λt=>dst≠some t) st (st.put dst v):=by
 intro t fr τ x hp hx
 cases dst with
 |none=>exact hx
 |some d=>rw [Vc st v (λh=>hp (by rw [h]))];exact hx
theorem c5 {T:Tab} {Γ:Env} {ops:Array Oper} {st st':St} {o:Oper} (h:Cl T Γ ops st o=some st'):Fc (λt=>o.dst≠some t) st st':=by
 have key: ∀s,(evalOp T Γ st o).map (λr=>r.2.put o.dst r.1)=some s->Fc (λt=>o.dst≠some t) st s:=by
  intro s hs
  cases he:evalOp T Γ st o with
  |none=>rw [he] at hs;cases hs
  |some p=>rw [he] at hs;injection hs with hs;subst hs;exact (gF (v:=p.1) (st':=p.2) he).on.trans (Wk _ _ _)
 unfold Cl at h
 split at h
 ·exact key _ h
 ·split at h
  ·split at h
   ·exact key _ h
   ·injection h with h;subst h;exact Wk _ _ _
  ·injection h with h;subst h;exact Wk _ _ _
  ·cases h
theorem e8 {T:Tab} {Γ:Env} {ops:Array Oper} : ∀(l:List Oper) (st st':St),Tq T Γ ops l st=some st'->Fc (λt=>t∉Kt l) st st'
 | [],st,st',h=>by injection h with h;subst h;exact Bc.rfl'.on
 |o::r,st,st',h=>by
  simp only [Tq] at h
  split at h
  ·rename_i s hs
   refine Fc.trans ((c5 hs).mono λt ht=>?_) ((e8 r _ _ h).mono λt ht=>?_)
   ·intro hd;apply ht;simp [Kt,hd]
   ·intro hd;apply ht;simp [Kt,hd]
  ·cases h
theorem Xj: ∀(l:List Oper) (o:Oper) (d:Nat),o∈l->o.dst=some d->d∈Kt l
 | [],_,_,h,_=>by cases h
 |p::r,o,d,h,hd=>by
  cases h with
  |head=>simp [Kt,hd]
  |tail _ h=>simp only [Kt,List.mem_append];exact .inr (Xj r o d h hd)
theorem qk {ops:Array Oper} {i:Nat} {o:Oper} (h:ops[i]?=some o):o∈ops.toList:=by
 rw [Array.getElem?_eq_some_iff] at h
 obtain ⟨h1,h2⟩:=h
 rw [<-h2]
 simp
theorem Xd {T:Tab} {Γ:Env} {ops:Array Oper} : ∀(l:List Nat) (st st':St),Jc T Γ ops l st=some st'->Fc (λt=>t∉Kt ops.toList) st st'
 | [],st,st',h=>by injection h with h;subst h;exact Bc.rfl'.on
 |i::r,st,st',h=>by
  simp only [Jc] at h
  split at h
  ·cases h
  ·rename_i o ho
   split at h
   ·rename_i s hs
    exact ((c5 hs).mono λt ht hd=>ht (Xj _ _ _ (qk ho) hd)).trans (Xd r _ _ h)
   ·cases h
theorem Uy {T:Tab} {Γ:Env} {ops:Array Oper} : ∀(l:List Nat) (st st':St),Ea T Γ ops l st=some st'->Fc (λt=>t∉Kt ops.toList) st st'
 | [],st,st',h=>by injection h with h;subst h;exact Bc.rfl'.on
 |i::r,st,st',h=>by
  simp only [Ea] at h
  split at h
  ·cases h
  ·rename_i o ho
   split at h
   ·exact ((Wk _ _ _).mono λt ht hd=>ht (Xj _ _ _ (qk ho) hd)).trans (Uy r _ _ h)
   ·cases h
theorem bb: ∀(l:List Nat) (st:St),Bc st (Ye l st)
 | [],_=>Bc.rfl'
 |a::r,st=>(gU st a).trans (bb r _)
theorem bO (live:List Nat): ∀(i:Nat) (l:List AV) (t:Nat),i+t∈live->(Fw live i l).getD t .undef=l.getD t .undef
 |_,[],_,_=>rfl
 |i,v::r,0,h=>by simp [Fw];intro hn;exact absurd h hn
 |i,v::r,t+1,h=>by
  simp only [Fw,List.getD_cons_succ]
  exact bO live (i+1) r t (by rw [show i+1+t=i+(t+1) by omega];exact h)
theorem rW (l k:Nat) (st:St):Bc st (st.rename l k):=by
 unfold St.rename
 split
 ·split
  ·exact (Jr st (Oe l k) rfl λ_ _ _=>rfl).trans (Bc.Ru rfl)
  ·exact Bc.rfl'
 ·exact Bc.rfl'
theorem Yq: ∀(n t:Nat) (st:St),Bc st (Hq n t st)
 |0,_,_=>Bc.rfl'
 |n+1,t,st=>by
  simp only [Hq]
  refine Bc.trans ?_ (Yq n (t+1) _)
  split
  ·split
   ·split
    ·exact Bc.rfl'
    ·exact rW _ _ _
   ·exact Bc.rfl'
  ·exact Bc.rfl'
theorem mO (t:Nat) (st:St):Bc st (Vo t st):=by
 unfold Vo
 split
 ·rename_i l off len hg
  split
  ·split
   ·intro k fr τ x hk
    have Ff:k≠t:= λe=>by subst e;rw [hg] at hk;cases hk
    rw [Vc _ _ Ff]
    exact Ia _ _ _ k fr τ x hk
   ·exact Bc.rfl'
  ·exact Bc.rfl'
 ·exact Bc.rfl'
theorem bf (live:List Nat): ∀(n t:Nat) (st:St),Bc st (Jk live n t st)
 |0,_,_=>Bc.rfl'
 |n+1,t,st=>by
  simp only [Jk]
  refine Bc.trans ?_ (bf live n (t+1) _)
  split
  ·exact mO _ _
  ·exact Bc.rfl'
theorem ez (live:List Nat) (st:St):Fc (λt=>t∈live) st (st.clean live):=by
 intro t fr τ x hp hx
 unfold St.clean
 have key: ∀s:St,s.get t= .at (.data fr τ x)->(if live.contains Wq then Hq s.tmps.length 0 s else s).get t= .at (.data fr τ x):=by
  intro s hs
  split
  ·exact Yq _ _ s t fr τ x hs
  ·exact hs
 have IA: ∀s:St,s.get t= .at (.data fr τ x)->(if live.any (λt=>Nat.ble Sr t) then s.Ev live else s).get t= .at (.data fr τ x):=by
  intro s hs
  split<;>exact hs
 have IB: ∀s:St,s.get t= .at (.data fr τ x)->(if live.any (λt=>Nat.ble Lo t&&Nat.blt t Wq) then Jk live s.tmps.length 0 s else s).get t= .at (.data fr τ x):=by
  intro s hs
  split
  ·exact bf _ _ _ s t fr τ x hs
  ·exact hs
 refine IA _ (key _ (IB _ (bb _ _ t fr τ x ?_)))
 simp only [St.get] at hx⊢
 rw [bO live 0 st.tmps t (by simpa using hp)]
 exact hx
def Vg (live:Nat->List Nat):Code->Nat->Bool
 | .seq a b,t=>Vg live a t&&Vg live b t
 | .cond _ a b,t=>Vg live a t&&Vg live b t
 | .block _ c,t=>Vg live c t
 | .loop c,t=>(live (Ch c)).contains t&&Vg live c t
 |_,_=>true
theorem iR {a b:Bool} (h:(a&&b)=true):a=true:=by cases a<;>simp_all
theorem ff {a b:Bool} (h:(a&&b)=true):b=true:=by cases a<;>simp_all
theorem iX {T:Tab} {Γ:Env} {ops:Array Oper} {draw:Bool} {st st':St} (h:Li T Γ ops draw st=some st'):Fc (λt=>t∉writes (.region 0 ops draw)) st st':=by
 unfold Li at h
 have go: ∀q,(match Ea T Γ ops (dx q Γ ops) st with
   |some s=>Jc T Γ ops (Fe q Γ ops) s
   |none=>none)=some st'->Fc (λt=>t∉writes (.region 0 ops draw)) st st':=by
  intro q h
  split at h
  ·rename_i s hs
   exact (Uy _ _ _ hs).trans (Xd _ _ _ h)
  ·cases h
 split at h
 ·split at h
  ·exact go false h
  ·split at h
   ·exact go true h
   ·cases h
 ·exact e8 _ _ _ h
theorem lV {T:Tab} {Γ:Env} {ops:Array Oper} {draw:Bool} {K:St->Prop} (s0:St): ∀(f:Nat) (Ab:Array Bool) (st:St),Fc (λt=>t∉writes (.region 0 ops draw)) s0 st->anyS T Γ ops K f Ab st->anyS T Γ ops (λs=>K s/\Fc (λt=>t∉writes (.region 0 ops draw)) s0 s) f Ab st
 |0,_,_,hk,h=>⟨h.1,h.2,hk⟩
 |f+1,Ab,st,hk,h=>⟨h.1,λi hi=>by
  obtain ⟨o,st',h1,h2,h3⟩:=h.2 i hi
  have h4:Jc T Γ ops [i] st=some st':=by simp only [Jc,h1,h2]
  exact ⟨o,st',h1,h2,lV s0 f _ _ (hk.trans (Xd _ _ _ h4)) h3⟩⟩
theorem qX.keeps {T:Tab} {Γ:Env} {ops:Array Oper} {draw:Bool} {st:St} {K:St->Prop} (h:qX T Γ ops draw st K):qX T Γ ops draw st (λs=>K s/\Fc (λt=>t∉writes (.region 0 ops draw)) st s):=by
 rcases h with ⟨st',h1,h2⟩|⟨h1,h2,bp,h3,h4⟩
 ·exact .inl ⟨st',h1,h2,iX h1⟩
 ·exact .inr ⟨h1,h2,bp,h3,lV st _ _ _ (Uy _ _ _ h3) h4⟩
theorem yX {T:Tab} {Γ:Env} {live:Nat->List Nat} {c:Code} {st:St} {Q:Gw->St->Prop} (h:Ja T Γ live c st Q): ∀(s0:St) (p:Nat->Prop),Fc p s0 st->(∀t,p t->t∉writes c/\Vg live c t=true)->Ja T Γ live c st (λe s=>Q e s/\Fc p s0 s):=by
 induction h with
 |skip h=>exact λs0 p hk _=> .skip ⟨h,hk⟩
 |label h=>exact λs0 p hk _=> .label ⟨h,hk⟩
 |exit h=>exact λs0 p hk _=> .exit ⟨h,hk⟩
 |ret h=>exact λs0 p hk _=> .ret ⟨h,hk⟩
 |region h=>
  exact λs0 p hk hp=> .region (h.keeps.mono λs hs=>⟨hs.1,hk.trans (hs.2.mono λt ht=>(hp t ht).1)⟩)
 |seq Q1 _ _ h3 CJ uX=>
  exact λs0 p hk hp=> .seq _ (CJ s0 p hk λt ht=>⟨λhm=>(hp t ht).1 (by simp [writes,hm]),iR (hp t ht).2⟩)
   (λs hs=>uX s hs.1 s0 p hs.2 λt ht=>⟨λhm=>(hp t ht).1 (by simp [writes,hm]),ff (hp t ht).2⟩) λe s he hs=>⟨h3 e s he hs.1,hs.2⟩
 |cond hc _ _ CJ uX=>
  exact λs0 p hk hp=> .cond hc (λht=>CJ ht s0 p hk λt h=>⟨λhm=>(hp t h).1 (by simp [writes,hm]),iR (hp t h).2⟩)
   fun ht=>uX ht s0 p hk λt h=>⟨λhm=>(hp t h).1 (by simp [writes,hm]),ff (hp t h).2⟩
 |block Q1 _ h2 ih=>
  exact λs0 p hk hp=> .block _ (ih s0 p hk λt ht=>⟨λhm=>(hp t ht).1 (by simpa [writes] using hm),by simpa [Vg] using (hp t ht).2⟩) λe s hs=>by
   have h:=h2 e s hs.1
   cases e with
   |normal=>exact ⟨h,hs.2⟩
   |ret=>exact ⟨h,hs.2⟩
   |exit CH=>
    simp only [pZ] at h⊢
    split at h
    ·rename_i hi;rw [if_pos hi];exact ⟨h,hs.2⟩
    ·rename_i hi;rw [if_neg hi];exact ⟨h,hs.2⟩
 |loop Q1 _ _ h3 CJ uX=>
  intro s0 p hk hp
  refine .loop _ (CJ s0 p (hk.trans ((ez _ _).mono λt ht=>by simpa using iR (hp t ht).2)) λt ht=>⟨λhm=>(hp t ht).1 (by simpa [writes] using hm),ff (hp t ht).2⟩)
   (λs hs=>uX s hs.1 s0 p hs.2 hp) λe s he hs=>⟨h3 e s he hs.1,hs.2⟩
end Go.Proofs.Ytjbdmibbbpdnnaa
