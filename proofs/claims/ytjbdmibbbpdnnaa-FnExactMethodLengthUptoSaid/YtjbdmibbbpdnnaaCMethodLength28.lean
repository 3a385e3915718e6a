/-
  Part 29 of the proof that the statement FnExactMethodLength holds.
-/
import Derived.Test.YtjbdmibbbpdnnaaCMethodLength27
namespace Go.Proofs.Ytjbdmibbbpdnnaa
open Go.RowKit
def Bc (st st':St):Prop:= ∀(t:Nat) (fr:Bool) (τ:Ty) (x:τ.den),st.get t= .at (.data fr τ x)->st'.get t= .at (.data fr τ x)
theorem Bc.rfl' {st:St} :Bc st st:= λ_ _ _ _ h=>h
theorem Bc.trans {a b c:St} (h1:Bc a b) (h2:Bc b c):Bc a c:= λt fr τ x h=>h2 t fr τ x (h1 t fr τ x h)
theorem Bc.Rq {a b:St} (h:b.tmps=a.tmps):Bc a b:= λt fr τ x hx=>by
 simp only [St.get] at hx⊢
 rw [h]
 exact hx
theorem Uz (st:St) {t d:Nat} (v:AV) (h:t≠d):(st.put (some d) v).get t=st.get t:=by
 simp only [St.put,St.get]
 rw [Ui]
 rw [if_neg (by rintro ⟨rfl,_⟩;exact h rfl)]
theorem Jz (st:St) (f:AC->AC) (hu:f .undef= .undef) (hd: ∀fr (τ:Ty) (x:τ.den),f (.data fr τ x)= .data fr τ x):Bc st (st.Gp f):=by
 intro t fr τ x h
 simp only [St.Gp,St.get]
 rw [Sa f hu,show st.tmps.getD t .undef=_ from h]
 simp only [AV.map,hd]
theorem il (st:St) (l:Nat):Bc st (st.forget l):=
 (Jz st (Ba l) rfl λ_ _ _=>rfl).trans (Bc.Rq rfl)
theorem Tp (st:St) (l:Nat) (fr:Bool) (e:Ty) (xs:List e.den):Bc st (st.freeze l fr e xs):=
 (Jz st (Bb l fr e xs) rfl λ_ _ _=>rfl).trans (Bc.Rq rfl)
theorem bk (st:St) (l:Nat) (v:Ty) (m:ByteArray->Option v.den):Bc st (st.En l v m):=
 (Jz st (Dm l v m) rfl λ_ _ _=>rfl).trans (Bc.Rq rfl)
theorem Ig (st:St) (l:Nat) (b:OB):Bc st (st.new l b):=(il st l).trans (Bc.Rq rfl)
theorem Jd (st:St) (l:Nat) (b:OB):Bc st (st.Gf l b):=Bc.Rq rfl
theorem Yr (b:OB) (key l i:Nat) (st:St):Bc st (Ns b key l i st):=by
 unfold Ns
 split
 ·split
  ·dsimp only
   split
   ·exact (Ig _ _ _).trans (Jd _ _ _)
   ·exact Ig _ _ _
  ·exact Bc.rfl'
 ·exact Bc.rfl'
theorem eM (T:Tab) (l:Nat) (t:TypeId) (τ:Ty): ∀(n i:Nat) (st:St),Bc st (aA T l t τ n i st)
 |0,_,_=>Bc.rfl'
 |n+1,i,st=>by
  simp only [aA]
  refine Bc.trans ?_ (eM T l t τ n (i+1) _)
  split
  ·exact Yr _ _ _ _ _
  ·exact Bc.rfl'
theorem cC (T:Tab) (l off:Nat) (t:TypeId) (τ:Ty): ∀(n i:Nat) (st:St),Bc st (Yv T l off t τ n i st)
 |0,_,_=>Bc.rfl'
 |n+1,i,st=>by
  simp only [Yv]
  refine Bc.trans ?_ (cC T l off t τ n (i+1) _)
  split
  ·exact Yr _ _ _ _ _
  ·exact Bc.rfl'
theorem Lc: ∀(n:Nat) (st:St) (cs cc:List AC) (st':St),Du n st cs=some (cc,st')->Bc st st'
 |0,st,cs,cc,st',h=>by
  simp only [Du] at h
  split at h
  ·injection h with h;injection h with h1 h2;subst h2;exact Bc.rfl'
  ·cases h
 |n+1,st,cs,cc,st',h=>by
  simp only [Du] at h
  split at h
  ·injection h with h;injection h with h1 h2;subst h2;exact Bc.rfl'
  ·split at h
   ·exact (Tp _ _ _ _ _).trans (Lc n _ _ _ _ h)
   ·exact (Tp _ _ _ _ _).trans (Lc n _ _ _ _ h)
   ·cases h
  ·split at h
   ·exact (bk _ _ _ _).trans (Lc n _ _ _ _ h)
   ·cases h
  ·cases h
theorem Lz {st st':St} {v v':AV} (h:settle st v=some (v',st')):Bc st st':=by
 unfold settle at h
 split at h
 ·split at h
  ·injection h with h;injection h with h1 h2;subst h2;exact Tp _ _ _ _ _
  ·injection h with h;injection h with h1 h2;subst h2;exact Tp _ _ _ _ _
  ·cases h
 ·split at h
  ·injection h with h;injection h with h1 h2;subst h2;exact bk _ _ _ _
  ·cases h
 ·split at h
  ·injection h with h;injection h with h1 h2;subst h2;exact Bc.rfl'
  ·cases h
 ·rename_i cs
  cases hs:Du cs.length st cs with
  |none=>rw [hs] at h;cases h
  |some p=>rw [hs] at h;injection h with h;injection h with h1 h2;subst h2;exact Lc _ _ _ _ _ hs
 ·injection h with h;injection h with h1 h2;subst h2;exact Bc.rfl'
 ·cases h
theorem kN {T:Tab} {st st':St} {l:Nat} {t:TypeId} {τ:Ty} {cs:List AC} {v:AV} (h:mkVar T st l t τ cs=some (v,st')):Bc st st':=by
 unfold mkVar at h
 split at h
 ·cases h
 dsimp only at h
 split at h
 ·injection h with h;injection h with h1 h2;subst h2;exact (Ig _ _ _).trans (eM _ _ _ _ _ _ _)
 ·cases h
theorem we {T:Tab} {st st':St} {t:TypeId} {p v:AV} (h:Nz T st t p v=some st'):Bc st st':=by
 unfold Nz at h
 split at h
 ·split at h
  ·split at h
   ·injection h with h
    split at h
    ·subst h;exact (Jd _ _ _).trans (cC _ _ _ _ _ _ _ _)
    ·subst h;exact Jd _ _ _
   ·cases h
  ·cases h
 ·split at h
  ·rename_i hs
   split at h
   ·split at h
    ·split at h
     ·injection h with h;subst h;exact (Lz hs).trans (Jd _ _ _)
     ·cases h
    ·cases h
   ·cases h
  ·cases h
 ·cases h
theorem ni (st:St) (l j m:Nat) (e:Ty) (te:TypeId) (rows:List (List e.den)) (xs:List e.den) (kp:Option (Nat×Nat)):Bc st (Mx st l j m e te rows xs kp):=
 ((Jz st (Aw [m] [l]) (by simp [Aw,AC.refs]) λfr τ x=>by simp [Aw,AC.refs]).trans (Bc.Rq rfl)).trans (Jd (st.Wf [m] [l]) _ _)
theorem nj (st:St) (l i m:Nat) (e:Ty) (te tid:TypeId) (rows:List (List e.den)) (kp:Option (Nat×Nat)):Bc st (Kj st l i m e te tid rows kp):=
 (Jd st l _).trans (Ig _ m _)
theorem sS {T:Tab} {st st':St} {t:TypeId} {p v:AV} (h:Kc T st t p v=some st'):Bc st st':=by
 unfold Kc at h
 split at h
 rotate_left
 ·exact we h
 unfold Uy at h
 split at h
 ·split at h
  ·rename_i hs
   split at h
   ·split at h
    ·injection h with h;subst h;exact (Lz hs).trans (Jd _ _ _)
    ·cases h
   ·cases h
  ·cases h
 ·split at h
  ·split at h
   ·split at h
    ·injection h with h;subst h
     exact ni _ _ _ _ _ _ _ _ _
    ·cases h
   ·cases h
  ·cases h
 ·cases h
theorem ag {T:Tab} {st st':St} {d:Nat} {t:TypeId} {x y:Operand} {v:AV} (h:Iy T st d t x y=some (v,st')):Bc st st':=by
 unfold Iy at h
 split at h
 ·cases h
 ·split at h
  ·rename_i hs
   split at h
   ·cases h
   ·split at h
    ·split at h
     ·injection h with h;injection h with h1 h2;subst h2;exact ((Lz hs).trans (Ig _ _ _)).trans (Ig _ _ _)
     ·cases h
    ·split at h
     ·split at h
      ·split at h
       ·injection h with h;injection h with h1 h2;subst h2;exact (Lz hs).trans (Ig _ _ _)
       ·cases h
      ·cases h
     ·cases h
    ·cases h
  ·cases h
theorem po {T:Tab} {st st':St} {d:Nat} {t:TypeId} {x y:Operand} {v:AV} (h:Lj T st d t x y=some (v,st')):Bc st st':=by
 unfold Lj at h
 split at h
 ·rename_i tx
  split at h
  ·rename_i l i c hg
   split at h
   ·split at h
    ·rename_i e te rows kp tid hl ht hc
     refine Bc.trans (b:=(Kj st l i d e te tid rows kp).put (some tx) (.at (.own d 0 (rows.getD i []).length))) ?_ (ag h)
     intro t' fr τ z hz
     by_cases e':t'=tx
     ·subst e';rw [hg] at hz;cases hz
     ·rw [Uz _ _ e'];exact nj st l i d e te tid rows kp t' fr τ z hz
    ·cases h
   ·cases h
  ·exact ag h
 ·exact ag h
theorem yW {T:Tab} {st st':St} {d:Nat} {t:TypeId} {l c v:AV} (h:Uv T st d t l c=some (v,st')):Bc st st':=by
 unfold Uv at h
 split at h
 ·split at h
  ·split at h
   ·injection h with h;injection h with h1 h2;subst h2;exact Ig _ _ _
   ·cases h
  ·cases h
 ·cases h
theorem kO (e:Ty): ∀(l:List (Nat×Operand)) (i:Nat) (st st':St) (fr tr:Bool) (ys:List e.den),Gv e i l st=some (fr,tr,ys,st')->Bc st st'
 | [],_,_,_,_,_,_,h=>by
  simp only [Gv] at h
  injection h with h;injection h with h1 h2;injection h2 with h2 h3;injection h3 with h3 h4;subst h4;exact Bc.rfl'
 |(j,x)::r,i,st,st',fr,tr,ys,h=>by
  simp only [Gv] at h
  split at h
  ·split at h
   ·rename_i hs
    split at h
    ·split at h
     ·rename_i hp
      injection h with h;injection h with h1 h2;injection h2 with h2 h3;injection h3 with h3 h4;subst h4
      exact (Lz hs).trans (kO e r _ _ _ _ _ _ hp)
     ·cases h
    ·cases h
   ·cases h
  ·cases h
theorem jz {T:Tab} {st st':St} {d:Nat} {t:TypeId} {n:Nat} {parts:Array (Nat×Operand)} {v:AV} (h:Hm T st d t n parts=some (v,st')):Bc st st':=by
 unfold Hm at h
 split at h
 ·cases h
 ·split at h
  ·cases h
  ·split at h
   ·split at h
    ·rename_i hp
     injection h with h;injection h with h1 h2;subst h2;exact (kO _ _ _ _ _ _ _ _ hp).trans (Ig _ _ _)
    ·cases h
   ·cases h
theorem pt {T:Tab} {st st':St} {d:Nat} {t:TypeId} {v:AV} (h:Ny T st d t=some (v,st')):Bc st st':=by
 unfold Ny at h
 split at h
 ·split at h
  ·injection h with h;injection h with h1 h2;subst h2;exact Ig _ _ _
  ·cases h
 ·cases h
theorem im {T:Tab} {st st':St} {t:TypeId} {m k x:AV} (h:Fa T st t m k x=some st'):Bc st st':=by
 unfold Fa at h
 split at h
 ·split at h
  ·split at h
   ·injection h with h;subst h;exact Jd _ _ _
   ·cases h
  ·cases h
 ·cases h
theorem yV {T:Tab} {st st':St} {t t':TypeId} {x y v:AV} (h:cg T st t t' x y=some (v,st')):Bc st st':=by
 unfold cg at h
 split at h
 ·split at h
  ·split at h
   ·split at h
    ·injection h with h;injection h with h1 h2;subst h2;exact Jd _ _ _
    ·cases h
   ·cases h
  ·cases h
 ·cases h
theorem wb {T:Tab} {st st':St} {t:TypeId} {x:AV} (h:evalClear T st t x=some st'):Bc st st':=by
 unfold evalClear at h
 split at h
 ·split at h
  ·split at h
   ·split at h
    ·injection h with h;subst h;exact Jd _ _ _
    ·cases h
   ·cases h
  ·cases h
 ·cases h
theorem rk {st st':St} {c:CK} {ys:c.den} {a:AC} (h:Vy st c ys a=some st'):st'.tmps=st.tmps:=by
 unfold Vy at h
 repeat' split at h
 all_goals first|(cases h;done)|(simp only [Option.some.injEq] at h;subst h;rfl)|skip
theorem FU {st st':St} {e:Ty} {ys:List e.den} {a:AC} (h:zw st e ys a=some st'):st'.tmps=st.tmps:=by
 unfold zw at h
 repeat' split at h
 all_goals first|(cases h;done)|(simp only [Option.some.injEq] at h;subst h;rfl)|skip
theorem Nt: ∀(cs:List (Bool×CK)) (o:IOs.den cs) (as:List AC) (st st':St),Ee cs o as st=some st'->st'.tmps=st.tmps
 | [],_,_,st,st',h=>by simp only [Ee,Option.some.injEq] at h;subst h;rfl
 |(true, .Gt _)::r,o,[],st,st',h=>by simp [Ee] at h
 |(true, .row _ _)::r,o,[],st,st',h=>by simp [Ee] at h
 |(true, .Dx _ _)::r,o,[],st,st',h=>by simp [Ee] at h
 |(true, .part _ _)::r,o,[],st,st',h=>by simp [Ee] at h
 |(true, .Ak _ _ _)::r,o,[],st,st',h=>by simp [Ee] at h
 |(true, .Ak _ _ _)::r,o,a::as,st,st',h=>Nt r o as st st' (by simpa only [Ee] using h)
 |(false,_)::r,o,[],st,st',h=>by simp [Ee] at h
 |(true, .Gt _)::r,o,a::as,st,st',h=>Nt r o as st st' (by simpa only [Ee] using h)
 |(false,_)::r,o,a::as,st,st',h=>Nt r o as st st' (by simpa only [Ee] using h)
 |(true, .row _ _)::r,o,a::as,st,st',h=>by
  simp only [Ee] at h
  split at h
  ·rename_i hc;exact (Nt r o.2 as _ st' h).trans (rk hc)
  ·cases h
 |(true, .part _ _)::r,o,a::as,st,st',h=>by
  simp only [Ee] at h
  split at h
  ·rename_i hc;exact (Nt r o.2 as _ st' h).trans (FU hc)
  ·cases h
 |(true, .Dx _ _)::r,o,a::as,st,st',h=>by
  simp only [Ee] at h
  split at h
  ·rename_i hc;exact (Nt r o.2 as _ st' h).trans (rk hc)
  ·cases h
theorem sQ (bx st:St) (ls:List Nat) (n:Nat) (hl:bx.tmps.length=st.tmps.length) (h:Bc bx st):Bc bx (fQ bx st ls n):=by
 unfold fQ
 split
 ·exact h
 ·intro t fr τ x hx
  show (Hc _ bx.tmps st.tmps).getD t .undef=_
  rcases aR ls bx.tmps st.tmps t hl with ⟨k,i,c,h1,_⟩|h1
  ·rw [show bx.tmps.getD t .undef=_ from hx] at h1;cases h1
  ·rw [h1];exact h t fr τ x hx
theorem wa {st st':St} {d:Option Nat} {s:MSpec} {args:List AV} {v:AV} (h:Qh st d s args=some (v,st')):Bc st st':=by
 unfold Qh at h
 split at h
 ·cases h
 split at h
 ·cases h
 split at h
 ·cases h
 split at h
 ·split at h
  ·cases h
  split at h
  ·cases h
  rename_i st1 hp
  split at h
  ·cases h
  split at h
  ·simp only [Option.some.injEq,Prod.mk.injEq] at h
   obtain ⟨_,rfl⟩:=h
   have ZI:=Nt _ _ _ _ _ hp
   refine sQ _ _ _ _ ?_ ?_
   ·simp only [fp,jY]
    rw [<-ZI]
    simp only [St.Wf,St.Gp,List.length_map]
   ·refine Bc.trans (Bc.Rq ZI) ?_
    refine Bc.trans (Jz st1 (Aw _ _) (by simp [Aw,AC.refs]) λfr τ x=>by simp [Aw,AC.refs]) (Bc.Rq jY)
  ·cases h
 ·cases h
theorem Xi (st:St) (k m:Nat) (b:OB):Bc st (La st k m b):=
 (Jz st (Aw [m,k] []) (by simp [Aw,AC.refs]) λfr τ x=>by simp [Aw,AC.refs]).trans (Bc.Rq rfl)
theorem wc {T:Tab} {st st':St} {d:Nat} {t:TypeId} {l c v:AV} (h:Qj T st d t l c=some (v,st')):Bc st st':=by
 unfold Qj at h
 split at h
 ·exact yW h
 ·split at h
  ·split at h
   ·injection h with h;injection h with h1 h2;subst h2;exact Xi _ _ _ _
   ·cases h
  ·cases h
theorem ik {T:Tab} {st st':St} {d:Nat} {t:TypeId} {n:Nat} {parts:Array (Nat×Operand)} {v:AV} (h:Ew T st d t n parts=some (v,st')):Bc st st':=by
 unfold Ew at h
 split at h
 ·exact jz h
 ·repeat' split at h
  all_goals first|(cases h;done)|(injection h with h;injection h with h1 h2;subst h2;exact Xi _ _ _ _)
theorem pq {T:Tab} {st st':St} {d:Nat} {t:TypeId} {x y:Operand} {v:AV} (h:Lk T st d t x y=some (v,st')):Bc st st':=by
 unfold Lk at h
 split at h
 ·exact po h
 ·repeat' split at h
  all_goals first|(cases h;done)|(injection h with h;injection h with h1 h2;subst h2;exact Xi _ _ _ _)
theorem Yq {st st':St} {v:AV} {o:Option AV} (h:o.map (λv=>(v,st))=some (v,st')):Bc st st':=by
 cases o with
 |none=>cases h
 |some u=>injection h with h;injection h with h1 h2;subst h2;exact Bc.rfl'
theorem Ss: ∀(l:List Operand) {st st1:St},Ju l st=some st1->Bc st st1
 | [],st,st1,h=>by
  simp only [Ju,Option.some.injEq] at h
  subst h
  exact Bc.rfl'
 |x::r,st,st1,h=>by
  simp only [Ju] at h
  cases hs:settle st (st.ev x) with
  |none=>rw [hs] at h;cases h
  |some p=>
   rw [hs] at h
   exact (Lz (v':=p.1) (st':=p.2) hs).trans (Ss r h)
theorem gV {T:Tab} {Γ:Env} {st st':St} {o:Oper} {v:AV} (h:evalOp T Γ st o=some (v,st')):Bc st st':=by
 unfold evalOp at h
 split at h
 ·split at h
  ·split at h
   ·injection h with h;injection h with h1 h2;subst h2;exact Ig _ _ _
   ·cases h
  ·injection h with h;injection h with h1 h2;subst h2;exact Bc.rfl'
 ·split at h
  ·exact kN h
  ·cases h
 ·split at h
  ·split at h
   ·exact kN h
   ·cases h
  ·cases h
 ·rename_i t p x _
  cases hs:Kc T st t (st.ev p) (st.ev x) with
  |none=>rw [hs] at h;cases h
  |some s=>rw [hs] at h;injection h with h;injection h with h1 h2;subst h2;exact sS hs
 ·split at h
  ·exact wc h
  ·cases h
 ·split at h
  ·exact pt h
  ·cases h
 ·rename_i t m k x _
  cases hs:Fa T st t (st.ev m) (st.ev k) (st.ev x) with
  |none=>rw [hs] at h;cases h
  |some s=>rw [hs] at h;injection h with h;injection h with h1 h2;subst h2;exact im hs
 ·rename_i t m k x _
  cases hs:Fa T st t (st.ev m) (st.ev k) (st.ev x) with
  |none=>rw [hs] at h;cases h
  |some s=>rw [hs] at h;injection h with h;injection h with h1 h2;subst h2;exact im hs
 ·split at h
  ·exact ik h
  ·cases h
 ·exact Yq h
 ·split at h
  ·split at h
   ·exact pq h
   ·cases h
  ·cases h
 ·split at h
  ·exact yV h
  ·cases h
 ·split at h
  ·rename_i x t _ _
   cases hs:evalClear T st t (st.ev x) with
   |none=>rw [hs] at h;cases h
   |some s=>rw [hs] at h;injection h with h;injection h with h1 h2;subst h2;exact wb hs
  ·cases h
 ·split at h
  ·exact wa h
  ·split at h
   ·rename_i args _ _ _ _ _ _
    cases hs:Ju args.toList st with
    |none=>rw [hs] at h;cases h
    |some st1=>
     rw [hs] at h
     exact (Ss _ hs).trans (Yq h)
   ·exact Yq h
  ·exact Yq h
 ·exact Yq h
def Kw:List Oper->List Nat
 | []=> []
 |o::r=>(match o.dst with|some d=> [d]|none=> [])++Kw r
def writes:Code->List Nat
 | .region _ ops _=>Kw ops.toList
 | .seq a b=>writes a++writes b
 | .cond _ a b=>writes a++writes b
 | .block _ c=>writes c
 | .loop c=>writes c
 |_=> []
def Fm (P:Nat->Prop) (st st':St):Prop:= ∀(t:Nat) (fr:Bool) (τ:Ty) (x:τ.den),P t->st.get t= .at (.data fr τ x)->st'.get t= .at (.data fr τ x)
theorem Fm.trans {P:Nat->Prop} {a b c:St} (h1:Fm P a b) (h2:Fm P b c):Fm P a c:= λt fr τ x hp h=>h2 t fr τ x hp (h1 t fr τ x hp h)
theorem Fm.mono {P Q:Nat->Prop} {a b:St} (h1:Fm P a b) (h: ∀t,Q t->P t):Fm Q a b:= λt fr τ x hp hx=>h1 t fr τ x (h t hp) hx
theorem Bc.on {P:Nat->Prop} {a b:St} (h:Bc a b):Fm P a b:= λt fr τ x _ hx=>h t fr τ x hx
theorem Wj (st:St) (dst:Option Tmp) (v:AV):Fm (λt=>dst≠some t) st (st.put dst v):=by
 intro t fr τ x hp hx
 cases dst with
 |none=>exact hx
 |some d=>rw [Uz st v (λh=>hp (by rw [h]))];exact hx
theorem cj {T:Tab} {Γ:Env} {ops:Array Oper} {st st':St} {o:Oper} (h:Cl T Γ ops st o=some st'):Fm (λt=>o.dst≠some t) st st':=by
 have key: ∀s,(evalOp T Γ st o).map (λr=>r.2.put o.dst r.1)=some s->Fm (λt=>o.dst≠some t) st s:=by
  intro s hs
  cases he:evalOp T Γ st o with
  |none=>rw [he] at hs;cases hs
  |some p=>rw [he] at hs;injection hs with hs;subst hs;exact (gV (v:=p.1) (st':=p.2) he).on.trans (Wj _ _ _)
 unfold Cl at h
 split at h
 ·exact key _ h
 ·split at h
  ·split at h
   ·exact key _ h
   ·injection h with h;subst h;exact Wj _ _ _
  ·injection h with h;subst h;exact Wj _ _ _
  ·cases h
theorem ew {T:Tab} {Γ:Env} {ops:Array Oper} : ∀(l:List Oper) (st st':St),Tm T Γ ops l st=some st'->Fm (λt=>t∉Kw l) st st'
 | [],st,st',h=>by injection h with h;subst h;exact Bc.rfl'.on
 |o::r,st,st',h=>by
  simp only [Tm] at h
  split at h
  ·rename_i s hs
   refine Fm.trans ((cj hs).mono λt ht=>?_) ((ew r _ _ h).mono λt ht=>?_)
   ·intro hd;apply ht;simp [Kw,hd]
   ·intro hd;apply ht;simp [Kw,hd]
  ·cases h
theorem Xm: ∀(l:List Oper) (o:Oper) (d:Nat),o∈l->o.dst=some d->d∈Kw l
 | [],_,_,h,_=>by cases h
 |p::r,o,d,h,hd=>by
  cases h with
  |head=>simp [Kw,hd]
  |tail _ h=>simp only [Kw,List.mem_append];exact .inr (Xm r o d h hd)
theorem qZ {ops:Array Oper} {i:Nat} {o:Oper} (h:ops[i]?=some o):o∈ops.toList:=by
 rw [Array.getElem?_eq_some_iff] at h
 obtain ⟨h1,h2⟩:=h
 rw [<-h2]
 simp
theorem Xg {T:Tab} {Γ:Env} {ops:Array Oper} : ∀(l:List Nat) (st st':St),Jl T Γ ops l st=some st'->Fm (λt=>t∉Kw ops.toList) st st'
 | [],st,st',h=>by injection h with h;subst h;exact Bc.rfl'.on
 |i::r,st,st',h=>by
  simp only [Jl] at h
  split at h
  ·cases h
  ·rename_i o ho
   split at h
   ·rename_i s hs
    exact ((cj hs).mono λt ht hd=>ht (Xm _ _ _ (qZ ho) hd)).trans (Xg r _ _ h)
   ·cases h
theorem Uw {T:Tab} {Γ:Env} {ops:Array Oper} : ∀(l:List Nat) (st st':St),Ed T Γ ops l st=some st'->Fm (λt=>t∉Kw ops.toList) st st'
 | [],st,st',h=>by injection h with h;subst h;exact Bc.rfl'.on
 |i::r,st,st',h=>by
  simp only [Ed] at h
  split at h
  ·cases h
  ·rename_i o ho
   split at h
   ·exact ((Wj _ _ _).mono λt ht hd=>ht (Xm _ _ _ (qZ ho) hd)).trans (Uw r _ _ h)
   ·cases h
theorem bj: ∀(l:List Nat) (st:St),Bc st (Yh l st)
 | [],_=>Bc.rfl'
 |a::r,st=>(il st a).trans (bj r _)
theorem bZ (live:List Nat): ∀(i:Nat) (l:List AV) (t:Nat),i+t∈live->(Ge live i l).getD t .undef=l.getD t .undef
 |_,[],_,_=>rfl
 |i,v::r,0,h=>by simp [Ge];intro hn;exact absurd h hn
 |i,v::r,t+1,h=>by
  simp only [Ge,List.getD_cons_succ]
  exact bZ live (i+1) r t (by rw [show i+1+t=i+(t+1) by omega];exact h)
theorem sR (l k:Nat) (st:St):Bc st (st.rename l k):=by
 unfold St.rename
 split
 ·split
  ·exact (Jz st (Oe l k) rfl λ_ _ _=>rfl).trans (Bc.Rq rfl)
  ·exact Bc.rfl'
 ·exact Bc.rfl'
theorem Ys: ∀(n t:Nat) (st:St),Bc st (Hs n t st)
 |0,_,_=>Bc.rfl'
 |n+1,t,st=>by
  simp only [Hs]
  refine Bc.trans ?_ (Ys n (t+1) _)
  split
  ·split
   ·split
    ·exact Bc.rfl'
    ·exact sR _ _ _
   ·exact Bc.rfl'
  ·exact Bc.rfl'
theorem nk (t:Nat) (st:St):Bc st (Vk t st):=by
 unfold Vk
 split
 ·rename_i l off len hg
  split
  ·split
   ·intro k fr τ x hk
    have Ex:k≠t:= λe=>by subst e;rw [hg] at hk;cases hk
    rw [Uz _ _ Ex]
    exact Ig _ _ _ k fr τ x hk
   ·exact Bc.rfl'
  ·exact Bc.rfl'
 ·exact Bc.rfl'
theorem bl (live:List Nat): ∀(n t:Nat) (st:St),Bc st (Jt live n t st)
 |0,_,_=>Bc.rfl'
 |n+1,t,st=>by
  simp only [Jt]
  refine Bc.trans ?_ (bl live n (t+1) _)
  split
  ·exact nk _ _
  ·exact Bc.rfl'
theorem eL (live:List Nat) (st:St):Fm (λt=>t∈live) st (st.clean live):=by
 intro t fr τ x hp hx
 unfold St.clean
 have key: ∀s:St,s.get t= .at (.data fr τ x)->(if live.contains Wq then Hs s.tmps.length 0 s else s).get t= .at (.data fr τ x):=by
  intro s hs
  split
  ·exact Ys _ _ s t fr τ x hs
  ·exact hs
 have KS: ∀s:St,s.get t= .at (.data fr τ x)->(if live.any (λt=>Nat.ble Sp t) then s.Fb live else s).get t= .at (.data fr τ x):=by
  intro s hs
  split<;>exact hs
 have KT: ∀s:St,s.get t= .at (.data fr τ x)->(if live.any (λt=>Nat.ble Hr t&&Nat.blt t Wq) then Jt live s.tmps.length 0 s else s).get t= .at (.data fr τ x):=by
  intro s hs
  split
  ·exact bl _ _ _ s t fr τ x hs
  ·exact hs
 refine KS _ (key _ (KT _ (bj _ _ t fr τ x ?_)))
 simp only [St.get] at hx⊢
 rw [bZ live 0 st.tmps t (by simpa using hp)]
 exact hx
def Ve (live:Nat->List Nat):Code->Nat->Bool
 | .seq a b,t=>Ve live a t&&Ve live b t
 | .cond _ a b,t=>Ve live a t&&Ve live b t
 | .block _ c,t=>Ve live c t
 | .loop c,t=>(live (Ch c)).contains t&&Ve live c t
 |_,_=>true
theorem jd {a b:Bool} (h:(a&&b)=true):a=true:=by cases a<;>simp_all
theorem fq {a b:Bool} (h:(a&&b)=true):b=true:=by cases a<;>simp_all
theorem jh {T:Tab} {Γ:Env} {ops:Array Oper} {draw:Bool} {st st':St} (h:Ll T Γ ops draw st=some st'):Fm (λt=>t∉writes (.region 0 ops draw)) st st':=by
 unfold Ll at h
 have go: ∀q,(match Ed T Γ ops (dM q Γ ops) st with
   |some s=>Jl T Γ ops (Fo q Γ ops) s
   |none=>none)=some st'->Fm (λt=>t∉writes (.region 0 ops draw)) st st':=by
  intro q h
  split at h
  ·rename_i s hs
   exact (Uw _ _ _ hs).trans (Xg _ _ _ h)
  ·cases h
 split at h
 ·split at h
  ·exact go false h
  ·split at h
   ·exact go true h
   ·cases h
 ·exact ew _ _ _ h
theorem mg {T:Tab} {Γ:Env} {ops:Array Oper} {draw:Bool} {K:St->Prop} (s0:St): ∀(f:Nat) (Ad:Array Bool) (st:St),Fm (λt=>t∉writes (.region 0 ops draw)) s0 st->anyS T Γ ops K f Ad st->anyS T Γ ops (λs=>K s/\Fm (λt=>t∉writes (.region 0 ops draw)) s0 s) f Ad st
 |0,_,_,hk,h=>⟨h.1,h.2,hk⟩
 |f+1,Ad,st,hk,h=>⟨h.1,λi hi=>by
  obtain ⟨o,st',h1,h2,h3⟩:=h.2 i hi
  have h4:Jl T Γ ops [i] st=some st':=by simp only [Jl,h1,h2]
  exact ⟨o,st',h1,h2,mg s0 f _ _ (hk.trans (Xg _ _ _ h4)) h3⟩⟩
theorem rY.keeps {T:Tab} {Γ:Env} {ops:Array Oper} {draw:Bool} {st:St} {K:St->Prop} (h:rY T Γ ops draw st K):rY T Γ ops draw st (λs=>K s/\Fm (λt=>t∉writes (.region 0 ops draw)) st s):=by
 rcases h with ⟨st',h1,h2⟩|⟨h1,h2,bx,h3,h4⟩
 ·exact .inl ⟨st',h1,h2,jh h1⟩
 ·exact .inr ⟨h1,h2,bx,h3,mg st _ _ _ (Uw _ _ _ h3) h4⟩
theorem zG {T:Tab} {Γ:Env} {live:Nat->List Nat} {c:Code} {st:St} {Q:Gz->St->Prop} (h:Jj T Γ live c st Q): ∀(s0:St) (p:Nat->Prop),Fm p s0 st->(∀t,p t->t∉writes c/\Ve live c t=true)->Jj T Γ live c st (λe s=>Q e s/\Fm p s0 s):=by
 induction h with
 |skip h=>exact λs0 p hk _=> .skip ⟨h,hk⟩
 |label h=>exact λs0 p hk _=> .label ⟨h,hk⟩
 |exit h=>exact λs0 p hk _=> .exit ⟨h,hk⟩
 |ret h=>exact λs0 p hk _=> .ret ⟨h,hk⟩
 |region h=>
  exact λs0 p hk hp=> .region (h.keeps.mono λs hs=>⟨hs.1,hk.trans (hs.2.mono λt ht=>(hp t ht).1)⟩)
 |seq Q1 _ _ h3 EG w6=>
  exact λs0 p hk hp=> .seq _ (EG s0 p hk λt ht=>⟨λhm=>(hp t ht).1 (by simp [writes,hm]),jd (hp t ht).2⟩)
   (λs hs=>w6 s hs.1 s0 p hs.2 λt ht=>⟨λhm=>(hp t ht).1 (by simp [writes,hm]),fq (hp t ht).2⟩) λe s he hs=>⟨h3 e s he hs.1,hs.2⟩
 |cond hc _ _ EG w6=>
  exact λs0 p hk hp=> .cond hc (λht=>EG ht s0 p hk λt h=>⟨λhm=>(hp t h).1 (by simp [writes,hm]),jd (hp t h).2⟩)
   fun ht=>w6 ht s0 p hk λt h=>⟨λhm=>(hp t h).1 (by simp [writes,hm]),fq (hp t h).2⟩
 |block Q1 _ h2 ih=>
  exact λs0 p hk hp=> .block _ (ih s0 p hk λt ht=>⟨λhm=>(hp t ht).1 (by simpa [writes] using hm),by simpa [Ve] using (hp t ht).2⟩) λe s hs=>by
   have h:=h2 e s hs.1
   cases e with
   |normal=>exact ⟨h,hs.2⟩
   |ret=>exact ⟨h,hs.2⟩
   |exit EE=>
    simp only [qK] at h⊢
    split at h
    ·rename_i hi;rw [if_pos hi];exact ⟨h,hs.2⟩
    ·rename_i hi;rw [if_neg hi];exact ⟨h,hs.2⟩
 |loop Q1 _ _ h3 EG w6=>
  intro s0 p hk hp
  refine .loop _ (EG s0 p (hk.trans ((eL _ _).mono λt ht=>by simpa using jd (hp t ht).2)) λt ht=>⟨λhm=>(hp t ht).1 (by simpa [writes] using hm),fq (hp t ht).2⟩)
   (λs hs=>w6 s hs.1 s0 p hs.2 hp) λe s he hs=>⟨h3 e s he hs.1,hs.2⟩
end Go.Proofs.Ytjbdmibbbpdnnaa
