/-
  Part 29 of the proof that the statement FnExactStageWord holds.
-/
import Derived.Test.YtjbdmibbbpdnnaaCStageWord27
namespace Go.Proofs.Ytjbdmibbbpdnnaa
open Go.RowKit
def Ba (st st':St):Prop:= ∀(t:Nat) (fr:Bool) (τ:Ty) (x:τ.den),st.get t= .at (.data fr τ x)->st'.get t= .at (.data fr τ x)
theorem Ba.rfl' {st:St} :Ba st st:= λ_ _ _ _ h=>h
theorem Ba.trans {a b c:St} (h1:Ba a b) (h2:Ba b c):Ba a c:= λt fr τ x h=>h2 t fr τ x (h1 t fr τ x h)
theorem Ba.Rl {a b:St} (h:b.tmps=a.tmps):Ba a b:= λt fr τ x hx=>by
 simp only [St.get] at hx⊢
 rw [h]
 exact hx
theorem Up (st:St) {t d:Nat} (v:AV) (h:t≠d):(st.put (some d) v).get t=st.get t:=by
 simp only [St.put,St.get]
 rw [Ua]
 rw [if_neg (by rintro ⟨rfl,_⟩;exact h rfl)]
theorem Jp (st:St) (f:AC->AC) (hu:f .undef= .undef) (hd: ∀fr (τ:Ty) (x:τ.den),f (.data fr τ x)= .data fr τ x):Ba st (st.Ge f):=by
 intro t fr τ x h
 simp only [St.Ge,St.get]
 rw [Rt f hu,show st.tmps.getD t .undef=_ from h]
 simp only [AV.map,hd]
theorem gF (st:St) (l:Nat):Ba st (st.forget l):=
 (Jp st (Ay l) rfl λ_ _ _=>rfl).trans (Ba.Rl rfl)
theorem Tj (st:St) (l:Nat) (fr:Bool) (e:Ty) (xs:List e.den):Ba st (st.freeze l fr e xs):=
 (Jp st (Az l fr e xs) rfl λ_ _ _=>rfl).trans (Ba.Rl rfl)
theorem aR (st:St) (l:Nat) (v:Ty) (m:ByteArray->Option v.den):Ba st (st.Ej l v m):=
 (Jp st (Dj l v m) rfl λ_ _ _=>rfl).trans (Ba.Rl rfl)
theorem Hy (st:St) (l:Nat) (b:OB):Ba st (st.new l b):=(gF st l).trans (Ba.Rl rfl)
theorem Ir (st:St) (l:Nat) (b:OB):Ba st (st.Fu l b):=Ba.Rl rfl
theorem Yg (b:OB) (key l i:Nat) (st:St):Ba st (Nk b key l i st):=by
 unfold Nk
 split
 ·split
  ·dsimp only
   split
   ·exact (Hy _ _ _).trans (Ir _ _ _)
   ·exact Hy _ _ _
  ·exact Ba.rfl'
 ·exact Ba.rfl'
theorem ef (T:Tab) (l:Nat) (t:TypeId) (τ:Ty): ∀(n i:Nat) (st:St),Ba st (ae T l t τ n i st)
 |0,_,_=>Ba.rfl'
 |n+1,i,st=>by
  simp only [ae]
  refine Ba.trans ?_ (ef T l t τ n (i+1) _)
  split
  ·exact Yg _ _ _ _ _
  ·exact Ba.rfl'
theorem c9 (T:Tab) (l off:Nat) (t:TypeId) (τ:Ty): ∀(n i:Nat) (st:St),Ba st (Yl T l off t τ n i st)
 |0,_,_=>Ba.rfl'
 |n+1,i,st=>by
  simp only [Yl]
  refine Ba.trans ?_ (c9 T l off t τ n (i+1) _)
  split
  ·exact Yg _ _ _ _ _
  ·exact Ba.rfl'
theorem Kx: ∀(n:Nat) (st:St) (cs bL:List AC) (st':St),Dq n st cs=some (bL,st')->Ba st st'
 |0,st,cs,bL,st',h=>by
  simp only [Dq] at h
  split at h
  ·injection h with h;injection h with h1 h2;subst h2;exact Ba.rfl'
  ·cases h
 |n+1,st,cs,bL,st',h=>by
  simp only [Dq] at h
  split at h
  ·injection h with h;injection h with h1 h2;subst h2;exact Ba.rfl'
  ·split at h
   ·exact (Tj _ _ _ _ _).trans (Kx n _ _ _ _ h)
   ·exact (Tj _ _ _ _ _).trans (Kx n _ _ _ _ h)
   ·cases h
  ·split at h
   ·exact (aR _ _ _ _).trans (Kx n _ _ _ _ h)
   ·cases h
  ·cases h
theorem Lq {st st':St} {v v':AV} (h:settle st v=some (v',st')):Ba st st':=by
 unfold settle at h
 split at h
 ·split at h
  ·injection h with h;injection h with h1 h2;subst h2;exact Tj _ _ _ _ _
  ·injection h with h;injection h with h1 h2;subst h2;exact Tj _ _ _ _ _
  ·cases h
 ·split at h
  ·injection h with h;injection h with h1 h2;subst h2;exact aR _ _ _ _
  ·cases h
 ·split at h
  ·injection h with h;injection h with h1 h2;subst h2;exact Ba.rfl'
  ·cases h
 ·rename_i cs
  cases hs:Dq cs.length st cs with
  |none=>rw [hs] at h;cases h
  |some p=>rw [hs] at h;injection h with h;injection h with h1 h2;subst h2;exact Kx _ _ _ _ _ hs
 ·injection h with h;injection h with h1 h2;subst h2;exact Ba.rfl'
 ·cases h
theorem kd {T:Tab} {st st':St} {l:Nat} {t:TypeId} {τ:Ty} {cs:List AC} {v:AV} (h:mkVar T st l t τ cs=some (v,st')):Ba st st':=by
 unfold mkVar at h
 split at h
 ·cases h
 dsimp only at h
 split at h
 ·injection h with h;injection h with h1 h2;subst h2;exact (Hy _ _ _).trans (ef _ _ _ _ _ _ _)
 ·cases h
theorem vq {T:Tab} {st st':St} {t:TypeId} {p v:AV} (h:Nr T st t p v=some st'):Ba st st':=by
 unfold Nr at h
 split at h
 ·split at h
  ·split at h
   ·injection h with h
    split at h
    ·subst h;exact (Ir _ _ _).trans (c9 _ _ _ _ _ _ _ _)
    ·subst h;exact Ir _ _ _
   ·cases h
  ·cases h
 ·split at h
  ·rename_i hs
   split at h
   ·split at h
    ·split at h
     ·injection h with h;subst h;exact (Lq hs).trans (Ir _ _ _)
     ·cases h
    ·cases h
   ·cases h
  ·cases h
 ·cases h
theorem mF (st:St) (l j m:Nat) (e:Ty) (te:TypeId) (rows:List (List e.den)) (xs:List e.den) (kp:Option (Nat×Nat)):Ba st (Ms st l j m e te rows xs kp):=
 ((Jp st (Au [m] [l]) (by simp [Au,AC.refs]) λfr τ x=>by simp [Au,AC.refs]).trans (Ba.Rl rfl)).trans (Ir (st.Vu [m] [l]) _ _)
theorem mG (st:St) (l i m:Nat) (e:Ty) (te tid:TypeId) (rows:List (List e.den)) (kp:Option (Nat×Nat)):Ba st (Ka st l i m e te tid rows kp):=
 (Ir st l _).trans (Hy _ m _)
theorem rZ {T:Tab} {st st':St} {t:TypeId} {p v:AV} (h:Jt T st t p v=some st'):Ba st st':=by
 unfold Jt at h
 split at h
 rotate_left
 ·exact vq h
 unfold Uo at h
 split at h
 ·split at h
  ·rename_i hs
   split at h
   ·split at h
    ·injection h with h;subst h;exact (Lq hs).trans (Ir _ _ _)
    ·cases h
   ·cases h
  ·cases h
 ·split at h
  ·split at h
   ·split at h
    ·injection h with h;subst h
     exact mF _ _ _ _ _ _ _ _ _
    ·cases h
   ·cases h
  ·cases h
 ·cases h
theorem Zu {T:Tab} {st st':St} {d:Nat} {t:TypeId} {x y:Operand} {v:AV} (h:Io T st d t x y=some (v,st')):Ba st st':=by
 unfold Io at h
 split at h
 ·cases h
 ·split at h
  ·rename_i hs
   split at h
   ·cases h
   ·split at h
    ·split at h
     ·injection h with h;injection h with h1 h2;subst h2;exact ((Lq hs).trans (Hy _ _ _)).trans (Hy _ _ _)
     ·cases h
    ·split at h
     ·split at h
      ·split at h
       ·injection h with h;injection h with h1 h2;subst h2;exact (Lq hs).trans (Hy _ _ _)
       ·cases h
      ·cases h
     ·cases h
    ·cases h
  ·cases h
theorem oA {T:Tab} {st st':St} {d:Nat} {t:TypeId} {x y:Operand} {v:AV} (h:Lc T st d t x y=some (v,st')):Ba st st':=by
 unfold Lc at h
 split at h
 ·rename_i tx
  split at h
  ·rename_i l i c hg
   split at h
   ·split at h
    ·rename_i e te rows kp tid hl ht hc
     refine Ba.trans (b:=(Ka st l i d e te tid rows kp).put (some tx) (.at (.own d 0 (rows.getD i []).length))) ?_ (Zu h)
     intro t' fr τ z hz
     by_cases e':t'=tx
     ·subst e';rw [hg] at hz;cases hz
     ·rw [Up _ _ e'];exact mG st l i d e te tid rows kp t' fr τ z hz
    ·cases h
   ·cases h
  ·exact Zu h
 ·exact Zu h
theorem yf {T:Tab} {st st':St} {d:Nat} {t:TypeId} {l c v:AV} (h:Ul T st d t l c=some (v,st')):Ba st st':=by
 unfold Ul at h
 split at h
 ·split at h
  ·split at h
   ·injection h with h;injection h with h1 h2;subst h2;exact Hy _ _ _
   ·cases h
  ·cases h
 ·cases h
theorem ke (e:Ty): ∀(l:List (Nat×Operand)) (i:Nat) (st st':St) (fr tr:Bool) (ys:List e.den),Gm e i l st=some (fr,tr,ys,st')->Ba st st'
 | [],_,_,_,_,_,_,h=>by
  simp only [Gm] at h
  injection h with h;injection h with h1 h2;injection h2 with h2 h3;injection h3 with h3 h4;subst h4;exact Ba.rfl'
 |(j,x)::r,i,st,st',fr,tr,ys,h=>by
  simp only [Gm] at h
  split at h
  ·split at h
   ·rename_i hs
    split at h
    ·split at h
     ·rename_i hp
      injection h with h;injection h with h1 h2;injection h2 with h2 h3;injection h3 with h3 h4;subst h4
      exact (Lq hs).trans (ke e r _ _ _ _ _ _ hp)
     ·cases h
    ·cases h
   ·cases h
  ·cases h
theorem j7 {T:Tab} {st st':St} {d:Nat} {t:TypeId} {n:Nat} {parts:Array (Nat×Operand)} {v:AV} (h:Hi T st d t n parts=some (v,st')):Ba st st':=by
 unfold Hi at h
 split at h
 ·cases h
 ·split at h
  ·cases h
  ·split at h
   ·split at h
    ·rename_i hp
     injection h with h;injection h with h1 h2;subst h2;exact (ke _ _ _ _ _ _ _ _ hp).trans (Hy _ _ _)
    ·cases h
   ·cases h
theorem oC {T:Tab} {st st':St} {d:Nat} {t:TypeId} {v:AV} (h:Nq T st d t=some (v,st')):Ba st st':=by
 unfold Nq at h
 split at h
 ·split at h
  ·injection h with h;injection h with h1 h2;subst h2;exact Hy _ _ _
  ·cases h
 ·cases h
theorem gG {T:Tab} {st st':St} {t:TypeId} {m k x:AV} (h:Er T st t m k x=some st'):Ba st st':=by
 unfold Er at h
 split at h
 ·split at h
  ·split at h
   ·injection h with h;subst h;exact Ir _ _ _
   ·cases h
  ·cases h
 ·cases h
theorem ye {T:Tab} {st st':St} {t t':TypeId} {x y v:AV} (h:bO T st t t' x y=some (v,st')):Ba st st':=by
 unfold bO at h
 split at h
 ·split at h
  ·split at h
   ·split at h
    ·injection h with h;injection h with h1 h2;subst h2;exact Ir _ _ _
    ·cases h
   ·cases h
  ·cases h
 ·cases h
theorem vn {T:Tab} {st st':St} {t:TypeId} {x:AV} (h:evalClear T st t x=some st'):Ba st st':=by
 unfold evalClear at h
 split at h
 ·split at h
  ·split at h
   ·split at h
    ·injection h with h;subst h;exact Ir _ _ _
    ·cases h
   ·cases h
  ·cases h
 ·cases h
theorem qp {st st':St} {c:CK} {ys:c.den} {a:AC} (h:Vm st c ys a=some st'):st'.tmps=st.tmps:=by
 unfold Vm at h
 repeat' split at h
 all_goals first|(cases h;done)|(simp only [Option.some.injEq] at h;subst h;rfl)|skip
theorem DW {st st':St} {e:Ty} {ys:List e.den} {a:AC} (h:yJ st e ys a=some st'):st'.tmps=st.tmps:=by
 unfold yJ at h
 repeat' split at h
 all_goals first|(cases h;done)|(simp only [Option.some.injEq] at h;subst h;rfl)|skip
theorem Nl: ∀(cs:List (Bool×CK)) (o:IOs.den cs) (as:List AC) (st st':St),Ec cs o as st=some st'->st'.tmps=st.tmps
 | [],_,_,st,st',h=>by simp only [Ec,Option.some.injEq] at h;subst h;rfl
 |(true, .Fc _)::r,o,[],st,st',h=>by simp [Ec] at h
 |(true, .row _ _)::r,o,[],st,st',h=>by simp [Ec] at h
 |(true, .Du _ _)::r,o,[],st,st',h=>by simp [Ec] at h
 |(true, .part _ _)::r,o,[],st,st',h=>by simp [Ec] at h
 |(true, .Ak _ _ _)::r,o,[],st,st',h=>by simp [Ec] at h
 |(true, .Ak _ _ _)::r,o,a::as,st,st',h=>Nl r o as st st' (by simpa only [Ec] using h)
 |(false,_)::r,o,[],st,st',h=>by simp [Ec] at h
 |(true, .Fc _)::r,o,a::as,st,st',h=>Nl r o as st st' (by simpa only [Ec] using h)
 |(false,_)::r,o,a::as,st,st',h=>Nl r o as st st' (by simpa only [Ec] using h)
 |(true, .row _ _)::r,o,a::as,st,st',h=>by
  simp only [Ec] at h
  split at h
  ·rename_i hc;exact (Nl r o.2 as _ st' h).trans (qp hc)
  ·cases h
 |(true, .part _ _)::r,o,a::as,st,st',h=>by
  simp only [Ec] at h
  split at h
  ·rename_i hc;exact (Nl r o.2 as _ st' h).trans (DW hc)
  ·cases h
 |(true, .Du _ _)::r,o,a::as,st,st',h=>by
  simp only [Ec] at h
  split at h
  ·rename_i hc;exact (Nl r o.2 as _ st' h).trans (qp hc)
  ·cases h
theorem rX (bd st:St) (ls:List Nat) (n:Nat) (hl:bd.tmps.length=st.tmps.length) (h:Ba bd st):Ba bd (fq bd st ls n):=by
 unfold fq
 split
 ·exact h
 ·intro t fr τ x hx
  show (Gu _ bd.tmps st.tmps).getD t .undef=_
  rcases aB ls bd.tmps st.tmps t hl with ⟨k,i,c,h1,_⟩|h1
  ·rw [show bd.tmps.getD t .undef=_ from hx] at h1;cases h1
  ·rw [h1];exact h t fr τ x hx
theorem vh {st st':St} {d:Option Nat} {s:MSpec} {args:List AV} {v:AV} (h:Qb st d s args=some (v,st')):Ba st st':=by
 unfold Qb at h
 split at h
 ·cases h
 split at h
 ·cases h
 split at h
 ·cases h
 split at h
 ·split at h
  ·cases h
  split at h
  ·cases h
  rename_i st1 hp
  split at h
  ·cases h
  split at h
  ·simp only [Option.some.injEq,Prod.mk.injEq] at h
   obtain ⟨_,rfl⟩:=h
   have XC:=Nl _ _ _ _ _ hp
   refine rX _ _ _ _ ?_ ?_
   ·simp only [eR,jA]
    rw [<-XC]
    simp only [St.Vu,St.Ge,List.length_map]
   ·refine Ba.trans (Ba.Rl XC) ?_
    refine Ba.trans (Jp st1 (Au _ _) (by simp [Au,AC.refs]) λfr τ x=>by simp [Au,AC.refs]) (Ba.Rl jA)
  ·cases h
 ·cases h
theorem Wu (st:St) (k m:Nat) (b:OB):Ba st (Kv st k m b):=
 (Jp st (Au [m,k] []) (by simp [Au,AC.refs]) λfr τ x=>by simp [Au,AC.refs]).trans (Ba.Rl rfl)
theorem vo {T:Tab} {st st':St} {d:Nat} {t:TypeId} {l c v:AV} (h:Qd T st d t l c=some (v,st')):Ba st st':=by
 unfold Qd at h
 split at h
 ·exact yf h
 ·split at h
  ·split at h
   ·injection h with h;injection h with h1 h2;subst h2;exact Wu _ _ _ _
   ·cases h
  ·cases h
theorem gE {T:Tab} {st st':St} {d:Nat} {t:TypeId} {n:Nat} {parts:Array (Nat×Operand)} {v:AV} (h:Eo T st d t n parts=some (v,st')):Ba st st':=by
 unfold Eo at h
 split at h
 ·exact j7 h
 ·repeat' split at h
  all_goals first|(cases h;done)|(injection h with h;injection h with h1 h2;subst h2;exact Wu _ _ _ _)
theorem oB {T:Tab} {st st':St} {d:Nat} {t:TypeId} {x y:Operand} {v:AV} (h:Ld T st d t x y=some (v,st')):Ba st st':=by
 unfold Ld at h
 split at h
 ·exact oA h
 ·repeat' split at h
  all_goals first|(cases h;done)|(injection h with h;injection h with h1 h2;subst h2;exact Wu _ _ _ _)
theorem Yf {st st':St} {v:AV} {o:Option AV} (h:o.map (λv=>(v,st))=some (v,st')):Ba st st':=by
 cases o with
 |none=>cases h
 |some u=>injection h with h;injection h with h1 h2;subst h2;exact Ba.rfl'
theorem Sm: ∀(l:List Operand) {st st1:St},Jk l st=some st1->Ba st st1
 | [],st,st1,h=>by
  simp only [Jk,Option.some.injEq] at h
  subst h
  exact Ba.rfl'
 |x::r,st,st1,h=>by
  simp only [Jk] at h
  cases hs:settle st (st.ev x) with
  |none=>rw [hs] at h;cases h
  |some p=>
   rw [hs] at h
   exact (Lq (v':=p.1) (st':=p.2) hs).trans (Sm r h)
theorem gn {T:Tab} {Γ:Env} {st st':St} {o:Oper} {v:AV} (h:evalOp T Γ st o=some (v,st')):Ba st st':=by
 unfold evalOp at h
 split at h
 ·split at h
  ·split at h
   ·injection h with h;injection h with h1 h2;subst h2;exact Hy _ _ _
   ·cases h
  ·injection h with h;injection h with h1 h2;subst h2;exact Ba.rfl'
 ·split at h
  ·exact kd h
  ·cases h
 ·split at h
  ·split at h
   ·exact kd h
   ·cases h
  ·cases h
 ·rename_i t p x _
  cases hs:Jt T st t (st.ev p) (st.ev x) with
  |none=>rw [hs] at h;cases h
  |some s=>rw [hs] at h;injection h with h;injection h with h1 h2;subst h2;exact rZ hs
 ·split at h
  ·exact vo h
  ·cases h
 ·split at h
  ·exact oC h
  ·cases h
 ·rename_i t m k x _
  cases hs:Er T st t (st.ev m) (st.ev k) (st.ev x) with
  |none=>rw [hs] at h;cases h
  |some s=>rw [hs] at h;injection h with h;injection h with h1 h2;subst h2;exact gG hs
 ·rename_i t m k x _
  cases hs:Er T st t (st.ev m) (st.ev k) (st.ev x) with
  |none=>rw [hs] at h;cases h
  |some s=>rw [hs] at h;injection h with h;injection h with h1 h2;subst h2;exact gG hs
 ·split at h
  ·exact gE h
  ·cases h
 ·exact Yf h
 ·split at h
  ·split at h
   ·exact oB h
   ·cases h
  ·cases h
 ·split at h
  ·exact ye h
  ·cases h
 ·split at h
  ·rename_i x t _ _
   cases hs:evalClear T st t (st.ev x) with
   |none=>rw [hs] at h;cases h
   |some s=>rw [hs] at h;injection h with h;injection h with h1 h2;subst h2;exact vn hs
  ·cases h
 ·split at h
  ·exact vh h
  ·split at h
   ·rename_i args _ _ _ _ _ _
    cases hs:Jk args.toList st with
    |none=>rw [hs] at h;cases h
    |some st1=>
     rw [hs] at h
     exact (Sm _ hs).trans (Yf h)
   ·exact Yf h
  ·exact Yf h
 ·exact Yf h
def Kr:List Oper->List Nat
 | []=> []
 |o::r=>(match o.dst with|some d=> [d]|none=> [])++Kr r
def writes:Code->List Nat
 | .region _ ops _=>Kr ops.toList
 | .seq a b=>writes a++writes b
 | .cond _ a b=>writes a++writes b
 | .block _ c=>writes c
 | .loop c=>writes c
 |_=> []
def Ey (P:Nat->Prop) (st st':St):Prop:= ∀(t:Nat) (fr:Bool) (τ:Ty) (x:τ.den),P t->st.get t= .at (.data fr τ x)->st'.get t= .at (.data fr τ x)
theorem Ey.trans {P:Nat->Prop} {a b c:St} (h1:Ey P a b) (h2:Ey P b c):Ey P a c:= λt fr τ x hp h=>h2 t fr τ x hp (h1 t fr τ x hp h)
theorem Ey.mono {P Q:Nat->Prop} {a b:St} (h1:Ey P a b) (h: ∀t,Q t->P t):Ey Q a b:= λt fr τ x hp hx=>h1 t fr τ x (h t hp) hx
theorem Ba.on {P:Nat->Prop} {a b:St} (h:Ba a b):Ey P a b:= λt fr τ x _ hx=>h t fr τ x hx
theorem Vy (st:St) (dst:Option Tmp) (v:AV):Ey (λt=>dst≠some t) st (st.put dst v):=by
 intro t fr τ x hp hx
 cases dst with
 |none=>exact hx
 |some d=>rw [Up st v (λh=>hp (by rw [h]))];exact hx
theorem bP {T:Tab} {Γ:Env} {ops:Array Oper} {st st':St} {o:Oper} (h:Ci T Γ ops st o=some st'):Ey (λt=>o.dst≠some t) st st':=by
 have key: ∀s,(evalOp T Γ st o).map (λr=>r.2.put o.dst r.1)=some s->Ey (λt=>o.dst≠some t) st s:=by
  intro s hs
  cases he:evalOp T Γ st o with
  |none=>rw [he] at hs;cases hs
  |some p=>rw [he] at hs;injection hs with hs;subst hs;exact (gn (v:=p.1) (st':=p.2) he).on.trans (Vy _ _ _)
 unfold Ci at h
 split at h
 ·exact key _ h
 ·split at h
  ·split at h
   ·exact key _ h
   ·injection h with h;subst h;exact Vy _ _ _
  ·injection h with h;subst h;exact Vy _ _ _
  ·cases h
theorem dS {T:Tab} {Γ:Env} {ops:Array Oper} : ∀(l:List Oper) (st st':St),Tg T Γ ops l st=some st'->Ey (λt=>t∉Kr l) st st'
 | [],st,st',h=>by injection h with h;subst h;exact Ba.rfl'.on
 |o::r,st,st',h=>by
  simp only [Tg] at h
  split at h
  ·rename_i s hs
   refine Ey.trans ((bP hs).mono λt ht=>?_) ((dS r _ _ h).mono λt ht=>?_)
   ·intro hd;apply ht;simp [Kr,hd]
   ·intro hd;apply ht;simp [Kr,hd]
  ·cases h
theorem Xa: ∀(l:List Oper) (o:Oper) (d:Nat),o∈l->o.dst=some d->d∈Kr l
 | [],_,_,h,_=>by cases h
 |p::r,o,d,h,hd=>by
  cases h with
  |head=>simp [Kr,hd]
  |tail _ h=>simp only [Kr,List.mem_append];exact .inr (Xa r o d h hd)
theorem qe {ops:Array Oper} {i:Nat} {o:Oper} (h:ops[i]?=some o):o∈ops.toList:=by
 rw [Array.getElem?_eq_some_iff] at h
 obtain ⟨h1,h2⟩:=h
 rw [<-h2]
 simp
theorem Ws {T:Tab} {Γ:Env} {ops:Array Oper} : ∀(l:List Nat) (st st':St),Iz T Γ ops l st=some st'->Ey (λt=>t∉Kr ops.toList) st st'
 | [],st,st',h=>by injection h with h;subst h;exact Ba.rfl'.on
 |i::r,st,st',h=>by
  simp only [Iz] at h
  split at h
  ·cases h
  ·rename_i o ho
   split at h
   ·rename_i s hs
    exact ((bP hs).mono λt ht hd=>ht (Xa _ _ _ (qe ho) hd)).trans (Ws r _ _ h)
   ·cases h
theorem Um {T:Tab} {Γ:Env} {ops:Array Oper} : ∀(l:List Nat) (st st':St),Ea T Γ ops l st=some st'->Ey (λt=>t∉Kr ops.toList) st st'
 | [],st,st',h=>by injection h with h;subst h;exact Ba.rfl'.on
 |i::r,st,st',h=>by
  simp only [Ea] at h
  split at h
  ·cases h
  ·rename_i o ho
   split at h
   ·exact ((Vy _ _ _).mono λt ht hd=>ht (Xa _ _ _ (qe ho) hd)).trans (Um r _ _ h)
   ·cases h
theorem aQ: ∀(l:List Nat) (st:St),Ba st (Xw l st)
 | [],_=>Ba.rfl'
 |a::r,st=>(gF st a).trans (aQ r _)
theorem bF (live:List Nat): ∀(i:Nat) (l:List AV) (t:Nat),i+t∈live->(Fp live i l).getD t .undef=l.getD t .undef
 |_,[],_,_=>rfl
 |i,v::r,0,h=>by simp [Fp];intro hn;exact absurd h hn
 |i,v::r,t+1,h=>by
  simp only [Fp,List.getD_cons_succ]
  exact bF live (i+1) r t (by rw [show i+1+t=i+(t+1) by omega];exact h)
theorem rY (l k:Nat) (st:St):Ba st (st.rename l k):=by
 unfold St.rename
 split
 ·split
  ·exact (Jp st (Nx l k) rfl λ_ _ _=>rfl).trans (Ba.Rl rfl)
  ·exact Ba.rfl'
 ·exact Ba.rfl'
theorem Yh: ∀(n t:Nat) (st:St),Ba st (Hp n t st)
 |0,_,_=>Ba.rfl'
 |n+1,t,st=>by
  simp only [Hp]
  refine Ba.trans ?_ (Yh n (t+1) _)
  split
  ·split
   ·split
    ·exact Ba.rfl'
    ·exact rY _ _ _
   ·exact Ba.rfl'
  ·exact Ba.rfl'
theorem mH (t:Nat) (st:St):Ba st (Va t st):=by
 unfold Va
 split
 ·rename_i l off len hg
  split
  ·split
   ·intro k fr τ x hk
    have Ek:k≠t:= λe=>by subst e;rw [hg] at hk;cases hk
    rw [Up _ _ Ek]
    exact Hy _ _ _ k fr τ x hk
   ·exact Ba.rfl'
  ·exact Ba.rfl'
 ·exact Ba.rfl'
theorem aS (live:List Nat): ∀(n t:Nat) (st:St),Ba st (Jj live n t st)
 |0,_,_=>Ba.rfl'
 |n+1,t,st=>by
  simp only [Jj]
  refine Ba.trans ?_ (aS live n (t+1) _)
  split
  ·exact mH _ _
  ·exact Ba.rfl'
theorem ee (live:List Nat) (st:St):Ey (λt=>t∈live) st (st.clean live):=by
 intro t fr τ x hp hx
 unfold St.clean
 have key: ∀s:St,s.get t= .at (.data fr τ x)->(if live.contains We then Hp s.tmps.length 0 s else s).get t= .at (.data fr τ x):=by
  intro s hs
  split
  ·exact Yh _ _ s t fr τ x hs
  ·exact hs
 have IP: ∀s:St,s.get t= .at (.data fr τ x)->(if live.any (λt=>Nat.ble Sh t) then s.Es live else s).get t= .at (.data fr τ x):=by
  intro s hs
  split<;>exact hs
 have IQ: ∀s:St,s.get t= .at (.data fr τ x)->(if live.any (λt=>Nat.ble Ho t&&Nat.blt t We) then Jj live s.tmps.length 0 s else s).get t= .at (.data fr τ x):=by
  intro s hs
  split
  ·exact aS _ _ _ s t fr τ x hs
  ·exact hs
 refine IP _ (key _ (IQ _ (aQ _ _ t fr τ x ?_)))
 simp only [St.get] at hx⊢
 rw [bF live 0 st.tmps t (by simpa using hp)]
 exact hx
def Uu (live:Nat->List Nat):Code->Nat->Bool
 | .seq a b,t=>Uu live a t&&Uu live b t
 | .cond _ a b,t=>Uu live a t&&Uu live b t
 | .block _ c,t=>Uu live c t
 | .loop c,t=>(live (Ce c)).contains t&&Uu live c t
 |_,_=>true
theorem iH {a b:Bool} (h:(a&&b)=true):a=true:=by cases a<;>simp_all
theorem eS {a b:Bool} (h:(a&&b)=true):b=true:=by cases a<;>simp_all
theorem iM {T:Tab} {Γ:Env} {ops:Array Oper} {draw:Bool} {st st':St} (h:Le T Γ ops draw st=some st'):Ey (λt=>t∉writes (.region 0 ops draw)) st st':=by
 unfold Le at h
 have go: ∀q,(match Ea T Γ ops (dm q Γ ops) st with
   |some s=>Iz T Γ ops (Ez q Γ ops) s
   |none=>none)=some st'->Ey (λt=>t∉writes (.region 0 ops draw)) st st':=by
  intro q h
  split at h
  ·rename_i s hs
   exact (Um _ _ _ hs).trans (Ws _ _ _ h)
  ·cases h
 split at h
 ·split at h
  ·exact go false h
  ·split at h
   ·exact go true h
   ·cases h
 ·exact dS _ _ _ h
theorem lN {T:Tab} {Γ:Env} {ops:Array Oper} {draw:Bool} {K:St->Prop} (s0:St): ∀(f:Nat) (Ac:Array Bool) (st:St),Ey (λt=>t∉writes (.region 0 ops draw)) s0 st->anyS T Γ ops K f Ac st->anyS T Γ ops (λs=>K s/\Ey (λt=>t∉writes (.region 0 ops draw)) s0 s) f Ac st
 |0,_,_,hk,h=>⟨h.1,h.2,hk⟩
 |f+1,Ac,st,hk,h=>⟨h.1,λi hi=>by
  obtain ⟨o,st',h1,h2,h3⟩:=h.2 i hi
  have h4:Iz T Γ ops [i] st=some st':=by simp only [Iz,h1,h2]
  exact ⟨o,st',h1,h2,lN s0 f _ _ (hk.trans (Ws _ _ _ h4)) h3⟩⟩
theorem qU.keeps {T:Tab} {Γ:Env} {ops:Array Oper} {draw:Bool} {st:St} {K:St->Prop} (h:qU T Γ ops draw st K):qU T Γ ops draw st (λs=>K s/\Ey (λt=>t∉writes (.region 0 ops draw)) st s):=by
 rcases h with ⟨st',h1,h2⟩|⟨h1,h2,bd,h3,h4⟩
 ·exact .inl ⟨st',h1,h2,iM h1⟩
 ·exact .inr ⟨h1,h2,bd,h3,lN st _ _ _ (Um _ _ _ h3) h4⟩
theorem yT {T:Tab} {Γ:Env} {live:Nat->List Nat} {c:Code} {st:St} {Q:Gr->St->Prop} (h:Iw T Γ live c st Q): ∀(s0:St) (p:Nat->Prop),Ey p s0 st->(∀t,p t->t∉writes c/\Uu live c t=true)->Iw T Γ live c st (λe s=>Q e s/\Ey p s0 s):=by
 induction h with
 |skip h=>exact λs0 p hk _=> .skip ⟨h,hk⟩
 |label h=>exact λs0 p hk _=> .label ⟨h,hk⟩
 |exit h=>exact λs0 p hk _=> .exit ⟨h,hk⟩
 |ret h=>exact λs0 p hk _=> .ret ⟨h,hk⟩
 |region h=>
  exact λs0 p hk hp=> .region (h.keeps.mono λs hs=>⟨hs.1,hk.trans (hs.2.mono λt ht=>(hp t ht).1)⟩)
 |seq Q1 _ _ h3 CI vd=>
  exact λs0 p hk hp=> .seq _ (CI s0 p hk λt ht=>⟨λhm=>(hp t ht).1 (by simp [writes,hm]),iH (hp t ht).2⟩)
   (λs hs=>vd s hs.1 s0 p hs.2 λt ht=>⟨λhm=>(hp t ht).1 (by simp [writes,hm]),eS (hp t ht).2⟩) λe s he hs=>⟨h3 e s he hs.1,hs.2⟩
 |cond hc _ _ CI vd=>
  exact λs0 p hk hp=> .cond hc (λht=>CI ht s0 p hk λt h=>⟨λhm=>(hp t h).1 (by simp [writes,hm]),iH (hp t h).2⟩)
   fun ht=>vd ht s0 p hk λt h=>⟨λhm=>(hp t h).1 (by simp [writes,hm]),eS (hp t h).2⟩
 |block Q1 _ h2 ih=>
  exact λs0 p hk hp=> .block _ (ih s0 p hk λt ht=>⟨λhm=>(hp t ht).1 (by simpa [writes] using hm),by simpa [Uu] using (hp t ht).2⟩) λe s hs=>by
   have h:=h2 e s hs.1
   cases e with
   |normal=>exact ⟨h,hs.2⟩
   |ret=>exact ⟨h,hs.2⟩
   |exit CG=>
    simp only [pU] at h⊢
    split at h
    ·rename_i hi;rw [if_pos hi];exact ⟨h,hs.2⟩
    ·rename_i hi;rw [if_neg hi];exact ⟨h,hs.2⟩
 |loop Q1 _ _ h3 CI vd=>
  intro s0 p hk hp
  refine .loop _ (CI s0 p (hk.trans ((ee _ _).mono λt ht=>by simpa using iH (hp t ht).2)) λt ht=>⟨λhm=>(hp t ht).1 (by simpa [writes] using hm),eS (hp t ht).2⟩)
   (λs hs=>vd s hs.1 s0 p hs.2 hp) λe s he hs=>⟨h3 e s he hs.1,hs.2⟩
end Go.Proofs.Ytjbdmibbbpdnnaa
