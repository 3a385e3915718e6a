/-
  Part 29 of the proof that the statement FnExactSolveTwoPhaseWithin holds.
-/
import Derived.Test.YtfgfigkbgecfnaaCSolveTwoPhaseWithin27
namespace Go.Proofs.Ytfgfigkbgecfnaa
open Go.RowKit
def Cu (st st':St):Prop:= ∀(t:Nat) (fr:Bool) (τ:Ty) (x:τ.den),st.get t= .at (.data fr τ x)->st'.get t= .at (.data fr τ x)
theorem Cu.rfl' {st:St} :Cu st st:= λ_ _ _ _ h=>h
theorem Cu.trans {a b c:St} (h1:Cu a b) (h2:Cu b c):Cu a c:= λt fr τ x h=>h2 t fr τ x (h1 t fr τ x h)
theorem Cu.a8 {a b:St} (h:b.tmps=a.tmps):Cu a b:= λt fr τ x hx=>by
 simp only [St.get] at hx⊢;rw [h];exact hx
theorem c9 (st:St) {t d:Nat} (v:AV) (h:t≠d):(st.put (some d) v).get t=st.get t:=by
 simp only [St.put,St.get];rw [Ri];rw [Ai (by rintro ⟨rfl,_⟩;exact h rfl)]
theorem Pw (st:St) (f:AC->AC) (hu:f .undef= .undef) (hd: ∀fr (τ:Ty) (x:τ.den),f (.data fr τ x)= .data fr τ x):Cu st (st.Lo f):=by
 intro t fr τ x h;simp only [St.Lo,St.get];rw [Vx f hu,show st.tmps.getD t .undef=_ from h];simp only [AV.map,hd]
theorem oc (st:St) (l:Nat):Cu st (st.forget l):=
 (Pw st (Cy l) rfl λ_ _ _=>rfl).trans (Cu.a8 rfl)
theorem bn (st:St) (l:Nat) (fr:Bool) (e:Ty) (xs:List e.den):Cu st (st.freeze l fr e xs):=
 (Pw st (Dj l fr e xs) rfl λ_ _ _=>rfl).trans (Cu.a8 rfl)
theorem ie (st:St) (l:Nat) (v:Ty) (m:ByteArray->Option v.den):Cu st (st.Ja l v m):=
 (Pw st (Hp l v m) rfl λ_ _ _=>rfl).trans (Cu.a8 rfl)
theorem Lw (st:St) (l:Nat) (b:OB):Cu st (st.new l b):=(oc st l).trans (Cu.a8 rfl)
theorem Nb (st:St) (l:Nat) (b:OB):Cu st (st.Kk l b):=Cu.a8 rfl
theorem eT (b:OB) (key l i:Nat) (st:St):Cu st (Vr b key l i st):=by
 unfold Vr;split
 ·split
  ·dsimp only;split
   ·exact (Lw _ _ _).trans (Nb _ _ _)
   ·exact Lw _ _ _
  ·exact Cu.rfl'
 ·exact Cu.rfl'
theorem lO (T:Tab) (l:Nat) (t:TypeId) (τ:Ty): ∀(n i:Nat) (st:St),Cu st (gp T l t τ n i st)
 |0,_,_=>Cu.rfl'
 |n+1,i,st=>by
  simp only [gp];refine Cu.trans ?_ (lO T l t τ n (i+1) _);split
  ·exact eT _ _ _ _ _
  ·exact Cu.rfl'
theorem jv (T:Tab) (l off:Nat) (t:TypeId) (τ:Ty): ∀(n i:Nat) (st:St),Cu st (fa T l off t τ n i st)
 |0,_,_=>Cu.rfl'
 |n+1,i,st=>by
  simp only [fa];refine Cu.trans ?_ (jv T l off t τ n (i+1) _);split
  ·exact eT _ _ _ _ _
  ·exact Cu.rfl'
theorem Rt: ∀(n:Nat) (st:St) (cs j9:List AC) (st':St),Hx n st cs=some (j9,st')->Cu st st'
 |0,st,cs,j9,st',h=>by
  simp only [Hx] at h;split at h
  ·injection h with h;injection h with h1 h2;subst h2;exact Cu.rfl'
  ·cases h
 |n+1,st,cs,j9,st',h=>by
  simp only [Hx] at h;split at h
  ·injection h with h;injection h with h1 h2;subst h2;exact Cu.rfl'
  ·split at h
   ·exact (bn _ _ _ _ _).trans (Rt n _ _ _ _ h)
   ·exact (bn _ _ _ _ _).trans (Rt n _ _ _ _ h)
   ·cases h
  ·split at h
   ·exact (ie _ _ _ _).trans (Rt n _ _ _ _ h)
   ·cases h
  ·cases h
theorem Tf {st st':St} {v v':AV} (h:settle st v=some (v',st')):Cu st st':=by
 unfold settle at h;split at h
 ·split at h
  ·injection h with h;injection h with h1 h2;subst h2;exact bn _ _ _ _ _
  ·injection h with h;injection h with h1 h2;subst h2;exact bn _ _ _ _ _
  ·cases h
 ·split at h
  ·injection h with h;injection h with h1 h2;subst h2;exact ie _ _ _ _
  ·cases h
 ·split at h
  ·injection h with h;injection h with h1 h2;subst h2;exact Cu.rfl'
  ·cases h
 ·rename_i cs
  cases hs:Hx cs.length st cs with
  |none=>rw [hs] at h;cases h
  |some p=>rw [hs] at h;injection h with h;injection h with h1 h2;subst h2;exact Rt _ _ _ _ _ hs
 ·injection h with h;injection h with h1 h2;subst h2;exact Cu.rfl'
 ·cases h
theorem AA {st st':St} {l:Nat} {t:TypeId} {cs:List AC} {v:AV} (h:uD st l t cs=some (v,st')):Cu st st':=by
 unfold uD at h;split at h
 ·cases h
 ·injection h with h;injection h with h1 h2;subst h2;exact Lw _ _ _
theorem r8 {T:Tab} {st st':St} {l:Nat} {t:TypeId} {τ:Ty} {cs:List AC} {v:AV} (h:mkVar T st l t τ cs=some (v,st')):Cu st st':=by
 unfold mkVar at h;split at h
 ·cases h
 dsimp only at h;split at h
 ·injection h with h;injection h with h1 h2;subst h2;exact (Lw _ _ _).trans (lO _ _ _ _ _ _ _)
 ·cases h
theorem GS {T:Tab} {st st':St} {t:TypeId} {p v:AV} (h:Vw T st t p v=some st'):Cu st st':=by
 unfold Vw at h;split at h
 ·split at h
  ·split at h
   ·injection h with h
    split at h
    ·subst h;exact (Nb _ _ _).trans (jv _ _ _ _ _ _ _ _)
    ·subst h;exact Nb _ _ _
   ·cases h
  ·cases h
 ·split at h
  ·rename_i hs;split at h
   ·split at h
    ·split at h
     ·injection h with h;subst h;exact (Tf hs).trans (Nb _ _ _)
     ·cases h
    ·cases h
   ·cases h
  ·cases h
 ·cases h
theorem uk (st:St) (l j m:Nat) (e:Ty) (te:TypeId) (rows:List (List e.den)) (xs:List e.den) (kp:Option (Nat×Nat)):Cu st (Un st l j m e te rows xs kp):=
 ((Pw st (Cz [m] [l]) (by simp [Cz,AC.refs]) λfr τ x=>by simp [Cz,AC.refs]).trans (Cu.a8 rfl)).trans (Nb (st.dh [m] [l]) _ _)
theorem um (st:St) (l i m:Nat) (e:Ty) (te tid:TypeId) (rows:List (List e.den)) (kp:Option (Nat×Nat)):Cu st (Qq st l i m e te tid rows kp):=
 (Nb st l _).trans (Lw _ m _)
theorem AD {T:Tab} {st st':St} {t:TypeId} {p v:AV} (h:Qb T st t p v=some st'):Cu st st':=by
 unfold Qb at h;split at h
 rotate_left
 ·exact GS h
 unfold c7 at h;split at h
 ·split at h
  ·rename_i hs;split at h
   ·split at h
    ·injection h with h;subst h;exact (Tf hs).trans (Nb _ _ _)
    ·cases h
   ·cases h
  ·cases h
 ·split at h
  ·split at h
   ·split at h
    ·injection h with h;subst h
     exact uk _ _ _ _ _ _ _ _ _
    ·cases h
   ·cases h
  ·cases h
 ·cases h
theorem fX {T:Tab} {st st':St} {d:Nat} {t:TypeId} {x y:Operand} {v:AV} (h:Oo T st d t x y=some (v,st')):Cu st st':=by
 unfold Oo at h;split at h
 ·cases h
 ·split at h
  ·rename_i hs;split at h
   ·cases h
   ·split at h
    ·split at h
     ·injection h with h;injection h with h1 h2;subst h2;exact ((Tf hs).trans (Lw _ _ _)).trans (Lw _ _ _)
     ·cases h
    ·split at h
     ·split at h
      ·split at h
       ·injection h with h;injection h with h1 h2;subst h2;exact (Tf hs).trans (Lw _ _ _)
       ·cases h
      ·cases h
     ·cases h
    ·cases h
  ·cases h
theorem wL {T:Tab} {st st':St} {d:Nat} {t:TypeId} {x y:Operand} {v:AV} (h:Si T st d t x y=some (v,st')):Cu st st':=by
 unfold Si at h;split at h
 ·rename_i tx;split at h
  ·rename_i l i c hg;split at h
   ·split at h
    ·rename_i e te rows kp tid hl ht hc;refine Cu.trans (b:=(Qq st l i d e te tid rows kp).put (some tx) (.at (.own d 0 (rows.getD i []).length))) ?_ (fX h);intro t' fr τ z hz
     by_cases e':t'=tx
     ·subst e';rw [hg] at hz;cases hz
     ·rw [c9 _ _ e'];exact um st l i d e te tid rows kp t' fr τ z hz
    ·cases h
   ·cases h
  ·exact fX h
 ·exact fX h
theorem NS {T:Tab} {st st':St} {d:Nat} {t:TypeId} {l c v:AV} (h:bZ T st d t l c=some (v,st')):Cu st st':=by
 unfold bZ at h;split at h
 ·split at h
  ·split at h
   ·injection h with h;injection h with h1 h2;subst h2;exact Lw _ _ _
   ·cases h
  ·cases h
 ·cases h
theorem r9 (e:Ty): ∀(l:List (Nat×Operand)) (i:Nat) (st st':St) (fr tr:Bool) (ys:List e.den),Lz e i l st=some (fr,tr,ys,st')->Cu st st'
 | [],_,_,_,_,_,_,h=>by
  simp only [Lz] at h
  injection h with h;injection h with h1 h2;injection h2 with h2 h3;injection h3 with h3 h4;subst h4;exact Cu.rfl'
 |(j,x)::r,i,st,st',fr,tr,ys,h=>by
  simp only [Lz] at h;split at h
  ·split at h
   ·rename_i hs;split at h
    ·split at h
     ·rename_i hp
      injection h with h;injection h with h1 h2;injection h2 with h2 h3;injection h3 with h3 h4;subst h4
      exact (Tf hs).trans (r9 e r _ _ _ _ _ _ hp)
     ·cases h
    ·cases h
   ·cases h
  ·cases h
theorem pM {T:Tab} {st st':St} {d:Nat} {t:TypeId} {n:Nat} {parts:Array (Nat×Operand)} {v:AV} (h:My T st d t n parts=some (v,st')):Cu st st':=by
 unfold My at h;split at h
 ·cases h
 ·split at h
  ·cases h
  ·split at h
   ·split at h
    ·rename_i hp
     injection h with h;injection h with h1 h2;subst h2;exact (r9 _ _ _ _ _ _ _ _ hp).trans (Lw _ _ _)
    ·cases h
   ·cases h
theorem wN {T:Tab} {st st':St} {d:Nat} {t:TypeId} {v:AV} (h:Vv T st d t=some (v,st')):Cu st st':=by
 unfold Vv at h;split at h
 ·split at h
  ·injection h with h;injection h with h1 h2;subst h2;exact Lw _ _ _
  ·cases h
 ·cases h
theorem od {T:Tab} {st st':St} {t:TypeId} {m k x:AV} (h:Jo T st t m k x=some st'):Cu st st':=by
 unfold Jo at h;split at h
 ·split at h
  ·split at h
   ·injection h with h;subst h;exact Nb _ _ _
   ·cases h
  ·cases h
 ·cases h
theorem NR {T:Tab} {st st':St} {t t':TypeId} {x y v:AV} (h:jc T st t t' x y=some (v,st')):Cu st st':=by
 unfold jc at h;split at h
 ·split at h
  ·split at h
   ·split at h
    ·injection h with h;injection h with h1 h2;subst h2;exact Nb _ _ _
    ·cases h
   ·cases h
  ·cases h
 ·cases h
theorem GQ {T:Tab} {st st':St} {t:TypeId} {x:AV} (h:evalClear T st t x=some st'):Cu st st':=by
 unfold evalClear at h;split at h
 ·split at h
  ·split at h
   ·split at h
    ·injection h with h;subst h;exact Nb _ _ _
    ·cases h
   ·cases h
  ·cases h
 ·cases h
theorem yE {st st':St} {c:CK} {ys:c.den} {a:AC} (h:cX st c ys a=some st'):st'.tmps=st.tmps:=by
 unfold cX at h
 repeat' split at h
 all_goals first|(cases h;done)|(simp only [Aa] at h;subst h;rfl)|skip
theorem WQ {st st':St} {e:Ty} {ys:List e.den} {a:AC} (h:OY st e ys a=some st'):st'.tmps=st.tmps:=by
 unfold OY at h
 repeat' split at h
 all_goals first|(cases h;done)|(simp only [Aa] at h;subst h;rfl)|skip
theorem Vs: ∀(cs:List (Bool×CK)) (o:IOs.den cs) (as:List AC) (st st':St),Il cs o as st=some st'->st'.tmps=st.tmps
 | [],_,_,st,st',h=>by simp only [Il,Aa] at h;subst h;rfl
 |(true, .Ia _)::r,o,[],st,st',h=>by simp [Il] at h
 |(true, .row _ _)::r,o,[],st,st',h=>by simp [Il] at h
 |(true, .Hz _ _)::r,o,[],st,st',h=>by simp [Il] at h
 |(true, .part _ _)::r,o,[],st,st',h=>by simp [Il] at h
 |(true, .Ca _ _ _)::r,o,[],st,st',h=>by simp [Il] at h
 |(true, .Ca _ _ _)::r,o,a::as,st,st',h=>Vs r o as st st' (by simpa only [Il] using h)
 |(false,_)::r,o,[],st,st',h=>by simp [Il] at h
 |(true, .Ia _)::r,o,a::as,st,st',h=>Vs r o as st st' (by simpa only [Il] using h)
 |(false,_)::r,o,a::as,st,st',h=>Vs r o as st st' (by simpa only [Il] using h)
 |(true, .row _ _)::r,o,a::as,st,st',h=>by
  simp only [Il] at h;split at h
  ·rename_i hc;exact (Vs r o.2 as _ st' h).trans (yE hc)
  ·cases h
 |(true, .part _ _)::r,o,a::as,st,st',h=>by
  simp only [Il] at h;split at h
  ·rename_i hc;exact (Vs r o.2 as _ st' h).trans (WQ hc)
  ·cases h
 |(true, .Hz _ _)::r,o,a::as,st,st',h=>by
  simp only [Il] at h;split at h
  ·rename_i hc;exact (Vs r o.2 as _ st' h).trans (yE hc)
  ·cases h
theorem zZ (cP st:St) (ls:List Nat) (n:Nat) (hl:cP.tmps.length=st.tmps.length) (h:Cu cP st):Cu cP (mL cP st ls n):=by
 unfold mL;split
 ·exact h
 ·intro t fr τ x hx;show (Mh _ cP.tmps st.tmps).getD t .undef=_;rcases gM ls cP.tmps st.tmps t hl with ⟨k,i,c,h1,_⟩|h1
  ·rw [show cP.tmps.getD t .undef=_ from hx] at h1;cases h1
  ·rw [h1];exact h t fr τ x hx
theorem GP {st st':St} {d:Option Nat} {s:MSpec} {args:List AV} {v:AV} (h:Yq st d s args=some (v,st')):Cu st st':=by
 unfold Yq at h;split at h
 ·cases h
 split at h
 ·cases h
 split at h
 ·cases h
 split at h
 ·split at h
  ·cases h
  split at h
  ·cases h
  rename_i st1 hp;split at h
  ·cases h
  split at h
  ·simp only [Aa,Ag] at h;obtain ⟨_,rfl⟩:=h;have hpt:=Vs _ _ _ _ _ hp;refine zZ _ _ _ _ ?_ ?_
   ·simp only [mi,qj];rw [<-hpt];simp only [St.dh,St.Lo,Ct]
   ·refine Cu.trans (Cu.a8 hpt) ?_;refine Cu.trans (Pw st1 (Cz _ _) (by simp [Cz,AC.refs]) λfr τ x=>by simp [Cz,AC.refs]) (Cu.a8 qj)
  ·cases h
 ·cases h
theorem dU (st:St) (k m:Nat) (b:OB):Cu st (Rq st k m b):=
 (Pw st (Cz [m,k] []) (by simp [Cz,AC.refs]) λfr τ x=>by simp [Cz,AC.refs]).trans (Cu.a8 rfl)
theorem GR {T:Tab} {st st':St} {d:Nat} {t:TypeId} {l c v:AV} (h:Ys T st d t l c=some (v,st')):Cu st st':=by
 unfold Ys at h;split at h
 ·exact NS h
 ·split at h
  ·split at h
   ·injection h with h;injection h with h1 h2;subst h2;exact dU _ _ _ _
   ·cases h
  ·cases h
theorem oa {T:Tab} {st st':St} {d:Nat} {t:TypeId} {n:Nat} {parts:Array (Nat×Operand)} {v:AV} (h:Jk T st d t n parts=some (v,st')):Cu st st':=by
 unfold Jk at h;split at h
 ·exact pM h
 ·repeat' split at h
  all_goals first|(cases h;done)|(injection h with h;injection h with h1 h2;subst h2;exact dU _ _ _ _)
theorem wM {T:Tab} {st st':St} {d:Nat} {t:TypeId} {x y:Operand} {v:AV} (h:Sj T st d t x y=some (v,st')):Cu st st':=by
 unfold Sj at h;split at h
 ·exact wL h
 ·repeat' split at h
  all_goals first|(cases h;done)|(injection h with h;injection h with h1 h2;subst h2;exact dU _ _ _ _)
theorem eS {st st':St} {v:AV} {o:Option AV} (h:o.map (λv=>(v,st))=some (v,st')):Cu st st':=by
 cases o with
 |none=>cases h
 |some u=>injection h with h;injection h with h1 h2;subst h2;exact Cu.rfl'
theorem Vb: ∀(l:List Operand) {st st1:St},Ny l st=some st1->Cu st st1
 | [],st,st1,h=>by
  simp only [Ny,Aa] at h;subst h;exact Cu.rfl'
 |x::r,st,st1,h=>by
  simp only [Ny] at h
  cases hs:settle st (st.ev x) with
  |none=>rw [hs] at h;cases h
  |some p=>
   rw [hs] at h;exact (Tf (v':=p.1) (st':=p.2) hs).trans (Vb r h)
theorem wO {T:Tab} {st:St} (p x:Operand):Cu st (Pf T st p x):=by
 unfold Pf;split
 ·split
  ·split
   ·rename_i hs;exact Vb _ hs
   ·exact Cu.rfl'
  ·exact Cu.rfl'
 ·exact Cu.rfl'
theorem nT {T:Tab} {Γ:Env} {st st':St} {o:Oper} {v:AV} (h:evalOp T Γ st o=some (v,st')):Cu st st':=by
 unfold evalOp at h;split at h
 ·split at h
  ·split at h
   ·injection h with h;injection h with h1 h2;subst h2;exact Lw _ _ _
   ·cases h
  ·injection h with h;injection h with h1 h2;subst h2;exact Cu.rfl'
 ·split at h
  ·split at h
   ·exact AA h
   ·exact r8 h
  ·cases h
 ·split at h
  ·split at h
   ·split at h
    ·split at h
     ·obtain ⟨p,_,hp⟩:=Option.map_eq_some_iff.1 h;cases hp;exact Cu.rfl'
     ·cases h
    ·exact r8 h
   ·cases h
  ·cases h
 ·rename_i t p x _
  cases hs:Qb T (Pf T st p x) t ((Pf T st p x).ev p) ((Pf T st p x).ev x) with
  |none=>rw [hs] at h;cases h
  |some s=>rw [hs] at h;injection h with h;injection h with h1 h2;subst h2;exact (wO p x).trans (AD hs)
 ·split at h
  ·exact GR h
  ·cases h
 ·split at h
  ·exact wN h
  ·cases h
 ·rename_i t m k x _
  cases hs:Jo T st t (st.ev m) (st.ev k) (st.ev x) with
  |none=>rw [hs] at h;cases h
  |some s=>rw [hs] at h;injection h with h;injection h with h1 h2;subst h2;exact od hs
 ·rename_i t m k x _
  cases hs:Jo T st t (st.ev m) (st.ev k) (st.ev x) with
  |none=>rw [hs] at h;cases h
  |some s=>rw [hs] at h;injection h with h;injection h with h1 h2;subst h2;exact od hs
 ·split at h
  ·exact oa h
  ·cases h
 ·exact eS h
 ·split at h
  ·split at h
   ·exact wM h
   ·cases h
  ·cases h
 ·split at h
  ·exact NR h
  ·cases h
 ·split at h
  ·rename_i x t _ _
   cases hs:evalClear T st t (st.ev x) with
   |none=>rw [hs] at h;cases h
   |some s=>rw [hs] at h;injection h with h;injection h with h1 h2;subst h2;exact GQ hs
  ·cases h
 ·split at h
  ·exact GP h
  ·split at h
   ·rename_i args _ _ _ _ _ _
    cases hs:Ny args.toList st with
    |none=>rw [hs] at h;cases h
    |some st1=>
     rw [hs] at h;exact (Vb _ hs).trans (eS h)
   ·exact eS h
  ·exact eS h
 ·exact eS h
def Lg:List Oper->List Nat
 | []=> []
 |o::r=>(match o.dst with|some d=> [d]|none=> [])++Lg r
def writes:Code->List Nat
 | .region _ ops _=>Lg ops.toList
 | .seq a b=>writes a++writes b
 | .cond _ a b=>writes a++writes b
 | .block _ c=>writes c
 | .loop c=>writes c
 |_=> []
def Gg (P:Nat->Prop) (st st':St):Prop:= ∀(t:Nat) (fr:Bool) (τ:Ty) (x:τ.den),P t->st.get t= .at (.data fr τ x)->st'.get t= .at (.data fr τ x)
theorem Gg.trans {P:Nat->Prop} {a b c:St} (h1:Gg P a b) (h2:Gg P b c):Gg P a c:= λt fr τ x hp h=>h2 t fr τ x hp (h1 t fr τ x hp h)
theorem Gg.mono {P Q:Nat->Prop} {a b:St} (h1:Gg P a b) (h: ∀t,Q t->P t):Gg Q a b:= λt fr τ x hp hx=>h1 t fr τ x (h t hp) hx
theorem Cu.on {P:Nat->Prop} {a b:St} (h:Cu a b):Gg P a b:= λt fr τ x _ hx=>h t fr τ x hx
theorem dk (st:St) (dst:Option Tmp) (v:AV):Gg (λt=>dst≠some t) st (st.put dst v):=by
 intro t fr τ x hp hx
 cases dst with
 |none=>exact hx
 |some d=>rw [c9 st v (λh=>hp (by rw [h]))];exact hx
theorem c6 {T:Tab} {Γ:Env} {ops:Array Oper} {st st':St} {o:Oper} (h:Fl T Γ ops st o=some st'):Gg (λt=>o.dst≠some t) st st':=by
 have key: ∀s,(evalOp T Γ st o).map (λr=>r.2.put o.dst r.1)=some s->Gg (λt=>o.dst≠some t) st s:=by
  intro s hs
  cases he:evalOp T Γ st o with
  |none=>rw [he] at hs;cases hs
  |some p=>rw [he] at hs;injection hs with hs;subst hs;exact (nT (v:=p.1) (st':=p.2) he).on.trans (dk _ _ _)
 unfold Fl at h;split at h
 ·exact key _ h
 ·split at h
  ·split at h
   ·exact key _ h
   ·injection h with h;subst h;exact dk _ _ _
  ·injection h with h;subst h;exact dk _ _ _
  ·cases h
theorem lz {T:Tab} {Γ:Env} {ops:Array Oper} : ∀(l:List Oper) (st st':St),bg T Γ ops l st=some st'->Gg (λt=>t∉Lg l) st st'
 | [],st,st',h=>by injection h with h;subst h;exact Cu.rfl'.on
 |o::r,st,st',h=>by
  simp only [bg] at h;split at h
  ·rename_i s hs;refine Gg.trans ((c6 hs).mono λt ht=>?_) ((lz r _ _ h).mono λt ht=>?_)
   ·intro hd;apply ht;simp [Lg,hd]
   ·intro hd;apply ht;simp [Lg,hd]
  ·cases h
theorem a7: ∀(l:List Oper) (o:Oper) (d:Nat),o∈l->o.dst=some d->d∈Lg l
 | [],_,_,h,_=>by cases h
 |p::r,o,d,h,hd=>by
  cases h with
  |head=>simp [Lg,hd]
  |tail _ h=>simp only [Lg,Be];exact .inr (a7 r o d h hd)
theorem pX {ops:Array Oper} {i:Nat} {o:Oper} (h:ops[i]?=some o):o∈ops.toList:=by
 rw [Nu] at h;obtain ⟨h1,h2⟩:=h;rw [<-h2];simp
theorem Zx {T:Tab} {Γ:Env} {ops:Array Oper} : ∀(l:List Nat) (st st':St),Nk T Γ ops l st=some st'->Gg (λt=>t∉Lg ops.toList) st st'
 | [],st,st',h=>by injection h with h;subst h;exact Cu.rfl'.on
 |i::r,st,st',h=>by
  simp only [Nk] at h;split at h
  ·cases h
  ·rename_i o ho;split at h
   ·rename_i s hs;exact ((c6 hs).mono λt ht hd=>ht (a7 _ _ _ (pX ho) hd)).trans (Zx r _ _ h)
   ·cases h
theorem Sk {T:Tab} {Γ:Env} {ops:Array Oper} : ∀(l:List Nat) (st st':St),Gt T Γ ops l st=some st'->Gg (λt=>t∉Lg ops.toList) st st'
 | [],st,st',h=>by injection h with h;subst h;exact Cu.rfl'.on
 |i::r,st,st',h=>by
  simp only [Gt] at h;split at h
  ·cases h
  ·rename_i o ho;split at h
   ·exact ((dk _ _ _).mono λt ht hd=>ht (a7 _ _ _ (pX ho) hd)).trans (Sk r _ _ h)
   ·cases h
theorem Va: ∀(l:List Nat) (st:St),Cu st (bC l st)
 | [],_=>Cu.rfl'
 |a::r,st=>(oc st a).trans (Va r _)
theorem Ws (live:List Nat): ∀(i:Nat) (l:List AV) (t:Nat),i+t∈live->(Iq live i l).getD t .undef=l.getD t .undef
 |_,[],_,_=>rfl
 |i,v::r,0,h=>by simp [Iq];intro hn;exact absurd h hn
 |i,v::r,t+1,h=>by
  simp only [Iq,Nz];exact Ws live (i+1) r t (by rw [show i+1+t=i+(t+1) by omega];exact h)
theorem AB (l k:Nat) (st:St):Cu st (st.rename l k):=by
 unfold St.rename;split
 ·split
  ·exact (Pw st (We l k) rfl λ_ _ _=>rfl).trans (Cu.a8 rfl)
  ·exact Cu.rfl'
 ·exact Cu.rfl'
theorem eU: ∀(n t:Nat) (st:St),Cu st (Ng n t st)
 |0,_,_=>Cu.rfl'
 |n+1,t,st=>by
  simp only [Ng];refine Cu.trans ?_ (eU n (t+1) _);split
  ·split
   ·split
    ·exact Cu.rfl'
    ·exact AB _ _ _
   ·exact Cu.rfl'
  ·exact Cu.rfl'
theorem uo (t:Nat) (st:St):Cu st (cz t st):=by
 unfold cz;split
 ·rename_i l off len hg;split
  ·split
   ·intro k fr τ x hk
    have Ii:k≠t:= λe=>by subst e;rw [hg] at hk;cases hk
    rw [c9 _ _ Ii];exact Lw _ _ _ k fr τ x hk
   ·exact Cu.rfl'
  ·exact Cu.rfl'
 ·exact Cu.rfl'
theorem mM (c:Nat) (st:St):Cu st (Qi c st):=by
 unfold Qi;split
 ·split
  ·split
   ·split
    ·split
     ·exact (Lw _ _ _).trans (Nb _ _ _)
     ·exact Cu.rfl'
    ·exact Cu.rfl'
   ·exact Cu.rfl'
  ·exact Cu.rfl'
 ·exact Cu.rfl'
theorem dm (live:List Nat): ∀(n c:Nat) (st:St),Cu st (Py live n c st)
 |0,_,_=>Cu.rfl'
 |n+1,c,st=>by
  simp only [Py];refine Cu.trans ?_ (dm live n (c+1) _);split
  ·exact mM _ _
  ·exact Cu.rfl'
theorem ig (live:List Nat): ∀(n t:Nat) (st:St),Cu st (Po live n t st)
 |0,_,st=>dm live 16 0 st
 |n+1,t,st=>by
  simp only [Po];refine Cu.trans ?_ (ig live n (t+1) _);split
  ·exact uo _ _
  ·exact Cu.rfl'
theorem lM (live:List Nat) (st:St):Gg (λt=>t∈live) st (st.clean live):=by
 intro t fr τ x hp hx;unfold St.clean
 have key: ∀s:St,s.get t= .at (.data fr τ x)->(if live.contains dy then Ng s.tmps.length 0 s else s).get t= .at (.data fr τ x):=by
  intro s hs;split
  ·exact eU _ _ s t fr τ x hs
  ·exact hs
 have Abe: ∀s:St,s.get t= .at (.data fr τ x)->(if live.any (λt=>Nat.ble Ux t) then s.Jg live else s).get t= .at (.data fr τ x):=by
  intro s hs
  split<;>exact hs
 have Abf: ∀s:St,s.get t= .at (.data fr τ x)->(if live.any (λt=>Nat.ble Nf t&&Nat.blt t dy) then Po live s.tmps.length 0 s else s).get t= .at (.data fr τ x):=by
  intro s hs;split
  ·exact ig _ _ _ s t fr τ x hs
  ·exact hs
 refine Abe _ (key _ (Abf _ (Va _ _ t fr τ x ?_)));simp only [St.get] at hx⊢;rw [Ws live 0 st.tmps t (by simpa using hp)];exact hx
def cj (live:Nat->List Nat):Code->Nat->Bool
 | .seq a b,t=>cj live a t&&cj live b t
 | .cond _ a b,t=>cj live a t&&cj live b t
 | .block _ c,t=>cj live c t
 | .loop c,t=>(live (Fm c)).contains t&&cj live c t
 |_,_=>true
theorem pt {a b:Bool} (h:(a&&b)=true):a=true:=by cases a<;>simp_all
theorem mj {a b:Bool} (h:(a&&b)=true):b=true:=by cases a<;>simp_all
theorem pB {T:Tab} {Γ:Env} {ops:Array Oper} {draw:Bool} {st st':St} (h:Sl T Γ ops draw st=some st'):Gg (λt=>t∉writes (.region 0 ops draw)) st st':=by
 unfold Sl at h
 have go: ∀q,(match Gt T Γ ops (kF q Γ ops) st with
   |some s=>Nk T Γ ops (Kb q Γ ops) s
   |none=>none)=some st'->Gg (λt=>t∉writes (.region 0 ops draw)) st st':=by
  intro q h;split at h
  ·rename_i s hs;exact (Sk _ _ _ hs).trans (Zx _ _ _ h)
  ·cases h
 split at h
 ·split at h
  ·exact go false h
  ·split at h
   ·exact go true h
   ·cases h
 ·exact lz _ _ _ h
theorem ta {T:Tab} {Γ:Env} {ops:Array Oper} {draw:Bool} {K:St->Prop} (s0:St): ∀(f:Nat) (Aj:Array Bool) (st:St),Gg (λt=>t∉writes (.region 0 ops draw)) s0 st->anyS T Γ ops K f Aj st->anyS T Γ ops (λs=>K s/\Gg (λt=>t∉writes (.region 0 ops draw)) s0 s) f Aj st
 |0,_,_,hk,h=>⟨h.1,h.2,hk⟩
 |f+1,Aj,st,hk,h=>⟨h.1,λi hi=>by
  obtain ⟨o,st',h1,h2,h3⟩:=h.2 i hi
  have h4:Nk T Γ ops [i] st=some st':=by simp only [Nk,h1,h2]
  exact ⟨o,st',h1,h2,ta s0 f _ _ (hk.trans (Zx _ _ _ h4)) h3⟩⟩
theorem mn {T:Tab} {Γ:Env} {ops:Array Oper} {draw:Bool} {E:List Nat} {K:St->Prop} (s0:St): ∀(f:Nat) (Aj:Array Bool) (st:St),Gg (λt=>t∉writes (.region 0 ops draw)) s0 st->rZ T Γ ops E K f Aj st->rZ T Γ ops E (λs=>K s/\Gg (λt=>t∉writes (.region 0 ops draw)) s0 s) f Aj st
 |0,_,_,hk,h=>⟨h.1,h.2.1,h.2.2,hk⟩
 |f+1,Aj,st,hk,h=>⟨h.1,h.2.1,λi hi=>by
  obtain ⟨o,st',h1,h2,h3⟩:=h.2.2 i hi
  have h4:Nk T Γ ops [i] st=some st':=by simp only [Nk,h1,h2]
  exact ⟨o,st',h1,h2,mn s0 f _ _ (hk.trans (Zx _ _ _ h4)) h3⟩⟩
theorem jw {ops:Array Oper} {dead:List Nat} (hd:dead.all (Zp ops)=true) (st:St):Gg (λt=>t∉Lg ops.toList) st (st.Qx dead):=by
 intro t fr τ x ht hx;unfold St.Qx;refine Va _ _ t fr τ x ?_;show (Iq _ 0 st.tmps).getD t .undef=_;rw [Ws _ 0 st.tmps t ?_]
 ·exact hx
 ·refine Ck.2 ⟨Ev.2 ?_,?_⟩
  ·refine Bz λhn=>?_
   have:st.get t= .undef:=by
    unfold St.get;rw [Al,Dv (by omega)];rfl
   rw [hx] at this;cases this
  ·cases hc:dead.contains (0+t) with
   |false=>rfl
   |true=>
    have hm:0+t∈dead:=by simpa using hc
    have h1:=Bk.1 hd _ hm;obtain ⟨o,ho,h2⟩:=Eu.1 h1;rw [Bl] at h2;exact absurd (a7 _ o t ho (by simpa using h2)) ht
theorem lj.keeps {T:Tab} {Γ:Env} {ops:Array Oper} {draw:Bool} {st:St} {K:St->Prop} (h:lj T Γ ops draw st K):lj T Γ ops draw st (λs=>K s/\Gg (λt=>t∉writes (.region 0 ops draw)) st s):=by
 rcases h with ⟨st',h1,h2⟩|⟨h1,h2,cP,h3,h4|⟨E,st1,h4,h5,h6,h7⟩⟩
 ·exact .inl ⟨st',h1,h2,pB h1⟩
 ·exact .inr ⟨h1,h2,cP,h3, .inl (ta st _ _ _ (Sk _ _ _ h3) h4)⟩
 ·exact .inr ⟨h1,h2,cP,h3, .inr ⟨E,st1,h4,h5,h6,mn st _ _ _ ((Sk _ _ _ h3).trans (Sk _ _ _ h6)) h7⟩⟩
theorem ze.keeps {T:Tab} {Γ:Env} {ops:Array Oper} {draw:Bool} {st:St} {K:St->Prop} (h:ze T Γ ops draw st K):ze T Γ ops draw st (λs=>K s/\Gg (λt=>t∉writes (.region 0 ops draw)) st s):=by
 rcases h with h|⟨dead,hd,h⟩
 ·exact .inl h.keeps
 ·exact .inr ⟨dead,hd,h.keeps.mono λs hs=>⟨hs.1,hs.2.trans (jw hd s)⟩⟩
theorem lp (ops:Array Oper) {fr:Bool} {τ:Ty} {x:τ.den} : ∀(i:Nat) (l:List AV) (t:Nat),l.getD t .undef= .at (.data fr τ x)->(Pj ops i l).getD t .undef= .at (.data fr τ x)
 |_,[],_,h=>h
 |i,v::r,0,h=>by
  cases v with
  |Nh l=>cases h
  |_=>exact h
 |i,v::r,t+1,h=>by
  have h':=lp ops (i+1) r t h
  cases v<;>(simp only [Pj,Nz];exact h')
theorem lN (ops:Array Oper) (st:St):Cu st (st.nL ops):= λt _ _ _ hx=>lp ops 0 st.tmps t hx
theorem PM {T:Tab} {Γ:Env} {live:Nat->List Nat} {c:Code} {st:St} {Q:Md->St->Prop} (h:Ox T Γ live c st Q): ∀(s0:St) (p:Nat->Prop),Gg p s0 st->(∀t,p t->t∉writes c/\cj live c t=true)->Ox T Γ live c st (λe s=>Q e s/\Gg p s0 s):=by
 induction h with
 |skip h=>exact λs0 p hk _=> .skip ⟨h,hk⟩
 |label h=>exact λs0 p hk _=> .label ⟨h,hk⟩
 |exit h=>exact λs0 p hk _=> .exit ⟨h,hk⟩
 |ret h=>exact λs0 p hk _=> .ret ⟨h,hk⟩
 |region h=>
  exact λs0 p hk hp=> .region (h.keeps.mono λs hs=>⟨hs.1,(hk.trans (lN _ _).on).trans (hs.2.mono λt ht=>(hp t ht).1)⟩)
 |seq Q1 _ _ h3 VC GJ=>
  exact λs0 p hk hp=> .seq _ (VC s0 p hk λt ht=>⟨λhm=>(hp t ht).1 (by simp [writes,hm]),pt (hp t ht).2⟩)
   (λs hs=>GJ s hs.1 s0 p hs.2 λt ht=>⟨λhm=>(hp t ht).1 (by simp [writes,hm]),mj (hp t ht).2⟩) λe s he hs=>⟨h3 e s he hs.1,hs.2⟩
 |cond hc _ _ VC GJ=>
  exact λs0 p hk hp=> .cond hc (λht=>VC ht s0 p hk λt h=>⟨λhm=>(hp t h).1 (by simp [writes,hm]),pt (hp t h).2⟩)
   fun ht=>GJ ht s0 p hk λt h=>⟨λhm=>(hp t h).1 (by simp [writes,hm]),mj (hp t h).2⟩
 |block Q1 _ h2 ih=>
  exact λs0 p hk hp=> .block _ (ih s0 p hk λt ht=>⟨λhm=>(hp t ht).1 (by simpa [writes] using hm),by simpa [cj] using (hp t ht).2⟩) λe s hs=>by
   have h:=h2 e s hs.1
   cases e with
   |normal=>exact ⟨h,hs.2⟩
   |ret=>exact ⟨h,hs.2⟩
   |exit VA=>
    simp only [yb] at h⊢;split at h
    ·rename_i hi;rw [Ac hi];exact ⟨h,hs.2⟩
    ·rename_i hi;rw [Ai hi];exact ⟨h,hs.2⟩
 |loop Q1 _ _ h3 VC GJ=>
  intro s0 p hk hp
  refine .loop _ (VC s0 p (hk.trans ((lM _ _).mono λt ht=>by simpa using pt (hp t ht).2)) λt ht=>⟨λhm=>(hp t ht).1 (by simpa [writes] using hm),mj (hp t ht).2⟩)
   (λs hs=>GJ s hs.1 s0 p hs.2 hp) λe s he hs=>⟨h3 e s he hs.1,hs.2⟩
end Go.Proofs.Ytfgfigkbgecfnaa
