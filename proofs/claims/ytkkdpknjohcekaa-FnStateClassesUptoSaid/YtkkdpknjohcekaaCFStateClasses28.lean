/-
  Part 29 of the proof that the statement FnStateClasses holds.
-/
import Derived.Test.YtkkdpknjohcekaaCFStateClasses27
namespace Go.Proofs.Ytkkdpknjohcekaa
open Go.RowKit
def Ch (st st':St):Prop:= ∀(t:Nat) (fr:Bool) (τ:Ty) (x:τ.den),st.get t= .at (.data fr τ x)->st'.get t= .at (.data fr τ x)
theorem Ch.rfl' {st:St} :Ch st st:= λ_ _ _ _ h=>h
theorem Ch.trans {a b c:St} (h1:Ch a b) (h2:Ch b c):Ch a c:= λt fr τ x h=>h2 t fr τ x (h1 t fr τ x h)
theorem Ch.Ye {a b:St} (h:b.tmps=a.tmps):Ch a b:= λt fr τ x hx=>by
 simp only [St.get] at hx⊢
 rw [h]
 exact hx
theorem aO (st:St) {t d:Nat} (v:AV) (h:t≠d):(st.put (some d) v).get t=st.get t:=by
 simp only [St.put,St.get]
 rw [Qh]
 rw [Ai (by rintro ⟨rfl,_⟩;exact h rfl)]
theorem Oz (st:St) (f:AC->AC) (hu:f .undef= .undef) (hd: ∀fr (τ:Ty) (x:τ.den),f (.data fr τ x)= .data fr τ x):Ch st (st.Km f):=by
 intro t fr τ x h
 simp only [St.Km,St.get]
 rw [Ub f hu,show st.tmps.getD t .undef=_ from h]
 simp only [AV.map,hd]
theorem m4 (st:St) (l:Nat):Ch st (st.forget l):=
 (Oz st (Cl l) rfl λ_ _ _=>rfl).trans (Ch.Ye rfl)
theorem a5 (st:St) (l:Nat) (fr:Bool) (e:Ty) (xs:List e.den):Ch st (st.freeze l fr e xs):=
 (Oz st (Cu l fr e xs) rfl λ_ _ _=>rfl).trans (Ch.Ye rfl)
theorem eX (st:St) (l:Nat) (v:Ty) (m:ByteArray->Option v.den):Ch st (st.Ie l v m):=
 (Oz st (Gj l v m) rfl λ_ _ _=>rfl).trans (Ch.Ye rfl)
theorem Ku (st:St) (l:Nat) (b:OB):Ch st (st.new l b):=(m4 st l).trans (Ch.Ye rfl)
theorem Me (st:St) (l:Nat) (b:OB):Ch st (st.Ji l b):=Ch.Ye rfl
theorem cU (b:OB) (key l i:Nat) (st:St):Ch st (Tt b key l i st):=by
 unfold Tt
 split
 ·split
  ·dsimp only
   split
   ·exact (Ku _ _ _).trans (Me _ _ _)
   ·exact Ku _ _ _
  ·exact Ch.rfl'
 ·exact Ch.rfl'
theorem jC (T:Tab) (l:Nat) (t:TypeId) (τ:Ty): ∀(n i:Nat) (st:St),Ch st (ee T l t τ n i st)
 |0,_,_=>Ch.rfl'
 |n+1,i,st=>by
  simp only [ee]
  refine Ch.trans ?_ (jC T l t τ n (i+1) _)
  split
  ·exact cU _ _ _ _ _
  ·exact Ch.rfl'
theorem gG (T:Tab) (l off:Nat) (t:TypeId) (τ:Ty): ∀(n i:Nat) (st:St),Ch st (da T l off t τ n i st)
 |0,_,_=>Ch.rfl'
 |n+1,i,st=>by
  simp only [da]
  refine Ch.trans ?_ (gG T l off t τ n (i+1) _)
  split
  ·exact cU _ _ _ _ _
  ·exact Ch.rfl'
theorem Ql: ∀(n:Nat) (st:St) (cs gh:List AC) (st':St),Gx n st cs=some (gh,st')->Ch st st'
 |0,st,cs,gh,st',h=>by
  simp only [Gx] at h
  split at h
  ·injection h with h;injection h with h1 h2;subst h2;exact Ch.rfl'
  ·cases h
 |n+1,st,cs,gh,st',h=>by
  simp only [Gx] at h
  split at h
  ·injection h with h;injection h with h1 h2;subst h2;exact Ch.rfl'
  ·split at h
   ·exact (a5 _ _ _ _ _).trans (Ql n _ _ _ _ h)
   ·exact (a5 _ _ _ _ _).trans (Ql n _ _ _ _ h)
   ·cases h
  ·split at h
   ·exact (eX _ _ _ _).trans (Ql n _ _ _ _ h)
   ·cases h
  ·cases h
theorem Rr {st st':St} {v v':AV} (h:settle st v=some (v',st')):Ch st st':=by
 unfold settle at h
 split at h
 ·split at h
  ·injection h with h;injection h with h1 h2;subst h2;exact a5 _ _ _ _ _
  ·injection h with h;injection h with h1 h2;subst h2;exact a5 _ _ _ _ _
  ·cases h
 ·split at h
  ·injection h with h;injection h with h1 h2;subst h2;exact eX _ _ _ _
  ·cases h
 ·split at h
  ·injection h with h;injection h with h1 h2;subst h2;exact Ch.rfl'
  ·cases h
 ·rename_i cs
  cases hs:Gx cs.length st cs with
  |none=>rw [hs] at h;cases h
  |some p=>rw [hs] at h;injection h with h;injection h with h1 h2;subst h2;exact Ql _ _ _ _ _ hs
 ·injection h with h;injection h with h1 h2;subst h2;exact Ch.rfl'
 ·cases h
theorem xb {st st':St} {l:Nat} {t:TypeId} {cs:List AC} {v:AV} (h:rF st l t cs=some (v,st')):Ch st st':=by
 unfold rF at h
 split at h
 ·cases h
 ·injection h with h;injection h with h1 h2;subst h2;exact Ku _ _ _
theorem ov {T:Tab} {st st':St} {l:Nat} {t:TypeId} {τ:Ty} {cs:List AC} {v:AV} (h:mkVar T st l t τ cs=some (v,st')):Ch st st':=by
 unfold mkVar at h
 split at h
 ·cases h
 dsimp only at h
 split at h
 ·injection h with h;injection h with h1 h2;subst h2;exact (Ku _ _ _).trans (jC _ _ _ _ _ _ _)
 ·cases h
theorem AO {T:Tab} {st st':St} {t:TypeId} {p v:AV} (h:Tz T st t p v=some st'):Ch st st':=by
 unfold Tz at h
 split at h
 ·split at h
  ·split at h
   ·injection h with h
    split at h
    ·subst h;exact (Me _ _ _).trans (gG _ _ _ _ _ _ _ _)
    ·subst h;exact Me _ _ _
   ·cases h
  ·cases h
 ·split at h
  ·rename_i hs
   split at h
   ·split at h
    ·split at h
     ·injection h with h;subst h;exact (Rr hs).trans (Me _ _ _)
     ·cases h
    ·cases h
   ·cases h
  ·cases h
 ·cases h
theorem rf (st:St) (l j m:Nat) (e:Ty) (te:TypeId) (rows:List (List e.den)) (xs:List e.den) (kp:Option (Nat×Nat)):Ch st (Sx st l j m e te rows xs kp):=
 ((Oz st (Cn [m] [l]) (by simp [Cn,AC.refs]) λfr τ x=>by simp [Cn,AC.refs]).trans (Ch.Ye rfl)).trans (Me (st.bC [m] [l]) _ _)
theorem rh (st:St) (l i m:Nat) (e:Ty) (te tid:TypeId) (rows:List (List e.den)) (kp:Option (Nat×Nat)):Ch st (Pp st l i m e te tid rows kp):=
 (Me st l _).trans (Ku _ m _)
theorem xd {T:Tab} {st st':St} {t:TypeId} {p v:AV} (h:Pe T st t p v=some st'):Ch st st':=by
 unfold Pe at h
 split at h
 rotate_left
 ·exact AO h
 unfold aM at h
 split at h
 ·split at h
  ·rename_i hs
   split at h
   ·split at h
    ·injection h with h;subst h;exact (Rr hs).trans (Me _ _ _)
    ·cases h
   ·cases h
  ·cases h
 ·split at h
  ·split at h
   ·split at h
    ·injection h with h;subst h
     exact rf _ _ _ _ _ _ _ _ _
    ·cases h
   ·cases h
  ·cases h
 ·cases h
theorem dT {T:Tab} {st st':St} {d:Nat} {t:TypeId} {x y:Operand} {v:AV} (h:Nq T st d t x y=some (v,st')):Ch st st':=by
 unfold Nq at h
 split at h
 ·cases h
 ·split at h
  ·rename_i hs
   split at h
   ·cases h
   ·split at h
    ·split at h
     ·injection h with h;injection h with h1 h2;subst h2;exact ((Rr hs).trans (Ku _ _ _)).trans (Ku _ _ _)
     ·cases h
    ·split at h
     ·split at h
      ·split at h
       ·injection h with h;injection h with h1 h2;subst h2;exact (Rr hs).trans (Ku _ _ _)
       ·cases h
      ·cases h
     ·cases h
    ·cases h
  ·cases h
theorem tv {T:Tab} {st st':St} {d:Nat} {t:TypeId} {x y:Operand} {v:AV} (h:Qy T st d t x y=some (v,st')):Ch st st':=by
 unfold Qy at h
 split at h
 ·rename_i tx
  split at h
  ·rename_i l i c hg
   split at h
   ·split at h
    ·rename_i e te rows kp tid hl ht hc
     refine Ch.trans (b:=(Pp st l i d e te tid rows kp).put (some tx) (.at (.own d 0 (rows.getD i []).length))) ?_ (dT h)
     intro t' fr τ z hz
     by_cases e':t'=tx
     ·subst e';rw [hg] at hz;cases hz
     ·rw [aO _ _ e'];exact rh st l i d e te tid rows kp t' fr τ z hz
    ·cases h
   ·cases h
  ·exact dT h
 ·exact dT h
theorem GW {T:Tab} {st st':St} {d:Nat} {t:TypeId} {l c v:AV} (h:aK T st d t l c=some (v,st')):Ch st st':=by
 unfold aK at h
 split at h
 ·split at h
  ·split at h
   ·injection h with h;injection h with h1 h2;subst h2;exact Ku _ _ _
   ·cases h
  ·cases h
 ·cases h
theorem ow (e:Ty): ∀(l:List (Nat×Operand)) (i:Nat) (st st':St) (fr tr:Bool) (ys:List e.den),Kv e i l st=some (fr,tr,ys,st')->Ch st st'
 | [],_,_,_,_,_,_,h=>by
  simp only [Kv] at h
  injection h with h;injection h with h1 h2;injection h2 with h2 h3;injection h3 with h3 h4;subst h4;exact Ch.rfl'
 |(j,x)::r,i,st,st',fr,tr,ys,h=>by
  simp only [Kv] at h
  split at h
  ·split at h
   ·rename_i hs
    split at h
    ·split at h
     ·rename_i hp
      injection h with h;injection h with h1 h2;injection h2 with h2 h3;injection h3 with h3 h4;subst h4
      exact (Rr hs).trans (ow e r _ _ _ _ _ _ hp)
     ·cases h
    ·cases h
   ·cases h
  ·cases h
theorem ni {T:Tab} {st st':St} {d:Nat} {t:TypeId} {n:Nat} {parts:Array (Nat×Operand)} {v:AV} (h:Mc T st d t n parts=some (v,st')):Ch st st':=by
 unfold Mc at h
 split at h
 ·cases h
 ·split at h
  ·cases h
  ·split at h
   ·split at h
    ·rename_i hp
     injection h with h;injection h with h1 h2;subst h2;exact (ow _ _ _ _ _ _ _ _ hp).trans (Ku _ _ _)
    ·cases h
   ·cases h
theorem tz {T:Tab} {st st':St} {d:Nat} {t:TypeId} {v:AV} (h:Tx T st d t=some (v,st')):Ch st st':=by
 unfold Tx at h
 split at h
 ·split at h
  ·injection h with h;injection h with h1 h2;subst h2;exact Ku _ _ _
  ·cases h
 ·cases h
theorem m5 {T:Tab} {st st':St} {t:TypeId} {m k x:AV} (h:Ip T st t m k x=some st'):Ch st st':=by
 unfold Ip at h
 split at h
 ·split at h
  ·split at h
   ·injection h with h;subst h;exact Me _ _ _
   ·cases h
  ·cases h
 ·cases h
theorem GV {T:Tab} {st st':St} {t t':TypeId} {x y v:AV} (h:gl T st t t' x y=some (v,st')):Ch st st':=by
 unfold gl at h
 split at h
 ·split at h
  ·split at h
   ·split at h
    ·injection h with h;injection h with h1 h2;subst h2;exact Me _ _ _
    ·cases h
   ·cases h
  ·cases h
 ·cases h
theorem AM {T:Tab} {st st':St} {t:TypeId} {x:AV} (h:evalClear T st t x=some st'):Ch st st':=by
 unfold evalClear at h
 split at h
 ·split at h
  ·split at h
   ·split at h
    ·injection h with h;subst h;exact Me _ _ _
    ·cases h
   ·cases h
  ·cases h
 ·cases h
theorem vL {st st':St} {c:CK} {ys:c.den} {a:AC} (h:bq st c ys a=some st'):st'.tmps=st.tmps:=by
 unfold bq at h
 repeat' split at h
 all_goals first|(cases h;done)|(simp only [Aa] at h;subst h;rfl)|skip
theorem OV {st st':St} {e:Ty} {ys:List e.den} {a:AC} (h:IC st e ys a=some st'):st'.tmps=st.tmps:=by
 unfold IC at h
 repeat' split at h
 all_goals first|(cases h;done)|(simp only [Aa] at h;subst h;rfl)|skip
theorem Tu: ∀(cs:List (Bool×CK)) (o:IOs.den cs) (as:List AC) (st st':St),Hi cs o as st=some st'->st'.tmps=st.tmps
 | [],_,_,st,st',h=>by simp only [Hi,Aa] at h;subst h;rfl
 |(true, .Hx _)::r,o,[],st,st',h=>by simp [Hi] at h
 |(true, .row _ _)::r,o,[],st,st',h=>by simp [Hi] at h
 |(true, .Gz _ _)::r,o,[],st,st',h=>by simp [Hi] at h
 |(true, .part _ _)::r,o,[],st,st',h=>by simp [Hi] at h
 |(true, .Bo _ _ _)::r,o,[],st,st',h=>by simp [Hi] at h
 |(true, .Bo _ _ _)::r,o,a::as,st,st',h=>Tu r o as st st' (by simpa only [Hi] using h)
 |(false,_)::r,o,[],st,st',h=>by simp [Hi] at h
 |(true, .Hx _)::r,o,a::as,st,st',h=>Tu r o as st st' (by simpa only [Hi] using h)
 |(false,_)::r,o,a::as,st,st',h=>Tu r o as st st' (by simpa only [Hi] using h)
 |(true, .row _ _)::r,o,a::as,st,st',h=>by
  simp only [Hi] at h
  split at h
  ·rename_i hc;exact (Tu r o.2 as _ st' h).trans (vL hc)
  ·cases h
 |(true, .part _ _)::r,o,a::as,st,st',h=>by
  simp only [Hi] at h
  split at h
  ·rename_i hc;exact (Tu r o.2 as _ st' h).trans (OV hc)
  ·cases h
 |(true, .Gz _ _)::r,o,a::as,st,st',h=>by
  simp only [Hi] at h
  split at h
  ·rename_i hc;exact (Tu r o.2 as _ st' h).trans (vL hc)
  ·cases h
theorem xa (bn st:St) (ls:List Nat) (n:Nat) (hl:bn.tmps.length=st.tmps.length) (h:Ch bn st):Ch bn (kD bn st ls n):=by
 unfold kD
 split
 ·exact h
 ·intro t fr τ x hx
  show (Lg _ bn.tmps st.tmps).getD t .undef=_
  rcases eD ls bn.tmps st.tmps t hl with ⟨k,i,c,h1,_⟩|h1
  ·rw [show bn.tmps.getD t .undef=_ from hx] at h1;cases h1
  ·rw [h1];exact h t fr τ x hx
theorem AL {st st':St} {d:Option Nat} {s:MSpec} {args:List AV} {v:AV} (h:Wr st d s args=some (v,st')):Ch st st':=by
 unfold Wr at h
 split at h
 ·cases h
 split at h
 ·cases h
 split at h
 ·cases h
 split at h
 ·split at h
  ·cases h
  split at h
  ·cases h
  rename_i st1 hp
  split at h
  ·cases h
  split at h
  ·simp only [Aa,Ad] at h
   obtain ⟨_,rfl⟩:=h
   have hpt:=Tu _ _ _ _ _ hp
   refine xa _ _ _ _ ?_ ?_
   ·simp only [kd,nK]
    rw [<-hpt]
    simp only [St.bC,St.Km,Hm]
   ·refine Ch.trans (Ch.Ye hpt) ?_
    refine Ch.trans (Oz st1 (Cn _ _) (by simp [Cn,AC.refs]) λfr τ x=>by simp [Cn,AC.refs]) (Ch.Ye nK)
  ·cases h
 ·cases h
theorem cd (st:St) (k m:Nat) (b:OB):Ch st (Qj st k m b):=
 (Oz st (Cn [m,k] []) (by simp [Cn,AC.refs]) λfr τ x=>by simp [Cn,AC.refs]).trans (Ch.Ye rfl)
theorem AN {T:Tab} {st st':St} {d:Nat} {t:TypeId} {l c v:AV} (h:Wt T st d t l c=some (v,st')):Ch st st':=by
 unfold Wt at h
 split at h
 ·exact GW h
 ·split at h
  ·split at h
   ·injection h with h;injection h with h1 h2;subst h2;exact cd _ _ _ _
   ·cases h
  ·cases h
theorem lZ {T:Tab} {st st':St} {d:Nat} {t:TypeId} {n:Nat} {parts:Array (Nat×Operand)} {v:AV} (h:Io T st d t n parts=some (v,st')):Ch st st':=by
 unfold Io at h
 split at h
 ·exact ni h
 ·repeat' split at h
  all_goals first|(cases h;done)|(injection h with h;injection h with h1 h2;subst h2;exact cd _ _ _ _)
theorem tw {T:Tab} {st st':St} {d:Nat} {t:TypeId} {x y:Operand} {v:AV} (h:Qz T st d t x y=some (v,st')):Ch st st':=by
 unfold Qz at h
 split at h
 ·exact tv h
 ·repeat' split at h
  all_goals first|(cases h;done)|(injection h with h;injection h with h1 h2;subst h2;exact cd _ _ _ _)
theorem cT {st st':St} {v:AV} {o:Option AV} (h:o.map (λv=>(v,st))=some (v,st')):Ch st st':=by
 cases o with
 |none=>cases h
 |some u=>injection h with h;injection h with h1 h2;subst h2;exact Ch.rfl'
theorem Th: ∀(l:List Operand) {st st1:St},Mx l st=some st1->Ch st st1
 | [],st,st1,h=>by
  simp only [Mx,Aa] at h
  subst h
  exact Ch.rfl'
 |x::r,st,st1,h=>by
  simp only [Mx] at h
  cases hs:settle st (st.ev x) with
  |none=>rw [hs] at h;cases h
  |some p=>
   rw [hs] at h
   exact (Rr (v':=p.1) (st':=p.2) hs).trans (Th r h)
theorem tA {T:Tab} {st:St} (p x:Operand):Ch st (Ob T st p x):=by
 unfold Ob
 split
 ·split
  ·split
   ·rename_i hs;exact Th _ hs
   ·exact Ch.rfl'
  ·exact Ch.rfl'
 ·exact Ch.rfl'
theorem lB {T:Tab} {Γ:Env} {st st':St} {o:Oper} {v:AV} (h:evalOp T Γ st o=some (v,st')):Ch st st':=by
 unfold evalOp at h
 split at h
 ·split at h
  ·split at h
   ·injection h with h;injection h with h1 h2;subst h2;exact Ku _ _ _
   ·cases h
  ·injection h with h;injection h with h1 h2;subst h2;exact Ch.rfl'
 ·split at h
  ·split at h
   ·exact xb h
   ·exact ov h
  ·cases h
 ·split at h
  ·split at h
   ·split at h
    ·split at h
     ·obtain ⟨p,_,hp⟩:=Option.map_eq_some_iff.1 h
      cases hp
      exact Ch.rfl'
     ·cases h
    ·exact ov h
   ·cases h
  ·cases h
 ·rename_i t p x _
  cases hs:Pe T (Ob T st p x) t ((Ob T st p x).ev p) ((Ob T st p x).ev x) with
  |none=>rw [hs] at h;cases h
  |some s=>rw [hs] at h;injection h with h;injection h with h1 h2;subst h2;exact (tA p x).trans (xd hs)
 ·split at h
  ·exact AN h
  ·cases h
 ·split at h
  ·exact tz h
  ·cases h
 ·rename_i t m k x _
  cases hs:Ip T st t (st.ev m) (st.ev k) (st.ev x) with
  |none=>rw [hs] at h;cases h
  |some s=>rw [hs] at h;injection h with h;injection h with h1 h2;subst h2;exact m5 hs
 ·rename_i t m k x _
  cases hs:Ip T st t (st.ev m) (st.ev k) (st.ev x) with
  |none=>rw [hs] at h;cases h
  |some s=>rw [hs] at h;injection h with h;injection h with h1 h2;subst h2;exact m5 hs
 ·split at h
  ·exact lZ h
  ·cases h
 ·exact cT h
 ·split at h
  ·split at h
   ·exact tw h
   ·cases h
  ·cases h
 ·split at h
  ·exact GV h
  ·cases h
 ·split at h
  ·rename_i x t _ _
   cases hs:evalClear T st t (st.ev x) with
   |none=>rw [hs] at h;cases h
   |some s=>rw [hs] at h;injection h with h;injection h with h1 h2;subst h2;exact AM hs
  ·cases h
 ·split at h
  ·exact AL h
  ·split at h
   ·rename_i args _ _ _ _ _ _
    cases hs:Mx args.toList st with
    |none=>rw [hs] at h;cases h
    |some st1=>
     rw [hs] at h
     exact (Th _ hs).trans (cT h)
   ·exact cT h
  ·exact cT h
 ·exact cT h
def Jx:List Oper->List Nat
 | []=> []
 |o::r=>(match o.dst with|some d=> [d]|none=> [])++Jx r
def writes:Code->List Nat
 | .region _ ops _=>Jx ops.toList
 | .seq a b=>writes a++writes b
 | .cond _ a b=>writes a++writes b
 | .block _ c=>writes c
 | .loop c=>writes c
 |_=> []
def Fe (P:Nat->Prop) (st st':St):Prop:= ∀(t:Nat) (fr:Bool) (τ:Ty) (x:τ.den),P t->st.get t= .at (.data fr τ x)->st'.get t= .at (.data fr τ x)
theorem Fe.trans {P:Nat->Prop} {a b c:St} (h1:Fe P a b) (h2:Fe P b c):Fe P a c:= λt fr τ x hp h=>h2 t fr τ x hp (h1 t fr τ x hp h)
theorem Fe.mono {P Q:Nat->Prop} {a b:St} (h1:Fe P a b) (h: ∀t,Q t->P t):Fe Q a b:= λt fr τ x hp hx=>h1 t fr τ x (h t hp) hx
theorem Ch.on {P:Nat->Prop} {a b:St} (h:Ch a b):Fe P a b:= λt fr τ x _ hx=>h t fr τ x hx
theorem bF (st:St) (dst:Option Tmp) (v:AV):Fe (λt=>dst≠some t) st (st.put dst v):=by
 intro t fr τ x hp hx
 cases dst with
 |none=>exact hx
 |some d=>rw [aO st v (λh=>hp (by rw [h]))];exact hx
theorem aL {T:Tab} {Γ:Env} {ops:Array Oper} {st st':St} {o:Oper} (h:Er T Γ ops st o=some st'):Fe (λt=>o.dst≠some t) st st':=by
 have key: ∀s,(evalOp T Γ st o).map (λr=>r.2.put o.dst r.1)=some s->Fe (λt=>o.dst≠some t) st s:=by
  intro s hs
  cases he:evalOp T Γ st o with
  |none=>rw [he] at hs;cases hs
  |some p=>rw [he] at hs;injection hs with hs;subst hs;exact (lB (v:=p.1) (st':=p.2) he).on.trans (bF _ _ _)
 unfold Er at h
 split at h
 ·exact key _ h
 ·split at h
  ·split at h
   ·exact key _ h
   ·injection h with h;subst h;exact bF _ _ _
  ·injection h with h;subst h;exact bF _ _ _
  ·cases h
theorem jo {T:Tab} {Γ:Env} {ops:Array Oper} : ∀(l:List Oper) (st st':St),Zx T Γ ops l st=some st'->Fe (λt=>t∉Jx l) st st'
 | [],st,st',h=>by injection h with h;subst h;exact Ch.rfl'.on
 |o::r,st,st',h=>by
  simp only [Zx] at h
  split at h
  ·rename_i s hs
   refine Fe.trans ((aL hs).mono λt ht=>?_) ((jo r _ _ h).mono λt ht=>?_)
   ·intro hd;apply ht;simp [Jx,hd]
   ·intro hd;apply ht;simp [Jx,hd]
  ·cases h
theorem Yd: ∀(l:List Oper) (o:Oper) (d:Nat),o∈l->o.dst=some d->d∈Jx l
 | [],_,_,h,_=>by cases h
 |p::r,o,d,h,hd=>by
  cases h with
  |head=>simp [Jx,hd]
  |tail _ h=>simp only [Jx,Az];exact .inr (Yd r o d h hd)
theorem nw {ops:Array Oper} {i:Nat} {o:Oper} (h:ops[i]?=some o):o∈ops.toList:=by
 rw [Mq] at h
 obtain ⟨h1,h2⟩:=h
 rw [<-h2]
 simp
theorem Xx {T:Tab} {Γ:Env} {ops:Array Oper} : ∀(l:List Nat) (st st':St),Mk T Γ ops l st=some st'->Fe (λt=>t∉Jx ops.toList) st st'
 | [],st,st',h=>by injection h with h;subst h;exact Ch.rfl'.on
 |i::r,st,st',h=>by
  simp only [Mk] at h
  split at h
  ·cases h
  ·rename_i o ho
   split at h
   ·rename_i s hs
    exact ((aL hs).mono λt ht hd=>ht (Yd _ _ _ (nw ho) hd)).trans (Xx r _ _ h)
   ·cases h
theorem Ra {T:Tab} {Γ:Env} {ops:Array Oper} : ∀(l:List Nat) (st st':St),Fq T Γ ops l st=some st'->Fe (λt=>t∉Jx ops.toList) st st'
 | [],st,st',h=>by injection h with h;subst h;exact Ch.rfl'.on
 |i::r,st,st',h=>by
  simp only [Fq] at h
  split at h
  ·cases h
  ·rename_i o ho
   split at h
   ·exact ((bF _ _ _).mono λt ht hd=>ht (Yd _ _ _ (nw ho) hd)).trans (Ra r _ _ h)
   ·cases h
theorem Tg: ∀(l:List Nat) (st:St),Ch st (ak l st)
 | [],_=>Ch.rfl'
 |a::r,st=>(m4 st a).trans (Tg r _)
theorem Uw (live:List Nat): ∀(i:Nat) (l:List AV) (t:Nat),i+t∈live->(Hp live i l).getD t .undef=l.getD t .undef
 |_,[],_,_=>rfl
 |i,v::r,0,h=>by simp [Hp];intro hn;exact absurd h hn
 |i,v::r,t+1,h=>by
  simp only [Hp,My]
  exact Uw live (i+1) r t (by rw [show i+1+t=i+(t+1) by omega];exact h)
theorem xc (l k:Nat) (st:St):Ch st (st.rename l k):=by
 unfold St.rename
 split
 ·split
  ·exact (Oz st (Ug l k) rfl λ_ _ _=>rfl).trans (Ch.Ye rfl)
  ·exact Ch.rfl'
 ·exact Ch.rfl'
theorem cV: ∀(n t:Nat) (st:St),Ch st (Mf n t st)
 |0,_,_=>Ch.rfl'
 |n+1,t,st=>by
  simp only [Mf]
  refine Ch.trans ?_ (cV n (t+1) _)
  split
  ·split
   ·split
    ·exact Ch.rfl'
    ·exact xc _ _ _
   ·exact Ch.rfl'
  ·exact Ch.rfl'
theorem ri (t:Nat) (st:St):Ch st (aZ t st):=by
 unfold aZ
 split
 ·rename_i l off len hg
  split
  ·split
   ·intro k fr τ x hk
    have Hq:k≠t:= λe=>by subst e;rw [hg] at hk;cases hk
    rw [aO _ _ Hq]
    exact Ku _ _ _ k fr τ x hk
   ·exact Ch.rfl'
  ·exact Ch.rfl'
 ·exact Ch.rfl'
theorem kE (c:Nat) (st:St):Ch st (Pk c st):=by
 unfold Pk
 split
 ·split
  ·split
   ·split
    ·split
     ·exact (Ku _ _ _).trans (Me _ _ _)
     ·exact Ch.rfl'
    ·exact Ch.rfl'
   ·exact Ch.rfl'
  ·exact Ch.rfl'
 ·exact Ch.rfl'
theorem bG (live:List Nat): ∀(n c:Nat) (st:St),Ch st (Pc live n c st)
 |0,_,_=>Ch.rfl'
 |n+1,c,st=>by
  simp only [Pc]
  refine Ch.trans ?_ (bG live n (c+1) _)
  split
  ·exact kE _ _
  ·exact Ch.rfl'
theorem eY (live:List Nat): ∀(n t:Nat) (st:St),Ch st (Ol live n t st)
 |0,_,st=>bG live 16 0 st
 |n+1,t,st=>by
  simp only [Ol]
  refine Ch.trans ?_ (eY live n (t+1) _)
  split
  ·exact ri _ _
  ·exact Ch.rfl'
theorem jA (live:List Nat) (st:St):Fe (λt=>t∈live) st (st.clean live):=by
 intro t fr τ x hp hx
 unfold St.clean
 have key: ∀s:St,s.get t= .at (.data fr τ x)->(if live.contains bP then Mf s.tmps.length 0 s else s).get t= .at (.data fr τ x):=by
  intro s hs
  split
  ·exact cV _ _ s t fr τ x hs
  ·exact hs
 have TW: ∀s:St,s.get t= .at (.data fr τ x)->(if live.any (λt=>Nat.ble Td t) then s.Ij live else s).get t= .at (.data fr τ x):=by
  intro s hs
  split<;>exact hs
 have TX: ∀s:St,s.get t= .at (.data fr τ x)->(if live.any (λt=>Nat.ble Ri t&&Nat.blt t bP) then Ol live s.tmps.length 0 s else s).get t= .at (.data fr τ x):=by
  intro s hs
  split
  ·exact eY _ _ _ s t fr τ x hs
  ·exact hs
 refine TW _ (key _ (TX _ (Tg _ _ t fr τ x ?_)))
 simp only [St.get] at hx⊢
 rw [Uw live 0 st.tmps t (by simpa using hp)]
 exact hx
def aS (live:Nat->List Nat):Code->Nat->Bool
 | .seq a b,t=>aS live a t&&aS live b t
 | .cond _ a b,t=>aS live a t&&aS live b t
 | .block _ c,t=>aS live c t
 | .loop c,t=>(live (Es c)).contains t&&aS live c t
 |_,_=>true
theorem mQ {a b:Bool} (h:(a&&b)=true):a=true:=by cases a<;>simp_all
theorem ke {a b:Bool} (h:(a&&b)=true):b=true:=by cases a<;>simp_all
theorem mV {T:Tab} {Γ:Env} {ops:Array Oper} {draw:Bool} {st st':St} (h:Rb T Γ ops draw st=some st'):Fe (λt=>t∉writes (.region 0 ops draw)) st st':=by
 unfold Rb at h
 have go: ∀q,(match Fq T Γ ops (iH q Γ ops) st with
   |some s=>Mk T Γ ops (Iy q Γ ops) s
   |none=>none)=some st'->Fe (λt=>t∉writes (.region 0 ops draw)) st st':=by
  intro q h
  split at h
  ·rename_i s hs
   exact (Ra _ _ _ hs).trans (Xx _ _ _ h)
  ·cases h
 split at h
 ·split at h
  ·exact go false h
  ·split at h
   ·exact go true h
   ·cases h
 ·exact jo _ _ _ h
theorem q9 {T:Tab} {Γ:Env} {ops:Array Oper} {draw:Bool} {K:St->Prop} (s0:St): ∀(f:Nat) (Af:Array Bool) (st:St),Fe (λt=>t∉writes (.region 0 ops draw)) s0 st->anyS T Γ ops K f Af st->anyS T Γ ops (λs=>K s/\Fe (λt=>t∉writes (.region 0 ops draw)) s0 s) f Af st
 |0,_,_,hk,h=>⟨h.1,h.2,hk⟩
 |f+1,Af,st,hk,h=>⟨h.1,λi hi=>by
  obtain ⟨o,st',h1,h2,h3⟩:=h.2 i hi
  have h4:Mk T Γ ops [i] st=some st':=by simp only [Mk,h1,h2]
  exact ⟨o,st',h1,h2,q9 s0 f _ _ (hk.trans (Xx _ _ _ h4)) h3⟩⟩
theorem kf {T:Tab} {Γ:Env} {ops:Array Oper} {draw:Bool} {E:List Nat} {K:St->Prop} (s0:St): ∀(f:Nat) (Af:Array Bool) (st:St),Fe (λt=>t∉writes (.region 0 ops draw)) s0 st->p8 T Γ ops E K f Af st->p8 T Γ ops E (λs=>K s/\Fe (λt=>t∉writes (.region 0 ops draw)) s0 s) f Af st
 |0,_,_,hk,h=>⟨h.1,h.2.1,h.2.2,hk⟩
 |f+1,Af,st,hk,h=>⟨h.1,h.2.1,λi hi=>by
  obtain ⟨o,st',h1,h2,h3⟩:=h.2.2 i hi
  have h4:Mk T Γ ops [i] st=some st':=by simp only [Mk,h1,h2]
  exact ⟨o,st',h1,h2,kf s0 f _ _ (hk.trans (Xx _ _ _ h4)) h3⟩⟩
theorem gH {ops:Array Oper} {dead:List Nat} (hd:dead.all (Xs ops)=true) (st:St):Fe (λt=>t∉Jx ops.toList) st (st.Pv dead):=by
 intro t fr τ x ht hx
 unfold St.Pv
 refine Tg _ _ t fr τ x ?_
 show (Hp _ 0 st.tmps).getD t .undef=_
 rw [Uw _ 0 st.tmps t ?_]
 ·exact hx
 ·refine Bd.2 ⟨Ej.2 ?_,?_⟩
  ·refine Bf λhn=>?_
   have:st.get t= .undef:=by
    unfold St.get
    rw [Ah,Ds (by omega)];rfl
   rw [hx] at this
   cases this
  ·cases hc:dead.contains (0+t) with
   |false=>rfl
   |true=>
    have hm:0+t∈dead:=by simpa using hc
    have h1:=Ba.1 hd _ hm
    obtain ⟨o,ho,h2⟩:=Ht.1 h1
    rw [Cj] at h2
    exact absurd (Yd _ o t ho (by simpa using h2)) ht
theorem je.keeps {T:Tab} {Γ:Env} {ops:Array Oper} {draw:Bool} {st:St} {K:St->Prop} (h:je T Γ ops draw st K):je T Γ ops draw st (λs=>K s/\Fe (λt=>t∉writes (.region 0 ops draw)) st s):=by
 rcases h with ⟨st',h1,h2⟩|⟨h1,h2,bn,h3,h4|⟨E,st1,h4,h5,h6,h7⟩⟩
 ·exact .inl ⟨st',h1,h2,mV h1⟩
 ·exact .inr ⟨h1,h2,bn,h3, .inl (q9 st _ _ _ (Ra _ _ _ h3) h4)⟩
 ·exact .inr ⟨h1,h2,bn,h3, .inr ⟨E,st1,h4,h5,h6,kf st _ _ _ ((Ra _ _ _ h3).trans (Ra _ _ _ h6)) h7⟩⟩
theorem wo.keeps {T:Tab} {Γ:Env} {ops:Array Oper} {draw:Bool} {st:St} {K:St->Prop} (h:wo T Γ ops draw st K):wo T Γ ops draw st (λs=>K s/\Fe (λt=>t∉writes (.region 0 ops draw)) st s):=by
 rcases h with h|⟨dead,hd,h⟩
 ·exact .inl h.keeps
 ·exact .inr ⟨dead,hd,h.keeps.mono λs hs=>⟨hs.1,hs.2.trans (gH hd s)⟩⟩
theorem jh (ops:Array Oper) {fr:Bool} {τ:Ty} {x:τ.den} : ∀(i:Nat) (l:List AV) (t:Nat),l.getD t .undef= .at (.data fr τ x)->(Oe ops i l).getD t .undef= .at (.data fr τ x)
 |_,[],_,h=>h
 |i,v::r,0,h=>by
  cases v with
  |Mh l=>cases h
  |_=>exact h
 |i,v::r,t+1,h=>by
  have h':=jh ops (i+1) r t h
  cases v<;>(simp only [Oe,My];exact h')
theorem jB (ops:Array Oper) (st:St):Ch st (st.lp ops):= λt _ _ _ hx=>jh ops 0 st.tmps t hx
theorem IL {T:Tab} {Γ:Env} {live:Nat->List Nat} {c:Code} {st:St} {Q:Lc->St->Prop} (h:Ny T Γ live c st Q): ∀(s0:St) (p:Nat->Prop),Fe p s0 st->(∀t,p t->t∉writes c/\aS live c t=true)->Ny T Γ live c st (λe s=>Q e s/\Fe p s0 s):=by
 induction h with
 |skip h=>exact λs0 p hk _=> .skip ⟨h,hk⟩
 |label h=>exact λs0 p hk _=> .label ⟨h,hk⟩
 |exit h=>exact λs0 p hk _=> .exit ⟨h,hk⟩
 |ret h=>exact λs0 p hk _=> .ret ⟨h,hk⟩
 |region h=>
  exact λs0 p hk hp=> .region (h.keeps.mono λs hs=>⟨hs.1,(hk.trans (jB _ _).on).trans (hs.2.mono λt ht=>(hp t ht).1)⟩)
 |seq Q1 _ _ h3 NL AG=>
  exact λs0 p hk hp=> .seq _ (NL s0 p hk λt ht=>⟨λhm=>(hp t ht).1 (by simp [writes,hm]),mQ (hp t ht).2⟩)
   (λs hs=>AG s hs.1 s0 p hs.2 λt ht=>⟨λhm=>(hp t ht).1 (by simp [writes,hm]),ke (hp t ht).2⟩) λe s he hs=>⟨h3 e s he hs.1,hs.2⟩
 |cond hc _ _ NL AG=>
  exact λs0 p hk hp=> .cond hc (λht=>NL ht s0 p hk λt h=>⟨λhm=>(hp t h).1 (by simp [writes,hm]),mQ (hp t h).2⟩)
   fun ht=>AG ht s0 p hk λt h=>⟨λhm=>(hp t h).1 (by simp [writes,hm]),ke (hp t h).2⟩
 |block Q1 _ h2 ih=>
  exact λs0 p hk hp=> .block _ (ih s0 p hk λt ht=>⟨λhm=>(hp t ht).1 (by simpa [writes] using hm),by simpa [aS] using (hp t ht).2⟩) λe s hs=>by
   have h:=h2 e s hs.1
   cases e with
   |normal=>exact ⟨h,hs.2⟩
   |ret=>exact ⟨h,hs.2⟩
   |exit NK=>
    simp only [uV] at h⊢
    split at h
    ·rename_i hi;rw [Ac hi];exact ⟨h,hs.2⟩
    ·rename_i hi;rw [Ai hi];exact ⟨h,hs.2⟩
 |loop Q1 _ _ h3 NL AG=>
  intro s0 p hk hp
  refine .loop _ (NL s0 p (hk.trans ((jA _ _).mono λt ht=>by simpa using mQ (hp t ht).2)) λt ht=>⟨λhm=>(hp t ht).1 (by simpa [writes] using hm),ke (hp t ht).2⟩)
   (λs hs=>AG s hs.1 s0 p hs.2 hp) λe s he hs=>⟨h3 e s he hs.1,hs.2⟩
end Go.Proofs.Ytkkdpknjohcekaa
