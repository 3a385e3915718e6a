/-
  Part 29 of the proof that the statement FnSubgroups holds.
-/
import Derived.Test.YtkkdpknjohcekaaCFSubgroups27
namespace Go.Proofs.Ytkkdpknjohcekaa
open Go.RowKit
def Cq (st st':St):Prop:= ∀(t:Nat) (fr:Bool) (τ:Ty) (x:τ.den),st.get t= .at (.data fr τ x)->st'.get t= .at (.data fr τ x)
theorem Cq.rfl' {st:St} :Cq st st:= λ_ _ _ _ h=>h
theorem Cq.trans {a b c:St} (h1:Cq a b) (h2:Cq b c):Cq a c:= λt fr τ x h=>h2 t fr τ x (h1 t fr τ x h)
theorem Cq.Zl {a b:St} (h:b.tmps=a.tmps):Cq a b:= λt fr τ x hx=>by
 simp only [St.get] at hx⊢
 rw [h]
 exact hx
theorem bK (st:St) {t d:Nat} (v:AV) (h:t≠d):(st.put (some d) v).get t=st.get t:=by
 simp only [St.put,St.get]
 rw [Qo]
 rw [Ak (by rintro ⟨rfl,_⟩;exact h rfl)]
theorem Pc (st:St) (f:AC->AC) (hu:f .undef= .undef) (hd: ∀fr (τ:Ty) (x:τ.den),f (.data fr τ x)= .data fr τ x):Cq st (st.Kv f):=by
 intro t fr τ x h
 simp only [St.Kv,St.get]
 rw [Vc f hu,show st.tmps.getD t .undef=_ from h]
 simp only [AV.map,hd]
theorem o5 (st:St) (l:Nat):Cq st (st.forget l):=
 (Pc st (Cu l) rfl λ_ _ _=>rfl).trans (Cq.Zl rfl)
theorem aV (st:St) (l:Nat) (fr:Bool) (e:Ty) (xs:List e.den):Cq st (st.freeze l fr e xs):=
 (Pc st (Dd l fr e xs) rfl λ_ _ _=>rfl).trans (Cq.Zl rfl)
theorem gL (st:St) (l:Nat) (v:Ty) (m:ByteArray->Option v.den):Cq st (st.Ik l v m):=
 (Pc st (Ha l v m) rfl λ_ _ _=>rfl).trans (Cq.Zl rfl)
theorem La (st:St) (l:Nat) (b:OB):Cq st (st.new l b):=(o5 st l).trans (Cq.Zl rfl)
theorem Mh (st:St) (l:Nat) (b:OB):Cq st (st.Jr l b):=Cq.Zl rfl
theorem eB (b:OB) (key l i:Nat) (st:St):Cq st (Uv b key l i st):=by
 unfold Uv
 split
 ·split
  ·dsimp only
   split
   ·exact (La _ _ _).trans (Mh _ _ _)
   ·exact La _ _ _
  ·exact Cq.rfl'
 ·exact Cq.rfl'
theorem ly (T:Tab) (l:Nat) (t:TypeId) (τ:Ty): ∀(n i:Nat) (st:St),Cq st (fN T l t τ n i st)
 |0,_,_=>Cq.rfl'
 |n+1,i,st=>by
  simp only [fN]
  refine Cq.trans ?_ (ly T l t τ n (i+1) _)
  split
  ·exact eB _ _ _ _ _
  ·exact Cq.rfl'
theorem jc (T:Tab) (l off:Nat) (t:TypeId) (τ:Ty): ∀(n i:Nat) (st:St),Cq st (eG T l off t τ n i st)
 |0,_,_=>Cq.rfl'
 |n+1,i,st=>by
  simp only [eG]
  refine Cq.trans ?_ (jc T l off t τ n (i+1) _)
  split
  ·exact eB _ _ _ _ _
  ·exact Cq.rfl'
theorem Qu: ∀(n:Nat) (st:St) (cs iP:List AC) (st':St),Hk n st cs=some (iP,st')->Cq st st'
 |0,st,cs,iP,st',h=>by
  simp only [Hk] at h
  split at h
  ·injection h with h;injection h with h1 h2;subst h2;exact Cq.rfl'
  ·cases h
 |n+1,st,cs,iP,st',h=>by
  simp only [Hk] at h
  split at h
  ·injection h with h;injection h with h1 h2;subst h2;exact Cq.rfl'
  ·split at h
   ·exact (aV _ _ _ _ _).trans (Qu n _ _ _ _ h)
   ·exact (aV _ _ _ _ _).trans (Qu n _ _ _ _ h)
   ·cases h
  ·split at h
   ·exact (gL _ _ _ _).trans (Qu n _ _ _ _ h)
   ·cases h
  ·cases h
theorem Sd {st st':St} {v v':AV} (h:settle st v=some (v',st')):Cq st st':=by
 unfold settle at h
 split at h
 ·split at h
  ·injection h with h;injection h with h1 h2;subst h2;exact aV _ _ _ _ _
  ·injection h with h;injection h with h1 h2;subst h2;exact aV _ _ _ _ _
  ·cases h
 ·split at h
  ·injection h with h;injection h with h1 h2;subst h2;exact gL _ _ _ _
  ·cases h
 ·split at h
  ·injection h with h;injection h with h1 h2;subst h2;exact Cq.rfl'
  ·cases h
 ·rename_i cs
  cases hs:Hk cs.length st cs with
  |none=>rw [hs] at h;cases h
  |some p=>rw [hs] at h;injection h with h;injection h with h1 h2;subst h2;exact Qu _ _ _ _ _ hs
 ·injection h with h;injection h with h1 h2;subst h2;exact Cq.rfl'
 ·cases h
theorem zB {st st':St} {l:Nat} {t:TypeId} {cs:List AC} {v:AV} (h:ub st l t cs=some (v,st')):Cq st st':=by
 unfold ub at h
 split at h
 ·cases h
 ·injection h with h;injection h with h1 h2;subst h2;exact La _ _ _
theorem qR {T:Tab} {st st':St} {l:Nat} {t:TypeId} {τ:Ty} {cs:List AC} {v:AV} (h:mkVar T st l t τ cs=some (v,st')):Cq st st':=by
 unfold mkVar at h
 split at h
 ·cases h
 dsimp only at h
 split at h
 ·injection h with h;injection h with h1 h2;subst h2;exact (La _ _ _).trans (ly _ _ _ _ _ _ _)
 ·cases h
theorem GB {T:Tab} {st st':St} {t:TypeId} {p v:AV} (h:Vb T st t p v=some st'):Cq st st':=by
 unfold Vb at h
 split at h
 ·split at h
  ·split at h
   ·injection h with h
    split at h
    ·subst h;exact (Mh _ _ _).trans (jc _ _ _ _ _ _ _ _)
    ·subst h;exact Mh _ _ _
   ·cases h
  ·cases h
 ·split at h
  ·rename_i hs
   split at h
   ·split at h
    ·split at h
     ·injection h with h;subst h;exact (Sd hs).trans (Mh _ _ _)
     ·cases h
    ·cases h
   ·cases h
  ·cases h
 ·cases h
theorem tR (st:St) (l j m:Nat) (e:Ty) (te:TypeId) (rows:List (List e.den)) (xs:List e.den) (kp:Option (Nat×Nat)):Cq st (Tp st l j m e te rows xs kp):=
 ((Pc st (Cv [m] [l]) (by simp [Cv,AC.refs]) λfr τ x=>by simp [Cv,AC.refs]).trans (Cq.Zl rfl)).trans (Mh (st.cJ [m] [l]) _ _)
theorem tS (st:St) (l i m:Nat) (e:Ty) (te tid:TypeId) (rows:List (List e.den)) (kp:Option (Nat×Nat)):Cq st (Pw st l i m e te tid rows kp):=
 (Mh st l _).trans (La _ m _)
theorem zD {T:Tab} {st st':St} {t:TypeId} {p v:AV} (h:Ph T st t p v=some st'):Cq st st':=by
 unfold Ph at h
 split at h
 rotate_left
 ·exact GB h
 unfold bH at h
 split at h
 ·split at h
  ·rename_i hs
   split at h
   ·split at h
    ·injection h with h;subst h;exact (Sd hs).trans (Mh _ _ _)
    ·cases h
   ·cases h
  ·cases h
 ·split at h
  ·split at h
   ·split at h
    ·injection h with h;subst h
     exact tR _ _ _ _ _ _ _ _ _
    ·cases h
   ·cases h
  ·cases h
 ·cases h
theorem fC {T:Tab} {st st':St} {d:Nat} {t:TypeId} {x y:Operand} {v:AV} (h:Np T st d t x y=some (v,st')):Cq st st':=by
 unfold Np at h
 split at h
 ·cases h
 ·split at h
  ·rename_i hs
   split at h
   ·cases h
   ·split at h
    ·split at h
     ·injection h with h;injection h with h1 h2;subst h2;exact ((Sd hs).trans (La _ _ _)).trans (La _ _ _)
     ·cases h
    ·split at h
     ·split at h
      ·split at h
       ·injection h with h;injection h with h1 h2;subst h2;exact (Sd hs).trans (La _ _ _)
       ·cases h
      ·cases h
     ·cases h
    ·cases h
  ·cases h
theorem wa {T:Tab} {st st':St} {d:Nat} {t:TypeId} {x y:Operand} {v:AV} (h:Re T st d t x y=some (v,st')):Cq st st':=by
 unfold Re at h
 split at h
 ·rename_i tx
  split at h
  ·rename_i l i c hg
   split at h
   ·split at h
    ·rename_i e te rows kp tid hl ht hc
     refine Cq.trans (b:=(Pw st l i d e te tid rows kp).put (some tx) (.at (.own d 0 (rows.getD i []).length))) ?_ (fC h)
     intro t' fr τ z hz
     by_cases e':t'=tx
     ·subst e';rw [hg] at hz;cases hz
     ·rw [bK _ _ e'];exact tS st l i d e te tid rows kp t' fr τ z hz
    ·cases h
   ·cases h
  ·exact fC h
 ·exact fC h
theorem MH {T:Tab} {st st':St} {d:Nat} {t:TypeId} {l c v:AV} (h:bF T st d t l c=some (v,st')):Cq st st':=by
 unfold bF at h
 split at h
 ·split at h
  ·split at h
   ·injection h with h;injection h with h1 h2;subst h2;exact La _ _ _
   ·cases h
  ·cases h
 ·cases h
theorem qS (e:Ty): ∀(l:List (Nat×Operand)) (i:Nat) (st st':St) (fr tr:Bool) (ys:List e.den),Ld e i l st=some (fr,tr,ys,st')->Cq st st'
 | [],_,_,_,_,_,_,h=>by
  simp only [Ld] at h
  injection h with h;injection h with h1 h2;injection h2 with h2 h3;injection h3 with h3 h4;subst h4;exact Cq.rfl'
 |(j,x)::r,i,st,st',fr,tr,ys,h=>by
  simp only [Ld] at h
  split at h
  ·split at h
   ·rename_i hs
    split at h
    ·split at h
     ·rename_i hp
      injection h with h;injection h with h1 h2;injection h2 with h2 h3;injection h3 with h3 h4;subst h4
      exact (Sd hs).trans (qS e r _ _ _ _ _ _ hp)
     ·cases h
    ·cases h
   ·cases h
  ·cases h
theorem pD {T:Tab} {st st':St} {d:Nat} {t:TypeId} {n:Nat} {parts:Array (Nat×Operand)} {v:AV} (h:Mf T st d t n parts=some (v,st')):Cq st st':=by
 unfold Mf at h
 split at h
 ·cases h
 ·split at h
  ·cases h
  ·split at h
   ·split at h
    ·rename_i hp
     injection h with h;injection h with h1 h2;subst h2;exact (qS _ _ _ _ _ _ _ _ hp).trans (La _ _ _)
    ·cases h
   ·cases h
theorem wc {T:Tab} {st st':St} {d:Nat} {t:TypeId} {v:AV} (h:Va T st d t=some (v,st')):Cq st st':=by
 unfold Va at h
 split at h
 ·split at h
  ·injection h with h;injection h with h1 h2;subst h2;exact La _ _ _
  ·cases h
 ·cases h
theorem o6 {T:Tab} {st st':St} {t:TypeId} {m k x:AV} (h:Is T st t m k x=some st'):Cq st st':=by
 unfold Is at h
 split at h
 ·split at h
  ·split at h
   ·injection h with h;subst h;exact Mh _ _ _
   ·cases h
  ·cases h
 ·cases h
theorem MG {T:Tab} {st st':St} {t t':TypeId} {x y v:AV} (h:iS T st t t' x y=some (v,st')):Cq st st':=by
 unfold iS at h
 split at h
 ·split at h
  ·split at h
   ·split at h
    ·injection h with h;injection h with h1 h2;subst h2;exact Mh _ _ _
    ·cases h
   ·cases h
  ·cases h
 ·cases h
theorem FZ {T:Tab} {st st':St} {t:TypeId} {x:AV} (h:evalClear T st t x=some st'):Cq st st':=by
 unfold evalClear at h
 split at h
 ·split at h
  ·split at h
   ·split at h
    ·injection h with h;subst h;exact Mh _ _ _
    ·cases h
   ·cases h
  ·cases h
 ·cases h
theorem yc {st st':St} {c:CK} {ys:c.den} {a:AC} (h:cw st c ys a=some st'):st'.tmps=st.tmps:=by
 unfold cw at h
 repeat' split at h
 all_goals first|(cases h;done)|(simp only [Aa] at h;subst h;rfl)|skip
theorem VP {st st':St} {e:Ty} {ys:List e.den} {a:AC} (h:NR st e ys a=some st'):st'.tmps=st.tmps:=by
 unfold NR at h
 repeat' split at h
 all_goals first|(cases h;done)|(simp only [Aa] at h;subst h;rfl)|skip
theorem Uw: ∀(cs:List (Bool×CK)) (o:IOs.den cs) (as:List AC) (st st':St),Hv cs o as st=some st'->st'.tmps=st.tmps
 | [],_,_,st,st',h=>by simp only [Hv,Aa] at h;subst h;rfl
 |(true, .Fe _)::r,o,[],st,st',h=>by simp [Hv] at h
 |(true, .row _ _)::r,o,[],st,st',h=>by simp [Hv] at h
 |(true, .Ho _ _)::r,o,[],st,st',h=>by simp [Hv] at h
 |(true, .part _ _)::r,o,[],st,st',h=>by simp [Hv] at h
 |(true, .Bo _ _ _)::r,o,[],st,st',h=>by simp [Hv] at h
 |(true, .Bo _ _ _)::r,o,a::as,st,st',h=>Uw r o as st st' (by simpa only [Hv] using h)
 |(false,_)::r,o,[],st,st',h=>by simp [Hv] at h
 |(true, .Fe _)::r,o,a::as,st,st',h=>Uw r o as st st' (by simpa only [Hv] using h)
 |(false,_)::r,o,a::as,st,st',h=>Uw r o as st st' (by simpa only [Hv] using h)
 |(true, .row _ _)::r,o,a::as,st,st',h=>by
  simp only [Hv] at h
  split at h
  ·rename_i hc;exact (Uw r o.2 as _ st' h).trans (yc hc)
  ·cases h
 |(true, .part _ _)::r,o,a::as,st,st',h=>by
  simp only [Hv] at h
  split at h
  ·rename_i hc;exact (Uw r o.2 as _ st' h).trans (VP hc)
  ·cases h
 |(true, .Ho _ _)::r,o,a::as,st,st',h=>by
  simp only [Hv] at h
  split at h
  ·rename_i hc;exact (Uw r o.2 as _ st' h).trans (yc hc)
  ·cases h
theorem zA (cp st:St) (ls:List Nat) (n:Nat) (hl:cp.tmps.length=st.tmps.length) (h:Cq cp st):Cq cp (mB cp st ls n):=by
 unfold mB
 split
 ·exact h
 ·intro t fr τ x hx
  show (Ll _ cp.tmps st.tmps).getD t .undef=_
  rcases gh ls cp.tmps st.tmps t hl with ⟨k,i,c,h1,_⟩|h1
  ·rw [show cp.tmps.getD t .undef=_ from hx] at h1;cases h1
  ·rw [h1];exact h t fr τ x hx
theorem FY {st st':St} {d:Option Nat} {s:MSpec} {args:List AV} {v:AV} (h:Xr st d s args=some (v,st')):Cq st st':=by
 unfold Xr at h
 split at h
 ·cases h
 split at h
 ·cases h
 split at h
 ·cases h
 split at h
 ·split at h
  ·cases h
  split at h
  ·cases h
  rename_i st1 hp
  split at h
  ·cases h
  split at h
  ·simp only [Aa,Ah] at h
   obtain ⟨_,rfl⟩:=h
   have cv:=Uw _ _ _ _ _ hp
   refine zA _ _ _ _ ?_ ?_
   ·simp only [m6,qc]
    rw [<-cv]
    simp only [St.cJ,St.Kv,Bs]
   ·refine Cq.trans (Cq.Zl cv) ?_
    refine Cq.trans (Pc st1 (Cv _ _) (by simp [Cv,AC.refs]) λfr τ x=>by simp [Cv,AC.refs]) (Cq.Zl qc)
  ·cases h
 ·cases h
theorem dv (st:St) (k m:Nat) (b:OB):Cq st (Qs st k m b):=
 (Pc st (Cv [m,k] []) (by simp [Cv,AC.refs]) λfr τ x=>by simp [Cv,AC.refs]).trans (Cq.Zl rfl)
theorem GA {T:Tab} {st st':St} {d:Nat} {t:TypeId} {l c v:AV} (h:Xt T st d t l c=some (v,st')):Cq st st':=by
 unfold Xt at h
 split at h
 ·exact MH h
 ·split at h
  ·split at h
   ·injection h with h;injection h with h1 h2;subst h2;exact dv _ _ _ _
   ·cases h
  ·cases h
theorem o4 {T:Tab} {st st':St} {d:Nat} {t:TypeId} {n:Nat} {parts:Array (Nat×Operand)} {v:AV} (h:Iq T st d t n parts=some (v,st')):Cq st st':=by
 unfold Iq at h
 split at h
 ·exact pD h
 ·repeat' split at h
  all_goals first|(cases h;done)|(injection h with h;injection h with h1 h2;subst h2;exact dv _ _ _ _)
theorem wb {T:Tab} {st st':St} {d:Nat} {t:TypeId} {x y:Operand} {v:AV} (h:Rf T st d t x y=some (v,st')):Cq st st':=by
 unfold Rf at h
 split at h
 ·exact wa h
 ·repeat' split at h
  all_goals first|(cases h;done)|(injection h with h;injection h with h1 h2;subst h2;exact dv _ _ _ _)
theorem eA {st st':St} {v:AV} {o:Option AV} (h:o.map (λv=>(v,st))=some (v,st')):Cq st st':=by
 cases o with
 |none=>cases h
 |some u=>injection h with h;injection h with h1 h2;subst h2;exact Cq.rfl'
theorem Ui: ∀(l:List Operand) {st st1:St},Mz l st=some st1->Cq st st1
 | [],st,st1,h=>by
  simp only [Mz,Aa] at h
  subst h
  exact Cq.rfl'
 |x::r,st,st1,h=>by
  simp only [Mz] at h
  cases hs:settle st (st.ev x) with
  |none=>rw [hs] at h;cases h
  |some p=>
   rw [hs] at h
   exact (Sd (v':=p.1) (st':=p.2) hs).trans (Ui r h)
theorem we {T:Tab} {st:St} (p x:Operand):Cq st (Oe T st p x):=by
 unfold Oe
 split
 ·split
  ·split
   ·rename_i hs;exact Ui _ hs
   ·exact Cq.rfl'
  ·exact Cq.rfl'
 ·exact Cq.rfl'
theorem nJ {T:Tab} {Γ:Env} {st st':St} {o:Oper} {v:AV} (h:evalOp T Γ st o=some (v,st')):Cq st st':=by
 unfold evalOp at h
 split at h
 ·split at h
  ·split at h
   ·injection h with h;injection h with h1 h2;subst h2;exact La _ _ _
   ·cases h
  ·injection h with h;injection h with h1 h2;subst h2;exact Cq.rfl'
 ·split at h
  ·split at h
   ·exact zB h
   ·exact qR h
  ·cases h
 ·split at h
  ·split at h
   ·split at h
    ·split at h
     ·obtain ⟨p,_,hp⟩:=Option.map_eq_some_iff.1 h
      cases hp
      exact Cq.rfl'
     ·cases h
    ·exact qR h
   ·cases h
  ·cases h
 ·rename_i t p x _
  cases hs:Ph T (Oe T st p x) t ((Oe T st p x).ev p) ((Oe T st p x).ev x) with
  |none=>rw [hs] at h;cases h
  |some s=>rw [hs] at h;injection h with h;injection h with h1 h2;subst h2;exact (we p x).trans (zD hs)
 ·split at h
  ·exact GA h
  ·cases h
 ·split at h
  ·exact wc h
  ·cases h
 ·rename_i t m k x _
  cases hs:Is T st t (st.ev m) (st.ev k) (st.ev x) with
  |none=>rw [hs] at h;cases h
  |some s=>rw [hs] at h;injection h with h;injection h with h1 h2;subst h2;exact o6 hs
 ·rename_i t m k x _
  cases hs:Is T st t (st.ev m) (st.ev k) (st.ev x) with
  |none=>rw [hs] at h;cases h
  |some s=>rw [hs] at h;injection h with h;injection h with h1 h2;subst h2;exact o6 hs
 ·split at h
  ·exact o4 h
  ·cases h
 ·exact eA h
 ·split at h
  ·split at h
   ·exact wb h
   ·cases h
  ·cases h
 ·split at h
  ·exact MG h
  ·cases h
 ·split at h
  ·rename_i x t _ _
   cases hs:evalClear T st t (st.ev x) with
   |none=>rw [hs] at h;cases h
   |some s=>rw [hs] at h;injection h with h;injection h with h1 h2;subst h2;exact FZ hs
  ·cases h
 ·split at h
  ·exact FY h
  ·split at h
   ·rename_i args _ _ _ _ _ _
    cases hs:Mz args.toList st with
    |none=>rw [hs] at h;cases h
    |some st1=>
     rw [hs] at h
     exact (Ui _ hs).trans (eA h)
   ·exact eA h
  ·exact eA h
 ·exact eA h
def Km:List Oper->List Nat
 | []=> []
 |o::r=>(match o.dst with|some d=> [d]|none=> [])++Km r
def writes:Code->List Nat
 | .region _ ops _=>Km ops.toList
 | .seq a b=>writes a++writes b
 | .cond _ a b=>writes a++writes b
 | .block _ c=>writes c
 | .loop c=>writes c
 |_=> []
def Fu (P:Nat->Prop) (st st':St):Prop:= ∀(t:Nat) (fr:Bool) (τ:Ty) (x:τ.den),P t->st.get t= .at (.data fr τ x)->st'.get t= .at (.data fr τ x)
theorem Fu.trans {P:Nat->Prop} {a b c:St} (h1:Fu P a b) (h2:Fu P b c):Fu P a c:= λt fr τ x hp h=>h2 t fr τ x hp (h1 t fr τ x hp h)
theorem Fu.mono {P Q:Nat->Prop} {a b:St} (h1:Fu P a b) (h: ∀t,Q t->P t):Fu Q a b:= λt fr τ x hp hx=>h1 t fr τ x (h t hp) hx
theorem Cq.on {P:Nat->Prop} {a b:St} (h:Cq a b):Fu P a b:= λt fr τ x _ hx=>h t fr τ x hx
theorem cN (st:St) (dst:Option Tmp) (v:AV):Fu (λt=>dst≠some t) st (st.put dst v):=by
 intro t fr τ x hp hx
 cases dst with
 |none=>exact hx
 |some d=>rw [bK st v (λh=>hp (by rw [h]))];exact hx
theorem bG {T:Tab} {Γ:Env} {ops:Array Oper} {st st':St} {o:Oper} (h:Ff T Γ ops st o=some st'):Fu (λt=>o.dst≠some t) st st':=by
 have key: ∀s,(evalOp T Γ st o).map (λr=>r.2.put o.dst r.1)=some s->Fu (λt=>o.dst≠some t) st s:=by
  intro s hs
  cases he:evalOp T Γ st o with
  |none=>rw [he] at hs;cases hs
  |some p=>rw [he] at hs;injection hs with hs;subst hs;exact (nJ (v:=p.1) (st':=p.2) he).on.trans (cN _ _ _)
 unfold Ff at h
 split at h
 ·exact key _ h
 ·split at h
  ·split at h
   ·exact key _ h
   ·injection h with h;subst h;exact cN _ _ _
  ·injection h with h;subst h;exact cN _ _ _
  ·cases h
theorem ld {T:Tab} {Γ:Env} {ops:Array Oper} : ∀(l:List Oper) (st st':St),aR T Γ ops l st=some st'->Fu (λt=>t∉Km l) st st'
 | [],st,st',h=>by injection h with h;subst h;exact Cq.rfl'.on
 |o::r,st,st',h=>by
  simp only [aR] at h
  split at h
  ·rename_i s hs
   refine Fu.trans ((bG hs).mono λt ht=>?_) ((ld r _ _ h).mono λt ht=>?_)
   ·intro hd;apply ht;simp [Km,hd]
   ·intro hd;apply ht;simp [Km,hd]
  ·cases h
theorem Zk: ∀(l:List Oper) (o:Oper) (d:Nat),o∈l->o.dst=some d->d∈Km l
 | [],_,_,h,_=>by cases h
 |p::r,o,d,h,hd=>by
  cases h with
  |head=>simp [Km,hd]
  |tail _ h=>simp only [Km,Az];exact .inr (Zk r o d h hd)
theorem pO {ops:Array Oper} {i:Nat} {o:Oper} (h:ops[i]?=some o):o∈ops.toList:=by
 rw [Mu] at h
 obtain ⟨h1,h2⟩:=h
 rw [<-h2]
 simp
theorem Ze {T:Tab} {Γ:Env} {ops:Array Oper} : ∀(l:List Nat) (st st':St),Mq T Γ ops l st=some st'->Fu (λt=>t∉Km ops.toList) st st'
 | [],st,st',h=>by injection h with h;subst h;exact Cq.rfl'.on
 |i::r,st,st',h=>by
  simp only [Mq] at h
  split at h
  ·cases h
  ·rename_i o ho
   split at h
   ·rename_i s hs
    exact ((bG hs).mono λt ht hd=>ht (Zk _ _ _ (pO ho) hd)).trans (Ze r _ _ h)
   ·cases h
theorem Rg {T:Tab} {Γ:Env} {ops:Array Oper} : ∀(l:List Nat) (st st':St),Gc T Γ ops l st=some st'->Fu (λt=>t∉Km ops.toList) st st'
 | [],st,st',h=>by injection h with h;subst h;exact Cq.rfl'.on
 |i::r,st,st',h=>by
  simp only [Gc] at h
  split at h
  ·cases h
  ·rename_i o ho
   split at h
   ·exact ((cN _ _ _).mono λt ht hd=>ht (Zk _ _ _ (pO ho) hd)).trans (Rg r _ _ h)
   ·cases h
theorem Uh: ∀(l:List Nat) (st:St),Cq st (bg l st)
 | [],_=>Cq.rfl'
 |a::r,st=>(o5 st a).trans (Uh r _)
theorem Vz (live:List Nat): ∀(i:Nat) (l:List AV) (t:Nat),i+t∈live->(Ia live i l).getD t .undef=l.getD t .undef
 |_,[],_,_=>rfl
 |i,v::r,0,h=>by simp [Ia];intro hn;exact absurd h hn
 |i,v::r,t+1,h=>by
  simp only [Ia,Nb]
  exact Vz live (i+1) r t (by rw [show i+1+t=i+(t+1) by omega];exact h)
theorem zC (l k:Nat) (st:St):Cq st (st.rename l k):=by
 unfold St.rename
 split
 ·split
  ·exact (Pc st (Vi l k) rfl λ_ _ _=>rfl).trans (Cq.Zl rfl)
  ·exact Cq.rfl'
 ·exact Cq.rfl'
theorem eC: ∀(n t:Nat) (st:St),Cq st (Ml n t st)
 |0,_,_=>Cq.rfl'
 |n+1,t,st=>by
  simp only [Ml]
  refine Cq.trans ?_ (eC n (t+1) _)
  split
  ·split
   ·split
    ·exact Cq.rfl'
    ·exact zC _ _ _
   ·exact Cq.rfl'
  ·exact Cq.rfl'
theorem tT (t:Nat) (st:St):Cq st (bX t st):=by
 unfold bX
 split
 ·rename_i l off len hg
  split
  ·split
   ·intro k fr τ x hk
    have Ig:k≠t:= λe=>by subst e;rw [hg] at hk;cases hk
    rw [bK _ _ Ig]
    exact La _ _ _ k fr τ x hk
   ·exact Cq.rfl'
  ·exact Cq.rfl'
 ·exact Cq.rfl'
theorem mC (c:Nat) (st:St):Cq st (Pp c st):=by
 unfold Pp
 split
 ·split
  ·split
   ·split
    ·split
     ·exact (La _ _ _).trans (Mh _ _ _)
     ·exact Cq.rfl'
    ·exact Cq.rfl'
   ·exact Cq.rfl'
  ·exact Cq.rfl'
 ·exact Cq.rfl'
theorem cO (live:List Nat): ∀(n c:Nat) (st:St),Cq st (Pe live n c st)
 |0,_,_=>Cq.rfl'
 |n+1,c,st=>by
  simp only [Pe]
  refine Cq.trans ?_ (cO live n (c+1) _)
  split
  ·exact mC _ _
  ·exact Cq.rfl'
theorem gM (live:List Nat): ∀(n t:Nat) (st:St),Cq st (Oq live n t st)
 |0,_,st=>cO live 16 0 st
 |n+1,t,st=>by
  simp only [Oq]
  refine Cq.trans ?_ (gM live n (t+1) _)
  split
  ·exact tT _ _
  ·exact Cq.rfl'
theorem lv (live:List Nat) (st:St):Fu (λt=>t∈live) st (st.clean live):=by
 intro t fr τ x hp hx
 unfold St.clean
 have key: ∀s:St,s.get t= .at (.data fr τ x)->(if live.contains cX then Ml s.tmps.length 0 s else s).get t= .at (.data fr τ x):=by
  intro s hs
  split
  ·exact eC _ _ s t fr τ x hs
  ·exact hs
 have Aah: ∀s:St,s.get t= .at (.data fr τ x)->(if live.any (λt=>Nat.ble ak t) then s.Ii live else s).get t= .at (.data fr τ x):=by
  intro s hs
  split<;>exact hs
 have Aai: ∀s:St,s.get t= .at (.data fr τ x)->(if live.any (λt=>Nat.ble Mk t&&Nat.blt t cX) then Oq live s.tmps.length 0 s else s).get t= .at (.data fr τ x):=by
  intro s hs
  split
  ·exact gM _ _ _ s t fr τ x hs
  ·exact hs
 refine Aah _ (key _ (Aai _ (Uh _ _ t fr τ x ?_)))
 simp only [St.get] at hx⊢
 rw [Vz live 0 st.tmps t (by simpa using hp)]
 exact hx
def bQ (live:Nat->List Nat):Code->Nat->Bool
 | .seq a b,t=>bQ live a t&&bQ live b t
 | .cond _ a b,t=>bQ live a t&&bQ live b t
 | .block _ c,t=>bQ live c t
 | .loop c,t=>(live (Fg c)).contains t&&bQ live c t
 |_,_=>true
theorem pb {a b:Bool} (h:(a&&b)=true):a=true:=by cases a<;>simp_all
theorem m7 {a b:Bool} (h:(a&&b)=true):b=true:=by cases a<;>simp_all
theorem pk {T:Tab} {Γ:Env} {ops:Array Oper} {draw:Bool} {st st':St} (h:Rh T Γ ops draw st=some st'):Fu (λt=>t∉writes (.region 0 ops draw)) st st':=by
 unfold Rh at h
 have go: ∀q,(match Gc T Γ ops (kr q Γ ops) st with
   |some s=>Mq T Γ ops (Jd q Γ ops) s
   |none=>none)=some st'->Fu (λt=>t∉writes (.region 0 ops draw)) st st':=by
  intro q h
  split at h
  ·rename_i s hs
   exact (Rg _ _ _ hs).trans (Ze _ _ _ h)
  ·cases h
 split at h
 ·split at h
  ·exact go false h
  ·split at h
   ·exact go true h
   ·cases h
 ·exact ld _ _ _ h
theorem sG {T:Tab} {Γ:Env} {ops:Array Oper} {draw:Bool} {K:St->Prop} (s0:St): ∀(f:Nat) (Aj:Array Bool) (st:St),Fu (λt=>t∉writes (.region 0 ops draw)) s0 st->anyS T Γ ops K f Aj st->anyS T Γ ops (λs=>K s/\Fu (λt=>t∉writes (.region 0 ops draw)) s0 s) f Aj st
 |0,_,_,hk,h=>⟨h.1,h.2,hk⟩
 |f+1,Aj,st,hk,h=>⟨h.1,λi hi=>by
  obtain ⟨o,st',h1,h2,h3⟩:=h.2 i hi
  have h4:Mq T Γ ops [i] st=some st':=by simp only [Mq,h1,h2]
  exact ⟨o,st',h1,h2,sG s0 f _ _ (hk.trans (Ze _ _ _ h4)) h3⟩⟩
theorem m8 {T:Tab} {Γ:Env} {ops:Array Oper} {draw:Bool} {E:List Nat} {K:St->Prop} (s0:St): ∀(f:Nat) (Aj:Array Bool) (st:St),Fu (λt=>t∉writes (.region 0 ops draw)) s0 st->rK T Γ ops E K f Aj st->rK T Γ ops E (λs=>K s/\Fu (λt=>t∉writes (.region 0 ops draw)) s0 s) f Aj st
 |0,_,_,hk,h=>⟨h.1,h.2.1,h.2.2,hk⟩
 |f+1,Aj,st,hk,h=>⟨h.1,h.2.1,λi hi=>by
  obtain ⟨o,st',h1,h2,h3⟩:=h.2.2 i hi
  have h4:Mq T Γ ops [i] st=some st':=by simp only [Mq,h1,h2]
  exact ⟨o,st',h1,h2,m8 s0 f _ _ (hk.trans (Ze _ _ _ h4)) h3⟩⟩
theorem jd {ops:Array Oper} {dead:List Nat} (hd:dead.all (Yy ops)=true) (st:St):Fu (λt=>t∉Km ops.toList) st (st.Qc dead):=by
 intro t fr τ x ht hx
 unfold St.Qc
 refine Uh _ _ t fr τ x ?_
 show (Ia _ 0 st.tmps).getD t .undef=_
 rw [Vz _ 0 st.tmps t ?_]
 ·exact hx
 ·refine Bm.2 ⟨Es.2 ?_,?_⟩
  ·refine Bk λhn=>?_
   have:st.get t= .undef:=by
    unfold St.get
    rw [Al,Ee (by omega)];rfl
   rw [hx] at this
   cases this
  ·cases hc:dead.contains (0+t) with
   |false=>rfl
   |true=>
    have hm:0+t∈dead:=by simpa using hc
    have h1:=Bf.1 hd _ hm
    obtain ⟨o,ho,h2⟩:=Ep.1 h1
    rw [Bn] at h2
    exact absurd (Zk _ o t ho (by simpa using h2)) ht
theorem kY.keeps {T:Tab} {Γ:Env} {ops:Array Oper} {draw:Bool} {st:St} {K:St->Prop} (h:kY T Γ ops draw st K):kY T Γ ops draw st (λs=>K s/\Fu (λt=>t∉writes (.region 0 ops draw)) st s):=by
 rcases h with ⟨st',h1,h2⟩|⟨h1,h2,cp,h3,h4|⟨E,st1,h4,h5,h6,h7⟩⟩
 ·exact .inl ⟨st',h1,h2,pk h1⟩
 ·exact .inr ⟨h1,h2,cp,h3, .inl (sG st _ _ _ (Rg _ _ _ h3) h4)⟩
 ·exact .inr ⟨h1,h2,cp,h3, .inr ⟨E,st1,h4,h5,h6,m8 st _ _ _ ((Rg _ _ _ h3).trans (Rg _ _ _ h6)) h7⟩⟩
theorem yK.keeps {T:Tab} {Γ:Env} {ops:Array Oper} {draw:Bool} {st:St} {K:St->Prop} (h:yK T Γ ops draw st K):yK T Γ ops draw st (λs=>K s/\Fu (λt=>t∉writes (.region 0 ops draw)) st s):=by
 rcases h with h|⟨dead,hd,h⟩
 ·exact .inl h.keeps
 ·exact .inr ⟨dead,hd,h.keeps.mono λs hs=>⟨hs.1,hs.2.trans (jd hd s)⟩⟩
theorem l4 (ops:Array Oper) {fr:Bool} {τ:Ty} {x:τ.den} : ∀(i:Nat) (l:List AV) (t:Nat),l.getD t .undef= .at (.data fr τ x)->(Oj ops i l).getD t .undef= .at (.data fr τ x)
 |_,[],_,h=>h
 |i,v::r,0,h=>by
  cases v with
  |Mn l=>cases h
  |_=>exact h
 |i,v::r,t+1,h=>by
  have h':=l4 ops (i+1) r t h
  cases v<;>(simp only [Oj,Nb];exact h')
theorem lx (ops:Array Oper) (st:St):Cq st (st.nA ops):= λt _ _ _ hx=>l4 ops 0 st.tmps t hx
theorem NZ {T:Tab} {Γ:Env} {live:Nat->List Nat} {c:Code} {st:St} {Q:Lh->St->Prop} (h:Nx T Γ live c st Q): ∀(s0:St) (p:Nat->Prop),Fu p s0 st->(∀t,p t->t∉writes c/\bQ live c t=true)->Nx T Γ live c st (λe s=>Q e s/\Fu p s0 s):=by
 induction h with
 |skip h=>exact λs0 p hk _=> .skip ⟨h,hk⟩
 |label h=>exact λs0 p hk _=> .label ⟨h,hk⟩
 |exit h=>exact λs0 p hk _=> .exit ⟨h,hk⟩
 |ret h=>exact λs0 p hk _=> .ret ⟨h,hk⟩
 |region h=>
  exact λs0 p hk hp=> .region (h.keeps.mono λs hs=>⟨hs.1,(hk.trans (lx _ _).on).trans (hs.2.mono λt ht=>(hp t ht).1)⟩)
 |seq Q1 _ _ h3 UC FU=>
  exact λs0 p hk hp=> .seq _ (UC s0 p hk λt ht=>⟨λhm=>(hp t ht).1 (by simp [writes,hm]),pb (hp t ht).2⟩)
   (λs hs=>FU s hs.1 s0 p hs.2 λt ht=>⟨λhm=>(hp t ht).1 (by simp [writes,hm]),m7 (hp t ht).2⟩) λe s he hs=>⟨h3 e s he hs.1,hs.2⟩
 |cond hc _ _ UC FU=>
  exact λs0 p hk hp=> .cond hc (λht=>UC ht s0 p hk λt h=>⟨λhm=>(hp t h).1 (by simp [writes,hm]),pb (hp t h).2⟩)
   fun ht=>FU ht s0 p hk λt h=>⟨λhm=>(hp t h).1 (by simp [writes,hm]),m7 (hp t h).2⟩
 |block Q1 _ h2 ih=>
  exact λs0 p hk hp=> .block _ (ih s0 p hk λt ht=>⟨λhm=>(hp t ht).1 (by simpa [writes] using hm),by simpa [bQ] using (hp t ht).2⟩) λe s hs=>by
   have h:=h2 e s hs.1
   cases e with
   |normal=>exact ⟨h,hs.2⟩
   |ret=>exact ⟨h,hs.2⟩
   |exit UA=>
    simp only [xA] at h⊢
    split at h
    ·rename_i hi;rw [Ab hi];exact ⟨h,hs.2⟩
    ·rename_i hi;rw [Ak hi];exact ⟨h,hs.2⟩
 |loop Q1 _ _ h3 UC FU=>
  intro s0 p hk hp
  refine .loop _ (UC s0 p (hk.trans ((lv _ _).mono λt ht=>by simpa using pb (hp t ht).2)) λt ht=>⟨λhm=>(hp t ht).1 (by simpa [writes] using hm),m7 (hp t ht).2⟩)
   (λs hs=>FU s hs.1 s0 p hs.2 hp) λe s he hs=>⟨h3 e s he hs.1,hs.2⟩
end Go.Proofs.Ytkkdpknjohcekaa
