/-
  Part 29 of the proof that the statement FnExactSearchDepth holds.
-/
import Derived.Test.YtfolipnappekaaaGreatCSearchDepth27
namespace Go.Proofs.YtfolipnappekaaaGreat
open Go.RowKit
def Cp (st st':St):Prop:= ∀(t:Nat) (fr:Bool) (τ:Ty) (x:τ.den),st.get t= .at (.data fr τ x)->st'.get t= .at (.data fr τ x)
theorem Cp.rfl' {st:St} :Cp st st:= λ_ _ _ _ h=>h
theorem Cp.trans {a b c:St} (h1:Cp a b) (h2:Cp b c):Cp a c:= λt fr τ x h=>h2 t fr τ x (h1 t fr τ x h)
theorem Cp.Zf {a b:St} (h:b.tmps=a.tmps):Cp a b:= λt fr τ x hx=>by
 simp only [St.get] at hx⊢
 rw [h]
 exact hx
theorem bM (st:St) {t d:Nat} (v:AV) (h:t≠d):(st.put (some d) v).get t=st.get t:=by
 simp only [St.put,St.get]
 rw [Qo]
 rw [Ag (by rintro ⟨rfl,_⟩;exact h rfl)]
theorem Pj (st:St) (f:AC->AC) (hu:f .undef= .undef) (hd: ∀fr (τ:Ty) (x:τ.den),f (.data fr τ x)= .data fr τ x):Cp st (st.Kr f):=by
 intro t fr τ x h
 simp only [St.Kr,St.get]
 rw [Vb f hu,show st.tmps.getD t .undef=_ from h]
 simp only [AV.map,hd]
theorem nH (st:St) (l:Nat):Cp st (st.forget l):=
 (Pj st (Cu l) rfl λ_ _ _=>rfl).trans (Cp.Zf rfl)
theorem aU (st:St) (l:Nat) (fr:Bool) (e:Ty) (xs:List e.den):Cp st (st.freeze l fr e xs):=
 (Pj st (Cz l fr e xs) rfl λ_ _ _=>rfl).trans (Cp.Zf rfl)
theorem gm (st:St) (l:Nat) (v:Ty) (m:ByteArray->Option v.den):Cp st (st.Ir l v m):=
 (Pj st (Ha l v m) rfl λ_ _ _=>rfl).trans (Cp.Zf rfl)
theorem Lw (st:St) (l:Nat) (b:OB):Cp st (st.new l b):=(nH st l).trans (Cp.Zf rfl)
theorem Ml (st:St) (l:Nat) (b:OB):Cp st (st.Ju l b):=Cp.Zf rfl
theorem dY (b:OB) (key l i:Nat) (st:St):Cp st (Ut b key l i st):=by
 unfold Ut
 split
 ·split
  ·dsimp only
   split
   ·exact (Lw _ _ _).trans (Ml _ _ _)
   ·exact Lw _ _ _
  ·exact Cp.rfl'
 ·exact Cp.rfl'
theorem lg (T:Tab) (l:Nat) (t:TypeId) (τ:Ty): ∀(n i:Nat) (st:St),Cp st (fo T l t τ n i st)
 |0,_,_=>Cp.rfl'
 |n+1,i,st=>by
  simp only [fo]
  refine Cp.trans ?_ (lg T l t τ n (i+1) _)
  split
  ·exact dY _ _ _ _ _
  ·exact Cp.rfl'
theorem iR (T:Tab) (l off:Nat) (t:TypeId) (τ:Ty): ∀(n i:Nat) (st:St),Cp st (ef T l off t τ n i st)
 |0,_,_=>Cp.rfl'
 |n+1,i,st=>by
  simp only [ef]
  refine Cp.trans ?_ (iR T l off t τ n (i+1) _)
  split
  ·exact dY _ _ _ _ _
  ·exact Cp.rfl'
theorem Qy: ∀(n:Nat) (st:St) (cs ir:List AC) (st':St),Hk n st cs=some (ir,st')->Cp st st'
 |0,st,cs,ir,st',h=>by
  simp only [Hk] at h
  split at h
  ·injection h with h;injection h with h1 h2;subst h2;exact Cp.rfl'
  ·cases h
 |n+1,st,cs,ir,st',h=>by
  simp only [Hk] at h
  split at h
  ·injection h with h;injection h with h1 h2;subst h2;exact Cp.rfl'
  ·split at h
   ·exact (aU _ _ _ _ _).trans (Qy n _ _ _ _ h)
   ·exact (aU _ _ _ _ _).trans (Qy n _ _ _ _ h)
   ·cases h
  ·split at h
   ·exact (gm _ _ _ _).trans (Qy n _ _ _ _ h)
   ·cases h
  ·cases h
theorem Sl {st st':St} {v v':AV} (h:settle st v=some (v',st')):Cp st st':=by
 unfold settle at h
 split at h
 ·split at h
  ·injection h with h;injection h with h1 h2;subst h2;exact aU _ _ _ _ _
  ·injection h with h;injection h with h1 h2;subst h2;exact aU _ _ _ _ _
  ·cases h
 ·split at h
  ·injection h with h;injection h with h1 h2;subst h2;exact gm _ _ _ _
  ·cases h
 ·split at h
  ·injection h with h;injection h with h1 h2;subst h2;exact Cp.rfl'
  ·cases h
 ·rename_i cs
  cases hs:Hk cs.length st cs with
  |none=>rw [hs] at h;cases h
  |some p=>rw [hs] at h;injection h with h;injection h with h1 h2;subst h2;exact Qy _ _ _ _ _ hs
 ·injection h with h;injection h with h1 h2;subst h2;exact Cp.rfl'
 ·cases h
theorem qK {T:Tab} {st st':St} {l:Nat} {t:TypeId} {τ:Ty} {cs:List AC} {v:AV} (h:mkVar T st l t τ cs=some (v,st')):Cp st st':=by
 unfold mkVar at h
 split at h
 ·cases h
 dsimp only at h
 split at h
 ·injection h with h;injection h with h1 h2;subst h2;exact (Lw _ _ _).trans (lg _ _ _ _ _ _ _)
 ·cases h
theorem GB {T:Tab} {st st':St} {t:TypeId} {p v:AV} (h:Va T st t p v=some st'):Cp st st':=by
 unfold Va at h
 split at h
 ·split at h
  ·split at h
   ·injection h with h
    split at h
    ·subst h;exact (Ml _ _ _).trans (iR _ _ _ _ _ _ _ _)
    ·subst h;exact Ml _ _ _
   ·cases h
  ·cases h
 ·split at h
  ·rename_i hs
   split at h
   ·split at h
    ·split at h
     ·injection h with h;subst h;exact (Sl hs).trans (Ml _ _ _)
     ·cases h
    ·cases h
   ·cases h
  ·cases h
 ·cases h
theorem uc (st:St) (l j m:Nat) (e:Ty) (te:TypeId) (rows:List (List e.den)) (xs:List e.den) (kp:Option (Nat×Nat)):Cp st (Tu st l j m e te rows xs kp):=
 ((Pj st (Cq [m] [l]) (by simp [Cq,AC.refs]) λfr τ x=>by simp [Cq,AC.refs]).trans (Cp.Zf rfl)).trans (Ml (st.cG [m] [l]) _ _)
theorem ud (st:St) (l i m:Nat) (e:Ty) (te tid:TypeId) (rows:List (List e.den)) (kp:Option (Nat×Nat)):Cp st (Qc st l i m e te tid rows kp):=
 (Ml st l _).trans (Lw _ m _)
theorem zR {T:Tab} {st st':St} {t:TypeId} {p v:AV} (h:Pu T st t p v=some st'):Cp st st':=by
 unfold Pu at h
 split at h
 rotate_left
 ·exact GB h
 unfold bK at h
 split at h
 ·split at h
  ·rename_i hs
   split at h
   ·split at h
    ·injection h with h;subst h;exact (Sl hs).trans (Ml _ _ _)
    ·cases h
   ·cases h
  ·cases h
 ·split at h
  ·split at h
   ·split at h
    ·injection h with h;subst h
     exact uc _ _ _ _ _ _ _ _ _
    ·cases h
   ·cases h
  ·cases h
 ·cases h
theorem eZ {T:Tab} {st st':St} {d:Nat} {t:TypeId} {x y:Operand} {v:AV} (h:Nv T st d t x y=some (v,st')):Cp st st':=by
 unfold Nv at h
 split at h
 ·cases h
 ·split at h
  ·rename_i hs
   split at h
   ·cases h
   ·split at h
    ·split at h
     ·injection h with h;injection h with h1 h2;subst h2;exact ((Sl hs).trans (Lw _ _ _)).trans (Lw _ _ _)
     ·cases h
    ·split at h
     ·split at h
      ·split at h
       ·injection h with h;injection h with h1 h2;subst h2;exact (Sl hs).trans (Lw _ _ _)
       ·cases h
      ·cases h
     ·cases h
    ·cases h
  ·cases h
theorem wA {T:Tab} {st st':St} {d:Nat} {t:TypeId} {x y:Operand} {v:AV} (h:Rg T st d t x y=some (v,st')):Cp st st':=by
 unfold Rg at h
 split at h
 ·rename_i tx
  split at h
  ·rename_i l i c hg
   split at h
   ·split at h
    ·rename_i e te rows kp tid hl ht hc
     refine Cp.trans (b:=(Qc st l i d e te tid rows kp).put (some tx) (.at (.own d 0 (rows.getD i []).length))) ?_ (eZ h)
     intro t' fr τ z hz
     by_cases e':t'=tx
     ·subst e';rw [hg] at hz;cases hz
     ·rw [bM _ _ e'];exact ud st l i d e te tid rows kp t' fr τ z hz
    ·cases h
   ·cases h
  ·exact eZ h
 ·exact eZ h
theorem MW {T:Tab} {st st':St} {d:Nat} {t:TypeId} {l c v:AV} (h:bJ T st d t l c=some (v,st')):Cp st st':=by
 unfold bJ at h
 split at h
 ·split at h
  ·split at h
   ·injection h with h;injection h with h1 h2;subst h2;exact Lw _ _ _
   ·cases h
  ·cases h
 ·cases h
theorem qL (e:Ty): ∀(l:List (Nat×Operand)) (i:Nat) (st st':St) (fr tr:Bool) (ys:List e.den),Kz e i l st=some (fr,tr,ys,st')->Cp st st'
 | [],_,_,_,_,_,_,h=>by
  simp only [Kz] at h
  injection h with h;injection h with h1 h2;injection h2 with h2 h3;injection h3 with h3 h4;subst h4;exact Cp.rfl'
 |(j,x)::r,i,st,st',fr,tr,ys,h=>by
  simp only [Kz] at h
  split at h
  ·split at h
   ·rename_i hs
    split at h
    ·split at h
     ·rename_i hp
      injection h with h;injection h with h1 h2;injection h2 with h2 h3;injection h3 with h3 h4;subst h4
      exact (Sl hs).trans (qL e r _ _ _ _ _ _ hp)
     ·cases h
    ·cases h
   ·cases h
  ·cases h
theorem pv {T:Tab} {st st':St} {d:Nat} {t:TypeId} {n:Nat} {parts:Array (Nat×Operand)} {v:AV} (h:Mg T st d t n parts=some (v,st')):Cp st st':=by
 unfold Mg at h
 split at h
 ·cases h
 ·split at h
  ·cases h
  ·split at h
   ·split at h
    ·rename_i hp
     injection h with h;injection h with h1 h2;subst h2;exact (qL _ _ _ _ _ _ _ _ hp).trans (Lw _ _ _)
    ·cases h
   ·cases h
theorem wC {T:Tab} {st st':St} {d:Nat} {t:TypeId} {v:AV} (h:Uz T st d t=some (v,st')):Cp st st':=by
 unfold Uz at h
 split at h
 ·split at h
  ·injection h with h;injection h with h1 h2;subst h2;exact Lw _ _ _
  ·cases h
 ·cases h
theorem nI {T:Tab} {st st':St} {t:TypeId} {m k x:AV} (h:Jd T st t m k x=some st'):Cp st st':=by
 unfold Jd at h
 split at h
 ·split at h
  ·split at h
   ·injection h with h;subst h;exact Ml _ _ _
   ·cases h
  ·cases h
 ·cases h
theorem MV {T:Tab} {st st':St} {t t':TypeId} {x y v:AV} (h:iw T st t t' x y=some (v,st')):Cp st st':=by
 unfold iw at h
 split at h
 ·split at h
  ·split at h
   ·split at h
    ·injection h with h;injection h with h1 h2;subst h2;exact Ml _ _ _
    ·cases h
   ·cases h
  ·cases h
 ·cases h
theorem FZ {T:Tab} {st st':St} {t:TypeId} {x:AV} (h:evalClear T st t x=some st'):Cp st st':=by
 unfold evalClear at h
 split at h
 ·split at h
  ·split at h
   ·split at h
    ·injection h with h;subst h;exact Ml _ _ _
    ·cases h
   ·cases h
  ·cases h
 ·cases h
theorem yD {st st':St} {c:CK} {ys:c.den} {a:AC} (h:ct st c ys a=some st'):st'.tmps=st.tmps:=by
 unfold ct at h
 repeat' split at h
 all_goals first|(cases h;done)|(simp only [Aa] at h;subst h;rfl)|skip
theorem VO {st st':St} {e:Ty} {ys:List e.den} {a:AC} (h:OH st e ys a=some st'):st'.tmps=st.tmps:=by
 unfold OH at h
 repeat' split at h
 all_goals first|(cases h;done)|(simp only [Aa] at h;subst h;rfl)|skip
theorem Uu: ∀(cs:List (Bool×CK)) (o:IOs.den cs) (as:List AC) (st st':St),Ia cs o as st=some st'->st'.tmps=st.tmps
 | [],_,_,st,st',h=>by simp only [Ia,Aa] at h;subst h;rfl
 |(true, .Eu _)::r,o,[],st,st',h=>by simp [Ia] at h
 |(true, .row _ _)::r,o,[],st,st',h=>by simp [Ia] at h
 |(true, .Hi _ _)::r,o,[],st,st',h=>by simp [Ia] at h
 |(true, .part _ _)::r,o,[],st,st',h=>by simp [Ia] at h
 |(true, .Bm _ _ _)::r,o,[],st,st',h=>by simp [Ia] at h
 |(true, .Bm _ _ _)::r,o,a::as,st,st',h=>Uu r o as st st' (by simpa only [Ia] using h)
 |(false,_)::r,o,[],st,st',h=>by simp [Ia] at h
 |(true, .Eu _)::r,o,a::as,st,st',h=>Uu r o as st st' (by simpa only [Ia] using h)
 |(false,_)::r,o,a::as,st,st',h=>Uu r o as st st' (by simpa only [Ia] using h)
 |(true, .row _ _)::r,o,a::as,st,st',h=>by
  simp only [Ia] at h
  split at h
  ·rename_i hc;exact (Uu r o.2 as _ st' h).trans (yD hc)
  ·cases h
 |(true, .part _ _)::r,o,a::as,st,st',h=>by
  simp only [Ia] at h
  split at h
  ·rename_i hc;exact (Uu r o.2 as _ st' h).trans (VO hc)
  ·cases h
 |(true, .Hi _ _)::r,o,a::as,st,st',h=>by
  simp only [Ia] at h
  split at h
  ·rename_i hc;exact (Uu r o.2 as _ st' h).trans (yD hc)
  ·cases h
theorem zP (ck st:St) (ls:List Nat) (n:Nat) (hl:ck.tmps.length=st.tmps.length) (h:Cp ck st):Cp ck (m8 ck st ls n):=by
 unfold m8
 split
 ·exact h
 ·intro t fr τ x hx
  show (Li _ ck.tmps st.tmps).getD t .undef=_
  rcases fK ls ck.tmps st.tmps t hl with ⟨k,i,c,h1,_⟩|h1
  ·rw [show ck.tmps.getD t .undef=_ from hx] at h1;cases h1
  ·rw [h1];exact h t fr τ x hx
theorem FY {st st':St} {d:Option Nat} {s:MSpec} {args:List AV} {v:AV} (h:Xt st d s args=some (v,st')):Cp st st':=by
 unfold Xt at h
 split at h
 ·cases h
 split at h
 ·cases h
 split at h
 ·cases h
 split at h
 ·split at h
  ·cases h
  split at h
  ·cases h
  rename_i st1 hp
  split at h
  ·cases h
  split at h
  ·simp only [Aa,Ad] at h
   obtain ⟨_,rfl⟩:=h
   have cq:=Uu _ _ _ _ _ hp
   refine zP _ _ _ _ ?_ ?_
   ·simp only [lM,pW]
    rw [<-cq]
    simp only [St.cG,St.Kr,Di]
   ·refine Cp.trans (Cp.Zf cq) ?_
    refine Cp.trans (Pj st1 (Cq _ _) (by simp [Cq,AC.refs]) λfr τ x=>by simp [Cq,AC.refs]) (Cp.Zf pW)
  ·cases h
 ·cases h
theorem dm (st:St) (k m:Nat) (b:OB):Cp st (Qw st k m b):=
 (Pj st (Cq [m,k] []) (by simp [Cq,AC.refs]) λfr τ x=>by simp [Cq,AC.refs]).trans (Cp.Zf rfl)
theorem GA {T:Tab} {st st':St} {d:Nat} {t:TypeId} {l c v:AV} (h:Xv T st d t l c=some (v,st')):Cp st st':=by
 unfold Xv at h
 split at h
 ·exact MW h
 ·split at h
  ·split at h
   ·injection h with h;injection h with h1 h2;subst h2;exact dm _ _ _ _
   ·cases h
  ·cases h
theorem nG {T:Tab} {st st':St} {d:Nat} {t:TypeId} {n:Nat} {parts:Array (Nat×Operand)} {v:AV} (h:Iz T st d t n parts=some (v,st')):Cp st st':=by
 unfold Iz at h
 split at h
 ·exact pv h
 ·repeat' split at h
  all_goals first|(cases h;done)|(injection h with h;injection h with h1 h2;subst h2;exact dm _ _ _ _)
theorem wB {T:Tab} {st st':St} {d:Nat} {t:TypeId} {x y:Operand} {v:AV} (h:Rh T st d t x y=some (v,st')):Cp st st':=by
 unfold Rh at h
 split at h
 ·exact wA h
 ·repeat' split at h
  all_goals first|(cases h;done)|(injection h with h;injection h with h1 h2;subst h2;exact dm _ _ _ _)
theorem dX {st st':St} {v:AV} {o:Option AV} (h:o.map (λv=>(v,st))=some (v,st')):Cp st st':=by
 cases o with
 |none=>cases h
 |some u=>injection h with h;injection h with h1 h2;subst h2;exact Cp.rfl'
theorem an: ∀(l:List Operand) {st st1:St},Ox l st=some st1->Cp st st1
 | [],st,st1,h=>by
  simp only [Ox,Aa] at h
  subst h
  exact Cp.rfl'
 |x::r,st,st1,h=>by
  simp only [Ox] at h
  cases hs:settle st (st.ev x) with
  |none=>rw [hs] at h;cases h
  |some p=>
   rw [hs] at h
   exact (Sl (v':=p.1) (st':=p.2) hs).trans (an r h)
theorem ni {T:Tab} {Γ:Env} {st st':St} {o:Oper} {v:AV} (h:evalOp T Γ st o=some (v,st')):Cp st st':=by
 unfold evalOp at h
 split at h
 ·split at h
  ·split at h
   ·injection h with h;injection h with h1 h2;subst h2;exact Lw _ _ _
   ·cases h
  ·injection h with h;injection h with h1 h2;subst h2;exact Cp.rfl'
 ·split at h
  ·exact qK h
  ·cases h
 ·split at h
  ·split at h
   ·exact qK h
   ·cases h
  ·cases h
 ·rename_i t p x _
  cases hs:Pu T st t (st.ev p) (st.ev x) with
  |none=>rw [hs] at h;cases h
  |some s=>rw [hs] at h;injection h with h;injection h with h1 h2;subst h2;exact zR hs
 ·split at h
  ·exact GA h
  ·cases h
 ·split at h
  ·exact wC h
  ·cases h
 ·rename_i t m k x _
  cases hs:Jd T st t (st.ev m) (st.ev k) (st.ev x) with
  |none=>rw [hs] at h;cases h
  |some s=>rw [hs] at h;injection h with h;injection h with h1 h2;subst h2;exact nI hs
 ·rename_i t m k x _
  cases hs:Jd T st t (st.ev m) (st.ev k) (st.ev x) with
  |none=>rw [hs] at h;cases h
  |some s=>rw [hs] at h;injection h with h;injection h with h1 h2;subst h2;exact nI hs
 ·split at h
  ·exact nG h
  ·cases h
 ·exact dX h
 ·split at h
  ·split at h
   ·exact wB h
   ·cases h
  ·cases h
 ·split at h
  ·exact MV h
  ·cases h
 ·split at h
  ·rename_i x t _ _
   cases hs:evalClear T st t (st.ev x) with
   |none=>rw [hs] at h;cases h
   |some s=>rw [hs] at h;injection h with h;injection h with h1 h2;subst h2;exact FZ hs
  ·cases h
 ·split at h
  ·exact FY h
  ·split at h
   ·rename_i args _ _ _ _ _ _
    cases hs:Ox args.toList st with
    |none=>rw [hs] at h;cases h
    |some st1=>
     rw [hs] at h
     exact (an _ hs).trans (dX h)
   ·exact dX h
  ·exact dX h
 ·exact dX h
def Qp:List Oper->List Nat
 | []=> []
 |o::r=>(match o.dst with|some d=> [d]|none=> [])++Qp r
def writes:Code->List Nat
 | .region _ ops _=>Qp ops.toList
 | .seq a b=>writes a++writes b
 | .cond _ a b=>writes a++writes b
 | .block _ c=>writes c
 | .loop c=>writes c
 |_=> []
def Im (P:Nat->Prop) (st st':St):Prop:= ∀(t:Nat) (fr:Bool) (τ:Ty) (x:τ.den),P t->st.get t= .at (.data fr τ x)->st'.get t= .at (.data fr τ x)
theorem Im.trans {P:Nat->Prop} {a b c:St} (h1:Im P a b) (h2:Im P b c):Im P a c:= λt fr τ x hp h=>h2 t fr τ x hp (h1 t fr τ x hp h)
theorem Im.mono {P Q:Nat->Prop} {a b:St} (h1:Im P a b) (h: ∀t,Q t->P t):Im Q a b:= λt fr τ x hp hx=>h1 t fr τ x (h t hp) hx
theorem Cp.on {P:Nat->Prop} {a b:St} (h:Cp a b):Im P a b:= λt fr τ x _ hx=>h t fr τ x hx
theorem cK (st:St) (dst:Option Tmp) (v:AV):Im (λt=>dst≠some t) st (st.put dst v):=by
 intro t fr τ x hp hx
 cases dst with
 |none=>exact hx
 |some d=>rw [bM st v (λh=>hp (by rw [h]))];exact hx
theorem iy {T:Tab} {Γ:Env} {ops:Array Oper} {st st':St} {o:Oper} (h:Eo T Γ ops st o=some st'):Im (λt=>o.dst≠some t) st st':=by
 have key: ∀s,(evalOp T Γ st o).map (λr=>r.2.put o.dst r.1)=some s->Im (λt=>o.dst≠some t) st s:=by
  intro s hs
  cases he:evalOp T Γ st o with
  |none=>rw [he] at hs;cases hs
  |some p=>rw [he] at hs;injection hs with hs;subst hs;exact (ni (v:=p.1) (st':=p.2) he).on.trans (cK _ _ _)
 unfold Eo at h
 split at h
 ·exact key _ h
 ·split at h
  ·split at h
   ·exact key _ h
   ·injection h with h;subst h;exact cK _ _ _
  ·injection h with h;subst h;exact cK _ _ _
  ·cases h
theorem kW {T:Tab} {Γ:Env} {ops:Array Oper} : ∀(l:List Oper) (st st':St),aQ T Γ ops l st=some st'->Im (λt=>t∉Qp l) st st'
 | [],st,st',h=>by injection h with h;subst h;exact Cp.rfl'.on
 |o::r,st,st',h=>by
  simp only [aQ] at h
  split at h
  ·rename_i s hs
   refine Im.trans ((iy hs).mono λt ht=>?_) ((kW r _ _ h).mono λt ht=>?_)
   ·intro hd;apply ht;simp [Qp,hd]
   ·intro hd;apply ht;simp [Qp,hd]
  ·cases h
theorem du: ∀(l:List Oper) (o:Oper) (d:Nat),o∈l->o.dst=some d->d∈Qp l
 | [],_,_,h,_=>by cases h
 |p::r,o,d,h,hd=>by
  cases h with
  |head=>simp [Qp,hd]
  |tail _ h=>simp only [Qp,Bb];exact .inr (du r o d h hd)
theorem yu {ops:Array Oper} {i:Nat} {o:Oper} (h:ops[i]?=some o):o∈ops.toList:=by
 rw [Nb] at h
 obtain ⟨h1,h2⟩:=h
 rw [<-h2]
 simp
theorem Zb {T:Tab} {Γ:Env} {ops:Array Oper} : ∀(l:List Nat) (st st':St),Ms T Γ ops l st=some st'->Im (λt=>t∉Qp ops.toList) st st'
 | [],st,st',h=>by injection h with h;subst h;exact Cp.rfl'.on
 |i::r,st,st',h=>by
  simp only [Ms] at h
  split at h
  ·cases h
  ·rename_i o ho
   split at h
   ·rename_i s hs
    exact ((iy hs).mono λt ht hd=>ht (du _ _ _ (yu ho) hd)).trans (Zb r _ _ h)
   ·cases h
theorem Ri {T:Tab} {Γ:Env} {ops:Array Oper} : ∀(l:List Nat) (st st':St),Fz T Γ ops l st=some st'->Im (λt=>t∉Qp ops.toList) st st'
 | [],st,st',h=>by injection h with h;subst h;exact Cp.rfl'.on
 |i::r,st,st',h=>by
  simp only [Fz] at h
  split at h
  ·cases h
  ·rename_i o ho
   split at h
   ·exact ((cK _ _ _).mono λt ht hd=>ht (du _ _ _ (yu ho) hd)).trans (Ri r _ _ h)
   ·cases h
theorem gk: ∀(l:List Nat) (st:St),Cp st (dP l st)
 | [],_=>Cp.rfl'
 |a::r,st=>(nH st a).trans (gk r _)
theorem ij (live:List Nat): ∀(i:Nat) (l:List AV) (t:Nat),i+t∈live->(Kc live i l).getD t .undef=l.getD t .undef
 |_,[],_,_=>rfl
 |i,v::r,0,h=>by simp [Kc];intro hn;exact absurd h hn
 |i,v::r,t+1,h=>by
  simp only [Kc,Nk]
  exact ij live (i+1) r t (by rw [show i+1+t=i+(t+1) by omega];exact h)
theorem zQ (l k:Nat) (st:St):Cp st (st.rename l k):=by
 unfold St.rename
 split
 ·split
  ·exact (Pj st (Vj l k) rfl λ_ _ _=>rfl).trans (Cp.Zf rfl)
  ·exact Cp.rfl'
 ·exact Cp.rfl'
theorem dZ: ∀(n t:Nat) (st:St),Cp st (Mm n t st)
 |0,_,_=>Cp.rfl'
 |n+1,t,st=>by
  simp only [Mm]
  refine Cp.trans ?_ (dZ n (t+1) _)
  split
  ·split
   ·split
    ·exact Cp.rfl'
    ·exact zQ _ _ _
   ·exact Cp.rfl'
  ·exact Cp.rfl'
theorem ue (t:Nat) (st:St):Cp st (bY t st):=by
 unfold bY
 split
 ·rename_i l off len hg
  split
  ·split
   ·intro k fr τ x hk
    have Ik:k≠t:= λe=>by subst e;rw [hg] at hk;cases hk
    rw [bM _ _ Ik]
    exact Lw _ _ _ k fr τ x hk
   ·exact Cp.rfl'
  ·exact Cp.rfl'
 ·exact Cp.rfl'
theorem m9 (c:Nat) (st:St):Cp st (Qa c st):=by
 unfold Qa
 split
 ·split
  ·split
   ·split
    ·split
     ·exact (Lw _ _ _).trans (Ml _ _ _)
     ·exact Cp.rfl'
    ·exact Cp.rfl'
   ·exact Cp.rfl'
  ·exact Cp.rfl'
 ·exact Cp.rfl'
theorem cL (live:List Nat): ∀(n c:Nat) (st:St),Cp st (Pp live n c st)
 |0,_,_=>Cp.rfl'
 |n+1,c,st=>by
  simp only [Pp]
  refine Cp.trans ?_ (cL live n (c+1) _)
  split
  ·exact m9 _ _
  ·exact Cp.rfl'
theorem gp (live:List Nat): ∀(n t:Nat) (st:St),Cp st (Ow live n t st)
 |0,_,st=>cL live 16 0 st
 |n+1,t,st=>by
  simp only [Ow]
  refine Cp.trans ?_ (gp live n (t+1) _)
  split
  ·exact ue _ _
  ·exact Cp.rfl'
theorem ld (live:List Nat) (st:St):Im (λt=>t∈live) st (st.clean live):=by
 intro t fr τ x hp hx
 unfold St.clean
 have key: ∀s:St,s.get t= .at (.data fr τ x)->(if live.contains cQ then Mm s.tmps.length 0 s else s).get t= .at (.data fr τ x):=by
  intro s hs
  split
  ·exact dZ _ _ s t fr τ x hs
  ·exact hs
 have Aae: ∀s:St,s.get t= .at (.data fr τ x)->(if live.any (λt=>Nat.ble Ub t) then s.Ip live else s).get t= .at (.data fr τ x):=by
  intro s hs
  split<;>exact hs
 have Aaf: ∀s:St,s.get t= .at (.data fr τ x)->(if live.any (λt=>Nat.ble Rv t&&Nat.blt t cQ) then Ow live s.tmps.length 0 s else s).get t= .at (.data fr τ x):=by
  intro s hs
  split
  ·exact gp _ _ _ s t fr τ x hs
  ·exact hs
 refine Aae _ (key _ (Aaf _ (gk _ _ t fr τ x ?_)))
 simp only [St.get] at hx⊢
 rw [ij live 0 st.tmps t (by simpa using hp)]
 exact hx
def bQ (live:Nat->List Nat):Code->Nat->Bool
 | .seq a b,t=>bQ live a t&&bQ live b t
 | .cond _ a b,t=>bQ live a t&&bQ live b t
 | .block _ c,t=>bQ live c t
 | .loop c,t=>(live (Ep c)).contains t&&bQ live c t
 |_,_=>true
theorem oX {a b:Bool} (h:(a&&b)=true):a=true:=by cases a<;>simp_all
theorem lN {a b:Bool} (h:(a&&b)=true):b=true:=by cases a<;>simp_all
theorem pb {T:Tab} {Γ:Env} {ops:Array Oper} {draw:Bool} {st st':St} (h:Rj T Γ ops draw st=some st'):Im (λt=>t∉writes (.region 0 ops draw)) st st':=by
 unfold Rj at h
 have go: ∀q,(match Fz T Γ ops (jR q Γ ops) st with
   |some s=>Ms T Γ ops (Jj q Γ ops) s
   |none=>none)=some st'->Im (λt=>t∉writes (.region 0 ops draw)) st st':=by
  intro q h
  split at h
  ·rename_i s hs
   exact (Ri _ _ _ hs).trans (Zb _ _ _ h)
  ·cases h
 split at h
 ·split at h
  ·exact go false h
  ·split at h
   ·exact go true h
   ·cases h
 ·exact kW _ _ _ h
theorem sU {T:Tab} {Γ:Env} {ops:Array Oper} {draw:Bool} {K:St->Prop} (s0:St): ∀(f:Nat) (Ah:Array Bool) (st:St),Im (λt=>t∉writes (.region 0 ops draw)) s0 st->anyS T Γ ops K f Ah st->anyS T Γ ops (λs=>K s/\Im (λt=>t∉writes (.region 0 ops draw)) s0 s) f Ah st
 |0,_,_,hk,h=>⟨h.1,h.2,hk⟩
 |f+1,Ah,st,hk,h=>⟨h.1,λi hi=>by
  obtain ⟨o,st',h1,h2,h3⟩:=h.2 i hi
  have h4:Ms T Γ ops [i] st=some st':=by simp only [Ms,h1,h2]
  exact ⟨o,st',h1,h2,sU s0 f _ _ (hk.trans (Zb _ _ _ h4)) h3⟩⟩
theorem sT {T:Tab} {Γ:Env} {ops:Array Oper} {draw:Bool} {E:List Nat} {K:St->Prop} (s0:St): ∀(f:Nat) (Ah:Array Bool) (st:St),Im (λt=>t∉writes (.region 0 ops draw)) s0 st->wb T Γ ops E K f Ah st->wb T Γ ops E (λs=>K s/\Im (λt=>t∉writes (.region 0 ops draw)) s0 s) f Ah st
 |0,_,_,hk,h=>⟨h.1,h.2.1,h.2.2,hk⟩
 |f+1,Ah,st,hk,h=>⟨h.1,h.2.1,λi hi=>by
  obtain ⟨o,st',h1,h2,h3⟩:=h.2.2 i hi
  have h4:Ms T Γ ops [i] st=some st':=by simp only [Ms,h1,h2]
  exact ⟨o,st',h1,h2,sT s0 f _ _ (hk.trans (Zb _ _ _ h4)) h3⟩⟩
theorem za.keeps {T:Tab} {Γ:Env} {ops:Array Oper} {draw:Bool} {st:St} {K:St->Prop} (h:za T Γ ops draw st K):za T Γ ops draw st (λs=>K s/\Im (λt=>t∉writes (.region 0 ops draw)) st s):=by
 rcases h with ⟨st',h1,h2⟩|⟨h1,h2,ck,h3,h4|⟨E,st1,h4,h5,h6,h7⟩⟩
 ·exact .inl ⟨st',h1,h2,pb h1⟩
 ·exact .inr ⟨h1,h2,ck,h3, .inl (sU st _ _ _ (Ri _ _ _ h3) h4)⟩
 ·exact .inr ⟨h1,h2,ck,h3, .inr ⟨E,st1,h4,h5,h6,sT st _ _ _ ((Ri _ _ _ h3).trans (Ri _ _ _ h6)) h7⟩⟩
theorem kQ (ops:Array Oper) {fr:Bool} {τ:Ty} {x:τ.den} : ∀(i:Nat) (l:List AV) (t:Nat),l.getD t .undef= .at (.data fr τ x)->(Oq ops i l).getD t .undef= .at (.data fr τ x)
 |_,[],_,h=>h
 |i,v::r,0,h=>by
  cases v with
  |Mq l=>cases h
  |_=>exact h
 |i,v::r,t+1,h=>by
  have h':=kQ ops (i+1) r t h
  cases v<;>(simp only [Oq,Nk];exact h')
theorem lf (ops:Array Oper) (st:St):Cp st (st.mY ops):= λt _ _ _ hx=>kQ ops 0 st.tmps t hx
theorem OT {T:Tab} {Γ:Env} {live:Nat->List Nat} {c:Code} {st:St} {Q:Le->St->Prop} (h:Of T Γ live c st Q): ∀(s0:St) (p:Nat->Prop),Im p s0 st->(∀t,p t->t∉writes c/\bQ live c t=true)->Of T Γ live c st (λe s=>Q e s/\Im p s0 s):=by
 induction h with
 |skip h=>exact λs0 p hk _=> .skip ⟨h,hk⟩
 |label h=>exact λs0 p hk _=> .label ⟨h,hk⟩
 |exit h=>exact λs0 p hk _=> .exit ⟨h,hk⟩
 |ret h=>exact λs0 p hk _=> .ret ⟨h,hk⟩
 |region h=>
  exact λs0 p hk hp=> .region (h.keeps.mono λs hs=>⟨hs.1,(hk.trans (lf _ _).on).trans (hs.2.mono λt ht=>(hp t ht).1)⟩)
 |seq Q1 _ _ h3 UE FU=>
  exact λs0 p hk hp=> .seq _ (UE s0 p hk λt ht=>⟨λhm=>(hp t ht).1 (by simp [writes,hm]),oX (hp t ht).2⟩)
   (λs hs=>FU s hs.1 s0 p hs.2 λt ht=>⟨λhm=>(hp t ht).1 (by simp [writes,hm]),lN (hp t ht).2⟩) λe s he hs=>⟨h3 e s he hs.1,hs.2⟩
 |cond hc _ _ UE FU=>
  exact λs0 p hk hp=> .cond hc (λht=>UE ht s0 p hk λt h=>⟨λhm=>(hp t h).1 (by simp [writes,hm]),oX (hp t h).2⟩)
   fun ht=>FU ht s0 p hk λt h=>⟨λhm=>(hp t h).1 (by simp [writes,hm]),lN (hp t h).2⟩
 |block Q1 _ h2 ih=>
  exact λs0 p hk hp=> .block _ (ih s0 p hk λt ht=>⟨λhm=>(hp t ht).1 (by simpa [writes] using hm),by simpa [bQ] using (hp t ht).2⟩) λe s hs=>by
   have h:=h2 e s hs.1
   cases e with
   |normal=>exact ⟨h,hs.2⟩
   |ret=>exact ⟨h,hs.2⟩
   |exit UD=>
    simp only [yf] at h⊢
    split at h
    ·rename_i hi;rw [Ab hi];exact ⟨h,hs.2⟩
    ·rename_i hi;rw [Ag hi];exact ⟨h,hs.2⟩
 |loop Q1 _ _ h3 UE FU=>
  intro s0 p hk hp
  refine .loop _ (UE s0 p (hk.trans ((ld _ _).mono λt ht=>by simpa using oX (hp t ht).2)) λt ht=>⟨λhm=>(hp t ht).1 (by simpa [writes] using hm),lN (hp t ht).2⟩)
   (λs hs=>FU s hs.1 s0 p hs.2 hp) λe s he hs=>⟨h3 e s he hs.1,hs.2⟩
end Go.Proofs.YtfolipnappekaaaGreat
