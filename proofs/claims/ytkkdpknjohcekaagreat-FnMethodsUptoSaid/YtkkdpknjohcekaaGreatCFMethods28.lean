/-
  Part 29 of the proof that the statement FnMethods holds.
-/
import Derived.Test.YtkkdpknjohcekaaGreatCFMethods27
namespace Go.Proofs.YtkkdpknjohcekaaGreat
open Go.RowKit
def Cp (st st':St):Prop:= ∀(t:Nat) (fr:Bool) (τ:Ty) (x:τ.den),st.get t= .at (.data fr τ x)->st'.get t= .at (.data fr τ x)
theorem Cp.rfl' {st:St} :Cp st st:= λ_ _ _ _ h=>h
theorem Cp.trans {a b c:St} (h1:Cp a b) (h2:Cp b c):Cp a c:= λt fr τ x h=>h2 t fr τ x (h1 t fr τ x h)
theorem Cp.Zv {a b:St} (h:b.tmps=a.tmps):Cp a b:= λt fr τ x hx=>by
 simp only [St.get] at hx⊢
 rw [h]
 exact hx
theorem c8 (st:St) {t d:Nat} (v:AV) (h:t≠d):(st.put (some d) v).get t=st.get t:=by
 simp only [St.put,St.get]
 rw [Rp]
 rw [Ai (by rintro ⟨rfl,_⟩;exact h rfl)]
theorem Qe (st:St) (f:AC->AC) (hu:f .undef= .undef) (hd: ∀fr (τ:Ty) (x:τ.den),f (.data fr τ x)= .data fr τ x):Cp st (st.Lx f):=by
 intro t fr τ x h
 simp only [St.Lx,St.get]
 rw [Vs f hu,show st.tmps.getD t .undef=_ from h]
 simp only [AV.map,hd]
theorem o6 (st:St) (l:Nat):Cp st (st.forget l):=
 (Qe st (Cs l) rfl λ_ _ _=>rfl).trans (Cp.Zv rfl)
theorem bg (st:St) (l:Nat) (fr:Bool) (e:Ty) (xs:List e.den):Cp st (st.freeze l fr e xs):=
 (Qe st (Da l fr e xs) rfl λ_ _ _=>rfl).trans (Cp.Zv rfl)
theorem gR (st:St) (l:Nat) (v:Ty) (m:ByteArray->Option v.den):Cp st (st.Jp l v m):=
 (Qe st (Hx l v m) rfl λ_ _ _=>rfl).trans (Cp.Zv rfl)
theorem Mf (st:St) (l:Nat) (b:OB):Cp st (st.new l b):=(o6 st l).trans (Cp.Zv rfl)
theorem Nm (st:St) (l:Nat) (b:OB):Cp st (st.Kx l b):=Cp.Zv rfl
theorem eE (b:OB) (key l i:Nat) (st:St):Cp st (Vh b key l i st):=by
 unfold Vh
 split
 ·split
  ·dsimp only
   split
   ·exact (Mf _ _ _).trans (Nm _ _ _)
   ·exact Mf _ _ _
  ·exact Cp.rfl'
 ·exact Cp.rfl'
theorem lx (T:Tab) (l:Nat) (t:TypeId) (τ:Ty): ∀(n i:Nat) (st:St),Cp st (fT T l t τ n i st)
 |0,_,_=>Cp.rfl'
 |n+1,i,st=>by
  simp only [fT]
  refine Cp.trans ?_ (lx T l t τ n (i+1) _)
  split
  ·exact eE _ _ _ _ _
  ·exact Cp.rfl'
theorem jm (T:Tab) (l off:Nat) (t:TypeId) (τ:Ty): ∀(n i:Nat) (st:St),Cp st (eK T l off t τ n i st)
 |0,_,_=>Cp.rfl'
 |n+1,i,st=>by
  simp only [eK]
  refine Cp.trans ?_ (jm T l off t τ n (i+1) _)
  split
  ·exact eE _ _ _ _ _
  ·exact Cp.rfl'
theorem Sb: ∀(n:Nat) (st:St) (cs iX:List AC) (st':St),Ir n st cs=some (iX,st')->Cp st st'
 |0,st,cs,iX,st',h=>by
  simp only [Ir] at h
  split at h
  ·injection h with h;injection h with h1 h2;subst h2;exact Cp.rfl'
  ·cases h
 |n+1,st,cs,iX,st',h=>by
  simp only [Ir] at h
  split at h
  ·injection h with h;injection h with h1 h2;subst h2;exact Cp.rfl'
  ·split at h
   ·exact (bg _ _ _ _ _).trans (Sb n _ _ _ _ h)
   ·exact (bg _ _ _ _ _).trans (Sb n _ _ _ _ h)
   ·cases h
  ·split at h
   ·exact (gR _ _ _ _).trans (Sb n _ _ _ _ h)
   ·cases h
  ·cases h
theorem Tg {st st':St} {v v':AV} (h:settle st v=some (v',st')):Cp st st':=by
 unfold settle at h
 split at h
 ·split at h
  ·injection h with h;injection h with h1 h2;subst h2;exact bg _ _ _ _ _
  ·injection h with h;injection h with h1 h2;subst h2;exact bg _ _ _ _ _
  ·cases h
 ·split at h
  ·injection h with h;injection h with h1 h2;subst h2;exact gR _ _ _ _
  ·cases h
 ·split at h
  ·injection h with h;injection h with h1 h2;subst h2;exact Cp.rfl'
  ·cases h
 ·rename_i cs
  cases hs:Ir cs.length st cs with
  |none=>rw [hs] at h;cases h
  |some p=>rw [hs] at h;injection h with h;injection h with h1 h2;subst h2;exact Sb _ _ _ _ _ hs
 ·injection h with h;injection h with h1 h2;subst h2;exact Cp.rfl'
 ·cases h
theorem zW {st st':St} {l:Nat} {t:TypeId} {cs:List AC} {v:AV} (h:uk st l t cs=some (v,st')):Cp st st':=by
 unfold uk at h
 split at h
 ·cases h
 ·injection h with h;injection h with h1 h2;subst h2;exact Mf _ _ _
theorem qT {T:Tab} {st st':St} {l:Nat} {t:TypeId} {τ:Ty} {cs:List AC} {v:AV} (h:mkVar T st l t τ cs=some (v,st')):Cp st st':=by
 unfold mkVar at h
 split at h
 ·cases h
 dsimp only at h
 split at h
 ·injection h with h;injection h with h1 h2;subst h2;exact (Mf _ _ _).trans (lx _ _ _ _ _ _ _)
 ·cases h
theorem GJ {T:Tab} {st st':St} {t:TypeId} {p v:AV} (h:Vq T st t p v=some st'):Cp st st':=by
 unfold Vq at h
 split at h
 ·split at h
  ·split at h
   ·injection h with h
    split at h
    ·subst h;exact (Nm _ _ _).trans (jm _ _ _ _ _ _ _ _)
    ·subst h;exact Nm _ _ _
   ·cases h
  ·cases h
 ·split at h
  ·rename_i hs
   split at h
   ·split at h
    ·split at h
     ·injection h with h;subst h;exact (Tg hs).trans (Nm _ _ _)
     ·cases h
    ·cases h
   ·cases h
  ·cases h
 ·cases h
theorem u5 (st:St) (l j m:Nat) (e:Ty) (te:TypeId) (rows:List (List e.den)) (xs:List e.den) (kp:Option (Nat×Nat)):Cp st (Uj st l j m e te rows xs kp):=
 ((Qe st (Cu [m] [l]) (by simp [Cu,AC.refs]) λfr τ x=>by simp [Cu,AC.refs]).trans (Cp.Zv rfl)).trans (Nm (st.cV [m] [l]) _ _)
theorem u6 (st:St) (l i m:Nat) (e:Ty) (te tid:TypeId) (rows:List (List e.den)) (kp:Option (Nat×Nat)):Cp st (Qw st l i m e te tid rows kp):=
 (Nm st l _).trans (Mf _ m _)
theorem zY {T:Tab} {st st':St} {t:TypeId} {p v:AV} (h:Qh T st t p v=some st'):Cp st st':=by
 unfold Qh at h
 split at h
 rotate_left
 ·exact GJ h
 unfold c6 at h
 split at h
 ·split at h
  ·rename_i hs
   split at h
   ·split at h
    ·injection h with h;subst h;exact (Tg hs).trans (Nm _ _ _)
    ·cases h
   ·cases h
  ·cases h
 ·split at h
  ·split at h
   ·split at h
    ·injection h with h;subst h
     exact u5 _ _ _ _ _ _ _ _ _
    ·cases h
   ·cases h
  ·cases h
 ·cases h
theorem fF {T:Tab} {st st':St} {d:Nat} {t:TypeId} {x y:Operand} {v:AV} (h:Pc T st d t x y=some (v,st')):Cp st st':=by
 unfold Pc at h
 split at h
 ·cases h
 ·split at h
  ·rename_i hs
   split at h
   ·cases h
   ·split at h
    ·split at h
     ·injection h with h;injection h with h1 h2;subst h2;exact ((Tg hs).trans (Mf _ _ _)).trans (Mf _ _ _)
     ·cases h
    ·split at h
     ·split at h
      ·split at h
       ·injection h with h;injection h with h1 h2;subst h2;exact (Tg hs).trans (Mf _ _ _)
       ·cases h
      ·cases h
     ·cases h
    ·cases h
  ·cases h
theorem wm {T:Tab} {st st':St} {d:Nat} {t:TypeId} {x y:Operand} {v:AV} (h:So T st d t x y=some (v,st')):Cp st st':=by
 unfold So at h
 split at h
 ·rename_i tx
  split at h
  ·rename_i l i c hg
   split at h
   ·split at h
    ·rename_i e te rows kp tid hl ht hc
     refine Cp.trans (b:=(Qw st l i d e te tid rows kp).put (some tx) (.at (.own d 0 (rows.getD i []).length))) ?_ (fF h)
     intro t' fr τ z hz
     by_cases e':t'=tx
     ·subst e';rw [hg] at hz;cases hz
     ·rw [c8 _ _ e'];exact u6 st l i d e te tid rows kp t' fr τ z hz
    ·cases h
   ·cases h
  ·exact fF h
 ·exact fF h
theorem MT {T:Tab} {st st':St} {d:Nat} {t:TypeId} {l c v:AV} (h:bY T st d t l c=some (v,st')):Cp st st':=by
 unfold bY at h
 split at h
 ·split at h
  ·split at h
   ·injection h with h;injection h with h1 h2;subst h2;exact Mf _ _ _
   ·cases h
  ·cases h
 ·cases h
theorem qU (e:Ty): ∀(l:List (Nat×Operand)) (i:Nat) (st st':St) (fr tr:Bool) (ys:List e.den),Mh e i l st=some (fr,tr,ys,st')->Cp st st'
 | [],_,_,_,_,_,_,h=>by
  simp only [Mh] at h
  injection h with h;injection h with h1 h2;injection h2 with h2 h3;injection h3 with h3 h4;subst h4;exact Cp.rfl'
 |(j,x)::r,i,st,st',fr,tr,ys,h=>by
  simp only [Mh] at h
  split at h
  ·split at h
   ·rename_i hs
    split at h
    ·split at h
     ·rename_i hp
      injection h with h;injection h with h1 h2;injection h2 with h2 h3;injection h3 with h3 h4;subst h4
      exact (Tg hs).trans (qU e r _ _ _ _ _ _ hp)
     ·cases h
    ·cases h
   ·cases h
  ·cases h
theorem pK {T:Tab} {st st':St} {d:Nat} {t:TypeId} {n:Nat} {parts:Array (Nat×Operand)} {v:AV} (h:Nj T st d t n parts=some (v,st')):Cp st st':=by
 unfold Nj at h
 split at h
 ·cases h
 ·split at h
  ·cases h
  ·split at h
   ·split at h
    ·rename_i hp
     injection h with h;injection h with h1 h2;subst h2;exact (qU _ _ _ _ _ _ _ _ hp).trans (Mf _ _ _)
    ·cases h
   ·cases h
theorem wq {T:Tab} {st st':St} {d:Nat} {t:TypeId} {v:AV} (h:Vp T st d t=some (v,st')):Cp st st':=by
 unfold Vp at h
 split at h
 ·split at h
  ·injection h with h;injection h with h1 h2;subst h2;exact Mf _ _ _
  ·cases h
 ·cases h
theorem o7 {T:Tab} {st st':St} {t:TypeId} {m k x:AV} (h:Ka T st t m k x=some st'):Cp st st':=by
 unfold Ka at h
 split at h
 ·split at h
  ·split at h
   ·injection h with h;subst h;exact Nm _ _ _
   ·cases h
  ·cases h
 ·cases h
theorem MS {T:Tab} {st st':St} {t t':TypeId} {x y v:AV} (h:j5 T st t t' x y=some (v,st')):Cp st st':=by
 unfold j5 at h
 split at h
 ·split at h
  ·split at h
   ·split at h
    ·injection h with h;injection h with h1 h2;subst h2;exact Nm _ _ _
    ·cases h
   ·cases h
  ·cases h
 ·cases h
theorem GH {T:Tab} {st st':St} {t:TypeId} {x:AV} (h:evalClear T st t x=some st'):Cp st st':=by
 unfold evalClear at h
 split at h
 ·split at h
  ·split at h
   ·split at h
    ·injection h with h;subst h;exact Nm _ _ _
    ·cases h
   ·cases h
  ·cases h
 ·cases h
theorem yw {st st':St} {c:CK} {ys:c.den} {a:AC} (h:cM st c ys a=some st'):st'.tmps=st.tmps:=by
 unfold cM at h
 repeat' split at h
 all_goals first|(cases h;done)|(simp only [Aa] at h;subst h;rfl)|skip
theorem WC {st st':St} {e:Ty} {ys:List e.den} {a:AC} (h:OD st e ys a=some st'):st'.tmps=st.tmps:=by
 unfold OD at h
 repeat' split at h
 all_goals first|(cases h;done)|(simp only [Aa] at h;subst h;rfl)|skip
theorem Vi: ∀(cs:List (Bool×CK)) (o:IOs.den cs) (as:List AC) (st st':St),Iz cs o as st=some st'->st'.tmps=st.tmps
 | [],_,_,st,st',h=>by simp only [Iz,Aa] at h;subst h;rfl
 |(true, .Hw _)::r,o,[],st,st',h=>by simp [Iz] at h
 |(true, .row _ _)::r,o,[],st,st',h=>by simp [Iz] at h
 |(true, .Iu _ _)::r,o,[],st,st',h=>by simp [Iz] at h
 |(true, .part _ _)::r,o,[],st,st',h=>by simp [Iz] at h
 |(true, .Bu _ _ _)::r,o,[],st,st',h=>by simp [Iz] at h
 |(true, .Bu _ _ _)::r,o,a::as,st,st',h=>Vi r o as st st' (by simpa only [Iz] using h)
 |(false,_)::r,o,[],st,st',h=>by simp [Iz] at h
 |(true, .Hw _)::r,o,a::as,st,st',h=>Vi r o as st st' (by simpa only [Iz] using h)
 |(false,_)::r,o,a::as,st,st',h=>Vi r o as st st' (by simpa only [Iz] using h)
 |(true, .row _ _)::r,o,a::as,st,st',h=>by
  simp only [Iz] at h
  split at h
  ·rename_i hc;exact (Vi r o.2 as _ st' h).trans (yw hc)
  ·cases h
 |(true, .part _ _)::r,o,a::as,st,st',h=>by
  simp only [Iz] at h
  split at h
  ·rename_i hc;exact (Vi r o.2 as _ st' h).trans (WC hc)
  ·cases h
 |(true, .Iu _ _)::r,o,a::as,st,st',h=>by
  simp only [Iz] at h
  split at h
  ·rename_i hc;exact (Vi r o.2 as _ st' h).trans (yw hc)
  ·cases h
theorem zV (cI st:St) (ls:List Nat) (n:Nat) (hl:cI.tmps.length=st.tmps.length) (h:Cp cI st):Cp cI (mr cI st ls n):=by
 unfold mr
 split
 ·exact h
 ·intro t fr τ x hx
  show (Mt _ cI.tmps st.tmps).getD t .undef=_
  rcases gp ls cI.tmps st.tmps t hl with ⟨k,i,c,h1,_⟩|h1
  ·rw [show cI.tmps.getD t .undef=_ from hx] at h1;cases h1
  ·rw [h1];exact h t fr τ x hx
theorem GG {st st':St} {d:Option Nat} {s:MSpec} {args:List AV} {v:AV} (h:Yl st d s args=some (v,st')):Cp st st':=by
 unfold Yl at h
 split at h
 ·cases h
 split at h
 ·cases h
 split at h
 ·cases h
 split at h
 ·split at h
  ·cases h
  split at h
  ·cases h
  rename_i st1 hp
  split at h
  ·cases h
  split at h
  ·simp only [Aa,Af] at h
   obtain ⟨_,rfl⟩:=h
   have hpt:=Vi _ _ _ _ _ hp
   refine zV _ _ _ _ ?_ ?_
   ·simp only [lX,qf]
    rw [<-hpt]
    simp only [St.cV,St.Lx,Dk]
   ·refine Cp.trans (Cp.Zv hpt) ?_
    refine Cp.trans (Qe st1 (Cu _ _) (by simp [Cu,AC.refs]) λfr τ x=>by simp [Cu,AC.refs]) (Cp.Zv qf)
  ·cases h
 ·cases h
theorem dG (st:St) (k m:Nat) (b:OB):Cp st (Ry st k m b):=
 (Qe st (Cu [m,k] []) (by simp [Cu,AC.refs]) λfr τ x=>by simp [Cu,AC.refs]).trans (Cp.Zv rfl)
theorem GI {T:Tab} {st st':St} {d:Nat} {t:TypeId} {l c v:AV} (h:Yn T st d t l c=some (v,st')):Cp st st':=by
 unfold Yn at h
 split at h
 ·exact MT h
 ·split at h
  ·split at h
   ·injection h with h;injection h with h1 h2;subst h2;exact dG _ _ _ _
   ·cases h
  ·cases h
theorem o5 {T:Tab} {st st':St} {d:Nat} {t:TypeId} {n:Nat} {parts:Array (Nat×Operand)} {v:AV} (h:Jx T st d t n parts=some (v,st')):Cp st st':=by
 unfold Jx at h
 split at h
 ·exact pK h
 ·repeat' split at h
  all_goals first|(cases h;done)|(injection h with h;injection h with h1 h2;subst h2;exact dG _ _ _ _)
theorem wo {T:Tab} {st st':St} {d:Nat} {t:TypeId} {x y:Operand} {v:AV} (h:Sp T st d t x y=some (v,st')):Cp st st':=by
 unfold Sp at h
 split at h
 ·exact wm h
 ·repeat' split at h
  all_goals first|(cases h;done)|(injection h with h;injection h with h1 h2;subst h2;exact dG _ _ _ _)
theorem eD {st st':St} {v:AV} {o:Option AV} (h:o.map (λv=>(v,st))=some (v,st')):Cp st st':=by
 cases o with
 |none=>cases h
 |some u=>injection h with h;injection h with h1 h2;subst h2;exact Cp.rfl'
theorem Uv: ∀(l:List Operand) {st st1:St},Oi l st=some st1->Cp st st1
 | [],st,st1,h=>by
  simp only [Oi,Aa] at h
  subst h
  exact Cp.rfl'
 |x::r,st,st1,h=>by
  simp only [Oi] at h
  cases hs:settle st (st.ev x) with
  |none=>rw [hs] at h;cases h
  |some p=>
   rw [hs] at h
   exact (Tg (v':=p.1) (st':=p.2) hs).trans (Uv r h)
theorem wu {T:Tab} {st:St} (p x:Operand):Cp st (Pp T st p x):=by
 unfold Pp
 split
 ·split
  ·split
   ·rename_i hs;exact Uv _ hs
   ·exact Cp.rfl'
  ·exact Cp.rfl'
 ·exact Cp.rfl'
theorem nK {T:Tab} {Γ:Env} {st st':St} {o:Oper} {v:AV} (h:evalOp T Γ st o=some (v,st')):Cp st st':=by
 unfold evalOp at h
 split at h
 ·split at h
  ·split at h
   ·injection h with h;injection h with h1 h2;subst h2;exact Mf _ _ _
   ·cases h
  ·injection h with h;injection h with h1 h2;subst h2;exact Cp.rfl'
 ·split at h
  ·split at h
   ·exact zW h
   ·exact qT h
  ·cases h
 ·split at h
  ·split at h
   ·split at h
    ·split at h
     ·obtain ⟨p,_,hp⟩:=Option.map_eq_some_iff.1 h
      cases hp
      exact Cp.rfl'
     ·cases h
    ·exact qT h
   ·cases h
  ·cases h
 ·rename_i t p x _
  cases hs:Qh T (Pp T st p x) t ((Pp T st p x).ev p) ((Pp T st p x).ev x) with
  |none=>rw [hs] at h;cases h
  |some s=>rw [hs] at h;injection h with h;injection h with h1 h2;subst h2;exact (wu p x).trans (zY hs)
 ·split at h
  ·exact GI h
  ·cases h
 ·split at h
  ·exact wq h
  ·cases h
 ·rename_i t m k x _
  cases hs:Ka T st t (st.ev m) (st.ev k) (st.ev x) with
  |none=>rw [hs] at h;cases h
  |some s=>rw [hs] at h;injection h with h;injection h with h1 h2;subst h2;exact o7 hs
 ·rename_i t m k x _
  cases hs:Ka T st t (st.ev m) (st.ev k) (st.ev x) with
  |none=>rw [hs] at h;cases h
  |some s=>rw [hs] at h;injection h with h;injection h with h1 h2;subst h2;exact o7 hs
 ·split at h
  ·exact o5 h
  ·cases h
 ·exact eD h
 ·split at h
  ·split at h
   ·exact wo h
   ·cases h
  ·cases h
 ·split at h
  ·exact MS h
  ·cases h
 ·split at h
  ·rename_i x t _ _
   cases hs:evalClear T st t (st.ev x) with
   |none=>rw [hs] at h;cases h
   |some s=>rw [hs] at h;injection h with h;injection h with h1 h2;subst h2;exact GH hs
  ·cases h
 ·split at h
  ·exact GG h
  ·split at h
   ·rename_i args _ _ _ _ _ _
    cases hs:Oi args.toList st with
    |none=>rw [hs] at h;cases h
    |some st1=>
     rw [hs] at h
     exact (Uv _ hs).trans (eD h)
   ·exact eD h
  ·exact eD h
 ·exact eD h
def Ln:List Oper->List Nat
 | []=> []
 |o::r=>(match o.dst with|some d=> [d]|none=> [])++Ln r
def writes:Code->List Nat
 | .region _ ops _=>Ln ops.toList
 | .seq a b=>writes a++writes b
 | .cond _ a b=>writes a++writes b
 | .block _ c=>writes c
 | .loop c=>writes c
 |_=> []
def Gs (P:Nat->Prop) (st st':St):Prop:= ∀(t:Nat) (fr:Bool) (τ:Ty) (x:τ.den),P t->st.get t= .at (.data fr τ x)->st'.get t= .at (.data fr τ x)
theorem Gs.trans {P:Nat->Prop} {a b c:St} (h1:Gs P a b) (h2:Gs P b c):Gs P a c:= λt fr τ x hp h=>h2 t fr τ x hp (h1 t fr τ x hp h)
theorem Gs.mono {P Q:Nat->Prop} {a b:St} (h1:Gs P a b) (h: ∀t,Q t->P t):Gs Q a b:= λt fr τ x hp hx=>h1 t fr τ x (h t hp) hx
theorem Cp.on {P:Nat->Prop} {a b:St} (h:Cp a b):Gs P a b:= λt fr τ x _ hx=>h t fr τ x hx
theorem cY (st:St) (dst:Option Tmp) (v:AV):Gs (λt=>dst≠some t) st (st.put dst v):=by
 intro t fr τ x hp hx
 cases dst with
 |none=>exact hx
 |some d=>rw [c8 st v (λh=>hp (by rw [h]))];exact hx
theorem bZ {T:Tab} {Γ:Env} {ops:Array Oper} {st st':St} {o:Oper} (h:Fz T Γ ops st o=some st'):Gs (λt=>o.dst≠some t) st st':=by
 have key: ∀s,(evalOp T Γ st o).map (λr=>r.2.put o.dst r.1)=some s->Gs (λt=>o.dst≠some t) st s:=by
  intro s hs
  cases he:evalOp T Γ st o with
  |none=>rw [he] at hs;cases hs
  |some p=>rw [he] at hs;injection hs with hs;subst hs;exact (nK (v:=p.1) (st':=p.2) he).on.trans (cY _ _ _)
 unfold Fz at h
 split at h
 ·exact key _ h
 ·split at h
  ·split at h
   ·exact key _ h
   ·injection h with h;subst h;exact cY _ _ _
  ·injection h with h;subst h;exact cY _ _ _
  ·cases h
theorem lf {T:Tab} {Γ:Env} {ops:Array Oper} : ∀(l:List Oper) (st st':St),aZ T Γ ops l st=some st'->Gs (λt=>t∉Ln l) st st'
 | [],st,st',h=>by injection h with h;subst h;exact Cp.rfl'.on
 |o::r,st,st',h=>by
  simp only [aZ] at h
  split at h
  ·rename_i s hs
   refine Gs.trans ((bZ hs).mono λt ht=>?_) ((lf r _ _ h).mono λt ht=>?_)
   ·intro hd;apply ht;simp [Ln,hd]
   ·intro hd;apply ht;simp [Ln,hd]
  ·cases h
theorem Zu: ∀(l:List Oper) (o:Oper) (d:Nat),o∈l->o.dst=some d->d∈Ln l
 | [],_,_,h,_=>by cases h
 |p::r,o,d,h,hd=>by
  cases h with
  |head=>simp [Ln,hd]
  |tail _ h=>simp only [Ln,Ba];exact .inr (Zu r o d h hd)
theorem pV {ops:Array Oper} {i:Nat} {o:Oper} (h:ops[i]?=some o):o∈ops.toList:=by
 rw [Oa] at h
 obtain ⟨h1,h2⟩:=h
 rw [<-h2]
 simp
theorem Zp {T:Tab} {Γ:Env} {ops:Array Oper} : ∀(l:List Nat) (st st':St),Nu T Γ ops l st=some st'->Gs (λt=>t∉Ln ops.toList) st st'
 | [],st,st',h=>by injection h with h;subst h;exact Cp.rfl'.on
 |i::r,st,st',h=>by
  simp only [Nu] at h
  split at h
  ·cases h
  ·rename_i o ho
   split at h
   ·rename_i s hs
    exact ((bZ hs).mono λt ht hd=>ht (Zu _ _ _ (pV ho) hd)).trans (Zp r _ _ h)
   ·cases h
theorem Sq {T:Tab} {Γ:Env} {ops:Array Oper} : ∀(l:List Nat) (st st':St),Hb T Γ ops l st=some st'->Gs (λt=>t∉Ln ops.toList) st st'
 | [],st,st',h=>by injection h with h;subst h;exact Cp.rfl'.on
 |i::r,st,st',h=>by
  simp only [Hb] at h
  split at h
  ·cases h
  ·rename_i o ho
   split at h
   ·exact ((cY _ _ _).mono λt ht hd=>ht (Zu _ _ _ (pV ho) hd)).trans (Sq r _ _ h)
   ·cases h
theorem Uu: ∀(l:List Nat) (st:St),Cp st (bu l st)
 | [],_=>Cp.rfl'
 |a::r,st=>(o6 st a).trans (Uu r _)
theorem Wq (live:List Nat): ∀(i:Nat) (l:List AV) (t:Nat),i+t∈live->(Jf live i l).getD t .undef=l.getD t .undef
 |_,[],_,_=>rfl
 |i,v::r,0,h=>by simp [Jf];intro hn;exact absurd h hn
 |i,v::r,t+1,h=>by
  simp only [Jf,Ok]
  exact Wq live (i+1) r t (by rw [show i+1+t=i+(t+1) by omega];exact h)
theorem zX (l k:Nat) (st:St):Cp st (st.rename l k):=by
 unfold St.rename
 split
 ·split
  ·exact (Qe st (Wb l k) rfl λ_ _ _=>rfl).trans (Cp.Zv rfl)
  ·exact Cp.rfl'
 ·exact Cp.rfl'
theorem eF: ∀(n t:Nat) (st:St),Cp st (Nq n t st)
 |0,_,_=>Cp.rfl'
 |n+1,t,st=>by
  simp only [Nq]
  refine Cp.trans ?_ (eF n (t+1) _)
  split
  ·split
   ·split
    ·exact Cp.rfl'
    ·exact zX _ _ _
   ·exact Cp.rfl'
  ·exact Cp.rfl'
theorem u7 (t:Nat) (st:St):Cp st (cq t st):=by
 unfold cq
 split
 ·rename_i l off len hg
  split
  ·split
   ·intro k fr τ x hk
    have Jd:k≠t:= λe=>by subst e;rw [hg] at hk;cases hk
    rw [c8 _ _ Jd]
    exact Mf _ _ _ k fr τ x hk
   ·exact Cp.rfl'
  ·exact Cp.rfl'
 ·exact Cp.rfl'
theorem mu (c:Nat) (st:St):Cp st (Qp c st):=by
 unfold Qp
 split
 ·split
  ·split
   ·split
    ·split
     ·exact (Mf _ _ _).trans (Nm _ _ _)
     ·exact Cp.rfl'
    ·exact Cp.rfl'
   ·exact Cp.rfl'
  ·exact Cp.rfl'
 ·exact Cp.rfl'
theorem cZ (live:List Nat): ∀(n c:Nat) (st:St),Cp st (Qg live n c st)
 |0,_,_=>Cp.rfl'
 |n+1,c,st=>by
  simp only [Qg]
  refine Cp.trans ?_ (cZ live n (c+1) _)
  split
  ·exact mu _ _
  ·exact Cp.rfl'
theorem gS (live:List Nat): ∀(n t:Nat) (st:St),Cp st (Px live n t st)
 |0,_,st=>cZ live 16 0 st
 |n+1,t,st=>by
  simp only [Px]
  refine Cp.trans ?_ (gS live n (t+1) _)
  split
  ·exact u7 _ _
  ·exact Cp.rfl'
theorem lu (live:List Nat) (st:St):Gs (λt=>t∈live) st (st.clean live):=by
 intro t fr τ x hp hx
 unfold St.clean
 have key: ∀s:St,s.get t= .at (.data fr τ x)->(if live.contains di then Nq s.tmps.length 0 s else s).get t= .at (.data fr τ x):=by
  intro s hs
  split
  ·exact eF _ _ s t fr τ x hs
  ·exact hs
 have Aaz: ∀s:St,s.get t= .at (.data fr τ x)->(if live.any (λt=>Nat.ble Ur t) then s.Jv live else s).get t= .at (.data fr τ x):=by
  intro s hs
  split<;>exact hs
 have Ab0: ∀s:St,s.get t= .at (.data fr τ x)->(if live.any (λt=>Nat.ble Np t&&Nat.blt t di) then Px live s.tmps.length 0 s else s).get t= .at (.data fr τ x):=by
  intro s hs
  split
  ·exact gS _ _ _ s t fr τ x hs
  ·exact hs
 refine Aaz _ (key _ (Ab0 _ (Uu _ _ t fr τ x ?_)))
 simp only [St.get] at hx⊢
 rw [Wq live 0 st.tmps t (by simpa using hp)]
 exact hx
def cf (live:Nat->List Nat):Code->Nat->Bool
 | .seq a b,t=>cf live a t&&cf live b t
 | .cond _ a b,t=>cf live a t&&cf live b t
 | .block _ c,t=>cf live c t
 | .loop c,t=>(live (Ga c)).contains t&&cf live c t
 |_,_=>true
theorem po {a b:Bool} (h:(a&&b)=true):a=true:=by cases a<;>simp_all
theorem lY {a b:Bool} (h:(a&&b)=true):b=true:=by cases a<;>simp_all
theorem px {T:Tab} {Γ:Env} {ops:Array Oper} {draw:Bool} {st st':St} (h:Sr T Γ ops draw st=some st'):Gs (λt=>t∉writes (.region 0 ops draw)) st st':=by
 unfold Sr at h
 have go: ∀q,(match Hb T Γ ops (kx q Γ ops) st with
   |some s=>Nu T Γ ops (Kk q Γ ops) s
   |none=>none)=some st'->Gs (λt=>t∉writes (.region 0 ops draw)) st st':=by
  intro q h
  split at h
  ·rename_i s hs
   exact (Sq _ _ _ hs).trans (Zp _ _ _ h)
  ·cases h
 split at h
 ·split at h
  ·exact go false h
  ·split at h
   ·exact go true h
   ·cases h
 ·exact lf _ _ _ h
theorem sL {T:Tab} {Γ:Env} {ops:Array Oper} {draw:Bool} {K:St->Prop} (s0:St): ∀(f:Nat) (Ag:Array Bool) (st:St),Gs (λt=>t∉writes (.region 0 ops draw)) s0 st->anyS T Γ ops K f Ag st->anyS T Γ ops (λs=>K s/\Gs (λt=>t∉writes (.region 0 ops draw)) s0 s) f Ag st
 |0,_,_,hk,h=>⟨h.1,h.2,hk⟩
 |f+1,Ag,st,hk,h=>⟨h.1,λi hi=>by
  obtain ⟨o,st',h1,h2,h3⟩:=h.2 i hi
  have h4:Nu T Γ ops [i] st=some st':=by simp only [Nu,h1,h2]
  exact ⟨o,st',h1,h2,sL s0 f _ _ (hk.trans (Zp _ _ _ h4)) h3⟩⟩
theorem lZ {T:Tab} {Γ:Env} {ops:Array Oper} {draw:Bool} {E:List Nat} {K:St->Prop} (s0:St): ∀(f:Nat) (Ag:Array Bool) (st:St),Gs (λt=>t∉writes (.region 0 ops draw)) s0 st->rK T Γ ops E K f Ag st->rK T Γ ops E (λs=>K s/\Gs (λt=>t∉writes (.region 0 ops draw)) s0 s) f Ag st
 |0,_,_,hk,h=>⟨h.1,h.2.1,h.2.2,hk⟩
 |f+1,Ag,st,hk,h=>⟨h.1,h.2.1,λi hi=>by
  obtain ⟨o,st',h1,h2,h3⟩:=h.2.2 i hi
  have h4:Nu T Γ ops [i] st=some st':=by simp only [Nu,h1,h2]
  exact ⟨o,st',h1,h2,lZ s0 f _ _ (hk.trans (Zp _ _ _ h4)) h3⟩⟩
theorem jn {ops:Array Oper} {dead:List Nat} (hd:dead.all (Zj ops)=true) (st:St):Gs (λt=>t∉Ln ops.toList) st (st.Re dead):=by
 intro t fr τ x ht hx
 unfold St.Re
 refine Uu _ _ t fr τ x ?_
 show (Jf _ 0 st.tmps).getD t .undef=_
 rw [Wq _ 0 st.tmps t ?_]
 ·exact hx
 ·refine Cf.2 ⟨Ff.2 ?_,?_⟩
  ·refine Bp λhn=>?_
   have:st.get t= .undef:=by
    unfold St.get
    rw [Ak,Ei (by omega)];rfl
   rw [hx] at this
   cases this
  ·cases hc:dead.contains (0+t) with
   |false=>rfl
   |true=>
    have hm:0+t∈dead:=by simpa using hc
    have h1:=Bc.1 hd _ hm
    obtain ⟨o,ho,h2⟩:=Eh.1 h1
    rw [Bt] at h2
    exact absurd (Zu _ o t ho (by simpa using h2)) ht
theorem kZ.keeps {T:Tab} {Γ:Env} {ops:Array Oper} {draw:Bool} {st:St} {K:St->Prop} (h:kZ T Γ ops draw st K):kZ T Γ ops draw st (λs=>K s/\Gs (λt=>t∉writes (.region 0 ops draw)) st s):=by
 rcases h with ⟨st',h1,h2⟩|⟨h1,h2,cI,h3,h4|⟨E,st1,h4,h5,h6,h7⟩⟩
 ·exact .inl ⟨st',h1,h2,px h1⟩
 ·exact .inr ⟨h1,h2,cI,h3, .inl (sL st _ _ _ (Sq _ _ _ h3) h4)⟩
 ·exact .inr ⟨h1,h2,cI,h3, .inr ⟨E,st1,h4,h5,h6,lZ st _ _ _ ((Sq _ _ _ h3).trans (Sq _ _ _ h6)) h7⟩⟩
theorem za.keeps {T:Tab} {Γ:Env} {ops:Array Oper} {draw:Bool} {st:St} {K:St->Prop} (h:za T Γ ops draw st K):za T Γ ops draw st (λs=>K s/\Gs (λt=>t∉writes (.region 0 ops draw)) st s):=by
 rcases h with h|⟨dead,hd,h⟩
 ·exact .inl h.keeps
 ·exact .inr ⟨dead,hd,h.keeps.mono λs hs=>⟨hs.1,hs.2.trans (jn hd s)⟩⟩
theorem l6 (ops:Array Oper) {fr:Bool} {τ:Ty} {x:τ.den} : ∀(i:Nat) (l:List AV) (t:Nat),l.getD t .undef= .at (.data fr τ x)->(Ps ops i l).getD t .undef= .at (.data fr τ x)
 |_,[],_,h=>h
 |i,v::r,0,h=>by
  cases v with
  |Nr l=>cases h
  |_=>exact h
 |i,v::r,t+1,h=>by
  have h':=l6 ops (i+1) r t h
  cases v<;>(simp only [Ps,Ok];exact h')
theorem lv (ops:Array Oper) (st:St):Cp st (st.nB ops):= λt _ _ _ hx=>l6 ops 0 st.tmps t hx
theorem ON {T:Tab} {Γ:Env} {live:Nat->List Nat} {c:Code} {st:St} {Q:Mn->St->Prop} (h:Pk T Γ live c st Q): ∀(s0:St) (p:Nat->Prop),Gs p s0 st->(∀t,p t->t∉writes c/\cf live c t=true)->Pk T Γ live c st (λe s=>Q e s/\Gs p s0 s):=by
 induction h with
 |skip h=>exact λs0 p hk _=> .skip ⟨h,hk⟩
 |label h=>exact λs0 p hk _=> .label ⟨h,hk⟩
 |exit h=>exact λs0 p hk _=> .exit ⟨h,hk⟩
 |ret h=>exact λs0 p hk _=> .ret ⟨h,hk⟩
 |region h=>
  exact λs0 p hk hp=> .region (h.keeps.mono λs hs=>⟨hs.1,(hk.trans (lv _ _).on).trans (hs.2.mono λt ht=>(hp t ht).1)⟩)
 |seq Q1 _ _ h3 UR GB=>
  exact λs0 p hk hp=> .seq _ (UR s0 p hk λt ht=>⟨λhm=>(hp t ht).1 (by simp [writes,hm]),po (hp t ht).2⟩)
   (λs hs=>GB s hs.1 s0 p hs.2 λt ht=>⟨λhm=>(hp t ht).1 (by simp [writes,hm]),lY (hp t ht).2⟩) λe s he hs=>⟨h3 e s he hs.1,hs.2⟩
 |cond hc _ _ UR GB=>
  exact λs0 p hk hp=> .cond hc (λht=>UR ht s0 p hk λt h=>⟨λhm=>(hp t h).1 (by simp [writes,hm]),po (hp t h).2⟩)
   fun ht=>GB ht s0 p hk λt h=>⟨λhm=>(hp t h).1 (by simp [writes,hm]),lY (hp t h).2⟩
 |block Q1 _ h2 ih=>
  exact λs0 p hk hp=> .block _ (ih s0 p hk λt ht=>⟨λhm=>(hp t ht).1 (by simpa [writes] using hm),by simpa [cf] using (hp t ht).2⟩) λe s hs=>by
   have h:=h2 e s hs.1
   cases e with
   |normal=>exact ⟨h,hs.2⟩
   |ret=>exact ⟨h,hs.2⟩
   |exit UP=>
    simp only [xR] at h⊢
    split at h
    ·rename_i hi;rw [Ab hi];exact ⟨h,hs.2⟩
    ·rename_i hi;rw [Ai hi];exact ⟨h,hs.2⟩
 |loop Q1 _ _ h3 UR GB=>
  intro s0 p hk hp
  refine .loop _ (UR s0 p (hk.trans ((lu _ _).mono λt ht=>by simpa using po (hp t ht).2)) λt ht=>⟨λhm=>(hp t ht).1 (by simpa [writes] using hm),lY (hp t ht).2⟩)
   (λs hs=>GB s hs.1 s0 p hs.2 hp) λe s he hs=>⟨h3 e s he hs.1,hs.2⟩
end Go.Proofs.YtkkdpknjohcekaaGreat
