/-
  Part 29 of the proof that the statement FnExactBestTableIndex holds.
-/
import Derived.Test.YtfolipnappekaaaGreatCBestTableIndex27
namespace Go.Proofs.YtfolipnappekaaaGreat
open Go.RowKit
def Aw (st st':St):Prop:= ∀(t:Nat) (fr:Bool) (τ:Ty) (x:τ.den),st.get t= .at (.data fr τ x)->st'.get t= .at (.data fr τ x)
theorem Aw.rfl' {st:St} :Aw st st:= λ_ _ _ _ h=>h
theorem Aw.trans {a b c:St} (h1:Aw a b) (h2:Aw b c):Aw a c:= λt fr τ x h=>h2 t fr τ x (h1 t fr τ x h)
theorem Aw.Rq {a b:St} (h:b.tmps=a.tmps):Aw a b:= λt fr τ x hx=>by
 simp only [St.get] at hx⊢
 rw [h]
 exact hx
theorem Vb (st:St) {t d:Nat} (v:AV) (h:t≠d):(st.put (some d) v).get t=st.get t:=by
 simp only [St.put,St.get]
 rw [Um]
 rw [if_neg (by rintro ⟨rfl,_⟩;exact h rfl)]
theorem Jp (st:St) (f:AC->AC) (hu:f .undef= .undef) (hd: ∀fr (τ:Ty) (x:τ.den),f (.data fr τ x)= .data fr τ x):Aw st (st.Gg f):=by
 intro t fr τ x h
 simp only [St.Gg,St.get]
 rw [Nx f hu,show st.tmps.getD t .undef=_ from h]
 simp only [AV.map,hd]
theorem iu (st:St) (l:Nat):Aw st (st.forget l):=
 (Jp st (Ay l) rfl λ_ _ _=>rfl).trans (Aw.Rq rfl)
theorem Ts (st:St) (l:Nat) (fr:Bool) (e:Ty) (xs:List e.den):Aw st (st.freeze l fr e xs):=
 (Jp st (Bc l fr e xs) rfl λ_ _ _=>rfl).trans (Aw.Rq rfl)
theorem bh (st:St) (l:Nat) (v:Ty) (m:ByteArray->Option v.den):Aw st (st.Eh l v m):=
 (Jp st (Df l v m) rfl λ_ _ _=>rfl).trans (Aw.Rq rfl)
theorem He (st:St) (l:Nat) (b:OB):Aw st (st.new l b):=(iu st l).trans (Aw.Rq rfl)
theorem Hp (st:St) (l:Nat) (b:OB):Aw st (st.Fh l b):=Aw.Rq rfl
theorem Yu (b:OB) (key l i:Nat) (st:St):Aw st (No b key l i st):=by
 unfold No
 split
 ·split
  ·dsimp only
   split
   ·exact (He _ _ _).trans (Hp _ _ _)
   ·exact He _ _ _
  ·exact Aw.rfl'
 ·exact Aw.rfl'
theorem eT (T:Tab) (l:Nat) (t:TypeId) (τ:Ty): ∀(n i:Nat) (st:St),Aw st (ay T l t τ n i st)
 |0,_,_=>Aw.rfl'
 |n+1,i,st=>by
  simp only [ay]
  refine Aw.trans ?_ (eT T l t τ n (i+1) _)
  split
  ·exact Yu _ _ _ _ _
  ·exact Aw.rfl'
theorem cw (T:Tab) (l off:Nat) (t:TypeId) (τ:Ty): ∀(n i:Nat) (st:St),Aw st (Yz T l off t τ n i st)
 |0,_,_=>Aw.rfl'
 |n+1,i,st=>by
  simp only [Yz]
  refine Aw.trans ?_ (cw T l off t τ n (i+1) _)
  split
  ·exact Yu _ _ _ _ _
  ·exact Aw.rfl'
theorem Kx: ∀(n:Nat) (st:St) (cs c7:List AC) (st':St),Dl n st cs=some (c7,st')->Aw st st'
 |0,st,cs,c7,st',h=>by
  simp only [Dl] at h
  split at h
  ·injection h with h;injection h with h1 h2;subst h2;exact Aw.rfl'
  ·cases h
 |n+1,st,cs,c7,st',h=>by
  simp only [Dl] at h
  split at h
  ·injection h with h;injection h with h1 h2;subst h2;exact Aw.rfl'
  ·split at h
   ·exact (Ts _ _ _ _ _).trans (Kx n _ _ _ _ h)
   ·exact (Ts _ _ _ _ _).trans (Kx n _ _ _ _ h)
   ·cases h
  ·split at h
   ·exact (bh _ _ _ _).trans (Kx n _ _ _ _ h)
   ·cases h
  ·cases h
theorem Lz {st st':St} {v v':AV} (h:settle st v=some (v',st')):Aw st st':=by
 unfold settle at h
 split at h
 ·split at h
  ·injection h with h;injection h with h1 h2;subst h2;exact Ts _ _ _ _ _
  ·injection h with h;injection h with h1 h2;subst h2;exact Ts _ _ _ _ _
  ·cases h
 ·split at h
  ·injection h with h;injection h with h1 h2;subst h2;exact bh _ _ _ _
  ·cases h
 ·split at h
  ·injection h with h;injection h with h1 h2;subst h2;exact Aw.rfl'
  ·cases h
 ·rename_i cs
  cases hs:Dl cs.length st cs with
  |none=>rw [hs] at h;cases h
  |some p=>rw [hs] at h;injection h with h;injection h with h1 h2;subst h2;exact Kx _ _ _ _ _ hs
 ·injection h with h;injection h with h1 h2;subst h2;exact Aw.rfl'
 ·cases h
theorem kS {T:Tab} {st st':St} {l:Nat} {t:TypeId} {τ:Ty} {cs:List AC} {v:AV} (h:mkVar T st l t τ cs=some (v,st')):Aw st st':=by
 unfold mkVar at h
 split at h
 ·cases h
 dsimp only at h
 split at h
 ·injection h with h;injection h with h1 h2;subst h2;exact (He _ _ _).trans (eT _ _ _ _ _ _ _)
 ·cases h
theorem wU {T:Tab} {st st':St} {t:TypeId} {p v:AV} (h:Nw T st t p v=some st'):Aw st st':=by
 unfold Nw at h
 split at h
 ·split at h
  ·split at h
   ·injection h with h
    split at h
    ·subst h;exact (Hp _ _ _).trans (cw _ _ _ _ _ _ _ _)
    ·subst h;exact Hp _ _ _
   ·cases h
  ·cases h
 ·split at h
  ·rename_i hs
   split at h
   ·split at h
    ·split at h
     ·injection h with h;subst h;exact (Lz hs).trans (Hp _ _ _)
     ·cases h
    ·cases h
   ·cases h
  ·cases h
 ·cases h
theorem nI (st:St) (l j m:Nat) (e:Ty) (te:TypeId) (rows:List (List e.den)) (xs:List e.den) (kp:Option (Nat×Nat)):Aw st (Mw st l j m e te rows xs kp):=
 ((Jp st (Ax [m] [l]) (by simp [Ax,AC.refs]) λfr τ x=>by simp [Ax,AC.refs]).trans (Aw.Rq rfl)).trans (Hp (st.Wk [m] [l]) _ _)
theorem nJ (st:St) (l i m:Nat) (e:Ty) (te tid:TypeId) (rows:List (List e.den)) (kp:Option (Nat×Nat)):Aw st (Kg st l i m e te tid rows kp):=
 (Hp st l _).trans (He _ m _)
theorem tE {T:Tab} {st st':St} {t:TypeId} {p v:AV} (h:Jw T st t p v=some st'):Aw st st':=by
 unfold Jw at h
 split at h
 rotate_left
 ·exact wU h
 unfold Uz at h
 split at h
 ·split at h
  ·rename_i hs
   split at h
   ·split at h
    ·injection h with h;subst h;exact (Lz hs).trans (Hp _ _ _)
    ·cases h
   ·cases h
  ·cases h
 ·split at h
  ·split at h
   ·split at h
    ·injection h with h;subst h
     exact nI _ _ _ _ _ _ _ _ _
    ·cases h
   ·cases h
  ·cases h
 ·cases h
theorem ah {T:Tab} {st st':St} {d:Nat} {t:TypeId} {x y:Operand} {v:AV} (h:Io T st d t x y=some (v,st')):Aw st st':=by
 unfold Io at h
 split at h
 ·cases h
 ·split at h
  ·rename_i hs
   split at h
   ·cases h
   ·split at h
    ·split at h
     ·injection h with h;injection h with h1 h2;subst h2;exact ((Lz hs).trans (He _ _ _)).trans (He _ _ _)
     ·cases h
    ·split at h
     ·split at h
      ·split at h
       ·injection h with h;injection h with h1 h2;subst h2;exact (Lz hs).trans (He _ _ _)
       ·cases h
      ·cases h
     ·cases h
    ·cases h
  ·cases h
theorem pP {T:Tab} {st st':St} {d:Nat} {t:TypeId} {x y:Operand} {v:AV} (h:Le T st d t x y=some (v,st')):Aw st st':=by
 unfold Le at h
 split at h
 ·rename_i tx
  split at h
  ·rename_i l i c hg
   split at h
   ·split at h
    ·rename_i e te rows kp tid hl ht hc
     refine Aw.trans (b:=(Kg st l i d e te tid rows kp).put (some tx) (.at (.own d 0 (rows.getD i []).length))) ?_ (ah h)
     intro t' fr τ z hz
     by_cases e':t'=tx
     ·subst e';rw [hg] at hz;cases hz
     ·rw [Vb _ _ e'];exact nJ st l i d e te tid rows kp t' fr τ z hz
    ·cases h
   ·cases h
  ·exact ah h
 ·exact ah h
theorem zF {T:Tab} {st st':St} {d:Nat} {t:TypeId} {l c v:AV} (h:Uw T st d t l c=some (v,st')):Aw st st':=by
 unfold Uw at h
 split at h
 ·split at h
  ·split at h
   ·injection h with h;injection h with h1 h2;subst h2;exact He _ _ _
   ·cases h
  ·cases h
 ·cases h
theorem kT (e:Ty): ∀(l:List (Nat×Operand)) (i:Nat) (st st':St) (fr tr:Bool) (ys:List e.den),Gl e i l st=some (fr,tr,ys,st')->Aw st st'
 | [],_,_,_,_,_,_,h=>by
  simp only [Gl] at h
  injection h with h;injection h with h1 h2;injection h2 with h2 h3;injection h3 with h3 h4;subst h4;exact Aw.rfl'
 |(j,x)::r,i,st,st',fr,tr,ys,h=>by
  simp only [Gl] at h
  split at h
  ·split at h
   ·rename_i hs
    split at h
    ·split at h
     ·rename_i hp
      injection h with h;injection h with h1 h2;injection h2 with h2 h3;injection h3 with h3 h4;subst h4
      exact (Lz hs).trans (kT e r _ _ _ _ _ _ hp)
     ·cases h
    ·cases h
   ·cases h
  ·cases h
theorem jH {T:Tab} {st st':St} {d:Nat} {t:TypeId} {n:Nat} {parts:Array (Nat×Operand)} {v:AV} (h:Hj T st d t n parts=some (v,st')):Aw st st':=by
 unfold Hj at h
 split at h
 ·cases h
 ·split at h
  ·cases h
  ·split at h
   ·split at h
    ·rename_i hp
     injection h with h;injection h with h1 h2;subst h2;exact (kT _ _ _ _ _ _ _ _ hp).trans (He _ _ _)
    ·cases h
   ·cases h
theorem pR {T:Tab} {st st':St} {d:Nat} {t:TypeId} {v:AV} (h:Nv T st d t=some (v,st')):Aw st st':=by
 unfold Nv at h
 split at h
 ·split at h
  ·injection h with h;injection h with h1 h2;subst h2;exact He _ _ _
  ·cases h
 ·cases h
theorem iv {T:Tab} {st st':St} {t:TypeId} {m k x:AV} (h:En T st t m k x=some st'):Aw st st':=by
 unfold En at h
 split at h
 ·split at h
  ·split at h
   ·injection h with h;subst h;exact Hp _ _ _
   ·cases h
  ·cases h
 ·cases h
theorem zE {T:Tab} {st st':St} {t t':TypeId} {x y v:AV} (h:ca T st t t' x y=some (v,st')):Aw st st':=by
 unfold ca at h
 split at h
 ·split at h
  ·split at h
   ·split at h
    ·injection h with h;injection h with h1 h2;subst h2;exact Hp _ _ _
    ·cases h
   ·cases h
  ·cases h
 ·cases h
theorem wS {T:Tab} {st st':St} {t:TypeId} {x:AV} (h:evalClear T st t x=some st'):Aw st st':=by
 unfold evalClear at h
 split at h
 ·split at h
  ·split at h
   ·split at h
    ·injection h with h;subst h;exact Hp _ _ _
    ·cases h
   ·cases h
  ·cases h
 ·cases h
theorem sa {st st':St} {c:CK} {ys:c.den} {a:AC} (h:Wa st c ys a=some st'):st'.tmps=st.tmps:=by
 unfold Wa at h
 repeat' split at h
 all_goals first|(cases h;done)|(simp only [Option.some.injEq] at h;subst h;rfl)|skip
theorem GX {st st':St} {e:Ty} {ys:List e.den} {a:AC} (h:AP st e ys a=some st'):st'.tmps=st.tmps:=by
 unfold AP at h
 repeat' split at h
 all_goals first|(cases h;done)|(simp only [Option.some.injEq] at h;subst h;rfl)|skip
theorem Np: ∀(cs:List (Bool×CK)) (o:IOs.den cs) (as:List AC) (st st':St),Dz cs o as st=some st'->st'.tmps=st.tmps
 | [],_,_,st,st',h=>by simp only [Dz,Option.some.injEq] at h;subst h;rfl
 |(true, .Ee _)::r,o,[],st,st',h=>by simp [Dz] at h
 |(true, .row _ _)::r,o,[],st,st',h=>by simp [Dz] at h
 |(true, .Dp _ _)::r,o,[],st,st',h=>by simp [Dz] at h
 |(true, .part _ _)::r,o,[],st,st',h=>by simp [Dz] at h
 |(true, .Ai _ _ _)::r,o,[],st,st',h=>by simp [Dz] at h
 |(true, .Ai _ _ _)::r,o,a::as,st,st',h=>Np r o as st st' (by simpa only [Dz] using h)
 |(false,_)::r,o,[],st,st',h=>by simp [Dz] at h
 |(true, .Ee _)::r,o,a::as,st,st',h=>Np r o as st st' (by simpa only [Dz] using h)
 |(false,_)::r,o,a::as,st,st',h=>Np r o as st st' (by simpa only [Dz] using h)
 |(true, .row _ _)::r,o,a::as,st,st',h=>by
  simp only [Dz] at h
  split at h
  ·rename_i hc;exact (Np r o.2 as _ st' h).trans (sa hc)
  ·cases h
 |(true, .part _ _)::r,o,a::as,st,st',h=>by
  simp only [Dz] at h
  split at h
  ·rename_i hc;exact (Np r o.2 as _ st' h).trans (GX hc)
  ·cases h
 |(true, .Dp _ _)::r,o,a::as,st,st',h=>by
  simp only [Dz] at h
  split at h
  ·rename_i hc;exact (Np r o.2 as _ st' h).trans (sa hc)
  ·cases h
theorem tC (br st:St) (ls:List Nat) (n:Nat) (hl:br.tmps.length=st.tmps.length) (h:Aw br st):Aw br (fV br st ls n):=by
 unfold fV
 split
 ·exact h
 ·intro t fr τ x hx
  show (Gt _ br.tmps st.tmps).getD t .undef=_
  rcases aM ls br.tmps st.tmps t hl with ⟨k,i,c,h1,_⟩|h1
  ·rw [show br.tmps.getD t .undef=_ from hx] at h1;cases h1
  ·rw [h1];exact h t fr τ x hx
theorem wR {st st':St} {d:Option Nat} {s:MSpec} {args:List AV} {v:AV} (h:Qe st d s args=some (v,st')):Aw st st':=by
 unfold Qe at h
 split at h
 ·cases h
 split at h
 ·cases h
 split at h
 ·cases h
 split at h
 ·split at h
  ·cases h
  split at h
  ·cases h
  rename_i st1 hp
  split at h
  ·cases h
  split at h
  ·simp only [Option.some.injEq,Prod.mk.injEq] at h
   obtain ⟨_,rfl⟩:=h
   have Vz:=Np _ _ _ _ _ hp
   refine tC _ _ _ _ ?_ ?_
   ·simp only [fE,kf]
    rw [<-Vz]
    simp only [St.Wk,St.Gg,List.length_map]
   ·refine Aw.trans (Aw.Rq Vz) ?_
    refine Aw.trans (Jp st1 (Ax _ _) (by simp [Ax,AC.refs]) λfr τ x=>by simp [Ax,AC.refs]) (Aw.Rq kf)
  ·cases h
 ·cases h
theorem Xp (st:St) (k m:Nat) (b:OB):Aw st (Kv st k m b):=
 (Jp st (Ax [m,k] []) (by simp [Ax,AC.refs]) λfr τ x=>by simp [Ax,AC.refs]).trans (Aw.Rq rfl)
theorem wT {T:Tab} {st st':St} {d:Nat} {t:TypeId} {l c v:AV} (h:Qg T st d t l c=some (v,st')):Aw st st':=by
 unfold Qg at h
 split at h
 ·exact zF h
 ·split at h
  ·split at h
   ·injection h with h;injection h with h1 h2;subst h2;exact Xp _ _ _ _
   ·cases h
  ·cases h
theorem ir {T:Tab} {st st':St} {d:Nat} {t:TypeId} {n:Nat} {parts:Array (Nat×Operand)} {v:AV} (h:El T st d t n parts=some (v,st')):Aw st st':=by
 unfold El at h
 split at h
 ·exact jH h
 ·repeat' split at h
  all_goals first|(cases h;done)|(injection h with h;injection h with h1 h2;subst h2;exact Xp _ _ _ _)
theorem pQ {T:Tab} {st st':St} {d:Nat} {t:TypeId} {x y:Operand} {v:AV} (h:Lf T st d t x y=some (v,st')):Aw st st':=by
 unfold Lf at h
 split at h
 ·exact pP h
 ·repeat' split at h
  all_goals first|(cases h;done)|(injection h with h;injection h with h1 h2;subst h2;exact Xp _ _ _ _)
theorem Yt {st st':St} {v:AV} {o:Option AV} (h:o.map (λv=>(v,st))=some (v,st')):Aw st st':=by
 cases o with
 |none=>cases h
 |some u=>injection h with h;injection h with h1 h2;subst h2;exact Aw.rfl'
theorem Su: ∀(l:List Operand) {st st1:St},Ji l st=some st1->Aw st st1
 | [],st,st1,h=>by
  simp only [Ji,Option.some.injEq] at h
  subst h
  exact Aw.rfl'
 |x::r,st,st1,h=>by
  simp only [Ji] at h
  cases hs:settle st (st.ev x) with
  |none=>rw [hs] at h;cases h
  |some p=>
   rw [hs] at h
   exact (Lz (v':=p.1) (st':=p.2) hs).trans (Su r h)
theorem gY {T:Tab} {Γ:Env} {st st':St} {o:Oper} {v:AV} (h:evalOp T Γ st o=some (v,st')):Aw st st':=by
 unfold evalOp at h
 split at h
 ·split at h
  ·split at h
   ·injection h with h;injection h with h1 h2;subst h2;exact He _ _ _
   ·cases h
  ·injection h with h;injection h with h1 h2;subst h2;exact Aw.rfl'
 ·split at h
  ·exact kS h
  ·cases h
 ·split at h
  ·split at h
   ·exact kS h
   ·cases h
  ·cases h
 ·rename_i t p x _
  cases hs:Jw T st t (st.ev p) (st.ev x) with
  |none=>rw [hs] at h;cases h
  |some s=>rw [hs] at h;injection h with h;injection h with h1 h2;subst h2;exact tE hs
 ·split at h
  ·exact wT h
  ·cases h
 ·split at h
  ·exact pR h
  ·cases h
 ·rename_i t m k x _
  cases hs:En T st t (st.ev m) (st.ev k) (st.ev x) with
  |none=>rw [hs] at h;cases h
  |some s=>rw [hs] at h;injection h with h;injection h with h1 h2;subst h2;exact iv hs
 ·rename_i t m k x _
  cases hs:En T st t (st.ev m) (st.ev k) (st.ev x) with
  |none=>rw [hs] at h;cases h
  |some s=>rw [hs] at h;injection h with h;injection h with h1 h2;subst h2;exact iv hs
 ·split at h
  ·exact ir h
  ·cases h
 ·exact Yt h
 ·split at h
  ·split at h
   ·exact pQ h
   ·cases h
  ·cases h
 ·split at h
  ·exact zE h
  ·cases h
 ·split at h
  ·rename_i x t _ _
   cases hs:evalClear T st t (st.ev x) with
   |none=>rw [hs] at h;cases h
   |some s=>rw [hs] at h;injection h with h;injection h with h1 h2;subst h2;exact wS hs
  ·cases h
 ·split at h
  ·exact wR h
  ·split at h
   ·rename_i args _ _ _ _ _ _
    cases hs:Ji args.toList st with
    |none=>rw [hs] at h;cases h
    |some st1=>
     rw [hs] at h
     exact (Su _ hs).trans (Yt h)
   ·exact Yt h
  ·exact Yt h
 ·exact Yt h
def Kr:List Oper->List Nat
 | []=> []
 |o::r=>(match o.dst with|some d=> [d]|none=> [])++Kr r
def writes:Code->List Nat
 | .region _ ops _=>Kr ops.toList
 | .seq a b=>writes a++writes b
 | .cond _ a b=>writes a++writes b
 | .block _ c=>writes c
 | .loop c=>writes c
 |_=> []
def Eu (P:Nat->Prop) (st st':St):Prop:= ∀(t:Nat) (fr:Bool) (τ:Ty) (x:τ.den),P t->st.get t= .at (.data fr τ x)->st'.get t= .at (.data fr τ x)
theorem Eu.trans {P:Nat->Prop} {a b c:St} (h1:Eu P a b) (h2:Eu P b c):Eu P a c:= λt fr τ x hp h=>h2 t fr τ x hp (h1 t fr τ x hp h)
theorem Eu.mono {P Q:Nat->Prop} {a b:St} (h1:Eu P a b) (h: ∀t,Q t->P t):Eu Q a b:= λt fr τ x hp hx=>h1 t fr τ x (h t hp) hx
theorem Aw.on {P:Nat->Prop} {a b:St} (h:Aw a b):Eu P a b:= λt fr τ x _ hx=>h t fr τ x hx
theorem Wp (st:St) (dst:Option Tmp) (v:AV):Eu (λt=>dst≠some t) st (st.put dst v):=by
 intro t fr τ x hp hx
 cases dst with
 |none=>exact hx
 |some d=>rw [Vb st v (λh=>hp (by rw [h]))];exact hx
theorem cb {T:Tab} {Γ:Env} {ops:Array Oper} {st st':St} {o:Oper} (h:Ch T Γ ops st o=some st'):Eu (λt=>o.dst≠some t) st st':=by
 have key: ∀s,(evalOp T Γ st o).map (λr=>r.2.put o.dst r.1)=some s->Eu (λt=>o.dst≠some t) st s:=by
  intro s hs
  cases he:evalOp T Γ st o with
  |none=>rw [he] at hs;cases hs
  |some p=>rw [he] at hs;injection hs with hs;subst hs;exact (gY (v:=p.1) (st':=p.2) he).on.trans (Wp _ _ _)
 unfold Ch at h
 split at h
 ·exact key _ h
 ·split at h
  ·split at h
   ·exact key _ h
   ·injection h with h;subst h;exact Wp _ _ _
  ·injection h with h;subst h;exact Wp _ _ _
  ·cases h
theorem eH {T:Tab} {Γ:Env} {ops:Array Oper} : ∀(l:List Oper) (st st':St),To T Γ ops l st=some st'->Eu (λt=>t∉Kr l) st st'
 | [],st,st',h=>by injection h with h;subst h;exact Aw.rfl'.on
 |o::r,st,st',h=>by
  simp only [To] at h
  split at h
  ·rename_i s hs
   refine Eu.trans ((cb hs).mono λt ht=>?_) ((eH r _ _ h).mono λt ht=>?_)
   ·intro hd;apply ht;simp [Kr,hd]
   ·intro hd;apply ht;simp [Kr,hd]
  ·cases h
theorem Xr: ∀(l:List Oper) (o:Oper) (d:Nat),o∈l->o.dst=some d->d∈Kr l
 | [],_,_,h,_=>by cases h
 |p::r,o,d,h,hd=>by
  cases h with
  |head=>simp [Kr,hd]
  |tail _ h=>simp only [Kr,List.mem_append];exact .inr (Xr r o d h hd)
theorem rV {ops:Array Oper} {i:Nat} {o:Oper} (h:ops[i]?=some o):o∈ops.toList:=by
 rw [Array.getElem?_eq_some_iff] at h
 obtain ⟨h1,h2⟩:=h
 rw [<-h2]
 simp
theorem Xm {T:Tab} {Γ:Env} {ops:Array Oper} : ∀(l:List Nat) (st st':St),Ix T Γ ops l st=some st'->Eu (λt=>t∉Kr ops.toList) st st'
 | [],st,st',h=>by injection h with h;subst h;exact Aw.rfl'.on
 |i::r,st,st',h=>by
  simp only [Ix] at h
  split at h
  ·cases h
  ·rename_i o ho
   split at h
   ·rename_i s hs
    exact ((cb hs).mono λt ht hd=>ht (Xr _ _ _ (rV ho) hd)).trans (Xm r _ _ h)
   ·cases h
theorem Ux {T:Tab} {Γ:Env} {ops:Array Oper} : ∀(l:List Nat) (st st':St),Dx T Γ ops l st=some st'->Eu (λt=>t∉Kr ops.toList) st st'
 | [],st,st',h=>by injection h with h;subst h;exact Aw.rfl'.on
 |i::r,st,st',h=>by
  simp only [Dx] at h
  split at h
  ·cases h
  ·rename_i o ho
   split at h
   ·exact ((Wp _ _ _).mono λt ht hd=>ht (Xr _ _ _ (rV ho) hd)).trans (Ux r _ _ h)
   ·cases h
theorem bg: ∀(l:List Nat) (st:St),Aw st (Yl l st)
 | [],_=>Aw.rfl'
 |a::r,st=>(iu st a).trans (bg r _)
theorem bX (live:List Nat): ∀(i:Nat) (l:List AV) (t:Nat),i+t∈live->(Fu live i l).getD t .undef=l.getD t .undef
 |_,[],_,_=>rfl
 |i,v::r,0,h=>by simp [Fu];intro hn;exact absurd h hn
 |i,v::r,t+1,h=>by
  simp only [Fu,List.getD_cons_succ]
  exact bX live (i+1) r t (by rw [show i+1+t=i+(t+1) by omega];exact h)
theorem tD (l k:Nat) (st:St):Aw st (st.rename l k):=by
 unfold St.rename
 split
 ·split
  ·exact (Jp st (Oc l k) rfl λ_ _ _=>rfl).trans (Aw.Rq rfl)
  ·exact Aw.rfl'
 ·exact Aw.rfl'
theorem Yv: ∀(n t:Nat) (st:St),Aw st (Hq n t st)
 |0,_,_=>Aw.rfl'
 |n+1,t,st=>by
  simp only [Hq]
  refine Aw.trans ?_ (Yv n (t+1) _)
  split
  ·split
   ·split
    ·exact Aw.rfl'
    ·exact tD _ _ _
   ·exact Aw.rfl'
  ·exact Aw.rfl'
theorem nK (t:Nat) (st:St):Aw st (Vm t st):=by
 unfold Vm
 split
 ·rename_i l off len hg
  split
  ·split
   ·intro k fr τ x hk
    have Ex:k≠t:= λe=>by subst e;rw [hg] at hk;cases hk
    rw [Vb _ _ Ex]
    exact He _ _ _ k fr τ x hk
   ·exact Aw.rfl'
  ·exact Aw.rfl'
 ·exact Aw.rfl'
theorem fW (c:Nat) (st:St):Aw st (Kd c st):=by
 unfold Kd
 split
 ·split
  ·split
   ·split
    ·split
     ·exact (He _ _ _).trans (Hp _ _ _)
     ·exact Aw.rfl'
    ·exact Aw.rfl'
   ·exact Aw.rfl'
  ·exact Aw.rfl'
 ·exact Aw.rfl'
theorem Wq (live:List Nat): ∀(n c:Nat) (st:St),Aw st (Jt live n c st)
 |0,_,_=>Aw.rfl'
 |n+1,c,st=>by
  simp only [Jt]
  refine Aw.trans ?_ (Wq live n (c+1) _)
  split
  ·exact fW _ _
  ·exact Aw.rfl'
theorem bj (live:List Nat): ∀(n t:Nat) (st:St),Aw st (Jh live n t st)
 |0,_,st=>Wq live 16 0 st
 |n+1,t,st=>by
  simp only [Jh]
  refine Aw.trans ?_ (bj live n (t+1) _)
  split
  ·exact nK _ _
  ·exact Aw.rfl'
theorem eR (live:List Nat) (st:St):Eu (λt=>t∈live) st (st.clean live):=by
 intro t fr τ x hp hx
 unfold St.clean
 have key: ∀s:St,s.get t= .at (.data fr τ x)->(if live.contains Ww then Hq s.tmps.length 0 s else s).get t= .at (.data fr τ x):=by
  intro s hs
  split
  ·exact Yv _ _ s t fr τ x hs
  ·exact hs
 have LJ: ∀s:St,s.get t= .at (.data fr τ x)->(if live.any (λt=>Nat.ble So t) then s.Ek live else s).get t= .at (.data fr τ x):=by
  intro s hs
  split<;>exact hs
 have LK: ∀s:St,s.get t= .at (.data fr τ x)->(if live.any (λt=>Nat.ble Lo t&&Nat.blt t Ww) then Jh live s.tmps.length 0 s else s).get t= .at (.data fr τ x):=by
  intro s hs
  split
  ·exact bj _ _ _ s t fr τ x hs
  ·exact hs
 refine LJ _ (key _ (LK _ (bg _ _ t fr τ x ?_)))
 simp only [St.get] at hx⊢
 rw [bX live 0 st.tmps t (by simpa using hp)]
 exact hx
def Vf (live:Nat->List Nat):Code->Nat->Bool
 | .seq a b,t=>Vf live a t&&Vf live b t
 | .cond _ a b,t=>Vf live a t&&Vf live b t
 | .block _ c,t=>Vf live c t
 | .loop c,t=>(live (Cd c)).contains t&&Vf live c t
 |_,_=>true
theorem jm {a b:Bool} (h:(a&&b)=true):a=true:=by cases a<;>simp_all
theorem fF {a b:Bool} (h:(a&&b)=true):b=true:=by cases a<;>simp_all
theorem ju {T:Tab} {Γ:Env} {ops:Array Oper} {draw:Bool} {st st':St} (h:Lg T Γ ops draw st=some st'):Eu (λt=>t∉writes (.region 0 ops draw)) st st':=by
 unfold Lg at h
 have go: ∀q,(match Dx T Γ ops (dF q Γ ops) st with
   |some s=>Ix T Γ ops (Ew q Γ ops) s
   |none=>none)=some st'->Eu (λt=>t∉writes (.region 0 ops draw)) st st':=by
  intro q h
  split at h
  ·rename_i s hs
   exact (Ux _ _ _ hs).trans (Xm _ _ _ h)
  ·cases h
 split at h
 ·split at h
  ·exact go false h
  ·split at h
   ·exact go true h
   ·cases h
 ·exact eH _ _ _ h
theorem mF {T:Tab} {Γ:Env} {ops:Array Oper} {draw:Bool} {K:St->Prop} (s0:St): ∀(f:Nat) (Ac:Array Bool) (st:St),Eu (λt=>t∉writes (.region 0 ops draw)) s0 st->anyS T Γ ops K f Ac st->anyS T Γ ops (λs=>K s/\Eu (λt=>t∉writes (.region 0 ops draw)) s0 s) f Ac st
 |0,_,_,hk,h=>⟨h.1,h.2,hk⟩
 |f+1,Ac,st,hk,h=>⟨h.1,λi hi=>by
  obtain ⟨o,st',h1,h2,h3⟩:=h.2 i hi
  have h4:Ix T Γ ops [i] st=some st':=by simp only [Ix,h1,h2]
  exact ⟨o,st',h1,h2,mF s0 f _ _ (hk.trans (Xm _ _ _ h4)) h3⟩⟩
theorem sC.keeps {T:Tab} {Γ:Env} {ops:Array Oper} {draw:Bool} {st:St} {K:St->Prop} (h:sC T Γ ops draw st K):sC T Γ ops draw st (λs=>K s/\Eu (λt=>t∉writes (.region 0 ops draw)) st s):=by
 rcases h with ⟨st',h1,h2⟩|⟨h1,h2,br,h3,h4⟩
 ·exact .inl ⟨st',h1,h2,ju h1⟩
 ·exact .inr ⟨h1,h2,br,h3,mF st _ _ _ (Ux _ _ _ h3) h4⟩
theorem eC (ops:Array Oper) {fr:Bool} {τ:Ty} {x:τ.den} : ∀(i:Nat) (l:List AV) (t:Nat),l.getD t .undef= .at (.data fr τ x)->(Jd ops i l).getD t .undef= .at (.data fr τ x)
 |_,[],_,h=>h
 |i,v::r,0,h=>by
  cases v with
  |Ht l=>cases h
  |_=>exact h
 |i,v::r,t+1,h=>by
  have h':=eC ops (i+1) r t h
  cases v<;>(simp only [Jd,List.getD_cons_succ];exact h')
theorem eS (ops:Array Oper) (st:St):Aw st (st.gQ ops):= λt _ _ _ hx=>eC ops 0 st.tmps t hx
theorem AZ {T:Tab} {Γ:Env} {live:Nat->List Nat} {c:Code} {st:St} {Q:Gr->St->Prop} (h:Iv T Γ live c st Q): ∀(s0:St) (p:Nat->Prop),Eu p s0 st->(∀t,p t->t∉writes c/\Vf live c t=true)->Iv T Γ live c st (λe s=>Q e s/\Eu p s0 s):=by
 induction h with
 |skip h=>exact λs0 p hk _=> .skip ⟨h,hk⟩
 |label h=>exact λs0 p hk _=> .label ⟨h,hk⟩
 |exit h=>exact λs0 p hk _=> .exit ⟨h,hk⟩
 |ret h=>exact λs0 p hk _=> .ret ⟨h,hk⟩
 |region h=>
  exact λs0 p hk hp=> .region (h.keeps.mono λs hs=>⟨hs.1,(hk.trans (eS _ _).on).trans (hs.2.mono λt ht=>(hp t ht).1)⟩)
 |seq Q1 _ _ h3 FP wN=>
  exact λs0 p hk hp=> .seq _ (FP s0 p hk λt ht=>⟨λhm=>(hp t ht).1 (by simp [writes,hm]),jm (hp t ht).2⟩)
   (λs hs=>wN s hs.1 s0 p hs.2 λt ht=>⟨λhm=>(hp t ht).1 (by simp [writes,hm]),fF (hp t ht).2⟩) λe s he hs=>⟨h3 e s he hs.1,hs.2⟩
 |cond hc _ _ FP wN=>
  exact λs0 p hk hp=> .cond hc (λht=>FP ht s0 p hk λt h=>⟨λhm=>(hp t h).1 (by simp [writes,hm]),jm (hp t h).2⟩)
   fun ht=>wN ht s0 p hk λt h=>⟨λhm=>(hp t h).1 (by simp [writes,hm]),fF (hp t h).2⟩
 |block Q1 _ h2 ih=>
  exact λs0 p hk hp=> .block _ (ih s0 p hk λt ht=>⟨λhm=>(hp t ht).1 (by simpa [writes] using hm),by simpa [Vf] using (hp t ht).2⟩) λe s hs=>by
   have h:=h2 e s hs.1
   cases e with
   |normal=>exact ⟨h,hs.2⟩
   |ret=>exact ⟨h,hs.2⟩
   |exit FO=>
    simp only [rG] at h⊢
    split at h
    ·rename_i hi;rw [if_pos hi];exact ⟨h,hs.2⟩
    ·rename_i hi;rw [if_neg hi];exact ⟨h,hs.2⟩
 |loop Q1 _ _ h3 FP wN=>
  intro s0 p hk hp
  refine .loop _ (FP s0 p (hk.trans ((eR _ _).mono λt ht=>by simpa using jm (hp t ht).2)) λt ht=>⟨λhm=>(hp t ht).1 (by simpa [writes] using hm),fF (hp t ht).2⟩)
   (λs hs=>wN s hs.1 s0 p hs.2 hp) λe s he hs=>⟨h3 e s he hs.1,hs.2⟩
end Go.Proofs.YtfolipnappekaaaGreat
